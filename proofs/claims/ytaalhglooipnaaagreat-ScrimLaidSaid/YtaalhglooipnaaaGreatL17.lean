/-
  The walk over the document's answer for flow: rows are placed.
  Words for the document's Flow: a list of lists that the call itself makes, beside its list of sizes.
  Plain mathematics of layer 14 (flow), second part: what the document's rows are like.
-/
import Derived.Test.YtaalhglooipnaaaGreatL15
import Derived.Test.YtaalhglooipnaaaGreatL14
namespace Go.Proofs.YtaalhglooipnaaaGreat.Fl
open Go.RowKit
attribute [local go_sem ↓] Go.wp_at_zero Go.wp_at_succ

/-- A list of numbers that lies below block B. -/
def Nums (w : World) (B : Nat) (A : Option Addr) (l : List Nat) : Prop :=
  ∀ i, i < l.length → ∃ b off, A = some ⟨b, off, none⟩ ∧ b < B ∧ w.cell? ⟨b, off + i, none⟩ = some (.int .i64 (l.getD i 0 : Nat))
/-- A list of such lists. -/
def RowsOf (w : World) (B : Nat) (A : Option Addr) (rows : List (List Nat)) : Prop :=
  ∀ j, j < rows.length → ∃ b off Aj cj, A = some ⟨b, off, none⟩ ∧ b < B ∧ w.cell? ⟨b, off + j, none⟩ = some (.slice Aj (rows.getD j []).length cj) ∧ Nums w B Aj (rows.getD j [])

theorem rpoint_info : (Tryz.prog.info? 162).map (fun i => (i.zero, i.size, i.bytes)) = some (some (.agg #[.int .i64 0, .int .i64 0]), 2, 16) := by kernel_rfl

/-- In the midst of place. -/
structure Pl (w wx : World) (W H : Int) (v : Value) (n : Nat) (out : List Value) : Prop where
  whole : Blk wx (w.heap.size + 1 + 1) 157 #[.int .i64 W, .int .i64 H]
  res : Blk wx w.heap.size 157 #[.int .i64 0, .int .i64 0]
  own : wx.ownsRow (w.heap.size + 1) 162 2 v n out
  below : Below w.heap.size w wx

theorem Pl.start (w : World) : Pl w (((w.alloc (.cells #[.int .i64 0, .int .i64 0] 157)).alloc (.cells #[] 162)).alloc (.cells #[.int .i64 0, .int .i64 0] 157)) 0 0
    (.slice (some ⟨w.heap.size + 1, 0, none⟩) 0 0) 0 [] := by
  have h1 := Blk.new ((w.alloc (.cells #[.int .i64 0, .int .i64 0] 157)).alloc (.cells #[] 162)) 157 #[.int .i64 0, .int .i64 0]
  rw [World.size_alloc, World.size_alloc] at h1
  have h2 := World.ownsRow_made (base := w.heap.size + 1) (e := 162) (size := 2) (w.alloc (.cells #[.int .i64 0, .int .i64 0] 157)) #[] 0 (by simp) (Nat.zero_le _) rfl
  rw [World.size_alloc] at h2
  exact ⟨h1, ((Blk.new _ _ _).alloc _).alloc _, h2.alloc _, (((Below.refl _ _).alloc (Nat.le_refl _) _).alloc (by simp) _).alloc (by simp; omega) _⟩

section
variable {w wx wz : World} {W H : Int} {v v' : Value} {n : Nat} {out : List Value}
theorem Pl.size (r : Pl w wx W H v n out) : w.heap.size + 1 + 1 < wx.heap.size := r.whole.lt
theorem Pl.cells (r : Pl w wx W H v n out) : wx.cell? ⟨w.heap.size + 1 + 1, 0, none⟩ = some (.int .i64 W) ∧ wx.cell? ⟨w.heap.size + 1 + 1, 1, none⟩ = some (.int .i64 H) ∧ wx.frozen? ⟨w.heap.size + 1 + 1, 0, none⟩ = false ∧ wx.frozen? ⟨w.heap.size + 1 + 1, 1, none⟩ = false ∧
    wx.cell? ⟨w.heap.size, 0, none⟩ = some (.int .i64 0) ∧ wx.cell? ⟨w.heap.size, 1, none⟩ = some (.int .i64 0) ∧ wx.frozen? ⟨w.heap.size, 0, none⟩ = false ∧ wx.frozen? ⟨w.heap.size, 1, none⟩ = false :=
  ⟨r.whole.cell 0, r.whole.cell 1, r.whole.frozen 0, r.whole.frozen 1, r.res.cell 0, r.res.cell 1, r.res.frozen 0, r.res.frozen 1⟩
theorem Pl.app (r : Pl w wx W H v n out) {p q : Int} (o : Obj) (hown : wz.ownsRow (w.heap.size + 1) 162 2 v' (n + 1) (out ++ [.int .i64 p, .int .i64 q])) (hg : (wx.alloc o).grownBy wz v.ownBlock) :
    Pl w wz W H v' (n + 1) (out ++ [.int .i64 p, .int .i64 q]) := by
  have hs := r.size
  have ho := r.own.alloc o
  exact ⟨(r.whole.alloc o).grown hg (fun e => own_blk_ne ho (r.whole.alloc o) (by decide) e.symm), (r.res.alloc o).grown hg (fun e => own_blk_ne ho (r.res.alloc o) (by decide) e.symm), hown,
    (r.below.alloc (by omega) o).grown hg (by simp; omega) (fun k hk => by have := (ho.lt k hk).1; omega)⟩
theorem Pl.setW (r : Pl w wx W H v n out) (a : Int) : Pl w (wx.setCell ⟨w.heap.size + 1 + 1, 0, none⟩ (.int .i64 a)) a H v n out := by
  exact ⟨r.whole.set_ 0 (.int .i64 a), r.res.far (p := ⟨w.heap.size + 1 + 1, 0, none⟩) (by simp; omega) _, r.own.kept (row := some (w.heap.size + 1 + 1)) (only_set (World.grownBy.refl wx _) 0 _) (.inr (own_blk_ne r.own r.whole (by decide))), r.below.setCell (by simp; omega) _⟩
theorem Pl.setH (r : Pl w wx W H v n out) (a : Int) : Pl w (wx.setCell ⟨w.heap.size + 1 + 1, 1, none⟩ (.int .i64 a)) W a v n out := by
  exact ⟨r.whole.set_ 1 (.int .i64 a), r.res.far (p := ⟨w.heap.size + 1 + 1, 1, none⟩) (by simp; omega) _, r.own.kept (row := some (w.heap.size + 1 + 1)) (only_set (World.grownBy.refl wx _) 1 _) (.inr (own_blk_ne r.own r.whole (by decide))), r.below.setCell (by simp; omega) _⟩
theorem Pl.drew (r : Pl w wx W H v n out) : Pl w wx.drew W H v n out := ⟨r.whole, r.res, r.own, r.below.drew⟩
theorem Pl.done (r : Pl w wx W H v n out) (a b : Value) : ((wx.setCell ⟨w.heap.size, 0, none⟩ a).setCell ⟨w.heap.size, 1, none⟩ b).ownsRow w.heap.size 162 2 v n out ∧ Below w.heap.size w ((wx.setCell ⟨w.heap.size, 0, none⟩ a).setCell ⟨w.heap.size, 1, none⟩ b) := by
  have h := r.own.kept (row := some w.heap.size) (only_set (only_set (World.grownBy.refl wx _) 0 a) 1 b) (.inr (own_blk_ne r.own r.res (by decide)))
  refine ⟨⟨h.1, ?_⟩, (r.below.setCell (Nat.le_refl _) a).setCell (Nat.le_refl _) b⟩
  rcases h.2 with h0 | ⟨g, cap, cur, hv, hg, rest⟩
  · exact .inl h0
  · exact .inr ⟨g, cap, cur, hv, by omega, rest⟩
end

/-- What place leaves. -/
def PlacePost (w : World) (s : P14.St) (H : Int) (e : Ending) (w' : World) : Prop :=
  ∃ A c, e = .returned (.tuple #[.slice A s.out.length c, .agg #[.int .i64 s.W, .int .i64 H]]) ∧ w'.ownsRow w.heap.size 162 2 (.slice A s.out.length c) s.out.length (flat2 s.out) ∧ Below w.heap.size w w'

set_option maxRecDepth 100000 in
set_option maxHeartbeats 8000000 in
theorem place_any (A : Option Addr) (c : Nat) (rows : List (List Nat)) (L : Option Addr) (N cL : Nat) (zs : List (Int × Int)) (g : Int) (w : World)
    (hr : RowsOf w w.heap.size A rows) (hz : Pairs w w.heap.size L N zs) (hin : ∀ j i, i < (rows.getD j []).length → (rows.getD j []).getD i 0 < N) (hlen : rows.length ≤ 40) (hrow : ∀ j, (rows.getD j []).length ≤ 40) :
    Calls Tryz.prog 116 #[.slice A rows.length c, .slice L N cL, .int .i64 g] w (PlacePost w (P14.placed g (fun i => zs.getD i (0, 0)) rows rows.length) (P14.high g (fun i => zs.getD i (0, 0)) rows rows.length)) := by
  obtain ⟨i0, hi, hz0, hz1, hz2⟩ := info_parts rpoint_info
  obtain ⟨B, hB⟩ : ∃ B : Nat → Int × Int, B = fun i => zs.getD i (0, 0) := ⟨_, rfl⟩
  rw [← hB]
  obtain ⟨R, hR⟩ : ∃ R, R = rows.length := ⟨_, rfl⟩
  rw [← hR] at hlen ⊢
  have HYP := Lib.hid (And.intro hr (And.intro hz (And.intro hin (And.intro hrow (And.intro hB hR)))))
  clear hr hz hin hrow hB hR
  go_enter Tryz.func116, Tryz.ntmps116
  go_wp2_with fail
  go_loopw [8, 10, 21] (fun v y i wr => ∃ (k : Nat) (yv : Int), k ≤ R ∧ i = .int .i64 k ∧ y = .int .i64 yv ∧ Hid (k < R → yv = (P14.begun g B rows k).y) ∧
      Pl w wr (P14.placed g B rows k).W (P14.high g B rows k) v (P14.placed g B rows k).out.length (flat2 (P14.placed g B rows k).out)) (fun _ _ i _ => R - (intOf i).toNat)
  case atStart => exact ⟨0, 0, Nat.zero_le _, rfl, rfl, fun _ => rfl, Pl.start w⟩
  case round =>
    obtain ⟨k, yv, hk, rfl, rfl, hy, hp⟩ := hrel
    obtain ⟨wo, rfl⟩ : ∃ wo : World, wo = wr := ⟨_, rfl⟩
    by_cases hlt : k < R
    · obtain ⟨hr, hz, hin, hrow, hB, hR⟩ := HYP.out
      obtain ⟨b, off, Aj, cj, rfl, hbB, hcj, hnum⟩ := hr k (by omega)
      have e0 := (hp.below.cell (p := ⟨b, off + k, none⟩) hbB).trans hcj
      obtain ⟨row, hrw⟩ : ∃ row, row = rows.getD k [] := ⟨_, rfl⟩
      rw [← hrw] at e0 hnum
      have hl40 : row.length ≤ 40 := by rw [hrw]; exact hrow k
      have ho40 : (P14.placed g B rows k).out.length ≤ 1600 := by have := P14.placed_len g B rows hrow k; omega
      have hout := P14.begun_out g B rows k
      have Y := Lib.hid (hy.out hlt)
      have HN := Lib.hid (And.intro hnum hrw)
      have HP := Lib.hid hp
      have HO := Lib.hid hout
      clear hr hz hin hrow hB hR hcj hnum hrw hp hout hy
      go_wp2_with fail
      go_loopw [8, 13, 14, 28] (fun v x h i wr => ∃ (m : Nat) (s : P14.St), m ≤ row.length ∧ i = .int .i64 m ∧ x = .int .i64 s.x ∧ h = .int .i64 s.h ∧ Hid (s = (row.take m).foldl (fun s i => s.put g (B i)) (P14.begun g B rows k)) ∧
          Pl w wr s.W (P14.high g B rows k) v s.out.length (flat2 s.out)) (fun _ _ _ i _ => row.length - (intOf i).toNat)
      case atStart =>
        refine ⟨0, P14.begun g B rows k, Nat.zero_le _, rfl, by rw [HO.out.2.2.1], by rw [HO.out.2.2.2], rfl, ?_⟩
        rw [HO.out.1, HO.out.2.1]
        exact HP.out
      case round =>
        obtain ⟨m, s, hm, rfl, rfl, rfl, hs, hp⟩ := hrel
        by_cases hlm : m < row.length
        · obtain ⟨hnum, hrw⟩ := HN.out
          obtain ⟨hr, hz, hin, hrow, hB, hR⟩ := HYP.out
          obtain ⟨b2, off2, rfl, hb2, hc2⟩ := hnum m hlm
          have e2 := (hp.below.cell (p := ⟨b2, off2 + m, none⟩) hb2).trans hc2
          obtain ⟨q, hq⟩ : ∃ q, q = row.getD m 0 := ⟨_, rfl⟩
          rw [← hq] at e2
          have hqN : q < N := by rw [hq, hrw]; exact hin k m (by rw [← hrw]; exact hlm)
          obtain ⟨b3, off3, rfl, hb3, hc3, hc4⟩ := hz.2 q hqN
          obtain ⟨za, zb, hzab⟩ : ∃ za zb, zs.getD q (0, 0) = (za, zb) := ⟨_, _, rfl⟩
          rw [hzab] at hc3 hc4
          have hS : (row.take (m + 1)).foldl (fun s i => s.put g (B i)) (P14.begun g B rows k) = s.put g (za, zb) := by
            rw [take_snoc row 0 m hlm, List.foldl_append, ← hs.out, List.foldl_cons, List.foldl_nil, ← hq, hB]
            show s.put g (zs.getD q (0, 0)) = _
            rw [hzab]
          have hyy : yv = s.y := by rw [Y.out, hs.out, P14.fold_y]
          have hso : s.out.length ≤ 1700 := by
            rw [hs.out, P14.fold_len, HO.out.1, List.length_take]
            omega
          have HS := Lib.hid (And.intro hS hyy)
          have H3 := Lib.hid (And.intro hb3 (And.intro hc3 hc4))
          have hq0 : (0 : Int) ≤ (q : Int) := by omega
          have hqi : (q : Int) < (N : Int) := by omega
          have hsz := hp.size
          have HP1 := Lib.hid hp
          clear hnum hrw hr hz hin hrow hB hR hc2 hq hqN hc3 hc4 hzab hS hyy hp e0
          go_upto_region 13 with (first
            | (at_builtin; refine wpList_append_lies _ rfl _ _ _ rfl (w.heap.size + 1) 162 i0 _ 2 16 Tryz.underlying158 hi hz0 hz1 hz2 rfl (by decide) _ s.out.length (flat2 s.out) rfl (HP1.out.own.alloc _) _ 1 1 [.int .i64 s.x, .int .i64 yv] rfl rfl (World.news_of_block (heap_alloc_new _ _)) (by intro u hu; simp at hu; rcases hu with rfl | rfl <;> rfl) (by omega) (by unfold maxLen; omega) (by omega) (by simp; omega) _ rfl ?_; intro g2 cap2 w2 hown2 hg2 hat2 hlt2))
          have hp2 := HP1.out.app _ hown2 hg2
          obtain ⟨d0, d1, d2, d3, d4, d5, d6, d7⟩ := hp2.cells
          have e3 := (hp2.below.cell (p := ⟨b3, off3 + q * 2, none⟩) hb3).trans H3.out.2.1
          have e4 := (hp2.below.cell (p := ⟨b3, off3 + q * 2 + 1, none⟩) hb3).trans H3.out.2.2
          have HP2 := Lib.hid hp2
          clear hp2 hown2 hg2 hat2 hlt2
          go_cut [] (fun wx => Pl w wx (max s.W (P1.add s.x za)) (P14.high g B rows k) (.slice (some ⟨g2, 0, none⟩) (s.out.length + 1) cap2) (s.out.length + 1) (flat2 s.out ++ [.int .i64 s.x, .int .i64 yv]))
          case first =>
            go_region_with (first | (go_at_call 74; ((with_reducible refine (radd_any _ _ _).mono ?_); rintro e w' ⟨rfl, rfl⟩)))
            all_goals (go_wp2_with fail; go_meet; exact (HP2.out.setW _).drew)
          case rest =>
            have hp3 := hcut
            clear hcut e3 e4 d0 d1 d2 d3 d4 d5 d6 d7
            have e3 := (hp3.below.cell (p := ⟨b3, off3 + q * 2, none⟩) hb3).trans H3.out.2.1
            have e4 := (hp3.below.cell (p := ⟨b3, off3 + q * 2 + 1, none⟩) hb3).trans H3.out.2.2
            have HP3 := Lib.hid hp3
            clear hp3
            go_wp2_with (first | (go_at_call 74; ((with_reducible refine (radd_any _ _ _).mono ?_); rintro e w' ⟨rfl, rfl⟩)))
            go_roundw
            case rel =>
              refine ⟨m + 1, s.put g (za, zb), by omega, by go_num, ?_, rfl, Lib.hid HS.out.1.symm, ?_⟩
              · rw [P14.St.put, P14.sum3_eq]
              · have h := HP3.out
                rw [HS.out.2, ← flat2_snoc s.out (s.x, s.y)] at h
                have e : (s.put g (za, zb)).out.length = s.out.length + 1 := by simp [P14.St.put]
                rw [e]
                exact h
            case measure => simp [intOf]; omega
        · have hT : P14.placed g B rows (k + 1) = s := by
            rw [P14.placed_begun, ← HN.out.2, hs.out, List.take_of_length_le (by omega)]
          have hyy : yv = s.y := by rw [Y.out, hs.out, P14.fold_y]
          have hH : P14.high g B rows (k + 1) = P1.add s.y s.h := by
            rw [P14.high, if_neg (by omega), hT]
          have hb : (P14.begun g B rows (k + 1)).y = P1.add (P1.add s.y s.h) g := by
            rw [P14.begun, if_neg (by omega), hT, P14.St.row, P14.sum3_eq]
          have HT := Lib.hid (And.intro hT (And.intro hyy (And.intro hH hb)))
          obtain ⟨d0, d1, d2, d3, d4, d5, d6, d7⟩ := hp.cells
          have HP1 := Lib.hid hp
          clear hT hyy hH hb hp e0
          by_cases hk1 : k + 1 < R
          · go_wp2_with (first | (go_at_call 74; ((with_reducible refine (radd_any _ _ _).mono ?_); rintro e w' ⟨rfl, rfl⟩)))
            go_roundw
            case rel =>
              refine ⟨k + 1, P1.add (P1.add yv s.h) g, by omega, by go_num, rfl, fun _ => ?_, ?_⟩
              · rw [HT.out.2.2.2, HT.out.2.1]
              · rw [HT.out.2.2.1, HT.out.1, ← HT.out.2.1]
                exact HP1.out.setH _
            case measure => simp [intOf]; omega
          · go_wp2_with (first | (go_at_call 74; ((with_reducible refine (radd_any _ _ _).mono ?_); rintro e w' ⟨rfl, rfl⟩)))
            go_roundw
            case rel =>
              refine ⟨k + 1, yv, by omega, by go_num, rfl, fun h => absurd h hk1, ?_⟩
              rw [HT.out.2.2.1, HT.out.1, ← HT.out.2.1]
              exact HP1.out.setH _
            case measure => simp [intOf]; omega
    · obtain rfl : k = R := by omega
      obtain ⟨d0, d1, d2, d3, d4, d5, d6, d7⟩ := hp.cells
      have hsz := hp.size
      have HP1 := Lib.hid hp
      clear hp
      go_wp2_with fail
      go_region
      all_goals go_wp2
      all_goals (
        obtain ⟨AO, cO, hv⟩ := own_form HP1.out.own
        have HV := Lib.hid hv
        clear hv
        refine bodyPost_ret (v := .tuple #[u8, .agg #[.int .i64 (P14.placed g B rows k).W, .int .i64 (P14.high g B rows k)]]) (by simp [results, Tryz.results116, go_sem, d4, d5]) rfl ⟨AO, cO, ?_, ?_, ?_⟩
        · rw [HV.out]
        · rw [← HV.out]; exact (HP1.out.done _ _).1
        · exact (HP1.out.drew.done _ _).2)

end Go.Proofs.YtaalhglooipnaaaGreat.Fl
namespace Go.Proofs.YtaalhglooipnaaaGreat.Fl
open Go.RowKit

def nums (l : List Nat) : List Value := l.map fun i => .int .i64 (i : Nat)

theorem own_own_ne {w : World} {b1 b2 : Nat} {e1 e2 : TypeId} {s1 s2 n1 n2 : Nat} {v1 v2 : Value} {x1 x2 : List Value} (h1 : w.ownsRow b1 e1 s1 v1 n1 x1) (h2 : w.ownsRow b2 e2 s2 v2 n2 x2) (hne : e1 ≠ e2) : v1.ownBlock = none ∨ v1.ownBlock ≠ v2.ownBlock := by
  rcases h2.2 with ⟨rfl, _⟩ | ⟨g, cap, cur, rfl, _, hh, _⟩
  · cases hv : v1.ownBlock
    · exact .inl rfl
    · right; simp [Value.ownBlock]
  · exact .inr (own_blk_ne (g := g) h1 hh hne)

/-- A family of lists that the call itself made. -/
structure Fam (wx : World) (base : Nat) (vs : List Value) (rows : List (List Nat)) : Prop where
  len : vs.length = rows.length
  each : ∀ (j : Nat) (v : Value), vs[j]? = some v → wx.ownsRow base 3 1 v (rows.getD j []).length (nums (rows.getD j []))
  apart : ∀ (i j : Nat) (u v : Value), vs[i]? = some u → vs[j]? = some v → i ≠ j → u.ownBlock = none ∨ u.ownBlock ≠ v.ownBlock

section
variable {wx wy : World} {base : Nat} {vs : List Value} {rows : List (List Nat)}
theorem Fam.nil (wx : World) (base : Nat) : Fam wx base [] [] := ⟨rfl, fun j v h => by simp at h, fun i j u v h => by simp at h⟩
theorem Fam.kept {row : Option Nat} (f : Fam wx base vs rows) (hg : wx.grownBy wy row) (hne : ∀ (j : Nat) (v : Value), vs[j]? = some v → v.ownBlock = none ∨ v.ownBlock ≠ row) : Fam wy base vs rows :=
  ⟨f.len, fun j v h => (f.each j v h).kept hg (hne j v h), f.apart⟩
theorem Fam.keep (f : Fam wx base vs rows) (hb : Below wx.heap.size wx wy) : Fam wy base vs rows :=
  f.kept (only_of_below hb none) fun _ _ _ => by simp [Classical.em]
theorem Fam.far {s : Nat} {t : TypeId} {cs : Array Value} (f : Fam wx base vs rows) (hs : Blk wx s t cs) (ht : 3 ≠ t) (hg : wx.grownBy wy (some s)) : Fam wy base vs rows :=
  f.kept hg fun j v h => .inr (own_blk_ne (f.each j v h) hs ht)
theorem Fam.other {b2 : Nat} {e : TypeId} {sz n : Nat} {u : Value} {xs : List Value} (f : Fam wx base vs rows) (hu : wx.ownsRow b2 e sz u n xs) (he : 3 ≠ e) (hg : wx.grownBy wy u.ownBlock) : Fam wy base vs rows :=
  f.kept hg fun j v h => own_own_ne (f.each j v h) hu he
theorem Fam.push {u : Value} (f : Fam wx base vs rows) (hu : wx.ownsRow base 3 1 u 0 []) (hn : ∀ (j : Nat) (v : Value), vs[j]? = some v → (v.ownBlock = none ∨ v.ownBlock ≠ u.ownBlock) ∧ (u.ownBlock = none ∨ u.ownBlock ≠ v.ownBlock)) :
    Fam wx base (vs ++ [u]) (rows ++ [[]]) := by
  have hl := f.len
  refine ⟨by simp [hl], fun j v h => ?_, fun i j a b ha hb hij => ?_⟩
  · by_cases hj : j < vs.length
    · rw [List.getElem?_append_left hj] at h
      have := f.each j v h
      have e : (rows ++ [[]]).getD j [] = rows.getD j [] := by simp [List.getD, List.getElem?_append_left (show j < rows.length by omega)]
      rw [e]; exact this
    · have hj' : j = vs.length := by
        have := (List.getElem?_eq_some_iff.1 h).1
        simp at this; omega
      subst hj'
      simp at h
      subst h
      have e : (rows ++ [[]]).getD vs.length [] = [] := by rw [hl]; simp [List.getD]
      rw [e]; exact hu
  · by_cases hi : i < vs.length
    · rw [List.getElem?_append_left hi] at ha
      by_cases hj : j < vs.length
      · rw [List.getElem?_append_left hj] at hb
        exact f.apart i j a b ha hb hij
      · have hj' : j = vs.length := by
          have := (List.getElem?_eq_some_iff.1 hb).1
          simp at this; omega
        subst hj'
        simp at hb
        subst hb
        exact (hn i a ha).1
    · have hi' : i = vs.length := by
        have := (List.getElem?_eq_some_iff.1 ha).1
        simp at this; omega
      subst hi'
      simp at ha
      subst ha
      have hj : j < vs.length := by
        have := (List.getElem?_eq_some_iff.1 hb).1
        simp at this; omega
      rw [List.getElem?_append_left hj] at hb
      exact (hn j b hb).2
/-- The last list has grown. -/
theorem Fam.last {u u' : Value} {l : List Nat} {i : Nat} {vs0 : List Value} {rows0 : List (List Nat)} (f : Fam wx base (vs0 ++ [u]) (rows0 ++ [l])) (hg : wx.grownBy wy u.ownBlock)
    (hu : wy.ownsRow base 3 1 u' (l.length + 1) (nums l ++ [.int .i64 (i : Nat)])) (hat : u'.ownBlock = u.ownBlock ∨ ∀ b, u'.ownBlock = some b → wx.heap.size ≤ b) : Fam wy base (vs0 ++ [u']) (rows0 ++ [l ++ [i]]) := by
  have hl : vs0.length = rows0.length := by have := f.len; simp at this; exact this
  have hlast : (vs0 ++ [u])[vs0.length]? = some u := by simp
  have old : ∀ (j : Nat) (v : Value), vs0[j]? = some v → v.ownBlock = none ∨ v.ownBlock ≠ u.ownBlock := fun j v h =>
    f.apart j vs0.length v u (by rw [List.getElem?_append_left (List.getElem?_eq_some_iff.1 h).1]; exact h) hlast (by have := (List.getElem?_eq_some_iff.1 h).1; omega)
  have old' : ∀ (j : Nat) (v : Value), vs0[j]? = some v → u.ownBlock = none ∨ u.ownBlock ≠ v.ownBlock := fun j v h =>
    f.apart vs0.length j u v hlast (by rw [List.getElem?_append_left (List.getElem?_eq_some_iff.1 h).1]; exact h) (by have := (List.getElem?_eq_some_iff.1 h).1; omega)
  have oldown : ∀ (j : Nat) (v : Value), vs0[j]? = some v → wx.ownsRow base 3 1 v (rows0.getD j []).length (nums (rows0.getD j [])) := fun j v h => by
    have hj := (List.getElem?_eq_some_iff.1 h).1
    have := f.each j v (by rw [List.getElem?_append_left hj]; exact h)
    have e : (rows0 ++ [l]).getD j [] = rows0.getD j [] := by simp [List.getD, List.getElem?_append_left (show j < rows0.length by omega)]
    rwa [e] at this
  have far : ∀ (j : Nat) (v : Value), vs0[j]? = some v → (v.ownBlock = none ∨ v.ownBlock ≠ u'.ownBlock) ∧ (u'.ownBlock = none ∨ u'.ownBlock ≠ v.ownBlock) := fun j v h => by
    rcases hat with hat | hat
    · rw [hat]; exact ⟨old j v h, old' j v h⟩
    · have hlt := (oldown j v h).lt
      constructor
      · cases hv : v.ownBlock with
        | none => exact .inl rfl
        | some b => exact .inr fun e => by have := hat b e.symm; have := (hlt b hv).2; omega
      · cases hv : u'.ownBlock with
        | none => exact .inl rfl
        | some b => exact .inr fun e => by have := hat b hv; have := (hlt b e.symm).2; omega
  refine ⟨by simp [hl], fun j v h => ?_, fun i2 j a b ha hb hij => ?_⟩
  · by_cases hj : j < vs0.length
    · rw [List.getElem?_append_left hj] at h
      have e : (rows0 ++ [l ++ [i]]).getD j [] = rows0.getD j [] := by simp [List.getD, List.getElem?_append_left (show j < rows0.length by omega)]
      rw [e]
      exact (oldown j v h).kept hg (old j v h)
    · have hj' : j = vs0.length := by
        have := (List.getElem?_eq_some_iff.1 h).1
        simp at this; omega
      subst hj'
      simp at h
      subst h
      have e : (rows0 ++ [l ++ [i]]).getD vs0.length [] = l ++ [i] := by rw [hl]; simp [List.getD]
      rw [e]
      simpa [nums] using hu
  · by_cases hi : i2 < vs0.length
    · rw [List.getElem?_append_left hi] at ha
      by_cases hj : j < vs0.length
      · rw [List.getElem?_append_left hj] at hb
        exact f.apart i2 j a b (by rw [List.getElem?_append_left hi]; exact ha) (by rw [List.getElem?_append_left hj]; exact hb) hij
      · have hj' : j = vs0.length := by
          have := (List.getElem?_eq_some_iff.1 hb).1
          simp at this; omega
        subst hj'
        simp at hb
        subst hb
        exact (far i2 a ha).1
    · have hi' : i2 = vs0.length := by
        have := (List.getElem?_eq_some_iff.1 ha).1
        simp at this; omega
      subst hi'
      simp at ha
      subst ha
      have hj : j < vs0.length := by
        have := (List.getElem?_eq_some_iff.1 hb).1
        simp at this; omega
      rw [List.getElem?_append_left hj] at hb
      exact (far j b hb).2
end

/-- In the midst of Flow. -/
structure Fl (w wx : World) (v : Value) (m : Nat) (sz : List Value) (u : Value) (vs : List Value) (rows : List (List Nat)) : Prop where
  res : Blk wx w.heap.size 157 #[.int .i64 0, .int .i64 0]
  sizes : wx.ownsRow (w.heap.size + 1) 157 2 v m sz
  rws : wx.ownsRow (w.heap.size + 1) 71 1 u rows.length vs
  fam : Fam wx (w.heap.size + 1) vs rows
  below : Below w.heap.size w wx

section
variable {w wx wy wz : World} {v v' : Value} {m : Nat} {sz : List Value} {u u' : Value} {vs : List Value} {rows : List (List Nat)}
theorem Fl.size (f : Fl w wx v m sz u vs rows) : w.heap.size < wx.heap.size := f.res.lt
theorem Fl.keep (f : Fl w wx v m sz u vs rows) (hb : Below wx.heap.size wx wy) : Fl w wy v m sz u vs rows :=
  ⟨f.res.below hb f.res.lt, f.sizes.kept (only_of_below hb none) (by simp [Classical.em]), f.rws.kept (only_of_below hb none) (by simp [Classical.em]), f.fam.keep hb, f.below.trans (hb.mono (Nat.le_of_lt f.size))⟩
theorem Fl.alloc (f : Fl w wx v m sz u vs rows) (o : Obj) : Fl w (wx.alloc o) v m sz u vs rows := f.keep ((Below.refl _ _).alloc (Nat.le_refl _) o)
theorem Fl.drew (f : Fl w wx v m sz u vs rows) : Fl w wx.drew v m sz u vs rows := ⟨f.res, f.sizes, f.rws, ⟨f.fam.len, f.fam.each, f.fam.apart⟩, f.below.drew⟩
/-- A store into a box. -/
theorem Fl.set_ {s : Nat} {cs : Array Value} (f : Fl w wx v m sz u vs rows) (hs : Blk wx s 157 cs) (hlt : w.heap.size < s) (hv : v.ownBlock ≠ some s) (i : Nat) (a : Value) : Fl w (wx.setCell ⟨s, i, none⟩ a) v m sz u vs rows :=
  have hg : wx.grownBy (wx.setCell ⟨s, i, none⟩ a) (some s) := only_set (World.grownBy.refl wx _) i a
  ⟨f.res.far (p := ⟨s, i, none⟩) (Nat.ne_of_lt hlt) a, f.sizes.kept hg (.inr hv), f.rws.kept hg (.inr (own_blk_ne f.rws hs (by decide))), f.fam.far hs (by decide) hg, f.below.setCell (Nat.le_of_lt hlt) a⟩
/-- One size more. -/
theorem Fl.sized {a b : Int} (f : Fl w wx v m sz u vs rows) (o : Obj) (hown : wz.ownsRow (w.heap.size + 1) 157 2 v' (m + 1) (sz ++ [.int .i64 a, .int .i64 b])) (hg : (wx.alloc o).grownBy wz v.ownBlock) :
    Fl w wz v' (m + 1) (sz ++ [.int .i64 a, .int .i64 b]) u vs rows := by
  have f1 := f.alloc o
  have hs := f1.size
  refine ⟨f1.res.grown hg (fun e => ?_), hown, f1.rws.kept hg (own_own_ne f1.rws f1.sizes (by decide)), f1.fam.other f1.sizes (by decide) hg, f1.below.grown hg (Nat.le_of_lt hs) (fun k hk => ?_)⟩
  · have := (f1.sizes.lt _ e.symm).1; omega
  · have := (f1.sizes.lt k hk).1; omega
/-- A new row begins. -/
theorem Fl.newrow (f : Fl w wx v m sz u vs rows) (o : Obj) (hown : wz.ownsRow (w.heap.size + 1) 71 1 u' (rows.length + 1) (vs ++ [.slice (some ⟨wx.heap.size, 0, none⟩) 0 0]))
    (hg : ((wx.alloc (.cells #[] 3)).alloc o).grownBy wz u.ownBlock) : Fl w wz v m sz u' (vs ++ [.slice (some ⟨wx.heap.size, 0, none⟩) 0 0]) (rows ++ [[]]) := by
  have f1 := (f.alloc (.cells #[] 3)).alloc o
  have hs := f.size
  have hnew : ((wx.alloc (.cells #[] 3)).alloc o).ownsRow (w.heap.size + 1) 3 1 (.slice (some ⟨wx.heap.size, 0, none⟩) 0 0) 0 [] := (World.ownsRow_made wx #[] 0 (by omega) (Nat.zero_le _) rfl).alloc o
  have hf : Fam ((wx.alloc (.cells #[] 3)).alloc o) (w.heap.size + 1) (vs ++ [.slice (some ⟨wx.heap.size, 0, none⟩) 0 0]) (rows ++ [[]]) := by
    refine f1.fam.push hnew fun j x hx => ?_
    have hlt := (f.fam.each j x hx).lt
    constructor
    · cases hb : x.ownBlock with
      | none => exact .inl rfl
      | some b =>
        right
        intro e
        have h1 := (hlt b hb).2
        have h2 : b = wx.heap.size := by simpa [Value.ownBlock] using e
        omega
    · right
      intro e
      have h1 := (hlt wx.heap.size e.symm).2
      omega
  refine ⟨f1.res.grown hg (fun e => own_blk_ne f1.rws f1.res (by decide) e.symm), f1.sizes.kept hg (own_own_ne f1.sizes f1.rws (by decide)), by simpa using hown, hf.other f1.rws (by decide) hg, f1.below.grown hg (Nat.le_of_lt f1.size) (fun k hk => ?_)⟩
  have := (f1.rws.lt k hk).1; omega
/-- The last row has grown by a number. -/
theorem Fl.grown {g c : Nat} {x x' : Value} {l : List Nat} {i : Nat} {vs0 : List Value} {rows0 : List (List Nat)} (f : Fl w wx v m sz (.slice (some ⟨g, 0, none⟩) (rows0.length + 1) c) (vs0 ++ [x]) (rows0 ++ [l])) (o : Obj)
    (hown : wz.ownsRow (w.heap.size + 1) 3 1 x' (l.length + 1) (nums l ++ [.int .i64 (i : Nat)])) (hg : (wx.alloc o).grownBy wz x.ownBlock) (hat : x'.ownBlock = x.ownBlock ∨ x'.ownBlock = some (wx.alloc o).heap.size) :
    wz.cell? ⟨g, rows0.length, none⟩ = some x ∧ wz.frozen? ⟨g, rows0.length, none⟩ = false ∧
    Fl w (wz.setCell ⟨g, rows0.length, none⟩ x') v m sz (.slice (some ⟨g, 0, none⟩) (rows0.length + 1) c) (vs0 ++ [x']) (rows0 ++ [l ++ [i]]) := by
  have f1 := f.alloc o
  have hs := f1.size
  have hl : vs0.length = rows0.length := by have := f.fam.len; simp at this; exact this
  have hx := f1.fam.each vs0.length x (by simp)
  have hr0 := f1.rws
  rw [show (rows0 ++ [l]).length = rows0.length + 1 by simp] at hr0
  have hr := hr0.kept hg (own_own_ne hr0 hx (by decide))
  have hst := hr.stored rows0.length x'
  have hset : (vs0 ++ [x]).set rows0.length x' = vs0 ++ [x'] := by rw [← hl]; simp
  rw [hset] at hst
  have fam2 := f1.fam.last hg hown (by
    rcases hat with h | h
    · exact .inl h
    · exact .inr fun b hb => by rw [h] at hb; injection hb with hb; omega)
  have hsz := f1.sizes.kept hg (own_own_ne f1.sizes hx (by decide))
  have hrs := f1.res.grown hg (fun e => own_blk_ne hx f1.res (by decide) e.symm)
  refine ⟨?_, hr.frozenAt _, hrs.far (p := ⟨g, rows0.length, none⟩) (fun e => own_blk_ne hr hrs (by decide) (by rw [e]; rfl)) _, hsz.kept hst.2 (by
      have := own_own_ne hsz hr (by decide)
      simpa [Value.ownBlock] using this), by simpa using hst.1, fam2.other hr (by decide) hst.2, ?_⟩
  · rw [hr.cellAt _ (by omega), ← hl]; simp
  · refine (f1.below.grown hg (Nat.le_of_lt hs) (fun k hk => ?_)).setCell (p := ⟨g, rows0.length, none⟩) ?_ _
    · have := (hx.lt k hk).1; omega
    · have := (hr.lt g rfl).1; show w.heap.size ≤ g; omega
end

end Go.Proofs.YtaalhglooipnaaaGreat.Fl
namespace Go.Proofs.YtaalhglooipnaaaGreat.Fl
namespace P14
open P1
section ref
variable (g : Int) (b : Nat → Int × Int) (fresh : Nat → Int → Bool)
theorem rowsAt_ne (k : Nat) (hk : 0 < k) : rowsAt g b fresh k ≠ [] := by
  cases k with
  | zero => omega
  | succ k => rw [rowsAt_succ]; split <;> simp
/-- What the document has of its rows when it lays box k. -/
def rowsMid (k : Nat) : List (List Nat) := if fresh k (rx g b fresh k) = true then rowsAt g b fresh k ++ [[]] else rowsAt g b fresh k
theorem rowsMid_last (h0 : fresh 0 0 = true) (k : Nat) : ∃ rows0 l, rowsMid g b fresh k = rows0 ++ [l] ∧ rowsAt g b fresh (k + 1) = rows0 ++ [l ++ [k]] := by
  unfold rowsMid
  rw [rowsAt_succ]
  by_cases hf : fresh k (rx g b fresh k) = true
  · rw [if_pos hf, if_pos hf]
    exact ⟨_, _, rfl, rfl⟩
  · rw [if_neg hf, if_neg hf]
    have hk : 0 < k := by
      rcases Nat.eq_zero_or_pos k with h | h
      · subst h; exact absurd h0 hf
      · exact h
    have hne := rowsAt_ne g b fresh k hk
    refine ⟨(rowsAt g b fresh k).dropLast, (rowsAt g b fresh k).getLast hne, (List.dropLast_concat_getLast hne).symm, ?_⟩
    rw [List.getLastD_eq_getLast?, List.getLast?_eq_some_getLast hne]
    rfl
theorem rowsAt_len (k : Nat) : (rowsAt g b fresh k).length ≤ k := by
  induction k with
  | zero => exact Nat.le_refl _
  | succ k ih =>
    rw [rowsAt_succ]
    split
    · simp; omega
    · simp; omega
theorem rowsAt_in (k : Nat) : ∀ r ∈ rowsAt g b fresh k, r.length ≤ k ∧ ∀ i ∈ r, i < k := by
  induction k with
  | zero => intro r hr; simp [rowsAt] at hr
  | succ k ih =>
    intro r hr
    rw [rowsAt_succ] at hr
    split at hr
    · rcases List.mem_append.1 hr with h | h
      · exact ⟨by have := (ih r h).1; omega, fun i hi => by have := (ih r h).2 i hi; omega⟩
      · simp at h; subst h
        exact ⟨by simp, fun i hi => by simp at hi; omega⟩
    · rcases List.mem_append.1 hr with h | h
      · have h' := (List.dropLast_sublist _).subset h
        exact ⟨by have := (ih r h').1; omega, fun i hi => by have := (ih r h').2 i hi; omega⟩
      · obtain rfl := List.mem_singleton.1 h
        have hl : ((rowsAt g b fresh k).getLastD []).length ≤ k ∧ ∀ i ∈ (rowsAt g b fresh k).getLastD [], i < k := by
          cases hr : rowsAt g b fresh k with
          | nil => simp
          | cons a l =>
            have : (a :: l).getLastD [] ∈ rowsAt g b fresh k := by
              rw [hr, List.getLastD_eq_getLast?, List.getLast?_eq_some_getLast (by simp)]
              exact List.getLast_mem _
            exact ih _ this
        exact ⟨by rw [List.length_append, List.length_singleton]; omega, fun i hi => by
          rcases List.mem_append.1 hi with h | h
          · have := hl.2 i h; omega
          · have := List.mem_singleton.1 h; omega⟩
theorem rowsAt_row (k j : Nat) : ((rowsAt g b fresh k).getD j []).length ≤ k ∧ ∀ i, i < ((rowsAt g b fresh k).getD j []).length → ((rowsAt g b fresh k).getD j []).getD i 0 < k := by
  by_cases hj : j < (rowsAt g b fresh k).length
  · have hm : (rowsAt g b fresh k).getD j [] ∈ rowsAt g b fresh k := by
      simp only [List.getD, List.getElem?_eq_getElem hj, Option.getD_some]
      exact List.getElem_mem hj
    refine ⟨(rowsAt_in g b fresh k _ hm).1, fun i hi => (rowsAt_in g b fresh k _ hm).2 _ ?_⟩
    generalize (rowsAt g b fresh k).getD j [] = r at *
    simp only [List.getD, List.getElem?_eq_getElem hi, Option.getD_some]
    exact List.getElem_mem hi
  · have e : (rowsAt g b fresh k).getD j [] = [] := by simp [List.getD, List.getElem?_eq_none (Nat.le_of_not_lt hj)]
    rw [e]
    exact ⟨Nat.zero_le _, fun i hi => by simp at hi⟩
theorem fold_congr {b' : Nat → Int × Int} (l : List Nat) (s : St) (h : ∀ i ∈ l, b i = b' i) : l.foldl (fun s i => s.put g (b i)) s = l.foldl (fun s i => s.put g (b' i)) s := by
  induction l generalizing s with
  | nil => rfl
  | cons a l ih => rw [List.foldl_cons, List.foldl_cons, h a (by simp), ih _ (fun i hi => h i (by simp [hi]))]
theorem placed_same {b' : Nat → Int × Int} (rows : List (List Nat)) (h : ∀ r ∈ rows, ∀ i ∈ r, b i = b' i) (j : Nat) : placed g b rows j = placed g b' rows j := by
  induction j with
  | zero => rfl
  | succ j ih =>
    rw [placed_succ, placed_succ, ih]
    refine fold_congr g b _ _ fun i hi => ?_
    by_cases hj : j < rows.length
    · refine h (rows.getD j []) ?_ i hi
      simp only [List.getD, List.getElem?_eq_getElem hj, Option.getD_some]
      exact List.getElem_mem hj
    · simp [List.getD, List.getElem?_eq_none (Nat.le_of_not_lt hj)] at hi
end ref
end P14
end Go.Proofs.YtaalhglooipnaaaGreat.Fl
