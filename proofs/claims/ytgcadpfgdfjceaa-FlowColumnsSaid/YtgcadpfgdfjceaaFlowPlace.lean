/-
  The walk over the document's answer for flow: rows are placed.
-/
import Derived.Test.YtgcadpfgdfjceaaFlowRnd
namespace Go.Proofs.Ytgcadpfgdfjceaa
open Go.RowKit
attribute [local go_sem ↓] Go.wp_at_zero Go.wp_at_succ

/-- A list of numbers that lies below block B. -/
def Nums (w : World) (B : Nat) (A : Option Addr) (l : List Nat) : Prop :=
  ∀ i, i < l.length → ∃ b off, A = some ⟨b, off, none⟩ ∧ b < B ∧ w.cell? ⟨b, off + i, none⟩ = some (.int .i64 (l.getD i 0 : Nat))
/-- A list of such lists. -/
def RowsOf (w : World) (B : Nat) (A : Option Addr) (rows : List (List Nat)) : Prop :=
  ∀ j, j < rows.length → ∃ b off Aj cj, A = some ⟨b, off, none⟩ ∧ b < B ∧ w.cell? ⟨b, off + j, none⟩ = some (.slice Aj (rows.getD j []).length cj) ∧ Nums w B Aj (rows.getD j [])

theorem rpoint_info : (Try.prog.info? 47).map (fun i => (i.zero, i.size, i.bytes)) = some (some (.agg #[.int .i64 0, .int .i64 0]), 2, 16) := by kernel_rfl

/-- In the midst of place. -/
structure Pl (w wx : World) (W H : Int) (v : Value) (n : Nat) (out : List Value) : Prop where
  whole : Blk wx (w.heap.size + 1 + 1) 43 #[.int .i64 W, .int .i64 H]
  res : Blk wx w.heap.size 43 #[.int .i64 0, .int .i64 0]
  own : wx.ownsRow (w.heap.size + 1) 47 2 v n out
  below : Below w.heap.size w wx

theorem Pl.start (w : World) : Pl w (((w.alloc (.cells #[.int .i64 0, .int .i64 0] 43)).alloc (.cells #[] 47)).alloc (.cells #[.int .i64 0, .int .i64 0] 43)) 0 0
    (.slice (some ⟨w.heap.size + 1, 0, none⟩) 0 0) 0 [] := by
  have h1 := Blk.new ((w.alloc (.cells #[.int .i64 0, .int .i64 0] 43)).alloc (.cells #[] 47)) 43 #[.int .i64 0, .int .i64 0]
  rw [World.size_alloc, World.size_alloc] at h1
  have h2 := World.ownsRow_made (base := w.heap.size + 1) (e := 47) (size := 2) (w.alloc (.cells #[.int .i64 0, .int .i64 0] 43)) #[] 0 (by simp) (Nat.zero_le _) rfl
  rw [World.size_alloc] at h2
  exact ⟨h1, ((Blk.new _ _ _).alloc _).alloc _, h2.alloc _, (((Below.refl _ _).alloc (Nat.le_refl _) _).alloc (by simp) _).alloc (by simp; omega) _⟩

section
variable {w wx wz : World} {W H : Int} {v v' : Value} {n : Nat} {out : List Value}
theorem Pl.size (r : Pl w wx W H v n out) : w.heap.size + 1 + 1 < wx.heap.size := r.whole.lt
theorem Pl.cells (r : Pl w wx W H v n out) : wx.cell? ⟨w.heap.size + 1 + 1, 0, none⟩ = some (.int .i64 W) ∧ wx.cell? ⟨w.heap.size + 1 + 1, 1, none⟩ = some (.int .i64 H) ∧ wx.frozen? ⟨w.heap.size + 1 + 1, 0, none⟩ = false ∧ wx.frozen? ⟨w.heap.size + 1 + 1, 1, none⟩ = false ∧
    wx.cell? ⟨w.heap.size, 0, none⟩ = some (.int .i64 0) ∧ wx.cell? ⟨w.heap.size, 1, none⟩ = some (.int .i64 0) ∧ wx.frozen? ⟨w.heap.size, 0, none⟩ = false ∧ wx.frozen? ⟨w.heap.size, 1, none⟩ = false :=
  ⟨r.whole.cell 0, r.whole.cell 1, r.whole.frozen 0, r.whole.frozen 1, r.res.cell 0, r.res.cell 1, r.res.frozen 0, r.res.frozen 1⟩
theorem Pl.app (r : Pl w wx W H v n out) {p q : Int} (o : Obj) (hown : wz.ownsRow (w.heap.size + 1) 47 2 v' (n + 1) (out ++ [.int .i64 p, .int .i64 q])) (hg : (wx.alloc o).grownBy wz v.ownBlock) :
    Pl w wz W H v' (n + 1) (out ++ [.int .i64 p, .int .i64 q]) := by
  have hs := r.size
  have ho := r.own.alloc o
  exact ⟨(r.whole.alloc o).grown hg (fun e => own_blk_ne ho (r.whole.alloc o) (by decide) e.symm), (r.res.alloc o).grown hg (fun e => own_blk_ne ho (r.res.alloc o) (by decide) e.symm), hown,
    (r.below.alloc (by omega) o).grown hg (by simp; omega) (fun k hk => by have := (ho.lt k hk).1; omega)⟩
theorem Pl.setW (r : Pl w wx W H v n out) (a : Int) : Pl w (wx.setCell ⟨w.heap.size + 1 + 1, 0, none⟩ (.int .i64 a)) a H v n out := by
  exact ⟨r.whole.set_ 0 (.int .i64 a), r.res.far (p := ⟨w.heap.size + 1 + 1, 0, none⟩) (by simp; omega) _, r.own.kept (row := some (w.heap.size + 1 + 1)) (only_set (World.grownBy.refl wx _) 0 _) (.inr (own_blk_ne r.own r.whole (by decide))), r.below.setCell (by simp; omega) _⟩
theorem Pl.setH (r : Pl w wx W H v n out) (a : Int) : Pl w (wx.setCell ⟨w.heap.size + 1 + 1, 1, none⟩ (.int .i64 a)) W a v n out := by
  exact ⟨r.whole.set_ 1 (.int .i64 a), r.res.far (p := ⟨w.heap.size + 1 + 1, 1, none⟩) (by simp; omega) _, r.own.kept (row := some (w.heap.size + 1 + 1)) (only_set (World.grownBy.refl wx _) 1 _) (.inr (own_blk_ne r.own r.whole (by decide))), r.below.setCell (by simp; omega) _⟩
theorem Pl.drew (r : Pl w wx W H v n out) : Pl w wx.drew W H v n out := ⟨r.whole, r.res, r.own, r.below.drew⟩
theorem Pl.done (r : Pl w wx W H v n out) (a b : Value) : ((wx.setCell ⟨w.heap.size, 0, none⟩ a).setCell ⟨w.heap.size, 1, none⟩ b).ownsRow w.heap.size 47 2 v n out ∧ Below w.heap.size w ((wx.setCell ⟨w.heap.size, 0, none⟩ a).setCell ⟨w.heap.size, 1, none⟩ b) := by
  have h := r.own.kept (row := some w.heap.size) (only_set (only_set (World.grownBy.refl wx _) 0 a) 1 b) (.inr (own_blk_ne r.own r.res (by decide)))
  refine ⟨⟨h.1, ?_⟩, (r.below.setCell (Nat.le_refl _) a).setCell (Nat.le_refl _) b⟩
  rcases h.2 with h0 | ⟨g, cap, cur, hv, hg, rest⟩
  · exact .inl h0
  · exact .inr ⟨g, cap, cur, hv, by omega, rest⟩
end

/-- What place leaves. -/
def PlacePost (w : World) (s : P14.St) (H : Int) (e : Ending) (w' : World) : Prop :=
  ∃ A c, e = .returned (.tuple #[.slice A s.out.length c, .agg #[.int .i64 s.W, .int .i64 H]]) ∧ w'.ownsRow w.heap.size 47 2 (.slice A s.out.length c) s.out.length (flat2 s.out) ∧ Below w.heap.size w w'

set_option maxHeartbeats 8000000 in
theorem place_any (A : Option Addr) (c : Nat) (rows : List (List Nat)) (L : Option Addr) (N cL : Nat) (zs : List (Int × Int)) (g : Int) (w : World)
    (hr : RowsOf w w.heap.size A rows) (hz : Pairs w w.heap.size L N zs) (hin : ∀ j i, i < (rows.getD j []).length → (rows.getD j []).getD i 0 < N) (hlen : rows.length ≤ 40) (hrow : ∀ j, (rows.getD j []).length ≤ 40) :
    Calls Try.prog 38 #[.slice A rows.length c, .slice L N cL, .int .i64 g] w (PlacePost w (P14.placed g (fun i => zs.getD i (0, 0)) rows rows.length) (P14.high g (fun i => zs.getD i (0, 0)) rows rows.length)) := by
  obtain ⟨i0, hi, hz0, hz1, hz2⟩ := info_parts rpoint_info
  obtain ⟨B, hB⟩ : ∃ B : Nat → Int × Int, B = fun i => zs.getD i (0, 0) := ⟨_, rfl⟩
  rw [← hB]
  obtain ⟨R, hR⟩ : ∃ R, R = rows.length := ⟨_, rfl⟩
  rw [← hR] at hlen ⊢
  have HYP := Lib.hid (And.intro hr (And.intro hz (And.intro hin (And.intro hrow (And.intro hB hR)))))
  clear hr hz hin hrow hB hR
  go_enter Try.func38, Try.ntmps38
  go_wp2_with fail
  go_loopw [8, 10, 21] (fun v y i wr => ∃ (k : Nat) (yv : Int), k ≤ R ∧ i = .int .i64 k ∧ y = .int .i64 yv ∧ Hid (k < R → yv = (P14.begun g B rows k).y) ∧
      Pl w wr (P14.placed g B rows k).W (P14.high g B rows k) v (P14.placed g B rows k).out.length (flat2 (P14.placed g B rows k).out)) (fun _ _ i _ => R - (intOf i).toNat)
  case atStart => exact ⟨0, 0, Nat.zero_le _, rfl, rfl, fun _ => rfl, Pl.start w⟩
  case round =>
    obtain ⟨k, yv, hk, rfl, rfl, hy, hp⟩ := hrel
    obtain ⟨wo, rfl⟩ : ∃ wo : World, wo = wr := ⟨_, rfl⟩
    by_cases hlt : k < R
    · obtain ⟨hr, hz, hin, hrow, hB, hR⟩ := HYP.out
      obtain ⟨b, off, Aj, cj, rfl, hbB, hcj, hnum⟩ := hr k (by omega)
      have e0 := (hp.below.cell (p := ⟨b, off + k, none⟩) hbB).trans hcj
      obtain ⟨row, hrw⟩ : ∃ row, row = rows.getD k [] := ⟨_, rfl⟩
      rw [← hrw] at e0 hnum
      have hl40 : row.length ≤ 40 := by rw [hrw]; exact hrow k
      have ho40 : (P14.placed g B rows k).out.length ≤ 1600 := by have := P14.placed_len g B rows hrow k; omega
      have hout := P14.begun_out g B rows k
      have Y := Lib.hid (hy.out hlt)
      have HN := Lib.hid (And.intro hnum hrw)
      have HP := Lib.hid hp
      have HO := Lib.hid hout
      clear hr hz hin hrow hB hR hcj hnum hrw hp hout hy
      go_wp2_with fail
      go_loopw [8, 13, 14, 28] (fun v x h i wr => ∃ (m : Nat) (s : P14.St), m ≤ row.length ∧ i = .int .i64 m ∧ x = .int .i64 s.x ∧ h = .int .i64 s.h ∧ Hid (s = (row.take m).foldl (fun s i => s.put g (B i)) (P14.begun g B rows k)) ∧
          Pl w wr s.W (P14.high g B rows k) v s.out.length (flat2 s.out)) (fun _ _ _ i _ => row.length - (intOf i).toNat)
      case atStart =>
        refine ⟨0, P14.begun g B rows k, Nat.zero_le _, rfl, by rw [HO.out.2.2.1], by rw [HO.out.2.2.2], rfl, ?_⟩
        rw [HO.out.1, HO.out.2.1]
        exact HP.out
      case round =>
        obtain ⟨m, s, hm, rfl, rfl, rfl, hs, hp⟩ := hrel
        by_cases hlm : m < row.length
        · obtain ⟨hnum, hrw⟩ := HN.out
          obtain ⟨hr, hz, hin, hrow, hB, hR⟩ := HYP.out
          obtain ⟨b2, off2, rfl, hb2, hc2⟩ := hnum m hlm
          have e2 := (hp.below.cell (p := ⟨b2, off2 + m, none⟩) hb2).trans hc2
          obtain ⟨q, hq⟩ : ∃ q, q = row.getD m 0 := ⟨_, rfl⟩
          rw [← hq] at e2
          have hqN : q < N := by rw [hq, hrw]; exact hin k m (by rw [← hrw]; exact hlm)
          obtain ⟨b3, off3, rfl, hb3, hc3, hc4⟩ := hz.2 q hqN
          obtain ⟨za, zb, hzab⟩ : ∃ za zb, zs.getD q (0, 0) = (za, zb) := ⟨_, _, rfl⟩
          rw [hzab] at hc3 hc4
          have hS : (row.take (m + 1)).foldl (fun s i => s.put g (B i)) (P14.begun g B rows k) = s.put g (za, zb) := by
            rw [take_snoc row 0 m hlm, List.foldl_append, ← hs.out, List.foldl_cons, List.foldl_nil, ← hq, hB]
            show s.put g (zs.getD q (0, 0)) = _
            rw [hzab]
          have hyy : yv = s.y := by rw [Y.out, hs.out, P14.fold_y]
          have hso : s.out.length ≤ 1700 := by
            rw [hs.out, P14.fold_len, HO.out.1, List.length_take]
            omega
          have HS := Lib.hid (And.intro hS hyy)
          have H3 := Lib.hid (And.intro hb3 (And.intro hc3 hc4))
          have hq0 : (0 : Int) ≤ (q : Int) := by omega
          have hqi : (q : Int) < (N : Int) := by omega
          have hsz := hp.size
          have HP1 := Lib.hid hp
          clear hnum hrw hr hz hin hrow hB hR hc2 hq hqN hc3 hc4 hzab hS hyy hp e0
          go_upto_region 13 with (first
            | (at_builtin; refine wpList_append_lies _ rfl _ _ _ rfl (w.heap.size + 1) 47 i0 _ 2 16 Try.underlying42 hi hz0 hz1 hz2 rfl (by decide) _ s.out.length (flat2 s.out) rfl (HP1.out.own.alloc _) _ 1 1 [.int .i64 s.x, .int .i64 yv] rfl rfl (World.news_of_block (heap_alloc_new _ _)) (by intro u hu; simp at hu; rcases hu with rfl | rfl <;> rfl) (by omega) (by unfold maxLen; omega) (by omega) (by simp; omega) _ rfl ?_; intro g2 cap2 w2 hown2 hg2 hat2 hlt2))
          have hp2 := HP1.out.app _ hown2 hg2
          obtain ⟨d0, d1, d2, d3, d4, d5, d6, d7⟩ := hp2.cells
          have e3 := (hp2.below.cell (p := ⟨b3, off3 + q * 2, none⟩) hb3).trans H3.out.2.1
          have e4 := (hp2.below.cell (p := ⟨b3, off3 + q * 2 + 1, none⟩) hb3).trans H3.out.2.2
          have HP2 := Lib.hid hp2
          clear hp2 hown2 hg2 hat2 hlt2
          go_cut [] (fun wx => Pl w wx (max s.W (P1.add s.x za)) (P14.high g B rows k) (.slice (some ⟨g2, 0, none⟩) (s.out.length + 1) cap2) (s.out.length + 1) (flat2 s.out ++ [.int .i64 s.x, .int .i64 yv]))
          case first =>
            go_region_with (first | (go_at_call 20; ((with_reducible refine (radd_any _ _ _).mono ?_); rintro e w' ⟨rfl, rfl⟩)))
            all_goals (go_wp2_with fail; go_meet; exact (HP2.out.setW _).drew)
          case rest =>
            have hp3 := hcut
            clear hcut e3 e4 d0 d1 d2 d3 d4 d5 d6 d7
            have e3 := (hp3.below.cell (p := ⟨b3, off3 + q * 2, none⟩) hb3).trans H3.out.2.1
            have e4 := (hp3.below.cell (p := ⟨b3, off3 + q * 2 + 1, none⟩) hb3).trans H3.out.2.2
            have HP3 := Lib.hid hp3
            clear hp3
            go_wp2_with (first | (go_at_call 20; ((with_reducible refine (radd_any _ _ _).mono ?_); rintro e w' ⟨rfl, rfl⟩)))
            go_roundw
            case rel =>
              refine ⟨m + 1, s.put g (za, zb), by omega, by go_num, ?_, rfl, Lib.hid HS.out.1.symm, ?_⟩
              · rw [P14.St.put, P14.sum3_eq]
              · have h := HP3.out
                rw [HS.out.2, ← flat2_snoc s.out (s.x, s.y)] at h
                have e : (s.put g (za, zb)).out.length = s.out.length + 1 := by simp [P14.St.put]
                rw [e]
                exact h
            case measure => simp [intOf]; omega
        · have hT : P14.placed g B rows (k + 1) = s := by
            rw [P14.placed_begun, ← HN.out.2, hs.out, List.take_of_length_le (by omega)]
          have hyy : yv = s.y := by rw [Y.out, hs.out, P14.fold_y]
          have hH : P14.high g B rows (k + 1) = P1.add s.y s.h := by
            rw [P14.high, if_neg (by omega), hT]
          have hb : (P14.begun g B rows (k + 1)).y = P1.add (P1.add s.y s.h) g := by
            rw [P14.begun, if_neg (by omega), hT, P14.St.row, P14.sum3_eq]
          have HT := Lib.hid (And.intro hT (And.intro hyy (And.intro hH hb)))
          obtain ⟨d0, d1, d2, d3, d4, d5, d6, d7⟩ := hp.cells
          have HP1 := Lib.hid hp
          clear hT hyy hH hb hp e0
          by_cases hk1 : k + 1 < R
          · go_wp2_with (first | (go_at_call 20; ((with_reducible refine (radd_any _ _ _).mono ?_); rintro e w' ⟨rfl, rfl⟩)))
            go_roundw
            case rel =>
              refine ⟨k + 1, P1.add (P1.add yv s.h) g, by omega, by go_num, rfl, fun _ => ?_, ?_⟩
              · rw [HT.out.2.2.2, HT.out.2.1]
              · rw [HT.out.2.2.1, HT.out.1, ← HT.out.2.1]
                exact HP1.out.setH _
            case measure => simp [intOf]; omega
          · go_wp2_with (first | (go_at_call 20; ((with_reducible refine (radd_any _ _ _).mono ?_); rintro e w' ⟨rfl, rfl⟩)))
            go_roundw
            case rel =>
              refine ⟨k + 1, yv, by omega, by go_num, rfl, fun h => absurd h hk1, ?_⟩
              rw [HT.out.2.2.1, HT.out.1, ← HT.out.2.1]
              exact HP1.out.setH _
            case measure => simp [intOf]; omega
    · obtain rfl : k = R := by omega
      obtain ⟨d0, d1, d2, d3, d4, d5, d6, d7⟩ := hp.cells
      have hsz := hp.size
      have HP1 := Lib.hid hp
      clear hp
      go_wp2_with fail
      go_region
      all_goals go_wp2
      all_goals (
        obtain ⟨AO, cO, hv⟩ := own_form HP1.out.own
        have HV := Lib.hid hv
        clear hv
        refine bodyPost_ret (v := .tuple #[u8, .agg #[.int .i64 (P14.placed g B rows k).W, .int .i64 (P14.high g B rows k)]]) (by simp [results, Try.results38, go_sem, d4, d5]) rfl ⟨AO, cO, ?_, ?_, ?_⟩
        · rw [HV.out]
        · rw [← HV.out]; exact (HP1.out.done _ _).1
        · exact (HP1.out.drew.done _ _).2)

end Go.Proofs.Ytgcadpfgdfjceaa
