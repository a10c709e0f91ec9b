/-
  The walk over the document's answer for flow.
  The plain law: the program's pen and the document's rows put boxes at the same places.
  Styles of a shown tree: Get of both sides, and the layout's small functions.
-/
import Derived.Test.YtaalhglooipnaaaGreatL17
import Derived.Test.YtaalhglooipnaaaGreatL16
import Derived.Test.YtaalhglooipnaaaGreatL14
import Derived.Test.YtaalhglooipnaaaGreatL05
import Derived.Test.YtaalhglooipnaaaGreatL11
namespace Go.Proofs.YtaalhglooipnaaaGreat.Fl
open Go.RowKit
attribute [local go_sem ↓] Go.wp_at_zero Go.wp_at_succ

/-- With a box of its own. -/
structure Fb (w wx : World) (v : Value) (m : Nat) (sz : List Value) (u : Value) (vs : List Value) (rows : List (List Nat)) (s : Nat) (a b : Int) : Prop where
  fl : Fl w wx v m sz u vs rows
  box : Blk wx s 157 #[.int .i64 a, .int .i64 b]
  lt : w.heap.size < s
  ne_ : v.ownBlock ≠ some s

section
variable {w wx wy wz : World} {v v' : Value} {m : Nat} {sz : List Value} {u u' : Value} {vs : List Value} {rows : List (List Nat)} {s : Nat} {a b : Int}
theorem Fb.cells (f : Fb w wx v m sz u vs rows s a b) : wx.cell? ⟨s, 0, none⟩ = some (.int .i64 a) ∧ wx.cell? ⟨s, 1, none⟩ = some (.int .i64 b) ∧ wx.frozen? ⟨s, 0, none⟩ = false ∧ wx.frozen? ⟨s, 1, none⟩ = false :=
  ⟨f.box.cell 0, f.box.cell 1, f.box.frozen 0, f.box.frozen 1⟩
theorem Fb.start (f : Fl w wx v m sz u vs rows) (o : Obj) (a b : Int) : Fb w ((wx.alloc o).alloc (.cells #[.int .i64 a, .int .i64 b] 157)).drew v m sz u vs rows (wx.heap.size + 1) a b := by
  have h := Blk.new (wx.alloc o) 157 #[.int .i64 a, .int .i64 b]
  rw [World.size_alloc] at h
  refine ⟨((f.alloc o).alloc _).drew, h, by have := f.size; omega, fun e => ?_⟩
  have := (f.sizes.lt _ e).2
  omega
theorem Fb.width (f : Fb w wx v m sz u vs rows s a b) (c : Int) : Fb w (wx.setCell ⟨s, 0, none⟩ (.int .i64 c)) v m sz u vs rows s c b :=
  ⟨f.fl.set_ f.box f.lt f.ne_ 0 _, f.box.set_ 0 (.int .i64 c), f.lt, f.ne_⟩
theorem Fb.sized {p q : Int} {g c : Nat} (f : Fb w wx v m sz u vs rows s a b) (o : Obj) (hown : wz.ownsRow (w.heap.size + 1) 157 2 (.slice (some ⟨g, 0, none⟩) (m + 1) c) (m + 1) (sz ++ [.int .i64 p, .int .i64 q])) (hg : (wx.alloc o).grownBy wz v.ownBlock) (hat : v.ownBlock = some g ∨ g = (wx.alloc o).heap.size) :
    Fb w wz (.slice (some ⟨g, 0, none⟩) (m + 1) c) (m + 1) (sz ++ [.int .i64 p, .int .i64 q]) u vs rows s a b := by
  refine ⟨f.fl.sized o hown hg, (f.box.alloc o).grown hg (fun e => f.ne_ e.symm), f.lt, fun e => ?_⟩
  have e' : g = s := by simpa [Value.ownBlock] using e
  rcases hat with h | h
  · exact f.ne_ (by rw [h, e'])
  · have := f.box.lt
    rw [World.size_alloc] at h
    omega
theorem Fb.newrow (f : Fb w wx v m sz u vs rows s a b) (o : Obj) (hown : wz.ownsRow (w.heap.size + 1) 71 1 u' (rows.length + 1) (vs ++ [.slice (some ⟨wx.heap.size, 0, none⟩) 0 0]))
    (hg : ((wx.alloc (.cells #[] 3)).alloc o).grownBy wz u.ownBlock) : Fb w wz v m sz u' (vs ++ [.slice (some ⟨wx.heap.size, 0, none⟩) 0 0]) (rows ++ [[]]) s a b :=
  ⟨f.fl.newrow o hown hg, ((f.box.alloc _).alloc o).grown hg (fun e => own_blk_ne f.fl.rws f.box (by decide) e.symm), f.lt, f.ne_⟩
theorem Fb.grown {g c : Nat} {x x' : Value} {l : List Nat} {i : Nat} {vs0 : List Value} {rows0 : List (List Nat)} (f : Fb w wx v m sz (.slice (some ⟨g, 0, none⟩) (rows0.length + 1) c) (vs0 ++ [x]) (rows0 ++ [l]) s a b) (o : Obj)
    (hown : wz.ownsRow (w.heap.size + 1) 3 1 x' (l.length + 1) (nums l ++ [.int .i64 (i : Nat)])) (hg : (wx.alloc o).grownBy wz x.ownBlock) (hat : x'.ownBlock = x.ownBlock ∨ x'.ownBlock = some (wx.alloc o).heap.size) :
    wz.cell? ⟨g, rows0.length, none⟩ = some x ∧ wz.frozen? ⟨g, rows0.length, none⟩ = false ∧
    Fb w (wz.setCell ⟨g, rows0.length, none⟩ x') v m sz (.slice (some ⟨g, 0, none⟩) (rows0.length + 1) c) (vs0 ++ [x']) (rows0 ++ [l ++ [i]]) s a b := by
  obtain ⟨h1, h2, h3⟩ := f.fl.grown o hown hg hat
  have hx := (f.fl.alloc o).fam.each vs0.length x (by simp)
  have hb := (f.box.alloc o).grown hg (fun e => own_blk_ne hx (f.box.alloc o) (by decide) e.symm)
  have hr := f.fl.rws.alloc o
  rw [show (rows0 ++ [l]).length = rows0.length + 1 by simp] at hr
  have hr := hr.kept hg (own_own_ne hr hx (by decide))
  exact ⟨h1, h2, h3, hb.far (p := ⟨g, rows0.length, none⟩) (fun e => own_blk_ne hr hb (by decide) (by rw [e]; rfl)) _, f.lt, f.ne_⟩
end

theorem rsize_info : (Tryz.prog.info? 157).map (fun i => (i.zero, i.size, i.bytes)) = some (some (.agg #[.int .i64 0, .int .i64 0]), 2, 16) := by kernel_rfl
theorem list_info : (Tryz.prog.info? 71).map (fun i => (i.zero, i.size, i.bytes)) = some (some (.slice none 0 0), 1, 24) := by kernel_rfl
theorem int_info : (Tryz.prog.info? 3).map (fun i => (i.zero, i.size, i.bytes)) = some (some (.int .i64 0), 1, 8) := by kernel_rfl

/-- The document's sizes. -/
def rsize (kind wd : Int) (zs : List (Int × Int)) (k : Nat) : Int × Int := (if kind = 2 then wd else P14.least (zs.getD k (0, 0)).1, P14.least (zs.getD k (0, 0)).2)
/-- Does a row begin by the document? -/
def rfresh (kind wd nc : Int) (b : Nat → Int × Int) (k : Nat) (x : Int) : Bool :=
  decide (k = 0) || decide (kind = 0) || (decide (kind = 1) && decide (wd < P1.add x (b k).1)) || (decide (kind = 2) && (k : Int) % nc == 0)

theorem news_second (w : World) (o : Obj) (cs : Array Value) (t : TypeId) : ∀ j u, cs.toList[j]? = some u → ((w.alloc o).alloc (.cells cs t)).cell? ((⟨w.heap.size + 1, 0, none⟩ : Addr).add j) = some u := by
  have h := World.news_of_block (heap_alloc_new (w.alloc o) (.cells cs t))
  rw [World.size_alloc] at h
  exact h

theorem Fl.begin (w : World) : Fl w (((w.alloc (.cells #[.int .i64 0, .int .i64 0] 157)).alloc (.cells #[] 157)).alloc (.cells #[] 71))
    (.slice (some ⟨w.heap.size + 1, 0, none⟩) 0 0) 0 [] (.slice (some ⟨w.heap.size + 1 + 1, 0, none⟩) 0 0) [] [] := by
  have h1 := World.ownsRow_made (base := w.heap.size + 1) (e := 157) (size := 2) (w.alloc (.cells #[.int .i64 0, .int .i64 0] 157)) #[] 0 (by simp) (Nat.zero_le _) rfl
  have h2 := World.ownsRow_made (base := w.heap.size + 1) (e := 71) (size := 1) ((w.alloc (.cells #[.int .i64 0, .int .i64 0] 157)).alloc (.cells #[] 157)) #[] 0 (by simp) (Nat.zero_le _) rfl
  rw [World.size_alloc] at h1
  rw [World.size_alloc, World.size_alloc] at h2
  exact ⟨((Blk.new _ _ _).alloc _).alloc _, h1.alloc _, h2, Fam.nil _ _, (((Below.refl _ _).alloc (Nat.le_refl _) _).alloc (by simp) _).alloc (by simp; omega) _⟩

theorem nums_at (r : List Nat) (i : Nat) (h : i < r.length) : (nums r)[i]? = some (.int .i64 (r.getD i 0 : Nat)) := by simp [nums, List.getD, h]

/-- The lists that the call made, as place reads them. -/
theorem Fl.rowsOf {w wx : World} {v : Value} {m : Nat} {sz : List Value} {A : Option Addr} {c : Nat} {vs : List Value} {rows : List (List Nat)} (f : Fl w wx v m sz (.slice A rows.length c) vs rows) : RowsOf wx wx.heap.size A rows := by
  intro j hj
  obtain ⟨g, cap, hv, _, hlt⟩ := f.rws.form (by omega)
  obtain ⟨rfl, rfl⟩ : A = some ⟨g, 0, none⟩ ∧ c = cap := by injection hv; exact ⟨by assumption, by assumption⟩
  have hjv : j < vs.length := by rw [f.fam.len]; exact hj
  have hx := f.fam.each j vs[j] (List.getElem?_eq_getElem hjv)
  obtain ⟨Aj, cj, hxv⟩ := own_form hx
  refine ⟨g, 0, Aj, cj, rfl, hlt, ?_, fun i hi => ?_⟩
  · rw [Nat.zero_add, f.rws.cellAt j (by omega), List.getElem?_eq_getElem hjv, hxv]
  · obtain ⟨g', cap', hv', _, hlt'⟩ := hx.form (by omega)
    rw [hxv] at hv' hx
    obtain ⟨rfl, rfl⟩ : Aj = some ⟨g', 0, none⟩ ∧ cj = cap' := by injection hv'; exact ⟨by assumption, by assumption⟩
    refine ⟨g', 0, rfl, hlt', ?_⟩
    rw [Nat.zero_add, hx.cellAt i (by omega)]
    exact nums_at _ _ hi

/-- A store into the result's cell. -/
theorem cell_done {w wa w' : World} {e t : TypeId} {cs : Array Value} {v : Value} {n : Nat} {xs : List Value} {R : Nat} (hbel : Below w.heap.size w wa) (hR : w.heap.size ≤ R) (hres : Blk wa R t cs) (hne : e ≠ t)
    (hown : w'.ownsRow wa.heap.size e 2 v n xs) (hb : Below wa.heap.size wa w') (a b : Value) :
    ((w'.setCell ⟨R, 0, none⟩ a).setCell ⟨R, 1, none⟩ b).ownsRow w.heap.size e 2 v n xs ∧ Below w.heap.size w ((w'.setCell ⟨R, 0, none⟩ a).setCell ⟨R, 1, none⟩ b) := by
  have hlt := hres.lt
  have hr' := hres.below hb hlt
  have h := hown.kept (row := some R) (only_set (only_set (World.grownBy.refl w' _) 0 a) 1 b) (.inr (own_blk_ne hown hr' hne))
  refine ⟨⟨h.1, ?_⟩, ((hbel.trans (hb.mono hbel.size)).setCell hR a).setCell hR b⟩
  rcases h.2 with h0 | ⟨g, cap, cur, hv, hg, rest⟩
  · exact .inl h0
  · exact .inr ⟨g, cap, cur, hv, Nat.le_trans hbel.size hg, rest⟩

theorem range_map_getD (b : Nat → Int × Int) (n i : Nat) (h : i < n) : ((List.range n).map b).getD i (0, 0) = b i := by
  simp [List.getD, h]

set_option maxRecDepth 100000 in
set_option maxRecDepth 100000 in
set_option maxHeartbeats 8000000 in
theorem rflow_any (kind width cols gap : Int) (A : Option Addr) (n c : Nat) (zs : List (Int × Int)) (w : World) (hz : Pairs w w.heap.size A n zs) (hn : n ≤ 40)
    (b : Nat → Int × Int) (hb : b = rsize kind (P14.least width) zs) (fr : Nat → Int → Bool) (hfr : fr = rfresh kind (P14.least width) (max 1 (min cols 64)) b) :
    Calls Tryz.prog 82 #[.int .i64 kind, .int .i64 width, .int .i64 cols, .int .i64 gap, .slice A n c] w (PlacePost w (P14.placed (P14.least gap) b (P14.rowsAt (P14.least gap) b fr n) (P14.rowsAt (P14.least gap) b fr n).length) (P14.high (P14.least gap) b (P14.rowsAt (P14.least gap) b fr n) (P14.rowsAt (P14.least gap) b fr n).length)) := by
  obtain ⟨i0, hi, hz0, hz1, hz2⟩ := info_parts rsize_info
  obtain ⟨i1, hi1, hy0, hy1, hy2⟩ := info_parts list_info
  obtain ⟨i2, hi2, hx0, hx1, hx2⟩ := info_parts int_info
  have HZ := Lib.hid (And.intro hz (And.intro hb hfr))
  clear hz hb hfr
  obtain ⟨S, hS⟩ : ∃ S, S = P14.placed (P14.least gap) b (P14.rowsAt (P14.least gap) b fr n) (P14.rowsAt (P14.least gap) b fr n).length := ⟨_, rfl⟩
  obtain ⟨SH, hSH⟩ : ∃ SH, SH = P14.high (P14.least gap) b (P14.rowsAt (P14.least gap) b fr n) (P14.rowsAt (P14.least gap) b fr n).length := ⟨_, rfl⟩
  rw [← hS, ← hSH]
  have HS := Lib.hid (And.intro hS hSH)
  clear hS hSH
  go_enter Tryz.func82, Tryz.ntmps82
  go_wp2_with (first | (go_at_call 76; ((with_reducible refine (rleast_any _ _).mono ?_); rintro e w' ⟨rfl, rfl⟩)))
  go_loopw [15, 16, 17, 33] (fun v u x i wr => ∃ (k : Nat) (vs : List Value), k ≤ n ∧ i = .int .i64 k ∧ x = .int .i64 (P14.rx (P14.least gap) b fr k) ∧
      Fl w wr v k (flat2 ((List.range k).map b)) u vs (P14.rowsAt (P14.least gap) b fr k)) (fun _ _ _ i _ => n - (intOf i).toNat)
  case atStart => exact ⟨0, [], Nat.zero_le _, rfl, rfl, Fl.begin w⟩
  case round =>
    obtain ⟨k, vs, hk, rfl, rfl, hf⟩ := hrel
    have hsz0 := hf.size
    have hnc : 1 ≤ max 1 (min cols 64) := by omega
    by_cases hlt : k < n
    · obtain ⟨hz, hb, hfr⟩ := HZ.out
      obtain ⟨ba, off, rfl, hbB, hc0, hc1⟩ := hz.2 k hlt
      have e0 := (hf.below.cell (p := ⟨ba, off + k * 2, none⟩) hbB).trans hc0
      have e1 := (hf.below.cell (p := ⟨ba, off + k * 2 + 1, none⟩) hbB).trans hc1
      obtain ⟨za, zb, hzab⟩ : ∃ za zb, zs.getD k (0, 0) = (za, zb) := ⟨_, _, rfl⟩
      rw [hzab] at e0 e1
      obtain ⟨bw, hbw⟩ : ∃ bw, bw = (if kind = 2 then P14.least width else P14.least za) := ⟨_, rfl⟩
      have hbk : b k = (bw, P14.least zb) := by rw [hb, rsize, hzab, hbw]
      have hmid := P14.rowsMid_last (P14.least gap) b fr (by rw [hfr]; rfl) k
      have hsn : flat2 ((List.range (k + 1)).map b) = flat2 ((List.range k).map b) ++ [.int .i64 bw, .int .i64 (P14.least zb)] := by
        rw [List.range_succ, List.map_append, List.map_singleton, flat2_snoc, hbk]
      have hr40 : (P14.rowsAt (P14.least gap) b fr k).length ≤ 40 := by have := P14.rowsAt_len (P14.least gap) b fr k; omega
      have hrow40 : ∀ j, ((P14.rowsAt (P14.least gap) b fr (k + 1)).getD j []).length ≤ 41 := fun j => by have := (P14.rowsAt_row (P14.least gap) b fr (k + 1) j).1; omega
      obtain ⟨X, hX⟩ : ∃ X, X = P14.rx (P14.least gap) b fr k := ⟨_, rfl⟩
      obtain ⟨q, hq⟩ : ∃ q : Bool, q = fr k X := ⟨_, rfl⟩
      obtain ⟨X2, hX2⟩ : ∃ X2, X2 = (if q = true then 0 else X) := ⟨_, rfl⟩
      have hxs : P14.rx (P14.least gap) b fr (k + 1) = P1.add (P1.add X2 bw) (P14.least gap) := by
        rw [P14.rx_succ, ← hX, hbk, ← hq, hX2]
      have hqv : q = (decide (k = 0) || decide (kind = 0) || (decide (kind = 1) && decide (P14.least width < P1.add X bw)) || (decide (kind = 2) && (k : Int) % (max 1 (min cols 64)) == 0)) := by
        rw [hq, hfr, rfresh, hbk]
      have hmidq : P14.rowsMid (P14.least gap) b fr k = if q = true then P14.rowsAt (P14.least gap) b fr k ++ [[]] else P14.rowsAt (P14.least gap) b fr k := by
        rw [P14.rowsMid, ← hX, ← hq]
      obtain ⟨rows, hrows⟩ : ∃ rows, rows = P14.rowsAt (P14.least gap) b fr k := ⟨_, rfl⟩
      rw [← hX]
      rw [← hrows] at hf hmidq hr40
      have H := Lib.hid (And.intro hbw (And.intro hmid (And.intro hsn (And.intro hrow40 (And.intro hxs (And.intro hqv hmidq))))))
      have HX2 := Lib.hid hX2
      have HF := Lib.hid hf
      clear hX2 hz hb hfr hc0 hc1 hzab hbw hbk hmid hsn hrow40 hX hq hxs hqv hmidq hrows hf
      go_upto_region 10 with fail
      go_cut [20] (fun s20 wx => ∃ s : Nat, s20 = .pointer (some ⟨s, 0, none⟩) ∧ Fb w wx u15 k (flat2 ((List.range k).map b)) u16 vs rows s (P14.least za) (P14.least zb))
      case first =>
        go_region_held3 (fun w' => w'.cell? ⟨wr.heap.size, 0, none⟩ = some (.int .i64 za) ∧ w'.cell? ⟨wr.heap.size, 1, none⟩ = some (.int .i64 zb)) (go_keep)
          (first | (go_at_call 76; ((with_reducible refine (rleast_any _ _).mono ?_); rintro e w' ⟨rfl, rfl⟩)))
        all_goals (go_wp2_with fail; go_meet; exact ⟨_, rfl, Fb.start HF.out _ _ _⟩)
      case rest =>
        obtain ⟨s, rfl, hb⟩ := hcut
        obtain ⟨d0, d1, d2, d3⟩ := hb.cells
        have hslt := hb.box.lt
        have HB1 := Lib.hid hb
        clear hb e0 e1
        go_upto_if 46 with fail
        go_cut [] (fun wx => Fb w wx u15 k (flat2 ((List.range k).map b)) u16 vs rows s bw (P14.least zb))
        case first =>
          by_cases hk2 : kind = 2
          · have HW := Lib.hid (show bw = P14.least width by rw [H.out.1, if_pos hk2])
            have hk2' : (kind == 2) = true := by simpa using hk2
            clear hk2
            go_wp2_with fail
            go_meet
            rw [HW.out]
            exact HB1.out.width _
          · have HW := Lib.hid (show bw = P14.least za by rw [H.out.1, if_neg hk2])
            have hk2' : (kind == 2) = false := by simpa using hk2
            clear hk2
            go_wp2_with fail
            go_meet
            rw [HW.out]
            exact HB1.out
        case rest =>
          have hb := hcut
          clear hcut d0 d1 d2 d3 hslt
          obtain ⟨d0, d1, d2, d3⟩ := hb.cells
          have hsz1 := hb.fl.size
          have HB2 := Lib.hid hb
          clear hb
          go_upto_region 14 with (first
            | (at_builtin; refine wpList_append_lies _ rfl _ _ _ rfl (w.heap.size + 1) 157 i0 _ 2 16 Tryz.underlying154 hi hz0 hz1 hz2 rfl (by decide) _ k (flat2 ((List.range k).map b)) rfl (HB2.out.fl.sizes.alloc _) _ 1 1 [.int .i64 bw, .int .i64 (P14.least zb)] rfl rfl (World.news_of_block (heap_alloc_new _ _)) (by intro u hu; simp at hu; rcases hu with rfl | rfl <;> rfl) (by omega) (by unfold maxLen; omega) (by omega) (by simp; omega) _ rfl ?_; intro g2 cap2 w2 hown2 hg2 hat2 hlt2))
          have hb2 := HB2.out.sized _ hown2 hg2 hat2
          clear hown2 hg2 hat2 hlt2 d0 d1 d2 d3
          obtain ⟨d0, d1, d2, d3⟩ := hb2.cells
          have HB3 := Lib.hid hb2
          clear hb2
          go_cut [21] (fun s21 wx => s21 = .bool q ∧ Fb w wx (.slice (some ⟨g2, 0, none⟩) (k + 1) cap2) (k + 1) (flat2 ((List.range k).map b) ++ [.int .i64 bw, .int .i64 (P14.least zb)]) u16 vs rows s bw (P14.least zb))
          case first =>
            have hki : (0 : Int) ≤ (k : Int) := by omega
            have QV := Lib.hid H.out.2.2.2.2.2.1
            by_cases c0 : k ≤ 0
            · have HA := Lib.hid (show q = true by rw [QV.out]; simp [show k = 0 by omega])
              have k0 : ((k : Int) == 0) = true := by simp; omega
              clear c0
              go_wp2_with (first | (go_at_call 74; ((with_reducible refine (radd_any _ _ _).mono ?_); rintro e w' ⟨rfl, rfl⟩)))
              go_meet
              exact ⟨by rw [HA.out]; first | done | rfl | (simp; done) | (simp; omega), HB3.out⟩
            · have k0 : ((k : Int) == 0) = false := by simp; omega
              by_cases c1 : kind = 0
              · have HA := Lib.hid (show q = true by rw [QV.out]; simp [c1])
                have k1 : (kind == 0) = true := by simpa using c1
                clear c1
                go_wp2_with (first | (go_at_call 74; ((with_reducible refine (radd_any _ _ _).mono ?_); rintro e w' ⟨rfl, rfl⟩)))
                go_meet
                exact ⟨by rw [HA.out]; first | done | rfl | (simp; done) | (simp; omega), HB3.out⟩
              · have k1 : (kind == 0) = false := by simpa using c1
                by_cases c2 : kind = 1
                · have k2 : (kind == 1) = true := by simpa using c2
                  have k3 : (kind == 2) = false := by simp; omega
                  by_cases c3 : P14.least width < P1.add X bw
                  · have HA := Lib.hid (show q = true by rw [QV.out]; simp [c2, c3])
                    clear c1 c2
                    go_wp2_with (first | (go_at_call 74; ((with_reducible refine (radd_any _ _ _).mono ?_); rintro e w' ⟨rfl, rfl⟩)))
                    go_meet
                    exact ⟨by rw [HA.out]; first | done | rfl | (simp; done) | (simp; omega), HB3.out⟩
                  · have HA := Lib.hid (show q = false by rw [QV.out]; simp [c2, c3]; omega)
                    clear c1 c2
                    go_wp2_with (first | (go_at_call 74; ((with_reducible refine (radd_any _ _ _).mono ?_); rintro e w' ⟨rfl, rfl⟩)))
                    go_meet
                    exact ⟨by rw [HA.out]; first | done | rfl | (simp; done) | (simp; omega), HB3.out⟩
                · have k2 : (kind == 1) = false := by simpa using c2
                  by_cases c3 : kind = 2
                  · have k3 : (kind == 2) = true := by simpa using c3
                    have HA := Lib.hid (show q = ((k : Int) % (max 1 (min cols 64)) == 0) by rw [QV.out]; simp [c3]; omega)
                    clear c1 c2 c3
                    have hnz : ¬ max 1 (min cols 64) = 0 := by omega
                    go_wp2_with (first | (go_at_call 74; ((with_reducible refine (radd_any _ _ _).mono ?_); rintro e w' ⟨rfl, rfl⟩)))
                    go_meet
                    exact ⟨by rw [HA.out]; first | done | rfl | (simp; done) | (simp; omega), HB3.out⟩
                  · have k3 : (kind == 2) = false := by simpa using c3
                    have HA := Lib.hid (show q = false by rw [QV.out]; simp [c1, c2, c3]; omega)
                    clear c1 c2 c3
                    go_wp2_with (first | (go_at_call 74; ((with_reducible refine (radd_any _ _ _).mono ?_); rintro e w' ⟨rfl, rfl⟩)))
                    go_meet
                    exact ⟨by rw [HA.out]; first | done | rfl | (simp; done) | (simp; omega), HB3.out⟩
          case rest =>
            obtain ⟨rfl, hb⟩ := hcut
            clear d0 d1 d2 d3 HB3
            have hsz2 := hb.fl.size
            have HB4 := Lib.hid hb
            clear hb
            go_upto_if 81 with fail
            go_cut [16, 17] (fun u x wx => ∃ vs2, x = .int .i64 X2 ∧ Fb w wx (.slice (some ⟨g2, 0, none⟩) (k + 1) cap2) (k + 1) (flat2 ((List.range k).map b) ++ [.int .i64 bw, .int .i64 (P14.least zb)]) u vs2 (if q = true then rows ++ [[]] else rows) s bw (P14.least zb))
            case first =>
              cases q
              · go_wp2_with fail
                go_meet
                exact ⟨vs, by rw [HX2.out]; rfl, HB4.out⟩
              · go_wp2_with (first
                  | (at_builtin; refine wpList_append_lies _ rfl _ _ _ rfl (w.heap.size + 1) 71 i1 _ 1 24 Tryz.underlying191 hi1 hy0 hy1 hy2 rfl (by decide) _ rows.length vs rfl ((HB4.out.fl.rws.alloc _).alloc _) _ 1 1 [.slice (some ⟨wc.heap.size, 0, none⟩) 0 0] rfl rfl (news_second _ _ _ _) (by intro u hu; simp at hu; subst hu; rfl) (by omega) (by unfold maxLen; omega) (by omega) (by simp; omega) _ rfl ?_; intro g3 cap3 w3 hown3 hg3 hat3 hlt3))
                go_meet
                exact ⟨_, by rw [HX2.out]; rfl, HB4.out.newrow _ hown3 hg3⟩
            case rest =>
              obtain ⟨vs2, rfl, hb⟩ := hcut
              obtain ⟨rows0, l, hm1, hm2⟩ := H.out.2.1
              have hm3 := H.out.2.2.2.2.2.2
              rw [hm1] at hm3
              rw [← hm3] at hb
              have hl41 : l.length ≤ 40 := by
                have := H.out.2.2.2.1 rows0.length
                rw [hm2] at this
                simp [List.getD] at this
                omega
              have hrl : rows0.length ≤ 40 := by
                have h1 : (rows0 ++ [l]).length ≤ 41 := by rw [hm3]; split <;> (try rw [List.length_append, List.length_singleton]) <;> omega
                simp at h1; omega
              have hM := Lib.hid hm2
              clear hm1 hm2 hm3
              have hvl : vs2.length = rows0.length + 1 := by have := hb.fl.fam.len; simpa using this
              obtain ⟨vs0, x, rfl⟩ : ∃ vs0 x, vs2 = vs0 ++ [x] := ⟨vs2.dropLast, vs2.getLast (by intro h; rw [h] at hvl; simp at hvl), (List.dropLast_concat_getLast _).symm⟩
              have hv0 : vs0.length = rows0.length := by simpa using hvl
              have hru := hb.fl.rws
              rw [show (rows0 ++ [l]).length = rows0.length + 1 by simp] at hru
              obtain ⟨g3, c3, hu, _, _⟩ := hru.form (by omega)
              subst hu
              have hx := hb.fl.fam.each vs0.length x (by simp)
              rw [show (rows0 ++ [l]).getD vs0.length [] = l by rw [hv0]; simp [List.getD]] at hx
              obtain ⟨Ax, cx, hxv⟩ := own_form hx
              subst hxv
              have hcell := hru.cellAt rows0.length (by omega)
              rw [← hv0] at hcell
              simp only [List.getElem?_concat_length] at hcell
              rw [hv0] at hcell
              obtain ⟨d0, d1, d2, d3⟩ := hb.cells
              have hsz3 := hb.fl.size
              have HX := Lib.hid hx
              have HB5 := Lib.hid hb
              clear hvl hv0 hru hx hb HB4
              go_wp2_with (first
                | (at_builtin; refine wpList_append_lies _ rfl _ _ _ rfl (w.heap.size + 1) 3 i2 _ 1 8 Tryz.underlying71 hi2 hx0 hx1 hx2 rfl (by decide) _ l.length (nums l) rfl (HX.out.alloc _) _ 1 1 [.int .i64 (k : Nat)] rfl rfl (World.news_of_block (heap_alloc_new _ _)) (by intro u hu; simp at hu; subst hu; rfl) (by omega) (by unfold maxLen; omega) (by omega) (by simp; omega) _ rfl ?_; intro g4 cap4 w4 hown4 hg4 hat4 hlt4; obtain ⟨s0, s1, hfb⟩ := HB5.out.grown (i := k) _ hown4 hg4 (by rcases hat4 with h | h; exact .inl h.symm; exact .inr (by rw [← h]; rfl)); obtain ⟨d0', d1', d2', d3'⟩ := hfb.cells; have HB6 := Lib.hid hfb; clear hfb hown4 hg4 hat4 hlt4)
                | (go_at_call 74; ((with_reducible refine (radd_any _ _ _).mono ?_); rintro e w' ⟨rfl, rfl⟩)))
              go_roundw
              case rel =>
                refine ⟨k + 1, vs0 ++ [.slice (some ⟨g4, 0, none⟩) (l.length + 1) cap4], by omega, by go_num, by rw [H.out.2.2.2.2.1], ?_⟩
                have h := HB6.out.fl
                rw [← H.out.2.2.1, ← hM.out] at h
                exact h
              case measure => simp [intOf]; omega
    · obtain rfl : k = n := by omega
      have hrl := P14.rowsAt_len (P14.least gap) b fr k
      have hrw := P14.rowsAt_row (P14.least gap) b fr k
      have hin := P14.rowsAt_in (P14.least gap) b fr k
      obtain ⟨rows, hrows⟩ : ∃ rows, rows = P14.rowsAt (P14.least gap) b fr k := ⟨_, rfl⟩
      rw [← hrows] at hf hrl hrw hin
      obtain ⟨AR, cR, hu⟩ := own_form hf.rws
      subst hu
      obtain ⟨AS, cS, hv⟩ := own_form hf.sizes
      subst hv
      have hS1 : S = P14.placed (P14.least gap) (fun i => ((List.range k).map b).getD i (0, 0)) rows rows.length ∧ SH = P14.high (P14.least gap) (fun i => ((List.range k).map b).getD i (0, 0)) rows rows.length := by
        have hsame := P14.placed_same (P14.least gap) b (b' := fun i => ((List.range k).map b).getD i (0, 0)) rows (fun r hr i hi => (range_map_getD b k i ((hin r hr).2 i hi)).symm)
        refine ⟨by rw [HS.out.1, ← hrows, hsame], ?_⟩
        rw [HS.out.2, ← hrows, P14.high, P14.high, hsame]
      have HP := Lib.hid (And.intro hf.rowsOf (And.intro (Pairs.of_own hf.sizes (by simp)) (And.intro (fun j i hi => (hrw j).2 i hi) (And.intro (show rows.length ≤ 40 by omega) (fun j => Nat.le_trans (hrw j).1 hn)))))
      have HS1 := Lib.hid hS1
      have HF := Lib.hid hf
      clear hrl hrw hin hrows hf hS1
      go_wp2_with fail
      refine (place_any AR cR rows AS k cS ((List.range k).map b) (P14.least gap) _ HP.out.1 HP.out.2.1 HP.out.2.2.1 HP.out.2.2.2.1 HP.out.2.2.2.2).mono ?_
      rintro e w1 ⟨A1, c1, rfl, ho, hb⟩
      rw [← HS1.out.1, ← HS1.out.2] at *
      have hr := HF.out.res.below hb HF.out.size
      have r0 := hr.cell 0
      have r1 := hr.cell 1
      have r2 := hr.frozen 0
      have r3 := hr.frozen 1
      have hd := cell_done HF.out.below (Nat.le_refl _) HF.out.res (by decide) ho hb (.int .i64 S.W) (.int .i64 SH)
      have HD := Lib.hid hd
      clear hd ho hb hr
      go_wp2
      exact bodyPost_ret (v := .tuple #[.slice A1 S.out.length c1, .agg #[.int .i64 S.W, .int .i64 SH]]) (by simp [results, Tryz.results82, go_sem, r0, r1]) rfl ⟨A1, c1, rfl, HD.out⟩

end Go.Proofs.YtaalhglooipnaaaGreat.Fl
namespace Go.Proofs.YtaalhglooipnaaaGreat.Fl
open Go.RowKit

theorem putSt_len (kind width cols gap : Int) (zs : List (Int × Int)) : (putSt kind width cols gap zs).out.length = zs.length := by
  unfold putSt
  split
  · exact P14.penAt_len _ _ _ _
  · split
    · exact P14.penAt_len _ _ _ _
    · exact P14.penAt_len _ _ _ _

/-- The kind as the statement hands it to the document. -/
def kind2 (kind : Int) : Int := if kind = 0 ∨ kind = 1 then kind else 2

theorem flow_law (kind width cols gap : Int) (zs : List (Int × Int)) (b : Nat → Int × Int) (hb : b = rsize (kind2 kind) (P14.least width) zs) (fr : Nat → Int → Bool) (hfr : fr = rfresh (kind2 kind) (P14.least width) (max 1 (min cols 64)) b) :
    P14.placed (P14.least gap) b (P14.rowsAt (P14.least gap) b fr zs.length) (P14.rowsAt (P14.least gap) b fr zs.length).length = putSt kind width cols gap zs ∧
    P14.high (P14.least gap) b (P14.rowsAt (P14.least gap) b fr zs.length) (P14.rowsAt (P14.least gap) b fr zs.length).length = P1.add (putSt kind width cols gap zs).y (putSt kind width cols gap zs).h := by
  have key : ∃ nx, (∀ k x, fr k x = true ↔ (k = 0 ∨ nx k x (b k).1 = true)) ∧ putSt kind width cols gap zs = P14.penAt (P14.least gap) b nx zs.length := by
    by_cases h0 : kind = 0
    · refine ⟨nStack, fun k x => ?_, ?_⟩
      · rw [hfr]; simp [rfresh, kind2, h0, nStack]
      · have e : b = bStack zs := by rw [hb]; funext k; simp [rsize, kind2, h0, bStack]
        rw [putSt, if_pos h0, e]
    · by_cases h1 : kind = 1
      · refine ⟨nWrap (P14.least width), fun k x => ?_, ?_⟩
        · rw [hfr]; simp [rfresh, kind2, h1, nWrap]
        · have e : b = bWrap zs := by rw [hb]; funext k; simp [rsize, kind2, h1, bWrap]
          rw [putSt, if_neg h0, if_pos h1, e]
      · refine ⟨nGrid (max 1 (min cols 64)), fun k x => ?_, ?_⟩
        · rw [hfr]; simp [rfresh, kind2, h0, h1, nGrid]
        · have e : b = bGrid (P14.least width) zs := by rw [hb]; funext k; simp [rsize, kind2, h0, h1, bGrid]
          rw [putSt, if_neg h0, if_neg h1, e]
  obtain ⟨nx, hf, hp⟩ := key
  obtain ⟨_, hne, hpl⟩ := P14.same (g := P14.least gap) hf zs.length
  refine ⟨by rw [hpl, hp], ?_⟩
  rw [P14.high, hpl, hp]
  by_cases hz : zs.length = 0
  · rw [hz]; show (0 : Int) = P1.add 0 0; decide
  · have hl : (P14.rowsAt (P14.least gap) b fr zs.length).length ≠ 0 := fun h => hne (by omega) (List.eq_nil_of_length_eq_zero h)
    rw [if_neg hl]

end Go.Proofs.YtaalhglooipnaaaGreat.Fl
namespace Go.Proofs.YtaalhglooipnaaaGreat
open Go.RowKit RT
attribute [local go_sem ↓] Go.wp_at_zero Go.wp_at_succ

/-- A name's value, and whether it is there. -/
def gtS : List Pr → ByteArray → Int × Bool
  | [], _ => (0, false)
  | p :: l, s => if p.1 = s then (p.2, true) else gtS l s
theorem gt_hit (s : ByteArray) : ∀ (l : List Pr), Rise l → ∀ k, k < l.length → (l.getD k pr0).1 = s → gtS l s = ((l.getD k pr0).2, true)
  | [], _, k, hk, _ => by simp at hk
  | a :: l, h, 0, _, e => by
    have e' : a.1 = s := e
    rw [gtS, if_pos e']; rfl
  | a :: l, h, k + 1, hk, e => by
    obtain ⟨h1, h2⟩ := List.pairwise_cons.1 h
    have hk' : k < l.length := by simpa using hk
    have e' : (l.getD k pr0).1 = s := e
    have hm : l.getD k pr0 ∈ l := by
      have : l.getD k pr0 = l[k] := by simp [List.getD, hk']
      rw [this]; exact List.getElem_mem hk'
    have hne : ¬ a.1 = s := fun ea => by
      have := h1 _ hm
      rw [e', ea, lt_irrefl] at this
      cases this
    rw [gtS, if_neg hne]
    exact gt_hit s l h2 k hk' e'
theorem gt_miss (s : ByteArray) : ∀ (l : List Pr), (∀ k, k < l.length → (l.getD k pr0).1 ≠ s) → gtS l s = (0, false)
  | [], _ => rfl
  | a :: l, h => by
    rw [gtS, if_neg (show ¬ a.1 = s from h 0 (by simp))]
    exact gt_miss s l fun k hk => h (k + 1) (by simpa using hk)

theorem gt_at {l : List Pr} {s : ByteArray} {r : Nat} (hl : Rise l) (h : At l s r) : gtS l s = if isAt l s r = true then ((l.getD r pr0).2, true) else (0, false) := by
  by_cases hq : isAt l s r = true
  · rw [if_pos hq]
    simp only [isAt, Bool.and_eq_true, decide_eq_true_eq] at hq
    exact gt_hit s l hl r hq.1 hq.2
  · rw [if_neg hq]
    refine gt_miss s l fun k hk e => ?_
    rcases Nat.lt_or_ge k r with hkr | hkr
    · have := h.low k hkr
      rw [e, lt_irrefl] at this; cases this
    · simp only [isAt, Bool.and_eq_true, decide_eq_true_eq, not_and] at hq
      have hr := hq (by omega)
      rcases Nat.lt_or_ge r k with h2 | h2
      · have h3 := hl.srt r k h2 hk
        rw [e] at h3
        have := h.high r (Nat.le_refl _) (by omega)
        rw [h3] at this; cases this
      · have : k = r := by omega
        rw [this] at e
        exact hr e
set_option maxRecDepth 100000 in
set_option maxHeartbeats 4000000 in
/-- Get of a Map, of pairs that rise. -/
theorem get_map (A : Option Addr) (n c : Nat) (l : List Pr) (s : ByteArray) (w : World) (hz : Ps w w.heap.size A n l) (hn : n ≤ 500) (hr : Rise l) :
    Calls Tryz.prog 154 #[.slice A n c, .string s] w fun e w' => e = .returned (.tuple #[.int .i64 (gtS l s).1, .bool (gtS l s).2]) ∧ Below w.heap.size w w' := by
  obtain rfl : l.length = n := hz.1
  have HZ := Lib.hid hz
  clear hz
  go_enter Tryz.func154, Tryz.ntmps154
  go_wp2_with fail
  refine (of_any A l.length c l _ HZ.out hn).mono ?_
  rintro e w1 ⟨A1, c1, rfl, hown, hb⟩
  rw [ofS_id hr] at hown ⊢
  have HO := Lib.hid (And.intro (RdS.of_own (cv := cvP) (sz := 2) (d := pr0) (fun _ _ => rfl) hown rfl) hb)
  have HR := Lib.hid hr
  clear hown hb hr
  go_wp2_with fail
  refine (where_any A1 _ c1 w1.heap.size l s w1 (HO.out.1.rd fun b h => h.2) (Nat.le_refl _) (by omega) HR.out.srt).mono ?_
  rintro e w2 ⟨r, rfl, hat, hb2⟩
  have HG := Lib.hid (gt_at HR.out hat)
  have HB := Lib.hid (And.intro hb2 (HO.out.2.trans (hb2.mono HO.out.2.size)))
  by_cases hq : isAt l s r = true
  · have hrl : r < l.length := by simp only [isAt, Bool.and_eq_true, decide_eq_true_eq] at hq; exact hq.1
    have HE := Lib.hid (show gtS l s = ((l.getD r pr0).2, true) by rw [HG.out, if_pos hq])
    obtain ⟨b, off, rfl, hbB, d0⟩ := HO.out.1.2 r hrl
    have d1 := d0 1 (by omega)
    replace d1 : w2.cell? ⟨b, off + r * 2 + 1, none⟩ = some (.int .i64 (l.getD r pr0).2) := (HB.out.1.cell (p := ⟨b, off + r * 2 + 1, none⟩) hbB.2).trans d1
    obtain ⟨x, hx⟩ : ∃ x, x = (l.getD r pr0).2 := ⟨_, rfl⟩
    rw [← hx] at d1
    have HX := Lib.hid hx
    rw [hq]
    have i1 : (0 : Int) ≤ (r : Int) := by omega
    have i2 : (r : Int) < (l.length : Int) := by omega
    clear hq hat hb2 d0 hbB hx HG
    go_wp2_with fail
    exact bodyPost_ret (v := .tuple #[.int .i64 x, .bool true]) (by simp [results, Tryz.results154, go_sem]) rfl ⟨by rw [HE.out, ← HX.out], HB.out.2⟩
  · have HE := Lib.hid (show gtS l s = (0, false) by rw [HG.out, if_neg hq])
    rw [Bool.not_eq_true] at hq
    rw [hq]
    clear hq hat hb2 HG
    go_wp2_with fail
    exact bodyPost_ret (v := .tuple #[.int .i64 0, .bool false]) (by simp [results, Tryz.results154, go_sem]) rfl ⟨by rw [HE.out], HB.out.2⟩
set_option maxRecDepth 100000 in
set_option maxHeartbeats 4000000 in
/-- Get of the document's. -/
theorem get_ref (A : Option Addr) (n c : Nat) (l : List Pr) (s : ByteArray) (w : World) (hz : Ps w w.heap.size A n l) (hn : n ≤ 500) (hr : Rise l) :
    Calls Tryz.prog 77 #[.slice A n c, .string s] w fun e w' => e = .returned (.tuple #[.int .i64 (gtS l s).1, .bool (gtS l s).2]) ∧ w' = w := by
  obtain rfl : l.length = n := hz.1
  have HZ := Lib.hid hz
  have HR := Lib.hid hr
  clear hz hr
  go_enter Tryz.func77, Tryz.ntmps77
  go_wp2_with fail
  go_loopw [6] (fun i wx => ∃ k : Nat, k ≤ l.length ∧ i = .int .i64 ((k : Int) - 1) ∧ wx = w ∧ ∀ j, k ≤ j → j < l.length → (l.getD j pr0).1 ≠ s) (fun i _ => (intOf i + 1).toNat)
  case atStart => exact ⟨l.length, Nat.le_refl _, by go_num, rfl, fun j h h' => by omega⟩
  case round =>
    obtain ⟨k, hk, rfl, rfl, hno⟩ := hrel
    have HN := Lib.hid hno
    clear hno
    obtain ⟨m, hm⟩ : ∃ m : Int, m = (k : Int) - 1 := ⟨_, rfl⟩
    rw [← hm]
    by_cases h0 : k = 0
    · have HE := Lib.hid (gt_miss s l fun j hj => HN.out j (by omega) hj)
      have i1 : ¬ (0 : Int) ≤ m := by omega
      clear hm h0
      go_wp2_with fail
      exact bodyPost_ret (v := .tuple #[.int .i64 0, .bool false]) (by simp [results, Tryz.results77, go_sem]) rfl ⟨by rw [HE.out], rfl⟩
    · obtain ⟨q, rfl⟩ : ∃ q : Nat, k = q + 1 := ⟨k - 1, by omega⟩
      obtain rfl : m = (q : Int) := by omega
      have hq : q < l.length := by omega
      clear hm
      obtain ⟨b, off, rfl, hbB, d0⟩ := HZ.out.2 q hq
      have d1 := d0 1 (by omega)
      replace d0 := d0 0 (by omega)
      obtain ⟨x, hx⟩ : ∃ x, x = l.getD q pr0 := ⟨_, rfl⟩
      rw [← hx] at d0 d1
      replace d0 : wr.cell? ⟨b, off + q * 2, none⟩ = some (.string x.1) := d0
      replace d1 : wr.cell? ⟨b, off + q * 2 + 1, none⟩ = some (.int .i64 x.2) := d1
      have HX := Lib.hid hx
      clear hx
      have i1 : (0 : Int) ≤ (q : Int) := by omega
      have i2 : (q : Int) < (l.length : Int) := by omega
      by_cases he : (x.1.toList == s.toList) = true
      · have HE := Lib.hid (show gtS l s = (x.2, true) by
          have := gt_hit s l HR.out q hq (by rw [← HX.out]; exact toList_inj (by simpa using he))
          rw [this, ← HX.out])
        go_wp2_with fail
        exact bodyPost_ret (v := .tuple #[.int .i64 x.2, .bool true]) (by simp [results, Tryz.results77, go_sem]) rfl ⟨by rw [HE.out], rfl⟩
      · have HNE := Lib.hid (show x.1 ≠ s from fun e => he (by rw [e]; simp))
        rw [Bool.not_eq_true] at he
        go_wp2_with fail
        go_roundw
        case rel =>
          refine ⟨q, by omega, by go_num, trivial, fun j h1 h2 => ?_⟩
          rcases Nat.lt_or_ge j (q + 1) with h | h
          · obtain rfl : j = q := by omega
            rw [← HX.out]; exact HNE.out
          · exact HN.out j h h2
        case measure => simp [intOf]

theorem scells {w : World} {X : Nat} {d : SD} {a1 a2 a3 k : Value} (h : Blk w X 40 (sC d a1 a2 a3 k).toArray) : w.cell? ⟨X, 0, none⟩ = some (.int .i64 d.id) ∧ w.cell? ⟨X, 1, none⟩ = some (.int .i64 d.kind) ∧ w.cell? ⟨X, 2, none⟩ = some (.string d.tag) ∧ w.cell? ⟨X, 3, none⟩ = some (.string d.text) ∧ w.cell? ⟨X, 4, none⟩ = some (a1) ∧ w.cell? ⟨X, 5, none⟩ = some (a2) ∧ w.cell? ⟨X, 6, none⟩ = some (a3) ∧ w.cell? ⟨X, 7, none⟩ = some (k) :=
  ⟨h.cell 0, h.cell 1, h.cell 2, h.cell 3, h.cell 4, h.cell 5, h.cell 6, h.cell 7⟩
theorem rcells {w : World} {X : Nat} {d : SD} {a1 a2 a3 k : Value} (h : Blk w X 68 (sC d a1 a2 a3 k).toArray) : w.cell? ⟨X, 0, none⟩ = some (.int .i64 d.id) ∧ w.cell? ⟨X, 1, none⟩ = some (.int .i64 d.kind) ∧ w.cell? ⟨X, 2, none⟩ = some (.string d.tag) ∧ w.cell? ⟨X, 3, none⟩ = some (.string d.text) ∧ w.cell? ⟨X, 4, none⟩ = some (a1) ∧ w.cell? ⟨X, 5, none⟩ = some (a2) ∧ w.cell? ⟨X, 6, none⟩ = some (a3) ∧ w.cell? ⟨X, 7, none⟩ = some (k) :=
  ⟨h.cell 0, h.cell 1, h.cell 2, h.cell 3, h.cell 4, h.cell 5, h.cell 6, h.cell 7⟩
/-- Styles that rise. -/
def stOk (d : SD) : Prop := Rise d.st ∧ d.st.length ≤ 500
def styV (d : SD) (s : ByteArray) : Int := Fl.P14.least (gtS d.st s).1
set_option maxRecDepth 100000 in
set_option maxHeartbeats 4000000 in
theorem style_any (d : SD) (a1 a2 a3 : Value) (A4 : Option Addr) (n4 c4 : Nat) (s : ByteArray) (w : World) (hr : Rows3 w (Old w) d.cl d.at_ d.st a1 a2 a3) (hs : stOk d) :
    Calls Tryz.prog 131 #[sV d a1 a2 a3 (.slice A4 n4 c4), .string s] w fun e w' => e = .returned (.tuple #[.int .i64 (styV d s), .bool (gtS d.st s).2]) ∧ Below w.heap.size w w' := by
  obtain ⟨A1, c1, A2, c2, A3, c3, rfl, rfl, rfl, _, _, r3⟩ := hr
  obtain ⟨w1, hw1, hX, hB0, hs1⟩ := one_new w (sC d (.slice A1 d.cl.length c1) (.slice A2 d.at_.length c2) (.slice A3 d.st.length c3) (.slice A4 n4 c4)).toArray 40
  unfold sV sC
  unfold sC at hX hw1
  go_enter Tryz.func131, Tryz.ntmps131
  go_upto_region 1 with fail
  rw [← hw1]
  obtain ⟨X, hXe⟩ : ∃ X, X = w.heap.size := ⟨_, rfl⟩
  rw [← hXe] at hX ⊢
  have x6 : w1.cell? ⟨X, 6, none⟩ = some (.slice A3 d.st.length c3) := hX.cell 6
  have HB := Lib.hid hB0
  have HPS := Lib.hid (show Ps w1 w1.heap.size A3 d.st.length d.st from (r3.move (w' := w1) (.of_below hB0 fun _ h => h)).rd fun b h => Nat.lt_of_lt_of_le h hB0.size)
  clear hw1 hXe hX hB0 hs1 r3
  go_wp2_with fail
  refine (get_map A3 d.st.length c3 d.st s w1 HPS.out hs.2 hs.1).mono ?_
  rintro e w2 ⟨rfl, hb2⟩
  have HB2 := Lib.hid (HB.out.trans (hb2.mono HB.out.size))
  clear hb2
  obtain ⟨g, hg⟩ : ∃ g, g = gtS d.st s := ⟨_, rfl⟩
  rw [← hg]
  have HG := Lib.hid (show styV d s = Fl.P14.least g.1 by rw [hg]; rfl)
  have HG2 := Lib.hid hg
  clear hg
  obtain ⟨x, y⟩ := g
  go_wp2_with (first | (go_at_call 106; ((with_reducible refine (Fl.sat_any _ _).mono ?_); rintro e w' ⟨rfl, rfl⟩)))
  exact bodyPost_ret (v := .tuple #[.int .i64 (Fl.P14.least x), .bool y]) (by simp [results, Tryz.results131, go_sem, Fl.P14.least]) rfl ⟨by rw [HG.out, ← HG2.out], HB2.out⟩
set_option maxRecDepth 100000 in
set_option maxHeartbeats 4000000 in
theorem rstyle_any (d : SD) (a1 a2 a3 : Value) (A4 : Option Addr) (n4 c4 : Nat) (s : ByteArray) (w : World) (hr : Rows3 w (Old w) d.cl d.at_ d.st a1 a2 a3) (hs : stOk d) :
    Calls Tryz.prog 73 #[sV d a1 a2 a3 (.slice A4 n4 c4), .string s] w fun e w' => e = .returned (.tuple #[.int .i64 (styV d s), .bool (gtS d.st s).2]) ∧ Below w.heap.size w w' := by
  obtain ⟨A1, c1, A2, c2, A3, c3, rfl, rfl, rfl, _, _, r3⟩ := hr
  obtain ⟨w1, hw1, hX, hB0, hs1⟩ := one_new w (sC d (.slice A1 d.cl.length c1) (.slice A2 d.at_.length c2) (.slice A3 d.st.length c3) (.slice A4 n4 c4)).toArray 68
  unfold sV sC
  unfold sC at hX hw1
  go_enter Tryz.func73, Tryz.ntmps73
  go_upto_region 1 with fail
  rw [← hw1]
  obtain ⟨X, hXe⟩ : ∃ X, X = w.heap.size := ⟨_, rfl⟩
  rw [← hXe] at hX ⊢
  have x6 : w1.cell? ⟨X, 6, none⟩ = some (.slice A3 d.st.length c3) := hX.cell 6
  have HB := Lib.hid hB0
  have HPS := Lib.hid (show Ps w1 w1.heap.size A3 d.st.length d.st from (r3.move (w' := w1) (.of_below hB0 fun _ h => h)).rd fun b h => Nat.lt_of_lt_of_le h hB0.size)
  clear hw1 hXe hX hB0 hs1 r3
  go_wp2_with fail
  refine (get_ref A3 d.st.length c3 d.st s w1 HPS.out hs.2 hs.1).mono ?_
  rintro e w2 ⟨rfl, rfl⟩
  have HB2 := Lib.hid HB.out
  obtain ⟨g, hg⟩ : ∃ g, g = gtS d.st s := ⟨_, rfl⟩
  rw [← hg]
  have HG := Lib.hid (show styV d s = Fl.P14.least g.1 by rw [hg]; rfl)
  have HG2 := Lib.hid hg
  clear hg
  obtain ⟨x, y⟩ := g
  go_wp2_with (first | (go_at_call 76; ((with_reducible refine (Fl.rleast_any _ _).mono ?_); rintro e w' ⟨rfl, rfl⟩)))
  exact bodyPost_ret (v := .tuple #[.int .i64 (Fl.P14.least x), .bool y]) (by simp [results, Tryz.results73, go_sem, Fl.P14.least]) rfl ⟨by rw [HG.out, ← HG2.out], HB2.out⟩

end Go.Proofs.YtaalhglooipnaaaGreat
