/-
  The walks over clone, Get of layer 5.
-/
import Derived.Test.YtaalhglooipnaaaGreatL24
import Derived.Test.YtaalhglooipnaaaGreatL21
namespace Go.Proofs.YtaalhglooipnaaaGreat
open Go.RowKit RT
attribute [local go_sem ↓] Go.wp_at_zero Go.wp_at_succ

theorem nums_flat (l : List Int) : nums l = l.flatMap cvN := by
  induction l with
  | nil => rfl
  | cons a l ih => rw [List.flatMap_cons, ← ih]; rfl
def CloR2 (W : World) (g N i : Nat) (d : ND) (A1 A2 A3 A4 : Option Addr) (c1 c2 c3 c4 : Nat) : Nat → Value → World → Prop
  | 0, v, _ => v = .pointer (some ⟨g, 0, none⟩)
  | 1, v, _ => v = .pointer (some ⟨g, 0, none⟩)
  | 2, v, _ => v = .pointer (some ⟨g, 4, none⟩)
  | 3, v, _ => v = .slice A1 d.cl.length c1
  | 4, v, w => RowS W.heap.size d.cl v w
  | 5, v, _ => v = .pointer (some ⟨g, 0, none⟩)
  | 6, v, _ => v = .pointer (some ⟨g, 0, none⟩)
  | 7, v, _ => v = .pointer (some ⟨g, 8, none⟩)
  | 8, v, _ => v = .slice A4 d.kids.length c4
  | 9, v, w => RowN W.heap.size d.kids v w
  | 10, v, _ => v = .pointer (some ⟨N, 4, none⟩)
  | _, _, _ => True
theorem CloR2_keep (W : World) (g N i : Nat) (d : ND) (A1 A2 A3 A4 : Option Addr) (c1 c2 c3 c4 : Nat) (j : Nat) (v : Value) (w w' : World) (h : CloR2 W g N i d A1 A2 A3 A4 c1 c2 c3 c4 j v w) (hb : Below w.heap.size w w') : CloR2 W g N i d A1 A2 A3 A4 c1 c2 c3 c4 j v w' := by
  match j with
  | 0 => exact h
  | 1 => exact h
  | 2 => exact h
  | 3 => exact h
  | 4 => exact Row.keep h hb
  | 5 => exact h
  | 6 => exact h
  | 7 => exact h
  | 8 => exact h
  | 9 => exact Row.keep h hb
  | 10 => exact h
  | _ + 11 => trivial
def CloR3 (W : World) (g N i : Nat) (d : ND) (A1 A2 A3 A4 : Option Addr) (c1 c2 c3 c4 : Nat) : Nat → Value → World → Prop
  | 0, v, _ => v = .pointer (some ⟨g, 0, none⟩)
  | 1, v, _ => v = .pointer (some ⟨g, 0, none⟩)
  | 2, v, _ => v = .pointer (some ⟨g, 5, none⟩)
  | 3, v, _ => v = .slice A2 d.at_.length c2
  | 4, v, w => RowA 90 W.heap.size d.at_ v w
  | 5, v, _ => v = .pointer (some ⟨g, 0, none⟩)
  | 6, v, _ => v = .pointer (some ⟨g, 0, none⟩)
  | 7, v, _ => v = .pointer (some ⟨g, 6, none⟩)
  | 8, v, _ => v = .slice A3 d.st.length c3
  | 9, v, w => RowP 105 W.heap.size d.st v w
  | 10, v, _ => v = .pointer (some ⟨N, 5, none⟩)
  | _, _, _ => True
theorem CloR3_keep (W : World) (g N i : Nat) (d : ND) (A1 A2 A3 A4 : Option Addr) (c1 c2 c3 c4 : Nat) (j : Nat) (v : Value) (w w' : World) (h : CloR3 W g N i d A1 A2 A3 A4 c1 c2 c3 c4 j v w) (hb : Below w.heap.size w w') : CloR3 W g N i d A1 A2 A3 A4 c1 c2 c3 c4 j v w' := by
  match j with
  | 0 => exact h
  | 1 => exact h
  | 2 => exact h
  | 3 => exact h
  | 4 => exact Row.keep h hb
  | 5 => exact h
  | 6 => exact h
  | 7 => exact h
  | 8 => exact h
  | 9 => exact Row.keep h hb
  | 10 => exact h
  | _ + 11 => trivial
/-- A copy of a node. -/
def CopyI (B : Nat) (w : World) (i : Nat) (d : ND) (N : Nat) : Prop := B ≤ N ∧ ∃ a1 a2 a3 k, Blk w N 97 (nC i d a1 a2 a3 k).toArray ∧ RowS B d.cl a1 w ∧ RowA 90 B d.at_ a2 w ∧ RowP 105 B d.st a3 w ∧ RowN B d.kids k w
set_option maxRecDepth 100000 in
set_option maxHeartbeats 8000000 in
theorem clone_node (g i : Nat) (d : ND) (A1 A2 A3 A4 : Option Addr) (c1 c2 c3 c4 : Nat) (w : World) (S : Nat → Prop) (hS : ∀ b, S b → b < w.heap.size) (hg : Blk w g 97 (nC i d (.slice A1 d.cl.length c1) (.slice A2 d.at_.length c2) (.slice A3 d.st.length c3) (.slice A4 d.kids.length c4)).toArray)
    (r1 : RdS cvS ByteArray.empty 1 w S A1 d.cl.length d.cl) (r2 : RdS St.cvP St.pr0 2 w S A2 d.at_.length d.at_) (r3 : RdS cvP pr0 2 w S A3 d.st.length d.st) (r4 : RdS cvN 0 1 w S A4 d.kids.length d.kids) (hb : d.cl.length ≤ 1000 ∧ d.at_.length ≤ 1000 ∧ d.st.length ≤ 1000 ∧ d.kids.length ≤ 1000) :
    Calls Tryz.prog 71 #[.pointer (some ⟨g, 0, none⟩)] w fun e w' => ∃ N, e = .returned (.pointer (some ⟨N, 0, none⟩)) ∧ CopyI w.heap.size w' i d N ∧ Below w.heap.size w w' := by
  obtain ⟨hb1, hb2, hb3, hb4⟩ := hb
  obtain ⟨w1, hw1, hN, hbw, hs1⟩ := one_new w (nC i d (.slice A1 d.cl.length c1) (.slice A2 d.at_.length c2) (.slice A3 d.st.length c3) (.slice A4 d.kids.length c4)).toArray 97
  have y0 : w.cell? ⟨g, 0, none⟩ = some (.int .i64 i) := hg.cell 0
  have y1 : w.cell? ⟨g, 1, none⟩ = some (.int .i64 d.kind) := hg.cell 1
  have y2 : w.cell? ⟨g, 2, none⟩ = some (.string d.tag) := hg.cell 2
  have y3 : w.cell? ⟨g, 3, none⟩ = some (.string d.text) := hg.cell 3
  have y4 : w.cell? ⟨g, 4, none⟩ = some (.slice A1 d.cl.length c1) := hg.cell 4
  have y5 : w.cell? ⟨g, 5, none⟩ = some (.slice A2 d.at_.length c2) := hg.cell 5
  have y6 : w.cell? ⟨g, 6, none⟩ = some (.slice A3 d.st.length c3) := hg.cell 6
  have y7 : w.cell? ⟨g, 7, none⟩ = some (.int .i64 d.par) := hg.cell 7
  have y8 : w.cell? ⟨g, 8, none⟩ = some (.slice A4 d.kids.length c4) := hg.cell 8
  have HGN := Lib.hid (hg.below hbw hg.lt)
  have HRW := Lib.hid (show RdS cvS ByteArray.empty 1 w1 S A1 d.cl.length d.cl ∧ RdS St.cvP St.pr0 2 w1 S A2 d.at_.length d.at_ ∧ RdS cvP pr0 2 w1 S A3 d.st.length d.st ∧ RdS cvN 0 1 w1 S A4 d.kids.length d.kids ∧ ∀ b, S b → b < w1.heap.size from
    ⟨r1.move (.of_below hbw hS), r2.move (.of_below hbw hS), r3.move (.of_below hbw hS), r4.move (.of_below hbw hS), fun b h => Nat.lt_of_lt_of_le (hS b h) hbw.size⟩)
  have HN := Lib.hid (And.intro hN (And.intro hbw (And.intro hs1 hg.lt)))
  clear hg r1 r2 r3 r4 hN hbw hs1
  unfold nC at hw1
  go_enter Tryz.func71, Tryz.ntmps71
  go_upto_region 2 with fail
  rw [← hw1]
  obtain ⟨N, hNe⟩ : ∃ N, N = w.heap.size := ⟨_, rfl⟩
  rw [← hNe] at HN ⊢
  have HNE := Lib.hid (And.intro hNe hS)
  clear hNe hS hw1 y0 y1 y2 y3 y4 y5 y6 y7 y8
  refine wp_region_tail3 11 _ ?_ ?_ ?_ ?_ (CloR2 w1 g N i d A1 A2 A3 A4 c1 c2 c3 c4) (fun j v wx wy => CloR2_keep _ _ _ _ _ _ _ _ _ _ _ _ _ j v wx wy) ?_ ?_ ?_
  · kernel_rfl
  · kernel_rfl
  · kernel_rfl
  · kernel_rfl
  · refine ⟨opV rfl fun s wx hb hd => ⟨_, ex_mv rfl (lit_out 0 (by kernel_rfl)), rfl⟩, ?_⟩
    refine ⟨opV rfl fun s wx hb hd => ⟨_, ex_nil rfl ((lit_at 0 7 (by kernel_rfl) (by kernel_rfl) (by kernel_rfl)).trans (hd 0 (by kernel_rfl))), rfl⟩, ?_⟩
    refine ⟨opV rfl fun s wx hb hd => ⟨_, ex_fld rfl ((lit_at 1 8 (by kernel_rfl) (by kernel_rfl) (by kernel_rfl)).trans (hd 1 (by kernel_rfl))) (fa_nd_4 _ wx), rfl⟩, ?_⟩
    refine ⟨opV rfl fun s wx hb hd => ⟨_, ex_ld rfl ((lit_at 2 9 (by kernel_rfl) (by kernel_rfl) (by kernel_rfl)).trans (hd 2 (by kernel_rfl))) (ld_Lstring (((HGN.out).below hb (HGN.out).lt).cell 4)), rfl⟩, ?_⟩
    refine ⟨opC rfl fun s wx hb hd => ⟨_, _, ex_c1 rfl rfl (enters Tryz.func53 (by kernel_rfl) rfl _ _) ((lit_at 3 10 (by kernel_rfl) (by kernel_rfl) (by kernel_rfl)).trans (hd 3 (by kernel_rfl))), ?_⟩, ?_⟩
    · refine (cln_S A1 _ c1 d.cl _ wx (fun b h => Nat.lt_of_lt_of_le (HRW.out.2.2.2.2 b h) hb.size) (HRW.out.1.move (.of_below hb HRW.out.2.2.2.2)) (by omega)).mono ?_
      rintro e w1 ⟨v', rfl, hrow, hb'⟩
      exact ⟨v', rfl, hrow.low hb.size, hb'⟩
    refine ⟨opV rfl fun s wx hb hd => ⟨_, ex_mv rfl (lit_out 0 (by kernel_rfl)), rfl⟩, ?_⟩
    refine ⟨opV rfl fun s wx hb hd => ⟨_, ex_nil rfl ((lit_at 5 12 (by kernel_rfl) (by kernel_rfl) (by kernel_rfl)).trans (hd 5 (by kernel_rfl))), rfl⟩, ?_⟩
    refine ⟨opV rfl fun s wx hb hd => ⟨_, ex_fld rfl ((lit_at 6 13 (by kernel_rfl) (by kernel_rfl) (by kernel_rfl)).trans (hd 6 (by kernel_rfl))) (fa_nd_8 _ wx), rfl⟩, ?_⟩
    refine ⟨opV rfl fun s wx hb hd => ⟨_, ex_ld rfl ((lit_at 7 14 (by kernel_rfl) (by kernel_rfl) (by kernel_rfl)).trans (hd 7 (by kernel_rfl))) (ld_Lint (((HGN.out).below hb (HGN.out).lt).cell 8)), rfl⟩, ?_⟩
    refine ⟨opC rfl fun s wx hb hd => ⟨_, _, ex_c1 rfl rfl (enters Tryz.func115 (by kernel_rfl) rfl _ _) ((lit_at 8 15 (by kernel_rfl) (by kernel_rfl) (by kernel_rfl)).trans (hd 8 (by kernel_rfl))), ?_⟩, ?_⟩
    · refine (cln_N A4 _ c4 d.kids _ wx (fun b h => Nat.lt_of_lt_of_le (HRW.out.2.2.2.2 b h) hb.size) (HRW.out.2.2.2.1.move (.of_below hb HRW.out.2.2.2.2)) (by omega)).mono ?_
      rintro e w1 ⟨v', rfl, hrow, hb'⟩
      exact ⟨v', rfl, hrow.low hb.size, hb'⟩
    refine ⟨opV rfl fun s wx hb hd => ⟨_, ex_fld rfl (lit_out 3 (by kernel_rfl)) (fa_nd_4 _ wx), rfl⟩, ?_⟩
    trivial
  rotate_left
  · kernel_rfl
  intro s wz hbz hV
  obtain ⟨B1, b1, e4, h4⟩ := hV 4 (by omega)
  obtain ⟨B4, b4, e9, h9⟩ := hV 9 (by omega)
  have e10 : s 10 = .pointer (some ⟨N, 4, none⟩) := hV 10 (by omega)
  clear hV
  have hNz := HN.out.1.below hbz HN.out.1.lt
  have z4 : wz.cell? ⟨N, 4, none⟩ = some (.slice A1 d.cl.length c1) := hNz.cell 4
  have z8 : wz.cell? ⟨N, 8, none⟩ = some (.slice A4 d.kids.length c4) := hNz.cell 8
  have f4 := hNz.frozen 4
  have f8 := hNz.frozen 8
  simp only [List.take_succ_cons, List.take_zero, List.drop_succ_cons, List.drop_zero, litOf, List.map_cons, List.map_nil, Nat.zero_add, Nat.reduceAdd, Act.put, List.setIfInBounds_toArray, List.set_cons_succ, List.set_cons_zero]
  go_upto_region 3 with fail
  have hE := (hNz.set_ 4 (.slice B1 d.cl.length b1)).set_ 8 (.slice B4 d.kids.length b4)
  have hC : Chg (· = N) wz ((wz.setCell ⟨N, 4, none⟩ (.slice B1 d.cl.length b1)).setCell ⟨N, 8, none⟩ (.slice B4 d.kids.length b4)) := (Chg.set (T := (· = N)) rfl _ _ _).trans (Chg.set (T := (· = N)) rfl _ _ _)
  generalize (wz.setCell ⟨N, 4, none⟩ (.slice B1 d.cl.length b1)).setCell ⟨N, 8, none⟩ (.slice B4 d.kids.length b4) = w2 at hE hC ⊢
  replace hE : Blk w2 N 97 (nC i d (.slice B1 d.cl.length b1) (.slice A2 d.at_.length c2) (.slice A3 d.st.length c3) (.slice B4 d.kids.length b4)).toArray := hE
  have hne : ∀ {e : TypeId} {B : Nat}, e ≠ 97 → ∀ b cs, B ≤ b → Blk wz b e cs → ¬ b = N := fun he b cs _ hB e => by subst e; exact Blk.ne_ hB hNz he rfl
  have hrow1 : RowS w1.heap.size d.cl (.slice B1 d.cl.length b1) w2 := Row.chg ⟨B1, b1, rfl, h4⟩ hC (hne (by decide))
  have hrow4 : RowN w1.heap.size d.kids (.slice B4 d.kids.length b4) w2 := Row.chg ⟨B4, b4, rfl, h9⟩ hC (hne (by decide))
  have hgN : g ≠ N := by have := HN.out.2.2.2; omega
  have hbS : Still S w1 w2 := (Still.of_below hbz HRW.out.2.2.2.2).trans (hC.still fun b hb => ⟨Nat.lt_of_lt_of_le (HRW.out.2.2.2.2 b hb) hbz.size, fun e => by subst e; have h1 := HNE.out.2 _ hb; have h2 := HNE.out.1; omega⟩)
  have HGM := Lib.hid (hC.blk (HGN.out.below hbz HGN.out.lt) hgN)
  have HRX := Lib.hid (show True ∧ RdS St.cvP St.pr0 2 w2 S A2 d.at_.length d.at_ ∧ RdS cvP pr0 2 w2 S A3 d.st.length d.st ∧ True ∧ ∀ b, S b → b < w2.heap.size from ⟨trivial, HRW.out.2.1.move hbS, HRW.out.2.2.1.move hbS, trivial, fun b h => Nat.lt_of_lt_of_le (HRW.out.2.2.2.2 b h) (Nat.le_trans hbz.size hC.size)⟩)
  have HE := Lib.hid (And.intro hE (And.intro hrow1 (And.intro hrow4 (And.intro hbz hC))))
  clear hE hC hne hrow1 hrow4 hgN hbS h4 h9 e4 e9 e10 hNz z4 z8 f4 f8 hbz
  have HX0 := HRX
  refine wp_region_tail3 11 _ ?_ ?_ ?_ ?_ (CloR3 w2 g N i d A1 A2 A3 A4 c1 c2 c3 c4) (fun j v wx wy => CloR3_keep _ _ _ _ _ _ _ _ _ _ _ _ _ j v wx wy) ?_ ?_ ?_
  · kernel_rfl
  · kernel_rfl
  · kernel_rfl
  · kernel_rfl
  · refine ⟨opV rfl fun s wx hb hd => ⟨_, ex_mv rfl (lit_out 0 (by kernel_rfl)), rfl⟩, ?_⟩
    refine ⟨opV rfl fun s wx hb hd => ⟨_, ex_nil rfl ((lit_at 0 19 (by kernel_rfl) (by kernel_rfl) (by kernel_rfl)).trans (hd 0 (by kernel_rfl))), rfl⟩, ?_⟩
    refine ⟨opV rfl fun s wx hb hd => ⟨_, ex_fld rfl ((lit_at 1 20 (by kernel_rfl) (by kernel_rfl) (by kernel_rfl)).trans (hd 1 (by kernel_rfl))) (fa_nd_5 _ wx), rfl⟩, ?_⟩
    refine ⟨opV rfl fun s wx hb hd => ⟨_, ex_ld rfl ((lit_at 2 21 (by kernel_rfl) (by kernel_rfl) (by kernel_rfl)).trans (hd 2 (by kernel_rfl))) (ld_props_Map_string (((HGM.out).below hb (HGM.out).lt).cell 5)), rfl⟩, ?_⟩
    refine ⟨opC rfl fun s wx hb hd => ⟨_, _, ex_c1 rfl rfl (enters Tryz.func54 (by kernel_rfl) rfl _ _) ((lit_at 3 22 (by kernel_rfl) (by kernel_rfl) (by kernel_rfl)).trans (hd 3 (by kernel_rfl))), ?_⟩, ?_⟩
    · refine (cln_A A2 _ c2 d.at_ _ wx (fun b h => Nat.lt_of_lt_of_le (HRX.out.2.2.2.2 b h) hb.size) (HRX.out.2.1.move (.of_below hb HRX.out.2.2.2.2)) (by omega)).mono ?_
      rintro e w1 ⟨v', rfl, hrow, hb'⟩
      exact ⟨v', rfl, hrow.low hb.size, hb'⟩
    refine ⟨opV rfl fun s wx hb hd => ⟨_, ex_mv rfl (lit_out 0 (by kernel_rfl)), rfl⟩, ?_⟩
    refine ⟨opV rfl fun s wx hb hd => ⟨_, ex_nil rfl ((lit_at 5 24 (by kernel_rfl) (by kernel_rfl) (by kernel_rfl)).trans (hd 5 (by kernel_rfl))), rfl⟩, ?_⟩
    refine ⟨opV rfl fun s wx hb hd => ⟨_, ex_fld rfl ((lit_at 6 25 (by kernel_rfl) (by kernel_rfl) (by kernel_rfl)).trans (hd 6 (by kernel_rfl))) (fa_nd_6 _ wx), rfl⟩, ?_⟩
    refine ⟨opV rfl fun s wx hb hd => ⟨_, ex_ld rfl ((lit_at 7 26 (by kernel_rfl) (by kernel_rfl) (by kernel_rfl)).trans (hd 7 (by kernel_rfl))) (ld_props_Map_int (((HGM.out).below hb (HGM.out).lt).cell 6)), rfl⟩, ?_⟩
    refine ⟨opC rfl fun s wx hb hd => ⟨_, _, ex_c1 rfl rfl (enters Tryz.func55 (by kernel_rfl) rfl _ _) ((lit_at 8 27 (by kernel_rfl) (by kernel_rfl) (by kernel_rfl)).trans (hd 8 (by kernel_rfl))), ?_⟩, ?_⟩
    · refine (cln_P A3 _ c3 d.st _ wx (fun b h => Nat.lt_of_lt_of_le (HRX.out.2.2.2.2 b h) hb.size) (HRX.out.2.2.1.move (.of_below hb HRX.out.2.2.2.2)) (by omega)).mono ?_
      rintro e w1 ⟨v', rfl, hrow, hb'⟩
      exact ⟨v', rfl, hrow.low hb.size, hb'⟩
    refine ⟨opV rfl fun s wx hb hd => ⟨_, ex_fld rfl (lit_out 3 (by kernel_rfl)) (fa_nd_5 _ wx), rfl⟩, ?_⟩
    trivial
  rotate_left
  · kernel_rfl
  intro t wy hby hV
  obtain ⟨B2, b2, e4, h4⟩ := hV 4 (by omega)
  obtain ⟨B3, b3, e9, h9⟩ := hV 9 (by omega)
  have e10 : t 10 = .pointer (some ⟨N, 5, none⟩) := hV 10 (by omega)
  clear hV
  have hNy := HE.out.1.below hby HE.out.1.lt
  have z5 : wy.cell? ⟨N, 5, none⟩ = some (.slice A2 d.at_.length c2) := hNy.cell 5
  have z6 : wy.cell? ⟨N, 6, none⟩ = some (.slice A3 d.st.length c3) := hNy.cell 6
  have f5 := hNy.frozen 5
  have f6 := hNy.frozen 6
  simp only [List.take_succ_cons, List.take_zero, List.drop_succ_cons, List.drop_zero, litOf, List.map_cons, List.map_nil, Nat.zero_add, Nat.reduceAdd, Act.put, List.setIfInBounds_toArray, List.set_cons_succ, List.set_cons_zero]
  go_upto_region 4 with fail
  have hE := (hNy.set_ 5 (.slice B2 d.at_.length b2)).set_ 6 (.slice B3 d.st.length b3)
  have hC : Chg (· = N) wy ((wy.setCell ⟨N, 5, none⟩ (.slice B2 d.at_.length b2)).setCell ⟨N, 6, none⟩ (.slice B3 d.st.length b3)) := (Chg.set (T := (· = N)) rfl _ _ _).trans (Chg.set (T := (· = N)) rfl _ _ _)
  generalize (wy.setCell ⟨N, 5, none⟩ (.slice B2 d.at_.length b2)).setCell ⟨N, 6, none⟩ (.slice B3 d.st.length b3) = w3 at hE hC ⊢
  replace hE : Blk w3 N 97 (nC i d (.slice B1 d.cl.length b1) (.slice B2 d.at_.length b2) (.slice B3 d.st.length b3) (.slice B4 d.kids.length b4)).toArray := hE
  have hne : ∀ {e : TypeId} {B : Nat}, e ≠ 97 → ∀ b cs, B ≤ b → Blk wy b e cs → ¬ b = N := fun he b cs _ hB e => by subst e; exact Blk.ne_ hB hNy he rfl
  have hn := HNE.out.1
  have hz1 : w.heap.size ≤ w1.heap.size := HN.out.2.1.size
  have hz2 : w.heap.size ≤ w2.heap.size := Nat.le_trans hz1 (Nat.le_trans HE.out.2.2.2.1.size HE.out.2.2.2.2.size)
  have HF := Lib.hid (show CopyI w.heap.size w3 i d N ∧ Below w.heap.size w w3 from
    ⟨⟨by omega, _, _, _, _, hE, Row.low (Row.chg (HE.out.2.1.keep hby) hC (hne (by decide))) hz1, Row.low (Row.chg ⟨B2, b2, rfl, h4⟩ hC (hne (by decide))) hz2, Row.low (Row.chg ⟨B3, b3, rfl, h9⟩ hC (hne (by decide))) hz2, Row.low (Row.chg (HE.out.2.2.1.keep hby) hC (hne (by decide))) hz1⟩,
      (((HN.out.2.1.mono (by omega)).trans (HE.out.2.2.2.1.mono hz1)).trans (HE.out.2.2.2.2.below (Nat.le_trans hz1 HE.out.2.2.2.1.size) fun i hi => by rw [hi]; omega)).trans ((hby.mono hz2).trans (hC.below (Nat.le_trans hz2 hby.size) fun i hi => by rw [hi]; omega))⟩)
  clear hE hC hne hn hz1 hz2 h4 h9 e4 e9 e10 hNy z5 z6 f5 f6 hby
  go_wp2_with fail
  go_ret
  exact ⟨N, rfl, HF.out.1, HF.out.2⟩

/-! ### Get -/
theorem NodeI.rds {B : Nat} {w : World} {i : Nat} {d : ND} {g : Nat} {kv : Value} (h : NodeI B w i d g kv) : ∃ A1 A2 A3 A4 c1 c2 c3 c4, Blk w g 97 (nC i d (.slice A1 d.cl.length c1) (.slice A2 d.at_.length c2) (.slice A3 d.st.length c3) (.slice A4 d.kids.length c4)).toArray ∧
    RdS cvS ByteArray.empty 1 w (Old w) A1 d.cl.length d.cl ∧ RdS St.cvP St.pr0 2 w (Old w) A2 d.at_.length d.at_ ∧ RdS cvP pr0 2 w (Old w) A3 d.st.length d.st ∧ RdS cvN 0 1 w (Old w) A4 d.kids.length d.kids := by
  obtain ⟨_, ⟨a1, a2, a3, hN, r1, r2, r3⟩, hk⟩ := h
  obtain ⟨A1, c1, rfl, q1⟩ := r1.rd
  obtain ⟨A2, c2, rfl, q2⟩ := r2.rd
  obtain ⟨A3, c3, rfl, q3⟩ := r3.rd
  obtain ⟨A4, c4, rfl⟩ := own_form hk
  rw [nums_flat] at hk
  exact ⟨A1, A2, A3, A4, c1, c2, c3, c4, hN, q1.weak fun _ h => h.2, q2.weak fun _ h => h.2, q3.weak fun _ h => h.2, (RdS.of_own (cv := cvN) (d := 0) (fun _ _ => rfl) hk rfl).weak fun _ h => h.2⟩
set_option maxRecDepth 100000 in
set_option maxHeartbeats 8000000 in
theorem get_any {B : Nat} {w : World} {D M n : Nat} {nd : Nat → ND} {gs : Nat → Nat} {kvs : Nat → Value} (h : DomI B w D M n nd gs kvs) (hn : n ≤ 50) (i : Nat) (hi : i < n) (hb : (nd i).cl.length ≤ 1000 ∧ (nd i).at_.length ≤ 1000 ∧ (nd i).st.length ≤ 1000 ∧ (nd i).kids.length ≤ 1000) :
    Calls Tryz.prog 37 #[.pointer (some ⟨D, 0, none⟩), .int .i64 (i : Nat)] w fun e w' => ∃ a1 a2 a3 k, e = .returned (.tuple #[.agg (nC i (nd i) a1 a2 a3 k).toArray, .bool true]) ∧ RowS w.heap.size (nd i).cl a1 w' ∧ RowA 90 w.heap.size (nd i).at_ a2 w' ∧ RowP 105 w.heap.size (nd i).st a3 w' ∧ RowN w.heap.size (nd i).kids k w' ∧ Below w.heap.size w w' := by
  obtain ⟨w1, hw1, hR, hb1, hs1⟩ := one_new w zs_nd 97
  have h1 := h.keep hb1
  have hl := h1.look2 (by omega) i hi
  have y2 : w1.cell? ⟨D, 2, none⟩ = some (.map (some M)) := h1.dom.cell 2
  obtain ⟨A1, A2, A3, A4, c1, c2, c3, c4, hN, r1, r2, r3, r4⟩ := (h1.node i hi).rds
  have HH := Lib.hid (And.intro hR (And.intro hb1 (And.intro hs1 (And.intro (And.intro hN (And.intro r1 (And.intro r2 (And.intro r3 r4)))) hb))))
  clear h h1 hN r1 r2 r3 r4 hR hb1 hs1 hb
  unfold zs_nd at hw1
  go_enter Tryz.func37, Tryz.ntmps37
  go_upto_region 1 with fail
  rw [← hw1]
  obtain ⟨R, hRe⟩ : ∃ R, R = w.heap.size := ⟨_, rfl⟩
  obtain ⟨G, hG⟩ : ∃ G, G = gs i := ⟨_, rfl⟩
  rw [← hG] at hl HH
  rw [← hRe] at HH ⊢
  have HRE := Lib.hid (And.intro hRe hG)
  clear hw1 hRe hG
  go_wp2_with fail
  refine (clone_node G i (nd i) A1 A2 A3 A4 c1 c2 c3 c4 w1 (Old w1) (fun b h => h) HH.out.2.2.2.1.1 HH.out.2.2.2.1.2.1 HH.out.2.2.2.1.2.2.1 HH.out.2.2.2.1.2.2.2.1 HH.out.2.2.2.1.2.2.2.2 HH.out.2.2.2.2).mono ?_
  rintro e w2 ⟨N, rfl, ⟨hNB, a1, a2, a3, k, hN, q1, q2, q3, q4⟩, hb2⟩
  obtain ⟨P1, p1, rfl, t1⟩ := id q1
  obtain ⟨P2, p2, rfl, t2⟩ := id q2
  obtain ⟨P3, p3, rfl, t3⟩ := id q3
  obtain ⟨P4, p4, rfl, t4⟩ := id q4
  have hR2 := HH.out.1.below hb2 HH.out.1.lt
  have HN := Lib.hid (And.intro (And.intro q1 (And.intro q2 (And.intro q3 q4))) (And.intro hb2 hR2))
  have x0 : w2.cell? ⟨N, 0, none⟩ = some (.int .i64 i) := hN.cell 0
  have x1 : w2.cell? ⟨N, 1, none⟩ = some (.int .i64 (nd i).kind) := hN.cell 1
  have x2 : w2.cell? ⟨N, 2, none⟩ = some (.string (nd i).tag) := hN.cell 2
  have x3 : w2.cell? ⟨N, 3, none⟩ = some (.string (nd i).text) := hN.cell 3
  have x4 : w2.cell? ⟨N, 4, none⟩ = some (.slice P1 (nd i).cl.length p1) := hN.cell 4
  have x5 : w2.cell? ⟨N, 5, none⟩ = some (.slice P2 (nd i).at_.length p2) := hN.cell 5
  have x6 : w2.cell? ⟨N, 6, none⟩ = some (.slice P3 (nd i).st.length p3) := hN.cell 6
  have x7 : w2.cell? ⟨N, 7, none⟩ = some (.int .i64 (nd i).par) := hN.cell 7
  have x8 : w2.cell? ⟨N, 8, none⟩ = some (.slice P4 (nd i).kids.length p4) := hN.cell 8
  have z0 : w2.cell? ⟨R, 0, none⟩ = some zs_nd[0]! := hR2.cell 0
  have f0 := hR2.frozen 0
  have z1 : w2.cell? ⟨R, 1, none⟩ = some zs_nd[1]! := hR2.cell 1
  have f1 := hR2.frozen 1
  have z2 : w2.cell? ⟨R, 2, none⟩ = some zs_nd[2]! := hR2.cell 2
  have f2 := hR2.frozen 2
  have z3 : w2.cell? ⟨R, 3, none⟩ = some zs_nd[3]! := hR2.cell 3
  have f3 := hR2.frozen 3
  have z4 : w2.cell? ⟨R, 4, none⟩ = some zs_nd[4]! := hR2.cell 4
  have f4 := hR2.frozen 4
  have z5 : w2.cell? ⟨R, 5, none⟩ = some zs_nd[5]! := hR2.cell 5
  have f5 := hR2.frozen 5
  have z6 : w2.cell? ⟨R, 6, none⟩ = some zs_nd[6]! := hR2.cell 6
  have f6 := hR2.frozen 6
  have z7 : w2.cell? ⟨R, 7, none⟩ = some zs_nd[7]! := hR2.cell 7
  have f7 := hR2.frozen 7
  have z8 : w2.cell? ⟨R, 8, none⟩ = some zs_nd[8]! := hR2.cell 8
  have f8 := hR2.frozen 8
  clear q1 q2 q3 q4 t1 t2 t3 t4 hR2 hb2 hN
  go_wp2_with fail
  have hRb := HN.out.2.2
  have hE := (((((((((hRb.set_ 0 (.int .i64 (i : Nat))).set_ 1 (.int .i64 (nd i).kind)).set_ 2 (.string (nd i).tag)).set_ 3 (.string (nd i).text)).set_ 4 (.slice P1 (nd i).cl.length p1)).set_ 5 (.slice P2 (nd i).at_.length p2)).set_ 6 (.slice P3 (nd i).st.length p3)).set_ 7 (.int .i64 (nd i).par)).set_ 8 (.slice P4 (nd i).kids.length p4))
  have hC : Chg (· = R) w2 (((((((((w2.setCell ⟨R, 0, none⟩ (.int .i64 (i : Nat))).setCell ⟨R, 1, none⟩ (.int .i64 (nd i).kind)).setCell ⟨R, 2, none⟩ (.string (nd i).tag)).setCell ⟨R, 3, none⟩ (.string (nd i).text)).setCell ⟨R, 4, none⟩ (.slice P1 (nd i).cl.length p1)).setCell ⟨R, 5, none⟩ (.slice P2 (nd i).at_.length p2)).setCell ⟨R, 6, none⟩ (.slice P3 (nd i).st.length p3)).setCell ⟨R, 7, none⟩ (.int .i64 (nd i).par)).setCell ⟨R, 8, none⟩ (.slice P4 (nd i).kids.length p4)) := (((((((((Chg.set (T := (· = R)) rfl _ _ _).trans (Chg.set (T := (· = R)) rfl _ _ _)).trans (Chg.set (T := (· = R)) rfl _ _ _)).trans (Chg.set (T := (· = R)) rfl _ _ _)).trans (Chg.set (T := (· = R)) rfl _ _ _)).trans (Chg.set (T := (· = R)) rfl _ _ _)).trans (Chg.set (T := (· = R)) rfl _ _ _)).trans (Chg.set (T := (· = R)) rfl _ _ _)).trans (Chg.set (T := (· = R)) rfl _ _ _))
  generalize (((((((((w2.setCell ⟨R, 0, none⟩ (.int .i64 (i : Nat))).setCell ⟨R, 1, none⟩ (.int .i64 (nd i).kind)).setCell ⟨R, 2, none⟩ (.string (nd i).tag)).setCell ⟨R, 3, none⟩ (.string (nd i).text)).setCell ⟨R, 4, none⟩ (.slice P1 (nd i).cl.length p1)).setCell ⟨R, 5, none⟩ (.slice P2 (nd i).at_.length p2)).setCell ⟨R, 6, none⟩ (.slice P3 (nd i).st.length p3)).setCell ⟨R, 7, none⟩ (.int .i64 (nd i).par)).setCell ⟨R, 8, none⟩ (.slice P4 (nd i).kids.length p4)) = w3 at hE hC ⊢
  rw [zs_nd] at hE
  simp only [List.setIfInBounds_toArray, List.set_cons_succ, List.set_cons_zero] at hE
  replace hE : Blk w3 R 97 (nC i (nd i) (.slice P1 (nd i).cl.length p1) (.slice P2 (nd i).at_.length p2) (.slice P3 (nd i).st.length p3) (.slice P4 (nd i).kids.length p4)).toArray := hE
  have r0 : w3.cell? ⟨R, 0, none⟩ = some (.int .i64 (i : Nat)) := hE.cell 0
  have r1 : w3.cell? ⟨R, 1, none⟩ = some (.int .i64 (nd i).kind) := hE.cell 1
  have r2 : w3.cell? ⟨R, 2, none⟩ = some (.string (nd i).tag) := hE.cell 2
  have r3 : w3.cell? ⟨R, 3, none⟩ = some (.string (nd i).text) := hE.cell 3
  have r4 : w3.cell? ⟨R, 4, none⟩ = some (.slice P1 (nd i).cl.length p1) := hE.cell 4
  have r5 : w3.cell? ⟨R, 5, none⟩ = some (.slice P2 (nd i).at_.length p2) := hE.cell 5
  have r6 : w3.cell? ⟨R, 6, none⟩ = some (.slice P3 (nd i).st.length p3) := hE.cell 6
  have r7 : w3.cell? ⟨R, 7, none⟩ = some (.int .i64 (nd i).par) := hE.cell 7
  have r8 : w3.cell? ⟨R, 8, none⟩ = some (.slice P4 (nd i).kids.length p4) := hE.cell 8
  have hne : ∀ {e : TypeId} {B : Nat}, e ≠ 97 → ∀ b cs, B ≤ b → Blk w2 b e cs → ¬ b = R := fun he b cs _ hB e => by subst e; exact Blk.ne_ hB hRb he rfl
  have hsz : w.heap.size ≤ w1.heap.size := HH.out.2.1.size
  have hq := HN.out.1
  refine bodyPost_ret (v := .tuple #[.agg (nC i (nd i) (.slice P1 (nd i).cl.length p1) (.slice P2 (nd i).at_.length p2) (.slice P3 (nd i).st.length p3) (.slice P4 (nd i).kids.length p4)).toArray, .bool true]) ?_ rfl ⟨.slice P1 (nd i).cl.length p1, .slice P2 (nd i).at_.length p2, .slice P3 (nd i).st.length p3, .slice P4 (nd i).kids.length p4, rfl, ?_, ?_, ?_, ?_, ?_⟩
  · simp [results, Tryz.results37, go_sem, r0, r1, r2, r3, r4, r5, r6, r7, r8, nC]
  · exact Row.low (Row.chg hq.1 hC (hne (by decide))) hsz
  · exact Row.low (Row.chg hq.2.1 hC (hne (by decide))) hsz
  · exact Row.low (Row.chg hq.2.2.1 hC (hne (by decide))) hsz
  · exact Row.low (Row.chg hq.2.2.2 hC (hne (by decide))) hsz
  · have hb := HH.out.2.1.mono (Nat.le_of_eq HRE.out.1.symm)
    exact (hb.trans (HN.out.2.1.mono hsz)).trans (hC.below (Nat.le_trans hsz HN.out.2.1.size) fun i hi => by rw [hi, HRE.out.1]; omega)

end Go.Proofs.YtaalhglooipnaaaGreat
