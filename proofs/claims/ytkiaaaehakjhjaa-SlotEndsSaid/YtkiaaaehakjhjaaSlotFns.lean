/-
  The walks over the small functions of slot and of its document.
-/
import Derived.Test.YtkiaaaehakjhjaaKidsC
import Derived.Deep.DeepCutAuto
namespace Go.Proofs.Ytkiaaaehakjhjaa
open Go.RowKit
attribute [local go_sem ↓] Go.wp_at_zero Go.wp_at_succ

/-- Is one a ghost, by its kind? -/
def ghostB (t : Int) : Bool := t == 4 || (t == 5 || t == 6)
/-- Does one enter? -/
def entB (t : Int) : Bool := t == 2 || t == 3

theorem beq_no {a b : Int} (h : ¬ a = b) : (a == b) = false := by simpa using h

set_option maxHeartbeats 1000000 in
theorem rghost_any (s : ByteArray) (t : Int) (w : World) : Calls Try.prog 22 #[.agg #[.string s, .int .i64 t]] w fun e w' => e = .returned (.bool (ghostB t)) ∧ Below w.heap.size w w' := by
  have hb := (Below.refl w.heap.size w).alloc (Nat.le_refl _) (.cells #[.string s, .int .i64 t] 41)
  by_cases h4 : t = 4
  · subst h4
    go_enter Try.func22, Try.ntmps22
    go_wp2
    go_ret
    exact ⟨rfl, hb⟩
  · have g4 := beq_no h4
    by_cases h5 : t = 5
    · subst h5
      clear h4 g4
      go_enter Try.func22, Try.ntmps22
      go_wp2
      go_ret
      exact ⟨rfl, hb⟩
    · have g5 := beq_no h5
      have H := Lib.hid (show ghostB t = (t == 6) by rw [ghostB, g4, g5]; rfl)
      clear h4 h5
      go_enter Try.func22, Try.ntmps22
      go_wp2
      go_ret
      exact ⟨by rw [H.out]; rfl, hb⟩

set_option maxHeartbeats 1000000 in
theorem look_any (s : ByteArray) (t : Int) (w : World) : Calls Try.prog 23 #[.agg #[.string s, .int .i64 t]] w fun e w' => e = .returned (.agg #[.int .i64 t, .int .i64 0, .int .i64 0, .int .i64 0]) ∧ Below w.heap.size w w' := by
  have hb := fun (o1 o2 : Obj) => ((Below.refl w.heap.size w).alloc (Nat.le_refl _) o1).alloc (by simp) o2
  go_enter Try.func23, Try.ntmps23
  go_wp2
  exact bodyPost_ret (v := .agg #[.int .i64 t, .int .i64 0, .int .i64 0, .int .i64 0]) (by simp [results, Try.results23, go_sem]) rfl ⟨rfl, hb _ _⟩

set_option maxHeartbeats 1000000 in
theorem entering_any (t a b c : Int) (w : World) : Calls Try.prog 24 #[.agg #[.int .i64 t, .int .i64 a, .int .i64 b, .int .i64 c]] w fun e w' => e = .returned (.bool (entB t)) ∧ Below w.heap.size w w' := by
  have hb := (Below.refl w.heap.size w).alloc (Nat.le_refl _) (.cells #[.int .i64 t, .int .i64 a, .int .i64 b, .int .i64 c] 56)
  by_cases h4 : t = 2
  · subst h4
    go_enter Try.func24, Try.ntmps24
    go_wp2
    go_ret
    exact ⟨rfl, hb⟩
  · have g4 := beq_no h4
    have H := Lib.hid (show entB t = (t == 3) by simp [entB, h4])
    clear h4
    go_enter Try.func24, Try.ntmps24
    go_wp2
    go_ret
    exact ⟨by rw [H.out]; rfl, hb⟩

set_option maxHeartbeats 1000000 in
theorem leaving_any (t a b c : Int) (w : World) : Calls Try.prog 31 #[.agg #[.int .i64 t, .int .i64 a, .int .i64 b, .int .i64 c]] w fun e w' => e = .returned (.bool (t == 5 || t == 6)) ∧ Below w.heap.size w w' := by
  have hb := (Below.refl w.heap.size w).alloc (Nat.le_refl _) (.cells #[.int .i64 t, .int .i64 a, .int .i64 b, .int .i64 c] 56)
  by_cases h4 : t = 5
  · subst h4
    go_enter Try.func31, Try.ntmps31
    go_wp2
    go_ret
    exact ⟨rfl, hb⟩
  · have g4 := beq_no h4
    have H := Lib.hid (show (t == 5 || t == 6) = (t == 6) by simp [h4])
    clear h4
    go_enter Try.func31, Try.ntmps31
    go_wp2
    go_ret
    exact ⟨by rw [H.out]; rfl, hb⟩

set_option maxHeartbeats 1000000 in
theorem lghost_any (t a b c : Int) (w : World) : Calls Try.prog 30 #[.agg #[.int .i64 t, .int .i64 a, .int .i64 b, .int .i64 c]] w fun e w' => e = .returned (.bool (ghostB t)) ∧ Below w.heap.size w w' := by
  have hb := (Below.refl w.heap.size w).alloc (Nat.le_refl _) (.cells #[.int .i64 t, .int .i64 a, .int .i64 b, .int .i64 c] 56)
  by_cases h4 : t = 4
  · subst h4
    go_enter Try.func30, Try.ntmps30
    go_wp2
    go_ret
    exact ⟨rfl, hb⟩
  · have g4 := beq_no h4
    have H := Lib.hid (show ghostB t = (t == 5 || t == 6) by simp [ghostB, h4])
    clear h4
    go_enter Try.func30, Try.ntmps30
    go_wp2_with fail
    refine (leaving_any _ _ _ _ _).mono ?_
    rintro e w1 ⟨rfl, hb1⟩
    go_wp2
    go_ret
    exact ⟨by rw [H.out]; rfl, hb.trans (hb1.mono (by simp))⟩

set_option maxHeartbeats 1000000 in
theorem kghost_any (s : ByteArray) (t : Int) (w : World) : Calls Try.prog 25 #[.agg #[.string s, .int .i64 t]] w fun e w' => e = .returned (.bool (ghostB t)) ∧ Below w.heap.size w w' := by
  have hb := (Below.refl w.heap.size w).alloc (Nat.le_refl _) (.cells #[.string s, .int .i64 t] 47)
  have HB := Lib.hid hb
  clear hb
  go_enter Try.func25, Try.ntmps25
  go_wp2_with fail
  refine (look_any _ _ _).mono ?_
  rintro e w1 ⟨rfl, hb1⟩
  have HB1 := Lib.hid (HB.out.trans (hb1.mono (by simp)))
  clear hb1
  go_wp2_with fail
  refine (lghost_any _ _ _ _ _).mono ?_
  rintro e w2 ⟨rfl, hb2⟩
  have HB2 := Lib.hid (HB1.out.trans (hb2.mono HB1.out.size))
  clear hb2
  go_wp2
  go_ret
  exact ⟨rfl, HB2.out⟩

set_option maxHeartbeats 1000000 in
theorem live_any (s : ByteArray) (t : Int) (w : World) : Calls Try.prog 27 #[.agg #[.string s, .int .i64 t]] w fun e w' => e = .returned (.bool (!ghostB t)) ∧ Below w.heap.size w w' := by
  have hb := (Below.refl w.heap.size w).alloc (Nat.le_refl _) (.cells #[.string s, .int .i64 t] 47)
  have HB := Lib.hid hb
  clear hb
  go_enter Try.func27, Try.ntmps27
  go_wp2_with fail
  refine (kghost_any _ _ _).mono ?_
  rintro e w1 ⟨rfl, hb1⟩
  have HB1 := Lib.hid (HB.out.trans (hb1.mono (by simp)))
  clear hb1
  go_wp2
  go_ret
  exact ⟨rfl, HB1.out⟩

set_option maxHeartbeats 1000000 in
theorem same_any (s : ByteArray) (t : Int) (bk : Nat) (key : ByteArray) (w : World) (hk : bk < w.heap.size) (hc : w.cell? ⟨bk, 0, none⟩ = some (.string key)) :
    Calls Try.prog 28 #[.agg #[.string s, .int .i64 t], .pointer (some ⟨bk, 0, none⟩)] w fun e w' => e = .returned (.bool (ghostB t && (s.toList == key.toList))) ∧ Below w.heap.size w w' := by
  have hb := (Below.refl w.heap.size w).alloc (Nat.le_refl _) (.cells #[.string s, .int .i64 t] 47)
  have HB := Lib.hid hb
  have HC := Lib.hid hc
  obtain ⟨q, hq⟩ : ∃ q, q = ghostB t := ⟨_, rfl⟩
  rw [← hq]
  have HQ := Lib.hid hq
  clear hb hc hq
  go_enter Try.func28, Try.ntmps28
  go_wp2_with fail
  refine (kghost_any _ _ _).mono ?_
  rintro e w1 ⟨rfl, hb1⟩
  have hbl := Blk.below (Blk.new w 47 #[.string s, .int .i64 t]) hb1 (by simp)
  have c0 := hbl.cell 0
  have HB1 := Lib.hid (HB.out.trans (hb1.mono (by simp)))
  have ck := (HB1.out.cell (p := ⟨bk, 0, none⟩) hk).trans HC.out
  clear hb1 hbl
  rw [← HQ.out]
  clear HQ
  cases q
  · go_wp2
    go_ret
    exact ⟨rfl, HB1.out⟩
  · go_wp2
    go_ret
    exact ⟨rfl, HB1.out⟩

end Go.Proofs.Ytkiaaaehakjhjaa
