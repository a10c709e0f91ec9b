/-
  The walks over package sat, second part: quotients, the clock, sums of many.
-/
import Derived.Test.YtgcadpfgdfjceaaSatWalks
namespace Go.Proofs.Ytgcadpfgdfjceaa
open Go.RowKit

/-- The world after some draws. -/
def Drew (w w' : World) : Prop := ∃ n, w.drewN n = w'
theorem Drew.refl (w : World) : Drew w w := ⟨0, rfl⟩

theorem ret_two {k k' : IntKind} {a b c d : Int} (h : a = b) (h' : c = d) : Ending.returned (.tuple #[.int k a, .int k' c]) = .returned (.tuple #[.int k b, .int k' d]) := by rw [h, h']

theorem cut_yes {a b : Int} (h : (a.tmod b != 0) = true ∧ (!decide (a.tmod b < 0) == decide (b < 0)) = true) : P1.cut a b := by
  unfold P1.cut
  simp only [bne_iff_ne, ne_eq] at h
  refine ⟨h.1, ?_⟩
  have h2 := h.2
  by_cases h3 : a.tmod b < 0 <;> by_cases h4 : b < 0 <;> simp_all
theorem cut_no {a b : Int} (h : (a.tmod b != 0) = false ∨ (!decide (a.tmod b < 0) == decide (b < 0)) = false) : ¬ P1.cut a b := by
  unfold P1.cut
  rintro ⟨h1, h2⟩
  rcases h with h | h
  · simp_all
  · by_cases h3 : a.tmod b < 0 <;> by_cases h4 : b < 0 <;> simp_all

set_option maxHeartbeats 400000 in
theorem floor_any (a b : Int) (w : World) (ha : -2147483648 ≤ a) (ha' : a ≤ 2147483647) (hb : b ≠ 0) (hb1 : -2147483648 ≤ b) (hb2 : b ≤ 2147483647) :
    Calls Try.prog 33 #[.int .i64 a, .int .i64 b] w fun e w' => e = .returned (.tuple #[.int .i64 (P1.fq a b), .int .i64 (P1.fr a b)]) ∧ Drew w w' := by
  have q1 := P1.tdiv_bd (b := b) ha ha'
  have r1 := P1.tmod_bd (a := a) hb
  have hw : IntKind.i64.wrap (a.tdiv b) = a.tdiv b := IntWalk.i64_in _ (by omega)
  go_enter Try.func33, Try.ntmps33
  go_wp2
  go_quiet (fail)
  go_wp2
  · have h : a.tmod b = 0 := by assumption
    go_ret2
    have hc : ¬ P1.cut a b := fun hc => hc.1 h
    exact ⟨ret_two (by rw [P1.fq, if_neg hc]) (by rw [P1.fr, if_neg hc, h]), _, rfl⟩
  · have h : (a.tmod b != 0) = true ∧ (!decide (a.tmod b < 0) == decide (b < 0)) = true := by assumption
    go_ret2
    have hc := cut_yes h
    exact ⟨ret_two (by rw [P1.fq, if_pos hc]) (by rw [P1.fr, if_pos hc]), _, rfl⟩
  · have h : (a.tmod b != 0) = false ∨ (!decide (a.tmod b < 0) == decide (b < 0)) = false := by assumption
    go_ret2
    have hc := cut_no h
    exact ⟨ret_two (by rw [P1.fq, if_neg hc]) (by rw [P1.fr, if_neg hc]), _, rfl⟩

set_option maxHeartbeats 400000 in
theorem div_any (a b : Int) (w : World) :
    Calls Try.prog 14 #[.int .i64 a, .int .i64 b] w fun e w' => e = .returned (.int .i64 (P1.div a b)) ∧ Drew w w' := by
  by_cases hb : b = 0
  · subst hb
    go_enter Try.func14, Try.ntmps14
    go_wp2
    go_ret
    exact ⟨rfl, Drew.refl _⟩
  · have hb' : (b == 0) = false := by simpa using hb
    have hs : P1.sat b ≠ 0 := fun h => hb (P1.sat_zero.1 h)
    have e1 : P1.div a b = P1.sat (P1.fq (P1.sat a) (P1.sat b)) := by unfold P1.div; rw [if_neg hb]
    have H := Lib.hid e1
    clear e1
    go_enter Try.func14, Try.ntmps14
    go_wp2_with (first | (go_at_call 17; ((with_reducible refine (sat_any _ _).mono ?_); rintro e w' ⟨rfl, rfl⟩)) | (go_at_call 18; ((with_reducible refine (rsat_any _ _).mono ?_); rintro e w' ⟨rfl, rfl⟩)) | (go_at_call 19; ((with_reducible refine (add_any _ _ _).mono ?_); rintro e w' ⟨rfl, rfl⟩)) | (go_at_call 20; ((with_reducible refine (radd_any _ _ _).mono ?_); rintro e w' ⟨rfl, rfl⟩)) | (go_at_call 16; ((with_reducible refine (clip_any _ _ _ _).mono ?_); rintro e w' ⟨rfl, rfl⟩)) | (go_at_call 33; ((with_reducible refine (floor_any _ _ _ (P1.sat_lo _) (P1.sat_hi _) hs (P1.sat_lo _) (P1.sat_hi _)).mono ?_); rintro e w' ⟨rfl, n, rfl⟩)))
    go_ret
    exact ⟨ret_int H.out.symm, _, rfl⟩

set_option maxHeartbeats 400000 in
theorem mod_any (a b : Int) (w : World) :
    Calls Try.prog 15 #[.int .i64 a, .int .i64 b] w fun e w' => e = .returned (.int .i64 (P1.mod a b)) ∧ Drew w w' := by
  by_cases hb : b = 0
  · subst hb
    go_enter Try.func15, Try.ntmps15
    go_wp2
    go_ret
    exact ⟨rfl, Drew.refl _⟩
  · have hb' : (b == 0) = false := by simpa using hb
    have hs : P1.sat b ≠ 0 := fun h => hb (P1.sat_zero.1 h)
    have e1 : P1.mod a b = P1.fr (P1.sat a) (P1.sat b) := by unfold P1.mod; rw [if_neg hb]
    have H := Lib.hid e1
    clear e1
    go_enter Try.func15, Try.ntmps15
    go_wp2_with (first | (go_at_call 17; ((with_reducible refine (sat_any _ _).mono ?_); rintro e w' ⟨rfl, rfl⟩)) | (go_at_call 18; ((with_reducible refine (rsat_any _ _).mono ?_); rintro e w' ⟨rfl, rfl⟩)) | (go_at_call 19; ((with_reducible refine (add_any _ _ _).mono ?_); rintro e w' ⟨rfl, rfl⟩)) | (go_at_call 20; ((with_reducible refine (radd_any _ _ _).mono ?_); rintro e w' ⟨rfl, rfl⟩)) | (go_at_call 16; ((with_reducible refine (clip_any _ _ _ _).mono ?_); rintro e w' ⟨rfl, rfl⟩)) | (go_at_call 33; ((with_reducible refine (floor_any _ _ _ (P1.sat_lo _) (P1.sat_hi _) hs (P1.sat_lo _) (P1.sat_hi _)).mono ?_); rintro e w' ⟨rfl, n, rfl⟩)))
    go_ret
    exact ⟨ret_int H.out.symm, _, rfl⟩

set_option maxHeartbeats 400000 in
theorem later_any (a b : Int) (w : World) :
    Calls Try.prog 26 #[.int .i64 a, .int .i64 b] w fun e w' => e = .returned (.int .i64 (P1.later a b)) ∧ w = w' := by
  go_enter Try.func26, Try.ntmps26
  go_wp2_with (first | (go_at_call 17; ((with_reducible refine (sat_any _ _).mono ?_); rintro e w' ⟨rfl, rfl⟩)) | (go_at_call 18; ((with_reducible refine (rsat_any _ _).mono ?_); rintro e w' ⟨rfl, rfl⟩)) | (go_at_call 19; ((with_reducible refine (add_any _ _ _).mono ?_); rintro e w' ⟨rfl, rfl⟩)) | (go_at_call 20; ((with_reducible refine (radd_any _ _ _).mono ?_); rintro e w' ⟨rfl, rfl⟩)) | (go_at_call 16; ((with_reducible refine (clip_any _ _ _ _).mono ?_); rintro e w' ⟨rfl, rfl⟩)))
  go_ret
  exact ⟨rfl, rfl⟩

set_option maxHeartbeats 400000 in
theorem rlater_any (a b : Int) (w : World) :
    Calls Try.prog 27 #[.int .i64 a, .int .i64 b] w fun e w' => e = .returned (.int .i64 (P1.later a b)) ∧ w = w' := by
  go_enter Try.func27, Try.ntmps27
  go_wp2
  all_goals go_ret
  all_goals (refine ⟨ret_int ?_, rfl⟩; unfold P1.later; omega)

end Go.Proofs.Ytgcadpfgdfjceaa
