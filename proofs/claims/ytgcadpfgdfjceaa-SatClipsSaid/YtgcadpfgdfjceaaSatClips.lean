/-
  SatClips: a number within two ends is the nearest one. For every three ints; no condition.
-/
import Derived.Test.YtgcadpfgdfjceaaFrame
import Derived.Test.YtgcadpfgdfjceaaSatMore
namespace Go.Proofs.Ytgcadpfgdfjceaa
open Go.ChangeShapes Go.WideShapes Go.ChangeAt Go.RowKit

theorem below_drewN {B : Nat} {a w : World} (h : Below B a w) (n : Nat) : Below B a (w.drewN n) := ⟨h.os, h.tape, h.output, h.size, h.block⟩

set_option maxHeartbeats 1000000 in
theorem satClips_walk (x lo hi : Int) (w : World) : Calls Try.prog 4 #[.int .i64 x, .int .i64 lo, .int .i64 hi] w fun e w' => e = .returned (.bool true) ∧ Below w.heap.size w w' := by
  by_cases h1 : hi < lo
  · have e1 : (max lo (min x hi) == lo) = true := by simp; omega
    go_enter Try.func4, Try.ntmps4
    go_wp2_with (first | (go_at_call 12; ((with_reducible refine (sat_awake _).mono ?_); rintro e w' ⟨rfl, n1, rfl⟩)) | (go_at_call 16; ((with_reducible refine (clip_any _ _ _ _).mono ?_); rintro e w' ⟨rfl, rfl⟩)))
    go_ret
    exact ⟨rfl, below_drewN (Below.refl _ _) _⟩
  · obtain ⟨y, hy⟩ : ∃ y, y = max lo (min x hi) := ⟨_, rfl⟩
    have g1 : lo ≤ max lo (min x hi) := by omega
    have g2 : max lo (min x hi) ≤ hi := by omega
    have g3 : (lo ≤ x ∧ x ≤ hi ∧ max lo (min x hi) = x) ∨ (x < lo ∧ max lo (min x hi) = lo) ∨ (hi < x ∧ max lo (min x hi) = hi) := by omega
    have clip_y : ∀ w, Calls Try.prog 16 #[.int .i64 x, .int .i64 lo, .int .i64 hi] w fun e w' => e = .returned (.int .i64 y) ∧ w = w' := fun w => by rw [hy]; exact clip_any x lo hi w
    rw [← hy] at g1 g2 g3
    have K := Lib.hid clip_y
    clear hy clip_y
    rcases g3 with ⟨g3, g4, g5⟩ | ⟨g3, g5⟩ | ⟨g3, g5⟩
    · subst g5
      have f1 : (y == y) = true := by simp
      go_enter Try.func4, Try.ntmps4
      go_wp2_with (first | (go_at_call 12; ((with_reducible refine (sat_awake _).mono ?_); rintro e w' ⟨rfl, n1, rfl⟩)) | (go_at_call 16; refine (K.out _).mono ?_; rintro e w' ⟨rfl, rfl⟩))
      go_ret
      exact ⟨rfl, below_drewN (Below.refl _ _) _⟩
    · subst g5
      have f1 : (y == x) = false := by simp; omega
      have f2 : (y == y) = true := by simp
      go_enter Try.func4, Try.ntmps4
      go_wp2_with (first | (go_at_call 12; ((with_reducible refine (sat_awake _).mono ?_); rintro e w' ⟨rfl, n1, rfl⟩)) | (go_at_call 16; refine (K.out _).mono ?_; rintro e w' ⟨rfl, rfl⟩))
      go_ret
      exact ⟨rfl, below_drewN (Below.refl _ _) _⟩
    · subst g5
      have f1 : (y == x) = false := by simp; omega
      have f2 : (y == y) = true := by simp
      go_enter Try.func4, Try.ntmps4
      go_wp2_with (first | (go_at_call 12; ((with_reducible refine (sat_awake _).mono ?_); rintro e w' ⟨rfl, n1, rfl⟩)) | (go_at_call 16; refine (K.out _).mono ?_; rintro e w' ⟨rfl, rfl⟩))
      go_ret
      exact ⟨rfl, below_drewN (Below.refl _ _) _⟩

set_option maxRecDepth 100000 in
set_option maxHeartbeats 1000000 in
theorem satClips_lifted (os : Os) (started : os.Started) (H : Type) (enc : TypeId × Value → H) :
    ReturnsInHanded {} Try.checked os 4 .any (Rows.satClipsSpec.pre6 enc Try.prog Try.f4 Rows.satClipsRow.domain false) (Rows.satClipsSpec.post enc Try.prog Try.f4 false true false false) := by
  refine returnsInHanded_of_change (C := Try.checked) own started (by kernel_rfl) Try.func4
    (ChangeSpec.witness6 (enc := enc) (C := Try.checked) false ⟨#[], #[.int .i64 0, .int .i64 0, .int .i64 0], []⟩ 8 (by kernel_rfl) (by kernel_rfl) (by kernel_rfl) (by kernel_rfl)) ?_
  intro W base args ds gs before hval0 hW hcnd _
  have hval : ∀ (j : Nat) t v, Try.f4.params[j]? = some t → args[j]? = some v → Value.okWide Try.prog W .any base t v := hval0
  have hW' := hW
  obtain ⟨p, q, hA0, hV, rfl, hfz, hnd⟩ := hW
  have hA : DataW.TrodAll enc Try.prog W 0 (fun _ => true) true Try.f4.params.toList args.toList ds p := hA0
  rw [Try.params4] at hA hval
  obtain ⟨v0, vs0, d0, ds0, p0, q0, hargs, rfl, rfl, h0, r0⟩ := trodAll_cons hA
  obtain ⟨v1, vs1, d1, ds1, p1, q1, rfl, rfl, rfl, h1, r1⟩ := trodAll_cons r0
  obtain ⟨v2, vs2, d2, ds2, p2, q2, rfl, rfl, rfl, h2, r2⟩ := trodAll_cons r1
  obtain ⟨rfl, rfl, rfl⟩ := trodAll_nil r2
  obtain rfl : args = #[v0, v1, v2] := by cases args; simp_all
  obtain ⟨rfl, rfl⟩ := trodVars_none hV
  have k0 := h0
  have lt0 : ∀ x ∈ p0, x.block < W.heap.size := by obtain ⟨m, hm⟩ := k0; exact DataW.trod_lt m _ _ _ hm
  have k1 := h1
  have lt1 : ∀ x ∈ p1, x.block < W.heap.size := by obtain ⟨m, hm⟩ := k1; exact DataW.trod_lt m _ _ _ hm
  have k2 := h2
  have lt2 : ∀ x ∈ p2, x.block < W.heap.size := by obtain ⟨m, hm⟩ := k2; exact DataW.trod_lt m _ _ _ hm
  obtain ⟨a0, rfl, rfl, rfl, w0⟩ := open_int Try.underlying3 (hval 0 3 v0 rfl rfl) h0
  obtain ⟨a1, rfl, rfl, rfl, w1⟩ := open_int Try.underlying3 (hval 1 3 v1 rfl rfl) h1
  obtain ⟨a2, rfl, rfl, rfl, w2⟩ := open_int Try.underlying3 (hval 2 3 v2 rfl rfl) h2
  clear hA0 hval0
  refine (satClips_walk a0 a1 a2 W).mono fun e W' ⟨he, bel⟩ => ?_
  subst he
  exact ⟨_, rfl, _, _, _, [], _, [], hW', trodAll_mk1 (shut_bool Try.underlying4 _), (trodAll_cons_mk (Below.trod laid_out (by kernel_rfl) (of_decide_eq_true (by kernel_rfl)) k0 bel lt0) (trodAll_cons_mk (Below.trod laid_out (by kernel_rfl) (of_decide_eq_true (by kernel_rfl)) k1 bel lt1) (trodAll_cons_mk (Below.trod laid_out (by kernel_rfl) (of_decide_eq_true (by kernel_rfl)) k2 bel lt2) trodAll_mk0))), rfl, bel.frame _, fun h => by cases h⟩

/-- The statement. -/
theorem satClips_holds : Rows.SatClipsSaid :=
  OpenClaim.holds_of_wide 4 Try.f4 rfl rfl rfl rfl rfl rfl rfl ⟨rfl, rfl, rfl, rfl, rfl⟩ rfl rfl rfl rfl rfl (by kernel_rfl) Try.func4 (by kernel_rfl)
    (of_decide_eq_true (by kernel_rfl)) (by unfold Func.isWrapper; first | (rw [if_pos (by decide +kernel)]; kernel_rfl) | (rw [if_neg (by decide +kernel)]; exact ⟨rfl, rfl⟩))
    (fun os started H enc _ => satClips_lifted os started H enc)
#print axioms satClips_holds
end Go.Proofs.Ytgcadpfgdfjceaa
