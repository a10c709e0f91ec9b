/-
  SatClock: a clock never goes back, and stops at the last tick. For every int and every slice of ints; no condition.
-/
import Derived.Test.YtgcadpfgdfjceaaFrame
import Derived.Test.YtgcadpfgdfjceaaSatMore
namespace Go.Proofs.Ytgcadpfgdfjceaa
open Go.ChangeShapes Go.WideShapes Go.ChangeAt Go.RowKit

theorem below_drewN {B : Nat} {a w : World} (h : Below B a w) (n : Nat) : Below B a (w.drewN n) := ⟨h.os, h.tape, h.output, h.size, h.block⟩

/-- The clock behind k steps. -/
def clock (now : Int) (zs : List Int) : Int := zs.foldl P1.later (P1.later now 0)
theorem clock_snoc (now : Int) (zs : List Int) (k : Nat) (h : k < zs.length) : clock now (zs.take (k + 1)) = P1.later (clock now (zs.take k)) (zs.getD k 0) := by
  rw [take_snoc zs 0 k h, clock, clock, List.foldl_append]; rfl
theorem later_bd (t d : Int) : 0 ≤ P1.later t d ∧ P1.later t d ≤ 1099511627776 := by unfold P1.later; omega
theorem later_mono (t d : Int) (h : t ≤ 1099511627776) : t ≤ P1.later t d := by unfold P1.later; omega
theorem clock_bd (now : Int) (zs : List Int) : 0 ≤ clock now zs ∧ clock now zs ≤ 1099511627776 := by
  unfold clock
  have h0 := later_bd now 0
  revert h0
  generalize P1.later now 0 = t
  induction zs generalizing t with
  | nil => exact id
  | cons z zs ih => exact fun _ => ih _ (later_bd t z)

set_option maxHeartbeats 1000000 in
theorem satClock_walk (now : Int) (A : Option Addr) (n c : Nat) (zs : List Int) (w : World) (hI : Ints w A n zs) : Calls Try.prog 6 #[.int .i64 now, .slice A n c] w fun e w' => e = .returned (.bool true) ∧ Below w.heap.size w w' := by
  obtain ⟨hl, h0⟩ := hI
  have hb0 := clock_bd now []
  have hc0 : P1.later now 0 = clock now [] := rfl
  rcases h0 with h0 | ⟨b, off, hA, hc⟩
  · have hz : zs = [] := List.eq_nil_of_length_eq_zero (by omega)
    subst h0 hz
    clear hl
    rw [← hc0] at hb0
    clear hc0
    obtain ⟨hb1, hb2⟩ := hb0
    go_enter Try.func6, Try.ntmps6
    go_wp2_with (first | (go_at_call 12; ((with_reducible refine (sat_awake _).mono ?_); rintro e w' ⟨rfl, n1, rfl⟩)) | (go_at_call 26; ((with_reducible refine (later_any _ _ _).mono ?_); rintro e w' ⟨rfl, rfl⟩)) | (go_at_call 27; ((with_reducible refine (rlater_any _ _ _).mono ?_); rintro e w' ⟨rfl, rfl⟩)))
    refine wp_loop_rounds 1 ?_
    rw [rounds_succ]
    go_wp2
    go_ret
    exact ⟨rfl, below_drewN (Below.refl _ _) _⟩
  · subst hA
    have HL := Lib.hid hl
    have HC := Lib.hid hc
    have H0 := Lib.hid hc0
    clear hl hc hc0 hb0
    go_enter Try.func6, Try.ntmps6
    go_wp2_with (first | (go_at_call 12; ((with_reducible refine (sat_awake _).mono ?_); rintro e w' ⟨rfl, n1, rfl⟩)) | (go_at_call 26; ((with_reducible refine (later_any _ _ _).mono ?_); rintro e w' ⟨rfl, rfl⟩)) | (go_at_call 27; ((with_reducible refine (rlater_any _ _ _).mono ?_); rintro e w' ⟨rfl, rfl⟩)))
    go_loop [5, 6, 7] (fun t u i => ∃ k : Nat, k ≤ n ∧ k ≤ 50 ∧ i = .int .i64 k ∧ t = .int .i64 (clock now (zs.take k)) ∧ u = .int .i64 (clock now (zs.take k))) (fun _ _ i => 50 - (intOf i).toNat)
    case atStart => exact ⟨0, Nat.zero_le _, Nat.zero_le _, rfl, rfl, rfl⟩
    case round =>
      obtain ⟨k, hk, hk50, rfl, rfl, rfl⟩ := hrel
      have hb := clock_bd now (zs.take k)
      by_cases hlt : k < n
      · by_cases h50 : k < 50
        · have hcell := HC.out k hlt
          have H := Lib.hid (clock_snoc now zs k (by have := HL.out; omega))
          have hm := later_mono (clock now (zs.take k)) (zs.getD k 0) hb.2
          have hm2 := later_bd (clock now (zs.take k)) (zs.getD k 0)
          rw [List.getD_eq_getElem?_getD] at hm hm2
          go_wp2_with (first | (go_at_call 26; ((with_reducible refine (later_any _ _ _).mono ?_); rintro e w' ⟨rfl, rfl⟩)) | (go_at_call 27; ((with_reducible refine (rlater_any _ _ _).mono ?_); rintro e w' ⟨rfl, rfl⟩)))
          go_round
          case rel => exact ⟨k + 1, by omega, by omega, by go_num, by rw [H.out, List.getD_eq_getElem?_getD], by rw [H.out, List.getD_eq_getElem?_getD]⟩
          case measure => simp [intOf]; omega
        · have hke : (50 : Int) ≤ (k : Int) := by omega
          go_wp2
          go_ret
          exact ⟨rfl, below_drewN (Below.refl _ _) _⟩
      · go_wp2
        go_ret
        exact ⟨rfl, below_drewN (Below.refl _ _) _⟩

/-- A slice of ints that came in. -/
theorem ints_arg {H : Type} {enc : TypeId × Value → H} {W : World} {base : Nat} {v : Value} {d : DataW H} {p : List MemPlace} (hv : Value.okWide Try.prog W .any base 30 v)
    (h : DataW.Trod enc Try.prog W 0 (fun _ => true) true 30 v d p) : ∃ A n c zs, v = .slice A n c ∧ n ≤ c ∧ c ≤ maxLen ∧ Ints W A n zs := by
  obtain ⟨a0, len, cap, rfl⟩ := okWide_slice Try.underlying30 hv
  obtain ⟨fuel, hf⟩ := h
  rcases open_ints Try.underlying30 Try.underlying3 (by kernel_rfl) hf with ⟨hcs, _⟩ | ⟨x, l, c, zs, hcs, _, hl, hm, hz, _, hcell, hwz⟩
  · simp [Value.cells] at hcs
    obtain ⟨rfl, rfl, rfl⟩ := hcs
    exact ⟨_, _, _, [], rfl, Nat.le_refl _, by unfold maxLen; omega, rfl, .inl rfl⟩
  · simp [Value.cells] at hcs
    obtain ⟨rfl, rfl, rfl⟩ := hcs
    have hz' : zs.length = cap := by simpa using hz
    refine ⟨_, _, _, zs.take len, rfl, hl, hm, by simp; omega, ?_⟩
    by_cases h0 : len = 0
    · exact .inl h0
    · obtain ⟨b, off, spot⟩ := x
      have hspot : spot = none := by simpa [Addr.add] using World.cell?_spot (hcell 0 (by omega))
      subst hspot
      refine .inr ⟨b, off, rfl, fun k hk => ?_⟩
      have := hcell k (by omega)
      rw [Addr.add_lit] at this
      rw [this]
      simp [List.getD, hk]

set_option maxRecDepth 100000 in
set_option maxHeartbeats 1000000 in
theorem satClock_lifted (os : Os) (started : os.Started) (H : Type) (enc : TypeId × Value → H) :
    ReturnsInHanded {} Try.checked os 6 .any (Rows.satClockSpec.pre6 enc Try.prog Try.f6 Rows.satClockRow.domain false) (Rows.satClockSpec.post enc Try.prog Try.f6 false true false false) := by
  refine returnsInHanded_of_change (C := Try.checked) own started (by kernel_rfl) Try.func6
    (ChangeSpec.witness6 (enc := enc) (C := Try.checked) false ⟨#[], #[.int .i64 0, .slice none 0 0], []⟩ 8 (by kernel_rfl) (by kernel_rfl) (by kernel_rfl) (by kernel_rfl)) ?_
  intro W base args ds gs before hval0 hW hcnd _
  have hval : ∀ (j : Nat) t v, Try.f6.params[j]? = some t → args[j]? = some v → Value.okWide Try.prog W .any base t v := hval0
  have hW' := hW
  obtain ⟨p, q, hA0, hV, rfl, hfz, hnd⟩ := hW
  have hA : DataW.TrodAll enc Try.prog W 0 (fun _ => true) true Try.f6.params.toList args.toList ds p := hA0
  rw [Try.params6] at hA hval
  obtain ⟨v0, vs0, d0, ds0, p0, q0, hargs, rfl, rfl, h0, r0⟩ := trodAll_cons hA
  obtain ⟨v1, vs1, d1, ds1, p1, q1, rfl, rfl, rfl, h1, r1⟩ := trodAll_cons r0
  obtain ⟨rfl, rfl, rfl⟩ := trodAll_nil r1
  obtain rfl : args = #[v0, v1] := by cases args; simp_all
  obtain ⟨rfl, rfl⟩ := trodVars_none hV
  have k0 := h0
  have lt0 : ∀ x ∈ p0, x.block < W.heap.size := by obtain ⟨m, hm⟩ := k0; exact DataW.trod_lt m _ _ _ hm
  have k1 := h1
  have lt1 : ∀ x ∈ p1, x.block < W.heap.size := by obtain ⟨m, hm⟩ := k1; exact DataW.trod_lt m _ _ _ hm
  obtain ⟨a0, rfl, rfl, rfl, w0⟩ := open_int Try.underlying3 (hval 0 3 v0 rfl rfl) h0
  obtain ⟨A, n, c, zs, rfl, hnc, hcm, hI⟩ := ints_arg (hval 1 30 v1 rfl rfl) h1
  clear hA0 hval0
  refine (satClock_walk a0 A n c zs W hI).mono fun e W' ⟨he, bel⟩ => ?_
  subst he
  exact ⟨_, rfl, _, _, _, [], _, [], hW', trodAll_mk1 (shut_bool Try.underlying4 _), (trodAll_cons_mk (Below.trod laid_out (by kernel_rfl) (of_decide_eq_true (by kernel_rfl)) k0 bel lt0) (trodAll_cons_mk (Below.trod laid_out (by kernel_rfl) (of_decide_eq_true (by kernel_rfl)) k1 bel lt1) trodAll_mk0)), rfl, bel.frame _, fun h => by cases h⟩

/-- The statement. -/
theorem satClock_holds : Rows.SatClockSaid :=
  OpenClaim.holds_of_wide 6 Try.f6 rfl rfl rfl rfl rfl rfl rfl ⟨rfl, rfl, rfl, rfl, rfl⟩ rfl rfl rfl rfl rfl (by kernel_rfl) Try.func6 (by kernel_rfl)
    (of_decide_eq_true (by kernel_rfl)) (by unfold Func.isWrapper; first | (rw [if_pos (by decide +kernel)]; kernel_rfl) | (rw [if_neg (by decide +kernel)]; exact ⟨rfl, rfl⟩))
    (fun os started H enc _ => satClock_lifted os started H enc)
#print axioms satClock_holds
end Go.Proofs.Ytgcadpfgdfjceaa
