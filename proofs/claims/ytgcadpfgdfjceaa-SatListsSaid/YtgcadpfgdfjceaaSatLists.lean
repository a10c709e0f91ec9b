/-
  SatLists: many numbers are summed one behind the other, each sum within the ends. For every slice of ints; no condition.
-/
import Derived.Test.YtgcadpfgdfjceaaFrame
import Derived.Test.YtgcadpfgdfjceaaSatMore
namespace Go.Proofs.Ytgcadpfgdfjceaa
open Go.ChangeShapes Go.WideShapes Go.ChangeAt Go.RowKit

theorem below_drewN {B : Nat} {a w : World} (h : Below B a w) (n : Nat) : Below B a (w.drewN n) := ⟨h.os, h.tape, h.output, h.size, h.block⟩
theorem ints_drewN {w : World} {A : Option Addr} {n : Nat} {zs : List Int} (h : Ints w A n zs) (k : Nat) : Ints (w.drewN k) A n zs := h

set_option maxHeartbeats 1000000 in
theorem satLists_walk (A : Option Addr) (n c : Nat) (zs : List Int) (w : World) (hnc : n ≤ c) (hcm : c ≤ maxLen) (hI : Ints w A n zs) : Calls Try.prog 7 #[.slice A n c] w fun e w' => e = .returned (.bool true) ∧ Below w.heap.size w w' := by
  have hI0 := hI
  unfold maxLen at hcm
  obtain ⟨hl, h0⟩ := hI
  have hE : Ints w none 0 [] := ⟨rfl, .inl rfl⟩
  have S0 : P1.sum [] = 0 := rfl
  have HE := Lib.hid hE
  have HS0 := Lib.hid S0
  clear hE S0
  rcases h0 with h0 | ⟨b, off, hA, hc⟩
  · have hz : zs = [] := List.eq_nil_of_length_eq_zero (by omega)
    subst h0 hz
    clear hl
    have HI := Lib.hid hI0
    clear hI0
    go_enter Try.func7, Try.ntmps7
    go_wp2_with (first | (go_at_call 12; ((with_reducible refine (sat_awake _).mono ?_); rintro e w' ⟨rfl, n1, rfl⟩)))
    refine wp_loop_rounds 1 ?_
    rw [rounds_succ]
    go_wp2_with fail
    refine (sum_any _ _ _ [] _ (ints_drewN HI.out _) (by omega)).mono ?_
    rintro e w' ⟨rfl, rfl⟩
    rw [HS0.out]
    go_wp2_with fail
    refine (sum_any _ _ _ [] _ (ints_drewN HE.out _) (by omega)).mono ?_
    rintro e w' ⟨rfl, rfl⟩
    rw [HS0.out]
    go_wp2_with fail
    go_ret
    exact ⟨rfl, below_drewN (Below.refl _ _) _⟩
  · subst hA
    by_cases hgt : 100 < n
    · have hI1 : Ints w (some ⟨b, off, none⟩) 100 (zs.take 100) := ⟨by simp; omega, .inr ⟨b, off, rfl, fun k hk => by rw [hc k (by omega)]; simp [List.getD, hk]⟩⟩
      have hl1 : (zs.take 100).length = 100 := by simp; omega
      have hc1 : ∀ k, k < 100 → w.cell? ⟨b, off + k, none⟩ = some (.int .i64 ((zs.take 100).getD k 0)) := fun k hk => by rw [hc k (by omega)]; simp [List.getD, hk]
      clear hI0 hl hc
      generalize zs.take 100 = zs' at *
      have HI := Lib.hid hI1
      have HL := Lib.hid hl1
      have HC := Lib.hid hc1
      clear hI1 hl1 hc1
      have hgI : (100 : Int) < (n : Int) := by omega
      go_enter Try.func7, Try.ntmps7
      go_wp2_with (first | (go_at_call 12; ((with_reducible refine (sat_awake _).mono ?_); rintro e w' ⟨rfl, n1, rfl⟩)))
      go_loop [3, 15] (fun s i => ∃ k : Nat, k ≤ 100 ∧ i = .int .i64 k ∧ s = .int .i64 (P1.sum (zs'.take k))) (fun _ i => 100 - (intOf i).toNat)
      case atStart => exact ⟨0, Nat.zero_le _, rfl, rfl⟩
      case round =>
        obtain ⟨k, hk, rfl, rfl⟩ := hrel
        by_cases hlt : k < 100
        · have hcell := HC.out k hlt
          have H := Lib.hid (sum_snoc zs' k (by have := HL.out; omega))
          go_wp2_with (first | (go_at_call 20; ((with_reducible refine (radd_any _ _ _).mono ?_); rintro e w' ⟨rfl, rfl⟩)))
          go_round
          case rel => exact ⟨k + 1, by omega, by go_num, by rw [H.out, List.getD_eq_getElem?_getD]⟩
          case measure => simp [intOf]; omega
        · have H := Lib.hid (show P1.sum (zs'.take k) = P1.sum zs' by rw [List.take_of_length_le (by have := HL.out; omega)])
          go_wp2_with fail
          refine (sum_any _ _ _ zs' _ (ints_drewN HI.out _) (by omega)).mono ?_
          rintro e w' ⟨rfl, rfl⟩
          rw [H.out]
          go_wp2_with fail
          refine (sum_any _ _ _ [] _ (ints_drewN HE.out _) (by omega)).mono ?_
          rintro e w' ⟨rfl, rfl⟩
          rw [HS0.out]
          go_wp2_with fail
          go_ret
          exact ⟨rfl, below_drewN (Below.refl _ _) _⟩
    · have HI := Lib.hid hI0
      have HL := Lib.hid hl
      have HC := Lib.hid hc
      clear hI0 hl hc
      have hgI : decide ((100 : Int) < (n : Int)) = false := by simp; omega
      go_enter Try.func7, Try.ntmps7
      go_wp2_with (first | (go_at_call 12; ((with_reducible refine (sat_awake _).mono ?_); rintro e w' ⟨rfl, n1, rfl⟩)))
      go_loop [3, 15] (fun s i => ∃ k : Nat, k ≤ n ∧ i = .int .i64 k ∧ s = .int .i64 (P1.sum (zs.take k))) (fun _ i => n - (intOf i).toNat)
      case atStart => exact ⟨0, Nat.zero_le _, rfl, rfl⟩
      case round =>
        obtain ⟨k, hk, rfl, rfl⟩ := hrel
        by_cases hlt : k < n
        · have hcell := HC.out k hlt
          have H := Lib.hid (sum_snoc zs k (by have := HL.out; omega))
          go_wp2_with (first | (go_at_call 20; ((with_reducible refine (radd_any _ _ _).mono ?_); rintro e w' ⟨rfl, rfl⟩)))
          go_round
          case rel => exact ⟨k + 1, by omega, by go_num, by rw [H.out, List.getD_eq_getElem?_getD]⟩
          case measure => simp [intOf]; omega
        · have H := Lib.hid (show P1.sum (zs.take k) = P1.sum zs by rw [List.take_of_length_le (by have := HL.out; omega)])
          go_wp2_with fail
          refine (sum_any _ _ _ zs _ (ints_drewN HI.out _) (by omega)).mono ?_
          rintro e w' ⟨rfl, rfl⟩
          rw [H.out]
          go_wp2_with fail
          refine (sum_any _ _ _ [] _ (ints_drewN HE.out _) (by omega)).mono ?_
          rintro e w' ⟨rfl, rfl⟩
          rw [HS0.out]
          go_wp2_with fail
          go_ret
          exact ⟨rfl, below_drewN (Below.refl _ _) _⟩

/-- A slice of ints that came in. -/
theorem ints_arg {H : Type} {enc : TypeId × Value → H} {W : World} {base : Nat} {v : Value} {d : DataW H} {p : List MemPlace} (hv : Value.okWide Try.prog W .any base 30 v)
    (h : DataW.Trod enc Try.prog W 0 (fun _ => true) true 30 v d p) : ∃ A n c zs, v = .slice A n c ∧ n ≤ c ∧ c ≤ maxLen ∧ Ints W A n zs := by
  obtain ⟨a0, len, cap, rfl⟩ := okWide_slice Try.underlying30 hv
  obtain ⟨fuel, hf⟩ := h
  rcases open_ints Try.underlying30 Try.underlying3 (by kernel_rfl) hf with ⟨hcs, _⟩ | ⟨x, l, c, zs, hcs, _, hl, hm, hz, _, hcell, hwz⟩
  · simp [Value.cells] at hcs
    obtain ⟨rfl, rfl, rfl⟩ := hcs
    exact ⟨_, _, _, [], rfl, Nat.le_refl _, by unfold maxLen; omega, rfl, .inl rfl⟩
  · simp [Value.cells] at hcs
    obtain ⟨rfl, rfl, rfl⟩ := hcs
    have hz' : zs.length = cap := by simpa using hz
    refine ⟨_, _, _, zs.take len, rfl, hl, hm, by simp; omega, ?_⟩
    by_cases h0 : len = 0
    · exact .inl h0
    · obtain ⟨b, off, spot⟩ := x
      have hspot : spot = none := by simpa [Addr.add] using World.cell?_spot (hcell 0 (by omega))
      subst hspot
      refine .inr ⟨b, off, rfl, fun k hk => ?_⟩
      have := hcell k (by omega)
      rw [Addr.add_lit] at this
      rw [this]
      simp [List.getD, hk]

set_option maxRecDepth 100000 in
set_option maxHeartbeats 1000000 in
theorem satLists_lifted (os : Os) (started : os.Started) (H : Type) (enc : TypeId × Value → H) :
    ReturnsInHanded {} Try.checked os 7 .any (Rows.satListsSpec.pre6 enc Try.prog Try.f7 Rows.satListsRow.domain false) (Rows.satListsSpec.post enc Try.prog Try.f7 false true false false) := by
  refine returnsInHanded_of_change (C := Try.checked) own started (by kernel_rfl) Try.func7
    (ChangeSpec.witness6 (enc := enc) (C := Try.checked) false ⟨#[], #[.slice none 0 0], []⟩ 8 (by kernel_rfl) (by kernel_rfl) (by kernel_rfl) (by kernel_rfl)) ?_
  intro W base args ds gs before hval0 hW hcnd _
  have hval : ∀ (j : Nat) t v, Try.f7.params[j]? = some t → args[j]? = some v → Value.okWide Try.prog W .any base t v := hval0
  have hW' := hW
  obtain ⟨p, q, hA0, hV, rfl, hfz, hnd⟩ := hW
  have hA : DataW.TrodAll enc Try.prog W 0 (fun _ => true) true Try.f7.params.toList args.toList ds p := hA0
  rw [Try.params7] at hA hval
  obtain ⟨v0, vs0, d0, ds0, p0, q0, hargs, rfl, rfl, h0, r0⟩ := trodAll_cons hA
  obtain ⟨rfl, rfl, rfl⟩ := trodAll_nil r0
  obtain rfl : args = #[v0] := by cases args; simp_all
  obtain ⟨rfl, rfl⟩ := trodVars_none hV
  have k0 := h0
  have lt0 : ∀ x ∈ p0, x.block < W.heap.size := by obtain ⟨m, hm⟩ := k0; exact DataW.trod_lt m _ _ _ hm
  obtain ⟨A, n, c, zs, rfl, hnc, hcm, hI⟩ := ints_arg (hval 0 30 v0 rfl rfl) h0
  clear hA0 hval0
  refine (satLists_walk A n c zs W hnc hcm hI).mono fun e W' ⟨he, bel⟩ => ?_
  subst he
  exact ⟨_, rfl, _, _, _, [], _, [], hW', trodAll_mk1 (shut_bool Try.underlying4 _), (trodAll_cons_mk (Below.trod laid_out (by kernel_rfl) (of_decide_eq_true (by kernel_rfl)) k0 bel lt0) trodAll_mk0), rfl, bel.frame _, fun h => by cases h⟩

/-- The statement. -/
theorem satLists_holds : Rows.SatListsSaid :=
  OpenClaim.holds_of_wide 7 Try.f7 rfl rfl rfl rfl rfl rfl rfl ⟨rfl, rfl, rfl, rfl, rfl⟩ rfl rfl rfl rfl rfl (by kernel_rfl) Try.func7 (by kernel_rfl)
    (of_decide_eq_true (by kernel_rfl)) (by unfold Func.isWrapper; first | (rw [if_pos (by decide +kernel)]; kernel_rfl) | (rw [if_neg (by decide +kernel)]; exact ⟨rfl, rfl⟩))
    (fun os started H enc _ => satLists_lifted os started H enc)
#print axioms satLists_holds
end Go.Proofs.Ytgcadpfgdfjceaa
