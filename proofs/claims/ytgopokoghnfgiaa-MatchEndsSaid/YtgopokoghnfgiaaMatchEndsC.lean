/-
  MatchEnds: how many are the same at both ends is as the document says. For every input; no condition.
-/
import Derived.Test.YtgopokoghnfgiaaMatchEnds
namespace Go.Proofs.Ytgopokoghnfgiaa
open Go.ChangeShapes Go.WideShapes Go.ChangeAt Go.RowKit
attribute [local go_sem ↓] Go.wp_at_zero Go.wp_at_succ

theorem found_self (xs : List Kid) (i : Nat) (hi : i < xs.length) : ∀ d m, m + d = i → foundTo xs (nI (List.range i)) (nm xs i) m = (i : Int) := by
  intro d
  induction d with
  | zero =>
    intro m hm
    obtain rfl : m = i := by omega
    rw [foundTo_step _ _ _ _ hi, if_pos]
    simp [nI]
    intro x hx; omega
  | succ d ih =>
    intro m hm
    rw [foundTo_step _ _ _ _ (by omega), if_neg]
    · exact ih (m + 1) (by omega)
    · have : (nI (List.range i)).contains (m : Int) = true := by
        simp [nI]
        exact ⟨m, by omega, rfl⟩
      rw [this]; simp
theorem pairTo_self (xs : List Kid) : ∀ i, i ≤ xs.length → pairTo xs xs i = nI (List.range i) := by
  intro i
  induction i with
  | zero => intro _; rfl
  | succ i ih =>
    intro hi
    rw [pairTo, ih (by omega), ← foundTo_zero, found_self xs i (by omega) i 0 (by omega), List.range_succ, nI, nI, List.map_append]
    rfl
theorem self_front (xs : List Kid) : IsFront (pairS xs xs) xs.length := by
  refine ⟨by rw [pairS_len]; omega, fun i hi => ?_, .inl (pairS_len _ _).symm⟩
  rw [pairS, pairTo_self xs _ (Nat.le_refl _)]
  simp [nI, List.getD, hi]

set_option maxRecDepth 100000 in
set_option maxHeartbeats 16000000 in
theorem matchEnds_walk (A B : Option Addr) (n c n' c' : Nat) (ks ls : List Kid) (w : World) (hz : Kids w w.heap.size A n ks) (hz' : Kids w w.heap.size B n' ls) (hi : OkI ks) (hi' : OkI ls) :
    Calls Try.prog 6 #[.slice A n c, .slice B n' c'] w fun e w' => e = .returned (.bool true) ∧ Below w.heap.size w w' := by
  have HZ := Lib.hid (And.intro hz (And.intro hz' (And.intro (okK_cut hi 25 (by omega)) (okK_cut hi' 25 (by omega)))))
  clear hz hz' hi hi'
  go_enter Try.func6, Try.ntmps6
  go_wp2_with fail
  refine (awake_any _).mono ?_
  rintro e w1 ⟨rfl, hb1⟩
  have HB1 := Lib.hid hb1
  clear hb1
  obtain ⟨xs, hxs⟩ : ∃ l, l = cutK 25 ks := ⟨_, rfl⟩
  obtain ⟨ys, hys⟩ : ∃ l, l = cutK 25 ls := ⟨_, rfl⟩
  have hx25 : xs.length ≤ 25 := by rw [hxs, cutK_len]; omega
  have hy25 : ys.length ≤ 25 := by rw [hys, cutK_len]; omega
  have HOK := Lib.hid (show OkK xs ∧ OkK ys by rw [hxs, hys]; exact ⟨HZ.out.2.2.1, HZ.out.2.2.2⟩)
  have HX := Lib.hid (And.intro hxs hys)
  clear hxs hys
  go_wp2_with fail
  refine (own_any A n c 25 (by omega) ks _ ((HZ.out.1.below HB1.out).more HB1.out.size)).mono ?_
  rintro e w2 ⟨A1, c1, A2, c2, he, hO⟩
  rw [← HX.out.1] at he hO
  have hcapx := own_cap hO.b
  obtain ⟨z1, z2⟩ := own_kids hO
  have HO := Lib.hid (And.intro z1 (And.intro z2 (HB1.out.trans (hO.below.mono HB1.out.size))))
  obtain ⟨m, hm⟩ : ∃ m, m = xs.length := ⟨_, rfl⟩
  rw [← hm] at he HO hcapx hx25
  subst he
  have HM := Lib.hid hm
  clear hO z1 z2 HB1 hm
  go_wp2_with fail
  refine (own_any B n' c' 25 (by omega) ls _ ((HZ.out.2.1.below HO.out.2.2).more HO.out.2.2.size)).mono ?_
  rintro e w3 ⟨A3, c3, A4, c4, he, hO⟩
  rw [← HX.out.2] at he hO
  have hcapy := own_cap hO.b
  obtain ⟨z1, z2⟩ := own_kids hO
  have HO2 := Lib.hid (And.intro (HO.out.1.keep hO.below) (And.intro (HO.out.2.1.keep hO.below) (And.intro z1 (And.intro z2 (HO.out.2.2.trans (hO.below.mono HO.out.2.2.size))))))
  obtain ⟨m', hm'⟩ : ∃ m, m = ys.length := ⟨_, rfl⟩
  rw [← hm'] at he HO2 hcapy hy25
  subst he
  have HM' := Lib.hid hm'
  clear hO z1 z2 HO hm'
  go_wp2_with fail
  refine (front_any A1 A3 m c1 m' c3 xs ys _ HO2.out.1 HO2.out.2.2.1 (by omega) (by omega) HOK.out.1 HOK.out.2).mono ?_
  rintro e w4 ⟨f1, rfl, hf1, hb⟩
  have HO3 := Lib.hid (And.intro (HO2.out.1.keep hb) (And.intro (HO2.out.2.1.keep hb) (And.intro (HO2.out.2.2.1.keep hb) (And.intro (HO2.out.2.2.2.1.keep hb) (HO2.out.2.2.2.2.trans (hb.mono HO2.out.2.2.2.2.size))))))
  have HF1 := Lib.hid hf1
  clear HO2 hb hf1
  go_wp2_with fail
  refine (rfront_any A2 A4 m c2 m' c4 xs ys _ HO3.out.2.1 HO3.out.2.2.2.1 (by omega) (by omega) hcapx.1 hcapy.1).mono ?_
  rintro e w5 ⟨f2, rfl, hf2, hb⟩
  obtain rfl : f1 = f2 := HF1.out.one hf2
  have HO4 := Lib.hid (And.intro (HO3.out.1.keep hb) (And.intro (HO3.out.2.1.keep hb) (And.intro (HO3.out.2.2.1.keep hb) (And.intro (HO3.out.2.2.2.1.keep hb) (HO3.out.2.2.2.2.trans (hb.mono HO3.out.2.2.2.2.size))))))
  clear HO3 hb hf2
  go_wp2_with fail
  refine (back_any A1 A3 m c1 m' c3 xs ys _ HO4.out.1 HO4.out.2.2.1 (by omega) (by omega) HOK.out.1 HOK.out.2).mono ?_
  rintro e w6 ⟨f3, k3, rfl, hf3, hk3, hb⟩
  obtain rfl : f1 = f3 := HF1.out.one hf3
  have HK3 := Lib.hid hk3
  have HO5 := Lib.hid (And.intro (HO4.out.1.keep hb) (And.intro (HO4.out.2.1.keep hb) (And.intro (HO4.out.2.2.1.keep hb) (And.intro (HO4.out.2.2.2.1.keep hb) (HO4.out.2.2.2.2.trans (hb.mono HO4.out.2.2.2.2.size))))))
  clear HO4 hb hf3 hk3
  go_wp2_with fail
  refine (rback_any A2 A4 m c2 m' c4 xs ys _ HO5.out.2.1 HO5.out.2.2.2.1 (by omega) (by omega) hcapx.1 hcapy.1).mono ?_
  rintro e w7 ⟨f4, k4, rfl, hf4, hk4, hb⟩
  obtain rfl : f1 = f4 := HF1.out.one hf4
  obtain rfl : k3 = k4 := HK3.out.one hk4
  have HO6 := Lib.hid (And.intro (HO5.out.1.keep hb) (And.intro (HO5.out.2.2.1.keep hb) (HO5.out.2.2.2.2.trans (hb.mono HO5.out.2.2.2.2.size))))
  clear HO5 hb hf4 hk4
  go_wp2_with fail
  refine (front_any A1 A1 m c1 m c1 xs xs _ HO6.out.1 HO6.out.1 (by omega) (by omega) HOK.out.1 HOK.out.1).mono ?_
  rintro e w8 ⟨f5, rfl, hf5, hb⟩
  obtain rfl : f5 = m := by rw [HM.out]; exact hf5.one (self_front xs)
  have HO7 := Lib.hid (And.intro (HO6.out.2.1.keep hb) (HO6.out.2.2.trans (hb.mono HO6.out.2.2.size)))
  clear HO6 hb hf5
  go_wp2_with fail
  refine (back_any A3 A3 m' c3 m' c3 ys ys _ HO7.out.1 HO7.out.1 (by omega) (by omega) HOK.out.2 HOK.out.2).mono ?_
  rintro e w9 ⟨f6, k6, rfl, hf6, hk6, hb⟩
  have h6 : f6 = m' := by rw [HM'.out]; exact hf6.one (self_front ys)
  obtain rfl : k6 = 0 := by have := hk6.le.1; omega
  have HB := Lib.hid (HO7.out.2.trans (hb.mono HO7.out.2.size))
  clear HO7 hb hf6 hk6 h6
  go_wp2
  go_ret
  exact ⟨by simp, HB.out⟩

set_option maxRecDepth 100000 in
set_option maxHeartbeats 1000000 in
theorem matchEnds_lifted (os : Os) (started : os.Started) (H : Type) (enc : TypeId × Value → H) :
    ReturnsInHanded {} Try.checked os 6 .any (Rows.matchEndsSpec.pre6 enc Try.prog Try.f6 Rows.matchEndsRow.domain false) (Rows.matchEndsSpec.post enc Try.prog Try.f6 false true false false) := by
  refine returnsInHanded_of_change (C := Try.checked) own started (by kernel_rfl) Try.func6
    (ChangeSpec.witness6 (enc := enc) (C := Try.checked) false ⟨#[], #[.slice none 0 0, .slice none 0 0], []⟩ 8 (by kernel_rfl) (by kernel_rfl) (by kernel_rfl) (by kernel_rfl)) ?_
  intro W base args ds gs before hval0 hW hcnd _
  have hval : ∀ (j : Nat) t v, Try.f6.params[j]? = some t → args[j]? = some v → Value.okWide Try.prog W .any base t v := hval0
  have hW' := hW
  obtain ⟨p, q, hA0, hV, rfl, hfz, hnd⟩ := hW
  have hA : DataW.TrodAll enc Try.prog W 0 (fun _ => true) true Try.f6.params.toList args.toList ds p := hA0
  rw [Try.params6] at hA hval
  obtain ⟨v0, vs0, d0, ds0, p0, q0, hargs, rfl, rfl, h0, r0⟩ := trodAll_cons hA
  obtain ⟨v1, vs1, d1, ds1, p1, q1, rfl, rfl, rfl, h1, r1⟩ := trodAll_cons r0
  obtain ⟨rfl, rfl, rfl⟩ := trodAll_nil r1
  obtain rfl : args = #[v0, v1] := by cases args; simp_all
  obtain ⟨rfl, rfl⟩ := trodVars_none hV
  have k0 := h0
  have lt0 : ∀ x ∈ p0, x.block < W.heap.size := by obtain ⟨m, hm⟩ := k0; exact DataW.trod_lt m _ _ _ hm
  have k1 := h1
  have lt1 : ∀ x ∈ p1, x.block < W.heap.size := by obtain ⟨m, hm⟩ := k1; exact DataW.trod_lt m _ _ _ hm
  obtain ⟨A, n, c, ks, rfl, _, _, hz, hi⟩ := kids_open (hval 0 22 v0 rfl rfl) h0
  obtain ⟨B, n', c', ls, rfl, _, _, hz', hi'⟩ := kids_open (hval 1 22 v1 rfl rfl) h1
  clear hA0 hval0
  refine (matchEnds_walk A B n c n' c' ks ls W hz hz' hi hi').mono fun e W' ⟨he, bel⟩ => ?_
  subst he
  exact ⟨_, rfl, _, _, _, [], _, [], hW', trodAll_mk1 (shut_bool Try.underlying4 _), (trodAll_cons_mk (Below.trod laid_out (by kernel_rfl) (of_decide_eq_true (by kernel_rfl)) k0 bel lt0) (trodAll_cons_mk (Below.trod laid_out (by kernel_rfl) (of_decide_eq_true (by kernel_rfl)) k1 bel lt1) trodAll_mk0)), rfl, bel.frame _, fun h => by cases h⟩

/-- The statement. -/
theorem matchEnds_holds : Rows.MatchEndsSaid :=
  OpenClaim.holds_of_wide 6 Try.f6 rfl rfl rfl rfl rfl rfl rfl ⟨rfl, rfl, rfl, rfl, rfl⟩ rfl rfl rfl rfl rfl (by kernel_rfl) Try.func6 (by kernel_rfl)
    (of_decide_eq_true (by kernel_rfl)) (by unfold Func.isWrapper; first | (rw [if_pos (by decide +kernel)]; kernel_rfl) | (rw [if_neg (by decide +kernel)]; exact ⟨rfl, rfl⟩))
    (fun os started H enc _ => matchEnds_lifted os started H enc)
#print axioms matchEnds_holds
end Go.Proofs.Ytgopokoghnfgiaa
