/-
  MatchPairs: each new kid has just the old one that the document says; who is had by none is told. For every input; no condition.
-/
import Derived.Test.YtgopokoghnfgiaaMatchOpen
namespace Go.Proofs.Ytgopokoghnfgiaa
open Go.ChangeShapes Go.WideShapes Go.ChangeAt Go.RowKit
attribute [local go_sem ↓] Go.wp_at_zero Go.wp_at_succ

set_option maxRecDepth 100000 in
set_option maxHeartbeats 16000000 in
theorem matchPairs_walk (A B : Option Addr) (n c n' c' : Nat) (ks ls : List Kid) (w : World) (hz : Kids w w.heap.size A n ks) (hz' : Kids w w.heap.size B n' ls) (hi : OkI ks) (hi' : OkI ls) :
    Calls Try.prog 4 #[.slice A n c, .slice B n' c'] w fun e w' => e = .returned (.bool true) ∧ Below w.heap.size w w' := by
  have HZ := Lib.hid (And.intro hz (And.intro hz' (And.intro (okK_cut hi 25 (by omega)) (okK_cut hi' 25 (by omega)))))
  clear hz hz' hi hi'
  go_enter Try.func4, Try.ntmps4
  go_wp2_with fail
  refine (awake_any _).mono ?_
  rintro e w1 ⟨rfl, hb1⟩
  have HB1 := Lib.hid hb1
  clear hb1
  obtain ⟨xs, hxs⟩ : ∃ l, l = cutK 25 ks := ⟨_, rfl⟩
  obtain ⟨ys, hys⟩ : ∃ l, l = cutK 25 ls := ⟨_, rfl⟩
  have hx25 : xs.length ≤ 25 := by rw [hxs, cutK_len]; omega
  have hy25 : ys.length ≤ 25 := by rw [hys, cutK_len]; omega
  have HOK := Lib.hid (show OkK xs ∧ OkK ys by rw [hxs, hys]; exact ⟨HZ.out.2.2.1, HZ.out.2.2.2⟩)
  have HX := Lib.hid (And.intro hxs hys)
  clear hxs hys
  go_wp2_with fail
  refine (own_any A n c 25 (by omega) ks _ ((HZ.out.1.below HB1.out).more HB1.out.size)).mono ?_
  rintro e w2 ⟨A1, c1, A2, c2, he, hO⟩
  rw [← HX.out.1] at he hO
  have hcapx := own_cap hO.b
  obtain ⟨z1, z2⟩ := own_kids hO
  have HO := Lib.hid (And.intro z1 (And.intro z2 (HB1.out.trans (hO.below.mono HB1.out.size))))
  obtain ⟨m, hm⟩ : ∃ m, m = xs.length := ⟨_, rfl⟩
  rw [← hm] at he HO hcapx hx25
  subst he
  have HM := Lib.hid hm
  clear hO z1 z2 HB1 hm
  go_wp2_with fail
  refine (own_any B n' c' 25 (by omega) ls _ ((HZ.out.2.1.below HO.out.2.2).more HO.out.2.2.size)).mono ?_
  rintro e w3 ⟨A3, c3, A4, c4, he, hO⟩
  rw [← HX.out.2] at he hO
  have hcapy := own_cap hO.b
  obtain ⟨z1, z2⟩ := own_kids hO
  have HO2 := Lib.hid (And.intro (HO.out.1.keep hO.below) (And.intro (HO.out.2.1.keep hO.below) (And.intro z1 (And.intro z2 (HO.out.2.2.trans (hO.below.mono HO.out.2.2.size))))))
  obtain ⟨m', hm'⟩ : ∃ m, m = ys.length := ⟨_, rfl⟩
  rw [← hm'] at he HO2 hcapy hy25
  subst he
  have HM' := Lib.hid hm'
  clear hO z1 z2 HO hm'
  go_wp2_with fail
  refine (pair_any A1 A3 m c1 m' c3 xs ys _ HO2.out.1 HO2.out.2.2.1 (by omega) (by omega) HOK.out.1 HOK.out.2).mono ?_
  rintro e w4 ⟨A5, c5, rfl, ho5, hb5⟩
  have HO3 := Lib.hid (And.intro (HO2.out.1.keep hb5) (And.intro (HO2.out.2.1.keep hb5) (And.intro (HO2.out.2.2.1.keep hb5) (And.intro (HO2.out.2.2.2.1.keep hb5) (And.intro (HO2.out.2.2.2.2.trans (hb5.mono HO2.out.2.2.2.2.size)) ho5)))))
  clear HO2 ho5 hb5
  go_wp2_with fail
  refine (rpair_any A2 A4 m c2 m' c4 xs ys _ HO3.out.2.1 HO3.out.2.2.2.1 (by omega) (by omega) hcapx.1 hcapy.1).mono ?_
  rintro e w5 ⟨A6, c6, rfl, ho6, hb6⟩
  have hpl : (pairS xs ys).length = m' := by rw [pairS_len]; exact HM'.out.symm
  have hc5 := own_cap HO3.out.2.2.2.2.2
  have hc6 := own_cap ho6
  have HO4 := Lib.hid (And.intro (HO3.out.1.keep hb6) (And.intro (HO3.out.2.1.keep hb6) (And.intro (HO3.out.2.2.1.keep hb6) (And.intro (HO3.out.2.2.2.1.keep hb6) (And.intro (HO3.out.2.2.2.2.1.trans (hb6.mono HO3.out.2.2.2.2.1.size)) (And.intro (Nums.of_own (own_keep HO3.out.2.2.2.2.2 hb6) hpl) (Nums.of_own ho6 hpl)))))))
  clear HO3 ho6 hb6 hpl
  go_wp2_with fail
  refine (numbers_any _ _ _ _ _ _ _ _ _ _ _ HO4.out.2.2.2.2.2.1 HO4.out.2.2.2.2.2.2 (by omega) (by omega)).mono ?_
  rintro e w6 ⟨he, nd, rfl⟩
  obtain rfl : e = .returned (.bool true) := by rw [he]; simp
  have hb6 := below_drewN (Below.refl w5.heap.size w5) nd
  have HO5 := Lib.hid (And.intro (HO4.out.1.keep hb6) (And.intro (HO4.out.2.1.keep hb6) (And.intro (HO4.out.2.2.1.keep hb6) (And.intro (HO4.out.2.2.2.1.keep hb6) (HO4.out.2.2.2.2.1.trans (hb6.mono HO4.out.2.2.2.2.1.size))))))
  clear he hb6 HO4 hc5 hc6
  generalize w5.drewN nd = w6 at HO5 ⊢
  go_wp2_with fail
  refine (gone_any A1 A3 m c1 m' c3 xs ys _ HO5.out.1 HO5.out.2.2.1 (by omega) (by omega) HOK.out.1 HOK.out.2).mono ?_
  obtain ⟨g, hg⟩ : ∃ g, g = goneS xs ys := ⟨_, rfl⟩
  rw [← hg]
  rintro e w7 ⟨A7, c7, rfl, ho7, hb7⟩
  have HGS := Lib.hid hg
  have HO6 := Lib.hid (And.intro (HO5.out.2.1.keep hb7) (And.intro (HO5.out.2.2.2.1.keep hb7) (And.intro (HO5.out.2.2.2.2.trans (hb7.mono HO5.out.2.2.2.2.size)) ho7)))
  clear HO5 ho7 hb7 hg
  go_wp2_with fail
  refine (rgone_any A2 A4 m c2 m' c4 xs ys _ HO6.out.1 HO6.out.2.1 (by omega) (by omega) hcapx.1 hcapy.1).mono ?_
  rw [← HGS.out]
  rintro e w8 ⟨A8, c8, rfl, ho8, hb8⟩
  have hc7 := own_cap HO6.out.2.2.2
  have hc8 := own_cap ho8
  have HO7 := Lib.hid (And.intro (Nums.of_own (own_keep HO6.out.2.2.2 hb8) rfl) (And.intro (Nums.of_own ho8 rfl) (HO6.out.2.2.1.trans (hb8.mono HO6.out.2.2.1.size))))
  clear HO6 ho8 hb8
  go_wp2_with fail
  refine (numbers_any _ _ _ _ _ _ _ _ _ _ _ HO7.out.1 HO7.out.2.1 (by omega) (by omega)).mono ?_
  rintro e w9 ⟨he, nd2, rfl⟩
  obtain rfl : e = .returned (.bool true) := by rw [he]; simp
  clear he
  go_wp2
  go_ret
  exact ⟨rfl, below_drewN HO7.out.2.2 nd2⟩

set_option maxRecDepth 100000 in
set_option maxHeartbeats 1000000 in
theorem matchPairs_lifted (os : Os) (started : os.Started) (H : Type) (enc : TypeId × Value → H) :
    ReturnsInHanded {} Try.checked os 4 .any (Rows.matchPairsSpec.pre6 enc Try.prog Try.f4 Rows.matchPairsRow.domain false) (Rows.matchPairsSpec.post enc Try.prog Try.f4 false true false false) := by
  refine returnsInHanded_of_change (C := Try.checked) own started (by kernel_rfl) Try.func4
    (ChangeSpec.witness6 (enc := enc) (C := Try.checked) false ⟨#[], #[.slice none 0 0, .slice none 0 0], []⟩ 8 (by kernel_rfl) (by kernel_rfl) (by kernel_rfl) (by kernel_rfl)) ?_
  intro W base args ds gs before hval0 hW hcnd _
  have hval : ∀ (j : Nat) t v, Try.f4.params[j]? = some t → args[j]? = some v → Value.okWide Try.prog W .any base t v := hval0
  have hW' := hW
  obtain ⟨p, q, hA0, hV, rfl, hfz, hnd⟩ := hW
  have hA : DataW.TrodAll enc Try.prog W 0 (fun _ => true) true Try.f4.params.toList args.toList ds p := hA0
  rw [Try.params4] at hA hval
  obtain ⟨v0, vs0, d0, ds0, p0, q0, hargs, rfl, rfl, h0, r0⟩ := trodAll_cons hA
  obtain ⟨v1, vs1, d1, ds1, p1, q1, rfl, rfl, rfl, h1, r1⟩ := trodAll_cons r0
  obtain ⟨rfl, rfl, rfl⟩ := trodAll_nil r1
  obtain rfl : args = #[v0, v1] := by cases args; simp_all
  obtain ⟨rfl, rfl⟩ := trodVars_none hV
  have k0 := h0
  have lt0 : ∀ x ∈ p0, x.block < W.heap.size := by obtain ⟨m, hm⟩ := k0; exact DataW.trod_lt m _ _ _ hm
  have k1 := h1
  have lt1 : ∀ x ∈ p1, x.block < W.heap.size := by obtain ⟨m, hm⟩ := k1; exact DataW.trod_lt m _ _ _ hm
  obtain ⟨A, n, c, ks, rfl, _, _, hz, hi⟩ := kids_open (hval 0 22 v0 rfl rfl) h0
  obtain ⟨B, n', c', ls, rfl, _, _, hz', hi'⟩ := kids_open (hval 1 22 v1 rfl rfl) h1
  clear hA0 hval0
  refine (matchPairs_walk A B n c n' c' ks ls W hz hz' hi hi').mono fun e W' ⟨he, bel⟩ => ?_
  subst he
  exact ⟨_, rfl, _, _, _, [], _, [], hW', trodAll_mk1 (shut_bool Try.underlying4 _), (trodAll_cons_mk (Below.trod laid_out (by kernel_rfl) (of_decide_eq_true (by kernel_rfl)) k0 bel lt0) (trodAll_cons_mk (Below.trod laid_out (by kernel_rfl) (of_decide_eq_true (by kernel_rfl)) k1 bel lt1) trodAll_mk0)), rfl, bel.frame _, fun h => by cases h⟩

/-- The statement. -/
theorem matchPairs_holds : Rows.MatchPairsSaid :=
  OpenClaim.holds_of_wide 4 Try.f4 rfl rfl rfl rfl rfl rfl rfl ⟨rfl, rfl, rfl, rfl, rfl⟩ rfl rfl rfl rfl rfl (by kernel_rfl) Try.func4 (by kernel_rfl)
    (of_decide_eq_true (by kernel_rfl)) (by unfold Func.isWrapper; first | (rw [if_pos (by decide +kernel)]; kernel_rfl) | (rw [if_neg (by decide +kernel)]; exact ⟨rfl, rfl⟩))
    (fun os started H enc _ => matchPairs_lifted os started H enc)
#print axioms matchPairs_holds
end Go.Proofs.Ytgopokoghnfgiaa
