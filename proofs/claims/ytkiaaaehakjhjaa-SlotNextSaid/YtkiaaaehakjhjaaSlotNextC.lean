/-
  SlotNext: what goes on by itself is as the document says. For every list of kids; no condition.
-/
import Derived.Test.YtkiaaaehakjhjaaSlotNext2
import Derived.Test.YtkiaaaehakjhjaaSlotAwake
import Derived.Test.YtkiaaaehakjhjaaOwnC
import Derived.Test.YtkiaaaehakjhjaaNumbers
namespace Go.Proofs.Ytkiaaaehakjhjaa
open Go.ChangeShapes Go.WideShapes Go.ChangeAt Go.RowKit
attribute [local go_sem ↓] Go.wp_at_zero Go.wp_at_succ

theorem own_kids {w wx : World} {ks : List Kid} {A B : Option Addr} {a b : Nat} (h : Ow w wx (.slice A ks.length a) (.slice B ks.length b) ks.length (flatK ks)) : Kids wx wx.heap.size A ks.length ks ∧ Kids wx wx.heap.size B ks.length ks :=
  ⟨Kids.of_own h.a rfl, Kids.of_own h.b rfl⟩

set_option maxRecDepth 100000 in
set_option maxHeartbeats 8000000 in
theorem slotNext_walk (A : Option Addr) (n c : Nat) (ks : List Kid) (w : World) (hz : Kids w w.heap.size A n ks) :
    Calls Try.prog 5 #[.slice A n c] w fun e w' => e = .returned (.bool true) ∧ Below w.heap.size w w' := by
  have HZ := Lib.hid hz
  clear hz
  go_enter Try.func5, Try.ntmps5
  go_wp2_with fail
  refine (awake_any _).mono ?_
  rintro e w1 ⟨rfl, hb1⟩
  have HB1 := Lib.hid hb1
  clear hb1
  obtain ⟨ls, hls⟩ : ∃ ls, ls = cutK 15 ks := ⟨_, rfl⟩
  obtain ⟨m, hm⟩ : ∃ m, m = ls.length := ⟨_, rfl⟩
  have hm15 : m ≤ 15 := by rw [hm, hls, cutK_len]; omega
  have HL := Lib.hid hls
  have HM := Lib.hid hm
  clear hls hm
  go_wp2_with fail
  refine (own_any A n c ks _ ((HZ.out.below HB1.out).more HB1.out.size)).mono ?_
  rintro e w2 ⟨A1, c1, A2, c2, he, hO⟩
  rw [← HL.out] at he hO
  obtain ⟨z1, z2⟩ := own_kids hO
  have HO := Lib.hid (And.intro z1 (And.intro z2 (HB1.out.trans (hO.below.mono HB1.out.size))))
  rw [← HM.out] at he HO
  subst he
  clear hO z1 z2 HB1
  go_wp2_with fail
  refine (next_any A1 m c1 ls _ HO.out.1 hm15).mono ?_
  rintro e w3 ⟨A3, c3, rfl, ho3, hb3⟩
  obtain ⟨l, hl⟩ : ∃ l, l = nextL ls := ⟨_, rfl⟩
  obtain ⟨q, hq⟩ : ∃ q, q = nextB ls := ⟨_, rfl⟩
  rw [← hl, ← hq]
  rw [← hl] at ho3
  have HQ := Lib.hid (And.intro hl hq)
  have HO3 := Lib.hid (And.intro ho3 hb3)
  clear hl hq ho3 hb3
  go_wp2_with fail
  refine (rnext_any A2 m c2 ls _ (HO.out.2.1.keep HO3.out.2) hm15).mono ?_
  rintro e w4 ⟨A4, c4, rfl, ho4, hb4⟩
  rw [← HQ.out.1, ← HQ.out.2]
  rw [← HQ.out.1] at ho4
  have hc3 := own_cap HO3.out.1
  have hc4 := own_cap ho4
  have HO4 := Lib.hid (And.intro ho4 (And.intro hb4 (own_keep HO3.out.1 hb4)))
  clear ho4 hb4
  go_wp2_with fail
  refine (numbers_any _ _ _ _ _ _ l l _ _ _ (Nums.of_own HO4.out.2.2 rfl) (Nums.of_own HO4.out.1 rfl) (by omega) (by omega)).mono ?_
  rintro e w5 ⟨he, n5, rfl⟩
  obtain rfl : e = .returned (.bool true) := by rw [he]; simp
  clear he
  go_wp2
  go_ret
  exact ⟨by simp, below_drewN (HO.out.2.2.trans ((HO3.out.2.trans (HO4.out.2.1.mono HO3.out.2.size)).mono HO.out.2.2.size)) _⟩

/-- A list of kids that came in. -/
theorem kids_open {H : Type} {enc : TypeId × Value → H} {W : World} {base : Nat} {v : Value} {d : DataW H} {p : List MemPlace} (hv : Value.okWide Try.prog W .any base 22 v)
    (h : DataW.Trod enc Try.prog W 0 (fun _ => true) true 22 v d p) : ∃ A n c ks, v = .slice A n c ∧ n ≤ c ∧ c ≤ maxLen ∧ Kids W W.heap.size A n ks := by
  obtain ⟨a0, len, cap, rfl⟩ := okWide_slice Try.underlying22 hv
  obtain ⟨fuel, hf⟩ := h
  exact kids_arg hf

set_option maxRecDepth 100000 in
set_option maxHeartbeats 1000000 in
theorem slotNext_lifted (os : Os) (started : os.Started) (H : Type) (enc : TypeId × Value → H) :
    ReturnsInHanded {} Try.checked os 5 .any (Rows.slotNextSpec.pre6 enc Try.prog Try.f5 Rows.slotNextRow.domain false) (Rows.slotNextSpec.post enc Try.prog Try.f5 false true false false) := by
  refine returnsInHanded_of_change (C := Try.checked) own started (by kernel_rfl) Try.func5
    (ChangeSpec.witness6 (enc := enc) (C := Try.checked) false ⟨#[], #[.slice none 0 0], []⟩ 8 (by kernel_rfl) (by kernel_rfl) (by kernel_rfl) (by kernel_rfl)) ?_
  intro W base args ds gs before hval0 hW hcnd _
  have hval : ∀ (j : Nat) t v, Try.f5.params[j]? = some t → args[j]? = some v → Value.okWide Try.prog W .any base t v := hval0
  have hW' := hW
  obtain ⟨p, q, hA0, hV, rfl, hfz, hnd⟩ := hW
  have hA : DataW.TrodAll enc Try.prog W 0 (fun _ => true) true Try.f5.params.toList args.toList ds p := hA0
  rw [Try.params5] at hA hval
  obtain ⟨v0, vs0, d0, ds0, p0, q0, hargs, rfl, rfl, h0, r0⟩ := trodAll_cons hA
  obtain ⟨rfl, rfl, rfl⟩ := trodAll_nil r0
  obtain rfl : args = #[v0] := by cases args; simp_all
  obtain ⟨rfl, rfl⟩ := trodVars_none hV
  have k0 := h0
  have lt0 : ∀ x ∈ p0, x.block < W.heap.size := by obtain ⟨m, hm⟩ := k0; exact DataW.trod_lt m _ _ _ hm
  obtain ⟨A, n, c, ks, rfl, _, _, hz⟩ := kids_open (hval 0 22 v0 rfl rfl) h0
  clear hA0 hval0
  refine (slotNext_walk A n c ks W hz).mono fun e W' ⟨he, bel⟩ => ?_
  subst he
  exact ⟨_, rfl, _, _, _, [], _, [], hW', trodAll_mk1 (shut_bool Try.underlying4 _), (trodAll_cons_mk (Below.trod laid_out (by kernel_rfl) (of_decide_eq_true (by kernel_rfl)) k0 bel lt0) trodAll_mk0), rfl, bel.frame _, fun h => by cases h⟩

/-- The statement. -/
theorem slotNext_holds : Rows.SlotNextSaid :=
  OpenClaim.holds_of_wide 5 Try.f5 rfl rfl rfl rfl rfl rfl rfl ⟨rfl, rfl, rfl, rfl, rfl⟩ rfl rfl rfl rfl rfl (by kernel_rfl) Try.func5 (by kernel_rfl)
    (of_decide_eq_true (by kernel_rfl)) (by unfold Func.isWrapper; first | (rw [if_pos (by decide +kernel)]; kernel_rfl) | (rw [if_neg (by decide +kernel)]; exact ⟨rfl, rfl⟩))
    (fun os started H enc _ => slotNext_lifted os started H enc)
#print axioms slotNext_holds
end Go.Proofs.Ytkiaaaehakjhjaa
