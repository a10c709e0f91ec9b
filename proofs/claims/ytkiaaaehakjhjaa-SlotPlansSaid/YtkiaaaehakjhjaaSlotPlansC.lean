/-
  SlotPlans: what each kid does, who is there then, and who leaves at once, is just as the document says. For every input; no condition.
-/
import Derived.Test.YtkiaaaehakjhjaaSlotRof
import Derived.Test.YtkiaaaehakjhjaaSlotAwake
import Derived.Test.YtkiaaaehakjhjaaOwnC
import Derived.Test.YtkiaaaehakjhjaaSlotOpen
import Derived.ChangeMaps5
namespace Go.Proofs.Ytkiaaaehakjhjaa
open Go.ChangeShapes Go.WideShapes Go.ChangeAt Go.RowKit
attribute [local go_sem ↓] Go.wp_at_zero Go.wp_at_succ

set_option maxRecDepth 100000 in
set_option maxHeartbeats 8000000 in
theorem slotPlans_walk (A : Option Addr) (n c : Nat) (ks : List Kid) (key : ByteArray) (mode : Int) (w : World) (hz : Kids w w.heap.size A n ks) :
    Calls Try.prog 3 #[.slice A n c, .string key, .int .i64 mode] w fun e w' => e = .returned (.bool true) ∧ Below w.heap.size w w' := by
  have HZ := Lib.hid hz
  clear hz
  go_enter Try.func3, Try.ntmps3
  go_wp2_with fail
  refine (awake_any _).mono ?_
  rintro e w1 ⟨rfl, hb1⟩
  have HB1 := Lib.hid hb1
  clear hb1
  obtain ⟨ls, hls⟩ : ∃ ls, ls = cutK 15 ks := ⟨_, rfl⟩
  obtain ⟨m, hm⟩ : ∃ m, m = ls.length := ⟨_, rfl⟩
  have hm15 : m ≤ 15 := by rw [hm, hls, cutK_len]; omega
  have HL := Lib.hid hls
  have HM := Lib.hid hm
  clear hls hm
  go_wp2_with fail
  refine (own_any A n c ks _ ((HZ.out.below HB1.out).more HB1.out.size)).mono ?_
  rintro e w2 ⟨A1, c1, A2, c2, he, hO⟩
  rw [← HL.out] at he hO
  obtain ⟨z1, z2⟩ := own_kids hO
  have HO := Lib.hid (And.intro z1 (And.intro z2 (HB1.out.trans (hO.below.mono HB1.out.size))))
  rw [← HM.out] at he HO
  subst he
  clear hO z1 z2 HB1
  go_wp2_with (first | (go_at_call 9; ((with_reducible refine (cut_any _ _).mono ?_); rintro e w' ⟨rfl, rfl⟩)))
  obtain ⟨kc, hkc⟩ : ∃ kc, kc = cut20 key := ⟨_, rfl⟩
  rw [← hkc]
  clear hkc
  go_wp2_with fail
  refine (of_any _ A1 m c1 ls kc mode HO.out.1 hm15).mono ?_
  obtain ⟨p, hp⟩ : ∃ p, p = ofS ls kc mode := ⟨_, rfl⟩
  rw [← hp]
  have HP := Lib.hid hp
  clear hp
  rintro e w3 ⟨A3, c3, A4, c4, rfl, ho3, ho4, hb3⟩
  have hc3 := own_cap ho3
  have hc4 := own_cap ho4
  have H3 := Lib.hid (And.intro ho3 (And.intro ho4 hb3))
  clear ho3 ho4 hb3
  go_wp2_with fail
  refine (rof_any _ A2 m c2 ls kc mode (HO.out.2.1.keep H3.out.2.2) hm15).mono ?_
  rw [← HP.out]
  rintro e w4 ⟨A5, c5, A6, c6, rfl, ho5, ho6, hb4⟩
  have hc5 := own_cap ho5
  have hc6 := own_cap ho6
  have H4 := Lib.hid (And.intro ho5 (And.intro ho6 (And.intro hb4 (And.intro (own_keep H3.out.1 hb4) (own_keep H3.out.2.1 hb4)))))
  clear ho5 ho6 hb4
  go_upto_region 6 with fail
  have q1 := Blk.new w4 30 #[.slice A3 p.each.length c3, .int .i64 p.take, .int .i64 p.start, .slice A4 p.rel.length c4]
  have hb5 := (Below.refl w4.heap.size w4).alloc (Nat.le_refl _) (.cells #[.slice A3 p.each.length c3, .int .i64 p.take, .int .i64 p.start, .slice A4 p.rel.length c4] 30)
  have q1' := q1.alloc (.cells #[.slice A5 p.each.length c5, .int .i64 p.take, .int .i64 p.start, .slice A6 p.rel.length c6] 32)
  have q2 := blk_new2 w4 (.cells #[.slice A3 p.each.length c3, .int .i64 p.take, .int .i64 p.start, .slice A4 p.rel.length c4] 30) 32 #[.slice A5 p.each.length c5, .int .i64 p.take, .int .i64 p.start, .slice A6 p.rel.length c6]
  have hb6 := hb5.alloc hb5.size (.cells #[.slice A5 p.each.length c5, .int .i64 p.take, .int .i64 p.start, .slice A6 p.rel.length c6] 32)
  obtain ⟨wn, hwn⟩ : ∃ wn, wn = (w4.alloc (.cells #[.slice A3 p.each.length c3, .int .i64 p.take, .int .i64 p.start, .slice A4 p.rel.length c4] 30)).alloc (.cells #[.slice A5 p.each.length c5, .int .i64 p.take, .int .i64 p.start, .slice A6 p.rel.length c6] 32) := ⟨_, rfl⟩
  rw [← hwn] at q1' q2 hb6 ⊢
  clear hwn q1 hb5
  have x0 : wn.cell? ⟨w4.heap.size, 0, none⟩ = some (.slice A3 p.each.length c3) := q1'.cell 0
  have x1 : wn.cell? ⟨w4.heap.size, 1, none⟩ = some (.int .i64 p.take) := q1'.cell 1
  have x2 : wn.cell? ⟨w4.heap.size, 2, none⟩ = some (.int .i64 p.start) := q1'.cell 2
  have x3 : wn.cell? ⟨w4.heap.size, 3, none⟩ = some (.slice A4 p.rel.length c4) := q1'.cell 3
  have y0 : wn.cell? ⟨w4.heap.size + 1, 0, none⟩ = some (.slice A5 p.each.length c5) := q2.cell 0
  have y1 : wn.cell? ⟨w4.heap.size + 1, 1, none⟩ = some (.int .i64 p.take) := q2.cell 1
  have y2 : wn.cell? ⟨w4.heap.size + 1, 2, none⟩ = some (.int .i64 p.start) := q2.cell 2
  have y3 : wn.cell? ⟨w4.heap.size + 1, 3, none⟩ = some (.slice A6 p.rel.length c6) := q2.cell 3
  have HN := Lib.hid (And.intro (own_keep H4.out.2.2.2.1 hb6) (And.intro (own_keep H4.out.2.2.2.2 hb6) (And.intro (own_keep H4.out.1 hb6) (And.intro (own_keep H4.out.2.1 hb6) (HO.out.2.2.trans ((H3.out.2.2.trans ((H4.out.2.2.1.trans (hb6.mono H4.out.2.2.1.size)).mono H3.out.2.2.size)).mono HO.out.2.2.size))))))
  clear q1' q2 hb6
  go_wp2_with fail
  refine (numbers_any _ _ _ _ _ _ p.each p.each _ _ _ (Nums.of_own HN.out.1 rfl) (Nums.of_own HN.out.2.2.1 rfl) (by omega) (by omega)).mono ?_
  rintro e w5 ⟨he, n5, rfl⟩
  obtain rfl : e = .returned (.bool true) := by rw [he]; simp
  clear he
  go_wp2_with fail
  refine (numbers_any _ _ _ _ _ _ p.rel p.rel _ _ _ ((Nums.of_own HN.out.2.1 rfl).below (below_drewN (Below.refl _ _) _)) ((Nums.of_own HN.out.2.2.2.1 rfl).below (below_drewN (Below.refl _ _) _)) (by omega) (by omega)).mono ?_
  rintro e w6 ⟨he, n6, rfl⟩
  obtain rfl : e = .returned (.bool true) := by rw [he]; simp
  clear he
  go_wp2
  go_ret
  exact ⟨rfl, below_drewN HN.out.2.2.2.2 _⟩

set_option maxRecDepth 100000 in
set_option maxHeartbeats 1000000 in
theorem slotPlans_lifted (os : Os) (started : os.Started) (H : Type) (enc : TypeId × Value → H) :
    ReturnsInHanded {} Try.checked os 3 .any (Rows.slotPlansSpec.pre6 enc Try.prog Try.f3 Rows.slotPlansRow.domain false) (Rows.slotPlansSpec.post enc Try.prog Try.f3 false true false false) := by
  refine returnsInHanded_of_change (C := Try.checked) own started (by kernel_rfl) Try.func3
    (ChangeSpec.witness6 (enc := enc) (C := Try.checked) false ⟨#[], #[.slice none 0 0, .string ByteArray.empty, .int .i64 0], []⟩ 8 (by kernel_rfl) (by kernel_rfl) (by kernel_rfl) (by kernel_rfl)) ?_
  intro W base args ds gs before hval0 hW hcnd _
  have hval : ∀ (j : Nat) t v, Try.f3.params[j]? = some t → args[j]? = some v → Value.okWide Try.prog W .any base t v := hval0
  have hW' := hW
  obtain ⟨p, q, hA0, hV, rfl, hfz, hnd⟩ := hW
  have hA : DataW.TrodAll enc Try.prog W 0 (fun _ => true) true Try.f3.params.toList args.toList ds p := hA0
  rw [Try.params3] at hA hval
  obtain ⟨v0, vs0, d0, ds0, p0, q0, hargs, rfl, rfl, h0, r0⟩ := trodAll_cons hA
  obtain ⟨v1, vs1, d1, ds1, p1, q1, rfl, rfl, rfl, h1, r1⟩ := trodAll_cons r0
  obtain ⟨v2, vs2, d2, ds2, p2, q2, rfl, rfl, rfl, h2, r2⟩ := trodAll_cons r1
  obtain ⟨rfl, rfl, rfl⟩ := trodAll_nil r2
  obtain rfl : args = #[v0, v1, v2] := by cases args; simp_all
  obtain ⟨rfl, rfl⟩ := trodVars_none hV
  have k0 := h0
  have lt0 : ∀ x ∈ p0, x.block < W.heap.size := by obtain ⟨m, hm⟩ := k0; exact DataW.trod_lt m _ _ _ hm
  have k1 := h1
  have lt1 : ∀ x ∈ p1, x.block < W.heap.size := by obtain ⟨m, hm⟩ := k1; exact DataW.trod_lt m _ _ _ hm
  have k2 := h2
  have lt2 : ∀ x ∈ p2, x.block < W.heap.size := by obtain ⟨m, hm⟩ := k2; exact DataW.trod_lt m _ _ _ hm
  obtain ⟨A, n, c, ks, rfl, _, _, hz⟩ := kids_open (hval 0 22 v0 rfl rfl) h0
  obtain ⟨key, rfl, rfl, rfl, _⟩ := Go.ChangeMaps.open_string Try.underlying9 (hval 1 9 v1 rfl rfl) h1
  obtain ⟨mode, rfl, rfl, rfl, _⟩ := open_int Try.underlying3 (hval 2 3 v2 rfl rfl) h2
  clear hA0 hval0
  refine (slotPlans_walk A n c ks key mode W hz).mono fun e W' ⟨he, bel⟩ => ?_
  subst he
  exact ⟨_, rfl, _, _, _, [], _, [], hW', trodAll_mk1 (shut_bool Try.underlying4 _), (trodAll_cons_mk (Below.trod laid_out (by kernel_rfl) (of_decide_eq_true (by kernel_rfl)) k0 bel lt0) (trodAll_cons_mk (Below.trod laid_out (by kernel_rfl) (of_decide_eq_true (by kernel_rfl)) k1 bel lt1) (trodAll_cons_mk (Below.trod laid_out (by kernel_rfl) (of_decide_eq_true (by kernel_rfl)) k2 bel lt2) trodAll_mk0))), rfl, bel.frame _, fun h => by cases h⟩

/-- The statement. -/
theorem slotPlans_holds : Rows.SlotPlansSaid :=
  OpenClaim.holds_of_wide 3 Try.f3 rfl rfl rfl rfl rfl rfl rfl ⟨rfl, rfl, rfl, rfl, rfl⟩ rfl rfl rfl rfl rfl (by kernel_rfl) Try.func3 (by kernel_rfl)
    (of_decide_eq_true (by kernel_rfl)) (by unfold Func.isWrapper; first | (rw [if_pos (by decide +kernel)]; kernel_rfl) | (rw [if_neg (by decide +kernel)]; exact ⟨rfl, rfl⟩))
    (fun os started H enc _ => slotPlans_lifted os started H enc)
#print axioms slotPlans_holds
end Go.Proofs.Ytkiaaaehakjhjaa
