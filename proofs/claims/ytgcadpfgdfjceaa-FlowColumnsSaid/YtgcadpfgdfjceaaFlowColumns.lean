/-
  FlowColumns: in columns each box stands where the one above it does, below it. For every Boxes; no condition.
-/
import Derived.Test.YtgcadpfgdfjceaaFlowLies
import Derived.BigQuiet
import Derived.Deep.QuietTactic
namespace Go.Proofs.Ytgcadpfgdfjceaa
open Go.ChangeShapes Go.WideShapes Go.ChangeAt Go.RowKit
attribute [local go_sem ↓] Go.wp_at_zero Go.wp_at_succ

set_option maxRecDepth 100000 in
set_option maxHeartbeats 8000000 in
theorem flowColumns_walk (kind width cols gap : Int) (A : Option Addr) (n c : Nat) (zs : List (Int × Int)) (w : World) (hz : Pairs w w.heap.size A n zs) :
    Calls Try.prog 11 #[.agg #[.int .i64 kind, .int .i64 width, .int .i64 cols, .int .i64 gap, .slice A n c]] w fun e w' => e = .returned (.bool true) ∧ Below w.heap.size w w' := by
  have HZ := Lib.hid hz
  clear hz
  go_enter Try.func11, Try.ntmps11
  go_wp2_with fail
  refine (flow_awake _).mono ?_
  rintro e w1 ⟨rfl, hb1⟩
  have hbx : Blk w1 w.heap.size 36 (boxCells kind width cols gap A n c) := (Blk.new w _ _).below hb1 (by simp)
  obtain ⟨x0, x1, x2, x3, x4⟩ := box_cells hbx
  have hbw1 : Below w.heap.size w w1 := ((Below.refl _ _).alloc (Nat.le_refl _) _).trans (hb1.mono (by simp))
  have H1 := Lib.hid (And.intro hbx hbw1)
  clear hbx hbw1 hb1
  go_upto_region 3 with fail
  obtain ⟨L, hL⟩ : ∃ L, L = mask zs := ⟨_, rfl⟩
  obtain ⟨m, hm⟩ : ∃ m, m = L.length := ⟨_, rfl⟩
  obtain ⟨W, hW⟩ : ∃ W, W = width % 2048 := ⟨_, rfl⟩
  obtain ⟨g, hg⟩ : ∃ g, g = gap % 16 := ⟨_, rfl⟩
  have hm20 : m ≤ 20 := by rw [hm, hL]; exact mask_len zs
  have HM := Lib.hid (And.intro hL (And.intro hm (And.intro hW hg)))
  obtain ⟨C, hK⟩ : ∃ C : Nat, (C : Int) = 1 + cols % 8 := ⟨(1 + cols % 8).toNat, by omega⟩
  have a1 := and_7 cols
  have hC1 : 1 ≤ C := by omega
  have hC8 : C ≤ 8 := by omega
  have HK := Lib.hid hK
  clear hL hm hW hg hK
  go_cut [] (fun wx => ∃ A2 c2, Smd w wx kind W cols g A2 c2 m L)
  case first =>
    go_wp2_with fail
    refine (small_any kind width cols gap A n c zs _ ((HZ.out.below H1.out.2).more H1.out.2.size)).mono ?_
    rintro e w2 ⟨A2, c2, rfl, ho, hb2⟩
    rw [← HM.out.1, ← HM.out.2.1] at ho ⊢
    rw [← HM.out.2.2.1, ← HM.out.2.2.2]
    have hbx2 := H1.out.1.below hb2 H1.out.1.lt
    have f0 := hbx2.frozen 0
    have f1 := hbx2.frozen 1
    have f2 := hbx2.frozen 2
    have f3 := hbx2.frozen 3
    have f4 := hbx2.frozen 4
    obtain ⟨y0, y1, y2, y3, y4⟩ := box_cells hbx2
    have H2 := Lib.hid (Smd.stored (kind1 := kind) (W1 := W) (C1 := cols) (g1 := g) hbx2 (H1.out.2.trans (hb2.mono H1.out.2.size)) ho H1.out.2.size HM.out.2.1.symm)
    clear hbx2 ho hb2
    go_wp2_with fail
    go_meet
    exact ⟨A2, c2, H2.out⟩
  case rest =>
    obtain ⟨A2, c2, hS⟩ := hcut
    clear x0 x1 x2 x3 x4
    obtain ⟨x0, x1, x2, x3, x4, x5, x6⟩ := hS.cells
    have HS := Lib.hid hS
    clear hS
    go_upto_region 4 with fail
    go_cut [] (fun wx => Smd w wx 2 W cols g A2 c2 m L)
    case first =>
      go_wp2_with fail
      go_meet
      exact HS.out.setKind 2
    case rest =>
      have hS := hcut
      clear hcut HS x0 x1 x2 x3 x4 x5 x6
      obtain ⟨x0, x1, x2, x3, x4, x5, x6⟩ := hS.cells
      have HS := Lib.hid hS
      clear hS
      go_upto_region 5 with fail
      go_cut [] (fun wx => Smd w wx 2 W C g A2 c2 m L)
      case first =>
        have k1 : (0 : Int) ≤ cols % 8 := by omega
        have k2 : cols % 8 < 8 := by omega
        go_wp2_with fail
        go_meet
        rw [HK.out]
        exact HS.out.setCols _
      case rest =>
       have hS := hcut
       clear hcut HS x0 x1 x2 x3 x4 x5 x6
       obtain ⟨x0, x1, x2, x3, x4, x5, x6⟩ := hS.cells
       have HS := Lib.hid hS
       clear hS
       go_upto_region 6 with fail
       obtain ⟨S, hS⟩ : ∃ S, S = putSt 2 W C g L := ⟨_, rfl⟩
       have HP := Lib.hid hS
       clear hS
       go_cut [3, 4] (fun s3 s4 wx => ∃ A1 c1 s, s3 = .slice A1 m c1 ∧ s4 = .pointer (some ⟨s, 0, none⟩) ∧ Lies w wx 2 W C g A1 A2 c2 m s L S)
       case first =>
         go_wp2_with fail
         refine (put_boxes 2 W C g A2 m c2 L _ HS.out.pairs).mono ?_
         rintro e w3 ⟨A1, c1, rfl, ho, hb3⟩
         have hL40 : L.take 40 = L := by rw [HM.out.1, mask_40]
         rw [hL40, ← HM.out.2.1, ← HP.out] at ho ⊢
         have H3 := Lib.hid (Lies.of HS.out hb3 ho (by rw [HP.out, putSt_len]; exact HM.out.2.1.symm))
         clear hL40 ho hb3
         go_wp2_with fail
         go_meet
         exact ⟨A1, c1, _, rfl, rfl, H3.out⟩
       case rest =>
         obtain ⟨A1, cp, s, rfl, rfl, hl⟩ := hcut
         clear x0 x1 x2 x3 x4 x5 x6 HS
         obtain ⟨w4, rfl⟩ : ∃ w4, w4 = wc := ⟨_, rfl⟩
         obtain ⟨x0, x1, x2, x3, x4⟩ := box_cells hl.box
         have HL := Lib.hid hl
         clear hl
         go_wp2_with fail
         go_loopw [30] (fun i wr => ∃ k : Nat, k ≤ m ∧ i = .int .i64 k ∧ Below w4.heap.size w4 wr) (fun i _ => m - (intOf i).toNat)
         case atStart => exact ⟨0, Nat.zero_le _, rfl, Below.refl _ _⟩
         case round =>
           obtain ⟨k, hk, rfl, hb⟩ := hrel
           have hl := HL.out.keep hb
           clear x0 x1 x2 x3 x4
           by_cases hlt : k < m
           · obtain ⟨b1, o1, rfl, e0, e1⟩ := hl.pt k hlt
             obtain ⟨b2, o2, rfl, e2, e3⟩ := hl.sz k hlt
             have LAW := Lib.hid (columns_law W g C zs (by have := HM.out.2.2.2; omega) (by have := HM.out.2.2.2; omega) (by have := HM.out.2.2.1; omega) (by have := HM.out.2.2.1; omega) (by omega) hC8 S (by rw [HP.out, HM.out.1]))
             have MB := Lib.hid (mask_bd zs)
             rw [← HM.out.1, ← HM.out.2.1] at LAW
             rw [← HM.out.1] at MB
             obtain ⟨X, hX⟩ : ∃ X, X = (at_ S.out k).1 := ⟨_, rfl⟩
             obtain ⟨Y, hY⟩ : ∃ Y, Y = (at_ S.out k).2 := ⟨_, rfl⟩
             have LK := Lib.hid (LAW.out k hlt)
             rw [← hX] at e0 LK
             rw [← hY] at e1 LK
             have i1 : (0 : Int) ≤ (k : Int) := by omega
             have i2 : (k : Int) < (m : Int) := by omega
             have HR := Lib.hid (And.intro hl (And.intro hX (And.intro hY hb)))
             clear hl hb hX hY
             go_upto_region 11 with fail
             go_cut [5, 6] (fun s5 s6 wx => s5 = .int .i64 k ∧ s6 = .pointer (some ⟨wr.heap.size, 0, none⟩) ∧ wx = wr.alloc (.cells #[.int .i64 X, .int .i64 Y] 48))
             case first =>
               go_wp2_with fail
               go_meet
               exact ⟨rfl, rfl, rfl⟩
             case rest =>
               obtain ⟨rfl, rfl, hwc⟩ := hcut
               have hb := HR.out.2.2.2.alloc HR.out.2.2.2.size (.cells #[.int .i64 X, .int .i64 Y] 48)
               have hl := HL.out.keep hb
               have hp := Blk.new wr 48 #[.int .i64 X, .int .i64 Y]
               rw [← hwc] at hb hl hp
               clear hwc
               obtain ⟨p, hpp⟩ : ∃ p, p = wr.heap.size := ⟨_, rfl⟩
               rw [← hpp] at hp ⊢
               clear e0 e1 e2 e3 hpp
               obtain ⟨x0, x1, x2, x3, x4⟩ := box_cells hl.box
               have p0 := hp.cell 0
               have p1 := hp.cell 1
               have HB := Lib.hid (And.intro hb hl)
               clear hb hl hp
               obtain ⟨r, hr⟩ : ∃ r, r = k % C := ⟨_, rfl⟩
               obtain ⟨D, hD⟩ : ∃ D, D = W + g := ⟨_, rfl⟩
               have hr8 : r < 8 := by have := Nat.mod_lt k (show 0 < C by omega); omega
               have hrem : Int.tmod (k : Int) (C : Int) = (r : Int) := by
                 rw [hr, Int.tmod_eq_emod_of_nonneg (by omega)]; exact (Int.natCast_emod k C).symm
               have w0 : 0 ≤ W := by have := HM.out.2.2.1; omega
               have w1 : W ≤ 2047 := by have := HM.out.2.2.1; omega
               have g0 : 0 ≤ g := by have := HM.out.2.2.2; omega
               have g1 : g ≤ 15 := by have := HM.out.2.2.2; omega
               have hX : (r : Int) * D = X := by rw [hr, hD]; exact LK.out.1.symm
               have hX0 : 0 ≤ X := by rw [← hX]; exact Int.mul_nonneg (by omega) (by omega)
               have hX1 : X ≤ 20000 := by
                 have : (r : Int) * D ≤ 8 * 2062 := Int.mul_le_mul (by omega) (by omega) (by omega) (by omega)
                 omega
               have c1 := LK.out.2.1
               have c2' := LK.out.2.2.1
               have hC0 : ((C : Int) == 0) = false := by simp; omega
               have hCn : (C : Int) ≠ 0 := by omega
               have hC1' : (1 : Int) ≤ (C : Int) := by omega
               have HRR := Lib.hid hr
               have HDD := Lib.hid hD
               have hk20 : k ≤ 20 := by omega
               clear hr
               go_upto_region 12 with fail
               go_cut [94] (fun s94 wx => s94 = .bool false ∧ ∃ n, wx = wc.drewN n)
               case first =>
                 rw [hD] at hX
                 clear hD
                 by_cases hkC : C ≤ k
                 · obtain ⟨q, hq⟩ : ∃ q, k = q + C := ⟨k - C, by omega⟩
                   have hqi : (k : Int) - (C : Int) = (q : Int) := by omega
                   have hq0 : (0 : Int) ≤ (q : Int) := by omega
                   have hqm : (q : Int) < (m : Int) := by omega
                   have hkC1 : (C : Int) ≤ (k : Int) := by omega
                   have hl := HB.out.2
                   obtain ⟨b5, o5, h3, t0, t1⟩ := hl.pt q (by omega)
                   obtain ⟨b6, o6, h4, t2, t3⟩ := hl.sz q (by omega)
                   injection h3 with h3
                   injection h3 with h3 h3'
                   subst h3 h3'
                   injection h4 with h4
                   injection h4 with h4 h4'
                   subst h4 h4'
                   have hlaw := LK.out.2.2.2.1 q hq
                   have LQ := LAW.out q (by omega)
                   have MQ := MB.out q
                   obtain ⟨Yq, hYq⟩ : ∃ Y, Y = (at_ S.out q).2 := ⟨_, rfl⟩
                   obtain ⟨Vq, hVq⟩ : ∃ V, V = (at_ L q).2 := ⟨_, rfl⟩
                   rw [← hYq] at t1 hlaw LQ
                   rw [← hVq] at t3 hlaw MQ
                   have v1 := LQ.2.1
                   have v2 := LQ.2.2.1
                   have v3 := MQ.2.2.1
                   have v4 := MQ.2.2.2
                   have hd : decide (Y < Yq + Vq) = false := by simp; omega
                   clear hl t0 t2 hq hlaw LQ MQ hYq hVq
                   by_cases hr0 : 0 < r
                   · have hk0 : 0 < k := by
                       rcases Nat.eq_zero_or_pos k with h | h
                       · have h2 := HRR.out
                         rw [h, Nat.zero_mod] at h2
                         omega
                       · exact h
                     obtain ⟨j, hj⟩ : ∃ j, k = j + 1 := ⟨k - 1, by omega⟩
                     have hji : (k : Int) - 1 = (j : Int) := by omega
                     have hj0 : (0 : Int) ≤ (j : Int) := by omega
                     have hjm : (j : Int) < (m : Int) := by omega
                     have hr0 : (0 : Int) < (r : Int) := by omega
                     have hl := HB.out.2
                     obtain ⟨b5, o5, h3, f0, f1⟩ := hl.pt j (by omega)
                     injection h3 with h3
                     injection h3 with h3 h3'
                     subst h3 h3'
                     rw [← LK.out.2.2.2.2 j hj (by rw [← HRR.out]; omega)] at f1
                     clear hl f0 hj hk0
                     go_quiet (fail)
                     go_wp2
                     go_meet
                     exact ⟨rfl, _, rfl⟩
                   · have hr1 : decide (0 < (r : Int)) = false := by simp; omega
                     go_quiet (fail)
                     go_wp2
                     go_meet
                     exact ⟨rfl, _, rfl⟩
                 · have hkC' : decide ((C : Int) ≤ (k : Int)) = false := by simp; omega
                   by_cases hr0 : 0 < r
                   · have hk0 : 0 < k := by
                       rcases Nat.eq_zero_or_pos k with h | h
                       · have h2 := HRR.out
                         rw [h, Nat.zero_mod] at h2
                         omega
                       · exact h
                     obtain ⟨j, hj⟩ : ∃ j, k = j + 1 := ⟨k - 1, by omega⟩
                     have hji : (k : Int) - 1 = (j : Int) := by omega
                     have hj0 : (0 : Int) ≤ (j : Int) := by omega
                     have hjm : (j : Int) < (m : Int) := by omega
                     have hr0 : (0 : Int) < (r : Int) := by omega
                     have hl := HB.out.2
                     obtain ⟨b5, o5, h3, f0, f1⟩ := hl.pt j (by omega)
                     injection h3 with h3
                     injection h3 with h3 h3'
                     subst h3 h3'
                     rw [← LK.out.2.2.2.2 j hj (by rw [← HRR.out]; omega)] at f1
                     clear hl f0 hj hk0
                     go_quiet (fail)
                     go_wp2
                     go_meet
                     exact ⟨rfl, _, rfl⟩
                   · have hr1 : decide (0 < (r : Int)) = false := by simp; omega
                     go_quiet (fail)
                     go_wp2
                     go_meet
                     exact ⟨rfl, _, rfl⟩
               case rest =>
                 obtain ⟨rfl, n1, rfl⟩ := hcut
                 clear hrem hX
                 go_wp2_with fail
                 go_roundw
                 case rel => exact ⟨k + 1, by omega, by go_num, below_drewN HB.out.1 _⟩
                 case measure => simp [intOf]; omega
           · have HB := Lib.hid hl.below
             clear hl hb
             go_wp2
             go_ret
             exact ⟨rfl, HB.out⟩

set_option maxRecDepth 100000 in
set_option maxHeartbeats 1000000 in
theorem flowColumns_lifted (os : Os) (started : os.Started) (H : Type) (enc : TypeId × Value → H) :
    ReturnsInHanded {} Try.checked os 11 .any (Rows.flowColumnsSpec.pre6 enc Try.prog Try.f11 Rows.flowColumnsRow.domain false) (Rows.flowColumnsSpec.post enc Try.prog Try.f11 false true false false) := by
  refine returnsInHanded_of_change (C := Try.checked) own started (by kernel_rfl) Try.func11
    (ChangeSpec.witness6 (enc := enc) (C := Try.checked) false ⟨#[], #[.agg #[.int .i64 0, .int .i64 0, .int .i64 0, .int .i64 0, .slice none 0 0]], []⟩ 8 (by kernel_rfl) (by kernel_rfl) (by kernel_rfl) (by kernel_rfl)) ?_
  intro W base args ds gs before hval0 hW hcnd _
  have hval : ∀ (j : Nat) t v, Try.f11.params[j]? = some t → args[j]? = some v → Value.okWide Try.prog W .any base t v := hval0
  have hW' := hW
  obtain ⟨p, q, hA0, hV, rfl, hfz, hnd⟩ := hW
  have hA : DataW.TrodAll enc Try.prog W 0 (fun _ => true) true Try.f11.params.toList args.toList ds p := hA0
  rw [Try.params11] at hA hval
  obtain ⟨v0, vs0, d0, ds0, p0, q0, hargs, rfl, rfl, h0, r0⟩ := trodAll_cons hA
  obtain ⟨rfl, rfl, rfl⟩ := trodAll_nil r0
  obtain rfl : args = #[v0] := by cases args; simp_all
  obtain ⟨rfl, rfl⟩ := trodVars_none hV
  have k0 := h0
  have lt0 : ∀ x ∈ p0, x.block < W.heap.size := by obtain ⟨m, hm⟩ := k0; exact DataW.trod_lt m _ _ _ hm
  obtain ⟨kind, width, cols, gap, A, n, c, zs, rfl, _, _, hz⟩ := boxes_arg (hval 0 36 v0 rfl rfl) h0
  clear hA0 hval0
  refine (flowColumns_walk kind width cols gap A n c zs W hz).mono fun e W' ⟨he, bel⟩ => ?_
  subst he
  exact ⟨_, rfl, _, _, _, [], _, [], hW', trodAll_mk1 (shut_bool Try.underlying4 _), (trodAll_cons_mk (Below.trod laid_out (by kernel_rfl) (of_decide_eq_true (by kernel_rfl)) k0 bel lt0) trodAll_mk0), rfl, bel.frame _, fun h => by cases h⟩

/-- The statement. -/
theorem flowColumns_holds : Rows.FlowColumnsSaid :=
  OpenClaim.holds_of_wide 11 Try.f11 rfl rfl rfl rfl rfl rfl rfl ⟨rfl, rfl, rfl, rfl, rfl⟩ rfl rfl rfl rfl rfl (by kernel_rfl) Try.func11 (by kernel_rfl)
    (of_decide_eq_true (by kernel_rfl)) (by unfold Func.isWrapper; first | (rw [if_pos (by decide +kernel)]; kernel_rfl) | (rw [if_neg (by decide +kernel)]; exact ⟨rfl, rfl⟩))
    (fun os started H enc _ => flowColumns_lifted os started H enc)
#print axioms flowColumns_holds
end Go.Proofs.Ytgcadpfgdfjceaa
