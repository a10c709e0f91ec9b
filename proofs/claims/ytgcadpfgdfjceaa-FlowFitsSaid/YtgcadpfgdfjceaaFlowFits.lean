/-
  FlowFits: in rows no box goes beyond the width, but one that begins a row; who could stand in the row ahead does. For every Boxes; no condition.
-/
import Derived.Test.YtgcadpfgdfjceaaFlowLies
import Derived.BigQuiet
import Derived.Deep.QuietTactic
namespace Go.Proofs.Ytgcadpfgdfjceaa
open Go.ChangeShapes Go.WideShapes Go.ChangeAt Go.RowKit
attribute [local go_sem ↓] Go.wp_at_zero Go.wp_at_succ

set_option maxRecDepth 100000 in
set_option maxHeartbeats 8000000 in
theorem flowFits_walk (kind width cols gap : Int) (A : Option Addr) (n c : Nat) (zs : List (Int × Int)) (w : World) (hz : Pairs w w.heap.size A n zs) :
    Calls Try.prog 10 #[.agg #[.int .i64 kind, .int .i64 width, .int .i64 cols, .int .i64 gap, .slice A n c]] w fun e w' => e = .returned (.bool true) ∧ Below w.heap.size w w' := by
  have HZ := Lib.hid hz
  clear hz
  go_enter Try.func10, Try.ntmps10
  go_wp2_with fail
  refine (flow_awake _).mono ?_
  rintro e w1 ⟨rfl, hb1⟩
  have hbx : Blk w1 w.heap.size 36 (boxCells kind width cols gap A n c) := (Blk.new w _ _).below hb1 (by simp)
  obtain ⟨x0, x1, x2, x3, x4⟩ := box_cells hbx
  have hbw1 : Below w.heap.size w w1 := ((Below.refl _ _).alloc (Nat.le_refl _) _).trans (hb1.mono (by simp))
  have H1 := Lib.hid (And.intro hbx hbw1)
  clear hbx hbw1 hb1
  go_upto_region 3 with fail
  obtain ⟨L, hL⟩ : ∃ L, L = mask zs := ⟨_, rfl⟩
  obtain ⟨m, hm⟩ : ∃ m, m = L.length := ⟨_, rfl⟩
  obtain ⟨W, hW⟩ : ∃ W, W = width % 2048 := ⟨_, rfl⟩
  obtain ⟨g, hg⟩ : ∃ g, g = gap % 16 := ⟨_, rfl⟩
  have hm20 : m ≤ 20 := by rw [hm, hL]; exact mask_len zs
  have HM := Lib.hid (And.intro hL (And.intro hm (And.intro hW hg)))
  clear hL hm hW hg
  go_cut [] (fun wx => ∃ A2 c2, Smd w wx kind W cols g A2 c2 m L)
  case first =>
    go_wp2_with fail
    refine (small_any kind width cols gap A n c zs _ ((HZ.out.below H1.out.2).more H1.out.2.size)).mono ?_
    rintro e w2 ⟨A2, c2, rfl, ho, hb2⟩
    rw [← HM.out.1, ← HM.out.2.1] at ho ⊢
    rw [← HM.out.2.2.1, ← HM.out.2.2.2]
    have hbx2 := H1.out.1.below hb2 H1.out.1.lt
    have f0 := hbx2.frozen 0
    have f1 := hbx2.frozen 1
    have f2 := hbx2.frozen 2
    have f3 := hbx2.frozen 3
    have f4 := hbx2.frozen 4
    obtain ⟨y0, y1, y2, y3, y4⟩ := box_cells hbx2
    have H2 := Lib.hid (Smd.stored (kind1 := kind) (W1 := W) (C1 := cols) (g1 := g) hbx2 (H1.out.2.trans (hb2.mono H1.out.2.size)) ho H1.out.2.size HM.out.2.1.symm)
    clear hbx2 ho hb2
    go_wp2_with fail
    go_meet
    exact ⟨A2, c2, H2.out⟩
  case rest =>
    obtain ⟨A2, c2, hS⟩ := hcut
    clear x0 x1 x2 x3 x4
    obtain ⟨x0, x1, x2, x3, x4, x5, x6⟩ := hS.cells
    have HS := Lib.hid hS
    clear hS
    go_upto_region 4 with fail
    go_cut [] (fun wx => Smd w wx 1 W cols g A2 c2 m L)
    case first =>
      go_wp2_with fail
      go_meet
      exact HS.out.setKind 1
    case rest =>
      have hS := hcut
      clear hcut HS x0 x1 x2 x3 x4 x5 x6
      obtain ⟨x0, x1, x2, x3, x4, x5, x6⟩ := hS.cells
      have HS := Lib.hid hS
      clear hS
      go_upto_region 5 with fail
      obtain ⟨S, hS⟩ : ∃ S, S = putSt 1 W cols g L := ⟨_, rfl⟩
      have HP := Lib.hid hS
      clear hS
      go_cut [3, 4] (fun s3 s4 wx => ∃ A1 c1 s, s3 = .slice A1 m c1 ∧ s4 = .pointer (some ⟨s, 0, none⟩) ∧ Lies w wx 1 W cols g A1 A2 c2 m s L S)
      case first =>
        go_wp2_with fail
        refine (put_boxes 1 W cols g A2 m c2 L _ HS.out.pairs).mono ?_
        rintro e w3 ⟨A1, c1, rfl, ho, hb3⟩
        have hL40 : L.take 40 = L := by rw [HM.out.1, mask_40]
        rw [hL40, ← HM.out.2.1, ← HP.out] at ho ⊢
        have H3 := Lib.hid (Lies.of HS.out hb3 ho (by rw [HP.out, putSt_len]; exact HM.out.2.1.symm))
        clear hL40 ho hb3
        go_wp2_with fail
        go_meet
        exact ⟨A1, c1, _, rfl, rfl, H3.out⟩
      case rest =>
        obtain ⟨A1, c1, s, rfl, rfl, hl⟩ := hcut
        clear x0 x1 x2 x3 x4 x5 x6 HS
        obtain ⟨w4, rfl⟩ : ∃ w4, w4 = wc := ⟨_, rfl⟩
        obtain ⟨x0, x1, x2, x3, x4⟩ := box_cells hl.box
        have HL := Lib.hid hl
        clear hl
        go_wp2_with fail
        go_loopw [25] (fun i wr => ∃ k : Nat, k ≤ m ∧ i = .int .i64 k ∧ Below w4.heap.size w4 wr) (fun i _ => m - (intOf i).toNat)
        case atStart => exact ⟨0, Nat.zero_le _, rfl, Below.refl _ _⟩
        case round =>
          obtain ⟨k, hk, rfl, hb⟩ := hrel
          have hl := HL.out.keep hb
          clear x0 x1 x2 x3 x4
          by_cases hlt : k < m
          · obtain ⟨b1, o1, rfl, e0, e1⟩ := hl.pt k hlt
            obtain ⟨b2, o2, rfl, e2, e3⟩ := hl.sz k hlt
            have LAW := Lib.hid (fits_law W cols g zs (by have := HM.out.2.2.2; omega) (by have := HM.out.2.2.2; omega) (by have := HM.out.2.2.1; omega) (by have := HM.out.2.2.1; omega) S (by rw [HP.out, HM.out.1]) k (by have h1 := HM.out.2.1; rw [HM.out.1] at h1; omega))
            have MB := Lib.hid (mask_bd zs k)
            rw [← HM.out.1] at LAW MB
            obtain ⟨X, hX⟩ : ∃ X, X = (at_ S.out k).1 := ⟨_, rfl⟩
            obtain ⟨Y, hY⟩ : ∃ Y, Y = (at_ S.out k).2 := ⟨_, rfl⟩
            obtain ⟨Z, hZ⟩ : ∃ Z, Z = (at_ L k).1 := ⟨_, rfl⟩
            rw [← hX] at e0 LAW
            rw [← hY] at e1 LAW
            rw [← hZ] at e2 LAW MB
            have i1 : (0 : Int) ≤ (k : Int) := by omega
            have i2 : (k : Int) < (m : Int) := by omega
            have HR := Lib.hid (And.intro hl (And.intro hX (And.intro hY (And.intro hZ hb))))
            clear hl hb hX hY hZ
            go_upto_region 10 with fail
            go_cut [5, 6] (fun s5 s6 wx => s5 = .int .i64 k ∧ s6 = .pointer (some ⟨wr.heap.size, 0, none⟩) ∧ wx = wr.alloc (.cells #[.int .i64 X, .int .i64 Y] 48))
            case first =>
              go_wp2_with fail
              go_meet
              exact ⟨rfl, rfl, rfl⟩
            case rest =>
              obtain ⟨rfl, rfl, hwc⟩ := hcut
              have hb := HR.out.2.2.2.2.alloc HR.out.2.2.2.2.size (.cells #[.int .i64 X, .int .i64 Y] 48)
              have hl := HL.out.keep hb
              have hp := Blk.new wr 48 #[.int .i64 X, .int .i64 Y]
              rw [← hwc] at hb hl hp
              clear hwc
              obtain ⟨p, hpp⟩ : ∃ p, p = wr.heap.size := ⟨_, rfl⟩
              rw [← hpp] at hp ⊢
              clear e0 e1 e2 e3 hpp
              obtain ⟨x0, x1, x2, x3, x4⟩ := box_cells hl.box
              obtain ⟨b3, o3, h3, e0, e1⟩ := hl.pt k hlt
              obtain ⟨b4, o4, h4, e2, e3⟩ := hl.sz k hlt
              injection h3 with h3
              injection h3 with h3 h3'
              injection h4 with h4
              injection h4 with h4 h4'
              subst h3 h3' h4 h4'
              rw [← HR.out.2.1] at e0
              rw [← HR.out.2.2.1] at e1
              rw [← HR.out.2.2.2.1] at e2
              have p0 := hp.cell 0
              have p1 := hp.cell 1
              have HB := Lib.hid (And.intro hb hl)
              clear hb hl hp
              have b1 := LAW.out.1
              have b2 := LAW.out.2.1
              have b3 := MB.out.1
              have b4 := MB.out.2.1
              have b5 : 0 ≤ g := by have := HM.out.2.2.2; omega
              have b6 : g ≤ 15 := by have := HM.out.2.2.2; omega
              go_upto_region 11 with fail
              go_cut [46] (fun s46 wx => s46 = .bool false ∧ ∃ n, wx = wc.drewN n)
              case first =>
                by_cases hX0 : 0 < X
                · have hd : decide (W < X + Z) = false := by have := LAW.out.2.2.1 hX0; simpa using this
                  go_quiet (fail)
                  go_wp2
                  go_meet
                  exact ⟨rfl, _, rfl⟩
                · have hd : decide (0 < X) = false := by simpa using hX0
                  go_quiet (fail)
                  go_wp2
                  go_meet
                  exact ⟨rfl, _, rfl⟩
              case rest =>
                obtain ⟨rfl, n1, rfl⟩ := hcut
                go_upto_region 13 with fail
                go_cut [93] (fun s93 wx => s93 = .bool false ∧ ∃ n, wx = wc.drewN n)
                case first =>
                  by_cases hk0 : 0 < k
                  · have hk0' : (0 : Int) < (k : Int) := by omega
                    obtain ⟨j, hkj⟩ : ∃ j, k = j + 1 := ⟨k - 1, by omega⟩
                    have hj : (k : Int) - 1 = (j : Int) := by omega
                    have hjm : (j : Int) < (m : Int) := by omega
                    have hj0 : (0 : Int) ≤ (j : Int) := by omega
                    by_cases hX0 : X = 0
                    · have hX1 : (X == 0) = true := by simpa using hX0
                      have hl := HB.out.2
                      obtain ⟨b5', o5, h3, f0, f1⟩ := hl.pt j (by omega)
                      obtain ⟨b6', o6, h4, f2, f3⟩ := hl.sz j (by omega)
                      injection h3 with h3
                      injection h3 with h3 h3'
                      injection h4 with h4
                      injection h4 with h4 h4'
                      subst h3 h3' h4 h4'
                      have LAWj := Lib.hid (fits_law W cols g zs (by have := HM.out.2.2.2; omega) (by have := HM.out.2.2.2; omega) (by have := HM.out.2.2.1; omega) (by have := HM.out.2.2.1; omega) S (by rw [HP.out, HM.out.1]) j (by have h1 := HM.out.2.1; rw [HM.out.1] at h1; omega))
                      have MBj := Lib.hid (mask_bd zs j)
                      rw [← HM.out.1] at LAWj MBj
                      have hlaw := LAW.out.2.2.2 j hkj
                      obtain ⟨Xj, hXj⟩ : ∃ X, X = (at_ S.out j).1 := ⟨_, rfl⟩
                      obtain ⟨Yj, hYj⟩ : ∃ Y, Y = (at_ S.out j).2 := ⟨_, rfl⟩
                      obtain ⟨Zj, hZj⟩ : ∃ Z, Z = (at_ L j).1 := ⟨_, rfl⟩
                      rw [← hXj] at f0 LAWj hlaw
                      rw [← hYj] at f1 LAWj hlaw
                      rw [← hZj] at f2 LAWj hlaw MBj
                      have d1 := LAWj.out.1
                      have d2 := LAWj.out.2.1
                      have d3 := MBj.out.1
                      have d4 := MBj.out.2.1
                      clear hXj hYj hZj hl LAWj MBj f3 e3 hkj
                      by_cases hY0 : Yj < Y
                      · have hd : decide (Xj + Zj + g + Z ≤ W) = false := by have := hlaw hY0; simp; omega
                        clear hlaw hX0
                        go_quiet (fail)
                        go_wp2
                        go_meet
                        exact ⟨rfl, _, rfl⟩
                      · have hY1 : decide (Yj < Y) = false := by simpa using hY0
                        clear hlaw hX0
                        go_quiet (fail)
                        go_wp2
                        go_meet
                        exact ⟨rfl, _, rfl⟩
                    · have hX1 : (X == 0) = false := by simpa using hX0
                      clear hkj hX0
                      go_quiet (fail)
                      go_wp2
                      go_meet
                      exact ⟨rfl, _, rfl⟩
                  · have hk1 : decide ((0 : Int) < (k : Int)) = false := by simp; omega
                    go_quiet (fail)
                    go_wp2
                    go_meet
                    exact ⟨rfl, _, rfl⟩
                case rest =>
                  obtain ⟨rfl, n2, rfl⟩ := hcut
                  go_wp2_with fail
                  go_roundw
                  case rel => exact ⟨k + 1, by omega, by go_num, below_drewN HB.out.1 _⟩
                  case measure => simp [intOf]; omega
          · have HB := Lib.hid hl.below
            clear hl hb
            go_wp2
            go_ret
            exact ⟨rfl, HB.out⟩

set_option maxRecDepth 100000 in
set_option maxHeartbeats 1000000 in
theorem flowFits_lifted (os : Os) (started : os.Started) (H : Type) (enc : TypeId × Value → H) :
    ReturnsInHanded {} Try.checked os 10 .any (Rows.flowFitsSpec.pre6 enc Try.prog Try.f10 Rows.flowFitsRow.domain false) (Rows.flowFitsSpec.post enc Try.prog Try.f10 false true false false) := by
  refine returnsInHanded_of_change (C := Try.checked) own started (by kernel_rfl) Try.func10
    (ChangeSpec.witness6 (enc := enc) (C := Try.checked) false ⟨#[], #[.agg #[.int .i64 0, .int .i64 0, .int .i64 0, .int .i64 0, .slice none 0 0]], []⟩ 8 (by kernel_rfl) (by kernel_rfl) (by kernel_rfl) (by kernel_rfl)) ?_
  intro W base args ds gs before hval0 hW hcnd _
  have hval : ∀ (j : Nat) t v, Try.f10.params[j]? = some t → args[j]? = some v → Value.okWide Try.prog W .any base t v := hval0
  have hW' := hW
  obtain ⟨p, q, hA0, hV, rfl, hfz, hnd⟩ := hW
  have hA : DataW.TrodAll enc Try.prog W 0 (fun _ => true) true Try.f10.params.toList args.toList ds p := hA0
  rw [Try.params10] at hA hval
  obtain ⟨v0, vs0, d0, ds0, p0, q0, hargs, rfl, rfl, h0, r0⟩ := trodAll_cons hA
  obtain ⟨rfl, rfl, rfl⟩ := trodAll_nil r0
  obtain rfl : args = #[v0] := by cases args; simp_all
  obtain ⟨rfl, rfl⟩ := trodVars_none hV
  have k0 := h0
  have lt0 : ∀ x ∈ p0, x.block < W.heap.size := by obtain ⟨m, hm⟩ := k0; exact DataW.trod_lt m _ _ _ hm
  obtain ⟨kind, width, cols, gap, A, n, c, zs, rfl, _, _, hz⟩ := boxes_arg (hval 0 36 v0 rfl rfl) h0
  clear hA0 hval0
  refine (flowFits_walk kind width cols gap A n c zs W hz).mono fun e W' ⟨he, bel⟩ => ?_
  subst he
  exact ⟨_, rfl, _, _, _, [], _, [], hW', trodAll_mk1 (shut_bool Try.underlying4 _), (trodAll_cons_mk (Below.trod laid_out (by kernel_rfl) (of_decide_eq_true (by kernel_rfl)) k0 bel lt0) trodAll_mk0), rfl, bel.frame _, fun h => by cases h⟩

/-- The statement. -/
theorem flowFits_holds : Rows.FlowFitsSaid :=
  OpenClaim.holds_of_wide 10 Try.f10 rfl rfl rfl rfl rfl rfl rfl ⟨rfl, rfl, rfl, rfl, rfl⟩ rfl rfl rfl rfl rfl (by kernel_rfl) Try.func10 (by kernel_rfl)
    (of_decide_eq_true (by kernel_rfl)) (by unfold Func.isWrapper; first | (rw [if_pos (by decide +kernel)]; kernel_rfl) | (rw [if_neg (by decide +kernel)]; exact ⟨rfl, rfl⟩))
    (fun os started H enc _ => flowFits_lifted os started H enc)
#print axioms flowFits_holds
end Go.Proofs.Ytgcadpfgdfjceaa
