/-
  FlowApart: no two boxes of a stack, or of rows, have a point in common; every box lies within the whole. For every Boxes; no condition.
-/
import Derived.Test.YtgcadpfgdfjceaaFlowLies
import Derived.BigQuiet
import Derived.Deep.QuietTactic
namespace Go.Proofs.Ytgcadpfgdfjceaa
theorem own_cap {w : World} {base : Nat} {e : TypeId} {size : Nat} {A : Option Addr} {n c : Nat} {xs : List Value} (h : w.ownsRow base e size (.slice A n c) n xs) : n ≤ c := by
  rcases h.2 with ⟨hv, h0⟩ | ⟨g, cap, cur, hv, _, _, hc, _⟩
  · omega
  · injection hv; omega
end Go.Proofs.Ytgcadpfgdfjceaa
namespace Go.Proofs.Ytgcadpfgdfjceaa
open Go.ChangeShapes Go.WideShapes Go.ChangeAt Go.RowKit
attribute [local go_sem ↓] Go.wp_at_zero Go.wp_at_succ

set_option maxRecDepth 100000 in
set_option maxHeartbeats 8000000 in
theorem flowApart_walk (kind width cols gap : Int) (A : Option Addr) (n c : Nat) (zs : List (Int × Int)) (w : World) (hz : Pairs w w.heap.size A n zs) :
    Calls Try.prog 9 #[.agg #[.int .i64 kind, .int .i64 width, .int .i64 cols, .int .i64 gap, .slice A n c]] w fun e w' => e = .returned (.bool true) ∧ Below w.heap.size w w' := by
  have HZ := Lib.hid hz
  clear hz
  go_enter Try.func9, Try.ntmps9
  go_wp2_with fail
  refine (flow_awake _).mono ?_
  rintro e w1 ⟨rfl, hb1⟩
  have hbx : Blk w1 w.heap.size 36 (boxCells kind width cols gap A n c) := (Blk.new w _ _).below hb1 (by simp)
  obtain ⟨x0, x1, x2, x3, x4⟩ := box_cells hbx
  have hbw1 : Below w.heap.size w w1 := ((Below.refl _ _).alloc (Nat.le_refl _) _).trans (hb1.mono (by simp))
  have H1 := Lib.hid (And.intro hbx hbw1)
  clear hbx hbw1 hb1
  go_upto_region 3 with fail
  obtain ⟨L, hL⟩ : ∃ L, L = mask zs := ⟨_, rfl⟩
  obtain ⟨m, hm⟩ : ∃ m, m = L.length := ⟨_, rfl⟩
  obtain ⟨W, hW⟩ : ∃ W, W = width % 2048 := ⟨_, rfl⟩
  obtain ⟨g, hg⟩ : ∃ g, g = gap % 16 := ⟨_, rfl⟩
  have hm20 : m ≤ 20 := by rw [hm, hL]; exact mask_len zs
  have HM := Lib.hid (And.intro hL (And.intro hm (And.intro hW hg)))
  obtain ⟨K, hK⟩ : ∃ K, K = kind % 2 := ⟨_, rfl⟩
  have a1 := and_1 kind
  rw [← hK] at a1
  have HK := Lib.hid (show K = 0 ∨ K = 1 by omega)
  clear hL hm hW hg hK
  go_cut [] (fun wx => ∃ A2 c2, Smd w wx kind W cols g A2 c2 m L)
  case first =>
    go_wp2_with fail
    refine (small_any kind width cols gap A n c zs _ ((HZ.out.below H1.out.2).more H1.out.2.size)).mono ?_
    rintro e w2 ⟨A2, c2, rfl, ho, hb2⟩
    rw [← HM.out.1, ← HM.out.2.1] at ho ⊢
    rw [← HM.out.2.2.1, ← HM.out.2.2.2]
    have hbx2 := H1.out.1.below hb2 H1.out.1.lt
    have f0 := hbx2.frozen 0
    have f1 := hbx2.frozen 1
    have f2 := hbx2.frozen 2
    have f3 := hbx2.frozen 3
    have f4 := hbx2.frozen 4
    obtain ⟨y0, y1, y2, y3, y4⟩ := box_cells hbx2
    have H2 := Lib.hid (Smd.stored (kind1 := kind) (W1 := W) (C1 := cols) (g1 := g) hbx2 (H1.out.2.trans (hb2.mono H1.out.2.size)) ho H1.out.2.size HM.out.2.1.symm)
    clear hbx2 ho hb2
    go_wp2_with fail
    go_meet
    exact ⟨A2, c2, H2.out⟩
  case rest =>
    obtain ⟨A2, c2, hS⟩ := hcut
    clear x0 x1 x2 x3 x4
    obtain ⟨x0, x1, x2, x3, x4, x5, x6⟩ := hS.cells
    have HS := Lib.hid hS
    clear hS
    go_upto_region 4 with fail
    go_cut [] (fun wx => Smd w wx K W cols g A2 c2 m L)
    case first =>
      go_wp2_with fail
      go_meet
      exact HS.out.setKind K
    case rest =>
      have hS := hcut
      clear hcut HS x0 x1 x2 x3 x4 x5 x6
      obtain ⟨x0, x1, x2, x3, x4, x5, x6⟩ := hS.cells
      have HS := Lib.hid hS
      clear hS
      go_upto_region 5 with fail
      obtain ⟨S, hS⟩ : ∃ S, S = putSt K W cols g L := ⟨_, rfl⟩
      have HP := Lib.hid hS
      clear hS
      go_cut [3, 4] (fun s3 s4 wx => ∃ A1 c1 s, s3 = .slice A1 m c1 ∧ s4 = .pointer (some ⟨s, 0, none⟩) ∧ m ≤ c1 ∧ Lies w wx K W cols g A1 A2 c2 m s L S)
      case first =>
        go_wp2_with fail
        refine (put_boxes K W cols g A2 m c2 L _ HS.out.pairs).mono ?_
        rintro e w3 ⟨A1, c1, rfl, ho, hb3⟩
        have hL40 : L.take 40 = L := by rw [HM.out.1, mask_40]
        rw [hL40, ← HM.out.2.1, ← HP.out] at ho ⊢
        have H3 := Lib.hid (Lies.of HS.out hb3 ho (by rw [HP.out, putSt_len]; exact HM.out.2.1.symm))
        have HC := Lib.hid (own_cap ho)
        clear hL40 ho hb3
        go_wp2_with fail
        go_meet
        exact ⟨A1, c1, _, rfl, rfl, HC.out, H3.out⟩
      case rest =>
        obtain ⟨A1, cp, s, rfl, rfl, hcp, hl⟩ := hcut
        clear x0 x1 x2 x3 x4 x5 x6 HS
        obtain ⟨w4, rfl⟩ : ∃ w4, w4 = wc := ⟨_, rfl⟩
        obtain ⟨x0, x1, x2, x3, x4⟩ := box_cells hl.box
        have HL := Lib.hid hl
        clear hl
        go_wp2_with fail
        go_loopw [30] (fun i wr => ∃ k : Nat, k ≤ m ∧ i = .int .i64 k ∧ Below w4.heap.size w4 wr) (fun i _ => m - (intOf i).toNat)
        case atStart => exact ⟨0, Nat.zero_le _, rfl, Below.refl _ _⟩
        case round =>
          obtain ⟨k, hk, rfl, hb⟩ := hrel
          have hl := HL.out.keep hb
          clear x0 x1 x2 x3 x4
          by_cases hlt : k < m
          · obtain ⟨b1, o1, rfl, e0, e1⟩ := hl.pt k hlt
            obtain ⟨b2, o2, rfl, e2, e3⟩ := hl.sz k hlt
            have LAW := Lib.hid (apart_law K W cols g zs HK.out (by have := HM.out.2.2.2; omega) (by have := HM.out.2.2.2; omega) S (by rw [HP.out, HM.out.1]) _ rfl)
            have MB := Lib.hid (mask_bd zs)
            rw [← HM.out.1, ← HM.out.2.1] at LAW
            rw [← HM.out.1] at MB
            obtain ⟨H, hH⟩ : ∃ H, H = P1.add S.y S.h := ⟨_, rfl⟩
            rw [← hH] at LAW
            obtain ⟨Wd, hWd⟩ : ∃ Wd, Wd = S.W := ⟨_, rfl⟩
            rw [← hWd] at LAW
            obtain ⟨X, hX⟩ : ∃ X, X = (at_ S.out k).1 := ⟨_, rfl⟩
            obtain ⟨Y, hY⟩ : ∃ Y, Y = (at_ S.out k).2 := ⟨_, rfl⟩
            obtain ⟨Z, hZ⟩ : ∃ Z, Z = (at_ L k).1 := ⟨_, rfl⟩
            obtain ⟨V, hV⟩ : ∃ V, V = (at_ L k).2 := ⟨_, rfl⟩
            have LK := Lib.hid (LAW.out.2.2 k hlt)
            have MK := Lib.hid (MB.out k)
            rw [← hX] at e0 LK
            rw [← hY] at e1 LK
            rw [← hZ] at e2 LK MK
            rw [← hV] at e3 LK MK
            have i1 : (0 : Int) ≤ (k : Int) := by omega
            have i2 : (k : Int) < (m : Int) := by omega
            have HR := Lib.hid (And.intro hl (And.intro hX (And.intro hY (And.intro hZ (And.intro hV hb)))))
            have HW := Lib.hid (And.intro hH hWd)
            clear hl hb hX hY hZ hV hH hWd
            go_upto_region 10 with fail
            go_cut [5, 6] (fun s5 s6 wx => s5 = .int .i64 k ∧ s6 = .pointer (some ⟨wr.heap.size, 0, none⟩) ∧ wx = wr.alloc (.cells #[.int .i64 X, .int .i64 Y] 48))
            case first =>
              go_wp2_with fail
              go_meet
              exact ⟨rfl, rfl, rfl⟩
            case rest =>
              obtain ⟨rfl, rfl, hwc⟩ := hcut
              have hb := HR.out.2.2.2.2.2.alloc HR.out.2.2.2.2.2.size (.cells #[.int .i64 X, .int .i64 Y] 48)
              have hl := HL.out.keep hb
              have hp := Blk.new wr 48 #[.int .i64 X, .int .i64 Y]
              rw [← hwc] at hb hl hp
              clear hwc
              obtain ⟨p, hpp⟩ : ∃ p, p = wr.heap.size := ⟨_, rfl⟩
              rw [← hpp] at hp ⊢
              clear e0 e1 e2 e3 hpp
              obtain ⟨x0, x1, x2, x3, x4⟩ := box_cells hl.box
              obtain ⟨b3, o3, h3, e0, e1⟩ := hl.pt k hlt
              obtain ⟨b4, o4, h4, e2, e3⟩ := hl.sz k hlt
              injection h3 with h3
              injection h3 with h3 h3'
              injection h4 with h4
              injection h4 with h4 h4'
              subst h3 h3' h4 h4'
              rw [← HR.out.2.1] at e0
              rw [← HR.out.2.2.1] at e1
              rw [← HR.out.2.2.2.1] at e2
              rw [← HR.out.2.2.2.2.1] at e3
              have p0 := hp.cell 0
              have p1 := hp.cell 1
              have q0 := hl.whole.cell 0
              have q1 := hl.whole.cell 1
              simp only [← HW.out.1, ← HW.out.2] at q0 q1
              have HB := Lib.hid (And.intro hb (And.intro hl hp))
              clear hb hl hp
              have d1 : decide (X < 0) = false := by have := LK.out.1; simpa using this
              have d2 : decide (Y < 0) = false := by have := LK.out.2.1; simpa using this
              have d3 : decide (Wd < X + Z) = false := by have := LK.out.2.2.1; simpa using this
              have d4 : decide (H < Y + V) = false := by have := LK.out.2.2.2.1; simpa using this
              have c1 := LK.out.1
              have c2 := LK.out.2.1
              have c3 := MK.out.1
              have c4 := MK.out.2.1
              have c5 := MK.out.2.2.1
              have c6 := MK.out.2.2.2
              have c7 : X ≤ 45000 := by have := LK.out.2.2.1; have := LAW.out.1; omega
              have c8 : Y ≤ 45000 := by have := LK.out.2.2.2.1; have := LAW.out.2.1; omega
              go_upto_region 11 with fail
              go_cut [70] (fun s70 wx => s70 = .bool false ∧ ∃ n, wx = wc.drewN n)
              case first =>
                go_quiet (fail)
                go_wp2
                go_meet
                exact ⟨rfl, _, rfl⟩
              case rest =>
                obtain ⟨rfl, n1, rfl⟩ := hcut
                have hkm : (k : Int) ≤ (cp : Int) := by omega
                clear d1 d2 d3 d4 x0 x1 x2 x3 x4 e0 e1 e2 e3 p0 p1 q0 q1
                have HB1 := Lib.hid (And.intro (HB.out.2.1.keep (below_drewN (Below.refl _ wc) n1)) (And.intro (HB.out.2.2.drewN n1) (below_drewN HB.out.1 n1)))
                generalize wc.drewN n1 = wd at HB1 ⊢
                go_wp2_with fail
                go_loopw [75] (fun i wr => ∃ q : Nat, q ≤ k ∧ i = .int .i64 q ∧ Below wd.heap.size wd wr) (fun i _ => k - (intOf i).toNat)
                case atStart => exact ⟨0, Nat.zero_le _, rfl, Below.refl _ _⟩
                case round =>
                  obtain ⟨q, hq, rfl, hb⟩ := hrel
                  by_cases hqk : q < k
                  · have hl := HB1.out.1.keep hb
                    have hqm : q < m := by omega
                    have j1 : (0 : Int) ≤ (q : Int) := by omega
                    have j2 : (q : Int) < (k : Int) := by omega
                    have j3 : (q : Int) < (m : Int) := by omega
                    obtain ⟨b3, o3, h3, e0, e1⟩ := hl.pt q hqm
                    injection h3 with h3
                    injection h3 with h3 h3'
                    subst h3 h3'
                    have LQ := Lib.hid (LAW.out.2.2 q hqm)
                    have MQ := Lib.hid (MB.out q)
                    have hor := LK.out.2.2.2.2 q hqk
                    obtain ⟨Xq, hXq⟩ : ∃ X, X = (at_ S.out q).1 := ⟨_, rfl⟩
                    obtain ⟨Yq, hYq⟩ : ∃ Y, Y = (at_ S.out q).2 := ⟨_, rfl⟩
                    obtain ⟨Zq, hZq⟩ : ∃ Z, Z = (at_ L q).1 := ⟨_, rfl⟩
                    obtain ⟨Vq, hVq⟩ : ∃ V, V = (at_ L q).2 := ⟨_, rfl⟩
                    rw [← hXq] at e0 LQ hor
                    rw [← hYq] at e1 LQ hor
                    rw [← hZq] at LQ MQ hor
                    rw [← hVq] at LQ MQ hor
                    have HQ := Lib.hid (And.intro hXq (And.intro hYq (And.intro hZq (And.intro hVq (And.intro hor hb)))))
                    clear hl hb hXq hYq hZq hVq hor
                    go_upto_region 15 with fail
                    go_cut [7, 8] (fun s7 s8 wx => s7 = .int .i64 q ∧ s8 = .pointer (some ⟨wr.heap.size, 0, none⟩) ∧ wx = wr.alloc (.cells #[.int .i64 Xq, .int .i64 Yq] 48))
                    case first =>
                      go_wp2_with fail
                      go_meet
                      exact ⟨rfl, rfl, rfl⟩
                    case rest =>
                      obtain ⟨rfl, rfl, hwe⟩ := hcut
                      have hb := HQ.out.2.2.2.2.2.alloc HQ.out.2.2.2.2.2.size (.cells #[.int .i64 Xq, .int .i64 Yq] 48)
                      have hl := HB1.out.1.keep hb
                      have hp := HB1.out.2.1.below hb HB1.out.2.1.lt
                      have hp2 := Blk.new wr 48 #[.int .i64 Xq, .int .i64 Yq]
                      rw [← hwe] at hb hl hp hp2
                      clear hwe
                      obtain ⟨p2, hpp⟩ : ∃ p, p = wr.heap.size := ⟨_, rfl⟩
                      rw [← hpp] at hp2 ⊢
                      clear e0 e1 hpp
                      obtain ⟨x0, x1, x2, x3, x4⟩ := box_cells hl.box
                      obtain ⟨b3, o3, h3, e0, e1⟩ := hl.sz k hlt
                      obtain ⟨b4, o4, h4, e2, e3⟩ := hl.sz q hqm
                      injection h3 with h3
                      injection h3 with h3 h3'
                      injection h4 with h4
                      injection h4 with h4 h4'
                      subst h3 h3' h4 h4'
                      rw [← HR.out.2.2.2.1] at e0
                      rw [← HR.out.2.2.2.2.1] at e1
                      rw [← HQ.out.2.2.1] at e2
                      rw [← HQ.out.2.2.2.1] at e3
                      have p0 := hp.cell 0
                      have p1 := hp.cell 1
                      have q0 := hp2.cell 0
                      have q1 := hp2.cell 1
                      have HD := Lib.hid hb
                      clear hb hl hp hp2 x0 x1 x2 x3
                      have u1 := LQ.out.1
                      have u2 := LQ.out.2.1
                      have u3 := MQ.out.1
                      have u4 := MQ.out.2.1
                      have u5 := MQ.out.2.2.1
                      have u6 := MQ.out.2.2.2
                      have u7 : Xq ≤ 45000 := by have := LQ.out.2.2.1; have := LAW.out.1; omega
                      have u8 : Yq ≤ 45000 := by have := LQ.out.2.2.2.1; have := LAW.out.2.1; omega
                      go_upto_region 16 with fail
                      go_cut [133] (fun s133 wx => s133 = .bool false ∧ ∃ n, wx = wc.drewN n)
                      case first =>
                        by_cases g1 : X < Xq + Zq
                        · have g3 : decide (Y < Yq + Vq) = false := by have := HQ.out.2.2.2.2.1; simp; omega
                          by_cases g2 : Xq < X + Z
                          · go_quiet (fail)
                            go_wp2
                            go_meet
                            exact ⟨rfl, _, rfl⟩
                          · have g2' : decide (Xq < X + Z) = false := by simpa using g2
                            clear g2
                            go_quiet (fail)
                            go_wp2
                            go_meet
                            exact ⟨rfl, _, rfl⟩
                        · have g1' : decide (X < Xq + Zq) = false := by simpa using g1
                          clear g1
                          go_quiet (fail)
                          go_wp2
                          go_meet
                          exact ⟨rfl, _, rfl⟩
                      case rest =>
                        obtain ⟨rfl, n2, rfl⟩ := hcut
                        go_wp2_with fail
                        go_roundw
                        case rel => exact ⟨q + 1, by omega, by go_num, below_drewN HD.out _⟩
                        case measure => simp [intOf]; omega
                  · have HX := Lib.hid (HB1.out.2.2.trans (hb.mono HB1.out.2.2.size))
                    clear hb
                    go_wp2
                    go_roundw
                    case rel => exact ⟨k + 1, by omega, by go_num, HX.out⟩
                    case measure => simp [intOf]; omega
          · have HB := Lib.hid hl.below
            clear hl hb
            go_wp2
            go_ret
            exact ⟨rfl, HB.out⟩

set_option maxRecDepth 100000 in
set_option maxHeartbeats 1000000 in
theorem flowApart_lifted (os : Os) (started : os.Started) (H : Type) (enc : TypeId × Value → H) :
    ReturnsInHanded {} Try.checked os 9 .any (Rows.flowApartSpec.pre6 enc Try.prog Try.f9 Rows.flowApartRow.domain false) (Rows.flowApartSpec.post enc Try.prog Try.f9 false true false false) := by
  refine returnsInHanded_of_change (C := Try.checked) own started (by kernel_rfl) Try.func9
    (ChangeSpec.witness6 (enc := enc) (C := Try.checked) false ⟨#[], #[.agg #[.int .i64 0, .int .i64 0, .int .i64 0, .int .i64 0, .slice none 0 0]], []⟩ 8 (by kernel_rfl) (by kernel_rfl) (by kernel_rfl) (by kernel_rfl)) ?_
  intro W base args ds gs before hval0 hW hcnd _
  have hval : ∀ (j : Nat) t v, Try.f9.params[j]? = some t → args[j]? = some v → Value.okWide Try.prog W .any base t v := hval0
  have hW' := hW
  obtain ⟨p, q, hA0, hV, rfl, hfz, hnd⟩ := hW
  have hA : DataW.TrodAll enc Try.prog W 0 (fun _ => true) true Try.f9.params.toList args.toList ds p := hA0
  rw [Try.params9] at hA hval
  obtain ⟨v0, vs0, d0, ds0, p0, q0, hargs, rfl, rfl, h0, r0⟩ := trodAll_cons hA
  obtain ⟨rfl, rfl, rfl⟩ := trodAll_nil r0
  obtain rfl : args = #[v0] := by cases args; simp_all
  obtain ⟨rfl, rfl⟩ := trodVars_none hV
  have k0 := h0
  have lt0 : ∀ x ∈ p0, x.block < W.heap.size := by obtain ⟨m, hm⟩ := k0; exact DataW.trod_lt m _ _ _ hm
  obtain ⟨kind, width, cols, gap, A, n, c, zs, rfl, _, _, hz⟩ := boxes_arg (hval 0 36 v0 rfl rfl) h0
  clear hA0 hval0
  refine (flowApart_walk kind width cols gap A n c zs W hz).mono fun e W' ⟨he, bel⟩ => ?_
  subst he
  exact ⟨_, rfl, _, _, _, [], _, [], hW', trodAll_mk1 (shut_bool Try.underlying4 _), (trodAll_cons_mk (Below.trod laid_out (by kernel_rfl) (of_decide_eq_true (by kernel_rfl)) k0 bel lt0) trodAll_mk0), rfl, bel.frame _, fun h => by cases h⟩

/-- The statement. -/
theorem flowApart_holds : Rows.FlowApartSaid :=
  OpenClaim.holds_of_wide 9 Try.f9 rfl rfl rfl rfl rfl rfl rfl ⟨rfl, rfl, rfl, rfl, rfl⟩ rfl rfl rfl rfl rfl (by kernel_rfl) Try.func9 (by kernel_rfl)
    (of_decide_eq_true (by kernel_rfl)) (by unfold Func.isWrapper; first | (rw [if_pos (by decide +kernel)]; kernel_rfl) | (rw [if_neg (by decide +kernel)]; exact ⟨rfl, rfl⟩))
    (fun os started H enc _ => flowApart_lifted os started H enc)
#print axioms flowApart_holds
end Go.Proofs.Ytgcadpfgdfjceaa
