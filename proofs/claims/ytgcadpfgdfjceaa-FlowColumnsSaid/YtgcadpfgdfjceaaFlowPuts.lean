/-
  FlowPuts: boxes go just where the document says, of any sizes. For every Boxes; no condition.
-/
import Derived.Test.YtgcadpfgdfjceaaFrame
import Derived.Test.YtgcadpfgdfjceaaFlowLaw
import Derived.Test.YtgcadpfgdfjceaaFlowAwake
import Derived.Test.YtgcadpfgdfjceaaFlowArg
namespace Go.Proofs.Ytgcadpfgdfjceaa
open Go.ChangeShapes Go.WideShapes Go.ChangeAt Go.RowKit
attribute [local go_sem ↓] Go.wp_at_zero Go.wp_at_succ

theorem Pairs.take {w : World} {B : Nat} {A : Option Addr} {n : Nat} {zs : List (Int × Int)} (h : Pairs w B A n zs) (m : Nat) (hm : m ≤ n) : Pairs w B A m (zs.take m) :=
  ⟨by rw [List.length_take, h.1]; omega, fun k hk => by
    obtain ⟨b, off, hA, hb, h0, h1⟩ := h.2 k (by omega)
    have e : (zs.take m).getD k (0, 0) = zs.getD k (0, 0) := by simp [List.getD, hk]
    exact ⟨b, off, hA, hb, by rw [e]; exact h0, by rw [e]; exact h1⟩⟩

/-- The boxes' own box. -/
def boxCells (kind width cols gap : Int) (A : Option Addr) (n c : Nat) : Array Value := #[.int .i64 kind, .int .i64 width, .int .i64 cols, .int .i64 gap, .slice A n c]

theorem box_cells {wx : World} {B : Nat} {kind width cols gap : Int} {A : Option Addr} {n c : Nat} (h : Blk wx B 36 (boxCells kind width cols gap A n c)) :
    wx.cell? ⟨B, 0, none⟩ = some (.int .i64 kind) ∧ wx.cell? ⟨B, 1, none⟩ = some (.int .i64 width) ∧ wx.cell? ⟨B, 2, none⟩ = some (.int .i64 cols) ∧ wx.cell? ⟨B, 3, none⟩ = some (.int .i64 gap) ∧ wx.cell? ⟨B, 4, none⟩ = some (.slice A n c) :=
  ⟨h.cell 0, h.cell 1, h.cell 2, h.cell 3, h.cell 4⟩

/-- What lies where both answers have come. -/
def Both (w wx : World) (A1 A2 : Option Addr) (m sp s : Nat) (S : P14.St) : Prop :=
  Pairs wx wx.heap.size A1 m S.out ∧ Pairs wx wx.heap.size A2 m S.out ∧
  Blk wx sp 39 #[.int .i64 S.W, .int .i64 (P1.add S.y S.h)] ∧ Blk wx s 43 #[.int .i64 S.W, .int .i64 (P1.add S.y S.h)] ∧ Below w.heap.size w wx

theorem After.first {w W w3 : World} {A1 A2 : Option Addr} {m c2 sp : Nat} {S : P14.St} (hsp : Blk W sp 39 #[.int .i64 S.W, .int .i64 (P1.add S.y S.h)]) (hbe : Below w.heap.size w W) (hpa : Pairs W W.heap.size A1 m S.out) (hl : S.out.length = m)
    (hb : Below W.drew.heap.size W.drew w3) (ho : w3.ownsRow W.drew.heap.size 47 2 (.slice A2 S.out.length c2) S.out.length (flat2 S.out)) :
    Both w (w3.alloc (.cells #[.int .i64 S.W, .int .i64 (P1.add S.y S.h)] 43)) A1 A2 m sp w3.heap.size S := by
  have hb' : Below W.heap.size W w3 := ⟨hb.os, hb.tape, hb.output, hb.size, hb.block⟩
  refine ⟨((hpa.below hb').below (((Below.refl _ _).alloc hb'.size _))).more (by have := hb'.size; simp; omega), ?_, (hsp.below hb' hsp.lt).alloc _, Blk.new _ _ _, (hbe.trans (hb'.mono hbe.size)).alloc (Nat.le_trans hbe.size hb'.size) _⟩
  rw [hl] at ho
  exact Pairs.of_own (ho.alloc _) hl

theorem After.second {w W w3 : World} {A1 A2 : Option Addr} {m c2 sp : Nat} {S : P14.St} {o : Obj} (hsp : Blk W sp 39 #[.int .i64 S.W, .int .i64 (P1.add S.y S.h)]) (hbe : Below w.heap.size w W) (hpa : Pairs W W.heap.size A1 m S.out) (hl : S.out.length = m)
    (ho' : o = .cells #[.int .i64 0, .int .i64 0] 43)
    (hb : Below (W.alloc o).drew.heap.size (W.alloc o).drew w3) (ho : w3.ownsRow (W.alloc o).drew.heap.size 47 2 (.slice A2 S.out.length c2) S.out.length (flat2 S.out)) :
    Blk w3 W.heap.size 43 #[.int .i64 0, .int .i64 0] ∧
    Both w ((w3.setCell ⟨W.heap.size, 0, none⟩ (.int .i64 S.W)).setCell ⟨W.heap.size, 1, none⟩ (.int .i64 (P1.add S.y S.h))) A1 A2 m sp W.heap.size S := by
  subst ho'
  have hb' : Below W.heap.size W w3 := ((Below.refl _ _).alloc (Nat.le_refl _) _).trans (Below.mono (B := (W.alloc (.cells #[.int .i64 0, .int .i64 0] 43)).heap.size) ⟨hb.os, hb.tape, hb.output, hb.size, hb.block⟩ (by simp))
  have hr : Blk w3 W.heap.size 43 #[.int .i64 0, .int .i64 0] := Blk.below (w := (W.alloc (.cells #[.int .i64 0, .int .i64 0] 43)).drew) (Blk.new W _ _) hb (Blk.new W _ _).lt
  have hg : w3.grownBy ((w3.setCell ⟨W.heap.size, 0, none⟩ (.int .i64 S.W)).setCell ⟨W.heap.size, 1, none⟩ (.int .i64 (P1.add S.y S.h))) (some W.heap.size) := only_set (only_set (World.grownBy.refl w3 _) 0 _) 1 _
  have hlt := hsp.lt
  refine ⟨hr, ?_, ?_, ?_, (hr.set_ 0 (.int .i64 S.W)).set_ 1 (.int .i64 (P1.add S.y S.h)), ?_⟩
  · exact ((hpa.below hb').below (((Below.refl _ _).setCell (p := ⟨W.heap.size, 0, none⟩) (Nat.le_refl _) _).setCell (p := ⟨W.heap.size, 1, none⟩) (Nat.le_refl _) _)).more (Nat.le_trans hb'.size hg.size)
  · rw [hl] at ho
    exact Pairs.of_own (ho.kept hg (.inr (own_blk_ne ho hr (by decide)))) hl
  · exact (hsp.below hb' hlt).grown hg (by simp; omega)
  · exact ((hbe.trans (hb'.mono hbe.size)).setCell (p := ⟨W.heap.size, 0, none⟩) hbe.size _).setCell (p := ⟨W.heap.size, 1, none⟩) hbe.size _

set_option maxRecDepth 100000 in
set_option maxHeartbeats 8000000 in
theorem flowPuts_walk (kind width cols gap : Int) (A : Option Addr) (n c : Nat) (zs : List (Int × Int)) (w : World) (hz : Pairs w w.heap.size A n zs) (hnc : n ≤ c) :
    Calls Try.prog 8 #[.agg #[.int .i64 kind, .int .i64 width, .int .i64 cols, .int .i64 gap, .slice A n c]] w fun e w' => e = .returned (.bool true) ∧ Below w.heap.size w w' := by
  obtain ⟨m, hm⟩ : ∃ m, m = (zs.take 40).length := ⟨_, rfl⟩
  have hmn : m ≤ n ∧ m ≤ 40 ∧ ((m = n ∧ n ≤ 40) ∨ (m = 40 ∧ 40 < n)) ∧ zs.take 40 = zs.take m := by
    have := hz.1
    rw [List.length_take] at hm
    refine ⟨by omega, by omega, by omega, ?_⟩
    by_cases h : n ≤ 40
    · rw [List.take_of_length_le (by omega), List.take_of_length_le (by omega)]
    · rw [show m = 40 by omega]
  obtain ⟨hm1, hm2, hm3, hm4⟩ := hmn
  obtain ⟨S, hS⟩ : ∃ S, S = putSt kind width cols gap (zs.take 40) := ⟨_, rfl⟩
  have hSl : S.out.length = m := by rw [hS, putSt_len, hm]
  have hmin : min (n : Int) 40 = (m : Int) := by omega
  have hmi1 : (m : Int) ≤ (n : Int) := by omega
  have hmi2 : (0 : Int) ≤ (m : Int) := by omega
  have hmi3 : (n : Int) ≤ (c : Int) := by omega
  have hmi4 : (m : Int) ≤ (c : Int) := by omega
  have hz1 := hz.take m hm1
  rw [← hm4] at hz1
  have HZ := Lib.hid (And.intro hz (And.intro hz1 (And.intro hm (And.intro hS hSl))))
  clear hz hz1 hm hS hSl hm3 hm4
  go_enter Try.func8, Try.ntmps8
  go_wp2_with fail
  refine (flow_awake _).mono ?_
  rintro e w1 ⟨rfl, hb1⟩
  have hbx : Blk w1 w.heap.size 36 (boxCells kind width cols gap A n c) := (Blk.new w _ _).below hb1 (by simp)
  obtain ⟨x0, x1, x2, x3, x4⟩ := box_cells hbx
  have hbw1 : Below w.heap.size w w1 := ((Below.refl _ _).alloc (Nat.le_refl _) _).trans (hb1.mono (by simp))
  have hs1 := hbx.lt
  have H1 := Lib.hid (And.intro hbx hbw1)
  clear hbx hbw1 hb1
  go_wp2_with fail
  refine (put_boxes kind width cols gap A n c zs _ ((HZ.out.1.below H1.out.2).more H1.out.2.size)).mono ?_
  rintro e w2 ⟨A1, c1, rfl, ho, hb2⟩
  rw [← HZ.out.2.2.2.1, ← HZ.out.2.2.1] at ho ⊢
  have hbx := H1.out.1.below hb2 H1.out.1.lt
  obtain ⟨y0, y1, y2, y3, y4⟩ := box_cells hbx
  have hbw2 : Below w.heap.size w w2 := H1.out.2.trans (hb2.mono H1.out.2.size)
  have hs2 := hbx.lt
  have H2 := Lib.hid (And.intro hbx (And.intro hbw2 ho))
  clear hbx hbw2 hb2 ho x0 x1 x2 x3 x4 hs1
  obtain ⟨k2, hk2⟩ : ∃ k2, k2 = kind2 kind := ⟨_, rfl⟩
  obtain ⟨q, hq⟩ : ∃ q : Bool, q = decide (kind = 0 ∨ kind = 1) := ⟨_, rfl⟩
  have HK := Lib.hid (And.intro hk2 hq)
  clear hk2 hq
  go_upto_region 5 with fail
  go_cut [23] (fun s23 wx => s23 = .bool q ∧ wx = w2.alloc (.cells #[.int .i64 S.W, .int .i64 (P1.add S.y S.h)] 39))
  case first =>
    by_cases c0 : kind = 0
    · have HA := Lib.hid (show q = true by rw [HK.out.2]; simp [c0])
      have k0 : (kind == 0) = true := by simpa using c0
      clear c0
      go_wp2_with fail
      go_meet
      exact ⟨by rw [HA.out], rfl⟩
    · have k0 : (kind == 0) = false := by simpa using c0
      have HA := Lib.hid (show q = (kind == 1) by rw [HK.out.2]; simp [c0]; rfl)
      clear c0
      go_wp2_with fail
      go_meet
      exact ⟨by rw [HA.out], rfl⟩
  case rest =>
    obtain ⟨rfl, rfl⟩ := hcut
    go_upto_if 23 with fail
    go_cut [5] (fun s5 wx => s5 = .int .i64 k2 ∧ wx = w2.alloc (.cells #[.int .i64 S.W, .int .i64 (P1.add S.y S.h)] 39))
    case first =>
      cases q
      · have HA := Lib.hid (show k2 = 2 by rw [HK.out.1, kind2, if_neg (by simpa using HK.out.2)])
        go_wp2_with fail
        go_meet
        exact ⟨by rw [HA.out], rfl⟩
      · have HA := Lib.hid (show k2 = kind by rw [HK.out.1, kind2, if_pos (by simpa using HK.out.2)])
        go_wp2_with fail
        go_meet
        exact ⟨by rw [HA.out], rfl⟩
    case rest =>
      obtain ⟨rfl, rfl⟩ := hcut
      have hbx := H2.out.1.alloc (.cells #[.int .i64 S.W, .int .i64 (P1.add S.y S.h)] 39)
      have hsp := Blk.new w2 39 #[.int .i64 S.W, .int .i64 (P1.add S.y S.h)]
      have hbe := H2.out.2.1.alloc (by omega) (.cells #[.int .i64 S.W, .int .i64 (P1.add S.y S.h)] 39)
      have hpa := Pairs.of_own (H2.out.2.2.alloc (.cells #[.int .i64 S.W, .int .i64 (P1.add S.y S.h)] 39)) HZ.out.2.2.2.2
      generalize w2.alloc (.cells #[.int .i64 S.W, .int .i64 (P1.add S.y S.h)] 39) = W at hbx hsp hbe hpa ⊢
      clear y0 y1 y2 y3 y4
      obtain ⟨y0, y1, y2, y3, y4⟩ := box_cells hbx
      have hsW := hbx.lt
      have n0 := World.new_ne W ⟨w.heap.size, 0, none⟩ y0
      have HW := Lib.hid (And.intro hbx (And.intro hsp (And.intro hbe hpa)))
      clear hbx hsp hbe hpa
      have LAW := Lib.hid (show P14.placed (P14.least gap) (rsize k2 (P14.least width) (zs.take 40)) (P14.rowsAt (P14.least gap) (rsize k2 (P14.least width) (zs.take 40)) (rfresh k2 (P14.least width) (max 1 (min cols 64)) (rsize k2 (P14.least width) (zs.take 40))) m) (P14.rowsAt (P14.least gap) (rsize k2 (P14.least width) (zs.take 40)) (rfresh k2 (P14.least width) (max 1 (min cols 64)) (rsize k2 (P14.least width) (zs.take 40))) m).length = S ∧
          P14.high (P14.least gap) (rsize k2 (P14.least width) (zs.take 40)) (P14.rowsAt (P14.least gap) (rsize k2 (P14.least width) (zs.take 40)) (rfresh k2 (P14.least width) (max 1 (min cols 64)) (rsize k2 (P14.least width) (zs.take 40))) m) (P14.rowsAt (P14.least gap) (rsize k2 (P14.least width) (zs.take 40)) (rfresh k2 (P14.least width) (max 1 (min cols 64)) (rsize k2 (P14.least width) (zs.take 40))) m).length = P1.add S.y S.h from by
        have h := flow_law kind width cols gap (zs.take 40) _ rfl _ rfl
        rw [← HK.out.1, ← HZ.out.2.2.1, ← HZ.out.2.2.2.1] at h
        exact h)
      go_upto_region 7 with fail
      go_cut [6, 7] (fun s6 s7 wx => ∃ (A2 : Option Addr) (c2 s : Nat), s6 = .slice A2 m c2 ∧ s7 = .pointer (some ⟨s, 0, none⟩) ∧ Pairs wx wx.heap.size A1 m S.out ∧ Pairs wx wx.heap.size A2 m S.out ∧
        Blk wx w2.heap.size 39 #[.int .i64 S.W, .int .i64 (P1.add S.y S.h)] ∧ Blk wx s 43 #[.int .i64 S.W, .int .i64 (P1.add S.y S.h)] ∧ Below w.heap.size w wx)
      case first =>
        go_region_held3 (fun w' => w'.cell? ⟨w.heap.size, 0, none⟩ = some (.int .i64 kind) ∧ w'.cell? ⟨w.heap.size, 1, none⟩ = some (.int .i64 width) ∧ w'.cell? ⟨w.heap.size, 2, none⟩ = some (.int .i64 cols) ∧ w'.cell? ⟨w.heap.size, 3, none⟩ = some (.int .i64 gap) ∧ w'.cell? ⟨w.heap.size, 4, none⟩ = some (.slice A n c)) (go_keep)
          (first
            | (go_at_call 31; refine (rflow_any k2 width cols gap A m c (zs.take 40) _ ?_ hm2 _ rfl _ rfl).mono ?_; exact (HZ.out.2.1.below HW.out.2.2.1).more (Nat.le_of_lt hsW); rintro e w3 ⟨A2, c2, rfl, ho3, hb3⟩; rw [LAW.out.1, LAW.out.2]; rw [LAW.out.1] at ho3; have hz3 := box_cells (Blk.below (w := W.drew) HW.out.1 hb3 hsW); obtain ⟨z0, z1, z2, z3, z4⟩ := hz3; have n3 := World.new_ne w3 ⟨w.heap.size, 0, none⟩ z0; have H3 := Lib.hid (After.first HW.out.2.1 HW.out.2.2.1 HW.out.2.2.2 HZ.out.2.2.2.2 hb3 ho3); clear hb3 ho3)
            | (go_at_call 31; refine (rflow_any k2 width cols gap A m c (zs.take 40) _ ?_ hm2 _ rfl _ rfl).mono ?_; exact (HZ.out.2.1.below (HW.out.2.2.1.alloc (Nat.le_of_lt hsW) _)).more (by simp; omega); rintro e w3 ⟨A2, c2, rfl, ho3, hb3⟩; rw [LAW.out.1, LAW.out.2]; rw [LAW.out.1] at ho3; have hz3 := box_cells (Blk.below (w := (W.alloc (.cells #[.int .i64 0, .int .i64 0] 43)).drew) (HW.out.1.alloc _) hb3 (by simp; omega)); obtain ⟨z0, z1, z2, z3, z4⟩ := hz3; obtain ⟨hr3, H3⟩ := After.second HW.out.2.1 HW.out.2.2.1 HW.out.2.2.2 HZ.out.2.2.2.2 rfl hb3 ho3; have H3 := Lib.hid H3; have u0 := hr3.cell 0; have u1 := hr3.cell 1; have u2 := hr3.frozen 0; have u3 := hr3.frozen 1; have n3 := World.new_ne w3 ⟨w.heap.size, 0, none⟩ z0; clear hb3 ho3 hr3))
        all_goals (go_wp2_with fail; go_meet)
        all_goals (first | exact ⟨A2, c2, _, by rw [HZ.out.2.2.2.2], rfl, H3.out⟩ | exact ⟨A2, c2, _, by rw [HZ.out.2.2.2.2], rfl, H3⟩)
      case rest =>
        obtain ⟨A2, c2, s, rfl, rfl, hB⟩ := hcut
        obtain ⟨hp1, hp2, hq1, hq2, hbe⟩ := hB
        have a0 := hq1.cell 0
        have a1 := hq1.cell 1
        have b0 := hq2.cell 0
        have b1 := hq2.cell 1
        have HB := Lib.hid (And.intro hp1 (And.intro hp2 hbe))
        clear hp1 hp2 hbe hq1 hq2 y0 y1 y2 y3 y4
        obtain ⟨w4, rfl⟩ : ∃ w4, w4 = wc := ⟨_, rfl⟩
        go_wp2_with fail
        go_loopw [56] (fun i wr => ∃ k : Nat, k ≤ m ∧ i = .int .i64 k ∧ Drew w4 wr) (fun i _ => m - (intOf i).toNat)
        case atStart => exact ⟨0, Nat.zero_le _, rfl, Drew.refl _⟩
        case round =>
          obtain ⟨k, hk, rfl, nd, rfl⟩ := hrel
          by_cases hlt : k < m
          · obtain ⟨hp1, hp2, hbe⟩ := HB.out
            obtain ⟨g1, o1, rfl, _, e0, e1⟩ := hp1.2 k hlt
            obtain ⟨g2, o2, rfl, _, e2, e3⟩ := hp2.2 k hlt
            have i1 : (0 : Int) ≤ (k : Int) := by omega
            have i2 : (k : Int) < (m : Int) := by omega
            clear hp1 hp2 hbe
            go_wp2
            go_quiet (fail)
            go_wp2
            go_roundw
            case rel => exact ⟨k + 1, by omega, by go_num, _, rfl⟩
            case measure => simp [intOf]; omega
          · go_wp2
            go_ret
            exact ⟨rfl, below_drewN HB.out.2.2 _⟩

set_option maxRecDepth 100000 in
set_option maxHeartbeats 1000000 in
theorem flowPuts_lifted (os : Os) (started : os.Started) (H : Type) (enc : TypeId × Value → H) :
    ReturnsInHanded {} Try.checked os 8 .any (Rows.flowPutsSpec.pre6 enc Try.prog Try.f8 Rows.flowPutsRow.domain false) (Rows.flowPutsSpec.post enc Try.prog Try.f8 false true false false) := by
  refine returnsInHanded_of_change (C := Try.checked) own started (by kernel_rfl) Try.func8
    (ChangeSpec.witness6 (enc := enc) (C := Try.checked) false ⟨#[], #[.agg #[.int .i64 0, .int .i64 0, .int .i64 0, .int .i64 0, .slice none 0 0]], []⟩ 8 (by kernel_rfl) (by kernel_rfl) (by kernel_rfl) (by kernel_rfl)) ?_
  intro W base args ds gs before hval0 hW hcnd _
  have hval : ∀ (j : Nat) t v, Try.f8.params[j]? = some t → args[j]? = some v → Value.okWide Try.prog W .any base t v := hval0
  have hW' := hW
  obtain ⟨p, q, hA0, hV, rfl, hfz, hnd⟩ := hW
  have hA : DataW.TrodAll enc Try.prog W 0 (fun _ => true) true Try.f8.params.toList args.toList ds p := hA0
  rw [Try.params8] at hA hval
  obtain ⟨v0, vs0, d0, ds0, p0, q0, hargs, rfl, rfl, h0, r0⟩ := trodAll_cons hA
  obtain ⟨rfl, rfl, rfl⟩ := trodAll_nil r0
  obtain rfl : args = #[v0] := by cases args; simp_all
  obtain ⟨rfl, rfl⟩ := trodVars_none hV
  have k0 := h0
  have lt0 : ∀ x ∈ p0, x.block < W.heap.size := by obtain ⟨m, hm⟩ := k0; exact DataW.trod_lt m _ _ _ hm
  obtain ⟨kind, width, cols, gap, A, n, c, zs, rfl, hnc, _, hz⟩ := boxes_arg (hval 0 36 v0 rfl rfl) h0
  clear hA0 hval0
  refine (flowPuts_walk kind width cols gap A n c zs W hz hnc).mono fun e W' ⟨he, bel⟩ => ?_
  subst he
  exact ⟨_, rfl, _, _, _, [], _, [], hW', trodAll_mk1 (shut_bool Try.underlying4 _), (trodAll_cons_mk (Below.trod laid_out (by kernel_rfl) (of_decide_eq_true (by kernel_rfl)) k0 bel lt0) trodAll_mk0), rfl, bel.frame _, fun h => by cases h⟩

/-- The statement. -/
theorem flowPuts_holds : Rows.FlowPutsSaid :=
  OpenClaim.holds_of_wide 8 Try.f8 rfl rfl rfl rfl rfl rfl rfl ⟨rfl, rfl, rfl, rfl, rfl⟩ rfl rfl rfl rfl rfl (by kernel_rfl) Try.func8 (by kernel_rfl)
    (of_decide_eq_true (by kernel_rfl)) (by unfold Func.isWrapper; first | (rw [if_pos (by decide +kernel)]; kernel_rfl) | (rw [if_neg (by decide +kernel)]; exact ⟨rfl, rfl⟩))
    (fun os started H enc _ => flowPuts_lifted os started H enc)
#print axioms flowPuts_holds
end Go.Proofs.Ytgcadpfgdfjceaa
