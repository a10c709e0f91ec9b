/-
  The walk over right: is that how a slot can be?
-/
import Derived.Test.YtkiaaaehakjhjaaSlotFns
import Derived.Deep.RegionHeld
namespace Go.Proofs.Ytkiaaaehakjhjaa
open Go.RowKit
attribute [local go_sem ↓] Go.wp_at_zero Go.wp_at_succ

/-- Has one ahead of i the key of i? -/
def dupB (ks : List Kid) (i j : Nat) : Bool := (ks.getD j kid0).1.toList == (ks.getD i kid0).1.toList
def okAt (ks : List Kid) (i : Nat) : Bool := decide (0 ≤ (ks.getD i kid0).2) && (decide ((ks.getD i kid0).2 ≤ 6) && !(List.range i).any (dupB ks i))
def liveB (ks : List Kid) (i : Nat) : Bool := decide ((ks.getD i kid0).2 < 4)
def liveTo (ks : List Kid) (k : Nat) : Nat := ((List.range k).filter (liveB ks)).length
def rightS (ks : List Kid) : Bool := (List.range ks.length).all (okAt ks) && decide (liveTo ks ks.length ≤ 1)
theorem liveTo_succ (ks : List Kid) (k : Nat) : liveTo ks (k + 1) = if (ks.getD k kid0).2 < 4 then liveTo ks k + 1 else liveTo ks k := by
  rw [liveTo, liveTo, List.range_succ, List.filter_append, List.length_append]
  have hl : liveB ks k = decide ((ks.getD k kid0).2 < 4) := rfl
  cases h : liveB ks k
  · have h1 := h
    rw [hl] at h1
    rw [if_neg (by simpa using h1)]
    simp [List.filter, h]
  · have h1 := h
    rw [hl] at h1
    rw [if_pos (by simpa using h1)]
    simp [List.filter, h]
theorem liveTo_le (ks : List Kid) (k : Nat) : liveTo ks k ≤ k := by
  have := List.length_filter_le (liveB ks) (List.range k)
  rw [List.length_range] at this
  exact this
theorem right_no {ks : List Kid} {k : Nat} (hk : k < ks.length) (h : okAt ks k = false) : rightS ks = false := by
  have : (List.range ks.length).all (okAt ks) = false := by
    rw [List.all_eq_false]
    exact ⟨k, List.mem_range.2 hk, by rw [h]; simp⟩
  rw [rightS, this]; rfl
theorem right_end {ks : List Kid} (h : ∀ k, k < ks.length → okAt ks k = true) : rightS ks = decide (liveTo ks ks.length ≤ 1) := by
  have : (List.range ks.length).all (okAt ks) = true := by
    rw [List.all_eq_true]
    exact fun k hk => h k (List.mem_range.1 hk)
  rw [rightS, this]; rfl

set_option maxRecDepth 100000 in
set_option maxHeartbeats 8000000 in
theorem right_any (A : Option Addr) (n c : Nat) (ks : List Kid) (w : World) (hz : Kids w w.heap.size A n ks) (hc : n ≤ c) (hm : n ≤ 20) :
    Calls Try.prog 14 #[.slice A n c] w fun e w' => e = .returned (.bool (rightS ks)) ∧ Below w.heap.size w w' := by
  obtain ⟨r, hr⟩ : ∃ r, r = rightS ks := ⟨_, rfl⟩
  rw [← hr]
  have HZ := Lib.hid (And.intro hz hr)
  clear hz hr
  go_enter Try.func14, Try.ntmps14
  go_wp2_with fail
  go_loopw [3, 10] (fun v i wr => ∃ k : Nat, k ≤ n ∧ i = .int .i64 k ∧ v = .int .i64 (liveTo ks k) ∧ Hid (∀ j, j < k → okAt ks j = true) ∧ Below w.heap.size w wr) (fun _ i _ => n - (intOf i).toNat)
  case atStart => exact ⟨0, Nat.zero_le _, rfl, rfl, Lib.hid (fun j hj => by omega), Below.refl _ _⟩
  case round =>
    obtain ⟨k, hk, rfl, rfl, hH, hb⟩ := hrel
    obtain ⟨v, hv⟩ : ∃ v, v = liveTo ks k := ⟨_, rfl⟩
    have hvk : v ≤ k := by rw [hv]; exact liveTo_le ks k
    rw [← hv]
    by_cases hlt : k < n
    · obtain ⟨b, off, rfl, hbB, d0, d1⟩ := HZ.out.1.2 k hlt
      have e0 := (hb.cell (p := ⟨b, off + k * 2, none⟩) hbB).trans d0
      have e1 := (hb.cell (p := ⟨b, off + k * 2 + 1, none⟩) hbB).trans d1
      obtain ⟨s, t, hst⟩ : ∃ s t, ks.getD k kid0 = (s, t) := ⟨_, _, rfl⟩
      rw [hst] at e0 e1
      simp only [k0, k1] at e0 e1
      have i1 : (0 : Int) ≤ (k : Int) := by omega
      have i2 : (k : Int) < (n : Int) := by omega
      have HV := Lib.hid (show liveTo ks (k + 1) = if t < 4 then v + 1 else v by rw [liveTo_succ, hst, hv])
      have HO := Lib.hid (show okAt ks k = (decide (0 ≤ t) && (decide (t ≤ 6) && !(List.range k).any (dupB ks k))) by rw [okAt, hst])
      have HS := Lib.hid hst
      have HK := Lib.hid (show k < ks.length by have := HZ.out.1.1; omega)
      have HB := Lib.hid (hb.alloc hb.size (.cells #[.string s, .int .i64 t] 41))
      have hbl := Blk.new wr 41 #[.string s, .int .i64 t]
      have HBL := Lib.hid hbl
      obtain ⟨wo, hwo⟩ : ∃ wo, wo = wr.alloc (.cells #[.string s, .int .i64 t] 41) := ⟨_, rfl⟩
      obtain ⟨B, hBB⟩ : ∃ B, B = wr.heap.size := ⟨_, rfl⟩
      clear hst hv hb d0 d1 hbl
      go_upto_region 5 with fail
      rw [← hwo] at HB HBL ⊢
      rw [← hBB] at HBL ⊢
      clear hwo hBB e0 e1
      have x0 : wo.cell? ⟨B, 0, none⟩ = some (.string s) := HBL.out.cell 0
      have x1 : wo.cell? ⟨B, 1, none⟩ = some (.int .i64 t) := HBL.out.cell 1
      by_cases h0 : t < 0
      · have HR := Lib.hid (show r = false by rw [HZ.out.2]; exact right_no HK.out (by rw [HO.out]; simp; intro h; omega))
        go_wp2
        go_ret
        exact ⟨by rw [HR.out]; rfl, HB.out⟩
      · have g0 : decide (t < 0) = false := by simpa using h0
        by_cases h6 : 6 < t
        · have HR := Lib.hid (show r = false by rw [HZ.out.2]; exact right_no HK.out (by rw [HO.out]; simp; intro _ h; omega))
          clear h0
          go_wp2
          go_ret
          exact ⟨by rw [HR.out]; rfl, HB.out⟩
        · have g6 : decide (6 < t) = false := by simpa using h6
          have HO1 := Lib.hid (show okAt ks k = !(List.range k).any (dupB ks k) by
            rw [HO.out]
            have a : decide (0 ≤ t) = true := by simp; omega
            have b : decide (t ≤ 6) = true := by simp; omega
            rw [a, b]; rfl)
          clear h0 h6
          obtain ⟨q4, hq4⟩ : ∃ q4, q4 = decide (t < 4) := ⟨_, rfl⟩
          have HQ4 := Lib.hid hq4
          have HV4 := Lib.hid (show liveTo ks (k + 1) = if q4 = true then v + 1 else v by rw [HV.out, hq4]; simp)
          clear hq4
          go_upto_region 7 with fail
          go_cut [25] (fun s wx => s = .bool q4 ∧ wx = wo)
          case first =>
            go_wp2
            go_meet
            exact ⟨by rw [HQ4.out], rfl⟩
          case rest =>
          obtain ⟨rfl, hw⟩ := hcut
          subst hw
          obtain ⟨wo, hwo⟩ : ∃ wo, wo = wc := ⟨_, rfl⟩
          rw [← hwo] at HB HBL x0 x1 ⊢
          clear hwo
          go_upto_if 25 with fail
          go_cut [3] (fun s3 wx => s3 = .int .i64 (liveTo ks (k + 1)) ∧ wx = wo)
          case first =>
            have i3 : v ≤ 20 := by omega
            cases q4
            · have HV1 := Lib.hid (show liveTo ks (k + 1) = v by rw [HV4.out, if_neg (by simp)])
              go_wp2
              go_meet
              exact ⟨by rw [HV1.out], rfl⟩
            · have HV1 := Lib.hid (show liveTo ks (k + 1) = v + 1 by rw [HV4.out, if_pos rfl])
              go_wp2
              go_meet
              exact ⟨by rw [HV1.out]; go_num, rfl⟩
          case rest =>
            obtain ⟨rfl, hw⟩ := hcut
            subst hw
            have i4 : (k : Int) ≤ (c : Int) := by omega
            go_wp2_with fail
            obtain ⟨wo, rfl⟩ : ∃ wo : World, wo = wc := ⟨_, rfl⟩
            go_loopw [32] (fun i wr => ∃ j : Nat, j ≤ k ∧ i = .int .i64 j ∧ Hid (∀ i, i < j → dupB ks k i = false) ∧ Below wo.heap.size wo wr) (fun i _ => k - (intOf i).toNat)
            case atStart => exact ⟨0, Nat.zero_le _, rfl, Lib.hid (fun i hi => by omega), Below.refl _ _⟩
            case round =>
              obtain ⟨j, hj, rfl, hJ, hb⟩ := hrel
              have HBW := Lib.hid (HB.out.trans (hb.mono HB.out.size))
              have z0 := (hb.cell (p := ⟨B, 0, none⟩) HBL.out.lt).trans x0
              by_cases hlt2 : j < k
              · obtain ⟨b2, off2, hA2, hbB2, d0, d1⟩ := HZ.out.1.2 j (by omega)
                injection hA2 with hA2
                injection hA2 with hA2 hA3
                subst hA2 hA3
                have e0 := (HBW.out.cell (p := ⟨b, off + j * 2, none⟩) hbB).trans d0
                have e1 := (HBW.out.cell (p := ⟨b, off + j * 2 + 1, none⟩) hbB).trans d1
                obtain ⟨s2, t2, hst2⟩ : ∃ s t, ks.getD j kid0 = (s, t) := ⟨_, _, rfl⟩
                rw [hst2] at e0 e1
                simp only [k0, k1] at e0 e1
                have j1 : (0 : Int) ≤ (j : Int) := by omega
                have j2 : (j : Int) < (k : Int) := by omega
                have HD := Lib.hid (show dupB ks k j = (s2.toList == s.toList) by rw [dupB, hst2, HS.out])
                have z0' := (World.cell?_alloc_some wr ⟨B, 0, none⟩ (.cells #[.string s2, .int .i64 t2] 41) (by simp [z0])).trans z0
                have HB2 := Lib.hid (hb.alloc hb.size (.cells #[.string s2, .int .i64 t2] 41))
                have HBW2 := Lib.hid (HBW.out.alloc HBW.out.size (.cells #[.string s2, .int .i64 t2] 41))
                clear hst2 d0 d1 hb x0 x1
                by_cases hs : s2.toList = s.toList
                · have HR := Lib.hid (show r = false by
                    rw [HZ.out.2]
                    refine right_no HK.out ?_
                    rw [HO1.out]
                    have : (List.range k).any (dupB ks k) = true := by
                      rw [List.any_eq_true]
                      exact ⟨j, List.mem_range.2 hlt2, by rw [HD.out]; simpa using hs⟩
                    rw [this]; rfl)
                  go_wp2
                  go_ret
                  exact ⟨by rw [HR.out]; rfl, HBW2.out⟩
                · have HD2 := Lib.hid (show dupB ks k j = false by rw [HD.out]; simpa using hs)
                  have hs' : (s2.toList == s.toList) = false := by simpa using hs
                  clear hs
                  go_wp2
                  go_roundw
                  case rel => exact ⟨j + 1, by omega, by go_num, Lib.hid (fun i hi => by
                    by_cases h : i = j
                    · rw [h]; exact HD2.out
                    · exact hJ.out i (by omega)), HB2.out⟩
                  case measure => simp [intOf]; omega
              · obtain rfl : j = k := by omega
                have HO2 := Lib.hid (show okAt ks j = true by
                  rw [HO1.out]
                  have : (List.range j).any (dupB ks j) = false := by
                    rw [List.any_eq_false]
                    intro i hi
                    rw [hJ.out i (List.mem_range.1 hi)]; simp
                  rw [this]; rfl)
                clear hb x0 x1 z0
                go_wp2
                go_roundw
                case rel => exact ⟨j + 1, by omega, by go_num, rfl, Lib.hid (fun i hi => by
                  by_cases h : i = j
                  · rw [h]; exact HO2.out
                  · exact hH.out i (by omega)), HBW.out⟩
                case measure => simp [intOf]; omega
    · obtain rfl : k = n := by omega
      have HR := Lib.hid (show r = decide (v ≤ 1) by rw [HZ.out.2, right_end (fun j hj => hH.out j (by have := HZ.out.1.1; omega)), HZ.out.1.1, hv])
      have HB := Lib.hid hb
      clear hb hv
      by_cases hv1 : v ≤ 1
      · have hv2 : (v : Int) ≤ 1 := by omega
        have HR1 := Lib.hid (show r = true by rw [HR.out]; simpa using hv1)
        go_wp2
        go_ret
        exact ⟨by rw [HR1.out]; rfl, HB.out⟩
      · have hv2 : decide ((v : Int) ≤ 1) = false := by simp; omega
        have HR1 := Lib.hid (show r = false by rw [HR.out]; simpa using hv1)
        clear hv1
        go_wp2
        go_ret
        exact ⟨by rw [HR1.out]; rfl, HB.out⟩

end Go.Proofs.Ytkiaaaehakjhjaa
