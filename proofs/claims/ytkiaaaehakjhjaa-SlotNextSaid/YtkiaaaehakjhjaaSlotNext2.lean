/-
  The walk over the document's Next. (Written by gen_next.py.)
-/
import Derived.Test.YtkiaaaehakjhjaaSlotNext
namespace Go.Proofs.Ytkiaaaehakjhjaa
open Go.RowKit
attribute [local go_sem ↓] Go.wp_at_zero Go.wp_at_succ

set_option maxRecDepth 100000 in
set_option maxHeartbeats 8000000 in
theorem rnext_any (A : Option Addr) (n c : Nat) (ks : List Kid) (w : World) (hz : Kids w w.heap.size A n ks) (hm : n ≤ 15) :
    Calls Try.prog 17 #[.slice A n c] w (NextPost w ks) := by
  obtain ⟨tr, hi, hz0, hz1, hz2⟩ := info_parts int_info
  obtain ⟨cu, hcu⟩ : ∃ cu, cu = cur ks := ⟨_, rfl⟩
  obtain ⟨q, hq⟩ : ∃ q, q = entS ks := ⟨_, rfl⟩
  obtain ⟨q1, hq1⟩ : ∃ q1, q1 = waitS ks := ⟨_, rfl⟩
  have HZ := Lib.hid (And.intro hz (And.intro hcu hq))
  have HW := Lib.hid hq1
  have HK := Lib.hid (show 0 ≤ cu → cu.toNat < n by intro h; rw [hcu] at h ⊢; have := cur_nat ks h; have := hz.1; omega)
  clear hz hcu hq hq1
  go_enter Try.func17, Try.ntmps17
  go_wp2_with fail
  refine (rcur_any _ _ _ ks _ HZ.out.1 (by unfold maxLen; omega)).mono ?_
  rintro e w1 ⟨rfl, hb1⟩
  rw [← HZ.out.2.1]
  have HB0 := Lib.hid hb1
  clear hb1
  go_upto_region 3 with fail
  have hl := World.ownsRow_lit (base := w.heap.size) (e := 3) (size := 1) w1 #[] 0 HB0.out.size (by unfold maxLen; omega) rfl
  have HO1 := Lib.hid hl
  have HB1 := Lib.hid (HB0.out.alloc HB0.out.size (.cells #[] 3))
  clear hl HB0
  obtain ⟨g, hgg⟩ : ∃ g, g = w1.heap.size := ⟨_, rfl⟩
  rw [← hgg] at HO1 ⊢
  obtain ⟨wa, hwa⟩ : ∃ wa, wa = w1.alloc (.cells #[] 3) := ⟨_, rfl⟩
  rw [← hwa] at HO1 HB1 ⊢
  clear hwa hgg
  go_cut [6] (fun s wx => s = .bool q1 ∧ wx = wa)
  case first =>
    by_cases h0 : 0 ≤ cu
    · obtain ⟨k, rfl⟩ : ∃ k : Nat, cu = k := ⟨cu.toNat, by omega⟩
      have hkn : k < n := by have := HK.out h0; omega
      have i2 : (k : Int) < (n : Int) := by omega
      obtain ⟨b, off, rfl, hbB, e0, e1⟩ := HZ.out.1.2 k hkn
      replace e0 := (HB1.out.cell (p := ⟨b, off + k * 2, none⟩) hbB).trans e0
      replace e1 := (HB1.out.cell (p := ⟨b, off + k * 2 + 1, none⟩) hbB).trans e1
      obtain ⟨s, t, hst⟩ : ∃ s t, ks.getD k kid0 = (s, t) := ⟨_, _, rfl⟩
      rw [hst] at e0 e1
      simp only [k0, k1] at e0 e1
      have HE := Lib.hid (show ks.getD ((k : Nat) : Int).toNat kid0 = (s, t) from hst)
      clear hst
      have HQ := Lib.hid (show q1 = (t == 1) by rw [HW.out, waitS, ← HZ.out.2.1, HE.out]; simp)
      go_wp2
      go_meet
      exact ⟨by rw [HQ.out], rfl⟩
    · have HQ := Lib.hid (show q1 = false by rw [HW.out, waitS, ← HZ.out.2.1]; simp [h0])
      have hd : decide (0 ≤ cu) = false := by simpa using h0
      clear h0
      go_wp2
      go_meet
      exact ⟨by rw [HQ.out], rfl⟩
  case rest =>
    obtain ⟨rfl, hw⟩ := hcut
    subst hw
    go_upto_region 4 with fail
    obtain ⟨wa, hwa⟩ : ∃ wa, wa = wc := ⟨_, rfl⟩
    rw [← hwa] at HO1 HB1 ⊢
    clear hwa
    go_cut [39] (fun s wx => s = .bool q ∧ wx = wa)
    case first =>
      by_cases h0 : 0 ≤ cu
      · obtain ⟨k, rfl⟩ : ∃ k : Nat, cu = k := ⟨cu.toNat, by omega⟩
        have hkn : k < n := by have := HK.out h0; omega
        have i2 : (k : Int) < (n : Int) := by omega
        obtain ⟨b, off, rfl, hbB, e0, e1⟩ := HZ.out.1.2 k hkn
        replace e0 := (HB1.out.cell (p := ⟨b, off + k * 2, none⟩) hbB).trans e0
        replace e1 := (HB1.out.cell (p := ⟨b, off + k * 2 + 1, none⟩) hbB).trans e1
        obtain ⟨s, t, hst⟩ : ∃ s t, ks.getD k kid0 = (s, t) := ⟨_, _, rfl⟩
        rw [hst] at e0 e1
        simp only [k0, k1] at e0 e1
        have HE := Lib.hid (show ks.getD ((k : Nat) : Int).toNat kid0 = (s, t) from hst)
        clear hst
        have HQ := Lib.hid (show q = (t == 2 || t == 3) by rw [HZ.out.2.2, entS, ← HZ.out.2.1, HE.out]; simp [entB])
        by_cases h2 : t = 2
        · have HQ1 := Lib.hid (show q = true by rw [HQ.out, h2]; rfl)
          subst h2
          go_wp2
          go_meet
          exact ⟨by rw [HQ1.out], rfl⟩
        · have g2 := beq_no h2
          have HQ1 := Lib.hid (show q = (t == 3) by rw [HQ.out, g2]; rfl)
          clear h2
          go_wp2
          go_meet
          exact ⟨by rw [HQ1.out], rfl⟩
      · have HQ := Lib.hid (show q = false by rw [HZ.out.2.2, entS, ← HZ.out.2.1]; simp [h0])
        have hd : decide (0 ≤ cu) = false := by simpa using h0
        clear h0
        go_wp2
        go_meet
        exact ⟨by rw [HQ.out], rfl⟩
    case rest =>
      obtain ⟨rfl, hw⟩ := hcut
      subst hw
      cases q
      rotate_left
      · have HL := Lib.hid (show nextL ks = [] ∧ nextB ks = false by rw [nextL, nextB, ← HZ.out.2.2]; exact ⟨rfl, rfl⟩)
        go_wp2
        exact bodyPost_ret (v := .tuple #[.slice (some ⟨g, 0, none⟩) 0 0, .bool false]) (by simp [results, Try.results17, go_sem]) rfl ⟨_, 0, by rw [HL.out.1, HL.out.2]; rfl, by rw [HL.out.1]; exact HO1.out, HB1.out⟩
      · go_wp2_with fail
        go_loopw [5, 6, 43] (fun vh g i wr => ∃ k : Nat, k ≤ n ∧ i = .int .i64 k ∧ g = .bool (q1 && !ghostTo ks k) ∧ wr.ownsRow w.heap.size 3 1 vh (heldTo ks k).length (nums (heldTo ks k)) ∧ Below w.heap.size w wr) (fun _ _ i _ => n - (intOf i).toNat)
        case atStart => exact ⟨0, Nat.zero_le _, rfl, by simp [ghostTo], HO1.out, HB1.out⟩
        case round =>
          obtain ⟨k, hk, rfl, rfl, hown, hb⟩ := hrel
          obtain ⟨vh, hvh⟩ : ∃ vh, vh = u5 := ⟨_, rfl⟩
          rw [← hvh] at hown ⊢
          clear hvh
          obtain ⟨g, hg⟩ : ∃ g, g = ghostTo ks k := ⟨_, rfl⟩
          rw [← hg]
          by_cases hlt : k < n
          · obtain ⟨b, off, rfl, hbB, e0, e1⟩ := HZ.out.1.2 k hlt
            replace e0 := (hb.cell (p := ⟨b, off + k * 2, none⟩) hbB).trans e0
            replace e1 := (hb.cell (p := ⟨b, off + k * 2 + 1, none⟩) hbB).trans e1
            obtain ⟨s0, t, hst⟩ : ∃ s t, ks.getD k kid0 = (s, t) := ⟨_, _, rfl⟩
            rw [hst] at e0 e1
            simp only [k0, k1] at e0 e1
            have i1 : (0 : Int) ≤ (k : Int) := by omega
            have i2 : (k : Int) < (n : Int) := by omega
            have HG := Lib.hid (show ghostTo ks (k + 1) = (g || ghostB t) by rw [ghostTo_succ, hst, hg])
            have HH := Lib.hid (heldTo_succ ks k)
            have HT := Lib.hid (show heldB ks k = (t == 4) by rw [heldB, hst])
            have HLN := Lib.hid (heldTo_len ks k)
            have HO := Lib.hid hown
            have HB := Lib.hid hb
            clear hst hg hown hb HB1
            obtain ⟨wo, hwo⟩ : ∃ wo, wo = wr := ⟨_, rfl⟩
            rw [← hwo] at HO HB e0 e1 ⊢
            clear hwo
            go_upto_region 9 with fail
            go_cut [49] (fun s wx => s = .bool (ghostB t) ∧ Blk wx wo.heap.size 41 #[.string s0, .int .i64 t] ∧ wx.ownsRow w.heap.size 3 1 vh (heldTo ks k).length (nums (heldTo ks k)) ∧ Below w.heap.size w wx)
            case first =>
              go_wp2_with fail
              refine (rghost_any _ _ _).mono ?_
              rintro e w2 ⟨rfl, hb2⟩
              have hbl := Blk.below (Blk.new wo 41 #[.string s0, .int .i64 t]) hb2 (by simp)
              have HBL := Lib.hid hbl
              have HB2 := Lib.hid hb2
              clear hbl hb2
              go_wp2
              go_meet
              exact ⟨rfl, HBL.out, own_keep (HO.out.alloc _) HB2.out, (HB.out.alloc HB.out.size _).trans (HB2.out.mono (HB.out.alloc HB.out.size _).size)⟩
            case rest =>
              obtain ⟨rfl, hbl, hown, hb⟩ := hcut
              obtain ⟨B, hB⟩ : ∃ B, B = wo.heap.size := ⟨_, rfl⟩
              rw [← hB] at hbl ⊢
              have x1 : wc.cell? ⟨B, 1, none⟩ = some (.int .i64 t) := hbl.cell 1
              clear hbl hB HO HB e0 e1
              have HO := Lib.hid hown
              have HB := Lib.hid hb
              clear hown hb
              obtain ⟨qg, hqg⟩ : ∃ qg, qg = ghostB t := ⟨_, rfl⟩
              rw [← hqg] at HG ⊢
              clear hqg
              go_upto_if 49 with fail
              obtain ⟨wo, hwo⟩ : ∃ wo, wo = wc := ⟨_, rfl⟩
              rw [← hwo] at HO HB x1 ⊢
              clear hwo
              go_cut [6] (fun s wx => s = .bool (q1 && !(g || qg)) ∧ wx = wo)
              case first =>
                cases qg
                · go_wp2
                  go_meet
                  exact ⟨by cases g <;> rfl, rfl⟩
                · go_wp2
                  go_meet
                  exact ⟨by cases g <;> cases q1 <;> rfl, rfl⟩
              case rest =>
              obtain ⟨rfl, hw⟩ := hcut
              subst hw
              rw [← HG.out]
              by_cases h4 : t = 4
              · have HK1 := Lib.hid (show heldTo ks (k + 1) = heldTo ks k ++ [(k : Int)] by rw [HH.out, HT.out, h4]; rfl)
                subst h4
                obtain ⟨l, hl⟩ : ∃ l, l = heldTo ks k := ⟨_, rfl⟩
                rw [← hl] at HO HLN HK1
                have hll := HLN.out
                clear hl HH
                go_wp2_with (first
                  | (at_builtin; refine wpList_append_lies _ rfl _ _ _ rfl w.heap.size 3 tr _ 1 8 Try.underlying28 hi hz0 hz1 hz2 rfl (by decide) _ l.length (nums l) rfl (HO.out.alloc _) _ 1 1 [.int .i64 (k : Int)] rfl rfl (World.news_of_block (heap_alloc_new _ _)) (by intro u hu; simp at hu; subst hu; rfl) (by omega) (by unfold maxLen; omega) (by omega) (by have := HB.out.size; simp; omega) _ rfl ?_; intro g2 cap2 w2 hown2 hg2 hat2 hlt2; have HN := Lib.hid hown2; have HB2 := Lib.hid ((HB.out.alloc HB.out.size _).grown hg2 (HB.out.alloc HB.out.size _).size (fun j hj => (HO.out.lt j hj).1)); clear hown2 hg2 hat2 hlt2))
                go_roundw
                case rel => exact ⟨k + 1, by omega, by go_num, rfl, by rw [HK1.out]; simpa [nums] using HN.out, HB2.out⟩
                case measure => simp [intOf]; omega
              · have HK1 := Lib.hid (show heldTo ks (k + 1) = heldTo ks k by rw [HH.out, HT.out, if_neg (by simpa using h4)])
                have g4 := beq_no h4
                clear h4 HH
                go_wp2
                go_roundw
                case rel => exact ⟨k + 1, by omega, by go_num, rfl, by rw [HK1.out]; exact HO.out, HB.out⟩
                case measure => simp [intOf]; omega
          · obtain rfl : k = n := by omega
            have HO := Lib.hid hown
            have HB := Lib.hid hb
            have HL := Lib.hid (show nextL ks = heldTo ks k ∧ nextB ks = (waitS ks && !g) by rw [nextL, nextB, ← HZ.out.2.2, HZ.out.1.1, hg]; exact ⟨rfl, rfl⟩)
            obtain ⟨A1, c1, hv⟩ := own_form hown
            subst hv
            clear hg hown hb HB1
            go_wp2
            exact bodyPost_ret (v := .tuple #[.slice A1 (heldTo ks k).length c1, .bool (q1 && !g)]) (by simp [results, Try.results17, go_sem]) rfl ⟨A1, c1, by rw [HL.out.1, HL.out.2, HW.out], by rw [HL.out.1]; exact HO.out, HB.out⟩

end Go.Proofs.Ytkiaaaehakjhjaa
