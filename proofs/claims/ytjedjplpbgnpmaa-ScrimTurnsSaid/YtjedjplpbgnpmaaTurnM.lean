/-
  The walk over Turn of layer 4.
-/
import Derived.Test.YtjedjplpbgnpmaaTurnK
namespace Go.Proofs.Ytjedjplpbgnpmaa
open Go.RowKit
attribute [local go_sem ↓] Go.wp_at_zero Go.wp_at_succ

set_option maxRecDepth 100000 in
set_option maxHeartbeats 8000000 in
theorem turnP_any (A B : Option Addr) (n c m c' : Nat) (a b : List Pr) (w : World) (hz : Ps w w.heap.size A n a) (hz' : Ps w w.heap.size B m b) (hn : n ≤ 100) (hm : m ≤ 100) :
    Calls Try.prog 5 #[.slice A n c, .slice B m c'] w (UPost w (turnP a b)) := by
  obtain ⟨tr, hi, hz0, hz1, hz2⟩ := info_parts pst_info
  have HZ := Lib.hid (And.intro hz hz')
  clear hz hz'
  go_enter Try.func5, Try.ntmps5
  go_wp2_with fail
  refine (of_any A n c a _ HZ.out.1 (by omega)).mono ?_
  rintro e w1 ⟨A1, c1, rfl, hown1, hb1⟩
  have H1 := Lib.hid (And.intro hown1 hb1)
  clear hown1 hb1
  go_wp2_with fail
  refine (of_any B m c' b _ ((HZ.out.2.below H1.out.2).more H1.out.2.size) (by omega)).mono ?_
  rintro e w2 ⟨A2, c2, rfl, hown2, hb2⟩
  have HTS := Lib.hid (show turnP a b = turnU (ofS a) (ofS b) from rfl)
  have hla : (ofS a).length ≤ 100 := Nat.le_trans (ofS_len a) (by rw [HZ.out.1.1]; exact hn)
  have hlb : (ofS b).length ≤ 100 := Nat.le_trans (ofS_len b) (by rw [HZ.out.2.1]; exact hm)
  have HB := Lib.hid (H1.out.2.trans (hb2.mono H1.out.2.size))
  have HOA := Lib.hid (own_keep H1.out.1 hb2)
  have HRI := Lib.hid (And.intro (ofS_rise a) (ofS_rise b))
  obtain ⟨ca, hca⟩ : ∃ ca, ca = ofS a := ⟨_, rfl⟩
  obtain ⟨cb, hcb⟩ : ∃ cb, cb = ofS b := ⟨_, rfl⟩
  rw [← hca] at HOA HTS hla HRI ⊢
  rw [← hcb] at hown2 HTS hlb HRI ⊢
  obtain ⟨na, hna⟩ : ∃ na, na = ca.length := ⟨_, rfl⟩
  obtain ⟨nb, hnb⟩ : ∃ nb, nb = cb.length := ⟨_, rfl⟩
  rw [← hna] at HOA hla ⊢
  rw [← hnb] at hown2 hlb ⊢
  have HNA := Lib.hid hna
  have HNB := Lib.hid hnb
  have HRA := Lib.hid (Rd.of_own (cv := cvP) (d := pr0) (fun _ => rfl) HOA.out hna.symm)
  have HRB := Lib.hid (Rd.of_own (cv := cvP) (d := pr0) (fun _ => rfl) hown2 hnb.symm)
  obtain ⟨wo, rfl⟩ : ∃ wo : World, wo = w2 := ⟨_, rfl⟩
  clear hca hcb hna hnb hown2 hb2 H1 HOA
  go_wp2_with fail
  go_loopw [5, 20] (fun vo i wx => ∃ k : Nat, k ≤ na ∧ i = .int .i64 k ∧ wx.ownsRow wo.heap.size 53 3 vo (dropsU cb ca k).length ((dropsU cb ca k).flatMap cvU) ∧ Below wo.heap.size wo wx) (fun _ i _ => na - (intOf i).toNat)
  case atStart => exact ⟨0, Nat.zero_le _, rfl, World.ownsRow_nil _ _ _ _, Below.refl _ _⟩
  case round =>
    obtain ⟨k, hk, rfl, hown, hb⟩ := hrel
    obtain ⟨vo, hvo⟩ : ∃ vo, vo = u5 := ⟨_, rfl⟩
    rw [← hvo] at hown ⊢
    clear hvo
    by_cases hlt : k < na
    · obtain ⟨b1, off1, rfl, hbB, d0, d1⟩ := HRA.out.pr k hlt
      replace d0 := (hb.cell (p := ⟨b1, off1 + k * 2, none⟩) hbB).trans d0
      replace d1 := (hb.cell (p := ⟨b1, off1 + k * 2 + 1, none⟩) hbB).trans d1
      have HD := Lib.hid (show dropsU cb ca (k + 1) = if hasN cb (ca.getD k pr0).1 = true then dropsU cb ca k else dropsU cb ca k ++ [(true, (ca.getD k pr0).1, 0)] from rfl)
      obtain ⟨⟨s, x⟩, hs⟩ : ∃ s, s = ca.getD k pr0 := ⟨_, rfl⟩
      obtain ⟨o, ho⟩ : ∃ o, o = dropsU cb ca k := ⟨_, rfl⟩
      have hol : o.length ≤ k := by rw [ho]; exact dropsU_len _ _ k
      rw [← hs] at d0 d1 HD
      rw [← ho] at hown HD
      simp only at d0 d1
      have i1 : (0 : Int) ≤ (k : Int) := by omega
      have i2 : (k : Int) < (na : Int) := by omega
      have HO := Lib.hid (And.intro (hown.alloc (.cells #[.string s, .int .i64 x] 34)) (hb.alloc hb.size (.cells #[.string s, .int .i64 x] 34)))
      have hX := Blk.new wr 34 #[.string s, .int .i64 x]
      have y0 := hX.cell 0
      have HXL := Lib.hid hX.lt
      clear hs ho hown hb hX
      go_upto_region 6 with fail
      obtain ⟨w3, hw3⟩ : ∃ w3, w3 = wr.alloc (.cells #[.string s, .int .i64 x] 34) := ⟨_, rfl⟩
      rw [← hw3] at HO HXL y0 ⊢
      obtain ⟨X, hXe⟩ : ∃ X, X = wr.heap.size := ⟨_, rfl⟩
      rw [← hXe] at HXL y0 ⊢
      clear hw3 hXe d0 d1
      go_wp2_with fail
      refine (where_any A2 nb c2 _ cb s _ ((HRB.out.below HO.out.2).more HO.out.2.size) (Nat.le_refl _) (by omega) HRI.out.2.srt).mono ?_
      rintro e w4 ⟨r, rfl, hr, hb4⟩
      have HIS := Lib.hid (at_hasN hr HRI.out.2)
      replace y0 := (hb4.cell (p := ⟨X, 0, none⟩) HXL.out).trans y0
      have HO4 := Lib.hid (And.intro (own_keep HO.out.1 hb4) (HO.out.2.trans (hb4.mono HO.out.2.size)))
      clear hr hb4
      rw [HIS.out]
      obtain ⟨q, hq⟩ : ∃ q, q = hasN cb s := ⟨_, rfl⟩
      rw [← hq] at HD
      rw [← hq]
      clear hq HIS
      cases q
      · have HD2 := Lib.hid (show dropsU cb ca (k + 1) = o ++ [(true, s, 0)] by rw [HD.out]; rfl)
        go_wp2_with (first
          | (at_builtin; refine wpList_append_lies _ rfl _ _ _ rfl wo.heap.size 53 tr _ 3 32 Try.underlying28 hi hz0 hz1 hz2 rfl (by decide) _ o.length (o.flatMap cvU) rfl (HO4.out.1.alloc _) _ 1 1 [.bool true, .string s, .int .i64 0] rfl rfl (World.news_of_block (heap_alloc_new _ _)) (by intro u hu; simp at hu; rcases hu with rfl | rfl | rfl <;> rfl) (by omega) (by unfold maxLen; omega) (by omega) (by have := HO4.out.2.size; simp; omega) _ rfl ?_; intro g2 cap2 w5 hown2 hg2 hat2 hlt2; have HX := Lib.hid (And.intro hown2 ((HO4.out.2.alloc HO4.out.2.size _).grown hg2 (HO4.out.2.alloc HO4.out.2.size _).size (fun j hj => (HO4.out.1.lt j hj).1))); clear hown2 hg2 hat2 hlt2))
        go_roundw
        case rel => exact ⟨k + 1, by omega, by go_num, by rw [HD2.out, cvU_snoc, List.length_append]; exact HX.out.1, HX.out.2⟩
        case measure => simp [intOf]; omega
      · have HD2 := Lib.hid (show dropsU cb ca (k + 1) = o by rw [HD.out]; rfl)
        go_wp2
        go_roundw
        case rel => exact ⟨k + 1, by omega, by go_num, by rw [HD2.out]; exact HO4.out.1, HO4.out.2⟩
        case measure => simp [intOf]; omega
    · obtain rfl : k = na := by omega
      obtain ⟨o, ho⟩ : ∃ o, o = dropsU cb ca k := ⟨_, rfl⟩
      have hol : o.length ≤ k := by rw [ho]; exact dropsU_len _ _ k
      have HTU := Lib.hid (show turnP a b = setsU o ca cb nb by rw [HTS.out, turnU, ← HNA.out, ← HNB.out, ho])
      rw [← ho] at hown
      have HO := Lib.hid (And.intro hown hb)
      clear ho hown hb HTS
      go_wp2_with fail
      go_loopw [5, 42] (fun vo i wx => ∃ j : Nat, j ≤ nb ∧ i = .int .i64 j ∧ wx.ownsRow wo.heap.size 53 3 vo (setsU o ca cb j).length ((setsU o ca cb j).flatMap cvU) ∧ Below wo.heap.size wo wx) (fun _ i _ => nb - (intOf i).toNat)
      case atStart => exact ⟨0, Nat.zero_le _, rfl, HO.out.1, HO.out.2⟩
      case round =>
        obtain ⟨j, hj, rfl, hown, hb⟩ := hrel
        obtain ⟨vo, hvo⟩ : ∃ vo, vo = u5 := ⟨_, rfl⟩
        rw [← hvo] at hown ⊢
        clear hvo HO
        by_cases hlt2 : j < nb
        · obtain ⟨b1, off1, rfl, hbB, d0, d1⟩ := HRB.out.pr j hlt2
          replace d0 := (hb.cell (p := ⟨b1, off1 + j * 2, none⟩) hbB).trans d0
          replace d1 := (hb.cell (p := ⟨b1, off1 + j * 2 + 1, none⟩) hbB).trans d1
          have HD := Lib.hid (show setsU o ca cb (j + 1) = if memP ca (cb.getD j pr0) = true then setsU o ca cb j else setsU o ca cb j ++ [(false, (cb.getD j pr0).1, (cb.getD j pr0).2)] from rfl)
          obtain ⟨⟨s, x⟩, hs⟩ : ∃ s, s = cb.getD j pr0 := ⟨_, rfl⟩
          obtain ⟨o2, ho2⟩ : ∃ o2, o2 = setsU o ca cb j := ⟨_, rfl⟩
          have hol2 : o2.length ≤ 300 := by have := setsU_len o ca cb j; rw [ho2]; omega
          rw [← hs] at d0 d1 HD
          rw [← ho2] at hown HD
          simp only at d0 d1
          have i1 : (0 : Int) ≤ (j : Int) := by omega
          have i2 : (j : Int) < (nb : Int) := by omega
          have HP := Lib.hid (And.intro (hown.alloc (.cells #[.string s, .int .i64 x] 34)) (hb.alloc hb.size (.cells #[.string s, .int .i64 x] 34)))
          have hX := Blk.new wr 34 #[.string s, .int .i64 x]
          have y0 := hX.cell 0
          have y1 := hX.cell 1
          have HXL := Lib.hid hX.lt
          clear hs ho2 hown hb hX
          go_upto_region 13 with fail
          obtain ⟨w3, hw3⟩ : ∃ w3, w3 = wr.alloc (.cells #[.string s, .int .i64 x] 34) := ⟨_, rfl⟩
          rw [← hw3] at HP HXL y0 y1 ⊢
          obtain ⟨X, hXe⟩ : ∃ X, X = wr.heap.size := ⟨_, rfl⟩
          rw [← hXe] at HXL y0 y1 ⊢
          clear hw3 hXe d0 d1
          go_wp2_with fail
          refine (where_any A1 k c1 _ ca s _ ((HRA.out.below HP.out.2).more HP.out.2.size) (Nat.le_refl _) (by omega) HRI.out.1.srt).mono ?_
          rintro e w4 ⟨r, rfl, hr, hb4⟩
          have HIS := Lib.hid (at_hasN hr HRI.out.1)
          replace y0 := (hb4.cell (p := ⟨X, 0, none⟩) HXL.out).trans y0
          replace y1 := (hb4.cell (p := ⟨X, 1, none⟩) HXL.out).trans y1
          have HP4 := Lib.hid (And.intro (own_keep HP.out.1 hb4) (HP.out.2.trans (hb4.mono HP.out.2.size)))
          clear hb4
          by_cases hq : isAt ca s r = true
          · have hrl : r < k := by
              have h1 := hq
              rw [isAt, Bool.and_eq_true, decide_eq_true_eq, ← HNA.out] at h1
              exact h1.1
            have hrn : (ca.getD r pr0).1 = s := by
              have h1 := hq
              rw [isAt, Bool.and_eq_true, decide_eq_true_eq, decide_eq_true_eq] at h1
              exact h1.2
            obtain ⟨b2, off2, rfl, hbB2, e0, e1⟩ := HRA.out.pr r hrl
            replace e0 := (HP4.out.2.cell (p := ⟨b2, off2 + r * 2, none⟩) hbB2).trans e0
            replace e1 := (HP4.out.2.cell (p := ⟨b2, off2 + r * 2 + 1, none⟩) hbB2).trans e1
            have HM := Lib.hid (at_memP (p := (s, x)) HRI.out.1 hq)
            obtain ⟨⟨s2, x2⟩, hs2⟩ : ∃ t, t = ca.getD r pr0 := ⟨_, rfl⟩
            rw [← hs2] at e0 e1 HM hrn
            simp only at e0 e1 hrn
            subst hrn
            have j1 : (0 : Int) ≤ (r : Int) := by omega
            have j2 : (r : Int) < (k : Int) := by omega
            clear hs2 hr HIS
            rw [hq]
            clear hq
            by_cases hx : x2 = x
            · have HD2 := Lib.hid (show setsU o ca cb (j + 1) = o2 by rw [HD.out, if_pos (by rw [HM.out, hx]; simp)])
              subst hx
              have hnq : ∀ w, (binOp .neq 34 (.agg #[.string s2, .int .i64 x2]) (.agg #[.string s2, .int .i64 x2])).run Try.prog w = .ok (.bool false) w := fun w => by rw [neq_pr]; simp
              go_upto_region 14 with fail
              go_region
              all_goals (
                go_wp2_with fail
                go_roundw)
              all_goals first
                | exact ⟨j + 1, by omega, by go_num, by rw [HD2.out]; exact HP4.out.1, HP4.out.2.drew⟩
                | (simp [intOf]; omega)
            · have HD2 := Lib.hid (show setsU o ca cb (j + 1) = o2 ++ [(false, s2, x)] by rw [HD.out, if_neg (by rw [HM.out]; simpa using hx)])
              have hnq : ∀ w, (binOp .neq 34 (.agg #[.string s2, .int .i64 x2]) (.agg #[.string s2, .int .i64 x])).run Try.prog w = .ok (.bool true) w := fun w => by rw [neq_pr]; simp [hx]
              have HPd := Lib.hid (And.intro HP4.out.1.drew HP4.out.2.drew)
              clear hx
              go_upto_region 14 with fail
              go_region
              all_goals (
                go_wp2_with (first
                  | (at_builtin; refine wpList_append_lies _ rfl _ _ _ rfl wo.heap.size 53 tr _ 3 32 Try.underlying28 hi hz0 hz1 hz2 rfl (by decide) _ o2.length (o2.flatMap cvU) rfl (HPd.out.1.alloc _) _ 1 1 [.bool false, .string s2, .int .i64 x] rfl rfl (World.news_of_block (heap_alloc_new _ _)) (by intro u hu; simp at hu; rcases hu with rfl | rfl | rfl <;> rfl) (by omega) (by unfold maxLen; omega) (by omega) (by have := HPd.out.2.size; simp at this ⊢; omega) _ rfl ?_; intro g2 cap2 w5 hown2 hg2 hat2 hlt2; have HX := Lib.hid (And.intro hown2 ((HPd.out.2.alloc HPd.out.2.size _).grown hg2 (HPd.out.2.alloc HPd.out.2.size _).size (fun j hj => (HPd.out.1.lt j hj).1))); clear hown2 hg2 hat2 hlt2))
                go_roundw)
              all_goals first
                | exact ⟨j + 1, by omega, by go_num, by rw [HD2.out, cvU_snoc, List.length_append]; exact HX.out.1, HX.out.2⟩
                | (simp [intOf]; omega)
          · have hq2 := Bool.eq_false_iff.2 hq
            have HD2 := Lib.hid (show setsU o ca cb (j + 1) = o2 ++ [(false, s, x)] by rw [HD.out, if_neg (by rw [not_memP (by rw [← HIS.out]; exact hq2)]; decide)])
            have HPd := Lib.hid (And.intro HP4.out.1.drew HP4.out.2.drew)
            clear hr HIS hq
            rw [hq2]
            clear hq2
            go_upto_region 14 with fail
            go_region
            all_goals (
              go_wp2_with (first
                | (at_builtin; refine wpList_append_lies _ rfl _ _ _ rfl wo.heap.size 53 tr _ 3 32 Try.underlying28 hi hz0 hz1 hz2 rfl (by decide) _ o2.length (o2.flatMap cvU) rfl (HPd.out.1.alloc _) _ 1 1 [.bool false, .string s, .int .i64 x] rfl rfl (World.news_of_block (heap_alloc_new _ _)) (by intro u hu; simp at hu; rcases hu with rfl | rfl | rfl <;> rfl) (by omega) (by unfold maxLen; omega) (by omega) (by have := HPd.out.2.size; simp at this ⊢; omega) _ rfl ?_; intro g2 cap2 w5 hown2 hg2 hat2 hlt2; have HX := Lib.hid (And.intro hown2 ((HPd.out.2.alloc HPd.out.2.size _).grown hg2 (HPd.out.2.alloc HPd.out.2.size _).size (fun j hj => (HPd.out.1.lt j hj).1))); clear hown2 hg2 hat2 hlt2))
              go_roundw)
            all_goals first
              | exact ⟨j + 1, by omega, by go_num, by rw [HD2.out, cvU_snoc, List.length_append]; exact HX.out.1, HX.out.2⟩
              | (simp [intOf]; omega)
        · obtain rfl : j = nb := by omega
          obtain ⟨A9, c9, hv⟩ := own_form hown
          subst hv
          have HP := Lib.hid (And.intro hown hb)
          clear hown hb
          go_wp2
          go_ret
          rw [HTU.out]
          exact ⟨A9, c9, rfl, own_base HP.out.1 HB.out.size, HB.out.trans (HP.out.2.mono HB.out.size)⟩

end Go.Proofs.Ytjedjplpbgnpmaa
