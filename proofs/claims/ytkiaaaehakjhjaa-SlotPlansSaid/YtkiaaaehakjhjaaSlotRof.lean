/-
  The walk over the document's Of.
-/
import Derived.Test.YtkiaaaehakjhjaaSlotSame
namespace Go.Proofs.Ytkiaaaehakjhjaa
open Go.RowKit
attribute [local go_sem ↓] Go.wp_at_zero Go.wp_at_succ

section
variable {t : TypeId} {w wx wy : World} {P : Nat} {vE vR : Value} {p : PlanS}
/-- One more in each. -/
theorem Pn.pushE (h : Pn t w wx P vE vR p) {a : Int} {g cap : Nat} (hn : vR.ownBlock = none) (ho : wy.ownsRow w.heap.size 3 1 (.slice (some ⟨g, 0, none⟩) (p.each.length + 1) cap) (p.each.length + 1) (nums p.each ++ [.int .i64 a])) (hg : wx.grownBy wy vE.ownBlock) :
    Pn t w (wy.setCell ⟨P, 0, none⟩ (.slice (some ⟨g, 0, none⟩) (p.each.length + 1) cap)) P (.slice (some ⟨g, 0, none⟩) (p.each.length + 1) cap) vR { p with each := p.each ++ [a] } := by
  have hblk := h.blk.grown hg (fun e => h.neE e.symm)
  have hR : wy.ownsRow w.heap.size 3 1 vR p.rel.length (nums p.rel) := h.r.kept hg (.inl hn)
  have hb := h.below.grown hg h.below.size (fun k hk => (h.e.lt k hk).1)
  have hl : (p.each ++ [a]).length = p.each.length + 1 := by simp
  refine ⟨hblk.set_ 0 _, ?_, hR.kept (row := some P) (only_set (World.grownBy.refl wy _) 0 _) (.inl hn), .inl hn, hb.setCell (p := ⟨P, 0, none⟩) h.pB _, h.pB, h.ht⟩
  show World.ownsRow _ _ _ _ _ (p.each ++ [a]).length _
  rw [hl, nums_snoc]
  exact ho.kept (row := some P) (only_set (World.grownBy.refl wy _) 0 _) (.inr (own_blk_ne ho hblk h.ht))
/-- Set once more. -/
theorem Pn.again {k : Nat} {a : Int} (h : Pn t w wx P vE vR { p with each := p.each.set k a }) (g c : Nat) (b : Int) (hv : vE = .slice (some ⟨g, 0, none⟩) p.each.length c) : Pn t w (wx.setCell ⟨g, k, none⟩ (.int .i64 b)) P vE vR { p with each := p.each.set k b } := by
  have h2 := h.setEach g c k b (by simpa using hv)
  simpa using h2
end

set_option maxRecDepth 100000 in
set_option maxHeartbeats 16000000 in
theorem rof_any (w : World) (A : Option Addr) (n c : Nat) (ks : List Kid) (key : ByteArray) (mode : Int) (hz : Kids w w.heap.size A n ks) (hm : n ≤ 15) :
    Calls Try.prog 11 #[.slice A n c, .string key, .int .i64 mode] w (PlanPost w (ofS ks key mode)) := by
  obtain ⟨tr, hi, hz0, hz1, hz2⟩ := info_parts int_info
  obtain ⟨w0, hw0⟩ : ∃ w0, w0 = w.alloc (.cells #[.slice none 0 0, .int .i64 0, .int .i64 0, .slice none 0 0] 32) := ⟨_, rfl⟩
  have hb0 : Below w.heap.size w w0 := by rw [hw0]; exact (Below.refl _ _).alloc (Nat.le_refl _) _
  have hR : Blk w0 w.heap.size 32 #[.slice none 0 0, .int .i64 0, .int .i64 0, .slice none 0 0] := by rw [hw0]; exact Blk.new _ _ _
  have HZ := Lib.hid (kids_at hz hb0)
  have HB0 := Lib.hid hb0
  have HR := Lib.hid hR
  have HL := Lib.hid hz.1
  clear hz hb0 hR
  go_enter Try.func11, Try.ntmps11
  go_upto_region 1 with fail
  rw [← hw0]
  clear hw0
  go_cut [7] (fun s wx => ∃ P, s = .pointer (some ⟨P, 0, none⟩) ∧ Pn 32 w0 wx P (.slice none 0 0) (.slice none 0 0) (planA 0))
  case first =>
    as_aux_lemma =>
    go_wp2_with fail
    go_meet
    exact ⟨_, rfl, Blk.new _ _ _, World.ownsRow_nil _ _ _ _, World.ownsRow_nil _ _ _ _, .inl rfl, (Below.refl _ _).alloc (Nat.le_refl _) _, Nat.le_refl _, by decide⟩
  case rest =>
    obtain ⟨P, rfl, hp⟩ := hcut
    have HP := Lib.hid hp
    clear hp
    go_wp2_with fail
    go_loopw [8] (fun i wr => ∃ k : Nat, k ≤ n ∧ i = .int .i64 k ∧ ∃ vE, Pn 32 w0 wr P vE (.slice none 0 0) (planA k)) (fun i _ => n - (intOf i).toNat)
    case atStart => exact ⟨0, Nat.zero_le _, rfl, _, HP.out⟩
    case round =>
      obtain ⟨k, hk, rfl, vE, hp⟩ := hrel
      by_cases hlt : k < n
      · obtain ⟨p0, hp0⟩ : ∃ p0, p0 = planA k := ⟨_, rfl⟩
        rw [← hp0] at hp
        have hp0' : planA (k + 1) = { p0 with each := p0.each ++ [0] } := by rw [hp0]; simp [planA, List.replicate_succ']
        have hl : p0.each.length = k := by rw [hp0]; simp [planA]
        obtain ⟨x0, x1, x2, x3⟩ := hp.cells
        have HPb := Lib.hid (hp.alloc (.cells #[.int .i64 0] 3))
        have HE := Lib.hid hp0'
        have HK := Lib.hid hl
        have hlk : p0.each.length ≤ n := by omega
        have i2 : (k : Int) < (n : Int) := by omega
        clear hp hp0 hp0' hl HP
        go_wp2_with (first
          | (at_builtin; refine wpList_append_lies _ rfl _ _ _ rfl w0.heap.size 3 tr _ 1 8 Try.underlying28 hi hz0 hz1 hz2 rfl (by decide) _ p0.each.length (nums p0.each) rfl HPb.out.e _ 1 1 [.int .i64 0] rfl rfl (World.news_of_block (heap_alloc_new _ _)) (by intro u hu; simp at hu; subst hu; rfl) (by omega) (by unfold maxLen; omega) (by omega) HPb.out.below.size _ rfl ?_; intro g2 cap2 w2 hown2 hg2 hat2 hlt2; have hbl := HPb.out.blk.grown hg2 (fun e => HPb.out.neE e.symm); have z3 := hbl.cell 0; have z4 := hbl.frozen 0; have HN := Lib.hid (HPb.out.pushE rfl hown2 hg2); clear hbl hown2 hg2 hat2 hlt2))
        go_roundw
        case rel => exact ⟨k + 1, by omega, by go_num, _, by rw [HE.out]; exact HN.out⟩
        case measure => simp [intOf]; omega
      · obtain rfl : n = k := by omega
        have HP := Lib.hid hp
        clear hp
        go_wp2_with fail
        refine (rcur_any _ _ _ ks _ (HZ.out.keep HP.out.below) (by unfold maxLen; omega)).mono ?_
        rintro e w1 ⟨rfl, hb1⟩
        have hp1 := HP.out.keep hb1
        have HP1 := Lib.hid hp1
        obtain ⟨x0, x1, x2, x3⟩ := hp1.cells
        obtain ⟨f0, f1, f2, f3⟩ := hp1.free
        clear hb1 HP hp1
        obtain ⟨q, hq⟩ : ∃ q, q = hereS ks key := ⟨_, rfl⟩
        obtain ⟨cu, hcu⟩ : ∃ cu, cu = cur ks := ⟨_, rfl⟩
        obtain ⟨p0, hp0⟩ : ∃ p0, p0 = planA n := ⟨_, rfl⟩
        rw [← hp0] at HP1 x1 x2
        have HP0 := Lib.hid hp0
        have HK := Lib.hid (show 0 ≤ cu → cu.toNat < n by intro h; rw [hcu] at h ⊢; have := cur_nat' ks h; have := HL.out; omega)
        rw [← hcu]
        have HQ := Lib.hid (show q = (decide (0 ≤ cu) && (more key && ((ks.getD cu.toNat kid0).1.toList == key.toList))) by rw [hq, hcu]; rfl)
        have HCU := Lib.hid (And.intro hcu hq)
        clear hcu hq hp0
        go_upto_region 8 with fail
        go_cut [45] (fun s wx => s = .bool q ∧ wx = w1)
        case first =>
          as_aux_lemma =>
          by_cases h0 : 0 ≤ cu
          · obtain ⟨k, rfl⟩ : ∃ k : Nat, cu = k := ⟨cu.toNat, by omega⟩
            have hkn : k < n := by have := HK.out h0; omega
            have i2 : (k : Int) < (n : Int) := by omega
            obtain ⟨b, off, rfl, hbB, e0, e1⟩ := HZ.out.2 k hkn
            replace e0 := (HP1.out.below.cell (p := ⟨b, off + k * 2, none⟩) hbB).trans e0
            replace e1 := (HP1.out.below.cell (p := ⟨b, off + k * 2 + 1, none⟩) hbB).trans e1
            obtain ⟨s, t, hst⟩ : ∃ s t, ks.getD k kid0 = (s, t) := ⟨_, _, rfl⟩
            rw [hst] at e0 e1
            simp only [k0, k1] at e0 e1
            have HQ1 := Lib.hid (show q = (more key && (s.toList == key.toList)) by
              have e : ks.getD ((k : Nat) : Int).toNat kid0 = (s, t) := hst
              rw [HQ.out, e]; simp)
            clear hst
            by_cases hk : key.toList = []
            · have HQ2 := Lib.hid (show q = false by rw [HQ1.out, more, hk]; rfl)
              go_wp2
              go_meet
              exact ⟨by rw [HQ2.out], rfl⟩
            · have HQ2 := Lib.hid (show q = (s.toList == key.toList) by rw [HQ1.out, more]; simp [hk])
              go_wp2
              go_meet
              exact ⟨by rw [HQ2.out]; simp [hk], rfl⟩
          · have hd : decide (0 ≤ cu) = false := by simpa using h0
            have HQ1 := Lib.hid (show q = false by rw [HQ.out, hd]; rfl)
            clear h0
            go_wp2
            go_meet
            exact ⟨by rw [HQ1.out], rfl⟩
        case rest =>
          obtain ⟨rfl, hw⟩ := hcut
          subst hw
          obtain ⟨p2, hp2⟩ : ∃ p2, p2 = (if q = true then { p0 with take := cu } else planC ks key mode) := ⟨_, rfl⟩
          obtain ⟨q3, hq3⟩ : ∃ q3, q3 = quietS p2 ks := ⟨_, rfl⟩
          have HP2 := Lib.hid (And.intro hp2 (show ofS ks key mode = releaseS ks p2 by rw [ofS, ← HCU.out.2, ← HCU.out.1, HL.out, hp2, ← HP0.out]))
          have HQ3 := Lib.hid hq3
          clear hp2 hq3
          go_upto_if 45 with fail
          go_cut [10] (fun s wx => s = .bool q3 ∧ Pn 32 w0 wx P vE (.slice none 0 0) p2)
          case first =>
            as_aux_lemma =>
            cases q
            rotate_left
            · have HC2 := Lib.hid (show p2 = { p0 with take := cu } by rw [HP2.out.1]; rfl)
              have h0 : 0 ≤ cu := by
                have := HQ.out.symm
                rw [Bool.and_eq_true] at this
                simpa using this.1
              obtain ⟨k, rfl⟩ : ∃ k : Nat, cu = k := ⟨cu.toNat, by omega⟩
              have hkn : k < n := by have := HK.out h0; omega
              have i2 : (k : Int) < (n : Int) := by omega
              obtain ⟨b, off, rfl, hbB, e0, e1⟩ := HZ.out.2 k hkn
              replace e0 := (HP1.out.below.cell (p := ⟨b, off + k * 2, none⟩) hbB).trans e0
              replace e1 := (HP1.out.below.cell (p := ⟨b, off + k * 2 + 1, none⟩) hbB).trans e1
              obtain ⟨s, t, hst⟩ : ∃ s t, ks.getD k kid0 = (s, t) := ⟨_, _, rfl⟩
              rw [hst] at e0 e1
              simp only [k0, k1] at e0 e1
              have HQ4 := Lib.hid (show q3 = (t == 2 || t == 3) by
                have e : ks.getD ((k : Nat) : Int).toNat kid0 = (s, t) := hst
                have h := quiet_A ks (by rw [← HCU.out.1]; exact h0)
                rw [← HCU.out.1, e] at h
                rw [HQ3.out, HC2.out, HP0.out, ← HL.out, h]; rfl)
              have nb := Nat.ne_of_gt (Nat.lt_of_lt_of_le hbB HP1.out.pB)
              have nb2 := Nat.ne_of_lt (Nat.lt_of_lt_of_le hbB HP1.out.pB)
              clear hst
              by_cases h2 : t = 2
              · have HQ5 := Lib.hid (show q3 = true by rw [HQ4.out, h2]; rfl)
                subst h2
                go_wp2
                go_meet
                exact ⟨by rw [HQ5.out], by rw [HC2.out]; exact HP1.out.setTake k⟩
              · have g2 := beq_no h2
                have HQ5 := Lib.hid (show q3 = (t == 3) by rw [HQ4.out, g2]; rfl)
                clear h2
                go_wp2
                go_meet
                exact ⟨by rw [HQ5.out], by rw [HC2.out]; exact HP1.out.setTake k⟩
            · have HC2 := Lib.hid (show p2 = planC ks key mode by rw [HP2.out.1]; rfl)
              obtain ⟨pB, hpB⟩ : ∃ pB, pB = planB ks key mode := ⟨_, rfl⟩
              have HPB := Lib.hid hpB
              clear hpB
              go_upto_region 11 with fail
              obtain ⟨q2, hq2⟩ : ∃ q2, q2 = decide (0 ≤ cu) := ⟨_, rfl⟩
              have HQ2 := Lib.hid hq2
              clear hq2
              go_cut [63] (fun s wx => s = .bool q2 ∧ wx = wc)
              case first =>
                as_aux_lemma =>
                go_wp2
                go_meet
                exact ⟨by rw [HQ2.out], rfl⟩
              case rest =>
                obtain ⟨rfl, hw⟩ := hcut
                subst hw
                go_upto_if 63 with fail
                go_cut [] (fun wx => Pn 32 w0 wx P vE (.slice none 0 0) pB)
                case first =>
                  as_aux_lemma =>
                  cases q2
                  rotate_left
                  · have h0 : 0 ≤ cu := by simpa using HQ2.out.symm
                    obtain ⟨k, rfl⟩ : ∃ k : Nat, cu = k := ⟨cu.toNat, by omega⟩
                    have hkn : k < n := by have := HK.out h0; omega
                    have i2 : (k : Int) < (n : Int) := by omega
                    obtain ⟨b, off, rfl, hbB, e0, e1⟩ := HZ.out.2 k hkn
                    replace e0 := (HP1.out.below.cell (p := ⟨b, off + k * 2, none⟩) hbB).trans e0
                    replace e1 := (HP1.out.below.cell (p := ⟨b, off + k * 2 + 1, none⟩) hbB).trans e1
                    obtain ⟨s, t, hst⟩ : ∃ s t, ks.getD k kid0 = (s, t) := ⟨_, _, rfl⟩
                    rw [hst] at e0 e1
                    simp only [k0, k1] at e0 e1
                    have HP5 := Lib.hid (show pB = { p0 with each := p0.each.set k (goesS t (more key) mode) } by
                      have e : (ks.getD ((k : Nat) : Int).toNat kid0) = (s, t) := hst
                      rw [HPB.out, planB, ← HCU.out.1, if_pos h0, e, HL.out, ← HP0.out]; rfl)
                    have hl0 : p0.each.length = n := by rw [HP0.out]; simp [planA]
                    obtain ⟨g, cE, hv, y0, y1⟩ := HP1.out.eachAt k (by omega)
                    have HV := Lib.hid hv
                    have hv' : vE = .slice (some ⟨g, 0, none⟩) n cE := by rw [hv]; exact congrArg (fun m => Value.slice (some ⟨g, 0, none⟩) m cE) hl0
                    rw [hv'] at x0
                    have n1 : ¬ P = g := fun e => HP1.out.neE (by rw [hv, ← e]; rfl)
                    have n2 : ¬ b = g := fun e => by have := (HP1.out.e.lt g (by rw [hv]; rfl)).1; omega
                    have n3 : ¬ g = P := fun e => n1 e.symm
                    have n4 : ¬ g = b := fun e => n2 e.symm
                    clear hst hv hv' hl0
                    by_cases h1 : t = 1
                    · by_cases h2 : mode = 2
                      · by_cases hk : key.toList = []
                        · have HG := Lib.hid (show goesS t (more key) mode = 3 by rw [goesS, more]; simp [h1])
                          have g2 : (mode == 2) = true := by simpa using h2
                          subst h1
                          clear h2
                          go_wp2
                          go_meet
                          rw [HP5.out, HG.out]
                          exact (HP1.out.setEach g cE k 1 HV.out).again g cE 3 HV.out
                        · have HG := Lib.hid (show goesS t (more key) mode = 3 by rw [goesS, more]; simp [h1])
                          have g2 : (mode == 2) = true := by simpa using h2
                          subst h1
                          have hk' : key.toList.isEmpty = false := by simpa using hk
                          clear h2
                          go_wp2
                          go_meet
                          rw [HP5.out, HG.out]
                          exact ((HP1.out.setEach g cE k 1 HV.out).again g cE 2 HV.out).again g cE 3 HV.out
                      · have HG := Lib.hid (show goesS t (more key) mode = 3 by rw [goesS, more]; simp [h1])
                        have g2 := beq_no h2
                        subst h1
                        clear h2
                        go_wp2
                        go_meet
                        rw [HP5.out, HG.out]
                        exact (HP1.out.setEach g cE k 1 HV.out).again g cE 3 HV.out
                    · by_cases h2 : mode = 2
                      · by_cases hk : key.toList = []
                        · have HG := Lib.hid (show goesS t (more key) mode = 1 by rw [goesS, more]; simp [h1, hk])
                          have g2 : (mode == 2) = true := by simpa using h2
                          have g1 := beq_no h1
                          clear h1
                          clear h2
                          go_wp2
                          go_meet
                          rw [HP5.out, HG.out]
                          exact (HP1.out.setEach g cE k 1 HV.out)
                        · have HG := Lib.hid (show goesS t (more key) mode = 2 by rw [goesS, more]; simp [h1, h2, hk])
                          have g2 : (mode == 2) = true := by simpa using h2
                          have g1 := beq_no h1
                          clear h1
                          have hk' : key.toList.isEmpty = false := by simpa using hk
                          clear h2
                          go_wp2
                          go_meet
                          rw [HP5.out, HG.out]
                          exact (HP1.out.setEach g cE k 1 HV.out).again g cE 2 HV.out
                      · have HG := Lib.hid (show goesS t (more key) mode = 1 by rw [goesS, more]; simp [h1, h2])
                        have g2 := beq_no h2
                        have g1 := beq_no h1
                        clear h1
                        clear h2
                        go_wp2
                        go_meet
                        rw [HP5.out, HG.out]
                        exact (HP1.out.setEach g cE k 1 HV.out)
                  · have HP5 := Lib.hid (show pB = p0 by rw [HPB.out, planB, ← HCU.out.1, if_neg (by simpa using HQ2.out.symm), HL.out, ← HP0.out])
                    go_wp2
                    go_meet
                    rw [HP5.out]; exact HP1.out
                case rest =>
                  have hpB := hcut
                  clear hcut x0 x1 x2 x3 f0 f1 f2 f3 HP1
                  obtain ⟨x0, x1, x2, x3⟩ := hpB.cells
                  obtain ⟨f0, f1, f2, f3⟩ := hpB.free
                  have HP3 := Lib.hid hpB
                  clear hpB
                  by_cases hk : key.toList = []
                  · have HM := Lib.hid (show p2 = pB by rw [HC2.out, planC, HPB.out, if_neg (by rw [more, hk]; simp)])
                    have HQ5 := Lib.hid (show q3 = false by rw [HQ3.out, HM.out, HPB.out]; exact quiet_B ks key mode)
                    go_wp2
                    go_meet
                    exact ⟨by rw [HQ5.out], by rw [HM.out]; exact HP3.out⟩
                  · have hmo : more key = true := by rw [more]; simp [hk]
                    have HM := Lib.hid (show p2 = ⟨e3 ks key mode, at3 ks key, if s3 ks key = 1 ∧ mode = 1 ∧ wTo ks key mode ks.length = true then 2 else s3 ks key, []⟩ by rw [HC2.out]; exact planC_ref ks key mode hmo)
                    have HQ5 := Lib.hid (show q3 = (p2.start == 1) by rw [HQ3.out, HC2.out]; exact quiet_C ks key mode hmo)
                    have hk' : key.toList.isEmpty = false := by simpa using hk
                    have HF := Lib.hid (planB_facts ks key mode)
                    rw [← HPB.out] at HF
                    clear hmo hk
                    go_wp2_with fail
                    go_loopw [11] (fun i wr => ∃ j : Nat, j ≤ n ∧ i = .int .i64 ((j : Int) - 1) ∧ ∃ tk, Hid (Last ks key j tk) ∧ Pn 32 w0 wr P vE (.slice none 0 0) { pB with take := tk }) (fun i _ => (intOf i + 1).toNat)
                    case atStart => exact ⟨n, Nat.le_refl _, by go_num, -1, Lib.hid (by rw [← HL.out]; exact Last.start ks key), HP3.out.setTake (-1)⟩
                    case round =>
                      obtain ⟨j, hj, rfl, tk, hH, hp⟩ := hrel
                      clear x0 x1 x2 x3 f0 f1 f2 f3 HP3
                      by_cases hj0 : 0 < j
                      · --<3
                        as_aux_lemma =>
                        obtain ⟨m, hjm⟩ : ∃ m, j = m + 1 := ⟨j - 1, by omega⟩
                        have em : ((j : Nat) : Int) - 1 = (m : Int) := by omega
                        rw [em]
                        clear em
                        subst hjm
                        have hmn : m < n := by omega
                        have i1 : (0 : Int) ≤ (m : Int) := by omega
                        have i2 : (m : Int) < (n : Int) := by omega
                        obtain ⟨b, off, rfl, hbB, d0, d1⟩ := HZ.out.2 m hmn
                        have e0 := (hp.below.cell (p := ⟨b, off + m * 2, none⟩) hbB).trans d0
                        have e1 := (hp.below.cell (p := ⟨b, off + m * 2 + 1, none⟩) hbB).trans d1
                        obtain ⟨s, t, hst⟩ : ∃ s t, ks.getD m kid0 = (s, t) := ⟨_, _, rfl⟩
                        rw [hst] at e0 e1 d0
                        simp only [k0, k1] at e0 e1 d0
                        obtain ⟨qg, hqg⟩ : ∃ qg, qg = ghostB t := ⟨_, rfl⟩
                        have HSM := Lib.hid (show same key (ks.getD m kid0) = (qg && (s.toList == key.toList)) by rw [hst, same, hqg])
                        have HQG := Lib.hid hqg
                        have HPW := Lib.hid hp
                        have HD := Lib.hid (And.intro d0 hbB)
                        clear hst hp hqg d0 d1 hj0
                        go_wp2_with fail
                        refine (rghost_any _ _ _).mono ?_
                        rintro e w2 ⟨rfl, hb2⟩
                        rw [← HQG.out]
                        have hp2' := HPW.out.keep hb2
                        have d0 := (hp2'.below.cell (p := ⟨b, off + m * 2, none⟩) HD.out.2).trans HD.out.1
                        obtain ⟨x0, x1, x2, x3⟩ := hp2'.cells
                        obtain ⟨f0, f1, f2, f3⟩ := hp2'.free
                        have HP4 := Lib.hid hp2'
                        clear hp2' hb2 e0 e1
                        cases qg
                        · go_wp2
                          go_roundw
                          case rel => exact ⟨m, by omega, by go_num, tk, Lib.hid (hH.out.no (by rw [HSM.out]; rfl)), HP4.out⟩
                          case measure => first | (simp [intOf]; done) | (simp [intOf]; omega)
                        · by_cases hs : s.toList = key.toList
                          · have HS := Lib.hid (show same key (ks.getD m kid0) = true by rw [HSM.out, hs]; simp)
                            go_wp2
                            go_roundw
                            case rel => exact ⟨m, by omega, by go_num, m, Lib.hid (hH.out.yes (by have := HL.out; omega) HS.out), HP4.out.setTake m⟩
                            case measure => first | (simp [intOf]; done) | (simp [intOf]; omega)
                          · have HS := Lib.hid (show same key (ks.getD m kid0) = false by rw [HSM.out]; simp [hs])
                            have hs' : (s.toList == key.toList) = false := by simpa using hs
                            clear hs
                            go_wp2
                            go_roundw
                            case rel => exact ⟨m, by omega, by go_num, tk, Lib.hid (hH.out.no HS.out), HP4.out⟩
                            case measure => first | (simp [intOf]; done) | (simp [intOf]; omega)
                        -->3
                      · have ej : ((j : Nat) : Int) - 1 = -1 := by omega
                        rw [ej]
                        clear ej
                        obtain rfl : j = 0 := by omega
                        have HTK := Lib.hid hH.out.done
                        obtain ⟨x0, x1, x2, x3⟩ := hp.cells
                        obtain ⟨f0, f1, f2, f3⟩ := hp.free
                        have HP3 := Lib.hid (show Pn 32 w0 wr P vE (.slice none 0 0) { pB with take := tk } from hp)
                        clear hp hH
                        obtain ⟨p5, hp5⟩ : ∃ p5, p5 = (⟨e3 ks key mode, tk, s3 ks key, []⟩ : PlanS) := ⟨_, rfl⟩
                        have HP5 := Lib.hid hp5
                        clear hp5
                        go_upto_region 25 with fail
                        have hp6 := HP3.out.setStart 1
                        obtain ⟨wd, hwd⟩ : ∃ wd, wd = wr.setCell ⟨P, 2, none⟩ (.int .i64 1) := ⟨_, rfl⟩
                        rw [← hwd] at hp6 ⊢
                        clear hwd x0 x1 x2 x3 f0 f1 f2 f3 HP3
                        obtain ⟨x0, x1, x2, x3⟩ := hp6.cells
                        obtain ⟨f0, f1, f2, f3⟩ := hp6.free
                        have HP6 := Lib.hid hp6
                        clear hp6
                        obtain ⟨q4, hq4⟩ : ∃ q4, q4 = decide (0 ≤ tk) := ⟨_, rfl⟩
                        have HQ4 := Lib.hid hq4
                        clear hq4
                        go_cut [117] (fun s wx => s = .bool q4 ∧ wx = wd)
                        case first =>
                          as_aux_lemma =>
                          go_wp2
                          go_meet
                          exact ⟨by rw [HQ4.out], rfl⟩
                        case rest =>
                          obtain ⟨rfl, hw⟩ := hcut
                          subst hw
                          go_upto_if 117 with fail
                          go_cut [] (fun wx => Pn 32 w0 wx P vE (.slice none 0 0) p5)
                          case first =>
                            as_aux_lemma =>
                            --<4
                            cases q4
                            rotate_left
                            · have h0 : 0 ≤ tk := by simpa using HQ4.out.symm
                              rcases at3_cases ks key with hneg | ⟨k, hkl, hka, hkg⟩
                              · have := HTK.out; omega
                              obtain rfl : tk = (k : Int) := HTK.out.trans hka
                              have hkn : k < n := by have := HL.out; omega
                              have i1 : (0 : Int) ≤ (k : Int) := by omega
                              have i2 : (k : Int) < (n : Int) := by omega
                              obtain ⟨b, off, rfl, hbB, e0, e1⟩ := HZ.out.2 k hkn
                              replace e0 := (HP6.out.below.cell (p := ⟨b, off + k * 2, none⟩) hbB).trans e0
                              replace e1 := (HP6.out.below.cell (p := ⟨b, off + k * 2 + 1, none⟩) hbB).trans e1
                              obtain ⟨s, t, hst⟩ : ∃ s t, ks.getD k kid0 = (s, t) := ⟨_, _, rfl⟩
                              rw [hst] at e0 e1
                              simp only [k0, k1] at e0 e1
                              have HS3 := Lib.hid (show s3 ks key = if t = 4 then 0 else 1 by
                                have e : ks.getD ((k : Nat) : Int).toNat kid0 = (s, t) := hst
                                rw [s3, hka, e]; simp)
                              have HE3 := Lib.hid (show e3 ks key mode = pB.each.set k 4 by
                                rw [e3, hka, if_neg (by omega), HPB.out]; rfl)
                              have hlB : pB.each.length = n := by rw [HF.out.1]; exact HL.out
                              obtain ⟨g, cE, hv, y0, y1⟩ := HP6.out.eachAt k (by show k < pB.each.length; omega)
                              have HV := Lib.hid hv
                              have hv' : vE = .slice (some ⟨g, 0, none⟩) n cE := by rw [hv]; exact congrArg (fun m => Value.slice (some ⟨g, 0, none⟩) m cE) hlB
                              rw [hv'] at x0
                              have n1 : ¬ P = g := fun e => HP6.out.neE (by rw [hv, ← e]; rfl)
                              have n2 : ¬ b = g := fun e => by have := (HP6.out.e.lt g (by rw [hv]; rfl)).1; omega
                              have n3 : ¬ g = P := fun e => n1 e.symm
                              have n4 : ¬ g = b := fun e => n2 e.symm
                              clear hst hv hv' hlB hka hkg h0
                              by_cases h4 : t = 4
                              · have HS4 := Lib.hid (show s3 ks key = 0 by rw [HS3.out, if_pos h4])
                                subst h4
                                go_wp2
                                go_meet
                                rw [HP5.out, HS4.out, HE3.out]
                                have h := (HP6.out.setEach g cE k 4 HV.out).setStart 0
                                rw [← HF.out.2.1]
                                exact h
                              · have HS4 := Lib.hid (show s3 ks key = 1 by rw [HS3.out, if_neg h4])
                                have g4 := beq_no h4
                                clear h4
                                go_wp2
                                go_meet
                                rw [HP5.out, HS4.out, HE3.out]
                                have h := (HP6.out.setEach g cE k 4 HV.out)
                                rw [← HF.out.2.1]
                                exact h
                            · have HN := Lib.hid (show at3 ks key < 0 by rw [← HTK.out]; simpa using HQ4.out.symm)
                              have HS4 := Lib.hid (show s3 ks key = 1 by rw [s3, if_neg (fun h => by have := HN.out; omega)])
                              have HE3 := Lib.hid (show e3 ks key mode = pB.each by rw [e3, if_pos HN.out, HPB.out])
                              go_wp2
                              go_meet
                              rw [HP5.out, HS4.out, HE3.out, ← HF.out.2.1]
                              exact HP6.out
                            -->4
                          case rest =>
                            have hp7 := hcut
                            clear hcut x0 x1 x2 x3 f0 f1 f2 f3 HP6
                            obtain ⟨x0, x1, x2, x3⟩ := hp7.cells
                            obtain ⟨f0, f1, f2, f3⟩ := hp7.free
                            have HP7 := Lib.hid hp7
                            clear hp7
                            go_upto_region 29 with fail
                            obtain ⟨wd, hwd⟩ : ∃ wd, wd = wc := ⟨_, rfl⟩
                            rw [← hwd] at HP7 x0 x1 x2 x3 f0 f1 f2 f3 ⊢
                            clear hwd
                            obtain ⟨qw, hqw⟩ : ∃ qw, qw = w3 ks key mode := ⟨_, rfl⟩
                            have HQW := Lib.hid hqw
                            clear hqw
                            go_cut [12] (fun s wx => s = .bool qw ∧ wx = wd)
                            case first =>
                              as_aux_lemma =>
                              --<5
                              by_cases h0 : 0 ≤ cu
                              · obtain ⟨k, rfl⟩ : ∃ k : Nat, cu = k := ⟨cu.toNat, by omega⟩
                                have hkn : k < n := by have := HK.out h0; omega
                                have i2 : (k : Int) < (n : Int) := by omega
                                have hlE : p5.each.length = n := by rw [HP5.out]; exact (e3_len ks key mode).trans HL.out
                                obtain ⟨g, cE, hv, y0, y1⟩ := HP7.out.eachAt k (by omega)
                                rw [hlE] at hv
                                rw [hv] at x0
                                obtain ⟨x, hx⟩ : ∃ x, x = p5.each.getD k 0 := ⟨_, rfl⟩
                                rw [← hx] at y0
                                have HW := Lib.hid (show qw = (x == 1) by
                                  have e : ((k : Nat) : Int).toNat = k := by omega
                                  rw [HQW.out, w3, ← HCU.out.1, e, hx, HP5.out]; simp)
                                clear hv hlE hx
                                go_wp2
                                go_meet
                                exact ⟨by rw [HW.out], rfl⟩
                              · have HW := Lib.hid (show qw = false by rw [HQW.out, w3, ← HCU.out.1]; simp [h0])
                                have hd : decide (0 ≤ cu) = false := by simpa using h0
                                clear h0
                                go_wp2
                                go_meet
                                exact ⟨by rw [HW.out], rfl⟩
                              -->5
                            case rest =>
                              obtain ⟨rfl, hw⟩ := hcut
                              subst hw
                              clear x0 x1 x2 x3 f0 f1 f2 f3
                              go_wp2_with fail
                              go_loopw [12, 143] (fun g i wr => ∃ k : Nat, k ≤ n ∧ i = .int .i64 k ∧ g = .bool (wTo ks key mode k) ∧ Pn 32 w0 wr P vE (.slice none 0 0) p5) (fun _ i _ => n - (intOf i).toNat)
                              case atStart => exact ⟨0, Nat.zero_le _, rfl, by rw [HQW.out]; simp [wTo, otherTo], HP7.out⟩
                              case round =>
                                obtain ⟨k, hk, rfl, rfl, hp⟩ := hrel
                                clear HP7
                                obtain ⟨g, hg⟩ : ∃ g, g = wTo ks key mode k := ⟨_, rfl⟩
                                rw [← hg]
                                by_cases hlt2 : k < n
                                · --<6
                                  as_aux_lemma =>
                                  obtain ⟨b, off, rfl, hbB, e0, e1⟩ := HZ.out.2 k hlt2
                                  replace e0 := (hp.below.cell (p := ⟨b, off + k * 2, none⟩) hbB).trans e0
                                  replace e1 := (hp.below.cell (p := ⟨b, off + k * 2 + 1, none⟩) hbB).trans e1
                                  obtain ⟨s, t, hst⟩ : ∃ s t, ks.getD k kid0 = (s, t) := ⟨_, _, rfl⟩
                                  rw [hst] at e0 e1
                                  simp only [k0, k1] at e0 e1
                                  have i1 : (0 : Int) ≤ (k : Int) := by omega
                                  have i2 : (k : Int) < (n : Int) := by omega
                                  obtain ⟨qg, hqg⟩ : ∃ qg, qg = ghostB t := ⟨_, rfl⟩
                                  have HG := Lib.hid (show wTo ks key mode (k + 1) = (g || (qg && !decide ((k : Int) = tk))) by rw [wTo_succ, hst, hg, HTK.out, hqg])
                                  have HQG := Lib.hid hqg
                                  have HPa := Lib.hid (hp.alloc (.cells #[.string s, .int .i64 t] 41))
                                  clear hst hg hp hqg
                                  cases g
                                  rotate_left
                                  · have HG1 := Lib.hid (show wTo ks key mode (k + 1) = true by rw [HG.out]; rfl)
                                    go_wp2
                                    go_roundw
                                    case rel => exact ⟨k + 1, by omega, by go_num, by rw [HG1.out], HPa.out⟩
                                    case measure => simp [intOf]; omega
                                  · go_wp2_with fail
                                    refine (rghost_any _ _ _).mono ?_
                                    rintro e w2 ⟨rfl, hb2⟩
                                    rw [← HQG.out]
                                    have hp2' := HPa.out.keep hb2
                                    obtain ⟨x0, x1, x2, x3⟩ := hp2'.cells
                                    have x1' : w2.cell? ⟨P, 1, none⟩ = some (.int .i64 tk) := by rw [x1, HP5.out]
                                    have HP8 := Lib.hid hp2'
                                    clear hp2' hb2 e0 e1 x0 x1 x2 x3
                                    cases qg
                                    · have HG1 := Lib.hid (show wTo ks key mode (k + 1) = false by rw [HG.out]; rfl)
                                      go_wp2
                                      go_roundw
                                      case rel => exact ⟨k + 1, by omega, by go_num, by rw [HG1.out], HP8.out⟩
                                      case measure => simp [intOf]; omega
                                    · by_cases hkt : (k : Int) = tk
                                      · have HG1 := Lib.hid (show wTo ks key mode (k + 1) = false by rw [HG.out]; simp [hkt])
                                        subst hkt
                                        go_wp2
                                        go_roundw
                                        case rel => exact ⟨k + 1, by omega, by go_num, by rw [HG1.out], HP8.out⟩
                                        case measure => simp [intOf]; omega
                                      · have HG1 := Lib.hid (show wTo ks key mode (k + 1) = true by rw [HG.out]; simp [hkt])
                                        go_wp2
                                        go_roundw
                                        case rel => exact ⟨k + 1, by omega, by go_num, by rw [HG1.out]; simp [hkt], HP8.out⟩
                                        case measure => simp [intOf]; omega
                                  -->6
                                · obtain rfl : n = k := by omega
                                  obtain ⟨x0, x1, x2, x3⟩ := hp.cells
                                  obtain ⟨f0, f1, f2, f3⟩ := hp.free
                                  obtain ⟨s, hs⟩ : ∃ s, s = s3 ks key := ⟨_, rfl⟩
                                  have x2' : wr.cell? ⟨P, 2, none⟩ = some (.int .i64 s) := by rw [x2, HP5.out, hs]
                                  have HP8 := Lib.hid hp
                                  have HM2 := Lib.hid (show p2 = { p5 with start := if s = 1 ∧ mode = 1 ∧ g = true then 2 else s } by rw [HM.out, HP5.out, HTK.out, hg, hs, HL.out])
                                  have HPS := Lib.hid (show p5.start = s by rw [HP5.out, hs])
                                  clear hs hp hg x2
                                  as_aux_lemma =>
                                  by_cases h1 : s = 1
                                  · subst h1
                                    by_cases hm1 : mode = 1
                                    · subst hm1
                                      cases g
                                      · have HM3 := Lib.hid (show p2 = p5 by rw [HM2.out, if_neg (by simp), ← HPS.out])
                                        have HQ6 := Lib.hid (show q3 = true by rw [HQ5.out, HM3.out, HPS.out]; rfl)
                                        go_wp2
                                        go_meet
                                        exact ⟨by rw [HQ6.out], by rw [HM3.out]; exact HP8.out⟩
                                      · have HM3 := Lib.hid (show p2 = { p5 with start := 2 } by rw [HM2.out, if_pos (by simp)])
                                        have HQ6 := Lib.hid (show q3 = false by rw [HQ5.out, HM3.out]; rfl)
                                        go_wp2
                                        go_meet
                                        exact ⟨by rw [HQ6.out], by rw [HM3.out]; exact HP8.out.setStart 2⟩
                                    · have g1 := beq_no hm1
                                      have HM3 := Lib.hid (show p2 = p5 by rw [HM2.out, if_neg (fun h => hm1 h.2.1), ← HPS.out])
                                      have HQ6 := Lib.hid (show q3 = true by rw [HQ5.out, HM3.out, HPS.out]; rfl)
                                      clear hm1
                                      go_wp2
                                      go_meet
                                      exact ⟨by rw [HQ6.out], by rw [HM3.out]; exact HP8.out⟩
                                  · have g1 := beq_no h1
                                    have HM3 := Lib.hid (show p2 = p5 by rw [HM2.out, if_neg (fun h => h1 h.1), ← HPS.out])
                                    have HQ6 := Lib.hid (show q3 = false by rw [HQ5.out, HM3.out, HPS.out]; exact g1)
                                    clear h1
                                    go_wp2
                                    go_meet
                                    exact ⟨by rw [HQ6.out], by rw [HM3.out]; exact HP8.out⟩
          case rest =>
            obtain ⟨rfl, hp⟩ := hcut
            clear x0 x1 x2 x3 f0 f1 f2 f3 HP1
            have HP1 := Lib.hid hp
            clear hp
            have HF := Lib.hid (show p2.each.length = n ∧ p2.rel = [] by
              rw [HP2.out.1]
              split
              · exact ⟨by rw [HP0.out]; simp [planA], by rw [HP0.out]; rfl⟩
              · have := planC_facts ks key mode
                rw [HL.out] at this
                exact ⟨this.1, this.2.1⟩)
            obtain ⟨p3, hp3⟩ : ∃ p3, p3 = releaseS ks p2 := ⟨_, rfl⟩
            have HP3 := Lib.hid (HP2.out.2.trans hp3.symm)
            have HC := Lib.hid (show p3 = if q3 = true then p2 else { p2 with rel := p2.rel ++ relTo p2.each ks ks.length } by rw [hp3, releaseS, HQ3.out])
            clear hp3 HP2 HQ3
            obtain ⟨es, tk, st, rl⟩ := p2
            go_upto_if 175 with fail
            go_cut [] (fun wx => ∃ vR, Pn 32 w0 wx P vE vR p3)
            case first =>
              as_aux_lemma =>
              cases q3
              rotate_left
              · go_wp2
                go_meet
                exact ⟨_, by rw [HC.out]; exact HP1.out⟩
              · have HC1 := Lib.hid (show p3 = { each := es, take := tk, start := st, rel := rl ++ relTo es ks n } by rw [HC.out, if_neg (by simp)]; show PlanS.mk _ _ _ _ = _; rw [HL.out])
                obtain ⟨vR, hvR⟩ : ∃ vR, vR = Value.slice none 0 0 := ⟨_, rfl⟩
                rw [← hvR] at HP1
                clear hvR
                have HR := Lib.hid (show rl = [] from HF.out.2)
                go_wp2_with fail
                go_loopw [178] (fun i wr => ∃ k : Nat, k ≤ n ∧ i = .int .i64 k ∧ ∃ vR', Pn 32 w0 wr P vE vR' ⟨es, tk, st, rl ++ relTo es ks k⟩) (fun i _ => n - (intOf i).toNat)
                case atStart => exact ⟨0, Nat.zero_le _, rfl, vR, by simpa [relTo] using HP1.out⟩
                case round =>
                  obtain ⟨k, hk, rfl, vS, hp⟩ := hrel
                  by_cases hlt3 : k < n
                  · as_aux_lemma =>
                    obtain ⟨b, off, rfl, hbB, e0, e1⟩ := HZ.out.2 k hlt3
                    replace e0 := (hp.below.cell (p := ⟨b, off + k * 2, none⟩) hbB).trans e0
                    replace e1 := (hp.below.cell (p := ⟨b, off + k * 2 + 1, none⟩) hbB).trans e1
                    obtain ⟨s, t, hst⟩ : ∃ s t, ks.getD k kid0 = (s, t) := ⟨_, _, rfl⟩
                    rw [hst] at e0 e1
                    simp only [k0, k1] at e0 e1
                    have i1 : (0 : Int) ≤ (k : Int) := by omega
                    have i2 : (k : Int) < (n : Int) := by omega
                    have hpa := hp.alloc (.cells #[.string s, .int .i64 t] 41)
                    obtain ⟨x0, x1, x2, x3⟩ := hpa.cells
                    obtain ⟨f0, f1, f2, f3⟩ := hpa.free
                    obtain ⟨g, cE, hv, y0, y1⟩ := hpa.eachAt k (by have := HF.out.1; simp only at this ⊢; omega)
                    have hv' : vE = .slice (some ⟨g, 0, none⟩) n cE := by rw [hv]; have := HF.out.1; exact congrArg (fun m => Value.slice (some ⟨g, 0, none⟩) m cE) this
                    rw [hv'] at x0
                    obtain ⟨x, hx⟩ : ∃ x, x = es.getD k 0 := ⟨_, rfl⟩
                    replace y0 : (wr.alloc (.cells #[.string s, .int .i64 t] 41)).cell? ⟨g, k, none⟩ = some (.int .i64 x) := by rw [hx]; exact y0
                    have HS := Lib.hid (relTo_succ es ks k)
                    have HK := Lib.hid (show relB es ks k = (x == 2 || (x == 0 && t == 4)) by rw [relB, hst, hx])
                    have HL := Lib.hid (show (rl ++ relTo es ks k).length ≤ n by have := relTo_len es ks k; rw [HR.out]; simp; omega)
                    have HPa := Lib.hid hpa
                    have HP := Lib.hid hp
                    clear hst hv hv' hx hpa hp
                    by_cases h2 : x = 2
                    · subst h2
                      have HK1 := Lib.hid (show relB es ks k = true by rw [HK.out]; rfl)
                      clear y1
                      obtain ⟨l, hl⟩ : ∃ l, l = rl ++ relTo es ks k := ⟨_, rfl⟩
                      rw [← hl] at HPa HP HL
                      have HE := Lib.hid hl
                      clear hl
                      have hll := HL.out
                      have HPb := Lib.hid (HPa.out.alloc (.cells #[.int .i64 (k : Int)] 3))
                      go_wp2_with (first
                        | (at_builtin; refine wpList_append_lies _ rfl _ _ _ rfl w0.heap.size 3 tr _ 1 8 Try.underlying28 hi hz0 hz1 hz2 rfl (by decide) _ l.length (nums l) rfl HPb.out.r _ 1 1 [.int .i64 (k : Int)] rfl rfl (World.news_of_block (blk_new2 _ _ _ _)) (by intro u hu; simp at hu; subst hu; rfl) (by omega) (by unfold maxLen; omega) (by omega) HPb.out.below.size _ rfl ?_; intro g2 cap2 w2 hown2 hg2 hat2 hlt2; have hbl := HPb.out.blk.grown hg2 (fun e => HPb.out.neR e.symm); have z3 := hbl.cell 3; have z4 := hbl.frozen 3; have HN := Lib.hid (HPb.out.push hown2 hg2 hat2); clear hbl hown2 hg2 hat2 hlt2))
                      go_roundw
                      case rel => exact ⟨k + 1, by omega, by go_num, _, by rw [HS.out, if_pos HK1.out, ← List.append_assoc, ← HE.out]; exact HN.out⟩
                      case measure => simp [intOf]; omega
                    · have g2 := beq_no h2
                      by_cases h0 : x = 0
                      · subst h0
                        by_cases h4 : t = 4
                        · subst h4
                          have HK1 := Lib.hid (show relB es ks k = true by rw [HK.out]; rfl)
                          clear y1
                          obtain ⟨l, hl⟩ : ∃ l, l = rl ++ relTo es ks k := ⟨_, rfl⟩
                          rw [← hl] at HPa HP HL
                          have HE := Lib.hid hl
                          clear hl
                          have hll := HL.out
                          have HPb := Lib.hid (HPa.out.alloc (.cells #[.int .i64 (k : Int)] 3))
                          go_wp2_with (first
                            | (at_builtin; refine wpList_append_lies _ rfl _ _ _ rfl w0.heap.size 3 tr _ 1 8 Try.underlying28 hi hz0 hz1 hz2 rfl (by decide) _ l.length (nums l) rfl HPb.out.r _ 1 1 [.int .i64 (k : Int)] rfl rfl (World.news_of_block (blk_new2 _ _ _ _)) (by intro u hu; simp at hu; subst hu; rfl) (by omega) (by unfold maxLen; omega) (by omega) HPb.out.below.size _ rfl ?_; intro g2 cap2 w2 hown2 hg2 hat2 hlt2; have hbl := HPb.out.blk.grown hg2 (fun e => HPb.out.neR e.symm); have z3 := hbl.cell 3; have z4 := hbl.frozen 3; have HN := Lib.hid (HPb.out.push hown2 hg2 hat2); clear hbl hown2 hg2 hat2 hlt2))
                          go_roundw
                          case rel => exact ⟨k + 1, by omega, by go_num, _, by rw [HS.out, if_pos HK1.out, ← List.append_assoc, ← HE.out]; exact HN.out⟩
                          case measure => simp [intOf]; omega
                        · have g4 := beq_no h4
                          have HK1 := Lib.hid (show relB es ks k = false by rw [HK.out, g4]; rfl)
                          clear h2 h4
                          go_wp2
                          go_roundw
                          case rel => exact ⟨k + 1, by omega, by go_num, vS, by rw [HS.out, HK1.out]; exact HPa.out⟩
                          case measure => simp [intOf]; omega
                      · have g0 := beq_no h0
                        have HK1 := Lib.hid (show relB es ks k = false by rw [HK.out, g2, g0]; rfl)
                        clear h2 h0
                        go_wp2
                        go_roundw
                        case rel => exact ⟨k + 1, by omega, by go_num, vS, by rw [HS.out, HK1.out]; exact HPa.out⟩
                        case measure => simp [intOf]; omega
                  · obtain rfl : n = k := by omega
                    have HP := Lib.hid hp
                    clear hp
                    go_wp2
                    go_meet
                    exact ⟨vS, by rw [HC1.out]; exact HP.out⟩
            case rest =>
                obtain ⟨vR, hp3⟩ := hcut
                obtain ⟨A1, c1, hv1⟩ := own_form hp3.e
                obtain ⟨A2, c2, hv2⟩ := own_form hp3.r
                subst hv1 hv2
                obtain ⟨x0, x1, x2, x3⟩ := hp3.cells
                obtain ⟨f0, f1, f2, f3⟩ := hp3.free
                have hR3 := Blk.below HR.out hp3.below HR.out.lt
                have r0 : wc.cell? ⟨w.heap.size, 0, none⟩ = some (.slice none 0 0) := hR3.cell 0
                have r1 : wc.cell? ⟨w.heap.size, 1, none⟩ = some (.int .i64 0) := hR3.cell 1
                have r2 : wc.cell? ⟨w.heap.size, 2, none⟩ = some (.int .i64 0) := hR3.cell 2
                have r3 : wc.cell? ⟨w.heap.size, 3, none⟩ = some (.slice none 0 0) := hR3.cell 3
                have s0 := hR3.frozen 0
                have s1 := hR3.frozen 1
                have s2 := hR3.frozen 2
                have s3 := hR3.frozen 3
                have HP4 := Lib.hid hp3
                have HR4 := Lib.hid hR3
                clear hp3 hR3
                go_wp2
                refine bodyPost_ret (v := .agg #[.slice A1 p3.each.length c1, .int .i64 p3.take, .int .i64 p3.start, .slice A2 p3.rel.length c2]) (by simp [results, Try.results11, go_sem, r0, r1, r2, r3]) rfl ?_
                rw [HP3.out]
                have hB := (HB0.out.trans (HP4.out.below.mono HB0.out.size))
                have hs := HR.out.lt
                have gr := fun (a b c d : Nat) (va vb vc vd : Value) => only_set (only_set (only_set (only_set (World.grownBy.refl wc (some w.heap.size)) a va) b vb) c vc) d vd
                exact ⟨A1, c1, A2, c2, rfl, own_base (HP4.out.e.kept (gr _ _ _ _ _ _ _ _) (.inr (own_nil_or HP4.out.e _ hs))) HB0.out.size, own_base (HP4.out.r.kept (gr _ _ _ _ _ _ _ _) (.inr (own_nil_or HP4.out.r _ hs))) HB0.out.size,
                  (((hB.setCell (p := ⟨w.heap.size, _, none⟩) (Nat.le_refl _) _).setCell (p := ⟨w.heap.size, _, none⟩) (Nat.le_refl _) _).setCell (p := ⟨w.heap.size, _, none⟩) (Nat.le_refl _) _).setCell (p := ⟨w.heap.size, _, none⟩) (Nat.le_refl _) _⟩


end Go.Proofs.Ytkiaaaehakjhjaa
