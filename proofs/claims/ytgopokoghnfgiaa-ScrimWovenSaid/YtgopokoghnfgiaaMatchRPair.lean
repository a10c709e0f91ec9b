/-
  The walk over the document's Pair.
-/
import Derived.Test.YtgopokoghnfgiaaMatchEq
import Derived.Test.YtgopokoghnfgiaaMatchPairA
import Derived.Deep.RegionHeld3
import Derived.Deep.AppendLies
import Derived.BigQuiet
namespace Go.Proofs.Ytgopokoghnfgiaa
open Go.RowKit
attribute [local go_sem ↓] Go.wp_at_zero Go.wp_at_succ

theorem beq_cast (a b : Nat) : (((a : Nat) : Int) == ((b : Nat) : Int)) = (a == b) := by
  rw [Bool.eq_iff_iff, beq_iff_eq, beq_iff_eq]
  omega
theorem foundTo_low (ks : List Kid) (outs : List Int) (x : Nm) (m : Nat) : foundTo ks outs x m = -1 ∨ ∃ j : Nat, foundTo ks outs x m = (j : Nat) ∧ j < ks.length := by
  rw [foundTo]
  cases h : (List.range' m (ks.length - m)).filter fun j => decide (nm ks j = x) && !(outs.contains (j : Int)) with
  | nil => exact .inl rfl
  | cons a r =>
    have ha : a ∈ (List.range' m (ks.length - m)).filter fun j => decide (nm ks j = x) && !(outs.contains (j : Int)) := by rw [h]; simp
    have := List.mem_range'_1.1 (List.mem_filter.1 ha).1
    exact .inr ⟨a, rfl, by omega⟩
/-- Is it had already? -/
def hadTo (l : List Int) (p r : Nat) : Bool := (l.take r).contains (p : Int)
theorem hadTo_zero (l : List Int) (p : Nat) : hadTo l p 0 = false := rfl
theorem hadTo_succ (l : List Int) (p r : Nat) (h : r < l.length) : hadTo l p (r + 1) = (hadTo l p r || ((p : Int) == l.getD r 0)) := by
  rw [hadTo, take_snoc l 0 r h, hadTo, List.contains_eq_any_beq, List.contains_eq_any_beq, List.any_append]
  simp only [List.any_cons, List.any_nil, Bool.or_false]
theorem hadTo_end (l : List Int) (p r : Nat) (h : l.length ≤ r) : hadTo l p r = l.contains (p : Int) := by
  rw [hadTo, List.take_of_length_le h]

set_option maxRecDepth 100000 in
set_option maxHeartbeats 16000000 in
theorem rpair_any (A B : Option Addr) (n c n' c' : Nat) (ks ls : List Kid) (w : World) (hz : Kids w w.heap.size A n ks) (hz' : Kids w w.heap.size B n' ls) (hn : n ≤ 100) (hn' : n' ≤ 100) (hc : n ≤ c) (hc' : n' ≤ c') :
    Calls Try.prog 13 #[.slice A n c, .slice B n' c'] w (PairPost w n' (pairS ks ls)) := by
  obtain ⟨tr, hi, hz0, hz1, hz2⟩ := info_parts int_info
  have HZ := Lib.hid (And.intro hz (And.intro hz' (And.intro hc hc')))
  clear hz hz' hc hc'
  go_enter Try.func13, Try.ntmps13
  go_upto_region 3 with fail
  have h0 : (w.alloc (.cells #[] 3)).ownsRow w.heap.size 3 1 (.slice (some ⟨w.heap.size, 0, none⟩) 0 0) 0 [] := World.ownsRow_made w #[] 0 (Nat.le_refl _) (Nat.zero_le _) rfl
  obtain ⟨v0, hv0⟩ : ∃ v0, v0 = Value.slice (some ⟨w.heap.size, 0, none⟩) 0 0 := ⟨_, rfl⟩
  rw [← hv0] at h0 ⊢
  have H0 := Lib.hid (And.intro h0 ((Below.refl w.heap.size w).alloc (Nat.le_refl _) (.cells #[] 3)))
  clear h0 hv0
  go_loopw [5, 16] (fun vo i wx => ∃ k : Nat, k ≤ n' ∧ i = .int .i64 k ∧ wx.ownsRow w.heap.size 3 1 vo k (nums (pairTo ks ls k)) ∧ Below w.heap.size w wx) (fun _ i _ => n' - (intOf i).toNat)
  case atStart => exact ⟨0, Nat.zero_le _, rfl, H0.out.1, H0.out.2⟩
  case round =>
    obtain ⟨k, hk, rfl, hown, hb⟩ := hrel
    obtain ⟨A1, c1, hv⟩ := own_form hown
    subst hv
    by_cases hlt : k < n'
    · obtain ⟨b, off, rfl, hbB, e0, e1⟩ := HZ.out.2.1.2 k hlt
      replace e0 := (hb.cell (p := ⟨b, off + k * 2, none⟩) hbB).trans e0
      replace e1 := (hb.cell (p := ⟨b, off + k * 2 + 1, none⟩) hbB).trans e1
      obtain ⟨⟨s, t⟩, hst⟩ : ∃ p, p = ls.getD k kid0 := ⟨_, rfl⟩
      have HST := Lib.hid hst
      rw [← hst] at e0 e1
      simp only [k0, k1] at e0 e1
      have i1 : (0 : Int) ≤ (k : Int) := by omega
      have i2 : (k : Int) < (n' : Int) := by omega
      obtain ⟨outs, houts⟩ : ∃ o, o = pairTo ks ls k := ⟨_, rfl⟩
      have hol : outs.length = k := by rw [houts]; exact pairTo_len ks ls k
      have HOU := Lib.hid houts
      rw [← houts] at hown
      have HO := Lib.hid (And.intro (hown.alloc (.cells #[.int .i64 t, .string s] 29)) (And.intro (hb.alloc hb.size (.cells #[.int .i64 t, .string s] 29)) hol))
      have HBX := Lib.hid (Blk.new wr 29 #[.int .i64 t, .string s])
      clear hst hown hb houts hol H0
      go_upto_region 5 with fail
      obtain ⟨wo, hwo⟩ : ∃ wo, wo = wr.alloc (.cells #[.int .i64 t, .string s] 29) := ⟨_, rfl⟩
      obtain ⟨X, hX⟩ : ∃ X, X = wr.heap.size := ⟨_, rfl⟩
      rw [← hwo] at HO HBX ⊢
      rw [← hX] at HBX ⊢
      clear hwo hX e0 e1
      go_wp2_with fail
      go_loopw [8, 9] (fun f j wx => ∃ m : Nat, m ≤ n ∧ j = .int .i64 ((m : Int) - 1) ∧ f = .int .i64 (foundTo ks outs (nm ls k) m) ∧ Below wo.heap.size wo wx) (fun _ j _ => (intOf j + 1).toNat)
      case atStart => exact ⟨n, Nat.le_refl _, by go_num, by rw [← HZ.out.1.1, foundTo_end], Below.refl _ _⟩
      case round =>
        obtain ⟨m, hm, rfl, rfl, hb⟩ := hrel
        obtain ⟨f, hf⟩ : ∃ f, f = foundTo ks outs (nm ls k) m := ⟨_, rfl⟩
        rw [← hf]
        have HF := Lib.hid hf
        clear hf
        cases m with
        | zero =>
          rw [show (((0 : Nat) : Int) - 1) = -1 from rfl]
          have HO2 := Lib.hid (And.intro (own_keep HO.out.1 hb) (HO.out.2.1.trans (hb.mono HO.out.2.1.size)))
          have HPT := Lib.hid (show pairTo ks ls (k + 1) = outs ++ [f] by rw [HF.out, foundTo_zero, HOU.out]; rfl)
          clear hb
          go_wp2_with (first
            | (at_builtin; refine wpList_append_lies _ rfl _ _ _ rfl w.heap.size 3 tr _ 1 8 Try.underlying30 hi hz0 hz1 hz2 rfl (by decide) _ k (nums outs) rfl (HO2.out.1.alloc _) _ 1 1 [.int .i64 f] rfl rfl (World.news_of_block (heap_alloc_new _ _)) (by intro u hu; simp at hu; subst hu; rfl) (by omega) (by unfold maxLen; omega) (by omega) (by have := HO2.out.2.size; simp; omega) _ rfl ?_; intro g2 cap2 w4 hown2 hg2 hat2 hlt2; have HW := Lib.hid (And.intro hown2 ((HO2.out.2.alloc HO2.out.2.size _).grown hg2 (HO2.out.2.alloc HO2.out.2.size _).size (fun j hj => (HO2.out.1.lt j hj).1))); clear hown2 hg2 hat2 hlt2))
          go_roundw
          case rel => exact ⟨k + 1, by omega, by go_num, by rw [HPT.out, nums_snoc]; exact HW.out.1, HW.out.2⟩
          case measure => simp [intOf]; omega
        | succ p =>
          rw [show (((p + 1 : Nat) : Int) - 1) = (p : Int) by omega]
          obtain ⟨b2, off2, rfl, hbB2, d0, d1⟩ := HZ.out.1.2 p (by omega)
          have hbw := HO.out.2.1.trans (hb.mono HO.out.2.1.size)
          replace d0 := (hbw.cell (p := ⟨b2, off2 + p * 2, none⟩) hbB2).trans d0
          replace d1 := (hbw.cell (p := ⟨b2, off2 + p * 2 + 1, none⟩) hbB2).trans d1
          obtain ⟨⟨s', t'⟩, hst'⟩ : ∃ z, z = ks.getD p kid0 := ⟨_, rfl⟩
          have HST' := Lib.hid hst'
          rw [← hst'] at d0 d1
          simp only [k0, k1] at d0 d1
          have j1 : (0 : Int) ≤ (p : Int) := by omega
          have j2 : (p : Int) < (n : Int) := by omega
          have hX := HBX.out.below hb HBX.out.lt
          have y0 : wr.cell? ⟨X, 0, none⟩ = some (.int .i64 t) := hX.cell 0
          have y1 : wr.cell? ⟨X, 1, none⟩ = some (.string s) := hX.cell 1
          have HB := Lib.hid hb
          have HBW := Lib.hid hbw
          clear hb hbw hX hst'
          go_upto_region 9 with fail
          obtain ⟨q, hq⟩ : ∃ q, q = decide (nm ks p = nm ls k) := ⟨_, rfl⟩
          have HQ := Lib.hid (show q = (eqK s' s t' t && (!(s.toList.isEmpty) || aheadN ks p == aheadN ls k)) by rw [hq, nm_eq, ← HST.out, ← HST'.out]; rfl)
          have HQ2 := Lib.hid hq
          clear hq
          obtain ⟨wo2, hwo2⟩ : ∃ wo2 : World, wo2 = wr := ⟨_, rfl⟩
          rw [← hwo2] at HB HBW d0 d1 y0 y1 ⊢
          clear hwo2
          go_cut [10] (fun s wx => s = .bool q ∧ Below wo2.heap.size wo2 wx)
          case first =>
            by_cases h1 : t' = t
            · by_cases h2 : s'.toList = s.toList
              · have h3 := toList_inj h2
                subst h1 h3
                cases hs : s'.toList.isEmpty
                · have HQ3 := Lib.hid (show q = true by rw [HQ.out, hs]; simp [eqK])
                  have hs2 : ¬ s'.toList = [] := by simpa using hs
                  clear h2
                  go_quiet (fail)
                  go_wp2
                  go_meet
                  exact ⟨by rw [HQ3.out], below_drewN (Below.refl _ _) _⟩
                · have HQ3 := Lib.hid (show q = (aheadN ks p == aheadN ls k) by rw [HQ.out, hs]; simp [eqK])
                  have hs2 : s'.toList = [] := by simpa using hs
                  have HD0 := Lib.hid ((Below.refl wo2.heap.size wo2).drew)
                  clear h2
                  go_region_held3 (fun w' => w'.cell? ⟨b2, off2 + p * 2, none⟩ = some (.int .i64 t') ∧ w'.cell? ⟨b2, off2 + p * 2 + 1, none⟩ = some (.string s') ∧ w'.cell? ⟨X, 0, none⟩ = some (.int .i64 t') ∧ w'.cell? ⟨X, 1, none⟩ = some (.string s')) (first | exact ⟨d0, d1, y0, y1⟩ | exact HKHD2.out | exact HKHD1.out)
                    (first
                      | (go_at_call 37; refine (ahead_any _ n' c' ls k _ ((HZ.out.2.1.below (HBW.out.trans (HD1.out.mono HBW.out.size))).more (Nat.le_trans HBW.out.size HD1.out.size)) (by omega) HZ.out.2.2.2 (by omega)).mono ?_; rintro e w5 ⟨rfl, hb5⟩; have HD2 := Lib.hid (HD1.out.trans (hb5.mono HD1.out.size)); have HKHD2 := Lib.hid (And.intro ((HD2.out.cell (p := ⟨_, _, none⟩) (World.block_lt_of_cell? _ _ d0)).trans d0) (And.intro ((HD2.out.cell (p := ⟨_, _, none⟩) (World.block_lt_of_cell? _ _ d1)).trans d1) (And.intro ((HD2.out.cell (p := ⟨_, _, none⟩) (World.block_lt_of_cell? _ _ y0)).trans y0) ((HD2.out.cell (p := ⟨_, _, none⟩) (World.block_lt_of_cell? _ _ y1)).trans y1)))); clear hb5)
                      | (go_at_call 37; refine (ahead_any _ n c ks p _ ((HZ.out.1.below (HBW.out.trans (HD0.out.mono HBW.out.size))).more (Nat.le_trans HBW.out.size HD0.out.size)) (by omega) HZ.out.2.2.1 (by omega)).mono ?_; rintro e w5 ⟨rfl, hb5⟩; have HD1 := Lib.hid (HD0.out.trans (hb5.mono HD0.out.size)); have HKHD1 := Lib.hid (And.intro ((HD1.out.cell (p := ⟨_, _, none⟩) (World.block_lt_of_cell? _ _ d0)).trans d0) (And.intro ((HD1.out.cell (p := ⟨_, _, none⟩) (World.block_lt_of_cell? _ _ d1)).trans d1) (And.intro ((HD1.out.cell (p := ⟨_, _, none⟩) (World.block_lt_of_cell? _ _ y0)).trans y0) ((HD1.out.cell (p := ⟨_, _, none⟩) (World.block_lt_of_cell? _ _ y1)).trans y1)))); clear hb5))
                  all_goals (
                    go_wp2_with fail
                    go_meet
                    exact ⟨by rw [HQ3.out, beq_cast], HD2.out⟩)
              · have HQ3 := Lib.hid (show q = false by rw [HQ.out]; simp [eqK]; exact fun e => absurd (by rw [e]) h2)
                subst h1
                go_quiet (fail)
                go_wp2
                go_meet
                exact ⟨by rw [HQ3.out], below_drewN (Below.refl _ _) _⟩
            · have HQ3 := Lib.hid (show q = false by rw [HQ.out]; simp [eqK, h1])
              go_quiet (fail)
              go_wp2
              go_meet
              exact ⟨by rw [HQ3.out], below_drewN (Below.refl _ _) _⟩
          case rest =>
            obtain ⟨rfl, hb2⟩ := hcut
            have hB3 := HB.out.trans (hb2.mono HB.out.size)
            have hN := Nums.of_own (own_keep HO.out.1 hB3) HO.out.2.2
            have HB3 := Lib.hid (And.intro hB3 hN)
            clear hb2 hB3 hN d0 d1 y0 y1
            obtain ⟨wq, hwq⟩ : ∃ wq : World, wq = wc := ⟨_, rfl⟩
            rw [← hwq] at HB3 ⊢
            clear hwq
            go_wp2_with fail
            go_loopw [10, 50] (fun sm i wx => ∃ r : Nat, r ≤ k ∧ i = .int .i64 r ∧ sm = .bool (q && !(hadTo outs p r)) ∧ wx = wq) (fun _ i _ => k - (intOf i).toNat)
            case atStart => exact ⟨0, Nat.zero_le _, rfl, by rw [hadTo_zero]; simp, rfl⟩
            case round =>
              obtain ⟨r, hr, rfl, rfl, hw⟩ := hrel
              subst hw
              obtain ⟨z, hz⟩ : ∃ z, z = (q && !(hadTo outs p r)) := ⟨_, rfl⟩
              rw [← hz]
              by_cases hlr : r < k
              · obtain ⟨b3, off3, rfl, _, d0⟩ := HB3.out.2.2 r hlr
                obtain ⟨y, hy⟩ : ∃ y, y = outs.getD r 0 := ⟨_, rfl⟩
                rw [← hy] at d0
                have r1 : (0 : Int) ≤ (r : Int) := by omega
                have r2 : (r : Int) < (k : Int) := by omega
                have HZ1 := Lib.hid (show (q && !(hadTo outs p (r + 1))) = (z && !((p : Int) == y)) by rw [hadTo_succ outs p r (by have := HO.out.2.2; omega), hz, ← hy]; cases q <;> simp)
                clear hy hz
                cases z
                · have HZ2 := Lib.hid (show (q && !(hadTo outs p (r + 1))) = false by rw [HZ1.out]; rfl)
                  go_wp2
                  go_roundw
                  case rel => exact ⟨r + 1, by omega, by go_num, by rw [HZ2.out], trivial⟩
                  case measure => simp [intOf]; omega
                · have HZ2 := Lib.hid (show (q && !(hadTo outs p (r + 1))) = (y != (p : Int)) by rw [HZ1.out]; simp [bne, BEq.comm])
                  go_wp2
                  go_roundw
                  case rel => exact ⟨r + 1, by omega, by go_num, by rw [HZ2.out], trivial⟩
                  case measure => simp [intOf]; omega
              · obtain rfl : r = k := by omega
                have HFS := Lib.hid (show foundTo ks outs (nm ls r) p = if z = true then (p : Int) else f by rw [foundTo_step ks outs (nm ls r) p (by have := HZ.out.1.1; omega), hz, HQ2.out, HF.out, hadTo_end outs p r (by have := HO.out.2.2; omega)])
                clear hz
                cases z
                · have HFS2 := Lib.hid (show foundTo ks outs (nm ls r) p = f by rw [HFS.out]; rfl)
                  go_wp2
                  go_roundw
                  case rel => exact ⟨p, by omega, by go_num, by rw [HFS2.out], HB3.out.1⟩
                  case measure => first | (simp [intOf]; done) | (simp [intOf]; omega)
                · have HFS2 := Lib.hid (show foundTo ks outs (nm ls r) p = (p : Int) by rw [HFS.out]; rfl)
                  go_wp2
                  go_roundw
                  case rel => exact ⟨p, by omega, by go_num, by rw [HFS2.out], HB3.out.1⟩
                  case measure => first | (simp [intOf]; done) | (simp [intOf]; omega)
    · obtain rfl : k = n' := by omega
      have HO := Lib.hid (And.intro hown hb)
      have HE := Lib.hid (show pairTo ks ls k = pairS ks ls by rw [pairS, HZ.out.2.1.1])
      clear hown hb
      go_wp2
      go_ret
      exact ⟨A1, c1, rfl, by rw [← HE.out]; exact HO.out.1, HO.out.2⟩

end Go.Proofs.Ytgopokoghnfgiaa
