/-
  The walk over lis.Of, lis.Len (written by gen_lis.py).
-/
import Derived.Test.YtgopokoghnfgiaaWovR
namespace Go.Proofs.Ytgopokoghnfgiaa
open Go.RowKit
attribute [local go_sem ↓] Go.wp_at_zero Go.wp_at_succ

def LisPost (w : World) (l : List Int) (e : Ending) (w' : World) : Prop :=
  ∃ (R : List Nat) (A : Option Addr) (c : Nat), IsLis l R ∧ e = .returned (.slice A R.length c) ∧ w'.ownsRow w.heap.size 3 1 (.slice A R.length c) R.length (nums (ints R)) ∧ Below w.heap.size w w'
theorem ints_set (E : List Nat) (r k : Nat) : ints (E.set r k) = (ints E).set r (k : Int) := by rw [ints, ints, List.map_set]
theorem ints_snoc (E : List Nat) (k : Nat) : ints (E ++ [k]) = ints E ++ [(k : Int)] := by simp [ints]
theorem getI_set2 {E : List Int} {r i : Nat} {k : Int} (h : r < E.length) : (E.set r k).getD i 0 = if i = r then k else E.getD i 0 := getI_set h
theorem rep_nums (n : Nat) : (madeCells (Value.int .i64 0).cells (n * 1)).toList = nums (List.replicate n 0) := by
  rw [Nat.mul_one]
  exact (toList_madeCells_one _ _).trans (by simp [nums])

theorem ne_row {ve : Value} {p n c : Nat} (h : ve.ownBlock = none ∨ ve.ownBlock ≠ some p) : (Value.slice (some ⟨p, 0, none⟩) n c).ownBlock = none ∨ (Value.slice (some ⟨p, 0, none⟩) n c).ownBlock ≠ ve.ownBlock := by
  rcases h with h | h
  · rw [h]; exact .inr (by simp [Value.ownBlock])
  · exact .inr fun e => h e.symm
theorem ne_step {ve : Value} {p g2 hh n c : Nat} (h : ve.ownBlock = none ∨ ve.ownBlock ≠ some p) (hat : ve.ownBlock = some g2 ∨ g2 = hh) (hp : p < hh) : (Value.slice (some ⟨g2, 0, none⟩) n c).ownBlock = none ∨ (Value.slice (some ⟨g2, 0, none⟩) n c).ownBlock ≠ some p := by
  refine .inr fun e => ?_
  have e : g2 = p := Option.some.inj e
  rcases hat with h1 | h1
  · rcases h with h2 | h2
    · rw [h1] at h2; cases h2
    · exact h2 (by rw [h1, e])
  · omega

set_option maxRecDepth 100000 in
set_option maxHeartbeats 16000000 in
theorem lof_any (A : Option Addr) (n c : Nat) (l : List Int) (w : World) (hz : Nums w w.heap.size A n l) (hn : n ≤ 1000) : Calls Try.prog 48 #[.slice A n c] w (LisPost w l) := by
  obtain ⟨tr, hi, hz0, hz1, hz2⟩ := info_parts winfo
  have HZ := Lib.hid hz
  clear hz
  go_enter Try.func48, Try.ntmps48
  go_wp2_with (first
    | (at_make; refine wpList_make_full _ rfl _ _ 30 rfl w.heap.size 3 tr _ 1 Try.underlying30 hi hz0 hz1 _ _ _ _ n rfl rfl rfl rfl (by rw [hz2]; omega) (by unfold maxLen; omega) (by simp) ?_; intro w1 hown hg1; rw [rep_nums, show (w.alloc (Obj.cells #[Value.slice A n c] 30)).heap.size = w.heap.size + 1 by simp] at hown; have hX := (Blk.new w 30 #[Value.slice A n c]).grown hg1 (by simp); have b0 := hX.cell 0; have HB := Lib.hid (And.intro hX (And.intro hown ((Below.refl w.heap.size w).alloc (Nat.le_refl _) (.cells #[Value.slice A n c] 30) |>.trans (below_of_only hg1 (by simp))))); clear hX hown hg1))
  go_loopw [3, 16] (fun ve vi wx => ∃ (k : Nat) (E : List Nat) (H : List Int), k ≤ n ∧ vi = .int .i64 k ∧ H.length = n ∧ E.length ≤ k ∧ Hid (Pat l E H k) ∧ wx.ownsRow w.heap.size 3 1 ve E.length (nums (ints E)) ∧ wx.ownsRow w.heap.size 3 1 (.slice (some ⟨w.heap.size + 1, 0, none⟩) n n) n (nums H) ∧ Hid (ve.ownBlock = none ∨ ve.ownBlock ≠ some (w.heap.size + 1)) ∧ Blk wx w.heap.size 30 #[Value.slice A n c] ∧ Below w.heap.size w wx) (fun _ i _ => n - (intOf i).toNat)
  case atStart => exact ⟨0, [], List.replicate n 0, Nat.zero_le _, rfl, List.length_replicate, Nat.le_refl _, Pat.zero _ _, World.ownsRow_nil _ _ _ _, HB.out.2.1, .inl rfl, HB.out.1, HB.out.2.2⟩
  case round =>
    obtain ⟨k, E, H, hk, rfl, hHl, hEk, hP, hE, hH, hne, hbk, hb⟩ := hrel
    obtain ⟨Ae, ce, hv⟩ := own_form hE
    obtain ⟨ve, hve⟩ : ∃ ve, ve = u3 := ⟨_, rfl⟩
    rw [← hve] at hE hv hne ⊢
    clear hve
    subst hv
    have y0 := hbk.cell 0
    by_cases hlt : k < n
    · obtain ⟨b, off, rfl, hbB, d0⟩ := HZ.out.2 k hlt
      replace d0 := (hb.cell (p := ⟨b, off + k, none⟩) hbB).trans d0
      have hEn : ∀ r, r < E.length → E.getD r 0 < n := fun r hr => by have := (hP.out.at_ r hr).1; omega
      have HC := Lib.hid (And.intro hE (And.intro hH (And.intro hbk (And.intro hb hEn))))
      have HN := Lib.hid (Nums.of_own hE (ints_len E))
      have HNl := Lib.hid (HZ.out.below hb)
      have i1 : (0 : Int) ≤ (k : Int) := by omega
      have i2 : (k : Int) < (n : Int) := by omega
      obtain ⟨x, hx⟩ : ∃ x, x = l.getD k 0 := ⟨_, rfl⟩
      rw [← hx] at d0
      have HXX := Lib.hid hx
      have hEl : E.length ≤ 1000 := by omega
      have HU := Lib.hid (fun i j (h1 : i < j) (h2 : j < E.length) => hP.out.up i j h1 h2)
      clear hx hE hH hbk hb hEn
      go_upto_region 7 with (go_at_call 56; refine (bsearch_any Ae _ E.length ce n c _ _ w.heap.size E l x _ HN.out HNl.out y0 hEl HC.out.2.2.2.2 HU.out).mono ?_; rintro e w2 ⟨r, bb, rfl, hAt, hw2⟩; subst hw2; have HA := Lib.hid hAt; have hrE := hAt.le; clear hAt)
      have z0 : ∃ u, w2.cell? ⟨w.heap.size + 1, k, none⟩ = some u := by
        rw [HC.out.2.1.cellAt k (by omega)]
        exact ⟨_, List.getElem?_eq_getElem (by rw [nums_len]; omega)⟩
      obtain ⟨zz, z0⟩ := z0
      have f0 := HC.out.2.1.frozenAt k
      have hst := HC.out.2.1.stored k (.int .i64 (-1))
      have HS := Lib.hid (And.intro (HC.out.1.kept hst.2 hne.out) (And.intro hst.1 (And.intro (HC.out.2.2.1.grown hst.2 (by simp)) (HC.out.2.2.2.1.grown hst.2 HC.out.2.2.2.1.size (fun j hj => (HC.out.2.1.lt j hj).1)))))
      rw [← nums_set] at HS
      clear hst
      by_cases hr0 : r = 0
      · have HPA := Lib.hid (show (∀ j, j < k → (H.set k (-1)).getD j 0 = H.getD j 0) ∧ (H.set k (-1)).getD k 0 = if r = 0 then -1 else ((E.getD (r - 1) 0 : Nat) : Int) from
          ⟨fun j hj => by rw [getI_set (by omega), if_neg (by omega)], by rw [getI_set (by omega), if_pos rfl, if_pos hr0]⟩)
        have hhl : (H.set k (-1)).length = n := by rw [List.length_set]; exact hHl
        have hr2 : decide ((0 : Int) < (r : Int)) = false := by simp; omega
        have hr4 : decide (0 < r) = false := by simp; omega
        have HR0 := Lib.hid hr0
        clear hr0
        go_upto_region 10 with fail
        clear hr2 hr4
        obtain ⟨wb, hwb⟩ : ∃ wb, wb = w2.setCell ⟨w.heap.size + 1, k, none⟩ (.int .i64 (-1)) := ⟨_, rfl⟩
        rw [← hwb] at HS ⊢
        have HT := Lib.hid HS.out
        clear hwb HS z0 f0 y0 d0 HN HNl
        have y1 := (HT.out.2.2.1).cell 0
        by_cases hrl : r = E.length
        · have HPN := Lib.hid (hP.out.add (by rw [← HXX.out]; exact HA.out) hrl HPA.out.1 HPA.out.2)
          subst hrl
          have hrl2 : ((E.length : Int) == (E.length : Int)) = true := by simp
          go_wp2_with (first
            | (at_builtin; refine wpList_append_lies _ rfl _ _ _ rfl w.heap.size 3 tr _ 1 8 Try.underlying30 hi hz0 hz1 hz2 rfl (by decide) _ E.length (nums (ints E)) rfl (HT.out.1.alloc _) _ 1 1 [.int .i64 k] rfl rfl (World.news_of_block (heap_alloc_new _ _)) (by intro u hu; simp at hu; subst hu; rfl) (by omega) (by unfold maxLen; omega) (by omega) (by have := HT.out.2.2.2.size; simp; omega) _ rfl ?_; intro g2 cap2 w4 hown2 hg2 hat2 hlt2; have HR := Lib.hid (And.intro hown2 (And.intro ((HT.out.2.1.alloc _).kept hg2 (ne_row hne.out)) (And.intro ((HT.out.2.2.1.alloc _).grown hg2 (fun e => own_blk_ne HT.out.1 HT.out.2.2.1 (by decide) e.symm)) (And.intro ((HT.out.2.2.2.alloc HT.out.2.2.2.size _).grown hg2 (HT.out.2.2.2.alloc HT.out.2.2.2.size _).size (fun j hj => (HT.out.1.lt j hj).1)) (ne_step (n := E.length + 1) (c := cap2) hne.out hat2 (by have := (HT.out.2.1.lt (w.heap.size + 1) rfl).2; simp; omega)))))); clear hown2 hg2 hat2 hlt2))
          go_roundw
          case rel => exact ⟨k + 1, E ++ [k], _, by omega, by go_num, hhl, by simp; omega, HPN.out, by rw [ints_snoc, nums_snoc, List.length_append]; exact HR.out.1, HR.out.2.1, HR.out.2.2.2.2, HR.out.2.2.1, HR.out.2.2.2.1⟩
          case measure => simp [intOf]; omega
        · have hrl2 : ((r : Int) == (E.length : Int)) = false := by rw [beq_eq_false_iff_ne]; omega
          have hr1 : r < E.length := by omega
          obtain ⟨be, oe, hAe, hbe, d3⟩ := (Nums.of_own HT.out.1 (ints_len E)).2 r hr1
          rw [ints_at] at d3
          have hqn := HC.out.2.2.2.2 r hr1
          have HV := Lib.hid (show valE l E r = l.getD (E.getD r 0) 0 from rfl)
          obtain ⟨q, hq⟩ : ∃ q, q = E.getD r 0 := ⟨_, rfl⟩
          rw [← hq] at d3 hqn HV
          obtain ⟨b', off', hA', hbB', d4⟩ := (HZ.out.below HT.out.2.2.2).2 q hqn
          injection hA' with hA'
          injection hA' with hA1 hA2
          subst hA1 hA2
          obtain ⟨y, hy⟩ : ∃ y, y = l.getD q 0 := ⟨_, rfl⟩
          rw [← hy] at d4 HV
          first | subst hAe | (injection hAe with hAe; injection hAe with hAe1 hAe2; subst hAe1 hAe2)
          have j1 : (0 : Int) ≤ (r : Int) := by omega
          have j2 : (r : Int) < (E.length : Int) := by omega
          have j3 : (0 : Int) ≤ (q : Int) := by omega
          have j4 : (q : Int) < (n : Int) := by omega
          by_cases hxy : x < y
          · have HPN := Lib.hid (hP.out.put (by rw [← HXX.out]; exact HA.out) hr1 (by rw [← HXX.out, HV.out]; exact hxy) HPA.out.1 HPA.out.2)
            obtain ⟨ge, cape, hve, hge, hgel⟩ := HT.out.1.form (by omega)
            injection hve with hB1 hB2 hB3
            injection hB1 with hB1
            injection hB1 with hB4 hB5
            subst hB4 hB5 hB3
            clear hB2
            rw [Nat.zero_add] at d3
            have f3 := HT.out.1.frozenAt r
            have hst := HT.out.1.stored r (.int .i64 k)
            have HR := Lib.hid (And.intro hst.1 (And.intro (HT.out.2.1.kept hst.2 (ne_row hne.out)) (And.intro (HT.out.2.2.1.grown hst.2 (fun e => own_blk_ne HT.out.1 HT.out.2.2.1 (by decide) e.symm)) (HT.out.2.2.2.grown hst.2 HT.out.2.2.2.size (fun j hj => (HT.out.1.lt j hj).1)))))
            clear hst hq hy
            go_upto_region 12 with fail
            go_region
            go_wp2_with fail
            go_roundw
            case rel =>
              refine ⟨k + 1, E.set r k, _, by omega, by go_num, hhl, by simp; omega, HPN.out, ?_, HR.out.2.1, ?_, HR.out.2.2.1, ?_⟩
              · rw [ints_set, nums_set, List.length_set]; exact HR.out.1
              · exact hne.out
              · first | exact HR.out.2.2.2 | exact HR.out.2.2.2.drew
            case measure => simp [intOf]; omega
          · have HPN := Lib.hid (hP.out.same (by rw [← HXX.out]; exact HA.out) hr1 (by rw [← HXX.out, HV.out]; exact hxy) HPA.out.1 HPA.out.2)
            have hxy2 : y ≤ x := by omega
            have HTB := Lib.hid HT.out.2.2.2
            clear hq hy
            go_upto_region 12 with fail
            go_region
            go_wp2_with fail
            go_roundw
            case rel => exact ⟨k + 1, E, _, by omega, by go_num, hhl, by omega, HPN.out, HT.out.1, HT.out.2.1, hne.out, HT.out.2.2.1, by first | exact HTB.out | exact HTB.out.drew⟩
            case measure => simp [intOf]; omega
      · have hr2 : (0 : Int) < (r : Int) := by omega
        obtain ⟨be, oe, hAe, hbe, d3⟩ := (Nums.of_own HS.out.1 (ints_len E)).2 (r - 1) (by omega)
        rw [ints_at] at d3
        have hrI : (r : Int) - 1 = ((r - 1 : Nat) : Int) := by omega
        obtain ⟨r', hr'⟩ : ∃ r', r' = r - 1 := ⟨_, rfl⟩
        rw [← hr'] at hrI d3
        have HRI := Lib.hid hr'
        have HR0 := Lib.hid hr0
        obtain ⟨q, hq⟩ : ∃ q, q = E.getD r' 0 := ⟨_, rfl⟩
        rw [← hq] at d3
        have HQ := Lib.hid hq
        have j1 : (0 : Int) ≤ (r' : Int) := by omega
        have j2 : (r' : Int) < (E.length : Int) := by omega
        subst hAe
        go_upto_region 9 with fail
        obtain ⟨wb, hwb⟩ : ∃ wb, wb = w2.setCell ⟨w.heap.size + 1, k, none⟩ (.int .i64 (-1)) := ⟨_, rfl⟩
        rw [← hwb] at HS d3 ⊢
        have z1 : wb.cell? ⟨w.heap.size + 1, k, none⟩ = some (.int .i64 (-1)) := by
          rw [HS.out.2.1.cellAt k (by omega), nums_set, List.getElem?_set_self (by rw [nums_len]; omega)]
        have f1 := HS.out.2.1.frozenAt k
        have hst := HS.out.2.1.stored k (.int .i64 (q : Nat))
        have HS2 := Lib.hid (And.intro (HS.out.1.kept hst.2 hne.out) (And.intro hst.1 (And.intro (HS.out.2.2.1.grown hst.2 (by simp)) (HS.out.2.2.2.grown hst.2 HS.out.2.2.2.size (fun j hj => (HS.out.2.1.lt j hj).1)))))
        rw [← nums_set] at HS2
        have HPA := Lib.hid (show (∀ j, j < k → ((H.set k (-1)).set k (q : Int)).getD j 0 = H.getD j 0) ∧ ((H.set k (-1)).set k (q : Int)).getD k 0 = if r = 0 then -1 else ((E.getD (r - 1) 0 : Nat) : Int) from
          ⟨fun j hj => by rw [getI_set (by simp; omega), if_neg (by omega), getI_set (by omega), if_neg (by omega)], by rw [getI_set (by simp; omega), if_pos rfl, if_neg HR0.out, ← HRI.out, HQ.out]⟩)
        have hhl : ((H.set k (-1)).set k (q : Int)).length = n := by rw [List.length_set, List.length_set]; exact hHl
        clear hwb HS z0 f0 y0 d0 HN HNl hst hr' hq hr0
        go_upto_region 10 with fail
        obtain ⟨wd, hwd⟩ : ∃ wd, wd = wb.setCell ⟨w.heap.size + 1, k, none⟩ (.int .i64 (q : Nat)) := ⟨_, rfl⟩
        rw [← hwd] at HS2 ⊢
        have HT := Lib.hid HS2.out
        clear hwd HS2 z1 f1 d3 hrI hr2
        have y1 := (HT.out.2.2.1).cell 0
        by_cases hrl : r = E.length
        · have HPN := Lib.hid (hP.out.add (by rw [← HXX.out]; exact HA.out) hrl HPA.out.1 HPA.out.2)
          subst hrl
          have hrl2 : ((E.length : Int) == (E.length : Int)) = true := by simp
          go_wp2_with (first
            | (at_builtin; refine wpList_append_lies _ rfl _ _ _ rfl w.heap.size 3 tr _ 1 8 Try.underlying30 hi hz0 hz1 hz2 rfl (by decide) _ E.length (nums (ints E)) rfl (HT.out.1.alloc _) _ 1 1 [.int .i64 k] rfl rfl (World.news_of_block (heap_alloc_new _ _)) (by intro u hu; simp at hu; subst hu; rfl) (by omega) (by unfold maxLen; omega) (by omega) (by have := HT.out.2.2.2.size; simp; omega) _ rfl ?_; intro g2 cap2 w4 hown2 hg2 hat2 hlt2; have HR := Lib.hid (And.intro hown2 (And.intro ((HT.out.2.1.alloc _).kept hg2 (ne_row hne.out)) (And.intro ((HT.out.2.2.1.alloc _).grown hg2 (fun e => own_blk_ne HT.out.1 HT.out.2.2.1 (by decide) e.symm)) (And.intro ((HT.out.2.2.2.alloc HT.out.2.2.2.size _).grown hg2 (HT.out.2.2.2.alloc HT.out.2.2.2.size _).size (fun j hj => (HT.out.1.lt j hj).1)) (ne_step (n := E.length + 1) (c := cap2) hne.out hat2 (by have := (HT.out.2.1.lt (w.heap.size + 1) rfl).2; simp; omega)))))); clear hown2 hg2 hat2 hlt2))
          go_roundw
          case rel => exact ⟨k + 1, E ++ [k], _, by omega, by go_num, hhl, by simp; omega, HPN.out, by rw [ints_snoc, nums_snoc, List.length_append]; exact HR.out.1, HR.out.2.1, HR.out.2.2.2.2, HR.out.2.2.1, HR.out.2.2.2.1⟩
          case measure => simp [intOf]; omega
        · have hrl2 : ((r : Int) == (E.length : Int)) = false := by rw [beq_eq_false_iff_ne]; omega
          have hr1 : r < E.length := by omega
          obtain ⟨be, oe, hAe, hbe, d3⟩ := (Nums.of_own HT.out.1 (ints_len E)).2 r hr1
          rw [ints_at] at d3
          have hqn := HC.out.2.2.2.2 r hr1
          have HV := Lib.hid (show valE l E r = l.getD (E.getD r 0) 0 from rfl)
          obtain ⟨q, hq⟩ : ∃ q, q = E.getD r 0 := ⟨_, rfl⟩
          rw [← hq] at d3 hqn HV
          obtain ⟨b', off', hA', hbB', d4⟩ := (HZ.out.below HT.out.2.2.2).2 q hqn
          injection hA' with hA'
          injection hA' with hA1 hA2
          subst hA1 hA2
          obtain ⟨y, hy⟩ : ∃ y, y = l.getD q 0 := ⟨_, rfl⟩
          rw [← hy] at d4 HV
          first | subst hAe | (injection hAe with hAe; injection hAe with hAe1 hAe2; subst hAe1 hAe2)
          have j1 : (0 : Int) ≤ (r : Int) := by omega
          have j2 : (r : Int) < (E.length : Int) := by omega
          have j3 : (0 : Int) ≤ (q : Int) := by omega
          have j4 : (q : Int) < (n : Int) := by omega
          by_cases hxy : x < y
          · have HPN := Lib.hid (hP.out.put (by rw [← HXX.out]; exact HA.out) hr1 (by rw [← HXX.out, HV.out]; exact hxy) HPA.out.1 HPA.out.2)
            obtain ⟨ge, cape, hve, hge, hgel⟩ := HT.out.1.form (by omega)
            injection hve with hB1 hB2 hB3
            injection hB1 with hB1
            injection hB1 with hB4 hB5
            subst hB4 hB5 hB3
            clear hB2
            rw [Nat.zero_add] at d3
            have f3 := HT.out.1.frozenAt r
            have hst := HT.out.1.stored r (.int .i64 k)
            have HR := Lib.hid (And.intro hst.1 (And.intro (HT.out.2.1.kept hst.2 (ne_row hne.out)) (And.intro (HT.out.2.2.1.grown hst.2 (fun e => own_blk_ne HT.out.1 HT.out.2.2.1 (by decide) e.symm)) (HT.out.2.2.2.grown hst.2 HT.out.2.2.2.size (fun j hj => (HT.out.1.lt j hj).1)))))
            clear hst hq hy
            go_upto_region 12 with fail
            go_region
            go_wp2_with fail
            go_roundw
            case rel =>
              refine ⟨k + 1, E.set r k, _, by omega, by go_num, hhl, by simp; omega, HPN.out, ?_, HR.out.2.1, ?_, HR.out.2.2.1, ?_⟩
              · rw [ints_set, nums_set, List.length_set]; exact HR.out.1
              · exact hne.out
              · first | exact HR.out.2.2.2 | exact HR.out.2.2.2.drew
            case measure => simp [intOf]; omega
          · have HPN := Lib.hid (hP.out.same (by rw [← HXX.out]; exact HA.out) hr1 (by rw [← HXX.out, HV.out]; exact hxy) HPA.out.1 HPA.out.2)
            have hxy2 : y ≤ x := by omega
            have HTB := Lib.hid HT.out.2.2.2
            clear hq hy
            go_upto_region 12 with fail
            go_region
            go_wp2_with fail
            go_roundw
            case rel => exact ⟨k + 1, E, _, by omega, by go_num, hhl, by omega, HPN.out, HT.out.1, HT.out.2.1, hne.out, HT.out.2.2.1, by first | exact HTB.out | exact HTB.out.drew⟩
            case measure => simp [intOf]; omega
    · obtain rfl : k = n := by omega
      have hd : decide ((k : Int) < (k : Int)) = false := by simp
      have HP : Hid (Pat l E H l.length) := by rw [HZ.out.1]; exact hP
      clear hP
      by_cases h0 : E.length = 0
      · have HR := Lib.hid (show IsLis l [] from ⟨by rw [HP.out.lenS_eq, h0]; rfl, List.Pairwise.nil, fun _ h => by simp at h⟩)
        have hb' := Lib.hid hb
        have h1 : ((E.length : Int) == 0) = true := by simp [h0]
        have h2 : ((E.length : Nat) == 0) = true := by simp [h0]
        clear hb h0 hE hH hbk
        go_wp2
        go_ret
        exact ⟨[], none, 0, HR.out, rfl, World.ownsRow_nil _ _ _ _, hb'.out⟩
      · have hE0 : 0 < E.length := by omega
        obtain ⟨be, oe, hAe, hbe, d3⟩ := (Nums.of_own hE (ints_len E)).2 (E.length - 1) (by omega)
        rw [ints_at] at d3
        have hrI : (E.length : Int) - 1 = ((E.length - 1 : Nat) : Int) := by omega
        have HST := Lib.hid (Chn.start HP.out h0)
        obtain ⟨r', hr'⟩ : ∃ r', r' = E.length - 1 := ⟨_, rfl⟩
        rw [← hr'] at hrI d3 HST
        have HRI := Lib.hid hr'
        have h1 : ((E.length : Int) == 0) = false := by rw [beq_eq_false_iff_ne]; omega
        have j1 : (0 : Int) ≤ (r' : Int) := by omega
        have j2 : (r' : Int) < (E.length : Int) := by omega
        obtain ⟨q, hq⟩ : ∃ q, q = E.getD r' 0 := ⟨_, rfl⟩
        rw [← hq] at d3 HST
        obtain ⟨m, hm⟩ : ∃ m, m = E.length := ⟨_, rfl⟩
        have HM := Lib.hid hm
        subst hAe
        have HO := Lib.hid (And.intro hH hb)
        clear hH hb hq hr' h0 hm
        go_wp2_with fail
        go_loopw [9, 10] (fun vo va wx => ∃ (O : List Nat) (a : Int), va = .int .i64 a ∧ Hid (Chn l E.length a O) ∧ wx.ownsRow w.heap.size 3 1 vo O.length (nums (ints O)) ∧ wx.ownsRow w.heap.size 3 1 (.slice (some ⟨w.heap.size + 1, 0, none⟩) k k) k (nums H) ∧ Hid (vo.ownBlock = none ∨ vo.ownBlock ≠ some (w.heap.size + 1)) ∧ Below w.heap.size w wx) (fun _ a _ => (intOf a + 1).toNat)
        case atStart => exact ⟨[], (q : Int), rfl, HST.out, World.ownsRow_nil _ _ _ _, HO.out.1, .inl rfl, HO.out.2⟩
        case round =>
          obtain ⟨O, a, rfl, hC, hOw, hH2, hn2, hb2⟩ := hrel
          obtain ⟨Ao, co, hv⟩ := own_form hOw
          obtain ⟨vo, hvo⟩ : ∃ vo, vo = u9 := ⟨_, rfl⟩
          rw [← hvo] at hOw hv hn2 ⊢
          clear hvo
          subst hv
          by_cases ha : a = -1
          · subst ha
            have HF := Lib.hid (hC.out.fin HP.out)
            have HX := Lib.hid (And.intro hOw hb2)
            clear hOw hb2 hH2 hC
            go_wp2_with fail
            have hlo : O.length ≤ 1000 := by
              have h3 := HF.out.len
              have h4 := maxTo_len l l.length
              rw [List.length_reverse] at h3
              rw [lenS] at h3
              have := HZ.out.1
              omega
            refine (reverse_any _ w.heap.size O.length (ints O) _ HX.out.1 (ints_len O) hlo).mono ?_
            rintro e w5 ⟨rfl, hown5, hg5⟩
            have HY := Lib.hid (And.intro hown5 (HX.out.2.grown hg5 HX.out.2.size (fun j hj => (HX.out.1.lt j hj).1)))
            clear hown5 hg5
            go_wp2
            go_ret
            refine ⟨O.reverse, Ao, co, HF.out, by rw [List.length_reverse]; rfl, ?_, HY.out.2⟩
            rw [List.length_reverse, show ints O.reverse = (ints O).reverse by simp [ints]]
            exact HY.out.1
          · obtain ⟨j, rfl⟩ : ∃ j : Nat, a = (j : Int) := by
              rcases hC.out.pos with ⟨h, _⟩ | ⟨j, h, _⟩
              · exact absurd h ha
              · exact ⟨j, h⟩
            obtain ⟨hjl, hjm, hC2⟩ := hC.out.step HP.out
            have hjk : j < k := by have := HZ.out.1; omega
            have HN := Lib.hid hC2
            have hjp := lens_pos l j
            have hlo : O.length ≤ 1000 := by
              have h3 := HP.out.lenS_eq
              have h4 := maxTo_len l l.length
              rw [lenS] at h3
              have := HZ.out.1
              omega
            have j0 : ((j : Int) != -1) = true := by simp
            have j5 : (0 : Int) ≤ (j : Int) := by omega
            have j6 : (j : Int) < (k : Int) := by omega
            have d5 : wr.cell? ⟨w.heap.size + 1, j, none⟩ = some (.int .i64 (H.getD j 0)) := by
              rw [hH2.cellAt j (by omega)]; simp [nums, List.getD, show j < H.length by omega]
            have hme : (H.getD j 0 + 1).toNat < j + 1 := by
              rcases hC2.pos with ⟨h, _⟩ | ⟨i, h, _, _, hO⟩
              · rw [h]; simp
              · have := (hO j (by simp)).1; rw [h]; omega
            obtain ⟨aa, haa⟩ : ∃ aa, aa = H.getD j 0 := ⟨_, rfl⟩
            rw [← haa] at d5 HN hme
            have HX := Lib.hid (And.intro hOw (And.intro hH2 hb2))

            clear hOw hb2 hH2 hC hC2 haa ha
            go_wp2_with (first
              | (at_builtin; refine wpList_append_lies _ rfl _ _ _ rfl w.heap.size 3 tr _ 1 8 Try.underlying30 hi hz0 hz1 hz2 rfl (by decide) (.slice Ao O.length co) O.length (nums (ints O)) rfl (HX.out.1.alloc _) _ 1 1 [.int .i64 j] rfl rfl (World.news_of_block (heap_alloc_new _ _)) (by intro u hu; simp at hu; subst hu; rfl) (by omega) (by unfold maxLen; omega) (by omega) (by have := HX.out.2.2.size; simp; omega) _ rfl ?_; intro g2 cap2 w4 hown2 hg2 hat2 hlt2; have HR := Lib.hid (And.intro hown2 (And.intro ((HX.out.2.1.alloc _).kept hg2 (ne_row hn2.out)) (And.intro ((HX.out.2.2.alloc HX.out.2.2.size _).grown hg2 (HX.out.2.2.alloc HX.out.2.2.size _).size (fun j hj => (HX.out.1.lt j hj).1)) (ne_step (n := O.length + 1) (c := cap2) hn2.out hat2 (by have := (HX.out.2.1.lt (w.heap.size + 1) rfl).2; simp; omega))))); have d7 : w4.cell? ⟨w.heap.size + 1, j, none⟩ = some (.int .i64 aa) := by rw [HR.out.2.1.cellAt j (by omega), ← HX.out.2.1.cellAt j (by omega)]; exact d5
                 clear hown2 hg2 hat2 hlt2 d5))
            go_roundw
            case rel => exact ⟨O ++ [j], aa, rfl, HN.out, by rw [ints_snoc, nums_snoc, List.length_append]; exact HR.out.1, HR.out.2.1, HR.out.2.2.2, HR.out.2.2.1⟩
            case measure => simp only [intOf]; omega

set_option maxHeartbeats 4000000 in
theorem lislen_any (A : Option Addr) (n c : Nat) (l : List Int) (w : World) (hz : Nums w w.heap.size A n l) (hn : n ≤ 1000) : Calls Try.prog 26 #[.slice A n c] w fun e w' => e = .returned (.int .i64 (lenS l : Nat)) ∧ Below w.heap.size w w' := by
  have HZ := Lib.hid hz
  clear hz
  go_enter Try.func26, Try.ntmps26
  go_wp2_with fail
  refine (lof_any A n c l _ HZ.out hn).mono ?_
  rintro e w2 ⟨R, A2, c2, hR, rfl, _, hb⟩
  have HB := Lib.hid (And.intro hR.len hb)
  clear hR hb
  go_wp2
  go_ret
  exact ⟨by rw [HB.out.1]; rfl, HB.out.2⟩

end Go.Proofs.Ytgopokoghnfgiaa
