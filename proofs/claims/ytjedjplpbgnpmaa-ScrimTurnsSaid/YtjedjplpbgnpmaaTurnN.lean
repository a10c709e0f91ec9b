/-
  The walk over Apply of layer 4.
-/
import Derived.Test.YtjedjplpbgnpmaaTurnM
namespace Go.Proofs.Ytjedjplpbgnpmaa
open Go.RowKit
attribute [local go_sem ↓] Go.wp_at_zero Go.wp_at_succ

def stepU (l : List Pr) (s : Pst) : List Pr := if s.1 = true then offP s.2.1 (ofS l) else putS (ofS l) (s.2.1, s.2.2)
def applyUTo (l : List Pr) (steps : List Pst) : Nat → List Pr
  | 0 => ofS l
  | k + 1 => stepU (applyUTo l steps k) (steps.getD k pst0)
def applyU (l : List Pr) (steps : List Pst) : List Pr := applyUTo l steps steps.length
theorem applyUTo_len (l : List Pr) (steps : List Pst) (k : Nat) : (applyUTo l steps k).length ≤ l.length + k := by
  induction k with
  | zero => exact ofS_len l
  | succ k ih =>
    rw [applyUTo, stepU]
    split
    · have h1 := offP_len (steps.getD k pst0).2.1 (ofS (applyUTo l steps k)); have h2 := ofS_len (applyUTo l steps k); omega
    · have h1 := putS_len ((steps.getD k pst0).2.1, (steps.getD k pst0).2.2) (ofS (applyUTo l steps k)); have h2 := ofS_len (applyUTo l steps k); omega

set_option maxRecDepth 100000 in
set_option maxHeartbeats 8000000 in
theorem applyP_any (A B : Option Addr) (n c m c' : Nat) (l : List Pr) (st : List Pst) (w : World) (hz : Ps w w.heap.size A n l) (hz' : Us w w.heap.size B m st) (hn : n ≤ 100) (hm : m ≤ 300) :
    Calls Try.prog 13 #[.slice A n c, .slice B m c'] w (PrPost w (applyU l st)) := by
  have HZ := Lib.hid (And.intro hz hz')
  clear hz hz'
  go_enter Try.func13, Try.ntmps13
  go_wp2_with fail
  refine (of_any A n c l _ HZ.out.1 (by omega)).mono ?_
  rintro e w1 ⟨A1, c1, rfl, hown1, hb1⟩
  have H1 := Lib.hid (And.intro hown1 hb1)
  clear hown1 hb1
  go_wp2_with fail
  go_loopw [0, 11] (fun vo i wx => ∃ k : Nat, k ≤ m ∧ i = .int .i64 k ∧ wx.ownsRow w.heap.size 34 2 vo (applyUTo l st k).length ((applyUTo l st k).flatMap cvP) ∧ Below w.heap.size w wx) (fun _ i _ => m - (intOf i).toNat)
  case atStart => exact ⟨0, Nat.zero_le _, rfl, H1.out.1, H1.out.2⟩
  case round =>
    obtain ⟨k, hk, rfl, hown, hb⟩ := hrel
    obtain ⟨A4, c4, hv4⟩ := own_form hown
    obtain ⟨vo, hvo⟩ : ∃ vo, vo = u0 := ⟨_, rfl⟩
    rw [← hvo] at hown hv4 ⊢
    clear hvo
    subst hv4
    by_cases hlt : k < m
    · obtain ⟨b, off, rfl, hbB, d0, d1, d2⟩ := HZ.out.2.pst k hlt
      replace d0 := (hb.cell (p := ⟨b, off + k * 3, none⟩) hbB).trans d0
      replace d1 := (hb.cell (p := ⟨b, off + k * 3 + 1, none⟩) hbB).trans d1
      replace d2 := (hb.cell (p := ⟨b, off + k * 3 + 2, none⟩) hbB).trans d2
      have HC := Lib.hid (show applyUTo l st (k + 1) = stepU (applyUTo l st k) (st.getD k pst0) from rfl)
      have hol := applyUTo_len l st k
      rw [HZ.out.1.1] at hol
      obtain ⟨⟨d, s, x⟩, hs⟩ : ∃ s, s = st.getD k pst0 := ⟨_, rfl⟩
      obtain ⟨o, ho⟩ : ∃ o, o = applyUTo l st k := ⟨_, rfl⟩
      rw [← hs] at d0 d1 d2 HC
      rw [← ho] at hown HC hol ⊢
      simp only at d0 d1 d2
      have i1 : (0 : Int) ≤ (k : Int) := by omega
      have i2 : (k : Int) < (m : Int) := by omega
      have HO := Lib.hid (And.intro (hown.alloc (.cells #[.bool d, .string s, .int .i64 x] 53)) (hb.alloc hb.size (.cells #[.bool d, .string s, .int .i64 x] 53)))
      have HR := Lib.hid (Rd.of_own (cv := cvP) (d := pr0) (fun _ => rfl) HO.out.1 rfl)
      have hX := Blk.new wr 53 #[.bool d, .string s, .int .i64 x]
      have y0 := hX.cell 0
      have y1 := hX.cell 1
      have y2 := hX.cell 2
      clear hs ho hown hb hX
      cases d
      · have HC2 := Lib.hid (show applyUTo l st (k + 1) = putS (ofS o) (s, x) from by rw [HC.out]; rfl)
        go_wp2_with fail
        refine (set_any A4 o.length c4 o s x _ HR.out (by omega)).mono ?_
        rintro e w4 ⟨A2, c2, rfl, hown2, hb2⟩
        have HX := Lib.hid (And.intro (own_base hown2 HO.out.2.size) (HO.out.2.trans (hb2.mono HO.out.2.size)))
        clear hown2 hb2
        go_wp2_with fail
        go_roundw
        case rel => exact ⟨k + 1, by omega, by go_num, by rw [HC2.out]; exact HX.out.1, HX.out.2⟩
        case measure => simp [intOf]; omega
      · have HC2 := Lib.hid (show applyUTo l st (k + 1) = offP s (ofS o) from by rw [HC.out]; rfl)
        go_wp2_with fail
        refine (dropP_any A4 o.length c4 o s _ HR.out (by omega)).mono ?_
        rintro e w4 ⟨A2, c2, rfl, hown2, hb2⟩
        have HX := Lib.hid (And.intro (own_base hown2 HO.out.2.size) (HO.out.2.trans (hb2.mono HO.out.2.size)))
        clear hown2 hb2
        go_wp2_with fail
        go_roundw
        case rel => exact ⟨k + 1, by omega, by go_num, by rw [HC2.out]; exact HX.out.1, HX.out.2⟩
        case measure => simp [intOf]; omega
    · obtain rfl : k = m := by omega
      have HE := Lib.hid (show applyU l st = applyUTo l st k by rw [applyU, HZ.out.2.1])
      have HO := Lib.hid (And.intro hown hb)
      clear hown hb
      go_wp2
      go_ret
      rw [HE.out]
      exact ⟨A4, c4, rfl, HO.out.1, HO.out.2⟩

/-! ### Few, Own -/
theorem blk_new2 (w : World) (o : Obj) (t : TypeId) (cs : Array Value) : Blk ((w.alloc o).alloc (.cells cs t)) (w.heap.size + 1) t cs := by
  have h := Blk.new (w.alloc o) t cs
  rw [World.size_alloc] at h
  exact h
def fewP (M : Nat) (l : List Pr) : List Pr := (l.take M).map fun p => (cut20 p.1, p.2)
theorem fewP_len (M : Nat) (l : List Pr) : (fewP M l).length = min M l.length := by simp [fewP]
theorem fewP_succ (l : List Pr) (k : Nat) (h : k < l.length) : fewP (k + 1) l = fewP k l ++ [(cut20 (l.getD k pr0).1, (l.getD k pr0).2)] := by
  rw [fewP, take_snoc l pr0 k h, List.map_append]; rfl

set_option maxRecDepth 100000 in
set_option maxHeartbeats 8000000 in
theorem fewP_any (A : Option Addr) (n c M : Nat) (hM : M ≤ 100) (l : List Pr) (w : World) (hz : Ps w w.heap.size A n l) :
    Calls Try.prog 9 #[.slice A n c, .int .i64 (M : Nat)] w fun e w' =>
      ∃ A c, e = .returned (.slice A (fewP M l).length c) ∧ w'.ownsRow w.heap.size 56 2 (.slice A (fewP M l).length c) (fewP M l).length ((fewP M l).flatMap cvP) ∧ Below w.heap.size w w' := by
  obtain ⟨tr, hi, hz0, hz1, hz2⟩ := info_parts rf_info
  have HZ := Lib.hid hz
  clear hz
  go_enter Try.func9, Try.ntmps9
  go_wp2_with fail
  go_loopw [5, 6] (fun vo i wx => ∃ k : Nat, k ≤ n ∧ k ≤ M ∧ i = .int .i64 k ∧ wx.ownsRow w.heap.size 56 2 vo k ((fewP k l).flatMap cvP) ∧ Below w.heap.size w wx) (fun _ i _ => M - (intOf i).toNat)
  case atStart => exact ⟨0, Nat.zero_le _, Nat.zero_le _, rfl, World.ownsRow_nil _ _ _ _, Below.refl _ _⟩
  case round =>
    obtain ⟨k, hk, hkM, rfl, hown, hb⟩ := hrel
    obtain ⟨vo, hvo⟩ : ∃ vo, vo = u5 := ⟨_, rfl⟩
    rw [← hvo] at hown ⊢
    clear hvo
    by_cases hlt : k < n ∧ k < M
    · obtain ⟨h1, h2⟩ := hlt
      obtain ⟨b, off, rfl, hbB, d0, d1⟩ := HZ.out.pr k h1
      have HS := Lib.hid (fewP_succ l k (by have := HZ.out.1; omega))
      obtain ⟨⟨s, x⟩, hs⟩ : ∃ s, s = l.getD k pr0 := ⟨_, rfl⟩
      rw [← hs] at d0 d1 HS
      simp only at d0 d1
      have D01 := Lib.hid (And.intro d0 d1)
      replace d0 := (hb.cell (p := ⟨b, off + k * 2, none⟩) hbB).trans d0
      replace d1 := (hb.cell (p := ⟨b, off + k * 2 + 1, none⟩) hbB).trans d1
      have i1 : (0 : Int) ≤ (k : Int) := by omega
      have i2 : (k : Int) < (n : Int) := by omega
      have i3 : (k : Int) < (M : Nat) := by omega
      have n0 := World.new_ne wr ⟨b, off + k * 2, none⟩ d0
      have n1 := World.new_ne wr ⟨b, off + k * 2 + 1, none⟩ d1
      have HO := Lib.hid (And.intro hown.drew hb.drew)
      clear hs hown hb
      go_upto_region 5 with fail
      go_region_held3 (fun w' => w'.cell? ⟨b, off + k * 2, none⟩ = some (.string s) ∧ w'.cell? ⟨b, off + k * 2 + 1, none⟩ = some (.int .i64 x)) (go_keep)
        (first
          | (go_at_call 19; ((with_reducible refine (cut_any _ _).mono ?_); rintro e w' ⟨rfl, rfl⟩))
          | (refine step_append_lies _ (by rfl) _ _ _ (by rfl) w.heap.size 56 tr _ 2 24 Try.underlying23 hi hz0 hz1 hz2 (by rfl) (by decide) _ k ((fewP k l).flatMap cvP) (by rfl) (by exact HO.out.1.alloc _) _ 1 1 [.string (cut20 s), .int .i64 x] (by rfl) (by rfl) (by exact World.news_of_block (heap_alloc_new _ _)) (by intro u hu; simp at hu; rcases hu with rfl | rfl <;> rfl) (by omega) (by unfold maxLen; omega) (by omega) (by have := HO.out.2.size; simp at this ⊢; omega) _ rfl ?_; intro g2 cap2 w2 hown2 hg2 hat2 hlt2; have HX := Lib.hid (And.intro hown2 ((HO.out.2.alloc HO.out.2.size _).grown hg2 (HO.out.2.alloc HO.out.2.size _).size (fun j hj => (HO.out.1.lt j hj).1))); have s0 := (HX.out.2.cell (p := ⟨b, off + k * 2, none⟩) hbB).trans D01.out.1; have s1 := (HX.out.2.cell (p := ⟨b, off + k * 2 + 1, none⟩) hbB).trans D01.out.2; clear hown2 hg2 hat2 hlt2))
      all_goals (
        go_wp2_with fail
        go_roundw)
      all_goals first
        | (refine ⟨k + 1, by omega, by omega, by go_num, ?_⟩; rw [HS.out, cvP_snoc]; exact ⟨HX.out.1, HX.out.2⟩)
        | (simp [intOf]; omega)
    · have HE := Lib.hid (show fewP k l = fewP M l ∧ (fewP M l).length = k by
        have hl := HZ.out.1
        have e : fewP k l = fewP M l := by
          rw [fewP, fewP]
          by_cases h : k = M
          · rw [h]
          · rw [List.take_of_length_le (by omega), List.take_of_length_le (by omega)]
        exact ⟨e, by rw [← e, fewP_len]; omega⟩)
      rw [HE.out.1] at hown
      obtain ⟨A5, c5, hv⟩ := own_form hown
      subst hv
      have HO := Lib.hid (And.intro hown hb)
      clear hown hb
      by_cases h1 : k < n
      · have i1 : (k : Int) < (n : Int) := by omega
        have i3 : decide ((k : Int) < (M : Nat)) = false := by simp; omega
        have i4 : decide (k < M) = false := by simp; omega
        clear hlt
        go_wp2
        go_ret
        exact ⟨A5, c5, by rw [HE.out.2]; rfl, by rw [HE.out.2]; exact HO.out.1, HO.out.2⟩
      · have i3 : decide ((k : Int) < (n : Int)) = false := by simp; omega
        have i4 : decide (k < n) = false := by simp; omega
        clear hlt
        go_wp2
        go_ret
        exact ⟨A5, c5, by rw [HE.out.2]; rfl, by rw [HE.out.2]; exact HO.out.1, HO.out.2⟩

set_option maxRecDepth 100000 in
set_option maxHeartbeats 8000000 in
theorem own_any (A : Option Addr) (n c : Nat) (l : List Pr) (w : World) (hz : Ps w w.heap.size A n l) (hn : n ≤ 500) :
    Calls Try.prog 8 #[.slice A n c] w (PrPost w l) := by
  obtain ⟨tr, hi, hz0, hz1, hz2⟩ := info_parts pr_info
  have HZ := Lib.hid hz
  clear hz
  go_enter Try.func8, Try.ntmps8
  go_wp2_with fail
  go_loopw [3, 8] (fun vo i wx => ∃ k : Nat, k ≤ n ∧ i = .int .i64 k ∧ wx.ownsRow w.heap.size 34 2 vo k ((l.take k).flatMap cvP) ∧ Below w.heap.size w wx) (fun _ i _ => n - (intOf i).toNat)
  case atStart => exact ⟨0, Nat.zero_le _, rfl, World.ownsRow_nil _ _ _ _, Below.refl _ _⟩
  case round =>
    obtain ⟨k, hk, rfl, hown, hb⟩ := hrel
    obtain ⟨vo, hvo⟩ : ∃ vo, vo = u3 := ⟨_, rfl⟩
    rw [← hvo] at hown ⊢
    clear hvo
    by_cases hlt : k < n
    · obtain ⟨b, off, rfl, hbB, d0, d1⟩ := HZ.out.pr k hlt
      replace d0 := (hb.cell (p := ⟨b, off + k * 2, none⟩) hbB).trans d0
      replace d1 := (hb.cell (p := ⟨b, off + k * 2 + 1, none⟩) hbB).trans d1
      have HS := Lib.hid (take_snoc l pr0 k (by have := HZ.out.1; omega))
      obtain ⟨⟨s, x⟩, hs⟩ : ∃ s, s = l.getD k pr0 := ⟨_, rfl⟩
      rw [← hs] at d0 d1 HS
      simp only at d0 d1
      have i1 : (0 : Int) ≤ (k : Int) := by omega
      have i2 : (k : Int) < (n : Int) := by omega
      have HO := Lib.hid (And.intro (hown.alloc (.cells #[.string s, .int .i64 x] 56)) (hb.alloc hb.size (.cells #[.string s, .int .i64 x] 56)))
      have hX := Blk.new wr 56 #[.string s, .int .i64 x]
      have y0 := hX.cell 0
      have y1 := hX.cell 1
      clear hs hown hb hX
      go_wp2_with (first
        | (at_builtin; refine wpList_append_lies _ rfl _ _ _ rfl w.heap.size 34 tr _ 2 24 Try.underlying31 hi hz0 hz1 hz2 rfl (by decide) _ k ((l.take k).flatMap cvP) rfl (HO.out.1.alloc _) _ 1 1 [.string s, .int .i64 x] rfl rfl (World.news_of_block (by first | exact heap_alloc_new _ _ | exact Blk.new _ _ _ | exact blk_new2 _ _ _ _)) (by intro u hu; simp at hu; rcases hu with rfl | rfl <;> rfl) (by omega) (by unfold maxLen; omega) (by omega) (by have := HO.out.2.size; simp at this ⊢; omega) _ rfl ?_; intro g2 cap2 w4 hown2 hg2 hat2 hlt2; have HX := Lib.hid (And.intro hown2 ((HO.out.2.alloc HO.out.2.size _).grown hg2 (HO.out.2.alloc HO.out.2.size _).size (fun j hj => (HO.out.1.lt j hj).1))); clear hown2 hg2 hat2 hlt2))
      go_roundw
      case rel => exact ⟨k + 1, by omega, by go_num, by rw [HS.out, cvP_snoc]; exact HX.out.1, HX.out.2⟩
      case measure => simp [intOf]; omega
    · obtain rfl : k = n := by omega
      have HE := Lib.hid (show l.take k = l ∧ l.length = k from ⟨List.take_of_length_le (by have := HZ.out.1; omega), HZ.out.1⟩)
      rw [HE.out.1] at hown
      obtain ⟨A5, c5, hv⟩ := own_form hown
      subst hv
      have HO := Lib.hid (And.intro hown hb)
      clear hown hb
      go_wp2
      go_ret
      exact ⟨A5, c5, by rw [HE.out.2]; rfl, by rw [HE.out.2]; exact HO.out.1, HO.out.2⟩

end Go.Proofs.Ytjedjplpbgnpmaa
