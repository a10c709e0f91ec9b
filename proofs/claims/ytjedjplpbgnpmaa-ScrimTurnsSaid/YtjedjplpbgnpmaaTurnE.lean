/-
  The walk over Apply of layer 3.
-/
import Derived.Test.YtjedjplpbgnpmaaTurnD
namespace Go.Proofs.Ytjedjplpbgnpmaa
open Go.RowKit
attribute [local go_sem ↓] Go.wp_at_zero Go.wp_at_succ

noncomputable def stepS (l : List ByteArray) (s : Cst) : List ByteArray := if s.1 = true then offS s.2 l else addS l s.2
noncomputable def applyTo (l : List ByteArray) (steps : List Cst) : Nat → List ByteArray
  | 0 => cleanS l
  | k + 1 => stepS (applyTo l steps k) (steps.getD k cst0)
noncomputable def applyS (l : List ByteArray) (steps : List Cst) : List ByteArray := applyTo l steps steps.length
theorem offS_len (s : ByteArray) (l : List ByteArray) : (offS s l).length ≤ l.length := List.length_filter_le _ _
theorem applyTo_len (l : List ByteArray) (steps : List Cst) (k : Nat) : (applyTo l steps k).length ≤ l.length + k := by
  induction k with
  | zero => exact cleanS_len l
  | succ k ih =>
    rw [applyTo, stepS]
    split
    · have := offS_len (steps.getD k cst0).2 (applyTo l steps k); omega
    · have := addS_len (applyTo l steps k) (steps.getD k cst0).2; omega

set_option maxRecDepth 100000 in
set_option maxHeartbeats 8000000 in
theorem apply_any (A B : Option Addr) (n c m c' : Nat) (l : List ByteArray) (st : List Cst) (w : World) (hz : Ss w w.heap.size A n l) (hz' : Ts w w.heap.size B m st) (hn : n ≤ 100) (hm : m ≤ 300) :
    Calls Try.prog 11 #[.slice A n c, .slice B m c'] w (StrPost w (applyS l st)) := by
  have HZ := Lib.hid (And.intro hz hz')
  clear hz hz'
  go_enter Try.func11, Try.ntmps11
  go_wp2_with fail
  refine (clean_any A n c l _ HZ.out.1 hn).mono ?_
  rintro e w1 ⟨A1, c1, rfl, hown1, hb1⟩
  have H1 := Lib.hid (And.intro hown1 hb1)
  clear hown1 hb1
  go_wp2_with fail
  go_loopw [0, 11] (fun vo i wx => ∃ k : Nat, k ≤ m ∧ i = .int .i64 k ∧ wx.ownsRow w.heap.size 9 1 vo (applyTo l st k).length ((applyTo l st k).flatMap cvS) ∧ Below w.heap.size w wx) (fun _ i _ => m - (intOf i).toNat)
  case atStart => exact ⟨0, Nat.zero_le _, rfl, H1.out.1, H1.out.2⟩
  case round =>
    obtain ⟨k, hk, rfl, hown, hb⟩ := hrel
    obtain ⟨vo, hvo⟩ : ∃ vo, vo = u0 := ⟨_, rfl⟩
    rw [← hvo] at hown ⊢
    clear hvo
    by_cases hlt : k < m
    · obtain ⟨b, off, rfl, hbB, d0, d1⟩ := HZ.out.2.cst k hlt
      replace d0 := (hb.cell (p := ⟨b, off + k * 2, none⟩) hbB).trans d0
      replace d1 := (hb.cell (p := ⟨b, off + k * 2 + 1, none⟩) hbB).trans d1
      have HC := Lib.hid (show applyTo l st (k + 1) = stepS (applyTo l st k) (st.getD k cst0) from rfl)
      have hol := applyTo_len l st k
      rw [HZ.out.1.1] at hol
      obtain ⟨⟨d, s⟩, hs⟩ : ∃ s, s = st.getD k cst0 := ⟨_, rfl⟩
      obtain ⟨o, ho⟩ : ∃ o, o = applyTo l st k := ⟨_, rfl⟩
      rw [← hs] at d0 d1 HC
      rw [← ho] at hown HC hol
      simp only at d0 d1
      have i1 : (0 : Int) ≤ (k : Int) := by omega
      have i2 : (k : Int) < (m : Int) := by omega
      have HO := Lib.hid (And.intro (hown.alloc (.cells #[.bool d, .string s] 49)) (hb.alloc hb.size (.cells #[.bool d, .string s] 49)))
      have hX := Blk.new wr 49 #[.bool d, .string s]
      have y0 := hX.cell 0
      have y1 := hX.cell 1
      clear hs ho hown hb hX
      cases d
      · have HC2 := Lib.hid (show applyTo l st (k + 1) = addS o s from by rw [HC.out]; rfl)
        go_wp2_with fail
        refine (add_any vo _ o.length o s _ HO.out.1 rfl (by omega)).mono ?_
        rintro e w4 ⟨A2, c2, rfl, hown2, hb2⟩
        have HX := Lib.hid (And.intro (own_base hown2 HO.out.2.size) (HO.out.2.trans (hb2.mono HO.out.2.size)))
        clear hown2 hb2
        go_wp2_with fail
        go_roundw
        case rel => exact ⟨k + 1, by omega, by go_num, by rw [HC2.out]; exact HX.out.1, HX.out.2⟩
        case measure => simp [intOf]; omega
      · have HC2 := Lib.hid (show applyTo l st (k + 1) = offS s o from by rw [HC.out]; rfl)
        go_wp2_with fail
        refine (drop_any vo _ o.length o s _ HO.out.1 rfl (by omega)).mono ?_
        rintro e w4 ⟨A2, c2, rfl, hown2, hb2⟩
        have HX := Lib.hid (And.intro (own_base hown2 HO.out.2.size) (HO.out.2.trans (hb2.mono HO.out.2.size)))
        clear hown2 hb2
        go_wp2_with fail
        go_roundw
        case rel => exact ⟨k + 1, by omega, by go_num, by rw [HC2.out]; exact HX.out.1, HX.out.2⟩
        case measure => simp [intOf]; omega
    · obtain rfl : k = m := by omega
      obtain ⟨A5, c5, hv⟩ := own_form hown
      subst hv
      have HE := Lib.hid (show applyS l st = applyTo l st k by rw [applyS, HZ.out.2.1])
      have HO := Lib.hid (And.intro hown hb)
      clear hown hb
      go_wp2
      go_ret
      rw [HE.out]
      exact ⟨A5, c5, rfl, HO.out.1, HO.out.2⟩

end Go.Proofs.Ytjedjplpbgnpmaa
