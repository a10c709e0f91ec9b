/-
  The walks over Of, Set, Drop of layer 4.
-/
import Derived.Test.YtjedjplpbgnpmaaTurnH
import Derived.Test.YtjedjplpbgnpmaaTurnC
import Derived.Laws.StructEq
namespace Go.Proofs.Ytjedjplpbgnpmaa
open Go.RowKit
attribute [local go_sem ↓] Go.wp_at_zero Go.wp_at_succ

def ofTo (l : List Pr) : Nat → List Pr
  | 0 => []
  | k + 1 => putS (ofTo l k) (l.getD k pr0)
def ofS (l : List Pr) : List Pr := ofTo l l.length
theorem ofTo_len (l : List Pr) (k : Nat) : (ofTo l k).length ≤ k := by
  induction k with
  | zero => exact Nat.le_refl _
  | succ k ih => have := putS_len (l.getD k pr0) (ofTo l k); rw [ofTo]; omega
theorem ofTo_rise (l : List Pr) (k : Nat) : Rise (ofTo l k) := by
  induction k with
  | zero => exact List.Pairwise.nil
  | succ k ih => exact putS_rise _ _ ih
theorem ofS_rise (l : List Pr) : Rise (ofS l) := ofTo_rise l _
theorem ofS_len (l : List Pr) : (ofS l).length ≤ l.length := ofTo_len l _
/-- What hands back a row of pairs leaves. -/
def PrPost (w : World) (l : List Pr) (e : Ending) (w' : World) : Prop :=
  ∃ A c, e = .returned (.slice A l.length c) ∧ w'.ownsRow w.heap.size 34 2 (.slice A l.length c) l.length (l.flatMap cvP) ∧ Below w.heap.size w w'

set_option maxRecDepth 100000 in
set_option maxHeartbeats 8000000 in
theorem of_any (A : Option Addr) (n c : Nat) (l : List Pr) (w : World) (hz : Ps w w.heap.size A n l) (hn : n ≤ 500) :
    Calls Try.prog 6 #[.slice A n c] w (PrPost w (ofS l)) := by
  have HZ := Lib.hid hz
  clear hz
  go_enter Try.func6, Try.ntmps6
  go_wp2_with fail
  go_loopw [3, 8] (fun vo i wx => ∃ k : Nat, k ≤ n ∧ i = .int .i64 k ∧ wx.ownsRow w.heap.size 34 2 vo (ofTo l k).length ((ofTo l k).flatMap cvP) ∧ Below w.heap.size w wx) (fun _ i _ => n - (intOf i).toNat)
  case atStart => exact ⟨0, Nat.zero_le _, rfl, World.ownsRow_nil _ _ _ _, Below.refl _ _⟩
  case round =>
    obtain ⟨k, hk, rfl, hown, hb⟩ := hrel
    obtain ⟨vo, hvo⟩ : ∃ vo, vo = u3 := ⟨_, rfl⟩
    rw [← hvo] at hown ⊢
    clear hvo
    by_cases hlt : k < n
    · obtain ⟨b, off, rfl, hbB, d0, d1⟩ := HZ.out.pr k hlt
      replace d0 := (hb.cell (p := ⟨b, off + k * 2, none⟩) hbB).trans d0
      replace d1 := (hb.cell (p := ⟨b, off + k * 2 + 1, none⟩) hbB).trans d1
      have HC := Lib.hid (show ofTo l (k + 1) = putS (ofTo l k) (l.getD k pr0) from rfl)
      have hol := ofTo_len l k
      have HRI := Lib.hid (ofTo_rise l k)
      obtain ⟨⟨s, x⟩, hs⟩ : ∃ s, s = l.getD k pr0 := ⟨_, rfl⟩
      obtain ⟨o, ho⟩ : ∃ o, o = ofTo l k := ⟨_, rfl⟩
      rw [← hs] at d0 d1 HC
      rw [← ho] at hown HC hol HRI
      simp only at d0 d1
      have i1 : (0 : Int) ≤ (k : Int) := by omega
      have i2 : (k : Int) < (n : Int) := by omega
      have HO := Lib.hid (And.intro (hown.alloc (.cells #[.string s, .int .i64 x] 34)) (hb.alloc hb.size (.cells #[.string s, .int .i64 x] 34)))
      have HOL := Lib.hid (fun j hj => (hown.lt j hj).1)
      have hX := Blk.new wr 34 #[.string s, .int .i64 x]
      have y0 := hX.cell 0
      have y1 := hX.cell 1
      clear hs ho hown hb hX
      go_wp2_with fail
      refine (put_any vo _ o.length o s x _ HO.out.1 HO.out.2.size rfl (by omega) HRI.out).mono ?_
      rintro e w4 ⟨A2, c2, rfl, hown2, hg2⟩
      have HX := Lib.hid (And.intro hown2 (HO.out.2.grown hg2 HO.out.2.size HOL.out))
      clear hown2 hg2
      go_wp2_with fail
      go_roundw
      case rel => exact ⟨k + 1, by omega, by go_num, by rw [HC.out]; exact HX.out.1, HX.out.2⟩
      case measure => simp [intOf]; omega
    · obtain rfl : k = n := by omega
      obtain ⟨A5, c5, hv⟩ := own_form hown
      subst hv
      have HE := Lib.hid (show ofS l = ofTo l k by rw [ofS, HZ.out.1])
      have HO := Lib.hid (And.intro hown hb)
      clear hown hb
      go_wp2
      go_ret
      rw [HE.out]
      exact ⟨A5, c5, rfl, HO.out.1, HO.out.2⟩

set_option maxHeartbeats 4000000 in
theorem set_any (A : Option Addr) (n c : Nat) (l : List Pr) (s : ByteArray) (x : Int) (w : World) (hz : Ps w w.heap.size A n l) (hn : n ≤ 500) :
    Calls Try.prog 24 #[.slice A n c, .string s, .int .i64 x] w (PrPost w (putS (ofS l) (s, x))) := by
  have HZ := Lib.hid hz
  clear hz
  go_enter Try.func24, Try.ntmps24
  go_wp2_with fail
  refine (of_any A n c l _ HZ.out hn).mono ?_
  rintro e w1 ⟨A1, c1, rfl, hown, hb⟩
  have HO := Lib.hid (And.intro hown hb)
  have hl := ofS_len l
  rw [HZ.out.1] at hl
  have HRI := Lib.hid (ofS_rise l)
  obtain ⟨o, ho⟩ : ∃ o, o = ofS l := ⟨_, rfl⟩
  rw [← ho] at HO hl HRI ⊢
  have HOE := Lib.hid ho
  clear ho hown hb
  go_wp2_with fail
  refine (put_any _ _ o.length o s x _ HO.out.1 HO.out.2.size rfl (by omega) HRI.out).mono ?_
  rintro e w4 ⟨A2, c2, rfl, hown2, hg2⟩
  have HX := Lib.hid (And.intro hown2 (HO.out.2.grown hg2 HO.out.2.size (fun j hj => (HO.out.1.lt j hj).1)))
  clear hown2 hg2
  go_wp2
  go_ret
  rw [← HOE.out]
  exact ⟨A2, c2, rfl, HX.out.1, HX.out.2⟩

/-! ### Without a name -/
set_option maxHeartbeats 4000000 in
theorem dropfP_any (t s : ByteArray) (v : Int) (p : Nat) (w : World) (hc : w.cell? ⟨p, 0, none⟩ = some (.string s)) :
    Calls Try.prog 35 #[.agg #[.string t, .int .i64 v], .pointer (some ⟨p, 0, none⟩)] w fun e w' => e = .returned (.bool (isS t s)) ∧ Below w.heap.size w w' := by
  have HB := Lib.hid ((Below.refl w.heap.size w).alloc (Nat.le_refl _) (.cells #[.string t, .int .i64 v] 34))
  have hX := Blk.new w 34 #[.string t, .int .i64 v]
  have y0 := hX.cell 0
  have hpl := World.block_lt_of_cell? _ _ hc
  have hc2 := (HB.out.cell (p := ⟨p, 0, none⟩) hpl).trans hc
  clear hX hpl
  by_cases h : t.toList = s.toList
  · have h2 := toList_inj h
    have HE := Lib.hid (show isS t s = true by simp [isS, h2])
    subst h2
    clear h
    go_enter Try.func35, Try.ntmps35
    go_wp2
    go_ret
    exact ⟨by rw [HE.out]; first | rfl | simp, HB.out⟩
  · have h2 : (t.toList == s.toList) = false := by simpa using h
    have HE := Lib.hid (show isS t s = false by simpa [isS] using fun e => h (by rw [e]))
    clear h
    go_enter Try.func35, Try.ntmps35
    go_wp2
    go_ret
    exact ⟨by rw [HE.out]; first | rfl | simp, HB.out⟩

def IsIxP (l : List Pr) (s : ByteArray) (r : Int) : Prop := (r = -1 ∧ ∀ j, j < l.length → (l.getD j pr0).1 ≠ s) ∨ ∃ k : Nat, r = k ∧ k < l.length ∧ (l.getD k pr0).1 = s ∧ ∀ j, j < k → (l.getD j pr0).1 ≠ s
set_option maxRecDepth 100000 in
set_option maxHeartbeats 8000000 in
theorem indexfP_any (A : Option Addr) (n c B : Nat) (l : List Pr) (s : ByteArray) (p : Nat) (w : World) (hz : Ps w B A n l) (hB : B ≤ w.heap.size) (hn : n ≤ 1000) (hc : w.cell? ⟨p, 0, none⟩ = some (.string s)) :
    Calls Try.prog 44 #[.slice A n c, .func (.func 35) #[] #[.pointer (some ⟨p, 0, none⟩)]] w fun e w' => ∃ r : Int, e = .returned (.int .i64 r) ∧ IsIxP l s r ∧ Below w.heap.size w w' := by
  have HZ := Lib.hid (And.intro hz hB)
  have HC := Lib.hid hc
  have HCL := Lib.hid (World.block_lt_of_cell? _ _ hc)
  clear hz hc hB
  go_enter Try.func44, Try.ntmps44
  go_wp2_with fail
  go_loopw [8] (fun i wx => ∃ k : Nat, k ≤ n ∧ i = .int .i64 k ∧ Below w.heap.size w wx ∧ Hid (∀ j, j < k → (l.getD j pr0).1 ≠ s)) (fun i _ => n - (intOf i).toNat)
  case atStart => exact ⟨0, Nat.zero_le _, rfl, Below.refl _ _, fun j hj => by omega⟩
  case round =>
    obtain ⟨k, hk, rfl, hb, hH⟩ := hrel
    have HB := Lib.hid hb
    by_cases hlt : k < n
    · obtain ⟨b, off, rfl, hbB, d0, d1⟩ := HZ.out.1.pr k hlt
      replace d0 := (hb.cell (p := ⟨b, off + k * 2, none⟩) (by have := HZ.out.2; simp only; omega)).trans d0
      replace d1 := (hb.cell (p := ⟨b, off + k * 2 + 1, none⟩) (by have := HZ.out.2; simp only; omega)).trans d1
      have HCP := Lib.hid ((hb.cell (p := ⟨p, 0, none⟩) HCL.out).trans HC.out)
      obtain ⟨⟨t, v⟩, ht⟩ : ∃ t, t = l.getD k pr0 := ⟨_, rfl⟩
      rw [← ht] at d0 d1
      simp only at d0 d1
      have HT := Lib.hid ht
      have i1 : (0 : Int) ≤ (k : Int) := by omega
      have i2 : (k : Int) < (n : Int) := by omega
      clear ht hb
      by_cases hq : isS t s = true
      · have HM := Lib.hid (show IsIxP l s k from .inr ⟨k, rfl, by have := HZ.out.1.1; omega, by rw [← HT.out]; simpa [isS] using hq, hH.out⟩)
        go_wp2_with (go_at_call 35; refine (dropfP_any t s v p _ HCP.out).mono ?_; rintro e w1 ⟨rfl, hb5⟩; have HB5 := Lib.hid (HB.out.trans (hb5.mono HB.out.size)); clear hb5; rw [hq])
        go_ret
        exact ⟨k, by first | rfl | simp, HM.out, HB5.out⟩
      · have hq2 := Bool.eq_false_iff.2 hq
        have HN := Lib.hid (show t ≠ s by simpa [isS] using hq)
        go_wp2_with (go_at_call 35; refine (dropfP_any t s v p _ HCP.out).mono ?_; rintro e w1 ⟨rfl, hb5⟩; have HB5 := Lib.hid (HB.out.trans (hb5.mono HB.out.size)); clear hb5; rw [hq2])
        go_roundw
        case rel => exact ⟨k + 1, by omega, by go_num, HB5.out, fun j hj => by
          by_cases e : j = k
          · rw [e, ← HT.out]; exact HN.out
          · exact hH.out j (by omega)⟩
        case measure => simp [intOf]; omega
    · obtain rfl : k = n := by omega
      have HN := Lib.hid (show IsIxP l s (-1) from .inl ⟨rfl, fun j hj => hH.out j (by have := HZ.out.1.1; omega)⟩)
      clear hb
      go_wp2
      go_ret
      exact ⟨-1, by first | rfl | simp, HN.out, HB.out⟩

end Go.Proofs.Ytjedjplpbgnpmaa
