/-
  The walks over slices.IndexFunc, at the two function values that slot hands it; the current kid. (Written by gen_idx.py.)
-/
import Derived.Test.YtkiaaaehakjhjaaSlotFns
namespace Go.Proofs.Ytkiaaaehakjhjaa
open Go.RowKit
attribute [local go_sem ↓] Go.wp_at_zero Go.wp_at_succ

/-- The first that is so; -1: none. -/
def firstAt (p : Kid → Bool) (ks : List Kid) : Int := match ks.findIdx? p with | some i => (i : Int) | none => -1
theorem firstAt_some {p : Kid → Bool} {ks : List Kid} {k : Nat} (hk : k < ks.length) (h : p (ks.getD k kid0) = true) (hb : ∀ j, j < k → p (ks.getD j kid0) = false) : firstAt p ks = k := by
  have : ks.findIdx? p = some k := by
    rw [List.findIdx?_eq_some_iff_getElem]
    refine ⟨hk, by simpa [List.getD, hk] using h, fun j hj => ?_⟩
    have := hb j hj
    simpa [List.getD, show j < ks.length by omega] using this
  rw [firstAt, this]
theorem firstAt_none {p : Kid → Bool} {ks : List Kid} (hb : ∀ j, j < ks.length → p (ks.getD j kid0) = false) : firstAt p ks = -1 := by
  have : ks.findIdx? p = none := by
    rw [List.findIdx?_eq_none_iff]
    intro x hx
    obtain ⟨j, hj, rfl⟩ := List.getElem_of_mem hx
    have := hb j hj
    simpa [List.getD, hj] using this
  rw [firstAt, this]
theorem firstAt_cases (p : Kid → Bool) (ks : List Kid) : (firstAt p ks = -1 ∧ ∀ j, j < ks.length → p (ks.getD j kid0) = false) ∨ ∃ k : Nat, k < ks.length ∧ firstAt p ks = k ∧ p (ks.getD k kid0) = true ∧ ∀ j, j < k → p (ks.getD j kid0) = false := by
  unfold firstAt
  cases h : ks.findIdx? p with
  | none =>
    left
    rw [List.findIdx?_eq_none_iff] at h
    exact ⟨rfl, fun j hj => h _ (by simp [List.getD, hj])⟩
  | some k =>
    right
    rw [List.findIdx?_eq_some_iff_getElem] at h
    obtain ⟨hk, h1, h2⟩ := h
    exact ⟨k, hk, rfl, by simpa [List.getD, hk] using h1, fun j hj => by simpa [List.getD, show j < ks.length by omega] using h2 j hj⟩

/-- The current one. -/
def live (k : Kid) : Bool := !ghostB k.2
def cur (ks : List Kid) : Int := if firstAt live ks < 0 then -2 else firstAt live ks

set_option maxHeartbeats 4000000 in
theorem idxLive_any (A : Option Addr) (n c : Nat) (ks : List Kid) (w : World) (hz : Kids w w.heap.size A n ks) (hm : n ≤ maxLen) :
    Calls Try.prog 26 #[.slice A n c, .func (.func 27) #[] #[]] w fun e w' => e = .returned (.int .i64 (firstAt live ks)) ∧ Below w.heap.size w w' := by
  unfold maxLen at hm
  obtain ⟨r, hr⟩ : ∃ r, r = firstAt live ks := ⟨_, rfl⟩
  rw [← hr]
  have HZ := Lib.hid (And.intro hz hr)
  clear hz hr
  go_enter Try.func26, Try.ntmps26
  go_wp2_with fail
  go_loopw [8] (fun i wr => ∃ k : Nat, k ≤ n ∧ i = .int .i64 k ∧ Hid (∀ j, j < k → live (ks.getD j kid0) = false) ∧ Below w.heap.size w wr) (fun i _ => n - (intOf i).toNat)
  case atStart => exact ⟨0, Nat.zero_le _, rfl, fun j hj => by omega, Below.refl _ _⟩
  case round =>
    obtain ⟨k, hk, rfl, hH, hb⟩ := hrel
    by_cases hlt : k < n
    · obtain ⟨b, off, rfl, hbB, e0, e1⟩ := HZ.out.1.2 k hlt
      replace e0 := (hb.cell (p := ⟨b, off + k * 2, none⟩) hbB).trans e0
      replace e1 := (hb.cell (p := ⟨b, off + k * 2 + 1, none⟩) hbB).trans e1
      obtain ⟨s, t, hst⟩ : ∃ s t, ks.getD k kid0 = (s, t) := ⟨_, _, rfl⟩
      rw [hst] at e0 e1
      simp only [k0, k1] at e0 e1
      have i1 : (0 : Int) ≤ (k : Int) := by omega
      have i2 : (k : Int) < (n : Int) := by omega
      have HB := Lib.hid hb
      have HS := Lib.hid hst
      clear hb hst
      go_wp2_with fail
      refine (live_any _ _ _).mono ?_
      rintro e w1 ⟨rfl, hb1⟩
      have HB1 := Lib.hid (HB.out.trans (hb1.mono HB.out.size))
      clear hb1
      obtain ⟨q, hq⟩ : ∃ q, q = (!ghostB t) := ⟨_, rfl⟩
      rw [← hq]
      have HQ := Lib.hid (show live (ks.getD k kid0) = q by rw [HS.out, hq]; rfl)
      clear hq
      cases q
      · go_wp2
        go_roundw
        case rel => exact ⟨k + 1, by omega, by go_num, fun j hj => by
          by_cases h : j = k
          · rw [h]; exact HQ.out
          · exact hH.out j (by omega), HB1.out⟩
        case measure => simp [intOf]; omega
      · have HR := Lib.hid (show r = (k : Int) by rw [HZ.out.2]; exact firstAt_some (by have := HZ.out.1.1; omega) HQ.out hH.out)
        go_wp2
        go_ret
        exact ⟨by rw [HR.out]; rfl, HB1.out⟩
    · have HR := Lib.hid (show r = -1 by rw [HZ.out.2]; exact firstAt_none (fun j hj => hH.out j (by have := HZ.out.1.1; omega)))
      have HB := Lib.hid hb
      clear hb
      go_wp2
      go_ret
      exact ⟨by rw [HR.out]; rfl, HB.out⟩

/-- A ghost of a key. -/
def same (key : ByteArray) (k : Kid) : Bool := ghostB k.2 && (k.1.toList == key.toList)

set_option maxHeartbeats 4000000 in
theorem idxSame_any (A : Option Addr) (n c : Nat) (ks : List Kid) (bk : Nat) (key : ByteArray) (w : World) (hz : Kids w w.heap.size A n ks) (hm : n ≤ maxLen) (hbk : bk < w.heap.size) (hck : w.cell? ⟨bk, 0, none⟩ = some (.string key)) :
    Calls Try.prog 26 #[.slice A n c, .func (.func 28) #[] #[.pointer (some ⟨bk, 0, none⟩)]] w fun e w' => e = .returned (.int .i64 (firstAt (same key) ks)) ∧ Below w.heap.size w w' := by
  unfold maxLen at hm
  obtain ⟨r, hr⟩ : ∃ r, r = firstAt (same key) ks := ⟨_, rfl⟩
  rw [← hr]
  have HZ := Lib.hid (And.intro hz hr)
  clear hz hr
  go_enter Try.func26, Try.ntmps26
  go_wp2_with fail
  go_loopw [8] (fun i wr => ∃ k : Nat, k ≤ n ∧ i = .int .i64 k ∧ Hid (∀ j, j < k → (same key) (ks.getD j kid0) = false) ∧ Below w.heap.size w wr) (fun i _ => n - (intOf i).toNat)
  case atStart => exact ⟨0, Nat.zero_le _, rfl, fun j hj => by omega, Below.refl _ _⟩
  case round =>
    obtain ⟨k, hk, rfl, hH, hb⟩ := hrel
    by_cases hlt : k < n
    · obtain ⟨b, off, rfl, hbB, e0, e1⟩ := HZ.out.1.2 k hlt
      replace e0 := (hb.cell (p := ⟨b, off + k * 2, none⟩) hbB).trans e0
      replace e1 := (hb.cell (p := ⟨b, off + k * 2 + 1, none⟩) hbB).trans e1
      obtain ⟨s, t, hst⟩ : ∃ s t, ks.getD k kid0 = (s, t) := ⟨_, _, rfl⟩
      rw [hst] at e0 e1
      simp only [k0, k1] at e0 e1
      have i1 : (0 : Int) ≤ (k : Int) := by omega
      have i2 : (k : Int) < (n : Int) := by omega
      have hcw := (hb.cell (p := ⟨bk, 0, none⟩) hbk).trans hck
      have hbw := Nat.lt_of_lt_of_le hbk hb.size
      have HB := Lib.hid hb
      have HS := Lib.hid hst
      clear hb hst
      go_wp2_with fail
      refine (same_any _ _ _ key _ hbw hcw).mono ?_
      rintro e w1 ⟨rfl, hb1⟩
      have HB1 := Lib.hid (HB.out.trans (hb1.mono HB.out.size))
      clear hb1
      obtain ⟨q, hq⟩ : ∃ q, q = (ghostB t && (s.toList == key.toList)) := ⟨_, rfl⟩
      rw [← hq]
      have HQ := Lib.hid (show (same key) (ks.getD k kid0) = q by rw [HS.out, hq]; rfl)
      clear hq
      cases q
      · go_wp2
        go_roundw
        case rel => exact ⟨k + 1, by omega, by go_num, fun j hj => by
          by_cases h : j = k
          · rw [h]; exact HQ.out
          · exact hH.out j (by omega), HB1.out⟩
        case measure => simp [intOf]; omega
      · have HR := Lib.hid (show r = (k : Int) by rw [HZ.out.2]; exact firstAt_some (by have := HZ.out.1.1; omega) HQ.out hH.out)
        go_wp2
        go_ret
        exact ⟨by rw [HR.out]; rfl, HB1.out⟩
    · have HR := Lib.hid (show r = -1 by rw [HZ.out.2]; exact firstAt_none (fun j hj => hH.out j (by have := HZ.out.1.1; omega)))
      have HB := Lib.hid hb
      clear hb
      go_wp2
      go_ret
      exact ⟨by rw [HR.out]; rfl, HB.out⟩

set_option maxHeartbeats 1000000 in
theorem cur_any (A : Option Addr) (n c : Nat) (ks : List Kid) (w : World) (hz : Kids w w.heap.size A n ks) (hm : n ≤ maxLen) :
    Calls Try.prog 18 #[.slice A n c] w fun e w' => e = .returned (.int .i64 (cur ks)) ∧ Below w.heap.size w w' := by
  unfold cur
  obtain ⟨r, hr⟩ : ∃ r, r = firstAt live ks := ⟨_, rfl⟩
  rw [← hr]
  have HZ := Lib.hid (And.intro hz (And.intro hm hr))
  clear hz hr hm
  by_cases h0 : r < 0
  · rw [if_pos h0]
    go_enter Try.func18, Try.ntmps18
    go_wp2_with fail
    refine (idxLive_any A n c ks _ HZ.out.1 HZ.out.2.1).mono ?_
    rintro e w1 ⟨rfl, hb1⟩
    rw [← HZ.out.2.2]
    have HB := Lib.hid hb1
    clear hb1
    go_wp2
    go_ret
    exact ⟨rfl, HB.out⟩
  · rw [if_neg h0]
    have hd : decide (r < 0) = false := by simpa using h0
    clear h0
    go_enter Try.func18, Try.ntmps18
    go_wp2_with fail
    refine (idxLive_any A n c ks _ HZ.out.1 HZ.out.2.1).mono ?_
    rintro e w1 ⟨rfl, hb1⟩
    rw [← HZ.out.2.2]
    have HB := Lib.hid hb1
    clear hb1
    go_wp2
    go_ret
    exact ⟨rfl, HB.out⟩

set_option maxHeartbeats 4000000 in
theorem rcur_any (A : Option Addr) (n c : Nat) (ks : List Kid) (w : World) (hz : Kids w w.heap.size A n ks) (hm : n ≤ maxLen) :
    Calls Try.prog 15 #[.slice A n c] w fun e w' => e = .returned (.int .i64 (cur ks)) ∧ Below w.heap.size w w' := by
  unfold maxLen at hm
  obtain ⟨r, hr⟩ : ∃ r, r = cur ks := ⟨_, rfl⟩
  rw [← hr]
  have HZ := Lib.hid (And.intro hz hr)
  clear hz hr
  go_enter Try.func15, Try.ntmps15
  go_wp2_with fail
  go_loopw [7] (fun i wr => ∃ k : Nat, k ≤ n ∧ i = .int .i64 k ∧ Hid (∀ j, j < k → live (ks.getD j kid0) = false) ∧ Below w.heap.size w wr) (fun i _ => n - (intOf i).toNat)
  case atStart => exact ⟨0, Nat.zero_le _, rfl, fun j hj => by omega, Below.refl _ _⟩
  case round =>
    obtain ⟨k, hk, rfl, hH, hb⟩ := hrel
    by_cases hlt : k < n
    · obtain ⟨b, off, rfl, hbB, e0, e1⟩ := HZ.out.1.2 k hlt
      replace e0 := (hb.cell (p := ⟨b, off + k * 2, none⟩) hbB).trans e0
      replace e1 := (hb.cell (p := ⟨b, off + k * 2 + 1, none⟩) hbB).trans e1
      obtain ⟨s, t, hst⟩ : ∃ s t, ks.getD k kid0 = (s, t) := ⟨_, _, rfl⟩
      rw [hst] at e0 e1
      simp only [k0, k1] at e0 e1
      have i1 : (0 : Int) ≤ (k : Int) := by omega
      have i2 : (k : Int) < (n : Int) := by omega
      have HB := Lib.hid (hb.alloc hb.size (.cells #[.string s, .int .i64 t] 41))
      have HS := Lib.hid hst
      clear hb hst
      go_wp2_with fail
      refine (rghost_any _ _ _).mono ?_
      rintro e w1 ⟨rfl, hb1⟩
      have HB1 := Lib.hid (HB.out.trans (hb1.mono HB.out.size))
      clear hb1
      obtain ⟨q, hq⟩ : ∃ q, q = ghostB t := ⟨_, rfl⟩
      rw [← hq]
      have HQ := Lib.hid (show live (ks.getD k kid0) = !q by rw [HS.out, hq]; rfl)
      clear hq
      cases q
      · have HR := Lib.hid (show r = (k : Int) by
          have h := firstAt_some (p := live) (ks := ks) (by have := HZ.out.1.1; omega) HQ.out hH.out
          rw [HZ.out.2, cur, h, if_neg (by omega)])
        go_wp2
        go_ret
        exact ⟨by rw [HR.out]; rfl, HB1.out⟩
      · go_wp2
        go_roundw
        case rel => exact ⟨k + 1, by omega, by go_num, fun j hj => by
          by_cases h : j = k
          · rw [h]; exact HQ.out
          · exact hH.out j (by omega), HB1.out⟩
        case measure => simp [intOf]; omega
    · have HR := Lib.hid (show r = -2 by
        have h := firstAt_none (p := live) (ks := ks) (fun j hj => hH.out j (by have := HZ.out.1.1; omega))
        rw [HZ.out.2, cur, h]; rfl)
      have HB := Lib.hid hb
      clear hb
      go_wp2
      go_ret
      exact ⟨by rw [HR.out]; rfl, HB.out⟩

end Go.Proofs.Ytkiaaaehakjhjaa
