/-
  Names: the document's (Key, Name, Value, Text, Reserved) and the program's (all, Key, Name).
  Trees in memory: a struct whose last cell is the slice of its kids.
-/
import Derived.Test.YtaalhglooipnaaaGreatL01
import Derived.Laws.Strings
import Derived.Test.YtaalhglooipnaaaGreatL06
namespace Go.Proofs.YtaalhglooipnaaaGreat
open Go.RowKit
attribute [local go_sem ↓] Go.wp_at_zero Go.wp_at_succ

/-- May a byte stand in a name? -/
def plainB (b : UInt8) : Bool := (decide (97 ≤ b.toNat) && decide (b.toNat ≤ 122)) || (decide (48 ≤ b.toNat) && decide (b.toNat ≤ 57)) || decide (b.toNat = 45)

set_option maxRecDepth 100000 in
set_option maxHeartbeats 4000000 in
theorem rplain_any (b : UInt8) (w : World) : Calls Tryz.prog 124 #[.int .u8 (b.toNat : Nat)] w fun e w' => e = .returned (.bool (plainB b)) ∧ w' = w := by
  obtain ⟨n, hn⟩ : ∃ n, n = b.toNat := ⟨_, rfl⟩
  rw [plainB, ← hn]
  clear hn
  by_cases h1 : 97 ≤ n
  · by_cases h2 : n ≤ 122
    · have i1 : (97 : Int) ≤ (n : Int) := by omega
      have i2 : (n : Int) ≤ 122 := by omega
      go_enter Tryz.func124, Tryz.ntmps124
      go_wp2
      go_ret
      exact ⟨by simp [h1, h2], rfl⟩
    · have i1 : (97 : Int) ≤ (n : Int) := by omega
      have i2 : ¬ (n : Int) ≤ 122 := by omega
      have i3 : (48 : Int) ≤ (n : Int) := by omega
      have i4 : ¬ (n : Int) ≤ 57 := by omega
      have i5 : ((n : Int) == 45) = false := by rw [beq_eq_false_iff_ne]; omega
      go_enter Tryz.func124, Tryz.ntmps124
      go_wp2
      go_ret
      exact ⟨by simp [h1, h2]; omega, rfl⟩
  · have i1 : ¬ (97 : Int) ≤ (n : Int) := by omega
    by_cases h3 : 48 ≤ n
    · have i3 : (48 : Int) ≤ (n : Int) := by omega
      by_cases h4 : n ≤ 57
      · have i4 : (n : Int) ≤ 57 := by omega
        go_enter Tryz.func124, Tryz.ntmps124
        go_wp2
        go_ret
        exact ⟨by simp [h1, h3, h4], rfl⟩
      · have i4 : ¬ (n : Int) ≤ 57 := by omega
        have i5 : ((n : Int) == 45) = false := by rw [beq_eq_false_iff_ne]; omega
        go_enter Tryz.func124, Tryz.ntmps124
        go_wp2
        go_ret
        exact ⟨by simp [h1, h3, h4]; omega, rfl⟩
    · have i3 : ¬ (48 : Int) ≤ (n : Int) := by omega
      go_enter Tryz.func124, Tryz.ntmps124
      by_cases h5 : n = 45
      · subst h5
        go_wp2
        go_ret
        exact ⟨by simp, rfl⟩
      · have i5 : ((n : Int) == 45) = false := by rw [beq_eq_false_iff_ne]; omega
        go_wp2
        go_ret
        exact ⟨by simp [h1, h3, h5], rfl⟩

set_option maxRecDepth 100000 in
set_option maxHeartbeats 4000000 in
theorem letter_any (b : UInt8) (w : World) : Calls Tryz.prog 126 #[.int .u8 (b.toNat : Nat)] w fun e w' => e = .returned (.bool (decide (97 ≤ b.toNat) && decide (b.toNat ≤ 122))) ∧ w' = w := by
  obtain ⟨n, hn⟩ : ∃ n, n = b.toNat := ⟨_, rfl⟩
  rw [← hn]
  clear hn
  by_cases h1 : 97 ≤ n
  · have i1 : (97 : Int) ≤ (n : Int) := by omega
    by_cases h2 : n ≤ 122
    · have i2 : (n : Int) ≤ 122 := by omega
      go_enter Tryz.func126, Tryz.ntmps126
      go_wp2
      go_ret
      exact ⟨by simp [h1, h2], rfl⟩
    · have i2 : ¬ (n : Int) ≤ 122 := by omega
      go_enter Tryz.func126, Tryz.ntmps126
      go_wp2
      go_ret
      exact ⟨by simp [h1, h2], rfl⟩
  · have i1 : ¬ (97 : Int) ≤ (n : Int) := by omega
    go_enter Tryz.func126, Tryz.ntmps126
    go_wp2
    go_ret
    exact ⟨by simp [h1], rfl⟩
set_option maxRecDepth 100000 in
set_option maxHeartbeats 4000000 in
theorem digit_any (b : UInt8) (w : World) : Calls Tryz.prog 168 #[.int .u8 (b.toNat : Nat)] w fun e w' => e = .returned (.bool (decide (48 ≤ b.toNat) && decide (b.toNat ≤ 57))) ∧ w' = w := by
  obtain ⟨n, hn⟩ : ∃ n, n = b.toNat := ⟨_, rfl⟩
  rw [← hn]
  clear hn
  by_cases h1 : 48 ≤ n
  · have i1 : (48 : Int) ≤ (n : Int) := by omega
    by_cases h2 : n ≤ 57
    · have i2 : (n : Int) ≤ 57 := by omega
      go_enter Tryz.func168, Tryz.ntmps168
      go_wp2
      go_ret
      exact ⟨by simp [h1, h2], rfl⟩
    · have i2 : ¬ (n : Int) ≤ 57 := by omega
      go_enter Tryz.func168, Tryz.ntmps168
      go_wp2
      go_ret
      exact ⟨by simp [h1, h2], rfl⟩
  · have i1 : ¬ (48 : Int) ≤ (n : Int) := by omega
    go_enter Tryz.func168, Tryz.ntmps168
    go_wp2
    go_ret
    exact ⟨by simp [h1], rfl⟩
set_option maxRecDepth 100000 in
set_option maxHeartbeats 4000000 in
theorem wplain_any (b : UInt8) (w : World) : Calls Tryz.prog 151 #[.int .u8 (b.toNat : Nat)] w fun e w' => e = .returned (.bool (plainB b)) ∧ w' = w := by
  rw [plainB]
  obtain ⟨p, hp⟩ : ∃ p, p = (decide (97 ≤ b.toNat) && decide (b.toNat ≤ 122)) := ⟨_, rfl⟩
  obtain ⟨q, hq⟩ : ∃ q, q = (decide (48 ≤ b.toNat) && decide (b.toNat ≤ 57)) := ⟨_, rfl⟩
  rw [← hp, ← hq]
  have HP := Lib.hid hp.symm
  have HQ := Lib.hid hq.symm
  clear hp hq
  go_enter Tryz.func151, Tryz.ntmps151
  cases p
  · cases q
    · go_wp2_with (first | (go_at_call 126; refine (letter_any b _).mono ?_; rw [HP.out]; rintro e w' ⟨rfl, rfl⟩) | (go_at_call 168; refine (digit_any b _).mono ?_; rw [HQ.out]; rintro e w' ⟨rfl, rfl⟩))
      go_ret
      refine ⟨?_, rfl⟩
      by_cases h5 : b.toNat = 45
      · simp [h5]
      · have i5 : ((b.toNat : Int) == 45) = false := by rw [beq_eq_false_iff_ne]; omega
        simp [h5, i5]
    · go_wp2_with (first | (go_at_call 126; refine (letter_any b _).mono ?_; rw [HP.out]; rintro e w' ⟨rfl, rfl⟩) | (go_at_call 168; refine (digit_any b _).mono ?_; rw [HQ.out]; rintro e w' ⟨rfl, rfl⟩))
      go_ret
      exact ⟨by simp, rfl⟩
  · go_wp2_with (first | (go_at_call 126; refine (letter_any b _).mono ?_; rw [HP.out]; rintro e w' ⟨rfl, rfl⟩) | (go_at_call 168; refine (digit_any b _).mono ?_; rw [HQ.out]; rintro e w' ⟨rfl, rfl⟩))
    go_ret
    exact ⟨by simp, rfl⟩

/-! ### The document's names -/
/-- Whether or not. -/
def AnyB (w : World) (e : Ending) (w' : World) : Prop := ∃ q, e = .returned (.bool q) ∧ w' = w
/-- If it says so it is so. -/
def IfB (p : Prop) (w : World) (e : Ending) (w' : World) : Prop := ∃ q, e = .returned (.bool q) ∧ (q = true → p) ∧ w' = w
def KeyOk (s : ByteArray) : Prop := 0 < s.size ∧ s.size ≤ 16 ∧ ∀ k (h : k < s.size), plainB s[k] = true
def NameOk (s : ByteArray) : Prop := KeyOk s ∧ ∃ h : 0 < s.size, 97 ≤ (s[0]'h).toNat

set_option maxRecDepth 100000 in
set_option maxHeartbeats 4000000 in
theorem rkey_any (s : ByteArray) (hsz : s.size ≤ 1000) (w : World) : Calls Tryz.prog 98 #[.string s] w (IfB (KeyOk s) w) := by
  go_enter Tryz.func98, Tryz.ntmps98
  go_wp2_with fail
  go_loopw [3] (fun i wx => ∃ k : Nat, k ≤ s.size ∧ i = .int .i64 k ∧ wx = w ∧ Hid (∀ j (h : j < s.size), j < k → plainB s[j] = true)) (fun i _ => s.size - (intOf i).toNat)
  case atStart => exact ⟨0, Nat.zero_le _, rfl, rfl, fun j _ h => by omega⟩
  case round =>
    obtain ⟨k, hk, rfl, hw, hH⟩ := hrel
    subst hw
    by_cases hlt : k < s.size
    · have i1 : (0 : Int) ≤ (k : Int) := by omega
      have i2 : (k : Int) < (s.size : Int) := by omega
      cases hq : plainB s[k]
      · go_wp2_with (first | (go_at_call 124; refine (rplain_any _ _).mono ?_; rintro e w' ⟨rfl, rfl⟩))
        go_ret
        exact ⟨false, by first | rfl | simp, fun h => (by cases h), rfl⟩
      · have HQ := Lib.hid hq
        go_wp2_with (first | (go_at_call 124; refine (rplain_any _ _).mono ?_; rintro e w' ⟨rfl, rfl⟩))
        go_roundw
        case rel => exact ⟨k + 1, by omega, by go_num, trivial, fun j hj hjk => by
          by_cases e : j = k
          · subst e; exact HQ.out
          · exact hH.out j hj (by omega)⟩
        case measure => simp [intOf]; omega
    · have e2 : ¬ (k : Int) < (s.size : Int) := by omega
      by_cases h1 : 1 ≤ s.size
      · have i3 : (1 : Int) ≤ (s.size : Int) := by omega
        by_cases h2 : s.size ≤ 16
        · have i4 : (s.size : Int) ≤ 16 := by omega
          go_wp2
          go_ret
          exact ⟨true, by first | rfl | simp, fun _ => ⟨h1, h2, fun j hj => hH.out j hj (by omega)⟩, rfl⟩
        · have i4 : ¬ (s.size : Int) ≤ 16 := by omega
          go_wp2
          go_ret
          exact ⟨false, by first | rfl | simp, fun h => (by cases h), rfl⟩
      · have i3 : ¬ (1 : Int) ≤ (s.size : Int) := by omega
        go_wp2
        go_ret
        exact ⟨false, by first | rfl | simp, fun h => (by cases h), rfl⟩
set_option maxRecDepth 100000 in
set_option maxHeartbeats 4000000 in
theorem rname_any (s : ByteArray) (hsz : s.size ≤ 1000) (w : World) : Calls Tryz.prog 97 #[.string s] w (IfB (NameOk s) w) := by
  go_enter Tryz.func97, Tryz.ntmps97
  go_wp2_with fail
  refine (rkey_any s hsz _).mono ?_
  rintro e w' ⟨q, rfl, hq, rfl⟩
  cases q
  · go_wp2
    go_ret
    exact ⟨false, by first | rfl | (simp; done) | (simp; omega), fun h => (by cases h), rfl⟩
  · have HK := Lib.hid (hq rfl)
    have h0 := HK.out.1
    have i0 : (0 : Int) < (s.size : Int) := by omega
    clear hq
    by_cases h1 : 97 ≤ (s[0]'h0).toNat
    · have i1 : (97 : Int) ≤ ((s[0]'h0).toNat : Int) := by omega
      go_wp2
      go_ret
      exact ⟨true, by first | rfl | (simp; done) | (simp; omega), fun _ => ⟨HK.out, h0, h1⟩, rfl⟩
    · have i1 : ¬ (97 : Int) ≤ ((s[0]'h0).toNat : Int) := by omega
      go_wp2
      go_ret
      exact ⟨false, by first | rfl | (simp; done) | (simp; omega), fun h => (by cases h), rfl⟩
set_option maxRecDepth 100000 in
set_option maxHeartbeats 4000000 in
theorem rvalue_any (s : ByteArray) (hsz : s.size ≤ 1000) (w : World) : Calls Tryz.prog 99 #[.string s] w (AnyB w) := by
  go_enter Tryz.func99, Tryz.ntmps99
  go_wp2_with fail
  go_loopw [3] (fun i wx => ∃ k : Nat, k ≤ s.size ∧ i = .int .i64 k ∧ wx = w ∧ Hid (∀ j (h : j < s.size), j < k → True)) (fun i _ => s.size - (intOf i).toNat)
  case atStart => exact ⟨0, Nat.zero_le _, rfl, rfl, fun j _ h => by omega⟩
  case round =>
    obtain ⟨k, hk, rfl, hw, hH⟩ := hrel
    subst hw
    by_cases hlt : k < s.size
    · have i1 : (0 : Int) ≤ (k : Int) := by omega
      have i2 : (k : Int) < (s.size : Int) := by omega
      by_cases c6 : s[k].toNat < 33
      · have j6 : (s[k].toNat : Int) < 33 := by omega
        go_wp2
        go_ret
        exact ⟨false, by first | rfl | simp, rfl⟩
      · have j6 : ¬ (s[k].toNat : Int) < 33 := by omega
        by_cases c8 : 126 < s[k].toNat
        · have j8 : 126 < (s[k].toNat : Int) := by omega
          go_wp2
          go_ret
          exact ⟨false, by first | rfl | simp, rfl⟩
        · have j8 : ¬ 126 < (s[k].toNat : Int) := by omega
          by_cases c10 : s[k].toNat = 39
          · have j10 : ((s[k].toNat : Int) == 39) = true := by rw [beq_iff_eq]; omega
            go_wp2
            go_ret
            exact ⟨false, by first | rfl | simp, rfl⟩
          · have j10 : ((s[k].toNat : Int) == 39) = false := by rw [beq_eq_false_iff_ne]; omega
            by_cases c12 : s[k].toNat = 40
            · have j12 : ((s[k].toNat : Int) == 40) = true := by rw [beq_iff_eq]; omega
              go_wp2
              go_ret
              exact ⟨false, by first | rfl | simp, rfl⟩
            · have j12 : ((s[k].toNat : Int) == 40) = false := by rw [beq_eq_false_iff_ne]; omega
              by_cases c14 : s[k].toNat = 41
              · have j14 : ((s[k].toNat : Int) == 41) = true := by rw [beq_iff_eq]; omega
                go_wp2
                go_ret
                exact ⟨false, by first | rfl | simp, rfl⟩
              · have j14 : ((s[k].toNat : Int) == 41) = false := by rw [beq_eq_false_iff_ne]; omega
                go_wp2
                go_roundw
                case rel => exact ⟨k + 1, by omega, by go_num, trivial, fun j hj hjk => trivial⟩
                case measure => simp [intOf]; omega
    · have e2 : ¬ (k : Int) < (s.size : Int) := by omega
      by_cases h2 : s.size ≤ 32
      · have i4 : (s.size : Int) ≤ 32 := by omega
        go_wp2
        go_ret
        exact ⟨true, by first | rfl | simp, rfl⟩
      · have i4 : ¬ (s.size : Int) ≤ 32 := by omega
        go_wp2
        go_ret
        exact ⟨false, by first | rfl | simp, rfl⟩
set_option maxRecDepth 100000 in
set_option maxHeartbeats 4000000 in
theorem rtext_any (s : ByteArray) (hsz : s.size ≤ 1000) (w : World) : Calls Tryz.prog 96 #[.string s] w (AnyB w) := by
  go_enter Tryz.func96, Tryz.ntmps96
  go_wp2_with fail
  go_loopw [3] (fun i wx => ∃ k : Nat, k ≤ s.size ∧ i = .int .i64 k ∧ wx = w ∧ Hid (∀ j (h : j < s.size), j < k → True)) (fun i _ => s.size - (intOf i).toNat)
  case atStart => exact ⟨0, Nat.zero_le _, rfl, rfl, fun j _ h => by omega⟩
  case round =>
    obtain ⟨k, hk, rfl, hw, hH⟩ := hrel
    subst hw
    by_cases hlt : k < s.size
    · have i1 : (0 : Int) ≤ (k : Int) := by omega
      have i2 : (k : Int) < (s.size : Int) := by omega
      by_cases c6 : s[k].toNat < 32
      · have j6 : (s[k].toNat : Int) < 32 := by omega
        go_wp2
        go_ret
        exact ⟨false, by first | rfl | simp, rfl⟩
      · have j6 : ¬ (s[k].toNat : Int) < 32 := by omega
        by_cases c8 : 126 < s[k].toNat
        · have j8 : 126 < (s[k].toNat : Int) := by omega
          go_wp2
          go_ret
          exact ⟨false, by first | rfl | simp, rfl⟩
        · have j8 : ¬ 126 < (s[k].toNat : Int) := by omega
          by_cases c10 : s[k].toNat = 39
          · have j10 : ((s[k].toNat : Int) == 39) = true := by rw [beq_iff_eq]; omega
            go_wp2
            go_ret
            exact ⟨false, by first | rfl | simp, rfl⟩
          · have j10 : ((s[k].toNat : Int) == 39) = false := by rw [beq_eq_false_iff_ne]; omega
            go_wp2
            go_roundw
            case rel => exact ⟨k + 1, by omega, by go_num, trivial, fun j hj hjk => trivial⟩
            case measure => simp [intOf]; omega
    · have e2 : ¬ (k : Int) < (s.size : Int) := by omega
      by_cases h2 : s.size ≤ 64
      · have i4 : (s.size : Int) ≤ 64 := by omega
        go_wp2
        go_ret
        exact ⟨true, by first | rfl | simp, rfl⟩
      · have i4 : ¬ (s.size : Int) ≤ 64 := by omega
        go_wp2
        go_ret
        exact ⟨false, by first | rfl | simp, rfl⟩
set_option maxRecDepth 100000 in
set_option maxHeartbeats 4000000 in
theorem rreserved_any (s : ByteArray) (hsz : s.size ≤ 1000) (w : World) : Calls Tryz.prog 61 #[.string s] w (AnyB w) := by
  go_enter Tryz.func61, Tryz.ntmps61
  by_cases h : 2 ≤ s.size
  · have i1 : (2 : Int) ≤ (s.size : Int) := by omega
    go_wp2
    go_ret
    exact ⟨_, rfl, rfl⟩
  · have i1 : ¬ (2 : Int) ≤ (s.size : Int) := by omega
    go_wp2
    go_ret
    exact ⟨_, rfl, rfl⟩

/-! ### The program's names -/
set_option maxRecDepth 100000 in
set_option maxHeartbeats 4000000 in
theorem all_any (s : ByteArray) (hsz : s.size ≤ 1000) (hs : ∀ k (h : k < s.size), plainB s[k] = true) (w : World) : Calls Tryz.prog 150 #[.string s, .func (.func 151) #[] #[]] w fun e w' => e = .returned (.bool true) ∧ w' = w := by
  have HS := Lib.hid hs
  clear hs
  go_enter Tryz.func150, Tryz.ntmps150
  go_wp2_with fail
  go_loopw [8] (fun i wx => ∃ k : Nat, k ≤ s.size ∧ i = .int .i64 k ∧ wx = w) (fun i _ => s.size - (intOf i).toNat)
  case atStart => exact ⟨0, Nat.zero_le _, rfl, rfl⟩
  case round =>
    obtain ⟨k, hk, rfl, hw⟩ := hrel
    subst hw
    by_cases hlt : k < s.size
    · have i1 : (0 : Int) ≤ (k : Int) := by omega
      have i2 : (k : Int) < (s.size : Int) := by omega
      have hq := HS.out k hlt
      go_wp2_with (first | (go_at_call 151; refine (wplain_any _ _).mono ?_; rintro e w' ⟨rfl, rfl⟩))
      go_roundw
      case rel => exact ⟨k + 1, by omega, by go_num, trivial⟩
      case measure => simp [intOf]; omega
    · have e2 : ¬ (k : Int) < (s.size : Int) := by omega
      go_wp2
      go_ret
      exact ⟨by first | rfl | simp, rfl⟩
theorem size_toList {s : ByteArray} (h : 0 < s.size) : s.toList.isEmpty = false := by
  rw [ByteArray.toList_eq]
  obtain ⟨⟨x⟩⟩ := s
  cases x with
  | nil => simp [ByteArray.size] at h
  | cons a l => rfl
set_option maxRecDepth 100000 in
set_option maxHeartbeats 4000000 in
theorem wkey_any (s : ByteArray) (hs : KeyOk s) (w : World) : Calls Tryz.prog 125 #[.string s] w fun e w' => e = .returned (.bool true) ∧ w' = w := by
  have HS := Lib.hid hs
  have h0 := size_toList hs.1
  have h1 : ¬ s.toList = [] := fun e => by rw [e] at h0; cases h0
  have i1 : (s.size : Int) ≤ 16 := by have := hs.2.1; omega
  clear hs
  go_enter Tryz.func125, Tryz.ntmps125
  go_wp2_with (first | (go_at_call 150; refine (all_any _ (by have := HS.out.2.1; omega) HS.out.2.2 _).mono ?_; rintro e w' ⟨rfl, rfl⟩))
  go_ret
  exact ⟨by first | rfl | simp, rfl⟩
set_option maxRecDepth 100000 in
set_option maxHeartbeats 4000000 in
theorem wname_any (s : ByteArray) (hs : NameOk s) (w : World) : Calls Tryz.prog 101 #[.string s] w fun e w' => e = .returned (.bool true) ∧ w' = w := by
  obtain ⟨h0, h1⟩ := hs.2
  have h3 := hs.1.2.2 0 h0
  have h2 : (decide (97 ≤ (s[0]'h0).toNat) && decide ((s[0]'h0).toNat ≤ 122)) = true := by
    simp only [plainB, Bool.or_eq_true, Bool.and_eq_true, decide_eq_true_eq] at h3 ⊢
    omega
  have HS := Lib.hid hs
  have i0 : (0 : Int) < (s.size : Int) := by omega
  clear hs h3
  go_enter Tryz.func101, Tryz.ntmps101
  go_wp2_with (first | (go_at_call 125; refine (wkey_any _ HS.out.1 _).mono ?_; rintro e w' ⟨rfl, rfl⟩) | (go_at_call 126; refine (letter_any _ _).mono ?_; rw [h2]; rintro e w' ⟨rfl, rfl⟩))
  go_ret
  exact ⟨by first | rfl | simp, rfl⟩

end Go.Proofs.YtaalhglooipnaaaGreat
namespace Go.Proofs.YtaalhglooipnaaaGreat
open Go.RowKit

/-- A tree. -/
inductive RT (α : Type) : Type where
  | mk (d : α) (kids : List (RT α)) : RT α
namespace RT
variable {α : Type}
def dat : RT α → α
  | .mk d _ => d
def kids : RT α → List (RT α)
  | .mk _ ks => ks
mutual
def size : RT α → Nat
  | .mk _ ks => 1 + sizes ks
def sizes : List (RT α) → Nat
  | [] => 0
  | t :: ts => size t + sizes ts
end
theorem size_pos : ∀ t : RT α, 0 < t.size
  | .mk _ ks => by rw [size]; omega
theorem sizes_mem : ∀ (ts : List (RT α)) (t : RT α), t ∈ ts → t.size ≤ sizes ts
  | [], t, h => by cases h
  | a :: ts, t, h => by
    rw [sizes]
    rcases List.mem_cons.1 h with rfl | h
    · omega
    · have := sizes_mem ts t h; omega
theorem sizes_len : ∀ ts : List (RT α), ts.length ≤ sizes ts
  | [] => Nat.zero_le _
  | a :: ts => by
    rw [sizes, List.length_cons]
    have := sizes_len ts
    have := size_pos a
    omega
theorem sizes_app : ∀ ts us : List (RT α), sizes (ts ++ us) = sizes ts + sizes us
  | [], us => by rw [sizes, Nat.zero_add]; rfl
  | a :: ts, us => by rw [List.cons_append, sizes, sizes, sizes_app ts us]; omega
theorem sizes_take (ts : List (RT α)) (k : Nat) : sizes (ts.take k) ≤ sizes ts := by
  have := sizes_app (ts.take k) (ts.drop k)
  rw [List.take_append_drop] at this
  omega
theorem size_eq (t : RT α) : t.size = 1 + sizes t.kids := by cases t; rfl
mutual
/-- All data are so. -/
def All (p : α → Prop) : RT α → Prop
  | .mk d ks => p d ∧ Alls p ks
def Alls (p : α → Prop) : List (RT α) → Prop
  | [] => True
  | t :: ts => All p t ∧ Alls p ts
end
theorem All.eq {p : α → Prop} {t : RT α} : All p t ↔ p t.dat ∧ Alls p t.kids := by cases t; rw [All]; rfl
theorem Alls.mem {p : α → Prop} : ∀ {ts : List (RT α)}, Alls p ts → ∀ t ∈ ts, All p t
  | [], _, t, h => by cases h
  | a :: ts, h, t, ht => by
    rw [Alls] at h
    rcases List.mem_cons.1 ht with rfl | ht
    · exact h.1
    · exact Alls.mem h.2 t ht
theorem Alls.at_ {p : α → Prop} {ts : List (RT α)} (h : Alls p ts) (k : Nat) (hk : k < ts.length) : All p ts[k] := h.mem _ (List.getElem_mem hk)
theorem Alls.of {p : α → Prop} : ∀ {ts : List (RT α)}, (∀ t ∈ ts, All p t) → Alls p ts
  | [], _ => by rw [Alls]; trivial
  | a :: ts, h => by rw [Alls]; exact ⟨h a (by simp), Alls.of fun t ht => h t (by simp [ht])⟩
theorem Alls.snoc {p : α → Prop} {ts : List (RT α)} {t : RT α} (h : Alls p ts) (ht : All p t) : Alls p (ts ++ [t]) := Alls.of fun u hu => by
  rcases List.mem_append.1 hu with hu | hu
  · exact h.mem u hu
  · rw [List.mem_singleton.1 hu]; exact ht
mutual
theorem All.imp {p q : α → Prop} (hpq : ∀ a, p a → q a) : ∀ {t : RT α}, All p t → All q t
  | .mk d ks, h => by rw [All] at h ⊢; exact ⟨hpq d h.1, Alls.imp hpq h.2⟩
theorem Alls.imp {p q : α → Prop} (hpq : ∀ a, p a → q a) : ∀ {ts : List (RT α)}, Alls p ts → Alls q ts
  | [], _ => by rw [Alls]; trivial
  | t :: ts, h => by rw [Alls] at h ⊢; exact ⟨All.imp hpq h.1, Alls.imp hpq h.2⟩
end
theorem size_at {ts : List (RT α)} (k : Nat) (hk : k < ts.length) : ts[k].size ≤ sizes ts := sizes_mem ts _ (List.getElem_mem hk)
theorem kid_size {t : RT α} {m : Nat} (h : t.size ≤ m + 1) (k : Nat) (hk : k < t.kids.length) : t.kids[k].size ≤ m := by
  have := size_at k hk
  rw [size_eq] at h
  omega
theorem kids_len {t : RT α} {m : Nat} (h : t.size ≤ m + 1) : t.kids.length ≤ m := by
  have := sizes_len t.kids
  rw [size_eq] at h
  omega
end RT
open RT

/-- The cells of a struct of so many. -/
def cvK (sz : Nat) (v : Value) : List Value := (List.range sz).map fun j => v.cells.getD j undef
theorem cvK_len (sz : Nat) (v : Value) : (cvK sz v).length = sz := by simp [cvK]
def agg0 : Value := .agg #[]
/-- As Rd; each block that is read is one of S. -/
def RdS {α : Type} (cv : α → List Value) (d : α) (sz : Nat) (w : World) (S : Nat → Prop) (A : Option Addr) (n : Nat) (l : List α) : Prop :=
  l.length = n ∧ ∀ k, k < n → ∃ b off, A = some ⟨b, off, none⟩ ∧ S b ∧ ∀ j, j < sz → w.cell? ⟨b, off + k * sz + j, none⟩ = (cv (l.getD k d))[j]?
/-- Blocks of S are as they were. -/
def Still (S : Nat → Prop) (w w' : World) : Prop := ∀ b, S b → w'.heap[b]? = w.heap[b]?
theorem Still.cell {S : Nat → Prop} {w w' : World} (h : Still S w w') {b : Nat} (hb : S b) (i : Nat) : w'.cell? ⟨b, i, none⟩ = w.cell? ⟨b, i, none⟩ := by simp [World.cell?, h b hb]
theorem Still.trans {S : Nat → Prop} {w w' w2 : World} (h : Still S w w') (h' : Still S w' w2) : Still S w w2 := fun b hb => (h' b hb).trans (h b hb)
theorem Still.of_below {S : Nat → Prop} {w w' : World} {B : Nat} (h : Below B w w') (hS : ∀ b, S b → b < B) : Still S w w' := fun b hb => h.block b (hS b hb)
theorem Still.of_grown {S : Nat → Prop} {w w' : World} {row : Option Nat} (h : w.grownBy w' row) (hS : ∀ b, S b → b < w.heap.size ∧ some b ≠ row) : Still S w w' := fun b hb => h.block b (hS b hb).1 (hS b hb).2
/-- The blocks that are there. -/
def Old (w : World) : Nat → Prop := fun b => b < w.heap.size
/-- The blocks that are there, from a number on. -/
def Fresh (B : Nat) (w : World) : Nat → Prop := fun b => B ≤ b ∧ b < w.heap.size
section
variable {α : Type} {cv : α → List Value} {d : α} {sz : Nat} {w w' : World} {S S' : Nat → Prop} {A : Option Addr} {n : Nat} {l : List α}
theorem RdS.move (h : RdS cv d sz w S A n l) (hb : Still S w w') : RdS cv d sz w' S A n l :=
  ⟨h.1, fun k hk => by
    obtain ⟨b, off, hA, hB, h0⟩ := h.2 k hk
    exact ⟨b, off, hA, hB, fun j hj => (hb.cell hB _).trans (h0 j hj)⟩⟩
theorem RdS.weak (h : RdS cv d sz w S A n l) (hS : ∀ b, S b → S' b) : RdS cv d sz w S' A n l :=
  ⟨h.1, fun k hk => by
    obtain ⟨b, off, hA, hb, h0⟩ := h.2 k hk
    exact ⟨b, off, hA, hS b hb, h0⟩⟩
theorem RdS.rd (h : RdS cv d sz w S A n l) {B : Nat} (hS : ∀ b, S b → b < B) : Rd cv d sz w B A n l := h.weak (S' := (· < B)) hS
theorem RdS.of_rd {B : Nat} (h : Rd cv d sz w B A n l) : RdS cv d sz w (· < B) A n l := h
theorem RdS.nil (w : World) (S : Nat → Prop) (A : Option Addr) : RdS cv d sz w S A 0 [] := ⟨rfl, fun k hk => by omega⟩
theorem RdS.of_own {base c : Nat} {e : TypeId} (hcv : ∀ a ∈ l, (cv a).length = sz) (h : w.ownsRow base e sz (.slice A n c) n (l.flatMap cv)) (hl : l.length = n) : RdS cv d sz w (Fresh base w) A n l := by
  refine ⟨hl, fun k hk => ?_⟩
  obtain ⟨g, cap, hv, hbg, hlt⟩ := h.form (by omega)
  injection hv with h1 _ _
  subst h1
  refine ⟨g, 0, rfl, ⟨hbg, hlt⟩, fun j hj => ?_⟩
  have hflat : ∀ (l : List α), (∀ a ∈ l, (cv a).length = sz) → ∀ k, k < l.length → (l.flatMap cv)[k * sz + j]? = (cv (l.getD k d))[j]? := by
    intro l
    induction l with
    | nil => intro _ k hk; simp at hk
    | cons a l ih =>
      intro hcv k hk
      cases k with
      | zero =>
        rw [Nat.zero_mul, Nat.zero_add, List.flatMap_cons, List.getElem?_append_left (by rw [hcv a (by simp)]; exact hj)]
        rfl
      | succ k =>
        rw [List.flatMap_cons, List.getElem?_append_right (by rw [hcv a (by simp), Nat.succ_mul]; omega), hcv a (by simp), show (k + 1) * sz + j - sz = k * sz + j by rw [Nat.succ_mul]; omega]
        exact ih (fun b hb => hcv b (by simp [hb])) k (by simpa using hk)
  have e1 := hflat l hcv k (by omega)
  have hmem : l.getD k d ∈ l := by
    have : l.getD k d = l[k] := by simp [List.getD, show k < l.length by omega]
    rw [this]; exact List.getElem_mem _
  obtain ⟨u, hu⟩ : ∃ u, (cv (l.getD k d))[j]? = some u := ⟨_, List.getElem?_eq_getElem (by rw [hcv _ hmem]; exact hj)⟩
  rw [hu] at e1 ⊢
  have := h.cells (g := g) rfl _ _ e1
  rw [Addr.add_lit] at this
  rw [show 0 + k * sz + j = 0 + (k * sz + j) by omega]
  exact this
end
abbrev Vs (sz : Nat) (w : World) (S : Nat → Prop) (A : Option Addr) (n : Nat) (vs : List Value) : Prop := RdS (cvK sz) agg0 sz w S A n vs

/-- How a node's data lie: the struct's value, with the slice of its kids. -/
structure NK (α : Type) where
  sz : Nat
  D : World → (Nat → Prop) → α → Value → Value → Prop
  move : ∀ {w w' : World} {S : Nat → Prop} {a : α} {k v : Value}, D w S a k v → Still S w w' → D w' S a k v
  weak : ∀ {w : World} {S S' : Nat → Prop} {a : α} {k v : Value}, D w S a k v → (∀ b, S b → S' b) → D w S' a k v

section
variable {α : Type} (K : NK α) (w : World) (S : Nat → Prop)
mutual
def IsT : RT α → Value → Prop
  | .mk d ks, v => ∃ A c vs, K.D w S d (.slice A ks.length c) v ∧ Vs K.sz w S A ks.length vs ∧ IsTs ks vs
def IsTs : List (RT α) → List Value → Prop
  | [], vs => vs = []
  | t :: ts, vs => ∃ v us, vs = v :: us ∧ IsT t v ∧ IsTs ts us
end
end
section
variable {α : Type} {K : NK α} {w w' : World} {S S' : Nat → Prop}
theorem IsT.eq {t : RT α} {v : Value} : IsT K w S t v ↔ ∃ A c vs, K.D w S t.dat (.slice A t.kids.length c) v ∧ Vs K.sz w S A t.kids.length vs ∧ IsTs K w S t.kids vs := by
  cases t with
  | mk d ks => rw [IsT]; rfl
theorem IsTs.len : ∀ {ts : List (RT α)} {vs : List Value}, IsTs K w S ts vs → vs.length = ts.length
  | [], vs, h => by rw [IsTs] at h; rw [h]; rfl
  | t :: ts, vs, h => by
    rw [IsTs] at h
    obtain ⟨v, us, rfl, _, h2⟩ := h
    rw [List.length_cons, List.length_cons, IsTs.len h2]
theorem IsTs.nil : IsTs K w S [] [] := by rw [IsTs]
theorem IsTs.snoc : ∀ {ts : List (RT α)} {vs : List Value} {t : RT α} {v : Value}, IsTs K w S ts vs → IsT K w S t v → IsTs K w S (ts ++ [t]) (vs ++ [v])
  | [], vs, t, v, h, h1 => by
    rw [IsTs] at h; subst h
    show IsTs K w S [t] [v]
    rw [IsTs]; exact ⟨v, [], rfl, h1, by rw [IsTs]⟩
  | a :: ts, vs, t, v, h, h1 => by
    rw [IsTs] at h
    obtain ⟨u, us, rfl, h2, h3⟩ := h
    rw [List.cons_append, List.cons_append, IsTs]
    exact ⟨u, us ++ [v], rfl, h2, h3.snoc h1⟩
theorem IsTs.at_ : ∀ {ts : List (RT α)} {vs : List Value} (k : Nat) (h : k < ts.length), IsTs K w S ts vs → IsT K w S ts[k] (vs.getD k agg0)
  | t :: ts, vs, 0, _, h => by
    rw [IsTs] at h
    obtain ⟨v, us, rfl, h2, h3⟩ := h
    exact h2
  | t :: ts, vs, k + 1, hk, h => by
    rw [IsTs] at h
    obtain ⟨v, us, rfl, h2, h3⟩ := h
    exact h3.at_ k (by simpa using hk)
mutual
theorem IsT.move : ∀ {t : RT α} {v : Value}, IsT K w S t v → Still S w w' → IsT K w' S t v
  | .mk d ks, v, h, hb => by
    rw [IsT] at h ⊢
    obtain ⟨A, c, vs, h1, h2, h3⟩ := h
    exact ⟨A, c, vs, K.move h1 hb, h2.move hb, IsTs.move h3 hb⟩
theorem IsTs.move : ∀ {ts : List (RT α)} {vs : List Value}, IsTs K w S ts vs → Still S w w' → IsTs K w' S ts vs
  | [], vs, h, _ => by rw [IsTs] at h ⊢; exact h
  | t :: ts, vs, h, hb => by
    rw [IsTs] at h ⊢
    obtain ⟨v, us, h1, h2, h3⟩ := h
    exact ⟨v, us, h1, IsT.move h2 hb, IsTs.move h3 hb⟩
end
mutual
theorem IsT.weak : ∀ {t : RT α} {v : Value}, IsT K w S t v → (∀ b, S b → S' b) → IsT K w S' t v
  | .mk d ks, v, h, hb => by
    rw [IsT] at h ⊢
    obtain ⟨A, c, vs, h1, h2, h3⟩ := h
    exact ⟨A, c, vs, K.weak h1 hb, h2.weak hb, IsTs.weak h3 hb⟩
theorem IsTs.weak : ∀ {ts : List (RT α)} {vs : List Value}, IsTs K w S ts vs → (∀ b, S b → S' b) → IsTs K w S' ts vs
  | [], vs, h, _ => by rw [IsTs] at h ⊢; exact h
  | t :: ts, vs, h, hb => by
    rw [IsTs] at h ⊢
    obtain ⟨v, us, h1, h2, h3⟩ := h
    exact ⟨v, us, h1, IsT.weak h2 hb, IsTs.weak h3 hb⟩
end
theorem IsT.keep {t : RT α} {v : Value} (h : IsT K w (Old w) t v) (hb : Below w.heap.size w w') : IsT K w' (Old w') t v := (h.move (.of_below hb fun _ h => h)).weak fun _ h => Nat.lt_of_lt_of_le h hb.size
theorem IsTs.keep {ts : List (RT α)} {vs : List Value} (h : IsTs K w (Old w) ts vs) (hb : Below w.heap.size w w') : IsTs K w' (Old w') ts vs := (h.move (.of_below hb fun _ h => h)).weak fun _ h => Nat.lt_of_lt_of_le h hb.size
theorem IsT.old {t : RT α} {v : Value} {B : Nat} (h : IsT K w (Fresh B w) t v) : IsT K w (Old w) t v := h.weak fun _ h => h.2
end

/-! ### Views -/
structure VD where
  kind : Int
  tag : ByteArray
  key : ByteArray
  text : ByteArray
  cl : List ByteArray
  at_ : List St.Pr
  st : List Pr
  op : Int × Int × Int × Int × Bool × Bool
abbrev VT := RT VD
def vC (d : VD) (a1 a2 a3 k : Value) : List Value :=
  [.int .i64 d.kind, .string d.tag, .string d.key, .string d.text, a1, a2, a3, .int .i64 d.op.1, .int .i64 d.op.2.1, .int .i64 d.op.2.2.1, .int .i64 d.op.2.2.2.1, .bool d.op.2.2.2.2.1, .bool d.op.2.2.2.2.2, k]
def vV (d : VD) (a1 a2 a3 k : Value) : Value := .agg (vC d a1 a2 a3 k).toArray
/-- The rows that a view's data hold. -/
def Rows3 (w : World) (S : Nat → Prop) (cl : List ByteArray) (at_ : List St.Pr) (st : List Pr) (a1 a2 a3 : Value) : Prop :=
  ∃ A1 c1 A2 c2 A3 c3, a1 = .slice A1 cl.length c1 ∧ a2 = .slice A2 at_.length c2 ∧ a3 = .slice A3 st.length c3 ∧
    RdS cvS ByteArray.empty 1 w S A1 cl.length cl ∧ RdS St.cvP St.pr0 2 w S A2 at_.length at_ ∧ RdS cvP pr0 2 w S A3 st.length st
section
variable {w w' : World} {S S' : Nat → Prop} {cl : List ByteArray} {at_ : List St.Pr} {st : List Pr} {a1 a2 a3 : Value}
theorem Rows3.move (h : Rows3 w S cl at_ st a1 a2 a3) (hb : Still S w w') : Rows3 w' S cl at_ st a1 a2 a3 := by
  obtain ⟨A1, c1, A2, c2, A3, c3, e1, e2, e3, h1, h2, h3⟩ := h
  exact ⟨A1, c1, A2, c2, A3, c3, e1, e2, e3, h1.move hb, h2.move hb, h3.move hb⟩
theorem Rows3.weak (h : Rows3 w S cl at_ st a1 a2 a3) (hb : ∀ b, S b → S' b) : Rows3 w S' cl at_ st a1 a2 a3 := by
  obtain ⟨A1, c1, A2, c2, A3, c3, e1, e2, e3, h1, h2, h3⟩ := h
  exact ⟨A1, c1, A2, c2, A3, c3, e1, e2, e3, h1.weak hb, h2.weak hb, h3.weak hb⟩
end
def DV (w : World) (S : Nat → Prop) (d : VD) (k v : Value) : Prop := ∃ a1 a2 a3, v = vV d a1 a2 a3 k ∧ Rows3 w S d.cl d.at_ d.st a1 a2 a3
def vK : NK VD where
  sz := 14
  D := DV
  move := fun ⟨a1, a2, a3, h, h1⟩ hb => ⟨a1, a2, a3, h, h1.move hb⟩
  weak := fun ⟨a1, a2, a3, h, h1⟩ hb => ⟨a1, a2, a3, h, h1.weak hb⟩

/-! ### Trees of nodes that are shown -/
structure SD where
  id : Int
  kind : Int
  tag : ByteArray
  text : ByteArray
  cl : List ByteArray
  at_ : List St.Pr
  st : List Pr
abbrev STr := RT SD
def sC (d : SD) (a1 a2 a3 k : Value) : List Value := [.int .i64 d.id, .int .i64 d.kind, .string d.tag, .string d.text, a1, a2, a3, k]
def sV (d : SD) (a1 a2 a3 k : Value) : Value := .agg (sC d a1 a2 a3 k).toArray
def DS (w : World) (S : Nat → Prop) (d : SD) (k v : Value) : Prop := ∃ a1 a2 a3, v = sV d a1 a2 a3 k ∧ Rows3 w S d.cl d.at_ d.st a1 a2 a3
def sK : NK SD where
  sz := 8
  D := DS
  move := fun ⟨a1, a2, a3, h, h1⟩ hb => ⟨a1, a2, a3, h, h1.move hb⟩
  weak := fun ⟨a1, a2, a3, h, h1⟩ hb => ⟨a1, a2, a3, h, h1.weak hb⟩

theorem vV_cells (d : VD) (a1 a2 a3 k : Value) : cvK 14 (vV d a1 a2 a3 k) = vC d a1 a2 a3 k := rfl
theorem sV_cells (d : SD) (a1 a2 a3 k : Value) : cvK 8 (sV d a1 a2 a3 k) = sC d a1 a2 a3 k := rfl

end Go.Proofs.YtaalhglooipnaaaGreat
