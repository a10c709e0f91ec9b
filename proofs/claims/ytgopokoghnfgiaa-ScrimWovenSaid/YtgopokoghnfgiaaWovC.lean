/-
  The walks over Compare, BinarySearchFunc (of the places of a list) and Reverse at ints.
-/
import Derived.Test.YtgopokoghnfgiaaWovB
import Derived.Laws.Cover1
namespace Go.Proofs.Ytgopokoghnfgiaa
open Go.RowKit
attribute [local go_sem ↓] Go.wp_at_zero Go.wp_at_succ

def cmpI (x y : Int) : Int := if x < y then -1 else if x = y then 0 else 1
set_option maxHeartbeats 4000000 in
theorem isnanI_any (x : Int) (w : World) : Calls Try.prog 63 #[.int .i64 x] w fun e w' => e = .returned (.bool false) ∧ w' = w := by
  go_enter Try.func63, Try.ntmps63
  go_wp2
  go_ret
  exact ⟨by first | rfl | simp, rfl⟩
set_option maxHeartbeats 4000000 in
theorem compareI_any (x y : Int) (w : World) : Calls Try.prog 58 #[.int .i64 x, .int .i64 y] w fun e w' => e = .returned (.int .i64 (cmpI x y)) ∧ w' = w := by
  by_cases h1 : x < y
  · have HE := Lib.hid (show cmpI x y = -1 from if_pos h1)
    go_enter Try.func58, Try.ntmps58
    go_wp2_with (first | (go_at_call 63; ((with_reducible refine (isnanI_any _ _).mono ?_); rintro e w' ⟨rfl, rfl⟩)))
    go_ret
    exact ⟨by rw [HE.out]; rfl, rfl⟩
  · by_cases h2 : x = y
    · have HE := Lib.hid (show cmpI x y = 0 by rw [cmpI, if_neg h1, if_pos h2])
      subst h2
      go_enter Try.func58, Try.ntmps58
      go_wp2_with (first | (go_at_call 63; ((with_reducible refine (isnanI_any _ _).mono ?_); rintro e w' ⟨rfl, rfl⟩)))
      go_ret
      exact ⟨by rw [HE.out]; rfl, rfl⟩
    · have HE := Lib.hid (show cmpI x y = 1 by rw [cmpI, if_neg h1, if_neg h2])
      have h3 : y < x := by omega
      clear h2
      go_enter Try.func58, Try.ntmps58
      go_wp2_with (first | (go_at_call 63; ((with_reducible refine (isnanI_any _ _).mono ?_); rintro e w' ⟨rfl, rfl⟩)))
      go_ret
      exact ⟨by rw [HE.out]; rfl, rfl⟩

set_option maxHeartbeats 4000000 in
theorem offn_any (q : Nat) (x : Int) (p : Nat) (A : Option Addr) (n c B : Nat) (l : List Int) (w : World) (hc : w.cell? ⟨p, 0, none⟩ = some (.slice A n c)) (hz : Nums w B A n l) (hq : q < n) :
    Calls Try.prog 57 #[.int .i64 (q : Nat), .int .i64 x, .pointer (some ⟨p, 0, none⟩)] w fun e w' => e = .returned (.int .i64 (cmpI (l.getD q 0) x)) ∧ w' = w := by
  obtain ⟨b, off, rfl, hbB, d0⟩ := hz.2 q hq
  obtain ⟨t, ht⟩ : ∃ t, t = l.getD q 0 := ⟨_, rfl⟩
  rw [← ht] at d0 ⊢
  have i1 : (0 : Int) ≤ (q : Int) := by omega
  have i2 : (q : Int) < (n : Int) := by omega
  clear ht hz
  go_enter Try.func57, Try.ntmps57
  go_wp2_with (first | (go_at_call 58; ((with_reducible refine (compareI_any _ _ _).mono ?_); rintro e w' ⟨rfl, rfl⟩)))
  go_ret
  exact ⟨rfl, rfl⟩

/-- The places of a list, as numbers. -/
def ints (E : List Nat) : List Int := E.map fun (e : Nat) => (e : Int)
theorem ints_len (E : List Nat) : (ints E).length = E.length := by simp [ints]
theorem ints_at (E : List Nat) (k : Nat) : (ints E).getD k 0 = ((E.getD k 0 : Nat) : Int) := by
  by_cases h : k < E.length
  · simp [ints, List.getD, h]
  · simp [ints, List.getD, h]
/-- What stands at the place at place k. -/
def valE (l : List Int) (E : List Nat) (k : Nat) : Int := l.getD (E.getD k 0) 0
structure AtE (l : List Int) (E : List Nat) (x : Int) (r : Nat) : Prop where
  le : r ≤ E.length
  low : ∀ k, k < r → valE l E k < x
  high : ∀ k, r ≤ k → k < E.length → x ≤ valE l E k

set_option maxRecDepth 100000 in
set_option maxHeartbeats 8000000 in
theorem bsearch_any (A A' : Option Addr) (n c m c' B B' p : Nat) (E : List Nat) (l : List Int) (x : Int) (w : World) (hz : Nums w B A n (ints E)) (hz' : Nums w B' A' m l) (hc : w.cell? ⟨p, 0, none⟩ = some (.slice A' m c')) (hn : n ≤ 1000) (hE : ∀ k, k < n → E.getD k 0 < m)
    (hs : ∀ i j, i < j → j < n → valE l E i < valE l E j) :
    Calls Try.prog 56 #[.slice A n c, .int .i64 x, .func (.func 57) #[] #[.pointer (some ⟨p, 0, none⟩)]] w fun e w' =>
      ∃ (r : Nat) (b : Bool), e = .returned (.tuple #[.int .i64 r, .bool b]) ∧ AtE l E x r ∧ w' = w := by
  have HZ := Lib.hid (And.intro hz (And.intro hz' (And.intro hc (And.intro hE hs))))
  have HL := Lib.hid (show E.length = n by rw [← ints_len]; exact hz.1)
  clear hz hz' hs hc hE
  go_enter Try.func56, Try.ntmps56
  go_wp2_with fail
  go_loopw [9, 10] (fun vi vj wx => ∃ i j : Nat, vi = .int .i64 i ∧ vj = .int .i64 j ∧ i ≤ j ∧ j ≤ n ∧ wx = w ∧ Hid ((∀ k, k < i → valE l E k < x) ∧ (∀ k, j ≤ k → k < n → x ≤ valE l E k))) (fun vi vj _ => (intOf vj - intOf vi).toNat)
  case atStart => exact ⟨0, n, rfl, rfl, Nat.zero_le _, Nat.le_refl _, rfl, fun k hk => by omega, fun k hk hk2 => by omega⟩
  case round =>
    obtain ⟨i, j, rfl, rfl, hij, hjn, hw, hH⟩ := hrel
    subst hw
    by_cases hlt : i < j
    · obtain ⟨h, hh⟩ : ∃ h, h = (i + j) / 2 := ⟨_, rfl⟩
      have hh1 : i ≤ h := by omega
      have hh2 : h < j := by omega
      have hhI : ((i : Int) + (j : Int)) / 2 = (h : Int) := by omega
      obtain ⟨b, off, rfl, hbB, d0⟩ := HZ.out.1.2 h (by omega)
      rw [ints_at] at d0
      have hem := HZ.out.2.2.2.1 h (by omega)
      have HM := Lib.hid (fun k (hk : k ≤ h) (he : valE l E h < x) => show valE l E k < x from by
        by_cases e : k = h
        · rw [e]; exact he
        · exact Int.lt_trans (HZ.out.2.2.2.2 k h (by omega) (by omega)) he)
      have HM2 := Lib.hid (fun k (hk : h ≤ k) (hk2 : k < n) (he : x ≤ valE l E h) => show x ≤ valE l E k from by
        by_cases e : k = h
        · rw [e]; exact he
        · exact Int.le_trans he (Int.le_of_lt (HZ.out.2.2.2.2 h k (by omega) (by omega))))
      have HV := Lib.hid (show valE l E h = l.getD (E.getD h 0) 0 from rfl)
      obtain ⟨q, hq⟩ : ∃ q, q = E.getD h 0 := ⟨_, rfl⟩
      rw [← hq] at d0 HV hem
      have i1 : (0 : Int) ≤ (h : Int) := by omega
      have i2 : (h : Int) < (n : Int) := by omega
      clear hq hh
      by_cases ht : valE l E h < x
      · have hc : cmpI (l.getD q 0) x = -1 := by rw [← HV.out]; exact if_pos ht
        have HI := Lib.hid (fun k (hk : k < h + 1) => HM.out k (by omega) ht)
        clear HM HM2 ht
        go_wp2_with (first | (go_at_call 57; refine (offn_any q x p A' m c' B' l _ HZ.out.2.2.1 HZ.out.2.1 hem).mono ?_; rintro e w5 ⟨rfl, rfl⟩; rw [hc]))
        go_roundw
        case rel => exact ⟨h + 1, j, by first | rfl | go_num | (simp [hhI]; done), rfl, by omega, by omega, trivial, ⟨HI.out, hH.out.2⟩⟩
        case measure => simp [intOf]; omega
      · have hc : ¬ cmpI (l.getD q 0) x < 0 := by rw [← HV.out, cmpI, if_neg ht]; split <;> decide
        obtain ⟨cc, hcc⟩ : ∃ cc, cc = cmpI (l.getD q 0) x := ⟨_, rfl⟩
        rw [← hcc] at hc
        have hc2 : decide (cc < 0) = false := by simpa using hc
        have HCC := Lib.hid hcc
        have HI := Lib.hid (fun k (hk : h ≤ k) (hk2 : k < n) => HM2.out k hk hk2 (by omega))
        clear HM HM2 hcc ht
        go_wp2_with (first | (go_at_call 57; refine (offn_any q x p A' m c' B' l _ HZ.out.2.2.1 HZ.out.2.1 hem).mono ?_; rintro e w5 ⟨rfl, rfl⟩; rw [← HCC.out]))
        go_roundw
        case rel => exact ⟨i, h, rfl, by first | rfl | go_num | (simp [hhI]; done), by omega, by omega, trivial, ⟨hH.out.1, HI.out⟩⟩
        case measure => simp [intOf]; omega
    · obtain rfl : i = j := by omega
      have HA := Lib.hid (show AtE l E x i from ⟨by rw [HL.out]; exact hjn, hH.out.1, fun k hk hk2 => hH.out.2 k hk (by rw [← HL.out]; exact hk2)⟩)
      by_cases hin : i < n
      · obtain ⟨b, off, rfl, hbB, d0⟩ := HZ.out.1.2 i hin
        rw [ints_at] at d0
        have hem := HZ.out.2.2.2.1 i hin
        obtain ⟨q, hq⟩ : ∃ q, q = E.getD i 0 := ⟨_, rfl⟩
        rw [← hq] at d0 hem
        have i1 : (0 : Int) ≤ (i : Int) := by omega
        have i2 : (i : Int) < (n : Int) := by omega
        obtain ⟨cc, hcc⟩ : ∃ cc, cc = cmpI (l.getD q 0) x := ⟨_, rfl⟩
        have HCC := Lib.hid hcc
        clear hq hcc
        by_cases hc0 : cc = 0
        · subst hc0
          go_wp2_with (first | (go_at_call 57; refine (offn_any q x p A' m c' B' l _ HZ.out.2.2.1 HZ.out.2.1 hem).mono ?_; rintro e w5 ⟨rfl, rfl⟩; rw [← HCC.out]))
          exact bodyPost_ret (v := .tuple #[.int .i64 i, .bool true]) (by simp [results, Try.results56, go_sem]) rfl ⟨i, true, rfl, HA.out, rfl⟩
        · have hc1 : (cc == 0) = false := by simpa using hc0
          go_wp2_with (first | (go_at_call 57; refine (offn_any q x p A' m c' B' l _ HZ.out.2.2.1 HZ.out.2.1 hem).mono ?_; rintro e w5 ⟨rfl, rfl⟩; rw [← HCC.out]))
          exact bodyPost_ret (v := .tuple #[.int .i64 i, .bool false]) (by simp [results, Try.results56, go_sem]) rfl ⟨i, false, rfl, HA.out, rfl⟩
      · have i2 : decide ((i : Int) < (n : Int)) = false := by simp; omega
        go_wp2
        exact bodyPost_ret (v := .tuple #[.int .i64 i, .bool false]) (by simp [results, Try.results56, go_sem]) rfl ⟨i, false, rfl, HA.out, rfl⟩

end Go.Proofs.Ytgopokoghnfgiaa
