/-
  The walks over take, and over the document's ahead.
-/
import Derived.Test.YtgopokoghnfgiaaMatchNamed
namespace Go.Proofs.Ytgopokoghnfgiaa
open Go.RowKit
attribute [local go_sem ↓] Go.wp_at_zero Go.wp_at_succ

set_option maxRecDepth 100000 in
set_option maxHeartbeats 4000000 in
theorem ahead_any (A : Option Addr) (n c : Nat) (ks : List Kid) (m : Nat) (w : World) (hz : Kids w w.heap.size A n ks) (hn : n ≤ 1000) (hc : n ≤ c) (hm : m ≤ n) :
    Calls Try.prog 37 #[.slice A n c, .int .i64 (m : Nat)] w fun e w' => e = .returned (.int .i64 (aheadN ks m : Nat)) ∧ Below w.heap.size w w' := by
  have HZ := Lib.hid hz
  clear hz
  have m0 : (0 : Int) ≤ (m : Int) := by omega
  have m1 : (m : Int) ≤ (c : Int) := by omega
  go_enter Try.func37, Try.ntmps37
  go_wp2_with fail
  go_loopw [5, 12] (fun vn i wr => ∃ k : Nat, k ≤ m ∧ i = .int .i64 k ∧ vn = .int .i64 (aheadN ks k : Nat) ∧ Below w.heap.size w wr) (fun _ i _ => m - (intOf i).toNat)
  case atStart => exact ⟨0, Nat.zero_le _, rfl, rfl, Below.refl _ _⟩
  case round =>
    obtain ⟨k, hk, rfl, rfl, hb⟩ := hrel
    obtain ⟨a, ha⟩ : ∃ a, a = aheadN ks k := ⟨_, rfl⟩
    have hak : a ≤ k := by rw [ha]; exact aheadN_le ks k
    rw [← ha]
    by_cases hlt : k < m
    · obtain ⟨b, off, rfl, hbB, e0, e1⟩ := HZ.out.2 k (by omega)
      replace e0 := (hb.cell (p := ⟨b, off + k * 2, none⟩) hbB).trans e0
      replace e1 := (hb.cell (p := ⟨b, off + k * 2 + 1, none⟩) hbB).trans e1
      have HA := Lib.hid (aheadN_succ ks k (by have := HZ.out.1; omega))
      obtain ⟨⟨s, t⟩, hst⟩ : ∃ p, p = ks.getD k kid0 := ⟨_, rfl⟩
      rw [← ha, ← hst] at HA
      rw [← hst] at e0 e1
      simp only [k0, k1] at e0 e1
      have i1 : (0 : Int) ≤ (k : Int) := by omega
      have i2 : (k : Int) < (m : Int) := by omega
      have HO := Lib.hid (hb.alloc hb.size (.cells #[.int .i64 t, .string s] 29))
      clear hst hb ha
      cases he : isEmp (s, t)
      · have HA1 := Lib.hid (show aheadN ks (k + 1) = a by rw [HA.out, he]; rfl)
        have hs : s.toList.isEmpty = false := he
        have hs2 : ¬ s.toList = [] := by simpa using hs
        clear he HA
        go_wp2
        go_roundw
        case rel => exact ⟨k + 1, by omega, by go_num, by rw [HA1.out], HO.out⟩
        case measure => simp [intOf]; omega
      · have HA1 := Lib.hid (show aheadN ks (k + 1) = a + 1 by rw [HA.out, he]; rfl)
        have hs : s.toList.isEmpty = true := he
        have hs2 : s.toList = [] := by simpa using hs
        clear he HA
        go_wp2
        go_roundw
        case rel => exact ⟨k + 1, by omega, by go_num, by rw [HA1.out]; go_num, HO.out⟩
        case measure => simp [intOf]; omega
    · obtain rfl : k = m := by omega
      have HO := Lib.hid (And.intro ha hb)
      clear hb ha
      go_wp2
      go_ret
      exact ⟨by rw [← HO.out.1]; rfl, HO.out.2⟩

/-- Natural numbers as numbers. -/
def nI (l : List Nat) : List Int := l.map fun j => (j : Nat)
theorem nI_len (l : List Nat) : (nI l).length = l.length := by simp [nI]

theorem take_nil (w : World) : Calls Try.prog 36 #[.pointer none] w fun e w' => e = .returned (.int .i64 (-1)) ∧ w' = w := by
  go_enter Try.func36, Try.ntmps36
  go_wp2
  go_ret
  exact ⟨rfl, rfl⟩

theorem take_none (P : Nat) (A : Option Addr) (c : Nat) (w : World) (hb : w.cell? ⟨P, 0, none⟩ = some (.slice A 0 c)) :
    Calls Try.prog 36 #[.pointer (some ⟨P, 0, none⟩)] w fun e w' => e = .returned (.int .i64 (-1)) ∧ w' = w := by
  go_enter Try.func36, Try.ntmps36
  go_wp2
  go_ret
  exact ⟨rfl, rfl⟩

/-- One is taken. -/
def TookPost (w : World) (B P : Nat) (A0 : Option Addr) (a : Nat) (rest : List Nat) (e : Ending) (w' : World) : Prop :=
  e = .returned (.int .i64 (a : Nat)) ∧ ∃ A c, (∀ b off, A = some ⟨b, off, none⟩ → ∃ o, A0 = some ⟨b, o, none⟩) ∧ rest.length ≤ c ∧ c ≤ maxLen ∧ Nums w B A rest.length (nI rest) ∧ w' = w.setCell ⟨P, 0, none⟩ (.slice A rest.length c)

theorem take_some (P : Nat) (A : Option Addr) (c a : Nat) (rest : List Nat) (B : Nat) (w : World) (hb : w.cell? ⟨P, 0, none⟩ = some (.slice A (rest.length + 1) c)) (hf : w.frozen? ⟨P, 0, none⟩ = false)
    (hl : Nums w B A (rest.length + 1) (nI (a :: rest))) (hc : rest.length + 1 ≤ c) (hc2 : c ≤ maxLen) :
    Calls Try.prog 36 #[.pointer (some ⟨P, 0, none⟩)] w (TookPost w B P A a rest) := by
  obtain ⟨b, off, rfl, hbB, e0⟩ := hl.2 0 (by omega)
  have e1 : w.cell? ⟨b, off, none⟩ = some (.int .i64 (a : Nat)) := e0
  obtain ⟨m, hm⟩ : ∃ m, m = rest.length := ⟨_, rfl⟩
  rw [← hm] at hb
  have HC := Lib.hid (And.intro hl (And.intro hc hc2))
  have HM := Lib.hid hm
  have j1 : (0 : Int) < ((m + 1 : Nat) : Int) := by omega
  have j2 : (1 : Int) ≤ ((m + 1 : Nat) : Int) := by omega
  have j3 : (((m + 1 : Nat) : Int) == 0) = false := by simp; omega
  unfold maxLen at hc2
  have j4 : m + 1 ≤ c := by omega
  clear hl hc hm e0
  by_cases hc1 : c = 1
  · subst hc1
    go_enter Try.func36, Try.ntmps36
    go_wp2
    go_ret
    refine ⟨rfl, some ⟨b, off, none⟩, 0, fun b' o' h => by injection h with h; injection h with h1 h2; subst h1; exact ⟨_, rfl⟩, ?_, by unfold maxLen; omega, ?_, ?_⟩
    · have := HC.out.2.1; omega
    · have h0 : rest.length = 0 := by have := HC.out.2.1; omega
      rw [h0]
      exact ⟨by rw [nI_len, h0], fun k hk => by omega⟩
    · rw [show rest.length = 0 by have := HC.out.2.1; omega]
  · go_enter Try.func36, Try.ntmps36
    go_wp2
    go_ret
    refine ⟨rfl, some ⟨b, off + 1, none⟩, c - 1, fun b' o' h => by injection h with h; injection h with h1 h2; subst h1; exact ⟨_, rfl⟩, ?_, ?_, ?_, ?_⟩
    · have := HC.out.2.1; omega
    · have := HC.out.2.2; omega
    · refine ⟨nI_len _, fun k hk => ?_⟩
      obtain ⟨b', off', h1, h2, h3⟩ := HC.out.1.2 (k + 1) (by omega)
      injection h1 with h1
      injection h1 with h4 h5
      subst h4 h5
      exact ⟨b, off + 1, rfl, h2, by rw [show off + 1 + k = off + (k + 1) by omega, h3]; rfl⟩
    · rw [← HM.out]

end Go.Proofs.Ytgopokoghnfgiaa
