/-
  The walks over Front and Back, both.
-/
import Derived.Test.YtgopokoghnfgiaaMatchOpen
import Derived.BigQuiet
namespace Go.Proofs.Ytgopokoghnfgiaa
open Go.RowKit
attribute [local go_sem ↓] Go.wp_at_zero Go.wp_at_succ

/-- The same from the beginning on: k of them. -/
structure IsFront (l : List Int) (k : Nat) : Prop where
  le : k ≤ l.length
  all : ∀ i, i < k → l.getD i 0 = (i : Int)
  stop : k = l.length ∨ l.getD k 0 ≠ (k : Int)
theorem IsFront.one {l : List Int} {k k' : Nat} (h : IsFront l k) (h' : IsFront l k') : k = k' := by
  rcases Nat.lt_trichotomy k k' with hlt | rfl | hlt
  · rcases h.stop with e | e
    · have := h'.le; omega
    · exact absurd (h'.all k hlt) e
  · rfl
  · rcases h'.stop with e | e
    · have := h.le; omega
    · exact absurd (h.all k' hlt) e
theorem front_old {old fresh : List Kid} {k : Nat} (h : IsFront (pairS old fresh) k) : k ≤ old.length := by
  rcases Nat.eq_zero_or_pos k with rfl | hk
  · omega
  · have h1 := h.all (k - 1) (by omega)
    have h2 := h.le
    rw [pairS_len] at h2
    rcases pairS_low old fresh (k - 1) (by omega) with h3 | ⟨j, h3, h4⟩ <;> omega
/-- The same from the end on. -/
structure IsBack (l : List Int) (a b f k : Nat) : Prop where
  le : f + k ≤ a ∧ f + k ≤ b
  all : ∀ i, i < k → l.getD (b - 1 - i) 0 = ((a - 1 - i : Nat) : Int)
  stop : f + k = a ∨ f + k = b ∨ l.getD (b - 1 - k) 0 ≠ ((a - 1 - k : Nat) : Int)
theorem IsBack.one {l : List Int} {a b f k k' : Nat} (h : IsBack l a b f k) (h' : IsBack l a b f k') : k = k' := by
  have h1 := h.le
  have h2 := h'.le
  rcases Nat.lt_trichotomy k k' with hlt | rfl | hlt
  · rcases h.stop with e | e | e
    · omega
    · omega
    · exact absurd (h'.all k hlt) e
  · rfl
  · rcases h'.stop with e | e | e
    · omega
    · omega
    · exact absurd (h.all k' hlt) e

set_option maxRecDepth 100000 in
set_option maxHeartbeats 16000000 in
theorem front_any (A B : Option Addr) (n c n' c' : Nat) (ks ls : List Kid) (w : World) (hz : Kids w w.heap.size A n ks) (hz' : Kids w w.heap.size B n' ls) (hn : n ≤ 100) (hn' : n' ≤ 100) (hk : OkK ks) (hk' : OkK ls) :
    Calls Try.prog 16 #[.slice A n c, .slice B n' c'] w fun e w' => ∃ k : Nat, e = .returned (.int .i64 (k : Nat)) ∧ IsFront (pairS ks ls) k ∧ Below w.heap.size w w' := by
  have HZ := Lib.hid (And.intro hz (And.intro hz' (And.intro hk hk')))
  clear hz hz' hk hk'
  go_enter Try.func16, Try.ntmps16
  go_wp2_with fail
  refine (pair_any A B n c n' c' ks ls _ HZ.out.1 HZ.out.2.1 hn hn' HZ.out.2.2.1 HZ.out.2.2.2).mono ?_
  rintro e w2 ⟨A2, c2, rfl, ho2, hb2⟩
  obtain ⟨l, hl⟩ : ∃ l, l = pairS ks ls := ⟨_, rfl⟩
  rw [← hl] at ho2
  have HEQ := Lib.hid hl
  have hll : l.length = n' := by rw [hl, pairS_len]; exact HZ.out.2.1.1
  have H2 := Lib.hid (And.intro (Nums.of_own ho2 hll) hb2)
  clear hl ho2 hb2
  obtain ⟨wq, hwq⟩ : ∃ wq : World, wq = w2 := ⟨_, rfl⟩
  rw [← hwq] at H2 ⊢
  clear hwq
  go_wp2_with fail
  go_loopw [5, 12] (fun v i wx => ∃ k : Nat, k ≤ n' ∧ i = .int .i64 k ∧ v = .int .i64 k ∧ wx = wq ∧ Hid (∀ j, j < k → l.getD j 0 = (j : Int))) (fun _ i _ => n' - (intOf i).toNat)
  case atStart => exact ⟨0, Nat.zero_le _, rfl, rfl, rfl, fun j hj => by omega⟩
  case round =>
    obtain ⟨k, hk, rfl, rfl, hw, hH⟩ := hrel
    subst hw
    by_cases hlt : k < n'
    · obtain ⟨b, off, rfl, _, d0⟩ := H2.out.1.2 k hlt
      obtain ⟨y, hy⟩ : ∃ y, y = l.getD k 0 := ⟨_, rfl⟩
      rw [← hy] at d0
      have HY := Lib.hid hy
      have i1 : (0 : Int) ≤ (k : Int) := by omega
      have i2 : (k : Int) < (n' : Int) := by omega
      clear hy
      by_cases hyk : y = (k : Int)
      · subst hyk
        go_wp2
        go_roundw
        case rel => exact ⟨k + 1, by omega, by go_num, by go_num, trivial, fun j hj => by
          by_cases e : j = k
          · rw [e, ← HY.out]
          · exact hH.out j (by omega)⟩
        case measure => simp [intOf]; omega
      · have j1 : (y != (k : Int)) = true := by simpa using hyk
        have HF := Lib.hid (show IsFront l k from ⟨by omega, hH.out, .inr (by rw [← HY.out]; exact hyk)⟩)
        go_wp2
        go_ret
        exact ⟨k, rfl, by rw [← HEQ.out]; exact HF.out, H2.out.2⟩
    · obtain rfl : k = n' := by omega
      have HF := Lib.hid (show IsFront l k from ⟨by omega, hH.out, .inl hll.symm⟩)
      go_wp2
      go_ret
      exact ⟨k, rfl, by rw [← HEQ.out]; exact HF.out, H2.out.2⟩

set_option maxRecDepth 100000 in
set_option maxHeartbeats 16000000 in
theorem rfront_any (A B : Option Addr) (n c n' c' : Nat) (ks ls : List Kid) (w : World) (hz : Kids w w.heap.size A n ks) (hz' : Kids w w.heap.size B n' ls) (hn : n ≤ 100) (hn' : n' ≤ 100) (hc : n ≤ c) (hc' : n' ≤ c') :
    Calls Try.prog 17 #[.slice A n c, .slice B n' c'] w fun e w' => ∃ k : Nat, e = .returned (.int .i64 (k : Nat)) ∧ IsFront (pairS ks ls) k ∧ Below w.heap.size w w' := by
  have HZ := Lib.hid (And.intro hz (And.intro hz' (And.intro hc hc')))
  clear hz hz' hc hc'
  go_enter Try.func17, Try.ntmps17
  go_wp2_with fail
  refine (rpair_any A B n c n' c' ks ls _ HZ.out.1 HZ.out.2.1 hn hn' HZ.out.2.2.1 HZ.out.2.2.2).mono ?_
  rintro e w2 ⟨A2, c2, rfl, ho2, hb2⟩
  obtain ⟨l, hl⟩ : ∃ l, l = pairS ks ls := ⟨_, rfl⟩
  rw [← hl] at ho2
  have HEQ := Lib.hid hl
  have hll : l.length = n' := by rw [hl, pairS_len]; exact HZ.out.2.1.1
  have H2 := Lib.hid (And.intro (Nums.of_own ho2 hll) hb2)
  clear hl ho2 hb2
  obtain ⟨wq, hwq⟩ : ∃ wq : World, wq = w2 := ⟨_, rfl⟩
  rw [← hwq] at H2 ⊢
  clear hwq
  go_wp2_with fail
  go_loopw [6] (fun v wx => ∃ k : Nat, k ≤ n' ∧ v = .int .i64 k ∧ wx = wq ∧ Hid (∀ j, j < k → l.getD j 0 = (j : Int))) (fun v _ => n' - (intOf v).toNat)
  case atStart => exact ⟨0, Nat.zero_le _, rfl, rfl, fun j hj => by omega⟩
  case round =>
    obtain ⟨k, hk, rfl, hw, hH⟩ := hrel
    subst hw
    by_cases hlt : k < n'
    · obtain ⟨b, off, rfl, _, d0⟩ := H2.out.1.2 k hlt
      obtain ⟨y, hy⟩ : ∃ y, y = l.getD k 0 := ⟨_, rfl⟩
      rw [← hy] at d0
      have HY := Lib.hid hy
      have i1 : (0 : Int) ≤ (k : Int) := by omega
      have i2 : (k : Int) < (n' : Int) := by omega
      clear hy
      by_cases hyk : y = (k : Int)
      · subst hyk
        go_wp2
        go_roundw
        case rel => exact ⟨k + 1, by omega, by go_num, trivial, fun j hj => by
          by_cases e : j = k
          · rw [e, ← HY.out]
          · exact hH.out j (by omega)⟩
        case measure => simp [intOf]; omega
      · have j1 : (y == (k : Int)) = false := by simpa using hyk
        have HF := Lib.hid (show IsFront l k from ⟨by omega, hH.out, .inr (by rw [← HY.out]; exact hyk)⟩)
        go_wp2
        go_ret
        exact ⟨k, rfl, by rw [← HEQ.out]; exact HF.out, H2.out.2⟩
    · obtain rfl : k = n' := by omega
      have HF := Lib.hid (show IsFront l k from ⟨by omega, hH.out, .inl hll.symm⟩)
      go_wp2
      go_ret
      exact ⟨k, rfl, by rw [← HEQ.out]; exact HF.out, H2.out.2⟩

set_option maxRecDepth 100000 in
set_option maxHeartbeats 16000000 in
theorem back_any (A B : Option Addr) (n c n' c' : Nat) (ks ls : List Kid) (w : World) (hz : Kids w w.heap.size A n ks) (hz' : Kids w w.heap.size B n' ls) (hn : n ≤ 100) (hn' : n' ≤ 100) (hk : OkK ks) (hk' : OkK ls) :
    Calls Try.prog 18 #[.slice A n c, .slice B n' c'] w fun e w' => ∃ f k : Nat, e = .returned (.int .i64 (k : Nat)) ∧ IsFront (pairS ks ls) f ∧ IsBack (pairS ks ls) n n' f k ∧ Below w.heap.size w w' := by
  have HZ := Lib.hid (And.intro hz (And.intro hz' (And.intro hk hk')))
  clear hz hz' hk hk'
  go_enter Try.func18, Try.ntmps18
  go_wp2_with fail
  refine (pair_any A B n c n' c' ks ls _ HZ.out.1 HZ.out.2.1 hn hn' HZ.out.2.2.1 HZ.out.2.2.2).mono ?_
  rintro e w2 ⟨A2, c2, rfl, ho2, hb2⟩
  obtain ⟨l, hl⟩ : ∃ l, l = pairS ks ls := ⟨_, rfl⟩
  rw [← hl] at ho2
  have HEQ := Lib.hid hl
  have hll : l.length = n' := by rw [hl, pairS_len]; exact HZ.out.2.1.1
  have H2 := Lib.hid (And.intro ho2 hb2)
  clear hl ho2 hb2
  go_wp2_with fail
  refine (front_any A B n c n' c' ks ls _ (HZ.out.1.keep H2.out.2) (HZ.out.2.1.keep H2.out.2) hn hn' HZ.out.2.2.1 HZ.out.2.2.2).mono ?_
  rintro e w3 ⟨f, rfl, hf, hb3⟩
  have hfn := front_old hf
  rw [HZ.out.1.1] at hfn
  have hfn' := hf.le
  rw [← HEQ.out] at hf hfn'
  rw [hll] at hfn'
  have H3 := Lib.hid (And.intro (Nums.of_own (own_keep H2.out.1 hb3) hll) (And.intro (H2.out.2.trans (hb3.mono H2.out.2.size)) hf))
  clear H2 hb3 hf
  obtain ⟨wq, hwq⟩ : ∃ wq : World, wq = w3 := ⟨_, rfl⟩
  rw [← hwq] at H3 ⊢
  clear hwq
  go_wp2_with fail
  go_loopw [7] (fun v wx => ∃ k : Nat, f + k ≤ n ∧ f + k ≤ n' ∧ v = .int .i64 k ∧ wx = wq ∧ Hid (∀ i, i < k → l.getD (n' - 1 - i) 0 = ((n - 1 - i : Nat) : Int))) (fun v _ => n' - (intOf v).toNat)
  case atStart => exact ⟨0, by omega, by omega, rfl, rfl, fun j hj => by omega⟩
  case round =>
    obtain ⟨k, hk1, hk2, rfl, hw, hH⟩ := hrel
    subst hw
    by_cases hlt : f + k < n ∧ f + k < n'
    · obtain ⟨g1, g2⟩ := hlt
      obtain ⟨p, hp⟩ : ∃ p, p = n' - 1 - k := ⟨_, rfl⟩
      obtain ⟨b, off, rfl, _, d0⟩ := H3.out.1.2 p (by omega)
      obtain ⟨y, hy⟩ : ∃ y, y = l.getD p 0 := ⟨_, rfl⟩
      rw [← hy] at d0
      have HY := Lib.hid hy
      have HP := Lib.hid hp
      clear hy
      have i0 : (n' : Int) - 1 - (k : Int) = (p : Int) := by omega
      have i1 : (0 : Int) ≤ (p : Int) := by omega
      have i2 : (p : Int) < (n' : Int) := by omega
      have i3 : (k : Int) < min (n : Int) (n' : Int) - (f : Int) := by omega
      clear hp
      by_cases hyk : y = (n : Int) - 1 - (k : Int)
      · have j1 : (y == (n : Int) - 1 - (k : Int)) = true := by simpa using hyk
        have HS := Lib.hid (show y = ((n - 1 - k : Nat) : Int) by omega)
        clear hyk
        go_wp2
        go_roundw
        case rel => exact ⟨k + 1, by omega, by omega, by go_num, trivial, fun j hj => by
          by_cases e : j = k
          · rw [e, ← HP.out, ← HY.out]; exact HS.out
          · exact hH.out j (by omega)⟩
        case measure => simp [intOf]; omega
      · have j1 : (y == (n : Int) - 1 - (k : Int)) = false := by simpa using hyk
        have HB := Lib.hid (show IsBack l n n' f k from ⟨⟨by omega, by omega⟩, hH.out, .inr (.inr (by rw [← HP.out, ← HY.out]; intro e; exact hyk (by omega)))⟩)
        clear hyk
        go_wp2
        go_ret
        exact ⟨f, k, rfl, by rw [← HEQ.out]; exact H3.out.2.2, by rw [← HEQ.out]; exact HB.out, H3.out.2.1⟩
    · have i3 : decide ((k : Int) < min (n : Int) (n' : Int) - (f : Int)) = false := by simp; omega
      have HB := Lib.hid (show IsBack l n n' f k from ⟨⟨by omega, by omega⟩, hH.out, by omega⟩)
      clear hlt
      go_wp2
      go_ret
      exact ⟨f, k, rfl, by rw [← HEQ.out]; exact H3.out.2.2, by rw [← HEQ.out]; exact HB.out, H3.out.2.1⟩

set_option maxRecDepth 100000 in
set_option maxHeartbeats 16000000 in
theorem rback_any (A B : Option Addr) (n c n' c' : Nat) (ks ls : List Kid) (w : World) (hz : Kids w w.heap.size A n ks) (hz' : Kids w w.heap.size B n' ls) (hn : n ≤ 100) (hn' : n' ≤ 100) (hc : n ≤ c) (hc' : n' ≤ c') :
    Calls Try.prog 19 #[.slice A n c, .slice B n' c'] w fun e w' => ∃ f k : Nat, e = .returned (.int .i64 (k : Nat)) ∧ IsFront (pairS ks ls) f ∧ IsBack (pairS ks ls) n n' f k ∧ Below w.heap.size w w' := by
  have HZ := Lib.hid (And.intro hz (And.intro hz' (And.intro hc hc')))
  clear hz hz' hc hc'
  go_enter Try.func19, Try.ntmps19
  go_wp2_with fail
  refine (rpair_any A B n c n' c' ks ls _ HZ.out.1 HZ.out.2.1 hn hn' HZ.out.2.2.1 HZ.out.2.2.2).mono ?_
  rintro e w2 ⟨A2, c2, rfl, ho2, hb2⟩
  obtain ⟨l, hl⟩ : ∃ l, l = pairS ks ls := ⟨_, rfl⟩
  rw [← hl] at ho2
  have HEQ := Lib.hid hl
  have hll : l.length = n' := by rw [hl, pairS_len]; exact HZ.out.2.1.1
  have H2 := Lib.hid (And.intro ho2 hb2)
  clear hl ho2 hb2
  go_wp2_with fail
  refine (rfront_any A B n c n' c' ks ls _ (HZ.out.1.keep H2.out.2) (HZ.out.2.1.keep H2.out.2) hn hn' HZ.out.2.2.1 HZ.out.2.2.2).mono ?_
  rintro e w3 ⟨f, rfl, hf, hb3⟩
  have hfn := front_old hf
  rw [HZ.out.1.1] at hfn
  have hfn' := hf.le
  rw [← HEQ.out] at hf hfn'
  rw [hll] at hfn'
  have H3 := Lib.hid (And.intro (Nums.of_own (own_keep H2.out.1 hb3) hll) (And.intro (H2.out.2.trans (hb3.mono H2.out.2.size)) hf))
  clear H2 hb3 hf
  obtain ⟨wq, hwq⟩ : ∃ wq : World, wq = w3 := ⟨_, rfl⟩
  rw [← hwq] at H3 ⊢
  clear hwq
  go_wp2_with fail
  go_loopw [7] (fun v wx => ∃ k : Nat, f + k ≤ n ∧ f + k ≤ n' ∧ v = .int .i64 k ∧ wx = wq ∧ Hid (∀ i, i < k → l.getD (n' - 1 - i) 0 = ((n - 1 - i : Nat) : Int))) (fun v _ => n' - (intOf v).toNat)
  case atStart => exact ⟨0, by omega, by omega, rfl, rfl, fun j hj => by omega⟩
  case round =>
    obtain ⟨k, hk1, hk2, rfl, hw, hH⟩ := hrel
    subst hw
    by_cases hlt : f + k < n ∧ f + k < n'
    · obtain ⟨g1, g2⟩ := hlt
      obtain ⟨p, hp⟩ : ∃ p, p = n' - 1 - k := ⟨_, rfl⟩
      obtain ⟨b, off, rfl, _, d0⟩ := H3.out.1.2 p (by omega)
      obtain ⟨y, hy⟩ : ∃ y, y = l.getD p 0 := ⟨_, rfl⟩
      rw [← hy] at d0
      have HY := Lib.hid hy
      have HP := Lib.hid hp
      clear hy
      have i0 : (n' : Int) - (k : Int) - 1 = (p : Int) := by omega
      have i1 : (0 : Int) ≤ (p : Int) := by omega
      have i2 : (p : Int) < (n' : Int) := by omega
      have i3 : (f : Int) + (k : Int) < (n : Int) := by omega
      have i4 : (f : Int) + (k : Int) < (n' : Int) := by omega
      clear hp
      by_cases hyk : y = (n : Int) - (k : Int) - 1
      · have j1 : (y == (n : Int) - (k : Int) - 1) = true := by simpa using hyk
        have HS := Lib.hid (show y = ((n - 1 - k : Nat) : Int) by omega)
        clear hyk
        go_wp2
        go_roundw
        case rel => exact ⟨k + 1, by omega, by omega, by go_num, trivial, fun j hj => by
          by_cases e : j = k
          · rw [e, ← HP.out, ← HY.out]; exact HS.out
          · exact hH.out j (by omega)⟩
        case measure => simp [intOf]; omega
      · have j1 : (y == (n : Int) - (k : Int) - 1) = false := by simpa using hyk
        have HB := Lib.hid (show IsBack l n n' f k from ⟨⟨by omega, by omega⟩, hH.out, .inr (.inr (by rw [← HP.out, ← HY.out]; intro e; exact hyk (by omega)))⟩)
        clear hyk
        go_wp2
        go_ret
        exact ⟨f, k, rfl, by rw [← HEQ.out]; exact H3.out.2.2, by rw [← HEQ.out]; exact HB.out, H3.out.2.1⟩
    · have HB := Lib.hid (show IsBack l n n' f k from ⟨⟨by omega, by omega⟩, hH.out, by omega⟩)
      by_cases hl1 : f + k < n
      · have i3 : (f : Int) + (k : Int) < (n : Int) := by omega
        have i4 : decide ((f : Int) + (k : Int) < (n' : Int)) = false := by simp; omega
        clear hlt hl1
        go_wp2
        go_ret
        exact ⟨f, k, rfl, by rw [← HEQ.out]; exact H3.out.2.2, by rw [← HEQ.out]; exact HB.out, H3.out.2.1⟩
      · have i3 : decide ((f : Int) + (k : Int) < (n : Int)) = false := by simp; omega
        clear hlt hl1
        go_wp2
        go_ret
        exact ⟨f, k, rfl, by rw [← HEQ.out]; exact H3.out.2.2, by rw [← HEQ.out]; exact HB.out, H3.out.2.1⟩

end Go.Proofs.Ytgopokoghnfgiaa
