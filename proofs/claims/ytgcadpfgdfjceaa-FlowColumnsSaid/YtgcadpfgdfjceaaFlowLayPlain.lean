/-
  Plain mathematics of layer 14: boxes of small sizes, where nothing saturates.
-/
import Derived.Test.YtgcadpfgdfjceaaFlowPlain
namespace Go.Proofs.Ytgcadpfgdfjceaa
namespace P14
open P1

section
variable (g : Int) (b : Nat → Int × Int) (nx : Nat → Int → Int → Bool)
/-- The pen where box k is put. -/
def atBox (k : Nat) : St := pre g b nx k (penAt g b nx k)
theorem pen_next (k : Nat) : penAt g b nx (k + 1) = (atBox g b nx k).put g (b k) := rfl
theorem out_at (n k : Nat) (h : k < n) : (penAt g b nx n).out.getD k (0, 0) = ((atBox g b nx k).x, (atBox g b nx k).y) := by
  induction n with
  | zero => omega
  | succ n ih =>
    have e : (penAt g b nx (n + 1)).out = (penAt g b nx n).out ++ [((atBox g b nx n).x, (atBox g b nx n).y)] := by
      rw [pen_next]
      show (atBox g b nx n).out ++ _ = _
      rw [atBox, pre_out]
    have hl := penAt_len g b nx n
    rw [e]
    by_cases hk : k = n
    · subst hk; simp [List.getD, hl]
    · rw [List.getD, List.getElem?_append_left (by omega)]
      exact ih (by omega)

theorem add_small {x y : Int} (h1 : -100000 ≤ x) (h2 : x ≤ 100000) (h3 : -100000 ≤ y) (h4 : y ≤ 100000) : add x y = x + y := by
  rw [add, sat_id (x := x) (by omega) (by omega), sat_id (x := y) (by omega) (by omega), sat_id (by omega) (by omega)]
theorem sum3_small {x y z : Int} (h1 : 0 ≤ x) (h2 : x ≤ 50000) (h3 : 0 ≤ y) (h4 : y ≤ 50000) (h5 : 0 ≤ z) (h6 : z ≤ 50000) : sum3 x y z = x + y + z := by
  rw [sum3_eq, add_small (x := x) (y := y) (by omega) (by omega) (by omega) (by omega), add_small (by omega) (by omega) (by omega) (by omega)]
theorem least_small {x : Int} (h1 : 0 ≤ x) (h2 : x ≤ 100000) : least x = x := by
  rw [least, sat_id (by omega) (by omega)]; omega
end

/-- Boxes, a gap that are small. -/
structure Small (g : Int) (b : Nat → Int × Int) : Prop where
  g0 : 0 ≤ g
  g1 : g ≤ 15
  b0 : ∀ k, 0 ≤ (b k).1
  b1 : ∀ k, (b k).1 ≤ 2047
  b2 : ∀ k, 0 ≤ (b k).2
  b3 : ∀ k, (b k).2 ≤ 1023

section
variable {g : Int} {b : Nat → Int × Int} {nx : Nat → Int → Int → Bool}

theorem put_small (hs : Small g b) (s : St) (k : Nat) (h1 : 0 ≤ s.x) (h2 : s.x ≤ 45000) :
    (s.put g (b k)).x = s.x + (b k).1 + g ∧ (s.put g (b k)).y = s.y ∧ (s.put g (b k)).h = max s.h (b k).2 ∧ (s.put g (b k)).W = max s.W (s.x + (b k).1) := by
  have := hs.b0 k; have := hs.b1 k; have := hs.g0; have := hs.g1
  refine ⟨?_, rfl, rfl, ?_⟩
  · show sum3 _ _ _ = _
    rw [sum3_small (by omega) (by omega) (by omega) (by omega) (by omega) (by omega)]
  · show max _ (add _ _) = _
    rw [add_small (by omega) (by omega) (by omega) (by omega)]

theorem row_small (hs : Small g b) (s : St) (h1 : 0 ≤ s.y) (h2 : s.y ≤ 45000) (h3 : 0 ≤ s.h) (h4 : s.h ≤ 1023) :
    (s.row g).x = 0 ∧ (s.row g).y = s.y + s.h + g ∧ (s.row g).h = 0 ∧ (s.row g).W = s.W := by
  have := hs.g0; have := hs.g1
  refine ⟨rfl, ?_, rfl, rfl⟩
  show sum3 _ _ _ = _
  rw [sum3_small (by omega) (by omega) (by omega) (by omega) (by omega) (by omega)]

/-- How big things may be behind k boxes. -/
structure Bd (s : St) (k : Nat) : Prop where
  x0 : 0 ≤ s.x
  x1 : s.x ≤ 2100 * k
  y0 : 0 ≤ s.y
  y1 : s.y ≤ 1100 * k
  h0 : 0 ≤ s.h
  h1 : s.h ≤ 1023
  W0 : 0 ≤ s.W
  W1 : s.W ≤ 2100 * k

theorem bd_at (hs : Small g b) {k : Nat} (hk : k ≤ 20) (h : Bd (penAt g b nx k) k) : 0 ≤ (atBox g b nx k).x ∧ (atBox g b nx k).x ≤ 2100 * k ∧ 0 ≤ (atBox g b nx k).y ∧ (atBox g b nx k).y ≤ 1100 * k + 1038 ∧ 0 ≤ (atBox g b nx k).h ∧ (atBox g b nx k).h ≤ 1023 ∧ (atBox g b nx k).W = (penAt g b nx k).W ∧
    ((0 < k ∧ nx k (penAt g b nx k).x (b k).1 = true ∧ (atBox g b nx k).x = 0 ∧ (atBox g b nx k).y = (penAt g b nx k).y + (penAt g b nx k).h + g ∧ (atBox g b nx k).h = 0) ∨
     ((k = 0 ∨ nx k (penAt g b nx k).x (b k).1 = false) ∧ atBox g b nx k = penAt g b nx k)) := by
  have hx0 := h.x0; have hx1 := h.x1; have hy0 := h.y0; have hy1 := h.y1; have hh0 := h.h0; have hh1 := h.h1
  have hg0 := hs.g0; have hg1 := hs.g1
  obtain ⟨r0, r1, r2, r3⟩ := row_small hs (penAt g b nx k) (by omega) (by omega) (by omega) (by omega)
  by_cases hc : 0 < k ∧ nx k (penAt g b nx k).x (b k).1 = true
  · have e : atBox g b nx k = (penAt g b nx k).row g := by rw [atBox, pre, if_pos hc]
    rw [e, r0, r1, r2, r3]
    exact ⟨by omega, by omega, by omega, by omega, by omega, by omega, rfl, .inl ⟨hc.1, hc.2, rfl, rfl, rfl⟩⟩
  · have e : atBox g b nx k = penAt g b nx k := by rw [atBox, pre, if_neg hc]
    rw [e]
    refine ⟨by omega, by omega, by omega, by omega, by omega, by omega, rfl, .inr ⟨?_, rfl⟩⟩
    by_cases h0 : k = 0
    · exact .inl h0
    · refine .inr ?_
      by_cases hn : nx k (penAt g b nx k).x (b k).1 = true
      · exact absurd ⟨by omega, hn⟩ hc
      · simpa using hn

theorem bd (hs : Small g b) (k : Nat) (hk : k ≤ 20) : Bd (penAt g b nx k) k := by
  induction k with
  | zero =>
    have e : penAt g b nx 0 = st0 := rfl
    rw [e]
    exact ⟨by decide, by decide, by decide, by decide, by decide, by decide, by decide, by decide⟩
  | succ k ih =>
    have ih := ih (by omega)
    have hx0 := ih.x0; have hx1 := ih.x1; have hy0 := ih.y0; have hy1 := ih.y1; have hh0 := ih.h0; have hh1 := ih.h1; have hW0 := ih.W0; have hW1 := ih.W1
    obtain ⟨a1, a2, a3, a4, a5, a6, a7, a8⟩ := bd_at hs (by omega) ih
    obtain ⟨p1, p2, p3, p4⟩ := put_small hs (atBox g b nx k) k a1 (by omega)
    have := hs.b0 k; have := hs.b1 k; have := hs.b2 k; have := hs.b3 k; have := hs.g0; have := hs.g1
    rw [pen_next]
    have hy : (atBox g b nx k).y ≤ 1100 * (k + 1 : Nat) := by
      rcases a8 with ⟨_, _, _, h, _⟩ | ⟨_, h⟩
      · rw [h]; omega
      · rw [h]; omega
    exact ⟨by rw [p1]; omega, by rw [p1]; omega, by rw [p2]; omega, by rw [p2]; exact hy, by rw [p3]; omega, by rw [p3]; omega, by rw [p4]; omega, by rw [p4]; omega⟩

/-- What the pen does at box k. -/
theorem step_small (hs : Small g b) (k : Nat) (hk : k ≤ 20) :
    (penAt g b nx (k + 1)).x = (atBox g b nx k).x + (b k).1 + g ∧ (penAt g b nx (k + 1)).y = (atBox g b nx k).y ∧ (penAt g b nx (k + 1)).h = max (atBox g b nx k).h (b k).2 ∧ (penAt g b nx (k + 1)).W = max (penAt g b nx k).W ((atBox g b nx k).x + (b k).1) := by
  obtain ⟨a1, a2, a3, a4, a5, a6, a7, a8⟩ := bd_at (nx := nx) hs hk (bd hs k hk)
  obtain ⟨p1, p2, p3, p4⟩ := put_small hs (atBox g b nx k) k a1 (by omega)
  rw [pen_next]
  exact ⟨p1, p2, p3, by rw [p4, a7]⟩

/-- Every box lies within the whole. -/
theorem within (hs : Small g b) (n k : Nat) (hn : n ≤ 20) (hk : k < n) :
    (atBox g b nx k).x + (b k).1 ≤ (penAt g b nx n).W ∧ (atBox g b nx k).y + (b k).2 ≤ (penAt g b nx n).y + (penAt g b nx n).h := by
  induction n with
  | zero => omega
  | succ n ih =>
    obtain ⟨p1, p2, p3, p4⟩ := step_small (nx := nx) hs n (by omega)
    have hB := bd (nx := nx) hs n (by omega)
    obtain ⟨a1, a2, a3, a4, a5, a6, a7, a8⟩ := bd_at (nx := nx) hs (k := n) (by omega) hB
    rw [p2, p3, p4]
    by_cases hkn : k = n
    · subst hkn; omega
    · obtain ⟨i1, i2⟩ := ih (by omega) (by omega)
      have := hB.h0; have := hs.g0
      rcases a8 with ⟨_, _, _, h1, h2⟩ | ⟨_, h⟩
      · rw [h1, h2]; omega
      · rw [h]; omega

/-- Where the boxes ahead of box k lie. -/
theorem ahead_of (hs : Small g b) (n : Nat) (hn : n ≤ 20) : ∀ j, j < n → ((atBox g b nx j).y = (penAt g b nx n).y ∧ (atBox g b nx j).x + (b j).1 ≤ (penAt g b nx n).x ∧ (b j).2 ≤ (penAt g b nx n).h) ∨ (atBox g b nx j).y + (b j).2 ≤ (penAt g b nx n).y := by
  induction n with
  | zero => intro j hj; omega
  | succ n ih =>
    intro j hj
    obtain ⟨p1, p2, p3, p4⟩ := step_small (nx := nx) hs n (by omega)
    have hB := bd (nx := nx) hs n (by omega)
    obtain ⟨a1, a2, a3, a4, a5, a6, a7, a8⟩ := bd_at (nx := nx) hs (k := n) (by omega) hB
    rw [p1, p2, p3]
    have hg := hs.g0
    have hb := hs.b0 n
    by_cases hjn : j = n
    · subst hjn; omega
    · have := hB.h0
      rcases a8 with ⟨_, _, h0, h1, h2⟩ | ⟨_, h⟩
      · rw [h0, h1, h2]
        rcases ih (by omega) j (by omega) with h | h
        · right; omega
        · right; omega
      · rw [h]
        rcases ih (by omega) j (by omega) with h | h
        · left; omega
        · right; exact h

/-- No two boxes have a point in common. -/
theorem apart (hs : Small g b) (n : Nat) (hn : n ≤ 20) (j : Nat) (hj : j < n) :
    (atBox g b nx j).x + (b j).1 ≤ (atBox g b nx n).x ∨ (atBox g b nx j).y + (b j).2 ≤ (atBox g b nx n).y := by
  have hB := bd (nx := nx) hs n (by omega)
  obtain ⟨a1, a2, a3, a4, a5, a6, a7, a8⟩ := bd_at (nx := nx) hs (k := n) (by omega) hB
  have := hB.h0
  have hg := hs.g0
  rcases a8 with ⟨_, _, h0, h1, h2⟩ | ⟨_, h⟩
  · rcases ahead_of (nx := nx) hs n hn j hj with h | h <;> omega
  · rw [h]
    rcases ahead_of (nx := nx) hs n hn j hj with h | h <;> omega

/-- Who begins no row stands within the width; who begins one could not stand in the row ahead. -/
theorem fits (W : Int) (hs : Small g b) (hnx : ∀ k x n, nx k x n = decide (W < add x n)) (k : Nat) (hk : k ≤ 20) :
    (0 < (atBox g b nx k).x → (atBox g b nx k).x + (b k).1 ≤ W) ∧ (∀ j, k = j + 1 → (atBox g b nx j).y < (atBox g b nx k).y → W < (atBox g b nx j).x + (b j).1 + g + (b k).1) := by
  have hB := bd (nx := nx) hs k (by omega)
  obtain ⟨a1, a2, a3, a4, a5, a6, a7, a8⟩ := bd_at (nx := nx) hs (k := k) (by omega) hB
  have hx0 := hB.x0; have hx1 := hB.x1
  have := hs.b0 k; have := hs.b1 k
  have hadd : add (penAt g b nx k).x (b k).1 = (penAt g b nx k).x + (b k).1 := add_small (by omega) (by omega) (by omega) (by omega)
  rw [hnx, hadd] at a8
  refine ⟨fun h => ?_, fun j hj h => ?_⟩
  · rcases a8 with ⟨_, _, h0, h1, h2⟩ | ⟨h0 | h0, h1⟩
    · omega
    · subst h0; rw [h1] at h; change (0 : Int) < 0 at h; omega
    · rw [h1]; simpa using h0
  · subst hj
    obtain ⟨p1, p2, p3, p4⟩ := step_small (nx := nx) hs j (by omega)
    rcases a8 with ⟨_, h0, _⟩ | ⟨_, h1⟩
    · rw [← p1]; simpa using h0
    · rw [h1, p2] at h; omega

/-- Columns. -/
theorem column_x (W : Int) (C : Nat) (hC : 0 < C) (hs : Small g b) (hW : ∀ k, (b k).1 = W) (hnx : ∀ k x n, nx k x n = decide (k % C = 0)) (k : Nat) (hk : k ≤ 20) :
    (atBox g b nx k).x = ((k % C : Nat) : Int) * (W + g) := by
  induction k with
  | zero => rw [Nat.zero_mod]; simp [atBox, pre, penAt, st0]
  | succ k ih =>
    have hB := bd (nx := nx) hs (k + 1) (by omega)
    obtain ⟨a1, a2, a3, a4, a5, a6, a7, a8⟩ := bd_at (nx := nx) hs (k := k + 1) (by omega) hB
    obtain ⟨p1, p2, p3, p4⟩ := step_small (nx := nx) hs k (by omega)
    rw [hnx] at a8
    rcases a8 with ⟨_, h0, h1, _⟩ | ⟨h0 | h0, h1⟩
    · have : (k + 1) % C = 0 := by simpa using h0
      rw [h1, this]; simp
    · omega
    · have h2 : (k + 1) % C ≠ 0 := by simpa using h0
      have h3 : (k + 1) % C = k % C + 1 := by
        rw [Nat.add_mod]
        have h4 := Nat.mod_lt k hC
        rw [Nat.add_mod] at h2
        by_cases h5 : C = 1
        · subst h5; simp [Nat.mod_one] at h2
        · rw [Nat.mod_eq_of_lt (a := 1) (by omega)] at h2 ⊢
          by_cases h6 : k % C + 1 = C
          · rw [h6, Nat.mod_self] at h2; omega
          · exact Nat.mod_eq_of_lt (by omega)
      rw [h1, p1, ih (by omega), hW, h3, Int.natCast_add, Int.add_mul]
      simp
      omega

theorem column_rows (C : Nat) (hs : Small g b) (hnx : ∀ k x n, nx k x n = decide (k % C = 0)) (n : Nat) (hn : n ≤ 20) :
    ∀ j, j < n → (j / C = (n - 1) / C ∧ (atBox g b nx j).y = (penAt g b nx n).y ∧ (b j).2 ≤ (penAt g b nx n).h) ∨ (atBox g b nx j).y + (b j).2 ≤ (penAt g b nx n).y := by
  induction n with
  | zero => intro j hj; omega
  | succ n ih =>
    intro j hj
    obtain ⟨p1, p2, p3, p4⟩ := step_small (nx := nx) hs n (by omega)
    have hB := bd (nx := nx) hs n (by omega)
    obtain ⟨a1, a2, a3, a4, a5, a6, a7, a8⟩ := bd_at (nx := nx) hs (k := n) (by omega) hB
    rw [p2, p3, Nat.add_sub_cancel]
    have hg := hs.g0
    by_cases hjn : j = n
    · subst hjn; exact .inl ⟨rfl, rfl, by omega⟩
    · have := hB.h0
      rw [hnx] at a8
      rcases a8 with ⟨_, _, h0, h1, h2⟩ | ⟨h0 | h0, h⟩
      · rw [h1, h2]
        rcases ih (by omega) j (by omega) with h | h
        · right; omega
        · right; omega
      · omega
      · rw [h]
        have h0 : n % C ≠ 0 := by simpa using h0
        rcases ih (by omega) j (by omega) with ⟨q1, q2, q3⟩ | h
        · left
          refine ⟨?_, q2, by omega⟩
          rw [q1]
          obtain ⟨m, rfl⟩ : ∃ m, n = m + 1 := ⟨n - 1, by omega⟩
          rw [Nat.add_sub_cancel, Nat.succ_div, if_neg]
          · rfl
          · intro hd; exact h0 (Nat.mod_eq_zero_of_dvd hd)
        · right; exact h

theorem column_y (C : Nat) (hC : 0 < C) (hs : Small g b) (hnx : ∀ k x n, nx k x n = decide (k % C = 0)) (k : Nat) (hk : k ≤ 20) :
    (∀ j, k = j + C → (atBox g b nx j).y + (b j).2 ≤ (atBox g b nx k).y) ∧ (∀ j, k = j + 1 → 0 < k % C → (atBox g b nx k).y = (atBox g b nx j).y) := by
  have hB := bd (nx := nx) hs k (by omega)
  obtain ⟨a1, a2, a3, a4, a5, a6, a7, a8⟩ := bd_at (nx := nx) hs (k := k) (by omega) hB
  have hg := hs.g0
  have := hB.h0
  rw [hnx] at a8
  refine ⟨fun j hj => ?_, fun j hj h => ?_⟩
  · rcases a8 with ⟨_, _, h0, h1, h2⟩ | ⟨h0 | h0, h⟩
    · rcases column_rows C hs hnx k hk j (by omega) with h | h <;> omega
    · omega
    · rw [h]
      rcases column_rows C hs hnx k hk j (by omega) with ⟨q1, q2, q3⟩ | h
      · exfalso
        have h0 : k % C ≠ 0 := by simpa using h0
        obtain ⟨m, rfl⟩ : ∃ m, k = m + 1 := ⟨k - 1, by omega⟩
        have h5 : (m + 1) / C = m / C := by
          rw [Nat.succ_div, if_neg]
          · rfl
          · intro hd; exact h0 (Nat.mod_eq_zero_of_dvd hd)
        rw [Nat.add_sub_cancel, ← h5, hj, Nat.add_div_right _ hC] at q1
        omega
      · exact h
  · subst hj
    obtain ⟨p1, p2, p3, p4⟩ := step_small (nx := nx) hs j (by omega)
    rcases a8 with ⟨_, h0, _⟩ | ⟨_, h1⟩
    · have : (j + 1) % C = 0 := by simpa using h0
      omega
    · rw [h1, p2]
end

end P14
end Go.Proofs.Ytgcadpfgdfjceaa
