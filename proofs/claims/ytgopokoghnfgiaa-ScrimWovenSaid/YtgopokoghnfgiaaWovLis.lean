/-
  The plain law of the longest row of rising numbers (layer 10).
-/
import Derived.Test.YtgopokoghnfgiaaWovC
namespace Go.Proofs.Ytgopokoghnfgiaa

/-- The best so far of the rows that x may end. -/
def bestTo (l : List Int) (f : Nat → Nat) (x : Int) : Nat → Nat
  | 0 => 1
  | j + 1 => if l.getD j 0 < x ∧ bestTo l f x j ≤ f j then f j + 1 else bestTo l f x j
theorem bestTo_congr {l : List Int} {f g : Nat → Nat} (x : Int) : ∀ k, (∀ j, j < k → f j = g j) → bestTo l f x k = bestTo l g x k
  | 0, _ => rfl
  | k + 1, h => by rw [bestTo, bestTo, bestTo_congr x k (fun j hj => h j (by omega)), h k (by omega)]
theorem best_ub (l : List Int) (f : Nat → Nat) (x : Int) : ∀ k j, j < k → l.getD j 0 < x → f j + 1 ≤ bestTo l f x k
  | 0, _, h, _ => by omega
  | k + 1, j, h, hx => by
    rw [bestTo]
    by_cases e : j = k
    · subst e
      split
      · exact Nat.le_refl _
      · rename_i hc
        have : ¬ bestTo l f x j ≤ f j := fun h => hc ⟨hx, h⟩
        omega
    · have := best_ub l f x k j (by omega) hx
      split <;> omega
theorem best_att (l : List Int) (f : Nat → Nat) (x : Int) : ∀ k, bestTo l f x k = 1 ∨ ∃ j, j < k ∧ l.getD j 0 < x ∧ bestTo l f x k = f j + 1
  | 0 => .inl rfl
  | k + 1 => by
    rw [bestTo]
    split
    · rename_i h
      exact .inr ⟨k, by omega, h.1, rfl⟩
    · rcases best_att l f x k with h | ⟨j, h1, h2, h3⟩
      · exact .inl h
      · exact .inr ⟨j, by omega, h2, h3⟩
def lensL (l : List Int) : Nat → List Nat
  | 0 => []
  | k + 1 => lensL l k ++ [bestTo l (fun j => (lensL l k).getD j 0) (l.getD k 0) k]
theorem lensL_len (l : List Int) (k : Nat) : (lensL l k).length = k := by
  induction k with
  | zero => rfl
  | succ k ih => rw [lensL, List.length_append, ih]; rfl
def lens (l : List Int) (k : Nat) : Nat := (lensL l (k + 1)).getD k 0
theorem lensL_at (l : List Int) : ∀ m k, k < m → (lensL l m).getD k 0 = lens l k
  | 0, _, h => by omega
  | m + 1, k, h => by
    by_cases e : k = m
    · subst e; rfl
    · rw [← lensL_at l m k (by omega), lensL]
      simp [List.getD, List.getElem?_append_left (show k < (lensL l m).length by rw [lensL_len]; omega)]
theorem lens_eq (l : List Int) (k : Nat) : lens l k = bestTo l (lens l) (l.getD k 0) k := by
  have e : (lensL l (k + 1)).getD k 0 = bestTo l (fun j => (lensL l k).getD j 0) (l.getD k 0) k := by
    rw [lensL]
    simp [List.getD, lensL_len]
  rw [lens, e]
  exact bestTo_congr _ k fun j hj => lensL_at l k j hj
theorem lens_pos (l : List Int) (k : Nat) : 1 ≤ lens l k := by
  rw [lens_eq]
  rcases best_att l (lens l) (l.getD k 0) k with h | ⟨j, _, _, h⟩ <;> omega
theorem lens_ub {l : List Int} {j k : Nat} (h : j < k) (hx : l.getD j 0 < l.getD k 0) : lens l j + 1 ≤ lens l k := by
  rw [lens_eq l k]
  exact best_ub _ _ _ _ _ h hx
theorem lens_att (l : List Int) (k : Nat) : lens l k = 1 ∨ ∃ j, j < k ∧ l.getD j 0 < l.getD k 0 ∧ lens l k = lens l j + 1 := by
  have := best_att l (lens l) (l.getD k 0) k
  rwa [← lens_eq] at this
def maxTo (l : List Int) : Nat → Nat
  | 0 => 0
  | k + 1 => max (maxTo l k) (lens l k)
def lenS (l : List Int) : Nat := maxTo l l.length
theorem maxTo_le (l : List Int) (m : Nat) : ∀ k, (∀ j, j < k → lens l j ≤ m) → maxTo l k ≤ m
  | 0, _ => Nat.zero_le _
  | k + 1, h => by
    rw [maxTo]
    have h1 := maxTo_le l m k fun j hj => h j (by omega)
    have h2 := h k (by omega)
    omega
theorem maxTo_ge (l : List Int) : ∀ k j, j < k → lens l j ≤ maxTo l k
  | 0, _, h => by omega
  | k + 1, j, h => by
    rw [maxTo]
    by_cases e : j = k
    · subst e; omega
    · have := maxTo_ge l k j (by omega); omega
theorem maxTo_len (l : List Int) (k : Nat) : maxTo l k ≤ k := by
  refine maxTo_le l k k fun j hj => ?_
  have : ∀ i, lens l i ≤ i + 1 := by
    intro i
    induction i using Nat.strongRecOn with
    | ind i ih =>
      rcases lens_att l i with h | ⟨q, h1, _, h3⟩
      · omega
      · have := ih q h1; omega
  have := this j
  omega

/-! ### The places of the least ends -/
theorem valE_app {l : List Int} {E : List Nat} {k i : Nat} (h : i < E.length) : valE l (E ++ [k]) i = valE l E i := by
  simp [valE, List.getD, List.getElem?_append_left h]
theorem valE_last (l : List Int) (E : List Nat) (k : Nat) : valE l (E ++ [k]) E.length = l.getD k 0 := by simp [valE, List.getD]
theorem getE_app {E : List Nat} {k i : Nat} (h : i < E.length) : (E ++ [k]).getD i 0 = E.getD i 0 := by simp [List.getD, List.getElem?_append_left h]
theorem getE_last (E : List Nat) (k : Nat) : (E ++ [k]).getD E.length 0 = k := by simp [List.getD]
theorem getE_set {E : List Nat} {r k i : Nat} (h : r < E.length) : (E.set r k).getD i 0 = if i = r then k else E.getD i 0 := by
  by_cases e : i = r
  · subst e; simp [List.getD, h]
  · rw [if_neg e]
    have e' : r ≠ i := fun h => e h.symm
    simp [List.getD, e']
structure Pat (l : List Int) (E : List Nat) (H : List Int) (k : Nat) : Prop where
  top : ∀ j, j < k → lens l j ≤ E.length
  at_ : ∀ r, r < E.length → E.getD r 0 < k ∧ lens l (E.getD r 0) = r + 1
  low : ∀ j, j < k → valE l E (lens l j - 1) ≤ l.getD j 0
  up : ∀ i j, i < j → j < E.length → valE l E i < valE l E j
  ahd : ∀ j, j < k → (lens l j = 1 ∧ H.getD j 0 = -1) ∨ ∃ i : Nat, i < j ∧ H.getD j 0 = (i : Int) ∧ l.getD i 0 < l.getD j 0 ∧ lens l i + 1 = lens l j
theorem Pat.zero (l H : List Int) : Pat l [] H 0 :=
  ⟨fun _ h => by omega, fun _ h => by simp at h, fun _ h => by omega, fun _ _ _ h => by simp at h, fun _ h => by omega⟩
section
variable {l : List Int} {E : List Nat} {H H' : List Int} {k r : Nat}
theorem Pat.lens_at (p : Pat l E H k) (a : AtE l E (l.getD k 0) r) : lens l k = r + 1 := by
  have h1 : lens l k ≤ r + 1 := by
    rcases lens_att l k with h | ⟨j, hj, hx, h⟩
    · omega
    · have h2 := p.low j hj
      have h3 := p.top j hj
      have h4 := lens_pos l j
      by_cases h5 : r ≤ lens l j - 1
      · have := a.high _ h5 (by omega)
        omega
      · omega
  have h2 : r + 1 ≤ lens l k := by
    by_cases h0 : r = 0
    · have := lens_pos l k; omega
    · have h3 := p.at_ (r - 1) (by have := a.le; omega)
      have h4 := a.low (r - 1) (by omega)
      have := lens_ub h3.1 (show l.getD (E.getD (r - 1) 0) 0 < l.getD k 0 from h4)
      omega
  omega
theorem Pat.ahead (p : Pat l E H k) (a : AtE l E (l.getD k 0) r) (hH : ∀ j, j < k → H'.getD j 0 = H.getD j 0) (hk : H'.getD k 0 = if r = 0 then -1 else ((E.getD (r - 1) 0 : Nat) : Int)) :
    ∀ j, j < k + 1 → (lens l j = 1 ∧ H'.getD j 0 = -1) ∨ ∃ i : Nat, i < j ∧ H'.getD j 0 = (i : Int) ∧ l.getD i 0 < l.getD j 0 ∧ lens l i + 1 = lens l j := by
  intro j hj
  by_cases e : j = k
  · subst e
    have h1 := p.lens_at a
    by_cases h0 : r = 0
    · rw [if_pos h0] at hk
      exact .inl ⟨by omega, hk⟩
    · rw [if_neg h0] at hk
      have h3 := p.at_ (r - 1) (by have := a.le; omega)
      exact .inr ⟨_, h3.1, hk, a.low (r - 1) (by omega), by omega⟩
  · have := p.ahd j (by omega)
    rw [hH j (by omega)]
    exact this
theorem Pat.add (p : Pat l E H k) (a : AtE l E (l.getD k 0) r) (hr : r = E.length) (hH : ∀ j, j < k → H'.getD j 0 = H.getD j 0) (hk : H'.getD k 0 = if r = 0 then -1 else ((E.getD (r - 1) 0 : Nat) : Int)) : Pat l (E ++ [k]) H' (k + 1) := by
  have hl := p.lens_at a
  refine ⟨fun j hj => ?_, fun i hi => ?_, fun j hj => ?_, fun i j hij hj => ?_, p.ahead a hH hk⟩
  · rw [List.length_append]
    by_cases e : j = k
    · subst e; rw [hl, hr]; exact Nat.le_refl _
    · have := p.top j (by omega); omega
  · rw [List.length_append] at hi
    simp only [List.length_cons, List.length_nil] at hi
    by_cases e : i = E.length
    · subst e; rw [getE_last]; exact ⟨by omega, by rw [hl, hr]⟩
    · rw [getE_app (by omega)]
      have := p.at_ i (by omega)
      exact ⟨by omega, this.2⟩
  · by_cases e : j = k
    · subst e; rw [hl, hr, Nat.add_sub_cancel, valE_last]; exact Int.le_refl _
    · have h1 := p.top j (by omega)
      have h2 := lens_pos l j
      rw [valE_app (by omega)]
      exact p.low j (by omega)
  · rw [List.length_append] at hj
    simp only [List.length_cons, List.length_nil] at hj
    rw [valE_app (by omega)]
    by_cases e : j = E.length
    · subst e; rw [valE_last]; exact a.low i (by omega)
    · rw [valE_app (by omega)]; exact p.up i j hij (by omega)
theorem Pat.same (p : Pat l E H k) (a : AtE l E (l.getD k 0) r) (hr : r < E.length) (hx : ¬ l.getD k 0 < valE l E r) (hH : ∀ j, j < k → H'.getD j 0 = H.getD j 0) (hk : H'.getD k 0 = if r = 0 then -1 else ((E.getD (r - 1) 0 : Nat) : Int)) : Pat l E H' (k + 1) := by
  have hl := p.lens_at a
  refine ⟨fun j hj => ?_, fun i hi => ?_, fun j hj => ?_, p.up, p.ahead a hH hk⟩
  · by_cases e : j = k
    · subst e; omega
    · exact p.top j (by omega)
  · have := p.at_ i hi
    exact ⟨by omega, this.2⟩
  · by_cases e : j = k
    · subst e; rw [hl, Nat.add_sub_cancel]; omega
    · exact p.low j (by omega)
theorem Pat.put (p : Pat l E H k) (a : AtE l E (l.getD k 0) r) (hr : r < E.length) (hx : l.getD k 0 < valE l E r) (hH : ∀ j, j < k → H'.getD j 0 = H.getD j 0) (hk : H'.getD k 0 = if r = 0 then -1 else ((E.getD (r - 1) 0 : Nat) : Int)) : Pat l (E.set r k) H' (k + 1) := by
  have hl := p.lens_at a
  have hv : ∀ i, valE l (E.set r k) i = if i = r then l.getD k 0 else valE l E i := fun i => by
    rw [valE, getE_set hr]
    by_cases e : i = r
    · rw [if_pos e, if_pos e]
    · rw [if_neg e, if_neg e]; rfl
  refine ⟨fun j hj => ?_, fun i hi => ?_, fun j hj => ?_, fun i j hij hj => ?_, p.ahead a hH hk⟩
  · rw [List.length_set]
    by_cases e : j = k
    · subst e; omega
    · exact p.top j (by omega)
  · rw [List.length_set] at hi
    rw [getE_set hr]
    by_cases e : i = r
    · rw [if_pos e]; exact ⟨by omega, by rw [hl, e]⟩
    · rw [if_neg e]
      have := p.at_ i hi
      exact ⟨by omega, this.2⟩
  · rw [hv]
    by_cases e : j = k
    · subst e; rw [hl, Nat.add_sub_cancel, if_pos rfl]; exact Int.le_refl _
    · have h1 := p.low j (by omega)
      by_cases e2 : lens l j - 1 = r
      · rw [if_pos e2]; rw [e2] at h1; omega
      · rw [if_neg e2]; exact h1
  · rw [List.length_set] at hj
    rw [hv, hv]
    by_cases e : i = r
    · subst e
      rw [if_pos rfl, if_neg (by omega)]
      have := p.up i j hij hj
      omega
    · rw [if_neg e]
      by_cases e2 : j = r
      · rw [if_pos e2]; exact a.low i (by omega)
      · rw [if_neg e2]; exact p.up i j hij hj
theorem Pat.lenS_eq (p : Pat l E H l.length) : lenS l = E.length := by
  refine Nat.le_antisymm (maxTo_le l _ _ p.top) ?_
  by_cases h : E.length = 0
  · omega
  · obtain ⟨h1, h2⟩ := p.at_ (E.length - 1) (by omega)
    have := maxTo_ge l l.length _ h1
    rw [lenS]
    omega
end

/-! ### The row, from its end on -/
/-- A longest row: places that rise, of numbers that rise. -/
structure IsLis (l : List Int) (R : List Nat) : Prop where
  len : R.length = lenS l
  ord : R.Pairwise fun a b => a < b ∧ l.getD a 0 < l.getD b 0
  lt : ∀ o ∈ R, o < l.length
structure Chn (l : List Int) (m : Nat) (a : Int) (O : List Nat) : Prop where
  ord : O.Pairwise fun a b => b < a ∧ l.getD b 0 < l.getD a 0
  lt : ∀ o ∈ O, o < l.length
  pos : (a = -1 ∧ O.length = m) ∨ ∃ j : Nat, a = (j : Int) ∧ j < l.length ∧ lens l j + O.length = m ∧ ∀ o ∈ O, j < o ∧ l.getD j 0 < l.getD o 0
theorem Chn.start {l : List Int} {E : List Nat} {H : List Int} (p : Pat l E H l.length) (h : E.length ≠ 0) : Chn l E.length ((E.getD (E.length - 1) 0 : Nat) : Int) [] := by
  obtain ⟨h1, h2⟩ := p.at_ (E.length - 1) (by omega)
  exact ⟨List.Pairwise.nil, fun _ h => by simp at h, .inr ⟨_, rfl, h1, by rw [h2]; show _ + 0 = _; omega, fun _ h => by simp at h⟩⟩
theorem Chn.step {l : List Int} {E : List Nat} {H : List Int} {m j : Nat} {O : List Nat} (p : Pat l E H l.length) (c : Chn l m (j : Int) O) : j < l.length ∧ lens l j + O.length = m ∧ Chn l m (H.getD j 0) (O ++ [j]) := by
  rcases c.pos with ⟨h, _⟩ | ⟨j', h, hj, hm, hO⟩
  · omega
  · obtain rfl : j = j' := by omega
    refine ⟨hj, hm, ⟨?_, ?_, ?_⟩⟩
    · refine List.pairwise_append.2 ⟨c.ord, List.pairwise_singleton _ _, fun a ha b hb => ?_⟩
      rw [List.mem_singleton.1 hb]
      exact hO a ha
    · intro o ho
      rcases List.mem_append.1 ho with h | h
      · exact c.lt o h
      · rw [List.mem_singleton.1 h]; exact hj
    · rcases p.ahd j hj with ⟨h1, h2⟩ | ⟨i, hi, h2, h3, h4⟩
      · exact .inl ⟨h2, by simp; omega⟩
      · refine .inr ⟨i, h2, by omega, by simp; omega, fun o ho => ?_⟩
        rcases List.mem_append.1 ho with h | h
        · have := hO o h; omega
        · rw [List.mem_singleton.1 h]; exact ⟨hi, h3⟩
theorem Chn.fin {l : List Int} {E : List Nat} {H : List Int} {O : List Nat} (p : Pat l E H l.length) (c : Chn l E.length (-1) O) : IsLis l O.reverse := by
  rcases c.pos with ⟨_, h⟩ | ⟨j, h, _⟩
  · exact ⟨by rw [List.length_reverse, h, p.lenS_eq], List.pairwise_reverse.2 c.ord, fun o ho => c.lt o (List.mem_reverse.1 ho)⟩
  · omega
theorem IsLis.nil : IsLis [] [] := ⟨rfl, List.Pairwise.nil, fun _ h => by simp at h⟩

end Go.Proofs.Ytgopokoghnfgiaa
