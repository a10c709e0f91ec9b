/-
  Plain mathematics of layer 14 (flow), second part: what the document's rows are like.
-/
import Derived.Test.YtgcadpfgdfjceaaFlowPlain
namespace Go.Proofs.Ytgcadpfgdfjceaa
namespace P14
open P1
section ref
variable (g : Int) (b : Nat → Int × Int) (fresh : Nat → Int → Bool)
theorem rowsAt_ne (k : Nat) (hk : 0 < k) : rowsAt g b fresh k ≠ [] := by
  cases k with
  | zero => omega
  | succ k => rw [rowsAt_succ]; split <;> simp
/-- What the document has of its rows when it lays box k. -/
def rowsMid (k : Nat) : List (List Nat) := if fresh k (rx g b fresh k) = true then rowsAt g b fresh k ++ [[]] else rowsAt g b fresh k
theorem rowsMid_last (h0 : fresh 0 0 = true) (k : Nat) : ∃ rows0 l, rowsMid g b fresh k = rows0 ++ [l] ∧ rowsAt g b fresh (k + 1) = rows0 ++ [l ++ [k]] := by
  unfold rowsMid
  rw [rowsAt_succ]
  by_cases hf : fresh k (rx g b fresh k) = true
  · rw [if_pos hf, if_pos hf]
    exact ⟨_, _, rfl, rfl⟩
  · rw [if_neg hf, if_neg hf]
    have hk : 0 < k := by
      rcases Nat.eq_zero_or_pos k with h | h
      · subst h; exact absurd h0 hf
      · exact h
    have hne := rowsAt_ne g b fresh k hk
    refine ⟨(rowsAt g b fresh k).dropLast, (rowsAt g b fresh k).getLast hne, (List.dropLast_concat_getLast hne).symm, ?_⟩
    rw [List.getLastD_eq_getLast?, List.getLast?_eq_some_getLast hne]
    rfl
theorem rowsAt_len (k : Nat) : (rowsAt g b fresh k).length ≤ k := by
  induction k with
  | zero => exact Nat.le_refl _
  | succ k ih =>
    rw [rowsAt_succ]
    split
    · simp; omega
    · simp; omega
theorem rowsAt_in (k : Nat) : ∀ r ∈ rowsAt g b fresh k, r.length ≤ k ∧ ∀ i ∈ r, i < k := by
  induction k with
  | zero => intro r hr; simp [rowsAt] at hr
  | succ k ih =>
    intro r hr
    rw [rowsAt_succ] at hr
    split at hr
    · rcases List.mem_append.1 hr with h | h
      · exact ⟨by have := (ih r h).1; omega, fun i hi => by have := (ih r h).2 i hi; omega⟩
      · simp at h; subst h
        exact ⟨by simp, fun i hi => by simp at hi; omega⟩
    · rcases List.mem_append.1 hr with h | h
      · have h' := (List.dropLast_sublist _).subset h
        exact ⟨by have := (ih r h').1; omega, fun i hi => by have := (ih r h').2 i hi; omega⟩
      · obtain rfl := List.mem_singleton.1 h
        have hl : ((rowsAt g b fresh k).getLastD []).length ≤ k ∧ ∀ i ∈ (rowsAt g b fresh k).getLastD [], i < k := by
          cases hr : rowsAt g b fresh k with
          | nil => simp
          | cons a l =>
            have : (a :: l).getLastD [] ∈ rowsAt g b fresh k := by
              rw [hr, List.getLastD_eq_getLast?, List.getLast?_eq_some_getLast (by simp)]
              exact List.getLast_mem _
            exact ih _ this
        exact ⟨by rw [List.length_append, List.length_singleton]; omega, fun i hi => by
          rcases List.mem_append.1 hi with h | h
          · have := hl.2 i h; omega
          · have := List.mem_singleton.1 h; omega⟩
theorem rowsAt_row (k j : Nat) : ((rowsAt g b fresh k).getD j []).length ≤ k ∧ ∀ i, i < ((rowsAt g b fresh k).getD j []).length → ((rowsAt g b fresh k).getD j []).getD i 0 < k := by
  by_cases hj : j < (rowsAt g b fresh k).length
  · have hm : (rowsAt g b fresh k).getD j [] ∈ rowsAt g b fresh k := by
      simp only [List.getD, List.getElem?_eq_getElem hj, Option.getD_some]
      exact List.getElem_mem hj
    refine ⟨(rowsAt_in g b fresh k _ hm).1, fun i hi => (rowsAt_in g b fresh k _ hm).2 _ ?_⟩
    generalize (rowsAt g b fresh k).getD j [] = r at *
    simp only [List.getD, List.getElem?_eq_getElem hi, Option.getD_some]
    exact List.getElem_mem hi
  · have e : (rowsAt g b fresh k).getD j [] = [] := by simp [List.getD, List.getElem?_eq_none (Nat.le_of_not_lt hj)]
    rw [e]
    exact ⟨Nat.zero_le _, fun i hi => by simp at hi⟩
theorem fold_congr {b' : Nat → Int × Int} (l : List Nat) (s : St) (h : ∀ i ∈ l, b i = b' i) : l.foldl (fun s i => s.put g (b i)) s = l.foldl (fun s i => s.put g (b' i)) s := by
  induction l generalizing s with
  | nil => rfl
  | cons a l ih => rw [List.foldl_cons, List.foldl_cons, h a (by simp), ih _ (fun i hi => h i (by simp [hi]))]
theorem placed_same {b' : Nat → Int × Int} (rows : List (List Nat)) (h : ∀ r ∈ rows, ∀ i ∈ r, b i = b' i) (j : Nat) : placed g b rows j = placed g b' rows j := by
  induction j with
  | zero => rfl
  | succ j ih =>
    rw [placed_succ, placed_succ, ih]
    refine fold_congr g b _ _ fun i hi => ?_
    by_cases hj : j < rows.length
    · refine h (rows.getD j []) ?_ i hi
      simp only [List.getD, List.getElem?_eq_getElem hj, Option.getD_some]
      exact List.getElem_mem hj
    · simp [List.getD, List.getElem?_eq_none (Nat.le_of_not_lt hj)] at hi
end ref
end P14
end Go.Proofs.Ytgcadpfgdfjceaa
