/-
  Plain law: which kid is which.
-/
import Derived.Test.YtgopokoghnfgiaaMatchMap
namespace Go.Proofs.Ytgopokoghnfgiaa

def isEmp (p : Kid) : Bool := p.1.toList.isEmpty
/-- How many without a key stand ahead of a place. -/
def aheadN (l : List Kid) (i : Nat) : Nat := ((l.take i).filter isEmp).length
def nmAt (p : Kid) (n : Nat) : Nm := (p, if isEmp p = true then n else 0)
def nm (l : List Kid) (i : Nat) : Nm := nmAt (l.getD i kid0) (aheadN l i)
def nm0 : Nm := (kid0, 0)
def namesTo (l : List Kid) (k : Nat) : List Nm := (List.range k).map (nm l)
theorem namesTo_len (l : List Kid) (k : Nat) : (namesTo l k).length = k := by simp [namesTo]
theorem namesTo_succ (l : List Kid) (k : Nat) : namesTo l (k + 1) = namesTo l k ++ [nm l k] := by simp [namesTo, List.range_succ]
theorem namesTo_at (l : List Kid) (k j : Nat) (h : j < k) : (namesTo l k).getD j nm0 = nm l j := by simp [namesTo, List.getD, h]
theorem aheadN_succ (l : List Kid) (k : Nat) (h : k < l.length) : aheadN l (k + 1) = if isEmp (l.getD k kid0) = true then aheadN l k + 1 else aheadN l k := by
  rw [aheadN, take_snoc l kid0 k h, List.filter_append, List.length_append, aheadN]
  generalize l.getD k kid0 = p
  cases he : isEmp p <;> simp [List.filter, he]
theorem aheadN_le (l : List Kid) (k : Nat) : aheadN l k ≤ k := by
  rw [aheadN]
  refine Nat.le_trans (List.length_filter_le _ _) ?_
  simp; omega

/-- Kids as they are cut. -/
def OkK (l : List Kid) : Prop := l.length ≤ 1000 ∧ ∀ p ∈ l, p.1.size ≤ 20 ∧ (Lit.int .i64 p.2).wf = true
theorem OkK.at (l : List Kid) (h : OkK l) (i : Nat) : (l.getD i kid0).1.size ≤ 20 ∧ (Lit.int .i64 (l.getD i kid0).2).wf = true := by
  by_cases hi : i < l.length
  · have e : l.getD i kid0 = l[i] := by simp [List.getD, hi]
    rw [e]; exact h.2 _ (List.getElem_mem hi)
  · have e : l.getD i kid0 = kid0 := by simp [List.getD, Nat.not_lt.1 hi]
    rw [e]; exact ⟨by decide, by decide⟩
theorem OkK.nm {l : List Kid} (h : OkK l) (i : Nat) (hi : i ≤ l.length) : okN (nm l i) := by
  obtain ⟨h1, h2⟩ := OkK.at l h i
  refine ⟨h1, h2, ?_⟩
  show (if isEmp (l.getD i kid0) = true then aheadN l i else 0) ≤ 1000
  split
  · have := aheadN_le l i; have := h.1; omega
  · omega

def free (old : List Kid) (k : Nat) (x : Nm) : List Nat := (List.range k).filter fun j => decide (nm old j = x)
theorem free_zero (old : List Kid) (x : Nm) : free old 0 x = [] := rfl
theorem free_succ (old : List Kid) (k : Nat) (x : Nm) : free old (k + 1) x = if nm old k = x then free old k x ++ [k] else free old k x := by
  rw [free, List.range_succ, List.filter_append]
  by_cases h : nm old k = x <;> simp [List.filter, h, free]
theorem free_len (old : List Kid) (k : Nat) (x : Nm) : (free old k x).length ≤ k := Nat.le_trans (List.length_filter_le _ _) (by simp)

/-- Who is free for a name, behind some that are had. -/
def freeOf (old : List Kid) (outs : List Int) (x : Nm) : List Nat := (List.range old.length).filter fun j => decide (nm old j = x) && !(outs.contains (j : Int))
theorem freeOf_nil (old : List Kid) (x : Nm) : freeOf old [] x = free old old.length x := by simp [freeOf, free]
def pick (l : List Nat) : Int := match l with
  | [] => -1
  | a :: _ => (a : Nat)
def pairTo (old fresh : List Kid) : Nat → List Int
  | 0 => []
  | k + 1 => pairTo old fresh k ++ [pick (freeOf old (pairTo old fresh k) (nm fresh k))]
def pairS (old fresh : List Kid) : List Int := pairTo old fresh fresh.length
theorem pairTo_len (old fresh : List Kid) (k : Nat) : (pairTo old fresh k).length = k := by
  induction k with
  | zero => rfl
  | succ k ih => simp [pairTo, ih]
theorem pairS_len (old fresh : List Kid) : (pairS old fresh).length = fresh.length := pairTo_len _ _ _

theorem freeOf_snoc (old : List Kid) (outs : List Int) (a : Int) (x : Nm) : freeOf old (outs ++ [a]) x = (freeOf old outs x).filter fun (j : Nat) => !((j : Int) == a) := by
  rw [freeOf, freeOf, List.filter_filter]
  refine List.filter_congr fun j _ => ?_
  simp only [List.contains_eq_any_beq, List.any_append, List.any_cons, List.any_nil, Bool.or_false, Bool.not_or]
  generalize decide (nm old j = x) = p
  generalize (outs.any fun x => (j : Int) == x) = q
  generalize ((j : Int) == a) = r
  cases p <;> cases q <;> cases r <;> rfl
theorem freeOf_neg (old : List Kid) (outs : List Int) (x : Nm) : freeOf old (outs ++ [-1]) x = freeOf old outs x := by
  rw [freeOf_snoc]
  refine List.filter_eq_self.2 fun j _ => ?_
  simp
theorem freeOf_mem {old : List Kid} {outs : List Int} {x : Nm} {j : Nat} : j ∈ freeOf old outs x ↔ j < old.length ∧ nm old j = x ∧ (j : Int) ∉ outs := by
  simp [freeOf]
theorem freeOf_nodup (old : List Kid) (outs : List Int) (x : Nm) : (freeOf old outs x).Nodup := List.Nodup.sublist List.filter_sublist List.nodup_range
theorem freeOf_take {old : List Kid} {outs : List Int} {x : Nm} {a : Nat} {rest : List Nat} (h : freeOf old outs x = a :: rest) : freeOf old (outs ++ [(a : Int)]) x = rest := by
  rw [freeOf_snoc, h]
  have hn := freeOf_nodup old outs x
  rw [h, List.nodup_cons] at hn
  rw [List.filter_cons_of_neg (by simp)]
  refine List.filter_eq_self.2 fun j hj => ?_
  have : j ≠ a := fun e => hn.1 (e ▸ hj)
  simp; omega
theorem freeOf_other {old : List Kid} {outs : List Int} {x y : Nm} {a : Nat} {rest : List Nat} (h : freeOf old outs x = a :: rest) (hy : y ≠ x) : freeOf old (outs ++ [(a : Int)]) y = freeOf old outs y := by
  have ha := freeOf_mem.1 (show a ∈ freeOf old outs x by rw [h]; simp)
  rw [freeOf_snoc]
  refine List.filter_eq_self.2 fun j hj => ?_
  have hj := freeOf_mem.1 hj
  have : j ≠ a := fun e => hy (by rw [← hj.2.1, e, ha.2.1])
  simp; omega

theorem pairTo_pre (old fresh : List Kid) (k i : Nat) (h : i < k) : (pairTo old fresh k).getD i 0 = pick (freeOf old (pairTo old fresh i) (nm fresh i)) := by
  induction k with
  | zero => omega
  | succ k ih =>
    have hl := pairTo_len old fresh k
    rw [pairTo]
    by_cases hi : i < k
    · rw [← ih hi]
      simp [List.getD, List.getElem?_append_left (show i < (pairTo old fresh k).length by omega)]
    · obtain rfl : i = k := by omega
      have e : (pairTo old fresh i ++ [pick (freeOf old (pairTo old fresh i) (nm fresh i))])[i]? = some (pick (freeOf old (pairTo old fresh i) (nm fresh i))) := by
        have := List.getElem?_concat_length (l := pairTo old fresh i) (a := pick (freeOf old (pairTo old fresh i) (nm fresh i)))
        rw [hl] at this
        exact this
      simp [List.getD, e]
/-- Who is had: nobody; or one of the same name, whom none of those ahead has. -/
theorem pick_cases (old fresh : List Kid) (i : Nat) :
    pick (freeOf old (pairTo old fresh i) (nm fresh i)) = -1 ∨ ∃ j : Nat, j < old.length ∧ pick (freeOf old (pairTo old fresh i) (nm fresh i)) = (j : Nat) ∧ nm old j = nm fresh i ∧ (j : Int) ∉ pairTo old fresh i := by
  cases h : freeOf old (pairTo old fresh i) (nm fresh i) with
  | nil => exact .inl rfl
  | cons a rest =>
    have ha := freeOf_mem.1 (show a ∈ freeOf old (pairTo old fresh i) (nm fresh i) by rw [h]; simp)
    exact .inr ⟨a, ha.1, rfl, ha.2.1, ha.2.2⟩

/-- The document's search, from the end on. -/
def foundTo (old : List Kid) (outs : List Int) (x : Nm) (m : Nat) : Int := pick ((List.range' m (old.length - m)).filter fun j => decide (nm old j = x) && !(outs.contains (j : Int)))
theorem foundTo_end (old : List Kid) (outs : List Int) (x : Nm) : foundTo old outs x old.length = -1 := by simp [foundTo, pick]
theorem foundTo_zero (old : List Kid) (outs : List Int) (x : Nm) : foundTo old outs x 0 = pick (freeOf old outs x) := by
  rw [foundTo, freeOf, Nat.sub_zero, List.range_eq_range']
theorem foundTo_step (old : List Kid) (outs : List Int) (x : Nm) (m : Nat) (h : m < old.length) :
    foundTo old outs x m = if (decide (nm old m = x) && !(outs.contains (m : Int))) = true then (m : Int) else foundTo old outs x (m + 1) := by
  rw [foundTo, show old.length - m = (old.length - (m + 1)) + 1 by omega, List.range'_succ, List.filter_cons]
  split <;> rfl
/-- When names are the same. -/
theorem nm_eq (old fresh : List Kid) (j i : Nat) : decide (nm old j = nm fresh i) = (decide (old.getD j kid0 = fresh.getD i kid0) && (!(isEmp (fresh.getD i kid0)) || aheadN old j == aheadN fresh i)) := by
  rw [nm, nm, nmAt, nmAt]
  by_cases h : old.getD j kid0 = fresh.getD i kid0
  · rw [h]
    cases he : isEmp (fresh.getD i kid0)
    · simp
    · simp only [Prod.mk.injEq, if_true, true_and, decide_true, Bool.true_and, Bool.not_true, Bool.false_or]
      rw [Bool.eq_iff_iff]
      simp
  · have h1 : decide (old.getD j kid0 = fresh.getD i kid0) = false := by simpa using h
    rw [h1, Bool.false_and]
    simp only [decide_eq_false_iff_not, Prod.mk.injEq]
    exact fun e => h e.1

end Go.Proofs.Ytgopokoghnfgiaa
