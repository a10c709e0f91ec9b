/-
  Plain mathematics of layer 14 (flow): the pen of the program and the rows of the document, as functions on lists of integers; no program in sight.
-/
import Derived.Test.YtgcadpfgdfjceaaSatPlain
namespace Go.Proofs.Ytgcadpfgdfjceaa
namespace P14
open P1

/-- A number that isn't below 0. -/
def least (n : Int) : Int := max 0 (sat n)
theorem least_lo (n : Int) : 0 ≤ least n := by unfold least; omega
theorem least_hi (n : Int) : least n ≤ 2147483647 := by unfold least; have := sat_hi n; omega

/-- The sum of three, one behind the other. -/
def sum3 (x n g : Int) : Int := sum [x, n, g]
theorem sum3_eq (x n g : Int) : sum3 x n g = add (add x n) g := by
  have h0 : sat 0 = 0 := by unfold sat; omega
  show add (add (add 0 x) n) g = _
  unfold add
  simp only [h0, Int.zero_add, sat_sat]
theorem add_lo (a b : Int) : -2147483648 ≤ add a b := sat_lo _
theorem add_hi (a b : Int) : add a b ≤ 2147483647 := sat_hi _

/-- Where the next box goes, and what has been put. -/
structure St where
  x : Int
  y : Int
  h : Int
  W : Int
  out : List (Int × Int)

def St.put (g : Int) (s : St) (b : Int × Int) : St :=
  { x := sum3 s.x b.1 g, y := s.y, h := max s.h b.2, W := max s.W (add s.x b.1), out := s.out ++ [(s.x, s.y)] }
def St.row (g : Int) (s : St) : St := { x := 0, y := sum3 s.y s.h g, h := 0, W := s.W, out := s.out }
def st0 : St := ⟨0, 0, 0, 0, []⟩

section prog
variable (g : Int) (b : Nat → Int × Int) (nx : Nat → Int → Int → Bool)
/-- Behind the question whether a row begins. -/
def pre (k : Nat) (s : St) : St := if 0 < k ∧ nx k s.x (b k).1 = true then s.row g else s
/-- The program's pen behind k boxes (b k: how much it takes, how high it is). -/
def penAt : Nat → St
  | 0 => st0
  | k + 1 => (pre g b nx k (penAt k)).put g (b k)
theorem penAt_succ (k : Nat) : penAt g b nx (k + 1) = (pre g b nx k (penAt g b nx k)).put g (b k) := rfl
theorem pre_out (k : Nat) (s : St) : (pre g b nx k s).out = s.out := by unfold pre; split <;> rfl
theorem penAt_len (k : Nat) : (penAt g b nx k).out.length = k := by
  induction k with
  | zero => rfl
  | succ k ih => simp [penAt_succ, St.put, pre_out, ih]
end prog

section ref
variable (g : Int) (b : Nat → Int × Int)
/-- The document's place: behind j rows. -/
def placed (rows : List (List Nat)) : Nat → St
  | 0 => st0
  | j + 1 => (rows.getD j []).foldl (fun s i => s.put g (b i)) (if j = 0 then st0 else (placed rows j).row g)
theorem placed_succ (rows : List (List Nat)) (j : Nat) :
    placed g b rows (j + 1) = (rows.getD j []).foldl (fun s i => s.put g (b i)) (if j = 0 then st0 else (placed g b rows j).row g) := rfl
theorem placed_congr {r r' : List (List Nat)} (j : Nat) (h : ∀ i, i < j → r.getD i [] = r'.getD i []) : placed g b r j = placed g b r' j := by
  induction j with
  | zero => rfl
  | succ j ih => rw [placed_succ, placed_succ, h j (by omega), ih (fun i hi => h i (by omega))]

/-- Where the document begins row j. -/
def begun (rows : List (List Nat)) (j : Nat) : St := if j = 0 then st0 else (placed g b rows j).row g
theorem placed_begun (rows : List (List Nat)) (j : Nat) : placed g b rows (j + 1) = (rows.getD j []).foldl (fun s i => s.put g (b i)) (begun g b rows j) := rfl
theorem fold_len (l : List Nat) (s : St) : (l.foldl (fun s i => s.put g (b i)) s).out.length = s.out.length + l.length := by
  induction l generalizing s with
  | nil => rfl
  | cons a l ih => rw [List.foldl_cons, ih]; simp only [St.put, List.length_append, List.length_cons, List.length_nil]; omega
theorem fold_y (l : List Nat) (s : St) : (l.foldl (fun s i => s.put g (b i)) s).y = s.y := by
  induction l generalizing s with
  | nil => rfl
  | cons a l ih => rw [List.foldl_cons, ih]; rfl
theorem begun_out (rows : List (List Nat)) (j : Nat) : (begun g b rows j).out = (placed g b rows j).out ∧ (begun g b rows j).W = (placed g b rows j).W ∧ (begun g b rows j).x = 0 ∧ (begun g b rows j).h = 0 := by
  unfold begun
  split
  · rename_i h; subst h; exact ⟨rfl, rfl, rfl, rfl⟩
  · exact ⟨rfl, rfl, rfl, rfl⟩
theorem placed_len (rows : List (List Nat)) (h : ∀ j, (rows.getD j []).length ≤ 40) (j : Nat) : (placed g b rows j).out.length ≤ 40 * j := by
  induction j with
  | zero => exact Nat.zero_le _
  | succ j ih =>
    rw [placed_begun, fold_len, (begun_out g b rows j).1]
    have := h j
    omega
/-- The height of the whole, behind j rows. -/
def high (rows : List (List Nat)) (j : Nat) : Int := if j = 0 then 0 else add (placed g b rows j).y (placed g b rows j).h

variable (fresh : Nat → Int → Bool)
/-- Where the document stands in its row ahead of box k. -/
def rx : Nat → Int
  | 0 => 0
  | k + 1 => add (add (if fresh k (rx k) = true then 0 else rx k) (b k).1) g
/-- The document's rows behind k boxes. -/
def rowsAt : Nat → List (List Nat)
  | 0 => []
  | k + 1 => if fresh k (rx g b fresh k) = true then rowsAt k ++ [[k]] else (rowsAt k).dropLast ++ [(rowsAt k).getLastD [] ++ [k]]
theorem rowsAt_succ (k : Nat) : rowsAt g b fresh (k + 1) = if fresh k (rx g b fresh k) = true then rowsAt g b fresh k ++ [[k]] else (rowsAt g b fresh k).dropLast ++ [(rowsAt g b fresh k).getLastD [] ++ [k]] := rfl
theorem rx_succ (k : Nat) : rx g b fresh (k + 1) = add (add (if fresh k (rx g b fresh k) = true then 0 else rx g b fresh k) (b k).1) g := rfl
end ref

section law
variable {g : Int} {b : Nat → Int × Int} {nx : Nat → Int → Int → Bool} {fresh : Nat → Int → Bool}

/-- Both put each box at the same place. -/
theorem same (hf : ∀ k x, fresh k x = true ↔ (k = 0 ∨ nx k x (b k).1 = true)) (k : Nat) :
    (penAt g b nx k).x = rx g b fresh k ∧ (0 < k → rowsAt g b fresh k ≠ []) ∧ placed g b (rowsAt g b fresh k) (rowsAt g b fresh k).length = penAt g b nx k := by
  induction k with
  | zero => exact ⟨rfl, fun h => absurd h (by omega), rfl⟩
  | succ k ih =>
    obtain ⟨ix, ine, ip⟩ := ih
    have hxx : (pre g b nx k (penAt g b nx k)).x = if fresh k (rx g b fresh k) = true then 0 else rx g b fresh k := by
      unfold pre
      by_cases hk : k = 0
      · subst hk
        rw [if_neg (by omega), if_pos ((hf 0 _).2 (.inl rfl))]
        rfl
      · by_cases hn : nx k (penAt g b nx k).x (b k).1 = true
        · rw [if_pos ⟨by omega, hn⟩, if_pos ((hf k _).2 (.inr (by rw [← ix]; exact hn)))]
          rfl
        · rw [if_neg (fun h => hn h.2), if_neg, ix]
          intro h
          rcases (hf k _).1 h with h | h
          · exact hk h
          · exact hn (by rw [ix]; exact h)
    refine ⟨?_, fun _ => ?_, ?_⟩
    · rw [penAt_succ, rx_succ]
      simp only [St.put, sum3_eq]
      rw [hxx]
    · rw [rowsAt_succ]
      split <;> simp
    · rw [rowsAt_succ, penAt_succ]
      by_cases hk : k = 0
      · subst hk
        rw [if_pos ((hf 0 _).2 (.inl rfl))]
        rfl
      · have hne := ine (by omega)
        by_cases hn : nx k (penAt g b nx k).x (b k).1 = true
        · rw [if_pos ((hf k _).2 (.inr (by rw [← ix]; exact hn)))]
          simp only [List.length_append, List.length_cons, List.length_nil]
          rw [placed_succ]
          have hl : (rowsAt g b fresh k).length ≠ 0 := fun h => hne (List.eq_nil_of_length_eq_zero h)
          rw [if_neg hl, placed_congr g b (r' := rowsAt g b fresh k) _ (fun i hi => by simp [List.getD, List.getElem?_append_left hi]), ip]
          have e : (rowsAt g b fresh k ++ [[k]]).getD (rowsAt g b fresh k).length [] = [k] := by simp [List.getD]
          rw [e]
          simp only [List.foldl_cons, List.foldl_nil]
          unfold pre
          rw [if_pos ⟨by omega, hn⟩]
        · have hfr : ¬ fresh k (rx g b fresh k) = true := by
            intro h
            rcases (hf k _).1 h with h | h
            · exact hk h
            · exact hn (by rw [ix]; exact h)
          rw [if_neg hfr]
          generalize rowsAt g b fresh k = r at *
          obtain ⟨i, l, rfl⟩ : ∃ i l, r = i ++ [l] := ⟨r.dropLast, r.getLast hne, (List.dropLast_concat_getLast hne).symm⟩
          simp only [List.dropLast_concat, List.getLastD_concat, List.length_append, List.length_cons, List.length_nil] at ip ⊢
          have e2 : (i ++ [l ++ [k]]).getD i.length [] = l ++ [k] := by simp [List.getD]
          have e3 : (i ++ [l]).getD i.length [] = l := by simp [List.getD]
          rw [placed_succ, e3] at ip
          rw [placed_succ, e2, List.foldl_append, placed_congr g b (r' := i ++ [l]) _ (fun j hj => by simp [List.getD, List.getElem?_append_left hj]), ip]
          simp only [List.foldl_cons, List.foldl_nil]
          unfold pre
          rw [if_neg (fun h => hn h.2)]
end law

end P14
end Go.Proofs.Ytgcadpfgdfjceaa
