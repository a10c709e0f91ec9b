/-
  Plain mathematics of layer 1 (sat): what the program's functions and the document's compute, as functions on integers; no program in sight.
-/
namespace Go.Proofs.Ytgcadpfgdfjceaa
namespace P1

/-- The nearest number that may be. -/
def sat (x : Int) : Int := if x > 2147483647 then 2147483647 else if x < -2147483648 then -2147483648 else x
theorem sat_bd (x : Int) : -2147483648 ≤ sat x ∧ sat x ≤ 2147483647 := by unfold sat; split <;> (try split) <;> omega
theorem sat_lo (x : Int) : -2147483648 ≤ sat x := (sat_bd x).1
theorem sat_hi (x : Int) : sat x ≤ 2147483647 := (sat_bd x).2
theorem sat_id {x : Int} (h : -2147483648 ≤ x) (h' : x ≤ 2147483647) : sat x = x := by unfold sat; rw [if_neg (by omega), if_neg (by omega)]
theorem sat_max (x : Int) : max (-2147483648) (min x 2147483647) = sat x := by unfold sat; omega
theorem sat_sat (x : Int) : sat (sat x) = sat x := sat_id (sat_lo x) (sat_hi x)
theorem sat_zero {x : Int} : sat x = 0 ↔ x = 0 := by unfold sat; split <;> (try split) <;> omega

def add (a b : Int) : Int := sat (sat a + sat b)
def sub (a b : Int) : Int := sat (sat a - sat b)
def mul (a b : Int) : Int := sat (sat a * sat b)
/-- The clock's last tick. -/
def later (now d : Int) : Int := min (max 0 (min now 1099511627776) + max 0 (min d 1099511627776)) 1099511627776

theorem mul_bd {a b : Int} (ha : -2147483648 ≤ a) (ha' : a ≤ 2147483647) (hb : -2147483648 ≤ b) (hb' : b ≤ 2147483647) :
    -4611686018427387904 ≤ a * b ∧ a * b ≤ 4611686018427387904 := by
  have h1 : (a + 2147483648) * (b + 2147483648) ≥ 0 := Int.mul_nonneg (by omega) (by omega)
  have h2 : (2147483648 - a) * (2147483648 - b) ≥ 0 := Int.mul_nonneg (by omega) (by omega)
  have h3 : (a + 2147483648) * (2147483648 - b) ≥ 0 := Int.mul_nonneg (by omega) (by omega)
  have h4 : (2147483648 - a) * (b + 2147483648) ≥ 0 := Int.mul_nonneg (by omega) (by omega)
  simp only [Int.add_mul, Int.mul_add, Int.sub_mul, Int.mul_sub] at h1 h2 h3 h4
  omega

/-- The sum of many, one behind the other. -/
def sum (l : List Int) : Int := l.foldl add 0

/-! ### Quotients, downwards -/
/-- Does the quotient that is cut towards nought lie above? -/
def cut (a b : Int) : Prop := a.tmod b ≠ 0 ∧ (a.tmod b < 0 ↔ ¬ b < 0)
instance (a b : Int) : Decidable (cut a b) := by unfold cut; infer_instance
def fq (a b : Int) : Int := if cut a b then a.tdiv b - 1 else a.tdiv b
def fr (a b : Int) : Int := if cut a b then a.tmod b + b else a.tmod b
def div (a b : Int) : Int := if b = 0 then 0 else sat (fq (sat a) (sat b))
def mod (a b : Int) : Int := if b = 0 then 0 else fr (sat a) (sat b)

theorem tdiv_bd {a b : Int} (ha : -2147483648 ≤ a) (ha' : a ≤ 2147483647) : -2147483648 ≤ a.tdiv b ∧ a.tdiv b ≤ 2147483648 := by
  have h : (a.tdiv b).natAbs ≤ a.natAbs := by rw [Int.natAbs_tdiv]; exact Nat.div_le_self _ _
  omega
theorem tmod_bd {a b : Int} (hb : b ≠ 0) : (a.tmod b).natAbs < b.natAbs := by
  rw [Int.natAbs_tmod]; exact Nat.mod_lt _ (by omega)
theorem tmod_sign {a b : Int} : (0 ≤ a → 0 ≤ a.tmod b) ∧ (a ≤ 0 → a.tmod b ≤ 0) := by
  refine ⟨fun h => Int.tmod_nonneg _ h, fun h => ?_⟩
  have := Int.tmod_nonneg b (a := -a) (by omega)
  rw [Int.neg_tmod] at this
  omega
theorem tdiv_eq (a b : Int) : a.tdiv b * b = a - a.tmod b := by
  have := Int.mul_tdiv_add_tmod a b
  rw [Int.mul_comm] at this
  omega

end P1
end Go.Proofs.Ytgcadpfgdfjceaa
