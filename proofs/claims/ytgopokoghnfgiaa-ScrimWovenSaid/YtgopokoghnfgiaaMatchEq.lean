/-
  What '==' says of two kids.
-/
import Derived.Test.YtgopokoghnfgiaaMatchTake
import Derived.Laws.StructEq
namespace Go.Proofs.Ytgopokoghnfgiaa
open Go.RowKit

def eqK (s s' : ByteArray) (t t' : Int) : Bool := decide (((s, t) : Kid) = (s', t'))
theorem toList_inj {s s' : ByteArray} (h : s.toList = s'.toList) : s = s' := by
  rw [ByteArray.toList_eq, ByteArray.toList_eq] at h
  obtain ⟨⟨x⟩⟩ := s
  obtain ⟨⟨y⟩⟩ := s'
  simp at h
  rw [h]
theorem eq_kid (s s' : ByteArray) (t t' : Int) (w : World) : (Op.equalIn 10000 29 (.agg #[.int .i64 t, .string s]) (.agg #[.int .i64 t', .string s'])).run Try.prog w = .ok (eqK s s' t t') w := by
  have u3 := Try.underlying3
  have u9 := Try.underlying9
  have hS : Try.prog.underlying 29 = some (.struct (Try.prog.fieldsOf 29)) := by kernel_rfl
  have hp : Try.prog.stoodInHeld 29 = false := by kernel_rfl
  rw [show (10000 : Nat) = 9999 + 1 from rfl, run_equalIn_agg w 9999 29 _ _ hS hp]
  simp only [Program.fieldsOf, Try.underlying29]
  go_simp
  by_cases h1 : t = t'
  · by_cases h2 : s.toList = s'.toList
    · have h3 := toList_inj h2
      rw [if_pos h1, if_pos h2]
      simp [eqK, h1, h3]
    · rw [if_pos h1, if_neg h2]
      have h3 : ¬ s = s' := fun e => h2 (by rw [e])
      simp [eqK, h3]
  · rw [if_neg h1]
    simp [eqK, h1]

theorem guard_kid : Try.prog.eqGuardType Try.prog.depth 29 = false := by kernel_rfl

end Go.Proofs.Ytgopokoghnfgiaa
