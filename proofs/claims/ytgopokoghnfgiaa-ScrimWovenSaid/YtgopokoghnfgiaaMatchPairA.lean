/-
  Words for Pair.
-/
import Derived.Test.YtgopokoghnfgiaaMatchFam
namespace Go.Proofs.Ytgopokoghnfgiaa
open Go.RowKit Go.Maps

theorem PM.mono {w : World} {M n : Nat} {q : Nm → Option Nat} (h : PM w M n q) : PM w M (n + 1) q := by
  obtain ⟨D, h1, h2⟩ := h
  exact ⟨D, h1.mono (by omega), h2⟩
theorem Fr.mono {base : Nat} {w wx : World} {M : Nat} {q : Qm} {L : Nm → List Nat} {k : Nat} {N : Value} {nn : Nat} {ns : List Value} (f : Fr base w wx M q L k N nn ns) : Fr base w wx M q L (k + 1) N nn ns :=
  ⟨f.map.mono, f.mB, f.none_, f.blk, f.apart, f.names, f.size, f.below⟩

theorem int_info : (Try.prog.info? 3).map (fun i => (i.zero, i.size, i.bytes)) = some (some (.int .i64 0), 1, 8) := by kernel_rfl
/-- What Pair leaves. -/
def PairPost (w : World) (m : Nat) (l : List Int) (e : Ending) (w' : World) : Prop :=
  ∃ A c, e = .returned (.slice A m c) ∧ w'.ownsRow w.heap.size 3 1 (.slice A m c) m (nums l) ∧ Below w.heap.size w w'

end Go.Proofs.Ytgopokoghnfgiaa
