/-
  No cell of these rows narrows 'for every input' (looked for: loops, veiled, ifaces, maps, wideKeys, modest, calm, conditions, laid).
  DERIVED. THE GIVEN ROWS OF THIS SEAT. 4 by the template 'for every input the law returns true; each argument reads behind the call as it read before'; 0 by the template 'total and deterministic' (their statements: YtkiaaaehakjhjaaTotals.lean).
  GIVEN WITH THE SEED: the statements are not yours to turn. If you find one false, say at which input.
  Laid BY PROGRAM, IN A SANDBOX (cutbox-rows.mjs): the forced cells as the released guide's own fill.sh prints them over the translation 29c6ccc157721197… (all of the seat's roots in one cut). By AI agents, Wed Nov 11 2026. No macro, syntax, notation, axiom, sorry.
-/
import Derived.Test.YtkiaaaehakjhjaaChecked
import GoSem.Claim
import GoSem.ClaimJoined
import GoSem.ClaimMapViews
import Derived.JoinedTies
import Derived.KernelRfl
namespace Go.Proofs.Ytkiaaaehakjhjaa
/- THE CELL 'sum', in the pinned program and in every row, IS THE sha256 OF THE DUMP (.gsa) THAT YtkiaaaehakjhjaaProg.lean LOADS. Nothing in Lean hashes anything: it is a label: what it is worth is what the hold of that sum in a sandbox is worth. -/
noncomputable def Try.pinned : Pinned := { name := "ytkiaaaehakjhjaa", sum := "29c6ccc157721197f015d0504ca70926009291d765164f2055e84f66ac604632", checked := Try.checked }
namespace Rows
def none {H : Type} : Left H := { results := [], args := [] }

/-- 'scrimlaw26.SlotPlans': WHATEVER THE INPUT: true; the input reads as it did. -/
def slotPlansSpec : ChangeSpec := { name := "slotPlans", fn := fun _ => fun
  | [d1, d2, d3] => { results := [.lit (.bool true)], args := [d1, d2, d3] }
  | _ => none }
def slotPlansRow : OpenClaim := { program := "ytkiaaaehakjhjaa", sum := "29c6ccc157721197f015d0504ca70926009291d765164f2055e84f66ac604632", func := "scrim/scrimlaw26.SlotPlans", spec := "slotPlans", unfollowed := true, recurses := true, apart := false }
def SlotPlansSaid : Prop := slotPlansRow.holds Try.pinned (OpenSpec.ofChange slotPlansSpec)

/-- ITS FALSE NEIGHBOUR: 'it returns false'. Refute it at one input. -/
def slotPlansWrong : ChangeSpec := { name := "slotPlans", fn := fun _ => fun
  | [d1, d2, d3] => { results := [.lit (.bool false)], args := [d1, d2, d3] }
  | _ => none }
def SlotPlansWrongFalsely : Prop := slotPlansRow.holds Try.pinned (OpenSpec.ofChange slotPlansWrong)

/-- 'scrimlaw26.SlotOrder': WHATEVER THE INPUT: true; the input reads as it did. -/
def slotOrderSpec : ChangeSpec := { name := "slotOrder", fn := fun _ => fun
  | [d1, d2, d3] => { results := [.lit (.bool true)], args := [d1, d2, d3] }
  | _ => none }
def slotOrderRow : OpenClaim := { program := "ytkiaaaehakjhjaa", sum := "29c6ccc157721197f015d0504ca70926009291d765164f2055e84f66ac604632", func := "scrim/scrimlaw26.SlotOrder", spec := "slotOrder", unfollowed := true, recurses := true, apart := false }
def SlotOrderSaid : Prop := slotOrderRow.holds Try.pinned (OpenSpec.ofChange slotOrderSpec)

/-- ITS FALSE NEIGHBOUR: 'it returns false'. Refute it at one input. -/
def slotOrderWrong : ChangeSpec := { name := "slotOrder", fn := fun _ => fun
  | [d1, d2, d3] => { results := [.lit (.bool false)], args := [d1, d2, d3] }
  | _ => none }
def SlotOrderWrongFalsely : Prop := slotOrderRow.holds Try.pinned (OpenSpec.ofChange slotOrderWrong)

/-- 'scrimlaw26.SlotNext': WHATEVER THE INPUT: true; the input reads as it did. -/
def slotNextSpec : ChangeSpec := { name := "slotNext", fn := fun _ => fun
  | [d] => { results := [.lit (.bool true)], args := [d] }
  | _ => none }
def slotNextRow : OpenClaim := { program := "ytkiaaaehakjhjaa", sum := "29c6ccc157721197f015d0504ca70926009291d765164f2055e84f66ac604632", func := "scrim/scrimlaw26.SlotNext", spec := "slotNext", unfollowed := true, recurses := true, apart := false }
def SlotNextSaid : Prop := slotNextRow.holds Try.pinned (OpenSpec.ofChange slotNextSpec)

/-- ITS FALSE NEIGHBOUR: 'it returns false'. Refute it at one input. -/
def slotNextWrong : ChangeSpec := { name := "slotNext", fn := fun _ => fun
  | [d] => { results := [.lit (.bool false)], args := [d] }
  | _ => none }
def SlotNextWrongFalsely : Prop := slotNextRow.holds Try.pinned (OpenSpec.ofChange slotNextWrong)

/-- 'scrimlaw26.SlotEnds': WHATEVER THE INPUT: true; the input reads as it did. -/
def slotEndsSpec : ChangeSpec := { name := "slotEnds", fn := fun _ => fun
  | [d1, d2, d3] => { results := [.lit (.bool true)], args := [d1, d2, d3] }
  | _ => none }
def slotEndsRow : OpenClaim := { program := "ytkiaaaehakjhjaa", sum := "29c6ccc157721197f015d0504ca70926009291d765164f2055e84f66ac604632", func := "scrim/scrimlaw26.SlotEnds", spec := "slotEnds", unfollowed := true, recurses := true, apart := false }
def SlotEndsSaid : Prop := slotEndsRow.holds Try.pinned (OpenSpec.ofChange slotEndsSpec)

/-- ITS FALSE NEIGHBOUR: 'it returns false'. Refute it at one input. -/
def slotEndsWrong : ChangeSpec := { name := "slotEnds", fn := fun _ => fun
  | [d1, d2, d3] => { results := [.lit (.bool false)], args := [d1, d2, d3] }
  | _ => none }
def SlotEndsWrongFalsely : Prop := slotEndsRow.holds Try.pinned (OpenSpec.ofChange slotEndsWrong)

/- THE SECOND FORM. 'bulk': how many values and letters a reading holds, each counted each time it is reached (what is shared counts as often as it is met; a slice's spare places count too). A statement '..UptoSaid' is the law's where the arguments, and the package variables that the reading takes, are together of bulk at most 1048576: NARROWER than '..Said'. Prove '..Said' where nothing that the law and all that it calls make is longer than what came in: it says more and counts as full. Else prove '..UptoSaid'. A law counts once. -/
mutual
def uptoBulk {H : Type} : DataW H → Nat
  | .lit (.string bytes) => bytes.length + 1
  | .lit _ => 1
  | .nil => 1
  | .ptr d => uptoBulk d + 1
  | .slice elems spare => uptoBulkAll elems + uptoBulkAll spare + 1
  | .agg parts => uptoBulkAll parts + 1
  | .iface _ d => uptoBulk d + 1
  | .map entries => uptoBulkEntries entries + 1
  | .held _ => 1
def uptoBulkAll {H : Type} : List (DataW H) → Nat
  | [] => 0
  | d :: r => uptoBulk d + uptoBulkAll r
def uptoBulkEntries {H : Type} : List (Lit × DataW H) → Nat
  | [] => 0
  | x :: r => uptoBulkEntry x + uptoBulkEntries r
def uptoBulkEntry {H : Type} : Lit × DataW H → Nat
  | (.string bytes, d) => bytes.length + uptoBulk d + 1
  | (_, d) => uptoBulk d + 1
 end
def uptoSmall : (H : Type) → List (DataW H) → Bool := fun _ ds => decide (uptoBulkAll ds ≤ 1048576)
def OpenSpec.upto (s : _root_.Go.ChangeSpec) : _root_.Go.OpenSpec := { _root_.Go.OpenSpec.ofChange s with cond := some uptoSmall }

/-- 'scrimlaw26.SlotPlans', WHERE WHAT IT READS IS OF BULK AT MOST 1048576: true; the input reads as it did. -/
def slotPlansUptoRow : OpenClaim := { program := "ytkiaaaehakjhjaa", sum := "29c6ccc157721197f015d0504ca70926009291d765164f2055e84f66ac604632", func := "scrim/scrimlaw26.SlotPlans", spec := "slotPlans", unfollowed := true, recurses := true, apart := false, narrowed := true }
def SlotPlansUptoSaid : Prop := slotPlansUptoRow.holds Try.pinned (OpenSpec.upto slotPlansSpec)

/-- 'scrimlaw26.SlotOrder', WHERE WHAT IT READS IS OF BULK AT MOST 1048576: true; the input reads as it did. -/
def slotOrderUptoRow : OpenClaim := { program := "ytkiaaaehakjhjaa", sum := "29c6ccc157721197f015d0504ca70926009291d765164f2055e84f66ac604632", func := "scrim/scrimlaw26.SlotOrder", spec := "slotOrder", unfollowed := true, recurses := true, apart := false, narrowed := true }
def SlotOrderUptoSaid : Prop := slotOrderUptoRow.holds Try.pinned (OpenSpec.upto slotOrderSpec)

/-- 'scrimlaw26.SlotNext', WHERE WHAT IT READS IS OF BULK AT MOST 1048576: true; the input reads as it did. -/
def slotNextUptoRow : OpenClaim := { program := "ytkiaaaehakjhjaa", sum := "29c6ccc157721197f015d0504ca70926009291d765164f2055e84f66ac604632", func := "scrim/scrimlaw26.SlotNext", spec := "slotNext", unfollowed := true, recurses := true, apart := false, narrowed := true }
def SlotNextUptoSaid : Prop := slotNextUptoRow.holds Try.pinned (OpenSpec.upto slotNextSpec)

/-- 'scrimlaw26.SlotEnds', WHERE WHAT IT READS IS OF BULK AT MOST 1048576: true; the input reads as it did. -/
def slotEndsUptoRow : OpenClaim := { program := "ytkiaaaehakjhjaa", sum := "29c6ccc157721197f015d0504ca70926009291d765164f2055e84f66ac604632", func := "scrim/scrimlaw26.SlotEnds", spec := "slotEnds", unfollowed := true, recurses := true, apart := false, narrowed := true }
def SlotEndsUptoSaid : Prop := slotEndsUptoRow.holds Try.pinned (OpenSpec.upto slotEndsSpec)

end Rows
end Go.Proofs.Ytkiaaaehakjhjaa
