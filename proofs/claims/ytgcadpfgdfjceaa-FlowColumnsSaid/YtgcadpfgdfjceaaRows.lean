/-
  No cell of these rows narrows 'for every input' (looked for: loops, veiled, ifaces, maps, wideKeys, modest, calm, conditions, laid).
  DERIVED. THE GIVEN ROWS OF THIS SEAT. 9 by the template 'for every input the law returns true; each argument reads behind the call as it read before'; 0 by the template 'total and deterministic' (their statements: YtgcadpfgdfjceaaTotals.lean).
  GIVEN WITH THE SEED: the statements are not yours to turn. If you find one false, say at which input.
  Laid BY PROGRAM, IN A SANDBOX (cutbox-rows.mjs): the forced cells as the released guide's own fill.sh prints them over the translation 310defc113ec6421… (all of the seat's roots in one cut). By AI agents, Wed Nov 11 2026. No macro, syntax, notation, axiom, sorry.
-/
import Derived.Test.YtgcadpfgdfjceaaChecked
import GoSem.Claim
import GoSem.ClaimJoined
import GoSem.ClaimMapViews
import Derived.JoinedTies
import Derived.KernelRfl
namespace Go.Proofs.Ytgcadpfgdfjceaa
/- THE CELL 'sum', in the pinned program and in every row, IS THE sha256 OF THE DUMP (.gsa) THAT YtgcadpfgdfjceaaProg.lean LOADS. Nothing in Lean hashes anything: it is a label: what it is worth is what the hold of that sum in a sandbox is worth. -/
noncomputable def Try.pinned : Pinned := { name := "ytgcadpfgdfjceaa", sum := "310defc113ec642162d983866d50edfa9017bb012ad8cee0bf7cf796b9e27169", checked := Try.checked }
namespace Rows
def none {H : Type} : Left H := { results := [], args := [] }

/-- 'scrimlaw01.SatParts': WHATEVER THE INPUT: true; the input reads as it did. -/
def satPartsSpec : ChangeSpec := { name := "satParts", fn := fun _ => fun
  | [d1, d2] => { results := [.lit (.bool true)], args := [d1, d2] }
  | _ => none }
def satPartsRow : OpenClaim := { program := "ytgcadpfgdfjceaa", sum := "310defc113ec642162d983866d50edfa9017bb012ad8cee0bf7cf796b9e27169", func := "scrim/scrimlaw01.SatParts", spec := "satParts", apart := false }
def SatPartsSaid : Prop := satPartsRow.holds Try.pinned (OpenSpec.ofChange satPartsSpec)

/-- ITS FALSE NEIGHBOUR: 'it returns false'. Refute it at one input. -/
def satPartsWrong : ChangeSpec := { name := "satParts", fn := fun _ => fun
  | [d1, d2] => { results := [.lit (.bool false)], args := [d1, d2] }
  | _ => none }
def SatPartsWrongFalsely : Prop := satPartsRow.holds Try.pinned (OpenSpec.ofChange satPartsWrong)

/-- 'scrimlaw01.SatClips': WHATEVER THE INPUT: true; the input reads as it did. -/
def satClipsSpec : ChangeSpec := { name := "satClips", fn := fun _ => fun
  | [d1, d2, d3] => { results := [.lit (.bool true)], args := [d1, d2, d3] }
  | _ => none }
def satClipsRow : OpenClaim := { program := "ytgcadpfgdfjceaa", sum := "310defc113ec642162d983866d50edfa9017bb012ad8cee0bf7cf796b9e27169", func := "scrim/scrimlaw01.SatClips", spec := "satClips", apart := false }
def SatClipsSaid : Prop := satClipsRow.holds Try.pinned (OpenSpec.ofChange satClipsSpec)

/-- ITS FALSE NEIGHBOUR: 'it returns false'. Refute it at one input. -/
def satClipsWrong : ChangeSpec := { name := "satClips", fn := fun _ => fun
  | [d1, d2, d3] => { results := [.lit (.bool false)], args := [d1, d2, d3] }
  | _ => none }
def SatClipsWrongFalsely : Prop := satClipsRow.holds Try.pinned (OpenSpec.ofChange satClipsWrong)

/-- 'scrimlaw01.SatSums': WHATEVER THE INPUT: true; the input reads as it did. -/
def satSumsSpec : ChangeSpec := { name := "satSums", fn := fun _ => fun
  | [d1, d2] => { results := [.lit (.bool true)], args := [d1, d2] }
  | _ => none }
def satSumsRow : OpenClaim := { program := "ytgcadpfgdfjceaa", sum := "310defc113ec642162d983866d50edfa9017bb012ad8cee0bf7cf796b9e27169", func := "scrim/scrimlaw01.SatSums", spec := "satSums", apart := false }
def SatSumsSaid : Prop := satSumsRow.holds Try.pinned (OpenSpec.ofChange satSumsSpec)

/-- ITS FALSE NEIGHBOUR: 'it returns false'. Refute it at one input. -/
def satSumsWrong : ChangeSpec := { name := "satSums", fn := fun _ => fun
  | [d1, d2] => { results := [.lit (.bool false)], args := [d1, d2] }
  | _ => none }
def SatSumsWrongFalsely : Prop := satSumsRow.holds Try.pinned (OpenSpec.ofChange satSumsWrong)

/-- 'scrimlaw01.SatClock': WHATEVER THE INPUT: true; the input reads as it did. -/
def satClockSpec : ChangeSpec := { name := "satClock", fn := fun _ => fun
  | [d1, d2] => { results := [.lit (.bool true)], args := [d1, d2] }
  | _ => none }
def satClockRow : OpenClaim := { program := "ytgcadpfgdfjceaa", sum := "310defc113ec642162d983866d50edfa9017bb012ad8cee0bf7cf796b9e27169", func := "scrim/scrimlaw01.SatClock", spec := "satClock", apart := false }
def SatClockSaid : Prop := satClockRow.holds Try.pinned (OpenSpec.ofChange satClockSpec)

/-- ITS FALSE NEIGHBOUR: 'it returns false'. Refute it at one input. -/
def satClockWrong : ChangeSpec := { name := "satClock", fn := fun _ => fun
  | [d1, d2] => { results := [.lit (.bool false)], args := [d1, d2] }
  | _ => none }
def SatClockWrongFalsely : Prop := satClockRow.holds Try.pinned (OpenSpec.ofChange satClockWrong)

/-- 'scrimlaw01.SatLists': WHATEVER THE INPUT: true; the input reads as it did. -/
def satListsSpec : ChangeSpec := { name := "satLists", fn := fun _ => fun
  | [d] => { results := [.lit (.bool true)], args := [d] }
  | _ => none }
def satListsRow : OpenClaim := { program := "ytgcadpfgdfjceaa", sum := "310defc113ec642162d983866d50edfa9017bb012ad8cee0bf7cf796b9e27169", func := "scrim/scrimlaw01.SatLists", spec := "satLists", apart := false }
def SatListsSaid : Prop := satListsRow.holds Try.pinned (OpenSpec.ofChange satListsSpec)

/-- ITS FALSE NEIGHBOUR: 'it returns false'. Refute it at one input. -/
def satListsWrong : ChangeSpec := { name := "satLists", fn := fun _ => fun
  | [d] => { results := [.lit (.bool false)], args := [d] }
  | _ => none }
def SatListsWrongFalsely : Prop := satListsRow.holds Try.pinned (OpenSpec.ofChange satListsWrong)

/-- 'scrimlaw14.FlowPuts': WHATEVER THE INPUT: true; the input reads as it did. -/
def flowPutsSpec : ChangeSpec := { name := "flowPuts", fn := fun _ => fun
  | [d] => { results := [.lit (.bool true)], args := [d] }
  | _ => none }
def flowPutsRow : OpenClaim := { program := "ytgcadpfgdfjceaa", sum := "310defc113ec642162d983866d50edfa9017bb012ad8cee0bf7cf796b9e27169", func := "scrim/scrimlaw14.FlowPuts", spec := "flowPuts", unfollowed := true, recurses := true, apart := false }
def FlowPutsSaid : Prop := flowPutsRow.holds Try.pinned (OpenSpec.ofChange flowPutsSpec)

/-- ITS FALSE NEIGHBOUR: 'it returns false'. Refute it at one input. -/
def flowPutsWrong : ChangeSpec := { name := "flowPuts", fn := fun _ => fun
  | [d] => { results := [.lit (.bool false)], args := [d] }
  | _ => none }
def FlowPutsWrongFalsely : Prop := flowPutsRow.holds Try.pinned (OpenSpec.ofChange flowPutsWrong)

/-- 'scrimlaw14.FlowApart': WHATEVER THE INPUT: true; the input reads as it did. -/
def flowApartSpec : ChangeSpec := { name := "flowApart", fn := fun _ => fun
  | [d] => { results := [.lit (.bool true)], args := [d] }
  | _ => none }
def flowApartRow : OpenClaim := { program := "ytgcadpfgdfjceaa", sum := "310defc113ec642162d983866d50edfa9017bb012ad8cee0bf7cf796b9e27169", func := "scrim/scrimlaw14.FlowApart", spec := "flowApart", unfollowed := true, recurses := true, apart := false }
def FlowApartSaid : Prop := flowApartRow.holds Try.pinned (OpenSpec.ofChange flowApartSpec)

/-- ITS FALSE NEIGHBOUR: 'it returns false'. Refute it at one input. -/
def flowApartWrong : ChangeSpec := { name := "flowApart", fn := fun _ => fun
  | [d] => { results := [.lit (.bool false)], args := [d] }
  | _ => none }
def FlowApartWrongFalsely : Prop := flowApartRow.holds Try.pinned (OpenSpec.ofChange flowApartWrong)

/-- 'scrimlaw14.FlowFits': WHATEVER THE INPUT: true; the input reads as it did. -/
def flowFitsSpec : ChangeSpec := { name := "flowFits", fn := fun _ => fun
  | [d] => { results := [.lit (.bool true)], args := [d] }
  | _ => none }
def flowFitsRow : OpenClaim := { program := "ytgcadpfgdfjceaa", sum := "310defc113ec642162d983866d50edfa9017bb012ad8cee0bf7cf796b9e27169", func := "scrim/scrimlaw14.FlowFits", spec := "flowFits", unfollowed := true, recurses := true, apart := false }
def FlowFitsSaid : Prop := flowFitsRow.holds Try.pinned (OpenSpec.ofChange flowFitsSpec)

/-- ITS FALSE NEIGHBOUR: 'it returns false'. Refute it at one input. -/
def flowFitsWrong : ChangeSpec := { name := "flowFits", fn := fun _ => fun
  | [d] => { results := [.lit (.bool false)], args := [d] }
  | _ => none }
def FlowFitsWrongFalsely : Prop := flowFitsRow.holds Try.pinned (OpenSpec.ofChange flowFitsWrong)

/-- 'scrimlaw14.FlowColumns': WHATEVER THE INPUT: true; the input reads as it did. -/
def flowColumnsSpec : ChangeSpec := { name := "flowColumns", fn := fun _ => fun
  | [d] => { results := [.lit (.bool true)], args := [d] }
  | _ => none }
def flowColumnsRow : OpenClaim := { program := "ytgcadpfgdfjceaa", sum := "310defc113ec642162d983866d50edfa9017bb012ad8cee0bf7cf796b9e27169", func := "scrim/scrimlaw14.FlowColumns", spec := "flowColumns", unfollowed := true, recurses := true, apart := false }
def FlowColumnsSaid : Prop := flowColumnsRow.holds Try.pinned (OpenSpec.ofChange flowColumnsSpec)

/-- ITS FALSE NEIGHBOUR: 'it returns false'. Refute it at one input. -/
def flowColumnsWrong : ChangeSpec := { name := "flowColumns", fn := fun _ => fun
  | [d] => { results := [.lit (.bool false)], args := [d] }
  | _ => none }
def FlowColumnsWrongFalsely : Prop := flowColumnsRow.holds Try.pinned (OpenSpec.ofChange flowColumnsWrong)

/- THE SECOND FORM. 'bulk': how many values and letters a reading holds, each counted each time it is reached (what is shared counts as often as it is met; a slice's spare places count too). A statement '..UptoSaid' is the law's where the arguments, and the package variables that the reading takes, are together of bulk at most 1048576: NARROWER than '..Said'. Prove '..Said' where nothing that the law and all that it calls make is longer than what came in: it says more and counts as full. Else prove '..UptoSaid'. A law counts once. -/
mutual
def uptoBulk {H : Type} : DataW H → Nat
  | .lit (.string bytes) => bytes.length + 1
  | .lit _ => 1
  | .nil => 1
  | .ptr d => uptoBulk d + 1
  | .slice elems spare => uptoBulkAll elems + uptoBulkAll spare + 1
  | .agg parts => uptoBulkAll parts + 1
  | .iface _ d => uptoBulk d + 1
  | .map entries => uptoBulkEntries entries + 1
  | .held _ => 1
def uptoBulkAll {H : Type} : List (DataW H) → Nat
  | [] => 0
  | d :: r => uptoBulk d + uptoBulkAll r
def uptoBulkEntries {H : Type} : List (Lit × DataW H) → Nat
  | [] => 0
  | x :: r => uptoBulkEntry x + uptoBulkEntries r
def uptoBulkEntry {H : Type} : Lit × DataW H → Nat
  | (.string bytes, d) => bytes.length + uptoBulk d + 1
  | (_, d) => uptoBulk d + 1
 end
def uptoSmall : (H : Type) → List (DataW H) → Bool := fun _ ds => decide (uptoBulkAll ds ≤ 1048576)
def OpenSpec.upto (s : _root_.Go.ChangeSpec) : _root_.Go.OpenSpec := { _root_.Go.OpenSpec.ofChange s with cond := some uptoSmall }

/-- 'scrimlaw01.SatParts', WHERE WHAT IT READS IS OF BULK AT MOST 1048576: true; the input reads as it did. -/
def satPartsUptoRow : OpenClaim := { program := "ytgcadpfgdfjceaa", sum := "310defc113ec642162d983866d50edfa9017bb012ad8cee0bf7cf796b9e27169", func := "scrim/scrimlaw01.SatParts", spec := "satParts", apart := false, narrowed := true }
def SatPartsUptoSaid : Prop := satPartsUptoRow.holds Try.pinned (OpenSpec.upto satPartsSpec)

/-- 'scrimlaw01.SatClips', WHERE WHAT IT READS IS OF BULK AT MOST 1048576: true; the input reads as it did. -/
def satClipsUptoRow : OpenClaim := { program := "ytgcadpfgdfjceaa", sum := "310defc113ec642162d983866d50edfa9017bb012ad8cee0bf7cf796b9e27169", func := "scrim/scrimlaw01.SatClips", spec := "satClips", apart := false, narrowed := true }
def SatClipsUptoSaid : Prop := satClipsUptoRow.holds Try.pinned (OpenSpec.upto satClipsSpec)

/-- 'scrimlaw01.SatSums', WHERE WHAT IT READS IS OF BULK AT MOST 1048576: true; the input reads as it did. -/
def satSumsUptoRow : OpenClaim := { program := "ytgcadpfgdfjceaa", sum := "310defc113ec642162d983866d50edfa9017bb012ad8cee0bf7cf796b9e27169", func := "scrim/scrimlaw01.SatSums", spec := "satSums", apart := false, narrowed := true }
def SatSumsUptoSaid : Prop := satSumsUptoRow.holds Try.pinned (OpenSpec.upto satSumsSpec)

/-- 'scrimlaw01.SatClock', WHERE WHAT IT READS IS OF BULK AT MOST 1048576: true; the input reads as it did. -/
def satClockUptoRow : OpenClaim := { program := "ytgcadpfgdfjceaa", sum := "310defc113ec642162d983866d50edfa9017bb012ad8cee0bf7cf796b9e27169", func := "scrim/scrimlaw01.SatClock", spec := "satClock", apart := false, narrowed := true }
def SatClockUptoSaid : Prop := satClockUptoRow.holds Try.pinned (OpenSpec.upto satClockSpec)

/-- 'scrimlaw01.SatLists', WHERE WHAT IT READS IS OF BULK AT MOST 1048576: true; the input reads as it did. -/
def satListsUptoRow : OpenClaim := { program := "ytgcadpfgdfjceaa", sum := "310defc113ec642162d983866d50edfa9017bb012ad8cee0bf7cf796b9e27169", func := "scrim/scrimlaw01.SatLists", spec := "satLists", apart := false, narrowed := true }
def SatListsUptoSaid : Prop := satListsUptoRow.holds Try.pinned (OpenSpec.upto satListsSpec)

/-- 'scrimlaw14.FlowPuts', WHERE WHAT IT READS IS OF BULK AT MOST 1048576: true; the input reads as it did. -/
def flowPutsUptoRow : OpenClaim := { program := "ytgcadpfgdfjceaa", sum := "310defc113ec642162d983866d50edfa9017bb012ad8cee0bf7cf796b9e27169", func := "scrim/scrimlaw14.FlowPuts", spec := "flowPuts", unfollowed := true, recurses := true, apart := false, narrowed := true }
def FlowPutsUptoSaid : Prop := flowPutsUptoRow.holds Try.pinned (OpenSpec.upto flowPutsSpec)

/-- 'scrimlaw14.FlowApart', WHERE WHAT IT READS IS OF BULK AT MOST 1048576: true; the input reads as it did. -/
def flowApartUptoRow : OpenClaim := { program := "ytgcadpfgdfjceaa", sum := "310defc113ec642162d983866d50edfa9017bb012ad8cee0bf7cf796b9e27169", func := "scrim/scrimlaw14.FlowApart", spec := "flowApart", unfollowed := true, recurses := true, apart := false, narrowed := true }
def FlowApartUptoSaid : Prop := flowApartUptoRow.holds Try.pinned (OpenSpec.upto flowApartSpec)

/-- 'scrimlaw14.FlowFits', WHERE WHAT IT READS IS OF BULK AT MOST 1048576: true; the input reads as it did. -/
def flowFitsUptoRow : OpenClaim := { program := "ytgcadpfgdfjceaa", sum := "310defc113ec642162d983866d50edfa9017bb012ad8cee0bf7cf796b9e27169", func := "scrim/scrimlaw14.FlowFits", spec := "flowFits", unfollowed := true, recurses := true, apart := false, narrowed := true }
def FlowFitsUptoSaid : Prop := flowFitsUptoRow.holds Try.pinned (OpenSpec.upto flowFitsSpec)

/-- 'scrimlaw14.FlowColumns', WHERE WHAT IT READS IS OF BULK AT MOST 1048576: true; the input reads as it did. -/
def flowColumnsUptoRow : OpenClaim := { program := "ytgcadpfgdfjceaa", sum := "310defc113ec642162d983866d50edfa9017bb012ad8cee0bf7cf796b9e27169", func := "scrim/scrimlaw14.FlowColumns", spec := "flowColumns", unfollowed := true, recurses := true, apart := false, narrowed := true }
def FlowColumnsUptoSaid : Prop := flowColumnsUptoRow.holds Try.pinned (OpenSpec.upto flowColumnsSpec)

end Rows
end Go.Proofs.Ytgcadpfgdfjceaa
