/-
  No cell of these rows narrows 'for every input' (looked for: loops, veiled, ifaces, maps, wideKeys, modest, calm, conditions, laid).
  DERIVED. THE GIVEN ROWS OF THIS SEAT. 6 by the template 'for every input the law returns true; each argument reads behind the call as it read before'; 0 by the template 'total and deterministic' (their statements: YtgopokoghnfgiaaTotals.lean).
  GIVEN WITH THE SEED: the statements are not yours to turn. If you find one false, say at which input.
  Laid BY PROGRAM, IN A SANDBOX (cutbox-rows.mjs): the forced cells as the released guide's own fill.sh prints them over the translation de26257a561480e4… (all of the seat's roots in one cut). By AI agents, Wed Nov 11 2026. No macro, syntax, notation, axiom, sorry.
-/
import Derived.Test.YtgopokoghnfgiaaChecked
import GoSem.Claim
import GoSem.ClaimJoined
import GoSem.ClaimMapViews
import Derived.JoinedTies
import Derived.KernelRfl
namespace Go.Proofs.Ytgopokoghnfgiaa
/- THE CELL 'sum', in the pinned program and in every row, IS THE sha256 OF THE DUMP (.gsa) THAT YtgopokoghnfgiaaProg.lean LOADS. Nothing in Lean hashes anything: it is a label: what it is worth is what the hold of that sum in a sandbox is worth. -/
noncomputable def Try.pinned : Pinned := { name := "ytgopokoghnfgiaa", sum := "de26257a561480e48a4191f96bcc2ec8c725265930264b0fd778ecc842e7c095", checked := Try.checked }
namespace Rows
def none {H : Type} : Left H := { results := [], args := [] }

/-- 'scrimlaw11.MatchAll': WHATEVER THE INPUT: true; the input reads as it did. -/
def matchAllSpec : ChangeSpec := { name := "matchAll", fn := fun _ => fun
  | [d1, d2] => { results := [.lit (.bool true)], args := [d1, d2] }
  | _ => none }
def matchAllRow : OpenClaim := { program := "ytgopokoghnfgiaa", sum := "de26257a561480e48a4191f96bcc2ec8c725265930264b0fd778ecc842e7c095", func := "scrim/scrimlaw11.MatchAll", spec := "matchAll", plainKeys := false, apart := false }
def MatchAllSaid : Prop := matchAllRow.holds Try.pinned (OpenSpec.ofChange matchAllSpec)

/-- ITS FALSE NEIGHBOUR: 'it returns false'. Refute it at one input. -/
def matchAllWrong : ChangeSpec := { name := "matchAll", fn := fun _ => fun
  | [d1, d2] => { results := [.lit (.bool false)], args := [d1, d2] }
  | _ => none }
def MatchAllWrongFalsely : Prop := matchAllRow.holds Try.pinned (OpenSpec.ofChange matchAllWrong)

/-- 'scrimlaw11.MatchPairs': WHATEVER THE INPUT: true; the input reads as it did. -/
def matchPairsSpec : ChangeSpec := { name := "matchPairs", fn := fun _ => fun
  | [d1, d2] => { results := [.lit (.bool true)], args := [d1, d2] }
  | _ => none }
def matchPairsRow : OpenClaim := { program := "ytgopokoghnfgiaa", sum := "de26257a561480e48a4191f96bcc2ec8c725265930264b0fd778ecc842e7c095", func := "scrim/scrimlaw11.MatchPairs", spec := "matchPairs", plainKeys := false, apart := false }
def MatchPairsSaid : Prop := matchPairsRow.holds Try.pinned (OpenSpec.ofChange matchPairsSpec)

/-- ITS FALSE NEIGHBOUR: 'it returns false'. Refute it at one input. -/
def matchPairsWrong : ChangeSpec := { name := "matchPairs", fn := fun _ => fun
  | [d1, d2] => { results := [.lit (.bool false)], args := [d1, d2] }
  | _ => none }
def MatchPairsWrongFalsely : Prop := matchPairsRow.holds Try.pinned (OpenSpec.ofChange matchPairsWrong)

/-- 'scrimlaw11.MatchOnce': WHATEVER THE INPUT: true; the input reads as it did. -/
def matchOnceSpec : ChangeSpec := { name := "matchOnce", fn := fun _ => fun
  | [d1, d2] => { results := [.lit (.bool true)], args := [d1, d2] }
  | _ => none }
def matchOnceRow : OpenClaim := { program := "ytgopokoghnfgiaa", sum := "de26257a561480e48a4191f96bcc2ec8c725265930264b0fd778ecc842e7c095", func := "scrim/scrimlaw11.MatchOnce", spec := "matchOnce", plainKeys := false, apart := false }
def MatchOnceSaid : Prop := matchOnceRow.holds Try.pinned (OpenSpec.ofChange matchOnceSpec)

/-- ITS FALSE NEIGHBOUR: 'it returns false'. Refute it at one input. -/
def matchOnceWrong : ChangeSpec := { name := "matchOnce", fn := fun _ => fun
  | [d1, d2] => { results := [.lit (.bool false)], args := [d1, d2] }
  | _ => none }
def MatchOnceWrongFalsely : Prop := matchOnceRow.holds Try.pinned (OpenSpec.ofChange matchOnceWrong)

/-- 'scrimlaw11.MatchEnds': WHATEVER THE INPUT: true; the input reads as it did. -/
def matchEndsSpec : ChangeSpec := { name := "matchEnds", fn := fun _ => fun
  | [d1, d2] => { results := [.lit (.bool true)], args := [d1, d2] }
  | _ => none }
def matchEndsRow : OpenClaim := { program := "ytgopokoghnfgiaa", sum := "de26257a561480e48a4191f96bcc2ec8c725265930264b0fd778ecc842e7c095", func := "scrim/scrimlaw11.MatchEnds", spec := "matchEnds", plainKeys := false, apart := false }
def MatchEndsSaid : Prop := matchEndsRow.holds Try.pinned (OpenSpec.ofChange matchEndsSpec)

/-- ITS FALSE NEIGHBOUR: 'it returns false'. Refute it at one input. -/
def matchEndsWrong : ChangeSpec := { name := "matchEnds", fn := fun _ => fun
  | [d1, d2] => { results := [.lit (.bool false)], args := [d1, d2] }
  | _ => none }
def MatchEndsWrongFalsely : Prop := matchEndsRow.holds Try.pinned (OpenSpec.ofChange matchEndsWrong)

/-- 'scrimtop.ScrimWoven': WHATEVER THE INPUT: true; the input reads as it did. -/
def scrimWovenSpec : ChangeSpec := { name := "scrimWoven", fn := fun _ => fun
  | [d1, d2] => { results := [.lit (.bool true)], args := [d1, d2] }
  | _ => none }
def scrimWovenRow : OpenClaim := { program := "ytgopokoghnfgiaa", sum := "de26257a561480e48a4191f96bcc2ec8c725265930264b0fd778ecc842e7c095", func := "scrim/scrimtop.ScrimWoven", spec := "scrimWoven", inPlace := ["slices.overlaps[int]"], unfollowed := true, recurses := true, plainKeys := false, apart := false }
def ScrimWovenSaid : Prop := scrimWovenRow.holds Try.pinned (OpenSpec.ofChange scrimWovenSpec)

/-- ITS FALSE NEIGHBOUR: 'it returns false'. Refute it at one input. -/
def scrimWovenWrong : ChangeSpec := { name := "scrimWoven", fn := fun _ => fun
  | [d1, d2] => { results := [.lit (.bool false)], args := [d1, d2] }
  | _ => none }
def ScrimWovenWrongFalsely : Prop := scrimWovenRow.holds Try.pinned (OpenSpec.ofChange scrimWovenWrong)

/-- 'scrimtop.ScrimGroups': WHATEVER THE INPUT: true; the input reads as it did. -/
def scrimGroupsSpec : ChangeSpec := { name := "scrimGroups", fn := fun _ => fun
  | [d] => { results := [.lit (.bool true)], args := [d] }
  | _ => none }
def scrimGroupsRow : OpenClaim := { program := "ytgopokoghnfgiaa", sum := "de26257a561480e48a4191f96bcc2ec8c725265930264b0fd778ecc842e7c095", func := "scrim/scrimtop.ScrimGroups", spec := "scrimGroups", plainKeys := false, apart := false }
def ScrimGroupsSaid : Prop := scrimGroupsRow.holds Try.pinned (OpenSpec.ofChange scrimGroupsSpec)

/-- ITS FALSE NEIGHBOUR: 'it returns false'. Refute it at one input. -/
def scrimGroupsWrong : ChangeSpec := { name := "scrimGroups", fn := fun _ => fun
  | [d] => { results := [.lit (.bool false)], args := [d] }
  | _ => none }
def ScrimGroupsWrongFalsely : Prop := scrimGroupsRow.holds Try.pinned (OpenSpec.ofChange scrimGroupsWrong)

/- THE SECOND FORM. 'bulk': how many values and letters a reading holds, each counted each time it is reached (what is shared counts as often as it is met; a slice's spare places count too). A statement '..UptoSaid' is the law's where the arguments, and the package variables that the reading takes, are together of bulk at most 1048576: NARROWER than '..Said'. Prove '..Said' where nothing that the law and all that it calls make is longer than what came in: it says more and counts as full. Else prove '..UptoSaid'. A law counts once. -/
mutual
def uptoBulk {H : Type} : DataW H → Nat
  | .lit (.string bytes) => bytes.length + 1
  | .lit _ => 1
  | .nil => 1
  | .ptr d => uptoBulk d + 1
  | .slice elems spare => uptoBulkAll elems + uptoBulkAll spare + 1
  | .agg parts => uptoBulkAll parts + 1
  | .iface _ d => uptoBulk d + 1
  | .map entries => uptoBulkEntries entries + 1
  | .held _ => 1
def uptoBulkAll {H : Type} : List (DataW H) → Nat
  | [] => 0
  | d :: r => uptoBulk d + uptoBulkAll r
def uptoBulkEntries {H : Type} : List (Lit × DataW H) → Nat
  | [] => 0
  | x :: r => uptoBulkEntry x + uptoBulkEntries r
def uptoBulkEntry {H : Type} : Lit × DataW H → Nat
  | (.string bytes, d) => bytes.length + uptoBulk d + 1
  | (_, d) => uptoBulk d + 1
 end
def uptoSmall : (H : Type) → List (DataW H) → Bool := fun _ ds => decide (uptoBulkAll ds ≤ 1048576)
def OpenSpec.upto (s : _root_.Go.ChangeSpec) : _root_.Go.OpenSpec := { _root_.Go.OpenSpec.ofChange s with cond := some uptoSmall }

/-- 'scrimlaw11.MatchAll', WHERE WHAT IT READS IS OF BULK AT MOST 1048576: true; the input reads as it did. -/
def matchAllUptoRow : OpenClaim := { program := "ytgopokoghnfgiaa", sum := "de26257a561480e48a4191f96bcc2ec8c725265930264b0fd778ecc842e7c095", func := "scrim/scrimlaw11.MatchAll", spec := "matchAll", plainKeys := false, apart := false, narrowed := true }
def MatchAllUptoSaid : Prop := matchAllUptoRow.holds Try.pinned (OpenSpec.upto matchAllSpec)

/-- 'scrimlaw11.MatchPairs', WHERE WHAT IT READS IS OF BULK AT MOST 1048576: true; the input reads as it did. -/
def matchPairsUptoRow : OpenClaim := { program := "ytgopokoghnfgiaa", sum := "de26257a561480e48a4191f96bcc2ec8c725265930264b0fd778ecc842e7c095", func := "scrim/scrimlaw11.MatchPairs", spec := "matchPairs", plainKeys := false, apart := false, narrowed := true }
def MatchPairsUptoSaid : Prop := matchPairsUptoRow.holds Try.pinned (OpenSpec.upto matchPairsSpec)

/-- 'scrimlaw11.MatchOnce', WHERE WHAT IT READS IS OF BULK AT MOST 1048576: true; the input reads as it did. -/
def matchOnceUptoRow : OpenClaim := { program := "ytgopokoghnfgiaa", sum := "de26257a561480e48a4191f96bcc2ec8c725265930264b0fd778ecc842e7c095", func := "scrim/scrimlaw11.MatchOnce", spec := "matchOnce", plainKeys := false, apart := false, narrowed := true }
def MatchOnceUptoSaid : Prop := matchOnceUptoRow.holds Try.pinned (OpenSpec.upto matchOnceSpec)

/-- 'scrimlaw11.MatchEnds', WHERE WHAT IT READS IS OF BULK AT MOST 1048576: true; the input reads as it did. -/
def matchEndsUptoRow : OpenClaim := { program := "ytgopokoghnfgiaa", sum := "de26257a561480e48a4191f96bcc2ec8c725265930264b0fd778ecc842e7c095", func := "scrim/scrimlaw11.MatchEnds", spec := "matchEnds", plainKeys := false, apart := false, narrowed := true }
def MatchEndsUptoSaid : Prop := matchEndsUptoRow.holds Try.pinned (OpenSpec.upto matchEndsSpec)

/-- 'scrimtop.ScrimWoven', WHERE WHAT IT READS IS OF BULK AT MOST 1048576: true; the input reads as it did. -/
def scrimWovenUptoRow : OpenClaim := { program := "ytgopokoghnfgiaa", sum := "de26257a561480e48a4191f96bcc2ec8c725265930264b0fd778ecc842e7c095", func := "scrim/scrimtop.ScrimWoven", spec := "scrimWoven", inPlace := ["slices.overlaps[int]"], unfollowed := true, recurses := true, plainKeys := false, apart := false, narrowed := true }
def ScrimWovenUptoSaid : Prop := scrimWovenUptoRow.holds Try.pinned (OpenSpec.upto scrimWovenSpec)

/-- 'scrimtop.ScrimGroups', WHERE WHAT IT READS IS OF BULK AT MOST 1048576: true; the input reads as it did. -/
def scrimGroupsUptoRow : OpenClaim := { program := "ytgopokoghnfgiaa", sum := "de26257a561480e48a4191f96bcc2ec8c725265930264b0fd778ecc842e7c095", func := "scrim/scrimtop.ScrimGroups", spec := "scrimGroups", plainKeys := false, apart := false, narrowed := true }
def ScrimGroupsUptoSaid : Prop := scrimGroupsUptoRow.holds Try.pinned (OpenSpec.upto scrimGroupsSpec)

end Rows
end Go.Proofs.Ytgopokoghnfgiaa
