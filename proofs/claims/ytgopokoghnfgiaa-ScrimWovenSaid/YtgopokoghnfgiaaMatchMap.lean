/-
  Names of kids as keys of a map of pointers.
-/
import Derived.Test.YtgopokoghnfgiaaOwnB
import Derived.Maps.Own
import Derived.Maps.OwnOps
import Derived.Maps.Views
import Derived.DeepKeys4
namespace Go.Proofs.Ytgopokoghnfgiaa
open Go.RowKit Go.Maps Go.WideMaps

/-- A name: a kid's key and kind, and how many are ahead. -/
abbrev Nm := Kid × Nat
def nmV (x : Nm) : Value := .agg #[.int .i64 x.1.2, .string x.1.1, .int .i64 (x.2 : Nat)]
def okN (x : Nm) : Prop := x.1.1.size ≤ 20 ∧ (Lit.int .i64 x.1.2).wf = true ∧ x.2 ≤ 1000
def litN (x : Nm) : Lit := .string (keyBytes [.int .i64 x.1.2, .string x.1.1.data.toList, .int .i64 (x.2 : Nat)])

theorem wf_small (n : Nat) (h : n ≤ 1000) : (Lit.int .i64 (n : Nat)).wf = true := by
  simp only [Lit.wf, Bool.and_eq_true, decide_eq_true_eq]
  exact ⟨by simp [IntKind.min, IntKind.bits, IntKind.signed], by simp [IntKind.max, IntKind.bits, IntKind.signed]; omega⟩

theorem row_nm : (71 : TypeId) < Try.prog.types.size := of_decide_eq_true (by kernel_rfl)
theorem deep_nm : Try.prog.keyType 71 = true := by kernel_rfl
theorem wide_nm : (match Try.prog.underlying 71 with | some (.array _ _) | some (.struct _) => true | _ => false) = true := by kernel_rfl
theorem deep3_nm : Try.prog.keyTypeAt 3 71 = true := by kernel_rfl
theorem lim3 : 3 + 1 ≤ 10000 := by decide
set_option maxRecDepth 100000 in
theorem keylaw_nm : KeyLaw Try.prog 71 := deep_law_laid laid_out lim3 row_nm deep3_nm wide_nm
theorem law_nm : Keyed Try.prog 71 := Keyed.of_law keylaw_nm
theorem cells_nm : Try.prog.cellsOf 71 = 3 := by kernel_rfl
theorem cells_kid : Try.prog.cellsOf 38 = 2 := by kernel_rfl
theorem cells_int : Try.prog.cellsOf 3 = 1 := by kernel_rfl
theorem cells_str : Try.prog.cellsOf 9 = 1 := by kernel_rfl
theorem size_nm : ∃ m, Try.prog.types.size = m + 2 := ⟨Try.prog.types.size - 2, by kernel_rfl⟩
theorem zero_ptr (w : World) : (zeroValue 72).run Try.prog w = .ok (.pointer none) w := by kernel_rfl

theorem keyOf_nm (x : Nm) (h : okN x) : keyOf Try.prog 71 (nmV x) = some (litN x) := by
  obtain ⟨h1, h2, h3⟩ := h
  have h4 := wf_small x.2 h3
  have h5 : x.1.1.size ≤ maxLen := by unfold maxLen; omega
  obtain ⟨m, hm⟩ := size_nm
  unfold keyOf
  simp only [Try.underlying71]
  rw [if_pos (by simp [deep_nm, Value.formed, Try.underlying71, cells_nm, nmV]), hm]
  simp [Program.keyLits, Try.underlying71, Try.underlying38, Try.underlying3, Try.underlying9, cells_nm, cells_kid, cells_int, cells_str, Value.cells, nmV, h2, h4, h5, litN]
  rw [if_pos (by intro i hi; match i, hi with | 0, _ => simp | 1, _ => simp)]
  rfl

theorem litN_inj {x y : Nm} (hx : okN x) (hy : okN y) (h : litN x = litN y) : x = y := by
  have := law_nm.inj (keyOf_nm x hx) (by rw [h]; exact keyOf_nm y hy)
  obtain ⟨⟨s, t⟩, n⟩ := x
  obtain ⟨⟨s', t'⟩, n'⟩ := y
  simp only [nmV, Value.agg.injEq, Array.mk.injEq, List.cons.injEq, Value.int.injEq, Value.string.injEq] at this
  obtain ⟨⟨_, h1⟩, h2, ⟨_, h3⟩, _⟩ := this
  have h3 : n = n' := by omega
  subst h1 h2 h3
  rfl

/-- How a pointer to a block reads. -/
def ptrR (v : Value) : Option (DataW Unit × List MemPlace) :=
  match v with
  | .pointer none => some (.lit (.int .i64 (-1)), [])
  | .pointer (some ⟨p, 0, none⟩) => some (.lit (.int .i64 (p : Nat)), [])
  | _ => none
def codeP : Option Nat → DataW Unit
  | none => .lit (.int .i64 (-1))
  | some p => .lit (.int .i64 (p : Nat))
def ptrV (o : Option Nat) : Value := .pointer (o.map fun p => ⟨p, 0, none⟩)
theorem ptrR_mk (o : Option Nat) : ptrR (ptrV o) = some (codeP o, []) := by cases o <;> rfl
theorem codeP_inj {a b : Option Nat} (h : codeP a = codeP b) : a = b := by
  cases a <;> cases b <;> simp [codeP] at h
  · rfl
  · exact congrArg some (Int.ofNat.inj h)
theorem ptrR_inv {v : Value} {o : Option Nat} {ps : List MemPlace} (h : ptrR v = some (codeP o, ps)) : v = ptrV o := by
  unfold ptrR at h
  split at h
  · simp only [Option.some.injEq, Prod.mk.injEq] at h
    have := codeP_inj (a := none) h.1; subst this; rfl
  · rename_i p
    simp only [Option.some.injEq, Prod.mk.injEq] at h
    have := codeP_inj (a := some p) h.1; subst this; rfl
  · cases h

/-- Block M is a map of names to blocks: q. -/
def PM (w : World) (M n : Nat) (q : Nm → Option Nat) : Prop :=
  ∃ D : DataW Unit, w.ownsMap Try.prog 71 ptrR M n D ∧ ∀ x, okN x → D.atKey (litN x) (codeP none) = codeP (q x)

theorem own_isMap {w : World} {M n : Nat} {D : DataW Unit} (h : w.ownsMap Try.prog 71 ptrR M n D) : IsMap D := by
  obtain ⟨es, c, _, _, _, rfl⟩ := h
  exact ⟨_, rfl⟩
theorem PM.lt {w : World} {M n : Nat} {q : Nm → Option Nat} (h : PM w M n q) : M < w.heap.size := by
  obtain ⟨D, h, _⟩ := h
  exact h.lt
theorem PM.made (w : World) : PM (w.alloc (.map #[] 0)) w.heap.size 0 fun _ => none :=
  ⟨.map [], World.ownsMap_made w _ _ _, fun x hx => atKey_of_not_has (by rfl) _⟩
theorem PM.kept {w w' : World} {M n : Nat} {q : Nm → Option Nat} {row : Option Nat} (h : PM w M n q) (hg : w.grownBy w' row) (hne : some M ≠ row) : PM w' M n q := by
  obtain ⟨D, h1, h2⟩ := h
  exact ⟨D, h1.kept hg hne, h2⟩
theorem PM.keep {w w' : World} {M n : Nat} {q : Nm → Option Nat} (h : PM w M n q) (hb : Below w.heap.size w w') : PM w' M n q := h.kept (only_of_below hb none) (by simp)
theorem PM.look {w : World} {M n : Nat} {q : Nm → Option Nat} (h : PM w M n q) (x : Nm) (hx : okN x) : (Instr.lookup 67 (.map (some M)) (nmV x) false).run Try.prog w = .ok (ptrV (q x)) w := by
  obtain ⟨D, h1, h2⟩ := h
  obtain ⟨v, ps, hrun, hv⟩ := h1.lookup law_nm Try.underlying67 (zero_ptr w) (ptrR_mk none) (keyOf_nm x hx)
  rw [h2 x hx] at hv
  rw [hrun, ptrR_inv hv]
/-- One name more, or another block at a name. -/
def setN (q : Nm → Option Nat) (x : Nm) (p : Nat) : Nm → Option Nat := fun y => if y = x then some p else q y
theorem PM.update {w : World} {M n : Nat} {q : Nm → Option Nat} (h : PM w M n q) (x : Nm) (hx : okN x) (hn : n < maxLen) (p : Nat) :
    ∃ w', (Instr.mapUpdate 67 (.map (some M)) (nmV x) (.pointer (some ⟨p, 0, none⟩))).run Try.prog w = .ok () w' ∧ PM w' M (n + 1) (setN q x p) ∧ w.grownBy w' (some M) := by
  obtain ⟨D, h1, h2⟩ := h
  obtain ⟨w', hrun, h3, h4⟩ := h1.update law_nm Try.underlying67 hn (keyOf_nm x hx) (ptrR_mk (some p))
  refine ⟨w', hrun, ⟨_, h3, fun y hy => ?_⟩, h4⟩
  by_cases e : y = x
  · subst e
    rw [atKey_put_same (own_isMap h1) (law_nm.key (keyOf_nm y hy))]
    simp [setN]
  · rw [atKey_put_other (fun e2 => e (litN_inj hy hx e2)), h2 y hy, setN, if_neg e]

end Go.Proofs.Ytgopokoghnfgiaa
