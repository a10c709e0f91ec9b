/-
  Maps of members; lists of lists of strings that came in.
-/
import Derived.Test.YtgopokoghnfgiaaGroupQ
import Derived.Test.YtgopokoghnfgiaaNumbers
import Derived.Deep.Strs
namespace Go.Proofs.Ytgopokoghnfgiaa
open Go.Joins Go.ChangeShapes Go.WideShapes Go.RowKit Go.Deep Go.Maps Go.WideMaps

def memL : List Value → Option (DataW Unit × List MemPlace)
  | [.int .i64 a, .string s, .bool b] => some (.agg [.lit (.int .i64 a), .lit (.string s.data.toList), .lit (.bool b)], [])
  | _ => none
def memR (v : Value) : Option (DataW Unit × List MemPlace) := match v with
  | .agg xs => memL xs.toList
  | _ => none
def memV (m : Mb) : Value := .agg #[.int .i64 m.1, .string m.2.1, .bool m.2.2]
def memC (m : Mb) : DataW Unit := .agg [.lit (.int .i64 m.1), .lit (.string m.2.1.data.toList), .lit (.bool m.2.2)]
theorem memR_inv {v : Value} {m : Mb} {ps : List MemPlace} (h : memR v = some (memC m, ps)) : v = memV m := by
  unfold memR at h
  split at h
  · rename_i xs
    unfold memL at h
    split at h
    · rename_i a s b hx
      simp only [memC, Option.some.injEq, Prod.mk.injEq, DataW.agg.injEq, List.cons.injEq, DataW.lit.injEq, Lit.int.injEq, Lit.bool.injEq, Lit.string.injEq, true_and, and_true] at h
      obtain ⟨⟨h1, h2, h3⟩, _⟩ := h
      obtain ⟨l⟩ := xs
      simp only at hx
      rw [hx, memV, h1, data_inj h2, h3]
    · cases h
  · cases h
noncomputable def memKit : MapKit Int Mb where
  k := 3
  e := 59
  t := 60
  und := Try.underlying60
  law := int_keyed Try.underlying3
  kv x := .int .i64 x
  kl x := .int .i64 x
  okk x := (Lit.int .i64 x).wf = true
  hkey x h := keyOf_int_mk Try.underlying3 h
  inj x y _ _ h := kl_int_inj x y h
  R := memR
  code := memC
  vv := memV
  okv _ := True
  hR v _ := rfl
  hinv v u ps _ h := memR_inv h
  z := mb0
  okz := trivial
  zero w := by kernel_rfl
theorem field_mem (a : Int) (s : ByteArray) (gh : Bool) (w : World) : (Instr.field 59 (.agg #[.int .i64 a, .string s, .bool gh]) 2).run Try.prog w = .ok (.bool gh) w := by kernel_rfl

/-- A list of lists of strings. -/
def Lss (w : World) (B : Nat) (A : Option Addr) (n : Nat) : Prop :=
  ∀ i, i < n → ∃ b off, A = some ⟨b, off, none⟩ ∧ b < B ∧ ∃ A' n' c' l, w.cell? ⟨b, off + i, none⟩ = some (.slice A' n' c') ∧ n' ≤ c' ∧ Ss w B A' n' l
section
variable {H : Type} {enc : TypeId × Value → H} {W : World}
set_option maxRecDepth 100000 in
theorem strs_row {v : Value} {x : DataW H × List MemPlace} {fuel : Nat} (hf : DataW.trod enc Try.prog W 0 (fun _ => true) true fuel 55 [v] = some x) : ∃ A n c l, v = .slice A n c ∧ n ≤ c ∧ Ss W W.heap.size A n l := by
  rcases open_strs Try.underlying55 Try.underlying9 (by kernel_rfl) hf with ⟨hcs, _⟩ | ⟨a, len, cap, m, Sx, hcs, _, hl, hm, hmm, _, hel⟩
  · simp at hcs
    subst hcs
    exact ⟨_, _, _, [], rfl, Nat.le_refl _, Rd.nil _ _ _⟩
  · simp at hcs
    subst hcs
    have hmc : m = cap := by simpa using hmm
    subst hmc
    refine ⟨_, _, _, (List.range len).map Sx, rfl, hl, by simp, fun i hi => ?_⟩
    obtain ⟨h0, _⟩ := hel i (by omega)
    obtain ⟨b, off, spot⟩ := a
    have hspot : spot = none := by simpa [Addr.add] using World.cell?_spot (hel 0 (by omega)).1
    subst hspot
    rw [Addr.add_lit] at h0
    refine ⟨b, off, rfl, World.block_lt_of_cell? W _ h0, fun j hj => ?_⟩
    obtain rfl : j = 0 := by omega
    rw [Nat.mul_one, Nat.add_zero, h0]
    simp [cvS, List.getD, hi]
set_option maxRecDepth 100000 in
/-- A list of lists of strings that came in. -/
theorem lss_open {base : Nat} {v : Value} {d : DataW H} {p : List MemPlace} (hv : Value.okWide Try.prog W .any base 47 v)
    (h : DataW.Trod enc Try.prog W 0 (fun _ => true) true 47 v d p) : ∃ A n c, v = .slice A n c ∧ Lss W W.heap.size A n := by
  obtain ⟨a0, len, cap, rfl⟩ := okWide_slice Try.underlying47 hv
  obtain ⟨fuel, hf⟩ := h
  rcases open_slice1 Try.underlying47 (by kernel_rfl) hf with ⟨hcs, _⟩ | ⟨a, len', cap', m, n, V, D, Pl, hcs, _, hl, hm, hmm, _, hel⟩
  · simp [Value.cells] at hcs
    obtain ⟨rfl, rfl, rfl⟩ := hcs
    exact ⟨_, _, _, rfl, fun i hi => by omega⟩
  · simp [Value.cells] at hcs
    obtain ⟨rfl, rfl, rfl⟩ := hcs
    have hmc : m = cap := by simpa using hmm
    subst hmc
    refine ⟨_, _, _, rfl, fun i hi => ?_⟩
    obtain ⟨h0, h1⟩ := hel i (by omega)
    obtain ⟨A', n', c', l, hV, hc, hS⟩ := strs_row h1
    obtain ⟨b, off, spot⟩ := a
    have hspot : spot = none := by simpa [Addr.add] using World.cell?_spot (hel 0 (by omega)).1
    subst hspot
    rw [Addr.add_lit] at h0
    exact ⟨b, off, rfl, World.block_lt_of_cell? W _ h0, A', n', c', l, by rw [h0, hV], hc, hS⟩
end

theorem cvM_snoc (l : List Mb) (m : Mb) : (l ++ [m]).flatMap cvM = l.flatMap cvM ++ [.int .i64 m.1, .string m.2.1, .bool m.2.2] := by simp [cvM]
theorem cvG_snoc (l : List Gk) (m : Gk) : (l ++ [m]).flatMap cvG = l.flatMap cvG ++ [.string m.1, .bool m.2] := by simp [cvG]
theorem mb_info : (Try.prog.info? 59).map (fun i => (i.zero, i.size, i.bytes)) = some (some (.agg #[.int .i64 0, .string ByteArray.empty, .bool false]), 3, 32) := by kernel_rfl
theorem gk_info : (Try.prog.info? 52).map (fun i => (i.zero, i.size, i.bytes)) = some (some (.agg #[.string ByteArray.empty, .bool false]), 2, 24) := by kernel_rfl
theorem inv_zero : Inv 0 [] 1 := ⟨fun i h => absurd h (Nat.not_lt_zero _), fun i h => absurd h (Nat.not_lt_zero _), fun i h => absurd h (Nat.not_lt_zero _), fun i => by simp [List.getD, mb0], by decide, by decide, by decide⟩

end Go.Proofs.Ytgopokoghnfgiaa
