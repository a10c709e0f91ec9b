/-
  How a Boxes that came in is opened. (open_agg5: after the guide's page of lemmas to copy.)
-/
import Derived.Test.YtgcadpfgdfjceaaFrame
import Derived.Test.YtgcadpfgdfjceaaFlowRnd
import Derived.Lib.SmallJoins
import Derived.Deep.SlicePairs
namespace Go.Proofs.Ytgcadpfgdfjceaa
open Go.Joins Go.ChangeShapes Go.WideShapes Go.RowKit Go.Deep

section
variable {H : Type} {enc : TypeId × Value → H} {P : Program} {w : World} {base : Nat} {spare : Nat → Bool} {held : Bool}
theorem open_agg5 {r : Reach} {b0 : Nat} {t : TypeId} {f0 f1 f2 f3 f4 : Field} {v : Value} {d : DataW H} {p : List MemPlace} (hs : P.underlying t = some (.struct #[f0, f1, f2, f3, f4])) (hone : oneCellFields P #[f0, f1, f2, f3, f4] = true) (hC : P.cellsOf t = 5)
    (hv : Value.okWide P w r b0 t v) (h : DataW.Trod enc P w base spare held t v d p) :
    ∃ (v0 v1 v2 v3 v4 : Value) (y0 y1 y2 y3 y4 : DataW H × List MemPlace) (n : Nat), v = .agg #[v0, v1, v2, v3, v4] ∧
      DataW.trod enc P w base spare held n f0.type [v0] = some y0 ∧ DataW.trod enc P w base spare held n f1.type [v1] = some y1 ∧ DataW.trod enc P w base spare held n f2.type [v2] = some y2 ∧ DataW.trod enc P w base spare held n f3.type [v3] = some y3 ∧ DataW.trod enc P w base spare held n f4.type [v4] = some y4 := by
  obtain ⟨cs, rfl, hsz⟩ := okWide_struct hs hv
  obtain ⟨l⟩ := cs
  match l, hsz.trans hC with
  | [c0, c1, c2, c3, c4], _ =>
    obtain ⟨fuel, hf⟩ := h
    obtain ⟨xs, n, _, hx, _, hlen, hg⟩ := DataW.trod_struct hs hf
    obtain ⟨o0, k0⟩ := hone_of hone 0 f0 rfl
    obtain ⟨o1, k1⟩ := hone_of hone 1 f1 rfl
    obtain ⟨o2, k2⟩ := hone_of hone 2 f2 rfl
    obtain ⟨o3, k3⟩ := hone_of hone 3 f3 rfl
    obtain ⟨o4, k4⟩ := hone_of hone 4 f4 rfl
    match xs, hlen with
    | [y0, y1, y2, y3, y4], _ =>
      exact ⟨c0, c1, c2, c3, c4, y0, y1, y2, y3, y4, n, rfl, by simpa [Value.cells, o0, k0] using hg 0 f0 rfl, by simpa [Value.cells, o1, k1] using hg 1 f1 rfl, by simpa [Value.cells, o2, k2] using hg 2 f2 rfl, by simpa [Value.cells, o3, k3] using hg 3 f3 rfl, by simpa [Value.cells, o4, k4] using hg 4 f4 rfl⟩
end

section
variable {H : Type} {enc : TypeId × Value → H} {W : World}
theorem int_cell {v : Value} {fuel : Nat} {y : DataW H × List MemPlace} (h : DataW.trod enc Try.prog W 0 (fun _ => true) true fuel 3 [v] = some y) : ∃ a, v = .int .i64 a := by
  obtain ⟨a, e0, _⟩ := DataW.trod_int Try.underlying3 h
  simp at e0
  exact ⟨a, e0⟩

theorem pairs_arg {v : Value} {x : DataW H × List MemPlace} {fuel : Nat}
    (hf : DataW.trod enc Try.prog W 0 (fun _ => true) true fuel 34 [v] = some x) : ∃ A n c zs, v = .slice A n c ∧ n ≤ c ∧ c ≤ maxLen ∧ Pairs W W.heap.size A n zs := by
  rcases open_slice_pairs Try.underlying34 Try.underlying43 (by kernel_rfl) rfl rfl (by kernel_rfl) (by kernel_rfl) hf with ⟨hcs, _⟩ | ⟨a, len, cap, m, k, V0, V1, D0, D1, P0, P1, hcs, _, hl, hm, hmm, _, hel⟩
  · simp at hcs
    subst hcs
    exact ⟨_, _, _, [], rfl, Nat.le_refl _, Nat.zero_le _, rfl, fun k hk => by omega⟩
  · simp at hcs
    subst hcs
    have hmc : m = cap := by simpa using hmm
    subst hmc
    refine ⟨_, _, _, (List.range len).map fun i => (intOf (V0 i), intOf (V1 i)), rfl, hl, hm, by simp, fun i hi => ?_⟩
    obtain ⟨h0, h1, t0, t1⟩ := hel i (by omega)
    obtain ⟨a0, e0⟩ := int_cell t0
    obtain ⟨a1, e1⟩ := int_cell t1
    have e : ((List.range len).map fun i => (intOf (V0 i), intOf (V1 i))).getD i (0, 0) = (a0, a1) := by
      simp [List.getD, hi, e0, e1, intOf]
    obtain ⟨b, off, spot⟩ := a
    have hb := World.block_lt_of_cell? W _ h0
    have hspot : spot = none := by simpa [Addr.add] using World.cell?_spot (hel 0 (by omega)).1
    subst hspot
    rw [Addr.add_lit] at h0 h1 hb
    refine ⟨b, off, rfl, hb, ?_, ?_⟩
    · rw [h0, e, e0]
    · rw [← Nat.add_assoc] at h1
      rw [h1, e, e1]

/-- A Boxes that came in. -/
theorem boxes_arg {b0 : Nat} {v : Value} {d : DataW H} {p : List MemPlace} (hv : Value.okWide Try.prog W .any b0 36 v) (h : DataW.Trod enc Try.prog W 0 (fun _ => true) true 36 v d p) :
    ∃ kind width cols gap A n c zs, v = .agg #[.int .i64 kind, .int .i64 width, .int .i64 cols, .int .i64 gap, .slice A n c] ∧ n ≤ c ∧ c ≤ maxLen ∧ Pairs W W.heap.size A n zs := by
  obtain ⟨v0, v1, v2, v3, v4, y0, y1, y2, y3, y4, k, rfl, h0, h1, h2, h3, h4⟩ := open_agg5 Try.underlying36 (by kernel_rfl) (by kernel_rfl) hv h
  obtain ⟨a0, rfl⟩ := int_cell h0
  obtain ⟨a1, rfl⟩ := int_cell h1
  obtain ⟨a2, rfl⟩ := int_cell h2
  obtain ⟨a3, rfl⟩ := int_cell h3
  obtain ⟨A, n, c, zs, rfl, hn, hc, hz⟩ := pairs_arg h4
  exact ⟨a0, a1, a2, a3, A, n, c, zs, rfl, hn, hc, hz⟩
end

end Go.Proofs.Ytgcadpfgdfjceaa
