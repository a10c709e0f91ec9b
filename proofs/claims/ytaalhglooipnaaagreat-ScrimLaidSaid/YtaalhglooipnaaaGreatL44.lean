/-
  ScrimLaid: where the nodes of a view that is shown are is where the document lays its static rendering; a point that a kid has within its parent's Rect both have. For every input; no condition.
-/
import Derived.Test.YtaalhglooipnaaaGreatL43
import Derived.Test.YtaalhglooipnaaaGreatL01
import Derived.Lib.SmallJoins
import Derived.Deep.SlicePairs
import Derived.Deep.Strs
import Derived.Deep.Fields23
namespace Go.Proofs.YtaalhglooipnaaaGreat
open Go.Joins Go.ChangeShapes Go.WideShapes Go.ChangeAt Go.RowKit Go.Deep

def strOf : Value → ByteArray
  | .string s => s
  | _ => ByteArray.empty
section
variable {H : Type} {enc : TypeId × Value → H} {W : World}
theorem strs_row {v : Value} {x : DataW H × List MemPlace} {fuel : Nat} (hf : DataW.trod enc Tryz.prog W 0 (fun _ => true) true fuel 25 [v] = some x) : ∃ A n c l, v = .slice A n c ∧ Ss W W.heap.size A n l := by
  rcases open_strs Tryz.underlying25 Tryz.underlying9 (by kernel_rfl) hf with ⟨hcs, _⟩ | ⟨a, len, cap, m, Sx, hcs, _, hl, hm, hmm, _, hel⟩
  · simp at hcs
    subst hcs
    exact ⟨_, _, _, [], rfl, Rd.nil _ _ _⟩
  · simp at hcs
    subst hcs
    have hmc : m = cap := by simpa using hmm
    subst hmc
    refine ⟨_, _, _, (List.range len).map Sx, rfl, by simp, fun i hi => ?_⟩
    obtain ⟨h0, _⟩ := hel i (by omega)
    obtain ⟨b, off, spot⟩ := a
    have hspot : spot = none := by simpa [Addr.add] using World.cell?_spot (hel 0 (by omega)).1
    subst hspot
    rw [Addr.add_lit] at h0
    refine ⟨b, off, rfl, World.block_lt_of_cell? W _ h0, fun j hj => ?_⟩
    obtain rfl : j = 0 := by omega
    rw [Nat.mul_one, Nat.add_zero, h0]
    simp [cvS, List.getD, hi]
theorem prs_row {v : Value} {x : DataW H × List MemPlace} {fuel : Nat} (hf : DataW.trod enc Tryz.prog W 0 (fun _ => true) true fuel 27 [v] = some x) : ∃ A n c l, v = .slice A n c ∧ Ps W W.heap.size A n l := by
  rcases open_slice_pairs Tryz.underlying27 Tryz.underlying120 (by kernel_rfl) rfl rfl (by kernel_rfl) (by kernel_rfl) hf with ⟨hcs, _⟩ | ⟨a, len, cap, m, k, V0, V1, D0, D1, P0, P1, hcs, _, hl, hm, hmm, _, hel⟩
  · simp at hcs
    subst hcs
    exact ⟨_, _, _, [], rfl, Rd.nil _ _ _⟩
  · simp at hcs
    subst hcs
    have hmc : m = cap := by simpa using hmm
    subst hmc
    refine ⟨_, _, _, (List.range len).map fun i => (strOf (V0 i), intOf (V1 i)), rfl, by simp, fun i hi => ?_⟩
    obtain ⟨h0, h1, t0, t1⟩ := hel i (by omega)
    obtain ⟨s0, e0, _⟩ := DataW.trod_string Tryz.underlying9 t0
    obtain ⟨a1, e1, _⟩ := DataW.trod_int Tryz.underlying3 t1
    simp at e0 e1
    have e : ((List.range len).map fun i => (strOf (V0 i), intOf (V1 i))).getD i pr0 = (s0, a1) := by
      simp [List.getD, hi, e0, e1, intOf, strOf]
    obtain ⟨b, off, spot⟩ := a
    have hspot : spot = none := by simpa [Addr.add] using World.cell?_spot (hel 0 (by omega)).1
    subst hspot
    rw [Addr.add_lit] at h0 h1
    refine ⟨b, off, rfl, World.block_lt_of_cell? W _ h0, fun j hj => ?_⟩
    rw [e]
    match j, hj with
    | 0, _ => rw [Nat.add_zero, h0, e0]; rfl
    | 1, _ => rw [Nat.add_assoc, h1, e1]; rfl
theorem ats_row {v : Value} {x : DataW H × List MemPlace} {fuel : Nat} (hf : DataW.trod enc Tryz.prog W 0 (fun _ => true) true fuel 26 [v] = some x) : ∃ A n c l, v = .slice A n c ∧ St.Ps W W.heap.size A n l := by
  rcases open_slice_pairs Tryz.underlying26 Tryz.underlying89 (by kernel_rfl) rfl rfl (by kernel_rfl) (by kernel_rfl) hf with ⟨hcs, _⟩ | ⟨a, len, cap, m, k, V0, V1, D0, D1, P0, P1, hcs, _, hl, hm, hmm, _, hel⟩
  · simp at hcs
    subst hcs
    exact ⟨_, _, _, [], rfl, Rd.nil _ _ _⟩
  · simp at hcs
    subst hcs
    have hmc : m = cap := by simpa using hmm
    subst hmc
    refine ⟨_, _, _, (List.range len).map fun i => (strOf (V0 i), strOf (V1 i)), rfl, by simp, fun i hi => ?_⟩
    obtain ⟨h0, h1, t0, t1⟩ := hel i (by omega)
    obtain ⟨s0, e0, _⟩ := DataW.trod_string Tryz.underlying9 t0
    obtain ⟨s1, e1, _⟩ := DataW.trod_string Tryz.underlying9 t1
    simp at e0 e1
    have e : ((List.range len).map fun i => (strOf (V0 i), strOf (V1 i))).getD i St.pr0 = (s0, s1) := by
      simp [List.getD, hi, e0, e1, strOf]
    obtain ⟨b, off, spot⟩ := a
    have hspot : spot = none := by simpa [Addr.add] using World.cell?_spot (hel 0 (by omega)).1
    subst hspot
    rw [Addr.add_lit] at h0 h1
    refine ⟨b, off, rfl, World.block_lt_of_cell? W _ h0, fun j hj => ?_⟩
    rw [e]
    match j, hj with
    | 0, _ => rw [Nat.add_zero, h0, e0]; rfl
    | 1, _ => rw [Nat.add_assoc, h1, e1]; rfl
theorem int_row {v : Value} {x : DataW H × List MemPlace} {fuel : Nat} (hf : DataW.trod enc Tryz.prog W 0 (fun _ => true) true fuel 3 [v] = some x) : ∃ a, v = .int .i64 a := by
  obtain ⟨a, e, _⟩ := DataW.trod_int Tryz.underlying3 hf
  exact ⟨a, by simpa using e⟩
theorem str_row {v : Value} {x : DataW H × List MemPlace} {fuel : Nat} (hf : DataW.trod enc Tryz.prog W 0 (fun _ => true) true fuel 9 [v] = some x) : ∃ a, v = .string a := by
  obtain ⟨a, e, _⟩ := DataW.trod_string Tryz.underlying9 hf
  exact ⟨a, by simpa using e⟩
theorem bool_row {v : Value} {x : DataW H × List MemPlace} {fuel : Nat} (hf : DataW.trod enc Tryz.prog W 0 (fun _ => true) true fuel 4 [v] = some x) : ∃ a, v = .bool a := by
  obtain ⟨a, e, _⟩ := DataW.trod_bool Tryz.underlying4 hf
  exact ⟨a, by simpa using e⟩
theorem c_int : Tryz.prog.cellsOf 3 = 1 := by kernel_rfl
theorem c_str : Tryz.prog.cellsOf 9 = 1 := by kernel_rfl
theorem c_bool : Tryz.prog.cellsOf 4 = 1 := by kernel_rfl
theorem c_ss : Tryz.prog.cellsOf 25 = 1 := by kernel_rfl
theorem c_as : Tryz.prog.cellsOf 26 = 1 := by kernel_rfl
theorem c_ps : Tryz.prog.cellsOf 27 = 1 := by kernel_rfl
theorem c_op : Tryz.prog.cellsOf 29 = 6 := by kernel_rfl
theorem c_fl : Tryz.prog.cellsOf 82 = 14 := by kernel_rfl
theorem op_row {v0 v1 v2 v3 v4 v5 : Value} {x : DataW H × List MemPlace} {fuel : Nat} (hf : DataW.trod enc Tryz.prog W 0 (fun _ => true) true fuel 29 [v0, v1, v2, v3, v4, v5] = some x) :
    ∃ a b c d p q, v0 = .int .i64 a ∧ v1 = .int .i64 b ∧ v2 = .int .i64 c ∧ v3 = .int .i64 d ∧ v4 = .bool p ∧ v5 = .bool q := by
  obtain ⟨xs, n, _, _, _, hxl, hg⟩ := DataW.trod_struct Tryz.underlying29 hf
  match xs, hxl with
  | [y0, y1, y2, y3, y4, y5], _ =>
    have g0 := hg 0 _ rfl
    have g1 := hg 1 _ rfl
    have g2 := hg 2 _ rfl
    have g3 := hg 3 _ rfl
    have g4 := hg 4 _ rfl
    have g5 := hg 5 _ rfl
    simp [c_int, c_bool] at g0 g1 g2 g3 g4 g5
    obtain ⟨a, rfl⟩ := int_row g0
    obtain ⟨b, rfl⟩ := int_row g1
    obtain ⟨c, rfl⟩ := int_row g2
    obtain ⟨d, rfl⟩ := int_row g3
    obtain ⟨p, rfl⟩ := bool_row g4
    obtain ⟨q, rfl⟩ := bool_row g5
    exact ⟨a, b, c, d, p, q, rfl, rfl, rfl, rfl, rfl, rfl⟩
set_option maxRecDepth 100000 in
set_option maxHeartbeats 1000000 in
theorem flat_row {cs : List Value} {x : DataW H × List MemPlace} {fuel : Nat} (hl : cs.length = 14) (hf : DataW.trod enc Tryz.prog W 0 (fun _ => true) true fuel 82 cs = some x) :
    ∃ dp d A1 c1 A2 c2 A3 c3, cs = fC dp d (.slice A1 d.cl.length c1) (.slice A2 d.at_.length c2) (.slice A3 d.st.length c3) ∧
      RdS cvS ByteArray.empty 1 W (Old W) A1 d.cl.length d.cl ∧ RdS St.cvP St.pr0 2 W (Old W) A2 d.at_.length d.at_ ∧ RdS cvP pr0 2 W (Old W) A3 d.st.length d.st := by
  obtain ⟨xs, n, _, _, _, hxl, hg⟩ := DataW.trod_struct Tryz.underlying82 hf
  match xs, hxl, cs, hl with
  | [y0, y1, y2, y3, y4, y5, y6, y7, y8], _, [v0, v1, v2, v3, v4, v5, v6, v7, v8, v9, v10, v11, v12, v13], _ =>
    have g0 := hg 0 _ rfl
    have g1 := hg 1 _ rfl
    have g2 := hg 2 _ rfl
    have g3 := hg 3 _ rfl
    have g4 := hg 4 _ rfl
    have g5 := hg 5 _ rfl
    have g6 := hg 6 _ rfl
    have g7 := hg 7 _ rfl
    have g8 := hg 8 _ rfl
    simp [c_int, c_str, c_ss, c_as, c_ps, c_op] at g0 g1 g2 g3 g4 g5 g6 g7 g8
    obtain ⟨a0, rfl⟩ := int_row g0
    obtain ⟨a1, rfl⟩ := int_row g1
    obtain ⟨a2, rfl⟩ := str_row g2
    obtain ⟨a3, rfl⟩ := str_row g3
    obtain ⟨a4, rfl⟩ := str_row g4
    obtain ⟨A1, n1, c1, l1, rfl, r1⟩ := strs_row g5
    obtain ⟨A2, n2, c2, l2, rfl, r2⟩ := ats_row g6
    obtain ⟨A3, n3, c3, l3, rfl, r3⟩ := prs_row g7
    obtain ⟨o0, o1, o2, o3, o4, o5, rfl, rfl, rfl, rfl, rfl, rfl⟩ := op_row g8
    obtain rfl : l1.length = n1 := r1.1
    obtain rfl : l2.length = n2 := r2.1
    obtain rfl : l3.length = n3 := r3.1
    exact ⟨a0, ⟨a1, a2, a3, a4, l1, l2, l3, (o0, o1, o2, o3, o4, o5)⟩, A1, c1, A2, c2, A3, c3, rfl, r1, r2, r3⟩
theorem flats_row {v : Value} {x : DataW H × List MemPlace} {fuel : Nat} (hf : DataW.trod enc Tryz.prog W 0 (fun _ => true) true fuel 22 [v] = some x) : ∃ A n c vs, v = .slice A n c ∧ n ≤ c ∧ FlR W (Old W) A n vs := by
  rcases open_slice Tryz.underlying22 hf with ⟨hcs, _⟩ | ⟨a, len, cap, m, k, D, Pl, hcs, _, hl, hm, hmm, _, hel⟩
  · simp at hcs
    subst hcs
    exact ⟨_, _, _, [], rfl, Nat.le_refl _, RdS.nil _ _ _, fun v hv => by cases hv⟩
  · simp at hcs
    subst hcs
    have hmc : m = cap := by simpa using hmm
    subst hmc
    obtain ⟨Q, hQ⟩ := choose_lt hel
    have hcell : ∀ i, i < len → ∀ j, j < 14 → W.cell? (a.add (i * 14 + j)) = (Q i)[j]? := fun i hi j hj => by
      obtain ⟨h1, _⟩ := hQ i (by omega)
      rw [c_fl] at h1
      obtain ⟨_, _, h2⟩ := World.cells?_some h1
      have := h2 j hj
      rw [add_add] at this
      exact this
    have hlen : ∀ i, i < len → (Q i).length = 14 := fun i hi => by
      obtain ⟨h1, _⟩ := hQ i (by omega)
      rw [c_fl] at h1
      exact (World.cells?_some h1).2.1
    refine ⟨_, _, _, (List.range len).map fun i => .agg (Q i).toArray, rfl, hl, ⟨by simp, fun i hi => ?_⟩, fun v hv => ?_⟩
    · have hfr := flat_row (hlen i hi) (hQ i (by omega)).2
      obtain ⟨dp, d, A1, c1, A2, c2, A3, c3, he, _⟩ := hfr
      have e : ((List.range len).map fun i => Value.agg (Q i).toArray).getD i agg0 = .agg (Q i).toArray := by simp [List.getD, hi]
      obtain ⟨b, off, spot⟩ := a
      have h0 := hcell i hi 0 (by omega)
      have hspot : spot = none := by
        have h00 := hcell 0 (by omega) 0 (by omega)
        obtain ⟨_, _, _, _, _, _, _, _, he0, _⟩ := flat_row (hlen 0 (by omega)) (hQ 0 (by omega)).2
        rw [he0] at h00
        simpa [Addr.add] using World.cell?_spot h00
      subst hspot
      refine ⟨b, off, rfl, ?_, fun j hj => ?_⟩
      · rw [he, Addr.add_lit] at h0
        exact World.block_lt_of_cell? W _ h0
      · have h1 := hcell i hi j hj
        rw [Addr.add_lit] at h1
        rw [e, he, Nat.add_assoc, h1, he]
        rfl
    · obtain ⟨i, hi, rfl⟩ := List.mem_map.1 hv
      have hi := List.mem_range.1 hi
      obtain ⟨dp, d, A1, c1, A2, c2, A3, c3, he, r⟩ := flat_row (hlen i hi) (hQ i (by omega)).2
      exact ⟨dp, d, A1, c1, A2, c2, A3, c3, by rw [he]; rfl, r⟩
set_option maxRecDepth 100000 in
set_option maxHeartbeats 1000000 in
/-- The view, the width and the point, come in. -/
theorem where_arg {b0 : Nat} {v : Value} {d : DataW H} {p : List MemPlace} (hv : Value.okWide Tryz.prog W .any b0 24 v) (h : DataW.Trod enc Tryz.prog W 0 (fun _ => true) true 24 v d p) :
    ∃ A n c vs g px py, v = .agg #[.slice A n c, .int .i64 g, .int .i64 px, .int .i64 py] ∧ n ≤ c ∧ FlR W (Old W) A n vs := by
  obtain ⟨cs, rfl, hsz⟩ := okWide_struct Tryz.underlying24 hv
  obtain ⟨l⟩ := cs
  have c_fs : Tryz.prog.cellsOf 22 = 1 := by kernel_rfl
  have hl : l.length = 4 := hsz.trans (by kernel_rfl)
  match l, hl with
  | [v0, v1, v2, v3], _ =>
    obtain ⟨fuel, hf⟩ := h
    obtain ⟨xs, n, _, _, _, hxl, hg⟩ := DataW.trod_struct Tryz.underlying24 hf
    match xs, hxl with
    | [y0, y1, y2, y3], _ =>
      have g0 := hg 0 _ rfl
      have g1 := hg 1 _ rfl
      have g2 := hg 2 _ rfl
      have g3 := hg 3 _ rfl
      simp [Value.cells, c_int, c_fs] at g0 g1 g2 g3
      obtain ⟨A, n, c, vs, rfl, hc, hF⟩ := flats_row g0
      obtain ⟨a1, rfl⟩ := int_row g1
      obtain ⟨a2, rfl⟩ := int_row g2
      obtain ⟨a3, rfl⟩ := int_row g3
      exact ⟨A, n, c, vs, a1, a2, a3, rfl, hc, hF⟩
end

set_option maxRecDepth 100000 in
set_option maxHeartbeats 1000000 in
theorem scrimLaid_lifted (os : Os) (started : os.Started) (H : Type) (enc : TypeId × Value → H) :
    ReturnsInHanded {} Tryz.checked os 3 .any (Rows.scrimLaidSpec.pre6 enc Tryz.prog Tryz.f3 Rows.scrimLaidRow.domain false) (Rows.scrimLaidSpec.post enc Tryz.prog Tryz.f3 false true false false) := by
  refine returnsInHanded_of_change (C := Tryz.checked) own started (by kernel_rfl) Tryz.func3
    (ChangeSpec.witness6 (enc := enc) (C := Tryz.checked) false ⟨#[], #[.agg #[.slice none 0 0, .int .i64 0, .int .i64 0, .int .i64 0]], []⟩ 8 (by kernel_rfl) (by kernel_rfl) (by kernel_rfl) (by kernel_rfl)) ?_
  intro W base args ds gs before hval0 hW hcnd _
  have hval : ∀ (j : Nat) t v, Tryz.f3.params[j]? = some t → args[j]? = some v → Value.okWide Tryz.prog W .any base t v := hval0
  have hW' := hW
  obtain ⟨p, q, hA0, hV, rfl, hfz, hnd⟩ := hW
  have hA : DataW.TrodAll enc Tryz.prog W 0 (fun _ => true) true Tryz.f3.params.toList args.toList ds p := hA0
  rw [Tryz.params3] at hA hval
  obtain ⟨v0, vs0, d0, ds0, p0, q0, hargs, rfl, rfl, h0, r0⟩ := trodAll_cons hA
  obtain ⟨rfl, rfl, rfl⟩ := trodAll_nil r0
  obtain rfl : args = #[v0] := by cases args; simp_all
  obtain ⟨rfl, rfl⟩ := trodVars_none hV
  have k0 := h0
  have lt0 : ∀ x ∈ p0, x.block < W.heap.size := by obtain ⟨m, hm⟩ := k0; exact DataW.trod_lt m _ _ _ hm
  obtain ⟨A, n, c, vs, g, px, py, rfl, hc, hF⟩ := where_arg (hval 0 24 v0 rfl rfl) h0
  clear hA0 hval0
  refine (main_any A n c vs g px py W hc hF).mono fun e W' ⟨he, bel⟩ => ?_
  subst he
  exact ⟨_, rfl, _, _, _, [], _, [], hW', trodAll_mk1 (shut_bool Tryz.underlying4 _), (trodAll_cons_mk (Below.trod laid_out (by kernel_rfl) (of_decide_eq_true (by kernel_rfl)) k0 bel lt0) trodAll_mk0), rfl, bel.frame _, fun h => by cases h⟩

/-- The statement. -/
theorem scrimLaid_holds : Rows.ScrimLaidSaid :=
  OpenClaim.holds_of_wide 3 Tryz.f3 rfl rfl rfl rfl rfl rfl rfl ⟨rfl, rfl, rfl, rfl, rfl⟩ rfl rfl rfl rfl rfl (by kernel_rfl) Tryz.func3 (by kernel_rfl)
    (of_decide_eq_true (by kernel_rfl)) (by unfold Func.isWrapper; first | (rw [if_pos (by decide +kernel)]; kernel_rfl) | (rw [if_neg (by decide +kernel)]; exact ⟨rfl, rfl⟩))
    (fun os started H enc _ => scrimLaid_lifted os started H enc)
#print axioms scrimLaid_holds
end Go.Proofs.YtaalhglooipnaaaGreat
