/-
  The contracts of ScrimTurns' callees, as values that are known in worlds that go on.
-/
import Derived.Test.YtjedjplpbgnpmaaTurnS
namespace Go.Proofs.Ytjedjplpbgnpmaa
open Go.RowKit

/-- What a call hands back. -/
def Hands (O : Value → World → Prop) (w : World) (e : Ending) (w' : World) : Prop := ∃ v, e = .returned v ∧ O v w' ∧ Below w.heap.size w w'
section
variable {B : Nat} {u v : Value} {w : World}
theorem cFew {l : List ByteArray} {A : Option Addr} {n c : Nat} (hz : Ss w w.heap.size A n l) (hB : B ≤ w.heap.size) (hu : u = .slice A n c) :
    Calls Try.prog 7 #[u, .int .i64 8] w (Hands (OwnS B (fewS 8 l)) w) := by
  subst hu
  refine (few_any A n c 8 (by omega) l w hz).mono ?_
  rintro e w' ⟨A', c', rfl, hown, hb'⟩
  have h2 := hb'.size
  exact ⟨_, rfl, ⟨by omega, A', c', rfl, own_base hown hB⟩, hb'⟩
theorem cFewP {l : List Pr} {A : Option Addr} {n c : Nat} (hz : Ps w w.heap.size A n l) (hB : B ≤ w.heap.size) (hu : u = .slice A n c) :
    Calls Try.prog 9 #[u, .int .i64 8] w (Hands (OwnR B (fewP 8 l)) w) := by
  subst hu
  refine (fewP_any A n c 8 (by omega) l w hz).mono ?_
  rintro e w' ⟨A', c', rfl, hown, hb'⟩
  have h2 := hb'.size
  exact ⟨_, rfl, ⟨by omega, A', c', rfl, own_base hown hB⟩, hb'⟩
theorem cOwn {l : List Pr} (hu : OwnR B l u w) (hl : l.length ≤ 50) : Calls Try.prog 8 #[u] w (Hands (OwnP B l) w) := by
  obtain ⟨A, c, rfl, hz⟩ := hu.rd
  refine (own_any A _ c l w hz (by omega)).mono ?_
  rintro e w' ⟨A', c', rfl, hown, hb'⟩
  have h2 := hb'.size
  have h1 := hu.1
  exact ⟨_, rfl, ⟨by omega, A', c', rfl, own_base hown hu.1⟩, hb'⟩
theorem cOf {l : List Pr} (hu : OwnP B l u w) (hl : l.length ≤ 50) : Calls Try.prog 6 #[u] w (Hands (OwnP B (ofS l)) w) := by
  obtain ⟨A, c, rfl, hz⟩ := hu.rd
  refine (of_any A _ c l w hz (by omega)).mono ?_
  rintro e w' ⟨A', c', rfl, hown, hb'⟩
  have h2 := hb'.size
  have h1 := hu.1
  exact ⟨_, rfl, ⟨by omega, A', c', rfl, own_base hown hu.1⟩, hb'⟩
theorem cTurn {a b : List ByteArray} (hu : OwnS B a u w) (hv : OwnS B b v w) (ha : a.length ≤ 50) (hb : b.length ≤ 50) : Calls Try.prog 4 #[u, v] w (Hands (OwnT B (turnS a b)) w) := by
  obtain ⟨A, c, rfl, hz⟩ := hu.rd
  obtain ⟨A2, c2, rfl, hz2⟩ := hv.rd
  refine (turn_any A A2 _ c _ c2 a b w hz hz2 (by omega) (by omega)).mono ?_
  rintro e w' ⟨A', c', rfl, hown, hb'⟩
  have h2 := hb'.size
  have h1 := hu.1
  exact ⟨_, rfl, ⟨by omega, A', c', rfl, own_base hown hu.1⟩, hb'⟩
theorem cTurnP {a b : List Pr} (hu : OwnP B a u w) (hv : OwnP B b v w) (ha : a.length ≤ 50) (hb : b.length ≤ 50) : Calls Try.prog 5 #[u, v] w (Hands (OwnU B (turnP a b)) w) := by
  obtain ⟨A, c, rfl, hz⟩ := hu.rd
  obtain ⟨A2, c2, rfl, hz2⟩ := hv.rd
  refine (turnP_any A A2 _ c _ c2 a b w hz hz2 (by omega) (by omega)).mono ?_
  rintro e w' ⟨A', c', rfl, hown, hb'⟩
  have h2 := hb'.size
  have h1 := hu.1
  exact ⟨_, rfl, ⟨by omega, A', c', rfl, own_base hown hu.1⟩, hb'⟩
theorem cClean {a : List ByteArray} (hu : OwnS B a u w) (ha : a.length ≤ 50) : Calls Try.prog 12 #[u] w (Hands (OwnS B (cleanS a)) w) := by
  obtain ⟨A, c, rfl, hz⟩ := hu.rd
  refine (clean_any A _ c a w hz (by omega)).mono ?_
  rintro e w' ⟨A', c', rfl, hown, hb'⟩
  have h2 := hb'.size
  have h1 := hu.1
  exact ⟨_, rfl, ⟨by omega, A', c', rfl, own_base hown hu.1⟩, hb'⟩
theorem cApply {a : List ByteArray} {st : List Cst} (hu : OwnS B a u w) (hv : OwnT B st v w) (ha : a.length ≤ 100) (hb : st.length ≤ 300) : Calls Try.prog 11 #[u, v] w (Hands (OwnS B (applyS a st)) w) := by
  obtain ⟨A, c, rfl, hz⟩ := hu.rd
  obtain ⟨A2, c2, rfl, hz2⟩ := hv.rd
  refine (apply_any A A2 _ c _ c2 a st w hz hz2 (by omega) (by omega)).mono ?_
  rintro e w' ⟨A', c', rfl, hown, hb'⟩
  have h2 := hb'.size
  have h1 := hu.1
  exact ⟨_, rfl, ⟨by omega, A', c', rfl, own_base hown hu.1⟩, hb'⟩
theorem cApplyP {a : List Pr} {st : List Pst} (hu : OwnP B a u w) (hv : OwnU B st v w) (ha : a.length ≤ 100) (hb : st.length ≤ 300) : Calls Try.prog 13 #[u, v] w (Hands (OwnP B (applyU a st)) w) := by
  obtain ⟨A, c, rfl, hz⟩ := hu.rd
  obtain ⟨A2, c2, rfl, hz2⟩ := hv.rd
  refine (applyP_any A A2 _ c _ c2 a st w hz hz2 (by omega) (by omega)).mono ?_
  rintro e w' ⟨A', c', rfl, hown, hb'⟩
  have h2 := hb'.size
  have h1 := hu.1
  exact ⟨_, rfl, ⟨by omega, A', c', rfl, own_base hown hu.1⟩, hb'⟩
theorem cSame {a b : List ByteArray} (hu : OwnS B a u w) (hv : OwnS B b v w) (e : a = b) (ha : a.length ≤ 500) : Calls Try.prog 10 #[u, v] w (Hands (fun v _ => v = .bool true) w) := by
  subst e
  obtain ⟨A, c, rfl, hz⟩ := hu.rd
  obtain ⟨A2, c2, rfl, hz2⟩ := hv.rd
  refine (same_any A A2 _ c c2 _ _ a w hz hz2 (by omega)).mono ?_
  rintro e w' ⟨rfl, hb'⟩
  exact ⟨_, rfl, rfl, hb'⟩
theorem cSameP {a b : List Pr} (hu : OwnP B a u w) (hv : OwnP B b v w) (e : a = b) (ha : a.length ≤ 500) : Calls Try.prog 14 #[u, v] w (Hands (fun v _ => v = .bool true) w) := by
  subst e
  obtain ⟨A, c, rfl, hz⟩ := hu.rd
  obtain ⟨A2, c2, rfl, hz2⟩ := hv.rd
  refine (sameP_any A A2 _ c _ c2 a a w hz hz2 rfl (by omega) (by omega)).mono ?_
  rintro e w' ⟨rfl, hb'⟩
  exact ⟨_, rfl, rfl, hb'⟩
end

/-! ### Lengths, loads of what is known -/
section
variable {ρ : Operand → Value} {o : Oper} {w : World} {B : Nat} {u : Value}
theorem len_T {x : Operand} {l : List Cst} (ho : o.op = .call { callee := .builtin .len, args := #[x], argTypes := #[26] }) (hot : o.type = 3) (h : ρ x = u) (hu : OwnT B l u w) : (execOp ρ o).run Try.prog w = .ok (.value (.int .i64 l.length)) w := by
  obtain ⟨A, c, rfl, _⟩ := hu.rd
  exact ex_len (.inl rfl) ho hot h
theorem len_U {x : Operand} {l : List Pst} (ho : o.op = .call { callee := .builtin .len, args := #[x], argTypes := #[28] }) (hot : o.type = 3) (h : ρ x = u) (hu : OwnU B l u w) : (execOp ρ o).run Try.prog w = .ok (.value (.int .i64 l.length)) w := by
  obtain ⟨A, c, rfl, _⟩ := hu.rd
  exact ex_len (.inr (.inl rfl)) ho hot h
theorem len_S {x : Operand} {l : List ByteArray} (ho : o.op = .call { callee := .builtin .len, args := #[x], argTypes := #[22] }) (hot : o.type = 3) (h : ρ x = u) (hu : OwnS B l u w) : (execOp ρ o).run Try.prog w = .ok (.value (.int .i64 l.length)) w := by
  obtain ⟨A, c, rfl, _⟩ := hu.rd
  exact ex_len (.inr (.inr rfl)) ho hot h
theorem load_S {x : Operand} {g : Addr} {l : List ByteArray} (ho : o.op = .load 22 x) (h : ρ x = .pointer (some g)) (hc : ∃ u, w.cell? g = some u ∧ OwnS B l u w) : ∃ v, (execOp ρ o).run Try.prog w = .ok (.value v) w ∧ OwnS B l v w := by
  obtain ⟨u, hc, hu⟩ := hc
  obtain ⟨A, c, rfl, _⟩ := hu.rd
  exact ⟨_, ex_loadS ho h hc, hu⟩
theorem load_P {x : Operand} {g : Addr} {l : List Pr} (ho : o.op = .load 31 x) (h : ρ x = .pointer (some g)) (hc : ∃ u, w.cell? g = some u ∧ OwnP B l u w) : ∃ v, (execOp ρ o).run Try.prog w = .ok (.value v) w ∧ OwnP B l v w := by
  obtain ⟨u, hc, hu⟩ := hc
  obtain ⟨A, c, rfl, _⟩ := hu.rd
  exact ⟨_, ex_loadM ho h hc, hu⟩
theorem move_it {x : Operand} {O : Value → World → Prop} (ho : o.op = .move x) (h : ρ x = u) (hu : O u w) : ∃ v, (execOp ρ o).run Try.prog w = .ok (.value v) w ∧ O v w := ⟨_, ex_move ho h, hu⟩
theorem assign_it {x : Operand} {O : Value → World → Prop} (ho : o.op = .assign x) (h : ρ x = u) (hu : O u w) : ∃ v, (execOp ρ o).run Try.prog w = .ok (.value v) w ∧ O v w := ⟨_, ex_assign ho h, hu⟩
end

/-- What lies in the two rows of three. -/
def Held (B g r : Nat) (f0 f1 : List ByteArray) (m0 m1 m2 : List Pr) (w : World) : Prop :=
  B ≤ w.heap.size ∧ (∃ u0 u1 u2, Blk w g 22 #[u0, u1, u2] ∧ OwnS B f0 u0 w ∧ OwnS B f1 u1 w) ∧ ∃ u0 u1 u2, Blk w r 31 #[u0, u1, u2] ∧ OwnP B m0 u0 w ∧ OwnP B m1 u1 w ∧ OwnP B m2 u2 w
section
variable {B g r : Nat} {f0 f1 : List ByteArray} {m0 m1 m2 : List Pr} {w w' : World}
theorem Held.keep (h : Held B g r f0 f1 m0 m1 m2 w) (hb : Below w.heap.size w w') : Held B g r f0 f1 m0 m1 m2 w' := by
  obtain ⟨h0, ⟨u0, u1, u2, hB, h1, h2⟩, x0, x1, x2, hX, y0, y1, y2⟩ := h
  exact ⟨Nat.le_trans h0 hb.size, ⟨u0, u1, u2, hB.below hb hB.lt, h1.keep hb, h2.keep hb⟩, x0, x1, x2, hX.below hb hX.lt, y0.keep hb, y1.keep hb, y2.keep hb⟩
theorem Held.s0 (h : Held B g r f0 f1 m0 m1 m2 w) : ∃ u, w.cell? ⟨g, 0, none⟩ = some u ∧ OwnS B f0 u w := by
  obtain ⟨h0, ⟨u0, u1, u2, hB, h1, h2⟩, x0, x1, x2, hX, y0, y1, y2⟩ := h
  exact ⟨u0, hB.cell 0, h1⟩
theorem Held.s1 (h : Held B g r f0 f1 m0 m1 m2 w) : ∃ u, w.cell? ⟨g, 1, none⟩ = some u ∧ OwnS B f1 u w := by
  obtain ⟨h0, ⟨u0, u1, u2, hB, h1, h2⟩, x0, x1, x2, hX, y0, y1, y2⟩ := h
  exact ⟨u1, hB.cell 1, h2⟩
theorem Held.p0 (h : Held B g r f0 f1 m0 m1 m2 w) : ∃ u, w.cell? ⟨r, 0, none⟩ = some u ∧ OwnP B m0 u w := by
  obtain ⟨h0, ⟨u0, u1, u2, hB, h1, h2⟩, x0, x1, x2, hX, y0, y1, y2⟩ := h
  exact ⟨x0, hX.cell 0, y0⟩
theorem Held.p1 (h : Held B g r f0 f1 m0 m1 m2 w) : ∃ u, w.cell? ⟨r, 1, none⟩ = some u ∧ OwnP B m1 u w := by
  obtain ⟨h0, ⟨u0, u1, u2, hB, h1, h2⟩, x0, x1, x2, hX, y0, y1, y2⟩ := h
  exact ⟨x1, hX.cell 1, y1⟩
theorem Held.p2 (h : Held B g r f0 f1 m0 m1 m2 w) : ∃ u, w.cell? ⟨r, 2, none⟩ = some u ∧ OwnP B m2 u w := by
  obtain ⟨h0, ⟨u0, u1, u2, hB, h1, h2⟩, x0, x1, x2, hX, y0, y1, y2⟩ := h
  exact ⟨x2, hX.cell 2, y2⟩
end
theorem OwnS.sl {B : Nat} {l : List ByteArray} {v : Value} {w : World} (h : OwnS B l v w) : ∃ A n c, v = .slice A n c := h.2.elim fun A h => h.elim fun c h => ⟨A, _, c, h.1⟩
theorem OwnP.sl {B : Nat} {l : List Pr} {v : Value} {w : World} (h : OwnP B l v w) : ∃ A n c, v = .slice A n c := h.2.elim fun A h => h.elim fun c h => ⟨A, _, c, h.1⟩
/-- What came in, and lies in three boxes. -/
def In3 (B : Nat) (A0 A1 A2 D0 D1 D2 : Option Addr) (n0 n1 n2 c0 c1 c2 m0 m1 m2 e0 e1 e2 : Nat) (l0 l1 l2 : List ByteArray) (p0 p1 p2 : List Pr) (w : World) : Prop :=
  B + 1 + 1 < w.heap.size ∧ (Ss w B A0 n0 l0 ∧ Ss w B A1 n1 l1 ∧ Ss w B A2 n2 l2) ∧ (Ps w B D0 m0 p0 ∧ Ps w B D1 m1 p1 ∧ Ps w B D2 m2 p2) ∧
  Blk w B 25 #[.slice A0 n0 c0, .slice D0 m0 e0] ∧ Blk w (B + 1) 25 #[.slice A1 n1 c1, .slice D1 m1 e1] ∧ Blk w (B + 1 + 1) 25 #[.slice A2 n2 c2, .slice D2 m2 e2]
theorem In3.keep {B : Nat} {A0 A1 A2 D0 D1 D2 : Option Addr} {n0 n1 n2 c0 c1 c2 m0 m1 m2 e0 e1 e2 : Nat} {l0 l1 l2 : List ByteArray} {p0 p1 p2 : List Pr} {w w' : World} (h : In3 B A0 A1 A2 D0 D1 D2 n0 n1 n2 c0 c1 c2 m0 m1 m2 e0 e1 e2 l0 l1 l2 p0 p1 p2 w) (hb : Below w.heap.size w w') :
    In3 B A0 A1 A2 D0 D1 D2 n0 n1 n2 c0 c1 c2 m0 m1 m2 e0 e1 e2 l0 l1 l2 p0 p1 p2 w' := by
  obtain ⟨h0, ⟨s0, s1, s2⟩, ⟨q0, q1, q2⟩, x0, x1, x2⟩ := h
  have hB : Below B w w' := hb.mono (by omega)
  exact ⟨Nat.lt_of_lt_of_le h0 hb.size, ⟨s0.below hB, s1.below hB, s2.below hB⟩, ⟨q0.below hB, q1.below hB, q2.below hB⟩, x0.below hb x0.lt, x1.below hb x1.lt, x2.below hb x2.lt⟩
theorem op_build3 {ops : Array Oper} {W : World} {V : Nat → Value → World → Prop} {L : (Nat → Value) → Act} {i : Nat} {o : Oper} {B : Nat} {e : TypeId} (O : Nat → Value → World → Prop) (keepO : ∀ j v w w', O j v w → Below w.heap.size w w' → O j v w') (hg : o.guard = none) (hVi : ∀ v w, Row3 B e O v w → V i v w)
    (h : ∀ (s : Nat → Value) (w : World), Below W.heap.size W w → (∀ j, depB o j = true → V j (s j) w) → ∃ a b c, (execOp (L s).eval o).run Try.prog w = .ok (.value (.slice (some ⟨w.heap.size, 0, none⟩) 3 3)) (w.alloc (.cells #[a, b, c] e)) ∧ B ≤ w.heap.size ∧ O 0 a w ∧ O 1 b w ∧ O 2 c w) : OpAt Try.prog ops W V L i o := by
  intro s w hb hd
  obtain ⟨a, b, c, hr, hB, h0, h1, h2⟩ := h s w hb hd
  have hk : Below w.heap.size w (w.alloc (.cells #[a, b, c] e)) := (Below.refl w.heap.size w).alloc (Nat.le_refl _) _
  exact ⟨by simp [Region.wanted, hg], .inl ⟨_, _, hr, hVi _ _ ⟨_, a, b, c, rfl, hB, Blk.new _ _ _, keepO _ _ _ _ h0 hk, keepO _ _ _ _ h1 hk, keepO _ _ _ _ h2 hk⟩, hk⟩⟩
theorem eval_some {a : Act} {t : Tmp} {b : Bool} (h : a.eval (.tmp t) = .bool b) : a.tmps[t]? = some (.bool b) := by
  simp only [Act.eval, Array.getD_eq_getD_getElem?] at h
  cases hq : a.tmps[t]? with
  | none => rw [hq] at h; simp [undef] at h
  | some x => rw [hq] at h; simp at h; rw [h]
/-- A step whose guard is known. -/
theorem op_guarded {ops : Array Oper} {W : World} {V : Nat → Value → World → Prop} {L : (Nat → Value) → Act} {i : Nat} {o : Oper} (j : Nat) (b : Bool) (t : Tmp) (hg : o.guard = some (j, b)) (ht : (ops[j]?).bind (·.dst) = some t) (hj : depB o j = true)
    (hL : ∀ s, (L s).eval (.tmp t) = s j) (hVj : ∀ v w, V j v w → v = .bool b)
    (h : ∀ (s : Nat → Value) (w : World), Below W.heap.size W w → (∀ j, depB o j = true → V j (s j) w) →
      ((∃ v, (execOp (L s).eval o).run Try.prog w = .ok (.value v) w ∧ V i v w) ∨ ∃ f args, (execOp (L s).eval o).run Try.prog w = .ok (.enter f args) w ∧ Calls Try.prog f args w (Hands (V i) w))) : OpAt Try.prog ops W V L i o := by
  intro s w hb hd
  refine ⟨wanted_of hg ?_, ?_⟩
  · rw [ht]
    exact eval_some ((hL s).trans (hVj _ _ (hd j hj)))
  · rcases h s w hb hd with ⟨v, h1, h2⟩ | h
    · exact .inl ⟨v, w, h1, h2, Below.refl _ _⟩
    · exact .inr h

end Go.Proofs.Ytjedjplpbgnpmaa
