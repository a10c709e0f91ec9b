/-
  The walk over kept, of layer 12.
-/
import Derived.Test.YtgopokoghnfgiaaWovT
namespace Go.Proofs.Ytgopokoghnfgiaa
open Go.RowKit
attribute [local go_sem ↓] Go.wp_at_zero Go.wp_at_succ

section
variable {ρ : Operand → Value} {o : Oper} {w : World}
theorem ex_move {x : Operand} {v : Value} (ho : o.op = .move x) (h : ρ x = v) : (execOp ρ o).run Try.prog w = .ok (.value v) w := by
  unfold execOp; rw [ho]; simp [h]
theorem ex_assign {x : Operand} {v : Value} (ho : o.op = .assign x) (h : ρ x = v) : (execOp ρ o).run Try.prog w = .ok (.value v) w := by
  unfold execOp; rw [ho]; simp [h]
theorem ex_lit1 {x : Operand} {a : Int} (ho : o.op = .buildSlice 30 1 #[(0, x)]) (hx : ρ x = .int .i64 a) :
    (execOp ρ o).run Try.prog w = .ok (.value (.slice (some ⟨w.heap.size, 0, none⟩) 1 1)) (w.alloc (.cells #[.int .i64 a] 3)) := by
  unfold execOp; rw [ho]
  go_simp
theorem ex_look {x y : Operand} {m k v : Value} (ho : o.op = .lookup 78 x y false) (hx : ρ x = m) (hy : ρ y = k) (hr : (Instr.lookup 78 m k false).run Try.prog w = .ok v w) : (execOp ρ o).run Try.prog w = .ok (.value v) w := by
  unfold execOp; rw [ho]; simp only [hx, hy]
  go_simp
theorem ex_app {x y : Operand} {u v r : Value} {w' : World} (ho : o.op = .call { callee := .builtin .append, args := #[x, y], argTypes := #[30, 30] }) (hx : ρ x = u) (hy : ρ y = v) (hr : ∀ ty, (Builtin.append_ #[30, 30] ty #[u, v]).run Try.prog w = .ok r w') : (execOp ρ o).run Try.prog w = .ok (.value r) w' := by
  have e : #[x, y].map ρ = #[u, v] := by simp [hx, hy]
  unfold execOp; rw [ho]; simp only [resolve, e, Sem.run_bind, Sem.run_pure, Result.andThen_ok, invoke, builtin, hr]
end

/-- Two values' rows lie apart. -/
def Aprt (u v : Value) : Prop := u.ownBlock = none ∨ u.ownBlock ≠ v.ownBlock
theorem Aprt.symm {u v : Value} (h : Aprt u v) : Aprt v u := by
  rcases h with h | h
  · rw [Aprt, h]
    cases hv : v.ownBlock with
    | none => exact .inl rfl
    | some b => exact .inr (by simp)
  · exact .inr fun e => h e.symm
theorem aprt_new {w : World} {base : Nat} {e : TypeId} {size n : Nat} {u v : Value} {xs : List Value} {g c m : Nat} (hu : w.ownsRow base e size u n xs) (h : Aprt u v) (hat : v.ownBlock = some g ∨ g = w.heap.size) : Aprt u (.slice (some ⟨g, 0, none⟩) m c) := by
  cases hb : u.ownBlock with
  | none => exact .inl hb
  | some b =>
    refine .inr fun e => ?_
    rw [hb] at e
    have e : b = g := Option.some.inj e
    rcases hat with h1 | h1
    · rcases h with h2 | h2
      · rw [hb] at h2; cases h2
      · exact h2 (by rw [hb, h1, e])
    · have := (hu.lt b hb).2; omega

/-- What lies there while two rows grow by one each, in whatever order. -/
structure Two (w0 : World) (vi vo : Value) (ids old : List Int) (x p : Int) (b3 b9 b10 b11 : Bool) (s3 s9 s10 s11 : Value) (w : World) : Prop where
  i : w.ownsRow w0.heap.size 3 1 (if b3 = true then s3 else vi) (if b3 = true then ids ++ [x] else ids).length (nums (if b3 = true then ids ++ [x] else ids))
  o : w.ownsRow w0.heap.size 3 1 (if b9 = true then s9 else vo) (if b9 = true then old ++ [p] else old).length (nums (if b9 = true then old ++ [p] else old))
  ap : Aprt (if b3 = true then s3 else vi) (if b9 = true then s9 else vo)
  ai : b10 = true → b3 = true ∧ s10 = s3
  ao : b11 = true → b9 = true ∧ s11 = s9
  be : Below w0.heap.size w0 w
section
variable {w0 w w' : World} {vi vo : Value} {ids old : List Int} {x p : Int} {b3 b9 b10 b11 : Bool} {s3 s9 s10 s11 : Value}
theorem Two.keep (h : Two w0 vi vo ids old x p b3 b9 b10 b11 s3 s9 s10 s11 w) (hb : Below w.heap.size w w') : Two w0 vi vo ids old x p b3 b9 b10 b11 s3 s9 s10 s11 w' :=
  ⟨own_keep h.i hb, own_keep h.o hb, h.ap, h.ai, h.ao, h.be.trans (hb.mono h.be.size)⟩
/-- Block g of a row's: where it may be. -/
def RelK (W0 : Nat) (w w' : World) : Prop := ∃ row, w.grownBy w' row ∧ ∀ b, row = some b → b < W0
theorem RelK.of_below {W0 : Nat} {w w' : World} (h : Below w.heap.size w w') : RelK W0 w w' := ⟨none, only_of_below h none, fun _ h => by cases h⟩
theorem RelK.blk {W0 g : Nat} {t : TypeId} {cs : Array Value} (h : Blk w g t cs) (hg : W0 ≤ g) (hr : RelK W0 w w') : Blk w' g t cs := by
  obtain ⟨row, h1, h2⟩ := hr
  exact h.grown h1 (fun e => by have := h2 g e.symm; omega)
theorem Two.addI (h : Two w0 vi vo ids old x p false b9 b10 b11 s3 s9 s10 s11 w) (hl : ids.length ≤ 1000) {g c : Nat} {W0 : Nat} (hW : ∀ b, vi.ownBlock = some b → b < W0) (hg : Blk w g 3 #[.int .i64 x]) (hgc : c = 1) :
    ∃ v w', (∀ ty, (Builtin.append_ #[30, 30] ty #[vi, .slice (some ⟨g, 0, none⟩) 1 c]).run Try.prog w = .ok v w') ∧ RelK W0 w w' ∧ w.grownBy w' vi.ownBlock ∧ Two w0 vi vo ids old x p true b9 b10 b11 v s9 s10 s11 w' := by
  subst hgc
  obtain ⟨tr, hi, hz0, hz1, hz2⟩ := info_parts winfo
  have hi' := h.i
  simp only [Bool.false_eq_true, if_false] at hi'
  obtain ⟨g2, cap, w', hr, h2, h3, h4, h5⟩ := run_append_lies (P := Try.prog) w 30 0 w0.heap.size 3 tr _ 1 8 Try.underlying30 hi hz0 hz1 hz2 rfl (by decide) vi _ _ hi' ⟨g, 0, none⟩ 1 1 [.int .i64 x] rfl (World.news_of_block hg) (by intro u hu; simp at hu; subst hu; rfl) (by omega) (by unfold maxLen; omega) (by omega) h.be.size _ rfl
  have hap := h.ap
  simp only [Bool.false_eq_true, if_false] at hap
  refine ⟨.slice (some ⟨g2, 0, none⟩) (ids.length + 1) cap, w', fun ty => ?_, ⟨_, h3, hW⟩, h3, ⟨?_, ?_, ?_, ?_, h.ao, ?_⟩⟩
  · rw [← hr]
    obtain ⟨A, c', rfl⟩ := own_form hi'
    simp [Builtin.append_, sizeOf, typeInfo, hi, run_underlying Try.underlying30]
  · simp only [if_true]
    rw [List.length_append, nums_snoc]
    exact h2
  · exact h.o.kept h3 hap.symm
  · simp only [if_true]
    exact (aprt_new h.o hap.symm h4).symm
  · intro hb
    have := (h.ai hb).1
    cases this
  · exact h.be.grown h3 h.be.size (fun b hb => (hi'.lt b hb).1)
theorem Two.addO (h : Two w0 vi vo ids old x p b3 false b10 b11 s3 s9 s10 s11 w) (hl : old.length ≤ 1000) {g c : Nat} {W0 : Nat} (hW : ∀ b, vo.ownBlock = some b → b < W0) (hg : Blk w g 3 #[.int .i64 p]) (hgc : c = 1) :
    ∃ v w', (∀ ty, (Builtin.append_ #[30, 30] ty #[vo, .slice (some ⟨g, 0, none⟩) 1 c]).run Try.prog w = .ok v w') ∧ RelK W0 w w' ∧ w.grownBy w' vo.ownBlock ∧ Two w0 vi vo ids old x p b3 true b10 b11 s3 v s10 s11 w' := by
  subst hgc
  obtain ⟨tr, hi, hz0, hz1, hz2⟩ := info_parts winfo
  have hi' := h.o
  simp only [Bool.false_eq_true, if_false] at hi'
  obtain ⟨g2, cap, w', hr, h2, h3, h4, h5⟩ := run_append_lies (P := Try.prog) w 30 0 w0.heap.size 3 tr _ 1 8 Try.underlying30 hi hz0 hz1 hz2 rfl (by decide) vo _ _ hi' ⟨g, 0, none⟩ 1 1 [.int .i64 p] rfl (World.news_of_block hg) (by intro u hu; simp at hu; subst hu; rfl) (by omega) (by unfold maxLen; omega) (by omega) h.be.size _ rfl
  have hap := h.ap
  simp only [Bool.false_eq_true, if_false] at hap
  refine ⟨.slice (some ⟨g2, 0, none⟩) (old.length + 1) cap, w', fun ty => ?_, ⟨_, h3, hW⟩, h3, ⟨?_, ?_, ?_, h.ai, ?_, ?_⟩⟩
  · rw [← hr]
    obtain ⟨A, c', rfl⟩ := own_form hi'
    simp [Builtin.append_, sizeOf, typeInfo, hi, run_underlying Try.underlying30]
  · exact h.i.kept h3 hap
  · simp only [if_true]
    rw [List.length_append, nums_snoc]
    exact h2
  · simp only [if_true]
    exact aprt_new h.i hap h4
  · intro hb
    have := (h.ao hb).1
    cases this
  · exact h.be.grown h3 h.be.size (fun b hb => (hi'.lt b hb).1)
end

end Go.Proofs.Ytgopokoghnfgiaa
