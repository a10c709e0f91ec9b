/-
  What single operations yield, frames being known by what they hold.
-/
import Derived.Test.YtjedjplpbgnpmaaTurnR
import Derived.Test.YtjedjplpbgnpmaaTurnP
namespace Go.Proofs.Ytjedjplpbgnpmaa
open Go.RowKit
attribute [local go_sem ↓] Go.wp_at_zero Go.wp_at_succ

section
variable {ρ : Operand → Value} {o : Oper} {w : World}
theorem ex_move {x : Operand} {v : Value} (ho : o.op = .move x) (h : ρ x = v) : (execOp ρ o).run Try.prog w = .ok (.value v) w := by
  unfold execOp; rw [ho]; simp [h]
theorem ex_assign {x : Operand} {v : Value} (ho : o.op = .assign x) (h : ρ x = v) : (execOp ρ o).run Try.prog w = .ok (.value v) w := by
  unfold execOp; rw [ho]; simp [h]
theorem ex_field0 {x : Operand} {b : Nat} (ho : o.op = .fieldAddr 25 x 0) (h : ρ x = .pointer (some ⟨b, 0, none⟩)) : (execOp ρ o).run Try.prog w = .ok (.value (.pointer (some ⟨b, 0, none⟩))) w := by
  unfold execOp; rw [ho]; simp only [h]
  go_simp
theorem ex_field1 {x : Operand} {b : Nat} (ho : o.op = .fieldAddr 25 x 1) (h : ρ x = .pointer (some ⟨b, 0, none⟩)) : (execOp ρ o).run Try.prog w = .ok (.value (.pointer (some ⟨b, 1, none⟩))) w := by
  unfold execOp; rw [ho]; simp only [h]
  go_simp
theorem ex_loadS {x : Operand} {g : Addr} {A : Option Addr} {n c : Nat} (ho : o.op = .load 22 x) (h : ρ x = .pointer (some g)) (hc : w.cell? g = some (.slice A n c)) : (execOp ρ o).run Try.prog w = .ok (.value (.slice A n c)) w := by
  unfold execOp; rw [ho]; simp only [h]
  go_simp
theorem ex_loadR {x : Operand} {g : Addr} {A : Option Addr} {n c : Nat} (ho : o.op = .load 23 x) (h : ρ x = .pointer (some g)) (hc : w.cell? g = some (.slice A n c)) : (execOp ρ o).run Try.prog w = .ok (.value (.slice A n c)) w := by
  unfold execOp; rw [ho]; simp only [h]
  go_simp
theorem ex_loadM {x : Operand} {g : Addr} {A : Option Addr} {n c : Nat} (ho : o.op = .load 31 x) (h : ρ x = .pointer (some g)) (hc : w.cell? g = some (.slice A n c)) : (execOp ρ o).run Try.prog w = .ok (.value (.slice A n c)) w := by
  unfold execOp; rw [ho]; simp only [h]
  go_simp
theorem ex_index {x y : Operand} {b n c k : Nat} {t : TypeId} (ht : t = 36 ∨ t = 39) (ho : o.op = .indexAddr t x y) (h : ρ x = .slice (some ⟨b, 0, none⟩) n c) (hy : ρ y = .int .i64 k) (hk : k < n) : (execOp ρ o).run Try.prog w = .ok (.value (.pointer (some ⟨b, k, none⟩))) w := by
  unfold execOp; rw [ho]; simp only [h, hy]
  have h0 : (0 : Int) ≤ (k : Int) := by omega
  have h1 : (k : Int) < (n : Int) := by omega
  rcases ht with rfl | rfl
  · go_simp
  · go_simp
theorem ex_len {x : Operand} {t : TypeId} {A : Option Addr} {n c : Nat} (ht : t = 26 ∨ t = 28 ∨ t = 22) (ho : o.op = .call { callee := .builtin .len, args := #[x], argTypes := #[t] }) (hot : o.type = 3) (h : ρ x = .slice A n c) : (execOp ρ o).run Try.prog w = .ok (.value (.int .i64 n)) w := by
  unfold execOp; rw [ho]; simp only [hot, resolve]
  rcases ht with rfl | rfl | rfl
  · go_simp
  · go_simp
  · go_simp
theorem ex_call1 {x : Operand} {f : FuncId} {u : Value} {ts : Array TypeId} (ho : o.op = .call { callee := .value (.func f), args := #[x], argTypes := ts }) (hf : ρ (.func f) = .func (.func f) #[] #[]) (hc : (callFunc f #[u]).run Try.prog w = .ok (.enter f #[u]) w) (h : ρ x = u) : (execOp ρ o).run Try.prog w = .ok (.enter f #[u]) w := by
  unfold execOp; rw [ho]; simp only [resolve, hf]
  go_simp
theorem ex_call2 {x y : Operand} {f : FuncId} {u v : Value} {ts : Array TypeId} (ho : o.op = .call { callee := .value (.func f), args := #[x, y], argTypes := ts }) (hf : ρ (.func f) = .func (.func f) #[] #[]) (hc : (callFunc f #[u, v]).run Try.prog w = .ok (.enter f #[u, v]) w) (h : ρ x = u) (h' : ρ y = v) : (execOp ρ o).run Try.prog w = .ok (.enter f #[u, v]) w := by
  unfold execOp; rw [ho]; simp only [resolve, hf]
  go_simp
theorem ex_build3 {x y z : Operand} {t e : TypeId} {a b c : Value} (ht : t = 36 ∧ e = 22 ∨ t = 39 ∧ e = 31) (ho : o.op = .buildSlice t 3 #[(0, x), (1, y), (2, z)]) (hx : ρ x = a) (hy : ρ y = b) (hz : ρ z = c)
    (oa : ∃ A n c, a = .slice A n c) (ob : ∃ A n c, b = .slice A n c) (oc : ∃ A n d, c = .slice A n d) :
    (execOp ρ o).run Try.prog w = .ok (.value (.slice (some ⟨w.heap.size, 0, none⟩) 3 3)) (w.alloc (.cells #[a, b, c] e)) := by
  unfold execOp; rw [ho]
  obtain ⟨_, _, _, rfl⟩ := oa
  obtain ⟨_, _, _, rfl⟩ := ob
  obtain ⟨_, _, _, rfl⟩ := oc
  rcases ht with ⟨rfl, rfl⟩ | ⟨rfl, rfl⟩
  · go_simp
  · go_simp
theorem ex_add {x y : Operand} {a b : Nat} (ho : o.op = .binOp .add 3 x y 3) (h : ρ x = .int .i64 a) (h' : ρ y = .int .i64 b) (ha : a ≤ 1000) (hb : b ≤ 1000) : (execOp ρ o).run Try.prog w = .ok (.value (.int .i64 ((a : Int) + (b : Int)))) w := by
  unfold execOp; rw [ho]; simp only [h, h']
  have e : IntKind.i64.wrap ((a : Int) + (b : Int)) = (a : Int) + (b : Int) := IntWalk.i64_in _ (by omega)
  go_simp
theorem ex_leq {x y : Operand} {a : Nat} {b : Int} (ho : o.op = .binOp .leq 3 x y 3) (h : ρ x = .int .i64 a) (h' : ρ y = .int .i64 b) (hab : (a : Int) ≤ b) : (execOp ρ o).run Try.prog w = .ok (.value (.bool true)) w := by
  unfold execOp; rw [ho]; simp only [h, h']
  go_simp
theorem ex_neq {x y : Operand} {a : Nat} (ho : o.op = .binOp .neq 3 x y 3) (h : ρ x = .int .i64 a) (h' : ρ y = .int .i64 a) : (execOp ρ o).run Try.prog w = .ok (.value (.bool false)) w := by
  unfold execOp; rw [ho]; simp only [h, h']
  go_simp
theorem ex_eql {x y : Operand} {a : Nat} (ho : o.op = .binOp .eql 3 x y 3) (h : ρ x = .int .i64 a) (h' : ρ y = .int .i64 a) : (execOp ρ o).run Try.prog w = .ok (.value (.bool true)) w := by
  unfold execOp; rw [ho]; simp only [h, h']
  go_simp
theorem ex_not {x : Operand} {t : TypeId} (ho : o.op = .unOp .not t x) (h : ρ x = .bool true) : (execOp ρ o).run Try.prog w = .ok (.value (.bool false)) w := by
  unfold execOp; rw [ho]; simp only [h]
  go_simp
theorem ex_pickT {x y z : Operand} {u : Value} (ho : o.op = .pick x y z) (h : ρ x = .bool true) (h' : ρ y = u) : (execOp ρ o).run Try.prog w = .ok (.value u) w := by
  unfold execOp; rw [ho]; simp only [h]
  go_simp
theorem ex_pickF {x y z : Operand} {u : Value} (ho : o.op = .pick x y z) (h : ρ x = .bool false) (h' : ρ z = u) : (execOp ρ o).run Try.prog w = .ok (.value u) w := by
  unfold execOp; rw [ho]; simp only [h]
  go_simp
theorem ex_pick {x y z : Operand} {b : Bool} {u : Value} (ho : o.op = .pick x y z) (h : ρ x = .bool b) (h' : (if b = true then ρ y else ρ z) = u) : (execOp ρ o).run Try.prog w = .ok (.value u) w := by
  unfold execOp; rw [ho]; simp only [h]
  cases b
  · rw [if_neg (by decide)] at h'; go_simp
  · rw [if_pos rfl] at h'; go_simp
end

/-! ### What values are, in worlds that go on -/
def OwnS (B : Nat) (l : List ByteArray) (v : Value) (w : World) : Prop := B ≤ w.heap.size ∧ ∃ A c, v = .slice A l.length c ∧ w.ownsRow B 9 1 (.slice A l.length c) l.length (l.flatMap cvS)
def OwnT (B : Nat) (l : List Cst) (v : Value) (w : World) : Prop := B ≤ w.heap.size ∧ ∃ A c, v = .slice A l.length c ∧ w.ownsRow B 49 2 (.slice A l.length c) l.length (l.flatMap cvT)
def OwnR (B : Nat) (l : List Pr) (v : Value) (w : World) : Prop := B ≤ w.heap.size ∧ ∃ A c, v = .slice A l.length c ∧ w.ownsRow B 56 2 (.slice A l.length c) l.length (l.flatMap cvP)
def OwnP (B : Nat) (l : List Pr) (v : Value) (w : World) : Prop := B ≤ w.heap.size ∧ ∃ A c, v = .slice A l.length c ∧ w.ownsRow B 34 2 (.slice A l.length c) l.length (l.flatMap cvP)
def OwnU (B : Nat) (l : List Pst) (v : Value) (w : World) : Prop := B ≤ w.heap.size ∧ ∃ A c, v = .slice A l.length c ∧ w.ownsRow B 53 3 (.slice A l.length c) l.length (l.flatMap cvU)
theorem OwnS.keep {B : Nat} {l : List ByteArray} {v : Value} {w w' : World} (h : OwnS B l v w) (hb : Below w.heap.size w w') : OwnS B l v w' := ⟨Nat.le_trans h.1 hb.size, h.2.elim fun A h => h.elim fun c h => ⟨A, c, h.1, own_keep h.2 hb⟩⟩
theorem OwnT.keep {B : Nat} {l : List Cst} {v : Value} {w w' : World} (h : OwnT B l v w) (hb : Below w.heap.size w w') : OwnT B l v w' := ⟨Nat.le_trans h.1 hb.size, h.2.elim fun A h => h.elim fun c h => ⟨A, c, h.1, own_keep h.2 hb⟩⟩
theorem OwnR.keep {B : Nat} {l : List Pr} {v : Value} {w w' : World} (h : OwnR B l v w) (hb : Below w.heap.size w w') : OwnR B l v w' := ⟨Nat.le_trans h.1 hb.size, h.2.elim fun A h => h.elim fun c h => ⟨A, c, h.1, own_keep h.2 hb⟩⟩
theorem OwnP.keep {B : Nat} {l : List Pr} {v : Value} {w w' : World} (h : OwnP B l v w) (hb : Below w.heap.size w w') : OwnP B l v w' := ⟨Nat.le_trans h.1 hb.size, h.2.elim fun A h => h.elim fun c h => ⟨A, c, h.1, own_keep h.2 hb⟩⟩
theorem OwnU.keep {B : Nat} {l : List Pst} {v : Value} {w w' : World} (h : OwnU B l v w) (hb : Below w.heap.size w w') : OwnU B l v w' := ⟨Nat.le_trans h.1 hb.size, h.2.elim fun A h => h.elim fun c h => ⟨A, c, h.1, own_keep h.2 hb⟩⟩
theorem OwnS.rd {B : Nat} {l : List ByteArray} {v : Value} {w : World} (h : OwnS B l v w) : ∃ A c, v = .slice A l.length c ∧ Ss w w.heap.size A l.length l := h.2.elim fun A h => h.elim fun c h => ⟨A, c, h.1, Rd.of_own (cv := cvS) (d := ByteArray.empty) (fun _ => rfl) h.2 rfl⟩
theorem OwnT.rd {B : Nat} {l : List Cst} {v : Value} {w : World} (h : OwnT B l v w) : ∃ A c, v = .slice A l.length c ∧ Ts w w.heap.size A l.length l := h.2.elim fun A h => h.elim fun c h => ⟨A, c, h.1, Rd.of_own (cv := cvT) (d := cst0) (fun _ => rfl) h.2 rfl⟩
theorem OwnR.rd {B : Nat} {l : List Pr} {v : Value} {w : World} (h : OwnR B l v w) : ∃ A c, v = .slice A l.length c ∧ Ps w w.heap.size A l.length l := h.2.elim fun A h => h.elim fun c h => ⟨A, c, h.1, Rd.of_own (cv := cvP) (d := pr0) (fun _ => rfl) h.2 rfl⟩
theorem OwnP.rd {B : Nat} {l : List Pr} {v : Value} {w : World} (h : OwnP B l v w) : ∃ A c, v = .slice A l.length c ∧ Ps w w.heap.size A l.length l := h.2.elim fun A h => h.elim fun c h => ⟨A, c, h.1, Rd.of_own (cv := cvP) (d := pr0) (fun _ => rfl) h.2 rfl⟩
theorem OwnU.rd {B : Nat} {l : List Pst} {v : Value} {w : World} (h : OwnU B l v w) : ∃ A c, v = .slice A l.length c ∧ Us w w.heap.size A l.length l := h.2.elim fun A h => h.elim fun c h => ⟨A, c, h.1, Rd.of_own (cv := cvU) (d := pst0) (fun _ => rfl) h.2 rfl⟩
/-- A row of three. -/
def Row3 (B : Nat) (t : TypeId) (O : Nat → Value → World → Prop) (v : Value) (w : World) : Prop :=
  ∃ g u0 u1 u2, v = .slice (some ⟨g, 0, none⟩) 3 3 ∧ B ≤ g ∧ Blk w g t #[u0, u1, u2] ∧ O 0 u0 w ∧ O 1 u1 w ∧ O 2 u2 w
theorem Row3.keep {B : Nat} {t : TypeId} {O : Nat → Value → World → Prop} (hO : ∀ j v w w', O j v w → Below w.heap.size w w' → O j v w') {v : Value} {w w' : World} (h : Row3 B t O v w) (hb : Below w.heap.size w w') : Row3 B t O v w' := by
  obtain ⟨g, u0, u1, u2, hv, hg, hB, h0, h1, h2⟩ := h
  exact ⟨g, u0, u1, u2, hv, hg, hB.below hb hB.lt, hO _ _ _ _ h0 hb, hO _ _ _ _ h1 hb, hO _ _ _ _ h2 hb⟩

/-! ### A step, in short -/
theorem op_val {ops : Array Oper} {W : World} {V : Nat → Value → World → Prop} {L : (Nat → Value) → Act} {i : Nat} {o : Oper} (hg : o.guard = none)
    (h : ∀ (s : Nat → Value) (w : World), Below W.heap.size W w → (∀ j, depB o j = true → V j (s j) w) → ∃ v, (execOp (L s).eval o).run Try.prog w = .ok (.value v) w ∧ V i v w) : OpAt Try.prog ops W V L i o := by
  intro s w hb hd
  refine ⟨by simp [Region.wanted, hg], .inl ?_⟩
  obtain ⟨v, h1, h2⟩ := h s w hb hd
  exact ⟨v, w, h1, h2, Below.refl _ _⟩
theorem op_call {ops : Array Oper} {W : World} {V : Nat → Value → World → Prop} {L : (Nat → Value) → Act} {i : Nat} {o : Oper} (hg : o.guard = none)
    (h : ∀ (s : Nat → Value) (w : World), Below W.heap.size W w → (∀ j, depB o j = true → V j (s j) w) → ∃ f args, (execOp (L s).eval o).run Try.prog w = .ok (.enter f args) w ∧ Calls Try.prog f args w (fun e w' => ∃ v, e = .returned v ∧ V i v w' ∧ Below w.heap.size w w')) : OpAt Try.prog ops W V L i o := by
  intro s w hb hd
  exact ⟨by simp [Region.wanted, hg], .inr (h s w hb hd)⟩

end Go.Proofs.Ytjedjplpbgnpmaa
