/-
  Words for lists in memory: lists of numbers; rows that the call itself made; draws.
-/
import Derived.Test.YtgopokoghnfgiaaMem
import Derived.Test.YtgopokoghnfgiaaFrame
import Derived.Deep.AppendLies
import Derived.Lib.Hide
import Derived.Lib.MinMax
namespace Go.Proofs.Ytgopokoghnfgiaa
open Go.RowKit

/-- Nothing but draws. -/
def Drew (w w' : World) : Prop := ∃ n, w.drewN n = w'
theorem Drew.refl (w : World) : Drew w w := ⟨0, rfl⟩
theorem Drew.below {w w' : World} (h : Drew w w') (B : Nat) : Below B w w' := by
  obtain ⟨n, rfl⟩ := h
  exact below_drewN (Below.refl _ _) n

theorem take_snoc {α : Type} (zs : List α) (d : α) (k : Nat) (h : k < zs.length) : zs.take (k + 1) = zs.take k ++ [zs.getD k d] := by
  rw [List.take_succ_eq_append_getElem h]
  simp [List.getD, h]

theorem own_blk_ne {w : World} {g : Nat} {t : TypeId} {cs : Array Value} {base : Nat} {e : TypeId} {size n : Nat} {v : Value} {xs : List Value} (h : w.ownsRow base e size v n xs) (hg : Blk w g t cs) (hne : e ≠ t) : v.ownBlock ≠ some g := by
  rcases h.2 with ⟨rfl, _⟩ | ⟨g', cap, cur, rfl, _, hh, _⟩
  · simp [Value.ownBlock]
  · intro he
    have : g' = g := by simpa [Value.ownBlock] using he
    subst this
    exact Blk.ne_ (t := e) hh hg hne rfl
theorem own_form {w : World} {base : Nat} {e : TypeId} {size n : Nat} {v : Value} {xs : List Value} (h : w.ownsRow base e size v n xs) : ∃ A c, v = .slice A n c := by
  rcases h.2 with ⟨rfl, rfl⟩ | ⟨g, cap, cur, rfl, _⟩
  · exact ⟨_, _, rfl⟩
  · exact ⟨_, _, rfl⟩
theorem own_base {w : World} {base base' : Nat} {e : TypeId} {size n : Nat} {v : Value} {xs : List Value} (h : w.ownsRow base e size v n xs) (hb : base' ≤ base) : w.ownsRow base' e size v n xs := by
  refine ⟨h.1, ?_⟩
  rcases h.2 with h0 | ⟨g, cap, cur, hv, hg, rest⟩
  · exact .inl h0
  · exact .inr ⟨g, cap, cur, hv, Nat.le_trans hb hg, rest⟩
theorem own_cap {w : World} {base : Nat} {e : TypeId} {size : Nat} {A : Option Addr} {n c : Nat} {xs : List Value} (h : w.ownsRow base e size (.slice A n c) n xs) : n ≤ c ∧ c ≤ maxLen := by
  rcases h.2 with ⟨hv, h0⟩ | ⟨g, cap, cur, hv, _, _, hc, hm, _⟩
  · injection hv; subst_vars; exact ⟨Nat.le_refl _, Nat.zero_le _⟩
  · injection hv; subst_vars; exact ⟨hc, hm⟩
theorem own_own_ne {w : World} {b1 b2 : Nat} {e1 e2 : TypeId} {s1 s2 n1 n2 : Nat} {v1 v2 : Value} {x1 x2 : List Value} (h1 : w.ownsRow b1 e1 s1 v1 n1 x1) (h2 : w.ownsRow b2 e2 s2 v2 n2 x2) (hne : e1 ≠ e2) : v1.ownBlock = none ∨ v1.ownBlock ≠ v2.ownBlock := by
  rcases h2.2 with ⟨rfl, _⟩ | ⟨g, cap, cur, rfl, _, hh, _⟩
  · cases hv : v1.ownBlock
    · exact .inl rfl
    · right; simp [Value.ownBlock]
  · exact .inr (own_blk_ne (g := g) h1 hh hne)
theorem own_keep {w w' : World} {base : Nat} {e : TypeId} {size n : Nat} {v : Value} {xs : List Value} (h : w.ownsRow base e size v n xs) (hb : Below w.heap.size w w') : w'.ownsRow base e size v n xs :=
  h.kept (only_of_below hb none) (by simp [Classical.em])
/-- A row that lies above what a step may turn. -/
theorem own_nil_or {w : World} {base : Nat} {e : TypeId} {size n : Nat} {v : Value} {xs : List Value} (h : w.ownsRow base e size v n xs) (g : Nat) (hg : g < base) : v.ownBlock ≠ some g := by
  intro he
  have := (h.lt g he).1
  omega

/-- Numbers as cells. -/
def nums (l : List Int) : List Value := l.map fun i => .int .i64 i
theorem nums_snoc (l : List Int) (a : Int) : nums (l ++ [a]) = nums l ++ [.int .i64 a] := by simp [nums]
theorem nums_len (l : List Int) : (nums l).length = l.length := by simp [nums]

/-- A slice of ints that reads as a list, below block B. -/
def Nums (w : World) (B : Nat) (A : Option Addr) (n : Nat) (l : List Int) : Prop :=
  l.length = n ∧ ∀ k, k < n → ∃ b off, A = some ⟨b, off, none⟩ ∧ b < B ∧ w.cell? ⟨b, off + k, none⟩ = some (.int .i64 (l.getD k 0))
theorem Nums.below {w w' : World} {B : Nat} {A : Option Addr} {n : Nat} {l : List Int} (h : Nums w B A n l) (hb : Below B w w') : Nums w' B A n l :=
  ⟨h.1, fun k hk => by
    obtain ⟨b, off, hA, hB, h0⟩ := h.2 k hk
    exact ⟨b, off, hA, hB, (hb.cell (p := ⟨b, _, none⟩) hB).trans h0⟩⟩
theorem Nums.more {w : World} {B B' : Nat} {A : Option Addr} {n : Nat} {l : List Int} (h : Nums w B A n l) (hB : B ≤ B') : Nums w B' A n l :=
  ⟨h.1, fun k hk => by
    obtain ⟨b, off, hA, hb, h0⟩ := h.2 k hk
    exact ⟨b, off, hA, by omega, h0⟩⟩
theorem Nums.of_own {w : World} {base : Nat} {A : Option Addr} {n c : Nat} {l : List Int} (h : w.ownsRow base 3 1 (.slice A n c) n (nums l)) (hl : l.length = n) : Nums w w.heap.size A n l := by
  refine ⟨hl, fun k hk => ?_⟩
  obtain ⟨g, cap, hv, _, hlt⟩ := h.form (by omega)
  obtain ⟨rfl, rfl⟩ : A = some ⟨g, 0, none⟩ ∧ c = cap := by injection hv; exact ⟨by assumption, by assumption⟩
  have c0 := h.cells (g := g) rfl k (.int .i64 (l.getD k 0)) (by simp [nums, List.getD, show k < l.length by omega])
  rw [Addr.add_lit] at c0
  exact ⟨g, 0, rfl, hlt, c0⟩
theorem Nums.nil (w : World) (B : Nat) (A : Option Addr) : Nums w B A 0 [] := ⟨rfl, fun k hk => by omega⟩

end Go.Proofs.Ytgopokoghnfgiaa
