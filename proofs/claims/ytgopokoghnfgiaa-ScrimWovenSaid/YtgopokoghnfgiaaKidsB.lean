/-
  Words for kids in memory: a key and a kind each. (Written by gen_kids.py.)
-/
import Derived.Test.YtgopokoghnfgiaaLists
import Derived.Deep.SlicePairs
import Derived.Lib.SmallJoins
import Derived.Deep.Strs
import Derived.WalkSpells
import Derived.Deep.QuietTactic
import Derived.BigQuiet
import Derived.Deep.DrawnRows
namespace Go.Proofs.Ytgopokoghnfgiaa
open Go.Joins Go.ChangeShapes Go.WideShapes Go.RowKit Go.Deep
attribute [local go_sem ↓] Go.wp_at_zero Go.wp_at_succ

/-- A key, a kind. -/
abbrev Kid := ByteArray × Int
def kid0 : Kid := (ByteArray.empty, 0)
/-- Its two cells. -/
def k0 (p : Kid) : Value := .int .i64 p.2
def k1 (p : Kid) : Value := .string p.1
def flatK (l : List Kid) : List Value := l.flatMap fun p => [k0 p, k1 p]
theorem flatK_snoc (l : List Kid) (p : Kid) : flatK (l ++ [p]) = flatK l ++ [k0 p, k1 p] := by simp [flatK]
theorem flatK_len (l : List Kid) : (flatK l).length = l.length * 2 := by
  induction l with
  | nil => rfl
  | cons a l ih => simp only [flatK, List.flatMap_cons, List.length_append, List.length_cons, List.length_nil] at ih ⊢; omega
theorem flatK_at (l : List Kid) (k : Nat) (h : k < l.length) : (flatK l)[k * 2]? = some (k0 (l.getD k kid0)) ∧ (flatK l)[k * 2 + 1]? = some (k1 (l.getD k kid0)) := by
  induction l generalizing k with
  | nil => simp at h
  | cons a l ih =>
    cases k with
    | zero => exact ⟨rfl, rfl⟩
    | succ k =>
      have := ih k (by simpa using h)
      have e1 : (k + 1) * 2 = k * 2 + 1 + 1 := by omega
      simp only [flatK, List.flatMap_cons, List.cons_append, List.nil_append] at this ⊢
      rw [e1]
      simpa using this

/-- A slice of kids that reads as a list, below block B. -/
def Kids (w : World) (B : Nat) (A : Option Addr) (n : Nat) (ks : List Kid) : Prop :=
  ks.length = n ∧ ∀ k, k < n → ∃ b off, A = some ⟨b, off, none⟩ ∧ b < B ∧ w.cell? ⟨b, off + k * 2, none⟩ = some (k0 (ks.getD k kid0)) ∧ w.cell? ⟨b, off + k * 2 + 1, none⟩ = some (k1 (ks.getD k kid0))
theorem Kids.below {w w' : World} {B : Nat} {A : Option Addr} {n : Nat} {ks : List Kid} (h : Kids w B A n ks) (hb : Below B w w') : Kids w' B A n ks :=
  ⟨h.1, fun k hk => by
    obtain ⟨b, off, hA, hB, h0, h1⟩ := h.2 k hk
    exact ⟨b, off, hA, hB, (hb.cell (p := ⟨b, _, none⟩) hB).trans h0, (hb.cell (p := ⟨b, _, none⟩) hB).trans h1⟩⟩
theorem Kids.more {w : World} {B B' : Nat} {A : Option Addr} {n : Nat} {ks : List Kid} (h : Kids w B A n ks) (hB : B ≤ B') : Kids w B' A n ks :=
  ⟨h.1, fun k hk => by
    obtain ⟨b, off, hA, hb, h0, h1⟩ := h.2 k hk
    exact ⟨b, off, hA, by omega, h0, h1⟩⟩
theorem Kids.keep {w w' : World} {A : Option Addr} {n : Nat} {ks : List Kid} (h : Kids w w.heap.size A n ks) (hb : Below w.heap.size w w') : Kids w' w'.heap.size A n ks := (h.below hb).more hb.size
theorem Kids.of_own {w : World} {base : Nat} {e : TypeId} {A : Option Addr} {n c : Nat} {ks : List Kid} (h : w.ownsRow base e 2 (.slice A n c) n (flatK ks)) (hl : ks.length = n) : Kids w w.heap.size A n ks := by
  refine ⟨hl, fun k hk => ?_⟩
  obtain ⟨g, cap, hv, _, hlt⟩ := h.form (by omega)
  obtain ⟨rfl, rfl⟩ : A = some ⟨g, 0, none⟩ ∧ c = cap := by injection hv; exact ⟨by assumption, by assumption⟩
  obtain ⟨f0, f1⟩ := flatK_at ks k (by omega)
  have c0 := h.cells (g := g) rfl _ _ f0
  have c1 := h.cells (g := g) rfl _ _ f1
  rw [Addr.add_lit] at c0 c1
  refine ⟨g, 0, rfl, hlt, c0, ?_⟩
  rw [show (0 + k * 2 + 1 : Nat) = 0 + (k * 2 + 1) by omega]
  exact c1
theorem Kids.nil (w : World) (B : Nat) (A : Option Addr) : Kids w B A 0 [] := ⟨rfl, fun k hk => by omega⟩

/-! ### An argument that is opened -/
def strOf : Value → ByteArray
  | .string s => s
  | _ => ByteArray.empty
section
variable {H : Type} {enc : TypeId × Value → H} {W : World}
theorem int_cell {v : Value} {fuel : Nat} {y : DataW H × List MemPlace} (h : DataW.trod enc Try.prog W 0 (fun _ => true) true fuel 3 [v] = some y) : ∃ a, v = .int .i64 a := by
  obtain ⟨a, e0, _⟩ := DataW.trod_int Try.underlying3 h
  simp at e0
  exact ⟨a, e0⟩
theorem kids_arg {v : Value} {x : DataW H × List MemPlace} {fuel : Nat}
    (hf : DataW.trod enc Try.prog W 0 (fun _ => true) true fuel 22 [v] = some x) : ∃ A n c ks, v = .slice A n c ∧ n ≤ c ∧ c ≤ maxLen ∧ Kids W W.heap.size A n ks := by
  rcases open_slice_pairs Try.underlying22 Try.underlying29 (by kernel_rfl) rfl rfl (by kernel_rfl) (by kernel_rfl) hf with ⟨hcs, _⟩ | ⟨a, len, cap, m, k, V0, V1, D0, D1, P0, P1, hcs, _, hl, hm, hmm, _, hel⟩
  · simp at hcs
    subst hcs
    exact ⟨_, _, _, [], rfl, Nat.le_refl _, Nat.zero_le _, Kids.nil _ _ _⟩
  · simp at hcs
    subst hcs
    have hmc : m = cap := by simpa using hmm
    subst hmc
    refine ⟨_, _, _, (List.range len).map fun i => (strOf (V1 i), intOf (V0 i)), rfl, hl, hm, by simp, fun i hi => ?_⟩
    obtain ⟨h0, h1, t0, t1⟩ := hel i (by omega)
    obtain ⟨a1, e1⟩ := int_cell t0
    obtain ⟨s0, e0, _, _⟩ := DataW.trod_string Try.underlying9 t1
    simp at e0
    have e : ((List.range len).map fun i => (strOf (V1 i), intOf (V0 i))).getD i kid0 = (s0, a1) := by
      simp [List.getD, hi, e0, e1, intOf, strOf]
    obtain ⟨b, off, spot⟩ := a
    have hspot : spot = none := by simpa [Addr.add] using World.cell?_spot (hel 0 (by omega)).1
    subst hspot
    rw [Addr.add_lit] at h0 h1
    rw [e]
    refine ⟨b, off, rfl, World.block_lt_of_cell? W _ h0, ?_, ?_⟩
    · rw [h0]; first | exact congrArg some e0 | exact congrArg some e1
    · rw [show off + i * 2 + 1 = off + (i * 2 + 1) by omega, h1]; first | exact congrArg some e1 | exact congrArg some e0
end

/-! ### Cut -/
def cut20 (s : ByteArray) : ByteArray := if 20 < s.size then s.extract 0 20 else s
set_option maxHeartbeats 400000 in
theorem cut_any (s : ByteArray) (w : World) : Calls Try.prog 34 #[.string s, .int .i64 20] w fun e w' => e = .returned (.string (cut20 s)) ∧ w' = w := by
  by_cases h : 20 < s.size
  · have hi : (20 : Int) < (s.size : Int) := by omega
    have hc : cut20 s = s.extract 0 20 := if_pos h
    have HC := Lib.hid hc
    clear hc
    go_enter Try.func34, Try.ntmps34
    go_wp2
    go_ret
    exact ⟨by rw [HC.out]; rfl, rfl⟩
  · have hi : decide ((20 : Int) < (s.size : Int)) = false := by simp; omega
    have hc : cut20 s = s := if_neg h
    have HC := Lib.hid hc
    clear hc h
    go_enter Try.func34, Try.ntmps34
    go_wp2
    go_ret
    exact ⟨by rw [HC.out]; rfl, rfl⟩

end Go.Proofs.Ytgopokoghnfgiaa
