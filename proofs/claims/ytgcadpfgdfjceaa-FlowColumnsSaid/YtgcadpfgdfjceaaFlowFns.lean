/-
  The walks over package flow: the function values that rows is handed.
-/
import Derived.Test.YtgcadpfgdfjceaaFlowPen
namespace Go.Proofs.Ytgcadpfgdfjceaa
open Go.RowKit
attribute [local go_sem ↓] Go.wp_at_zero Go.wp_at_succ

set_option maxHeartbeats 400000 in
theorem own_any (a b : Int) (w : World) :
    Calls Try.prog 41 #[.agg #[.int .i64 a, .int .i64 b]] w fun e w' => e = .returned (.int .i64 a) ∧ Below w.heap.size w w' := by
  go_enter Try.func41, Try.ntmps41
  go_wp2
  go_ret
  exact ⟨rfl, (Below.refl _ _).alloc (Nat.le_refl _) _⟩

set_option maxHeartbeats 400000 in
theorem col_any (a b : Int) (bc : Nat) (col : Int) (w : World) (hc : w.cell? ⟨bc, 0, none⟩ = some (.int .i64 col)) :
    Calls Try.prog 44 #[.agg #[.int .i64 a, .int .i64 b], .pointer (some ⟨bc, 0, none⟩)] w fun e w' => e = .returned (.int .i64 col) ∧ Below w.heap.size w w' := by
  have k0 : ∀ o, (w.alloc o).cell? ⟨bc, 0, none⟩ = some (.int .i64 col) := fun o => (World.cell?_alloc_some w _ o (by simp [hc])).trans hc
  go_enter Try.func44, Try.ntmps44
  go_wp2
  go_ret
  exact ⟨rfl, (Below.refl _ _).alloc (Nat.le_refl _) _⟩

set_option maxHeartbeats 400000 in
theorem always_any (i n : Int) (p : Value) (w : World) :
    Calls Try.prog 43 #[.int .i64 i, p, .int .i64 n] w fun e w' => e = .returned (.bool true) ∧ Drew w w' := by
  go_enter Try.func43, Try.ntmps43
  go_wp2
  go_ret
  exact ⟨rfl, Drew.refl _⟩

set_option maxHeartbeats 400000 in
theorem nth_any (i n : Int) (p : Value) (bc : Nat) (cols : Int) (w : World) (hi : 0 ≤ i) (hcols : 1 ≤ cols) (hc : w.cell? ⟨bc, 0, none⟩ = some (.int .i64 cols)) :
    Calls Try.prog 45 #[.int .i64 i, p, .int .i64 n, .pointer (some ⟨bc, 0, none⟩)] w fun e w' => e = .returned (.bool (i % cols == 0)) ∧ Drew w w' := by
  have hz : ¬ cols = 0 := by omega
  go_enter Try.func45, Try.ntmps45
  go_wp2
  go_ret
  exact ⟨rfl, Drew.refl _⟩

set_option maxHeartbeats 1000000 in
theorem full_any (i n : Int) (g bw : Nat) (x y h gap wide width : Int) (any : Bool) (w : World) (hp : Pen w g x y h gap wide any) (hc : w.cell? ⟨bw, 0, none⟩ = some (.int .i64 width)) :
    Calls Try.prog 42 #[.int .i64 i, .pointer (some ⟨g, 0, none⟩), .int .i64 n, .pointer (some ⟨bw, 0, none⟩)] w fun e w' => e = .returned (.bool (decide (width < P1.add x n))) ∧ Drew w w' := by
  have c0 := hp.cells.1
  clear hp
  have K : ∀ W : World, Calls Try.prog 19 #[.int .i64 x, .int .i64 n] W fun e w' => e = .returned (.int .i64 (P1.add x n)) ∧ w' = W := fun W => (add_any x n W).mono fun _ _ h => ⟨h.1, h.2.symm⟩
  have KK := Lib.hid K
  clear K
  go_enter Try.func42, Try.ntmps42
  go_wp2_with fail
  go_quiet ((go_at_call 19; exact Calls.quiet_of_same (KK.out _)))
  go_wp2
  go_ret
  exact ⟨rfl, _, rfl⟩

end Go.Proofs.Ytgcadpfgdfjceaa
