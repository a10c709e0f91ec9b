/-
  The walks over package flow: the pen's methods.
-/
import Derived.Test.YtgcadpfgdfjceaaSatMore
import Derived.Test.YtgcadpfgdfjceaaFlowPlain
import Derived.Test.YtgcadpfgdfjceaaMem
import Derived.Deep.RegionHeld3
import Derived.Deep.RegionWith
import Derived.BigRegion
import Derived.Deep.DrawnRows
namespace Go.Proofs.Ytgcadpfgdfjceaa
open Go.RowKit
attribute [local go_sem ↓] Go.wp_at_zero Go.wp_at_succ

set_option maxHeartbeats 400000 in
theorem least_any (x : Int) (w : World) :
    Calls Try.prog 39 #[.int .i64 x] w fun e w' => e = .returned (.int .i64 (P14.least x)) ∧ w = w' := by
  go_enter Try.func39, Try.ntmps39
  go_wp2_with (go_at_call 17; ((with_reducible refine (sat_any _ _).mono ?_); rintro e w' ⟨rfl, rfl⟩))
  go_ret
  exact ⟨rfl, rfl⟩

set_option maxHeartbeats 400000 in
theorem rleast_any (x : Int) (w : World) :
    Calls Try.prog 37 #[.int .i64 x] w fun e w' => e = .returned (.int .i64 (P14.least x)) ∧ w = w' := by
  go_enter Try.func37, Try.ntmps37
  go_wp2_with (go_at_call 18; ((with_reducible refine (rsat_any _ _).mono ?_); rintro e w' ⟨rfl, rfl⟩))
  go_ret
  exact ⟨rfl, rfl⟩

/-- The pen lies in block g. -/
def Pen (w : World) (g : Nat) (x y h gap wide : Int) (any : Bool) : Prop :=
  Blk w g 61 #[.int .i64 x, .int .i64 y, .int .i64 h, .int .i64 gap, .int .i64 wide, .bool any]

theorem Pen.cells {w : World} {g : Nat} {x y h gap wide : Int} {any : Bool} (p : Pen w g x y h gap wide any) :
    w.cell? ⟨g, 0, none⟩ = some (.int .i64 x) ∧ w.cell? ⟨g, 1, none⟩ = some (.int .i64 y) ∧ w.cell? ⟨g, 2, none⟩ = some (.int .i64 h) ∧
    w.cell? ⟨g, 3, none⟩ = some (.int .i64 gap) ∧ w.cell? ⟨g, 4, none⟩ = some (.int .i64 wide) ∧ w.cell? ⟨g, 5, none⟩ = some (.bool any) :=
  ⟨p.cell 0, p.cell 1, p.cell 2, p.cell 3, p.cell 4, p.cell 5⟩
theorem Pen.free {w : World} {g : Nat} {x y h gap wide : Int} {any : Bool} (p : Pen w g x y h gap wide any) :
    w.frozen? ⟨g, 0, none⟩ = false ∧ w.frozen? ⟨g, 1, none⟩ = false ∧ w.frozen? ⟨g, 2, none⟩ = false ∧ w.frozen? ⟨g, 3, none⟩ = false ∧ w.frozen? ⟨g, 4, none⟩ = false ∧ w.frozen? ⟨g, 5, none⟩ = false :=
  ⟨p.frozen 0, p.frozen 1, p.frozen 2, p.frozen 3, p.frozen 4, p.frozen 5⟩

theorem ints_three (w : World) (a b c : Int) (t : TypeId) : Ints (w.alloc (.cells #[.int .i64 a, .int .i64 b, .int .i64 c] t)) (some ⟨w.heap.size, 0, none⟩) 3 [a, b, c] :=
  ⟨rfl, .inr ⟨_, _, rfl, fun k hk => by
    rw [(Blk.new w t _).cell]
    match k, hk with
    | 0, _ => rfl
    | 1, _ => rfl
    | 2, _ => rfl⟩⟩

theorem Pen.turned {w : World} {g : Nat} {x y h gap wide : Int} {any : Bool} (p : Pen w g x y h gap wide any) (a b c : Int) (o : Obj) :
    Pen ((((w.setCell ⟨g, 1, none⟩ (.int .i64 a)).setCell ⟨g, 0, none⟩ (.int .i64 b)).setCell ⟨g, 2, none⟩ (.int .i64 c)).alloc o).drew g b a c gap wide any :=
  (((Blk.set_ p 1 (.int .i64 a)).set_ 0 (.int .i64 b)).set_ 2 (.int .i64 c)).alloc o
theorem Pen.turned_only (w : World) (g : Nat) (a b c : Value) (o : Obj) :
    w.grownBy ((((w.setCell ⟨g, 1, none⟩ a).setCell ⟨g, 0, none⟩ b).setCell ⟨g, 2, none⟩ c).alloc o).drew (some g) :=
  only_drew (only_alloc (only_set (only_set (only_set (World.grownBy.refl w _) 1 a) 0 b) 2 c) o)

set_option maxHeartbeats 2000000 in
theorem row_any (g : Nat) (x y h gap wide : Int) (w : World) (hp : Pen w g x y h gap wide true) :
    Calls Try.prog 47 #[.pointer (some ⟨g, 0, none⟩)] w fun e w' => e = .returned (.tuple #[]) ∧ Pen w' g 0 (P1.sum [y, h, gap]) 0 gap wide true ∧ w.grownBy w' (some g) := by
  obtain ⟨c0, c1, c2, c3, c4, c5⟩ := hp.cells
  obtain ⟨f0, f1, f2, f3, f4, f5⟩ := hp.free
  have hlt := hp.lt
  have HP := Lib.hid hp
  clear hp
  go_enter Try.func47, Try.ntmps47
  go_wp2_with fail
  go_region_with (first | (go_at_call 28; refine (sum_any _ _ _ [y, h, gap] _ ?_ (by omega)).mono ?_; exact ints_three w _ _ _ _; rintro e w' ⟨rfl, rfl⟩))
  all_goals (go_wp2; go_end0; exact ⟨rfl, HP.out.turned _ _ _ _, Pen.turned_only _ _ _ _ _ _⟩)

set_option maxHeartbeats 2000000 in
theorem whole_any (g : Nat) (x y h gap wide : Int) (any : Bool) (w : World) (hp : Pen w g x y h gap wide any) :
    Calls Try.prog 49 #[.pointer (some ⟨g, 0, none⟩)] w fun e w' => e = .returned (.agg #[.int .i64 wide, .int .i64 (P1.add y h)]) ∧ Below w.heap.size w w' := by
  obtain ⟨c0, c1, c2, c3, c4, c5⟩ := hp.cells
  obtain ⟨f0, f1, f2, f3, f4, f5⟩ := hp.free
  have hlt := hp.lt
  have n1 := World.new_ne w ⟨g, 1, none⟩ c1
  have n2 := World.new_ne w ⟨g, 2, none⟩ c2
  have n4 := World.new_ne w ⟨g, 4, none⟩ c4
  clear hp
  go_enter Try.func49, Try.ntmps49
  go_wp2_with fail
  go_region_held3 (fun w' => w'.cell? ⟨g, 1, none⟩ = some (.int .i64 y) ∧ w'.cell? ⟨g, 2, none⟩ = some (.int .i64 h) ∧ w'.cell? ⟨g, 4, none⟩ = some (.int .i64 wide)) (go_keep)
    (first | (go_at_call 19; ((with_reducible refine (add_any _ _ _).mono ?_); rintro e w' ⟨rfl, rfl⟩)))
  go_wp2
  exact bodyPost_ret (v := .agg #[.int .i64 wide, .int .i64 (P1.add y h)]) (by simp [results, Try.results49, go_sem]) rfl ⟨rfl, ((Below.refl _ _).alloc (Nat.le_refl _) _).drew⟩

set_option maxHeartbeats 2000000 in
theorem plain_any (a b : Int) (w : World) :
    Calls Try.prog 46 #[.agg #[.int .i64 a, .int .i64 b]] w fun e w' => e = .returned (.agg #[.int .i64 (P14.least a), .int .i64 (P14.least b)]) ∧ Below w.heap.size w w' := by
  go_enter Try.func46, Try.ntmps46
  go_wp2_with fail
  go_region_held3 (fun w' => w'.cell? ⟨w.heap.size, 0, none⟩ = some (.int .i64 a) ∧ w'.cell? ⟨w.heap.size, 1, none⟩ = some (.int .i64 b)) (go_keep)
    (first | (go_at_call 39; ((with_reducible refine (least_any _ _).mono ?_); rintro e w' ⟨rfl, rfl⟩)))
  go_wp2
  exact bodyPost_ret (v := .agg #[.int .i64 (P14.least a), .int .i64 (P14.least b)]) (by simp [results, Try.results46, go_sem]) rfl ⟨rfl, (((Below.refl _ _).alloc (Nat.le_refl _) _).alloc (by simp) _).drew⟩

end Go.Proofs.Ytgcadpfgdfjceaa
