/-
  The walks over package flow: the pen puts a box.
-/
import Derived.Test.YtgcadpfgdfjceaaFlowPen
import Derived.Deep.DeepCutAuto
namespace Go.Proofs.Ytgcadpfgdfjceaa
open Go.RowKit
attribute [local go_sem ↓] Go.wp_at_zero Go.wp_at_succ

/-- In the midst of the pen's put. -/
structure Mid (w wx : World) (g : Nat) (x y h gap wide : Int) (any : Bool) (sw sh a b : Int) : Prop where
  pen : Pen wx g x y h gap wide any
  size : Blk wx w.heap.size 39 #[.int .i64 sw, .int .i64 sh]
  res : Blk wx (w.heap.size + 1) 48 #[.int .i64 0, .int .i64 0]
  spot : Blk wx (w.heap.size + 1 + 1) 48 #[.int .i64 a, .int .i64 b]
  lt : g < w.heap.size
  only : w.grownBy wx (some g)

theorem Mid.cells {w wx : World} {g : Nat} {x y h gap wide : Int} {any : Bool} {sw sh a b : Int} (m : Mid w wx g x y h gap wide any sw sh a b) :
    wx.cell? ⟨w.heap.size, 0, none⟩ = some (.int .i64 sw) ∧ wx.cell? ⟨w.heap.size, 1, none⟩ = some (.int .i64 sh) ∧
    wx.cell? ⟨w.heap.size + 1, 0, none⟩ = some (.int .i64 0) ∧ wx.cell? ⟨w.heap.size + 1, 1, none⟩ = some (.int .i64 0) ∧
    wx.cell? ⟨w.heap.size + 1 + 1, 0, none⟩ = some (.int .i64 a) ∧ wx.cell? ⟨w.heap.size + 1 + 1, 1, none⟩ = some (.int .i64 b) ∧
    wx.frozen? ⟨w.heap.size + 1, 0, none⟩ = false ∧ wx.frozen? ⟨w.heap.size + 1, 1, none⟩ = false ∧ w.heap.size ≠ g ∧ w.heap.size + 1 ≠ g ∧ g ≠ w.heap.size ∧ g ≠ w.heap.size + 1 :=
  ⟨m.size.cell 0, m.size.cell 1, m.res.cell 0, m.res.cell 1, m.spot.cell 0, m.spot.cell 1, m.res.frozen 0, m.res.frozen 1, by have := m.lt; omega, by have := m.lt; omega, by have := m.lt; omega, by have := m.lt; omega⟩

theorem Mid.start {w : World} {g : Nat} {x y h gap wide : Int} {any : Bool} (sw sh : Int) (p : Pen w g x y h gap wide any) :
    Mid w (((w.alloc (.cells #[.int .i64 sw, .int .i64 sh] 39)).alloc (.cells #[.int .i64 0, .int .i64 0] 48)).alloc (.cells #[.int .i64 x, .int .i64 y] 48)).drew g x y h gap wide any sw sh x y :=
  ⟨((Blk.alloc p _).alloc _).alloc _, ((Blk.new _ _ _).alloc _).alloc _, Blk.drew (by simpa using (Blk.new (w.alloc _) _ _).alloc _), Blk.drew (by simpa using Blk.new ((w.alloc _).alloc _) _ _), Blk.lt p,
    only_drew (only_alloc (only_alloc (only_alloc (World.grownBy.refl w _) _) _) _)⟩

theorem Mid.tall {w wx : World} {g : Nat} {x y h gap wide : Int} {any : Bool} {sw sh a b : Int} (m : Mid w wx g x y h gap wide any sw sh a b) (v : Int) :
    Mid w ((wx.setCell ⟨g, 5, none⟩ (.bool true)).setCell ⟨g, 2, none⟩ (.int .i64 v)).drew g x y v gap wide true sw sh a b := by
  have hl := m.lt
  exact ⟨(Blk.set_ m.pen 5 (.bool true)).set_ 2 (.int .i64 v), (m.size.far (p := ⟨g, 5, none⟩) (by simp; omega) _).far (p := ⟨g, 2, none⟩) (by simp; omega) _, (m.res.far (p := ⟨g, 5, none⟩) (by simp; omega) _).far (p := ⟨g, 2, none⟩) (by simp; omega) _,
    (m.spot.far (p := ⟨g, 5, none⟩) (by simp; omega) _).far (p := ⟨g, 2, none⟩) (by simp; omega) _, hl, only_drew (only_set (only_set m.only 5 _) 2 _)⟩
theorem Mid.done {w wx : World} {g : Nat} {x y h gap wide : Int} {any : Bool} {sw sh a b : Int} (m : Mid w wx g x y h gap wide any sw sh a b) (u v : Value) :
    Pen ((wx.setCell ⟨w.heap.size + 1, 0, none⟩ u).setCell ⟨w.heap.size + 1, 1, none⟩ v) g x y h gap wide any ∧ w.grownBy ((wx.setCell ⟨w.heap.size + 1, 0, none⟩ u).setCell ⟨w.heap.size + 1, 1, none⟩ v) (some g) := by
  have hl := m.lt
  exact ⟨(Blk.far m.pen (p := ⟨w.heap.size + 1, 0, none⟩) (by simp; omega) u).far (p := ⟨w.heap.size + 1, 1, none⟩) (by simp; omega) v,
    only_setCell (p := ⟨w.heap.size + 1, 1, none⟩) (only_setCell (p := ⟨w.heap.size + 1, 0, none⟩) m.only (.inr (by simp)) u) (.inr (by simp)) v⟩
theorem Mid.wide_ {w wx : World} {g : Nat} {x y h gap wide : Int} {any : Bool} {sw sh a b : Int} (m : Mid w wx g x y h gap wide any sw sh a b) (v : Int) :
    Mid w (wx.setCell ⟨g, 4, none⟩ (.int .i64 v)).drew g x y h gap v any sw sh a b := by
  have hl := m.lt
  exact ⟨Blk.set_ m.pen 4 (.int .i64 v), m.size.far (p := ⟨g, 4, none⟩) (by simp; omega) _, m.res.far (p := ⟨g, 4, none⟩) (by simp; omega) _, m.spot.far (p := ⟨g, 4, none⟩) (by simp; omega) _, hl, only_drew (only_set m.only 4 _)⟩
theorem Mid.on {w wx : World} {g : Nat} {x y h gap wide : Int} {any : Bool} {sw sh a b : Int} (m : Mid w wx g x y h gap wide any sw sh a b) (v : Int) (o : Obj) :
    Mid w ((wx.setCell ⟨g, 0, none⟩ (.int .i64 v)).alloc o).drew g v y h gap wide any sw sh a b := by
  have hl := m.lt
  exact ⟨(Blk.set_ m.pen 0 (.int .i64 v)).alloc o, (m.size.far (p := ⟨g, 0, none⟩) (by simp; omega) _).alloc o, (m.res.far (p := ⟨g, 0, none⟩) (by simp; omega) _).alloc o, (m.spot.far (p := ⟨g, 0, none⟩) (by simp; omega) _).alloc o, hl,
    only_drew (only_alloc (only_set m.only 0 _) o)⟩

set_option maxHeartbeats 4000000 in
theorem put_any (g : Nat) (x y h gap wide sw sh n : Int) (any : Bool) (w : World) (hp : Pen w g x y h gap wide any) :
    Calls Try.prog 48 #[.pointer (some ⟨g, 0, none⟩), .agg #[.int .i64 sw, .int .i64 sh], .int .i64 n] w fun e w' =>
      e = .returned (.agg #[.int .i64 x, .int .i64 y]) ∧ Pen w' g (P1.sum [x, n, gap]) y (max h sh) gap (max wide (P1.add x n)) true ∧ w.grownBy w' (some g) := by
  obtain ⟨c0, c1, c2, c3, c4, c5⟩ := hp.cells
  have hlt := hp.lt
  have n0 := World.new_ne w ⟨g, 0, none⟩ c0
  have k0 : ∀ o1 o2 o3, (((w.alloc o1).alloc o2).alloc o3).cell? ⟨g, 0, none⟩ = some (.int .i64 x) := fun o1 o2 o3 => (((Blk.alloc hp o1).alloc o2).alloc o3).cell 0
  have k1 : ∀ o1 o2 o3, (((w.alloc o1).alloc o2).alloc o3).cell? ⟨g, 1, none⟩ = some (.int .i64 y) := fun o1 o2 o3 => (((Blk.alloc hp o1).alloc o2).alloc o3).cell 1
  have HP := Lib.hid hp
  clear hp
  go_enter Try.func48, Try.ntmps48
  go_upto_region 1 with fail
  go_cut [7] (fun s7 wx => s7 = .pointer (some ⟨w.heap.size + 1 + 1, 0, none⟩) ∧ Mid w wx g x y h gap wide any sw sh x y)
  case first =>
    go_region_held3 (fun w' => w'.cell? ⟨g, 0, none⟩ = some (.int .i64 x) ∧ w'.cell? ⟨g, 1, none⟩ = some (.int .i64 y)) (go_keep) (fail)
    all_goals (go_wp2_with fail; go_meet; exact ⟨rfl, Mid.start _ _ HP.out⟩)
  case rest =>
    clear c0 c1 c2 c3 c4 c5 k0 k1 n0
    obtain ⟨rfl, hm⟩ := hcut
    obtain ⟨c0, c1, c2, c3, c4, c5⟩ := hm.pen.cells
    obtain ⟨f0, f1, f2, f3, f4, f5⟩ := hm.pen.free
    obtain ⟨d0, d1, d2, d3, d4, d5, d6, d7, d8, d9, d10, d11⟩ := hm.cells
    have HM := Lib.hid hm
    clear hm
    go_upto_region 3 with fail
    go_cut [] (fun wx => Mid w wx g x y (max h sh) gap wide true sw sh x y)
    case first =>
      go_region
      all_goals (go_wp2_with fail; go_meet; exact HM.out.tall _)
    case rest =>
      clear c0 c1 c2 c3 c4 c5 f0 f1 f2 f3 f4 f5 d0 d1 d2 d3 d4 d5 d6 d7 d8 d9 d10 d11
      have hm := hcut
      obtain ⟨c0, c1, c2, c3, c4, c5⟩ := hm.pen.cells
      obtain ⟨f0, f1, f2, f3, f4, f5⟩ := hm.pen.free
      obtain ⟨d0, d1, d2, d3, d4, d5, d6, d7, d8, d9, d10, d11⟩ := hm.cells
      have hwc := hm.pen.lt
      have HM := Lib.hid hm
      clear hm hcut
      go_upto_region 4 with fail
      go_cut [] (fun wx => Mid w wx g x y (max h sh) gap (max wide (P1.add x n)) true sw sh x y)
      case first =>
        go_region_with (first | (go_at_call 19; ((with_reducible refine (add_any _ _ _).mono ?_); rintro e w' ⟨rfl, rfl⟩)))
        all_goals (go_wp2_with fail; go_meet; exact HM.out.wide_ _)
      case rest =>
        clear c0 c1 c2 c3 c4 c5 f0 f1 f2 f3 f4 f5 d0 d1 d2 d3 d4 d5 d6 d7 d8 d9 d10 d11
        have hm := hcut
        obtain ⟨c0, c1, c2, c3, c4, c5⟩ := hm.pen.cells
        obtain ⟨f0, f1, f2, f3, f4, f5⟩ := hm.pen.free
        obtain ⟨d0, d1, d2, d3, d4, d5, d6, d7, d8, d9, d10, d11⟩ := hm.cells
        clear hwc
        have hwc := hm.pen.lt
        have HM := Lib.hid hm
        clear hm hcut
        go_upto_region 5 with fail
        go_cut [] (fun wx => Mid w wx g (P1.sum [x, n, gap]) y (max h sh) gap (max wide (P1.add x n)) true sw sh x y)
        case first =>
          go_region_with (first | (go_at_call 28; refine (sum_any _ _ _ [x, n, gap] _ ?_ (by omega)).mono ?_; exact ints_three _ _ _ _ _; rintro e w' ⟨rfl, rfl⟩))
          all_goals (go_wp2_with fail; go_meet; exact HM.out.on _ _)
        case rest =>
          clear c0 c1 c2 c3 c4 c5 f0 f1 f2 f3 f4 f5 d0 d1 d2 d3 d4 d5 d6 d7 d8 d9 d10 d11
          have hm := hcut
          obtain ⟨d0, d1, d2, d3, d4, d5, d6, d7, d8, d9, d10, d11⟩ := hm.cells
          have HM := Lib.hid hm
          clear hm hcut
          go_wp2
          exact bodyPost_ret (v := .agg #[.int .i64 x, .int .i64 y]) (by simp [results, Try.results48, go_sem, d2, d3]) rfl ⟨rfl, HM.out.done _ _⟩

end Go.Proofs.Ytgcadpfgdfjceaa
