/-
  The walks over package flow: the pen puts a box.
  The walks over package flow: the function values that rows is handed.
  Words for the loop of flow's rows: what holds of the world in the midst of a round.
  The walk over flow.rows as Stack calls it.
-/
import Derived.Test.YtaalhglooipnaaaGreatL14
import Derived.Deep.DeepCutAuto
import Derived.Deep.AppendLies
namespace Go.Proofs.YtaalhglooipnaaaGreat.Fl
open Go.RowKit
attribute [local go_sem ↓] Go.wp_at_zero Go.wp_at_succ

/-- In the midst of the pen's put. -/
structure Mid (w wx : World) (g : Nat) (x y h gap wide : Int) (any : Bool) (sw sh a b : Int) : Prop where
  pen : Pen wx g x y h gap wide any
  size : Blk wx w.heap.size 180 #[.int .i64 sw, .int .i64 sh]
  res : Blk wx (w.heap.size + 1) 188 #[.int .i64 0, .int .i64 0]
  spot : Blk wx (w.heap.size + 1 + 1) 188 #[.int .i64 a, .int .i64 b]
  lt : g < w.heap.size
  only : w.grownBy wx (some g)

theorem Mid.cells {w wx : World} {g : Nat} {x y h gap wide : Int} {any : Bool} {sw sh a b : Int} (m : Mid w wx g x y h gap wide any sw sh a b) :
    wx.cell? ⟨w.heap.size, 0, none⟩ = some (.int .i64 sw) ∧ wx.cell? ⟨w.heap.size, 1, none⟩ = some (.int .i64 sh) ∧
    wx.cell? ⟨w.heap.size + 1, 0, none⟩ = some (.int .i64 0) ∧ wx.cell? ⟨w.heap.size + 1, 1, none⟩ = some (.int .i64 0) ∧
    wx.cell? ⟨w.heap.size + 1 + 1, 0, none⟩ = some (.int .i64 a) ∧ wx.cell? ⟨w.heap.size + 1 + 1, 1, none⟩ = some (.int .i64 b) ∧
    wx.frozen? ⟨w.heap.size + 1, 0, none⟩ = false ∧ wx.frozen? ⟨w.heap.size + 1, 1, none⟩ = false ∧ w.heap.size ≠ g ∧ w.heap.size + 1 ≠ g ∧ g ≠ w.heap.size ∧ g ≠ w.heap.size + 1 :=
  ⟨m.size.cell 0, m.size.cell 1, m.res.cell 0, m.res.cell 1, m.spot.cell 0, m.spot.cell 1, m.res.frozen 0, m.res.frozen 1, by have := m.lt; omega, by have := m.lt; omega, by have := m.lt; omega, by have := m.lt; omega⟩

theorem Mid.start {w : World} {g : Nat} {x y h gap wide : Int} {any : Bool} (sw sh : Int) (p : Pen w g x y h gap wide any) :
    Mid w (((w.alloc (.cells #[.int .i64 sw, .int .i64 sh] 180)).alloc (.cells #[.int .i64 0, .int .i64 0] 188)).alloc (.cells #[.int .i64 x, .int .i64 y] 188)).drew g x y h gap wide any sw sh x y :=
  ⟨((Blk.alloc p _).alloc _).alloc _, ((Blk.new _ _ _).alloc _).alloc _, Blk.drew (by simpa using (Blk.new (w.alloc _) _ _).alloc _), Blk.drew (by simpa using Blk.new ((w.alloc _).alloc _) _ _), Blk.lt p,
    only_drew (only_alloc (only_alloc (only_alloc (World.grownBy.refl w _) _) _) _)⟩

theorem Mid.tall {w wx : World} {g : Nat} {x y h gap wide : Int} {any : Bool} {sw sh a b : Int} (m : Mid w wx g x y h gap wide any sw sh a b) (v : Int) :
    Mid w ((wx.setCell ⟨g, 5, none⟩ (.bool true)).setCell ⟨g, 2, none⟩ (.int .i64 v)).drew g x y v gap wide true sw sh a b := by
  have hl := m.lt
  exact ⟨(Blk.set_ m.pen 5 (.bool true)).set_ 2 (.int .i64 v), (m.size.far (p := ⟨g, 5, none⟩) (by simp; omega) _).far (p := ⟨g, 2, none⟩) (by simp; omega) _, (m.res.far (p := ⟨g, 5, none⟩) (by simp; omega) _).far (p := ⟨g, 2, none⟩) (by simp; omega) _,
    (m.spot.far (p := ⟨g, 5, none⟩) (by simp; omega) _).far (p := ⟨g, 2, none⟩) (by simp; omega) _, hl, only_drew (only_set (only_set m.only 5 _) 2 _)⟩
theorem Mid.done {w wx : World} {g : Nat} {x y h gap wide : Int} {any : Bool} {sw sh a b : Int} (m : Mid w wx g x y h gap wide any sw sh a b) (u v : Value) :
    Pen ((wx.setCell ⟨w.heap.size + 1, 0, none⟩ u).setCell ⟨w.heap.size + 1, 1, none⟩ v) g x y h gap wide any ∧ w.grownBy ((wx.setCell ⟨w.heap.size + 1, 0, none⟩ u).setCell ⟨w.heap.size + 1, 1, none⟩ v) (some g) := by
  have hl := m.lt
  exact ⟨(Blk.far m.pen (p := ⟨w.heap.size + 1, 0, none⟩) (by simp; omega) u).far (p := ⟨w.heap.size + 1, 1, none⟩) (by simp; omega) v,
    only_setCell (p := ⟨w.heap.size + 1, 1, none⟩) (only_setCell (p := ⟨w.heap.size + 1, 0, none⟩) m.only (.inr (by simp)) u) (.inr (by simp)) v⟩
theorem Mid.wide_ {w wx : World} {g : Nat} {x y h gap wide : Int} {any : Bool} {sw sh a b : Int} (m : Mid w wx g x y h gap wide any sw sh a b) (v : Int) :
    Mid w (wx.setCell ⟨g, 4, none⟩ (.int .i64 v)).drew g x y h gap v any sw sh a b := by
  have hl := m.lt
  exact ⟨Blk.set_ m.pen 4 (.int .i64 v), m.size.far (p := ⟨g, 4, none⟩) (by simp; omega) _, m.res.far (p := ⟨g, 4, none⟩) (by simp; omega) _, m.spot.far (p := ⟨g, 4, none⟩) (by simp; omega) _, hl, only_drew (only_set m.only 4 _)⟩
theorem Mid.on {w wx : World} {g : Nat} {x y h gap wide : Int} {any : Bool} {sw sh a b : Int} (m : Mid w wx g x y h gap wide any sw sh a b) (v : Int) (o : Obj) :
    Mid w ((wx.setCell ⟨g, 0, none⟩ (.int .i64 v)).alloc o).drew g v y h gap wide any sw sh a b := by
  have hl := m.lt
  exact ⟨(Blk.set_ m.pen 0 (.int .i64 v)).alloc o, (m.size.far (p := ⟨g, 0, none⟩) (by simp; omega) _).alloc o, (m.res.far (p := ⟨g, 0, none⟩) (by simp; omega) _).alloc o, (m.spot.far (p := ⟨g, 0, none⟩) (by simp; omega) _).alloc o, hl,
    only_drew (only_alloc (only_set m.only 0 _) o)⟩

set_option maxHeartbeats 4000000 in
theorem put_any (g : Nat) (x y h gap wide sw sh n : Int) (any : Bool) (w : World) (hp : Pen w g x y h gap wide any) :
    Calls Tryz.prog 172 #[.pointer (some ⟨g, 0, none⟩), .agg #[.int .i64 sw, .int .i64 sh], .int .i64 n] w fun e w' =>
      e = .returned (.agg #[.int .i64 x, .int .i64 y]) ∧ Pen w' g (P1.sum [x, n, gap]) y (max h sh) gap (max wide (P1.add x n)) true ∧ w.grownBy w' (some g) := by
  obtain ⟨c0, c1, c2, c3, c4, c5⟩ := hp.cells
  have hlt := hp.lt
  have n0 := World.new_ne w ⟨g, 0, none⟩ c0
  have k0 : ∀ o1 o2 o3, (((w.alloc o1).alloc o2).alloc o3).cell? ⟨g, 0, none⟩ = some (.int .i64 x) := fun o1 o2 o3 => (((Blk.alloc hp o1).alloc o2).alloc o3).cell 0
  have k1 : ∀ o1 o2 o3, (((w.alloc o1).alloc o2).alloc o3).cell? ⟨g, 1, none⟩ = some (.int .i64 y) := fun o1 o2 o3 => (((Blk.alloc hp o1).alloc o2).alloc o3).cell 1
  have HP := Lib.hid hp
  clear hp
  go_enter Tryz.func172, Tryz.ntmps172
  go_upto_region 1 with fail
  go_cut [7] (fun s7 wx => s7 = .pointer (some ⟨w.heap.size + 1 + 1, 0, none⟩) ∧ Mid w wx g x y h gap wide any sw sh x y)
  case first =>
    go_region_held3 (fun w' => w'.cell? ⟨g, 0, none⟩ = some (.int .i64 x) ∧ w'.cell? ⟨g, 1, none⟩ = some (.int .i64 y)) (go_keep) (fail)
    all_goals (go_wp2_with fail; go_meet; exact ⟨rfl, Mid.start _ _ HP.out⟩)
  case rest =>
    clear c0 c1 c2 c3 c4 c5 k0 k1 n0
    obtain ⟨rfl, hm⟩ := hcut
    obtain ⟨c0, c1, c2, c3, c4, c5⟩ := hm.pen.cells
    obtain ⟨f0, f1, f2, f3, f4, f5⟩ := hm.pen.free
    obtain ⟨d0, d1, d2, d3, d4, d5, d6, d7, d8, d9, d10, d11⟩ := hm.cells
    have HM := Lib.hid hm
    clear hm
    go_upto_region 3 with fail
    go_cut [] (fun wx => Mid w wx g x y (max h sh) gap wide true sw sh x y)
    case first =>
      go_region
      all_goals (go_wp2_with fail; go_meet; exact HM.out.tall _)
    case rest =>
      clear c0 c1 c2 c3 c4 c5 f0 f1 f2 f3 f4 f5 d0 d1 d2 d3 d4 d5 d6 d7 d8 d9 d10 d11
      have hm := hcut
      obtain ⟨c0, c1, c2, c3, c4, c5⟩ := hm.pen.cells
      obtain ⟨f0, f1, f2, f3, f4, f5⟩ := hm.pen.free
      obtain ⟨d0, d1, d2, d3, d4, d5, d6, d7, d8, d9, d10, d11⟩ := hm.cells
      have hwc := hm.pen.lt
      have HM := Lib.hid hm
      clear hm hcut
      go_upto_region 4 with fail
      go_cut [] (fun wx => Mid w wx g x y (max h sh) gap (max wide (P1.add x n)) true sw sh x y)
      case first =>
        go_region_with (first | (go_at_call 90; ((with_reducible refine (add_any _ _ _).mono ?_); rintro e w' ⟨rfl, rfl⟩)))
        all_goals (go_wp2_with fail; go_meet; exact HM.out.wide_ _)
      case rest =>
        clear c0 c1 c2 c3 c4 c5 f0 f1 f2 f3 f4 f5 d0 d1 d2 d3 d4 d5 d6 d7 d8 d9 d10 d11
        have hm := hcut
        obtain ⟨c0, c1, c2, c3, c4, c5⟩ := hm.pen.cells
        obtain ⟨f0, f1, f2, f3, f4, f5⟩ := hm.pen.free
        obtain ⟨d0, d1, d2, d3, d4, d5, d6, d7, d8, d9, d10, d11⟩ := hm.cells
        clear hwc
        have hwc := hm.pen.lt
        have HM := Lib.hid hm
        clear hm hcut
        go_upto_region 5 with fail
        go_cut [] (fun wx => Mid w wx g (P1.sum [x, n, gap]) y (max h sh) gap (max wide (P1.add x n)) true sw sh x y)
        case first =>
          go_region_with (first | (go_at_call 113; refine (sum_any _ _ _ [x, n, gap] _ ?_ (by omega)).mono ?_; exact ints_three _ _ _ _ _; rintro e w' ⟨rfl, rfl⟩))
          all_goals (go_wp2_with fail; go_meet; exact HM.out.on _ _)
        case rest =>
          clear c0 c1 c2 c3 c4 c5 f0 f1 f2 f3 f4 f5 d0 d1 d2 d3 d4 d5 d6 d7 d8 d9 d10 d11
          have hm := hcut
          obtain ⟨d0, d1, d2, d3, d4, d5, d6, d7, d8, d9, d10, d11⟩ := hm.cells
          have HM := Lib.hid hm
          clear hm hcut
          go_wp2
          exact bodyPost_ret (v := .agg #[.int .i64 x, .int .i64 y]) (by simp [results, Tryz.results172, go_sem, d2, d3]) rfl ⟨rfl, HM.out.done _ _⟩

end Go.Proofs.YtaalhglooipnaaaGreat.Fl
namespace Go.Proofs.YtaalhglooipnaaaGreat.Fl
open Go.RowKit
attribute [local go_sem ↓] Go.wp_at_zero Go.wp_at_succ

set_option maxHeartbeats 400000 in
theorem own_any (a b : Int) (w : World) :
    Calls Tryz.prog 157 #[.agg #[.int .i64 a, .int .i64 b]] w fun e w' => e = .returned (.int .i64 a) ∧ Below w.heap.size w w' := by
  go_enter Tryz.func157, Tryz.ntmps157
  go_wp2
  go_ret
  exact ⟨rfl, (Below.refl _ _).alloc (Nat.le_refl _) _⟩

set_option maxHeartbeats 400000 in
theorem col_any (a b : Int) (bc : Nat) (col : Int) (w : World) (hc : w.cell? ⟨bc, 0, none⟩ = some (.int .i64 col)) :
    Calls Tryz.prog 161 #[.agg #[.int .i64 a, .int .i64 b], .pointer (some ⟨bc, 0, none⟩)] w fun e w' => e = .returned (.int .i64 col) ∧ Below w.heap.size w w' := by
  have k0 : ∀ o, (w.alloc o).cell? ⟨bc, 0, none⟩ = some (.int .i64 col) := fun o => (World.cell?_alloc_some w _ o (by simp [hc])).trans hc
  go_enter Tryz.func161, Tryz.ntmps161
  go_wp2
  go_ret
  exact ⟨rfl, (Below.refl _ _).alloc (Nat.le_refl _) _⟩

set_option maxHeartbeats 400000 in
theorem always_any (i n : Int) (p : Value) (w : World) :
    Calls Tryz.prog 163 #[.int .i64 i, p, .int .i64 n] w fun e w' => e = .returned (.bool true) ∧ Drew w w' := by
  go_enter Tryz.func163, Tryz.ntmps163
  go_wp2
  go_ret
  exact ⟨rfl, Drew.refl _⟩

set_option maxHeartbeats 400000 in
theorem nth_any (i n : Int) (p : Value) (bc : Nat) (cols : Int) (w : World) (hi : 0 ≤ i) (hcols : 1 ≤ cols) (hc : w.cell? ⟨bc, 0, none⟩ = some (.int .i64 cols)) :
    Calls Tryz.prog 162 #[.int .i64 i, p, .int .i64 n, .pointer (some ⟨bc, 0, none⟩)] w fun e w' => e = .returned (.bool (i % cols == 0)) ∧ Drew w w' := by
  have hz : ¬ cols = 0 := by omega
  go_enter Tryz.func162, Tryz.ntmps162
  go_wp2
  go_ret
  exact ⟨rfl, Drew.refl _⟩

set_option maxHeartbeats 1000000 in
theorem full_any (i n : Int) (g bw : Nat) (x y h gap wide width : Int) (any : Bool) (w : World) (hp : Pen w g x y h gap wide any) (hc : w.cell? ⟨bw, 0, none⟩ = some (.int .i64 width)) :
    Calls Tryz.prog 158 #[.int .i64 i, .pointer (some ⟨g, 0, none⟩), .int .i64 n, .pointer (some ⟨bw, 0, none⟩)] w fun e w' => e = .returned (.bool (decide (width < P1.add x n))) ∧ Drew w w' := by
  have c0 := hp.cells.1
  clear hp
  have K : ∀ W : World, Calls Tryz.prog 90 #[.int .i64 x, .int .i64 n] W fun e w' => e = .returned (.int .i64 (P1.add x n)) ∧ w' = W := fun W => (add_any x n W).mono fun _ _ h => ⟨h.1, h.2.symm⟩
  have KK := Lib.hid K
  clear K
  go_enter Tryz.func158, Tryz.ntmps158
  go_wp2_with fail
  go_quiet ((go_at_call 90; exact Calls.quiet_of_same (KK.out _)))
  go_wp2
  go_ret
  exact ⟨rfl, _, rfl⟩

end Go.Proofs.YtaalhglooipnaaaGreat.Fl
namespace Go.Proofs.YtaalhglooipnaaaGreat.Fl
open Go.RowKit

/-- Pairs of ints as they lie in memory. -/
def flat2 (l : List (Int × Int)) : List Value := l.flatMap fun p => [.int .i64 p.1, .int .i64 p.2]
theorem flat2_snoc (l : List (Int × Int)) (p : Int × Int) : flat2 (l ++ [p]) = flat2 l ++ [.int .i64 p.1, .int .i64 p.2] := by simp [flat2]
theorem flat2_len (l : List (Int × Int)) : (flat2 l).length = l.length * 2 := by
  induction l with
  | nil => rfl
  | cons a l ih => simp only [flat2, List.flatMap_cons, List.length_append, List.length_cons, List.length_nil] at ih ⊢; omega
theorem flat2_at (l : List (Int × Int)) (k : Nat) (h : k < l.length) : (flat2 l)[k * 2]? = some (.int .i64 (l.getD k (0, 0)).1) ∧ (flat2 l)[k * 2 + 1]? = some (.int .i64 (l.getD k (0, 0)).2) := by
  induction l generalizing k with
  | nil => simp at h
  | cons a l ih =>
    cases k with
    | zero => exact ⟨rfl, rfl⟩
    | succ k =>
      have := ih k (by simpa using h)
      have e1 : (k + 1) * 2 = k * 2 + 1 + 1 := by omega
      simp only [flat2, List.flatMap_cons, List.cons_append, List.nil_append] at this ⊢
      rw [e1]
      simpa using this

/-- A slice of pairs of ints that reads as a list, below block B. -/
def Pairs (w : World) (B : Nat) (A : Option Addr) (n : Nat) (zs : List (Int × Int)) : Prop :=
  zs.length = n ∧ ∀ k, k < n → ∃ b off, A = some ⟨b, off, none⟩ ∧ b < B ∧ w.cell? ⟨b, off + k * 2, none⟩ = some (.int .i64 (zs.getD k (0, 0)).1) ∧ w.cell? ⟨b, off + k * 2 + 1, none⟩ = some (.int .i64 (zs.getD k (0, 0)).2)

theorem Pairs.below {w w' : World} {B : Nat} {A : Option Addr} {n : Nat} {zs : List (Int × Int)} (h : Pairs w B A n zs) (hb : Below B w w') : Pairs w' B A n zs :=
  ⟨h.1, fun k hk => by
    obtain ⟨b, off, hA, hB, h0, h1⟩ := h.2 k hk
    exact ⟨b, off, hA, hB, (hb.cell (p := ⟨b, _, none⟩) hB).trans h0, (hb.cell (p := ⟨b, _, none⟩) hB).trans h1⟩⟩
theorem Pairs.more {w : World} {B B' : Nat} {A : Option Addr} {n : Nat} {zs : List (Int × Int)} (h : Pairs w B A n zs) (hB : B ≤ B') : Pairs w B' A n zs :=
  ⟨h.1, fun k hk => by
    obtain ⟨b, off, hA, hb, h0, h1⟩ := h.2 k hk
    exact ⟨b, off, hA, by omega, h0, h1⟩⟩
theorem Pairs.of_own {w : World} {base : Nat} {e : TypeId} {A : Option Addr} {n c : Nat} {zs : List (Int × Int)} (h : w.ownsRow base e 2 (.slice A n c) n (flat2 zs)) (hl : zs.length = n) : Pairs w w.heap.size A n zs := by
  refine ⟨hl, fun k hk => ?_⟩
  obtain ⟨g, cap, hv, _, hlt⟩ := h.form (by omega)
  obtain ⟨rfl, rfl⟩ : A = some ⟨g, 0, none⟩ ∧ c = cap := by injection hv; exact ⟨by assumption, by assumption⟩
  obtain ⟨f0, f1⟩ := flat2_at zs k (by omega)
  have c0 := h.cells (g := g) rfl _ _ f0
  have c1 := h.cells (g := g) rfl _ _ f1
  rw [Addr.add_lit] at c0 c1
  refine ⟨g, 0, rfl, hlt, c0, ?_⟩
  rw [show (0 + k * 2 + 1 : Nat) = 0 + (k * 2 + 1) by omega]
  exact c1

theorem own_blk_ne {w : World} {g : Nat} {t : TypeId} {cs : Array Value} {base : Nat} {e : TypeId} {size n : Nat} {v : Value} {xs : List Value} (h : w.ownsRow base e size v n xs) (hg : Blk w g t cs) (hne : e ≠ t) : v.ownBlock ≠ some g := by
  rcases h.2 with ⟨rfl, _⟩ | ⟨g', cap, cur, rfl, _, hh, _⟩
  · simp [Value.ownBlock]
  · intro he
    have : g' = g := by simpa [Value.ownBlock] using he
    subst this
    exact Blk.ne_ (t := e) hh hg hne rfl

/-- In the midst of a round. -/
structure Rnd (w wx : World) (g : Nat) (x y h gap wide : Int) (any : Bool) (v : Value) (n : Nat) (out : List Value) : Prop where
  pen : Pen wx g x y h gap wide any
  own : wx.ownsRow w.heap.size 188 2 v n out
  below : Below w.heap.size w wx
  gB : w.heap.size ≤ g
  res : Blk wx w.heap.size 180 #[.int .i64 0, .int .i64 0]

section
variable {w wx wy : World} {g : Nat} {x y h gap wide : Int} {any : Bool} {v : Value} {n : Nat} {out : List Value}
theorem Rnd.ne_ (r : Rnd w wx g x y h gap wide any v n out) : v.ownBlock ≠ some g := own_blk_ne r.own r.pen (by decide)
theorem Rnd.size (r : Rnd w wx g x y h gap wide any v n out) : w.heap.size ≤ wx.heap.size := r.below.size
theorem Rnd.lt (r : Rnd w wx g x y h gap wide any v n out) : g < wx.heap.size := Blk.lt r.pen
/-- Whatever turns nothing that is there. -/
theorem Rnd.keep (r : Rnd w wx g x y h gap wide any v n out) (hb : Below wx.heap.size wx wy) : Rnd w wy g x y h gap wide any v n out :=
  ⟨Blk.below r.pen hb r.lt, r.own.kept (only_of_below hb none) (by simp [Classical.em]), r.below.trans (hb.mono r.size), r.gB, r.res.below hb r.res.lt⟩
theorem Rnd.drewN (r : Rnd w wx g x y h gap wide any v n out) (k : Nat) : Rnd w (wx.drewN k) g x y h gap wide any v n out :=
  ⟨r.pen, r.own, below_drewN r.below k, r.gB, r.res⟩
/-- A store into a new block of another type. -/
theorem Rnd.set_ (r : Rnd w wx g x y h gap wide any v n out) {s : Nat} {t : TypeId} {cs : Array Value} (hs : Blk wx s t cs) (h1 : 225 ≠ t) (h2 : 188 ≠ t) (hB : w.heap.size < s) (i : Nat) (u : Value) :
    Rnd w (wx.setCell ⟨s, i, none⟩ u) g x y h gap wide any v n out :=
  ⟨Blk.far r.pen (p := ⟨s, i, none⟩) (Blk.ne_ r.pen hs h1) u, r.own.kept (row := some s) (only_set (World.grownBy.refl wx _) i u) (.inr (own_blk_ne r.own hs h2)), r.below.setCell (Nat.le_of_lt hB) u, r.gB, r.res.far (p := ⟨s, i, none⟩) (Nat.ne_of_lt hB) u⟩
/-- The pen has been moved. -/
theorem Rnd.moved {x' y' h' gap' wide' : Int} {any' : Bool} (r : Rnd w wx g x y h gap wide any v n out) (hp : Pen wy g x' y' h' gap' wide' any') (hg : wx.grownBy wy (some g)) : Rnd w wy g x' y' h' gap' wide' any' v n out :=
  ⟨hp, r.own.kept hg (.inr r.ne_), r.below.grown hg r.size (fun k hk => by cases hk; exact r.gB), r.gB, r.res.grown hg (fun e => by
    have e' : w.heap.size = g := by injection e
    exact Blk.ne_ r.pen r.res (by decide) e'.symm)⟩
end

/-- In the midst of a round, with the box. -/
structure Rb (w wx : World) (g : Nat) (x y h gap wide : Int) (any : Bool) (v : Value) (n : Nat) (out : List Value) (s : Nat) (a b : Int) : Prop where
  rnd : Rnd w wx g x y h gap wide any v n out
  box : Blk wx s 180 #[.int .i64 a, .int .i64 b]
  sB : w.heap.size < s

section
variable {w wx wy : World} {g : Nat} {x y h gap wide : Int} {any : Bool} {v : Value} {n : Nat} {out : List Value} {s : Nat} {a b : Int}
theorem Rb.cells (r : Rb w wx g x y h gap wide any v n out s a b) : wx.cell? ⟨s, 0, none⟩ = some (.int .i64 a) ∧ wx.cell? ⟨s, 1, none⟩ = some (.int .i64 b) ∧ wx.frozen? ⟨s, 0, none⟩ = false ∧ wx.frozen? ⟨s, 1, none⟩ = false :=
  ⟨r.box.cell 0, r.box.cell 1, r.box.frozen 0, r.box.frozen 1⟩
theorem Rb.start (r : Rnd w wx g x y h gap wide any v n out) (a b : Int) : Rb w (wx.alloc (.cells #[.int .i64 a, .int .i64 b] 180)) g x y h gap wide any v n out wx.heap.size a b :=
  ⟨r.keep ((Below.refl _ _).alloc (Nat.le_refl _) _), Blk.new _ _ _, r.res.lt⟩
theorem Rb.keep (r : Rb w wx g x y h gap wide any v n out s a b) (hb : Below wx.heap.size wx wy) : Rb w wy g x y h gap wide any v n out s a b :=
  ⟨r.rnd.keep hb, r.box.below hb r.box.lt, r.sB⟩
theorem Rb.drewN (r : Rb w wx g x y h gap wide any v n out s a b) (k : Nat) : Rb w (wx.drewN k) g x y h gap wide any v n out s a b := ⟨r.rnd.drewN k, r.box, r.sB⟩
theorem Rb.sized (r : Rb w wx g x y h gap wide any v n out s a b) (a' b' : Int) : Rb w ((wx.setCell ⟨s, 0, none⟩ (.int .i64 a')).setCell ⟨s, 1, none⟩ (.int .i64 b')) g x y h gap wide any v n out s a' b' :=
  have r1 := r.rnd.set_ r.box (by decide) (by decide) r.sB 0 (.int .i64 a')
  have b1 := r.box.set_ 0 (.int .i64 a')
  ⟨r1.set_ b1 (by decide) (by decide) r.sB 1 (.int .i64 b'), b1.set_ 1 (.int .i64 b'), r.sB⟩
theorem Rb.moved {x' y' h' gap' wide' : Int} {any' : Bool} (r : Rb w wx g x y h gap wide any v n out s a b) (hp : Pen wy g x' y' h' gap' wide' any') (hg : wx.grownBy wy (some g)) : Rb w wy g x' y' h' gap' wide' any' v n out s a b :=
  ⟨r.rnd.moved hp hg, r.box.grown hg (fun e => by
    have e' : s = g := by injection e
    exact Blk.ne_ r.rnd.pen r.box (by decide) e'.symm), r.sB⟩
theorem Rb.put {wz : World} {v' : Value} {p q : Int} (r : Rb w wx g x y h gap wide any v n out s a b) (hown : wz.ownsRow w.heap.size 188 2 v' (n + 1) (out ++ [.int .i64 p, .int .i64 q])) (o : Obj) (hg : (wx.alloc o).grownBy wz v.ownBlock) :
    Rnd w wz g x y h gap wide any v' (n + 1) (out ++ [.int .i64 p, .int .i64 q]) :=
  have r1 := r.rnd.keep ((Below.refl wx.heap.size wx).alloc (Nat.le_refl _) o)
  ⟨Blk.grown r1.pen hg (fun e => r1.ne_ e.symm), hown, r1.below.grown hg r1.size (fun k hk => (r1.own.lt k hk).1), r1.gB, r1.res.grown hg (fun e => own_blk_ne r1.own r1.res (by decide) e.symm)⟩
end

theorem own_form {w : World} {base : Nat} {e : TypeId} {size n : Nat} {v : Value} {xs : List Value} (h : w.ownsRow base e size v n xs) : ∃ A c, v = .slice A n c := by
  rcases h.2 with ⟨rfl, rfl⟩ | ⟨g, cap, cur, rfl, _⟩
  · exact ⟨_, _, rfl⟩
  · exact ⟨_, _, rfl⟩
theorem Rnd.done {w wx : World} {g : Nat} {x y h gap wide : Int} {any : Bool} {v : Value} {n : Nat} {out : List Value} (r : Rnd w wx g x y h gap wide any v n out) (a b : Value) :
    ((wx.setCell ⟨w.heap.size, 0, none⟩ a).setCell ⟨w.heap.size, 1, none⟩ b).ownsRow w.heap.size 188 2 v n out ∧ Below w.heap.size w ((wx.setCell ⟨w.heap.size, 0, none⟩ a).setCell ⟨w.heap.size, 1, none⟩ b) :=
  ⟨r.own.kept (row := some w.heap.size) (only_set (only_set (World.grownBy.refl wx _) 0 a) 1 b) (.inr (own_blk_ne r.own r.res (by decide))), (r.below.setCell (Nat.le_refl _) a).setCell (Nat.le_refl _) b⟩

/-- What rows leaves. -/
def RowsPost (w : World) (s : P14.St) (n : Nat) (e : Ending) (w' : World) : Prop :=
  ∃ A c, e = .returned (.tuple #[.slice A n c, .agg #[.int .i64 s.W, .int .i64 (P1.add s.y s.h)]]) ∧ w'.ownsRow w.heap.size 188 2 (.slice A n c) n (flat2 s.out) ∧ Below w.heap.size w w'

theorem point_info : (Tryz.prog.info? 188).map (fun i => (i.zero, i.size, i.bytes)) = some (some (.agg #[.int .i64 0, .int .i64 0]), 2, 16) := by kernel_rfl

end Go.Proofs.YtaalhglooipnaaaGreat.Fl
namespace Go.Proofs.YtaalhglooipnaaaGreat.Fl
open Go.RowKit
attribute [local go_sem ↓] Go.wp_at_zero Go.wp_at_succ

/-- How much box k takes, and how high it is. -/
def bStack  (zs : List (Int × Int)) (k : Nat) : Int × Int := (P14.least (zs.getD k (0, 0)).1, P14.least (zs.getD k (0, 0)).2)
/-- Does a row begin? -/
def nStack  (_k : Nat) (_x _n : Int) : Bool := true

set_option maxRecDepth 100000 in
set_option maxHeartbeats 8000000 in
theorem rowsStack_any (gap : Int) (A : Option Addr) (n c : Nat) (zs : List (Int × Int)) (w : World) (hz : Pairs w w.heap.size A n zs) (hn : n ≤ 40)  :
    Calls Tryz.prog 156 #[.int .i64 gap, .slice A n c, .func (.func 157) #[] #[], .func (.func 163) #[] #[]] w (RowsPost w (P14.penAt (P14.least gap) (bStack  zs) (nStack ) n) n) := by
  obtain ⟨i0, hi, hz0, hz1, hz2⟩ := info_parts point_info
  have hzl := hz.1
  have HZ := Lib.hid hz
  have HZL := Lib.hid hzl
  clear hz hzl
  go_enter Tryz.func156, Tryz.ntmps156
  go_wp2_with (first | (go_at_call 155; ((with_reducible refine (least_any _ _).mono ?_); rintro e w' ⟨rfl, rfl⟩)))
  go_loopw [11, 21] (fun v0 i wr => ∃ (k : Nat) (s : P14.St), k ≤ n ∧ i = .int .i64 k ∧ Hid (s = P14.penAt (P14.least gap) (bStack  zs) (nStack ) k) ∧ Rnd w wr (w.heap.size + 1) s.x s.y s.h (P14.least gap) s.W (decide (0 < k)) v0 k (flat2 s.out))
    (fun _ i _ => n - (intOf i).toNat)
  case atStart =>
    refine ⟨0, P14.st0, Nat.zero_le _, rfl, rfl, ⟨?_, World.ownsRow_nil _ _ _ _, ((Below.refl _ _).alloc (Nat.le_refl _) _).alloc (by simp) _, by omega, (Blk.new _ _ _).alloc _⟩⟩
    have hb := Blk.new (w.alloc (.cells #[.int .i64 0, .int .i64 0] 180)) 225 #[.int .i64 0, .int .i64 0, .int .i64 0, .int .i64 (P14.least gap), .int .i64 0, .bool false]
    simp at hb
    exact hb
  case round =>
    obtain ⟨k, s, hk, rfl, hs, hr⟩ := hrel
    by_cases hlt : k < n
    · obtain ⟨b, off, rfl, hbB, hc0, hc1⟩ := HZ.out.2 k hlt
      have e0 := hr.below.cell (p := ⟨b, off + k * 2, none⟩) hbB
      have e1 := hr.below.cell (p := ⟨b, off + k * 2 + 1, none⟩) hbB
      rw [hc0] at e0
      rw [hc1] at e1
      clear hc0 hc1
      obtain ⟨za, zb, hzab⟩ : ∃ za zb, zs.getD k (0, 0) = (za, zb) := ⟨_, _, rfl⟩
      rw [hzab] at e0 e1
      have HB : Hid (bStack  zs k = (P14.least za, P14.least zb)) := by unfold bStack; rw [hzab]; rfl
      clear hzab
      have HR := Lib.hid hr
      clear hr
      go_upto_region 5 with fail
      go_cut [12, 13] (fun s12 s13 wx => ∃ sB : Nat, s12 = .int .i64 k ∧ s13 = .pointer (some ⟨sB, 0, none⟩) ∧ Rb w wx (w.heap.size + 1) s.x s.y s.h (P14.least gap) s.W (decide (0 < k)) u11 k (flat2 s.out) sB za zb)
      case first =>
        go_wp2_with fail
        go_meet
        exact ⟨_, rfl, rfl, Rb.start HR.out _ _⟩
      case rest =>
        obtain ⟨sB, rfl, rfl, hb⟩ := hcut
        obtain ⟨d0, d1, d2, d3⟩ := hb.cells
        have hlB := hb.box.lt
        have HB1 := Lib.hid hb
        clear hb e0 e1
        go_upto_region 6 with fail
        go_cut [] (fun wx => Rb w wx (w.heap.size + 1) s.x s.y s.h (P14.least gap) s.W (decide (0 < k)) u11 k (flat2 s.out) sB (P14.least za) (P14.least zb))
        case first =>
          go_wp2_with (first | (go_at_call 170; ((with_reducible refine (plain_any _ _ _).mono ?_); rintro e w1 ⟨rfl, hbel⟩; have hb1 := HB1.out.keep hbel; obtain ⟨g0, g1, g2, g3⟩ := hb1.cells; have HB2 := Lib.hid hb1; clear hb1)))
          go_meet
          exact HB2.out.sized _ _
        case rest =>
          have hb := hcut
          clear d0 d1 d2 d3 hlB hcut
          obtain ⟨d0, d1, d2, d3⟩ := hb.cells
          have HB2 := Lib.hid hb
          clear hb
          go_upto_region 7 with fail
          go_cut [14] (fun s14 wx => s14 = .int .i64 (P14.least za) ∧ Rb w wx (w.heap.size + 1) s.x s.y s.h (P14.least gap) s.W (decide (0 < k)) u11 k (flat2 s.out) sB (P14.least za) (P14.least zb))
          case first =>
            go_wp2_with fail
            refine (own_any _ _ _).mono ?_
            rintro e w1 ⟨rfl, hbel⟩
            go_wp2_with fail
            go_meet
            exact ⟨rfl, HB2.out.keep hbel⟩
          case rest =>
            obtain ⟨rfl, hb⟩ := hcut
            clear d0 d1 d2 d3 HB2
            have HB3 := Lib.hid hb
            clear hb
            go_upto_region 8 with fail
            obtain ⟨q, hq⟩ : ∃ q : Bool, q = (decide (0 < k) && nStack  k s.x (P14.least za)) := ⟨_, rfl⟩
            have HQ := Lib.hid hq
            clear hq
            go_cut [39] (fun s39 wx => s39 = .bool q ∧ Rb w wx (w.heap.size + 1) s.x s.y s.h (P14.least gap) s.W (decide (0 < k)) u11 k (flat2 s.out) sB (P14.least za) (P14.least zb))
            case first =>
              by_cases h0 : k = 0
              · have hk0 : k ≤ 0 := by omega
                have HQ1 := Lib.hid (show q = false by rw [HQ.out]; simp [h0])
                clear h0
                go_wp2_with fail
                go_meet
                exact ⟨by rw [HQ1.out], HB3.out⟩
              · have hk0 : decide ((0 : Int) < (k : Int)) = true := by simp; omega
                have HQ1 := Lib.hid (show q = nStack  k s.x (P14.least za) by rw [HQ.out]; simp; omega)
                have hki : (0 : Int) ≤ (k : Int) := by omega
                go_wp2_with fail
                refine (always_any _ _ _ _).mono ?_
                rintro e w1 ⟨rfl, nd, rfl⟩
                go_wp2_with fail
                go_meet
                exact ⟨by rw [HQ1.out]; rfl, HB3.out.drewN _⟩
            case rest =>
              obtain ⟨rfl, hb⟩ := hcut
              clear HB3
              have HB4 := Lib.hid hb
              clear hb
              obtain ⟨s1, hs1⟩ : ∃ s1, s1 = P14.pre (P14.least gap) (bStack  zs) (nStack ) k s := ⟨_, rfl⟩
              have HS1 : Hid (s1 = P14.pre (P14.least gap) (bStack  zs) (nStack ) k s ∧ s1 = (if q = true then P14.St.row (P14.least gap) s else s) ∧ (q = true → 0 < k)) := by
                refine ⟨hs1, ?_, fun h => ?_⟩
                · rw [hs1, P14.pre, HB.out, HQ.out]
                  simp
                · rw [HQ.out] at h
                  simp at h
                  exact h.1
              clear hs1
              go_upto_if 39 with fail
              go_cut [] (fun wx => Rb w wx (w.heap.size + 1) s1.x s1.y s1.h (P14.least gap) s1.W (decide (0 < k)) u11 k (flat2 s.out) sB (P14.least za) (P14.least zb))
              case first =>
                cases q
                · have HS2 := Lib.hid (show s1 = s by rw [HS1.out.2.1]; rfl)
                  go_wp2_with fail
                  go_meet
                  rw [HS2.out]
                  exact HB4.out
                · have HS2 := Lib.hid (show s1 = P14.St.row (P14.least gap) s by rw [HS1.out.2.1]; rfl)
                  have HK := Lib.hid (show decide (0 < k) = true by simpa using HS1.out.2.2 rfl)
                  have hp := HB4.out.rnd.pen
                  rw [HK.out] at hp
                  have HPN := Lib.hid hp
                  clear hp
                  go_wp2_with (first | (go_at_call 171; ((with_reducible refine (row_any _ _ _ _ _ _ _ HPN.out).mono ?_); rintro e w1 ⟨rfl, hp1, hg1⟩)))
                  go_meet
                  rw [HS2.out, HK.out]
                  exact HB4.out.moved hp1 hg1
              case rest =>
                have hb := hcut
                clear hcut HB4
                obtain ⟨d0, d1, d2, d3⟩ := hb.cells
                have hp := hb.rnd.pen
                have HPN := Lib.hid hp
                have HB5 := Lib.hid hb
                clear hb hp
                go_wp2_with (first
                  | (go_at_call 172; ((with_reducible refine (put_any _ _ _ _ _ _ _ _ _ _ _ HPN.out).mono ?_); rintro e w1 ⟨rfl, hp1, hg1⟩; have hb1 := HB5.out.moved hp1 hg1; have HB6 := Lib.hid hb1; have hsz := hb1.rnd.size; clear hp1 hg1 hb1))
                  | (at_builtin; refine wpList_append_lies _ rfl _ _ _ rfl w.heap.size 188 i0 _ 2 16 Tryz.underlying184 hi hz0 hz1 hz2 rfl (by decide) _ k (flat2 s.out) rfl (HB6.out.rnd.own.alloc _) _ 1 1 [.int .i64 s1.x, .int .i64 s1.y] rfl rfl (World.news_of_block (heap_alloc_new _ _)) (by intro u hu; simp at hu; rcases hu with rfl | rfl <;> rfl) (by omega) (by unfold maxLen; omega) (by omega) (by simp; omega) _ rfl ?_; intro g2 cap2 w2 hown2 hg2 hat2 hlt2))
                have hs2 : Hid (P14.St.put (P14.least gap) s1 (P14.least za, P14.least zb) = P14.penAt (P14.least gap) (bStack  zs) (nStack ) (k + 1)) := by
                  refine Lib.hid ?_
                  rw [P14.penAt_succ, ← hs.out, ← HS1.out.1, HB.out]
                have ho2 : Hid (flat2 (P14.St.put (P14.least gap) s1 (P14.least za, P14.least zb)).out = flat2 s.out ++ [.int .i64 s1.x, .int .i64 s1.y]) := by
                  refine Lib.hid ?_
                  have : s1.out = s.out := by rw [HS1.out.1, P14.pre_out]
                  rw [P14.St.put, this, flat2_snoc]
                have hr2 := HB6.out.put hown2 _ hg2
                rw [← ho2.out] at hr2
                have HR2 := Lib.hid hr2
                clear hr2 hown2 hg2 hat2 hlt2
                go_roundw
                case rel => exact ⟨k + 1, _, by omega, by go_num, hs2, by rw [show decide (0 < k + 1) = true from by simp]; exact HR2.out⟩
                case measure => simp [intOf]; omega
    · obtain rfl : k = n := by omega
      have hp := hr.pen
      have HPN := Lib.hid hp
      have HR := Lib.hid hr
      clear hp hr
      go_wp2_with (first | (go_at_call 173; ((with_reducible refine (whole_any _ _ _ _ _ _ _ _ HPN.out).mono ?_); rintro e w1 ⟨rfl, hbel⟩; have hr1 := HR.out.keep hbel; have r0 := hr1.res.cell 0; have r1 := hr1.res.cell 1; have r2 := hr1.res.frozen 0; have r3 := hr1.res.frozen 1; have HR1 := Lib.hid hr1; clear hr1 hbel)))
      obtain ⟨AO, cO, hv⟩ := own_form HR1.out.own
      have HV := Lib.hid hv
      clear hv
      have hd := HR1.out.done (.int .i64 s.W) (.int .i64 (P1.add s.y s.h))
      have HD := Lib.hid hd
      clear hd
      refine bodyPost_ret (v := .tuple #[u11, .agg #[.int .i64 s.W, .int .i64 (P1.add s.y s.h)]]) (by simp [results, Tryz.results156, go_sem, r0, r1]) rfl ⟨AO, cO, ?_, ?_, ?_⟩
      · rw [← hs.out, HV.out]
      · rw [← hs.out, ← HV.out]
        exact HD.out.1
      · exact HD.out.2

end Go.Proofs.YtaalhglooipnaaaGreat.Fl
