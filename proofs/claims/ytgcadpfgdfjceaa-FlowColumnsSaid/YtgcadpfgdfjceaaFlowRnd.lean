/-
  Words for the loop of flow's rows: what holds of the world in the midst of a round.
-/
import Derived.Test.YtgcadpfgdfjceaaFlowPut
import Derived.Test.YtgcadpfgdfjceaaFlowFns
import Derived.Deep.AppendLies
namespace Go.Proofs.Ytgcadpfgdfjceaa
open Go.RowKit

/-- Pairs of ints as they lie in memory. -/
def flat2 (l : List (Int × Int)) : List Value := l.flatMap fun p => [.int .i64 p.1, .int .i64 p.2]
theorem flat2_snoc (l : List (Int × Int)) (p : Int × Int) : flat2 (l ++ [p]) = flat2 l ++ [.int .i64 p.1, .int .i64 p.2] := by simp [flat2]
theorem flat2_len (l : List (Int × Int)) : (flat2 l).length = l.length * 2 := by
  induction l with
  | nil => rfl
  | cons a l ih => simp only [flat2, List.flatMap_cons, List.length_append, List.length_cons, List.length_nil] at ih ⊢; omega
theorem flat2_at (l : List (Int × Int)) (k : Nat) (h : k < l.length) : (flat2 l)[k * 2]? = some (.int .i64 (l.getD k (0, 0)).1) ∧ (flat2 l)[k * 2 + 1]? = some (.int .i64 (l.getD k (0, 0)).2) := by
  induction l generalizing k with
  | nil => simp at h
  | cons a l ih =>
    cases k with
    | zero => exact ⟨rfl, rfl⟩
    | succ k =>
      have := ih k (by simpa using h)
      have e1 : (k + 1) * 2 = k * 2 + 1 + 1 := by omega
      simp only [flat2, List.flatMap_cons, List.cons_append, List.nil_append] at this ⊢
      rw [e1]
      simpa using this

/-- A slice of pairs of ints that reads as a list, below block B. -/
def Pairs (w : World) (B : Nat) (A : Option Addr) (n : Nat) (zs : List (Int × Int)) : Prop :=
  zs.length = n ∧ ∀ k, k < n → ∃ b off, A = some ⟨b, off, none⟩ ∧ b < B ∧ w.cell? ⟨b, off + k * 2, none⟩ = some (.int .i64 (zs.getD k (0, 0)).1) ∧ w.cell? ⟨b, off + k * 2 + 1, none⟩ = some (.int .i64 (zs.getD k (0, 0)).2)

theorem Pairs.below {w w' : World} {B : Nat} {A : Option Addr} {n : Nat} {zs : List (Int × Int)} (h : Pairs w B A n zs) (hb : Below B w w') : Pairs w' B A n zs :=
  ⟨h.1, fun k hk => by
    obtain ⟨b, off, hA, hB, h0, h1⟩ := h.2 k hk
    exact ⟨b, off, hA, hB, (hb.cell (p := ⟨b, _, none⟩) hB).trans h0, (hb.cell (p := ⟨b, _, none⟩) hB).trans h1⟩⟩
theorem Pairs.more {w : World} {B B' : Nat} {A : Option Addr} {n : Nat} {zs : List (Int × Int)} (h : Pairs w B A n zs) (hB : B ≤ B') : Pairs w B' A n zs :=
  ⟨h.1, fun k hk => by
    obtain ⟨b, off, hA, hb, h0, h1⟩ := h.2 k hk
    exact ⟨b, off, hA, by omega, h0, h1⟩⟩
theorem Pairs.of_own {w : World} {base : Nat} {e : TypeId} {A : Option Addr} {n c : Nat} {zs : List (Int × Int)} (h : w.ownsRow base e 2 (.slice A n c) n (flat2 zs)) (hl : zs.length = n) : Pairs w w.heap.size A n zs := by
  refine ⟨hl, fun k hk => ?_⟩
  obtain ⟨g, cap, hv, _, hlt⟩ := h.form (by omega)
  obtain ⟨rfl, rfl⟩ : A = some ⟨g, 0, none⟩ ∧ c = cap := by injection hv; exact ⟨by assumption, by assumption⟩
  obtain ⟨f0, f1⟩ := flat2_at zs k (by omega)
  have c0 := h.cells (g := g) rfl _ _ f0
  have c1 := h.cells (g := g) rfl _ _ f1
  rw [Addr.add_lit] at c0 c1
  refine ⟨g, 0, rfl, hlt, c0, ?_⟩
  rw [show (0 + k * 2 + 1 : Nat) = 0 + (k * 2 + 1) by omega]
  exact c1

theorem own_blk_ne {w : World} {g : Nat} {t : TypeId} {cs : Array Value} {base : Nat} {e : TypeId} {size n : Nat} {v : Value} {xs : List Value} (h : w.ownsRow base e size v n xs) (hg : Blk w g t cs) (hne : e ≠ t) : v.ownBlock ≠ some g := by
  rcases h.2 with ⟨rfl, _⟩ | ⟨g', cap, cur, rfl, _, hh, _⟩
  · simp [Value.ownBlock]
  · intro he
    have : g' = g := by simpa [Value.ownBlock] using he
    subst this
    exact Blk.ne_ (t := e) hh hg hne rfl

/-- In the midst of a round. -/
structure Rnd (w wx : World) (g : Nat) (x y h gap wide : Int) (any : Bool) (v : Value) (n : Nat) (out : List Value) : Prop where
  pen : Pen wx g x y h gap wide any
  own : wx.ownsRow w.heap.size 48 2 v n out
  below : Below w.heap.size w wx
  gB : w.heap.size ≤ g
  res : Blk wx w.heap.size 39 #[.int .i64 0, .int .i64 0]

section
variable {w wx wy : World} {g : Nat} {x y h gap wide : Int} {any : Bool} {v : Value} {n : Nat} {out : List Value}
theorem Rnd.ne_ (r : Rnd w wx g x y h gap wide any v n out) : v.ownBlock ≠ some g := own_blk_ne r.own r.pen (by decide)
theorem Rnd.size (r : Rnd w wx g x y h gap wide any v n out) : w.heap.size ≤ wx.heap.size := r.below.size
theorem Rnd.lt (r : Rnd w wx g x y h gap wide any v n out) : g < wx.heap.size := Blk.lt r.pen
/-- Whatever turns nothing that is there. -/
theorem Rnd.keep (r : Rnd w wx g x y h gap wide any v n out) (hb : Below wx.heap.size wx wy) : Rnd w wy g x y h gap wide any v n out :=
  ⟨Blk.below r.pen hb r.lt, r.own.kept (only_of_below hb none) (by simp [Classical.em]), r.below.trans (hb.mono r.size), r.gB, r.res.below hb r.res.lt⟩
theorem Rnd.drewN (r : Rnd w wx g x y h gap wide any v n out) (k : Nat) : Rnd w (wx.drewN k) g x y h gap wide any v n out :=
  ⟨r.pen, r.own, below_drewN r.below k, r.gB, r.res⟩
/-- A store into a new block of another type. -/
theorem Rnd.set_ (r : Rnd w wx g x y h gap wide any v n out) {s : Nat} {t : TypeId} {cs : Array Value} (hs : Blk wx s t cs) (h1 : 61 ≠ t) (h2 : 48 ≠ t) (hB : w.heap.size < s) (i : Nat) (u : Value) :
    Rnd w (wx.setCell ⟨s, i, none⟩ u) g x y h gap wide any v n out :=
  ⟨Blk.far r.pen (p := ⟨s, i, none⟩) (Blk.ne_ r.pen hs h1) u, r.own.kept (row := some s) (only_set (World.grownBy.refl wx _) i u) (.inr (own_blk_ne r.own hs h2)), r.below.setCell (Nat.le_of_lt hB) u, r.gB, r.res.far (p := ⟨s, i, none⟩) (Nat.ne_of_lt hB) u⟩
/-- The pen has been moved. -/
theorem Rnd.moved {x' y' h' gap' wide' : Int} {any' : Bool} (r : Rnd w wx g x y h gap wide any v n out) (hp : Pen wy g x' y' h' gap' wide' any') (hg : wx.grownBy wy (some g)) : Rnd w wy g x' y' h' gap' wide' any' v n out :=
  ⟨hp, r.own.kept hg (.inr r.ne_), r.below.grown hg r.size (fun k hk => by cases hk; exact r.gB), r.gB, r.res.grown hg (fun e => by
    have e' : w.heap.size = g := by injection e
    exact Blk.ne_ r.pen r.res (by decide) e'.symm)⟩
end

/-- In the midst of a round, with the box. -/
structure Rb (w wx : World) (g : Nat) (x y h gap wide : Int) (any : Bool) (v : Value) (n : Nat) (out : List Value) (s : Nat) (a b : Int) : Prop where
  rnd : Rnd w wx g x y h gap wide any v n out
  box : Blk wx s 39 #[.int .i64 a, .int .i64 b]
  sB : w.heap.size < s

section
variable {w wx wy : World} {g : Nat} {x y h gap wide : Int} {any : Bool} {v : Value} {n : Nat} {out : List Value} {s : Nat} {a b : Int}
theorem Rb.cells (r : Rb w wx g x y h gap wide any v n out s a b) : wx.cell? ⟨s, 0, none⟩ = some (.int .i64 a) ∧ wx.cell? ⟨s, 1, none⟩ = some (.int .i64 b) ∧ wx.frozen? ⟨s, 0, none⟩ = false ∧ wx.frozen? ⟨s, 1, none⟩ = false :=
  ⟨r.box.cell 0, r.box.cell 1, r.box.frozen 0, r.box.frozen 1⟩
theorem Rb.start (r : Rnd w wx g x y h gap wide any v n out) (a b : Int) : Rb w (wx.alloc (.cells #[.int .i64 a, .int .i64 b] 39)) g x y h gap wide any v n out wx.heap.size a b :=
  ⟨r.keep ((Below.refl _ _).alloc (Nat.le_refl _) _), Blk.new _ _ _, r.res.lt⟩
theorem Rb.keep (r : Rb w wx g x y h gap wide any v n out s a b) (hb : Below wx.heap.size wx wy) : Rb w wy g x y h gap wide any v n out s a b :=
  ⟨r.rnd.keep hb, r.box.below hb r.box.lt, r.sB⟩
theorem Rb.drewN (r : Rb w wx g x y h gap wide any v n out s a b) (k : Nat) : Rb w (wx.drewN k) g x y h gap wide any v n out s a b := ⟨r.rnd.drewN k, r.box, r.sB⟩
theorem Rb.sized (r : Rb w wx g x y h gap wide any v n out s a b) (a' b' : Int) : Rb w ((wx.setCell ⟨s, 0, none⟩ (.int .i64 a')).setCell ⟨s, 1, none⟩ (.int .i64 b')) g x y h gap wide any v n out s a' b' :=
  have r1 := r.rnd.set_ r.box (by decide) (by decide) r.sB 0 (.int .i64 a')
  have b1 := r.box.set_ 0 (.int .i64 a')
  ⟨r1.set_ b1 (by decide) (by decide) r.sB 1 (.int .i64 b'), b1.set_ 1 (.int .i64 b'), r.sB⟩
theorem Rb.moved {x' y' h' gap' wide' : Int} {any' : Bool} (r : Rb w wx g x y h gap wide any v n out s a b) (hp : Pen wy g x' y' h' gap' wide' any') (hg : wx.grownBy wy (some g)) : Rb w wy g x' y' h' gap' wide' any' v n out s a b :=
  ⟨r.rnd.moved hp hg, r.box.grown hg (fun e => by
    have e' : s = g := by injection e
    exact Blk.ne_ r.rnd.pen r.box (by decide) e'.symm), r.sB⟩
theorem Rb.put {wz : World} {v' : Value} {p q : Int} (r : Rb w wx g x y h gap wide any v n out s a b) (hown : wz.ownsRow w.heap.size 48 2 v' (n + 1) (out ++ [.int .i64 p, .int .i64 q])) (o : Obj) (hg : (wx.alloc o).grownBy wz v.ownBlock) :
    Rnd w wz g x y h gap wide any v' (n + 1) (out ++ [.int .i64 p, .int .i64 q]) :=
  have r1 := r.rnd.keep ((Below.refl wx.heap.size wx).alloc (Nat.le_refl _) o)
  ⟨Blk.grown r1.pen hg (fun e => r1.ne_ e.symm), hown, r1.below.grown hg r1.size (fun k hk => (r1.own.lt k hk).1), r1.gB, r1.res.grown hg (fun e => own_blk_ne r1.own r1.res (by decide) e.symm)⟩
end

theorem own_form {w : World} {base : Nat} {e : TypeId} {size n : Nat} {v : Value} {xs : List Value} (h : w.ownsRow base e size v n xs) : ∃ A c, v = .slice A n c := by
  rcases h.2 with ⟨rfl, rfl⟩ | ⟨g, cap, cur, rfl, _⟩
  · exact ⟨_, _, rfl⟩
  · exact ⟨_, _, rfl⟩
theorem Rnd.done {w wx : World} {g : Nat} {x y h gap wide : Int} {any : Bool} {v : Value} {n : Nat} {out : List Value} (r : Rnd w wx g x y h gap wide any v n out) (a b : Value) :
    ((wx.setCell ⟨w.heap.size, 0, none⟩ a).setCell ⟨w.heap.size, 1, none⟩ b).ownsRow w.heap.size 48 2 v n out ∧ Below w.heap.size w ((wx.setCell ⟨w.heap.size, 0, none⟩ a).setCell ⟨w.heap.size, 1, none⟩ b) :=
  ⟨r.own.kept (row := some w.heap.size) (only_set (only_set (World.grownBy.refl wx _) 0 a) 1 b) (.inr (own_blk_ne r.own r.res (by decide))), (r.below.setCell (Nat.le_refl _) a).setCell (Nat.le_refl _) b⟩

/-- What rows leaves. -/
def RowsPost (w : World) (s : P14.St) (n : Nat) (e : Ending) (w' : World) : Prop :=
  ∃ A c, e = .returned (.tuple #[.slice A n c, .agg #[.int .i64 s.W, .int .i64 (P1.add s.y s.h)]]) ∧ w'.ownsRow w.heap.size 48 2 (.slice A n c) n (flat2 s.out) ∧ Below w.heap.size w w'

theorem point_info : (Try.prog.info? 48).map (fun i => (i.zero, i.size, i.bytes)) = some (some (.agg #[.int .i64 0, .int .i64 0]), 2, 16) := by kernel_rfl

end Go.Proofs.Ytgcadpfgdfjceaa
