/-
  The walks over package flow: Stack, Wrap, Grid.
-/
import Derived.Test.YtgcadpfgdfjceaaFlowStack
import Derived.Test.YtgcadpfgdfjceaaFlowWrap
import Derived.Test.YtgcadpfgdfjceaaFlowGrid
namespace Go.Proofs.Ytgcadpfgdfjceaa
open Go.RowKit
attribute [local go_sem ↓] Go.wp_at_zero Go.wp_at_succ

theorem own_base {w : World} {base base' : Nat} {e : TypeId} {size n : Nat} {v : Value} {xs : List Value} (h : w.ownsRow base e size v n xs) (hb : base' ≤ base) : w.ownsRow base' e size v n xs := by
  refine ⟨h.1, ?_⟩
  rcases h.2 with h0 | ⟨g, cap, cur, hv, hg, rest⟩
  · exact .inl h0
  · exact .inr ⟨g, cap, cur, hv, Nat.le_trans hb hg, rest⟩

/-- The result's cell is stored, and the wrapper leaves what rows left. -/
theorem RowsPost.cell {w wa w' : World} {s : P14.St} {n : Nat} {A : Option Addr} {c R : Nat} (hbel : Below w.heap.size w wa) (hR : w.heap.size ≤ R)
    (hres : Blk wa R 39 #[.int .i64 0, .int .i64 0])
    (hown : w'.ownsRow wa.heap.size 48 2 (.slice A n c) n (flat2 s.out)) (hb : Below wa.heap.size wa w') (a b : Value) :
    ((w'.setCell ⟨R, 0, none⟩ a).setCell ⟨R, 1, none⟩ b).ownsRow w.heap.size 48 2 (.slice A n c) n (flat2 s.out) ∧
    Below w.heap.size w ((w'.setCell ⟨R, 0, none⟩ a).setCell ⟨R, 1, none⟩ b) := by
  have hlt := hres.lt
  have hr' := hres.below hb hlt
  refine ⟨own_base (hown.kept (row := some R) (only_set (only_set (World.grownBy.refl w' _) 0 a) 1 b) (.inr (own_blk_ne hown hr' (by decide)))) hbel.size, ?_⟩
  exact (((hbel.trans (hb.mono hbel.size)).setCell hR a).setCell hR b)

set_option maxHeartbeats 1000000 in
theorem stack_any (gap : Int) (A : Option Addr) (n c : Nat) (zs : List (Int × Int)) (w : World) (hz : Pairs w w.heap.size A n zs) (hn : n ≤ 40) :
    Calls Try.prog 35 #[.int .i64 gap, .slice A n c] w (RowsPost w (P14.penAt (P14.least gap) (bStack zs) nStack n) n) := by
  have HZ := Lib.hid hz
  clear hz
  obtain ⟨s, hs⟩ : ∃ s, s = P14.penAt (P14.least gap) (bStack zs) nStack n := ⟨_, rfl⟩
  rw [← hs]
  have HS := Lib.hid hs
  clear hs
  go_enter Try.func35, Try.ntmps35
  go_wp2_with fail
  refine (rowsStack_any gap A n c zs _ ?_ hn).mono ?_
  · exact (HZ.out.below ((Below.refl _ _).alloc (Nat.le_refl _) _)).more (by simp)
  rintro e w' ⟨A', c', rfl, hown, hb⟩
  rw [← HS.out] at hown ⊢
  have hr0 := (Blk.new w 39 #[.int .i64 0, .int .i64 0])
  have hr := hr0.below hb hr0.lt
  have r0 := hr.cell 0
  have r1 := hr.cell 1
  have r2 := hr.frozen 0
  have r3 := hr.frozen 1
  have hd := RowsPost.cell (w := w) ((Below.refl _ _).alloc (Nat.le_refl _) _) (Nat.le_refl _) hr0 hown hb (.int .i64 s.W) (.int .i64 (P1.add s.y s.h))
  have HD := Lib.hid hd
  clear hd hown hb hr0 hr
  go_wp2
  exact bodyPost_ret (v := .tuple #[.slice A' n c', .agg #[.int .i64 s.W, .int .i64 (P1.add s.y s.h)]]) (by simp [results, Try.results35, go_sem, r0, r1]) rfl ⟨A', c', rfl, HD.out⟩

set_option maxHeartbeats 1000000 in
theorem wrap_any (width gap : Int) (A : Option Addr) (n c : Nat) (zs : List (Int × Int)) (w : World) (hz : Pairs w w.heap.size A n zs) (hn : n ≤ 40) :
    Calls Try.prog 34 #[.int .i64 width, .int .i64 gap, .slice A n c] w (RowsPost w (P14.penAt (P14.least gap) (bWrap zs) (nWrap (P14.least width)) n) n) := by
  have HZ := Lib.hid hz
  clear hz
  obtain ⟨s, hs⟩ : ∃ s, s = P14.penAt (P14.least gap) (bWrap zs) (nWrap (P14.least width)) n := ⟨_, rfl⟩
  rw [← hs]
  have HS := Lib.hid hs
  clear hs
  go_enter Try.func34, Try.ntmps34
  go_wp2_with (first | (go_at_call 39; ((with_reducible refine (least_any _ _).mono ?_); rintro e w' ⟨rfl, rfl⟩)))
  refine (rowsWrap_any gap A n c zs _ ?_ hn w.heap.size (P14.least width) (by simp <;> omega) ?_).mono ?_
  · exact (HZ.out.below (((Below.refl _ _).alloc (Nat.le_refl _) _).alloc (by simp) _)).more (by simp <;> omega)
  · exact ((Blk.new w 3 #[.int .i64 (P14.least width)]).alloc _).cell 0
  rintro e w' ⟨A', c', rfl, hown, hb⟩
  rw [← HS.out] at hown ⊢
  have hr0 := (Blk.new (w.alloc (.cells #[.int .i64 (P14.least width)] 3)) 39 #[.int .i64 0, .int .i64 0])
  have hr := hr0.below hb hr0.lt
  simp only [World.size_alloc] at hr0 hr
  have r0 := hr.cell 0
  have r1 := hr.cell 1
  have r2 := hr.frozen 0
  have r3 := hr.frozen 1
  have hd := RowsPost.cell (w := w) (((Below.refl _ _).alloc (Nat.le_refl _) _).alloc (by simp) _) (Nat.le_succ _) hr0 hown hb (.int .i64 s.W) (.int .i64 (P1.add s.y s.h))
  have HD := Lib.hid hd
  clear hd hown hb hr0 hr
  go_wp2
  exact bodyPost_ret (v := .tuple #[.slice A' n c', .agg #[.int .i64 s.W, .int .i64 (P1.add s.y s.h)]]) (by simp [results, Try.results34, go_sem, r0, r1]) rfl ⟨A', c', rfl, HD.out⟩

theorem GridWorld.col (w : World) (a b : Value) (o : Obj) : (((w.alloc (.cells #[a] 3)).alloc (.cells #[b] 3)).alloc o).drew.cell? ⟨w.heap.size + 1, 0, none⟩ = some b := by
  have h := ((Blk.new (w.alloc (.cells #[a] 3)) 3 #[b]).alloc o).cell 0
  rw [World.size_alloc] at h
  exact h
theorem GridWorld.cols (w : World) (a b : Value) (o : Obj) : (((w.alloc (.cells #[a] 3)).alloc (.cells #[b] 3)).alloc o).drew.cell? ⟨w.heap.size, 0, none⟩ = some a :=
  (((Blk.new w 3 #[a]).alloc _).alloc o).cell 0
theorem GridWorld.res (w : World) (a b u v : Value) : Blk (((w.alloc (.cells #[a] 3)).alloc (.cells #[b] 3)).alloc (.cells #[u, v] 39)).drew (w.heap.size + 1 + 1) 39 #[u, v] := by
  have h := Blk.new ((w.alloc (.cells #[a] 3)).alloc (.cells #[b] 3)) 39 #[u, v]
  rw [World.size_alloc, World.size_alloc] at h
  exact h

set_option maxHeartbeats 4000000 in
theorem grid_any (cols col gap : Int) (A : Option Addr) (n c : Nat) (zs : List (Int × Int)) (w : World) (hz : Pairs w w.heap.size A n zs) (hn : n ≤ 40) :
    Calls Try.prog 36 #[.int .i64 cols, .int .i64 col, .int .i64 gap, .slice A n c] w (RowsPost w (P14.penAt (P14.least gap) (bGrid (P14.least col) zs) (nGrid (max 1 (min cols 64))) n) n) := by
  have HZ := Lib.hid hz
  clear hz
  obtain ⟨s, hs⟩ : ∃ s, s = P14.penAt (P14.least gap) (bGrid (P14.least col) zs) (nGrid (max 1 (min cols 64))) n := ⟨_, rfl⟩
  rw [← hs]
  have HS := Lib.hid hs
  clear hs
  go_enter Try.func36, Try.ntmps36
  go_wp2_with fail
  go_region_with (first | (go_at_call 39; ((with_reducible refine (least_any _ _).mono ?_); rintro e w' ⟨rfl, rfl⟩)) | (go_at_call 16; ((with_reducible refine (clip_any _ _ _ _).mono ?_); rintro e w' ⟨rfl, rfl⟩)))
  all_goals go_wp2_with fail
  all_goals (refine (rowsGrid_any gap A n c zs _ ?_ hn (w.heap.size + 1) w.heap.size (P14.least col) (max 1 (min cols 64)) (by omega) (by simp <;> omega) ?_ (by simp <;> omega) ?_).mono ?_)
  all_goals (first
    | (exact (HZ.out.below ((((Below.refl _ _).alloc (Nat.le_refl _) _).alloc (by simp) _).alloc (by simp <;> omega) _).drew).more (by simp <;> omega))
    | (exact GridWorld.col w _ _ _)
    | (exact GridWorld.cols w _ _ _)
    | skip)
  all_goals (
    rintro e w' ⟨A', c', rfl, hown, hb⟩
    rw [← HS.out] at hown ⊢
    have hr0 := GridWorld.res w (.int .i64 (max 1 (min cols 64))) (.int .i64 (P14.least col)) (.int .i64 0) (.int .i64 0)
    have hr := hr0.below hb hr0.lt
    have r0 := hr.cell 0
    have r1 := hr.cell 1
    have r2 := hr.frozen 0
    have r3 := hr.frozen 1
    have hd := RowsPost.cell (w := w) ((((Below.refl _ _).alloc (Nat.le_refl _) _).alloc (by simp) _).alloc (by simp <;> omega) _).drew (by omega) hr0 hown hb (.int .i64 s.W) (.int .i64 (P1.add s.y s.h))
    have HD := Lib.hid hd
    clear hd hown hb hr0 hr
    go_wp2
    exact bodyPost_ret (v := .tuple #[.slice A' n c', .agg #[.int .i64 s.W, .int .i64 (P1.add s.y s.h)]]) (by simp [results, Try.results36, go_sem, r0, r1]) rfl ⟨A', c', rfl, HD.out⟩)

end Go.Proofs.Ytgcadpfgdfjceaa
