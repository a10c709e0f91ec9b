/-
  Words for a plan in memory: what each does, who is taken, how one starts, who is let go.
-/
import Derived.Test.YtkiaaaehakjhjaaSlotIdx
namespace Go.Proofs.Ytkiaaaehakjhjaa
open Go.RowKit
attribute [local go_sem ↓] Go.wp_at_zero Go.wp_at_succ

theorem int_info : (Try.prog.info? 3).map (fun i => (i.zero, i.size, i.bytes)) = some (some (.int .i64 0), 1, 8) := by kernel_rfl

theorem slice_block {a b n m c d : Nat} (h : Value.slice (some ⟨a, 0, none⟩) n c = .slice (some ⟨b, 0, none⟩) m d) : a = b := by
  injection h with h
  injection h with h
  injection h

/-- A plan. -/
structure PlanS where
  each : List Int
  take : Int
  start : Int
  rel : List Int

/-- A plan in memory, at block P, of type t. -/
structure Pn (t : TypeId) (w wx : World) (P : Nat) (vE vR : Value) (p : PlanS) : Prop where
  blk : Blk wx P t #[vE, .int .i64 p.take, .int .i64 p.start, vR]
  e : wx.ownsRow w.heap.size 3 1 vE p.each.length (nums p.each)
  r : wx.ownsRow w.heap.size 3 1 vR p.rel.length (nums p.rel)
  ap : vR.ownBlock = none ∨ vR.ownBlock ≠ vE.ownBlock
  below : Below w.heap.size w wx
  pB : w.heap.size ≤ P
  ht : 3 ≠ t

section
variable {t : TypeId} {w wx wy : World} {P : Nat} {vE vR : Value} {p : PlanS}
theorem Pn.lt (h : Pn t w wx P vE vR p) : P < wx.heap.size := h.blk.lt
theorem Pn.keep (h : Pn t w wx P vE vR p) (hb : Below wx.heap.size wx wy) : Pn t w wy P vE vR p :=
  ⟨h.blk.below hb h.lt, own_keep h.e hb, own_keep h.r hb, h.ap, h.below.trans (hb.mono h.below.size), h.pB, h.ht⟩
theorem Pn.alloc (h : Pn t w wx P vE vR p) (o : Obj) : Pn t w (wx.alloc o) P vE vR p := h.keep ((Below.refl _ _).alloc (Nat.le_refl _) o)
theorem Pn.drewN (h : Pn t w wx P vE vR p) (n : Nat) : Pn t w (wx.drewN n) P vE vR p := h.keep (below_drewN (Below.refl _ _) n)
theorem Pn.cells (h : Pn t w wx P vE vR p) : wx.cell? ⟨P, 0, none⟩ = some vE ∧ wx.cell? ⟨P, 1, none⟩ = some (.int .i64 p.take) ∧ wx.cell? ⟨P, 2, none⟩ = some (.int .i64 p.start) ∧ wx.cell? ⟨P, 3, none⟩ = some vR :=
  ⟨h.blk.cell 0, h.blk.cell 1, h.blk.cell 2, h.blk.cell 3⟩
theorem Pn.free (h : Pn t w wx P vE vR p) : wx.frozen? ⟨P, 0, none⟩ = false ∧ wx.frozen? ⟨P, 1, none⟩ = false ∧ wx.frozen? ⟨P, 2, none⟩ = false ∧ wx.frozen? ⟨P, 3, none⟩ = false :=
  ⟨h.blk.frozen 0, h.blk.frozen 1, h.blk.frozen 2, h.blk.frozen 3⟩
theorem Pn.neE (h : Pn t w wx P vE vR p) : vE.ownBlock ≠ some P := own_blk_ne h.e h.blk h.ht
theorem Pn.neR (h : Pn t w wx P vE vR p) : vR.ownBlock ≠ some P := own_blk_ne h.r h.blk h.ht
theorem Pn.setTake (h : Pn t w wx P vE vR p) (a : Int) : Pn t w (wx.setCell ⟨P, 1, none⟩ (.int .i64 a)) P vE vR { p with take := a } :=
  ⟨h.blk.set_ 1 _, h.e.kept (row := some P) (only_set (World.grownBy.refl wx _) 1 _) (.inr h.neE), h.r.kept (row := some P) (only_set (World.grownBy.refl wx _) 1 _) (.inr h.neR), h.ap, h.below.setCell (p := ⟨P, 1, none⟩) h.pB _, h.pB, h.ht⟩
theorem Pn.setStart (h : Pn t w wx P vE vR p) (a : Int) : Pn t w (wx.setCell ⟨P, 2, none⟩ (.int .i64 a)) P vE vR { p with start := a } :=
  ⟨h.blk.set_ 2 _, h.e.kept (row := some P) (only_set (World.grownBy.refl wx _) 2 _) (.inr h.neE), h.r.kept (row := some P) (only_set (World.grownBy.refl wx _) 2 _) (.inr h.neR), h.ap, h.below.setCell (p := ⟨P, 2, none⟩) h.pB _, h.pB, h.ht⟩
/-- An element of each. -/
theorem Pn.eachAt (h : Pn t w wx P vE vR p) (k : Nat) (hk : k < p.each.length) : ∃ g c, vE = .slice (some ⟨g, 0, none⟩) p.each.length c ∧ wx.cell? ⟨g, k, none⟩ = some (.int .i64 (p.each.getD k 0)) ∧ wx.frozen? ⟨g, k, none⟩ = false := by
  obtain ⟨g, cap, hv, _, hlt⟩ := h.e.form (by omega)
  have he := h.e
  rw [hv] at he
  have c0 := he.cellAt k (by omega)
  refine ⟨g, cap, hv, ?_, he.frozenAt k⟩
  rw [c0]
  simp [nums, List.getD, hk]
theorem nums_set (l : List Int) (k : Nat) (a : Int) : nums (l.set k a) = (nums l).set k (.int .i64 a) := by
  rw [nums, nums, List.map_set]
theorem Pn.setEach (h : Pn t w wx P vE vR p) (g c k : Nat) (a : Int) (hv : vE = .slice (some ⟨g, 0, none⟩) p.each.length c) : Pn t w (wx.setCell ⟨g, k, none⟩ (.int .i64 a)) P vE vR { p with each := p.each.set k a } := by
  have he := h.e
  have hob : vE.ownBlock = some g := by rw [hv]; rfl
  have hg := h.e.lt g hob
  refine ⟨?_, ?_, h.r.kept (row := some g) (only_set (World.grownBy.refl wx _) k _) ?_, h.ap, h.below.setCell (p := ⟨g, k, none⟩) hg.1 _, h.pB, h.ht⟩
  · exact h.blk.far (p := ⟨g, k, none⟩) (fun e => h.neE (by rw [hob]; exact congrArg some e.symm)) _
  · rw [hv] at he ⊢
    have := (he.stored k (.int .i64 a)).1
    simpa [nums_set] using this
  · rcases h.ap with h1 | h1
    · exact .inl h1
    · rw [hob] at h1; exact .inr h1
/-- One more is let go. -/
theorem Pn.push (h : Pn t w wx P vE vR p) {a : Int} {g cap : Nat} (ho : wy.ownsRow w.heap.size 3 1 (.slice (some ⟨g, 0, none⟩) (p.rel.length + 1) cap) (p.rel.length + 1) (nums p.rel ++ [.int .i64 a])) (hg : wx.grownBy wy vR.ownBlock) (hat : vR.ownBlock = some g ∨ g = wx.heap.size) :
    Pn t w (wy.setCell ⟨P, 3, none⟩ (.slice (some ⟨g, 0, none⟩) (p.rel.length + 1) cap)) P vE (.slice (some ⟨g, 0, none⟩) (p.rel.length + 1) cap) { p with rel := p.rel ++ [a] } := by
  have hblk := h.blk.grown hg (fun e => h.neR e.symm)
  have hE : wy.ownsRow w.heap.size 3 1 vE p.each.length (nums p.each) := h.e.kept hg (by
    rcases h.ap with h1 | h1
    · cases hv : vE.ownBlock
      · exact .inl rfl
      · rw [h1]; exact .inr (by simp)
    · exact .inr (fun e => h1 e.symm))
  have hap : ∀ k, vE.ownBlock = some k → k ≠ g := by
    intro k hk e
    subst e
    rcases hat with h1 | h1
    · rcases h.ap with h2 | h2
      · rw [h2] at h1; cases h1
      · exact h2 (h1.trans hk.symm)
    · have := (h.e.lt k hk).2; omega
  have hb := h.below.grown hg h.below.size (fun k hk => (h.r.lt k hk).1)
  have hl : (p.rel ++ [a]).length = p.rel.length + 1 := by simp
  refine ⟨hblk.set_ 3 _, hE.kept (row := some P) (only_set (World.grownBy.refl wy _) 3 _) (.inr h.neE), ?_, ?_, hb.setCell (p := ⟨P, 3, none⟩) h.pB _, h.pB, h.ht⟩
  · show World.ownsRow _ _ _ _ _ (p.rel ++ [a]).length _
    rw [hl, nums_snoc]
    exact ho.kept (row := some P) (only_set (World.grownBy.refl wy _) 3 _) (.inr (own_blk_ne ho hblk h.ht))
  · right
    intro e
    exact hap g (by rw [← e]; rfl) rfl
end

/-- What goes says. -/
def goesS (t : Int) (more : Bool) (mode : Int) : Int := if t = 1 then 3 else if mode = 2 ∧ more = true then 2 else 1
set_option maxHeartbeats 1000000 in
theorem goes_any (s : ByteArray) (t : Int) (more : Bool) (mode : Int) (w : World) : Calls Try.prog 19 #[.agg #[.string s, .int .i64 t], .bool more, .int .i64 mode] w fun e w' => e = .returned (.int .i64 (goesS t more mode)) ∧ Below w.heap.size w w' := by
  have hb := (Below.refl w.heap.size w).alloc (Nat.le_refl _) (.cells #[.string s, .int .i64 t] 47)
  by_cases h1 : t = 1
  · subst h1
    go_enter Try.func19, Try.ntmps19
    go_wp2
    go_ret
    exact ⟨rfl, hb⟩
  · have g1 := beq_no h1
    by_cases h2 : mode = 2
    · subst h2
      cases more
      · have H := Lib.hid (show goesS t false 2 = 1 by simp [goesS, h1])
        clear h1
        go_enter Try.func19, Try.ntmps19
        go_wp2
        go_ret
        exact ⟨by rw [H.out]; rfl, hb⟩
      · have H := Lib.hid (show goesS t true 2 = 2 by simp [goesS, h1])
        clear h1
        go_enter Try.func19, Try.ntmps19
        go_wp2
        go_ret
        exact ⟨by rw [H.out]; rfl, hb⟩
    · have g2 := beq_no h2
      have H := Lib.hid (show goesS t more mode = 1 by simp [goesS, h1, h2])
      clear h1 h2
      go_enter Try.func19, Try.ntmps19
      go_wp2
      go_ret
      exact ⟨by rw [H.out]; rfl, hb⟩

end Go.Proofs.Ytkiaaaehakjhjaa
