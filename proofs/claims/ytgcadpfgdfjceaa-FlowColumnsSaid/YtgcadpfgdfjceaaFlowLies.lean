/-
  What lies in memory where small boxes have been put.
-/
import Derived.Test.YtgcadpfgdfjceaaFlowLay
import Derived.Test.YtgcadpfgdfjceaaFlowPuts
namespace Go.Proofs.Ytgcadpfgdfjceaa
open Go.RowKit

structure Lies (w wx : World) (kind W C g : Int) (A1 A2 : Option Addr) (c2 m s : Nat) (L : List (Int × Int)) (S : P14.St) : Prop where
  box : Blk wx w.heap.size 36 (boxCells kind W C g A2 m c2)
  whole : Blk wx s 39 #[.int .i64 S.W, .int .i64 (P1.add S.y S.h)]
  pts : Pairs wx wx.heap.size A1 m S.out
  szs : Pairs wx wx.heap.size A2 m L
  below : Below w.heap.size w wx

section
variable {w wx wy : World} {kind W C g : Int} {A1 A2 : Option Addr} {c2 m s : Nat} {L : List (Int × Int)} {S : P14.St}
theorem Lies.keep (r : Lies w wx kind W C g A1 A2 c2 m s L S) (hb : Below wx.heap.size wx wy) : Lies w wy kind W C g A1 A2 c2 m s L S :=
  ⟨r.box.below hb r.box.lt, r.whole.below hb r.whole.lt, (r.pts.below hb).more hb.size, (r.szs.below hb).more hb.size, r.below.trans (hb.mono r.below.size)⟩
theorem Lies.pt (r : Lies w wx kind W C g A1 A2 c2 m s L S) (i : Nat) (hi : i < m) : ∃ b off, A1 = some ⟨b, off, none⟩ ∧ wx.cell? ⟨b, off + i * 2, none⟩ = some (.int .i64 (at_ S.out i).1) ∧ wx.cell? ⟨b, off + i * 2 + 1, none⟩ = some (.int .i64 (at_ S.out i).2) := by
  obtain ⟨b, off, hA, _, h0, h1⟩ := r.pts.2 i hi
  exact ⟨b, off, hA, h0, h1⟩
theorem Lies.sz (r : Lies w wx kind W C g A1 A2 c2 m s L S) (i : Nat) (hi : i < m) : ∃ b off, A2 = some ⟨b, off, none⟩ ∧ wx.cell? ⟨b, off + i * 2, none⟩ = some (.int .i64 (at_ L i).1) ∧ wx.cell? ⟨b, off + i * 2 + 1, none⟩ = some (.int .i64 (at_ L i).2) := by
  obtain ⟨b, off, hA, _, h0, h1⟩ := r.szs.2 i hi
  exact ⟨b, off, hA, h0, h1⟩
end

/-- Behind small. -/
structure Smd (w wx : World) (kind W C g : Int) (A2 : Option Addr) (c2 m : Nat) (L : List (Int × Int)) : Prop where
  box : Blk wx w.heap.size 36 (boxCells kind W C g A2 m c2)
  own : wx.ownsRow w.heap.size 43 2 (.slice A2 m c2) m (flat2 L)
  len : L.length = m
  below : Below w.heap.size w wx

theorem Smd.stored {w w2 : World} {kind W C g kind1 W1 C1 g1 : Int} {A A2 : Option Addr} {n c c2 m : Nat} {L : List (Int × Int)} {base : Nat} (hx : Blk w2 w.heap.size 36 (boxCells kind W C g A n c)) (hb : Below w.heap.size w w2)
    (ho : w2.ownsRow base 43 2 (.slice A2 m c2) m (flat2 L)) (hB : w.heap.size ≤ base) (hl : L.length = m) :
    Smd w (((((w2.setCell ⟨w.heap.size, 0, none⟩ (.int .i64 kind1)).setCell ⟨w.heap.size, 1, none⟩ (.int .i64 W1)).setCell ⟨w.heap.size, 2, none⟩ (.int .i64 C1)).setCell ⟨w.heap.size, 3, none⟩ (.int .i64 g1)).setCell ⟨w.heap.size, 4, none⟩ (.slice A2 m c2)) kind1 W1 C1 g1 A2 c2 m L := by
  have g0 := only_set (only_set (only_set (only_set (only_set (World.grownBy.refl w2 (some w.heap.size)) 0 (.int .i64 kind1)) 1 (.int .i64 W1)) 2 (.int .i64 C1)) 3 (.int .i64 g1)) 4 (.slice A2 m c2)
  refine ⟨((((hx.set_ 0 (.int .i64 kind1)).set_ 1 (.int .i64 W1)).set_ 2 (.int .i64 C1)).set_ 3 (.int .i64 g1)).set_ 4 (.slice A2 m c2), ?_, hl, ?_⟩
  · exact own_base (ho.kept g0 (.inr (own_blk_ne ho hx (by decide)))) hB
  · exact ((((hb.setCell (p := ⟨w.heap.size, 0, none⟩) (Nat.le_refl _) (.int .i64 kind1)).setCell (p := ⟨w.heap.size, 1, none⟩) (Nat.le_refl _) (.int .i64 W1)).setCell (p := ⟨w.heap.size, 2, none⟩) (Nat.le_refl _) (.int .i64 C1)).setCell (p := ⟨w.heap.size, 3, none⟩) (Nat.le_refl _) (.int .i64 g1)).setCell (p := ⟨w.heap.size, 4, none⟩) (Nat.le_refl _) (.slice A2 m c2)

section
variable {w wx : World} {kind W C g : Int} {A2 : Option Addr} {c2 m : Nat} {L : List (Int × Int)}
theorem Smd.setKind (r : Smd w wx kind W C g A2 c2 m L) (k : Int) : Smd w (wx.setCell ⟨w.heap.size, 0, none⟩ (.int .i64 k)) k W C g A2 c2 m L :=
  ⟨r.box.set_ 0 _, r.own.kept (row := some w.heap.size) (only_set (World.grownBy.refl wx _) 0 _) (.inr (own_blk_ne r.own r.box (by decide))), r.len, r.below.setCell (p := ⟨w.heap.size, 0, none⟩) (Nat.le_refl _) _⟩
theorem Smd.setCols (r : Smd w wx kind W C g A2 c2 m L) (k : Int) : Smd w (wx.setCell ⟨w.heap.size, 2, none⟩ (.int .i64 k)) kind W k g A2 c2 m L :=
  ⟨r.box.set_ 2 _, r.own.kept (row := some w.heap.size) (only_set (World.grownBy.refl wx _) 2 _) (.inr (own_blk_ne r.own r.box (by decide))), r.len, r.below.setCell (p := ⟨w.heap.size, 2, none⟩) (Nat.le_refl _) _⟩
theorem Smd.cells (r : Smd w wx kind W C g A2 c2 m L) : wx.cell? ⟨w.heap.size, 0, none⟩ = some (.int .i64 kind) ∧ wx.cell? ⟨w.heap.size, 1, none⟩ = some (.int .i64 W) ∧ wx.cell? ⟨w.heap.size, 2, none⟩ = some (.int .i64 C) ∧ wx.cell? ⟨w.heap.size, 3, none⟩ = some (.int .i64 g) ∧ wx.cell? ⟨w.heap.size, 4, none⟩ = some (.slice A2 m c2) ∧ wx.frozen? ⟨w.heap.size, 0, none⟩ = false ∧ wx.frozen? ⟨w.heap.size, 2, none⟩ = false := by
  obtain ⟨h0, h1, h2, h3, h4⟩ := box_cells r.box
  exact ⟨h0, h1, h2, h3, h4, r.box.frozen 0, r.box.frozen 2⟩
theorem Smd.pairs (r : Smd w wx kind W C g A2 c2 m L) : Pairs wx wx.heap.size A2 m L := Pairs.of_own r.own r.len
theorem Lies.of {wy : World} {A1 : Option Addr} {c1 : Nat} {S : P14.St} (r : Smd w wx kind W C g A2 c2 m L) (hb : Below wx.heap.size wx wy) (ho : wy.ownsRow wx.heap.size 48 2 (.slice A1 m c1) m (flat2 S.out)) (hl : S.out.length = m) :
    Lies w (wy.alloc (.cells #[.int .i64 S.W, .int .i64 (P1.add S.y S.h)] 39)) kind W C g A1 A2 c2 m wy.heap.size L S := by
  have hba := hb.alloc hb.size (.cells #[.int .i64 S.W, .int .i64 (P1.add S.y S.h)] 39)
  exact ⟨r.box.below hba r.box.lt, Blk.new _ _ _, Pairs.of_own (ho.alloc _) hl, (r.pairs.below hba).more hba.size, r.below.trans (hba.mono r.below.size)⟩
end

end Go.Proofs.Ytgcadpfgdfjceaa
