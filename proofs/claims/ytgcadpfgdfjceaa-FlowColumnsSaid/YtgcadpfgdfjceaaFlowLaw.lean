/-
  The plain law: the program's pen and the document's rows put boxes at the same places.
-/
import Derived.Test.YtgcadpfgdfjceaaFlowBoxes
import Derived.Test.YtgcadpfgdfjceaaFlowFlow
namespace Go.Proofs.Ytgcadpfgdfjceaa
open Go.RowKit

theorem putSt_len (kind width cols gap : Int) (zs : List (Int × Int)) : (putSt kind width cols gap zs).out.length = zs.length := by
  unfold putSt
  split
  · exact P14.penAt_len _ _ _ _
  · split
    · exact P14.penAt_len _ _ _ _
    · exact P14.penAt_len _ _ _ _

/-- The kind as the statement hands it to the document. -/
def kind2 (kind : Int) : Int := if kind = 0 ∨ kind = 1 then kind else 2

theorem flow_law (kind width cols gap : Int) (zs : List (Int × Int)) (b : Nat → Int × Int) (hb : b = rsize (kind2 kind) (P14.least width) zs) (fr : Nat → Int → Bool) (hfr : fr = rfresh (kind2 kind) (P14.least width) (max 1 (min cols 64)) b) :
    P14.placed (P14.least gap) b (P14.rowsAt (P14.least gap) b fr zs.length) (P14.rowsAt (P14.least gap) b fr zs.length).length = putSt kind width cols gap zs ∧
    P14.high (P14.least gap) b (P14.rowsAt (P14.least gap) b fr zs.length) (P14.rowsAt (P14.least gap) b fr zs.length).length = P1.add (putSt kind width cols gap zs).y (putSt kind width cols gap zs).h := by
  have key : ∃ nx, (∀ k x, fr k x = true ↔ (k = 0 ∨ nx k x (b k).1 = true)) ∧ putSt kind width cols gap zs = P14.penAt (P14.least gap) b nx zs.length := by
    by_cases h0 : kind = 0
    · refine ⟨nStack, fun k x => ?_, ?_⟩
      · rw [hfr]; simp [rfresh, kind2, h0, nStack]
      · have e : b = bStack zs := by rw [hb]; funext k; simp [rsize, kind2, h0, bStack]
        rw [putSt, if_pos h0, e]
    · by_cases h1 : kind = 1
      · refine ⟨nWrap (P14.least width), fun k x => ?_, ?_⟩
        · rw [hfr]; simp [rfresh, kind2, h1, nWrap]
        · have e : b = bWrap zs := by rw [hb]; funext k; simp [rsize, kind2, h1, bWrap]
          rw [putSt, if_neg h0, if_pos h1, e]
      · refine ⟨nGrid (max 1 (min cols 64)), fun k x => ?_, ?_⟩
        · rw [hfr]; simp [rfresh, kind2, h0, h1, nGrid]
        · have e : b = bGrid (P14.least width) zs := by rw [hb]; funext k; simp [rsize, kind2, h0, h1, bGrid]
          rw [putSt, if_neg h0, if_neg h1, e]
  obtain ⟨nx, hf, hp⟩ := key
  obtain ⟨_, hne, hpl⟩ := P14.same (g := P14.least gap) hf zs.length
  refine ⟨by rw [hpl, hp], ?_⟩
  rw [P14.high, hpl, hp]
  by_cases hz : zs.length = 0
  · rw [hz]; show (0 : Int) = P1.add 0 0; decide
  · have hl : (P14.rowsAt (P14.least gap) b fr zs.length).length ≠ 0 := fun h => hne (by omega) (List.eq_nil_of_length_eq_zero h)
    rw [if_neg hl]

end Go.Proofs.Ytgcadpfgdfjceaa
