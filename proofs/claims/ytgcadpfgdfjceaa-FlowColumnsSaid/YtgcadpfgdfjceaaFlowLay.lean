/-
  The plain law of layer 14's last three: what small boxes come to.
-/
import Derived.Test.YtgcadpfgdfjceaaFlowLayPlain
import Derived.Test.YtgcadpfgdfjceaaFlowSmall
import Derived.Test.YtgcadpfgdfjceaaFlowLaw
namespace Go.Proofs.Ytgcadpfgdfjceaa
open Go.RowKit

/-- The i-th point, the i-th size. -/
def at_ (l : List (Int × Int)) (i : Nat) : Int × Int := l.getD i (0, 0)

theorem mask_len (zs : List (Int × Int)) : (mask zs).length ≤ 20 := by simp [mask]; omega
theorem mask_bd (zs : List (Int × Int)) (k : Nat) : 0 ≤ (at_ (mask zs) k).1 ∧ (at_ (mask zs) k).1 ≤ 1023 ∧ 0 ≤ (at_ (mask zs) k).2 ∧ (at_ (mask zs) k).2 ≤ 1023 := by
  unfold at_
  by_cases h : k < (mask zs).length
  · have hm : (mask zs).getD k (0, 0) ∈ mask zs := by
      simp only [List.getD, List.getElem?_eq_getElem h, Option.getD_some]
      exact List.getElem_mem h
    generalize (mask zs).getD k (0, 0) = p at *
    rw [mask] at hm
    obtain ⟨q, _, rfl⟩ := List.mem_map.1 hm
    dsimp only
    omega
  · simp [List.getD, List.getElem?_eq_none (Nat.le_of_not_lt h)]
theorem mask_40 (zs : List (Int × Int)) : (mask zs).take 40 = mask zs := List.take_of_length_le (by have := mask_len zs; omega)

theorem small_row (g : Int) (h0 : 0 ≤ g) (h1 : g ≤ 15) (zs : List (Int × Int)) : P14.Small g (bStack (mask zs)) := by
  have h := mask_bd zs
  unfold at_ at h
  refine ⟨h0, h1, fun k => ?_, fun k => ?_, fun k => ?_, fun k => ?_⟩ <;> obtain ⟨a, b, c, d⟩ := h k <;> simp only [bStack]
  · rw [P14.least_small a (by omega)]; exact a
  · rw [P14.least_small a (by omega)]; omega
  · rw [P14.least_small c (by omega)]; exact c
  · rw [P14.least_small c (by omega)]; omega
theorem small_grid (g W : Int) (h0 : 0 ≤ g) (h1 : g ≤ 15) (hW : 0 ≤ W) (hW1 : W ≤ 2047) (zs : List (Int × Int)) : P14.Small g (bGrid W (mask zs)) := by
  have h := mask_bd zs
  unfold at_ at h
  refine ⟨h0, h1, fun k => hW, fun k => hW1, fun k => ?_, fun k => ?_⟩ <;> obtain ⟨a, b, c, d⟩ := h k <;> simp only [bGrid]
  · rw [P14.least_small c (by omega)]; exact c
  · rw [P14.least_small c (by omega)]; omega
theorem b_row (zs : List (Int × Int)) (k : Nat) : bStack (mask zs) k = at_ (mask zs) k := by
  obtain ⟨a, b, c, d⟩ := mask_bd zs k
  unfold at_ at a b c d ⊢
  rw [bStack, P14.least_small a (by omega), P14.least_small c (by omega)]

section
variable {g : Int} {b : Nat → Int × Int} {nx : Nat → Int → Int → Bool}
theorem at_bounds (hs : P14.Small g b) (k : Nat) (hk : k ≤ 20) : 0 ≤ (P14.atBox g b nx k).x ∧ (P14.atBox g b nx k).x ≤ 45000 ∧ 0 ≤ (P14.atBox g b nx k).y ∧ (P14.atBox g b nx k).y ≤ 45000 := by
  obtain ⟨a1, a2, a3, a4, _⟩ := P14.bd_at (nx := nx) hs hk (P14.bd hs k hk)
  omega
end

/-- Stacks and rows: where the boxes lie. -/
theorem apart_law (kind W C g : Int) (zs : List (Int × Int)) (hk : kind = 0 ∨ kind = 1) (h0 : 0 ≤ g) (h1 : g ≤ 15) (S : P14.St) (hS : S = putSt kind W C g (mask zs)) (H : Int) (hH : H = P1.add S.y S.h) :
    S.W ≤ 45000 ∧ H ≤ 45000 ∧ ∀ i, i < (mask zs).length → 0 ≤ (at_ S.out i).1 ∧ 0 ≤ (at_ S.out i).2 ∧ (at_ S.out i).1 + (at_ (mask zs) i).1 ≤ S.W ∧ (at_ S.out i).2 + (at_ (mask zs) i).2 ≤ H ∧
      ∀ j, j < i → (at_ S.out j).1 + (at_ (mask zs) j).1 ≤ (at_ S.out i).1 ∨ (at_ S.out j).2 + (at_ (mask zs) j).2 ≤ (at_ S.out i).2 := by
  obtain ⟨nx, hP⟩ : ∃ nx, S = P14.penAt g (bStack (mask zs)) nx (mask zs).length := by
    rcases hk with rfl | rfl
    · exact ⟨nStack, by rw [hS, putSt, if_pos rfl, P14.least_small h0 (by omega)]⟩
    · exact ⟨nWrap (P14.least W), by rw [hS, putSt, if_neg (by omega), if_pos rfl, P14.least_small h0 (by omega)]; rfl⟩
  have hs := small_row g h0 h1 zs
  have hl := mask_len zs
  have hB := P14.bd (nx := nx) hs _ hl
  rw [← hP] at hB
  have e1 := hB.y0; have e2 := hB.y1; have e3 := hB.h0; have e4 := hB.h1; have e5 := hB.W1
  have hH' : H = S.y + S.h := by rw [hH, P14.add_small (by omega) (by omega) (by omega) (by omega)]
  refine ⟨by omega, by omega, fun i hi => ?_⟩
  obtain ⟨b0, b1, b2, b3⟩ := at_bounds (nx := nx) hs i (by omega)
  obtain ⟨w1, w2⟩ := P14.within (nx := nx) hs _ i hl hi
  rw [← hP] at w1 w2
  have ho : ∀ j, j < (mask zs).length → at_ S.out j = ((P14.atBox g (bStack (mask zs)) nx j).x, (P14.atBox g (bStack (mask zs)) nx j).y) := fun j hj => by
    rw [hP]; exact P14.out_at g _ nx _ j hj
  rw [b_row] at w1 w2
  refine ⟨by rw [ho i hi]; exact b0, by rw [ho i hi]; exact b2, by rw [ho i hi]; exact w1, by rw [ho i hi, hH']; exact w2, fun j hj => ?_⟩
  have h := P14.apart (nx := nx) hs i (by omega) j hj
  rw [b_row] at h
  rw [ho i hi, ho j (by omega)]
  exact h

theorem fits_law (W C g : Int) (zs : List (Int × Int)) (h0 : 0 ≤ g) (h1 : g ≤ 15) (hW0 : 0 ≤ W) (hW1 : W ≤ 2047) (S : P14.St) (hS : S = putSt 1 W C g (mask zs)) :
    ∀ i, i < (mask zs).length → 0 ≤ (at_ S.out i).1 ∧ (at_ S.out i).1 ≤ 45000 ∧ (0 < (at_ S.out i).1 → (at_ S.out i).1 + (at_ (mask zs) i).1 ≤ W) ∧
      (∀ j, i = j + 1 → (at_ S.out j).2 < (at_ S.out i).2 → W < (at_ S.out j).1 + (at_ (mask zs) j).1 + g + (at_ (mask zs) i).1) := by
  have hP : S = P14.penAt g (bStack (mask zs)) (nWrap W) (mask zs).length := by
    rw [hS, putSt, if_neg (by omega), if_pos rfl, P14.least_small h0 (by omega), P14.least_small hW0 (by omega)]; rfl
  have hs := small_row g h0 h1 zs
  have hl := mask_len zs
  intro i hi
  obtain ⟨b0, b1, b2, b3⟩ := at_bounds (nx := nWrap W) hs i (by omega)
  have ho : ∀ j, j < (mask zs).length → at_ S.out j = ((P14.atBox g (bStack (mask zs)) (nWrap W) j).x, (P14.atBox g (bStack (mask zs)) (nWrap W) j).y) := fun j hj => by
    rw [hP]; exact P14.out_at g _ _ _ j hj
  obtain ⟨f1, f2⟩ := P14.fits W hs (nx := nWrap W) (fun k x n => rfl) i (by omega)
  rw [b_row] at f1
  refine ⟨by rw [ho i hi]; exact b0, by rw [ho i hi]; exact b1, by rw [ho i hi]; exact f1, fun j hj h => ?_⟩
  rw [ho i hi, ho j (by omega)] at h
  have := f2 j hj h
  rw [b_row, b_row] at this
  rw [ho j (by omega)]
  exact this

theorem columns_law (W g : Int) (C : Nat) (zs : List (Int × Int)) (h0 : 0 ≤ g) (h1 : g ≤ 15) (hW0 : 0 ≤ W) (hW : W ≤ 2047) (hC : 0 < C) (hC8 : C ≤ 8) (S : P14.St) (hS : S = putSt 2 W C g (mask zs)) :
    ∀ i, i < (mask zs).length → (at_ S.out i).1 = ((i % C : Nat) : Int) * (W + g) ∧ 0 ≤ (at_ S.out i).2 ∧ (at_ S.out i).2 ≤ 45000 ∧
      (∀ j, i = j + C → (at_ S.out j).2 + (at_ (mask zs) j).2 ≤ (at_ S.out i).2) ∧ (∀ j, i = j + 1 → 0 < i % C → (at_ S.out i).2 = (at_ S.out j).2) := by
  have hP : S = P14.penAt g (bGrid W (mask zs)) (nGrid C) (mask zs).length := by
    rw [hS, putSt, if_neg (by omega), if_neg (by omega), P14.least_small h0 (by omega), P14.least_small hW0 (by omega), show max (1 : Int) (min (C : Int) 64) = C by omega]
  have hs := small_grid g W h0 h1 hW0 hW zs
  have hl := mask_len zs
  have hn : ∀ (k : Nat) (x n : Int), nGrid C k x n = decide (k % C = 0) := fun k x n => by
    rw [nGrid, Bool.eq_iff_iff]
    simp only [beq_iff_eq, decide_eq_true_eq]
    omega
  have hb2 : ∀ k, (bGrid W (mask zs) k).2 = (at_ (mask zs) k).2 := fun k => by
    rw [← b_row]; rfl
  intro i hi
  obtain ⟨b0, b1, b2, b3⟩ := at_bounds (nx := nGrid C) hs i (by omega)
  have ho : ∀ j, j < (mask zs).length → at_ S.out j = ((P14.atBox g (bGrid W (mask zs)) (nGrid C) j).x, (P14.atBox g (bGrid W (mask zs)) (nGrid C) j).y) := fun j hj => by
    rw [hP]; exact P14.out_at g _ _ _ j hj
  have hx := P14.column_x W C hC hs (fun _ => rfl) hn i (by omega)
  obtain ⟨f1, f2⟩ := P14.column_y C hC hs hn i (by omega)
  refine ⟨by rw [ho i hi]; exact hx, by rw [ho i hi]; exact b2, by rw [ho i hi]; exact b3, fun j hj => ?_, fun j hj h => ?_⟩
  · have := f1 j hj
    rw [hb2] at this
    rw [ho i hi, ho j (by omega)]
    exact this
  · rw [ho i hi, ho j (by omega)]
    exact f2 j hj h

end Go.Proofs.Ytgcadpfgdfjceaa
