/-
  The walk over Reverse at ints.
-/
import Derived.Test.YtgopokoghnfgiaaWovLis
namespace Go.Proofs.Ytgopokoghnfgiaa
open Go.RowKit
attribute [local go_sem ↓] Go.wp_at_zero Go.wp_at_succ

/-- In the midst of turning a row around: i at either end are turned. -/
structure Rev (l ys : List Int) (i : Nat) : Prop where
  len : ys.length = l.length
  at_ : ∀ p, p < l.length → ys.getD p 0 = if p < i ∨ l.length - 1 - p < i then l.getD (l.length - 1 - p) 0 else l.getD p 0
theorem Rev.zero (l : List Int) : Rev l l 0 := ⟨rfl, fun p _ => by rw [if_neg (by omega)]⟩
theorem getI_set {E : List Int} {r i : Nat} {k : Int} (h : r < E.length) : (E.set r k).getD i 0 = if i = r then k else E.getD i 0 := by
  by_cases e : i = r
  · subst e; simp [List.getD, h]
  · rw [if_neg e]
    have e' : r ≠ i := fun h => e h.symm
    simp [List.getD, e']
theorem Rev.step {l ys : List Int} {i j : Nat} (h : Rev l ys i) (hj : j = l.length - 1 - i) (hij : i < j) : Rev l ((ys.set i (l.getD j 0)).set j (l.getD i 0)) (i + 1) := by
  have hl := h.len
  refine ⟨by simp [hl], fun p hp => ?_⟩
  rw [getI_set (by simp; omega), getI_set (by omega), h.at_ p hp]
  by_cases e1 : p = j
  · rw [if_pos e1, if_pos (by omega), show l.length - 1 - p = i by omega]
  · rw [if_neg e1]
    by_cases e2 : p = i
    · rw [if_pos e2, if_pos (by omega), show l.length - 1 - p = j by omega]
    · rw [if_neg e2]
      by_cases e3 : p < i ∨ l.length - 1 - p < i
      · rw [if_pos e3, if_pos (by omega)]
      · rw [if_neg e3, if_neg (by omega)]
theorem Rev.same {l ys : List Int} {i j p : Nat} (h : Rev l ys i) (hj : j = l.length - 1 - i) (hij : i < j) (hp : p = i ∨ p = j) : ys.getD p 0 = l.getD p 0 := by
  rw [h.at_ p (by omega), if_neg (by omega)]
theorem Rev.fin {l ys : List Int} {i : Nat} (h : Rev l ys i) (hi : l.length ≤ 2 * i + 1) : ys = l.reverse := by
  apply List.ext_getElem
  · rw [h.len, List.length_reverse]
  · intro p h1 h2
    have hp : p < l.length := by rw [← h.len]; exact h1
    have := h.at_ p hp
    rw [List.getElem_reverse]
    have e1 : ys.getD p 0 = ys[p] := by simp [List.getD, h1]
    have e2 : l.getD (l.length - 1 - p) 0 = l[l.length - 1 - p]'(by omega) := by simp [List.getD, show l.length - 1 - p < l.length by omega]
    rw [← e1, ← e2, this]
    by_cases e3 : p < i ∨ l.length - 1 - p < i
    · rw [if_pos e3]
    · rw [if_neg e3]
      have : p = l.length - 1 - p := by omega
      rw [← this]

set_option maxRecDepth 100000 in
set_option maxHeartbeats 8000000 in
theorem reverse_any (v : Value) (base n : Nat) (l : List Int) (w : World) (h : w.ownsRow base 3 1 v n (nums l)) (hln : l.length = n) (hn : n ≤ 1000) :
    Calls Try.prog 59 #[v] w fun e w' => e = .returned (.tuple #[]) ∧ w'.ownsRow base 3 1 v n (nums l.reverse) ∧ w.grownBy w' v.ownBlock := by
  obtain ⟨A, c, rfl⟩ := own_form h
  have HO := Lib.hid h
  have HL := Lib.hid hln
  clear h hln
  go_enter Try.func59, Try.ntmps59
  go_wp2_with fail
  go_loopw [2, 3] (fun vi vj wx => ∃ (i : Nat) (ys : List Int), vi = .int .i64 i ∧ vj = .int .i64 ((n : Int) - 1 - (i : Int)) ∧ i ≤ n ∧ Hid (Rev l ys i) ∧ wx.ownsRow base 3 1 (.slice A n c) n (nums ys) ∧ w.grownBy wx (Value.slice A n c).ownBlock) (fun i _ _ => n - (intOf i).toNat)
  case atStart => exact ⟨0, l, rfl, by first | rfl | go_num | simp, Nat.zero_le _, Rev.zero l, HO.out, World.grownBy.refl _ _⟩
  case round =>
    obtain ⟨i, ys, rfl, rfl, hin, hR, hown, hg⟩ := hrel
    by_cases hlt : i < n - 1 - i
    · obtain ⟨j, hj⟩ : ∃ j, j = n - 1 - i := ⟨_, rfl⟩
      have hjI : (n : Int) - 1 - (i : Int) = (j : Int) := by omega
      rw [hjI]
      rw [← hj] at hlt
      have hyl := hR.out.len.trans HL.out
      obtain ⟨g, cap, hv, hbg, hgl⟩ := hown.form (by omega)
      injection hv with hA1 hA2 hA3
      subst hA1 hA3
      clear hA2
      have hs1 := hR.out.same (p := i) (by rw [HL.out]; exact hj) hlt (.inl rfl)
      have hs2 := hR.out.same (p := j) (by rw [HL.out]; exact hj) hlt (.inr rfl)
      have HN := Lib.hid (hR.out.step (by rw [HL.out]; exact hj) hlt)
      obtain ⟨x, hx⟩ : ∃ x, x = l.getD i 0 := ⟨_, rfl⟩
      obtain ⟨y, hy⟩ : ∃ y, y = l.getD j 0 := ⟨_, rfl⟩
      rw [← hx] at hs1 HN
      rw [← hy] at hs2 HN
      have d0 : wr.cell? ⟨g, i, none⟩ = some (.int .i64 x) := by
        rw [hown.cellAt i (by omega), ← hs1]; simp [nums, List.getD, show i < ys.length by omega]
      have d1 : wr.cell? ⟨g, j, none⟩ = some (.int .i64 y) := by
        rw [hown.cellAt j (by omega), ← hs2]; simp [nums, List.getD, show j < ys.length by omega]
      have f0 := hown.frozenAt i
      have f1 := hown.frozenAt j
      have i1 : (0 : Int) ≤ (i : Int) := by omega
      have i2 : (i : Int) < (n : Int) := by omega
      have i3 : (0 : Int) ≤ (j : Int) := by omega
      have i4 : (j : Int) < (n : Int) := by omega
      have hji : (i : Int) < (j : Int) := by omega
      have st1 := hown.stored i (.int .i64 y)
      have st2 := st1.1.stored j (.int .i64 x)
      have HX := Lib.hid (And.intro st2.1 (only_trans hg (only_trans st1.2 st2.2)))
      have HJ := Lib.hid hj
      clear hx hy hs1 hs2 hown hg hj hjI st1 st2 hyl
      go_upto_region 3 with fail
      go_region
      go_wp2_with fail
      go_roundw
      case rel =>
        have h1 := HJ.out
        have h2 : (j : Int) - 1 = (n : Int) - 1 - ((i + 1 : Nat) : Int) := by omega
        refine ⟨i + 1, (ys.set i y).set j x, by go_num, by rw [h2], by omega, HN.out, ?_, ?_⟩
        · rw [nums_set, nums_set]; exact HX.out.1
        · first | exact HX.out.2 | exact only_drew HX.out.2
      case measure => simp [intOf]; omega
    · have hd : decide ((i : Int) < (n : Int) - 1 - (i : Int)) = false := by simp; omega
      have HF := Lib.hid (hR.out.fin (by rw [HL.out]; omega))
      have HX := Lib.hid (And.intro hown hg)
      clear hown hg
      go_wp2
      go_end0
      exact ⟨rfl, by rw [← HF.out]; exact HX.out.1, HX.out.2⟩

end Go.Proofs.Ytgopokoghnfgiaa
