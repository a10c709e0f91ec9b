/-
  The walk over Numbers: are lists?
-/
import Derived.Test.YtgopokoghnfgiaaLists
import Derived.Deep.QuietTactic
import Derived.BigQuiet
import Derived.Deep.DrawnRows
namespace Go.Proofs.Ytgopokoghnfgiaa
open Go.RowKit
attribute [local go_sem ↓] Go.wp_at_zero Go.wp_at_succ

theorem Drew.more {w w' : World} (h : Drew w w') (n : Nat) : Drew w (w'.drewN n) := by
  obtain ⟨m, rfl⟩ := h
  exact ⟨m + n, by simp⟩
theorem list_eq_of {l m : List Int} (h : l.length = m.length) (hk : ∀ k, k < l.length → l.getD k 0 = m.getD k 0) : l = m := by
  refine List.ext_getElem h fun i h1 h2 => ?_
  have := hk i h1
  simpa [List.getD, h1, h2] using this

set_option maxHeartbeats 2000000 in
theorem numbers_any (A A' : Option Addr) (n n' c c' : Nat) (l l' : List Int) (w : World) (B B' : Nat) (hl : Nums w B A n l) (hl' : Nums w B' A' n' l') (hm : n ≤ maxLen) (hm' : n' ≤ maxLen) :
    Calls Try.prog 12 #[.slice A n c, .slice A' n' c'] w fun e w' => e = .returned (.bool (decide (l = l'))) ∧ Drew w w' := by
  unfold maxLen at hm hm'
  by_cases hn : n = n'
  · subst hn
    have HL := Lib.hid (And.intro hl hl')
    clear hl hl'
    go_enter Try.func12, Try.ntmps12
    go_wp2_with fail
    go_loopw [13] (fun i wr => ∃ k : Nat, k ≤ n ∧ i = .int .i64 k ∧ Hid (∀ j, j < k → l.getD j 0 = l'.getD j 0) ∧ Drew w wr) (fun i _ => n - (intOf i).toNat)
    case atStart => exact ⟨0, Nat.zero_le _, rfl, fun j hj => by omega, Drew.refl _⟩
    case round =>
      obtain ⟨k, hk, rfl, hH, nd, rfl⟩ := hrel
      by_cases hlt : k < n
      · obtain ⟨b1, o1, rfl, _, e0⟩ := HL.out.1.2 k hlt
        obtain ⟨b2, o2, rfl, _, e1⟩ := HL.out.2.2 k hlt
        obtain ⟨x, hx⟩ : ∃ x, x = l.getD k 0 := ⟨_, rfl⟩
        obtain ⟨y, hy⟩ : ∃ y, y = l'.getD k 0 := ⟨_, rfl⟩
        rw [← hx] at e0
        rw [← hy] at e1
        have HX := Lib.hid (And.intro hx hy)
        clear hx hy
        have i1 : (0 : Int) ≤ (k : Int) := by omega
        have i2 : (k : Int) < (n : Int) := by omega
        by_cases hxy : x = y
        · subst hxy
          go_wp2
          go_quiet (fail)
          go_wp2
          go_roundw
          case rel => exact ⟨k + 1, by omega, by go_num, fun j hj => by
            by_cases h : j = k
            · rw [h, ← HX.out.1, ← HX.out.2]
            · exact hH.out j (by omega), _, rfl⟩
          case measure => simp [intOf]; omega
        · have HN := Lib.hid (show decide (l = l') = false by
            rw [decide_eq_false_iff_not]
            intro h
            exact hxy (by rw [HX.out.1, HX.out.2, h]))
          have hd : (x == y) = false := by simpa using hxy
          clear hxy
          go_wp2
          go_quiet (fail)
          go_wp2
          go_ret
          exact ⟨by rw [HN.out]; rfl, Drew.more ⟨_, rfl⟩ _⟩
      · have HN := Lib.hid (show decide (l = l') = true by
          rw [decide_eq_true_iff]
          exact list_eq_of (by rw [HL.out.1.1, HL.out.2.1]) (fun j hj => hH.out j (by have := HL.out.1.1; omega)))
        go_wp2
        go_ret
        exact ⟨by rw [HN.out]; rfl, _, rfl⟩
  · have HN := Lib.hid (show decide (l = l') = false by
      rw [decide_eq_false_iff_not]
      intro h
      exact hn (by rw [← hl.1, ← hl'.1, h]))
    have hd : ((n : Int) == (n' : Int)) = false := by simp; omega
    clear hn hl hl'
    go_enter Try.func12, Try.ntmps12
    go_wp2
    go_ret
    exact ⟨by rw [HN.out]; rfl, Drew.refl _⟩

end Go.Proofs.Ytgopokoghnfgiaa
