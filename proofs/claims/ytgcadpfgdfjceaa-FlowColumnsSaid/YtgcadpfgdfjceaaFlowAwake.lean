/-
  The walk over the fixed fact of layer 14.
-/
import Derived.Test.YtgcadpfgdfjceaaFlowTop
namespace Go.Proofs.Ytgcadpfgdfjceaa
open Go.RowKit
attribute [local go_sem ↓] Go.wp_at_zero Go.wp_at_succ

theorem awake_st : (P14.penAt (P14.least 1) (bWrap [(4, 2), (5, 1), (3, 3)]) (nWrap (P14.least 10)) 3).out = [(0, 0), (5, 0), (0, 3)] ∧ (P14.penAt (P14.least 1) (bWrap [(4, 2), (5, 1), (3, 3)]) (nWrap (P14.least 10)) 3).W = 10 ∧
    P1.add (P14.penAt (P14.least 1) (bWrap [(4, 2), (5, 1), (3, 3)]) (nWrap (P14.least 10)) 3).y (P14.penAt (P14.least 1) (bWrap [(4, 2), (5, 1), (3, 3)]) (nWrap (P14.least 10)) 3).h = 6 := by decide

theorem pairs_three (w : World) (a b c d e f : Int) (t : TypeId) :
    Pairs (w.alloc (.cells #[.int .i64 a, .int .i64 b, .int .i64 c, .int .i64 d, .int .i64 e, .int .i64 f] t)) (w.alloc (.cells #[.int .i64 a, .int .i64 b, .int .i64 c, .int .i64 d, .int .i64 e, .int .i64 f] t)).heap.size (some ⟨w.heap.size, 0, none⟩) 3 [(a, b), (c, d), (e, f)] :=
  ⟨rfl, fun k hk => by
    refine ⟨_, _, rfl, by simp, ?_, ?_⟩ <;> rw [(Blk.new w t _).cell] <;>
    (match k, hk with
    | 0, _ => rfl
    | 1, _ => rfl
    | 2, _ => rfl)⟩

set_option maxHeartbeats 1000000 in
theorem flow_awake (w : World) : Calls Try.prog 29 #[] w fun e w' => e = .returned (.bool true) ∧ Below w.heap.size w w' := by
  go_enter Try.func29, Try.ntmps29
  go_wp2_with fail
  refine (wrap_any 10 1 _ 3 _ [(4, 2), (5, 1), (3, 3)] _ (pairs_three _ _ _ _ _ _ _ _) (by omega)).mono ?_
  rintro e w1 ⟨A, c, rfl, hown, hb⟩
  rw [awake_st.2.1, awake_st.2.2]
  rw [awake_st.1] at hown
  obtain ⟨g, cap, hv, hg1, hg2⟩ := hown.form (by omega)
  obtain ⟨rfl, rfl⟩ : A = some ⟨g, 0, none⟩ ∧ c = cap := by injection hv; exact ⟨by assumption, by assumption⟩
  have hc := hown.cells (g := g) rfl
  have c2 := hc 2 _ rfl
  have c3 := hc 3 _ rfl
  have c4 := hc 4 _ rfl
  have c5 := hc 5 _ rfl
  rw [Addr.add_lit] at c2 c3 c4 c5
  simp only [Nat.zero_add] at c2 c3 c4 c5
  have hb' := (((Below.refl _ _).alloc (Nat.le_refl _) _).trans (hb.mono (by simp))  : Below w.heap.size w w1)
  have hs := hb'.size
  clear hc hown hv hb
  go_wp2
  go_ret
  exact ⟨rfl, hb'.alloc hs _⟩

end Go.Proofs.Ytgcadpfgdfjceaa
