/-
  The walks over Backward at ints, and over its closure.
-/
import Derived.Test.YtgopokoghnfgiaaWovSa
namespace Go.Proofs.Ytgopokoghnfgiaa
open Go.RowKit Go.Shelf
attribute [local go_sem] Oper.semAt_some

set_option maxHeartbeats 1000000 in
theorem backward_any (A : Option Addr) (n c : Nat) (w : World) :
    Calls Try.prog 42 #[.slice A n c] w fun e w' => e = .returned (.func (.func 52) #[] #[.pointer (some ⟨w.heap.size, 0, none⟩)]) ∧ w' = w.alloc (.cells #[.slice A n c] 30) := by
  go_enter Try.func42, Try.ntmps42
  go_wp2
  go_ret
  exact ⟨rfl, rfl⟩

/-- What the k-th round of a range backward is handed. -/
def encB (tt : List Int) (N k : Nat) : Array Value := #[.int .i64 ((N - 1 - k : Nat) : Int), .int .i64 (tt.getD (N - 1 - k) 0)]

set_option maxRecDepth 100000 in
set_option maxHeartbeats 2000000 in
theorem back_in (m : Nat) (hm : 1 ≤ m) (l Bs N c : Nat) (A : Option Addr) (tt : List Int) (hN : N ≤ 1000) (J : Nat → World → Prop) (W : World)
    (hX : ∀ k W, J k W → W.cell? ⟨Bs, 0, none⟩ = some (.slice A N c) ∧ Nums W W.heap.size A N tt)
    (hY : ∀ k W1, k < N → J k W1 → YieldAt Fence.wide (m - 1) Try.prog l (encB tt N k) W1 fun e W' => e = .returned (.bool true) ∧ J (k + 1) W') (h0 : J 0 W) :
    CallsIn Fence.wide m Try.prog 52 #[.func (.yield l) #[] #[], .pointer (some ⟨Bs, 0, none⟩)] W fun e W' => (∃ v, e = .returned v) ∧ J N W' := by
  have hc0 := (hX 0 W h0).1
  refine callsIn_of_wp Try.func52 rfl trivial ?_ rfl
  simp only [Try.ntmps52, List.size_toArray, List.length_cons, List.length_nil, Nat.reduceAdd, Nat.reduceSub, Array.replicate_succ, Array.replicate_zero, List.push_toArray, List.append_toArray, List.nil_append, List.cons_append]
  gi_wp2
  gi_loopw [3] (fun i wr => ∃ k : Nat, k ≤ N ∧ i = .int .i64 ((N : Int) - 1 - (k : Int)) ∧ J k wr) (fun i _ => (intOf i + 1).toNat)
  case atStart => exact ⟨0, Nat.zero_le _, by first | rfl | simp, h0⟩
  case round =>
    obtain ⟨k, hk, rfl, hJs⟩ := hrel
    have hcx := (hX k _ hJs).1
    by_cases hlt : k < N
    · obtain ⟨q, hq⟩ : ∃ q, q = N - 1 - k := ⟨_, rfl⟩
      have hqI : (N : Int) - 1 - (k : Int) = (q : Int) := by omega
      obtain ⟨b, off, hA, hbB, d0⟩ := (hX k _ hJs).2.2 q (by omega)
      subst hA
      obtain ⟨fn, tmps, assign, body, hy, hR⟩ := hY k wr hlt hJs
      rw [encB, ← hq] at hy
      rw [hqI]
      obtain ⟨x, hx⟩ : ∃ x, x = tt.getD q 0 := ⟨_, rfl⟩
      rw [← hx] at d0 hy
      have j1 : (0 : Int) ≤ (q : Int) := by omega
      have j2 : (q : Int) < (N : Int) := by omega
      have HQ := Lib.hid (And.intro hq hqI)
      clear hq hqI hx
      gi_wp2
      refine hR.mono ?_
      rintro e W3 ⟨rfl, hJ3⟩
      gi_wp2
      go_roundw
      case rel => exact ⟨k + 1, by omega, by have h2 := HQ.out.2; rw [show (q : Int) - 1 = (N : Int) - 1 - ((k + 1 : Nat) : Int) by omega], hJ3⟩
      case measure => simp only [intOf]; omega
    · obtain rfl : k = N := by omega
      have hn : (k : Int) - 1 - (k : Int) = -1 := by omega
      rw [hn]
      gi_wp2
      go_end0
      exact ⟨⟨_, rfl⟩, hJs⟩

end Go.Proofs.Ytgopokoghnfgiaa
