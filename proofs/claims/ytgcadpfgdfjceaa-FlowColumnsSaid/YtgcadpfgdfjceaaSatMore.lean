/-
  The walks over package sat, third part: the document's quotient, sums of many, the fixed facts.
-/
import Derived.Test.YtgcadpfgdfjceaaSatDivs
namespace Go.Proofs.Ytgcadpfgdfjceaa
open Go.RowKit

set_option maxHeartbeats 1000000 in
theorem rdiv_nz (a b : Int) (w : World) (hb : b ≠ 0) :
    Calls Try.prog 13 #[.int .i64 a, .int .i64 b] w fun e w' => e = .returned (.tuple #[.int .i64 (P1.div a b), .int .i64 (P1.mod a b)]) ∧ w = w' := by
  have hs : P1.sat b ≠ 0 := fun h => hb (P1.sat_zero.1 h)
  have hs' : (P1.sat b == 0) = false := by simpa using hs
  have e1 : P1.div a b = P1.sat (P1.fq (P1.sat a) (P1.sat b)) ∧ P1.mod a b = P1.fr (P1.sat a) (P1.sat b) := by unfold P1.div P1.mod; rw [if_neg hb, if_neg hb]; exact ⟨rfl, rfl⟩
  have H := Lib.hid e1
  clear e1
  have x1 := P1.sat_lo a
  have x2 := P1.sat_hi a
  have y1 := P1.sat_lo b
  have y2 := P1.sat_hi b
  have q1 := P1.tdiv_bd (b := P1.sat b) x1 x2
  have r1 := P1.tmod_bd (a := P1.sat a) hs
  have s1 := P1.tmod_sign (a := P1.sat a) (b := P1.sat b)
  have t1 := P1.tdiv_eq (P1.sat a) (P1.sat b)
  have m0 : IntKind.i64.wrap ((P1.sat a).tdiv (P1.sat b)) = (P1.sat a).tdiv (P1.sat b) := IntWalk.i64_in _ (by omega)
  have m1 : ∀ q, (q - 1) * P1.sat b = q * P1.sat b - P1.sat b := fun q => by rw [Int.sub_mul, Int.one_mul]
  have HH := Lib.hid (And.intro r1 (And.intro s1 (And.intro t1 m1)))
  clear r1 s1 t1 m1
  go_enter Try.func13, Try.ntmps13
  go_wp2_with (first | (go_at_call 17; ((with_reducible refine (sat_any _ _).mono ?_); rintro e w' ⟨rfl, rfl⟩)) | (go_at_call 18; ((with_reducible refine (rsat_any _ _).mono ?_); rintro e w' ⟨rfl, rfl⟩)) | (go_at_call 19; ((with_reducible refine (add_any _ _ _).mono ?_); rintro e w' ⟨rfl, rfl⟩)) | (go_at_call 20; ((with_reducible refine (radd_any _ _ _).mono ?_); rintro e w' ⟨rfl, rfl⟩)) | (go_at_call 16; ((with_reducible refine (clip_any _ _ _ _).mono ?_); rintro e w' ⟨rfl, rfl⟩)))
  go_loop [8] (fun q => ∃ Q : Int, q = .int .i64 Q ∧ (Q = (P1.sat a).tdiv (P1.sat b) ∨ (P1.cut (P1.sat a) (P1.sat b) ∧ Q = P1.fq (P1.sat a) (P1.sat b)))) (fun q => (intOf q - P1.fq (P1.sat a) (P1.sat b)).toNat)
  case atStart => exact ⟨_, rfl, .inl rfl⟩
  case round =>
    obtain ⟨Q, rfl, hQ⟩ := hrel
    clear m0
    generalize hX : P1.sat a = x at *
    generalize hY : P1.sat b = y at *
    clear hX hY
    obtain ⟨r1, s1, t1, m1⟩ := HH.out
    by_cases hgo : P1.cut x y ∧ Q = x.tdiv y
    · obtain ⟨hc, hq⟩ := hgo
      have hd : P1.fq x y = x.tdiv y - 1 := by rw [P1.fq, if_pos hc]
      have hc' := hc
      unfold P1.cut at hc'
      rw [← hq] at t1
      have b1 : -9223372036854775808 ≤ Q * y := by omega
      have b2 : Q * y ≤ 9223372036854775807 := by omega
      have b3 : -2147483648 ≤ Q := by omega
      have b4 : Q ≤ 2147483648 := by omega
      have G : Hid (P1.cut x y ∧ Q - 1 = P1.fq x y) := ⟨hc, by omega⟩
      by_cases hy : 0 < y
      · have d1 : x < Q * y := by omega
        clear hQ t1 m1 hd hc' hq hc r1 s1 HH q1 H
        go_wp2
        go_round
        case rel => exact ⟨Q - 1, rfl, .inr G.out⟩
        case measure => have := G.out.2; simp [intOf]; omega
      · have d1 : Q * y < x := by omega
        have d2 : y < 0 := by omega
        clear hQ t1 m1 hd hc' hq hc r1 s1 HH q1 H
        go_wp2
        go_round
        case rel => exact ⟨Q - 1, rfl, .inr G.out⟩
        case measure => have := G.out.2; simp [intOf]; omega
    · have hq : Q = P1.fq x y := by
        rcases hQ with h | ⟨_, h⟩
        · rw [P1.fq, if_neg (fun hc => hgo ⟨hc, h⟩)]; exact h
        · exact h
      have hE : (P1.cut x y ∧ Q * y = x - x.tmod y - y) ∨ (¬ P1.cut x y ∧ Q * y = x - x.tmod y) := by
        by_cases hc : P1.cut x y
        · refine .inl ⟨hc, ?_⟩
          rw [hq, P1.fq, if_pos hc, m1, t1]
        · refine .inr ⟨hc, ?_⟩
          rw [hq, P1.fq, if_neg hc, t1]
      have b1 : -9223372036854775808 ≤ Q * y := by rcases hE with ⟨_, h⟩ | ⟨_, h⟩ <;> omega
      have b2 : Q * y ≤ 9223372036854775807 := by rcases hE with ⟨_, h⟩ | ⟨_, h⟩ <;> omega
      have b5 : -9223372036854775808 ≤ x - Q * y := by rcases hE with ⟨_, h⟩ | ⟨_, h⟩ <;> omega
      have b6 : x - Q * y ≤ 9223372036854775807 := by rcases hE with ⟨_, h⟩ | ⟨_, h⟩ <;> omega
      have G : Hid (Q = P1.fq x y ∧ x - Q * y = P1.fr x y) := by
        refine ⟨hq, ?_⟩
        rcases hE with ⟨hc, h⟩ | ⟨hc, h⟩
        · rw [P1.fr, if_pos hc]; omega
        · rw [P1.fr, if_neg hc]; omega
      by_cases hy : 0 < y
      · have d1 : Q * y ≤ x := by
          rcases hE with ⟨hc, h⟩ | ⟨hc, h⟩ <;> unfold P1.cut at hc <;> omega
        clear hQ t1 m1 hE hq hgo r1 s1 HH q1
        go_wp2_with (first | (go_at_call 17; ((with_reducible refine (sat_any _ _).mono ?_); rintro e w' ⟨rfl, rfl⟩)) | (go_at_call 18; ((with_reducible refine (rsat_any _ _).mono ?_); rintro e w' ⟨rfl, rfl⟩)) | (go_at_call 19; ((with_reducible refine (add_any _ _ _).mono ?_); rintro e w' ⟨rfl, rfl⟩)) | (go_at_call 20; ((with_reducible refine (radd_any _ _ _).mono ?_); rintro e w' ⟨rfl, rfl⟩)) | (go_at_call 16; ((with_reducible refine (clip_any _ _ _ _).mono ?_); rintro e w' ⟨rfl, rfl⟩)))
        all_goals (go_ret2; exact ⟨ret_two (by rw [H.out.1, G.out.1]) (by rw [H.out.2, G.out.2]), rfl⟩)
      · have d1 : x ≤ Q * y := by
          rcases hE with ⟨hc, h⟩ | ⟨hc, h⟩ <;> unfold P1.cut at hc <;> omega
        have d2 : y < 0 := by omega
        clear hQ t1 m1 hE hq hgo r1 s1 HH q1
        go_wp2_with (first | (go_at_call 17; ((with_reducible refine (sat_any _ _).mono ?_); rintro e w' ⟨rfl, rfl⟩)) | (go_at_call 18; ((with_reducible refine (rsat_any _ _).mono ?_); rintro e w' ⟨rfl, rfl⟩)) | (go_at_call 19; ((with_reducible refine (add_any _ _ _).mono ?_); rintro e w' ⟨rfl, rfl⟩)) | (go_at_call 20; ((with_reducible refine (radd_any _ _ _).mono ?_); rintro e w' ⟨rfl, rfl⟩)) | (go_at_call 16; ((with_reducible refine (clip_any _ _ _ _).mono ?_); rintro e w' ⟨rfl, rfl⟩)))
        all_goals (go_ret2; exact ⟨ret_two (by rw [H.out.1, G.out.1]) (by rw [H.out.2, G.out.2]), rfl⟩)

theorem rdiv_any (a b : Int) (w : World) :
    Calls Try.prog 13 #[.int .i64 a, .int .i64 b] w fun e w' => e = .returned (.tuple #[.int .i64 (P1.div a b), .int .i64 (P1.mod a b)]) ∧ w = w' := by
  by_cases hb : b = 0
  · subst hb
    have hs' : P1.sat 0 = 0 := P1.sat_zero.2 rfl
    have hz : (P1.sat 0 == 0) = true := by simpa using hs'
    have H := Lib.hid hs'
    clear hs'
    have H2 : P1.div a 0 = 0 ∧ P1.mod a 0 = 0 := ⟨rfl, rfl⟩
    have H3 := Lib.hid H2
    clear H2
    go_enter Try.func13, Try.ntmps13
    go_wp2_with (first | (go_at_call 17; ((with_reducible refine (sat_any _ _).mono ?_); rintro e w' ⟨rfl, rfl⟩)) | (go_at_call 18; ((with_reducible refine (rsat_any _ _).mono ?_); rintro e w' ⟨rfl, rfl⟩)) | (go_at_call 19; ((with_reducible refine (add_any _ _ _).mono ?_); rintro e w' ⟨rfl, rfl⟩)) | (go_at_call 20; ((with_reducible refine (radd_any _ _ _).mono ?_); rintro e w' ⟨rfl, rfl⟩)) | (go_at_call 16; ((with_reducible refine (clip_any _ _ _ _).mono ?_); rintro e w' ⟨rfl, rfl⟩)))
    go_ret2
    exact ⟨ret_two H3.out.1.symm H3.out.2.symm, rfl⟩
  · exact rdiv_nz a b w hb

/-- A slice of ints that reads as a list. -/
def Ints (w : World) (A : Option Addr) (n : Nat) (zs : List Int) : Prop :=
  zs.length = n ∧ (n = 0 ∨ ∃ b off, A = some ⟨b, off, none⟩ ∧ ∀ k, k < n → w.cell? ⟨b, off + k, none⟩ = some (.int .i64 (zs.getD k 0)))

theorem take_snoc {α : Type} (zs : List α) (d : α) (k : Nat) (h : k < zs.length) : zs.take (k + 1) = zs.take k ++ [zs.getD k d] := by
  rw [List.take_succ_eq_append_getElem h]
  simp [List.getD, h]
theorem sum_snoc (zs : List Int) (k : Nat) (h : k < zs.length) : P1.sum (zs.take (k + 1)) = P1.add (P1.sum (zs.take k)) (zs.getD k 0) := by
  rw [take_snoc zs 0 k h, P1.sum, P1.sum, List.foldl_append]; rfl

set_option maxHeartbeats 1000000 in
theorem sum_any (A : Option Addr) (n c : Nat) (zs : List Int) (w : World) (hI : Ints w A n zs) (hn : n ≤ 1000000) :
    Calls Try.prog 28 #[.slice A n c] w fun e w' => e = .returned (.int .i64 (P1.sum zs)) ∧ w = w' := by
  obtain ⟨hl, h0⟩ := hI
  rcases h0 with h0 | ⟨b, off, hA, hc⟩
  · have hz : zs = [] := List.eq_nil_of_length_eq_zero (by omega)
    subst h0 hz
    clear hl
    have H := Lib.hid (show P1.sum [] = 0 from rfl)
    go_enter Try.func28, Try.ntmps28
    go_wp2
    refine wp_loop_rounds 1 ?_
    rw [rounds_succ]
    go_wp2
    go_ret
    exact ⟨ret_int H.out.symm, rfl⟩
  · subst hA
    have HL := Lib.hid hl
    have HC := Lib.hid hc
    clear hl hc
    go_enter Try.func28, Try.ntmps28
    go_wp2
    go_loop [3, 8] (fun s i => ∃ k : Nat, k ≤ n ∧ i = .int .i64 k ∧ s = .int .i64 (P1.sum (zs.take k))) (fun _ i => n - (intOf i).toNat)
    case atStart => exact ⟨0, Nat.zero_le _, rfl, rfl⟩
    case round =>
      obtain ⟨k, hk, rfl, rfl⟩ := hrel
      by_cases hlt : k < n
      · have hcell := HC.out k hlt
        have H := Lib.hid (sum_snoc zs k (by have := HL.out; omega))
        go_wp2_with (first | (go_at_call 17; ((with_reducible refine (sat_any _ _).mono ?_); rintro e w' ⟨rfl, rfl⟩)) | (go_at_call 18; ((with_reducible refine (rsat_any _ _).mono ?_); rintro e w' ⟨rfl, rfl⟩)) | (go_at_call 19; ((with_reducible refine (add_any _ _ _).mono ?_); rintro e w' ⟨rfl, rfl⟩)) | (go_at_call 20; ((with_reducible refine (radd_any _ _ _).mono ?_); rintro e w' ⟨rfl, rfl⟩)) | (go_at_call 16; ((with_reducible refine (clip_any _ _ _ _).mono ?_); rintro e w' ⟨rfl, rfl⟩)))
        go_round
        case rel => exact ⟨k + 1, by omega, by go_num, by rw [H.out, List.getD_eq_getElem?_getD]⟩
        case measure => simp [intOf]; omega
      · have H := Lib.hid (show P1.sum (zs.take k) = P1.sum zs by rw [List.take_of_length_le (by have := HL.out; omega)])
        go_wp2
        go_ret
        exact ⟨ret_int H.out, rfl⟩

set_option maxHeartbeats 1000000 in
theorem sat_awake (w : World) : Calls Try.prog 12 #[] w fun e w' => e = .returned (.bool true) ∧ Drew w w' := by
  have h1 : P1.add 2147483647 5 = 2147483647 := by decide
  have h2 : P1.mul (-65536) 65536 = -2147483648 := by decide
  have h3 : P1.div (-7) 2 = -4 := by decide
  have h4 : P1.mod (-7) 2 = 1 := by decide
  go_enter Try.func12, Try.ntmps12
  go_wp2_with (first | (go_at_call 17; ((with_reducible refine (sat_any _ _).mono ?_); rintro e w' ⟨rfl, rfl⟩)) | (go_at_call 18; ((with_reducible refine (rsat_any _ _).mono ?_); rintro e w' ⟨rfl, rfl⟩)) | (go_at_call 19; ((with_reducible refine (add_any _ _ _).mono ?_); rintro e w' ⟨rfl, rfl⟩)) | (go_at_call 20; ((with_reducible refine (radd_any _ _ _).mono ?_); rintro e w' ⟨rfl, rfl⟩)) | (go_at_call 16; ((with_reducible refine (clip_any _ _ _ _).mono ?_); rintro e w' ⟨rfl, rfl⟩)) | (go_at_call 23; ((with_reducible refine (mul_any _ _ _).mono ?_); rintro e w' ⟨rfl, rfl⟩)) | (go_at_call 14; ((with_reducible refine (div_any _ _ _).mono ?_); rintro e w' ⟨rfl, n1, rfl⟩)) | (go_at_call 15; ((with_reducible refine (mod_any _ _ _).mono ?_); rintro e w' ⟨rfl, n2, rfl⟩)))
  go_ret
  exact ⟨rfl, _, rfl⟩

end Go.Proofs.Ytgcadpfgdfjceaa
