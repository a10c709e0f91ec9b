/-
  The walks over package sat, third part: the document's quotient, sums of many, the fixed facts.
  Rectangles and snaps: Right, Bottom, Has, where, SnapOf, Get, Hit of layer 13.
  Snaps: BinarySearchFunc, where, SnapOf, Get, Hit at entries whose numbers rise.
-/
import Derived.Test.YtaalhglooipnaaaGreatL10
namespace Go.Proofs.YtaalhglooipnaaaGreat.Fl
open Go.RowKit

set_option maxHeartbeats 1000000 in
theorem rdiv_nz (a b : Int) (w : World) (hb : b ≠ 0) :
    Calls Tryz.prog 79 #[.int .i64 a, .int .i64 b] w fun e w' => e = .returned (.tuple #[.int .i64 (P1.div a b), .int .i64 (P1.mod a b)]) ∧ w = w' := by
  have hs : P1.sat b ≠ 0 := fun h => hb (P1.sat_zero.1 h)
  have hs' : (P1.sat b == 0) = false := by simpa using hs
  have e1 : P1.div a b = P1.sat (P1.fq (P1.sat a) (P1.sat b)) ∧ P1.mod a b = P1.fr (P1.sat a) (P1.sat b) := by unfold P1.div P1.mod; rw [if_neg hb, if_neg hb]; exact ⟨rfl, rfl⟩
  have H := Lib.hid e1
  clear e1
  have x1 := P1.sat_lo a
  have x2 := P1.sat_hi a
  have y1 := P1.sat_lo b
  have y2 := P1.sat_hi b
  have q1 := P1.tdiv_bd (b := P1.sat b) x1 x2
  have r1 := P1.tmod_bd (a := P1.sat a) hs
  have s1 := P1.tmod_sign (a := P1.sat a) (b := P1.sat b)
  have t1 := P1.tdiv_eq (P1.sat a) (P1.sat b)
  have m0 : IntKind.i64.wrap ((P1.sat a).tdiv (P1.sat b)) = (P1.sat a).tdiv (P1.sat b) := IntWalk.i64_in _ (by omega)
  have m1 : ∀ q, (q - 1) * P1.sat b = q * P1.sat b - P1.sat b := fun q => by rw [Int.sub_mul, Int.one_mul]
  have HH := Lib.hid (And.intro r1 (And.intro s1 (And.intro t1 m1)))
  clear r1 s1 t1 m1
  go_enter Tryz.func79, Tryz.ntmps79
  go_wp2_with (first | (go_at_call 106; ((with_reducible refine (sat_any _ _).mono ?_); rintro e w' ⟨rfl, rfl⟩)) | (go_at_call 75; ((with_reducible refine (rsat_any _ _).mono ?_); rintro e w' ⟨rfl, rfl⟩)) | (go_at_call 90; ((with_reducible refine (add_any _ _ _).mono ?_); rintro e w' ⟨rfl, rfl⟩)) | (go_at_call 74; ((with_reducible refine (radd_any _ _ _).mono ?_); rintro e w' ⟨rfl, rfl⟩)) | (go_at_call 27; ((with_reducible refine (clip_any _ _ _ _).mono ?_); rintro e w' ⟨rfl, rfl⟩)))
  go_loop [8] (fun q => ∃ Q : Int, q = .int .i64 Q ∧ (Q = (P1.sat a).tdiv (P1.sat b) ∨ (P1.cut (P1.sat a) (P1.sat b) ∧ Q = P1.fq (P1.sat a) (P1.sat b)))) (fun q => (intOf q - P1.fq (P1.sat a) (P1.sat b)).toNat)
  case atStart => exact ⟨_, rfl, .inl rfl⟩
  case round =>
    obtain ⟨Q, rfl, hQ⟩ := hrel
    clear m0
    generalize hX : P1.sat a = x at *
    generalize hY : P1.sat b = y at *
    clear hX hY
    obtain ⟨r1, s1, t1, m1⟩ := HH.out
    by_cases hgo : P1.cut x y ∧ Q = x.tdiv y
    · obtain ⟨hc, hq⟩ := hgo
      have hd : P1.fq x y = x.tdiv y - 1 := by rw [P1.fq, if_pos hc]
      have hc' := hc
      unfold P1.cut at hc'
      rw [← hq] at t1
      have b1 : -9223372036854775808 ≤ Q * y := by omega
      have b2 : Q * y ≤ 9223372036854775807 := by omega
      have b3 : -2147483648 ≤ Q := by omega
      have b4 : Q ≤ 2147483648 := by omega
      have G : Hid (P1.cut x y ∧ Q - 1 = P1.fq x y) := ⟨hc, by omega⟩
      by_cases hy : 0 < y
      · have d1 : x < Q * y := by omega
        clear hQ t1 m1 hd hc' hq hc r1 s1 HH q1 H
        go_wp2
        go_round
        case rel => exact ⟨Q - 1, rfl, .inr G.out⟩
        case measure => have := G.out.2; simp [intOf]; omega
      · have d1 : Q * y < x := by omega
        have d2 : y < 0 := by omega
        clear hQ t1 m1 hd hc' hq hc r1 s1 HH q1 H
        go_wp2
        go_round
        case rel => exact ⟨Q - 1, rfl, .inr G.out⟩
        case measure => have := G.out.2; simp [intOf]; omega
    · have hq : Q = P1.fq x y := by
        rcases hQ with h | ⟨_, h⟩
        · rw [P1.fq, if_neg (fun hc => hgo ⟨hc, h⟩)]; exact h
        · exact h
      have hE : (P1.cut x y ∧ Q * y = x - x.tmod y - y) ∨ (¬ P1.cut x y ∧ Q * y = x - x.tmod y) := by
        by_cases hc : P1.cut x y
        · refine .inl ⟨hc, ?_⟩
          rw [hq, P1.fq, if_pos hc, m1, t1]
        · refine .inr ⟨hc, ?_⟩
          rw [hq, P1.fq, if_neg hc, t1]
      have b1 : -9223372036854775808 ≤ Q * y := by rcases hE with ⟨_, h⟩ | ⟨_, h⟩ <;> omega
      have b2 : Q * y ≤ 9223372036854775807 := by rcases hE with ⟨_, h⟩ | ⟨_, h⟩ <;> omega
      have b5 : -9223372036854775808 ≤ x - Q * y := by rcases hE with ⟨_, h⟩ | ⟨_, h⟩ <;> omega
      have b6 : x - Q * y ≤ 9223372036854775807 := by rcases hE with ⟨_, h⟩ | ⟨_, h⟩ <;> omega
      have G : Hid (Q = P1.fq x y ∧ x - Q * y = P1.fr x y) := by
        refine ⟨hq, ?_⟩
        rcases hE with ⟨hc, h⟩ | ⟨hc, h⟩
        · rw [P1.fr, if_pos hc]; omega
        · rw [P1.fr, if_neg hc]; omega
      by_cases hy : 0 < y
      · have d1 : Q * y ≤ x := by
          rcases hE with ⟨hc, h⟩ | ⟨hc, h⟩ <;> unfold P1.cut at hc <;> omega
        clear hQ t1 m1 hE hq hgo r1 s1 HH q1
        go_wp2_with (first | (go_at_call 106; ((with_reducible refine (sat_any _ _).mono ?_); rintro e w' ⟨rfl, rfl⟩)) | (go_at_call 75; ((with_reducible refine (rsat_any _ _).mono ?_); rintro e w' ⟨rfl, rfl⟩)) | (go_at_call 90; ((with_reducible refine (add_any _ _ _).mono ?_); rintro e w' ⟨rfl, rfl⟩)) | (go_at_call 74; ((with_reducible refine (radd_any _ _ _).mono ?_); rintro e w' ⟨rfl, rfl⟩)) | (go_at_call 27; ((with_reducible refine (clip_any _ _ _ _).mono ?_); rintro e w' ⟨rfl, rfl⟩)))
        all_goals (go_ret2; exact ⟨ret_two (by rw [H.out.1, G.out.1]) (by rw [H.out.2, G.out.2]), rfl⟩)
      · have d1 : x ≤ Q * y := by
          rcases hE with ⟨hc, h⟩ | ⟨hc, h⟩ <;> unfold P1.cut at hc <;> omega
        have d2 : y < 0 := by omega
        clear hQ t1 m1 hE hq hgo r1 s1 HH q1
        go_wp2_with (first | (go_at_call 106; ((with_reducible refine (sat_any _ _).mono ?_); rintro e w' ⟨rfl, rfl⟩)) | (go_at_call 75; ((with_reducible refine (rsat_any _ _).mono ?_); rintro e w' ⟨rfl, rfl⟩)) | (go_at_call 90; ((with_reducible refine (add_any _ _ _).mono ?_); rintro e w' ⟨rfl, rfl⟩)) | (go_at_call 74; ((with_reducible refine (radd_any _ _ _).mono ?_); rintro e w' ⟨rfl, rfl⟩)) | (go_at_call 27; ((with_reducible refine (clip_any _ _ _ _).mono ?_); rintro e w' ⟨rfl, rfl⟩)))
        all_goals (go_ret2; exact ⟨ret_two (by rw [H.out.1, G.out.1]) (by rw [H.out.2, G.out.2]), rfl⟩)

theorem rdiv_any (a b : Int) (w : World) :
    Calls Tryz.prog 79 #[.int .i64 a, .int .i64 b] w fun e w' => e = .returned (.tuple #[.int .i64 (P1.div a b), .int .i64 (P1.mod a b)]) ∧ w = w' := by
  by_cases hb : b = 0
  · subst hb
    have hs' : P1.sat 0 = 0 := P1.sat_zero.2 rfl
    have hz : (P1.sat 0 == 0) = true := by simpa using hs'
    have H := Lib.hid hs'
    clear hs'
    have H2 : P1.div a 0 = 0 ∧ P1.mod a 0 = 0 := ⟨rfl, rfl⟩
    have H3 := Lib.hid H2
    clear H2
    go_enter Tryz.func79, Tryz.ntmps79
    go_wp2_with (first | (go_at_call 106; ((with_reducible refine (sat_any _ _).mono ?_); rintro e w' ⟨rfl, rfl⟩)) | (go_at_call 75; ((with_reducible refine (rsat_any _ _).mono ?_); rintro e w' ⟨rfl, rfl⟩)) | (go_at_call 90; ((with_reducible refine (add_any _ _ _).mono ?_); rintro e w' ⟨rfl, rfl⟩)) | (go_at_call 74; ((with_reducible refine (radd_any _ _ _).mono ?_); rintro e w' ⟨rfl, rfl⟩)) | (go_at_call 27; ((with_reducible refine (clip_any _ _ _ _).mono ?_); rintro e w' ⟨rfl, rfl⟩)))
    go_ret2
    exact ⟨ret_two H3.out.1.symm H3.out.2.symm, rfl⟩
  · exact rdiv_nz a b w hb

/-- A slice of ints that reads as a list. -/
def Ints (w : World) (A : Option Addr) (n : Nat) (zs : List Int) : Prop :=
  zs.length = n ∧ (n = 0 ∨ ∃ b off, A = some ⟨b, off, none⟩ ∧ ∀ k, k < n → w.cell? ⟨b, off + k, none⟩ = some (.int .i64 (zs.getD k 0)))

theorem take_snoc {α : Type} (zs : List α) (d : α) (k : Nat) (h : k < zs.length) : zs.take (k + 1) = zs.take k ++ [zs.getD k d] := by
  rw [List.take_succ_eq_append_getElem h]
  simp [List.getD, h]
theorem sum_snoc (zs : List Int) (k : Nat) (h : k < zs.length) : P1.sum (zs.take (k + 1)) = P1.add (P1.sum (zs.take k)) (zs.getD k 0) := by
  rw [take_snoc zs 0 k h, P1.sum, P1.sum, List.foldl_append]; rfl

set_option maxHeartbeats 1000000 in
theorem sum_any (A : Option Addr) (n c : Nat) (zs : List Int) (w : World) (hI : Ints w A n zs) (hn : n ≤ 1000000) :
    Calls Tryz.prog 113 #[.slice A n c] w fun e w' => e = .returned (.int .i64 (P1.sum zs)) ∧ w = w' := by
  obtain ⟨hl, h0⟩ := hI
  rcases h0 with h0 | ⟨b, off, hA, hc⟩
  · have hz : zs = [] := List.eq_nil_of_length_eq_zero (by omega)
    subst h0 hz
    clear hl
    have H := Lib.hid (show P1.sum [] = 0 from rfl)
    go_enter Tryz.func113, Tryz.ntmps113
    go_wp2
    refine wp_loop_rounds 1 ?_
    rw [rounds_succ]
    go_wp2
    go_ret
    exact ⟨ret_int H.out.symm, rfl⟩
  · subst hA
    have HL := Lib.hid hl
    have HC := Lib.hid hc
    clear hl hc
    go_enter Tryz.func113, Tryz.ntmps113
    go_wp2
    go_loop [3, 8] (fun s i => ∃ k : Nat, k ≤ n ∧ i = .int .i64 k ∧ s = .int .i64 (P1.sum (zs.take k))) (fun _ i => n - (intOf i).toNat)
    case atStart => exact ⟨0, Nat.zero_le _, rfl, rfl⟩
    case round =>
      obtain ⟨k, hk, rfl, rfl⟩ := hrel
      by_cases hlt : k < n
      · have hcell := HC.out k hlt
        have H := Lib.hid (sum_snoc zs k (by have := HL.out; omega))
        go_wp2_with (first | (go_at_call 106; ((with_reducible refine (sat_any _ _).mono ?_); rintro e w' ⟨rfl, rfl⟩)) | (go_at_call 75; ((with_reducible refine (rsat_any _ _).mono ?_); rintro e w' ⟨rfl, rfl⟩)) | (go_at_call 90; ((with_reducible refine (add_any _ _ _).mono ?_); rintro e w' ⟨rfl, rfl⟩)) | (go_at_call 74; ((with_reducible refine (radd_any _ _ _).mono ?_); rintro e w' ⟨rfl, rfl⟩)) | (go_at_call 27; ((with_reducible refine (clip_any _ _ _ _).mono ?_); rintro e w' ⟨rfl, rfl⟩)))
        go_round
        case rel => exact ⟨k + 1, by omega, by go_num, by rw [H.out, List.getD_eq_getElem?_getD]⟩
        case measure => simp [intOf]; omega
      · have H := Lib.hid (show P1.sum (zs.take k) = P1.sum zs by rw [List.take_of_length_le (by have := HL.out; omega)])
        go_wp2
        go_ret
        exact ⟨ret_int H.out, rfl⟩

end Go.Proofs.YtaalhglooipnaaaGreat.Fl
namespace Go.Proofs.YtaalhglooipnaaaGreat
open Go.RowKit
attribute [local go_sem ↓] Go.wp_at_zero Go.wp_at_succ

abbrev Rc := Int × Int × Int × Int
def rcV (r : Rc) : Value := .agg #[.int .i64 r.1, .int .i64 r.2.1, .int .i64 r.2.2.1, .int .i64 r.2.2.2]
abbrev En := Int × Rc
def en0 : En := (0, 0, 0, 0, 0)
def cvE (p : En) : List Value := [.int .i64 p.1, .int .i64 p.2.1, .int .i64 p.2.2.1, .int .i64 p.2.2.2.1, .int .i64 p.2.2.2.2]
abbrev Es (w : World) (B : Nat) (A : Option Addr) (n : Nat) (l : List En) : Prop := Rd cvE en0 5 w B A n l
theorem rd_en {w : World} {B : Nat} {A : Option Addr} {n : Nat} {l : List En} (h : Es w B A n l) (k : Nat) (hk : k < n) : ∃ b off, A = some ⟨b, off, none⟩ ∧ b < B ∧ w.cell? ⟨b, off + k * 5, none⟩ = some (.int .i64 (l.getD k en0).1) ∧ w.cell? ⟨b, off + k * 5 + 1, none⟩ = some (.int .i64 (l.getD k en0).2.1) ∧ w.cell? ⟨b, off + k * 5 + 2, none⟩ = some (.int .i64 (l.getD k en0).2.2.1) ∧ w.cell? ⟨b, off + k * 5 + 3, none⟩ = some (.int .i64 (l.getD k en0).2.2.2.1) ∧ w.cell? ⟨b, off + k * 5 + 4, none⟩ = some (.int .i64 (l.getD k en0).2.2.2.2) := by
  obtain ⟨b, off, hA, hB, h0⟩ := h.2 k hk
  exact ⟨b, off, hA, hB, h0 0 (by omega), h0 1 (by omega), h0 2 (by omega), h0 3 (by omega), h0 4 (by omega)⟩
theorem en_info : (Tryz.prog.info? 79).map (fun i => (i.zero, i.size, i.bytes)) = some (some (.agg #[.int .i64 0, .int .i64 0, .int .i64 0, .int .i64 0, .int .i64 0]), 5, 40) := by kernel_rfl
theorem cvE_snoc (l : List En) (p : En) : (l ++ [p]).flatMap cvE = l.flatMap cvE ++ [.int .i64 p.1, .int .i64 p.2.1, .int .i64 p.2.2.1, .int .i64 p.2.2.2.1, .int .i64 p.2.2.2.2] := by simp [cvE]
theorem cvE_len (l : List En) : (l.flatMap cvE).length = l.length * 5 := flat_len (sz := 5) (fun _ => rfl) l

def rightR (r : Rc) : Int := Fl.P1.add r.1 r.2.2.1
def bottomR (r : Rc) : Int := Fl.P1.add r.2.1 r.2.2.2
def hasR (r : Rc) (x y : Int) : Bool := decide (r.1 ≤ x) && decide (x < rightR r) && decide (r.2.1 ≤ y) && decide (y < bottomR r)

set_option maxRecDepth 100000 in
set_option maxHeartbeats 4000000 in
theorem right_any (a b c d : Int) (w : World) : Calls Tryz.prog 47 #[.agg #[.int .i64 a, .int .i64 b, .int .i64 c, .int .i64 d]] w fun e w' => e = .returned (.int .i64 (rightR (a, b, c, d))) ∧ Below w.heap.size w w' := by
  have HB := Lib.hid ((Below.refl w.heap.size w).alloc (Nat.le_refl _) (.cells #[.int .i64 a, .int .i64 b, .int .i64 c, .int .i64 d] 74))
  have hX := Blk.new w 74 #[.int .i64 a, .int .i64 b, .int .i64 c, .int .i64 d]
  have y0 := hX.cell 0
  have y2 := hX.cell 2
  clear hX
  go_enter Tryz.func47, Tryz.ntmps47
  go_wp2_with (first | (go_at_call 90; ((with_reducible refine (Fl.add_any _ _ _).mono ?_); rintro e w' ⟨rfl, rfl⟩)))
  go_ret
  exact ⟨rfl, HB.out⟩
set_option maxRecDepth 100000 in
set_option maxHeartbeats 4000000 in
theorem bottom_any (a b c d : Int) (w : World) : Calls Tryz.prog 48 #[.agg #[.int .i64 a, .int .i64 b, .int .i64 c, .int .i64 d]] w fun e w' => e = .returned (.int .i64 (bottomR (a, b, c, d))) ∧ Below w.heap.size w w' := by
  have HB := Lib.hid ((Below.refl w.heap.size w).alloc (Nat.le_refl _) (.cells #[.int .i64 a, .int .i64 b, .int .i64 c, .int .i64 d] 74))
  have hX := Blk.new w 74 #[.int .i64 a, .int .i64 b, .int .i64 c, .int .i64 d]
  have y1 := hX.cell 1
  have y3 := hX.cell 3
  clear hX
  go_enter Tryz.func48, Tryz.ntmps48
  go_wp2_with (first | (go_at_call 90; ((with_reducible refine (Fl.add_any _ _ _).mono ?_); rintro e w' ⟨rfl, rfl⟩)))
  go_ret
  exact ⟨rfl, HB.out⟩

set_option maxRecDepth 100000 in
set_option maxHeartbeats 4000000 in
theorem hasr_any (a b c d x y : Int) (w : World) : Calls Tryz.prog 20 #[.agg #[.int .i64 a, .int .i64 b, .int .i64 c, .int .i64 d], .int .i64 x, .int .i64 y] w fun e w' => e = .returned (.bool (hasR (a, b, c, d) x y)) ∧ Below w.heap.size w w' := by
  have HB := Lib.hid ((Below.refl w.heap.size w).alloc (Nat.le_refl _) (.cells #[.int .i64 a, .int .i64 b, .int .i64 c, .int .i64 d] 74))
  have hX := Blk.new w 74 #[.int .i64 a, .int .i64 b, .int .i64 c, .int .i64 d]
  have HX := Lib.hid hX
  obtain ⟨w0, hw0⟩ : ∃ w0, w0 = w.alloc (.cells #[.int .i64 a, .int .i64 b, .int .i64 c, .int .i64 d] 74) := ⟨_, rfl⟩
  obtain ⟨X, hXe⟩ : ∃ X, X = w.heap.size := ⟨_, rfl⟩
  rw [← hw0] at HB HX hX
  have HR := Lib.hid (show hasR (a, b, c, d) x y = (decide (a ≤ x) && decide (x < rightR (a, b, c, d)) && decide (b ≤ y) && decide (y < bottomR (a, b, c, d))) from rfl)
  have y0 := hX.cell 0
  have y1 := hX.cell 1
  have y2 := hX.cell 2
  have y3 := hX.cell 3
  go_enter Tryz.func20, Tryz.ntmps20
  go_upto_region 1 with fail
  rw [← hw0]
  rw [← hXe] at HX y0 y1 y2 y3 ⊢
  clear hw0 hXe hX
  by_cases c1 : a ≤ x
  · by_cases c2 : x < rightR (a, b, c, d)
    · by_cases c3 : b ≤ y
      · by_cases c4 : y < bottomR (a, b, c, d)
        · have HV := Lib.hid (show hasR (a, b, c, d) x y = true by rw [HR.out]; simp [c1, c2, c3, c4])
          go_wp2_with (first
      | (go_at_call 47; refine (right_any a b c d _).mono ?_; rintro e w5 ⟨rfl, hb5⟩; have HB5 := Lib.hid (HB.out.trans (hb5.mono HB.out.size)); have z1 := hb5.cell (p := ⟨X, 1, none⟩) HX.out.lt; rw [y1] at z1; have z0 := hb5.cell (p := ⟨X, 0, none⟩) HX.out.lt; rw [y0] at z0; have z2 := hb5.cell (p := ⟨X, 2, none⟩) HX.out.lt; rw [y2] at z2; have z3 := hb5.cell (p := ⟨X, 3, none⟩) HX.out.lt; rw [y3] at z3; clear hb5)
      | (go_at_call 48; refine (bottom_any a b c d _).mono ?_; rintro e w6 ⟨rfl, hb6⟩; have HB6 := Lib.hid (HB5.out.trans (hb6.mono HB5.out.size)); clear hb6))
          go_ret
          exact ⟨by rw [HV.out]; rfl, HB6.out⟩
        · have HV := Lib.hid (show hasR (a, b, c, d) x y = false by rw [HR.out]; simp [c1, c2, c3, c4])
          have c5 : decide (y < bottomR (a, b, c, d)) = false := decide_eq_false c4
          go_wp2_with (first
      | (go_at_call 47; refine (right_any a b c d _).mono ?_; rintro e w5 ⟨rfl, hb5⟩; have HB5 := Lib.hid (HB.out.trans (hb5.mono HB.out.size)); have z1 := hb5.cell (p := ⟨X, 1, none⟩) HX.out.lt; rw [y1] at z1; have z0 := hb5.cell (p := ⟨X, 0, none⟩) HX.out.lt; rw [y0] at z0; have z2 := hb5.cell (p := ⟨X, 2, none⟩) HX.out.lt; rw [y2] at z2; have z3 := hb5.cell (p := ⟨X, 3, none⟩) HX.out.lt; rw [y3] at z3; clear hb5)
      | (go_at_call 48; refine (bottom_any a b c d _).mono ?_; rintro e w6 ⟨rfl, hb6⟩; have HB6 := Lib.hid (HB5.out.trans (hb6.mono HB5.out.size)); clear hb6))
          go_ret
          exact ⟨by rw [HV.out]; first | rfl | (rw [← c5]; rfl), HB6.out⟩
      · have HV := Lib.hid (show hasR (a, b, c, d) x y = false by rw [HR.out]; simp [c1, c2, c3])
        go_wp2_with (first
      | (go_at_call 47; refine (right_any a b c d _).mono ?_; rintro e w5 ⟨rfl, hb5⟩; have HB5 := Lib.hid (HB.out.trans (hb5.mono HB.out.size)); have z1 := hb5.cell (p := ⟨X, 1, none⟩) HX.out.lt; rw [y1] at z1; have z0 := hb5.cell (p := ⟨X, 0, none⟩) HX.out.lt; rw [y0] at z0; have z2 := hb5.cell (p := ⟨X, 2, none⟩) HX.out.lt; rw [y2] at z2; have z3 := hb5.cell (p := ⟨X, 3, none⟩) HX.out.lt; rw [y3] at z3; clear hb5)
      | (go_at_call 48; refine (bottom_any a b c d _).mono ?_; rintro e w6 ⟨rfl, hb6⟩; have HB6 := Lib.hid (HB5.out.trans (hb6.mono HB5.out.size)); clear hb6))
        go_ret
        exact ⟨by rw [HV.out]; rfl, HB5.out⟩
    · have HV := Lib.hid (show hasR (a, b, c, d) x y = false by rw [HR.out]; simp [c1, c2])
      go_wp2_with (first
      | (go_at_call 47; refine (right_any a b c d _).mono ?_; rintro e w5 ⟨rfl, hb5⟩; have HB5 := Lib.hid (HB.out.trans (hb5.mono HB.out.size)); have z1 := hb5.cell (p := ⟨X, 1, none⟩) HX.out.lt; rw [y1] at z1; have z0 := hb5.cell (p := ⟨X, 0, none⟩) HX.out.lt; rw [y0] at z0; have z2 := hb5.cell (p := ⟨X, 2, none⟩) HX.out.lt; rw [y2] at z2; have z3 := hb5.cell (p := ⟨X, 3, none⟩) HX.out.lt; rw [y3] at z3; clear hb5)
      | (go_at_call 48; refine (bottom_any a b c d _).mono ?_; rintro e w6 ⟨rfl, hb6⟩; have HB6 := Lib.hid (HB5.out.trans (hb6.mono HB5.out.size)); clear hb6))
      go_ret
      exact ⟨by rw [HV.out]; rfl, HB5.out⟩
  · have HV := Lib.hid (show hasR (a, b, c, d) x y = false by rw [HR.out]; simp [c1])
    go_wp2
    go_ret
    exact ⟨by rw [HV.out]; rfl, HB.out⟩


/-! ### where -/
def cmpI (x y : Int) : Int := if x < y then -1 else if x = y then 0 else 1
set_option maxRecDepth 100000 in
set_option maxHeartbeats 4000000 in
theorem isnanI_any (x : Int) (w : World) : Calls Tryz.prog 119 #[.int .i64 x] w fun e w' => e = .returned (.bool false) ∧ w' = w := by
  go_enter Tryz.func119, Tryz.ntmps119
  go_wp2
  go_ret
  exact ⟨by first | rfl | simp, rfl⟩
set_option maxRecDepth 100000 in
set_option maxHeartbeats 4000000 in
theorem compareI_any (x y : Int) (w : World) : Calls Tryz.prog 89 #[.int .i64 x, .int .i64 y] w fun e w' => e = .returned (.int .i64 (cmpI x y)) ∧ w' = w := by
  by_cases h1 : x < y
  · have HE := Lib.hid (show cmpI x y = -1 from if_pos h1)
    go_enter Tryz.func89, Tryz.ntmps89
    go_wp2_with (first | (go_at_call 119; ((with_reducible refine (isnanI_any _ _).mono ?_); rintro e w' ⟨rfl, rfl⟩)))
    go_ret
    exact ⟨by rw [HE.out]; rfl, rfl⟩
  · by_cases h2 : x = y
    · have HE := Lib.hid (show cmpI x y = 0 by rw [cmpI, if_neg h1, if_pos h2])
      subst h2
      go_enter Tryz.func89, Tryz.ntmps89
      go_wp2_with (first | (go_at_call 119; ((with_reducible refine (isnanI_any _ _).mono ?_); rintro e w' ⟨rfl, rfl⟩)))
      go_ret
      exact ⟨by rw [HE.out]; rfl, rfl⟩
    · have HE := Lib.hid (show cmpI x y = 1 by rw [cmpI, if_neg h1, if_neg h2])
      have h3 : y < x := by omega
      clear h2
      go_enter Tryz.func89, Tryz.ntmps89
      go_wp2_with (first | (go_at_call 119; ((with_reducible refine (isnanI_any _ _).mono ?_); rintro e w' ⟨rfl, rfl⟩)))
      go_ret
      exact ⟨by rw [HE.out]; rfl, rfl⟩
set_option maxRecDepth 100000 in
set_option maxHeartbeats 4000000 in
theorem wherefE_any (s t : Int) (a b c d : Int) (w : World) :
    Calls Tryz.prog 88 #[.agg #[.int .i64 s, .int .i64 a, .int .i64 b, .int .i64 c, .int .i64 d], .int .i64 t] w fun e w' => e = .returned (.int .i64 (cmpI s t)) ∧ Below w.heap.size w w' := by
  have HB := Lib.hid ((Below.refl w.heap.size w).alloc (Nat.le_refl _) (.cells #[.int .i64 s, .int .i64 a, .int .i64 b, .int .i64 c, .int .i64 d] 79))
  have hX := Blk.new w 79 #[.int .i64 s, .int .i64 a, .int .i64 b, .int .i64 c, .int .i64 d]
  have y0 := hX.cell 0
  clear hX
  go_enter Tryz.func88, Tryz.ntmps88
  go_wp2_with (first | (go_at_call 89; ((with_reducible refine (compareI_any _ _ _).mono ?_); rintro e w' ⟨rfl, rfl⟩)))
  go_ret
  exact ⟨rfl, HB.out⟩

end Go.Proofs.YtaalhglooipnaaaGreat
namespace Go.Proofs.YtaalhglooipnaaaGreat
open Go.RowKit
attribute [local go_sem ↓] Go.wp_at_zero Go.wp_at_succ

def SrtE (l : List En) : Prop := ∀ i j, i < j → j < l.length → (l.getD i en0).1 < (l.getD j en0).1
structure AtN (l : List En) (s : Int) (r : Nat) : Prop where
  le : r ≤ l.length
  low : ∀ k, k < r → (l.getD k en0).1 < s
  high : ∀ k, r ≤ k → k < l.length → s ≤ (l.getD k en0).1
def isAtE (l : List En) (s : Int) (r : Nat) : Bool := decide (r < l.length) && decide ((l.getD r en0).1 = s)

set_option maxRecDepth 100000 in
set_option maxHeartbeats 8000000 in
theorem bsearchE_any (A : Option Addr) (n c B : Nat) (l : List En) (s : Int) (w : World) (hz : Es w B A n l) (hB : B ≤ w.heap.size) (hn : n ≤ 1000) (hs : SrtE l) :
    Calls Tryz.prog 87 #[.slice A n c, .int .i64 s, .func (.func 88) #[] #[]] w fun e w' =>
      ∃ r : Nat, e = .returned (.tuple #[.int .i64 r, .bool (isAtE l s r)]) ∧ AtN l s r ∧ Below w.heap.size w w' := by
  have HZ := Lib.hid (And.intro hz hs)
  have HBB := Lib.hid hB
  clear hz hs hB
  go_enter Tryz.func87, Tryz.ntmps87
  go_wp2_with fail
  go_loopw [9, 10] (fun vi vj wx => ∃ i j : Nat, vi = .int .i64 i ∧ vj = .int .i64 j ∧ i ≤ j ∧ j ≤ n ∧ Below w.heap.size w wx ∧ Hid ((∀ k, k < i → (l.getD k en0).1 < s) ∧ (∀ k, j ≤ k → k < n → s ≤ (l.getD k en0).1))) (fun vi vj _ => (intOf vj - intOf vi).toNat)
  case atStart => exact ⟨0, n, rfl, rfl, Nat.zero_le _, Nat.le_refl _, Below.refl _ _, fun k hk => by omega, fun k hk hk2 => by omega⟩
  case round =>
    obtain ⟨i, j, rfl, rfl, hij, hjn, hb, hH⟩ := hrel
    by_cases hlt : i < j
    · obtain ⟨h, hh⟩ : ∃ h, h = (i + j) / 2 := ⟨_, rfl⟩
      have hh1 : i ≤ h := by omega
      have hh2 : h < j := by omega
      have hhI : ((i : Int) + (j : Int)) / 2 = (h : Int) := by omega
      obtain ⟨b, off, rfl, hbB, d0, d1, d2, d3, d4⟩ := rd_en HZ.out.1 h (by omega)
      replace d0 := (hb.cell (p := ⟨b, off + h * 5, none⟩) (by have := HBB.out; simp only; omega)).trans d0
      replace d1 := (hb.cell (p := ⟨b, off + h * 5 + 1, none⟩) (by have := HBB.out; simp only; omega)).trans d1
      replace d2 := (hb.cell (p := ⟨b, off + h * 5 + 2, none⟩) (by have := HBB.out; simp only; omega)).trans d2
      replace d3 := (hb.cell (p := ⟨b, off + h * 5 + 3, none⟩) (by have := HBB.out; simp only; omega)).trans d3
      replace d4 := (hb.cell (p := ⟨b, off + h * 5 + 4, none⟩) (by have := HBB.out; simp only; omega)).trans d4
      have HM := Lib.hid (fun k (hk : k ≤ h) (he : (l.getD h en0).1 < s) => show (l.getD k en0).1 < s from by
        by_cases e : k = h
        · rw [e]; exact he
        · have := HZ.out.2 k h (by omega) (by have := HZ.out.1.1; omega)
          omega)
      have HM2 := Lib.hid (fun k (hk : h ≤ k) (hk2 : k < n) (he : s ≤ (l.getD h en0).1) => show s ≤ (l.getD k en0).1 from by
        by_cases e : k = h
        · rw [e]; exact he
        · have := HZ.out.2 h k (by omega) (by have := HZ.out.1.1; omega)
          omega)
      obtain ⟨⟨t, v1, v2, v3, v4⟩, ht⟩ : ∃ t, t = l.getD h en0 := ⟨_, rfl⟩
      rw [← ht] at d0 d1 d2 d3 d4 HM HM2
      simp only at d0 d1 d2 d3 d4
      have i1 : (0 : Int) ≤ (h : Int) := by omega
      have i2 : (h : Int) < (n : Int) := by omega
      have HB := Lib.hid hb
      clear ht hb hh
      by_cases hq : t < s
      · have hc : cmpI t s = -1 := if_pos hq
        have HI := Lib.hid (fun k (hk : k < h + 1) => HM.out k (by omega) hq)
        clear HM HM2
        go_wp2_with (first | (go_at_call 88; refine (wherefE_any t s v1 v2 v3 v4 _).mono ?_; rintro e w5 ⟨rfl, hb5⟩; have HB5 := Lib.hid (HB.out.trans (hb5.mono HB.out.size)); clear hb5; rw [hc]))
        go_roundw
        case rel => exact ⟨h + 1, j, by first | rfl | go_num | (simp [hhI]; done), rfl, by omega, by omega, HB5.out, ⟨HI.out, hH.out.2⟩⟩
        case measure => simp [intOf]; omega
      · have hc : ¬ cmpI t s < 0 := by rw [cmpI, if_neg hq]; split <;> decide
        obtain ⟨cc, hcc⟩ : ∃ cc, cc = cmpI t s := ⟨_, rfl⟩
        rw [← hcc] at hc
        have hc2 : decide (cc < 0) = false := by simpa using hc
        have HCC := Lib.hid hcc
        have HI := Lib.hid (fun k (hk : h ≤ k) (hk2 : k < n) => HM2.out k hk hk2 (by omega))
        clear HM HM2 hcc
        go_wp2_with (first | (go_at_call 88; refine (wherefE_any t s v1 v2 v3 v4 _).mono ?_; rintro e w5 ⟨rfl, hb5⟩; have HB5 := Lib.hid (HB.out.trans (hb5.mono HB.out.size)); clear hb5; rw [← HCC.out]))
        go_roundw
        case rel => exact ⟨i, h, rfl, by first | rfl | go_num | (simp [hhI]; done), by omega, by omega, HB5.out, ⟨hH.out.1, HI.out⟩⟩
        case measure => simp [intOf]; omega
    · obtain rfl : i = j := by omega
      have HA := Lib.hid (show AtN l s i from ⟨by rw [HZ.out.1.1]; exact hjn, hH.out.1, fun k hk hk2 => hH.out.2 k hk (by rw [← HZ.out.1.1]; exact hk2)⟩)
      have HIA := Lib.hid (show isAtE l s i = (decide (i < n) && decide ((l.getD i en0).1 = s)) by rw [isAtE, HZ.out.1.1])
      have HB := Lib.hid hb
      clear hb
      by_cases hin : i < n
      · obtain ⟨b, off, rfl, hbB, d0, d1, d2, d3, d4⟩ := rd_en HZ.out.1 i hin
        replace d0 := (HB.out.cell (p := ⟨b, off + i * 5, none⟩) (by have := HBB.out; simp only; omega)).trans d0
        replace d1 := (HB.out.cell (p := ⟨b, off + i * 5 + 1, none⟩) (by have := HBB.out; simp only; omega)).trans d1
        replace d2 := (HB.out.cell (p := ⟨b, off + i * 5 + 2, none⟩) (by have := HBB.out; simp only; omega)).trans d2
        replace d3 := (HB.out.cell (p := ⟨b, off + i * 5 + 3, none⟩) (by have := HBB.out; simp only; omega)).trans d3
        replace d4 := (HB.out.cell (p := ⟨b, off + i * 5 + 4, none⟩) (by have := HBB.out; simp only; omega)).trans d4
        obtain ⟨⟨t, v1, v2, v3, v4⟩, ht⟩ : ∃ t, t = l.getD i en0 := ⟨_, rfl⟩
        rw [← ht] at d0 d1 d2 d3 d4 HIA
        simp only at d0 d1 d2 d3 d4 HIA
        have hlf : ¬ t < s := by
          have := hH.out.2 i (Nat.le_refl _) hin
          rw [← ht] at this
          simp only at this
          omega
        have i1 : (0 : Int) ≤ (i : Int) := by omega
        have i2 : (i : Int) < (n : Int) := by omega
        clear ht
        by_cases hq : t = s
        · have hc : cmpI t s = 0 := by rw [cmpI, if_neg hlf, if_pos hq]
          have HT := Lib.hid (show isAtE l s i = true by rw [HIA.out]; simp [hin, hq])
          clear hq hlf
          go_wp2_with (first | (go_at_call 88; refine (wherefE_any t s v1 v2 v3 v4 _).mono ?_; rintro e w5 ⟨rfl, hb5⟩; have HB5 := Lib.hid (HB.out.trans (hb5.mono HB.out.size)); clear hb5; rw [hc]))
          exact bodyPost_ret (v := .tuple #[.int .i64 i, .bool true]) (by simp [results, Tryz.results87, go_sem]) rfl ⟨i, by rw [HT.out], HA.out, HB5.out⟩
        · have hc : cmpI t s = 1 := by rw [cmpI, if_neg hlf, if_neg hq]
          have HT := Lib.hid (show isAtE l s i = false by rw [HIA.out]; simp [hq])
          clear hq hlf
          go_wp2_with (first | (go_at_call 88; refine (wherefE_any t s v1 v2 v3 v4 _).mono ?_; rintro e w5 ⟨rfl, hb5⟩; have HB5 := Lib.hid (HB.out.trans (hb5.mono HB.out.size)); clear hb5; rw [hc]))
          exact bodyPost_ret (v := .tuple #[.int .i64 i, .bool false]) (by simp [results, Tryz.results87, go_sem]) rfl ⟨i, by rw [HT.out], HA.out, HB5.out⟩
      · have HT := Lib.hid (show isAtE l s i = false by rw [HIA.out]; simp [hin])
        have i2 : decide ((i : Int) < (n : Int)) = false := by simp; omega
        go_wp2
        exact bodyPost_ret (v := .tuple #[.int .i64 i, .bool false]) (by simp [results, Tryz.results87, go_sem]) rfl ⟨i, by rw [HT.out], HA.out, HB.out⟩

set_option maxRecDepth 100000 in
set_option maxHeartbeats 4000000 in
theorem whereE_any (A : Option Addr) (n c B : Nat) (l : List En) (s : Int) (w : World) (hz : Es w B A n l) (hB : B ≤ w.heap.size) (hn : n ≤ 1000) (hs : SrtE l) :
    Calls Tryz.prog 46 #[.slice A n c, .int .i64 s] w fun e w' =>
      ∃ r : Nat, e = .returned (.tuple #[.int .i64 r, .bool (isAtE l s r)]) ∧ AtN l s r ∧ Below w.heap.size w w' := by
  have HZ := Lib.hid (And.intro hz hs)
  have HBB := Lib.hid hB
  clear hz hs hB
  go_enter Tryz.func46, Tryz.ntmps46
  go_wp2_with fail
  refine (bsearchE_any A n c B l s _ HZ.out.1 HBB.out hn HZ.out.2).mono ?_
  rintro e w1 ⟨r, rfl, hr, hb⟩
  have HR := Lib.hid (And.intro hr hb)
  clear hr hb
  obtain ⟨q, hq⟩ : ∃ q, q = isAtE l s r := ⟨_, rfl⟩
  rw [← hq]
  have HQ := Lib.hid hq
  clear hq
  go_wp2
  exact bodyPost_ret (v := .tuple #[.int .i64 r, .bool q]) (by simp [results, Tryz.results46, go_sem]) rfl ⟨r, by rw [HQ.out], HR.out.1, HR.out.2⟩


set_option maxRecDepth 100000 in
set_option maxHeartbeats 4000000 in
theorem append_end (v : Value) (base n : Nat) (l : List En) (vb : Nat) (p : En) (w : World) (h : w.ownsRow base 79 5 v n (l.flatMap cvE)) (hbase : base ≤ w.heap.size) (hln : l.length = n) (hn : n ≤ 1000)
    (hvb : Blk w vb 79 #[.int .i64 p.1, .int .i64 p.2.1, .int .i64 p.2.2.1, .int .i64 p.2.2.2.1, .int .i64 p.2.2.2.2]) :
    Calls Tryz.prog 86 #[v, .int .i64 n, .slice (some ⟨vb, 0, none⟩) 1 1] w fun e w' =>
      ∃ A c, e = .returned (.slice A (n + 1) c) ∧ w'.ownsRow base 79 5 (.slice A (n + 1) c) (n + 1) ((l ++ [p]).flatMap cvE) ∧ w.grownBy w' v.ownBlock := by
  obtain ⟨tr, hti, hz0, hz1, hz2⟩ := info_parts en_info
  obtain ⟨A, c, rfl⟩ := own_form h
  have hcap := own_cap h
  obtain ⟨g, cap, w', hrun, hown, hg⟩ := append2 (P := Tryz.prog) w 58 57 79 base 79 tr _ 5 40 Tryz.underlying58 Tryz.underlying57 hti hz0 hz1 hz2 rfl (by decide) _ n _ h ⟨vb, 0, none⟩ 1 1 [.int .i64 p.1, .int .i64 p.2.1, .int .i64 p.2.2.1, .int .i64 p.2.2.2.1, .int .i64 p.2.2.2.2] rfl (World.news_of_block hvb) (by intro u hu; simp at hu; rcases hu with rfl | rfl | rfl | rfl | rfl <;> rfl) (by omega) (by unfold maxLen; omega) (by omega) hbase
  have HX := Lib.hid (And.intro hown hg)
  have HL := Lib.hid (cvE_snoc l p)
  obtain ⟨A3, c3, hsl, hsl2⟩ := slice_some (P := Tryz.prog) 58 79 tr Tryz.underlying58 hti A n c n (Nat.le_refl _)
  clear hown hg h hvb hln hcap
  go_enter Tryz.func86, Tryz.ntmps86
  go_wp2_with (at_builtin; refine Lib.wpList_append_run _ rfl _ _ _ _ rfl _ _ rfl rfl _ _ (hrun _) ?_)
  go_ret
  exact ⟨some ⟨g, 0, none⟩, cap, rfl, by rw [HL.out]; exact HX.out.1, HX.out.2⟩

end Go.Proofs.YtaalhglooipnaaaGreat
