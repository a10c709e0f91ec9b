/-
  The walks over Equal, Same, DeleteFunc, Drop of layer 3.
-/
import Derived.Test.YtjedjplpbgnpmaaTurnB
namespace Go.Proofs.Ytjedjplpbgnpmaa
open Go.RowKit
attribute [local go_sem ↓] Go.wp_at_zero Go.wp_at_succ

set_option maxHeartbeats 4000000 in
theorem equal_any (A B : Option Addr) (n c c' B1 B2 : Nat) (l : List ByteArray) (w : World) (hz : Ss w B1 A n l) (hz' : Ss w B2 B n l) (hn : n ≤ 1000) :
    Calls Try.prog 20 #[.slice A n c, .slice B n c'] w fun e w' => e = .returned (.bool true) ∧ Below w.heap.size w w' := by
  have HZ := Lib.hid (And.intro hz hz')
  clear hz hz'
  go_enter Try.func20, Try.ntmps20
  go_wp2_with fail
  go_loopw [13] (fun i wx => ∃ k : Nat, k ≤ n ∧ i = .int .i64 k ∧ Below w.heap.size w wx ∧ Hid (Ss wx B1 A n l ∧ Ss wx B2 B n l)) (fun i _ => n - (intOf i).toNat)
  case atStart => exact ⟨0, Nat.zero_le _, rfl, Below.refl _ _, HZ.out⟩
  case round =>
    obtain ⟨k, hk, rfl, hb, hS⟩ := hrel
    by_cases hlt : k < n
    · obtain ⟨b, off, rfl, hbB, d0⟩ := hS.out.1.str k hlt
      obtain ⟨b2, off2, rfl, hbB2, d1⟩ := hS.out.2.str k hlt
      obtain ⟨t, ht⟩ : ∃ t, t = l.getD k ByteArray.empty := ⟨_, rfl⟩
      rw [← ht] at d0 d1
      have i1 : (0 : Int) ≤ (k : Int) := by omega
      have i2 : (k : Int) < (n : Int) := by omega
      have HB := Lib.hid hb
      clear ht hb
      go_upto_region 6 with fail
      go_region
      all_goals (
        go_wp2_with fail
        go_roundw)
      all_goals first
        | exact ⟨k + 1, by omega, by go_num, HB.out.drew, ⟨fun h => hS.out.1 h, fun h => hS.out.2 h⟩⟩
        | exact ⟨k + 1, by omega, by go_num, HB.out.drew, Lib.hid ⟨hS.out.1, hS.out.2⟩⟩
        | (simp [intOf]; omega)
    · obtain rfl : k = n := by omega
      have HB := Lib.hid hb
      clear hb
      go_wp2
      go_ret
      exact ⟨by first | rfl | simp, HB.out⟩

set_option maxHeartbeats 4000000 in
theorem same_any (A B : Option Addr) (n c c' B1 B2 : Nat) (l : List ByteArray) (w : World) (hz : Ss w B1 A n l) (hz' : Ss w B2 B n l) (hn : n ≤ 1000) :
    Calls Try.prog 10 #[.slice A n c, .slice B n c'] w fun e w' => e = .returned (.bool true) ∧ Below w.heap.size w w' := by
  have HZ := Lib.hid (And.intro hz hz')
  clear hz hz'
  go_enter Try.func10, Try.ntmps10
  go_wp2_with fail
  refine (equal_any A B n c c' B1 B2 l _ HZ.out.1 HZ.out.2 hn).mono ?_
  rintro e w1 ⟨rfl, hb⟩
  have HB := Lib.hid hb
  clear hb
  go_wp2
  go_ret
  exact ⟨rfl, HB.out⟩

/-! ### Without a name -/
def isS (x s : ByteArray) : Bool := decide (x = s)
set_option maxHeartbeats 4000000 in
theorem dropf_any (x s : ByteArray) (p : Nat) (w : World) (hc : w.cell? ⟨p, 0, none⟩ = some (.string s)) :
    Calls Try.prog 32 #[.string x, .pointer (some ⟨p, 0, none⟩)] w fun e w' => e = .returned (.bool (isS x s)) ∧ w' = w := by
  by_cases h : x.toList = s.toList
  · have h2 := toList_inj h
    have HE := Lib.hid (show isS x s = true by simp [isS, h2])
    subst h2
    clear h
    go_enter Try.func32, Try.ntmps32
    go_wp2
    go_ret
    exact ⟨by rw [HE.out]; first | rfl | simp, rfl⟩
  · have h2 : (x.toList == s.toList) = false := by simpa using h
    have HE := Lib.hid (show isS x s = false by simpa [isS] using fun e => h (by rw [e]))
    clear h
    go_enter Try.func32, Try.ntmps32
    go_wp2
    go_ret
    exact ⟨by rw [HE.out]; first | rfl | simp, rfl⟩

def IsIx (l : List ByteArray) (s : ByteArray) (r : Int) : Prop := (r = -1 ∧ ∀ j, j < l.length → l.getD j ByteArray.empty ≠ s) ∨ ∃ k : Nat, r = k ∧ k < l.length ∧ l.getD k ByteArray.empty = s ∧ ∀ j, j < k → l.getD j ByteArray.empty ≠ s
set_option maxHeartbeats 4000000 in
theorem indexf_any (A : Option Addr) (n c B : Nat) (l : List ByteArray) (s : ByteArray) (p : Nat) (w : World) (hz : Ss w B A n l) (hn : n ≤ 1000) (hc : w.cell? ⟨p, 0, none⟩ = some (.string s)) :
    Calls Try.prog 43 #[.slice A n c, .func (.func 32) #[] #[.pointer (some ⟨p, 0, none⟩)]] w fun e w' => ∃ r : Int, e = .returned (.int .i64 r) ∧ IsIx l s r ∧ w' = w := by
  have HZ := Lib.hid hz
  have HC := Lib.hid hc
  clear hz hc
  go_enter Try.func43, Try.ntmps43
  go_wp2_with fail
  go_loopw [8] (fun i wx => ∃ k : Nat, k ≤ n ∧ i = .int .i64 k ∧ wx = w ∧ Hid (∀ j, j < k → l.getD j ByteArray.empty ≠ s)) (fun i _ => n - (intOf i).toNat)
  case atStart => exact ⟨0, Nat.zero_le _, rfl, rfl, fun j hj => by omega⟩
  case round =>
    obtain ⟨k, hk, rfl, hw, hH⟩ := hrel
    subst hw
    by_cases hlt : k < n
    · obtain ⟨b, off, rfl, hbB, d0⟩ := HZ.out.str k hlt
      obtain ⟨t, ht⟩ : ∃ t, t = l.getD k ByteArray.empty := ⟨_, rfl⟩
      rw [← ht] at d0
      have HT := Lib.hid ht
      have i1 : (0 : Int) ≤ (k : Int) := by omega
      have i2 : (k : Int) < (n : Int) := by omega
      clear ht
      go_wp2_with (go_at_call 32; refine (dropf_any t s p _ HC.out).mono ?_; rintro e w1 ⟨rfl, rfl⟩; by_cases hq : isS t s = true <;> first | rw [hq] | rw [Bool.eq_false_iff.2 hq])
      · have HM := Lib.hid (show IsIx l s k from .inr ⟨k, rfl, by have := HZ.out.1; omega, by rw [← HT.out]; simpa [isS] using hq, hH.out⟩)
        go_ret
        exact ⟨k, by first | rfl | simp, HM.out, rfl⟩
      · have HN := Lib.hid (show t ≠ s by simpa [isS] using hq)
        go_roundw
        case rel => exact ⟨k + 1, by omega, by go_num, trivial, fun j hj => by
          by_cases e : j = k
          · rw [e, ← HT.out]; exact HN.out
          · exact hH.out j (by omega)⟩
        case measure => simp [intOf]; omega
    · obtain rfl : k = n := by omega
      have HN := Lib.hid (show IsIx l s (-1) from .inl ⟨rfl, fun j hj => hH.out j (by have := HZ.out.1; omega)⟩)
      go_wp2
      go_ret
      exact ⟨-1, by first | rfl | simp, HN.out, rfl⟩

/-- Without a name. -/
def offS (s : ByteArray) (l : List ByteArray) : List ByteArray := l.filter fun x => !isS x s
theorem offS_snoc (s : ByteArray) (l : List ByteArray) (k : Nat) (h : k < l.length) : offS s (l.take (k + 1)) = if isS (l.getD k ByteArray.empty) s = true then offS s (l.take k) else offS s (l.take k) ++ [l.getD k ByteArray.empty] := by
  rw [take_snoc l ByteArray.empty k h, offS, List.filter_append]
  generalize l.getD k ByteArray.empty = x
  by_cases e : isS x s = true
  · rw [if_pos e]; simp [offS, e]
  · rw [if_neg e]; simp [offS, e]
theorem offS_id (s : ByteArray) (l : List ByteArray) (h : ∀ j, j < l.length → l.getD j ByteArray.empty ≠ s) : offS s l = l := by
  apply List.filter_eq_self.2
  intro a ha
  obtain ⟨i, h1, h2⟩ := List.mem_iff_getElem.1 ha
  have := h i h1
  simpa [isS, List.getD, h1, h2] using this
/-- In the midst of taking a name out. -/
structure Del (s : ByteArray) (l ys : List ByteArray) (j i : Nat) : Prop where
  len : ys.length = l.length
  head : ys.take i = offS s (l.take j)
  tail : ∀ m, j ≤ m → ys.getD m ByteArray.empty = l.getD m ByteArray.empty
  lt : i < j
  jl : j ≤ l.length
theorem Del.start {s : ByteArray} {l : List ByteArray} {k : Nat} (hk : k < l.length) (he : l.getD k ByteArray.empty = s) (hn : ∀ j, j < k → l.getD j ByteArray.empty ≠ s) : Del s l l (k + 1) k :=
  ⟨rfl, by
    rw [offS_snoc s l k hk, if_pos (by rw [he]; simp [isS])]
    refine (offS_id s _ fun j hj => ?_).symm
    have hj2 : j < k := by rw [List.length_take] at hj; omega
    have := hn j hj2
    simpa [List.getD, List.getElem?_take, hj2] using this, fun _ _ => rfl, Nat.lt_succ_self _, hk⟩
theorem Del.skip {s : ByteArray} {l ys : List ByteArray} {j i : Nat} (d : Del s l ys j i) (hj : j < l.length) (he : isS (l.getD j ByteArray.empty) s = true) : Del s l ys (j + 1) i :=
  ⟨d.len, by rw [offS_snoc s l j hj, if_pos he]; exact d.head, fun m hm => d.tail m (by omega), by have := d.lt; omega, hj⟩
theorem Del.keep {s : ByteArray} {l ys : List ByteArray} {j i : Nat} (d : Del s l ys j i) (hj : j < l.length) (he : isS (l.getD j ByteArray.empty) s = false) : Del s l (ys.set i (l.getD j ByteArray.empty)) (j + 1) (i + 1) := by
  have h1 := d.len
  have h2 := d.lt
  refine ⟨by rw [List.length_set]; exact h1, ?_, fun m hm => ?_, by omega, hj⟩
  · rw [offS_snoc s l j hj, if_neg (by rw [he]; decide), ← d.head, take_snoc _ ByteArray.empty i (by rw [List.length_set]; omega), List.take_set_of_le (Nat.le_refl _)]
    simp [List.getD, show i < ys.length by omega]
  · have := d.tail m (by omega)
    rw [← this]
    simp [List.getD, show i ≠ m by omega]
theorem Del.fin {s : ByteArray} {l ys : List ByteArray} {i : Nat} (d : Del s l ys l.length i) : ys.take i = offS s l := by
  have := d.head
  rwa [List.take_length] at this
theorem cvS_set (l : List ByteArray) (i : Nat) (s : ByteArray) : (l.set i s).flatMap cvS = (l.flatMap cvS).set i (.string s) := by
  have e : ∀ l : List ByteArray, l.flatMap cvS = l.map Value.string := fun l => by induction l with
    | nil => rfl
    | cons a l ih => simp only [List.flatMap_cons, ih, cvS, List.map_cons]; rfl
  rw [e, e, List.map_set]
theorem cvS_take (l : List ByteArray) (i : Nat) : (l.take i).flatMap cvS = (l.flatMap cvS).take i := by
  have e : ∀ l : List ByteArray, l.flatMap cvS = l.map Value.string := fun l => by induction l with
    | nil => rfl
    | cons a l ih => simp only [List.flatMap_cons, ih, cvS, List.map_cons]; rfl
  rw [e, e, List.map_take]

/-- 'clear(s[i:])', of which 's[:i]' is left. -/
theorem clear_own {P : Program} {w : World} (t : TypeId) (base : Nat) (e : TypeId) (i : TypeInfo) (z : Value) (k : Nat) (ht : P.underlying t = some (.slice e)) (hi : P.info? e = some i) (hz : i.zero = some z) (hk : z.cells.size = k) (h1 : ∀ v ∈ z.cells, v.oneCell' = true)
    (g n cap m o' c' : Nat) (xs : List Value) (hm : 0 < m) (q : Nat) (hq : q * k = o') (hqm : q + m = n) (hown : w.ownsRow base e k (.slice (some ⟨g, 0, none⟩) n cap) n xs) :
    ∃ w', (∀ ty, (Builtin.clear_ #[t] ty #[.slice (some ⟨g, o', none⟩) m c']).run P w = .ok (.tuple #[]) w') ∧ w'.ownsRow base e k (.slice (some ⟨g, 0, none⟩) q cap) q (xs.take o') ∧ w.grownBy w' (some g) := by
  obtain ⟨cur, hb, hg, hnc, hcm, hcs, htake⟩ := own_row hown
  have hfit : o' + m * k ≤ cur.size := by rw [hcs, ← hq, ← Nat.add_mul, hqm]; exact Nat.mul_le_mul_right k hnc
  have hrun := fun ty => run_clear_rowK (P := P) w t e ty i z k ht hi hz hk h1 g o' m c' hm cur hg hfit
  have hzl : (Builtin.zeroCells z.cells m).toList.length = m * k := by rw [Array.length_toList, size_zeroCells, hk]
  refine ⟨_, hrun, ?_, grown_setRow w g _⟩
  have hlen : (splice cur.toList o' (Builtin.zeroCells z.cells m).toList).length = cur.size := by
    rw [length_splice _ _ _ (by rw [hzl, Array.length_toList]; exact hfit), Array.length_toList]
  have r := row_own (w := w.setRow g (splice cur.toList o' (Builtin.zeroCells z.cells m).toList).toArray) (n := q) (cap := cap) (k := k) (e := e) hb (setRow_heap w g cur _ e _ hg) (by omega) hcm (by rw [List.size_toArray, hlen, hcs])
  rw [List.toList_toArray, take_splice _ _ _ (by rw [Array.length_toList]; omega) _ (by omega), hq] at r
  rw [← htake, List.take_take, Nat.min_eq_left (by rw [← hq]; exact Nat.mul_le_mul_right k (by omega))]
  exact r

theorem str_one : ∀ v ∈ (Value.string ByteArray.empty).cells, v.oneCell' = true := by decide
set_option maxRecDepth 100000 in
set_option maxHeartbeats 8000000 in
theorem deletef_any (v : Value) (base n : Nat) (l : List ByteArray) (s : ByteArray) (p : Nat) (w : World) (h : w.ownsRow base 9 1 v n (l.flatMap cvS)) (hln : l.length = n) (hn : n ≤ 1000) (hp : p < base) (hc : w.cell? ⟨p, 0, none⟩ = some (.string s)) :
    Calls Try.prog 40 #[v, .func (.func 32) #[] #[.pointer (some ⟨p, 0, none⟩)]] w fun e w' =>
      ∃ A c, e = .returned (.slice A (offS s l).length c) ∧ w'.ownsRow base 9 1 (.slice A (offS s l).length c) (offS s l).length ((offS s l).flatMap cvS) ∧ w.grownBy w' v.ownBlock := by
  obtain ⟨tr, hi, hz0, hz1, hz2⟩ := info_parts str_info
  obtain ⟨A, c, rfl⟩ := own_form h
  have HR := Lib.hid (Rd.of_own (cv := cvS) (d := ByteArray.empty) (fun _ => rfl) h hln)
  have HC := Lib.hid hc
  have HO := Lib.hid h
  have HL := Lib.hid hln
  clear h hc hln
  go_enter Try.func40, Try.ntmps40
  go_wp2_with fail
  refine (indexf_any A n c _ l s p _ HR.out hn HC.out).mono ?_
  rintro e w1 ⟨r, rfl, hr, rfl⟩
  rcases hr with ⟨rfl, hne⟩ | ⟨k0, rfl, hk0, he0, hn0⟩
  · have HE := Lib.hid (offS_id s l hne)
    clear hne
    go_wp2
    go_ret
    rw [HE.out, HL.out]
    exact ⟨A, c, rfl, HO.out, World.grownBy.refl _ _⟩
  · have HD := Lib.hid (Del.start hk0 he0 hn0)
    rw [HL.out] at hk0
    obtain ⟨g, cap, hv, hg, hgl⟩ := HO.out.form (by omega)
    injection hv with hA1 hA2 hA3
    subst hA1 hA3
    clear hA2 he0 hn0 HR
    have hh : ((k0 : Int) == -1) = false := by rw [beq_eq_false_iff_ne]; omega
    go_wp2_with fail
    go_loopw [5, 6] (fun vi vj wx => ∃ (i j : Nat) (ys : List ByteArray), vi = .int .i64 i ∧ vj = .int .i64 j ∧ i < j ∧ j ≤ n ∧ Hid (Del s l ys j i) ∧ wx.ownsRow base 9 1 (.slice (some ⟨g, 0, none⟩) n c) n (ys.flatMap cvS) ∧ w1.grownBy wx (some g)) (fun _ j _ => n - (intOf j).toNat)
    case atStart => exact ⟨k0, k0 + 1, l, rfl, by go_num, by omega, by omega, HD.out, HO.out, World.grownBy.refl _ _⟩
    case round =>
      obtain ⟨i, j, ys, rfl, rfl, hij, hjn, hD, hown, hg2⟩ := hrel
      by_cases hlt : j < n
      · have hyl := hD.out.len.trans HL.out
        obtain ⟨b, off, hA, hbB, d0⟩ := (Rd.of_own (cv := cvS) (d := ByteArray.empty) (fun _ => rfl) hown hyl).str j hlt
        injection hA with hA
        injection hA with hA1 hA2
        subst hA1 hA2
        rw [Nat.zero_add] at d0
        rw [hD.out.tail j (Nat.le_refl _)] at d0
        have HDk := Lib.hid (hD.out.keep (by rw [HL.out]; exact hlt))
        have HDs := Lib.hid (hD.out.skip (by rw [HL.out]; exact hlt))
        obtain ⟨x, hx⟩ : ∃ x, x = l.getD j ByteArray.empty := ⟨_, rfl⟩
        rw [← hx] at d0 HDk HDs
        have i1 : (0 : Int) ≤ (j : Int) := by omega
        have i2 : (j : Int) < (n : Int) := by omega
        have i3 : (0 : Int) ≤ (i : Int) := by omega
        have i4 : (i : Int) < (n : Int) := by omega
        have hcp : wr.cell? ⟨p, 0, none⟩ = some (.string s) := (hg2.cell (a := ⟨p, 0, none⟩) HC.out (fun e => absurd (Option.some.inj e : p = g) (by omega)))
        obtain ⟨u0, hu0⟩ : ∃ u, wr.cell? ⟨g, i, none⟩ = some u := by
          rw [hown.cellAt i (by omega)]
          exact ⟨_, List.getElem?_eq_getElem (by rw [cvS_len]; omega)⟩
        have hf0 := hown.frozenAt i
        have HCP := Lib.hid hcp
        have HOW := Lib.hid (And.intro hown hg2)
        have HYL := Lib.hid hyl
        clear hx hcp hown hg2 hyl
        by_cases hq : isS x s = true
        · go_wp2_with (go_at_call 32; refine (dropf_any x s p _ HCP.out).mono ?_; rintro e w2 ⟨rfl, rfl⟩; rw [hq])
          go_roundw
          case rel => exact ⟨i, j + 1, ys, rfl, by go_num, by omega, by omega, HDs.out hq, HOW.out.1, HOW.out.2⟩
          case measure => simp [intOf]; omega
        · have hq2 := Bool.eq_false_iff.2 hq
          have HS := Lib.hid (HOW.out.1.stored i (.string x))
          go_wp2_with (go_at_call 32; refine (dropf_any x s p _ HCP.out).mono ?_; rintro e w2 ⟨rfl, rfl⟩; rw [hq2])
          go_roundw
          case rel => exact ⟨i + 1, j + 1, ys.set i x, by go_num, by go_num, by omega, by omega, HDk.out hq2, by rw [cvS_set]; exact HS.out.1, only_trans HOW.out.2 HS.out.2⟩
          case measure => simp [intOf]; omega
      · obtain rfl : j = n := by omega
        have HDN := Lib.hid (show ys.take i = offS s l by have := hD.out; rw [← HL.out] at this; exact this.fin)
        have HOL := Lib.hid (show (offS s l).length = i by rw [← HDN.out, List.length_take, hD.out.len, HL.out]; omega)
        have HOW := Lib.hid (And.intro hown hg2)
        have hcap := (own_cap hown).1
        have i1 : (0 : Int) ≤ (i : Int) := by omega
        have i2 : (i : Int) ≤ (j : Int) := by omega
        have i3 : ¬ (c = i) := by omega
        clear hown hg2
        obtain ⟨w3, hcl, hown3, hg3⟩ := clear_own (P := Try.prog) 22 base 9 tr _ 1 Try.underlying22 hi hz0 rfl str_one g j c (j - i) i (c - i) _ (by omega) i (by omega) (by omega) HOW.out.1
        have HF := Lib.hid (And.intro hown3 hg3)
        clear hown3 hg3
        go_wp2
        go_ret
        rw [HOL.out]
        refine ⟨some ⟨g, 0, none⟩, c, rfl, ?_, only_trans HOW.out.2 HF.out.2⟩
        rw [← HDN.out, cvS_take]
        exact HF.out.1

set_option maxHeartbeats 4000000 in
theorem without_any (v : Value) (base n : Nat) (l : List ByteArray) (s : ByteArray) (p : Nat) (w : World) (h : w.ownsRow base 9 1 v n (l.flatMap cvS)) (hln : l.length = n) (hn : n ≤ 1000) (hc : w.cell? ⟨p, 0, none⟩ = some (.string s)) (hp : p < w.heap.size) :
    Calls Try.prog 31 #[v, .func (.func 32) #[] #[.pointer (some ⟨p, 0, none⟩)]] w (StrPost w (offS s l)) := by
  have HO := Lib.hid (And.intro h hln)
  have HC := Lib.hid hc
  clear h hc hln
  go_enter Try.func31, Try.ntmps31
  go_wp2_with fail
  refine (clone_any v base n l _ HO.out.1 HO.out.2 (by omega)).mono ?_
  rintro e w1 ⟨A, c, rfl, hown, hb⟩
  have HX := Lib.hid (And.intro hown hb)
  clear hown hb
  go_wp2_with fail
  refine (deletef_any _ _ l.length l s p _ HX.out.1 rfl (by rw [HO.out.2]; exact hn) hp ((HX.out.2.cell (p := ⟨p, 0, none⟩) hp).trans HC.out)).mono ?_
  rintro e w2 ⟨A2, c2, rfl, hown, hg⟩
  have HY := Lib.hid (And.intro hown (HX.out.2.grown hg HX.out.2.size (fun j hj => (HX.out.1.lt j hj).1)))
  clear hown hg
  go_wp2
  go_ret
  exact ⟨A2, c2, rfl, HY.out.1, HY.out.2⟩

set_option maxHeartbeats 4000000 in
theorem drop_any (v : Value) (base n : Nat) (l : List ByteArray) (s : ByteArray) (w : World) (h : w.ownsRow base 9 1 v n (l.flatMap cvS)) (hln : l.length = n) (hn : n ≤ 1000) :
    Calls Try.prog 21 #[v, .string s] w (StrPost w (offS s l)) := by
  have HO := Lib.hid (And.intro (h.alloc (.cells #[.string s] 9)) hln)
  clear h hln
  go_enter Try.func21, Try.ntmps21
  go_wp2_with fail
  refine (without_any v base n l s w.heap.size _ HO.out.1 HO.out.2 hn ((Blk.new w 9 #[.string s]).cell 0) (by simp)).mono ?_
  rintro e w2 ⟨A2, c2, rfl, hown, hb⟩
  have HY := Lib.hid (And.intro (own_base hown (by simp : w.heap.size ≤ _)) (((Below.refl w.heap.size w).alloc (Nat.le_refl _) _).trans (hb.mono (by simp : w.heap.size ≤ _))))
  clear hown hb
  go_wp2
  go_ret
  exact ⟨A2, c2, rfl, HY.out.1, HY.out.2⟩

end Go.Proofs.Ytjedjplpbgnpmaa
