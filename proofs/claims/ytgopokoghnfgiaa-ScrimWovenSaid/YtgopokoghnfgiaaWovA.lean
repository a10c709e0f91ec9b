/-
  The walks over DeleteFunc at ints, out (layer 12).
-/
import Derived.Test.YtgopokoghnfgiaaWovL
namespace Go.Proofs.Ytgopokoghnfgiaa
open Go.RowKit
attribute [local go_sem ↓] Go.wp_at_zero Go.wp_at_succ

/-! ### Without a name -/
def isI (x s : Int) : Bool := decide (x = s)
set_option maxHeartbeats 4000000 in
theorem dropf_any (x s : Int) (p : Nat) (w : World) (hc : w.cell? ⟨p, 0, none⟩ = some (.int .i64 s)) :
    Calls Try.prog 54 #[.int .i64 x, .pointer (some ⟨p, 0, none⟩)] w fun e w' => e = .returned (.bool (isI x s)) ∧ w' = w := by
  by_cases h : x = s
  · have HE := Lib.hid (show isI x s = true by simp [isI, h])
    subst h
    go_enter Try.func54, Try.ntmps54
    go_wp2
    go_ret
    exact ⟨by rw [HE.out]; first | rfl | simp, rfl⟩
  · have h2 : (x == s) = false := by simpa using h
    have HE := Lib.hid (show isI x s = false by simpa [isI] using h)
    clear h
    go_enter Try.func54, Try.ntmps54
    go_wp2
    go_ret
    exact ⟨by rw [HE.out]; first | rfl | simp, rfl⟩

def IsIx (l : List Int) (s : Int) (r : Int) : Prop := (r = -1 ∧ ∀ j, j < l.length → l.getD j 0 ≠ s) ∨ ∃ k : Nat, r = k ∧ k < l.length ∧ l.getD k 0 = s ∧ ∀ j, j < k → l.getD j 0 ≠ s
set_option maxHeartbeats 4000000 in
theorem indexf_any (A : Option Addr) (n c B : Nat) (l : List Int) (s : Int) (p : Nat) (w : World) (hz : Nums w B A n l) (hn : n ≤ 1000) (hc : w.cell? ⟨p, 0, none⟩ = some (.int .i64 s)) :
    Calls Try.prog 60 #[.slice A n c, .func (.func 54) #[] #[.pointer (some ⟨p, 0, none⟩)]] w fun e w' => ∃ r : Int, e = .returned (.int .i64 r) ∧ IsIx l s r ∧ w' = w := by
  have HZ := Lib.hid hz
  have HC := Lib.hid hc
  clear hz hc
  go_enter Try.func60, Try.ntmps60
  go_wp2_with fail
  go_loopw [8] (fun i wx => ∃ k : Nat, k ≤ n ∧ i = .int .i64 k ∧ wx = w ∧ Hid (∀ j, j < k → l.getD j 0 ≠ s)) (fun i _ => n - (intOf i).toNat)
  case atStart => exact ⟨0, Nat.zero_le _, rfl, rfl, fun j hj => by omega⟩
  case round =>
    obtain ⟨k, hk, rfl, hw, hH⟩ := hrel
    subst hw
    by_cases hlt : k < n
    · obtain ⟨b, off, rfl, hbB, d0⟩ := HZ.out.2 k hlt
      obtain ⟨t, ht⟩ : ∃ t, t = l.getD k 0 := ⟨_, rfl⟩
      rw [← ht] at d0
      have HT := Lib.hid ht
      have i1 : (0 : Int) ≤ (k : Int) := by omega
      have i2 : (k : Int) < (n : Int) := by omega
      clear ht
      go_wp2_with (go_at_call 54; refine (dropf_any t s p _ HC.out).mono ?_; rintro e w1 ⟨rfl, rfl⟩; by_cases hq : isI t s = true <;> first | rw [hq] | rw [Bool.eq_false_iff.2 hq])
      · have HM := Lib.hid (show IsIx l s k from .inr ⟨k, rfl, by have := HZ.out.1; omega, by rw [← HT.out]; simpa [isI] using hq, hH.out⟩)
        go_ret
        exact ⟨k, by first | rfl | simp, HM.out, rfl⟩
      · have HN := Lib.hid (show t ≠ s by simpa [isI] using hq)
        go_roundw
        case rel => exact ⟨k + 1, by omega, by go_num, trivial, fun j hj => by
          by_cases e : j = k
          · rw [e, ← HT.out]; exact HN.out
          · exact hH.out j (by omega)⟩
        case measure => simp [intOf]; omega
    · obtain rfl : k = n := by omega
      have HN := Lib.hid (show IsIx l s (-1) from .inl ⟨rfl, fun j hj => hH.out j (by have := HZ.out.1; omega)⟩)
      go_wp2
      go_ret
      exact ⟨-1, by first | rfl | simp, HN.out, rfl⟩

/-- Without a name. -/
def offI (s : Int) (l : List Int) : List Int := l.filter fun x => !isI x s
theorem offI_snoc (s : Int) (l : List Int) (k : Nat) (h : k < l.length) : offI s (l.take (k + 1)) = if isI (l.getD k 0) s = true then offI s (l.take k) else offI s (l.take k) ++ [l.getD k 0] := by
  rw [take_snoc l 0 k h, offI, List.filter_append]
  generalize l.getD k 0 = x
  by_cases e : isI x s = true
  · rw [if_pos e]; simp [offI, e]
  · rw [if_neg e]; simp [offI, e]
theorem offI_id (s : Int) (l : List Int) (h : ∀ j, j < l.length → l.getD j 0 ≠ s) : offI s l = l := by
  apply List.filter_eq_self.2
  intro a ha
  obtain ⟨i, h1, h2⟩ := List.mem_iff_getElem.1 ha
  have := h i h1
  simpa [isI, List.getD, h1, h2] using this
/-- In the midst of taking a name out. -/
structure Del (s : Int) (l ys : List Int) (j i : Nat) : Prop where
  len : ys.length = l.length
  head : ys.take i = offI s (l.take j)
  tail : ∀ m, j ≤ m → ys.getD m 0 = l.getD m 0
  lt : i < j
  jl : j ≤ l.length
theorem Del.start {s : Int} {l : List Int} {k : Nat} (hk : k < l.length) (he : l.getD k 0 = s) (hn : ∀ j, j < k → l.getD j 0 ≠ s) : Del s l l (k + 1) k :=
  ⟨rfl, by
    rw [offI_snoc s l k hk, if_pos (by rw [he]; simp [isI])]
    refine (offI_id s _ fun j hj => ?_).symm
    have hj2 : j < k := by rw [List.length_take] at hj; omega
    have := hn j hj2
    simpa [List.getD, List.getElem?_take, hj2] using this, fun _ _ => rfl, Nat.lt_succ_self _, hk⟩
theorem Del.skip {s : Int} {l ys : List Int} {j i : Nat} (d : Del s l ys j i) (hj : j < l.length) (he : isI (l.getD j 0) s = true) : Del s l ys (j + 1) i :=
  ⟨d.len, by rw [offI_snoc s l j hj, if_pos he]; exact d.head, fun m hm => d.tail m (by omega), by have := d.lt; omega, hj⟩
theorem Del.keep {s : Int} {l ys : List Int} {j i : Nat} (d : Del s l ys j i) (hj : j < l.length) (he : isI (l.getD j 0) s = false) : Del s l (ys.set i (l.getD j 0)) (j + 1) (i + 1) := by
  have h1 := d.len
  have h2 := d.lt
  refine ⟨by rw [List.length_set]; exact h1, ?_, fun m hm => ?_, by omega, hj⟩
  · rw [offI_snoc s l j hj, if_neg (by rw [he]; decide), ← d.head, take_snoc _ 0 i (by rw [List.length_set]; omega), List.take_set_of_le (Nat.le_refl _)]
    simp [List.getD, show i < ys.length by omega]
  · have := d.tail m (by omega)
    rw [← this]
    simp [List.getD, show i ≠ m by omega]
theorem Del.fin {s : Int} {l ys : List Int} {i : Nat} (d : Del s l ys l.length i) : ys.take i = offI s l := by
  have := d.head
  rwa [List.take_length] at this
theorem nums_set (l : List Int) (i : Nat) (s : Int) : nums (l.set i s) = (nums l).set i (.int .i64 s) := by rw [nums, nums, List.map_set]
theorem nums_take (l : List Int) (i : Nat) : nums (l.take i) = (nums l).take i := by rw [nums, nums, List.map_take]

/-- 'clear(s[i:])', of which 's[:i]' is left. -/
theorem clear_own {P : Program} {w : World} (t : TypeId) (base : Nat) (e : TypeId) (i : TypeInfo) (z : Value) (k : Nat) (ht : P.underlying t = some (.slice e)) (hi : P.info? e = some i) (hz : i.zero = some z) (hk : z.cells.size = k) (h1 : ∀ v ∈ z.cells, v.oneCell' = true)
    (g n cap m o' c' : Nat) (xs : List Value) (hm : 0 < m) (q : Nat) (hq : q * k = o') (hqm : q + m = n) (hown : w.ownsRow base e k (.slice (some ⟨g, 0, none⟩) n cap) n xs) :
    ∃ w', (∀ ty, (Builtin.clear_ #[t] ty #[.slice (some ⟨g, o', none⟩) m c']).run P w = .ok (.tuple #[]) w') ∧ w'.ownsRow base e k (.slice (some ⟨g, 0, none⟩) q cap) q (xs.take o') ∧ w.grownBy w' (some g) := by
  obtain ⟨cur, hb, hg, hnc, hcm, hcs, htake⟩ := own_row hown
  have hfit : o' + m * k ≤ cur.size := by rw [hcs, ← hq, ← Nat.add_mul, hqm]; exact Nat.mul_le_mul_right k hnc
  have hrun := fun ty => run_clear_rowK (P := P) w t e ty i z k ht hi hz hk h1 g o' m c' hm cur hg hfit
  have hzl : (Builtin.zeroCells z.cells m).toList.length = m * k := by rw [Array.length_toList, size_zeroCells, hk]
  refine ⟨_, hrun, ?_, grown_setRow w g _⟩
  have hlen : (splice cur.toList o' (Builtin.zeroCells z.cells m).toList).length = cur.size := by
    rw [length_splice _ _ _ (by rw [hzl, Array.length_toList]; exact hfit), Array.length_toList]
  have r := row_own (w := w.setRow g (splice cur.toList o' (Builtin.zeroCells z.cells m).toList).toArray) (n := q) (cap := cap) (k := k) (e := e) hb (setRow_heap w g cur _ e _ hg) (by omega) hcm (by rw [List.size_toArray, hlen, hcs])
  rw [List.toList_toArray, take_splice _ _ _ (by rw [Array.length_toList]; omega) _ (by omega), hq] at r
  rw [← htake, List.take_take, Nat.min_eq_left (by rw [← hq]; exact Nat.mul_le_mul_right k (by omega))]
  exact r

theorem int_one : ∀ v ∈ (Value.int .i64 0).cells, v.oneCell' = true := by decide
set_option maxRecDepth 100000 in
set_option maxHeartbeats 8000000 in
theorem deletef_any (v : Value) (base n : Nat) (l : List Int) (s : Int) (p : Nat) (w : World) (h : w.ownsRow base 3 1 v n (nums (l))) (hln : l.length = n) (hn : n ≤ 1000) (hp : v.ownBlock ≠ some p) (hc : w.cell? ⟨p, 0, none⟩ = some (.int .i64 s)) :
    Calls Try.prog 53 #[v, .func (.func 54) #[] #[.pointer (some ⟨p, 0, none⟩)]] w fun e w' =>
      ∃ A c, e = .returned (.slice A (offI s l).length c) ∧ w'.ownsRow base 3 1 (.slice A (offI s l).length c) (offI s l).length (nums (offI s l)) ∧ w.grownBy w' v.ownBlock := by
  obtain ⟨tr, hi, hz0, hz1, hz2⟩ := info_parts winfo
  obtain ⟨A, c, rfl⟩ := own_form h
  have HR := Lib.hid (Nums.of_own h hln)
  have HC := Lib.hid hc
  have HO := Lib.hid h
  have HL := Lib.hid hln
  clear h hc hln
  go_enter Try.func53, Try.ntmps53
  go_wp2_with fail
  refine (indexf_any A n c _ l s p _ HR.out hn HC.out).mono ?_
  rintro e w1 ⟨r, rfl, hr, rfl⟩
  rcases hr with ⟨rfl, hne⟩ | ⟨k0, rfl, hk0, he0, hn0⟩
  · have HE := Lib.hid (offI_id s l hne)
    clear hne
    go_wp2
    go_ret
    rw [HE.out, HL.out]
    exact ⟨A, c, rfl, HO.out, World.grownBy.refl _ _⟩
  · have HD := Lib.hid (Del.start hk0 he0 hn0)
    rw [HL.out] at hk0
    obtain ⟨g, cap, hv, hg, hgl⟩ := HO.out.form (by omega)
    injection hv with hA1 hA2 hA3
    subst hA1 hA3
    have hpg : p ≠ g := fun e => hp (by subst e; rfl)
    clear hA2 he0 hn0 HR hp
    have hh : ((k0 : Int) == -1) = false := by rw [beq_eq_false_iff_ne]; omega
    go_wp2_with fail
    go_loopw [5, 6] (fun vi vj wx => ∃ (i j : Nat) (ys : List Int), vi = .int .i64 i ∧ vj = .int .i64 j ∧ i < j ∧ j ≤ n ∧ Hid (Del s l ys j i) ∧ wx.ownsRow base 3 1 (.slice (some ⟨g, 0, none⟩) n c) n (nums (ys)) ∧ w1.grownBy wx (some g)) (fun _ j _ => n - (intOf j).toNat)
    case atStart => exact ⟨k0, k0 + 1, l, rfl, by go_num, by omega, by omega, HD.out, HO.out, World.grownBy.refl _ _⟩
    case round =>
      obtain ⟨i, j, ys, rfl, rfl, hij, hjn, hD, hown, hg2⟩ := hrel
      by_cases hlt : j < n
      · have hyl := hD.out.len.trans HL.out
        obtain ⟨b, off, hA, hbB, d0⟩ := (Nums.of_own hown hyl).2 j hlt
        injection hA with hA
        injection hA with hA1 hA2
        subst hA1 hA2
        rw [Nat.zero_add] at d0
        rw [hD.out.tail j (Nat.le_refl _)] at d0
        have HDk := Lib.hid (hD.out.keep (by rw [HL.out]; exact hlt))
        have HDs := Lib.hid (hD.out.skip (by rw [HL.out]; exact hlt))
        obtain ⟨x, hx⟩ : ∃ x, x = l.getD j 0 := ⟨_, rfl⟩
        rw [← hx] at d0 HDk HDs
        have i1 : (0 : Int) ≤ (j : Int) := by omega
        have i2 : (j : Int) < (n : Int) := by omega
        have i3 : (0 : Int) ≤ (i : Int) := by omega
        have i4 : (i : Int) < (n : Int) := by omega
        have hcp : wr.cell? ⟨p, 0, none⟩ = some (.int .i64 s) := (hg2.cell (a := ⟨p, 0, none⟩) HC.out (fun e => hpg (Option.some.inj e)))
        obtain ⟨u0, hu0⟩ : ∃ u, wr.cell? ⟨g, i, none⟩ = some u := by
          rw [hown.cellAt i (by omega)]
          exact ⟨_, List.getElem?_eq_getElem (by rw [nums_len]; omega)⟩
        have hf0 := hown.frozenAt i
        have HCP := Lib.hid hcp
        have HOW := Lib.hid (And.intro hown hg2)
        have HYL := Lib.hid hyl
        clear hx hcp hown hg2 hyl
        by_cases hq : isI x s = true
        · go_wp2_with (go_at_call 54; refine (dropf_any x s p _ HCP.out).mono ?_; rintro e w2 ⟨rfl, rfl⟩; rw [hq])
          go_roundw
          case rel => exact ⟨i, j + 1, ys, rfl, by go_num, by omega, by omega, HDs.out hq, HOW.out.1, HOW.out.2⟩
          case measure => simp [intOf]; omega
        · have hq2 := Bool.eq_false_iff.2 hq
          have HS := Lib.hid (HOW.out.1.stored i (.int .i64 x))
          go_wp2_with (go_at_call 54; refine (dropf_any x s p _ HCP.out).mono ?_; rintro e w2 ⟨rfl, rfl⟩; rw [hq2])
          go_roundw
          case rel => exact ⟨i + 1, j + 1, ys.set i x, by go_num, by go_num, by omega, by omega, HDk.out hq2, by rw [nums_set]; exact HS.out.1, only_trans HOW.out.2 HS.out.2⟩
          case measure => simp [intOf]; omega
      · obtain rfl : j = n := by omega
        have HDN := Lib.hid (show ys.take i = offI s l by have := hD.out; rw [← HL.out] at this; exact this.fin)
        have HOL := Lib.hid (show (offI s l).length = i by rw [← HDN.out, List.length_take, hD.out.len, HL.out]; omega)
        have HOW := Lib.hid (And.intro hown hg2)
        have hcap := (own_cap hown).1
        have i1 : (0 : Int) ≤ (i : Int) := by omega
        have i2 : (i : Int) ≤ (j : Int) := by omega
        have i3 : ¬ (c = i) := by omega
        clear hown hg2
        obtain ⟨w3, hcl, hown3, hg3⟩ := clear_own (P := Try.prog) 30 base 3 tr _ 1 Try.underlying30 hi hz0 rfl int_one g j c (j - i) i (c - i) _ (by omega) i (by omega) (by omega) HOW.out.1
        have HF := Lib.hid (And.intro hown3 hg3)
        clear hown3 hg3
        go_wp2
        go_ret
        rw [HOL.out]
        refine ⟨some ⟨g, 0, none⟩, c, rfl, ?_, only_trans HOW.out.2 HF.out.2⟩
        rw [← HDN.out, nums_take]
        exact HF.out.1

set_option maxHeartbeats 4000000 in
theorem out_any (v : Value) (base n : Nat) (l : List Int) (s : Int) (w : World) (h : w.ownsRow base 3 1 v n (nums l)) (hln : l.length = n) (hn : n ≤ 1000) :
    Calls Try.prog 43 #[v, .int .i64 s] w fun e w' =>
      ∃ A c, e = .returned (.slice A (offI s l).length c) ∧ w'.ownsRow base 3 1 (.slice A (offI s l).length c) (offI s l).length (nums (offI s l)) ∧ w.grownBy w' v.ownBlock := by
  have HO := Lib.hid (And.intro (h.alloc (.cells #[.int .i64 s] 3)) hln)
  have HB := Lib.hid (only_alloc (World.grownBy.refl w v.ownBlock) (.cells #[.int .i64 s] 3))
  have HN := Lib.hid (show v.ownBlock ≠ some w.heap.size from fun e => by have := (h.lt _ e).2; omega)
  clear h hln
  go_enter Try.func43, Try.ntmps43
  go_wp2_with fail
  refine (deletef_any v base n l s w.heap.size _ HO.out.1 HO.out.2 hn HN.out ((Blk.new w 3 #[.int .i64 s]).cell 0)).mono ?_
  rintro e w2 ⟨A2, c2, rfl, hown, hg⟩
  have HY := Lib.hid (And.intro hown (only_trans HB.out hg))
  clear hown hg
  go_wp2
  go_ret
  exact ⟨A2, c2, rfl, HY.out.1, HY.out.2⟩

/-! ### Index, Contains -/
def IsIxI (l : List Int) (s r : Int) : Prop := (r = -1 ∧ s ∉ l) ∨ ∃ k : Nat, r = k ∧ k < l.length ∧ l.getD k 0 = s ∧ ∀ j, j < k → l.getD j 0 ≠ s
theorem mem_getD (l : List Int) (s : Int) : s ∈ l ↔ ∃ j, j < l.length ∧ l.getD j 0 = s := by
  rw [List.mem_iff_getElem]
  constructor
  · rintro ⟨i, h, e⟩
    exact ⟨i, h, by simp [List.getD, h, e]⟩
  · rintro ⟨i, h, e⟩
    exact ⟨i, h, by simpa [List.getD, h] using e⟩
set_option maxHeartbeats 4000000 in
theorem iindex_any (A : Option Addr) (n c B : Nat) (l : List Int) (s : Int) (w : World) (hz : Nums w B A n l) (hn : n ≤ 1000) :
    Calls Try.prog 44 #[.slice A n c, .int .i64 s] w fun e w' => ∃ r : Int, e = .returned (.int .i64 r) ∧ IsIxI l s r ∧ w' = w := by
  have HZ := Lib.hid hz
  clear hz
  go_enter Try.func44, Try.ntmps44
  go_wp2_with fail
  go_loopw [8] (fun i wx => ∃ k : Nat, k ≤ n ∧ i = .int .i64 k ∧ wx = w ∧ Hid (∀ j, j < k → l.getD j 0 ≠ s)) (fun i _ => n - (intOf i).toNat)
  case atStart => exact ⟨0, Nat.zero_le _, rfl, rfl, fun j hj => by omega⟩
  case round =>
    obtain ⟨k, hk, rfl, hw, hH⟩ := hrel
    subst hw
    by_cases hlt : k < n
    · obtain ⟨b, off, rfl, hbB, d0⟩ := HZ.out.2 k hlt
      obtain ⟨t, ht⟩ : ∃ t, t = l.getD k 0 := ⟨_, rfl⟩
      rw [← ht] at d0
      have HT := Lib.hid ht
      have i1 : (0 : Int) ≤ (k : Int) := by omega
      have i2 : (k : Int) < (n : Int) := by omega
      clear ht
      by_cases hq : s = t
      · have HM := Lib.hid (show IsIxI l s k from .inr ⟨k, rfl, by have := HZ.out.1; omega, by rw [← HT.out, hq], hH.out⟩)
        have hq2 : (s == t) = true := by simpa using hq
        go_wp2
        go_ret
        exact ⟨k, by first | rfl | simp, HM.out, rfl⟩
      · have HN := Lib.hid (show t ≠ s from fun e => hq e.symm)
        have hq2 : (s == t) = false := by simpa using hq
        go_wp2
        go_roundw
        case rel => exact ⟨k + 1, by omega, by go_num, trivial, fun j hj => by
          by_cases e : j = k
          · rw [e, ← HT.out]; exact HN.out
          · exact hH.out j (by omega)⟩
        case measure => simp [intOf]; omega
    · obtain rfl : k = n := by omega
      have HN := Lib.hid (show IsIxI l s (-1) from .inl ⟨rfl, fun h => by
        obtain ⟨j, h1, h2⟩ := (mem_getD l s).1 h
        exact hH.out j (by have := HZ.out.1; omega) h2⟩)
      go_wp2
      go_ret
      exact ⟨-1, by first | rfl | simp, HN.out, rfl⟩
set_option maxHeartbeats 4000000 in
theorem icontains_any (A : Option Addr) (n c B : Nat) (l : List Int) (s : Int) (w : World) (hz : Nums w B A n l) (hn : n ≤ 1000) :
    Calls Try.prog 46 #[.slice A n c, .int .i64 s] w fun e w' => e = .returned (.bool (decide (s ∈ l))) ∧ w' = w := by
  have HZ := Lib.hid hz
  clear hz
  go_enter Try.func46, Try.ntmps46
  go_wp2_with fail
  refine (iindex_any A n c B l s _ HZ.out hn).mono ?_
  rintro e w1 ⟨r, rfl, hr, rfl⟩
  rcases hr with ⟨rfl, hne⟩ | ⟨k, rfl, hk, he, _⟩
  · have HE := Lib.hid (show decide (s ∈ l) = false from decide_eq_false hne)
    clear hne
    go_wp2
    go_ret
    exact ⟨by rw [HE.out]; first | rfl | simp, rfl⟩
  · have HE := Lib.hid (show decide (s ∈ l) = true from decide_eq_true ((mem_getD l s).2 ⟨k, hk, he⟩))
    have i1 : (0 : Int) ≤ (k : Int) := by omega
    clear hk he
    go_wp2
    go_ret
    exact ⟨by rw [HE.out]; first | rfl | simp, rfl⟩

end Go.Proofs.Ytgopokoghnfgiaa
