/-
  Pairs; the walks over Compare, BinarySearchFunc, where of layer 4.
-/
import Derived.Test.YtjedjplpbgnpmaaTurnA
import Derived.Laws.Cover1
namespace Go.Proofs.Ytjedjplpbgnpmaa
open Go.RowKit
attribute [local go_sem ↓] Go.wp_at_zero Go.wp_at_succ

/-! ### The order of names -/
def ltB (x y : ByteArray) : Bool := Op.bytesLess x.toList y.toList
theorem bl_irrefl : ∀ x : List UInt8, Op.bytesLess x x = false
  | [] => rfl
  | a :: x => by simp [Op.bytesLess, bl_irrefl x]
theorem bl_trans : ∀ x y z : List UInt8, Op.bytesLess x y = true → Op.bytesLess y z = true → Op.bytesLess x z = true
  | _, [], _, h, _ => by simp [Op.bytesLess] at h
  | _, _ :: _, [], _, h => by simp [Op.bytesLess] at h
  | [], _ :: _, _ :: _, _, _ => rfl
  | a :: x, b :: y, c :: z, h1, h2 => by
    simp only [Op.bytesLess, Bool.or_eq_true, decide_eq_true_eq, Bool.and_eq_true, beq_iff_eq] at h1 h2 ⊢
    rcases h1 with h1 | ⟨rfl, h1⟩
    · rcases h2 with h2 | ⟨rfl, h2⟩
      · exact .inl (UInt8.lt_trans h1 h2)
      · exact .inl h1
    · rcases h2 with h2 | ⟨rfl, h2⟩
      · exact .inl h2
      · exact .inr ⟨rfl, bl_trans x y z h1 h2⟩
theorem bl_tri : ∀ x y : List UInt8, Op.bytesLess x y = false → Op.bytesLess y x = false → x = y
  | [], [], _, _ => rfl
  | [], b :: y, h, _ => by simp [Op.bytesLess] at h
  | a :: x, [], _, h => by simp [Op.bytesLess] at h
  | a :: x, b :: y, h1, h2 => by
    simp only [Op.bytesLess, Bool.or_eq_false_iff, decide_eq_false_iff_not, Bool.and_eq_false_iff, beq_eq_false_iff_ne] at h1 h2
    have e : a = b := by
      rcases UInt8.lt_or_lt_of_ne (a := a) (b := b) |> fun h => Classical.em (a = b) |>.imp id h with h | h | h
      · exact h
      · exact absurd h h1.1
      · exact absurd h h2.1
    subst e
    rw [bl_tri x y (h1.2.resolve_left (fun h => h rfl)) (h2.2.resolve_left (fun h => h rfl))]
theorem lt_irrefl (x : ByteArray) : ltB x x = false := bl_irrefl _
theorem lt_trans {x y z : ByteArray} (h1 : ltB x y = true) (h2 : ltB y z = true) : ltB x z = true := bl_trans _ _ _ h1 h2
theorem lt_tri {x y : ByteArray} (h1 : ltB x y = false) (h2 : ltB y x = false) : x = y := toList_inj (bl_tri _ _ h1 h2)
theorem lt_ne {x y : ByteArray} (h : ltB x y = true) : x ≠ y := fun e => by rw [e, lt_irrefl] at h; cases h
def cmpB (x y : ByteArray) : Int := if ltB x y = true then -1 else if x = y then 0 else 1

set_option maxHeartbeats 4000000 in
theorem isnan_any (x : ByteArray) (w : World) : Calls Try.prog 37 #[.string x] w fun e w' => e = .returned (.bool false) ∧ w' = w := by
  go_enter Try.func37, Try.ntmps37
  go_wp2
  go_ret
  exact ⟨by first | rfl | simp, rfl⟩
set_option maxHeartbeats 4000000 in
theorem compare_any (x y : ByteArray) (w : World) : Calls Try.prog 29 #[.string x, .string y] w fun e w' => e = .returned (.int .i64 (cmpB x y)) ∧ w' = w := by
  by_cases h1 : ltB x y = true
  · have HC := Lib.hid (show cmpB x y = -1 from if_pos h1)
    have h2 : Op.bytesLess x.toList y.toList = true := h1
    go_enter Try.func29, Try.ntmps29
    go_wp2_with (first | (go_at_call 37; ((with_reducible refine (isnan_any _ _).mono ?_); rintro e w' ⟨rfl, rfl⟩)))
    go_ret
    exact ⟨by rw [HC.out]; first | rfl | simp, rfl⟩
  · have h1' := Bool.eq_false_iff.2 h1
    have h2 : Op.bytesLess x.toList y.toList = false := h1'
    by_cases h3 : x.toList = y.toList
    · have h4 := toList_inj h3
      have HC := Lib.hid (show cmpB x y = 0 by rw [cmpB, if_neg h1, if_pos h4])
      subst h4
      clear h3 h1 h1'
      go_enter Try.func29, Try.ntmps29
      go_wp2_with (first | (go_at_call 37; ((with_reducible refine (isnan_any _ _).mono ?_); rintro e w' ⟨rfl, rfl⟩)))
      go_ret
      exact ⟨by rw [HC.out]; first | rfl | simp, rfl⟩
    · have h4 : (x.toList == y.toList) = false := by simpa using h3
      have HC := Lib.hid (show cmpB x y = 1 by rw [cmpB, if_neg h1, if_neg (fun e => h3 (by rw [e]))])
      clear h3 h1 h1'
      go_enter Try.func29, Try.ntmps29
      go_wp2_with (first | (go_at_call 37; ((with_reducible refine (isnan_any _ _).mono ?_); rintro e w' ⟨rfl, rfl⟩)))
      go_ret
      exact ⟨by rw [HC.out]; first | rfl | simp, rfl⟩

/-! ### Pairs -/
abbrev Pr := ByteArray × Int
def pr0 : Pr := (ByteArray.empty, 0)
def cvP (p : Pr) : List Value := [.string p.1, .int .i64 p.2]
abbrev Ps (w : World) (B : Nat) (A : Option Addr) (n : Nat) (l : List Pr) : Prop := Rd cvP pr0 2 w B A n l
theorem Rd.pr {w : World} {B : Nat} {A : Option Addr} {n : Nat} {l : List Pr} (h : Ps w B A n l) (k : Nat) (hk : k < n) : ∃ b off, A = some ⟨b, off, none⟩ ∧ b < B ∧ w.cell? ⟨b, off + k * 2, none⟩ = some (.string (l.getD k pr0).1) ∧ w.cell? ⟨b, off + k * 2 + 1, none⟩ = some (.int .i64 (l.getD k pr0).2) := by
  obtain ⟨b, off, hA, hB, h0⟩ := h.2 k hk
  exact ⟨b, off, hA, hB, h0 0 (by omega), h0 1 (by omega)⟩
theorem pr_info : (Try.prog.info? 34).map (fun i => (i.zero, i.size, i.bytes)) = some (some (.agg #[.string ByteArray.empty, .int .i64 0]), 2, 24) := by kernel_rfl
theorem rf_info : (Try.prog.info? 56).map (fun i => (i.zero, i.size, i.bytes)) = some (some (.agg #[.string ByteArray.empty, .int .i64 0]), 2, 24) := by kernel_rfl
theorem cvP_snoc (l : List Pr) (p : Pr) : (l ++ [p]).flatMap cvP = l.flatMap cvP ++ [.string p.1, .int .i64 p.2] := by simp [cvP]
theorem cvP_len (l : List Pr) : (l.flatMap cvP).length = l.length * 2 := flat_len (sz := 2) (fun _ => rfl) l
theorem cvP_oneCell (l : List Pr) : ∀ u ∈ l.flatMap cvP, u.oneCell' = true := by
  intro u hu
  simp only [cvP, List.mem_flatMap, List.mem_cons, List.not_mem_nil, or_false] at hu
  obtain ⟨z, _, rfl | rfl⟩ := hu <;> rfl

set_option maxHeartbeats 4000000 in
theorem wheref_any (s t : ByteArray) (v : Int) (w : World) :
    Calls Try.prog 28 #[.agg #[.string s, .int .i64 v], .string t] w fun e w' => e = .returned (.int .i64 (cmpB s t)) ∧ Below w.heap.size w w' := by
  have HB := Lib.hid ((Below.refl w.heap.size w).alloc (Nat.le_refl _) (.cells #[.string s, .int .i64 v] 34))
  have hX := Blk.new w 34 #[.string s, .int .i64 v]
  have y0 := hX.cell 0
  clear hX
  go_enter Try.func28, Try.ntmps28
  go_wp2_with (first | (go_at_call 29; ((with_reducible refine (compare_any _ _ _).mono ?_); rintro e w' ⟨rfl, rfl⟩)))
  go_ret
  exact ⟨rfl, HB.out⟩

/-- Names that rise. -/
def Srt (l : List Pr) : Prop := ∀ i j, i < j → j < l.length → ltB (l.getD i pr0).1 (l.getD j pr0).1 = true
/-- Where a name stands, or would. -/
structure At (l : List Pr) (s : ByteArray) (r : Nat) : Prop where
  le : r ≤ l.length
  low : ∀ k, k < r → ltB (l.getD k pr0).1 s = true
  high : ∀ k, r ≤ k → k < l.length → ltB (l.getD k pr0).1 s = false
def isAt (l : List Pr) (s : ByteArray) (r : Nat) : Bool := decide (r < l.length) && decide ((l.getD r pr0).1 = s)

set_option maxRecDepth 100000 in
set_option maxHeartbeats 8000000 in
theorem bsearch_any (A : Option Addr) (n c B : Nat) (l : List Pr) (s : ByteArray) (w : World) (hz : Ps w B A n l) (hB : B ≤ w.heap.size) (hn : n ≤ 1000) (hs : Srt l) :
    Calls Try.prog 27 #[.slice A n c, .string s, .func (.func 28) #[] #[]] w fun e w' =>
      ∃ r : Nat, e = .returned (.tuple #[.int .i64 r, .bool (isAt l s r)]) ∧ At l s r ∧ Below w.heap.size w w' := by
  have HZ := Lib.hid (And.intro hz hs)
  have HBB := Lib.hid hB
  clear hz hs hB
  go_enter Try.func27, Try.ntmps27
  go_wp2_with fail
  go_loopw [9, 10] (fun vi vj wx => ∃ i j : Nat, vi = .int .i64 i ∧ vj = .int .i64 j ∧ i ≤ j ∧ j ≤ n ∧ Below w.heap.size w wx ∧ Hid ((∀ k, k < i → ltB (l.getD k pr0).1 s = true) ∧ (∀ k, j ≤ k → k < n → ltB (l.getD k pr0).1 s = false))) (fun vi vj _ => (intOf vj - intOf vi).toNat)
  case atStart => exact ⟨0, n, rfl, rfl, Nat.zero_le _, Nat.le_refl _, Below.refl _ _, fun k hk => by omega, fun k hk hk2 => by omega⟩
  case round =>
    obtain ⟨i, j, rfl, rfl, hij, hjn, hb, hH⟩ := hrel
    by_cases hlt : i < j
    · obtain ⟨h, hh⟩ : ∃ h, h = (i + j) / 2 := ⟨_, rfl⟩
      have hh1 : i ≤ h := by omega
      have hh2 : h < j := by omega
      have hhI : ((i : Int) + (j : Int)) / 2 = (h : Int) := by omega
      obtain ⟨b, off, rfl, hbB, d0, d1⟩ := HZ.out.1.pr h (by omega)
      replace d0 := (hb.cell (p := ⟨b, off + h * 2, none⟩) (by have := HBB.out; simp only; omega)).trans d0
      replace d1 := (hb.cell (p := ⟨b, off + h * 2 + 1, none⟩) (by have := HBB.out; simp only; omega)).trans d1
      have HM := Lib.hid (fun k (hk : k ≤ h) (he : ltB (l.getD h pr0).1 s = true) => show ltB (l.getD k pr0).1 s = true from by
        by_cases e : k = h
        · rw [e]; exact he
        · exact lt_trans (HZ.out.2 k h (by omega) (by have := HZ.out.1.1; omega)) he)
      have HM2 := Lib.hid (fun k (hk : h ≤ k) (hk2 : k < n) (he : ltB (l.getD h pr0).1 s = false) => show ltB (l.getD k pr0).1 s = false from by
        by_cases e : k = h
        · rw [e]; exact he
        · cases hq : ltB (l.getD k pr0).1 s with
          | false => rfl
          | true =>
            have := lt_trans (HZ.out.2 h k (by omega) (by have := HZ.out.1.1; omega)) hq
            rw [he] at this; cases this)
      obtain ⟨⟨t, v⟩, ht⟩ : ∃ t, t = l.getD h pr0 := ⟨_, rfl⟩
      rw [← ht] at d0 d1 HM HM2
      simp only at d0 d1
      have i1 : (0 : Int) ≤ (h : Int) := by omega
      have i2 : (h : Int) < (n : Int) := by omega
      have HB := Lib.hid hb
      clear ht hb hh
      by_cases hq : ltB t s = true
      · have hc : cmpB t s = -1 := if_pos hq
        have HI := Lib.hid (fun k (hk : k < h + 1) => HM.out k (by omega) hq)
        clear HM HM2
        go_wp2_with (first | (go_at_call 28; refine (wheref_any t s v _).mono ?_; rintro e w5 ⟨rfl, hb5⟩; have HB5 := Lib.hid (HB.out.trans (hb5.mono HB.out.size)); clear hb5; rw [hc]))
        go_roundw
        case rel => exact ⟨h + 1, j, by first | rfl | go_num | (simp [hhI]; done), rfl, by omega, by omega, HB5.out, ⟨HI.out, hH.out.2⟩⟩
        case measure => simp [intOf]; omega
      · have hq2 := Bool.eq_false_iff.2 hq
        have hc : ¬ cmpB t s < 0 := by rw [cmpB, if_neg hq]; split <;> decide
        obtain ⟨cc, hcc⟩ : ∃ cc, cc = cmpB t s := ⟨_, rfl⟩
        rw [← hcc] at hc
        have hc2 : decide (cc < 0) = false := by simpa using hc
        have HCC := Lib.hid hcc
        have HI := Lib.hid (fun k (hk : h ≤ k) (hk2 : k < n) => HM2.out k hk hk2 hq2)
        clear HM HM2 hcc
        go_wp2_with (first | (go_at_call 28; refine (wheref_any t s v _).mono ?_; rintro e w5 ⟨rfl, hb5⟩; have HB5 := Lib.hid (HB.out.trans (hb5.mono HB.out.size)); clear hb5; rw [← HCC.out]))
        go_roundw
        case rel => exact ⟨i, h, rfl, by first | rfl | go_num | (simp [hhI]; done), by omega, by omega, HB5.out, ⟨hH.out.1, HI.out⟩⟩
        case measure => simp [intOf]; omega
    · obtain rfl : i = j := by omega
      have HA := Lib.hid (show At l s i from ⟨by rw [HZ.out.1.1]; exact hjn, hH.out.1, fun k hk hk2 => hH.out.2 k hk (by rw [← HZ.out.1.1]; exact hk2)⟩)
      have HIA := Lib.hid (show isAt l s i = (decide (i < n) && decide ((l.getD i pr0).1 = s)) by rw [isAt, HZ.out.1.1])
      have HB := Lib.hid hb
      clear hb
      by_cases hin : i < n
      · obtain ⟨b, off, rfl, hbB, d0, d1⟩ := HZ.out.1.pr i hin
        replace d0 := (HB.out.cell (p := ⟨b, off + i * 2, none⟩) (by have := HBB.out; simp only; omega)).trans d0
        replace d1 := (HB.out.cell (p := ⟨b, off + i * 2 + 1, none⟩) (by have := HBB.out; simp only; omega)).trans d1
        obtain ⟨⟨t, v⟩, ht⟩ : ∃ t, t = l.getD i pr0 := ⟨_, rfl⟩
        rw [← ht] at d0 d1 HIA
        simp only at d0 d1 HIA
        have hlf : ltB t s = false := by
          have := hH.out.2 i (Nat.le_refl _) hin
          rw [← ht] at this
          exact this
        have i1 : (0 : Int) ≤ (i : Int) := by omega
        have i2 : (i : Int) < (n : Int) := by omega
        clear ht
        by_cases hq : t = s
        · have hc : cmpB t s = 0 := by rw [cmpB, if_neg (by rw [hlf]; decide), if_pos hq]
          have HT := Lib.hid (show isAt l s i = true by rw [HIA.out]; simp [hin, hq])
          clear hq hlf
          go_wp2_with (first | (go_at_call 28; refine (wheref_any t s v _).mono ?_; rintro e w5 ⟨rfl, hb5⟩; have HB5 := Lib.hid (HB.out.trans (hb5.mono HB.out.size)); clear hb5; rw [hc]))
          exact bodyPost_ret (v := .tuple #[.int .i64 i, .bool true]) (by simp [results, Try.results27, go_sem]) rfl ⟨i, by rw [HT.out], HA.out, HB5.out⟩
        · have hc : cmpB t s = 1 := by rw [cmpB, if_neg (by rw [hlf]; decide), if_neg hq]
          have HT := Lib.hid (show isAt l s i = false by rw [HIA.out]; simp [hq])
          clear hq hlf
          go_wp2_with (first | (go_at_call 28; refine (wheref_any t s v _).mono ?_; rintro e w5 ⟨rfl, hb5⟩; have HB5 := Lib.hid (HB.out.trans (hb5.mono HB.out.size)); clear hb5; rw [hc]))
          exact bodyPost_ret (v := .tuple #[.int .i64 i, .bool false]) (by simp [results, Try.results27, go_sem]) rfl ⟨i, by rw [HT.out], HA.out, HB5.out⟩
      · have HT := Lib.hid (show isAt l s i = false by rw [HIA.out]; simp [hin])
        have i2 : decide ((i : Int) < (n : Int)) = false := by simp; omega
        go_wp2
        exact bodyPost_ret (v := .tuple #[.int .i64 i, .bool false]) (by simp [results, Try.results27, go_sem]) rfl ⟨i, by rw [HT.out], HA.out, HB.out⟩

set_option maxHeartbeats 4000000 in
theorem where_any (A : Option Addr) (n c B : Nat) (l : List Pr) (s : ByteArray) (w : World) (hz : Ps w B A n l) (hB : B ≤ w.heap.size) (hn : n ≤ 1000) (hs : Srt l) :
    Calls Try.prog 17 #[.slice A n c, .string s] w fun e w' =>
      ∃ r : Nat, e = .returned (.tuple #[.int .i64 r, .bool (isAt l s r)]) ∧ At l s r ∧ Below w.heap.size w w' := by
  have HZ := Lib.hid (And.intro hz hs)
  have HBB := Lib.hid hB
  clear hz hs hB
  go_enter Try.func17, Try.ntmps17
  go_wp2_with fail
  refine (bsearch_any A n c B l s _ HZ.out.1 HBB.out hn HZ.out.2).mono ?_
  rintro e w1 ⟨r, rfl, hr, hb⟩
  have HR := Lib.hid (And.intro hr hb)
  clear hr hb
  obtain ⟨q, hq⟩ : ∃ q, q = isAt l s r := ⟨_, rfl⟩
  rw [← hq]
  have HQ := Lib.hid hq
  clear hq
  go_wp2
  exact bodyPost_ret (v := .tuple #[.int .i64 r, .bool q]) (by simp [results, Try.results17, go_sem]) rfl ⟨r, by rw [HQ.out], HR.out.1, HR.out.2⟩

end Go.Proofs.Ytjedjplpbgnpmaa
