/-
  Pairs; the walks over Compare, BinarySearchFunc, where of layer 4.
  The walk over Insert at pairs.
-/
import Derived.Test.YtaalhglooipnaaaGreatL01
import Derived.Laws.Cover1
import Derived.Test.YtaalhglooipnaaaGreatL02
import Derived.Lib.AppendZerosOnto
import Derived.Lib.Overlaps
import Derived.Laws.Externs
import Derived.Shelf.Spec.SlicesInsert
namespace Go.Proofs.YtaalhglooipnaaaGreat
open Go.RowKit
attribute [local go_sem ↓] Go.wp_at_zero Go.wp_at_succ

/-! ### The order of names -/
def ltB (x y : ByteArray) : Bool := Op.bytesLess x.toList y.toList
theorem bl_irrefl : ∀ x : List UInt8, Op.bytesLess x x = false
  | [] => rfl
  | a :: x => by simp [Op.bytesLess, bl_irrefl x]
theorem bl_trans : ∀ x y z : List UInt8, Op.bytesLess x y = true → Op.bytesLess y z = true → Op.bytesLess x z = true
  | _, [], _, h, _ => by simp [Op.bytesLess] at h
  | _, _ :: _, [], _, h => by simp [Op.bytesLess] at h
  | [], _ :: _, _ :: _, _, _ => rfl
  | a :: x, b :: y, c :: z, h1, h2 => by
    simp only [Op.bytesLess, Bool.or_eq_true, decide_eq_true_eq, Bool.and_eq_true, beq_iff_eq] at h1 h2 ⊢
    rcases h1 with h1 | ⟨rfl, h1⟩
    · rcases h2 with h2 | ⟨rfl, h2⟩
      · exact .inl (UInt8.lt_trans h1 h2)
      · exact .inl h1
    · rcases h2 with h2 | ⟨rfl, h2⟩
      · exact .inl h2
      · exact .inr ⟨rfl, bl_trans x y z h1 h2⟩
theorem bl_tri : ∀ x y : List UInt8, Op.bytesLess x y = false → Op.bytesLess y x = false → x = y
  | [], [], _, _ => rfl
  | [], b :: y, h, _ => by simp [Op.bytesLess] at h
  | a :: x, [], _, h => by simp [Op.bytesLess] at h
  | a :: x, b :: y, h1, h2 => by
    simp only [Op.bytesLess, Bool.or_eq_false_iff, decide_eq_false_iff_not, Bool.and_eq_false_iff, beq_eq_false_iff_ne] at h1 h2
    have e : a = b := by
      rcases UInt8.lt_or_lt_of_ne (a := a) (b := b) |> fun h => Classical.em (a = b) |>.imp id h with h | h | h
      · exact h
      · exact absurd h h1.1
      · exact absurd h h2.1
    subst e
    rw [bl_tri x y (h1.2.resolve_left (fun h => h rfl)) (h2.2.resolve_left (fun h => h rfl))]
theorem lt_irrefl (x : ByteArray) : ltB x x = false := bl_irrefl _
theorem lt_trans {x y z : ByteArray} (h1 : ltB x y = true) (h2 : ltB y z = true) : ltB x z = true := bl_trans _ _ _ h1 h2
theorem lt_tri {x y : ByteArray} (h1 : ltB x y = false) (h2 : ltB y x = false) : x = y := toList_inj (bl_tri _ _ h1 h2)
theorem lt_ne {x y : ByteArray} (h : ltB x y = true) : x ≠ y := fun e => by rw [e, lt_irrefl] at h; cases h
def cmpB (x y : ByteArray) : Int := if ltB x y = true then -1 else if x = y then 0 else 1

set_option maxHeartbeats 4000000 in
theorem isnan_any (x : ByteArray) (w : World) : Calls Tryz.prog 165 #[.string x] w fun e w' => e = .returned (.bool false) ∧ w' = w := by
  go_enter Tryz.func165, Tryz.ntmps165
  go_wp2
  go_ret
  exact ⟨by first | rfl | simp, rfl⟩
set_option maxHeartbeats 4000000 in
theorem compare_any (x y : ByteArray) (w : World) : Calls Tryz.prog 143 #[.string x, .string y] w fun e w' => e = .returned (.int .i64 (cmpB x y)) ∧ w' = w := by
  by_cases h1 : ltB x y = true
  · have HC := Lib.hid (show cmpB x y = -1 from if_pos h1)
    have h2 : Op.bytesLess x.toList y.toList = true := h1
    go_enter Tryz.func143, Tryz.ntmps143
    go_wp2_with (first | (go_at_call 165; ((with_reducible refine (isnan_any _ _).mono ?_); rintro e w' ⟨rfl, rfl⟩)))
    go_ret
    exact ⟨by rw [HC.out]; first | rfl | simp, rfl⟩
  · have h1' := Bool.eq_false_iff.2 h1
    have h2 : Op.bytesLess x.toList y.toList = false := h1'
    by_cases h3 : x.toList = y.toList
    · have h4 := toList_inj h3
      have HC := Lib.hid (show cmpB x y = 0 by rw [cmpB, if_neg h1, if_pos h4])
      subst h4
      clear h3 h1 h1'
      go_enter Tryz.func143, Tryz.ntmps143
      go_wp2_with (first | (go_at_call 165; ((with_reducible refine (isnan_any _ _).mono ?_); rintro e w' ⟨rfl, rfl⟩)))
      go_ret
      exact ⟨by rw [HC.out]; first | rfl | simp, rfl⟩
    · have h4 : (x.toList == y.toList) = false := by simpa using h3
      have HC := Lib.hid (show cmpB x y = 1 by rw [cmpB, if_neg h1, if_neg (fun e => h3 (by rw [e]))])
      clear h3 h1 h1'
      go_enter Tryz.func143, Tryz.ntmps143
      go_wp2_with (first | (go_at_call 165; ((with_reducible refine (isnan_any _ _).mono ?_); rintro e w' ⟨rfl, rfl⟩)))
      go_ret
      exact ⟨by rw [HC.out]; first | rfl | simp, rfl⟩

/-! ### Pairs -/
abbrev Pr := ByteArray × Int
def pr0 : Pr := (ByteArray.empty, 0)
def cvP (p : Pr) : List Value := [.string p.1, .int .i64 p.2]
abbrev Ps (w : World) (B : Nat) (A : Option Addr) (n : Nat) (l : List Pr) : Prop := Rd cvP pr0 2 w B A n l
theorem Rd.pr {w : World} {B : Nat} {A : Option Addr} {n : Nat} {l : List Pr} (h : Ps w B A n l) (k : Nat) (hk : k < n) : ∃ b off, A = some ⟨b, off, none⟩ ∧ b < B ∧ w.cell? ⟨b, off + k * 2, none⟩ = some (.string (l.getD k pr0).1) ∧ w.cell? ⟨b, off + k * 2 + 1, none⟩ = some (.int .i64 (l.getD k pr0).2) := by
  obtain ⟨b, off, hA, hB, h0⟩ := h.2 k hk
  exact ⟨b, off, hA, hB, h0 0 (by omega), h0 1 (by omega)⟩
theorem pr_info : (Tryz.prog.info? 105).map (fun i => (i.zero, i.size, i.bytes)) = some (some (.agg #[.string ByteArray.empty, .int .i64 0]), 2, 24) := by kernel_rfl
theorem rf_info : (Tryz.prog.info? 120).map (fun i => (i.zero, i.size, i.bytes)) = some (some (.agg #[.string ByteArray.empty, .int .i64 0]), 2, 24) := by kernel_rfl
theorem cvP_snoc (l : List Pr) (p : Pr) : (l ++ [p]).flatMap cvP = l.flatMap cvP ++ [.string p.1, .int .i64 p.2] := by simp [cvP]
theorem cvP_len (l : List Pr) : (l.flatMap cvP).length = l.length * 2 := flat_len (sz := 2) (fun _ => rfl) l
theorem cvP_oneCell (l : List Pr) : ∀ u ∈ l.flatMap cvP, u.oneCell' = true := by
  intro u hu
  simp only [cvP, List.mem_flatMap, List.mem_cons, List.not_mem_nil, or_false] at hu
  obtain ⟨z, _, rfl | rfl⟩ := hu <;> rfl

set_option maxHeartbeats 4000000 in
theorem wheref_any (s t : ByteArray) (v : Int) (w : World) :
    Calls Tryz.prog 147 #[.agg #[.string s, .int .i64 v], .string t] w fun e w' => e = .returned (.int .i64 (cmpB s t)) ∧ Below w.heap.size w w' := by
  have HB := Lib.hid ((Below.refl w.heap.size w).alloc (Nat.le_refl _) (.cells #[.string s, .int .i64 v] 105))
  have hX := Blk.new w 105 #[.string s, .int .i64 v]
  have y0 := hX.cell 0
  clear hX
  go_enter Tryz.func147, Tryz.ntmps147
  go_wp2_with (first | (go_at_call 143; ((with_reducible refine (compare_any _ _ _).mono ?_); rintro e w' ⟨rfl, rfl⟩)))
  go_ret
  exact ⟨rfl, HB.out⟩

/-- Names that rise. -/
def Srt (l : List Pr) : Prop := ∀ i j, i < j → j < l.length → ltB (l.getD i pr0).1 (l.getD j pr0).1 = true
/-- Where a name stands, or would. -/
structure At (l : List Pr) (s : ByteArray) (r : Nat) : Prop where
  le : r ≤ l.length
  low : ∀ k, k < r → ltB (l.getD k pr0).1 s = true
  high : ∀ k, r ≤ k → k < l.length → ltB (l.getD k pr0).1 s = false
def isAt (l : List Pr) (s : ByteArray) (r : Nat) : Bool := decide (r < l.length) && decide ((l.getD r pr0).1 = s)

set_option maxRecDepth 100000 in
set_option maxHeartbeats 8000000 in
theorem bsearch_any (A : Option Addr) (n c B : Nat) (l : List Pr) (s : ByteArray) (w : World) (hz : Ps w B A n l) (hB : B ≤ w.heap.size) (hn : n ≤ 1000) (hs : Srt l) :
    Calls Tryz.prog 146 #[.slice A n c, .string s, .func (.func 147) #[] #[]] w fun e w' =>
      ∃ r : Nat, e = .returned (.tuple #[.int .i64 r, .bool (isAt l s r)]) ∧ At l s r ∧ Below w.heap.size w w' := by
  have HZ := Lib.hid (And.intro hz hs)
  have HBB := Lib.hid hB
  clear hz hs hB
  go_enter Tryz.func146, Tryz.ntmps146
  go_wp2_with fail
  go_loopw [9, 10] (fun vi vj wx => ∃ i j : Nat, vi = .int .i64 i ∧ vj = .int .i64 j ∧ i ≤ j ∧ j ≤ n ∧ Below w.heap.size w wx ∧ Hid ((∀ k, k < i → ltB (l.getD k pr0).1 s = true) ∧ (∀ k, j ≤ k → k < n → ltB (l.getD k pr0).1 s = false))) (fun vi vj _ => (intOf vj - intOf vi).toNat)
  case atStart => exact ⟨0, n, rfl, rfl, Nat.zero_le _, Nat.le_refl _, Below.refl _ _, fun k hk => by omega, fun k hk hk2 => by omega⟩
  case round =>
    obtain ⟨i, j, rfl, rfl, hij, hjn, hb, hH⟩ := hrel
    by_cases hlt : i < j
    · obtain ⟨h, hh⟩ : ∃ h, h = (i + j) / 2 := ⟨_, rfl⟩
      have hh1 : i ≤ h := by omega
      have hh2 : h < j := by omega
      have hhI : ((i : Int) + (j : Int)) / 2 = (h : Int) := by omega
      obtain ⟨b, off, rfl, hbB, d0, d1⟩ := HZ.out.1.pr h (by omega)
      replace d0 := (hb.cell (p := ⟨b, off + h * 2, none⟩) (by have := HBB.out; simp only; omega)).trans d0
      replace d1 := (hb.cell (p := ⟨b, off + h * 2 + 1, none⟩) (by have := HBB.out; simp only; omega)).trans d1
      have HM := Lib.hid (fun k (hk : k ≤ h) (he : ltB (l.getD h pr0).1 s = true) => show ltB (l.getD k pr0).1 s = true from by
        by_cases e : k = h
        · rw [e]; exact he
        · exact lt_trans (HZ.out.2 k h (by omega) (by have := HZ.out.1.1; omega)) he)
      have HM2 := Lib.hid (fun k (hk : h ≤ k) (hk2 : k < n) (he : ltB (l.getD h pr0).1 s = false) => show ltB (l.getD k pr0).1 s = false from by
        by_cases e : k = h
        · rw [e]; exact he
        · cases hq : ltB (l.getD k pr0).1 s with
          | false => rfl
          | true =>
            have := lt_trans (HZ.out.2 h k (by omega) (by have := HZ.out.1.1; omega)) hq
            rw [he] at this; cases this)
      obtain ⟨⟨t, v⟩, ht⟩ : ∃ t, t = l.getD h pr0 := ⟨_, rfl⟩
      rw [← ht] at d0 d1 HM HM2
      simp only at d0 d1
      have i1 : (0 : Int) ≤ (h : Int) := by omega
      have i2 : (h : Int) < (n : Int) := by omega
      have HB := Lib.hid hb
      clear ht hb hh
      by_cases hq : ltB t s = true
      · have hc : cmpB t s = -1 := if_pos hq
        have HI := Lib.hid (fun k (hk : k < h + 1) => HM.out k (by omega) hq)
        clear HM HM2
        go_wp2_with (first | (go_at_call 147; refine (wheref_any t s v _).mono ?_; rintro e w5 ⟨rfl, hb5⟩; have HB5 := Lib.hid (HB.out.trans (hb5.mono HB.out.size)); clear hb5; rw [hc]))
        go_roundw
        case rel => exact ⟨h + 1, j, by first | rfl | go_num | (simp [hhI]; done), rfl, by omega, by omega, HB5.out, ⟨HI.out, hH.out.2⟩⟩
        case measure => simp [intOf]; omega
      · have hq2 := Bool.eq_false_iff.2 hq
        have hc : ¬ cmpB t s < 0 := by rw [cmpB, if_neg hq]; split <;> decide
        obtain ⟨cc, hcc⟩ : ∃ cc, cc = cmpB t s := ⟨_, rfl⟩
        rw [← hcc] at hc
        have hc2 : decide (cc < 0) = false := by simpa using hc
        have HCC := Lib.hid hcc
        have HI := Lib.hid (fun k (hk : h ≤ k) (hk2 : k < n) => HM2.out k hk hk2 hq2)
        clear HM HM2 hcc
        go_wp2_with (first | (go_at_call 147; refine (wheref_any t s v _).mono ?_; rintro e w5 ⟨rfl, hb5⟩; have HB5 := Lib.hid (HB.out.trans (hb5.mono HB.out.size)); clear hb5; rw [← HCC.out]))
        go_roundw
        case rel => exact ⟨i, h, rfl, by first | rfl | go_num | (simp [hhI]; done), by omega, by omega, HB5.out, ⟨hH.out.1, HI.out⟩⟩
        case measure => simp [intOf]; omega
    · obtain rfl : i = j := by omega
      have HA := Lib.hid (show At l s i from ⟨by rw [HZ.out.1.1]; exact hjn, hH.out.1, fun k hk hk2 => hH.out.2 k hk (by rw [← HZ.out.1.1]; exact hk2)⟩)
      have HIA := Lib.hid (show isAt l s i = (decide (i < n) && decide ((l.getD i pr0).1 = s)) by rw [isAt, HZ.out.1.1])
      have HB := Lib.hid hb
      clear hb
      by_cases hin : i < n
      · obtain ⟨b, off, rfl, hbB, d0, d1⟩ := HZ.out.1.pr i hin
        replace d0 := (HB.out.cell (p := ⟨b, off + i * 2, none⟩) (by have := HBB.out; simp only; omega)).trans d0
        replace d1 := (HB.out.cell (p := ⟨b, off + i * 2 + 1, none⟩) (by have := HBB.out; simp only; omega)).trans d1
        obtain ⟨⟨t, v⟩, ht⟩ : ∃ t, t = l.getD i pr0 := ⟨_, rfl⟩
        rw [← ht] at d0 d1 HIA
        simp only at d0 d1 HIA
        have hlf : ltB t s = false := by
          have := hH.out.2 i (Nat.le_refl _) hin
          rw [← ht] at this
          exact this
        have i1 : (0 : Int) ≤ (i : Int) := by omega
        have i2 : (i : Int) < (n : Int) := by omega
        clear ht
        by_cases hq : t = s
        · have hc : cmpB t s = 0 := by rw [cmpB, if_neg (by rw [hlf]; decide), if_pos hq]
          have HT := Lib.hid (show isAt l s i = true by rw [HIA.out]; simp [hin, hq])
          clear hq hlf
          go_wp2_with (first | (go_at_call 147; refine (wheref_any t s v _).mono ?_; rintro e w5 ⟨rfl, hb5⟩; have HB5 := Lib.hid (HB.out.trans (hb5.mono HB.out.size)); clear hb5; rw [hc]))
          exact bodyPost_ret (v := .tuple #[.int .i64 i, .bool true]) (by simp [results, Tryz.results146, go_sem]) rfl ⟨i, by rw [HT.out], HA.out, HB5.out⟩
        · have hc : cmpB t s = 1 := by rw [cmpB, if_neg (by rw [hlf]; decide), if_neg hq]
          have HT := Lib.hid (show isAt l s i = false by rw [HIA.out]; simp [hq])
          clear hq hlf
          go_wp2_with (first | (go_at_call 147; refine (wheref_any t s v _).mono ?_; rintro e w5 ⟨rfl, hb5⟩; have HB5 := Lib.hid (HB.out.trans (hb5.mono HB.out.size)); clear hb5; rw [hc]))
          exact bodyPost_ret (v := .tuple #[.int .i64 i, .bool false]) (by simp [results, Tryz.results146, go_sem]) rfl ⟨i, by rw [HT.out], HA.out, HB5.out⟩
      · have HT := Lib.hid (show isAt l s i = false by rw [HIA.out]; simp [hin])
        have i2 : decide ((i : Int) < (n : Int)) = false := by simp; omega
        go_wp2
        exact bodyPost_ret (v := .tuple #[.int .i64 i, .bool false]) (by simp [results, Tryz.results146, go_sem]) rfl ⟨i, by rw [HT.out], HA.out, HB.out⟩

set_option maxHeartbeats 4000000 in
theorem where_any (A : Option Addr) (n c B : Nat) (l : List Pr) (s : ByteArray) (w : World) (hz : Ps w B A n l) (hB : B ≤ w.heap.size) (hn : n ≤ 1000) (hs : Srt l) :
    Calls Tryz.prog 122 #[.slice A n c, .string s] w fun e w' =>
      ∃ r : Nat, e = .returned (.tuple #[.int .i64 r, .bool (isAt l s r)]) ∧ At l s r ∧ Below w.heap.size w w' := by
  have HZ := Lib.hid (And.intro hz hs)
  have HBB := Lib.hid hB
  clear hz hs hB
  go_enter Tryz.func122, Tryz.ntmps122
  go_wp2_with fail
  refine (bsearch_any A n c B l s _ HZ.out.1 HBB.out hn HZ.out.2).mono ?_
  rintro e w1 ⟨r, rfl, hr, hb⟩
  have HR := Lib.hid (And.intro hr hb)
  clear hr hb
  obtain ⟨q, hq⟩ : ∃ q, q = isAt l s r := ⟨_, rfl⟩
  rw [← hq]
  have HQ := Lib.hid hq
  clear hq
  go_wp2
  exact bodyPost_ret (v := .tuple #[.int .i64 r, .bool q]) (by simp [results, Tryz.results122, go_sem]) rfl ⟨r, by rw [HQ.out], HR.out.1, HR.out.2⟩

end Go.Proofs.YtaalhglooipnaaaGreat
namespace Go.Proofs.YtaalhglooipnaaaGreat
open Go.RowKit
attribute [local go_sem ↓] Go.wp_at_zero Go.wp_at_succ

section
variable {P : Program}
/-- append, where the two types' names differ. -/
theorem append2 (w : World) (t t' e' : TypeId) (base : Nat) (e : TypeId) (i : TypeInfo) (z : Value) (size bytes : Nat) (ht : P.underlying t = some (.slice e)) (ht' : P.underlying t' = some (.slice e')) (hi : P.info? e = some i) (hz : i.zero = some z)
    (hsize : i.size = size) (hby : i.bytes = bytes) (hzs : z.cells.size = size) (hsz : 0 < size)
    (v : Value) (n : Nat) (xs : List Value) (hown : w.ownsRow base e size v n xs)
    (ad : Addr) (m c : Nat) (news : List Value) (hl : news.length = m * size) (hnews : ∀ j u, news[j]? = some u → w.cell? (ad.add j) = some u) (h1 : ∀ u ∈ news, u.oneCell' = true)
    (hm : 0 < m) (h63 : n + m ≤ maxLen) (hbytes : (n + m) * bytes ≤ 140737488355328) (hbase : base ≤ w.heap.size) :
    ∃ g cap w', (∀ ty, (Builtin.append_ #[t, t'] ty #[v, .slice (some ad) m c]).run P w = .ok (.slice (some ⟨g, 0, none⟩) (n + m) cap) w') ∧
      w'.ownsRow base e size (.slice (some ⟨g, 0, none⟩) (n + m) cap) (n + m) (xs ++ news) ∧ w.grownBy w' v.ownBlock := by
  obtain ⟨A0, c0, hv0⟩ := own_form hown
  subst hv0
  obtain ⟨g, cap, w', hr, h2, h3, _⟩ := run_append_lies (P := P) w t 0 base e i z size bytes ht hi hz hsize hby hzs hsz _ n xs hown ad m c news hl hnews h1 hm h63 hbytes hbase _ rfl
  refine ⟨g, cap, w', fun ty => ?_, h2, h3⟩
  rw [← hr]
  simp [Builtin.append_, sizeOf, typeInfo, hi, run_underlying ht, run_underlying ht']
theorem slice_some (t e : TypeId) (i : TypeInfo) (ht : P.underlying t = some (.slice e)) (hi : P.info? e = some i) (A : Option Addr) (n c q : Nat) (hq : q ≤ n) :
    ∃ A3 c3, (∀ w, (Instr.slice t (.slice A n c) (some (.int .i64 (q : Nat))) none none).run P w = .ok (.slice A3 (n - q) c3) w) ∧ (∀ w, (Instr.sliceAt t (.slice A n c) (some (.int .i64 (q : Nat))) none none).run P w = .ok (.slice A3 (n - q) c3) w) := by
  have hs : ∀ w, (sizeOf e).run P w = .ok i.size w := fun w => by simp [sizeOf, typeInfo, hi]
  have hrun : ∀ w, (Instr.slice t (.slice A n c) (some (.int .i64 (q : Nat))) none none).run P w = .ok (.slice (if c = q then A else A.map (·.add (q * i.size))) (n - q) (c - q)) w := fun w => by
    have h0 : (0 : Int) ≤ (q : Nat) := by omega
    have h1 : ((q : Nat) : Int) ≤ (n : Nat) := by omega
    simp [Instr.slice, run_underlying ht, Instr.sliceBounds, run_sliceBound, hs, hq]
  refine ⟨_, _, hrun, fun w => ?_⟩
  simp only [Instr.sliceAt, Sem.run_bind, run_underlying ht, Result.andThen_ok]
  exact hrun w
end

theorem flat_take {α : Type} {cv : α → List Value} {k : Nat} (hcv : ∀ a, (cv a).length = k) : ∀ (l : List α) (i : Nat), (l.take i).flatMap cv = (l.flatMap cv).take (i * k)
  | [], i => by simp
  | a :: l, 0 => by simp
  | a :: l, i + 1 => by
    rw [List.take_succ_cons, List.flatMap_cons, List.flatMap_cons, flat_take hcv l i, List.take_append, hcv, Nat.succ_mul, List.take_of_length_le (l := cv a) (by rw [hcv]; omega), show i * k + k - k = i * k by omega]
theorem flat_drop {α : Type} {cv : α → List Value} {k : Nat} (hcv : ∀ a, (cv a).length = k) : ∀ (l : List α) (i : Nat), (l.drop i).flatMap cv = (l.flatMap cv).drop (i * k)
  | [], i => by simp
  | a :: l, 0 => by simp
  | a :: l, i + 1 => by
    rw [List.drop_succ_cons, List.flatMap_cons, flat_drop hcv l i, List.drop_append, hcv, Nat.succ_mul, (List.drop_eq_nil_of_le (by rw [hcv]; omega) : List.drop (i * k + k) (cv a) = []), List.nil_append, show i * k + k - k = i * k by omega]

theorem pr_size : (Tryz.prog.info? 105).map (·.size) = some 2 := by kernel_rfl
/-- Insert in place: what the calls within leave. -/
theorem shift_world (w : World) (tr : TypeInfo) (hti : Tryz.prog.info? 105 = some tr) (hz1 : tr.size = 2) (g i n c vb : Nat) (cur : Array Value) (l : List Pr) (s : ByteArray) (x : Int) {base : Nat} (hln : l.length = n) (hi : i < n) (hroom : n + 1 ≤ c) (hcm : c ≤ maxLen) (hb : base ≤ g)
    (hg : w.heap[g]? = some (.cells cur 105 (0, 0))) (hcs : cur.size = c * 2) (htake : cur.toList.take (n * 2) = l.flatMap cvP) (hvb : Blk w vb 105 #[.string s, .int .i64 x]) (hne : g ≠ vb) :
    ∃ W1 W2, (callFunc 148 #[.slice (some ⟨vb, 0, none⟩) 1 1, .slice (some ⟨g, (i + 1) * 2, none⟩) (n - i) (c - (i + 1))]).run Tryz.prog w = .ok (.value (.bool false)) w ∧
      (∀ ty, (Builtin.copy_ #[37, 37] ty #[.slice (some ⟨g, (i + 1) * 2, none⟩) (n - i) (c - (i + 1)), .slice (some ⟨g, i * 2, none⟩) (n + 1 - i) (c - i)]).run Tryz.prog w.drew = .ok (goInt (n - i : Nat)) W1) ∧
      (∀ ty, (Builtin.copy_ #[37, 36] ty #[.slice (some ⟨g, i * 2, none⟩) (n + 1 - i) (c - i), .slice (some ⟨vb, 0, none⟩) 1 1]).run Tryz.prog W1 = .ok (goInt 1) W2) ∧
      W2.ownsRow base 105 2 (.slice (some ⟨g, 0, none⟩) (n + 1) c) (n + 1) ((l.take i ++ (s, x) :: l.drop i).flatMap cvP) ∧ w.grownBy W2 (some g) := by
  have hll := cvP_len l
  rw [hln] at hll
  have hcl : cur.toList.length = c * 2 := by rw [Array.length_toList, hcs]
  have hcell : ∀ (j : Nat) (v : Value), ((l.flatMap cvP).drop (i * 2))[j]? = some v → w.cell? ((⟨g, i * 2, none⟩ : Addr).add j) = some v := by
    intro j v hj
    rw [List.getElem?_drop, ← htake, List.getElem?_take] at hj
    rw [Addr.add_lit, cell_of_row w g _ cur _ (0, 0) hg]
    split at hj
    · simpa using hj
    · cases hj
  have hdl : ((l.flatMap cvP).drop (i * 2)).length = (n - i) * 2 := by rw [List.length_drop, hll]; omega
  have h1 := run_copy_rowK (P := Tryz.prog) w.drew 37 37 0 105 2 g ((i + 1) * 2) (n - i) (c - (i + 1)) ⟨g, i * 2, none⟩ (n + 1 - i) (c - i) cur _ ((l.flatMap cvP).drop (i * 2)) (n - i)
    Tryz.underlying37 pr_size hg (by simp only [Nat.min_def]; split <;> omega) hdl hcell (by rw [hdl, hcs]; omega) (fun v hv => cvP_oneCell l v (List.mem_of_mem_drop hv))
  obtain ⟨cu1, hcu1⟩ : ∃ cu1, cu1 = (splice cur.toList ((i + 1) * 2) ((l.flatMap cvP).drop (i * 2))).toArray := ⟨_, rfl⟩
  rw [← hcu1] at h1
  have hg1 : (w.drew.setRow g cu1).heap[g]? = some (.cells cu1 105 (0, 0)) := setRow_heap _ g cur _ _ _ hg
  have hs1 : cu1.size = c * 2 := by rw [hcu1, List.size_toArray, length_splice _ _ _ (by rw [hdl, hcl]; omega), hcl]
  have hv1 : Blk (w.drew.setRow g cu1) vb 105 #[.string s, .int .i64 x] := by
    unfold Blk
    rw [setRow_other _ g vb _ (Ne.symm hne)]
    exact hvb
  have h2 := run_copy_rowK (P := Tryz.prog) (w.drew.setRow g cu1) 37 36 0 105 2 g (i * 2) (n + 1 - i) (c - i) ⟨vb, 0, none⟩ 1 1 cu1 _ [.string s, .int .i64 x] 1
    Tryz.underlying37 pr_size hg1 (by simp only [Nat.min_def]; split <;> omega) rfl (World.news_of_block hv1) (by rw [hs1]; simp; omega) (by intro u hu; simp at hu; rcases hu with rfl | rfl <;> rfl)
  refine ⟨_, _, ?_, fun ty => h1, fun ty => h2, ?_, ?_⟩
  · rw [run_callFunc_extern Tryz.func148 (by kernel_rfl) (by kernel_rfl) (by kernel_rfl) (e := Extern.SlicesOverlaps.overlaps #[36, 36] #[4]) (by kernel_rfl),
      Lib.run_overlaps_apart w 36 4 105 Tryz.underlying36 2 (fun w => by simp [sizeOf, typeInfo, hti, hz1]) ⟨vb, 0, none⟩ ⟨g, (i + 1) * 2, none⟩ 1 1 (n - i) (c - (i + 1)) (Ne.symm hne) 105 105 2 cur.size
        (by unfold Blk at hvb; simp [World.shape?, hvb]) (by simp [World.shape?, hg]) (by rw [hcs]; omega) (hvb.frozen 0) (hvb.frozen 2)]
    rfl
  · have r := row_own (w := (w.drew.setRow g cu1).setRow g (splice cu1.toList (i * 2) [.string s, .int .i64 x]).toArray) (n := n + 1) (cap := c) (k := 2) (e := 105) hb (setRow_heap _ g cu1 _ _ _ hg1) hroom hcm (by rw [List.size_toArray, length_splice _ _ _ (by have := hs1; simp; omega), Array.length_toList, hs1])
    have e := splice_insert cur.toList (l.flatMap cvP) [Value.string s, .int .i64 x] (n * 2) (i * 2) htake hll (by omega) (by rw [hcl]; simp; omega)
    have hlist : (splice cu1.toList (i * 2) [Value.string s, .int .i64 x]).take ((n + 1) * 2) = (l.take i ++ (s, x) :: l.drop i).flatMap cvP := by
      rw [hcu1, List.toList_toArray, show (n + 1) * 2 = n * 2 + [Value.string s, Value.int .i64 x].length by simp; omega, show (i + 1) * 2 = i * 2 + [Value.string s, Value.int .i64 x].length by simp; omega, e]
      rw [List.flatMap_append, List.flatMap_cons, flat_take (k := 2) (fun _ => rfl), flat_drop (k := 2) (fun _ => rfl), ← List.append_assoc]
      rfl
    rw [List.toList_toArray, hlist] at r
    exact r
  · exact only_trans (a := w) (b := w.drew) ⟨rfl, rfl, rfl, Nat.le_refl _, fun _ _ _ => rfl⟩ (only_trans (grown_setRow _ g _) (grown_setRow _ g _))

theorem splice_fill {α : Type} (L A v B : List α) (p : Nat) (hA : L.take p = A) (hp : A.length = p) (hl : p + v.length + B.length ≤ L.length) :
    (splice (splice L p v) (p + v.length) B).take (p + v.length + B.length) = A ++ v ++ B := by
  have hl1 : (splice L p v).length = L.length := length_splice _ _ _ (by omega)
  have e1 : (splice L p v).take (p + v.length) = A ++ v := by
    rw [splice, hA, ← List.append_assoc]
    exact List.take_left' (by simp; omega)
  rw [show splice (splice L p v) (p + v.length) B = (splice L p v).take (p + v.length) ++ (B ++ (splice L p v).drop (p + v.length + B.length)) from rfl, e1, ← List.append_assoc]
  exact List.take_left' (by simp; omega)
/-- Insert into a new row: what the calls within leave. -/
theorem grow_world (w : World) (tr : TypeInfo) (hti : Tryz.prog.info? 105 = some tr) (hz0 : tr.zero = some (.agg #[.string ByteArray.empty, .int .i64 0])) (hz1 : tr.size = 2) (hz2 : tr.bytes = 24) (g i n c vb : Nat) (cur : Array Value) (l : List Pr) (s : ByteArray) (x : Int) {base : Nat} (hbase : base ≤ w.heap.size) (hln : l.length = n) (hi : i < n) (hn : n ≤ 1000) (hnc : n ≤ c) (hroom : c < n + 1)
    (hg : w.heap[g]? = some (.cells cur 105 (0, 0))) (htake : cur.toList.take (n * 2) = l.flatMap cvP) (hvb : Blk w vb 105 #[.string s, .int .i64 x]) :
    ∃ W1 W2 W3 G, (∀ ty, (Builtin.append_ #[37, 3] ty #[.slice (some ⟨g, 0, none⟩) i c, .int .i64 ((n : Int) + 1 - (i : Int))]).run Tryz.prog w = .ok (.slice (some ⟨w.heap.size, 0, none⟩) (n + 1) G) W1) ∧
      (∀ ty, (Builtin.copy_ #[37, 36] ty #[.slice (some ⟨w.heap.size, i * 2, none⟩) (n + 1 - i) (G - i), .slice (some ⟨vb, 0, none⟩) 1 1]).run Tryz.prog W1 = .ok (goInt 1) W2) ∧
      (∀ ty, (Builtin.copy_ #[37, 37] ty #[.slice (some ⟨w.heap.size, (i + 1) * 2, none⟩) (n - i) (G - (i + 1)), .slice (some ⟨g, i * 2, none⟩) (n - i) (c - i)]).run Tryz.prog W2.drew = .ok (goInt (n - i : Nat)) W3) ∧
      n + 1 ≤ G ∧ G ≤ maxLen ∧
      W3.ownsRow base 105 2 (.slice (some ⟨w.heap.size, 0, none⟩) (n + 1) G) (n + 1) ((l.take i ++ (s, x) :: l.drop i).flatMap cvP) ∧ w.grownBy W3 none := by
  have hll := cvP_len l
  rw [hln] at hll
  have hgl : g < w.heap.size := (Array.getElem?_eq_some_iff.1 hg).1
  have hvl := hvb.lt
  obtain ⟨G, hG⟩ : ∃ G, G = grownCap w (n + 1) c 105 := ⟨_, rfl⟩
  have hG1 : n + 1 ≤ G := by rw [hG]; exact grownCap_ge w _ _ _
  have hG2 : G ≤ maxLen := by rw [hG]; exact grownCap_le_maxLen w _ _ _ (by unfold maxLen; omega)
  have hcellw : ∀ (j : Nat) (v : Value), (l.flatMap cvP)[j]? = some v → w.cell? ⟨g, j, none⟩ = some v := by
    intro j v hj
    rw [← htake, List.getElem?_take] at hj
    rw [cell_of_row w g _ cur _ (0, 0) hg]
    split at hj
    · simpa using hj
    · cases hj
  have hold : (Builtin.firstCells tr.size i (.slice (some ⟨g, 0, none⟩) i c)).run Tryz.prog w.drew = .ok ((l.flatMap cvP).take (i * 2)).toArray w.drew := by
    rw [hz1]
    exact run_firstCells_some w.drew 2 i ⟨g, 0, none⟩ i c _ (by rw [List.length_take, hll]; omega) (fun j v hj => by
      rw [List.getElem?_take] at hj
      rw [Addr.add_lit, Nat.zero_add]
      split at hj
      · exact hcellw j v hj
      · cases hj)
  have hik : i + (n + 1 - i) = n + 1 := by omega
  have hrz := fun ty => Lib.run_append_grow_zeros (P := Tryz.prog) w 37 3 ty 105 tr _ .i64 .i64 Tryz.underlying37 Tryz.underlying3 hti hz0 (some ⟨g, 0, none⟩) i c _ hold (n + 1 - i) (by omega) (by rw [hz1]; decide) (by omega) (by omega) (by rw [hz2]; omega)
    (by rw [hz2, hik]; exact growslice_fits hroom (by omega))
  rw [hik, ← hG] at hrz
  obtain ⟨ROW, hROW⟩ : ∃ ROW : Array Value, ROW = ((l.flatMap cvP).take (i * 2)).toArray ++ Builtin.zeroCells (Value.agg #[.string ByteArray.empty, .int .i64 0]).cells (n + 1 - i) ++ Builtin.zeroCells (Value.agg #[.string ByteArray.empty, .int .i64 0]).cells (G - (n + 1)) := ⟨_, rfl⟩
  rw [← hROW] at hrz
  have hRs : ROW.size = G * 2 := by
    rw [hROW, Array.size_append, Array.size_append, size_zeroCells, size_zeroCells, List.size_toArray, List.length_take, hll]
    simp [Value.cells]
    omega
  have hRt : ROW.toList.take (i * 2) = (l.flatMap cvP).take (i * 2) := by
    rw [hROW, Array.toList_append, Array.toList_append, List.append_assoc]
    exact List.take_left' (by rw [List.toList_toArray, List.length_take, hll]; omega)
  have hRl : ROW.toList.length = G * 2 := by rw [Array.length_toList, hRs]
  have g1 : (w.drew.alloc (.cells ROW 105)).heap[w.heap.size]? = some (.cells ROW 105 (0, 0)) := heap_alloc_new w.drew _
  have v1 : Blk (w.drew.alloc (.cells ROW 105)) vb 105 #[.string s, .int .i64 x] := Blk.alloc (w := w.drew) hvb _
  have h1 := run_copy_rowK (P := Tryz.prog) (w.drew.alloc (.cells ROW 105)) 37 36 0 105 2 w.heap.size (i * 2) (n + 1 - i) (G - i) ⟨vb, 0, none⟩ 1 1 ROW _ [.string s, .int .i64 x] 1
    Tryz.underlying37 pr_size g1 (by simp only [Nat.min_def]; split <;> omega) rfl (World.news_of_block v1) (by rw [hRs]; simp; omega) (by intro u hu; simp at hu; rcases hu with rfl | rfl <;> rfl)
  obtain ⟨cu1, hcu1⟩ : ∃ cu1, cu1 = (splice ROW.toList (i * 2) [Value.string s, .int .i64 x]).toArray := ⟨_, rfl⟩
  rw [← hcu1] at h1
  have hs1 : cu1.size = G * 2 := by rw [hcu1, List.size_toArray, length_splice _ _ _ (by rw [hRl]; simp; omega), hRl]
  obtain ⟨W2, hW2⟩ : ∃ W2, W2 = (w.drew.alloc (.cells ROW 105)).setRow w.heap.size cu1 := ⟨_, rfl⟩
  have g2 : W2.heap[w.heap.size]? = some (.cells cu1 105 (0, 0)) := by rw [hW2]; exact setRow_heap _ _ ROW _ _ _ g1
  have c2 : ∀ (j : Nat) (v : Value), (l.flatMap cvP)[j]? = some v → W2.cell? ⟨g, j, none⟩ = some v := by
    intro j v hj
    rw [hW2, ← hcellw j v hj]
    refine World.cell?_of_block (a := ⟨g, j, none⟩) ?_
    rw [setRow_other _ _ g _ (by omega)]
    exact heap_alloc_old w.drew _ hgl
  have hdl : ((l.flatMap cvP).drop (i * 2)).length = (n - i) * 2 := by rw [List.length_drop, hll]; omega
  have h2 := run_copy_rowK (P := Tryz.prog) W2.drew 37 37 0 105 2 w.heap.size ((i + 1) * 2) (n - i) (G - (i + 1)) ⟨g, i * 2, none⟩ (n - i) (c - i) cu1 _ ((l.flatMap cvP).drop (i * 2)) (n - i)
    Tryz.underlying37 pr_size g2 (by simp only [Nat.min_def]; split <;> omega) hdl (fun j v hj => by
      rw [List.getElem?_drop] at hj
      rw [Addr.add_lit]
      exact c2 _ v hj) (by rw [hdl, hs1]; omega) (fun v hv => cvP_oneCell l v (List.mem_of_mem_drop hv))
  rw [← hW2] at h1
  have hl1 : cu1.toList.length = G * 2 := by rw [Array.length_toList]; exact hs1
  refine ⟨_, W2, _, G, fun ty => ?_, fun ty => h1, fun ty => h2, hG1, hG2, ?_, ?_⟩
  · have := hrz ty
    rwa [show ((n + 1 - i : Nat) : Int) = (n : Int) + 1 - (i : Int) by omega] at this
  · have r := row_own (w := W2.drew.setRow w.heap.size (splice cu1.toList ((i + 1) * 2) ((l.flatMap cvP).drop (i * 2))).toArray) (n := n + 1) (cap := G) (k := 2) (e := 105) hbase (setRow_heap _ _ cu1 _ _ _ g2) hG1 hG2 (by rw [List.size_toArray, length_splice _ _ _ (by rw [hdl, hl1]; omega), hl1])
    have e := splice_fill ROW.toList ((l.flatMap cvP).take (i * 2)) [Value.string s, .int .i64 x] ((l.flatMap cvP).drop (i * 2)) (i * 2) hRt (by rw [List.length_take, hll]; omega) (by rw [hRl, hdl]; simp; omega)
    have hlist : (splice cu1.toList ((i + 1) * 2) ((l.flatMap cvP).drop (i * 2))).take ((n + 1) * 2) = (l.take i ++ (s, x) :: l.drop i).flatMap cvP := by
      rw [hcu1, List.toList_toArray, show (n + 1) * 2 = i * 2 + [Value.string s, Value.int .i64 x].length + ((l.flatMap cvP).drop (i * 2)).length by rw [hdl]; simp; omega, show (i + 1) * 2 = i * 2 + [Value.string s, Value.int .i64 x].length by simp; omega, e]
      rw [List.flatMap_append, List.flatMap_cons, flat_take (k := 2) (fun _ => rfl), flat_drop (k := 2) (fun _ => rfl), ← List.append_assoc]
      rfl
    rw [List.toList_toArray, hlist] at r
    exact r
  · have k1 : w.grownBy (w.drew.alloc (.cells ROW 105)) none := ⟨rfl, rfl, rfl, by simp, fun k hk _ => heap_alloc_old w.drew _ hk⟩
    have old : ∀ (W : World) (cs : Array Value), w.grownBy W none → w.grownBy (W.setRow w.heap.size cs) none := fun W cs h => ⟨h.os, h.tape, h.output, by simpa [World.setRow] using h.size, fun k hk hne => (setRow_other W w.heap.size k cs (by omega)).trans (h.block k hk hne)⟩
    have k2 := old _ cu1 k1
    rw [← hW2] at k2
    exact old W2.drew _ ⟨k2.os, k2.tape, k2.output, k2.size, k2.block⟩

/-- A pair more, or another value at its name. -/
def putS : List Pr → Pr → List Pr
  | [], p => [p]
  | a :: l, p => if ltB a.1 p.1 = true then a :: putS l p else if a.1 = p.1 then p :: l else p :: a :: l

set_option maxRecDepth 100000 in
set_option maxHeartbeats 8000000 in
theorem insert_any (v : Value) (base n : Nat) (l : List Pr) (vb i : Nat) (s : ByteArray) (x : Int) (w : World) (h : w.ownsRow base 105 2 v n (l.flatMap cvP)) (hbase : base ≤ w.heap.size) (hln : l.length = n) (hn : n ≤ 1000) (hi : i ≤ n)
    (hvb : Blk w vb 105 #[.string s, .int .i64 x]) (hne : v.ownBlock ≠ some vb) :
    Calls Tryz.prog 123 #[v, .int .i64 i, .slice (some ⟨vb, 0, none⟩) 1 1] w fun e w' =>
      ∃ A c, e = .returned (.slice A (n + 1) c) ∧ w'.ownsRow base 105 2 (.slice A (n + 1) c) (n + 1) ((l.take i ++ (s, x) :: l.drop i).flatMap cvP) ∧ w.grownBy w' v.ownBlock := by
  obtain ⟨tr, hti, hz0, hz1, hz2⟩ := info_parts pr_info
  obtain ⟨A, c, rfl⟩ := own_form h
  have hcap := own_cap h
  by_cases hin : i = n
  · subst hin
    obtain ⟨g, cap, w', hrun, hown, hg⟩ := append2 (P := Tryz.prog) w 37 36 105 base 105 tr _ 2 24 Tryz.underlying37 Tryz.underlying36 hti hz0 hz1 hz2 rfl (by decide) _ i _ h ⟨vb, 0, none⟩ 1 1 [.string s, .int .i64 x] rfl (World.news_of_block hvb) (by intro u hu; simp at hu; rcases hu with rfl | rfl <;> rfl) (by omega) (by unfold maxLen; omega) (by omega) hbase
    have HX := Lib.hid (And.intro hown hg)
    have HL := Lib.hid (show (l.take i ++ (s, x) :: l.drop i).flatMap cvP = l.flatMap cvP ++ [.string s, .int .i64 x] by rw [← hln, List.take_length, List.drop_length, cvP_snoc])
    obtain ⟨A3, c3, hsl, hsl2⟩ := slice_some (P := Tryz.prog) 37 105 tr Tryz.underlying37 hti A i c i (Nat.le_refl _)
    clear hown hg h hne hvb hln hcap
    go_enter Tryz.func123, Tryz.ntmps123
    go_wp2_with (at_builtin; refine Lib.wpList_append_run _ rfl _ _ _ _ rfl _ _ rfl rfl _ _ (hrun _) ?_)
    go_ret
    exact ⟨some ⟨g, 0, none⟩, cap, rfl, by rw [HL.out]; exact HX.out.1, HX.out.2⟩
  · have hin2 : i < n := by omega
    rcases h.2 with ⟨hv, h0⟩ | ⟨g, cap, cur, hv, hbg, hg, hnc, hcm, hcs, htake⟩
    · omega
    · injection hv with hA1 hA2 hA3
      subst hA1 hA3
      clear hA2
      have hgl : g < w.heap.size := (Array.getElem?_eq_some_iff.1 hg).1
      have hi1 : (0 : Int) ≤ (i : Int) := by omega
      have hi2 : (i : Int) ≤ (n : Int) := by omega
      have hi3 : ((i : Int) == (n : Int)) = false := by rw [beq_eq_false_iff_ne]; omega
      by_cases hroom : n + 1 ≤ c
      · have hr1 : ¬ ((c : Int) < (n : Int) + 1) := by omega
        have hc63 : c ≤ 9223372036854775807 := by have := hcm; unfold maxLen at this; omega
        obtain ⟨W1, W2, hov, hcp1, hcp2, hown, hgr⟩ := shift_world w tr hti hz1 g i n c vb cur l s x hln hin2 hroom hcm hbg hg hcs htake hvb (fun e => hne (by rw [e]; rfl))
        have HX := Lib.hid (And.intro hown hgr)
        clear hn hown hgr h hne hg hvb htake hcs hln hcap
        go_enter Tryz.func123, Tryz.ntmps123
        go_upto_region 15 with fail
        go_region
        all_goals (
          go_wp2_with fail
          go_ret
          exact ⟨some ⟨g, 0, none⟩, c, rfl, by first | exact HX.out.1 | (have e := HX.out.1; rw [List.flatMap_append, List.flatMap_cons] at e; exact e), HX.out.2⟩)
      · have hr1 : (c : Int) < (n : Int) + 1 := by omega
        obtain ⟨W1, W2, W3, G, hrz, hcpA, hcpB, hG1, hG2, hown, hgr⟩ := grow_world w tr hti hz0 hz1 hz2 g i n c vb cur l s x hbase hln hin2 hn hnc (by omega) hg htake hvb
        have hG63 : G ≤ 9223372036854775807 := by have := hG2; unfold maxLen at this; omega
        have hc63 : c ≤ 9223372036854775807 := by have := hcm; unfold maxLen at this; omega
        have HX := Lib.hid (And.intro hown (only_row (row := some g) hgr))
        have hgi : ¬ (G = i) := by omega
        have hgi1 : ¬ (G = i + 1) := by omega
        have hci : ¬ (c = i) := by omega
        clear hown hgr h hne hg hvb htake hcs hln hcap
        go_enter Tryz.func123, Tryz.ntmps123
        go_upto_region 11 with (first
          | (at_builtin; refine Lib.wpList_append_run _ rfl _ _ _ _ rfl _ _ rfl rfl _ _ (hrz _) ?_)
          | (at_builtin; refine wpList_copy_runI _ rfl _ _ _ _ rfl _ _ rfl rfl (hcpA _) ?_))
        go_region
        all_goals (
          go_wp2_with fail
          go_ret
          exact ⟨some ⟨w.heap.size, 0, none⟩, G, rfl, by first | exact HX.out.1 | (have e := HX.out.1; rw [List.flatMap_append, List.flatMap_cons] at e; exact e), HX.out.2⟩)

end Go.Proofs.YtaalhglooipnaaaGreat
