/-
  Pairs of two strings: the walks over where, put, Of, Set, Same of layer 4 (written by gen_str.py out of the texts on pairs of a name and a number).
-/
import Derived.Test.YtaalhglooipnaaaGreatL05
import Derived.Test.YtaalhglooipnaaaGreatL04
namespace Go.Proofs.YtaalhglooipnaaaGreat.St
open Go.RowKit
attribute [local go_sem ↓] Go.wp_at_zero Go.wp_at_succ

abbrev Pr := ByteArray × ByteArray

def pr0 : Pr := (ByteArray.empty, ByteArray.empty)

def cvP (p : Pr) : List Value := [.string p.1, .string p.2]

abbrev Ps (w : World) (B : Nat) (A : Option Addr) (n : Nat) (l : List Pr) : Prop := Rd cvP pr0 2 w B A n l

theorem rd_pr {w : World} {B : Nat} {A : Option Addr} {n : Nat} {l : List Pr} (h : Ps w B A n l) (k : Nat) (hk : k < n) : ∃ b off, A = some ⟨b, off, none⟩ ∧ b < B ∧ w.cell? ⟨b, off + k * 2, none⟩ = some (.string (l.getD k pr0).1) ∧ w.cell? ⟨b, off + k * 2 + 1, none⟩ = some (.string (l.getD k pr0).2) := by
  obtain ⟨b, off, hA, hB, h0⟩ := h.2 k hk
  exact ⟨b, off, hA, hB, h0 0 (by omega), h0 1 (by omega)⟩

theorem pr_info : (Tryz.prog.info? 90).map (fun i => (i.zero, i.size, i.bytes)) = some (some (.agg #[.string ByteArray.empty, .string ByteArray.empty]), 2, 32) := by kernel_rfl

theorem cvP_snoc (l : List Pr) (p : Pr) : (l ++ [p]).flatMap cvP = l.flatMap cvP ++ [.string p.1, .string p.2] := by simp [cvP]

theorem cvP_len (l : List Pr) : (l.flatMap cvP).length = l.length * 2 := flat_len (sz := 2) (fun _ => rfl) l

theorem cvP_oneCell (l : List Pr) : ∀ u ∈ l.flatMap cvP, u.oneCell' = true := by
  intro u hu
  simp only [cvP, List.mem_flatMap, List.mem_cons, List.not_mem_nil, or_false] at hu
  obtain ⟨z, _, rfl | rfl⟩ := hu <;> rfl

set_option maxHeartbeats 4000000 in
theorem wheref_any (s t : ByteArray) (v : ByteArray) (w : World) :
    Calls Tryz.prog 142 #[.agg #[.string s, .string v], .string t] w fun e w' => e = .returned (.int .i64 (cmpB s t)) ∧ Below w.heap.size w w' := by
  have HB := Lib.hid ((Below.refl w.heap.size w).alloc (Nat.le_refl _) (.cells #[.string s, .string v] 90))
  have hX := Blk.new w 90 #[.string s, .string v]
  have y0 := hX.cell 0
  clear hX
  go_enter Tryz.func142, Tryz.ntmps142
  go_wp2_with (first | (go_at_call 143; ((with_reducible refine (compare_any _ _ _).mono ?_); rintro e w' ⟨rfl, rfl⟩)))
  go_ret
  exact ⟨rfl, HB.out⟩

/-- Names that rise. -/
def Srt (l : List Pr) : Prop := ∀ i j, i < j → j < l.length → ltB (l.getD i pr0).1 (l.getD j pr0).1 = true

/-- Where a name stands, or would. -/
structure At (l : List Pr) (s : ByteArray) (r : Nat) : Prop where
  le : r ≤ l.length
  low : ∀ k, k < r → ltB (l.getD k pr0).1 s = true
  high : ∀ k, r ≤ k → k < l.length → ltB (l.getD k pr0).1 s = false

def isAt (l : List Pr) (s : ByteArray) (r : Nat) : Bool := decide (r < l.length) && decide ((l.getD r pr0).1 = s)

set_option maxRecDepth 100000 in
set_option maxHeartbeats 8000000 in
theorem bsearch_any (A : Option Addr) (n c B : Nat) (l : List Pr) (s : ByteArray) (w : World) (hz : Ps w B A n l) (hB : B ≤ w.heap.size) (hn : n ≤ 1000) (hs : Srt l) :
    Calls Tryz.prog 141 #[.slice A n c, .string s, .func (.func 142) #[] #[]] w fun e w' =>
      ∃ r : Nat, e = .returned (.tuple #[.int .i64 r, .bool (isAt l s r)]) ∧ At l s r ∧ Below w.heap.size w w' := by
  have HZ := Lib.hid (And.intro hz hs)
  have HBB := Lib.hid hB
  clear hz hs hB
  go_enter Tryz.func141, Tryz.ntmps141
  go_wp2_with fail
  go_loopw [9, 10] (fun vi vj wx => ∃ i j : Nat, vi = .int .i64 i ∧ vj = .int .i64 j ∧ i ≤ j ∧ j ≤ n ∧ Below w.heap.size w wx ∧ Hid ((∀ k, k < i → ltB (l.getD k pr0).1 s = true) ∧ (∀ k, j ≤ k → k < n → ltB (l.getD k pr0).1 s = false))) (fun vi vj _ => (intOf vj - intOf vi).toNat)
  case atStart => exact ⟨0, n, rfl, rfl, Nat.zero_le _, Nat.le_refl _, Below.refl _ _, fun k hk => by omega, fun k hk hk2 => by omega⟩
  case round =>
    obtain ⟨i, j, rfl, rfl, hij, hjn, hb, hH⟩ := hrel
    by_cases hlt : i < j
    · obtain ⟨h, hh⟩ : ∃ h, h = (i + j) / 2 := ⟨_, rfl⟩
      have hh1 : i ≤ h := by omega
      have hh2 : h < j := by omega
      have hhI : ((i : Int) + (j : Int)) / 2 = (h : Int) := by omega
      obtain ⟨b, off, rfl, hbB, d0, d1⟩ := rd_pr HZ.out.1 h (by omega)
      replace d0 := (hb.cell (p := ⟨b, off + h * 2, none⟩) (by have := HBB.out; simp only; omega)).trans d0
      replace d1 := (hb.cell (p := ⟨b, off + h * 2 + 1, none⟩) (by have := HBB.out; simp only; omega)).trans d1
      have HM := Lib.hid (fun k (hk : k ≤ h) (he : ltB (l.getD h pr0).1 s = true) => show ltB (l.getD k pr0).1 s = true from by
        by_cases e : k = h
        · rw [e]; exact he
        · exact lt_trans (HZ.out.2 k h (by omega) (by have := HZ.out.1.1; omega)) he)
      have HM2 := Lib.hid (fun k (hk : h ≤ k) (hk2 : k < n) (he : ltB (l.getD h pr0).1 s = false) => show ltB (l.getD k pr0).1 s = false from by
        by_cases e : k = h
        · rw [e]; exact he
        · cases hq : ltB (l.getD k pr0).1 s with
          | false => rfl
          | true =>
            have := lt_trans (HZ.out.2 h k (by omega) (by have := HZ.out.1.1; omega)) hq
            rw [he] at this; cases this)
      obtain ⟨⟨t, v⟩, ht⟩ : ∃ t, t = l.getD h pr0 := ⟨_, rfl⟩
      rw [← ht] at d0 d1 HM HM2
      simp only at d0 d1
      have i1 : (0 : Int) ≤ (h : Int) := by omega
      have i2 : (h : Int) < (n : Int) := by omega
      have HB := Lib.hid hb
      clear ht hb hh
      by_cases hq : ltB t s = true
      · have hc : cmpB t s = -1 := if_pos hq
        have HI := Lib.hid (fun k (hk : k < h + 1) => HM.out k (by omega) hq)
        clear HM HM2
        go_wp2_with (first | (go_at_call 142; refine (wheref_any t s v _).mono ?_; rintro e w5 ⟨rfl, hb5⟩; have HB5 := Lib.hid (HB.out.trans (hb5.mono HB.out.size)); clear hb5; rw [hc]))
        go_roundw
        case rel => exact ⟨h + 1, j, by first | rfl | go_num | (simp [hhI]; done), rfl, by omega, by omega, HB5.out, ⟨HI.out, hH.out.2⟩⟩
        case measure => simp [intOf]; omega
      · have hq2 := Bool.eq_false_iff.2 hq
        have hc : ¬ cmpB t s < 0 := by rw [cmpB, if_neg hq]; split <;> decide
        obtain ⟨cc, hcc⟩ : ∃ cc, cc = cmpB t s := ⟨_, rfl⟩
        rw [← hcc] at hc
        have hc2 : decide (cc < 0) = false := by simpa using hc
        have HCC := Lib.hid hcc
        have HI := Lib.hid (fun k (hk : h ≤ k) (hk2 : k < n) => HM2.out k hk hk2 hq2)
        clear HM HM2 hcc
        go_wp2_with (first | (go_at_call 142; refine (wheref_any t s v _).mono ?_; rintro e w5 ⟨rfl, hb5⟩; have HB5 := Lib.hid (HB.out.trans (hb5.mono HB.out.size)); clear hb5; rw [← HCC.out]))
        go_roundw
        case rel => exact ⟨i, h, rfl, by first | rfl | go_num | (simp [hhI]; done), by omega, by omega, HB5.out, ⟨hH.out.1, HI.out⟩⟩
        case measure => simp [intOf]; omega
    · obtain rfl : i = j := by omega
      have HA := Lib.hid (show At l s i from ⟨by rw [HZ.out.1.1]; exact hjn, hH.out.1, fun k hk hk2 => hH.out.2 k hk (by rw [← HZ.out.1.1]; exact hk2)⟩)
      have HIA := Lib.hid (show isAt l s i = (decide (i < n) && decide ((l.getD i pr0).1 = s)) by rw [isAt, HZ.out.1.1])
      have HB := Lib.hid hb
      clear hb
      by_cases hin : i < n
      · obtain ⟨b, off, rfl, hbB, d0, d1⟩ := rd_pr HZ.out.1 i hin
        replace d0 := (HB.out.cell (p := ⟨b, off + i * 2, none⟩) (by have := HBB.out; simp only; omega)).trans d0
        replace d1 := (HB.out.cell (p := ⟨b, off + i * 2 + 1, none⟩) (by have := HBB.out; simp only; omega)).trans d1
        obtain ⟨⟨t, v⟩, ht⟩ : ∃ t, t = l.getD i pr0 := ⟨_, rfl⟩
        rw [← ht] at d0 d1 HIA
        simp only at d0 d1 HIA
        have hlf : ltB t s = false := by
          have := hH.out.2 i (Nat.le_refl _) hin
          rw [← ht] at this
          exact this
        have i1 : (0 : Int) ≤ (i : Int) := by omega
        have i2 : (i : Int) < (n : Int) := by omega
        clear ht
        by_cases hq : t = s
        · have hc : cmpB t s = 0 := by rw [cmpB, if_neg (by rw [hlf]; decide), if_pos hq]
          have HT := Lib.hid (show isAt l s i = true by rw [HIA.out]; simp [hin, hq])
          clear hq hlf
          go_wp2_with (first | (go_at_call 142; refine (wheref_any t s v _).mono ?_; rintro e w5 ⟨rfl, hb5⟩; have HB5 := Lib.hid (HB.out.trans (hb5.mono HB.out.size)); clear hb5; rw [hc]))
          exact bodyPost_ret (v := .tuple #[.int .i64 i, .bool true]) (by simp [results, Tryz.results141, go_sem]) rfl ⟨i, by rw [HT.out], HA.out, HB5.out⟩
        · have hc : cmpB t s = 1 := by rw [cmpB, if_neg (by rw [hlf]; decide), if_neg hq]
          have HT := Lib.hid (show isAt l s i = false by rw [HIA.out]; simp [hq])
          clear hq hlf
          go_wp2_with (first | (go_at_call 142; refine (wheref_any t s v _).mono ?_; rintro e w5 ⟨rfl, hb5⟩; have HB5 := Lib.hid (HB.out.trans (hb5.mono HB.out.size)); clear hb5; rw [hc]))
          exact bodyPost_ret (v := .tuple #[.int .i64 i, .bool false]) (by simp [results, Tryz.results141, go_sem]) rfl ⟨i, by rw [HT.out], HA.out, HB5.out⟩
      · have HT := Lib.hid (show isAt l s i = false by rw [HIA.out]; simp [hin])
        have i2 : decide ((i : Int) < (n : Int)) = false := by simp; omega
        go_wp2
        exact bodyPost_ret (v := .tuple #[.int .i64 i, .bool false]) (by simp [results, Tryz.results141, go_sem]) rfl ⟨i, by rw [HT.out], HA.out, HB.out⟩

set_option maxHeartbeats 4000000 in
theorem where_any (A : Option Addr) (n c B : Nat) (l : List Pr) (s : ByteArray) (w : World) (hz : Ps w B A n l) (hB : B ≤ w.heap.size) (hn : n ≤ 1000) (hs : Srt l) :
    Calls Tryz.prog 120 #[.slice A n c, .string s] w fun e w' =>
      ∃ r : Nat, e = .returned (.tuple #[.int .i64 r, .bool (isAt l s r)]) ∧ At l s r ∧ Below w.heap.size w w' := by
  have HZ := Lib.hid (And.intro hz hs)
  have HBB := Lib.hid hB
  clear hz hs hB
  go_enter Tryz.func120, Tryz.ntmps120
  go_wp2_with fail
  refine (bsearch_any A n c B l s _ HZ.out.1 HBB.out hn HZ.out.2).mono ?_
  rintro e w1 ⟨r, rfl, hr, hb⟩
  have HR := Lib.hid (And.intro hr hb)
  clear hr hb
  obtain ⟨q, hq⟩ : ∃ q, q = isAt l s r := ⟨_, rfl⟩
  rw [← hq]
  have HQ := Lib.hid hq
  clear hq
  go_wp2
  exact bodyPost_ret (v := .tuple #[.int .i64 r, .bool q]) (by simp [results, Tryz.results120, go_sem]) rfl ⟨r, by rw [HQ.out], HR.out.1, HR.out.2⟩

theorem pr_size : (Tryz.prog.info? 90).map (·.size) = some 2 := by kernel_rfl

/-- Insert in place: what the calls within leave. -/
theorem shift_world (w : World) (tr : TypeInfo) (hti : Tryz.prog.info? 90 = some tr) (hz1 : tr.size = 2) (g i n c vb : Nat) (cur : Array Value) (l : List Pr) (s : ByteArray) (x : ByteArray) {base : Nat} (hln : l.length = n) (hi : i < n) (hroom : n + 1 ≤ c) (hcm : c ≤ maxLen) (hb : base ≤ g)
    (hg : w.heap[g]? = some (.cells cur 90 (0, 0))) (hcs : cur.size = c * 2) (htake : cur.toList.take (n * 2) = l.flatMap cvP) (hvb : Blk w vb 90 #[.string s, .string x]) (hne : g ≠ vb) :
    ∃ W1 W2, (callFunc 144 #[.slice (some ⟨vb, 0, none⟩) 1 1, .slice (some ⟨g, (i + 1) * 2, none⟩) (n - i) (c - (i + 1))]).run Tryz.prog w = .ok (.value (.bool false)) w ∧
      (∀ ty, (Builtin.copy_ #[35, 35] ty #[.slice (some ⟨g, (i + 1) * 2, none⟩) (n - i) (c - (i + 1)), .slice (some ⟨g, i * 2, none⟩) (n + 1 - i) (c - i)]).run Tryz.prog w.drew = .ok (goInt (n - i : Nat)) W1) ∧
      (∀ ty, (Builtin.copy_ #[35, 34] ty #[.slice (some ⟨g, i * 2, none⟩) (n + 1 - i) (c - i), .slice (some ⟨vb, 0, none⟩) 1 1]).run Tryz.prog W1 = .ok (goInt 1) W2) ∧
      W2.ownsRow base 90 2 (.slice (some ⟨g, 0, none⟩) (n + 1) c) (n + 1) ((l.take i ++ (s, x) :: l.drop i).flatMap cvP) ∧ w.grownBy W2 (some g) := by
  have hll := cvP_len l
  rw [hln] at hll
  have hcl : cur.toList.length = c * 2 := by rw [Array.length_toList, hcs]
  have hcell : ∀ (j : Nat) (v : Value), ((l.flatMap cvP).drop (i * 2))[j]? = some v → w.cell? ((⟨g, i * 2, none⟩ : Addr).add j) = some v := by
    intro j v hj
    rw [List.getElem?_drop, ← htake, List.getElem?_take] at hj
    rw [Addr.add_lit, cell_of_row w g _ cur _ (0, 0) hg]
    split at hj
    · simpa using hj
    · cases hj
  have hdl : ((l.flatMap cvP).drop (i * 2)).length = (n - i) * 2 := by rw [List.length_drop, hll]; omega
  have h1 := run_copy_rowK (P := Tryz.prog) w.drew 35 35 0 90 2 g ((i + 1) * 2) (n - i) (c - (i + 1)) ⟨g, i * 2, none⟩ (n + 1 - i) (c - i) cur _ ((l.flatMap cvP).drop (i * 2)) (n - i)
    Tryz.underlying35 pr_size hg (by simp only [Nat.min_def]; split <;> omega) hdl hcell (by rw [hdl, hcs]; omega) (fun v hv => cvP_oneCell l v (List.mem_of_mem_drop hv))
  obtain ⟨cu1, hcu1⟩ : ∃ cu1, cu1 = (splice cur.toList ((i + 1) * 2) ((l.flatMap cvP).drop (i * 2))).toArray := ⟨_, rfl⟩
  rw [← hcu1] at h1
  have hg1 : (w.drew.setRow g cu1).heap[g]? = some (.cells cu1 90 (0, 0)) := setRow_heap _ g cur _ _ _ hg
  have hs1 : cu1.size = c * 2 := by rw [hcu1, List.size_toArray, length_splice _ _ _ (by rw [hdl, hcl]; omega), hcl]
  have hv1 : Blk (w.drew.setRow g cu1) vb 90 #[.string s, .string x] := by
    unfold Blk
    rw [setRow_other _ g vb _ (Ne.symm hne)]
    exact hvb
  have h2 := run_copy_rowK (P := Tryz.prog) (w.drew.setRow g cu1) 35 34 0 90 2 g (i * 2) (n + 1 - i) (c - i) ⟨vb, 0, none⟩ 1 1 cu1 _ [.string s, .string x] 1
    Tryz.underlying35 pr_size hg1 (by simp only [Nat.min_def]; split <;> omega) rfl (World.news_of_block hv1) (by rw [hs1]; simp; omega) (by intro u hu; simp at hu; rcases hu with rfl | rfl <;> rfl)
  refine ⟨_, _, ?_, fun ty => h1, fun ty => h2, ?_, ?_⟩
  · rw [run_callFunc_extern Tryz.func144 (by kernel_rfl) (by kernel_rfl) (by kernel_rfl) (e := Extern.SlicesOverlaps.overlaps #[34, 34] #[4]) (by kernel_rfl),
      Lib.run_overlaps_apart w 34 4 90 Tryz.underlying34 2 (fun w => by simp [sizeOf, typeInfo, hti, hz1]) ⟨vb, 0, none⟩ ⟨g, (i + 1) * 2, none⟩ 1 1 (n - i) (c - (i + 1)) (Ne.symm hne) 90 90 2 cur.size
        (by unfold Blk at hvb; simp [World.shape?, hvb]) (by simp [World.shape?, hg]) (by rw [hcs]; omega) (hvb.frozen 0) (hvb.frozen 2)]
    rfl
  · have r := row_own (w := (w.drew.setRow g cu1).setRow g (splice cu1.toList (i * 2) [.string s, .string x]).toArray) (n := n + 1) (cap := c) (k := 2) (e := 90) hb (setRow_heap _ g cu1 _ _ _ hg1) hroom hcm (by rw [List.size_toArray, length_splice _ _ _ (by have := hs1; simp; omega), Array.length_toList, hs1])
    have e := splice_insert cur.toList (l.flatMap cvP) [Value.string s, .string x] (n * 2) (i * 2) htake hll (by omega) (by rw [hcl]; simp; omega)
    have hlist : (splice cu1.toList (i * 2) [Value.string s, .string x]).take ((n + 1) * 2) = (l.take i ++ (s, x) :: l.drop i).flatMap cvP := by
      rw [hcu1, List.toList_toArray, show (n + 1) * 2 = n * 2 + [Value.string s, Value.string x].length by simp; omega, show (i + 1) * 2 = i * 2 + [Value.string s, Value.string x].length by simp; omega, e]
      rw [List.flatMap_append, List.flatMap_cons, flat_take (k := 2) (fun _ => rfl), flat_drop (k := 2) (fun _ => rfl), ← List.append_assoc]
      rfl
    rw [List.toList_toArray, hlist] at r
    exact r
  · exact only_trans (a := w) (b := w.drew) ⟨rfl, rfl, rfl, Nat.le_refl _, fun _ _ _ => rfl⟩ (only_trans (grown_setRow _ g _) (grown_setRow _ g _))

/-- Insert into a new row: what the calls within leave. -/
theorem grow_world (w : World) (tr : TypeInfo) (hti : Tryz.prog.info? 90 = some tr) (hz0 : tr.zero = some (.agg #[.string ByteArray.empty, .string ByteArray.empty])) (hz1 : tr.size = 2) (hz2 : tr.bytes = 32) (g i n c vb : Nat) (cur : Array Value) (l : List Pr) (s : ByteArray) (x : ByteArray) {base : Nat} (hbase : base ≤ w.heap.size) (hln : l.length = n) (hi : i < n) (hn : n ≤ 1000) (hnc : n ≤ c) (hroom : c < n + 1)
    (hg : w.heap[g]? = some (.cells cur 90 (0, 0))) (htake : cur.toList.take (n * 2) = l.flatMap cvP) (hvb : Blk w vb 90 #[.string s, .string x]) :
    ∃ W1 W2 W3 G, (∀ ty, (Builtin.append_ #[35, 3] ty #[.slice (some ⟨g, 0, none⟩) i c, .int .i64 ((n : Int) + 1 - (i : Int))]).run Tryz.prog w = .ok (.slice (some ⟨w.heap.size, 0, none⟩) (n + 1) G) W1) ∧
      (∀ ty, (Builtin.copy_ #[35, 34] ty #[.slice (some ⟨w.heap.size, i * 2, none⟩) (n + 1 - i) (G - i), .slice (some ⟨vb, 0, none⟩) 1 1]).run Tryz.prog W1 = .ok (goInt 1) W2) ∧
      (∀ ty, (Builtin.copy_ #[35, 35] ty #[.slice (some ⟨w.heap.size, (i + 1) * 2, none⟩) (n - i) (G - (i + 1)), .slice (some ⟨g, i * 2, none⟩) (n - i) (c - i)]).run Tryz.prog W2.drew = .ok (goInt (n - i : Nat)) W3) ∧
      n + 1 ≤ G ∧ G ≤ maxLen ∧
      W3.ownsRow base 90 2 (.slice (some ⟨w.heap.size, 0, none⟩) (n + 1) G) (n + 1) ((l.take i ++ (s, x) :: l.drop i).flatMap cvP) ∧ w.grownBy W3 none := by
  have hll := cvP_len l
  rw [hln] at hll
  have hgl : g < w.heap.size := (Array.getElem?_eq_some_iff.1 hg).1
  have hvl := hvb.lt
  obtain ⟨G, hG⟩ : ∃ G, G = grownCap w (n + 1) c 90 := ⟨_, rfl⟩
  have hG1 : n + 1 ≤ G := by rw [hG]; exact grownCap_ge w _ _ _
  have hG2 : G ≤ maxLen := by rw [hG]; exact grownCap_le_maxLen w _ _ _ (by unfold maxLen; omega)
  have hcellw : ∀ (j : Nat) (v : Value), (l.flatMap cvP)[j]? = some v → w.cell? ⟨g, j, none⟩ = some v := by
    intro j v hj
    rw [← htake, List.getElem?_take] at hj
    rw [cell_of_row w g _ cur _ (0, 0) hg]
    split at hj
    · simpa using hj
    · cases hj
  have hold : (Builtin.firstCells tr.size i (.slice (some ⟨g, 0, none⟩) i c)).run Tryz.prog w.drew = .ok ((l.flatMap cvP).take (i * 2)).toArray w.drew := by
    rw [hz1]
    exact run_firstCells_some w.drew 2 i ⟨g, 0, none⟩ i c _ (by rw [List.length_take, hll]; omega) (fun j v hj => by
      rw [List.getElem?_take] at hj
      rw [Addr.add_lit, Nat.zero_add]
      split at hj
      · exact hcellw j v hj
      · cases hj)
  have hik : i + (n + 1 - i) = n + 1 := by omega
  have hrz := fun ty => Lib.run_append_grow_zeros (P := Tryz.prog) w 35 3 ty 90 tr _ .i64 .i64 Tryz.underlying35 Tryz.underlying3 hti hz0 (some ⟨g, 0, none⟩) i c _ hold (n + 1 - i) (by omega) (by rw [hz1]; decide) (by omega) (by omega) (by rw [hz2]; omega)
    (by rw [hz2, hik]; exact growslice_fits hroom (by omega))
  rw [hik, ← hG] at hrz
  obtain ⟨ROW, hROW⟩ : ∃ ROW : Array Value, ROW = ((l.flatMap cvP).take (i * 2)).toArray ++ Builtin.zeroCells (Value.agg #[.string ByteArray.empty, .string ByteArray.empty]).cells (n + 1 - i) ++ Builtin.zeroCells (Value.agg #[.string ByteArray.empty, .string ByteArray.empty]).cells (G - (n + 1)) := ⟨_, rfl⟩
  rw [← hROW] at hrz
  have hRs : ROW.size = G * 2 := by
    rw [hROW, Array.size_append, Array.size_append, size_zeroCells, size_zeroCells, List.size_toArray, List.length_take, hll]
    simp [Value.cells]
    omega
  have hRt : ROW.toList.take (i * 2) = (l.flatMap cvP).take (i * 2) := by
    rw [hROW, Array.toList_append, Array.toList_append, List.append_assoc]
    exact List.take_left' (by rw [List.toList_toArray, List.length_take, hll]; omega)
  have hRl : ROW.toList.length = G * 2 := by rw [Array.length_toList, hRs]
  have g1 : (w.drew.alloc (.cells ROW 90)).heap[w.heap.size]? = some (.cells ROW 90 (0, 0)) := heap_alloc_new w.drew _
  have v1 : Blk (w.drew.alloc (.cells ROW 90)) vb 90 #[.string s, .string x] := Blk.alloc (w := w.drew) hvb _
  have h1 := run_copy_rowK (P := Tryz.prog) (w.drew.alloc (.cells ROW 90)) 35 34 0 90 2 w.heap.size (i * 2) (n + 1 - i) (G - i) ⟨vb, 0, none⟩ 1 1 ROW _ [.string s, .string x] 1
    Tryz.underlying35 pr_size g1 (by simp only [Nat.min_def]; split <;> omega) rfl (World.news_of_block v1) (by rw [hRs]; simp; omega) (by intro u hu; simp at hu; rcases hu with rfl | rfl <;> rfl)
  obtain ⟨cu1, hcu1⟩ : ∃ cu1, cu1 = (splice ROW.toList (i * 2) [Value.string s, .string x]).toArray := ⟨_, rfl⟩
  rw [← hcu1] at h1
  have hs1 : cu1.size = G * 2 := by rw [hcu1, List.size_toArray, length_splice _ _ _ (by rw [hRl]; simp; omega), hRl]
  obtain ⟨W2, hW2⟩ : ∃ W2, W2 = (w.drew.alloc (.cells ROW 90)).setRow w.heap.size cu1 := ⟨_, rfl⟩
  have g2 : W2.heap[w.heap.size]? = some (.cells cu1 90 (0, 0)) := by rw [hW2]; exact setRow_heap _ _ ROW _ _ _ g1
  have c2 : ∀ (j : Nat) (v : Value), (l.flatMap cvP)[j]? = some v → W2.cell? ⟨g, j, none⟩ = some v := by
    intro j v hj
    rw [hW2, ← hcellw j v hj]
    refine World.cell?_of_block (a := ⟨g, j, none⟩) ?_
    rw [setRow_other _ _ g _ (by omega)]
    exact heap_alloc_old w.drew _ hgl
  have hdl : ((l.flatMap cvP).drop (i * 2)).length = (n - i) * 2 := by rw [List.length_drop, hll]; omega
  have h2 := run_copy_rowK (P := Tryz.prog) W2.drew 35 35 0 90 2 w.heap.size ((i + 1) * 2) (n - i) (G - (i + 1)) ⟨g, i * 2, none⟩ (n - i) (c - i) cu1 _ ((l.flatMap cvP).drop (i * 2)) (n - i)
    Tryz.underlying35 pr_size g2 (by simp only [Nat.min_def]; split <;> omega) hdl (fun j v hj => by
      rw [List.getElem?_drop] at hj
      rw [Addr.add_lit]
      exact c2 _ v hj) (by rw [hdl, hs1]; omega) (fun v hv => cvP_oneCell l v (List.mem_of_mem_drop hv))
  rw [← hW2] at h1
  have hl1 : cu1.toList.length = G * 2 := by rw [Array.length_toList]; exact hs1
  refine ⟨_, W2, _, G, fun ty => ?_, fun ty => h1, fun ty => h2, hG1, hG2, ?_, ?_⟩
  · have := hrz ty
    rwa [show ((n + 1 - i : Nat) : Int) = (n : Int) + 1 - (i : Int) by omega] at this
  · have r := row_own (w := W2.drew.setRow w.heap.size (splice cu1.toList ((i + 1) * 2) ((l.flatMap cvP).drop (i * 2))).toArray) (n := n + 1) (cap := G) (k := 2) (e := 90) hbase (setRow_heap _ _ cu1 _ _ _ g2) hG1 hG2 (by rw [List.size_toArray, length_splice _ _ _ (by rw [hdl, hl1]; omega), hl1])
    have e := splice_fill ROW.toList ((l.flatMap cvP).take (i * 2)) [Value.string s, .string x] ((l.flatMap cvP).drop (i * 2)) (i * 2) hRt (by rw [List.length_take, hll]; omega) (by rw [hRl, hdl]; simp; omega)
    have hlist : (splice cu1.toList ((i + 1) * 2) ((l.flatMap cvP).drop (i * 2))).take ((n + 1) * 2) = (l.take i ++ (s, x) :: l.drop i).flatMap cvP := by
      rw [hcu1, List.toList_toArray, show (n + 1) * 2 = i * 2 + [Value.string s, Value.string x].length + ((l.flatMap cvP).drop (i * 2)).length by rw [hdl]; simp; omega, show (i + 1) * 2 = i * 2 + [Value.string s, Value.string x].length by simp; omega, e]
      rw [List.flatMap_append, List.flatMap_cons, flat_take (k := 2) (fun _ => rfl), flat_drop (k := 2) (fun _ => rfl), ← List.append_assoc]
      rfl
    rw [List.toList_toArray, hlist] at r
    exact r
  · have k1 : w.grownBy (w.drew.alloc (.cells ROW 90)) none := ⟨rfl, rfl, rfl, by simp, fun k hk _ => heap_alloc_old w.drew _ hk⟩
    have old : ∀ (W : World) (cs : Array Value), w.grownBy W none → w.grownBy (W.setRow w.heap.size cs) none := fun W cs h => ⟨h.os, h.tape, h.output, by simpa [World.setRow] using h.size, fun k hk hne => (setRow_other W w.heap.size k cs (by omega)).trans (h.block k hk hne)⟩
    have k2 := old _ cu1 k1
    rw [← hW2] at k2
    exact old W2.drew _ ⟨k2.os, k2.tape, k2.output, k2.size, k2.block⟩

/-- A pair more, or another value at its name. -/
def putS : List Pr → Pr → List Pr
  | [], p => [p]
  | a :: l, p => if ltB a.1 p.1 = true then a :: putS l p else if a.1 = p.1 then p :: l else p :: a :: l

set_option maxRecDepth 100000 in
set_option maxHeartbeats 8000000 in
theorem insert_any (v : Value) (base n : Nat) (l : List Pr) (vb i : Nat) (s : ByteArray) (x : ByteArray) (w : World) (h : w.ownsRow base 90 2 v n (l.flatMap cvP)) (hbase : base ≤ w.heap.size) (hln : l.length = n) (hn : n ≤ 1000) (hi : i ≤ n)
    (hvb : Blk w vb 90 #[.string s, .string x]) (hne : v.ownBlock ≠ some vb) :
    Calls Tryz.prog 121 #[v, .int .i64 i, .slice (some ⟨vb, 0, none⟩) 1 1] w fun e w' =>
      ∃ A c, e = .returned (.slice A (n + 1) c) ∧ w'.ownsRow base 90 2 (.slice A (n + 1) c) (n + 1) ((l.take i ++ (s, x) :: l.drop i).flatMap cvP) ∧ w.grownBy w' v.ownBlock := by
  obtain ⟨tr, hti, hz0, hz1, hz2⟩ := info_parts pr_info
  obtain ⟨A, c, rfl⟩ := own_form h
  have hcap := own_cap h
  by_cases hin : i = n
  · subst hin
    obtain ⟨g, cap, w', hrun, hown, hg⟩ := append2 (P := Tryz.prog) w 35 34 90 base 90 tr _ 2 32 Tryz.underlying35 Tryz.underlying34 hti hz0 hz1 hz2 rfl (by decide) _ i _ h ⟨vb, 0, none⟩ 1 1 [.string s, .string x] rfl (World.news_of_block hvb) (by intro u hu; simp at hu; rcases hu with rfl | rfl <;> rfl) (by omega) (by unfold maxLen; omega) (by omega) hbase
    have HX := Lib.hid (And.intro hown hg)
    have HL := Lib.hid (show (l.take i ++ (s, x) :: l.drop i).flatMap cvP = l.flatMap cvP ++ [.string s, .string x] by rw [← hln, List.take_length, List.drop_length, cvP_snoc])
    obtain ⟨A3, c3, hsl, hsl2⟩ := slice_some (P := Tryz.prog) 35 90 tr Tryz.underlying35 hti A i c i (Nat.le_refl _)
    clear hown hg h hne hvb hln hcap
    go_enter Tryz.func121, Tryz.ntmps121
    go_wp2_with (at_builtin; refine Lib.wpList_append_run _ rfl _ _ _ _ rfl _ _ rfl rfl _ _ (hrun _) ?_)
    go_ret
    exact ⟨some ⟨g, 0, none⟩, cap, rfl, by rw [HL.out]; exact HX.out.1, HX.out.2⟩
  · have hin2 : i < n := by omega
    rcases h.2 with ⟨hv, h0⟩ | ⟨g, cap, cur, hv, hbg, hg, hnc, hcm, hcs, htake⟩
    · omega
    · injection hv with hA1 hA2 hA3
      subst hA1 hA3
      clear hA2
      have hgl : g < w.heap.size := (Array.getElem?_eq_some_iff.1 hg).1
      have hi1 : (0 : Int) ≤ (i : Int) := by omega
      have hi2 : (i : Int) ≤ (n : Int) := by omega
      have hi3 : ((i : Int) == (n : Int)) = false := by rw [beq_eq_false_iff_ne]; omega
      by_cases hroom : n + 1 ≤ c
      · have hr1 : ¬ ((c : Int) < (n : Int) + 1) := by omega
        have hc63 : c ≤ 9223372036854775807 := by have := hcm; unfold maxLen at this; omega
        obtain ⟨W1, W2, hov, hcp1, hcp2, hown, hgr⟩ := shift_world w tr hti hz1 g i n c vb cur l s x hln hin2 hroom hcm hbg hg hcs htake hvb (fun e => hne (by rw [e]; rfl))
        have HX := Lib.hid (And.intro hown hgr)
        clear hn hown hgr h hne hg hvb htake hcs hln hcap
        go_enter Tryz.func121, Tryz.ntmps121
        go_upto_region 15 with fail
        go_region
        all_goals (
          go_wp2_with fail
          go_ret
          exact ⟨some ⟨g, 0, none⟩, c, rfl, by first | exact HX.out.1 | (have e := HX.out.1; rw [List.flatMap_append, List.flatMap_cons] at e; exact e), HX.out.2⟩)
      · have hr1 : (c : Int) < (n : Int) + 1 := by omega
        obtain ⟨W1, W2, W3, G, hrz, hcpA, hcpB, hG1, hG2, hown, hgr⟩ := grow_world w tr hti hz0 hz1 hz2 g i n c vb cur l s x hbase hln hin2 hn hnc (by omega) hg htake hvb
        have hG63 : G ≤ 9223372036854775807 := by have := hG2; unfold maxLen at this; omega
        have hc63 : c ≤ 9223372036854775807 := by have := hcm; unfold maxLen at this; omega
        have HX := Lib.hid (And.intro hown (only_row (row := some g) hgr))
        have hgi : ¬ (G = i) := by omega
        have hgi1 : ¬ (G = i + 1) := by omega
        have hci : ¬ (c = i) := by omega
        clear hown hgr h hne hg hvb htake hcs hln hcap
        go_enter Tryz.func121, Tryz.ntmps121
        go_upto_region 11 with (first
          | (at_builtin; refine Lib.wpList_append_run _ rfl _ _ _ _ rfl _ _ rfl rfl _ _ (hrz _) ?_)
          | (at_builtin; refine wpList_copy_runI _ rfl _ _ _ _ rfl _ _ rfl rfl (hcpA _) ?_))
        go_region
        all_goals (
          go_wp2_with fail
          go_ret
          exact ⟨some ⟨w.heap.size, 0, none⟩, G, rfl, by first | exact HX.out.1 | (have e := HX.out.1; rw [List.flatMap_append, List.flatMap_cons] at e; exact e), HX.out.2⟩)

theorem At.tail {a : Pr} {l : List Pr} {s : ByteArray} {r : Nat} (h : At (a :: l) s (r + 1)) : At l s r :=
  ⟨by have := h.le; simpa using this, fun k hk => h.low (k + 1) (by omega), fun k h1 h2 => h.high (k + 1) (by omega) (by simpa using h2)⟩

theorem putS_at (p : Pr) : ∀ (l : List Pr) (r : Nat), At l p.1 r → putS l p = if isAt l p.1 r = true then l.set r p else l.take r ++ p :: l.drop r
  | [], r, h => by
    have := h.le
    obtain rfl : r = 0 := by simpa using this
    simp [putS, isAt]
  | a :: l, 0, h => by
    have h0 : ltB a.1 p.1 = false := h.high 0 (Nat.le_refl _) (by simp)
    have e : isAt (a :: l) p.1 0 = decide (a.1 = p.1) := by simp [isAt]
    rw [putS, if_neg (by rw [h0]; decide), e]
    by_cases h1 : a.1 = p.1
    · simp [h1]
    · simp [h1]
  | a :: l, r + 1, h => by
    have h0 : ltB a.1 p.1 = true := h.low 0 (by omega)
    have e : isAt (a :: l) p.1 (r + 1) = isAt l p.1 r := by simp [isAt]
    rw [putS, if_pos h0, e, putS_at p l r h.tail]
    by_cases h1 : isAt l p.1 r = true
    · simp [h1]
    · simp [h1]

def Rise (l : List Pr) : Prop := l.Pairwise fun a b => ltB a.1 b.1 = true

theorem Rise.srt {l : List Pr} (h : Rise l) : Srt l := fun i j hij hj => by
  have := List.pairwise_iff_getElem.1 h i j (by omega) hj hij
  simpa [List.getD, hj, show i < l.length by omega] using this

theorem putS_names (p : Pr) : ∀ (l : List Pr) (q : Pr), q ∈ putS l p → q ∈ l ∨ q = p
  | [], q, h => by simp [putS] at h; exact .inr h
  | a :: l, q, h => by
    rw [putS] at h
    split at h
    · rcases List.mem_cons.1 h with rfl | h
      · exact .inl (by simp)
      · rcases putS_names p l q h with h | h
        · exact .inl (by simp [h])
        · exact .inr h
    · split at h
      · rcases List.mem_cons.1 h with rfl | h
        · exact .inr rfl
        · exact .inl (by simp [h])
      · rcases List.mem_cons.1 h with rfl | h
        · exact .inr rfl
        · exact .inl h

theorem putS_rise (p : Pr) : ∀ (l : List Pr), Rise l → Rise (putS l p)
  | [], _ => List.pairwise_singleton _ _
  | a :: l, h => by
    obtain ⟨h1, h2⟩ := List.pairwise_cons.1 h
    rw [putS]
    split
    · rename_i h0
      refine List.pairwise_cons.2 ⟨fun q hq => ?_, putS_rise p l h2⟩
      rcases putS_names p l q hq with hq | rfl
      · exact h1 q hq
      · exact h0
    · rename_i h0
      split
      · rename_i he
        exact List.pairwise_cons.2 ⟨fun q hq => by rw [← he]; exact h1 q hq, h2⟩
      · rename_i he
        have hpa : ltB p.1 a.1 = true := by
          cases hq : ltB p.1 a.1 with
          | true => rfl
          | false => exact absurd (lt_tri (Bool.eq_false_iff.2 h0) hq) he
        refine List.pairwise_cons.2 ⟨fun q hq => ?_, h⟩
        rcases List.mem_cons.1 hq with rfl | hq
        · exact hpa
        · exact lt_trans hpa (h1 q hq)

theorem putS_len (p : Pr) (l : List Pr) : (putS l p).length ≤ l.length + 1 := by
  induction l with
  | nil => simp [putS]
  | cons a l ih =>
    rw [putS]
    split
    · simp; omega
    · split <;> simp

theorem cvP_set : ∀ (l : List Pr) (r : Nat) (p : Pr), (l.set r p).flatMap cvP = ((l.flatMap cvP).set (r * 2) (.string p.1)).set (r * 2 + 1) (.string p.2)
  | [], r, p => by simp
  | a :: l, 0, p => by simp [cvP]
  | a :: l, r + 1, p => by
    rw [List.set_cons_succ, List.flatMap_cons, List.flatMap_cons, cvP_set l r p, show (r + 1) * 2 = r * 2 + 2 by omega]
    simp [cvP]

set_option maxRecDepth 100000 in
set_option maxHeartbeats 8000000 in
theorem put_any (v : Value) (base n : Nat) (l : List Pr) (s : ByteArray) (x : ByteArray) (w : World) (h : w.ownsRow base 90 2 v n (l.flatMap cvP)) (hbase : base ≤ w.heap.size) (hln : l.length = n) (hn : n ≤ 900) (hs : Rise l) :
    Calls Tryz.prog 94 #[v, .agg #[.string s, .string x]] w fun e w' =>
      ∃ A c, e = .returned (.slice A (putS l (s, x)).length c) ∧ w'.ownsRow base 90 2 (.slice A (putS l (s, x)).length c) (putS l (s, x)).length ((putS l (s, x)).flatMap cvP) ∧ w.grownBy w' v.ownBlock := by
  obtain ⟨A, c, rfl⟩ := own_form h
  have HO := Lib.hid (And.intro (h.alloc (.cells #[.string s, .string x] 90)) (And.intro hbase hln))
  have HS := Lib.hid hs
  have hX := Blk.new w 90 #[.string s, .string x]
  have y0 := hX.cell 0
  have y1 := hX.cell 1
  have HB := Lib.hid ((Below.refl w.heap.size w).alloc (Nat.le_refl _) (.cells #[.string s, .string x] 90))
  have HXL := Lib.hid hX.lt
  have HNE := Lib.hid (show (Value.slice A n c).ownBlock ≠ some w.heap.size from fun e => by have := (h.lt _ e).2; omega)
  clear h hbase hln hs hX
  go_enter Tryz.func94, Tryz.ntmps94
  go_wp2_with fail
  obtain ⟨w1, hw1⟩ : ∃ w1, w1 = w.alloc (.cells #[.string s, .string x] 90) := ⟨_, rfl⟩
  rw [← hw1] at HO HB HXL y0 y1 ⊢
  obtain ⟨X, hXe⟩ : ∃ X, X = w.heap.size := ⟨_, rfl⟩
  have HXE := Lib.hid hXe
  rw [← hXe] at y0 y1 HXL HNE ⊢
  clear hw1 hXe
  refine (where_any A n c _ l s _ (Rd.of_own (cv := cvP) (d := pr0) (fun _ => rfl) HO.out.1 HO.out.2.2) (Nat.le_refl _) (by omega) HS.out.srt).mono ?_
  rintro e w2 ⟨r, rfl, hr, hb2⟩
  have HA := Lib.hid hr
  have HR := Lib.hid (putS_at (s, x) l r hr)
  have hrn := hr.le
  rw [HO.out.2.2] at hrn
  replace y0 := (hb2.cell (p := ⟨X, 0, none⟩) HXL.out).trans y0
  replace y1 := (hb2.cell (p := ⟨X, 1, none⟩) HXL.out).trans y1
  have HO2 := Lib.hid (own_keep HO.out.1 hb2)
  have HB2 := Lib.hid (HB.out.trans (hb2.mono HB.out.size))
  clear hr hb2
  obtain ⟨q, hq⟩ : ∃ q, q = isAt l s r := ⟨_, rfl⟩
  have HQ := Lib.hid hq
  rw [← hq]
  rw [show ((s, x) : Pr).1 = s from rfl, ← hq] at HR
  clear hq
  cases q
  · have HR2 := Lib.hid (show putS l (s, x) = l.take r ++ (s, x) :: l.drop r by rw [HR.out]; rfl)
    have HL2 := Lib.hid (show (putS l (s, x)).length = n + 1 by rw [HR2.out, List.length_append, List.length_cons, List.length_take, List.length_drop, HO.out.2.2]; omega)
    have i1 : (0 : Int) ≤ (r : Int) := by omega
    go_wp2_with fail
    refine (insert_any (.slice A n c) base n l w2.heap.size r s x _ (HO2.out.alloc _) (by have := HO.out.2.1; have := HB2.out.size; simp; omega) HO.out.2.2 (by omega) hrn (Blk.new _ _ _) (fun e => by have := (HO2.out.lt _ e).2; omega)).mono ?_
    rintro e w3 ⟨A3, c3, rfl, hown, hg⟩
    have HX := Lib.hid (And.intro hown (only_trans (only_of_below HB2.out _) (only_trans (only_of_below ((Below.refl w2.heap.size w2).alloc (Nat.le_refl _) _) _) hg)))
    clear hown hg
    go_wp2
    go_ret
    rw [HL2.out]
    exact ⟨A3, c3, rfl, by rw [HR2.out]; exact HX.out.1, HX.out.2⟩
  · have hrl : r < n := by
      have := HQ.out
      simp only [isAt, Bool.true_eq, Bool.and_eq_true, decide_eq_true_eq] at this
      rw [HO.out.2.2] at this
      exact this.1
    have HR2 := Lib.hid (show putS l (s, x) = l.set r (s, x) by rw [HR.out]; rfl)
    have HL2 := Lib.hid (show (putS l (s, x)).length = n by rw [HR2.out, List.length_set, HO.out.2.2])
    obtain ⟨g, cap, hv, hg, hgl⟩ := HO2.out.form (by omega)
    injection hv with hA1 hA2 hA3
    subst hA1 hA3
    clear hA2
    have i1 : (0 : Int) ≤ (r : Int) := by omega
    have i2 : (r : Int) < (n : Int) := by omega
    have hll : (l.flatMap cvP).length = n * 2 := by rw [cvP_len, HO.out.2.2]
    obtain ⟨u0, hu0⟩ : ∃ u, w2.cell? ⟨g, r * 2, none⟩ = some u := by
      rw [HO2.out.cellAt (r * 2) (by omega)]
      exact ⟨_, List.getElem?_eq_getElem (by omega)⟩
    obtain ⟨u1, hu1⟩ : ∃ u, w2.cell? ⟨g, r * 2 + 1, none⟩ = some u := by
      rw [HO2.out.cellAt (r * 2 + 1) (by omega)]
      exact ⟨_, List.getElem?_eq_getElem (by omega)⟩
    have hf0 := HO2.out.frozenAt (r * 2)
    have hf1 := HO2.out.frozenAt (r * 2 + 1)
    have st := HO2.out.stored (r * 2) (.string s)
    have st2 := st.1.stored (r * 2 + 1) (.string x)
    have HX := Lib.hid (And.intro st2.1 (only_trans (only_of_below HB2.out (some g)) (only_trans st.2 st2.2)))
    clear st st2 hll hg
    go_wp2
    go_ret
    rw [HL2.out]
    exact ⟨some ⟨g, 0, none⟩, c, rfl, by rw [HR2.out, cvP_set]; exact HX.out.1, HX.out.2⟩

def ofTo (l : List Pr) : Nat → List Pr
  | 0 => []
  | k + 1 => putS (ofTo l k) (l.getD k pr0)

def ofS (l : List Pr) : List Pr := ofTo l l.length

theorem ofTo_len (l : List Pr) (k : Nat) : (ofTo l k).length ≤ k := by
  induction k with
  | zero => exact Nat.le_refl _
  | succ k ih => have := putS_len (l.getD k pr0) (ofTo l k); rw [ofTo]; omega

theorem ofTo_rise (l : List Pr) (k : Nat) : Rise (ofTo l k) := by
  induction k with
  | zero => exact List.Pairwise.nil
  | succ k ih => exact putS_rise _ _ ih

theorem ofS_rise (l : List Pr) : Rise (ofS l) := ofTo_rise l _

theorem ofS_len (l : List Pr) : (ofS l).length ≤ l.length := ofTo_len l _

/-- What hands back a row of pairs leaves. -/
def PrPost (w : World) (l : List Pr) (e : Ending) (w' : World) : Prop :=
  ∃ A c, e = .returned (.slice A l.length c) ∧ w'.ownsRow w.heap.size 90 2 (.slice A l.length c) l.length (l.flatMap cvP) ∧ Below w.heap.size w w'

set_option maxRecDepth 100000 in
set_option maxHeartbeats 8000000 in
theorem of_any (A : Option Addr) (n c : Nat) (l : List Pr) (w : World) (hz : Ps w w.heap.size A n l) (hn : n ≤ 500) :
    Calls Tryz.prog 57 #[.slice A n c] w (PrPost w (ofS l)) := by
  have HZ := Lib.hid hz
  clear hz
  go_enter Tryz.func57, Tryz.ntmps57
  go_wp2_with fail
  go_loopw [3, 8] (fun vo i wx => ∃ k : Nat, k ≤ n ∧ i = .int .i64 k ∧ wx.ownsRow w.heap.size 90 2 vo (ofTo l k).length ((ofTo l k).flatMap cvP) ∧ Below w.heap.size w wx) (fun _ i _ => n - (intOf i).toNat)
  case atStart => exact ⟨0, Nat.zero_le _, rfl, World.ownsRow_nil _ _ _ _, Below.refl _ _⟩
  case round =>
    obtain ⟨k, hk, rfl, hown, hb⟩ := hrel
    obtain ⟨vo, hvo⟩ : ∃ vo, vo = u3 := ⟨_, rfl⟩
    rw [← hvo] at hown ⊢
    clear hvo
    by_cases hlt : k < n
    · obtain ⟨b, off, rfl, hbB, d0, d1⟩ := rd_pr HZ.out k hlt
      replace d0 := (hb.cell (p := ⟨b, off + k * 2, none⟩) hbB).trans d0
      replace d1 := (hb.cell (p := ⟨b, off + k * 2 + 1, none⟩) hbB).trans d1
      have HC := Lib.hid (show ofTo l (k + 1) = putS (ofTo l k) (l.getD k pr0) from rfl)
      have hol := ofTo_len l k
      have HRI := Lib.hid (ofTo_rise l k)
      obtain ⟨⟨s, x⟩, hs⟩ : ∃ s, s = l.getD k pr0 := ⟨_, rfl⟩
      obtain ⟨o, ho⟩ : ∃ o, o = ofTo l k := ⟨_, rfl⟩
      rw [← hs] at d0 d1 HC
      rw [← ho] at hown HC hol HRI
      simp only at d0 d1
      have i1 : (0 : Int) ≤ (k : Int) := by omega
      have i2 : (k : Int) < (n : Int) := by omega
      have HO := Lib.hid (And.intro (hown.alloc (.cells #[.string s, .string x] 90)) (hb.alloc hb.size (.cells #[.string s, .string x] 90)))
      have HOL := Lib.hid (fun j hj => (hown.lt j hj).1)
      have hX := Blk.new wr 90 #[.string s, .string x]
      have y0 := hX.cell 0
      have y1 := hX.cell 1
      clear hs ho hown hb hX
      go_wp2_with fail
      refine (put_any vo _ o.length o s x _ HO.out.1 HO.out.2.size rfl (by omega) HRI.out).mono ?_
      rintro e w4 ⟨A2, c2, rfl, hown2, hg2⟩
      have HX := Lib.hid (And.intro hown2 (HO.out.2.grown hg2 HO.out.2.size HOL.out))
      clear hown2 hg2
      go_wp2_with fail
      go_roundw
      case rel => exact ⟨k + 1, by omega, by go_num, by rw [HC.out]; exact HX.out.1, HX.out.2⟩
      case measure => simp [intOf]; omega
    · obtain rfl : k = n := by omega
      obtain ⟨A5, c5, hv⟩ := own_form hown
      subst hv
      have HE := Lib.hid (show ofS l = ofTo l k by rw [ofS, HZ.out.1])
      have HO := Lib.hid (And.intro hown hb)
      clear hown hb
      go_wp2
      go_ret
      rw [HE.out]
      exact ⟨A5, c5, rfl, HO.out.1, HO.out.2⟩

set_option maxHeartbeats 4000000 in
theorem set_any (A : Option Addr) (n c : Nat) (l : List Pr) (s : ByteArray) (x : ByteArray) (w : World) (hz : Ps w w.heap.size A n l) (hn : n ≤ 500) :
    Calls Tryz.prog 104 #[.slice A n c, .string s, .string x] w (PrPost w (putS (ofS l) (s, x))) := by
  have HZ := Lib.hid hz
  clear hz
  go_enter Tryz.func104, Tryz.ntmps104
  go_wp2_with fail
  refine (of_any A n c l _ HZ.out hn).mono ?_
  rintro e w1 ⟨A1, c1, rfl, hown, hb⟩
  have HO := Lib.hid (And.intro hown hb)
  have hl := ofS_len l
  rw [HZ.out.1] at hl
  have HRI := Lib.hid (ofS_rise l)
  obtain ⟨o, ho⟩ : ∃ o, o = ofS l := ⟨_, rfl⟩
  rw [← ho] at HO hl HRI ⊢
  have HOE := Lib.hid ho
  clear ho hown hb
  go_wp2_with fail
  refine (put_any _ _ o.length o s x _ HO.out.1 HO.out.2.size rfl (by omega) HRI.out).mono ?_
  rintro e w4 ⟨A2, c2, rfl, hown2, hg2⟩
  have HX := Lib.hid (And.intro hown2 (HO.out.2.grown hg2 HO.out.2.size (fun j hj => (HO.out.1.lt j hj).1)))
  clear hown2 hg2
  go_wp2
  go_ret
  rw [← HOE.out]
  exact ⟨A2, c2, rfl, HX.out.1, HX.out.2⟩

theorem neq_pr (t s x y : ByteArray) (w : World) : (binOp .neq 90 (.agg #[.string t, .string x]) (.agg #[.string s, .string y])).run Tryz.prog w = .ok (.bool !(decide (((t, x) : Pr) = (s, y)))) w := by
  have u9 := Tryz.underlying9
  have hS : Tryz.prog.underlying 90 = some (.struct (Tryz.prog.fieldsOf 90)) := by kernel_rfl
  have hp : Tryz.prog.stoodInHeld 90 = false := by kernel_rfl
  have he : (Op.equalIn 10000 90 (.agg #[.string t, .string x]) (.agg #[.string s, .string y])).run Tryz.prog w = .ok (decide (((t, x) : Pr) = (s, y))) w := by
    rw [show (10000 : Nat) = 9999 + 1 from rfl, run_equalIn_agg w 9999 90 _ _ hS hp]
    simp only [Program.fieldsOf, Tryz.underlying90]
    go_simp
    by_cases h2 : t.toList = s.toList
    · have h3 := toList_inj h2
      by_cases h1 : x.toList = y.toList
      · have h4 := toList_inj h1
        simp [h4, h3]
      · have h4 : ¬ x = y := fun e => h1 (by rw [e])
        simp [h1, h3, h4]
    · have h3 : ¬ t = s := fun e => h2 (by rw [e])
      simp [h2, h3]
  simp only [binOp]
  simp [Op.equal, Op.maxDepth, he]

set_option maxHeartbeats 4000000 in
theorem equalP_any (A B : Option Addr) (n c c' B1 B2 : Nat) (l : List Pr) (w : World) (hz : Ps w B1 A n l) (hz' : Ps w B2 B n l) (hn : n ≤ 1000) :
    Calls Tryz.prog 84 #[.slice A n c, .slice B n c'] w fun e w' => e = .returned (.bool true) ∧ Below w.heap.size w w' := by
  have HZ := Lib.hid (And.intro hz hz')
  clear hz hz'
  go_enter Tryz.func84, Tryz.ntmps84
  go_wp2_with fail
  go_loopw [13] (fun i wx => ∃ k : Nat, k ≤ n ∧ i = .int .i64 k ∧ Below w.heap.size w wx ∧ Hid (Ps wx B1 A n l ∧ Ps wx B2 B n l)) (fun i _ => n - (intOf i).toNat)
  case atStart => exact ⟨0, Nat.zero_le _, rfl, Below.refl _ _, HZ.out⟩
  case round =>
    obtain ⟨k, hk, rfl, hb, hS⟩ := hrel
    by_cases hlt : k < n
    · obtain ⟨b, off, rfl, hbB, d0, d0'⟩ := rd_pr hS.out.1 k hlt
      obtain ⟨b2, off2, rfl, hbB2, d1, d1'⟩ := rd_pr hS.out.2 k hlt
      obtain ⟨⟨t, x⟩, ht⟩ : ∃ t, t = l.getD k pr0 := ⟨_, rfl⟩
      rw [← ht] at d0 d1 d0' d1'
      simp only at d0 d1 d0' d1'
      have i1 : (0 : Int) ≤ (k : Int) := by omega
      have i2 : (k : Int) < (n : Int) := by omega
      have hq : ∀ w, (binOp .neq 90 (.agg #[.string t, .string x]) (.agg #[.string t, .string x])).run Tryz.prog w = .ok (.bool false) w := fun w => by rw [neq_pr]; simp
      have HB := Lib.hid hb
      clear ht hb
      go_upto_region 6 with fail
      go_region
      all_goals (
        go_wp2_with fail
        go_roundw)
      all_goals first
        | exact ⟨k + 1, by omega, by go_num, HB.out.drew, Lib.hid ⟨hS.out.1, hS.out.2⟩⟩
        | (simp [intOf]; omega)
    · obtain rfl : k = n := by omega
      have HB := Lib.hid hb
      clear hb
      go_wp2
      go_ret
      exact ⟨by first | rfl | simp, HB.out⟩

set_option maxHeartbeats 4000000 in
theorem sameP_any (A B : Option Addr) (n c m c' : Nat) (l l' : List Pr) (w : World) (hz : Ps w w.heap.size A n l) (hz' : Ps w w.heap.size B m l') (he : ofS l = ofS l') (hn : n ≤ 500) (hm : m ≤ 500) :
    Calls Tryz.prog 42 #[.slice A n c, .slice B m c'] w fun e w' => e = .returned (.bool true) ∧ Below w.heap.size w w' := by
  have HZ := Lib.hid (And.intro hz (And.intro hz' he))
  clear hz hz' he
  go_enter Tryz.func42, Tryz.ntmps42
  go_wp2_with fail
  refine (of_any A n c l _ HZ.out.1 hn).mono ?_
  rintro e w1 ⟨A1, c1, rfl, hown1, hb1⟩
  have H1 := Lib.hid (And.intro hown1 hb1)
  clear hown1 hb1
  go_wp2_with fail
  refine (of_any B m c' l' _ ((HZ.out.2.1.below H1.out.2).more H1.out.2.size) hm).mono ?_
  rintro e w2 ⟨A2, c2, rfl, hown2, hb2⟩
  have hl := ofS_len l
  rw [HZ.out.1.1] at hl
  rw [← HZ.out.2.2] at hown2 ⊢
  have H2 := Lib.hid (And.intro hown2 hb2)
  clear hown2 hb2
  go_wp2_with fail
  refine (equalP_any A1 A2 (ofS l).length c1 c2 _ _ (ofS l) _ (Rd.of_own (cv := cvP) (d := pr0) (fun _ => rfl) (own_keep H1.out.1 H2.out.2) rfl) (Rd.of_own (cv := cvP) (d := pr0) (fun _ => rfl) H2.out.1 rfl) (by omega)).mono ?_
  rintro e w3 ⟨rfl, hb3⟩
  have HB := Lib.hid (H1.out.2.trans ((H2.out.2.trans (hb3.mono H2.out.2.size)).mono H1.out.2.size))
  clear hb3
  go_wp2
  go_ret
  exact ⟨rfl, HB.out⟩

def hasN (l : List Pr) (s : ByteArray) : Bool := l.any fun q => decide (q.1 = s)

theorem hasN_iff (l : List Pr) (s : ByteArray) : hasN l s = true ↔ ∃ q ∈ l, q.1 = s := by simp [hasN]

theorem getD_mem {l : List Pr} {r : Nat} (h : r < l.length) : l.getD r pr0 ∈ l := by
  have e : l.getD r pr0 = l[r] := by simp [List.getD, h]
  rw [e]; exact List.getElem_mem h

theorem Rise.uniq {l : List Pr} (h : Rise l) {i j : Nat} (hi : i < l.length) (hj : j < l.length) (he : (l.getD i pr0).1 = (l.getD j pr0).1) : i = j := by
  rcases Nat.lt_trichotomy i j with h1 | h1 | h1
  · exact absurd he (lt_ne (h.srt i j h1 hj))
  · exact h1
  · exact absurd he.symm (lt_ne (h.srt j i h1 hi))

theorem at_hasN {l : List Pr} {s : ByteArray} {r : Nat} (h : At l s r) (hr : Rise l) : isAt l s r = hasN l s := by
  apply Bool.eq_iff_iff.2
  rw [hasN_iff, isAt, Bool.and_eq_true, decide_eq_true_eq, decide_eq_true_eq]
  constructor
  · rintro ⟨h1, h2⟩
    exact ⟨_, getD_mem h1, h2⟩
  · rintro ⟨q, hq, rfl⟩
    obtain ⟨i, hi, he⟩ := List.mem_iff_getElem.1 hq
    have hg : l.getD i pr0 = q := by simp [List.getD, hi, he]
    by_cases hir : i < r
    · have := h.low i hir
      rw [hg, lt_irrefl] at this
      cases this
    · by_cases e : i = r
      · subst e; exact ⟨hi, by rw [hg]⟩
      · have h1 := h.high r (Nat.le_refl _) (by omega)
        have h2 := hr.srt r i (by omega) hi
        rw [hg] at h2
        rw [h2] at h1
        cases h1

theorem putS_end (p : Pr) : ∀ l : List Pr, (∀ q ∈ l, ltB q.1 p.1 = true) → putS l p = l ++ [p]
  | [], _ => rfl
  | a :: l, h => by
    rw [putS, if_pos (h a (by simp)), putS_end p l fun q hq => h q (by simp [hq])]
    rfl

theorem ofTo_id {l : List Pr} (h : Rise l) (k : Nat) (hk : k ≤ l.length) : ofTo l k = l.take k := by
  induction k with
  | zero => simp [ofTo]
  | succ k ih =>
    have ht : Rise (l.take (k + 1)) := List.Pairwise.sublist (List.take_sublist _ _) h
    rw [take_snoc l pr0 k (by omega)] at ht ⊢
    rw [ofTo, ih (by omega), putS_end]
    intro q hq
    exact (List.pairwise_append.1 ht).2.2 q hq _ (by simp)

theorem ofS_id {l : List Pr} (h : Rise l) : ofS l = l := by rw [ofS, ofTo_id h _ (Nat.le_refl _), List.take_length]

theorem mem_putS (p : Pr) : ∀ l : List Pr, Rise l → ∀ q, q ∈ putS l p ↔ q = p ∨ (q ∈ l ∧ q.1 ≠ p.1)
  | [], _, q => by simp [putS]
  | a :: l, h, q => by
    obtain ⟨h1, h2⟩ := List.pairwise_cons.1 h
    rw [putS]
    split
    · rename_i h0
      rw [List.mem_cons, mem_putS p l h2 q, List.mem_cons]
      constructor
      · rintro (rfl | rfl | ⟨h3, h4⟩)
        · exact .inr ⟨.inl rfl, lt_ne h0⟩
        · exact .inl rfl
        · exact .inr ⟨.inr h3, h4⟩
      · rintro (rfl | ⟨rfl | h3, h4⟩)
        · exact .inr (.inl rfl)
        · exact .inl rfl
        · exact .inr (.inr ⟨h3, h4⟩)
    · rename_i h0
      split
      · rename_i he
        rw [List.mem_cons, List.mem_cons]
        constructor
        · rintro (rfl | h3)
          · exact .inl rfl
          · exact .inr ⟨.inr h3, fun e => lt_ne (h1 q h3) (by rw [he, e])⟩
        · rintro (rfl | ⟨rfl | h3, h4⟩)
          · exact .inl rfl
          · exact absurd he h4
          · exact .inr h3
      · rename_i he
        have hpa : ltB p.1 a.1 = true := by
          cases hq : ltB p.1 a.1 with
          | true => rfl
          | false => exact absurd (lt_tri (by simpa using h0) hq) he
        rw [List.mem_cons, List.mem_cons]
        constructor
        · rintro (rfl | rfl | h3)
          · exact .inl rfl
          · exact .inr ⟨.inl rfl, he⟩
          · exact .inr ⟨.inr h3, fun e => lt_ne (lt_trans hpa (h1 q h3)) e.symm⟩
        · rintro (rfl | ⟨h3, h4⟩)
          · exact .inl rfl
          · exact .inr h3

theorem Rise.ext : ∀ {l l' : List Pr}, Rise l → Rise l' → (∀ q, q ∈ l ↔ q ∈ l') → l = l'
  | [], [], _, _, _ => rfl
  | [], b :: _, _, _, h => absurd ((h b).2 (by simp)) (by simp)
  | a :: _, [], _, _, h => absurd ((h a).1 (by simp)) (by simp)
  | a :: l, b :: l', ha, hb, h => by
    obtain ⟨a1, a2⟩ := List.pairwise_cons.1 ha
    obtain ⟨b1, b2⟩ := List.pairwise_cons.1 hb
    have hab : a = b := by
      rcases List.mem_cons.1 ((h a).1 (by simp)) with e | e
      · exact e
      · rcases List.mem_cons.1 ((h b).2 (by simp)) with e' | e'
        · exact e'.symm
        · have := lt_trans (b1 a e) (a1 b e')
          rw [lt_irrefl] at this
          cases this
    subst hab
    refine congrArg _ (Rise.ext a2 b2 fun q => ?_)
    constructor
    · intro hq
      rcases List.mem_cons.1 ((h q).1 (by simp [hq])) with e | e
      · subst e
        have := a1 q hq
        rw [lt_irrefl] at this
        cases this
      · exact e
    · intro hq
      rcases List.mem_cons.1 ((h q).2 (by simp [hq])) with e | e
      · subst e
        have := b1 q hq
        rw [lt_irrefl] at this
        cases this
      · exact e

theorem Rise.one {l : List Pr} (h : Rise l) {p q : Pr} (hp : p ∈ l) (hq : q ∈ l) (e : p.1 = q.1) : p = q := by
  obtain ⟨i, hi, hi'⟩ := List.mem_iff_getElem.1 hp
  obtain ⟨j, hj, hj'⟩ := List.mem_iff_getElem.1 hq
  have gi : l.getD i pr0 = p := by simp [List.getD, hi, hi']
  have gj : l.getD j pr0 = q := by simp [List.getD, hj, hj']
  have := h.uniq hi hj (by rw [gi, gj, e])
  subst this
  rw [← gi, gj]

end Go.Proofs.YtaalhglooipnaaaGreat.St
