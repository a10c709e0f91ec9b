/-
  The walk over Insert at ints, put (layer 12).
-/
import Derived.Test.YtgopokoghnfgiaaWovA
import Derived.Lib.AppendZerosOnto
import Derived.Lib.Overlaps
import Derived.Laws.Externs
import Derived.Shelf.Spec.SlicesInsert
namespace Go.Proofs.Ytgopokoghnfgiaa
open Go.RowKit
attribute [local go_sem ↓] Go.wp_at_zero Go.wp_at_succ

section
variable {P : Program}
/-- append, where the two types' names differ. -/
theorem append2 (w : World) (t t' e' : TypeId) (base : Nat) (e : TypeId) (i : TypeInfo) (z : Value) (size bytes : Nat) (ht : P.underlying t = some (.slice e)) (ht' : P.underlying t' = some (.slice e')) (hi : P.info? e = some i) (hz : i.zero = some z)
    (hsize : i.size = size) (hby : i.bytes = bytes) (hzs : z.cells.size = size) (hsz : 0 < size)
    (v : Value) (n : Nat) (xs : List Value) (hown : w.ownsRow base e size v n xs)
    (ad : Addr) (m c : Nat) (news : List Value) (hl : news.length = m * size) (hnews : ∀ j u, news[j]? = some u → w.cell? (ad.add j) = some u) (h1 : ∀ u ∈ news, u.oneCell' = true)
    (hm : 0 < m) (h63 : n + m ≤ maxLen) (hbytes : (n + m) * bytes ≤ 140737488355328) (hbase : base ≤ w.heap.size) :
    ∃ g cap w', (∀ ty, (Builtin.append_ #[t, t'] ty #[v, .slice (some ad) m c]).run P w = .ok (.slice (some ⟨g, 0, none⟩) (n + m) cap) w') ∧
      w'.ownsRow base e size (.slice (some ⟨g, 0, none⟩) (n + m) cap) (n + m) (xs ++ news) ∧ w.grownBy w' v.ownBlock := by
  obtain ⟨A0, c0, hv0⟩ := own_form hown
  subst hv0
  obtain ⟨g, cap, w', hr, h2, h3, _⟩ := run_append_lies (P := P) w t 0 base e i z size bytes ht hi hz hsize hby hzs hsz _ n xs hown ad m c news hl hnews h1 hm h63 hbytes hbase _ rfl
  refine ⟨g, cap, w', fun ty => ?_, h2, h3⟩
  rw [← hr]
  simp [Builtin.append_, sizeOf, typeInfo, hi, run_underlying ht, run_underlying ht']
theorem slice_some (t e : TypeId) (i : TypeInfo) (ht : P.underlying t = some (.slice e)) (hi : P.info? e = some i) (A : Option Addr) (n c q : Nat) (hq : q ≤ n) :
    ∃ A3 c3, (∀ w, (Instr.slice t (.slice A n c) (some (.int .i64 (q : Nat))) none none).run P w = .ok (.slice A3 (n - q) c3) w) ∧ (∀ w, (Instr.sliceAt t (.slice A n c) (some (.int .i64 (q : Nat))) none none).run P w = .ok (.slice A3 (n - q) c3) w) := by
  have hs : ∀ w, (sizeOf e).run P w = .ok i.size w := fun w => by simp [sizeOf, typeInfo, hi]
  have hrun : ∀ w, (Instr.slice t (.slice A n c) (some (.int .i64 (q : Nat))) none none).run P w = .ok (.slice (if c = q then A else A.map (·.add (q * i.size))) (n - q) (c - q)) w := fun w => by
    have h0 : (0 : Int) ≤ (q : Nat) := by omega
    have h1 : ((q : Nat) : Int) ≤ (n : Nat) := by omega
    simp [Instr.slice, run_underlying ht, Instr.sliceBounds, run_sliceBound, hs, hq]
  refine ⟨_, _, hrun, fun w => ?_⟩
  simp only [Instr.sliceAt, Sem.run_bind, run_underlying ht, Result.andThen_ok]
  exact hrun w
end

theorem nums_drop (l : List Int) (i : Nat) : nums (l.drop i) = (nums l).drop i := by rw [nums, nums, List.map_drop]
theorem nums_insert (l : List Int) (i : Nat) (x : Int) : nums (l.take i ++ x :: l.drop i) = (nums l).take i ++ .int .i64 x :: (nums l).drop i := by
  rw [← nums_take, ← nums_drop]; simp [nums]
theorem nums_one (l : List Int) (v : Value) (h : v ∈ nums l) : v.oneCell' = true := by
  obtain ⟨x, _, rfl⟩ := List.mem_map.1 h
  rfl
theorem in_size : (Try.prog.info? 3).map (·.size) = some 1 := by kernel_rfl
/-- Insert in place: what the calls within leave. -/
theorem shift_world (w : World) (tr : TypeInfo) (hti : Try.prog.info? 3 = some tr) (hz1 : tr.size = 1) (g i n c vb : Nat) (cur : Array Value) (l : List Int) (x : Int) {base : Nat} (hln : l.length = n) (hi : i < n) (hroom : n + 1 ≤ c) (hcm : c ≤ maxLen) (hb : base ≤ g)
    (hg : w.heap[g]? = some (.cells cur 3 (0, 0))) (hcs : cur.size = c) (htake : cur.toList.take (n) = nums l) (hvb : Blk w vb 3 #[.int .i64 x]) (hne : g ≠ vb) :
    ∃ W1 W2, (callFunc 61 #[.slice (some ⟨vb, 0, none⟩) 1 1, .slice (some ⟨g, (i + 1), none⟩) (n - i) (c - (i + 1))]).run Try.prog w = .ok (.value (.bool false)) w ∧
      (∀ ty, (Builtin.copy_ #[30, 30] ty #[.slice (some ⟨g, (i + 1), none⟩) (n - i) (c - (i + 1)), .slice (some ⟨g, i, none⟩) (n + 1 - i) (c - i)]).run Try.prog w.drew = .ok (goInt (n - i : Nat)) W1) ∧
      (∀ ty, (Builtin.copy_ #[30, 30] ty #[.slice (some ⟨g, i, none⟩) (n + 1 - i) (c - i), .slice (some ⟨vb, 0, none⟩) 1 1]).run Try.prog W1 = .ok (goInt 1) W2) ∧
      W2.ownsRow base 3 1 (.slice (some ⟨g, 0, none⟩) (n + 1) c) (n + 1) (nums (l.take i ++ x :: l.drop i)) ∧ w.grownBy W2 (some g) := by
  have hll := nums_len l
  rw [hln] at hll
  have hcl : cur.toList.length = c := by rw [Array.length_toList, hcs]
  have hcell : ∀ (j : Nat) (v : Value), ((nums l).drop (i))[j]? = some v → w.cell? ((⟨g, i, none⟩ : Addr).add j) = some v := by
    intro j v hj
    rw [List.getElem?_drop, ← htake, List.getElem?_take] at hj
    rw [Addr.add_lit, cell_of_row w g _ cur _ (0, 0) hg]
    split at hj
    · simpa using hj
    · cases hj
  have hdl : ((nums l).drop (i)).length = (n - i) := by rw [List.length_drop, hll]
  have h1 := run_copy_rowK (P := Try.prog) w.drew 30 30 0 3 1 g ((i + 1)) (n - i) (c - (i + 1)) ⟨g, i, none⟩ (n + 1 - i) (c - i) cur _ ((nums l).drop (i)) (n - i)
    Try.underlying30 in_size hg (by simp only [Nat.min_def]; split <;> omega) (hdl.trans (Nat.mul_one _).symm) hcell (by rw [hdl, hcs]; omega) (fun v hv => nums_one l v (List.mem_of_mem_drop hv))
  obtain ⟨cu1, hcu1⟩ : ∃ cu1, cu1 = (splice cur.toList ((i + 1)) ((nums l).drop (i))).toArray := ⟨_, rfl⟩
  rw [← hcu1] at h1
  have hg1 : (w.drew.setRow g cu1).heap[g]? = some (.cells cu1 3 (0, 0)) := setRow_heap _ g cur _ _ _ hg
  have hs1 : cu1.size = c := by rw [hcu1, List.size_toArray, length_splice _ _ _ (by rw [hdl, hcl]; omega), hcl]
  have hv1 : Blk (w.drew.setRow g cu1) vb 3 #[.int .i64 x] := by
    unfold Blk
    rw [setRow_other _ g vb _ (Ne.symm hne)]
    exact hvb
  have h2 := run_copy_rowK (P := Try.prog) (w.drew.setRow g cu1) 30 30 0 3 1 g (i) (n + 1 - i) (c - i) ⟨vb, 0, none⟩ 1 1 cu1 _ [.int .i64 x] 1
    Try.underlying30 in_size hg1 (by simp only [Nat.min_def]; split <;> omega) rfl (World.news_of_block hv1) (by rw [hs1]; simp; omega) (by intro u hu; simp at hu; subst hu; rfl)
  refine ⟨_, _, ?_, fun ty => h1, fun ty => h2, ?_, ?_⟩
  · rw [run_callFunc_extern Try.func61 (by kernel_rfl) (by kernel_rfl) (by kernel_rfl) (e := Extern.SlicesOverlaps.overlaps #[30, 30] #[4]) (by kernel_rfl),
      Lib.run_overlaps_apart w 30 4 3 Try.underlying30 1 (fun w => by simp [sizeOf, typeInfo, hti, hz1]) ⟨vb, 0, none⟩ ⟨g, (i + 1), none⟩ 1 1 (n - i) (c - (i + 1)) (Ne.symm hne) 3 3 1 cur.size
        (by unfold Blk at hvb; simp [World.shape?, hvb]) (by simp [World.shape?, hg]) (by rw [hcs]; omega) (hvb.frozen 0) (hvb.frozen 1)]
    rfl
  · have r := row_own (w := (w.drew.setRow g cu1).setRow g (splice cu1.toList (i) [.int .i64 x]).toArray) (n := n + 1) (cap := c) (k := 1) (e := 3) hb (setRow_heap _ g cu1 _ _ _ hg1) hroom hcm (by rw [List.size_toArray, length_splice _ _ _ (by have := hs1; simp; omega), Array.length_toList, hs1, Nat.mul_one])
    have e := splice_insert cur.toList (nums l) [Value.int .i64 x] (n) (i) htake hll (by omega) (by rw [hcl]; simp; omega)
    have hlist : (splice cu1.toList (i) [Value.int .i64 x]).take ((n + 1)) = nums (l.take i ++ x :: l.drop i) := by
      rw [hcu1, List.toList_toArray, show (n + 1) = n + [Value.int .i64 x].length from rfl, show (i + 1) = i + [Value.int .i64 x].length from rfl, e]
      rw [nums_insert, List.append_assoc]; rfl
    rw [List.toList_toArray, Nat.mul_one, hlist] at r
    exact r
  · exact only_trans (a := w) (b := w.drew) ⟨rfl, rfl, rfl, Nat.le_refl _, fun _ _ _ => rfl⟩ (only_trans (grown_setRow _ g _) (grown_setRow _ g _))

theorem splice_fill {α : Type} (L A v B : List α) (p : Nat) (hA : L.take p = A) (hp : A.length = p) (hl : p + v.length + B.length ≤ L.length) :
    (splice (splice L p v) (p + v.length) B).take (p + v.length + B.length) = A ++ v ++ B := by
  have hl1 : (splice L p v).length = L.length := length_splice _ _ _ (by omega)
  have e1 : (splice L p v).take (p + v.length) = A ++ v := by
    rw [splice, hA, ← List.append_assoc]
    exact List.take_left' (by simp; omega)
  rw [show splice (splice L p v) (p + v.length) B = (splice L p v).take (p + v.length) ++ (B ++ (splice L p v).drop (p + v.length + B.length)) from rfl, e1, ← List.append_assoc]
  exact List.take_left' (by simp; omega)
/-- Insert into a new row: what the calls within leave. -/
theorem grow_world (w : World) (tr : TypeInfo) (hti : Try.prog.info? 3 = some tr) (hz0 : tr.zero = some (.int .i64 0)) (hz1 : tr.size = 1) (hz2 : tr.bytes = 8) (g i n c vb : Nat) (cur : Array Value) (l : List Int) (x : Int) {base : Nat} (hbase : base ≤ w.heap.size) (hln : l.length = n) (hi : i < n) (hn : n ≤ 1000) (hnc : n ≤ c) (hroom : c < n + 1)
    (hg : w.heap[g]? = some (.cells cur 3 (0, 0))) (htake : cur.toList.take (n) = nums l) (hvb : Blk w vb 3 #[.int .i64 x]) :
    ∃ W1 W2 W3 G, (∀ ty, (Builtin.append_ #[30, 3] ty #[.slice (some ⟨g, 0, none⟩) i c, .int .i64 ((n : Int) + 1 - (i : Int))]).run Try.prog w = .ok (.slice (some ⟨w.heap.size, 0, none⟩) (n + 1) G) W1) ∧
      (∀ ty, (Builtin.copy_ #[30, 30] ty #[.slice (some ⟨w.heap.size, i, none⟩) (n + 1 - i) (G - i), .slice (some ⟨vb, 0, none⟩) 1 1]).run Try.prog W1 = .ok (goInt 1) W2) ∧
      (∀ ty, (Builtin.copy_ #[30, 30] ty #[.slice (some ⟨w.heap.size, (i + 1), none⟩) (n - i) (G - (i + 1)), .slice (some ⟨g, i, none⟩) (n - i) (c - i)]).run Try.prog W2.drew = .ok (goInt (n - i : Nat)) W3) ∧
      n + 1 ≤ G ∧ G ≤ maxLen ∧
      W3.ownsRow base 3 1 (.slice (some ⟨w.heap.size, 0, none⟩) (n + 1) G) (n + 1) (nums (l.take i ++ x :: l.drop i)) ∧ w.grownBy W3 none := by
  have hll := nums_len l
  rw [hln] at hll
  have hgl : g < w.heap.size := (Array.getElem?_eq_some_iff.1 hg).1
  have hvl := hvb.lt
  obtain ⟨G, hG⟩ : ∃ G, G = grownCap w (n + 1) c 3 := ⟨_, rfl⟩
  have hG1 : n + 1 ≤ G := by rw [hG]; exact grownCap_ge w _ _ _
  have hG2 : G ≤ maxLen := by rw [hG]; exact grownCap_le_maxLen w _ _ _ (by unfold maxLen; omega)
  have hcellw : ∀ (j : Nat) (v : Value), (nums l)[j]? = some v → w.cell? ⟨g, j, none⟩ = some v := by
    intro j v hj
    rw [← htake, List.getElem?_take] at hj
    rw [cell_of_row w g _ cur _ (0, 0) hg]
    split at hj
    · simpa using hj
    · cases hj
  have hold : (Builtin.firstCells tr.size i (.slice (some ⟨g, 0, none⟩) i c)).run Try.prog w.drew = .ok ((nums l).take (i)).toArray w.drew := by
    rw [hz1]
    exact run_firstCells_some w.drew 1 i ⟨g, 0, none⟩ i c _ (by rw [List.length_take, hll]; omega) (fun j v hj => by
      rw [List.getElem?_take] at hj
      rw [Addr.add_lit, Nat.zero_add]
      split at hj
      · exact hcellw j v hj
      · cases hj)
  have hik : i + (n + 1 - i) = n + 1 := by omega
  have hrz := fun ty => Lib.run_append_grow_zeros (P := Try.prog) w 30 3 ty 3 tr _ .i64 .i64 Try.underlying30 Try.underlying3 hti hz0 (some ⟨g, 0, none⟩) i c _ hold (n + 1 - i) (by omega) (by rw [hz1]; decide) (by omega) (by omega) (by rw [hz2]; omega)
    (by rw [hz2, hik]; exact growslice_fits hroom (by omega))
  rw [hik, ← hG] at hrz
  obtain ⟨ROW, hROW⟩ : ∃ ROW : Array Value, ROW = ((nums l).take (i)).toArray ++ Builtin.zeroCells (Value.int .i64 0).cells (n + 1 - i) ++ Builtin.zeroCells (Value.int .i64 0).cells (G - (n + 1)) := ⟨_, rfl⟩
  rw [← hROW] at hrz
  have hRs : ROW.size = G := by
    rw [hROW, Array.size_append, Array.size_append, size_zeroCells, size_zeroCells, List.size_toArray, List.length_take, hll]
    simp [Value.cells]
    omega
  have hRt : ROW.toList.take (i) = (nums l).take (i) := by
    rw [hROW, Array.toList_append, Array.toList_append, List.append_assoc]
    exact List.take_left' (by rw [List.toList_toArray, List.length_take, hll]; omega)
  have hRl : ROW.toList.length = G := by rw [Array.length_toList, hRs]
  have g1 : (w.drew.alloc (.cells ROW 3)).heap[w.heap.size]? = some (.cells ROW 3 (0, 0)) := heap_alloc_new w.drew _
  have v1 : Blk (w.drew.alloc (.cells ROW 3)) vb 3 #[.int .i64 x] := Blk.alloc (w := w.drew) hvb _
  have h1 := run_copy_rowK (P := Try.prog) (w.drew.alloc (.cells ROW 3)) 30 30 0 3 1 w.heap.size (i) (n + 1 - i) (G - i) ⟨vb, 0, none⟩ 1 1 ROW _ [.int .i64 x] 1
    Try.underlying30 in_size g1 (by simp only [Nat.min_def]; split <;> omega) rfl (World.news_of_block v1) (by rw [hRs]; simp; omega) (by intro u hu; simp at hu; subst hu; rfl)
  obtain ⟨cu1, hcu1⟩ : ∃ cu1, cu1 = (splice ROW.toList (i) [Value.int .i64 x]).toArray := ⟨_, rfl⟩
  rw [← hcu1] at h1
  have hs1 : cu1.size = G := by rw [hcu1, List.size_toArray, length_splice _ _ _ (by rw [hRl]; simp; omega), hRl]
  obtain ⟨W2, hW2⟩ : ∃ W2, W2 = (w.drew.alloc (.cells ROW 3)).setRow w.heap.size cu1 := ⟨_, rfl⟩
  have g2 : W2.heap[w.heap.size]? = some (.cells cu1 3 (0, 0)) := by rw [hW2]; exact setRow_heap _ _ ROW _ _ _ g1
  have c2 : ∀ (j : Nat) (v : Value), (nums l)[j]? = some v → W2.cell? ⟨g, j, none⟩ = some v := by
    intro j v hj
    rw [hW2, ← hcellw j v hj]
    refine World.cell?_of_block (a := ⟨g, j, none⟩) ?_
    rw [setRow_other _ _ g _ (by omega)]
    exact heap_alloc_old w.drew _ hgl
  have hdl : ((nums l).drop (i)).length = (n - i) := by rw [List.length_drop, hll]
  have h2 := run_copy_rowK (P := Try.prog) W2.drew 30 30 0 3 1 w.heap.size ((i + 1)) (n - i) (G - (i + 1)) ⟨g, i, none⟩ (n - i) (c - i) cu1 _ ((nums l).drop (i)) (n - i)
    Try.underlying30 in_size g2 (by simp only [Nat.min_def]; split <;> omega) (hdl.trans (Nat.mul_one _).symm) (fun j v hj => by
      rw [List.getElem?_drop] at hj
      rw [Addr.add_lit]
      exact c2 _ v hj) (by rw [hdl, hs1]; omega) (fun v hv => nums_one l v (List.mem_of_mem_drop hv))
  rw [← hW2] at h1
  have hl1 : cu1.toList.length = G := by rw [Array.length_toList]; exact hs1
  refine ⟨_, W2, _, G, fun ty => ?_, fun ty => h1, fun ty => h2, hG1, hG2, ?_, ?_⟩
  · have := hrz ty
    rwa [show ((n + 1 - i : Nat) : Int) = (n : Int) + 1 - (i : Int) by omega] at this
  · have r := row_own (w := W2.drew.setRow w.heap.size (splice cu1.toList ((i + 1)) ((nums l).drop (i))).toArray) (n := n + 1) (cap := G) (k := 1) (e := 3) hbase (setRow_heap _ _ cu1 _ _ _ g2) hG1 hG2 (by rw [List.size_toArray, length_splice _ _ _ (by rw [hdl, hl1]; omega), hl1, Nat.mul_one])
    have e := splice_fill ROW.toList ((nums l).take (i)) [Value.int .i64 x] ((nums l).drop (i)) (i) hRt (by rw [List.length_take, hll]; omega) (by rw [hRl, hdl]; simp; omega)
    have hlist : (splice cu1.toList ((i + 1)) ((nums l).drop (i))).take ((n + 1)) = nums (l.take i ++ x :: l.drop i) := by
      rw [hcu1, List.toList_toArray, show (n + 1) = i + [Value.int .i64 x].length + ((nums l).drop (i)).length by rw [hdl]; simp; omega, show (i + 1) = i + [Value.int .i64 x].length from rfl, e]
      rw [nums_insert, List.append_assoc]; rfl
    rw [List.toList_toArray, Nat.mul_one, hlist] at r
    exact r
  · have k1 : w.grownBy (w.drew.alloc (.cells ROW 3)) none := ⟨rfl, rfl, rfl, by simp, fun k hk _ => heap_alloc_old w.drew _ hk⟩
    have old : ∀ (W : World) (cs : Array Value), w.grownBy W none → w.grownBy (W.setRow w.heap.size cs) none := fun W cs h => ⟨h.os, h.tape, h.output, by simpa [World.setRow] using h.size, fun k hk hne => (setRow_other W w.heap.size k cs (by omega)).trans (h.block k hk hne)⟩
    have k2 := old _ cu1 k1
    rw [← hW2] at k2
    exact old W2.drew _ ⟨k2.os, k2.tape, k2.output, k2.size, k2.block⟩

set_option maxRecDepth 100000 in
set_option maxHeartbeats 8000000 in
theorem insert_any (v : Value) (base n : Nat) (l : List Int) (vb i : Nat) (x : Int) (w : World) (h : w.ownsRow base 3 1 v n (nums l)) (hbase : base ≤ w.heap.size) (hln : l.length = n) (hn : n ≤ 1000) (hi : i ≤ n)
    (hvb : Blk w vb 3 #[.int .i64 x]) (hne : v.ownBlock ≠ some vb) :
    Calls Try.prog 55 #[v, .int .i64 i, .slice (some ⟨vb, 0, none⟩) 1 1] w fun e w' =>
      ∃ A c, e = .returned (.slice A (n + 1) c) ∧ w'.ownsRow base 3 1 (.slice A (n + 1) c) (n + 1) (nums (l.take i ++ x :: l.drop i)) ∧ w.grownBy w' v.ownBlock := by
  obtain ⟨tr, hti, hz0, hz1, hz2⟩ := info_parts winfo
  obtain ⟨A, c, rfl⟩ := own_form h
  have hcap := own_cap h
  by_cases hin : i = n
  · subst hin
    obtain ⟨g, cap, w', hrun, hown, hg⟩ := append2 (P := Try.prog) w 30 30 3 base 3 tr _ 1 8 Try.underlying30 Try.underlying30 hti hz0 hz1 hz2 rfl (by decide) _ i _ h ⟨vb, 0, none⟩ 1 1 [.int .i64 x] rfl (World.news_of_block hvb) (by intro u hu; simp at hu; subst hu; rfl) (by omega) (by unfold maxLen; omega) (by omega) hbase
    have HX := Lib.hid (And.intro hown hg)
    have HL := Lib.hid (show nums (l.take i ++ x :: l.drop i) = nums l ++ [.int .i64 x] by rw [← hln, List.take_length, List.drop_length, nums_snoc])
    obtain ⟨A3, c3, hsl, hsl2⟩ := slice_some (P := Try.prog) 30 3 tr Try.underlying30 hti A i c i (Nat.le_refl _)
    clear hown hg h hne hvb hln hcap
    go_enter Try.func55, Try.ntmps55
    go_wp2_with (at_builtin; refine Lib.wpList_append_run _ rfl _ _ _ _ rfl _ _ rfl rfl _ _ (hrun _) ?_)
    go_ret
    exact ⟨some ⟨g, 0, none⟩, cap, rfl, by rw [HL.out]; exact HX.out.1, HX.out.2⟩
  · have hin2 : i < n := by omega
    rcases h.2 with ⟨hv, h0⟩ | ⟨g, cap, cur, hv, hbg, hg, hnc, hcm, hcs, htake⟩
    · omega
    · injection hv with hA1 hA2 hA3
      subst hA1 hA3
      clear hA2
      rw [Nat.mul_one] at hcs htake
      have hgl : g < w.heap.size := (Array.getElem?_eq_some_iff.1 hg).1
      have hi1 : (0 : Int) ≤ (i : Int) := by omega
      have hi2 : (i : Int) ≤ (n : Int) := by omega
      have hi3 : ((i : Int) == (n : Int)) = false := by rw [beq_eq_false_iff_ne]; omega
      by_cases hroom : n + 1 ≤ c
      · have hr1 : ¬ ((c : Int) < (n : Int) + 1) := by omega
        have hc63 : c ≤ 9223372036854775807 := by have := hcm; unfold maxLen at this; omega
        obtain ⟨W1, W2, hov, hcp1, hcp2, hown, hgr⟩ := shift_world w tr hti hz1 g i n c vb cur l x hln hin2 hroom hcm hbg hg hcs htake hvb (fun e => hne (by rw [e]; rfl))
        have HX := Lib.hid (And.intro hown hgr)
        clear hn hown hgr h hne hg hvb htake hcs hln hcap
        go_enter Try.func55, Try.ntmps55
        go_upto_region 15 with fail
        go_region
        all_goals (
          go_wp2_with fail
          go_ret
          exact ⟨some ⟨g, 0, none⟩, c, rfl, HX.out.1, HX.out.2⟩)
      · have hr1 : (c : Int) < (n : Int) + 1 := by omega
        obtain ⟨W1, W2, W3, G, hrz, hcpA, hcpB, hG1, hG2, hown, hgr⟩ := grow_world w tr hti hz0 hz1 hz2 g i n c vb cur l x hbase hln hin2 hn hnc (by omega) hg htake hvb
        have hG63 : G ≤ 9223372036854775807 := by have := hG2; unfold maxLen at this; omega
        have hc63 : c ≤ 9223372036854775807 := by have := hcm; unfold maxLen at this; omega
        have HX := Lib.hid (And.intro hown (only_row (row := some g) hgr))
        have hgi : ¬ (G = i) := by omega
        have hgi1 : ¬ (G = i + 1) := by omega
        have hci : ¬ (c = i) := by omega
        clear hown hgr h hne hg hvb htake hcs hln hcap
        go_enter Try.func55, Try.ntmps55
        go_upto_region 11 with (first
          | (at_builtin; refine Lib.wpList_append_run _ rfl _ _ _ _ rfl _ _ rfl rfl _ _ (hrz _) ?_)
          | (at_builtin; refine wpList_copy_runI _ rfl _ _ _ _ rfl _ _ rfl rfl (hcpA _) ?_))
        go_region
        all_goals (
          go_wp2_with fail
          go_ret
          exact ⟨some ⟨w.heap.size, 0, none⟩, G, rfl, HX.out.1, HX.out.2⟩)

set_option maxHeartbeats 4000000 in
theorem put_any (v : Value) (base n : Nat) (l : List Int) (i : Nat) (x : Int) (w : World) (h : w.ownsRow base 3 1 v n (nums l)) (hbase : base ≤ w.heap.size) (hln : l.length = n) (hn : n ≤ 1000) (hi : i ≤ n) :
    Calls Try.prog 45 #[v, .int .i64 i, .int .i64 x] w fun e w' =>
      ∃ A c, e = .returned (.slice A (n + 1) c) ∧ w'.ownsRow base 3 1 (.slice A (n + 1) c) (n + 1) (nums (l.take i ++ x :: l.drop i)) ∧ w.grownBy w' v.ownBlock := by
  have HO := Lib.hid (And.intro (h.alloc (.cells #[.int .i64 x] 3)) hln)
  have HB := Lib.hid (only_alloc (World.grownBy.refl w v.ownBlock) (.cells #[.int .i64 x] 3))
  have HN := Lib.hid (show v.ownBlock ≠ some w.heap.size from fun e => by have := (h.lt _ e).2; omega)
  clear h hln
  go_enter Try.func45, Try.ntmps45
  go_wp2_with fail
  refine (insert_any v base n l w.heap.size i x _ HO.out.1 (by simp; omega) HO.out.2 hn hi (Blk.new w 3 #[.int .i64 x]) HN.out).mono ?_
  rintro e w2 ⟨A2, c2, rfl, hown, hg⟩
  have HY := Lib.hid (And.intro hown (only_trans HB.out hg))
  clear hown hg
  go_wp2
  go_ret
  exact ⟨A2, c2, rfl, HY.out.1, HY.out.2⟩

end Go.Proofs.Ytgopokoghnfgiaa
