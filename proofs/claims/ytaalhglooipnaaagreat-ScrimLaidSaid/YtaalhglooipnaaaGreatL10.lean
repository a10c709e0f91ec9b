/-
  The walk over Insert at numbers (written by gen_insi.py out of WovB).
  Plain mathematics of layer 1 (sat): what the program's functions and the document's compute, as functions on integers; no program in sight.
  The walks over package sat and the document's answer for it: contracts, one a function.
  The walks over package sat, second part: quotients, the clock, sums of many.
-/
import Derived.Test.YtaalhglooipnaaaGreatL03
import Derived.Test.YtaalhglooipnaaaGreatProg
import Derived.WalkKit
import Derived.WalkSpells
import Derived.WalkLawsBesides
import Derived.Lib.MinMax
import Derived.Lib.Hide
import Derived.Deep.QuietTactic
import Derived.BigQuiet
namespace Go.Proofs.YtaalhglooipnaaaGreat.Ii
open Go.RowKit
attribute [local go_sem ↓] Go.wp_at_zero Go.wp_at_succ

section
variable {P : Program}
theorem slice_some (t e : TypeId) (i : TypeInfo) (ht : P.underlying t = some (.slice e)) (hi : P.info? e = some i) (A : Option Addr) (n c q : Nat) (hq : q ≤ n) :
    ∃ A3 c3, (∀ w, (Instr.slice t (.slice A n c) (some (.int .i64 (q : Nat))) none none).run P w = .ok (.slice A3 (n - q) c3) w) ∧ (∀ w, (Instr.sliceAt t (.slice A n c) (some (.int .i64 (q : Nat))) none none).run P w = .ok (.slice A3 (n - q) c3) w) := by
  have hs : ∀ w, (sizeOf e).run P w = .ok i.size w := fun w => by simp [sizeOf, typeInfo, hi]
  have hrun : ∀ w, (Instr.slice t (.slice A n c) (some (.int .i64 (q : Nat))) none none).run P w = .ok (.slice (if c = q then A else A.map (·.add (q * i.size))) (n - q) (c - q)) w := fun w => by
    have h0 : (0 : Int) ≤ (q : Nat) := by omega
    have h1 : ((q : Nat) : Int) ≤ (n : Nat) := by omega
    simp [Instr.slice, run_underlying ht, Instr.sliceBounds, run_sliceBound, hs, hq]
  refine ⟨_, _, hrun, fun w => ?_⟩
  simp only [Instr.sliceAt, Sem.run_bind, run_underlying ht, Result.andThen_ok]
  exact hrun w

end

theorem nums_take (l : List Int) (i : Nat) : nums (l.take i) = (nums l).take i := by rw [nums, nums, List.map_take]

theorem winfo : (Tryz.prog.info? 3).map (fun i => (i.zero, i.size, i.bytes)) = some (some (.int .i64 0), 1, 8) := by kernel_rfl

theorem nums_drop (l : List Int) (i : Nat) : nums (l.drop i) = (nums l).drop i := by rw [nums, nums, List.map_drop]

theorem nums_insert (l : List Int) (i : Nat) (x : Int) : nums (l.take i ++ x :: l.drop i) = (nums l).take i ++ .int .i64 x :: (nums l).drop i := by
  rw [← nums_take, ← nums_drop]; simp [nums]

theorem nums_one (l : List Int) (v : Value) (h : v ∈ nums l) : v.oneCell' = true := by
  obtain ⟨x, _, rfl⟩ := List.mem_map.1 h
  rfl

theorem in_size : (Tryz.prog.info? 3).map (·.size) = some 1 := by kernel_rfl

/-- Insert in place: what the calls within leave. -/
theorem shift_world (w : World) (tr : TypeInfo) (hti : Tryz.prog.info? 3 = some tr) (hz1 : tr.size = 1) (g i n c vb : Nat) (cur : Array Value) (l : List Int) (x : Int) {base : Nat} (hln : l.length = n) (hi : i < n) (hroom : n + 1 ≤ c) (hcm : c ≤ maxLen) (hb : base ≤ g)
    (hg : w.heap[g]? = some (.cells cur 3 (0, 0))) (hcs : cur.size = c) (htake : cur.toList.take (n) = nums l) (hvb : Blk w vb 3 #[.int .i64 x]) (hne : g ≠ vb) :
    ∃ W1 W2, (callFunc 128 #[.slice (some ⟨vb, 0, none⟩) 1 1, .slice (some ⟨g, (i + 1), none⟩) (n - i) (c - (i + 1))]).run Tryz.prog w = .ok (.value (.bool false)) w ∧
      (∀ ty, (Builtin.copy_ #[71, 71] ty #[.slice (some ⟨g, (i + 1), none⟩) (n - i) (c - (i + 1)), .slice (some ⟨g, i, none⟩) (n + 1 - i) (c - i)]).run Tryz.prog w.drew = .ok (goInt (n - i : Nat)) W1) ∧
      (∀ ty, (Builtin.copy_ #[71, 71] ty #[.slice (some ⟨g, i, none⟩) (n + 1 - i) (c - i), .slice (some ⟨vb, 0, none⟩) 1 1]).run Tryz.prog W1 = .ok (goInt 1) W2) ∧
      W2.ownsRow base 3 1 (.slice (some ⟨g, 0, none⟩) (n + 1) c) (n + 1) (nums (l.take i ++ x :: l.drop i)) ∧ w.grownBy W2 (some g) := by
  have hll := nums_len l
  rw [hln] at hll
  have hcl : cur.toList.length = c := by rw [Array.length_toList, hcs]
  have hcell : ∀ (j : Nat) (v : Value), ((nums l).drop (i))[j]? = some v → w.cell? ((⟨g, i, none⟩ : Addr).add j) = some v := by
    intro j v hj
    rw [List.getElem?_drop, ← htake, List.getElem?_take] at hj
    rw [Addr.add_lit, cell_of_row w g _ cur _ (0, 0) hg]
    split at hj
    · simpa using hj
    · cases hj
  have hdl : ((nums l).drop (i)).length = (n - i) := by rw [List.length_drop, hll]
  have h1 := run_copy_rowK (P := Tryz.prog) w.drew 71 71 0 3 1 g ((i + 1)) (n - i) (c - (i + 1)) ⟨g, i, none⟩ (n + 1 - i) (c - i) cur _ ((nums l).drop (i)) (n - i)
    Tryz.underlying71 in_size hg (by simp only [Nat.min_def]; split <;> omega) (hdl.trans (Nat.mul_one _).symm) hcell (by rw [hdl, hcs]; omega) (fun v hv => nums_one l v (List.mem_of_mem_drop hv))
  obtain ⟨cu1, hcu1⟩ : ∃ cu1, cu1 = (splice cur.toList ((i + 1)) ((nums l).drop (i))).toArray := ⟨_, rfl⟩
  rw [← hcu1] at h1
  have hg1 : (w.drew.setRow g cu1).heap[g]? = some (.cells cu1 3 (0, 0)) := setRow_heap _ g cur _ _ _ hg
  have hs1 : cu1.size = c := by rw [hcu1, List.size_toArray, length_splice _ _ _ (by rw [hdl, hcl]; omega), hcl]
  have hv1 : Blk (w.drew.setRow g cu1) vb 3 #[.int .i64 x] := by
    unfold Blk
    rw [setRow_other _ g vb _ (Ne.symm hne)]
    exact hvb
  have h2 := run_copy_rowK (P := Tryz.prog) (w.drew.setRow g cu1) 71 71 0 3 1 g (i) (n + 1 - i) (c - i) ⟨vb, 0, none⟩ 1 1 cu1 _ [.int .i64 x] 1
    Tryz.underlying71 in_size hg1 (by simp only [Nat.min_def]; split <;> omega) rfl (World.news_of_block hv1) (by rw [hs1]; simp; omega) (by intro u hu; simp at hu; subst hu; rfl)
  refine ⟨_, _, ?_, fun ty => h1, fun ty => h2, ?_, ?_⟩
  · rw [run_callFunc_extern Tryz.func128 (by kernel_rfl) (by kernel_rfl) (by kernel_rfl) (e := Extern.SlicesOverlaps.overlaps #[71, 71] #[4]) (by kernel_rfl),
      Lib.run_overlaps_apart w 71 4 3 Tryz.underlying71 1 (fun w => by simp [sizeOf, typeInfo, hti, hz1]) ⟨vb, 0, none⟩ ⟨g, (i + 1), none⟩ 1 1 (n - i) (c - (i + 1)) (Ne.symm hne) 3 3 1 cur.size
        (by unfold Blk at hvb; simp [World.shape?, hvb]) (by simp [World.shape?, hg]) (by rw [hcs]; omega) (hvb.frozen 0) (hvb.frozen 1)]
    rfl
  · have r := row_own (w := (w.drew.setRow g cu1).setRow g (splice cu1.toList (i) [.int .i64 x]).toArray) (n := n + 1) (cap := c) (k := 1) (e := 3) hb (setRow_heap _ g cu1 _ _ _ hg1) hroom hcm (by rw [List.size_toArray, length_splice _ _ _ (by have := hs1; simp; omega), Array.length_toList, hs1, Nat.mul_one])
    have e := splice_insert cur.toList (nums l) [Value.int .i64 x] (n) (i) htake hll (by omega) (by rw [hcl]; simp; omega)
    have hlist : (splice cu1.toList (i) [Value.int .i64 x]).take ((n + 1)) = nums (l.take i ++ x :: l.drop i) := by
      rw [hcu1, List.toList_toArray, show (n + 1) = n + [Value.int .i64 x].length from rfl, show (i + 1) = i + [Value.int .i64 x].length from rfl, e]
      rw [nums_insert, List.append_assoc]; rfl
    rw [List.toList_toArray, Nat.mul_one, hlist] at r
    exact r
  · exact only_trans (a := w) (b := w.drew) ⟨rfl, rfl, rfl, Nat.le_refl _, fun _ _ _ => rfl⟩ (only_trans (grown_setRow _ g _) (grown_setRow _ g _))

/-- Insert into a new row: what the calls within leave. -/
theorem grow_world (w : World) (tr : TypeInfo) (hti : Tryz.prog.info? 3 = some tr) (hz0 : tr.zero = some (.int .i64 0)) (hz1 : tr.size = 1) (hz2 : tr.bytes = 8) (g i n c vb : Nat) (cur : Array Value) (l : List Int) (x : Int) {base : Nat} (hbase : base ≤ w.heap.size) (hln : l.length = n) (hi : i < n) (hn : n ≤ 1000) (hnc : n ≤ c) (hroom : c < n + 1)
    (hg : w.heap[g]? = some (.cells cur 3 (0, 0))) (htake : cur.toList.take (n) = nums l) (hvb : Blk w vb 3 #[.int .i64 x]) :
    ∃ W1 W2 W3 G, (∀ ty, (Builtin.append_ #[71, 3] ty #[.slice (some ⟨g, 0, none⟩) i c, .int .i64 ((n : Int) + 1 - (i : Int))]).run Tryz.prog w = .ok (.slice (some ⟨w.heap.size, 0, none⟩) (n + 1) G) W1) ∧
      (∀ ty, (Builtin.copy_ #[71, 71] ty #[.slice (some ⟨w.heap.size, i, none⟩) (n + 1 - i) (G - i), .slice (some ⟨vb, 0, none⟩) 1 1]).run Tryz.prog W1 = .ok (goInt 1) W2) ∧
      (∀ ty, (Builtin.copy_ #[71, 71] ty #[.slice (some ⟨w.heap.size, (i + 1), none⟩) (n - i) (G - (i + 1)), .slice (some ⟨g, i, none⟩) (n - i) (c - i)]).run Tryz.prog W2.drew = .ok (goInt (n - i : Nat)) W3) ∧
      n + 1 ≤ G ∧ G ≤ maxLen ∧
      W3.ownsRow base 3 1 (.slice (some ⟨w.heap.size, 0, none⟩) (n + 1) G) (n + 1) (nums (l.take i ++ x :: l.drop i)) ∧ w.grownBy W3 none := by
  have hll := nums_len l
  rw [hln] at hll
  have hgl : g < w.heap.size := (Array.getElem?_eq_some_iff.1 hg).1
  have hvl := hvb.lt
  obtain ⟨G, hG⟩ : ∃ G, G = grownCap w (n + 1) c 3 := ⟨_, rfl⟩
  have hG1 : n + 1 ≤ G := by rw [hG]; exact grownCap_ge w _ _ _
  have hG2 : G ≤ maxLen := by rw [hG]; exact grownCap_le_maxLen w _ _ _ (by unfold maxLen; omega)
  have hcellw : ∀ (j : Nat) (v : Value), (nums l)[j]? = some v → w.cell? ⟨g, j, none⟩ = some v := by
    intro j v hj
    rw [← htake, List.getElem?_take] at hj
    rw [cell_of_row w g _ cur _ (0, 0) hg]
    split at hj
    · simpa using hj
    · cases hj
  have hold : (Builtin.firstCells tr.size i (.slice (some ⟨g, 0, none⟩) i c)).run Tryz.prog w.drew = .ok ((nums l).take (i)).toArray w.drew := by
    rw [hz1]
    exact run_firstCells_some w.drew 1 i ⟨g, 0, none⟩ i c _ (by rw [List.length_take, hll]; omega) (fun j v hj => by
      rw [List.getElem?_take] at hj
      rw [Addr.add_lit, Nat.zero_add]
      split at hj
      · exact hcellw j v hj
      · cases hj)
  have hik : i + (n + 1 - i) = n + 1 := by omega
  have hrz := fun ty => Lib.run_append_grow_zeros (P := Tryz.prog) w 71 3 ty 3 tr _ .i64 .i64 Tryz.underlying71 Tryz.underlying3 hti hz0 (some ⟨g, 0, none⟩) i c _ hold (n + 1 - i) (by omega) (by rw [hz1]; decide) (by omega) (by omega) (by rw [hz2]; omega)
    (by rw [hz2, hik]; exact growslice_fits hroom (by omega))
  rw [hik, ← hG] at hrz
  obtain ⟨ROW, hROW⟩ : ∃ ROW : Array Value, ROW = ((nums l).take (i)).toArray ++ Builtin.zeroCells (Value.int .i64 0).cells (n + 1 - i) ++ Builtin.zeroCells (Value.int .i64 0).cells (G - (n + 1)) := ⟨_, rfl⟩
  rw [← hROW] at hrz
  have hRs : ROW.size = G := by
    rw [hROW, Array.size_append, Array.size_append, size_zeroCells, size_zeroCells, List.size_toArray, List.length_take, hll]
    simp [Value.cells]
    omega
  have hRt : ROW.toList.take (i) = (nums l).take (i) := by
    rw [hROW, Array.toList_append, Array.toList_append, List.append_assoc]
    exact List.take_left' (by rw [List.toList_toArray, List.length_take, hll]; omega)
  have hRl : ROW.toList.length = G := by rw [Array.length_toList, hRs]
  have g1 : (w.drew.alloc (.cells ROW 3)).heap[w.heap.size]? = some (.cells ROW 3 (0, 0)) := heap_alloc_new w.drew _
  have v1 : Blk (w.drew.alloc (.cells ROW 3)) vb 3 #[.int .i64 x] := Blk.alloc (w := w.drew) hvb _
  have h1 := run_copy_rowK (P := Tryz.prog) (w.drew.alloc (.cells ROW 3)) 71 71 0 3 1 w.heap.size (i) (n + 1 - i) (G - i) ⟨vb, 0, none⟩ 1 1 ROW _ [.int .i64 x] 1
    Tryz.underlying71 in_size g1 (by simp only [Nat.min_def]; split <;> omega) rfl (World.news_of_block v1) (by rw [hRs]; simp; omega) (by intro u hu; simp at hu; subst hu; rfl)
  obtain ⟨cu1, hcu1⟩ : ∃ cu1, cu1 = (splice ROW.toList (i) [Value.int .i64 x]).toArray := ⟨_, rfl⟩
  rw [← hcu1] at h1
  have hs1 : cu1.size = G := by rw [hcu1, List.size_toArray, length_splice _ _ _ (by rw [hRl]; simp; omega), hRl]
  obtain ⟨W2, hW2⟩ : ∃ W2, W2 = (w.drew.alloc (.cells ROW 3)).setRow w.heap.size cu1 := ⟨_, rfl⟩
  have g2 : W2.heap[w.heap.size]? = some (.cells cu1 3 (0, 0)) := by rw [hW2]; exact setRow_heap _ _ ROW _ _ _ g1
  have c2 : ∀ (j : Nat) (v : Value), (nums l)[j]? = some v → W2.cell? ⟨g, j, none⟩ = some v := by
    intro j v hj
    rw [hW2, ← hcellw j v hj]
    refine World.cell?_of_block (a := ⟨g, j, none⟩) ?_
    rw [setRow_other _ _ g _ (by omega)]
    exact heap_alloc_old w.drew _ hgl
  have hdl : ((nums l).drop (i)).length = (n - i) := by rw [List.length_drop, hll]
  have h2 := run_copy_rowK (P := Tryz.prog) W2.drew 71 71 0 3 1 w.heap.size ((i + 1)) (n - i) (G - (i + 1)) ⟨g, i, none⟩ (n - i) (c - i) cu1 _ ((nums l).drop (i)) (n - i)
    Tryz.underlying71 in_size g2 (by simp only [Nat.min_def]; split <;> omega) (hdl.trans (Nat.mul_one _).symm) (fun j v hj => by
      rw [List.getElem?_drop] at hj
      rw [Addr.add_lit]
      exact c2 _ v hj) (by rw [hdl, hs1]; omega) (fun v hv => nums_one l v (List.mem_of_mem_drop hv))
  rw [← hW2] at h1
  have hl1 : cu1.toList.length = G := by rw [Array.length_toList]; exact hs1
  refine ⟨_, W2, _, G, fun ty => ?_, fun ty => h1, fun ty => h2, hG1, hG2, ?_, ?_⟩
  · have := hrz ty
    rwa [show ((n + 1 - i : Nat) : Int) = (n : Int) + 1 - (i : Int) by omega] at this
  · have r := row_own (w := W2.drew.setRow w.heap.size (splice cu1.toList ((i + 1)) ((nums l).drop (i))).toArray) (n := n + 1) (cap := G) (k := 1) (e := 3) hbase (setRow_heap _ _ cu1 _ _ _ g2) hG1 hG2 (by rw [List.size_toArray, length_splice _ _ _ (by rw [hdl, hl1]; omega), hl1, Nat.mul_one])
    have e := splice_fill ROW.toList ((nums l).take (i)) [Value.int .i64 x] ((nums l).drop (i)) (i) hRt (by rw [List.length_take, hll]; omega) (by rw [hRl, hdl]; simp; omega)
    have hlist : (splice cu1.toList ((i + 1)) ((nums l).drop (i))).take ((n + 1)) = nums (l.take i ++ x :: l.drop i) := by
      rw [hcu1, List.toList_toArray, show (n + 1) = i + [Value.int .i64 x].length + ((nums l).drop (i)).length by rw [hdl]; simp; omega, show (i + 1) = i + [Value.int .i64 x].length from rfl, e]
      rw [nums_insert, List.append_assoc]; rfl
    rw [List.toList_toArray, Nat.mul_one, hlist] at r
    exact r
  · have k1 : w.grownBy (w.drew.alloc (.cells ROW 3)) none := ⟨rfl, rfl, rfl, by simp, fun k hk _ => heap_alloc_old w.drew _ hk⟩
    have old : ∀ (W : World) (cs : Array Value), w.grownBy W none → w.grownBy (W.setRow w.heap.size cs) none := fun W cs h => ⟨h.os, h.tape, h.output, by simpa [World.setRow] using h.size, fun k hk hne => (setRow_other W w.heap.size k cs (by omega)).trans (h.block k hk hne)⟩
    have k2 := old _ cu1 k1
    rw [← hW2] at k2
    exact old W2.drew _ ⟨k2.os, k2.tape, k2.output, k2.size, k2.block⟩

set_option maxRecDepth 100000 in
set_option maxHeartbeats 8000000 in
theorem insert_any (v : Value) (base n : Nat) (l : List Int) (vb i : Nat) (x : Int) (w : World) (h : w.ownsRow base 3 1 v n (nums l)) (hbase : base ≤ w.heap.size) (hln : l.length = n) (hn : n ≤ 1000) (hi : i ≤ n)
    (hvb : Blk w vb 3 #[.int .i64 x]) (hne : v.ownBlock ≠ some vb) :
    Calls Tryz.prog 108 #[v, .int .i64 i, .slice (some ⟨vb, 0, none⟩) 1 1] w fun e w' =>
      ∃ A c, e = .returned (.slice A (n + 1) c) ∧ w'.ownsRow base 3 1 (.slice A (n + 1) c) (n + 1) (nums (l.take i ++ x :: l.drop i)) ∧ w.grownBy w' v.ownBlock := by
  obtain ⟨tr, hti, hz0, hz1, hz2⟩ := info_parts winfo
  obtain ⟨A, c, rfl⟩ := own_form h
  have hcap := own_cap h
  by_cases hin : i = n
  · subst hin
    obtain ⟨g, cap, w', hrun, hown, hg⟩ := append2 (P := Tryz.prog) w 71 71 3 base 3 tr _ 1 8 Tryz.underlying71 Tryz.underlying71 hti hz0 hz1 hz2 rfl (by decide) _ i _ h ⟨vb, 0, none⟩ 1 1 [.int .i64 x] rfl (World.news_of_block hvb) (by intro u hu; simp at hu; subst hu; rfl) (by omega) (by unfold maxLen; omega) (by omega) hbase
    have HX := Lib.hid (And.intro hown hg)
    have HL := Lib.hid (show nums (l.take i ++ x :: l.drop i) = nums l ++ [.int .i64 x] by rw [← hln, List.take_length, List.drop_length, nums_snoc])
    obtain ⟨A3, c3, hsl, hsl2⟩ := slice_some (P := Tryz.prog) 71 3 tr Tryz.underlying71 hti A i c i (Nat.le_refl _)
    clear hown hg h hne hvb hln hcap
    go_enter Tryz.func108, Tryz.ntmps108
    go_wp2_with (at_builtin; refine Lib.wpList_append_run _ rfl _ _ _ _ rfl _ _ rfl rfl _ _ (hrun _) ?_)
    go_ret
    exact ⟨some ⟨g, 0, none⟩, cap, rfl, by rw [HL.out]; exact HX.out.1, HX.out.2⟩
  · have hin2 : i < n := by omega
    rcases h.2 with ⟨hv, h0⟩ | ⟨g, cap, cur, hv, hbg, hg, hnc, hcm, hcs, htake⟩
    · omega
    · injection hv with hA1 hA2 hA3
      subst hA1 hA3
      clear hA2
      rw [Nat.mul_one] at hcs htake
      have hgl : g < w.heap.size := (Array.getElem?_eq_some_iff.1 hg).1
      have hi1 : (0 : Int) ≤ (i : Int) := by omega
      have hi2 : (i : Int) ≤ (n : Int) := by omega
      have hi3 : ((i : Int) == (n : Int)) = false := by rw [beq_eq_false_iff_ne]; omega
      by_cases hroom : n + 1 ≤ c
      · have hr1 : ¬ ((c : Int) < (n : Int) + 1) := by omega
        have hc63 : c ≤ 9223372036854775807 := by have := hcm; unfold maxLen at this; omega
        obtain ⟨W1, W2, hov, hcp1, hcp2, hown, hgr⟩ := shift_world w tr hti hz1 g i n c vb cur l x hln hin2 hroom hcm hbg hg hcs htake hvb (fun e => hne (by rw [e]; rfl))
        have HX := Lib.hid (And.intro hown hgr)
        clear hn hown hgr h hne hg hvb htake hcs hln hcap
        go_enter Tryz.func108, Tryz.ntmps108
        go_upto_region 15 with fail
        go_region
        all_goals (
          go_wp2_with fail
          go_ret
          exact ⟨some ⟨g, 0, none⟩, c, rfl, HX.out.1, HX.out.2⟩)
      · have hr1 : (c : Int) < (n : Int) + 1 := by omega
        obtain ⟨W1, W2, W3, G, hrz, hcpA, hcpB, hG1, hG2, hown, hgr⟩ := grow_world w tr hti hz0 hz1 hz2 g i n c vb cur l x hbase hln hin2 hn hnc (by omega) hg htake hvb
        have hG63 : G ≤ 9223372036854775807 := by have := hG2; unfold maxLen at this; omega
        have hc63 : c ≤ 9223372036854775807 := by have := hcm; unfold maxLen at this; omega
        have HX := Lib.hid (And.intro hown (only_row (row := some g) hgr))
        have hgi : ¬ (G = i) := by omega
        have hgi1 : ¬ (G = i + 1) := by omega
        have hci : ¬ (c = i) := by omega
        clear hown hgr h hne hg hvb htake hcs hln hcap
        go_enter Tryz.func108, Tryz.ntmps108
        go_upto_region 11 with (first
          | (at_builtin; refine Lib.wpList_append_run _ rfl _ _ _ _ rfl _ _ rfl rfl _ _ (hrz _) ?_)
          | (at_builtin; refine wpList_copy_runI _ rfl _ _ _ _ rfl _ _ rfl rfl (hcpA _) ?_))
        go_region
        all_goals (
          go_wp2_with fail
          go_ret
          exact ⟨some ⟨w.heap.size, 0, none⟩, G, rfl, HX.out.1, HX.out.2⟩)

end Go.Proofs.YtaalhglooipnaaaGreat.Ii
namespace Go.Proofs.YtaalhglooipnaaaGreat.Fl
namespace P1

/-- The nearest number that may be. -/
def sat (x : Int) : Int := if x > 2147483647 then 2147483647 else if x < -2147483648 then -2147483648 else x
theorem sat_bd (x : Int) : -2147483648 ≤ sat x ∧ sat x ≤ 2147483647 := by unfold sat; split <;> (try split) <;> omega
theorem sat_lo (x : Int) : -2147483648 ≤ sat x := (sat_bd x).1
theorem sat_hi (x : Int) : sat x ≤ 2147483647 := (sat_bd x).2
theorem sat_id {x : Int} (h : -2147483648 ≤ x) (h' : x ≤ 2147483647) : sat x = x := by unfold sat; rw [if_neg (by omega), if_neg (by omega)]
theorem sat_max (x : Int) : max (-2147483648) (min x 2147483647) = sat x := by unfold sat; omega
theorem sat_sat (x : Int) : sat (sat x) = sat x := sat_id (sat_lo x) (sat_hi x)
theorem sat_zero {x : Int} : sat x = 0 ↔ x = 0 := by unfold sat; split <;> (try split) <;> omega

def add (a b : Int) : Int := sat (sat a + sat b)
def sub (a b : Int) : Int := sat (sat a - sat b)
def mul (a b : Int) : Int := sat (sat a * sat b)
/-- The clock's last tick. -/
def later (now d : Int) : Int := min (max 0 (min now 1099511627776) + max 0 (min d 1099511627776)) 1099511627776

theorem mul_bd {a b : Int} (ha : -2147483648 ≤ a) (ha' : a ≤ 2147483647) (hb : -2147483648 ≤ b) (hb' : b ≤ 2147483647) :
    -4611686018427387904 ≤ a * b ∧ a * b ≤ 4611686018427387904 := by
  have h1 : (a + 2147483648) * (b + 2147483648) ≥ 0 := Int.mul_nonneg (by omega) (by omega)
  have h2 : (2147483648 - a) * (2147483648 - b) ≥ 0 := Int.mul_nonneg (by omega) (by omega)
  have h3 : (a + 2147483648) * (2147483648 - b) ≥ 0 := Int.mul_nonneg (by omega) (by omega)
  have h4 : (2147483648 - a) * (b + 2147483648) ≥ 0 := Int.mul_nonneg (by omega) (by omega)
  simp only [Int.add_mul, Int.mul_add, Int.sub_mul, Int.mul_sub] at h1 h2 h3 h4
  omega

/-- The sum of many, one behind the other. -/
def sum (l : List Int) : Int := l.foldl add 0

/-! ### Quotients, downwards -/
/-- Does the quotient that is cut towards nought lie above? -/
def cut (a b : Int) : Prop := a.tmod b ≠ 0 ∧ (a.tmod b < 0 ↔ ¬ b < 0)
instance (a b : Int) : Decidable (cut a b) := by unfold cut; infer_instance
def fq (a b : Int) : Int := if cut a b then a.tdiv b - 1 else a.tdiv b
def fr (a b : Int) : Int := if cut a b then a.tmod b + b else a.tmod b
def div (a b : Int) : Int := if b = 0 then 0 else sat (fq (sat a) (sat b))
def mod (a b : Int) : Int := if b = 0 then 0 else fr (sat a) (sat b)

theorem tdiv_bd {a b : Int} (ha : -2147483648 ≤ a) (ha' : a ≤ 2147483647) : -2147483648 ≤ a.tdiv b ∧ a.tdiv b ≤ 2147483648 := by
  have h : (a.tdiv b).natAbs ≤ a.natAbs := by rw [Int.natAbs_tdiv]; exact Nat.div_le_self _ _
  omega
theorem tmod_bd {a b : Int} (hb : b ≠ 0) : (a.tmod b).natAbs < b.natAbs := by
  rw [Int.natAbs_tmod]; exact Nat.mod_lt _ (by omega)
theorem tmod_sign {a b : Int} : (0 ≤ a → 0 ≤ a.tmod b) ∧ (a ≤ 0 → a.tmod b ≤ 0) := by
  refine ⟨fun h => Int.tmod_nonneg _ h, fun h => ?_⟩
  have := Int.tmod_nonneg b (a := -a) (by omega)
  rw [Int.neg_tmod] at this
  omega
theorem tdiv_eq (a b : Int) : a.tdiv b * b = a - a.tmod b := by
  have := Int.mul_tdiv_add_tmod a b
  rw [Int.mul_comm] at this
  omega

end P1
end Go.Proofs.YtaalhglooipnaaaGreat.Fl
namespace Go.Proofs.YtaalhglooipnaaaGreat.Fl
open Go.RowKit

theorem ret_int {k : IntKind} {a b : Int} (h : a = b) : Ending.returned (.int k a) = .returned (.int k b) := by rw [h]

set_option maxHeartbeats 400000 in
theorem sat_any (x : Int) (w : World) :
    Calls Tryz.prog 106 #[.int .i64 x] w fun e w' => e = .returned (.int .i64 (P1.sat x)) ∧ w = w' := by
  go_enter Tryz.func106, Tryz.ntmps106
  go_wp2
  go_ret
  exact ⟨ret_int (P1.sat_max x), rfl⟩

set_option maxHeartbeats 400000 in
theorem rsat_any (x : Int) (w : World) :
    Calls Tryz.prog 75 #[.int .i64 x] w fun e w' => e = .returned (.int .i64 (P1.sat x)) ∧ w = w' := by
  by_cases h1 : x > 2147483647
  · have e : (2147483647 : Int) = P1.sat x := by unfold P1.sat; omega
    have H := Lib.hid e
    clear e
    go_enter Tryz.func75, Tryz.ntmps75
    go_wp2
    go_ret
    exact ⟨ret_int H.out, rfl⟩
  · by_cases h2 : x < -2147483648
    · have e : (-2147483648 : Int) = P1.sat x := by unfold P1.sat; omega
      have H := Lib.hid e
      clear e
      go_enter Tryz.func75, Tryz.ntmps75
      go_wp2
      go_ret
      exact ⟨ret_int H.out, rfl⟩
    · have e : x = P1.sat x := by unfold P1.sat; omega
      have H := Lib.hid e
      clear e
      go_enter Tryz.func75, Tryz.ntmps75
      go_wp2
      go_ret
      exact ⟨ret_int H.out, rfl⟩

set_option maxHeartbeats 400000 in
theorem add_any (a b : Int) (w : World) :
    Calls Tryz.prog 90 #[.int .i64 a, .int .i64 b] w fun e w' => e = .returned (.int .i64 (P1.add a b)) ∧ w = w' := by
  have h1 := P1.sat_lo a
  have h2 := P1.sat_hi a
  have h3 := P1.sat_lo b
  have h4 := P1.sat_hi b
  go_enter Tryz.func90, Tryz.ntmps90
  go_wp2_with (first | (go_at_call 106; ((with_reducible refine (sat_any _ _).mono ?_); rintro e w' ⟨rfl, rfl⟩)) | (go_at_call 75; ((with_reducible refine (rsat_any _ _).mono ?_); rintro e w' ⟨rfl, rfl⟩)) | (go_at_call 90; ((with_reducible refine (add_any _ _ _).mono ?_); rintro e w' ⟨rfl, rfl⟩)) | (go_at_call 74; ((with_reducible refine (radd_any _ _ _).mono ?_); rintro e w' ⟨rfl, rfl⟩)) | (go_at_call 134; ((with_reducible refine (sub_any _ _ _).mono ?_); rintro e w' ⟨rfl, rfl⟩)) | (go_at_call 78; ((with_reducible refine (rsub_any _ _ _).mono ?_); rintro e w' ⟨rfl, rfl⟩)) | (go_at_call 159; ((with_reducible refine (mul_any _ _ _).mono ?_); rintro e w' ⟨rfl, rfl⟩)) | (go_at_call 80; ((with_reducible refine (rmul_any _ _ _).mono ?_); rintro e w' ⟨rfl, rfl⟩)) )
  go_ret
  exact ⟨rfl, rfl⟩

set_option maxHeartbeats 400000 in
theorem radd_any (a b : Int) (w : World) :
    Calls Tryz.prog 74 #[.int .i64 a, .int .i64 b] w fun e w' => e = .returned (.int .i64 (P1.add a b)) ∧ w = w' := by
  have h1 := P1.sat_lo a
  have h2 := P1.sat_hi a
  have h3 := P1.sat_lo b
  have h4 := P1.sat_hi b
  go_enter Tryz.func74, Tryz.ntmps74
  go_wp2_with (first | (go_at_call 106; ((with_reducible refine (sat_any _ _).mono ?_); rintro e w' ⟨rfl, rfl⟩)) | (go_at_call 75; ((with_reducible refine (rsat_any _ _).mono ?_); rintro e w' ⟨rfl, rfl⟩)) | (go_at_call 90; ((with_reducible refine (add_any _ _ _).mono ?_); rintro e w' ⟨rfl, rfl⟩)) | (go_at_call 74; ((with_reducible refine (radd_any _ _ _).mono ?_); rintro e w' ⟨rfl, rfl⟩)) | (go_at_call 134; ((with_reducible refine (sub_any _ _ _).mono ?_); rintro e w' ⟨rfl, rfl⟩)) | (go_at_call 78; ((with_reducible refine (rsub_any _ _ _).mono ?_); rintro e w' ⟨rfl, rfl⟩)) | (go_at_call 159; ((with_reducible refine (mul_any _ _ _).mono ?_); rintro e w' ⟨rfl, rfl⟩)) | (go_at_call 80; ((with_reducible refine (rmul_any _ _ _).mono ?_); rintro e w' ⟨rfl, rfl⟩)) )
  go_ret
  exact ⟨rfl, rfl⟩

set_option maxHeartbeats 400000 in
theorem sub_any (a b : Int) (w : World) :
    Calls Tryz.prog 134 #[.int .i64 a, .int .i64 b] w fun e w' => e = .returned (.int .i64 (P1.sub a b)) ∧ w = w' := by
  have h1 := P1.sat_lo a
  have h2 := P1.sat_hi a
  have h3 := P1.sat_lo b
  have h4 := P1.sat_hi b
  go_enter Tryz.func134, Tryz.ntmps134
  go_wp2_with (first | (go_at_call 106; ((with_reducible refine (sat_any _ _).mono ?_); rintro e w' ⟨rfl, rfl⟩)) | (go_at_call 75; ((with_reducible refine (rsat_any _ _).mono ?_); rintro e w' ⟨rfl, rfl⟩)) | (go_at_call 90; ((with_reducible refine (add_any _ _ _).mono ?_); rintro e w' ⟨rfl, rfl⟩)) | (go_at_call 74; ((with_reducible refine (radd_any _ _ _).mono ?_); rintro e w' ⟨rfl, rfl⟩)) | (go_at_call 134; ((with_reducible refine (sub_any _ _ _).mono ?_); rintro e w' ⟨rfl, rfl⟩)) | (go_at_call 78; ((with_reducible refine (rsub_any _ _ _).mono ?_); rintro e w' ⟨rfl, rfl⟩)) | (go_at_call 159; ((with_reducible refine (mul_any _ _ _).mono ?_); rintro e w' ⟨rfl, rfl⟩)) | (go_at_call 80; ((with_reducible refine (rmul_any _ _ _).mono ?_); rintro e w' ⟨rfl, rfl⟩)) )
  go_ret
  exact ⟨rfl, rfl⟩

set_option maxHeartbeats 400000 in
theorem rsub_any (a b : Int) (w : World) :
    Calls Tryz.prog 78 #[.int .i64 a, .int .i64 b] w fun e w' => e = .returned (.int .i64 (P1.sub a b)) ∧ w = w' := by
  have h1 := P1.sat_lo a
  have h2 := P1.sat_hi a
  have h3 := P1.sat_lo b
  have h4 := P1.sat_hi b
  go_enter Tryz.func78, Tryz.ntmps78
  go_wp2_with (first | (go_at_call 106; ((with_reducible refine (sat_any _ _).mono ?_); rintro e w' ⟨rfl, rfl⟩)) | (go_at_call 75; ((with_reducible refine (rsat_any _ _).mono ?_); rintro e w' ⟨rfl, rfl⟩)) | (go_at_call 90; ((with_reducible refine (add_any _ _ _).mono ?_); rintro e w' ⟨rfl, rfl⟩)) | (go_at_call 74; ((with_reducible refine (radd_any _ _ _).mono ?_); rintro e w' ⟨rfl, rfl⟩)) | (go_at_call 134; ((with_reducible refine (sub_any _ _ _).mono ?_); rintro e w' ⟨rfl, rfl⟩)) | (go_at_call 78; ((with_reducible refine (rsub_any _ _ _).mono ?_); rintro e w' ⟨rfl, rfl⟩)) | (go_at_call 159; ((with_reducible refine (mul_any _ _ _).mono ?_); rintro e w' ⟨rfl, rfl⟩)) | (go_at_call 80; ((with_reducible refine (rmul_any _ _ _).mono ?_); rintro e w' ⟨rfl, rfl⟩)) )
  go_ret
  exact ⟨rfl, rfl⟩

set_option maxHeartbeats 400000 in
theorem mul_any (a b : Int) (w : World) :
    Calls Tryz.prog 159 #[.int .i64 a, .int .i64 b] w fun e w' => e = .returned (.int .i64 (P1.mul a b)) ∧ w = w' := by
  obtain ⟨h1, h2⟩ := P1.mul_bd (P1.sat_lo a) (P1.sat_hi a) (P1.sat_lo b) (P1.sat_hi b)
  go_enter Tryz.func159, Tryz.ntmps159
  go_wp2_with (first | (go_at_call 106; ((with_reducible refine (sat_any _ _).mono ?_); rintro e w' ⟨rfl, rfl⟩)) | (go_at_call 75; ((with_reducible refine (rsat_any _ _).mono ?_); rintro e w' ⟨rfl, rfl⟩)) | (go_at_call 90; ((with_reducible refine (add_any _ _ _).mono ?_); rintro e w' ⟨rfl, rfl⟩)) | (go_at_call 74; ((with_reducible refine (radd_any _ _ _).mono ?_); rintro e w' ⟨rfl, rfl⟩)) | (go_at_call 134; ((with_reducible refine (sub_any _ _ _).mono ?_); rintro e w' ⟨rfl, rfl⟩)) | (go_at_call 78; ((with_reducible refine (rsub_any _ _ _).mono ?_); rintro e w' ⟨rfl, rfl⟩)) | (go_at_call 159; ((with_reducible refine (mul_any _ _ _).mono ?_); rintro e w' ⟨rfl, rfl⟩)) | (go_at_call 80; ((with_reducible refine (rmul_any _ _ _).mono ?_); rintro e w' ⟨rfl, rfl⟩)) )
  go_ret
  exact ⟨rfl, rfl⟩

set_option maxHeartbeats 400000 in
theorem rmul_any (a b : Int) (w : World) :
    Calls Tryz.prog 80 #[.int .i64 a, .int .i64 b] w fun e w' => e = .returned (.int .i64 (P1.mul a b)) ∧ w = w' := by
  obtain ⟨h1, h2⟩ := P1.mul_bd (P1.sat_lo a) (P1.sat_hi a) (P1.sat_lo b) (P1.sat_hi b)
  go_enter Tryz.func80, Tryz.ntmps80
  go_wp2_with (first | (go_at_call 106; ((with_reducible refine (sat_any _ _).mono ?_); rintro e w' ⟨rfl, rfl⟩)) | (go_at_call 75; ((with_reducible refine (rsat_any _ _).mono ?_); rintro e w' ⟨rfl, rfl⟩)) | (go_at_call 90; ((with_reducible refine (add_any _ _ _).mono ?_); rintro e w' ⟨rfl, rfl⟩)) | (go_at_call 74; ((with_reducible refine (radd_any _ _ _).mono ?_); rintro e w' ⟨rfl, rfl⟩)) | (go_at_call 134; ((with_reducible refine (sub_any _ _ _).mono ?_); rintro e w' ⟨rfl, rfl⟩)) | (go_at_call 78; ((with_reducible refine (rsub_any _ _ _).mono ?_); rintro e w' ⟨rfl, rfl⟩)) | (go_at_call 159; ((with_reducible refine (mul_any _ _ _).mono ?_); rintro e w' ⟨rfl, rfl⟩)) | (go_at_call 80; ((with_reducible refine (rmul_any _ _ _).mono ?_); rintro e w' ⟨rfl, rfl⟩)) )
  go_ret
  exact ⟨rfl, rfl⟩

set_option maxHeartbeats 400000 in
theorem clip_any (x lo hi : Int) (w : World) :
    Calls Tryz.prog 27 #[.int .i64 x, .int .i64 lo, .int .i64 hi] w fun e w' => e = .returned (.int .i64 (max lo (min x hi))) ∧ w = w' := by
  go_enter Tryz.func27, Tryz.ntmps27
  go_wp2
  go_ret
  exact ⟨rfl, rfl⟩

end Go.Proofs.YtaalhglooipnaaaGreat.Fl
namespace Go.Proofs.YtaalhglooipnaaaGreat.Fl
open Go.RowKit

/-- The world after some draws. -/
def Drew (w w' : World) : Prop := ∃ n, w.drewN n = w'
theorem Drew.refl (w : World) : Drew w w := ⟨0, rfl⟩

theorem ret_two {k k' : IntKind} {a b c d : Int} (h : a = b) (h' : c = d) : Ending.returned (.tuple #[.int k a, .int k' c]) = .returned (.tuple #[.int k b, .int k' d]) := by rw [h, h']

theorem cut_yes {a b : Int} (h : (a.tmod b != 0) = true ∧ (!decide (a.tmod b < 0) == decide (b < 0)) = true) : P1.cut a b := by
  unfold P1.cut
  simp only [bne_iff_ne, ne_eq] at h
  refine ⟨h.1, ?_⟩
  have h2 := h.2
  by_cases h3 : a.tmod b < 0 <;> by_cases h4 : b < 0 <;> simp_all
theorem cut_no {a b : Int} (h : (a.tmod b != 0) = false ∨ (!decide (a.tmod b < 0) == decide (b < 0)) = false) : ¬ P1.cut a b := by
  unfold P1.cut
  rintro ⟨h1, h2⟩
  rcases h with h | h
  · simp_all
  · by_cases h3 : a.tmod b < 0 <;> by_cases h4 : b < 0 <;> simp_all

set_option maxHeartbeats 400000 in
theorem floor_any (a b : Int) (w : World) (ha : -2147483648 ≤ a) (ha' : a ≤ 2147483647) (hb : b ≠ 0) (hb1 : -2147483648 ≤ b) (hb2 : b ≤ 2147483647) :
    Calls Tryz.prog 174 #[.int .i64 a, .int .i64 b] w fun e w' => e = .returned (.tuple #[.int .i64 (P1.fq a b), .int .i64 (P1.fr a b)]) ∧ Drew w w' := by
  have q1 := P1.tdiv_bd (b := b) ha ha'
  have r1 := P1.tmod_bd (a := a) hb
  have hw : IntKind.i64.wrap (a.tdiv b) = a.tdiv b := IntWalk.i64_in _ (by omega)
  go_enter Tryz.func174, Tryz.ntmps174
  go_wp2
  go_quiet (fail)
  go_wp2
  · have h : a.tmod b = 0 := by assumption
    go_ret2
    have hc : ¬ P1.cut a b := fun hc => hc.1 h
    exact ⟨ret_two (by rw [P1.fq, if_neg hc]) (by rw [P1.fr, if_neg hc, h]), _, rfl⟩
  · have h : (a.tmod b != 0) = true ∧ (!decide (a.tmod b < 0) == decide (b < 0)) = true := by assumption
    go_ret2
    have hc := cut_yes h
    exact ⟨ret_two (by rw [P1.fq, if_pos hc]) (by rw [P1.fr, if_pos hc]), _, rfl⟩
  · have h : (a.tmod b != 0) = false ∨ (!decide (a.tmod b < 0) == decide (b < 0)) = false := by assumption
    go_ret2
    have hc := cut_no h
    exact ⟨ret_two (by rw [P1.fq, if_neg hc]) (by rw [P1.fr, if_neg hc]), _, rfl⟩

set_option maxHeartbeats 400000 in
theorem div_any (a b : Int) (w : World) :
    Calls Tryz.prog 160 #[.int .i64 a, .int .i64 b] w fun e w' => e = .returned (.int .i64 (P1.div a b)) ∧ Drew w w' := by
  by_cases hb : b = 0
  · subst hb
    go_enter Tryz.func160, Tryz.ntmps160
    go_wp2
    go_ret
    exact ⟨rfl, Drew.refl _⟩
  · have hb' : (b == 0) = false := by simpa using hb
    have hs : P1.sat b ≠ 0 := fun h => hb (P1.sat_zero.1 h)
    have e1 : P1.div a b = P1.sat (P1.fq (P1.sat a) (P1.sat b)) := by unfold P1.div; rw [if_neg hb]
    have H := Lib.hid e1
    clear e1
    go_enter Tryz.func160, Tryz.ntmps160
    go_wp2_with (first | (go_at_call 106; ((with_reducible refine (sat_any _ _).mono ?_); rintro e w' ⟨rfl, rfl⟩)) | (go_at_call 75; ((with_reducible refine (rsat_any _ _).mono ?_); rintro e w' ⟨rfl, rfl⟩)) | (go_at_call 90; ((with_reducible refine (add_any _ _ _).mono ?_); rintro e w' ⟨rfl, rfl⟩)) | (go_at_call 74; ((with_reducible refine (radd_any _ _ _).mono ?_); rintro e w' ⟨rfl, rfl⟩)) | (go_at_call 27; ((with_reducible refine (clip_any _ _ _ _).mono ?_); rintro e w' ⟨rfl, rfl⟩)) | (go_at_call 174; ((with_reducible refine (floor_any _ _ _ (P1.sat_lo _) (P1.sat_hi _) hs (P1.sat_lo _) (P1.sat_hi _)).mono ?_); rintro e w' ⟨rfl, n, rfl⟩)))
    go_ret
    exact ⟨ret_int H.out.symm, _, rfl⟩

end Go.Proofs.YtaalhglooipnaaaGreat.Fl
