/-
  The plain law of a slot: what is behind a plan is a slot again.
-/
import Derived.Test.YtkiaaaehakjhjaaSlotSame
import Derived.Test.YtkiaaaehakjhjaaSlotAfter
import Derived.Test.YtkiaaaehakjhjaaSlotRight
namespace Go.Proofs.Ytkiaaaehakjhjaa
open Go.RowKit

theorem getD_get {ks : List Kid} {i : Nat} (h : i < ks.length) : ks.getD i kid0 = ks[i] := by simp [List.getD, h]
theorem getD_mem {ks : List Kid} {i : Nat} (h : i < ks.length) : ks.getD i kid0 ∈ ks := by
  rw [getD_get h]
  exact List.getElem_mem h
theorem mem_getD {ks : List Kid} {k : Kid} (h : k ∈ ks) : ∃ i, i < ks.length ∧ ks.getD i kid0 = k := by
  obtain ⟨i, hi, he⟩ := List.getElem_of_mem h
  exact ⟨i, hi, by rw [getD_get hi, he]⟩

def isLive (k : Kid) : Prop := k.2 < 4
/-- Two of a slot: their keys differ, not both live. -/
def Rk (a b : Kid) : Prop := a.1.toList ≠ b.1.toList ∧ ¬ (isLive a ∧ isLive b)
/-- A slot as it can be. -/
structure Right (ks : List Kid) : Prop where
  kind : ∀ k ∈ ks, 0 ≤ k.2 ∧ k.2 ≤ 6
  pair : ks.Pairwise Rk

theorem pair_at {ks : List Kid} (h : ks.Pairwise Rk) {i j : Nat} (hij : i < j) (hj : j < ks.length) : Rk (ks.getD i kid0) (ks.getD j kid0) := by
  rw [getD_get (by omega : i < ks.length), getD_get hj]
  exact List.pairwise_iff_getElem.1 h i j (by omega) hj hij
theorem pair_of {ks : List Kid} (h : ∀ i j, i < j → j < ks.length → Rk (ks.getD i kid0) (ks.getD j kid0)) : ks.Pairwise Rk := by
  rw [List.pairwise_iff_getElem]
  intro i j hi hj hij
  have := h i j hij hj
  rwa [getD_get hi, getD_get hj] at this
theorem Rk.symm {a b : Kid} (h : Rk a b) : Rk b a := ⟨h.1.symm, fun ⟨h1, h2⟩ => h.2 ⟨h2, h1⟩⟩
theorem pair_ne {ks : List Kid} (h : ks.Pairwise Rk) {i j : Nat} (hi : i < ks.length) (hj : j < ks.length) (hne : i ≠ j) : Rk (ks.getD i kid0) (ks.getD j kid0) := by
  rcases Nat.lt_or_gt_of_ne hne with h1 | h1
  · exact pair_at h h1 hj
  · exact (pair_at h h1 hi).symm

/-- Of a filtered range no two: at most one. -/
theorem filter_one {p : Nat → Bool} {n : Nat} (h : ∀ i j, i < j → j < n → ¬ (p i = true ∧ p j = true)) : ((List.range n).filter p).length ≤ 1 := by
  have hp : ((List.range n).filter p).Pairwise (· < ·) := List.Pairwise.filter p List.pairwise_lt_range
  match hl : (List.range n).filter p with
  | [] => simp
  | [_] => simp
  | a :: b :: l =>
    rw [hl] at hp
    have ha : a ∈ (List.range n).filter p := by rw [hl]; simp
    have hb : b ∈ (List.range n).filter p := by rw [hl]; simp
    have hab : a < b := by
      have := List.rel_of_pairwise_cons hp (a' := b) (by simp)
      exact this
    rw [List.mem_filter] at ha hb
    exact (h a b hab (List.mem_range.1 hb.1) ⟨ha.2, hb.2⟩).elim
theorem two_filter {p : Nat → Bool} {n i j : Nat} (h : ((List.range n).filter p).length ≤ 1) (hij : i < j) (hj : j < n) (hi2 : p i = true) (hj2 : p j = true) : False := by
  have h1 : i ∈ (List.range n).filter p := List.mem_filter.2 ⟨List.mem_range.2 (by omega), hi2⟩
  have h2 : j ∈ (List.range n).filter p := List.mem_filter.2 ⟨List.mem_range.2 hj, hj2⟩
  match hl : (List.range n).filter p with
  | [] => rw [hl] at h1; cases h1
  | [x] =>
    rw [hl] at h1 h2
    simp at h1 h2
    omega
  | _ :: _ :: _ => rw [hl] at h; simp at h

theorem right_iff (ks : List Kid) : rightS ks = true ↔ Right ks := by
  rw [rightS, Bool.and_eq_true, List.all_eq_true, decide_eq_true_iff]
  constructor
  · rintro ⟨h1, h2⟩
    have hat : ∀ i, i < ks.length → 0 ≤ (ks.getD i kid0).2 ∧ (ks.getD i kid0).2 ≤ 6 ∧ (List.range i).any (dupB ks i) = false := by
      intro i hi
      have := h1 i (List.mem_range.2 hi)
      rw [okAt, Bool.and_eq_true, Bool.and_eq_true, decide_eq_true_iff, decide_eq_true_iff] at this
      exact ⟨this.1, this.2.1, by simpa using this.2.2⟩
    refine ⟨fun k hk => ?_, pair_of fun i j hij hj => ⟨?_, ?_⟩⟩
    · obtain ⟨i, hi, rfl⟩ := mem_getD hk
      exact ⟨(hat i hi).1, (hat i hi).2.1⟩
    · have := (hat j hj).2.2
      rw [List.any_eq_false] at this
      have := this i (List.mem_range.2 hij)
      intro he
      apply this
      rw [dupB, he]; simp
    · rintro ⟨a1, a2⟩
      exact two_filter (p := liveB ks) h2 hij hj (by rw [liveB, decide_eq_true_iff]; exact a1) (by rw [liveB, decide_eq_true_iff]; exact a2)
  · intro h
    refine ⟨fun i hi => ?_, ?_⟩
    · have hi := List.mem_range.1 hi
      have hk := h.kind _ (getD_mem hi)
      rw [okAt, Bool.and_eq_true, Bool.and_eq_true, decide_eq_true_iff, decide_eq_true_iff]
      refine ⟨hk.1, hk.2, ?_⟩
      have : (List.range i).any (dupB ks i) = false := by
        rw [List.any_eq_false]
        intro j hj
        have := (pair_at h.pair (List.mem_range.1 hj) hi).1
        rw [dupB]
        simpa using this
      rw [this]; rfl
    · refine filter_one fun i j hij hj ⟨a1, a2⟩ => ?_
      rw [liveB, decide_eq_true_iff] at a1 a2
      exact (pair_at h.pair hij hj).2 ⟨a1, a2⟩

theorem live_ghost {ks : List Kid} (h : Right ks) {k : Kid} (hk : k ∈ ks) : ghostB k.2 = false ↔ isLive k := by
  have := h.kind k hk
  unfold isLive
  constructor
  · intro hg
    simp only [ghostB, Bool.or_eq_false_iff, beq_eq_false_iff_ne] at hg
    omega
  · intro hl
    simp only [ghostB, Bool.or_eq_false_iff, beq_eq_false_iff_ne]
    omega


/-! ### What a plan does to a slot -/
section
variable {ks : List Kid} {key : ByteArray} {mode : Int}
theorem cur_live (h : Right ks) (i : Nat) (hi : i < ks.length) : isLive (ks.getD i kid0) ↔ (i : Int) = cur ks := by
  constructor
  · intro hl
    have hg := (live_ghost h (getD_mem hi)).2 hl
    unfold cur
    rcases firstAt_cases live ks with ⟨_, h2⟩ | ⟨k, h0, h1, h2, h3⟩
    · have := h2 i hi
      rw [live, hg] at this
      cases this
    · rw [h1, if_neg (by omega)]
      have hk : isLive (ks.getD k kid0) := (live_ghost h (getD_mem h0)).1 (by simpa [live] using h2)
      by_cases hik : i = k
      · rw [hik]
      · exact ((pair_ne h.pair hi h0 hik).2 ⟨hl, hk⟩).elim
  · intro hc
    rcases cur_cases ks with h1 | ⟨k, hk, h1, hg⟩
    · omega
    · obtain rfl : i = k := by omega
      exact (live_ghost h (getD_mem hi)).1 hg
theorem at3_ghost (h : Right ks) {i : Nat} (hi : i < ks.length) (hf : (i : Int) = at3 ks key) : ¬ isLive (ks.getD i kid0) ∧ (ks.getD i kid0).1.toList = key.toList := by
  rw [at3] at hf
  rcases firstAt_cases (same key) ks with ⟨h1, _⟩ | ⟨k, h0, h1, h2, _⟩
  · omega
  · obtain rfl : i = k := by omega
    rw [same, Bool.and_eq_true] at h2
    refine ⟨fun hl => ?_, by simpa using h2.2⟩
    have := (live_ghost h (getD_mem hi)).2 hl
    rw [h2.1] at this
    cases this
theorem at3_none {i : Nat} (hi : i < ks.length) (hf : at3 ks key = -1) (hg : ghostB (ks.getD i kid0).2 = true) : (ks.getD i kid0).1.toList ≠ key.toList := by
  rw [at3] at hf
  rcases firstAt_cases (same key) ks with ⟨_, h2⟩ | ⟨k, h0, h1, _, _⟩
  · have := h2 i hi
    rw [same, hg] at this
    simpa using this
  · omega

/-- The plan of a key that is not the current one's: its parts. -/
structure Np (ks : List Kid) (key : ByteArray) (mode : Int) (p : PlanS) : Prop where
  nh : hereS ks key = false
  each : ∀ i, i < ks.length → p.each.getD i 0 = if more key = true ∧ (i : Int) = at3 ks key then 4 else if (i : Int) = cur ks then goesS (ks.getD i kid0).2 (more key) mode else 0
  take : p.take = if more key = true then at3 ks key else -2
  start : p.start = if more key = true then (if s3 ks key = 1 ∧ mode = 1 ∧ wTo ks key mode ks.length = true then 2 else s3 ks key) else 0
  rel : p.rel = if p.start = 1 then [] else relTo p.each ks ks.length

theorem relTo_each (p : PlanS) (k : Nat) : relTo p.each ks k = ((List.range k).filter (relB p.each ks)).map fun (i : Nat) => (i : Int) := rfl
theorem of_np (hn : hereS ks key = false) : Np ks key mode (ofS ks key mode) := by
  have ho : ofS ks key mode = releaseS ks (planC ks key mode) := by rw [ofS, hn]; rfl
  by_cases hm : more key = true
  · have hq := quiet_C ks key mode hm
    have hC := planC_ref ks key mode hm
    have he : (ofS ks key mode).each = e3 ks key mode ∧ (ofS ks key mode).take = at3 ks key ∧ (ofS ks key mode).start = (planC ks key mode).start ∧ (ofS ks key mode).rel = if (planC ks key mode).start = 1 then [] else relTo (e3 ks key mode) ks ks.length := by
      rw [ho, releaseS, hq]
      by_cases h1 : (planC ks key mode).start = 1
      · rw [if_pos (by simpa using h1), if_pos h1]
        rw [hC]; exact ⟨rfl, rfl, rfl, rfl⟩
      · rw [if_neg (by simpa using h1), if_neg h1]
        rw [hC]; exact ⟨rfl, rfl, rfl, rfl⟩
    refine ⟨hn, fun i hi => ?_, ?_, ?_, ?_⟩
    · rw [he.1, e3_at ks key mode i hi]
      by_cases h : (i : Int) = at3 ks key
      · rw [if_pos h, if_pos ⟨hm, h⟩]
      · rw [if_neg h, if_neg (c := more key = true ∧ (i : Int) = at3 ks key) (fun h' => h h'.2)]
    · rw [he.2.1, if_pos hm]
    · rw [he.2.2.1, if_pos hm, hC]
    · rw [he.2.2.2, he.2.2.1, he.1]
  · have hB : planC ks key mode = planB ks key mode := by rw [planC, if_neg hm]
    obtain ⟨f1, f2, f3, f4⟩ := planB_facts ks key mode
    have he : ofS ks key mode = { planB ks key mode with rel := (planB ks key mode).rel ++ relTo (planB ks key mode).each ks ks.length } := by
      rw [ho, hB, releaseS, quiet_B, if_neg (by simp)]
    refine ⟨hn, fun i hi => ?_, ?_, ?_, ?_⟩
    · rw [he]
      show (planB ks key mode).each.getD i 0 = _
      rw [planB_at ks key mode i hi, if_neg (c := more key = true ∧ (i : Int) = at3 ks key) (fun h => hm h.1)]
    · rw [he, if_neg hm]; exact f3
    · rw [he, if_neg hm]; exact f4
    · rw [he]
      show (planB ks key mode).rel ++ _ = if (planB ks key mode).start = 1 then _ else _
      rw [f4, f2, if_neg (by omega)]; rfl

theorem inRel_iff (p : PlanS) (ks : List Kid) (i : Nat) (hi : i < ks.length) (hr : p.rel = relTo p.each ks ks.length) : inRel p i = relB p.each ks i := by
  rw [inRel, hr, relTo, List.any_map]
  cases h : relB p.each ks i
  · rw [List.any_eq_false]
    intro j hj
    rw [List.mem_filter] at hj
    intro he
    have : (j : Int) = (i : Int) := by simpa using he
    have : j = i := by omega
    rw [this, h] at hj
    cases hj.2
  · rw [List.any_eq_true]
    exact ⟨i, List.mem_filter.2 ⟨List.mem_range.2 hi, h⟩, by simp⟩
end

end Go.Proofs.Ytkiaaaehakjhjaa
