/-
  The plain law of a slot: behind a plan it is a slot again, whose current one is the one that is to be there.
-/
import Derived.Test.YtkiaaaehakjhjaaSlotLaw
namespace Go.Proofs.Ytkiaaaehakjhjaa
open Go.RowKit

section
variable {ks : List Kid} {key : ByteArray} {mode : Int} {p : PlanS}

theorem startK_le (s : Int) : 0 ≤ startK s ∧ startK s ≤ 2 := by
  unfold startK
  split
  · omega
  · split <;> omega
theorem s3_01 (ks : List Kid) (key : ByteArray) : s3 ks key = 0 ∨ s3 ks key = 1 := by
  unfold s3
  split
  · exact .inl rfl
  · exact .inr rfl
theorem goes_123 (t : Int) (m : Bool) (mode : Int) : goesS t m mode = 1 ∨ goesS t m mode = 2 ∨ goesS t m mode = 3 := by
  unfold goesS
  split
  · omega
  · split <;> omega

theorem in_rel (hr : p.rel = [] ∨ p.rel = relTo p.each ks ks.length) (i : Nat) (hi : i < ks.length) (h : inRel p i = true) : relB p.each ks i = true := by
  rcases hr with hr | hr
  · rw [inRel, hr] at h; cases h
  · rw [← inRel_iff p ks i hi hr]; exact h
theorem np_rel (hp : Np ks key mode p) : p.rel = [] ∨ p.rel = relTo p.each ks ks.length := by
  rw [hp.rel]
  split
  · exact .inl rfl
  · exact .inr rfl

/-- What one of them is then. -/
theorem np_kid (h : Right ks) (hp : Np ks key mode p) (i : Nat) (hi : i < ks.length) (hk : keptB p i = true) :
    (more key = true ∧ (i : Int) = at3 ks key ∧ kindOf p i (ks.getD i kid0).2 = startK p.start) ∨
    (¬ (more key = true ∧ (i : Int) = at3 ks key) ∧ 4 ≤ kindOf p i (ks.getD i kid0).2 ∧ kindOf p i (ks.getD i kid0).2 ≤ 6) := by
  have he := hp.each i hi
  by_cases hf : more key = true ∧ (i : Int) = at3 ks key
  · left
    rw [if_pos hf] at he
    refine ⟨hf.1, hf.2, ?_⟩
    have hnr : ¬ inRel p i = true := fun hr => by
      have := in_rel (np_rel hp) i hi hr
      rw [relB, he] at this
      simp at this
    rw [kindOf, if_neg hnr, kind1, he]; simp
  · right
    rw [if_neg hf] at he
    refine ⟨hf, ?_⟩
    unfold kindOf
    split
    · omega
    · by_cases hc : (i : Int) = cur ks
      · rw [if_pos hc] at he
        rcases goes_123 (ks.getD i kid0).2 (more key) mode with h1 | h1 | h1
        · rw [kind1, he, h1]; simp
        · rw [kind1, he, h1]; simp
        · rw [keptB, he, h1] at hk; cases hk
      · rw [if_neg hc] at he
        have hl : ¬ isLive (ks.getD i kid0) := fun hl => hc ((cur_live h i hi).1 hl)
        have hr := (h.kind _ (getD_mem hi)).2
        unfold isLive at hl
        rw [kind1, he]
        simp only [show ¬ (0 : Int) = 1 by omega, show ¬ (0 : Int) = 2 by omega, show ¬ (0 : Int) = 4 by omega, if_false]
        omega

theorem afterTo_mem {k : Kid} (hk : k ∈ afterTo ks p ks.length) : ∃ i, i < ks.length ∧ keptB p i = true ∧ k = kidTo ks p i := by
  rw [afterTo, List.mem_map] at hk
  obtain ⟨i, hi, rfl⟩ := hk
  rw [List.mem_filter] at hi
  exact ⟨i, List.mem_range.1 hi.1, hi.2, rfl⟩
theorem afterTo_in (i : Nat) (hi : i < ks.length) (hk : keptB p i = true) : kidTo ks p i ∈ afterTo ks p ks.length :=
  List.mem_map.2 ⟨i, List.mem_filter.2 ⟨List.mem_range.2 hi, hk⟩, rfl⟩
theorem afterTo_pair (hp : ∀ i j, i < j → j < ks.length → keptB p i = true → keptB p j = true → Rk (kidTo ks p i) (kidTo ks p j)) : (afterTo ks p ks.length).Pairwise Rk := by
  rw [afterTo, List.pairwise_map]
  have h : ((List.range ks.length).filter (keptB p)).Pairwise (· < ·) := List.Pairwise.filter _ List.pairwise_lt_range
  refine List.Pairwise.imp_of_mem ?_ h
  intro i j hi hj hij
  rw [List.mem_filter] at hi hj
  exact hp i j hij (List.mem_range.1 hj.1) hi.2 hj.2

/-- A slot whose current one is the one of a key, or none is to be there. -/
structure Of1 (key : ByteArray) (y : List Kid) : Prop where
  right : Right y
  keys : ∀ k ∈ y, isLive k → k.1.toList = key.toList ∧ more key = true
  some : more key = true → ∃ k ∈ y, isLive k

theorem np_of1 (h : Right ks) (hp : Np ks key mode p) : Of1 key (afterS ks key p) := by
  have hrk : ∀ i j, i < j → j < ks.length → keptB p i = true → keptB p j = true → Rk (kidTo ks p i) (kidTo ks p j) := by
    intro i j hij hj ki kj
    have hR := pair_at h.pair hij hj
    refine ⟨hR.1, ?_⟩
    rintro ⟨l1, l2⟩
    unfold isLive kidTo at l1 l2
    rcases np_kid h hp i (by omega) ki with ⟨_, a, _⟩ | ⟨_, a, _⟩
    · rcases np_kid h hp j hj kj with ⟨_, b, _⟩ | ⟨_, b, _⟩
      · omega
      · simp only at l2; omega
    · simp only at l1; omega
  have hkind : ∀ k ∈ afterTo ks p ks.length, 0 ≤ k.2 ∧ k.2 ≤ 6 := by
    intro k hk
    obtain ⟨i, hi, ki, rfl⟩ := afterTo_mem hk
    show 0 ≤ kindOf p i (ks.getD i kid0).2 ∧ kindOf p i (ks.getD i kid0).2 ≤ 6
    rcases np_kid h hp i hi ki with ⟨_, _, a⟩ | ⟨_, a, b⟩
    · have := startK_le p.start; omega
    · omega
  have hlive : ∀ k ∈ afterTo ks p ks.length, isLive k → more key = true ∧ k.1.toList = key.toList ∧ 0 ≤ at3 ks key := by
    intro k hk hl
    obtain ⟨i, hi, ki, rfl⟩ := afterTo_mem hk
    rcases np_kid h hp i hi ki with ⟨a, b, _⟩ | ⟨_, a, _⟩
    · exact ⟨a, (at3_ghost h hi b).2, by omega⟩
    · unfold isLive kidTo at hl; simp only at hl; omega
  have htake := hp.take
  by_cases hm : more key = true
  · rw [if_pos hm] at htake
    rcases at3_cases ks key with hf | ⟨k, hk, hf, hg⟩
    · have hS : afterS ks key p = afterTo ks p ks.length ++ [(key, startK p.start)] := by rw [afterS, if_pos (by omega)]
      have hnew : isLive (key, startK p.start) := by have := startK_le p.start; unfold isLive; simp only; omega
      have hnk : ∀ k ∈ afterTo ks p ks.length, k.1.toList ≠ key.toList := by
        intro k hk
        obtain ⟨i, hi, ki, rfl⟩ := afterTo_mem hk
        show (ks.getD i kid0).1.toList ≠ key.toList
        by_cases hc : (i : Int) = cur ks
        · intro he
          have hn := hp.nh
          have e : (cur ks).toNat = i := by omega
          rw [hereS, hm, e, he] at hn
          simp at hn
          omega
        · have hl : ¬ isLive (ks.getD i kid0) := fun hl => hc ((cur_live h i hi).1 hl)
          have hg : ghostB (ks.getD i kid0).2 = true := by
            cases hg : ghostB (ks.getD i kid0).2
            · exact (hl ((live_ghost h (getD_mem hi)).1 hg)).elim
            · rfl
          exact at3_none hi hf hg
      refine ⟨⟨?_, ?_⟩, ?_, fun _ => ⟨_, by rw [hS]; simp, hnew⟩⟩
      · intro k hk
        rw [hS, List.mem_append] at hk
        rcases hk with hk | hk
        · exact hkind k hk
        · rw [List.mem_singleton] at hk
          subst hk
          have := startK_le p.start; simp only; omega
      · rw [hS, List.pairwise_append]
        refine ⟨afterTo_pair hrk, List.pairwise_singleton _ _, ?_⟩
        intro a ha b hb
        rw [List.mem_singleton] at hb
        subst hb
        exact ⟨hnk a ha, fun ⟨l1, _⟩ => by have := (hlive a ha l1).2.2; omega⟩
      · intro k hk hl
        rw [hS, List.mem_append] at hk
        rcases hk with hk | hk
        · exact ⟨(hlive k hk hl).2.1, hm⟩
        · rw [List.mem_singleton] at hk
          subst hk
          exact ⟨rfl, hm⟩
    · have hS : afterS ks key p = afterTo ks p ks.length := by rw [afterS, if_neg (by omega)]
      rw [hS]
      refine ⟨⟨hkind, afterTo_pair hrk⟩, fun k hk hl => ⟨(hlive k hk hl).2.1, hm⟩, fun _ => ?_⟩
      have he := hp.each k hk
      rw [if_pos ⟨hm, hf.symm⟩] at he
      have ki : keptB p k = true := by rw [keptB, he]; rfl
      refine ⟨_, afterTo_in k hk ki, ?_⟩
      rcases np_kid h hp k hk ki with ⟨_, _, a⟩ | ⟨a, _, _⟩
      · unfold isLive kidTo; simp only; rw [a]; have := startK_le p.start; omega
      · exact (a ⟨hm, hf.symm⟩).elim
  · rw [if_neg hm] at htake
    have hS : afterS ks key p = afterTo ks p ks.length := by rw [afterS, if_neg (by omega)]
    rw [hS]
    exact ⟨⟨hkind, afterTo_pair hrk⟩, fun k hk hl => ⟨(hlive k hk hl).2.1, (hlive k hk hl).1⟩, fun h => (hm h).elim⟩

/-- The plan of the current one's key. -/
structure Hp (ks : List Kid) (key : ByteArray) (p : PlanS) : Prop where
  here : hereS ks key = true
  each : ∀ i, i < ks.length → p.each.getD i 0 = 0
  take : p.take = cur ks
  start : p.start = 0
  rel : p.rel = [] ∨ p.rel = relTo p.each ks ks.length
theorem of_hp (hn : hereS ks key = true) : Hp ks key (ofS ks key mode) := by
  have ho : ofS ks key mode = releaseS ks { planA ks.length with take := cur ks } := by rw [ofS, if_pos hn]
  rw [ho, releaseS]
  split
  · exact ⟨hn, fun i hi => by simp [planA, List.getD, hi], rfl, rfl, .inl rfl⟩
  · exact ⟨hn, fun i hi => by simp [planA, List.getD, hi], rfl, rfl, .inr rfl⟩
theorem hp_kid (hp : Hp ks key p) (i : Nat) (hi : i < ks.length) : kindOf p i (ks.getD i kid0).2 = (ks.getD i kid0).2 ∨ ((ks.getD i kid0).2 = 4 ∧ kindOf p i (ks.getD i kid0).2 = 6) := by
  have he := hp.each i hi
  unfold kindOf
  split
  · rename_i hr
    have := in_rel hp.rel i hi hr
    rw [relB, he] at this
    right
    exact ⟨by simpa using this, rfl⟩
  · left
    rw [kind1, he]; simp
theorem hp_kept (hp : Hp ks key p) (i : Nat) (hi : i < ks.length) : keptB p i = true := by rw [keptB, hp.each i hi]; rfl
theorem hp_live (hp : Hp ks key p) (i : Nat) (hi : i < ks.length) : isLive (kidTo ks p i) ↔ isLive (ks.getD i kid0) := by
  unfold isLive kidTo
  simp only
  rcases hp_kid hp i hi with a | ⟨a, b⟩
  · rw [a]
  · rw [a, a] at *; omega
theorem hp_of1 (h : Right ks) (hp : Hp ks key p) : Of1 key (afterS ks key p) := by
  have hh := hp.here
  rw [hereS, Bool.and_eq_true, Bool.and_eq_true, decide_eq_true_iff] at hh
  obtain ⟨c0, hm, hkey⟩ := hh
  have hc := cur_nat' ks c0
  have hS : afterS ks key p = afterTo ks p ks.length := by rw [afterS, if_neg (by rw [hp.take]; omega)]
  rw [hS]
  refine ⟨⟨?_, afterTo_pair ?_⟩, ?_, fun _ => ⟨_, afterTo_in _ hc (hp_kept hp _ hc), (hp_live hp _ hc).2 ((cur_live h _ hc).2 (by omega))⟩⟩
  · intro k hk
    obtain ⟨i, hi, _, rfl⟩ := afterTo_mem hk
    have := h.kind _ (getD_mem hi)
    show 0 ≤ kindOf p i (ks.getD i kid0).2 ∧ kindOf p i (ks.getD i kid0).2 ≤ 6
    rcases hp_kid hp i hi with a | ⟨a, b⟩
    · rw [a]; exact this
    · rw [b]; omega
  · intro i j hij hj _ _
    have hR := pair_at h.pair hij hj
    exact ⟨hR.1, fun ⟨a, b⟩ => hR.2 ⟨(hp_live hp i (by omega)).1 a, (hp_live hp j hj).1 b⟩⟩
  · intro k hk hl
    obtain ⟨i, hi, _, rfl⟩ := afterTo_mem hk
    have hl' := (cur_live h i hi).1 ((hp_live hp i hi).1 hl)
    have e : (cur ks).toNat = i := by omega
    rw [e] at hkey
    have hk2 : (ks.getD i kid0).1.toList = key.toList := by simpa using hkey
    exact ⟨hk2, hm⟩

theorem of_of1 (h : Right ks) : Of1 key (afterS ks key (ofS ks key mode)) := by
  cases hh : hereS ks key
  · exact np_of1 h (of_np hh)
  · exact hp_of1 h (of_hp hh)
theorem Of1.cur {y : List Kid} (h : Of1 key y) : (more key = true ∧ ∃ i, i < y.length ∧ cur y = i ∧ (y.getD i kid0).1.toList = key.toList) ∨ (more key = false ∧ cur y = -2) := by
  cases hm : more key
  · right
    refine ⟨rfl, ?_⟩
    rcases cur_cases y with h1 | ⟨k, hk, h1, hg⟩
    · exact h1
    · have := (h.keys _ (getD_mem hk) ((live_ghost h.right (getD_mem hk)).1 hg)).2
      rw [hm] at this; cases this
  · left
    refine ⟨rfl, ?_⟩
    rcases cur_cases y with h1 | ⟨k, hk, h1, hg⟩
    · obtain ⟨a, ha, hl⟩ := h.some hm
      obtain ⟨i, hi, rfl⟩ := mem_getD ha
      have := (cur_live h.right i hi).1 hl
      omega
    · exact ⟨k, hk, h1, (h.keys _ (getD_mem hk) ((live_ghost h.right (getD_mem hk)).1 hg)).1⟩
end

end Go.Proofs.Ytkiaaaehakjhjaa
