/-
  The plain law of a slot: who enters, who leaves.
-/
import Derived.Test.YtkiaaaehakjhjaaSlotLaw2
namespace Go.Proofs.Ytkiaaaehakjhjaa
open Go.RowKit

section
variable {ks : List Kid} {key : ByteArray} {mode : Int}

theorem start_more (h : (ofS ks key mode).start ≠ 0) : more key = true := by
  cases hh : hereS ks key
  · have hp := of_np (mode := mode) hh
    cases hm : more key
    · have := hp.start
      rw [hm] at this
      exact (h (by rw [this]; simp)).elim
    · rfl
  · exact (h (of_hp hh).start).elim
theorem start_012 (ks : List Kid) (key : ByteArray) (mode : Int) : (ofS ks key mode).start = 0 ∨ (ofS ks key mode).start = 1 ∨ (ofS ks key mode).start = 2 := by
  cases hh : hereS ks key
  · have := (of_np (mode := mode) hh).start
    rw [this]
    have := s3_01 ks key
    split
    · split
      · omega
      · omega
    · omega
  · exact .inl (of_hp hh).start
theorem release_len (ks : List Kid) (p : PlanS) : (releaseS ks p).each = p.each := by
  unfold releaseS
  split <;> rfl
theorem of_len (ks : List Kid) (key : ByteArray) (mode : Int) : (ofS ks key mode).each.length = ks.length := by
  rw [ofS, release_len]
  split
  · simp [planA]
  · exact (planC_facts ks key mode).1
theorem of_rel_len (ks : List Kid) (key : ByteArray) (mode : Int) : (ofS ks key mode).rel.length ≤ ks.length := by
  have h := fun (p : PlanS) (hp : p.rel = [] ∨ p.rel = relTo p.each ks ks.length) => show p.rel.length ≤ ks.length by
    rcases hp with h | h
    · rw [h]; simp
    · rw [h]; exact relTo_len _ _ _
  cases hh : hereS ks key
  · exact h _ (np_rel (of_np hh))
  · exact h _ (of_hp hh).rel

/-- OUT-IN: where one enters, no other is there. -/
theorem order1 (h : Right ks) (hs : (ofS ks key 1).start = 1) : (afterS ks key (ofS ks key 1)).length ≤ 1 := by
  have hm : more key = true := start_more (mode := 1) (by rw [hs]; omega)
  cases hh : hereS ks key
  · have hp := of_np (mode := 1) hh
    obtain ⟨p, hpe⟩ : ∃ p, p = ofS ks key 1 := ⟨_, rfl⟩
    rw [← hpe] at hp hs ⊢
    have hst := hp.start
    rw [if_pos hm, hs] at hst
    have h01 := s3_01 ks key
    have hw : wTo ks key 1 ks.length = false := by
      cases hw : wTo ks key 1 ks.length
      · rfl
      · rw [hw] at hst
        split at hst
        · omega
        · rename_i hn
          exact (hn ⟨hst.symm, rfl, rfl⟩).elim
    rw [wTo, Bool.or_eq_false_iff] at hw
    have hkf : ∀ i, i < ks.length → keptB p i = true → (i : Int) = at3 ks key := by
      intro i hi ki
      by_cases hf : (i : Int) = at3 ks key
      · exact hf
      · exfalso
        have he := hp.each i hi
        rw [if_neg (fun h => hf h.2)] at he
        by_cases hc : (i : Int) = cur ks
        · rw [if_pos hc] at he
          have e3' := e3_at ks key 1 i hi
          rw [if_neg hf, if_pos hc] at e3'
          have w := hw.1
          have e : (cur ks).toNat = i := by omega
          rw [w3, e, e3', Bool.and_eq_false_iff] at w
          have hg : goesS (ks.getD i kid0).2 (more key) 1 = 1 ∨ goesS (ks.getD i kid0).2 (more key) 1 = 3 := by
            unfold goesS
            split
            · omega
            · rw [if_neg (fun h => by omega)]; omega
          rcases w with w | w
          · have := of_decide_eq_false w; omega
          · rcases hg with hg | hg
            · rw [hg] at w; cases w
            · rw [keptB, he, hg] at ki; cases ki
        · have hl : ¬ isLive (ks.getD i kid0) := fun hl => hc ((cur_live h i hi).1 hl)
          have hg : ghostB (ks.getD i kid0).2 = true := by
            cases hg : ghostB (ks.getD i kid0).2
            · exact (hl ((live_ghost h (getD_mem hi)).1 hg)).elim
            · rfl
          have w := hw.2
          rw [otherTo, List.any_eq_false] at w
          have := w i (List.mem_range.2 hi)
          rw [hg] at this
          simp [hf] at this
    have hlen : (afterTo ks p ks.length).length ≤ 1 := by
      rw [afterTo, List.length_map]
      exact filter_one fun i j hij hj ⟨a, b⟩ => by
        have := hkf i (by omega) a
        have := hkf j hj b
        omega
    rw [afterS]
    split
    · rename_i ht
      have htk := hp.take
      rw [if_pos hm] at htk
      have hnil : (afterTo ks p ks.length).length = 0 := by
        have : (List.range ks.length).filter (keptB p) = [] := by
          rw [List.filter_eq_nil_iff]
          intro i hi ki
          have := hkf i (List.mem_range.1 hi) ki
          omega
        rw [afterTo, this]; rfl
      rw [List.length_append, hnil]; simp
    · exact hlen
  · have := (of_hp (mode := 1) hh).start
    omega

/-- IN-OUT: where one enters, who was there is not to leave. -/
theorem order2 (h : Right ks) (hs : (ofS ks key 2).start = 1) (c : Nat) (hc : cur ks = c) (k : Kid) (hk : k ∈ afterS ks key (ofS ks key 2)) (h5 : k.2 = 5) : k.1.toList ≠ (ks.getD c kid0).1.toList := by
  have hm : more key = true := start_more (mode := 2) (by rw [hs]; omega)
  cases hh : hereS ks key
  · have hp := of_np (mode := 2) hh
    obtain ⟨p, hpe⟩ : ∃ p, p = ofS ks key 2 := ⟨_, rfl⟩
    rw [← hpe] at hp hs hk
    have hcl : c < ks.length := by
      have := cur_nat' ks (by omega)
      omega
    have hold : k ∈ afterTo ks p ks.length → k.1.toList ≠ (ks.getD c kid0).1.toList := by
      intro hk
      obtain ⟨i, hi, ki, rfl⟩ := afterTo_mem hk
      show (ks.getD i kid0).1.toList ≠ _
      by_cases hic : i = c
      · exfalso
        subst hic
        have hl := (cur_live h i hi).2 hc.symm
        have he := hp.each i hi
        rw [if_neg (fun hf => (at3_ghost h hi hf.2).1 hl), if_pos hc.symm] at he
        have hr : p.rel = [] := by rw [hp.rel, if_pos hs]
        have hnr : ¬ inRel p i = true := by rw [inRel, hr]; simp
        have h5' : kindOf p i (ks.getD i kid0).2 = 5 := h5
        have hg : goesS (ks.getD i kid0).2 (more key) 2 = 2 ∨ goesS (ks.getD i kid0).2 (more key) 2 = 3 := by
          unfold goesS
          split
          · omega
          · rw [if_pos ⟨rfl, hm⟩]; omega
        rcases hg with hg | hg
        · rw [kindOf, if_neg hnr, kind1, he, hg] at h5'
          simp at h5'
        · rw [keptB, he, hg] at ki; cases ki
      · exact (pair_ne h.pair hi hcl hic).1
    rw [afterS] at hk
    split at hk
    · rw [List.mem_append] at hk
      rcases hk with hk | hk
      · exact hold hk
      · rw [List.mem_singleton] at hk
        subst hk
        exfalso
        have h5' : startK p.start = 5 := h5
        rw [hs] at h5'
        cases h5'
    · exact hold hk
  · have := (of_hp (mode := 2) hh).start
    omega
end

end Go.Proofs.Ytkiaaaehakjhjaa
