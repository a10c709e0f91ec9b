/-
  The plain law: the document's steps towards a plan make the same plan as slot's.
-/
import Derived.Test.YtkiaaaehakjhjaaSlotOf
namespace Go.Proofs.Ytkiaaaehakjhjaa
open Go.RowKit

def at3 (ks : List Kid) (key : ByteArray) : Int := firstAt (same key) ks
def e3 (ks : List Kid) (key : ByteArray) (mode : Int) : List Int := if at3 ks key < 0 then (planB ks key mode).each else (planB ks key mode).each.set (at3 ks key).toNat 4
def s3 (ks : List Kid) (key : ByteArray) : Int := if 0 ≤ at3 ks key ∧ (ks.getD (at3 ks key).toNat kid0).2 = 4 then 0 else 1
def w3 (ks : List Kid) (key : ByteArray) (mode : Int) : Bool := decide (0 ≤ cur ks) && ((e3 ks key mode).getD (cur ks).toNat 0 == 1)
def otherTo (ks : List Kid) (key : ByteArray) (k : Nat) : Bool := (List.range k).any fun i => ghostB (ks.getD i kid0).2 && !decide ((i : Int) = at3 ks key)
def wTo (ks : List Kid) (key : ByteArray) (mode : Int) (k : Nat) : Bool := w3 ks key mode || otherTo ks key k
theorem wTo_succ (ks : List Kid) (key : ByteArray) (mode : Int) (k : Nat) : wTo ks key mode (k + 1) = (wTo ks key mode k || (ghostB (ks.getD k kid0).2 && !decide ((k : Int) = at3 ks key))) := by
  rw [wTo, wTo, otherTo, otherTo, List.range_succ, List.any_append, Bool.or_assoc]
  simp

theorem cur_cases (ks : List Kid) : cur ks = -2 ∨ ∃ k : Nat, k < ks.length ∧ cur ks = k ∧ ghostB (ks.getD k kid0).2 = false := by
  unfold cur
  rcases firstAt_cases live ks with ⟨h1, _⟩ | ⟨k, h0, h1, h2, _⟩
  · left; rw [h1]; rfl
  · right
    refine ⟨k, h0, by rw [h1, if_neg (by omega)], by simpa [live] using h2⟩
theorem at3_cases (ks : List Kid) (key : ByteArray) : at3 ks key = -1 ∨ ∃ k : Nat, k < ks.length ∧ at3 ks key = k ∧ ghostB (ks.getD k kid0).2 = true := by
  unfold at3
  rcases firstAt_cases (same key) ks with ⟨h1, _⟩ | ⟨k, h0, h1, h2, _⟩
  · exact .inl h1
  · right
    refine ⟨k, h0, h1, ?_⟩
    rw [same, Bool.and_eq_true] at h2
    exact h2.1

theorem cur_nat' (ks : List Kid) (h : 0 ≤ cur ks) : (cur ks).toNat < ks.length := by
  rcases cur_cases ks with h1 | ⟨k, hk, h1, _⟩
  · omega
  · omega

theorem planB_at (ks : List Kid) (key : ByteArray) (mode : Int) (i : Nat) (hi : i < ks.length) : (planB ks key mode).each.getD i 0 = if (i : Int) = cur ks then goesS (ks.getD i kid0).2 (more key) mode else 0 := by
  unfold planB
  rcases cur_cases ks with h | ⟨k, hk, h, _⟩
  · rw [h]
    simp [planA, List.getD, hi]
  · rw [h, if_pos (by omega)]
    by_cases hik : i = k
    · subst hik
      simp [planA, List.getD, hi]
    · have : ¬ (i : Int) = (k : Int) := by omega
      rw [if_neg this]
      simp [planA, List.getD, hi, Ne.symm hik]
theorem e3_at (ks : List Kid) (key : ByteArray) (mode : Int) (i : Nat) (hi : i < ks.length) : (e3 ks key mode).getD i 0 = if (i : Int) = at3 ks key then 4 else if (i : Int) = cur ks then goesS (ks.getD i kid0).2 (more key) mode else 0 := by
  rw [← planB_at ks key mode i hi]
  unfold e3
  have hl := (planB_facts ks key mode).1
  rcases at3_cases ks key with h | ⟨k, hk, h, _⟩
  · rw [h, if_pos (by omega), if_neg (by omega)]
  · rw [h, if_neg (by omega)]
    by_cases hik : i = k
    · subst hik
      rw [if_pos rfl]
      simp [List.getD, hl, hi]
    · have : ¬ (i : Int) = (k : Int) := by omega
      rw [if_neg this]
      simp [List.getD, Ne.symm hik]
theorem e3_len (ks : List Kid) (key : ByteArray) (mode : Int) : (e3 ks key mode).length = ks.length := by
  unfold e3
  split
  · exact (planB_facts ks key mode).1
  · rw [List.length_set]; exact (planB_facts ks key mode).1

theorem others_same (ks : List Kid) (key : ByteArray) (mode : Int) : othersS (e3 ks key mode) ks = wTo ks key mode ks.length := by
  rw [Bool.eq_iff_iff, othersS, wTo, w3, otherTo, Bool.or_eq_true, Bool.and_eq_true, List.any_eq_true, List.any_eq_true]
  constructor
  · rintro ⟨i, hi, h⟩
    have hi := List.mem_range.1 hi
    rw [otherB, Bool.or_eq_true, Bool.and_eq_true] at h
    rcases h with h | ⟨h1, h2⟩
    · left
      have h : (e3 ks key mode).getD i 0 = 1 := by simpa using h
      have h' := h
      rw [e3_at ks key mode i hi] at h'
      split at h'
      · omega
      · split at h'
        · rename_i hc
          have e : (cur ks).toNat = i := by omega
          exact ⟨by rw [decide_eq_true_iff]; omega, by rw [e, h]; rfl⟩
        · omega
    · right
      refine ⟨i, List.mem_range.2 hi, ?_⟩
      rw [Bool.and_eq_true]
      refine ⟨h1, ?_⟩
      have h2 : (e3 ks key mode).getD i 0 = 0 := by simpa using h2
      rw [e3_at ks key mode i hi] at h2
      split at h2
      · omega
      · rename_i hne; simp [hne]
  · rintro (⟨h1, h2⟩ | ⟨i, hi, h⟩)
    · rw [decide_eq_true_iff] at h1
      refine ⟨(cur ks).toNat, List.mem_range.2 (cur_nat' ks h1), ?_⟩
      rw [otherB, h2]; rfl
    · have hi' := List.mem_range.1 hi
      rw [Bool.and_eq_true] at h
      obtain ⟨h1, h2⟩ := h
      have h2 : ¬ (i : Int) = at3 ks key := by simpa using h2
      refine ⟨i, hi, ?_⟩
      have hc : ¬ (i : Int) = cur ks := by
        intro hc
        rcases cur_cases ks with h | ⟨k, hk, h, hg⟩
        · omega
        · have : i = k := by omega
          rw [this, hg] at h1
          cases h1
      have he := e3_at ks key mode i hi'
      rw [if_neg h2, if_neg hc] at he
      rw [otherB, he, h1]; rfl

theorem planC_ref (ks : List Kid) (key : ByteArray) (mode : Int) (hm : more key = true) :
    planC ks key mode = ⟨e3 ks key mode, at3 ks key, if s3 ks key = 1 ∧ mode = 1 ∧ wTo ks key mode ks.length = true then 2 else s3 ks key, []⟩ := by
  obtain ⟨_, h2, _, h4⟩ := planB_facts ks key mode
  rw [planC, if_pos hm, comeS, ← others_same]
  have hE : e3 ks key mode = if at3 ks key < 0 then (planB ks key mode).each else (planB ks key mode).each.set (at3 ks key).toNat 4 := rfl
  have hS : s3 ks key = if 0 ≤ at3 ks key ∧ (ks.getD (at3 ks key).toNat kid0).2 = 4 then 0 else 1 := rfl
  show (if at3 ks key < 0 then _ else _) = _
  rcases at3_cases ks key with h | ⟨k, hk, h, hg⟩
  · rw [h, if_neg (by omega)] at hS
    rw [h, if_pos (by omega)] at hE
    rw [if_pos (by omega), hS, hE, h2, h]
    simp [startS]
  · rw [if_neg (by omega)]
    rw [if_neg (by omega)] at hE
    show (if (ks.getD (at3 ks key).toNat kid0).2 = 4 then _ else _) = _
    by_cases h4' : (ks.getD (at3 ks key).toNat kid0).2 = 4
    · rw [if_pos ⟨by omega, h4'⟩] at hS
      rw [if_pos h4', hS, hE, h2, h4]
      simp [at3]
    · rw [if_neg (fun h => h4' h.2)] at hS
      rw [if_neg h4', hS, hE, h2]
      simp [startS, at3]

theorem quiet_C (ks : List Kid) (key : ByteArray) (mode : Int) (hm : more key = true) : quietS (planC ks key mode) ks = ((planC ks key mode).start == 1) := by
  rw [planC_ref ks key mode hm, quietS]
  simp only
  have hz : (decide (0 ≤ at3 ks key) && ((e3 ks key mode).getD (at3 ks key).toNat 0 == 0 && entB (ks.getD (at3 ks key).toNat kid0).2)) = false := by
    rcases at3_cases ks key with h | ⟨k, hk, h, hg⟩
    · rw [h]; rfl
    · have he := e3_at ks key mode k hk
      rw [if_pos h.symm] at he
      rw [h]
      have e : ((k : Nat) : Int).toNat = k := by omega
      rw [e, he]
      simp
  rw [hz, Bool.or_false]
theorem quiet_B (ks : List Kid) (key : ByteArray) (mode : Int) : quietS (planB ks key mode) ks = false := by
  obtain ⟨_, _, h3, h4⟩ := planB_facts ks key mode
  rw [quietS, h3, h4]; rfl
theorem quiet_A (ks : List Kid) (h : 0 ≤ cur ks) : quietS { planA ks.length with take := cur ks } ks = entB (ks.getD (cur ks).toNat kid0).2 := by
  have := cur_nat' ks h
  rw [quietS]
  simp [planA, List.getD, this, h]

/-- The last step of the search from behind. -/
def Last (ks : List Kid) (key : ByteArray) (j : Nat) (tk : Int) : Prop :=
  (tk = -1 ∧ ∀ i, j ≤ i → i < ks.length → same key (ks.getD i kid0) = false) ∨
  (∃ k : Nat, j ≤ k ∧ k < ks.length ∧ tk = k ∧ same key (ks.getD k kid0) = true ∧ ∀ i, j ≤ i → i < k → same key (ks.getD i kid0) = false)
theorem Last.start (ks : List Kid) (key : ByteArray) : Last ks key ks.length (-1) := .inl ⟨rfl, fun i h1 h2 => by omega⟩
theorem Last.yes {ks : List Kid} {key : ByteArray} {j : Nat} {tk : Int} (_h : Last ks key (j + 1) tk) (hj : j < ks.length) (hs : same key (ks.getD j kid0) = true) : Last ks key j j := .inr ⟨j, Nat.le_refl _, hj, rfl, hs, fun i h1 h2 => by omega⟩
theorem Last.no {ks : List Kid} {key : ByteArray} {j : Nat} {tk : Int} (h : Last ks key (j + 1) tk) (hs : same key (ks.getD j kid0) = false) : Last ks key j tk := by
  rcases h with ⟨h1, h2⟩ | ⟨k, h0, h1, h2, h3, h4⟩
  · exact .inl ⟨h1, fun i h3 h4 => if e : i = j then by rw [e]; exact hs else h2 i (by omega) h4⟩
  · exact .inr ⟨k, by omega, h1, h2, h3, fun i h5 h6 => if e : i = j then by rw [e]; exact hs else h4 i (by omega) h6⟩
theorem Last.done {ks : List Kid} {key : ByteArray} {tk : Int} (h : Last ks key 0 tk) : tk = at3 ks key := by
  rcases h with ⟨h1, h2⟩ | ⟨k, h0, h1, h2, h3, h4⟩
  · rw [h1, at3, firstAt_none (fun j hj => h2 j (Nat.zero_le _) hj)]
  · rw [h2, at3, firstAt_some h1 h3 (fun j hj => h4 j (Nat.zero_le _) hj)]

end Go.Proofs.Ytkiaaaehakjhjaa
