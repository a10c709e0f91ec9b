/-
  Plain law: what Merge makes.
-/
import Derived.Test.YtgopokoghnfgiaaGroupB
namespace Go.Proofs.Ytgopokoghnfgiaa

section
variable {was live : List Int}
theorem behTo_mem (x : Int) : ∀ k j, x ∈ behTo was live k j ↔ ∃ i, i < k ∧ was.getD i 0 = x ∧ placeF live x = 0 ∧ lastTo was live i = j := by
  intro k
  induction k with
  | zero => intro j; exact ⟨fun h => (by cases h), fun ⟨i, h, _⟩ => (by omega)⟩
  | succ k ih =>
    intro j
    rw [behTo]
    split
    · rename_i h
      rw [List.mem_append, ih, List.mem_singleton]
      constructor
      · rintro (⟨i, h1, h2⟩ | h1)
        · exact ⟨i, by omega, h2⟩
        · exact ⟨k, by omega, h1.symm, by rw [h1]; exact h.1, h.2⟩
      · rintro ⟨i, h1, h2, h3, h4⟩
        by_cases e : i = k
        · subst e; exact .inr h2.symm
        · exact .inl ⟨i, by omega, h2, h3, h4⟩
    · rename_i h
      rw [ih]
      constructor
      · rintro ⟨i, h1, h2⟩; exact ⟨i, by omega, h2⟩
      · rintro ⟨i, h1, h2, h3, h4⟩
        by_cases e : i = k
        · subst e; exact absurd ⟨by rw [h2]; exact h3, h4⟩ h
        · exact ⟨i, by omega, h2, h3, h4⟩
theorem behTo_nodup (hw : was.Nodup) : ∀ k, k ≤ was.length → ∀ j, (behTo was live k j).Nodup := by
  intro k
  induction k with
  | zero => intro _ j; exact List.nodup_nil
  | succ k ih =>
    intro hk j
    rw [behTo]
    split
    · refine List.nodup_append.2 ⟨ih (by omega) j, by simp, ?_⟩
      intro a ha b hb e
      rw [List.mem_singleton] at hb
      subst e
      obtain ⟨i, h1, h2, _⟩ := (behTo_mem a k j).1 ha
      exact getD_ne hw (by omega) (by omega) (by omega : i ≠ k) (h2.trans hb)
    · exact ih (by omega) j
theorem behF_dead {x : Int} {j : Nat} (hl : live.Nodup) (h : x ∈ behF was live j) : x ∉ live := by
  obtain ⟨i, _, _, h3, _⟩ := (behTo_mem x _ _).1 h
  exact fun hm => (placeF_mem hl).2 hm h3
theorem behF_one (hw : was.Nodup) {x : Int} {j j' : Nat} (h : x ∈ behF was live j) (h' : x ∈ behF was live j') : j = j' := by
  obtain ⟨i, h1, h2, _, h4⟩ := (behTo_mem x _ _).1 h
  obtain ⟨i', h1', h2', _, h4'⟩ := (behTo_mem x _ _).1 h'
  have : i = i' := by
    by_cases e : i = i'
    · exact e
    · exact absurd (h2.trans h2'.symm) (getD_ne hw h1 h1' e)
  subst this
  omega
theorem mergeTo_mem (_hl : live.Nodup) (x : Int) : ∀ m, m ≤ live.length → (x ∈ mergeTo was live m ↔ (∃ i, i < m ∧ live.getD i 0 = x) ∨ ∃ j, j ≤ m ∧ x ∈ behF was live j) := by
  intro m
  induction m with
  | zero =>
    intro _
    rw [mergeTo]
    constructor
    · intro h; exact .inr ⟨0, by omega, h⟩
    · rintro (⟨i, h, _⟩ | ⟨j, h, h2⟩)
      · omega
      · obtain rfl : j = 0 := by omega
        exact h2
  | succ m ih =>
    intro hm
    rw [mergeTo, List.mem_append, List.mem_append, ih (by omega), List.mem_singleton]
    constructor
    · rintro (((⟨i, h1, h2⟩ | ⟨j, h1, h2⟩) | h1) | h1)
      · exact .inl ⟨i, by omega, h2⟩
      · exact .inr ⟨j, by omega, h2⟩
      · exact .inl ⟨m, by omega, h1.symm⟩
      · exact .inr ⟨m + 1, by omega, h1⟩
    · rintro (⟨i, h1, h2⟩ | ⟨j, h1, h2⟩)
      · by_cases e : i = m
        · subst e; exact .inl (.inr h2.symm)
        · exact .inl (.inl (.inl ⟨i, by omega, h2⟩))
      · by_cases e : j = m + 1
        · subst e; exact .inr h2
        · exact .inl (.inl (.inr ⟨j, by omega, h2⟩))
theorem mergeTo_nodup (hw : was.Nodup) (hl : live.Nodup) : ∀ m, m ≤ live.length → (mergeTo was live m).Nodup := by
  intro m
  induction m with
  | zero => intro _; exact behTo_nodup hw _ (Nat.le_refl _) 0
  | succ m ih =>
    intro hm
    have hin : live.getD m 0 ∈ live := by
      have e : live.getD m 0 = live[m] := by simp [List.getD, show m < live.length by omega]
      rw [e]; exact List.getElem_mem _
    rw [mergeTo]
    refine List.nodup_append.2 ⟨List.nodup_append.2 ⟨ih (by omega), by simp, ?_⟩, behTo_nodup hw _ (Nat.le_refl _) _, ?_⟩
    · intro a ha b hb e
      rw [List.mem_singleton] at hb
      subst e
      rcases (mergeTo_mem hl a m (by omega)).1 ha with ⟨i, h1, h2⟩ | ⟨j, _, h2⟩
      · exact getD_ne hl (by omega) (by omega) (by omega : i ≠ m) (h2.trans hb)
      · exact behF_dead hl h2 (by rw [hb]; exact hin)
    · intro a ha b hb e
      subst e
      rcases List.mem_append.1 ha with h | h
      · rcases (mergeTo_mem hl a m (by omega)).1 h with ⟨i, h1, h2⟩ | ⟨j, h1, h2⟩
        · refine behF_dead hl hb ?_
          have e : live.getD i 0 = live[i] := by simp [List.getD, show i < live.length by omega]
          rw [← h2, e]; exact List.getElem_mem _
        · have := behF_one hw h2 hb; omega
      · rw [List.mem_singleton] at h
        exact behF_dead hl hb (by rw [h]; exact hin)
theorem mergeS_nodup (hw : was.Nodup) (hl : live.Nodup) : (mergeS was live).Nodup := mergeTo_nodup hw hl _ (Nat.le_refl _)
theorem mergeS_mem (hl : live.Nodup) (x : Int) : x ∈ mergeS was live ↔ x ∈ live ∨ x ∈ was := by
  rw [mergeS, mergeTo_mem hl x _ (Nat.le_refl _)]
  constructor
  · rintro (⟨i, h1, h2⟩ | ⟨j, _, h2⟩)
    · have e : live.getD i 0 = live[i] := by simp [List.getD, h1]
      rw [← h2, e]; exact .inl (List.getElem_mem _)
    · obtain ⟨i, h3, h4, _⟩ := (behTo_mem x _ _).1 h2
      have e : was.getD i 0 = was[i] := by simp [List.getD, h3]
      rw [← h4, e]; exact .inr (List.getElem_mem _)
  · intro h
    by_cases hx : x ∈ live
    · obtain ⟨i, h1, h2⟩ := List.mem_iff_getElem.1 hx
      exact .inl ⟨i, h1, by simp [List.getD, h1, h2]⟩
    · rcases h with h | h
      · exact absurd h hx
      · obtain ⟨i, h1, h2⟩ := List.mem_iff_getElem.1 h
        refine .inr ⟨lastTo was live i, lastTo_le _ _ _, (behTo_mem x _ _).2 ⟨i, h1, by simp [List.getD, h1, h2], ?_, rfl⟩⟩
        have := mt (placeF_mem hl).1 hx
        omega
theorem filter_dead (hl : live.Nodup) (j : Nat) : (behF was live j).filter (fun x => live.contains x) = [] := by
  refine List.filter_eq_nil_iff.2 fun x hx => ?_
  have := behF_dead hl hx
  simpa using this
theorem mergeTo_filter (hl : live.Nodup) : ∀ m, m ≤ live.length → (mergeTo was live m).filter (fun x => live.contains x) = live.take m := by
  intro m
  induction m with
  | zero => intro _; rw [mergeTo, filter_dead hl]; rfl
  | succ m ih =>
    intro hm
    have hin : live.contains (live.getD m 0) = true := by
      have e : live.getD m 0 = live[m] := by simp [List.getD, show m < live.length by omega]
      rw [e, List.contains_iff_mem]; exact List.getElem_mem _
    rw [mergeTo, List.filter_append, List.filter_append, ih (by omega), filter_dead hl, List.append_nil, List.filter_cons, if_pos hin, List.filter_nil, take_snoc live 0 m (by omega)]
theorem mergeS_filter (hl : live.Nodup) : (mergeS was live).filter (fun x => live.contains x) = live := by
  rw [mergeS, mergeTo_filter hl _ (Nat.le_refl _), List.take_length]

/-! ### How many -/
def sB (was live : List Int) (k : Nat) : Nat → Nat
  | 0 => (behTo was live k 0).length
  | m + 1 => sB was live k m + (behTo was live k (m + 1)).length
theorem behTo_grow (k j : Nat) : (behTo was live (k + 1) j).length ≤ (behTo was live k j).length + (if lastTo was live k = j then 1 else 0) := by
  rw [behTo]
  split
  · rename_i h; rw [if_pos h.2]; simp
  · omega
theorem sB_grow (k m : Nat) : sB was live (k + 1) m ≤ sB was live k m + (if lastTo was live k ≤ m then 1 else 0) := by
  induction m with
  | zero =>
    have := behTo_grow (was := was) (live := live) k 0
    rw [sB, sB]
    by_cases h : lastTo was live k = 0
    · rw [if_pos h] at this; rw [if_pos (by omega)]; exact this
    · rw [if_neg h] at this; omega
  | succ m ih =>
    have := behTo_grow (was := was) (live := live) k (m + 1)
    rw [sB, sB]
    by_cases h : lastTo was live k = m + 1
    · rw [if_pos h] at this
      rw [if_neg (by omega)] at ih
      rw [if_pos (by omega)]; omega
    · rw [if_neg h] at this
      by_cases h2 : lastTo was live k ≤ m
      · rw [if_pos h2] at ih; rw [if_pos (by omega)]; omega
      · rw [if_neg h2] at ih; omega
theorem sB_zero (m : Nat) : sB was live 0 m = 0 := by
  induction m with
  | zero => rfl
  | succ m ih => rw [sB, ih]; rfl
theorem sB_le (k m : Nat) : sB was live k m ≤ k := by
  induction k with
  | zero => rw [sB_zero]; omega
  | succ k ih =>
    have := sB_grow (was := was) (live := live) k m
    split at this <;> omega
theorem mergeTo_count (m : Nat) : (mergeTo was live m).length = m + sB was live was.length m := by
  induction m with
  | zero => rw [mergeTo, sB, behF]; omega
  | succ m ih =>
    rw [mergeTo, List.length_append, List.length_append, ih, sB, behF]
    simp only [List.length_cons, List.length_nil]
    omega
theorem mergeS_len : (mergeS was live).length ≤ was.length + live.length := by
  have := sB_le (was := was) (live := live) was.length live.length
  rw [mergeS, mergeTo_count]; omega

/-! ### Who is near -/
def nearL (alive l : List Int) (o : Int) : Int := l.foldl (fun o x => if alive.contains x = true then x else o) o
theorem nearTo_fold (l alive : List Int) (k : Nat) (h : k ≤ l.length) : nearTo l alive k = nearL alive (l.take k) (-1) := by
  induction k with
  | zero => rfl
  | succ k ih =>
    rw [nearTo, take_snoc l 0 k (by omega), nearL, List.foldl_append]
    show _ = if alive.contains (l.getD k 0) = true then l.getD k 0 else nearL alive (l.take k) (-1)
    rw [ih (by omega)]
theorem nearL_dead {alive l : List Int} (h : ∀ x ∈ l, x ∉ alive) (o : Int) : nearL alive l o = o := by
  induction l generalizing o with
  | nil => rfl
  | cons a l ih =>
    rw [nearL, List.foldl_cons, if_neg (by simpa using h a (by simp))]
    exact ih (fun x hx => h x (by simp [hx])) o
theorem nearL_app (alive l m : List Int) (o : Int) : nearL alive (l ++ m) o = nearL alive m (nearL alive l o) := by rw [nearL, List.foldl_append]; rfl
/-- The one of live that has the place j (0: none). -/
def liveAt (live : List Int) (j : Nat) : Int := if j = 0 then -1 else live.getD (j - 1) 0
theorem near_merge (hl : live.Nodup) : ∀ m, m ≤ live.length → nearL live (mergeTo was live m) (-1) = liveAt live m := by
  intro m
  induction m with
  | zero => intro _; exact nearL_dead (fun x hx => behF_dead hl hx) _
  | succ m ih =>
    intro hm
    have hin : live.contains (live.getD m 0) = true := by
      have e : live.getD m 0 = live[m] := by simp [List.getD, show m < live.length by omega]
      rw [e, List.contains_iff_mem]; exact List.getElem_mem _
    rw [mergeTo, nearL_app, nearL_app, nearL_dead (fun x hx => behF_dead hl hx)]
    show (if live.contains (live.getD m 0) = true then live.getD m 0 else _) = _
    rw [if_pos hin, liveAt, if_neg (by omega)]
    rfl
/-- Ahead of a ghost in what was. -/
theorem near_was (hl : live.Nodup) (k : Nat) (h : k ≤ was.length) : nearTo was live k = liveAt live (lastTo was live k) := by
  induction k with
  | zero => rfl
  | succ k ih =>
    rw [nearTo, lastTo]
    by_cases hp : placeF live (was.getD k 0) = 0
    · rw [if_pos hp, if_neg (by rw [List.contains_iff_mem]; exact fun hm => (placeF_mem hl).2 hm hp)]
      exact ih (by omega)
    · obtain ⟨i, h1, h2, h3⟩ := placeF_pos hp
      rw [if_neg hp, if_pos (by rw [List.contains_iff_mem]; exact (placeF_mem hl).1 hp), h1, liveAt, if_neg (by omega)]
      exact h3.symm
/-- The parts of what Merge makes ahead of a ghost, and behind. -/
theorem merge_split (x : Int) (j : Nat) (hx : x ∈ behF was live j) : ∀ m, j ≤ m → m ≤ live.length → ∃ pre post, mergeTo was live m = pre ++ x :: post ∧ (live.Nodup → nearL live pre (-1) = liveAt live j) := by
  intro m hj hm
  obtain ⟨p, q, hpq⟩ := List.append_of_mem hx
  have hdead : live.Nodup → ∀ y ∈ p, y ∉ live := fun hl y hy => behF_dead (was := was) hl (show y ∈ behF was live j by rw [hpq]; simp [hy])
  have base : ∃ pre post, mergeTo was live j = pre ++ x :: post ∧ (live.Nodup → nearL live pre (-1) = liveAt live j) := by
    cases j with
    | zero => exact ⟨p, q, hpq, fun hl => nearL_dead (hdead hl) _⟩
    | succ j =>
      refine ⟨mergeTo was live j ++ [live.getD j 0] ++ p, q, by rw [mergeTo, hpq]; simp, fun hl => ?_⟩
      have := near_merge (was := was) hl (j + 1) (by omega)
      rw [mergeTo, nearL_app, nearL_dead (fun y hy => behF_dead hl hy)] at this
      rw [nearL_app, nearL_dead (hdead hl)]
      exact this
  obtain ⟨pre, post, h1, h2⟩ := base
  clear hdead hpq
  induction m with
  | zero => obtain rfl : j = 0 := by omega
            exact ⟨pre, post, h1, h2⟩
  | succ m ih =>
    by_cases e : j = m + 1
    · subst e; exact ⟨pre, post, h1, h2⟩
    · obtain ⟨pre', post', h3, h4⟩ := ih (by omega) (by omega)
      exact ⟨pre', post' ++ ([live.getD m 0] ++ behF was live (m + 1)), by rw [mergeTo, h3]; simp, h4⟩
theorem isNear_at {l alive : List Int} {id r : Int} {k : Nat} (hn : l.Nodup) (hk : k < l.length) (hid : l.getD k 0 = id) (h : IsNear l alive id r) : r = nearTo l alive k := by
  rcases h with ⟨k', h1, h2, h3, h4⟩ | ⟨h1, _⟩
  · have : k' = k := by
      by_cases e : k' = k
      · exact e
      · exact absurd (h2.trans hid.symm) (getD_ne hn h1 hk e)
    rw [h4, this]
  · exact absurd hid (h1 k hk)
/-- WHO GOES STANDS BEHIND THE SAME ONE. -/
theorem near_same (hw : was.Nodup) (hl : live.Nodup) {id r r' : Int} (hin : id ∈ was) (hd : id ∉ live) (h : IsNear was live id r) (h' : IsNear (mergeS was live) live id r') : r = r' := by
  obtain ⟨k, h1, h2⟩ := List.mem_iff_getElem.1 hin
  have h3 : was.getD k 0 = id := by simp [List.getD, h1, h2]
  have hb : id ∈ behF was live (lastTo was live k) := (behTo_mem id _ _).2 ⟨k, h1, h3, by have := mt (placeF_mem hl).1 hd; omega, rfl⟩
  obtain ⟨pre, post, h4, h5⟩ := merge_split id _ hb live.length (lastTo_le _ _ _) (Nat.le_refl _)
  have e1 := isNear_at hw h1 h3 h
  have hlen : pre.length < (mergeS was live).length := by rw [mergeS, h4]; simp
  have hid : (mergeS was live).getD pre.length 0 = id := by rw [mergeS, h4]; simp [List.getD]
  have e2 := isNear_at (mergeS_nodup hw hl) hlen hid h'
  rw [e1, e2, near_was hl k (by omega), nearTo_fold _ _ _ (by omega)]
  have e3 : (mergeS was live).take pre.length = pre := by rw [mergeS, h4]; simp
  rw [e3, h5 hl]
end

end Go.Proofs.Ytgopokoghnfgiaa
