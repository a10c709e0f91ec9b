/-
  The plain law of ScrimWoven: the lists that it makes; those that go stand behind the nearest one ahead of them that stays.
-/
import Derived.Test.YtgopokoghnfgiaaMatchOpen
import Derived.Test.YtgopokoghnfgiaaWeaveP
import Derived.Test.YtgopokoghnfgiaaWovF
namespace Go.Proofs.Ytgopokoghnfgiaa

theorem pairTo_take' (old fresh : List Kid) (k i : Nat) (h : i ≤ k) : (pairTo old fresh k).take i = pairTo old fresh i := by
  induction k with
  | zero => obtain rfl : i = 0 := by omega
            rfl
  | succ k ih =>
    by_cases e : i = k + 1
    · subst e
      rw [List.take_of_length_le (by rw [pairTo_len]; omega)]
    · rw [pairTo, List.take_append_of_le_length (by rw [pairTo_len]; omega)]
      exact ih (by omega)
/-- What pairing answers: places of old ones, each once; or -1. -/
structure Prl (n : Nat) (l : List Int) : Prop where
  at_ : ∀ i, i < l.length → l.getD i 0 = -1 ∨ ∃ j : Nat, l.getD i 0 = (j : Nat) ∧ j < n
  one : ∀ i i', i < i' → i' < l.length → l.getD i 0 = l.getD i' 0 → l.getD i 0 = -1
theorem prl_pair (old fresh : List Kid) : Prl old.length (pairS old fresh) := by
  have hf : ∀ i, i < fresh.length → (pairS old fresh).getD i 0 = -1 ∨ ∃ j : Nat, (pairS old fresh).getD i 0 = (j : Nat) ∧ j < old.length ∧ (j : Int) ∉ (pairS old fresh).take i := by
    intro i h
    have e : (pairS old fresh).take i = pairTo old fresh i := by rw [pairS, pairTo_take' _ _ _ _ (by omega)]
    rw [e, pairS, pairTo_pre _ _ _ _ h]
    rcases pick_cases old fresh i with h1 | ⟨j, h1, h2, h3, h4⟩
    · exact .inl h1
    · exact .inr ⟨j, h2, h1, h4⟩
  refine ⟨fun i hi => ?_, fun i i' hi hi' he => ?_⟩
  · rw [pairS_len] at hi
    rcases hf i hi with h | ⟨j, h1, h2, _⟩
    · exact .inl h
    · exact .inr ⟨j, h1, h2⟩
  · have hl := hi'
    rw [pairS_len] at hi'
    rcases hf i' hi' with h | ⟨j, h1, h2, h3⟩
    · rw [he, h]
    · exfalso
      apply h3
      rw [← h1, ← he]
      refine (mem_getD _ _).2 ⟨i, by rw [List.length_take]; omega, ?_⟩
      simp [List.getD, hi]

def wasS (n : Nat) : List Int := (List.range n).map fun (j : Nat) => (j : Int)
theorem wasS_len (n : Nat) : (wasS n).length = n := by simp [wasS]
theorem wasS_at {n i : Nat} (h : i < n) : (wasS n).getD i 0 = (i : Int) := by simp [wasS, List.getD, h]
theorem wasS_succ (n : Nat) : wasS (n + 1) = wasS n ++ [(n : Int)] := by simp [wasS, List.range_succ]
theorem wasS_mem (n : Nat) (x : Int) : x ∈ wasS n ↔ ∃ j : Nat, x = (j : Int) ∧ j < n := by
  rw [wasS, List.mem_map]
  constructor
  · rintro ⟨j, h1, h2⟩; exact ⟨j, h2.symm, List.mem_range.1 h1⟩
  · rintro ⟨j, h1, h2⟩; exact ⟨j, List.mem_range.2 h2, h1.symm⟩
theorem wasS_nodup (n : Nat) : (wasS n).Nodup := by
  induction n with
  | zero => exact List.nodup_nil
  | succ n ih =>
    rw [wasS_succ]
    refine List.nodup_append.2 ⟨ih, by simp, ?_⟩
    intro a ha b hb e
    obtain ⟨j, rfl, hj⟩ := (wasS_mem n a).1 ha
    rw [List.mem_singleton] at hb
    omega
def liveAtI (l : List Int) (i : Nat) : Int := if l.getD i 0 < 0 then 100 + (i : Int) else l.getD i 0
def liveTo (l : List Int) (k : Nat) : List Int := (List.range k).map (liveAtI l)
theorem liveTo_succ (l : List Int) (k : Nat) : liveTo l (k + 1) = liveTo l k ++ [liveAtI l k] := by simp [liveTo, List.range_succ]
theorem liveTo_len (l : List Int) (k : Nat) : (liveTo l k).length = k := by simp [liveTo]
def stayTo (l : List Int) (k : Nat) : List Int := (l.take k).filter fun x => !decide (x < 0)
theorem stayTo_neg (l : List Int) (k : Nat) (h : k < l.length) (hx : l.getD k 0 < 0) : stayTo l (k + 1) = stayTo l k := by
  rw [stayTo, take_snoc l 0 k h, List.filter_append, stayTo]
  simp only [List.filter_cons, List.filter_nil, hx, decide_true, Bool.not_true, Bool.false_eq_true, if_false, List.append_nil]
theorem stayTo_pos (l : List Int) (k : Nat) (h : k < l.length) (hx : ¬ l.getD k 0 < 0) : stayTo l (k + 1) = stayTo l k ++ [l.getD k 0] := by
  rw [stayTo, take_snoc l 0 k h, List.filter_append, stayTo]
  simp only [List.filter_cons, List.filter_nil, hx, decide_false, Bool.not_false, if_true]
theorem stayTo_le (l : List Int) (k : Nat) : (stayTo l k).length ≤ k := Nat.le_trans (List.length_filter_le _ _) (by simp; omega)

section
variable {n : Nat} {l : List Int}
theorem live_mem (x : Int) : x ∈ liveTo l l.length ↔ ∃ i, i < l.length ∧ x = liveAtI l i := by
  rw [liveTo, List.mem_map]
  constructor
  · rintro ⟨j, h1, h2⟩; exact ⟨j, List.mem_range.1 h1, h2.symm⟩
  · rintro ⟨j, h1, h2⟩; exact ⟨j, List.mem_range.2 h1, h2.symm⟩
theorem stay_mem (x : Int) : x ∈ stayTo l l.length ↔ x ∈ l ∧ 0 ≤ x := by
  rw [stayTo, List.take_length, List.mem_filter]
  simp
theorem live_nodup (h : Prl n l) (hn : n ≤ 100) : (liveTo l l.length).Nodup := by
  rw [liveTo, List.Nodup, List.pairwise_map]
  refine List.Pairwise.imp_of_mem ?_ (List.pairwise_lt_range (n := l.length))
  intro i j hi hj hij e
  have hj := List.mem_range.1 hj
  have hi := List.mem_range.1 hi
  rw [liveAtI, liveAtI] at e
  rcases h.at_ i hi with h1 | ⟨a, h1, h1n⟩
  · rw [if_pos (by omega)] at e
    rcases h.at_ j hj with h2 | ⟨b, h2, h2n⟩
    · rw [if_pos (by omega)] at e; omega
    · rw [if_neg (by omega)] at e; omega
  · rw [if_neg (by omega)] at e
    rcases h.at_ j hj with h2 | ⟨b, h2, h2n⟩
    · rw [if_pos (by omega)] at e; omega
    · rw [if_neg (by omega)] at e
      have := h.one i j hij hj e
      omega
theorem stay_nodup (h : Prl n l) : (stayTo l l.length).Nodup := by
  rw [stayTo, List.take_length]
  have h1 : l.Pairwise fun a b => a = b → a = -1 := by
    rw [List.pairwise_iff_getElem]
    intro i j hi hj hij e
    have := h.one i j hij hj (by simp [List.getD, hi, hj, e])
    simpa [List.getD, hi] using this
  refine List.Pairwise.imp_of_mem ?_ (h1.filter _)
  intro a b ha _ hab e
  have := (List.mem_filter.1 ha).2
  have h2 := hab e
  rw [h2] at this
  simp at this
/-- Of live, those that were there are those that stay. -/
theorem live_stay (h : Prl n l) (hn : n ≤ 100) (x : Int) : x ∈ stayTo l l.length ↔ x ∈ liveTo l l.length ∧ x < 100 := by
  rw [stay_mem, live_mem, mem_getD]
  constructor
  · rintro ⟨⟨i, hi, e⟩, hx⟩
    refine ⟨⟨i, hi, ?_⟩, ?_⟩
    · rw [liveAtI, if_neg (by omega), e]
    · rcases h.at_ i hi with h1 | ⟨a, h1, h2⟩ <;> omega
  · rintro ⟨⟨i, hi, e⟩, hx⟩
    rw [liveAtI] at e
    split at e
    · omega
    · exact ⟨⟨i, hi, e.symm⟩, by omega⟩
theorem live_was (h : Prl n l) (hn : n ≤ 100) (x : Int) (hx : x ∈ liveTo l l.length) : x < 100 ↔ x ∈ wasS n := by
  constructor
  · intro h100
    obtain ⟨⟨h1, h2⟩⟩ := And.intro ((stay_mem x).1 ((live_stay h hn x).2 ⟨hx, h100⟩)) trivial
    obtain ⟨i, hi, e⟩ := (mem_getD l x).1 h1
    rcases h.at_ i hi with h3 | ⟨a, h3, h4⟩
    · omega
    · exact (wasS_mem n x).2 ⟨a, by omega, h4⟩
  · intro hw
    obtain ⟨j, h1, h2⟩ := (wasS_mem n x).1 hw
    omega
theorem live_bd (h : Prl n l) (hn : n ≤ 100) (hl : l.length ≤ 100) (x : Int) (hx : x ∈ liveTo l l.length) : 0 ≤ x ∧ x < 200 := by
  obtain ⟨i, hi, e⟩ := (live_mem x).1 hx
  rw [liveAtI] at e
  rcases h.at_ i hi with h3 | ⟨a, h3, h4⟩
  · rw [if_pos (by omega)] at e; omega
  · rw [if_neg (by omega)] at e; omega
abbrev toL (n : Nat) (l : List Int) : List Int := mergeS (wasS n) (liveTo l l.length)
theorem to_mem (h : Prl n l) (hn : n ≤ 100) (x : Int) : x ∈ toL n l ↔ x ∈ liveTo l l.length ∨ x ∈ wasS n := mergeS_mem (live_nodup h hn) x
theorem to_nodup (h : Prl n l) (hn : n ≤ 100) : (toL n l).Nodup := mergeS_nodup (wasS_nodup n) (live_nodup h hn)
theorem to_was (h : Prl n l) (hn : n ≤ 100) (x : Int) (hx : x ∈ toL n l) : x < 100 ↔ x ∈ wasS n := by
  rcases (to_mem h hn x).1 hx with h1 | h1
  · exact live_was h hn x h1
  · obtain ⟨j, h2, h3⟩ := (wasS_mem n x).1 h1
    exact ⟨fun _ => h1, fun _ => by omega⟩
theorem to_bd (h : Prl n l) (hn : n ≤ 100) (hl : l.length ≤ 100) (x : Int) (hx : x ∈ toL n l) : 0 ≤ x ∧ x < 200 := by
  rcases (to_mem h hn x).1 hx with h1 | h1
  · exact live_bd h hn hl x h1
  · obtain ⟨j, h2, h3⟩ := (wasS_mem n x).1 h1
    omega
theorem filter_two {α : Type} (p : α → Bool) (l : List α) : (l.filter p).length + (l.filter fun x => !p x).length = l.length := by
  induction l with
  | nil => rfl
  | cons x l ih =>
    rw [List.filter_cons, List.filter_cons]
    cases h : p x <;> simp <;> omega
theorem was_stay (h : Prl n l) (hn : n ≤ 100) : ((wasS n).filter fun x => (liveTo l l.length).contains x).length = (stayTo l l.length).length := by
  refine Nat.le_antisymm ?_ ?_
  · refine nodup_len _ _ ((wasS_nodup n).sublist List.filter_sublist) fun x hx => ?_
    obtain ⟨h1, h2⟩ := List.mem_filter.1 hx
    have h2 : x ∈ liveTo l l.length := by simpa using h2
    exact (live_stay h hn x).2 ⟨h2, (live_was h hn x h2).2 h1⟩
  · refine nodup_len _ _ (stay_nodup h) fun x hx => ?_
    obtain ⟨h1, h2⟩ := (live_stay h hn x).1 hx
    exact List.mem_filter.2 ⟨(live_was h hn x h1).1 h2, by simpa using h1⟩
theorem to_len (h : Prl n l) (hn : n ≤ 100) : (toL n l).length + (stayTo l l.length).length = n + l.length := by
  have h1 := filter_two (fun x => (liveTo l l.length).contains x) (toL n l)
  have h2 := filter_two (fun x => (liveTo l l.length).contains x) (wasS n)
  have h3 : ((toL n l).filter fun x => (liveTo l l.length).contains x) = liveTo l l.length := mergeS_filter (live_nodup h hn)
  have h4 : ((toL n l).filter fun x => !(liveTo l l.length).contains x).length = ((wasS n).filter fun x => !(liveTo l l.length).contains x).length := by
    refine Nat.le_antisymm ?_ ?_
    · refine nodup_len _ _ ((to_nodup h hn).sublist List.filter_sublist) fun x hx => ?_
      obtain ⟨h1, h2⟩ := List.mem_filter.1 hx
      refine List.mem_filter.2 ⟨?_, h2⟩
      rcases (to_mem h hn x).1 h1 with h5 | h5
      · simp [h5] at h2
      · exact h5
    · refine nodup_len _ _ ((wasS_nodup n).sublist List.filter_sublist) fun x hx => ?_
      obtain ⟨h1, h2⟩ := List.mem_filter.1 hx
      exact List.mem_filter.2 ⟨(to_mem h hn x).2 (.inr h1), h2⟩
  have h5 := was_stay h hn
  rw [h3, liveTo_len] at h1
  rw [wasS_len] at h2
  omega
theorem gone_mem (x : Int) : x ∈ goneTo l n ↔ ∃ j : Nat, x = (j : Int) ∧ j < n ∧ x ∉ l := by
  rw [goneTo, List.mem_map]
  constructor
  · rintro ⟨j, h1, h2⟩
    obtain ⟨h3, h4⟩ := List.mem_filter.1 h1
    refine ⟨j, h2.symm, List.mem_range.1 h3, ?_⟩
    rw [← h2]
    simpa using h4
  · rintro ⟨j, h1, h2, h3⟩
    refine ⟨j, List.mem_filter.2 ⟨List.mem_range.2 h2, ?_⟩, h1.symm⟩
    rw [h1] at h3
    simpa using h3
theorem dead_iff (h : Prl n l) (hn : n ≤ 100) (j : Nat) (hj : j < n) : (j : Int) ∉ l ↔ (j : Int) ∉ liveTo l l.length := by
  have h1 := live_stay h hn (j : Int)
  rw [stay_mem] at h1
  constructor
  · intro h2 h3
    exact h2 (h1.2 ⟨h3, by omega⟩).1
  · intro h2 h3
    exact h2 (h1.1 ⟨h3, by omega⟩).1
theorem gone_len (h : Prl n l) (hn : n ≤ 100) : (goneTo l n).length + (stayTo l l.length).length = n := by
  have h1 : goneTo l n = (wasS n).filter fun x => !(liveTo l l.length).contains x := by
    rw [goneTo, wasS, List.filter_map]
    congr 1
    refine List.filter_congr fun j hj => ?_
    have := dead_iff h hn j (List.mem_range.1 hj)
    by_cases e : (j : Int) ∈ l
    · have e2 : (j : Int) ∈ liveTo l l.length := by
        apply Classical.byContradiction
        intro h3
        exact (this.2 h3) e
      simp [e, e2]
    · simp [e, this.1 e]
  have h2 := filter_two (fun x => (liveTo l l.length).contains x) (wasS n)
  have h3 := was_stay h hn
  rw [wasS_len] at h2
  rw [h1]
  omega

/-! ### The nearest one -/
def nearK (s : List Int) (g : Int) : Nat → Int
  | 0 => -1
  | k + 1 => if s.getD k 0 < g ∧ nearK s g k < s.getD k 0 then s.getD k 0 else nearK s g k
theorem nearK_at (s : List Int) (g : Int) : ∀ k, (nearK s g k = -1 ∨ ∃ i, i < k ∧ s.getD i 0 = nearK s g k ∧ nearK s g k < g) ∧ ∀ i, i < k → s.getD i 0 < g → s.getD i 0 ≤ nearK s g k
  | 0 => ⟨.inl rfl, fun i h => by omega⟩
  | k + 1 => by
    obtain ⟨h1, h2⟩ := nearK_at s g k
    rw [nearK]
    split
    · rename_i hc
      refine ⟨.inr ⟨k, by omega, rfl, hc.1⟩, fun i hi hs => ?_⟩
      by_cases e : i = k
      · subst e; exact Int.le_refl _
      · have := h2 i (by omega) hs; omega
    · rename_i hc
      refine ⟨?_, fun i hi hs => ?_⟩
      · rcases h1 with h1 | ⟨i, h3, h4⟩
        · exact .inl h1
        · exact .inr ⟨i, by omega, h4⟩
      · by_cases e : i = k
        · subst e
          have : ¬ nearK s g i < s.getD i 0 := fun h => hc ⟨hs, h⟩
          omega
        · exact h2 i (by omega) hs
theorem nearTo_at (al : List Int) : ∀ k, k ≤ n → (nearTo (wasS n) al k = -1 ∨ (nearTo (wasS n) al k ∈ al ∧ nearTo (wasS n) al k < k ∧ 0 ≤ nearTo (wasS n) al k)) ∧ ∀ j : Nat, j < k → (j : Int) ∈ al → (j : Int) ≤ nearTo (wasS n) al k
  | 0, _ => ⟨.inl rfl, fun i h => by omega⟩
  | k + 1, hk => by
    obtain ⟨h1, h2⟩ := nearTo_at al k (by omega)
    rw [nearTo, wasS_at (by omega)]
    split
    · rename_i hc
      have hc : (k : Int) ∈ al := by simpa using hc
      exact ⟨.inr ⟨hc, by omega, by omega⟩, fun i hi hs => by omega⟩
    · rename_i hc
      have hc : (k : Int) ∉ al := by simpa using hc
      refine ⟨?_, fun i hi hs => ?_⟩
      · rcases h1 with h1 | ⟨h3, h4, h5⟩
        · exact .inl h1
        · exact .inr ⟨h3, by omega, h5⟩
      · by_cases e : i = k
        · subst e; exact absurd hs hc
        · exact h2 i (by omega) hs
theorem near_eq (h : Prl n l) (hn : n ≤ 100) (g : Nat) (hg : g < n) : nearK (stayTo l l.length) g (stayTo l l.length).length = nearTo (wasS n) (liveTo l l.length) g := by
  obtain ⟨h1, h2⟩ := nearK_at (stayTo l l.length) g (stayTo l l.length).length
  obtain ⟨h3, h4⟩ := nearTo_at (liveTo l l.length) g (by omega : g ≤ n)
  have h5 : ∀ x, x ∈ stayTo l l.length → x < (g : Int) → x ≤ nearTo (wasS n) (liveTo l l.length) g := fun x hx hg => by
    obtain ⟨h6, h7⟩ := (live_stay h hn x).1 hx
    have h8 := ((stay_mem x).1 hx).2
    have := h4 x.toNat (by omega) (by rw [Int.toNat_of_nonneg h8]; exact h6)
    omega
  have h6 : ∀ x, x ∈ liveTo l l.length → x < (g : Int) → 0 ≤ x → x ≤ nearK (stayTo l l.length) g (stayTo l l.length).length := fun x hx hg h0 => by
    obtain ⟨i, hi, e⟩ := (mem_getD _ x).1 ((live_stay h hn x).2 ⟨hx, by omega⟩)
    have := h2 i hi (by omega)
    omega
  rcases h1 with h1 | ⟨i, h7, h8, h9⟩
  · rcases h3 with h3 | ⟨h10, h11, h12⟩
    · rw [h1, h3]
    · have := h6 _ h10 h11 h12
      omega
  · have hm := (mem_getD _ _).2 ⟨i, h7, h8⟩
    have ha := h5 _ hm h9
    have h0 := ((stay_mem _).1 hm).2
    rcases h3 with h3 | ⟨h10, h11, h12⟩
    · omega
    · have := h6 _ h10 h11 h12
      omega

theorem merge_block (was live : List Int) (j : Nat) : ∀ m, j ≤ m → ∃ pre post, mergeTo was live m = pre ++ behF was live j ++ post ∧ ((j = 0 ∧ pre = []) ∨ ∃ pre', 0 < j ∧ pre = pre' ++ [live.getD (j - 1) 0])
  | 0, h => by
    obtain rfl : j = 0 := by omega
    exact ⟨[], [], by simp [mergeTo], .inl ⟨rfl, rfl⟩⟩
  | m + 1, h => by
    by_cases e : j = m + 1
    · subst e
      exact ⟨mergeTo was live m ++ [live.getD m 0], [], by simp [mergeTo], .inr ⟨mergeTo was live m, by omega, by simp⟩⟩
    · obtain ⟨pre, post, h1, h2⟩ := merge_block was live j m (by omega)
      exact ⟨pre, post ++ ([live.getD m 0] ++ behF was live (m + 1)), by rw [mergeTo, h1]; simp, h2⟩
theorem beh_rise (live : List Int) (j : Nat) : ∀ k, k ≤ n → (behTo (wasS n) live k j).Pairwise (· < ·)
  | 0, _ => List.Pairwise.nil
  | k + 1, h => by
    rw [behTo]
    have ih := beh_rise live j k (by omega)
    split
    · refine List.pairwise_append.2 ⟨ih, by simp, ?_⟩
      intro a ha b hb
      obtain ⟨i, h1, h2, _⟩ := (behTo_mem a k j).1 ha
      rw [List.mem_singleton] at hb
      rw [wasS_at (by omega)] at h2 hb
      omega
    · exact ih
theorem bhd_gone (h : Prl n l) (hn : n ≤ 100) (g : Nat) (hg : g < n) (hgl : (g : Int) ∉ l) :
    ∃ q p, Bhd (toL n l) g (nearK (stayTo l l.length) g (stayTo l l.length).length) (goneTo l n) q p := by
  have hlive := live_nodup h hn
  have hdead := (dead_iff h hn g hg).1 hgl
  have hnear := near_was (was := wasS n) hlive g (by rw [wasS_len]; omega)
  rw [near_eq h hn g hg, hnear]
  obtain ⟨j0, hj0⟩ : ∃ j0, j0 = lastTo (wasS n) (liveTo l l.length) g := ⟨_, rfl⟩
  have hjl : j0 ≤ (liveTo l l.length).length := by rw [hj0]; exact lastTo_le _ _ _
  have hmem : (g : Int) ∈ behF (wasS n) (liveTo l l.length) j0 := by
    refine (behTo_mem _ _ _).2 ⟨g, by rw [wasS_len]; exact hg, wasS_at hg, ?_, hj0.symm⟩
    cases e : placeF (liveTo l l.length) (g : Int) with
    | zero => rfl
    | succ q => exact absurd ((placeF_mem hlive).1 (by omega)) hdead
  rw [← hj0]
  obtain ⟨pre, post, h1, h2⟩ := merge_block (wasS n) (liveTo l l.length) j0 _ hjl
  obtain ⟨u, v, huv⟩ := List.append_of_mem hmem
  have hto : toL n l = pre ++ (u ++ (g : Int) :: (v ++ post)) := by
    show mergeTo _ _ _ = _
    rw [h1, huv]; simp
  have hrise := beh_rise (n := n) (liveTo l l.length) j0 n (Nat.le_refl _)
  have hrise : (behF (wasS n) (liveTo l l.length) j0).Pairwise (· < ·) := by
    rw [behF, wasS_len]; exact hrise
  rw [huv] at hrise
  have hu : ∀ x ∈ u, x ∈ goneTo l n ∧ x ≤ (g : Int) := fun x hx => by
    have hx2 : x ∈ behF (wasS n) (liveTo l l.length) j0 := by rw [huv]; simp [hx]
    obtain ⟨i, h3, h4, _⟩ := (behTo_mem x _ _).1 hx2
    rw [wasS_len] at h3
    rw [wasS_at h3] at h4
    have h5 := behF_dead hlive hx2
    have h6 := (List.pairwise_append.1 hrise).2.2 x hx _ (by simp : (g : Int) ∈ (g : Int) :: v)
    refine ⟨(gone_mem x).2 ⟨i, h4.symm, h3, ?_⟩, by omega⟩
    rw [← h4] at h5 ⊢
    exact (dead_iff h hn i h3).2 h5
  have hq : pre.length + u.length < (toL n l).length := by rw [hto]; simp
  refine ⟨pre.length + u.length, pre.length, ⟨hq, ?_, to_nodup h hn, by omega, fun j hj hjq => ?_, ?_⟩⟩
  · rw [hto]
    simp [List.getD]
  · have e : (toL n l).getD j 0 = u.getD (j - pre.length) 0 := by
      rw [hto]
      simp only [List.getD]
      rw [List.getElem?_append_right hj, List.getElem?_append_left (by omega)]
    rw [e]
    exact hu _ (getD_mem (by omega))
  · rcases h2 with ⟨h3, h4⟩ | ⟨pre', h3, h4⟩
    · refine .inl ⟨by rw [h4]; rfl, ?_⟩
      rw [h3, liveAt, if_pos rfl]
      decide
    · refine .inr ⟨by rw [h4]; simp, ?_⟩
      have e : (toL n l).getD (pre.length - 1) 0 = (liveTo l l.length).getD (j0 - 1) 0 := by
        rw [hto, h4]
        simp [List.getD]
      rw [e, liveAt, if_neg (by omega)]
      refine ⟨fun h5 => ?_, rfl⟩
      obtain ⟨i, h6, h7, h8⟩ := (gone_mem _).1 h5
      have h9 : (liveTo l l.length).getD (j0 - 1) 0 ∈ liveTo l l.length := getD_mem (by omega)
      rw [h6] at h8 h9
      exact (dead_iff h hn i h7).1 h8 h9
end

/-! ### Places and moves -/
theorem bestTo_up (l : List Int) (f : Nat → Nat) (x : Int) : ∀ k, k ≤ l.length → bestTo (l.map fun x => x + 1) f (x + 1) k = bestTo l f x k
  | 0, _ => rfl
  | k + 1, h => by
    have e : (l.map fun x => x + 1).getD k 0 = l.getD k 0 + 1 := by simp [List.getD, show k < l.length by omega]
    rw [bestTo, bestTo, bestTo_up l f x k (by omega), e]
    simp only [Int.add_lt_add_iff_right]
theorem lensL_up (l : List Int) : ∀ k, k ≤ l.length → lensL (l.map fun x => x + 1) k = lensL l k
  | 0, _ => rfl
  | k + 1, h => by
    have e : (l.map fun x => x + 1).getD k 0 = l.getD k 0 + 1 := by simp [List.getD, show k < l.length by omega]
    rw [lensL, lensL, lensL_up l k (by omega), e, bestTo_up l _ _ k (by omega)]
theorem lenS_up (l : List Int) : lenS (l.map fun x => x + 1) = lenS l := by
  have e : ∀ k, k ≤ l.length → maxTo (l.map fun x => x + 1) k = maxTo l k := by
    intro k
    induction k with
    | zero => intro _; rfl
    | succ k ih =>
      intro h
      rw [maxTo, maxTo, ih (by omega), lens, lens, lensL_up l (k + 1) h]
  rw [lenS, lenS, List.length_map]
  exact e _ (Nat.le_refl _)
def placesTo (t : List Int) (k : Nat) : List Int := (t.take k).filter fun x => decide (x < 100)
theorem placesTo_succ (t : List Int) (k : Nat) (h : k < t.length) : placesTo t (k + 1) = if t.getD k 0 < 100 then placesTo t k ++ [t.getD k 0] else placesTo t k := by
  rw [placesTo, take_snoc t 0 k h, List.filter_append, placesTo]
  split
  · rename_i hc
    simp only [List.filter_cons, List.filter_nil, hc, decide_true, if_true]
  · rename_i hc
    simp only [List.filter_cons, List.filter_nil, hc, decide_false, Bool.false_eq_true, if_false, List.append_nil]
theorem placesTo_le (t : List Int) (k : Nat) : (placesTo t k).length ≤ k := Nat.le_trans (List.length_filter_le _ _) (by simp; omega)
section
variable {n : Nat} {l : List Int}
theorem placeF_was (x : Int) (hx : x ∈ wasS n) : (placeF (wasS n) x : Int) = x + 1 := by
  obtain ⟨j, rfl, hj⟩ := (wasS_mem n x).1 hx
  have h := placeF_nodup (wasS_nodup n) (i := j) (by rw [wasS_len]; exact hj)
  rw [wasS_at hj] at h
  rw [h]; omega
theorem places_ids (h : Prl n l) (hn : n ≤ 100) : placesTo (toL n l) (toL n l).length = idsTo (placeF (wasS n)) (toL n l) (toL n l).length := by
  rw [idsTo_all, placesTo, List.take_length]
  refine List.filter_congr fun x hx => ?_
  have h1 := to_was h hn x hx
  have h2 := placeF_mem (wasS_nodup n) (x := x)
  rw [decide_eq_decide, h1, ← h2]
  omega
theorem old_places (h : Prl n l) (hn : n ≤ 100) : oldTo (placeF (wasS n)) (toL n l) (toL n l).length = (placesTo (toL n l) (toL n l).length).map fun x => x + 1 := by
  rw [oldTo, ← places_ids h hn]
  refine List.map_congr_left fun x hx => ?_
  rw [placesTo, List.take_length] at hx
  obtain ⟨h1, h2⟩ := List.mem_filter.1 hx
  exact placeF_was x ((to_was h hn x h1).1 (by simpa using h2))
/-- So many moves. -/
theorem moves_law (h : Prl n l) (hn : n ≤ 100) {R : List Nat} {st : List Wst} (hR : IsLis (oldTo (placeF (wasS n)) (toL n l) (toL n l).length) R)
    (w : Wv (wasS n) (staysL (idsTo (placeF (wasS n)) (toL n l) (toL n l).length) R) (toL n l) (toL n l).length (toL n l) st) :
    movesS st + lenS (placesTo (toL n l) (toL n l).length) = (placesTo (toL n l) (toL n l).length).length := by
  have h1 := hR.len
  rw [old_places h hn, lenS_up] at h1
  have h2 := stays_sub_tt hR
  rw [← places_ids h hn] at h2
  have h3 : (staysL (placesTo (toL n l) (toL n l).length) R).length = R.length := by simp [staysL]
  have hp : (placesTo (toL n l) (toL n l).length).Nodup := by
    rw [placesTo, List.take_length]
    exact (to_nodup h hn).sublist List.filter_sublist
  have h4 := sub_filter h2 hp
  obtain ⟨S, hS⟩ : ∃ S, S = staysL (placesTo (toL n l) (toL n l).length) R := ⟨_, rfl⟩
  have hm := w.mv
  rw [← places_ids h hn, ← hS] at hm
  rw [← hS] at h3 h4
  have h5 := filter_two (fun x => decide (x ∈ S)) (placesTo (toL n l) (toL n l).length)
  have h6 : (placesTo (toL n l) (toL n l).length).filter (fun x => decide (x ∈ S)) = S := by
    rw [← h4]
    refine List.filter_congr fun x _ => ?_
    rw [h4]
    congr
  have h7 : mvL (wasS n) S (toL n l) (toL n l).length = ((placesTo (toL n l) (toL n l).length).filter fun x => !decide (x ∈ S)).length := by
    rw [mvL, Nat.sub_self, List.drop_zero, placesTo, List.take_length, List.filter_filter]
    congr 1
    refine List.filter_congr fun x hx => ?_
    have := to_was h hn x hx
    by_cases e : x ∈ wasS n
    · simp [e, this.2 e]
    · have e2 : ¬ x < 100 := fun h => e (this.1 h)
      simp [e, e2]
  rw [h6] at h5
  omega
end

end Go.Proofs.Ytgopokoghnfgiaa
