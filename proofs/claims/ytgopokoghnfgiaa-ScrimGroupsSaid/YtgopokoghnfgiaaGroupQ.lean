/-
  Plain law: what a round makes of a group's kids.
-/
import Derived.Test.YtgopokoghnfgiaaGroupP
import Derived.Test.YtgopokoghnfgiaaWeaveP
namespace Go.Proofs.Ytgopokoghnfgiaa

theorem nodup_of {l : List Int} (h : ∀ i, i < l.length → ∀ j, j < i → l.getD j 0 ≠ l.getD i 0) : l.Nodup := by
  refine List.pairwise_iff_getElem.2 fun i j hi hj hij e => ?_
  exact h j hj i hij (by simp [List.getD, hi, hj, e])
theorem getD_in {l : List Int} {i : Nat} (h : i < l.length) : l.getD i 0 ∈ l := by
  have e : l.getD i 0 = l[i] := by simp [List.getD, h]
  rw [e]; exact List.getElem_mem h
theorem ids_len (l : List Mb) : (ids l).length = l.length := by simp [ids]
theorem aliveTo_eq (l : List Mb) : ∀ k, k ≤ l.length → aliveTo l k = ((l.take k).filter fun m => !m.2.2).map (·.1) := by
  intro k
  induction k with
  | zero => intro _; rfl
  | succ k ih =>
    intro hk
    rw [aliveTo, take_snoc l mb0 k (by omega), List.filter_append, List.map_append, ih (by omega)]
    generalize l.getD k mb0 = m
    cases h : m.2.2
    · rw [List.filter_cons_of_pos (by rw [h]; rfl)]; rfl
    · rw [List.filter_cons_of_neg (by rw [h]; decide)]; simp
theorem aliveS_eq (l : List Mb) : aliveS l = (l.filter fun m => !m.2.2).map (·.1) := by
  rw [aliveS, aliveTo_eq l _ (Nat.le_refl _), List.take_length]

section
variable {r : Nat} {kids : List Mb} {next : Nat} {keys : List ByteArray}
/-- The kids of the next round. -/
def liveS (kids : List Mb) (next : Nat) (keys : List ByteArray) : List Int := liveTo kids next keys keys.length
def allF (kids : List Mb) (next : Nat) (keys : List ByteArray) : Int → Mb := allTo kids next keys keys.length
def nxS (kids : List Mb) (next : Nat) (keys : List ByteArray) : Nat := nxTo kids next keys keys.length
def wovenS (kids : List Mb) (next : Nat) (keys : List ByteArray) : List Int := mergeS (ids kids) (liveS kids next keys)
def toS (kids : List Mb) (next : Nat) (keys : List ByteArray) : List Mb := (wovenS kids next keys).map (allF kids next keys)
theorem live_at {k : Nat} (hk : k < keys.length) : (liveS kids next keys).getD k 0 = lv kids next keys k := by simp [liveS, liveTo, List.getD, hk]
theorem live_len : (liveS kids next keys).length = keys.length := liveTo_len _ _ _ _
theorem live_mem (x : Int) : x ∈ liveS kids next keys ↔ ∃ k, k < keys.length ∧ lv kids next keys k = x := by simp [liveS, liveTo]
theorem was_nodup (h : Inv r kids next) : (ids kids).Nodup := by
  refine nodup_of fun i hi j hj => ?_
  rw [ids_len] at hi
  rw [ids_at _ _ (by omega), ids_at _ _ hi]
  exact h.nodup i hi j hj
theorem live_nodup (h : Inv r kids next) (hs : KS keys) : (liveS kids next keys).Nodup := by
  refine nodup_of fun i hi j hj e => ?_
  rw [live_len] at hi
  rw [live_at (by omega), live_at hi] at e
  have := lv_inj h hs (by omega) hi e
  omega
theorem all_live (h : Inv r kids next) (hs : KS keys) {x : Int} (hx : x ∈ liveS kids next keys) : ∃ k, k < keys.length ∧ lv kids next keys k = x ∧ allF kids next keys x = (x, keys.getD k ByteArray.empty, false) := by
  obtain ⟨k, hk, rfl⟩ := (live_mem x).1 hx
  exact ⟨k, hk, rfl, allTo_lv h hs _ (Nat.le_refl _) k hk⟩
theorem all_dead (h : Inv r kids next) {x : Int} (hx : x ∈ ids kids) (hd : x ∉ liveS kids next keys) : ∃ i, i < kids.length ∧ (kids.getD i mb0).1 = x ∧ allF kids next keys x = (x, (kids.getD i mb0).2.1, true) := by
  obtain ⟨i, h1, h2⟩ := List.mem_iff_getElem.1 hx
  have hi : i < kids.length := by rwa [ids_len] at h1
  have h3 : (kids.getD i mb0).1 = x := by rw [← ids_at _ _ hi]; simp [List.getD, h1, h2]
  refine ⟨i, hi, h3, ?_⟩
  rw [allF, allTo_far _ x (fun k hk e => hd ((live_mem x).2 ⟨k, hk, e⟩)), ← h3, allA_at h _ i hi (Nat.le_refl _), goneB_eq i hi]
  have : (takeL (oldG kids) keys).contains (i : Int) = false := by
    rw [← Bool.not_eq_true, tk_mem]
    rintro ⟨k, hk, e⟩
    exact hd ((live_mem x).2 ⟨k, hk, by rw [← h3]; exact (lv_kid h hk hi).2 e⟩)
  rw [this]
  rfl
theorem woven_mem (h : Inv r kids next) (hs : KS keys) (x : Int) : x ∈ wovenS kids next keys ↔ x ∈ liveS kids next keys ∨ x ∈ ids kids := mergeS_mem (live_nodup h hs) x
theorem all_id (h : Inv r kids next) (hs : KS keys) {x : Int} (hx : x ∈ wovenS kids next keys) : (allF kids next keys x).1 = x ∧ ((allF kids next keys x).2.2 = false ↔ x ∈ liveS kids next keys) := by
  by_cases hl : x ∈ liveS kids next keys
  · obtain ⟨k, _, _, e⟩ := all_live h hs hl
    rw [e]; exact ⟨rfl, fun _ => hl, fun _ => rfl⟩
  · rcases (woven_mem h hs x).1 hx with h1 | h1
    · exact absurd h1 hl
    · obtain ⟨i, _, _, e⟩ := all_dead h h1 hl
      rw [e]; exact ⟨rfl, fun h => (by cases h), fun h => absurd h hl⟩
theorem all_key (h : Inv r kids next) (hs : KS keys) {x y : Int} (hx : x ∈ wovenS kids next keys) (hy : y ∈ wovenS kids next keys) (e : (allF kids next keys x).2.1 = (allF kids next keys y).2.1) : x = y := by
  have mix : ∀ {x y : Int}, x ∈ liveS kids next keys → y ∈ ids kids → y ∉ liveS kids next keys → (allF kids next keys x).2.1 = (allF kids next keys y).2.1 → False := by
    intro x y hx hy hd e
    obtain ⟨k, hk, h1, h2⟩ := all_live h hs hx
    obtain ⟨i, hi, h3, h4⟩ := all_dead h hy hd
    rw [h2, h4] at e
    simp only at e
    rcases tk_cases h hk with ⟨_, h5⟩ | ⟨j, hj, h5, h6⟩
    · exact h5 i hi e.symm
    · obtain rfl := h.key_inj hj hi (h6.trans e)
      exact hd ((live_mem y).2 ⟨k, hk, by rw [← h3]; exact (lv_kid h hk hj).2 h5⟩)
  by_cases hxl : x ∈ liveS kids next keys
  · by_cases hyl : y ∈ liveS kids next keys
    · obtain ⟨k, hk, h1, h2⟩ := all_live h hs hxl
      obtain ⟨k', hk', h3, h4⟩ := all_live h hs hyl
      rw [h2, h4] at e
      have := hs.inj hk hk' e
      rw [← h1, ← h3, this]
    · exact (mix hxl (((woven_mem h hs y).1 hy).resolve_left hyl) hyl e).elim
  · have hxw := ((woven_mem h hs x).1 hx).resolve_left hxl
    by_cases hyl : y ∈ liveS kids next keys
    · exact (mix hyl hxw hxl e.symm).elim
    · obtain ⟨i, hi, h1, h2⟩ := all_dead h hxw hxl
      obtain ⟨i', hi', h3, h4⟩ := all_dead h (((woven_mem h hs y).1 hy).resolve_left hyl) hyl
      rw [h2, h4] at e
      have := h.key_inj hi hi' e
      rw [← h1, ← h3, this]
theorem woven_nodup (h : Inv r kids next) (hs : KS keys) : (wovenS kids next keys).Nodup := mergeS_nodup (was_nodup h) (live_nodup h hs)
theorem to_len : (toS kids next keys).length = (wovenS kids next keys).length := by simp [toS]
theorem to_at {p : Nat} (hp : p < (wovenS kids next keys).length) : (toS kids next keys).getD p mb0 = allF kids next keys ((wovenS kids next keys).getD p 0) := by simp [toS, List.getD, hp]
theorem to_ids (h : Inv r kids next) (hs : KS keys) : ids (toS kids next keys) = wovenS kids next keys := by
  rw [ids, toS, List.map_map]
  refine (List.map_congr_left fun x hx => ?_).trans (List.map_id _)
  exact (all_id h hs hx).1
/-- Those that are no ghosts stand in their order. -/
theorem seen_eq (h : Inv r kids next) (hs : KS keys) : (wovenS kids next keys).filter (fun x => !(allF kids next keys x).2.2) = liveS kids next keys := by
  rw [← mergeS_filter (was := ids kids) (live_nodup h hs)]
  refine List.filter_congr fun x hx => ?_
  have := (all_id h hs hx).2
  rw [Bool.eq_iff_iff, List.contains_iff_mem, ← this]
  simp
theorem to_alive (h : Inv r kids next) (hs : KS keys) : aliveS (toS kids next keys) = liveS kids next keys := by
  rw [aliveS_eq, toS, List.filter_map, List.map_map]
  have e : (wovenS kids next keys).filter ((fun m : Mb => !m.2.2) ∘ allF kids next keys) = liveS kids next keys := seen_eq h hs
  rw [e]
  refine (List.map_congr_left fun x hx => ?_).trans (List.map_id _)
  exact (all_id h hs ((woven_mem h hs x).2 (.inl hx))).1
theorem to_stands (h : Inv r kids next) (hs : KS keys) : Stands kids (toS kids next keys) := by
  intro p hp hg a b ha hb
  rw [to_alive h hs] at ha hb
  rw [to_ids h hs] at hb
  rw [to_len] at hp
  have hin := getD_in hp
  have e := all_id h hs hin
  rw [to_at hp] at hg ha hb
  rw [e.1] at ha hb
  have hd : (wovenS kids next keys).getD p 0 ∉ liveS kids next keys := fun hm => by rw [e.2.2 hm] at hg; cases hg
  exact near_same (was_nodup h) (live_nodup h hs) (((woven_mem h hs _).1 hin).resolve_left hd) hd ha hb
theorem to_once (h : Inv r kids next) (hs : KS keys) : OnceK (toS kids next keys) := by
  intro i hi j hj e
  rw [to_len] at hi
  rw [to_at (by omega), to_at hi] at e
  have := all_key h hs (getD_in (by omega)) (getD_in hi) e
  exact getD_ne (woven_nodup h hs) (by omega) hi (by omega : j ≠ i) this
theorem to_inv (h : Inv r kids next) (hs : KS keys) (hk : keys.length ≤ 6) : Inv (r + 1) (toS kids next keys) (nxS kids next keys) := by
  have hnx := nxTo_le kids next keys keys.length
  refine ⟨fun i hi j hj => ?_, fun i hi => ?_, to_once h hs, fun i => ?_, ?_, ?_, ?_⟩
  · rw [to_len] at hi
    rw [to_at (by omega), to_at hi, (all_id h hs (getD_in (by omega))).1, (all_id h hs (getD_in hi)).1]
    exact getD_ne (woven_nodup h hs) (by omega) hi (by omega : j ≠ i)
  · rw [to_len] at hi
    have hin := getD_in hi
    rw [to_at hi, (all_id h hs hin).1]
    by_cases hl : (wovenS kids next keys).getD i 0 ∈ liveS kids next keys
    · obtain ⟨k, hk2, e⟩ := (live_mem _).1 hl
      rw [← e]
      have h1 := lv_lo h hk2 h.pos
      have h2 : nxTo kids next keys (k + 1) ≤ nxTo kids next keys keys.length := by
        have mono : ∀ m, k + 1 ≤ m → nxTo kids next keys (k + 1) ≤ nxTo kids next keys m := by
          intro m
          induction m with
          | zero => intro h; omega
          | succ m ih =>
            intro h
            by_cases e : k + 1 = m + 1
            · rw [e]; exact Nat.le_refl _
            · refine Nat.le_trans (ih (by omega)) ?_
              rw [nxTo]; split <;> omega
        exact mono _ (by omega)
      refine ⟨h1.1, ?_⟩
      rw [nxS]; omega
    · obtain ⟨i2, hi2, e, _⟩ := all_dead (keys := keys) h (((woven_mem h hs _).1 hin).resolve_left hl) hl
      rw [← e]
      have := h.lo i2 hi2
      refine ⟨this.1, ?_⟩
      rw [nxS]; omega
  · by_cases hi : i < (wovenS kids next keys).length
    · have hin := getD_in hi
      rw [to_at hi]
      by_cases hl : (wovenS kids next keys).getD i 0 ∈ liveS kids next keys
      · obtain ⟨k, _, _, e⟩ := all_live h hs hl
        rw [e]; exact hs.short k
      · obtain ⟨i2, _, _, e⟩ := all_dead (keys := keys) h (((woven_mem h hs _).1 hin).resolve_left hl) hl
        rw [e]; exact h.short i2
    · have e : (toS kids next keys).getD i mb0 = mb0 := by
        have : (toS kids next keys).length ≤ i := by rw [to_len]; omega
        simp [List.getD, this]
      rw [e]; decide
  · have := mergeS_len (was := ids kids) (live := liveS kids next keys)
    rw [ids_len, live_len] at this
    rw [to_len, wovenS]
    have := h.len
    omega
  · have := h.nx
    rw [nxS]; omega
  · rw [nxS]; have := h.pos; omega
end

/-! ### The keys of a round -/
theorem cleanTo_sub (l : List ByteArray) : ∀ k, k ≤ l.length → ∀ s, s ∈ cleanTo l k → s ∈ l.take k := by
  intro k
  induction k with
  | zero => intro _ s h; cases h
  | succ k ih =>
    intro hk s h
    rw [take_snoc l ByteArray.empty k (by omega), List.mem_append, List.mem_singleton]
    by_cases hm : l.getD k ByteArray.empty ∈ l.take k
    · rw [(cleanTo_succ l k).1 hm] at h
      exact .inl (ih (by omega) s h)
    · rw [(cleanTo_succ l k).2 hm, List.mem_append, List.mem_singleton] at h
      rcases h with h | h
      · exact .inl (ih (by omega) s h)
      · exact .inr h
theorem cleanTo_apart (l : List ByteArray) : ∀ k, k ≤ l.length → ∀ i, i < (cleanTo l k).length → ∀ j, j < i → (cleanTo l k).getD j ByteArray.empty ≠ (cleanTo l k).getD i ByteArray.empty := by
  intro k
  induction k with
  | zero => intro _ i h; exact absurd h (Nat.not_lt_zero _)
  | succ k ih =>
    intro hk i hi j hj
    by_cases hm : l.getD k ByteArray.empty ∈ l.take k
    · rw [(cleanTo_succ l k).1 hm] at hi ⊢
      exact ih (by omega) i hi j hj
    · rw [(cleanTo_succ l k).2 hm] at hi ⊢
      have hjl : j < (cleanTo l k).length := by simp at hi; omega
      have ej : (cleanTo l k ++ [l.getD k ByteArray.empty]).getD j ByteArray.empty = (cleanTo l k).getD j ByteArray.empty := by simp [List.getD, List.getElem?_append_left hjl]
      rw [ej]
      by_cases hil : i < (cleanTo l k).length
      · have ei : (cleanTo l k ++ [l.getD k ByteArray.empty]).getD i ByteArray.empty = (cleanTo l k).getD i ByteArray.empty := by simp [List.getD, List.getElem?_append_left hil]
        rw [ei]
        exact ih (by omega) i hil j hj
      · obtain rfl : i = (cleanTo l k).length := by simp at hi; omega
        have ei : (cleanTo l k ++ [l.getD k ByteArray.empty]).getD (cleanTo l k).length ByteArray.empty = l.getD k ByteArray.empty := by simp [List.getD]
        rw [ei]
        intro e
        apply hm
        rw [← e]
        refine cleanTo_sub l k (by omega) _ ?_
        have e2 : (cleanTo l k).getD j ByteArray.empty = (cleanTo l k)[j] := by simp [List.getD, hjl]
        rw [e2]; exact List.getElem_mem hjl
theorem keys_ks (l : List ByteArray) : KS (cleanS (fewS 6 l)) ∧ (cleanS (fewS 6 l)).length ≤ 6 := by
  have hlen := cleanTo_len (fewS 6 l) (fewS 6 l).length
  have h6 := fewS_len 6 l
  refine ⟨⟨cleanTo_apart _ _ (Nat.le_refl _), fun i => ?_⟩, by rw [cleanS]; omega⟩
  by_cases hi : i < (cleanS (fewS 6 l)).length
  · have e : (cleanS (fewS 6 l)).getD i ByteArray.empty = (cleanS (fewS 6 l))[i] := by simp [List.getD, hi]
    have hm := cleanTo_sub (fewS 6 l) _ (Nat.le_refl _) _ (show (cleanS (fewS 6 l))[i] ∈ cleanTo (fewS 6 l) (fewS 6 l).length from List.getElem_mem hi)
    rw [e]
    obtain ⟨s, _, hs⟩ := List.mem_map.1 (List.mem_of_mem_take hm)
    rw [← hs]
    unfold cut20
    split
    · rw [ByteArray.size_extract]; omega
    · omega
  · have e : (cleanS (fewS 6 l)).getD i ByteArray.empty = ByteArray.empty := by simp [List.getD, Nat.not_lt.1 hi]
    rw [e]; decide

end Go.Proofs.Ytgopokoghnfgiaa
