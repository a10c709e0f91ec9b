/-
  The plain law of the turns of layers 3 and 4.
-/
import Derived.Test.YtaalhglooipnaaaGreatL02
import Derived.Test.YtaalhglooipnaaaGreatL04
namespace Go.Proofs.YtaalhglooipnaaaGreat

/-! ### Lists with no name twice -/
theorem nodup_len {α : Type} [DecidableEq α] : ∀ (l l' : List α), l.Nodup → (∀ x ∈ l, x ∈ l') → l.length ≤ l'.length
  | [], _, _, _ => Nat.zero_le _
  | x :: l, l', hn, hs => by
    obtain ⟨h1, h2⟩ := List.nodup_cons.1 hn
    have hx := hs x (by simp)
    have := nodup_len l (l'.erase x) h2 fun y hy => by
      have hyx : y ≠ x := fun e => h1 (e ▸ hy)
      exact (List.mem_erase_of_ne hyx).2 (hs y (by simp [hy]))
    rw [List.length_erase_of_mem hx] at this
    have h3 : 0 < l'.length := List.length_pos_of_mem hx
    simp only [List.length_cons]
    omega

open Classical in
theorem sub_filter {α : Type} {s l : List α} (h : s.Sublist l) : l.Nodup → l.filter (fun x => decide (x ∈ s)) = s := by
  induction h with
  | slnil => intro _; rfl
  | cons x hs ih =>
    intro hn
    obtain ⟨h1, h2⟩ := List.nodup_cons.1 hn
    rw [List.filter_cons, if_neg (by simpa using fun e => h1 (hs.subset e))]
    exact ih h2
  | cons_cons x hs ih =>
    rename_i s l
    intro hn
    obtain ⟨h1, h2⟩ := List.nodup_cons.1 hn
    rw [List.filter_cons, if_pos (by simp)]
    refine congrArg _ ((List.filter_congr fun y hy => ?_).trans (ih h2))
    have hyx : y ≠ x := fun e => h1 (e ▸ hy)
    simp [hyx]

theorem addS_nodup {l : List ByteArray} (h : l.Nodup) (c : ByteArray) : (addS l c).Nodup := by
  unfold addS
  split
  · exact h
  · rename_i hc
    refine List.nodup_append.2 ⟨h, by simp, ?_⟩
    intro a ha b hb
    rw [List.mem_singleton.1 hb]
    exact fun e => hc (e ▸ ha)
theorem addS_new {l : List ByteArray} {c : ByteArray} (h : c ∉ l) : addS l c = l ++ [c] := if_neg h
theorem cleanTo_nodup (l : List ByteArray) (k : Nat) : (cleanTo l k).Nodup := by
  induction k with
  | zero => exact List.nodup_nil
  | succ k ih => exact addS_nodup ih _
theorem cleanS_nodup (l : List ByteArray) : (cleanS l).Nodup := cleanTo_nodup l _
theorem cleanTo_id {l : List ByteArray} (h : l.Nodup) (k : Nat) (hk : k ≤ l.length) : cleanTo l k = l.take k := by
  induction k with
  | zero => simp [cleanTo]
  | succ k ih =>
    have ht : (l.take (k + 1)).Nodup := h.sublist (List.take_sublist _ _)
    rw [take_snoc l ByteArray.empty k (by omega)] at ht ⊢
    rw [cleanTo, ih (by omega), addS_new]
    intro e
    exact (List.nodup_append.1 ht).2.2 _ e _ (by simp) rfl
theorem cleanS_id {l : List ByteArray} (h : l.Nodup) : cleanS l = l := by rw [cleanS, cleanTo_id h _ (Nat.le_refl _), List.take_length]

theorem applyTo_fold (l : List ByteArray) (st : List Cst) (k : Nat) (hk : k ≤ st.length) : applyTo l st k = (st.take k).foldl stepS (cleanS l) := by
  induction k with
  | zero => simp [applyTo]
  | succ k ih => rw [applyTo, ih (by omega), take_snoc st cst0 k (by omega), List.foldl_append]; rfl
theorem applyS_fold (l : List ByteArray) (st : List Cst) : applyS l st = st.foldl stepS (cleanS l) := by
  rw [applyS, applyTo_fold l st _ (Nat.le_refl _), List.take_length]

open Classical in
theorem dropsTo_eq (bq l : List ByteArray) (k : Nat) (hk : k ≤ l.length) : dropsTo bq l k = ((l.take k).filter fun x => !decide (x ∈ bq)).map fun x => (true, x) := by
  induction k with
  | zero => simp [dropsTo]
  | succ k ih =>
    rw [dropsTo, ih (by omega), take_snoc l ByteArray.empty k (by omega), List.filter_append]
    generalize l.getD k ByteArray.empty = c
    by_cases h : c ∈ bq
    · rw [if_pos h]; simp [h]
    · rw [if_neg h]; simp [h]
open Classical in
theorem fold_drops (D : List ByteArray) : ∀ X : List ByteArray, (D.map fun x => ((true, x) : Cst)).foldl stepS X = X.filter fun x => !decide (x ∈ D) := by
  induction D with
  | nil => intro X; exact (List.filter_eq_self.2 fun _ _ => by simp).symm
  | cons d D ih =>
    intro X
    rw [List.map_cons, List.foldl_cons, ih, stepS, if_pos rfl, offS, List.filter_filter]
    refine List.filter_congr fun x _ => ?_
    by_cases h1 : x = d <;> by_cases h2 : x ∈ D <;> simp [isS, h1, h2]
theorem fold_adds (A : List ByteArray) : ∀ X : List ByteArray, (X ++ A).Nodup → (A.map fun x => ((false, x) : Cst)).foldl stepS X = X ++ A := by
  induction A with
  | nil => intro X _; simp
  | cons d A ih =>
    intro X h
    have e : X ++ d :: A = (X ++ [d]) ++ A := by simp
    have hd : d ∉ X := fun hx => (List.nodup_append.1 h).2.2 _ hx _ (by simp) rfl
    rw [e] at h ⊢
    rw [List.map_cons, List.foldl_cons, stepS, if_neg (by simp), addS_new hd]
    exact ih _ h

theorem keptTo_sub (a b : List ByteArray) (k : Nat) (hk : k ≤ a.length) : (b.take (keptTo a b k)).Sublist (a.take k) := by
  induction k with
  | zero => simp [keptTo]
  | succ k ih =>
    rw [keptTo, take_snoc a ByteArray.empty k (by omega)]
    split
    · rename_i h
      rw [take_snoc b ByteArray.empty _ h.1, h.2]
      exact (ih (by omega)).append (List.Sublist.refl _)
    · exact (ih (by omega)).trans (List.sublist_append_left _ _)
theorem keptS_sub (a b : List ByteArray) : (b.take (keptS a b)).Sublist a := by
  have := keptTo_sub a b a.length (Nat.le_refl _)
  rwa [List.take_length] at this

/-- What is turned into another one is the other one. -/
theorem apply_turn {a b : List ByteArray} (ha : a.Nodup) (hb : b.Nodup) : applyS a (turnS a b) = b := by
  classical
  rw [applyS_fold, turnS, cleanS_id ha, cleanS_id hb, turnC, addsTo, List.foldl_append, dropsTo_eq _ _ _ (Nat.le_refl _), List.take_length, fold_drops]
  have e1 : a.filter (fun x => !decide (x ∈ a.filter fun x => !decide (x ∈ b.take (keptS a b)))) = b.take (keptS a b) := by
    refine Eq.trans (List.filter_congr fun x hx => ?_) (sub_filter (keptS_sub a b) ha)
    simp [hx]
  rw [e1]
  have e2 : (b.drop (keptS a b)).take (b.length - keptS a b) = b.drop (keptS a b) := by
    rw [List.take_of_length_le]; simp
  rw [e2, fold_adds]
  · exact List.take_append_drop _ _
  · rw [List.take_append_drop]; exact hb
theorem turnS_clean (a b : List ByteArray) : turnS (cleanS a) (cleanS b) = turnS a b := by
  rw [turnS, cleanS_id (cleanS_nodup a), cleanS_id (cleanS_nodup b)]; rfl
theorem applyS_clean (a : List ByteArray) (st : List Cst) : applyS (cleanS a) st = applyS a st := by
  rw [applyS_fold, applyS_fold, cleanS_id (cleanS_nodup a)]
/-- There, and back. -/
theorem turn_back (a b : List ByteArray) : applyS (applyS a (turnS a b)) (turnS b a) = cleanS a := by
  rw [← applyS_clean a, ← turnS_clean a b, apply_turn (cleanS_nodup a) (cleanS_nodup b), ← turnS_clean b a, apply_turn (cleanS_nodup b) (cleanS_nodup a)]
theorem turnS_len (a b : List ByteArray) : (turnS a b).length ≤ (cleanS a).length + (cleanS b).length := by
  have h1 := addsTo_len (dropsTo ((cleanS b).take (keptS (cleanS a) (cleanS b))) (cleanS a) (cleanS a).length) ((cleanS b).drop (keptS (cleanS a) (cleanS b))) ((cleanS b).length - keptS (cleanS a) (cleanS b))
  have h2 := dropsTo_len ((cleanS b).take (keptS (cleanS a) (cleanS b))) (cleanS a) (cleanS a).length
  rw [turnS, turnC]
  omega
theorem keptTo_self (a : List ByteArray) (k : Nat) (hk : k ≤ a.length) : keptTo a a k = k := by
  induction k with
  | zero => rfl
  | succ k ih => rw [keptTo, ih (by omega), if_pos ⟨by omega, rfl⟩]
theorem turnS_self (a : List ByteArray) : (turnS a a).length = 0 := by
  classical
  rw [turnS, turnC, keptS, keptTo_self _ _ (Nat.le_refl _), dropsTo_eq _ _ _ (Nat.le_refl _), List.take_length]
  simp [addsTo]
theorem turnS_one (s : ByteArray) : (turnS [] [s]).length = 1 := by
  have e : cleanS [s] = [s] := cleanS_id (by simp)
  have e0 : cleanS [] = [] := rfl
  rw [turnS, e, e0]
  simp [turnC, keptS, keptTo, dropsTo, addsTo]

/-! ### Numbers by names -/
theorem putS_end (p : Pr) : ∀ l : List Pr, (∀ q ∈ l, ltB q.1 p.1 = true) → putS l p = l ++ [p]
  | [], _ => rfl
  | a :: l, h => by
    rw [putS, if_pos (h a (by simp)), putS_end p l fun q hq => h q (by simp [hq])]
    rfl
theorem ofTo_id {l : List Pr} (h : Rise l) (k : Nat) (hk : k ≤ l.length) : ofTo l k = l.take k := by
  induction k with
  | zero => simp [ofTo]
  | succ k ih =>
    have ht : Rise (l.take (k + 1)) := List.Pairwise.sublist (List.take_sublist _ _) h
    rw [take_snoc l pr0 k (by omega)] at ht ⊢
    rw [ofTo, ih (by omega), putS_end]
    intro q hq
    exact (List.pairwise_append.1 ht).2.2 q hq _ (by simp)
theorem ofS_id {l : List Pr} (h : Rise l) : ofS l = l := by rw [ofS, ofTo_id h _ (Nat.le_refl _), List.take_length]
theorem mem_putS (p : Pr) : ∀ l : List Pr, Rise l → ∀ q, q ∈ putS l p ↔ q = p ∨ (q ∈ l ∧ q.1 ≠ p.1)
  | [], _, q => by simp [putS]
  | a :: l, h, q => by
    obtain ⟨h1, h2⟩ := List.pairwise_cons.1 h
    rw [putS]
    split
    · rename_i h0
      rw [List.mem_cons, mem_putS p l h2 q, List.mem_cons]
      constructor
      · rintro (rfl | rfl | ⟨h3, h4⟩)
        · exact .inr ⟨.inl rfl, lt_ne h0⟩
        · exact .inl rfl
        · exact .inr ⟨.inr h3, h4⟩
      · rintro (rfl | ⟨rfl | h3, h4⟩)
        · exact .inr (.inl rfl)
        · exact .inl rfl
        · exact .inr (.inr ⟨h3, h4⟩)
    · rename_i h0
      split
      · rename_i he
        rw [List.mem_cons, List.mem_cons]
        constructor
        · rintro (rfl | h3)
          · exact .inl rfl
          · exact .inr ⟨.inr h3, fun e => lt_ne (h1 q h3) (by rw [he, e])⟩
        · rintro (rfl | ⟨rfl | h3, h4⟩)
          · exact .inl rfl
          · exact absurd he h4
          · exact .inr h3
      · rename_i he
        have hpa : ltB p.1 a.1 = true := by
          cases hq : ltB p.1 a.1 with
          | true => rfl
          | false => exact absurd (lt_tri (by simpa using h0) hq) he
        rw [List.mem_cons, List.mem_cons]
        constructor
        · rintro (rfl | rfl | h3)
          · exact .inl rfl
          · exact .inr ⟨.inl rfl, he⟩
          · exact .inr ⟨.inr h3, fun e => lt_ne (lt_trans hpa (h1 q h3)) e.symm⟩
        · rintro (rfl | ⟨h3, h4⟩)
          · exact .inl rfl
          · exact .inr h3
theorem mem_offP (s : ByteArray) (l : List Pr) (q : Pr) : q ∈ offP s l ↔ q ∈ l ∧ q.1 ≠ s := by simp [offP, isS]
theorem offP_rise (s : ByteArray) {l : List Pr} (h : Rise l) : Rise (offP s l) := List.Pairwise.sublist List.filter_sublist h
theorem Rise.ext : ∀ {l l' : List Pr}, Rise l → Rise l' → (∀ q, q ∈ l ↔ q ∈ l') → l = l'
  | [], [], _, _, _ => rfl
  | [], b :: _, _, _, h => absurd ((h b).2 (by simp)) (by simp)
  | a :: _, [], _, _, h => absurd ((h a).1 (by simp)) (by simp)
  | a :: l, b :: l', ha, hb, h => by
    obtain ⟨a1, a2⟩ := List.pairwise_cons.1 ha
    obtain ⟨b1, b2⟩ := List.pairwise_cons.1 hb
    have hab : a = b := by
      rcases List.mem_cons.1 ((h a).1 (by simp)) with e | e
      · exact e
      · rcases List.mem_cons.1 ((h b).2 (by simp)) with e' | e'
        · exact e'.symm
        · have := lt_trans (b1 a e) (a1 b e')
          rw [lt_irrefl] at this
          cases this
    subst hab
    refine congrArg _ (Rise.ext a2 b2 fun q => ?_)
    constructor
    · intro hq
      rcases List.mem_cons.1 ((h q).1 (by simp [hq])) with e | e
      · subst e
        have := a1 q hq
        rw [lt_irrefl] at this
        cases this
      · exact e
    · intro hq
      rcases List.mem_cons.1 ((h q).2 (by simp [hq])) with e | e
      · subst e
        have := b1 q hq
        rw [lt_irrefl] at this
        cases this
      · exact e

theorem applyUTo_fold (l : List Pr) (st : List Pst) (k : Nat) (hk : k ≤ st.length) : applyUTo l st k = (st.take k).foldl stepU (ofS l) := by
  induction k with
  | zero => simp [applyUTo]
  | succ k ih => rw [applyUTo, ih (by omega), take_snoc st pst0 k (by omega), List.foldl_append]; rfl
theorem applyU_fold (l : List Pr) (st : List Pst) : applyU l st = st.foldl stepU (ofS l) := by
  rw [applyU, applyUTo_fold l st _ (Nat.le_refl _), List.take_length]
theorem dropsU_eq (cb ca : List Pr) (k : Nat) (hk : k ≤ ca.length) : dropsU cb ca k = ((ca.take k).filter fun p => !hasN cb p.1).map fun p => (true, p.1, 0) := by
  induction k with
  | zero => simp [dropsU]
  | succ k ih =>
    rw [dropsU, ih (by omega), take_snoc ca pr0 k (by omega), List.filter_append]
    generalize ca.getD k pr0 = p
    by_cases h : hasN cb p.1 = true
    · rw [if_pos h]; simp [h]
    · rw [if_neg h]; simp [h]
theorem setsU_eq (o : List Pst) (ca cb : List Pr) (k : Nat) (hk : k ≤ cb.length) : setsU o ca cb k = o ++ ((cb.take k).filter fun p => !memP ca p).map fun p => (false, p.1, p.2) := by
  induction k with
  | zero => simp [setsU]
  | succ k ih =>
    rw [setsU, ih (by omega), take_snoc cb pr0 k (by omega), List.filter_append]
    generalize cb.getD k pr0 = p
    by_cases h : memP ca p = true
    · rw [if_pos h]; simp [h]
    · rw [if_neg h]; simp [h]
theorem turnU_eq (ca cb : List Pr) : turnU ca cb = ((ca.filter fun p => !hasN cb p.1).map fun p => (true, p.1, 0)) ++ (cb.filter fun p => !memP ca p).map fun p => (false, p.1, p.2) := by
  rw [turnU, setsU_eq _ _ _ _ (Nat.le_refl _), dropsU_eq _ _ _ (Nat.le_refl _), List.take_length, List.take_length]

theorem fold_dropsU (D : List Pr) : ∀ X : List Pr, Rise X → Rise ((D.map fun p => ((true, p.1, 0) : Pst)).foldl stepU X) ∧ ∀ q, q ∈ (D.map fun p => ((true, p.1, 0) : Pst)).foldl stepU X ↔ q ∈ X ∧ ∀ p ∈ D, q.1 ≠ p.1 := by
  induction D with
  | nil => intro X h; exact ⟨h, fun q => by simp⟩
  | cons d D ih =>
    intro X h
    have e : stepU X (true, d.1, 0) = offP d.1 X := by rw [stepU, if_pos rfl, ofS_id h]
    rw [List.map_cons, List.foldl_cons, e]
    obtain ⟨h1, h2⟩ := ih _ (offP_rise d.1 h)
    refine ⟨h1, fun q => ?_⟩
    rw [h2, mem_offP]
    constructor
    · rintro ⟨⟨h3, h4⟩, h5⟩
      refine ⟨h3, fun p hp => ?_⟩
      rcases List.mem_cons.1 hp with rfl | hp
      · exact h4
      · exact h5 p hp
    · rintro ⟨h3, h4⟩
      exact ⟨⟨h3, h4 d (by simp)⟩, fun p hp => h4 p (by simp [hp])⟩
theorem fold_setsU (S : List Pr) : S.Pairwise (fun a b => a.1 ≠ b.1) → ∀ X : List Pr, Rise X → Rise ((S.map fun p => ((false, p.1, p.2) : Pst)).foldl stepU X) ∧ ∀ q, q ∈ (S.map fun p => ((false, p.1, p.2) : Pst)).foldl stepU X ↔ q ∈ S ∨ (q ∈ X ∧ ∀ p ∈ S, q.1 ≠ p.1) := by
  induction S with
  | nil => intro _ X h; exact ⟨h, fun q => by simp⟩
  | cons d S ih =>
    intro hn X h
    obtain ⟨n1, n2⟩ := List.pairwise_cons.1 hn
    have e : stepU X (false, d.1, d.2) = putS X d := by rw [stepU, if_neg (by simp), ofS_id h]
    rw [List.map_cons, List.foldl_cons, e]
    obtain ⟨h1, h2⟩ := ih n2 _ (putS_rise d X h)
    refine ⟨h1, fun q => ?_⟩
    rw [h2, mem_putS d X h]
    constructor
    · rintro (h3 | ⟨rfl | ⟨h3, h4⟩, h5⟩)
      · exact .inl (by simp [h3])
      · exact .inl (by simp)
      · refine .inr ⟨h3, fun p hp => ?_⟩
        rcases List.mem_cons.1 hp with rfl | hp
        · exact h4
        · exact h5 p hp
    · rintro (h3 | ⟨h3, h4⟩)
      · rcases List.mem_cons.1 h3 with rfl | h3
        · exact .inr ⟨.inl rfl, n1⟩
        · exact .inl h3
      · exact .inr ⟨.inr ⟨h3, h4 d (by simp)⟩, fun p hp => h4 p (by simp [hp])⟩

theorem Rise.ne {l : List Pr} (h : Rise l) : l.Pairwise (fun a b => a.1 ≠ b.1) := List.Pairwise.imp (fun h => lt_ne h) h
theorem Rise.one {l : List Pr} (h : Rise l) {p q : Pr} (hp : p ∈ l) (hq : q ∈ l) (e : p.1 = q.1) : p = q := by
  obtain ⟨i, hi, hi'⟩ := List.mem_iff_getElem.1 hp
  obtain ⟨j, hj, hj'⟩ := List.mem_iff_getElem.1 hq
  have gi : l.getD i pr0 = p := by simp [List.getD, hi, hi']
  have gj : l.getD j pr0 = q := by simp [List.getD, hj, hj']
  have := h.uniq hi hj (by rw [gi, gj, e])
  subst this
  rw [← gi, gj]
theorem not_hasN (l : List Pr) (s : ByteArray) : (!hasN l s) = true ↔ ∀ q ∈ l, q.1 ≠ s := by
  simp [hasN]
theorem not_memP_iff (l : List Pr) (p : Pr) : (!memP l p) = true ↔ p ∉ l := by
  rw [Bool.not_eq_true', ← Bool.not_eq_true, memP_iff]

/-- What is turned into another one is the other one. -/
theorem applyU_turn {a b : List Pr} (ha : Rise a) (hb : Rise b) : applyU a (turnU a b) = b := by
  rw [applyU_fold, ofS_id ha, turnU_eq, List.foldl_append]
  obtain ⟨r1, m1⟩ := fold_dropsU (a.filter fun p => !hasN b p.1) a ha
  obtain ⟨r2, m2⟩ := fold_setsU (b.filter fun p => !memP a p) (List.Pairwise.sublist List.filter_sublist hb.ne) _ r1
  refine Rise.ext r2 hb fun q => ?_
  rw [m2, m1]
  simp only [List.mem_filter, not_hasN, not_memP_iff]
  constructor
  · rintro (h | ⟨⟨h1, h2⟩, h3⟩)
    · exact h.1
    · by_cases hq : ∀ p ∈ b, p.1 ≠ q.1
      · exact absurd rfl (h2 q ⟨h1, hq⟩)
      · simp only [Classical.not_forall, Decidable.not_not] at hq
        obtain ⟨p, hp, he⟩ := hq
        by_cases hpa : p ∈ a
        · exact (ha.one hpa h1 he) ▸ hp
        · exact absurd he.symm (h3 p ⟨hp, hpa⟩)
  · intro hq
    by_cases hqa : q ∈ a
    · refine .inr ⟨⟨hqa, fun p hp e => hp.2 q hq e⟩, fun p hp e => ?_⟩
      exact hp.2 (hb.one hp.1 hq e.symm ▸ hqa)
    · exact .inl ⟨hq, hqa⟩

/-- The names that are otherwise. -/
def diffU (a b : List Pr) : List ByteArray := ((a.filter fun p => !hasN b p.1).map fun p => p.1) ++ (b.filter fun p => !memP a p).map fun p => p.1
theorem diffU_len (a b : List Pr) : (turnU a b).length = (diffU a b).length := by
  rw [turnU_eq, diffU]; simp
theorem mem_diffU {a b : List Pr} (ha : Rise a) (s : ByteArray) : s ∈ diffU a b ↔ ∃ v, ¬ ((s, v) ∈ a ↔ (s, v) ∈ b) := by
  rw [diffU, List.mem_append, List.mem_map, List.mem_map]
  simp only [List.mem_filter, not_hasN, not_memP_iff]
  constructor
  · rintro (⟨p, ⟨h1, h2⟩, rfl⟩ | ⟨p, ⟨h1, h2⟩, rfl⟩)
    · exact ⟨p.2, fun h => h2 p (h.1 h1) rfl⟩
    · exact ⟨p.2, fun h => h2 (h.2 h1)⟩
  · rintro ⟨v, h⟩
    by_cases h1 : (s, v) ∈ a
    · have h2 : (s, v) ∉ b := fun h2 => h ⟨fun _ => h2, fun _ => h1⟩
      by_cases h3 : ∀ q ∈ b, q.1 ≠ s
      · exact .inl ⟨(s, v), ⟨h1, h3⟩, rfl⟩
      · simp only [Classical.not_forall, Decidable.not_not] at h3
        obtain ⟨p, hp, he⟩ := h3
        refine .inr ⟨p, ⟨hp, fun hpa => h2 ?_⟩, he⟩
        rw [← ha.one hpa h1 he]
        exact hp
    · have h2 : (s, v) ∈ b := by
        by_cases h2 : (s, v) ∈ b
        · exact h2
        · exact absurd ⟨fun h => absurd h h1, fun h => absurd h h2⟩ h
      exact .inr ⟨(s, v), ⟨h2, h1⟩, rfl⟩
theorem diffU_nodup {a b : List Pr} (ha : Rise a) (hb : Rise b) : (diffU a b).Nodup := by
  refine List.nodup_append.2 ⟨?_, ?_, ?_⟩
  · exact List.pairwise_map.2 (List.Pairwise.sublist List.filter_sublist ha.ne)
  · exact List.pairwise_map.2 (List.Pairwise.sublist List.filter_sublist hb.ne)
  · intro x hx y hy e
    obtain ⟨p, hp, rfl⟩ := List.mem_map.1 hx
    obtain ⟨q, hq, rfl⟩ := List.mem_map.1 hy
    simp only [List.mem_filter, not_hasN] at hp hq
    exact hp.2 q hq.1 e.symm
theorem turnU_sym {a b : List Pr} (ha : Rise a) (hb : Rise b) : (turnU a b).length = (turnU b a).length := by
  rw [diffU_len, diffU_len]
  refine Nat.le_antisymm (nodup_len _ _ (diffU_nodup ha hb) fun x hx => ?_) (nodup_len _ _ (diffU_nodup hb ha) fun x hx => ?_)
  · obtain ⟨v, h⟩ := (mem_diffU ha x).1 hx
    exact (mem_diffU hb x).2 ⟨v, fun e => h e.symm⟩
  · obtain ⟨v, h⟩ := (mem_diffU hb x).1 hx
    exact (mem_diffU ha x).2 ⟨v, fun e => h e.symm⟩
theorem turnU_via {a b c : List Pr} (ha : Rise a) (hb : Rise b) (hc : Rise c) : (turnU a b).length ≤ (turnU a c).length + (turnU c b).length := by
  rw [diffU_len, diffU_len, diffU_len, ← List.length_append]
  refine nodup_len _ _ (diffU_nodup ha hb) fun x hx => ?_
  obtain ⟨v, h⟩ := (mem_diffU ha x).1 hx
  rw [List.mem_append, mem_diffU ha, mem_diffU hc]
  by_cases h1 : (x, v) ∈ a ↔ (x, v) ∈ c
  · exact .inr ⟨v, fun e => h (h1.trans e)⟩
  · exact .inl ⟨v, h1⟩
theorem turnP_rise {a b : List Pr} (ha : Rise a) (hb : Rise b) : turnP a b = turnU a b := by rw [turnP, ofS_id ha, ofS_id hb]
theorem turnP_back {a b : List Pr} (ha : Rise a) (hb : Rise b) : applyU (applyU a (turnP a b)) (turnP b a) = a := by
  rw [turnP_rise ha hb, turnP_rise hb ha, applyU_turn ha hb, applyU_turn hb ha]
theorem turnP_sym {a b : List Pr} (ha : Rise a) (hb : Rise b) : (turnP a b).length = (turnP b a).length := by
  rw [turnP_rise ha hb, turnP_rise hb ha, turnU_sym ha hb]
theorem turnP_via {a b c : List Pr} (ha : Rise a) (hb : Rise b) (hc : Rise c) : (turnP a b).length ≤ (turnP a c).length + (turnP c b).length := by
  rw [turnP_rise ha hb, turnP_rise ha hc, turnP_rise hc hb]
  exact turnU_via ha hb hc
theorem turnP_len (a b : List Pr) : (turnP a b).length ≤ a.length + b.length := by
  have h1 := setsU_len (dropsU (ofS b) (ofS a) (ofS a).length) (ofS a) (ofS b) (ofS b).length
  have h2 := dropsU_len (ofS b) (ofS a) (ofS a).length
  have h3 := ofS_len a
  have h4 := ofS_len b
  rw [turnP, turnU]
  omega
theorem turnP_one (p : Pr) : (turnP [] (ofS [p])).length = 1 := by
  simp [turnP, turnU, ofS, ofTo, putS, dropsU, setsU, memP]

end Go.Proofs.YtaalhglooipnaaaGreat
