/-
  The plain law of the steps of layer 12.
-/
import Derived.Test.YtgopokoghnfgiaaWovAp
namespace Go.Proofs.Ytgopokoghnfgiaa

open Classical in
theorem sub_filter {α : Type} {s l : List α} (h : s.Sublist l) : l.Nodup → l.filter (fun x => decide (x ∈ s)) = s := by
  induction h with
  | slnil => intro _; rfl
  | cons x hs ih =>
    intro hn
    obtain ⟨h1, h2⟩ := List.nodup_cons.1 hn
    rw [List.filter_cons, if_neg (by simpa using fun e => h1 (hs.subset e))]
    exact ih h2
  | cons_cons x hs ih =>
    rename_i s l
    intro hn
    obtain ⟨h1, h2⟩ := List.nodup_cons.1 hn
    rw [List.filter_cons, if_pos (by simp)]
    refine congrArg _ ((List.filter_congr fun y hy => ?_).trans (ih h2))
    have hyx : y ≠ x := fun e => h1 (e ▸ hy)
    simp [hyx]
theorem rise_drop (l : List Int) : ∀ (R : List Nat) (k : Nat), R.Pairwise (· < ·) → (∀ r ∈ R, k ≤ r ∧ r < l.length) → (R.map fun r => l.getD r 0).Sublist (l.drop k)
  | [], _, _, _ => List.nil_sublist _
  | r :: R, k, h, hr => by
    obtain ⟨h1, h2⟩ := List.pairwise_cons.1 h
    obtain ⟨hk, hl⟩ := hr r (by simp)
    have ih := rise_drop l R (r + 1) h2 fun q hq => ⟨h1 q hq, (hr q (by simp [hq])).2⟩
    have e : l.drop r = l.getD r 0 :: l.drop (r + 1) := by
      rw [List.drop_eq_getElem_cons hl]; simp [List.getD, hl]
    have h3 : (l.drop r).Sublist (l.drop k) := by
      have : l.drop r = (l.drop k).drop (r - k) := by rw [List.drop_drop]; congr 1; omega
      rw [this]; exact List.drop_sublist _ _
    refine List.Sublist.trans ?_ h3
    rw [e, List.map_cons]
    exact ih.cons_cons _
theorem rise_sub (l : List Int) (R : List Nat) (h : R.Pairwise (· < ·)) (hl : ∀ r ∈ R, r < l.length) : (R.map fun r => l.getD r 0).Sublist l := by
  have := rise_drop l R 0 h fun r hr => ⟨Nat.zero_le _, hl r hr⟩
  rwa [List.drop_zero] at this
theorem split_eq {y : Int} : ∀ {A A' B B' : List Int}, y ∉ A → y ∉ A' → A ++ y :: B = A' ++ y :: B' → A = A' ∧ B = B'
  | [], [], _, _, _, _, h => by simpa using h
  | [], a :: A', _, _, _, h2, h => by
    simp at h
    exact absurd (by simp [h.1]) h2
  | a :: A, [], _, _, h1, _, h => by
    simp at h
    exact absurd (by simp [h.1]) h1
  | a :: A, b :: A', B, B', h1, h2, h => by
    simp only [List.cons_append, List.cons.injEq] at h
    obtain ⟨h3, h4⟩ := split_eq (fun e => h1 (by simp [e])) (fun e => h2 (by simp [e])) h.2
    exact ⟨by rw [h.1, h3], h4⟩

theorem stateTo_app (l : List Int) (st : List Wst) (s : Wst) : ∀ k, k ≤ st.length → stateTo l (st ++ [s]) k = stateTo l st k
  | 0, _ => rfl
  | k + 1, h => by
    rw [stateTo, stateTo, stateTo_app l st s k (by omega)]
    congr 1
    simp [List.getD, List.getElem?_append_left (show k < st.length by omega)]
theorem movesTo_app (st : List Wst) (s : Wst) : ∀ k, k ≤ st.length → movesTo (st ++ [s]) k = movesTo st k
  | 0, _ => rfl
  | k + 1, h => by
    have e : (st ++ [s]).getD k wst0 = st.getD k wst0 := by simp [List.getD, List.getElem?_append_left (show k < st.length by omega)]
    rw [movesTo, movesTo, movesTo_app st s k (by omega), e]
theorem movesS_app (st : List Wst) (s : Wst) : movesS (st ++ [s]) = if s.1 = 3 then movesS st + 1 else movesS st := by
  have e : (st ++ [s]).getD st.length wst0 = s := by simp [List.getD]
  rw [movesS, List.length_append]
  show movesTo (st ++ [s]) (st.length + 1) = _
  rw [movesTo, movesTo_app st s _ (Nat.le_refl _), e, movesS]

theorem nodup_len : ∀ (l l' : List Int), l.Nodup → (∀ x ∈ l, x ∈ l') → l.length ≤ l'.length
  | [], _, _, _ => Nat.zero_le _
  | x :: l, l', hn, hs => by
    obtain ⟨h1, h2⟩ := List.nodup_cons.1 hn
    have hx := hs x (by simp)
    have := nodup_len l (l'.erase x) h2 fun y hy => by
      have hyx : y ≠ x := fun e => h1 (e ▸ hy)
      exact (List.mem_erase_of_ne hyx).2 (hs y (by simp [hy]))
    rw [List.length_erase_of_mem hx] at this
    have h3 : 0 < l'.length := List.length_pos_of_mem hx
    simp only [List.length_cons]
    omega
theorem kind3 (p : Prop) [Decidable p] : (if p then (3 : Int) else 2) = 3 ↔ p := by by_cases h : p <;> simp [h]
def mvL (fm S tt : List Int) (k : Nat) : Nat := ((tt.drop (tt.length - k)).filter fun x => decide (x ∈ fm) && !decide (x ∈ S)).length
def pT (S tt : List Int) (k : Nat) (x : Int) : Bool := decide (x ∈ S) || decide (x ∈ tt.drop (tt.length - k))
/-- k rounds from the end on. -/
structure Wv (fm S tt : List Int) (k : Nat) (now : List Int) (st : List Wst) : Prop where
  nd : now.Nodup
  mem : ∀ x, x ∈ now ↔ x ∈ fm ∨ x ∈ tt.drop (tt.length - k)
  ord : now.filter (pT S tt k) = tt.filter (pT S tt k)
  end_ : stateTo fm st st.length = now
  ok : ∀ j, j < st.length → OkW (stateTo fm st j) (st.getD j wst0)
  mv : movesS st = mvL fm S tt k
  len : st.length ≤ k
structure Fit (fm S tt : List Int) : Prop where
  nf : fm.Nodup
  nt : tt.Nodup
  ft : ∀ x ∈ fm, x ∈ tt
  sf : ∀ x ∈ S, x ∈ fm
  so : fm.filter (fun x => decide (x ∈ S)) = tt.filter (fun x => decide (x ∈ S))
theorem Wv.zero {fm S tt : List Int} (f : Fit fm S tt) : Wv fm S tt 0 fm [] := by
  refine ⟨f.nf, fun x => by simp, ?_, rfl, fun j h => by simp at h, by simp [movesS, movesTo, mvL], Nat.le_refl _⟩
  have hp : pT S tt 0 = fun x => decide (x ∈ S) := by funext x; simp [pT]
  rw [hp]
  exact f.so
section
variable {fm S tt now : List Int} {st : List Wst} {k : Nat}
theorem drop_round (h : k < tt.length) : tt.drop (tt.length - (k + 1)) = tt.getD (tt.length - 1 - k) 0 :: tt.drop (tt.length - k) := by
  have hi : tt.length - 1 - k < tt.length := by omega
  rw [show tt.length - (k + 1) = tt.length - 1 - k by omega, List.drop_eq_getElem_cons hi, show tt.length - 1 - k + 1 = tt.length - k by omega]
  simp [List.getD, hi]
theorem Wv.skip (f : Fit fm S tt) (w : Wv fm S tt k now st) (h : k < tt.length) (hs : tt.getD (tt.length - 1 - k) 0 ∈ S) : Wv fm S tt (k + 1) now st := by
  have hd := drop_round h
  obtain ⟨id, hid⟩ : ∃ id, id = tt.getD (tt.length - 1 - k) 0 := ⟨_, rfl⟩
  rw [← hid] at hd hs
  have hp : pT S tt (k + 1) = pT S tt k := by
    funext x
    rw [pT, pT, hd]
    by_cases e : x = id
    · rw [e]; simp [hs]
    · simp [e]
  refine ⟨w.nd, fun x => ?_, by rw [hp]; exact w.ord, w.end_, w.ok, ?_, Nat.le_succ_of_le w.len⟩
  · rw [w.mem, hd, List.mem_cons]
    constructor
    · rintro (h | h)
      · exact .inl h
      · exact .inr (.inr h)
    · rintro (h | rfl | h)
      · exact .inl h
      · exact .inl (f.sf _ hs)
      · exact .inr h
  · rw [w.mv, mvL, mvL, hd, List.filter_cons, if_neg (by simp [hs])]
theorem nd_drop (f : Fit fm S tt) (h : k < tt.length) : tt.getD (tt.length - 1 - k) 0 ∉ tt.drop (tt.length - k) := by
  have h1 : (tt.drop (tt.length - (k + 1))).Nodup := f.nt.sublist (List.drop_sublist _ _)
  rw [drop_round h] at h1
  exact (List.nodup_cons.1 h1).1
/-- What is there behind a number has been taken out. -/
def now1 (fm : List Int) (id : Int) (now : List Int) : List Int := if id ∈ fm then offI id now else now
theorem now1_mem (w : Wv fm S tt k now st) (f : Fit fm S tt) (h : k < tt.length) (x : Int) : x ∈ now1 fm (tt.getD (tt.length - 1 - k) 0) now ↔ x ∈ now ∧ x ≠ tt.getD (tt.length - 1 - k) 0 := by
  have hnd := nd_drop f h
  rw [now1]
  split
  · simp [offI, isI]
  · rename_i hn
    constructor
    · intro hx
      refine ⟨hx, fun e => ?_⟩
      rw [e, w.mem] at hx
      exact hx.elim hn hnd
    · exact fun h => h.1
theorem now1_nd (w : Wv fm S tt k now st) (id : Int) : (now1 fm id now).Nodup := by
  rw [now1]
  split
  · exact w.nd.sublist List.filter_sublist
  · exact w.nd
theorem Wv.next (f : Fit fm S tt) (w : Wv fm S tt k now st) (h : k < tt.length) (hk : k ≠ 0) : tt.getD (tt.length - 1 - k + 1) 0 ∈ now1 fm (tt.getD (tt.length - 1 - k) 0) now := by
  rw [now1_mem w f h, w.mem]
  have hi : tt.length - k < tt.length := by omega
  have e : tt.getD (tt.length - 1 - k + 1) 0 ∈ tt.drop (tt.length - k) := by
    have e3 : tt.getD (tt.length - k) 0 = tt[tt.length - k] := by simp [List.getD, hi]
    rw [show tt.length - 1 - k + 1 = tt.length - k by omega, List.drop_eq_getElem_cons hi, e3]
    exact List.mem_cons_self
  refine ⟨.inr e, fun e2 => ?_⟩
  rw [e2] at e
  exact nd_drop f h e
theorem Wv.step (f : Fit fm S tt) (w : Wv fm S tt k now st) (h : k < tt.length) (hs : tt.getD (tt.length - 1 - k) 0 ∉ S) (a : Nat)
    (ha : (k = 0 ∧ a = (now1 fm (tt.getD (tt.length - 1 - k) 0) now).length) ∨ (k ≠ 0 ∧ a < (now1 fm (tt.getD (tt.length - 1 - k) 0) now).length ∧ (now1 fm (tt.getD (tt.length - 1 - k) 0) now).getD a 0 = tt.getD (tt.length - 1 - k + 1) 0)) :
    Wv fm S tt (k + 1) (insI (now1 fm (tt.getD (tt.length - 1 - k) 0) now) a (tt.getD (tt.length - 1 - k) 0)) (st ++ [(if tt.getD (tt.length - 1 - k) 0 ∈ fm then 3 else 2, tt.getD (tt.length - 1 - k) 0, (a : Int))]) := by
  have hd := drop_round h
  have hnd := nd_drop f h
  have hm1 := now1_mem w f h
  have hn1 := now1_nd w (fm := fm) (tt.getD (tt.length - 1 - k) 0)
  have hi : tt.length - 1 - k < tt.length := by omega
  have htt : tt = tt.take (tt.length - 1 - k) ++ tt.getD (tt.length - 1 - k) 0 :: tt.drop (tt.length - k) := by
    have e := List.take_append_drop (tt.length - 1 - k) tt
    rw [show tt.drop (tt.length - 1 - k) = tt.drop (tt.length - (k + 1)) by congr 1; omega, hd] at e
    exact e.symm
  have hnx : k ≠ 0 → tt.drop (tt.length - k) = tt.getD (tt.length - 1 - k + 1) 0 :: tt.drop (tt.length - k + 1) := fun hk => by
    have hi : tt.length - k < tt.length := by omega
    rw [show tt.length - 1 - k + 1 = tt.length - k by omega, List.drop_eq_getElem_cons hi]
    simp [List.getD, hi]
  have hal : a ≤ (now1 fm (tt.getD (tt.length - 1 - k) 0) now).length := by rcases ha with h | h <;> omega
  obtain ⟨id, hid⟩ : ∃ id, id = tt.getD (tt.length - 1 - k) 0 := ⟨_, rfl⟩
  obtain ⟨q, hq⟩ : ∃ q, q = now1 fm id now := ⟨_, rfl⟩
  rw [← hid] at hd hnd hm1 hn1 hal ha hs htt ⊢
  have hkind := kind3 (id ∈ fm)
  have hbase : baseW now (if id ∈ fm then (3 : Int) else 2, id, (a : Int)) = now1 fm id now := by
    rw [baseW, now1]
    by_cases hf : id ∈ fm
    · simp only [if_pos hf, if_true]
    · simp only [if_neg hf]
      rfl
  rw [← hq] at hm1 hn1 hbase hal ha ⊢
  have hidq : id ∉ q := fun e => ((hm1 id).1 e).2 rfl
  have hqs := List.take_append_drop a q
  have hpk : pT S tt k id = false := by simp [pT, hs, hnd]
  have hpe : ∀ x, x ≠ id → pT S tt (k + 1) x = pT S tt k x := fun x hx => by simp [pT, hd, hx]
  have hpi : pT S tt (k + 1) id = true := by simp [pT, hd]
  have hFq : q.filter (pT S tt k) = tt.filter (pT S tt k) := by
    rw [← w.ord, hq, now1]
    split
    · rw [offI, List.filter_filter]
      refine List.filter_congr fun x _ => ?_
      by_cases e : x = id
      · rw [e, hpk]; rfl
      · simp [isI, e]
    · rfl
  have hFd : (tt.drop (tt.length - k)).filter (pT S tt k) = tt.drop (tt.length - k) := List.filter_eq_self.2 fun x hx => by simp [pT, hx]
  have hfil : ∀ p : Int → Bool, tt.filter p = (tt.take (tt.length - 1 - k)).filter p ++ (id :: tt.drop (tt.length - k)).filter p := fun p => by
    conv => lhs; rw [htt]
    rw [List.filter_append]
  have hFt : tt.filter (pT S tt k) = (tt.take (tt.length - 1 - k)).filter (pT S tt k) ++ tt.drop (tt.length - k) := by
    rw [hfil, List.filter_cons, if_neg (by rw [hpk]; decide), hFd]
  have hnt : id ∉ tt.take (tt.length - 1 - k) := by
    have := f.nt
    rw [htt] at this
    exact fun e => (List.nodup_append.1 this).2.2 _ e _ (by simp) rfl
  have hsplit : (q.take a).filter (pT S tt k) = (tt.take (tt.length - 1 - k)).filter (pT S tt k) ∧ (q.drop a).filter (pT S tt k) = tt.drop (tt.length - k) := by
    have e : (q.take a).filter (pT S tt k) ++ (q.drop a).filter (pT S tt k) = (tt.take (tt.length - 1 - k)).filter (pT S tt k) ++ tt.drop (tt.length - k) := by
      rw [← List.filter_append, hqs, hFq, hFt]
    rcases ha with ⟨hk0, ha⟩ | ⟨hk0, hal2, hay⟩
    · subst hk0
      have e2 : tt.drop (tt.length - 0) = [] := by simp
      have e3 : q.drop a = [] := by rw [ha]; simp
      rw [e2] at e ⊢
      rw [e3] at e ⊢
      exact ⟨by simpa using e, rfl⟩
    · have hy := hnx hk0
      have e3 : q.drop a = tt.getD (tt.length - 1 - k + 1) 0 :: q.drop (a + 1) := by
        rw [List.drop_eq_getElem_cons hal2, ← hay]; simp [List.getD, hal2]
      obtain ⟨y, hyy⟩ : ∃ y, y = tt.getD (tt.length - 1 - k + 1) 0 := ⟨_, rfl⟩
      rw [← hyy] at hy e3
      have hpy : pT S tt k y = true := by simp [pT, hy]
      have hy1 : y ∉ (q.take a).filter (pT S tt k) := fun h => by
        have h1 := (List.mem_filter.1 h).1
        have h2 := hn1
        rw [← hqs, e3] at h2
        exact (List.nodup_append.1 h2).2.2 _ h1 _ (by simp) rfl
      have hy2 : y ∉ (tt.take (tt.length - 1 - k)).filter (pT S tt k) := fun h => by
        have h1 := (List.mem_filter.1 h).1
        have h2 := f.nt
        rw [htt, hy] at h2
        exact (List.nodup_append.1 h2).2.2 _ h1 _ (by simp) rfl
      rw [e3, List.filter_cons, if_pos hpy, hy] at e
      obtain ⟨e4, e5⟩ := split_eq hy1 hy2 e
      refine ⟨e4, ?_⟩
      rw [e3, List.filter_cons, if_pos hpy, e5, hy]
  have hswap : ∀ l : List Int, id ∉ l → l.filter (pT S tt (k + 1)) = l.filter (pT S tt k) := fun l hl => List.filter_congr fun x hx => hpe x fun e => hl (e ▸ hx)
  refine ⟨?_, fun x => ?_, ?_, ?_, fun j hj => ?_, ?_, by rw [List.length_append]; have := w.len; simp; omega⟩
  · rw [insI]
    have h1 : (q.take a ++ q.drop a).Nodup := by rw [hqs]; exact hn1
    obtain ⟨n1, n2, n3⟩ := List.nodup_append.1 h1
    refine List.nodup_append.2 ⟨n1, List.nodup_cons.2 ⟨fun e => hidq (List.mem_of_mem_drop e), n2⟩, fun x hx y hy => ?_⟩
    rcases List.mem_cons.1 hy with rfl | hy
    · exact fun e => hidq (e ▸ List.mem_of_mem_take hx)
    · exact n3 x hx y hy
  · have e : x ∈ insI q a id ↔ x = id ∨ x ∈ q := by
      rw [insI, List.mem_append, List.mem_cons]
      conv => rhs; rw [← hqs, List.mem_append]
      constructor
      · rintro (h | h | h)
        · exact .inr (.inl h)
        · exact .inl h
        · exact .inr (.inr h)
      · rintro (h | h | h)
        · exact .inr (.inl h)
        · exact .inl h
        · exact .inr (.inr h)
    rw [e, hm1, w.mem, hd, List.mem_cons]
    constructor
    · rintro (h | ⟨h | h, _⟩)
      · exact .inr (.inl h)
      · exact .inl h
      · exact .inr (.inr h)
    · rintro (h | h | h)
      · by_cases e : x = id
        · exact .inl e
        · exact .inr ⟨.inl h, e⟩
      · exact .inl h
      · exact .inr ⟨.inr h, fun e => hnd (e ▸ h)⟩
  · rw [insI, List.filter_append, List.filter_cons, if_pos hpi, hswap _ (fun e => hidq (List.mem_of_mem_take e)), hswap _ (fun e => hidq (List.mem_of_mem_drop e)), hsplit.1, hsplit.2]
    rw [hfil, List.filter_cons, if_pos hpi, hswap _ hnt, hswap _ hnd, hFd]
  · have e1 : (st ++ [(if id ∈ fm then (3 : Int) else 2, id, (a : Int))]).getD st.length wst0 = (if id ∈ fm then (3 : Int) else 2, id, (a : Int)) := by simp [List.getD]
    rw [List.length_append]
    show stateTo fm (st ++ [_]) (st.length + 1) = _
    rw [stateTo, stateTo_app fm st _ _ (Nat.le_refl _), w.end_, e1, stepW, hbase]
    simp
  · rw [List.length_append] at hj
    simp only [List.length_cons, List.length_nil] at hj
    by_cases e : j = st.length
    · subst e
      have e1 : (st ++ [(if id ∈ fm then (3 : Int) else 2, id, (a : Int))]).getD st.length wst0 = (if id ∈ fm then (3 : Int) else 2, id, (a : Int)) := by simp [List.getD]
      rw [stateTo_app fm st _ _ (Nat.le_refl _), w.end_, e1]
      refine ⟨?_, by simp, by rw [hbase]; simpa using hal⟩
      by_cases hf : id ∈ fm
      · exact .inr ⟨hkind.2 hf, (w.mem id).2 (.inl hf)⟩
      · exact .inl ⟨if_neg hf, fun e => ((w.mem id).1 e).elim hf hnd⟩
    · have e1 : (st ++ [(if id ∈ fm then (3 : Int) else 2, id, (a : Int))]).getD j wst0 = st.getD j wst0 := by simp [List.getD, List.getElem?_append_left (show j < st.length by omega)]
      rw [stateTo_app fm st _ _ (by omega), e1]
      exact w.ok j (by omega)
  · rw [movesS_app, w.mv, mvL, mvL, hd, List.filter_cons]
    by_cases hf : id ∈ fm
    · rw [if_pos (hkind.2 hf), if_pos (by simp [hf, hs])]; rfl
    · rw [if_neg (fun e => hf (hkind.1 e)), if_neg (by simp [hf])]
theorem Wv.nlen (f : Fit fm S tt) (w : Wv fm S tt k now st) : now.length ≤ tt.length := nodup_len _ _ w.nd fun x hx => ((w.mem x).1 hx).elim (f.ft x) List.mem_of_mem_drop
/-- At the end it is what was wanted. -/
theorem Wv.fin (f : Fit fm S tt) (w : Wv fm S tt tt.length now st) : now = tt := by
  have hp : ∀ x, x ∈ tt → pT S tt tt.length x = true := fun x hx => by simp [pT, hx]
  have h1 : now.filter (pT S tt tt.length) = now := List.filter_eq_self.2 fun x hx => hp x (by
    rcases (w.mem x).1 hx with h | h
    · exact f.ft x h
    · exact List.mem_of_mem_drop h)
  have h2 : tt.filter (pT S tt tt.length) = tt := List.filter_eq_self.2 hp
  rw [← h1, w.ord, h2]
end

end Go.Proofs.Ytgopokoghnfgiaa
