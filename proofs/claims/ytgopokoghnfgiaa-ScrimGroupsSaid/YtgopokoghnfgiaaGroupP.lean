/-
  Plain law: a group's kids, a round.
-/
import Derived.Test.YtgopokoghnfgiaaGroupF
namespace Go.Proofs.Ytgopokoghnfgiaa

structure Inv (r : Nat) (kids : List Mb) (next : Nat) : Prop where
  nodup : ∀ i, i < kids.length → ∀ j, j < i → (kids.getD j mb0).1 ≠ (kids.getD i mb0).1
  lo : ∀ i, i < kids.length → 1 ≤ (kids.getD i mb0).1 ∧ (kids.getD i mb0).1 < (next : Int)
  once : OnceK kids
  short : ∀ i, (kids.getD i mb0).2.1.size ≤ 20
  len : kids.length ≤ 6 * r
  nx : next ≤ 6 * r + 1
  pos : 1 ≤ next
theorem Inv.id_inj {r : Nat} {kids : List Mb} {next : Nat} (h : Inv r kids next) {i j : Nat} (hi : i < kids.length) (hj : j < kids.length) (e : (kids.getD i mb0).1 = (kids.getD j mb0).1) : i = j := by
  rcases Nat.lt_trichotomy i j with hlt | h0 | hlt
  · exact absurd e (h.nodup j hj i hlt)
  · exact h0
  · exact absurd e.symm (h.nodup i hi j hlt)
theorem Inv.key_inj {r : Nat} {kids : List Mb} {next : Nat} (h : Inv r kids next) {i j : Nat} (hi : i < kids.length) (hj : j < kids.length) (e : (kids.getD i mb0).2.1 = (kids.getD j mb0).2.1) : i = j := by
  rcases Nat.lt_trichotomy i j with hlt | h0 | hlt
  · exact absurd e (h.once j hj i hlt)
  · exact h0
  · exact absurd e.symm (h.once i hi j hlt)
def oldG (kids : List Mb) : List Gk := kids.map (·.2)
theorem oldG_len (kids : List Mb) : (oldG kids).length = kids.length := by simp [oldG]
theorem oldG_at (kids : List Mb) (i : Nat) : (oldG kids).getD i gk0 = (kids.getD i mb0).2 := by
  by_cases h : i < kids.length
  · simp [oldG, List.getD, h]
  · simp [oldG, List.getD, Nat.not_lt.1 h, gk0, mb0]
theorem Inv.kd {r : Nat} {kids : List Mb} {next : Nat} (h : Inv r kids next) : KD (oldG kids) := by
  refine ⟨fun i hi j hj => ?_, fun i => ?_⟩
  · rw [oldG_at, oldG_at]
    exact h.once i (by rwa [oldG_len] at hi) j hj
  · rw [oldG_at]; exact h.short i
theorem KS.inj {keys : List ByteArray} (h : KS keys) {i j : Nat} (hi : i < keys.length) (hj : j < keys.length) (e : keys.getD i ByteArray.empty = keys.getD j ByteArray.empty) : i = j := by
  rcases Nat.lt_trichotomy i j with hlt | h0 | hlt
  · exact absurd e (h.apart j hj i hlt)
  · exact h0
  · exact absurd e.symm (h.apart i hi j hlt)

section
variable {r : Nat} {kids : List Mb} {next : Nat} {keys : List ByteArray}
abbrev tk (kids : List Mb) (keys : List ByteArray) (k : Nat) : Int := (takeL (oldG kids) keys).getD k 0
theorem tk_cases (h : Inv r kids next) {k : Nat} (hk : k < keys.length) :
    (tk kids keys k = -1 ∧ ∀ i, i < kids.length → (kids.getD i mb0).2.1 ≠ keys.getD k ByteArray.empty) ∨ ∃ j : Nat, j < kids.length ∧ tk kids keys k = (j : Nat) ∧ (kids.getD j mb0).2.1 = keys.getD k ByteArray.empty := by
  rw [tk, takeL_at _ _ _ hk, oldG_len]
  by_cases hex : ∃ j, j < kids.length ∧ (kids.getD j mb0).2.1 = keys.getD k ByteArray.empty
  · obtain ⟨j, hj, e⟩ := hex
    have := bestTo_old h.kd kids.length j hj (by rw [oldG_len]; omega)
    rw [oldG_at, e] at this
    exact .inr ⟨j, hj, by rw [this]; simp, e⟩
  · have hne : ∀ i, i < kids.length → (kids.getD i mb0).2.1 ≠ keys.getD k ByteArray.empty := fun i hi e => hex ⟨i, hi, e⟩
    have := bestTo_none (ks := oldG kids) (keys.getD k ByteArray.empty) kids.length (fun i hi => by rw [oldG_at]; exact hne i hi)
    exact .inl ⟨by rw [this]; rfl, hne⟩
theorem tk_inj (h : Inv r kids next) (hs : KS keys) {k k' : Nat} (hk : k < keys.length) (hk' : k' < keys.length) {j : Nat} (e : tk kids keys k = (j : Nat)) (e' : tk kids keys k' = (j : Nat)) : k = k' := by
  rcases tk_cases h hk with ⟨h1, _⟩ | ⟨a, _, h1, h2⟩
  · omega
  rcases tk_cases h hk' with ⟨h3, _⟩ | ⟨b, _, h3, h4⟩
  · omega
  obtain rfl : a = b := by omega
  exact hs.inj hk hk' (h2.symm.trans h4)
theorem tk_mem (j : Nat) : (takeL (oldG kids) keys).contains (j : Int) = true ↔ ∃ k, k < keys.length ∧ tk kids keys k = (j : Nat) := by
  rw [List.contains_iff_mem]
  constructor
  · intro h
    obtain ⟨k, h1, h2⟩ := List.mem_iff_getElem.1 h
    have h3 : k < keys.length := by rwa [takeL_len] at h1
    exact ⟨k, h3, by rw [← h2, tk]; simp [List.getD, h1]⟩
  · rintro ⟨k, h1, h2⟩
    have h3 : k < (takeL (oldG kids) keys).length := by rwa [takeL_len]
    have e : (takeL (oldG kids) keys).getD k 0 = (takeL (oldG kids) keys)[k] := by simp [List.getD, h3]
    rw [← h2, tk, e]
    exact List.getElem_mem h3

/-- Who is a ghost from then on: who isn't taken. -/
def goneB (kids : List Mb) (keys : List ByteArray) (j : Nat) : Bool := (ghTo (oldG kids) (leaveTo (oldG kids) keys (oldG kids).length) (takeL (oldG kids) keys) kids.length).contains (j : Int)
theorem leave_mem (ks : List Gk) : ∀ k (j : Nat), (j : Int) ∈ leaveTo ks keys k ↔ j < k ∧ (!(ks.getD j gk0).2 && !(hadTo (takeL ks keys) j keys.length)) = true := by
  intro k
  induction k with
  | zero => intro j; exact ⟨fun h => (by cases h), fun h => (by omega)⟩
  | succ k ih =>
    intro j
    rw [leaveTo]
    split
    · rename_i h
      rw [List.mem_append, ih, List.mem_singleton]
      constructor
      · rintro (⟨h1, h2⟩ | h1)
        · exact ⟨by omega, h2⟩
        · obtain rfl : j = k := by omega
          exact ⟨by omega, h⟩
      · rintro ⟨h1, h2⟩
        by_cases e : j = k
        · exact .inr (by rw [e])
        · exact .inl ⟨by omega, h2⟩
    · rename_i h
      rw [ih]
      constructor
      · rintro ⟨h1, h2⟩; exact ⟨by omega, h2⟩
      · rintro ⟨h1, h2⟩
        by_cases e : j = k
        · subst e; exact absurd h2 h
        · exact ⟨by omega, h2⟩
theorem gh_mem (ks : List Gk) (L T : List Int) : ∀ k (j : Nat), (j : Int) ∈ ghTo ks L T k ↔ j < k ∧ (L.contains (j : Int) || ((ks.getD j gk0).2 && !(T.contains (j : Int)))) = true := by
  intro k
  induction k with
  | zero => intro j; exact ⟨fun h => (by cases h), fun h => (by omega)⟩
  | succ k ih =>
    intro j
    rw [ghTo]
    split
    · rename_i h
      rw [List.mem_append, ih, List.mem_singleton]
      constructor
      · rintro (⟨h1, h2⟩ | h1)
        · exact ⟨by omega, h2⟩
        · obtain rfl : j = k := by omega
          exact ⟨by omega, h⟩
      · rintro ⟨h1, h2⟩
        by_cases e : j = k
        · exact .inr (by rw [e])
        · exact .inl ⟨by omega, h2⟩
    · rename_i h
      rw [ih]
      constructor
      · rintro ⟨h1, h2⟩; exact ⟨by omega, h2⟩
      · rintro ⟨h1, h2⟩
        by_cases e : j = k
        · subst e; exact absurd h2 h
        · exact ⟨by omega, h2⟩
theorem goneB_eq (j : Nat) (hj : j < kids.length) : goneB kids keys j = !((takeL (oldG kids) keys).contains (j : Int)) := by
  rw [Bool.eq_iff_iff, goneB, List.contains_iff_mem, gh_mem]
  have hl : (leaveTo (oldG kids) keys (oldG kids).length).contains (j : Int) = (!((oldG kids).getD j gk0).2 && !((takeL (oldG kids) keys).contains (j : Int))) := by
    rw [Bool.eq_iff_iff, List.contains_iff_mem, leave_mem, hadTo_end _ _ _ (by rw [takeL_len]; omega)]
    exact ⟨fun h => h.2, fun h => ⟨by rw [oldG_len]; exact hj, h⟩⟩
  rw [hl]
  generalize ((oldG kids).getD j gk0).2 = a
  generalize (takeL (oldG kids) keys).contains (j : Int) = b
  cases a <;> cases b <;> simp [hj]

/-- The next free number. -/
def nxTo (kids : List Mb) (next : Nat) (keys : List ByteArray) : Nat → Nat
  | 0 => next
  | k + 1 => if tk kids keys k = -1 then nxTo kids next keys k + 1 else nxTo kids next keys k
theorem nxTo_le (kids : List Mb) (next : Nat) (keys : List ByteArray) (k : Nat) : next ≤ nxTo kids next keys k ∧ nxTo kids next keys k ≤ next + k := by
  induction k with
  | zero => exact ⟨Nat.le_refl _, Nat.le_refl _⟩
  | succ k ih =>
    rw [nxTo]
    split <;> omega
theorem nxTo_mono (kids : List Mb) (next : Nat) (keys : List ByteArray) {k k' : Nat} (h : k < k') (hk : tk kids keys k = -1) : nxTo kids next keys k < nxTo kids next keys k' := by
  induction k' with
  | zero => omega
  | succ k' ih =>
    rw [nxTo]
    by_cases e : k = k'
    · subst e; rw [if_pos hk]; omega
    · have := ih (by omega)
      split <;> omega
/-- Who lives, key by key. -/
def lv (kids : List Mb) (next : Nat) (keys : List ByteArray) (k : Nat) : Int := if tk kids keys k = -1 then (nxTo kids next keys k : Nat) else (kids.getD (tk kids keys k).toNat mb0).1
def liveTo (kids : List Mb) (next : Nat) (keys : List ByteArray) (k : Nat) : List Int := (List.range k).map (lv kids next keys)
theorem liveTo_succ (kids : List Mb) (next : Nat) (keys : List ByteArray) (k : Nat) : liveTo kids next keys (k + 1) = liveTo kids next keys k ++ [lv kids next keys k] := by simp [liveTo, List.range_succ]
theorem liveTo_len (kids : List Mb) (next : Nat) (keys : List ByteArray) (k : Nat) : (liveTo kids next keys k).length = k := by simp [liveTo]
theorem lv_inj (h : Inv r kids next) (hs : KS keys) {k k' : Nat} (hk : k < keys.length) (hk' : k' < keys.length) (e : lv kids next keys k = lv kids next keys k') : k = k' := by
  rw [lv, lv] at e
  rcases tk_cases h hk with ⟨h1, _⟩ | ⟨a, ha, h1, h2⟩
  · rw [if_pos h1] at e
    rcases tk_cases h hk' with ⟨h3, _⟩ | ⟨b, hb, h3, h4⟩
    · rw [if_pos h3] at e
      rcases Nat.lt_trichotomy k k' with hlt | h0 | hlt
      · have := nxTo_mono kids next keys hlt h1; omega
      · exact h0
      · have := nxTo_mono kids next keys hlt h3; omega
    · rw [if_neg (by omega), h3] at e
      have := (h.lo b hb).2
      have := (nxTo_le kids next keys k).1
      simp only [Int.toNat_natCast] at e
      omega
  · rw [if_neg (by omega), h1] at e
    rcases tk_cases h hk' with ⟨h3, _⟩ | ⟨b, hb, h3, h4⟩
    · rw [if_pos h3] at e
      have := (h.lo a ha).2
      have := (nxTo_le kids next keys k').1
      simp only [Int.toNat_natCast] at e
      omega
    · rw [if_neg (by omega), h3] at e
      simp only [Int.toNat_natCast] at e
      obtain rfl := h.id_inj ha hb e
      exact tk_inj h hs hk hk' h1 h3
theorem lv_lo (h : Inv r kids next) {k : Nat} (hk : k < keys.length) : 1 ≤ next → 1 ≤ lv kids next keys k ∧ lv kids next keys k < (nxTo kids next keys (k + 1) : Nat) := by
  intro hn
  rw [lv, nxTo]
  rcases tk_cases h hk with ⟨h1, _⟩ | ⟨a, ha, h1, h2⟩
  · rw [if_pos h1, if_pos h1]
    have := (nxTo_le kids next keys k).1
    omega
  · rw [if_neg (by omega), if_neg (by omega), h1]
    have := h.lo a ha
    have := (nxTo_le kids next keys k).1
    simp only [Int.toNat_natCast]
    omega

/-- All that there are, behind the first loop. -/
def allA (kids : List Mb) (keys : List ByteArray) : Nat → Int → Mb
  | 0 => fun _ => mb0
  | k + 1 => setF (allA kids keys k) (kids.getD k mb0).1 ((kids.getD k mb0).1, (kids.getD k mb0).2.1, goneB kids keys k)
theorem allA_at (h : Inv r kids next) : ∀ k j, j < k → k ≤ kids.length → allA kids keys k (kids.getD j mb0).1 = ((kids.getD j mb0).1, (kids.getD j mb0).2.1, goneB kids keys j) := by
  intro k
  induction k with
  | zero => intro j h1; omega
  | succ k ih =>
    intro j h1 h2
    rw [allA]
    by_cases e : j = k
    · subst e; rw [setF_same]
    · rw [setF_other _ _ (h.nodup k (by omega) j (by omega))]
      exact ih j (by omega) (by omega)
def mbK (kids : List Mb) (next : Nat) (keys : List ByteArray) (k : Nat) : Mb := (lv kids next keys k, keys.getD k ByteArray.empty, false)
def allTo (kids : List Mb) (next : Nat) (keys : List ByteArray) : Nat → Int → Mb
  | 0 => allA kids keys kids.length
  | k + 1 => setF (allTo kids next keys k) (lv kids next keys k) (mbK kids next keys k)
theorem allTo_new (h : Inv r kids next) (hs : KS keys) : ∀ k, k ≤ keys.length → ∀ i, k ≤ i → i < keys.length → allTo kids next keys k (lv kids next keys i) = allA kids keys kids.length (lv kids next keys i) := by
  intro k
  induction k with
  | zero => intro _ i _ _; rfl
  | succ k ih =>
    intro hk i h1 h2
    rw [allTo, setF_other _ _ (fun e => by have := lv_inj h hs h2 (by omega) e; omega)]
    exact ih (by omega) i (by omega) h2
theorem allTo_lv (h : Inv r kids next) (hs : KS keys) : ∀ k, k ≤ keys.length → ∀ i, i < k → allTo kids next keys k (lv kids next keys i) = mbK kids next keys i := by
  intro k
  induction k with
  | zero => intro _ i h1; omega
  | succ k ih =>
    intro hk i h1
    rw [allTo]
    by_cases e : i = k
    · subst e; rw [setF_same]
    · rw [setF_other _ _ (fun e2 => e (lv_inj h hs (by omega) (by omega) e2))]
      exact ih (by omega) i (by omega)
theorem allTo_far : ∀ k (x : Int), (∀ i, i < k → lv kids next keys i ≠ x) → allTo kids next keys k x = allA kids keys kids.length x := by
  intro k
  induction k with
  | zero => intro x _; rfl
  | succ k ih =>
    intro x hx
    rw [allTo, setF_other _ _ (fun e => hx k (by omega) e.symm)]
    exact ih x fun i hi => hx i (by omega)
/-- A kid that isn't taken isn't among those that live. -/
theorem lv_kid (h : Inv r kids next) {k j : Nat} (hk : k < keys.length) (hj : j < kids.length) : lv kids next keys k = (kids.getD j mb0).1 ↔ tk kids keys k = (j : Nat) := by
  rw [lv]
  rcases tk_cases h hk with ⟨h1, _⟩ | ⟨a, ha, h1, h2⟩
  · rw [if_pos h1]
    have := (h.lo j hj).2
    have := (nxTo_le kids next keys k).1
    constructor <;> intro e <;> omega
  · rw [if_neg (by omega), h1]
    simp only [Int.toNat_natCast]
    constructor
    · intro e; rw [h.id_inj ha hj e]
    · intro e; obtain rfl : a = j := by omega
      rfl
end

end Go.Proofs.Ytgopokoghnfgiaa
