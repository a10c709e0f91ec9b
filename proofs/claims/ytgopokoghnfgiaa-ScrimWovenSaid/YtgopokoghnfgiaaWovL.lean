/-
  Laws of no program: copy and clear on a row of elements of whatever size; a region that draws its order, by a fact for each of its operations.
-/
import Derived.Test.YtgopokoghnfgiaaGroupA
import Derived.Lib.SmallJoins
import Derived.Laws.CopyOwn
import Derived.Orders
import Derived.RegionTactic
namespace Go.Proofs.Ytgopokoghnfgiaa
open Go.RowKit

section
variable {P : Program}
theorem run_copy_rowK (w : World) (dT sT ty elem : TypeId) (k g o dLen dCap : Nat) (a : Addr) (sLen sCap : Nat) (cur : Array Value) (t : TypeId) (cs : List Value) (N : Nat)
    (hu : P.underlying dT = some (.slice elem)) (hs : (P.info? elem).map (·.size) = some k)
    (hg : w.heap[g]? = some (.cells cur t (0, 0))) (hN : Nat.min sLen dLen = N) (hn : cs.length = N * k)
    (hsrc : ∀ j v, cs[j]? = some v → w.cell? (a.add j) = some v) (hfit : o + cs.length ≤ cur.size) (h1 : ∀ v ∈ cs, v.oneCell' = true) :
    (Builtin.copy_ #[dT, sT] ty #[.slice (some ⟨g, o, none⟩) dLen dCap, .slice (some a) sLen sCap]).run P w =
      .ok (goInt N) (w.setRow g (splice cur.toList o cs).toArray) := by
  have hl := run_loadCells_list (P := P) w a cs hsrc
  have hst := run_storeCells_at P g o t cs 0 cur w hg (by simpa using hfit) h1
  cases hq : P.info? elem with
  | none => simp [hq] at hs
  | some i =>
    have hi : i.size = k := by simpa [hq] using hs
    rw [hn] at hl
    simp [Builtin.copy_, run_underlying hu, Builtin.lenOf, Builtin.firstCells, sizeOf, typeInfo, hq, hi, hN, hl, hst, splice, hn]

theorem run_clear_rowK (w : World) (t e ty : TypeId) (i : TypeInfo) (z : Value) (k : Nat) (ht : P.underlying t = some (.slice e)) (hi : P.info? e = some i) (hz : i.zero = some z) (hk : z.cells.size = k) (h1 : ∀ v ∈ z.cells, v.oneCell' = true)
    (g o n c : Nat) (hn : 0 < n) (cur : Array Value) (hg : w.heap[g]? = some (.cells cur e (0, 0))) (hfit : o + n * k ≤ cur.size) :
    (Builtin.clear_ #[t] ty #[.slice (some ⟨g, o, none⟩) n c]).run P w = .ok (.tuple #[]) (w.setRow g (splice cur.toList o (Builtin.zeroCells z.cells n).toList).toArray) := by
  have hl : (Builtin.zeroCells z.cells n).toList.length = n * k := by rw [Array.length_toList, size_zeroCells, hk]
  have hst := run_storeCells_at P g o e (Builtin.zeroCells z.cells n).toList 0 cur w hg (by rw [hl]; simpa using hfit) (by
    intro v hv
    simp only [Builtin.zeroCells, Array.toList_map, List.mem_map] at hv
    obtain ⟨j, hj, rfl⟩ := hv
    by_cases hz0 : z.cells.size = 0
    · simp [hz0] at hj
    · have hlt : j % z.cells.size < z.cells.size := Nat.mod_lt _ (by omega)
      rw [getElem!_pos z.cells _ hlt]
      exact h1 _ (Array.getElem_mem hlt))
  obtain ⟨m, rfl⟩ : ∃ m, n = m + 1 := ⟨n - 1, by omega⟩
  simp [Builtin.clear_, run_underlying ht, zeroValue, typeInfo, hi, hz, hst, splice]
end

/-- The row after 'clear(s[i:])', of which 's[:i]' is left. -/
theorem own_cut {w : World} {base g n cap : Nat} {e : TypeId} {k : Nat} {xs : List Value} (h : w.ownsRow base e k (.slice (some ⟨g, 0, none⟩) n cap) n xs) (i : Nat) (hi : i ≤ n) : w.ownsRow base e k (.slice (some ⟨g, 0, none⟩) i cap) i (xs.take (i * k)) := by
  have hik : i * k ≤ n * k := Nat.mul_le_mul_right k hi
  rcases h.2 with ⟨h', _⟩ | ⟨g', cap', cur, h', hb, hg, hnc, hcm, hcs, htake⟩
  · simp at h'
  · simp only [Value.slice.injEq, Option.some.injEq, Addr.mk.injEq, and_true, true_and] at h'
    obtain ⟨rfl, rfl⟩ := h'
    refine ⟨by rw [List.length_take, h.1]; omega, .inr ⟨g, cap, cur, rfl, hb, hg, by omega, hcm, hcs, ?_⟩⟩
    rw [← htake, List.take_take, Nat.min_eq_left hik]
theorem own_row {w : World} {base g n cap : Nat} {e : TypeId} {k : Nat} {xs : List Value} (h : w.ownsRow base e k (.slice (some ⟨g, 0, none⟩) n cap) n xs) : ∃ cur : Array Value, base ≤ g ∧ w.heap[g]? = some (.cells cur e (0, 0)) ∧ n ≤ cap ∧ cap ≤ maxLen ∧ cur.size = cap * k ∧ cur.toList.take (n * k) = xs := by
  rcases h.2 with ⟨h', _⟩ | ⟨g', cap', cur, h', hb, hg, hnc, hcm, hcs, htake⟩
  · simp at h'
  · simp only [Value.slice.injEq, Option.some.injEq, Addr.mk.injEq, and_true, true_and] at h'
    obtain ⟨rfl, rfl⟩ := h'
    exact ⟨cur, hb, hg, hnc, hcm, hcs, htake⟩
theorem row_own {w : World} {base g n cap : Nat} {e : TypeId} {k : Nat} {cur : Array Value} (hb : base ≤ g) (hg : w.heap[g]? = some (.cells cur e (0, 0))) (hnc : n ≤ cap) (hcm : cap ≤ maxLen) (hcs : cur.size = cap * k) : w.ownsRow base e k (.slice (some ⟨g, 0, none⟩) n cap) n (cur.toList.take (n * k)) :=
  ⟨by rw [List.length_take, Array.length_toList, hcs]; exact Nat.min_eq_left (Nat.mul_le_mul_right k hnc), .inr ⟨g, cap, cur, rfl, hb, hg, hnc, hcm, hcs, rfl⟩⟩
theorem grown_setRow (w : World) (g : Nat) (cs : Array Value) : w.grownBy (w.setRow g cs) (some g) :=
  ⟨rfl, rfl, rfl, by simp [World.setRow], fun k _ hk => setRow_other w g k cs (fun e => hk (by rw [e]))⟩
theorem take_splice {α : Type} (L : List α) (o : Nat) (cs : List α) (h : o ≤ L.length) (k : Nat) (hk : k ≤ o) : (splice L o cs).take k = L.take k := by
  rw [splice, List.take_append_of_le_length (by rw [List.length_take]; omega), List.take_take, Nat.min_eq_left hk]
theorem drop_splice {α : Type} (L : List α) (o : Nat) (cs : List α) (h : o ≤ L.length) : (splice L o cs).drop o = cs ++ L.drop (o + cs.length) := by
  rw [splice, List.drop_append_of_le_length (by rw [List.length_take]; omega), List.drop_eq_nil_of_le (by rw [List.length_take]; omega), List.nil_append]
/-- A shift by one element, and one that is laid into the gap. -/
theorem splice_insert {α : Type} (L xs v : List α) (n p : Nat) (hx : L.take n = xs) (hxl : xs.length = n) (hp : p ≤ n) (hl : n + v.length ≤ L.length) :
    (splice (splice L (p + v.length) (xs.drop p)) p v).take (n + v.length) = xs.take p ++ v ++ xs.drop p := by
  have hpl : p ≤ L.length := by omega
  have hl1 : (splice L (p + v.length) (xs.drop p)).length = L.length := length_splice _ _ _ (by rw [List.length_drop]; omega)
  have e1 : splice (splice L (p + v.length) (xs.drop p)) p v = xs.take p ++ (v ++ (xs.drop p ++ L.drop (p + v.length + (xs.drop p).length))) := by
    rw [show splice (splice L (p + v.length) (xs.drop p)) p v = (splice L (p + v.length) (xs.drop p)).take p ++ (v ++ (splice L (p + v.length) (xs.drop p)).drop (p + v.length)) from rfl,
      take_splice _ _ _ (by omega) _ (by omega), drop_splice _ _ _ (by omega), ← hx, List.take_take, Nat.min_eq_left hp]
  rw [e1, ← List.append_assoc, ← List.append_assoc]
  exact List.take_left' (by simp; omega)

/-! ### A region that draws its order -/
def setL (L : Nat → Bool) (i : Nat) : Nat → Bool := fun j => if j = i then true else L j
def cntF (L : Nat → Bool) : Nat → Nat
  | 0 => 0
  | n + 1 => cntF L n + if L n = true then 0 else 1
theorem cntF_out (L : Nat → Bool) (i n : Nat) (h : n ≤ i) : cntF (setL L i) n = cntF L n := by
  induction n with
  | zero => rfl
  | succ n ih =>
    have e : setL L i n = L n := by simp only [setL]; rw [if_neg (by omega)]
    rw [cntF, cntF, ih (by omega), e]
theorem cntF_set (L : Nat → Bool) (i n : Nat) (h : i < n) (hi : L i = false) : cntF (setL L i) n + 1 = cntF L n := by
  induction n with
  | zero => omega
  | succ n ih =>
    rw [cntF, cntF]
    by_cases e : i = n
    · subst e
      rw [cntF_out L i i (Nat.le_refl _), setL, if_pos rfl, hi]
      simp
    · have := ih (by omega)
      have e2 : setL L i n = L n := by rw [setL, if_neg (by omega)]
      rw [e2]
      omega
theorem cntF_zero (L : Nat → Bool) (n : Nat) (h : cntF L n = 0) : ∀ i, i < n → L i = true := by
  induction n with
  | zero => intro i hi; omega
  | succ n ih =>
    rw [cntF] at h
    intro i hi
    by_cases e : i = n
    · subst e
      by_cases hL : L i = true
      · exact hL
      · rw [if_neg hL] at h; omega
    · exact ih (by omega) i (by omega)

section
variable {P : Program} {ops : Array Oper} {Q : Exit → Act → World → Prop} {md : Region.Mode}
def listedF (listed : Array Bool) : Nat → Bool := fun i => listed.getD i false
theorem listedF_set (listed : Array Bool) (i : Nat) (h : i < listed.size) : listedF (listed.setIfInBounds i true) = setL (listedF listed) i := by
  funext j
  unfold listedF setL
  by_cases e : j = i
  · subst e; simp [h, Array.getD_eq_getD_getElem?]
  · simp [e, Array.getD_eq_getD_getElem?, Ne.symm e]
theorem wpAny_inv {I : (Nat → Bool) → Act → World → Prop}
    (hac : ∀ (i : Nat) (o : Oper), ops[i]? = some o → ∀ e ∈ o.after, e.on < i)
    (step : ∀ (i : Nat) (o : Oper), ops[i]? = some o → ∀ L a w, I L a w → L i = false → (∀ e ∈ o.after, Region.binds md e = true → L e.on = true) → wpOp P ops Q i (I (setL L i)) a w)
    (fin : ∀ L a w, I L a w → (∀ i, i < ops.size → L i = true) → Q .normal a w) :
    ∀ (fuel : Nat) (listed : Array Bool) (a : Act) (w : World), listed.size = ops.size → cntF (listedF listed) ops.size ≤ fuel → I (listedF listed) a w → wpAny P md ops Q fuel listed a w := by
  have hrd : ∀ (listed : Array Bool), listed.size = ops.size → ∀ i, i ∈ Region.ready md ops listed ↔ ∃ o, ops[i]? = some o ∧ listedF listed i = false ∧ ∀ e ∈ o.after, Region.binds md e = true → listedF listed e.on = true := by
    intro listed hs i
    unfold Region.ready
    simp only [List.mem_filter, List.mem_range, Bool.and_eq_true]
    constructor
    · rintro ⟨h1, h2, h3⟩
      obtain ⟨o, ho⟩ : ∃ o, ops[i]? = some o := ⟨_, Array.getElem?_eq_getElem h1⟩
      refine ⟨o, ho, ?_, fun e he hb => ?_⟩
      · simp only [Bool.not_eq_true', Array.getD_eq_getD_getElem?] at h2
        unfold listedF
        rw [Array.getD_eq_getD_getElem?]
        rw [Array.getElem?_eq_getElem (by omega)] at h2 ⊢
        simpa using h2
      · rw [ho] at h3
        simp only [Option.map_some, Option.getD_some, Array.all_eq_true'] at h3
        have := h3 e he
        rw [hb] at this
        simpa [listedF] using this
    · rintro ⟨o, ho, h2, h3⟩
      have h1 : i < ops.size := (Array.getElem?_eq_some_iff.1 ho).1
      refine ⟨h1, ?_, ?_⟩
      · simp only [Bool.not_eq_true', Array.getD_eq_getD_getElem?]
        unfold listedF at h2
        rw [Array.getD_eq_getD_getElem?] at h2
        rw [Array.getElem?_eq_getElem (by omega)] at h2 ⊢
        simpa using h2
      · rw [ho]
        simp only [Option.map_some, Option.getD_some, Array.all_eq_true']
        intro e he
        by_cases hb : Region.binds md e = true
        · have := h3 e he hb
          rw [hb]
          simpa [listedF] using this
        · simp [hb]
  have hall : ∀ (listed : Array Bool), listed.size = ops.size → Region.ready md ops listed = [] → ∀ i, i < ops.size → listedF listed i = true := by
    intro listed hs hr i
    induction i using Nat.strongRecOn with
    | _ i ih =>
      intro hi
      by_cases hL : listedF listed i = true
      · exact hL
      · obtain ⟨o, ho⟩ : ∃ o, ops[i]? = some o := ⟨_, Array.getElem?_eq_getElem hi⟩
        have : i ∈ Region.ready md ops listed := (hrd listed hs i).2 ⟨o, ho, by simpa using hL, fun e he _ => ih e.on (hac i o ho e he) (by have := hac i o ho e he; omega)⟩
        rw [hr] at this
        cases this
  intro fuel
  induction fuel with
  | zero =>
    intro listed a w hs hc hI
    have hL := cntF_zero _ _ (by omega : cntF (listedF listed) ops.size = 0)
    refine ⟨?_, fin _ _ _ hI hL⟩
    apply List.eq_nil_iff_forall_not_mem.2
    intro i hi
    obtain ⟨o, ho, h2, _⟩ := (hrd listed hs i).1 hi
    rw [hL i (Array.getElem?_eq_some_iff.1 ho).1] at h2
    cases h2
  | succ fuel ih =>
    intro listed a w hs hc hI
    refine ⟨fun hr => fin _ _ _ hI (hall listed hs hr), fun i hi => ?_⟩
    obtain ⟨o, ho, h2, h3⟩ := (hrd listed hs i).1 hi
    have hil := (Array.getElem?_eq_some_iff.1 ho).1
    refine wpOp_mono ?_ (step i o ho _ a w hI h2 h3)
    intro a' w' hI'
    refine ih _ _ _ (by simpa using hs) ?_ ?_
    · rw [listedF_set _ _ (by omega)]
      have := cntF_set (listedF listed) i ops.size hil h2
      omega
    · rw [listedF_set _ _ (by omega)]
      exact hI'

def upd (s : Nat → Value) (i : Nat) (v : Value) : Nat → Value := fun j => if j = i then v else s j
def depB (o : Oper) (j : Nat) : Bool := o.after.toList.any fun e => e.on == j && Region.binds .any e
def acL : List Oper → Nat → Bool
  | [], _ => true
  | o :: os, k => o.after.toList.all (fun e => decide (e.on < k)) && acL os (k + 1)
theorem acL_at : ∀ (l : List Oper) (k : Nat), acL l k = true → ∀ i o, l[i]? = some o → ∀ e ∈ o.after, e.on < k + i
  | [], _, _, i, o, h => by simp at h
  | x :: l, k, hs, 0, o, h => by
    simp at h
    subst h
    rw [acL, Bool.and_eq_true, List.all_eq_true] at hs
    intro e he
    simpa using hs.1 e (by simpa using he)
  | x :: l, k, hs, i + 1, o, h => by
    rw [acL, Bool.and_eq_true] at hs
    have := acL_at l (k + 1) hs.2 i o (by simpa using h)
    rwa [show k + (i + 1) = k + 1 + i by omega]
/-- What each operation owes, one by one. -/
def StepAll (S : Nat → Oper → Prop) : List Oper → Nat → Prop
  | [], _ => True
  | o :: os, k => S k o ∧ StepAll S os (k + 1)
theorem StepAll.at {S : Nat → Oper → Prop} : ∀ (l : List Oper) (k : Nat), StepAll S l k → ∀ i o, l[i]? = some o → S (k + i) o
  | [], _, _, i, o, h => by simp at h
  | x :: l, k, hs, 0, o, h => by simp at h; subst h; exact hs.1
  | x :: l, k, hs, i + 1, o, h => by
    have := StepAll.at l (k + 1) hs.2 i o (by simpa using h)
    rwa [show k + (i + 1) = k + 1 + i by omega]
/-- The fact that operation i of a region owes: from what its value says, all that its forerunners' values say being given. -/
def OpStep (P : Program) (ops : Array Oper) (Q : Exit → Act → World → Prop) (W : World) (V : Nat → Value → World → Prop) (lit : (Nat → Value) → Act) (i : Nat) (o : Oper) : Prop :=
  (∀ s v, (lit s).put o.dst v = lit (upd s i v)) ∧ ∀ (s : Nat → Value) (w : World), Below W.heap.size W w → (∀ j, depB o j = true → V j (s j) w) →
    ∀ K : Act → World → Prop, (∀ v w', V i v w' → Below w.heap.size w w' → K ((lit s).put o.dst v) w') → if Region.wanted o (yielded ops (lit s).tmps) = true then Oper.wp P o (lit s) w K Q else K ((lit s).put o.dst undef) w
theorem wp_region_facts {l : List Oper} {id : Nat} {a : Act} (W : World) (hm : P.follows .mixedOrders = true) (hac : acL l 0 = true) (V : Nat → Value → World → Prop) (lit : (Nat → Value) → Act) (s0 : Nat → Value) (h0 : lit s0 = a)
    (keep : ∀ j v w w', V j v w → Below w.heap.size w w' → V j v w')
    (steps : StepAll (OpStep P l.toArray Q W V lit) l 0)
    (fin : ∀ s w, Below W.heap.size W w → (∀ i, i < l.length → V i (s i) w) → Q .normal (lit s) w) : (Code.region id l.toArray true).wp P Q a W := by
  refine wp_region_any hm ?_
  have hac' : ∀ (i : Nat) (o : Oper), l.toArray[i]? = some o → ∀ e ∈ o.after, e.on < i := by
    intro i o ho e he
    have := acL_at l 0 hac i o (by simpa using ho) e he
    rwa [Nat.zero_add] at this
  refine wpAny_inv (I := fun L a w => ∃ s, a = lit s ∧ Below W.heap.size W w ∧ ∀ i, L i = true → V i (s i) w) hac' ?_ ?_ _ _ _ _ (by simp) ?_ ?_
  · rintro i o ho L a w ⟨s, rfl, hb, hV⟩ hLi hd
    have ho' : l[i]? = some o := by simpa using ho
    have hs := StepAll.at l 0 steps i o ho'
    rw [Nat.zero_add] at hs
    refine wpOp_step ho fun K hK => hs.2 s w hb (fun j hj => ?_) K fun v w' hv hbw => ?_
    · unfold depB at hj
      rw [List.any_eq_true] at hj
      obtain ⟨e, he, h2⟩ := hj
      rw [Array.mem_toList_iff] at he
      simp only [Bool.and_eq_true, beq_iff_eq] at h2
      obtain ⟨rfl, h3⟩ := h2
      exact hV _ (hd e he h3)
    · refine hK _ _ ⟨upd s i v, hs.1 s v, hb.trans (hbw.mono hb.size), fun j hj => ?_⟩
      by_cases e : j = i
      · subst e; rw [upd, if_pos rfl]; exact hv
      · rw [upd, if_neg e]
        rw [setL, if_neg e] at hj
        exact keep _ _ _ _ (hV j hj) hbw
  · rintro L a w ⟨s, rfl, hb, hV⟩ hL
    exact fin s w hb fun i hi => hV i (hL i (by simpa using hi))
  · have : ∀ (f : Nat → Bool) n, cntF f n ≤ n := by
      intro f n
      induction n with
      | zero => exact Nat.le_refl _
      | succ n ih => rw [cntF]; split <;> omega
    exact this _ _
  · refine ⟨s0, h0.symm, (Below.refl _ W).drew, fun i hi => ?_⟩
    exfalso
    unfold listedF at hi
    rw [Array.getD_eq_getD_getElem?] at hi
    by_cases h : i < l.length
    · simp [h] at hi
    · simp [h] at hi
end

end Go.Proofs.Ytgopokoghnfgiaa
