/-
  Laws of no program: copy and clear on a row of elements of whatever size; a region that draws its order, by a fact for each of its operations.
  The walks over Add, Clean, kept, Turn, Equal, Same of layer 3.
  The walks over Equal, Same, DeleteFunc, Drop of layer 3.
  The walks over Turn, Apply of layer 3.
  The walk over Apply of layer 3.
-/
import Derived.Test.YtaalhglooipnaaaGreatL01
import Derived.Laws.CopyOwn
import Derived.Orders
import Derived.RegionTactic
namespace Go.Proofs.YtaalhglooipnaaaGreat
open Go.RowKit

section
variable {P : Program}
theorem run_copy_rowK (w : World) (dT sT ty elem : TypeId) (k g o dLen dCap : Nat) (a : Addr) (sLen sCap : Nat) (cur : Array Value) (t : TypeId) (cs : List Value) (N : Nat)
    (hu : P.underlying dT = some (.slice elem)) (hs : (P.info? elem).map (·.size) = some k)
    (hg : w.heap[g]? = some (.cells cur t (0, 0))) (hN : Nat.min sLen dLen = N) (hn : cs.length = N * k)
    (hsrc : ∀ j v, cs[j]? = some v → w.cell? (a.add j) = some v) (hfit : o + cs.length ≤ cur.size) (h1 : ∀ v ∈ cs, v.oneCell' = true) :
    (Builtin.copy_ #[dT, sT] ty #[.slice (some ⟨g, o, none⟩) dLen dCap, .slice (some a) sLen sCap]).run P w =
      .ok (goInt N) (w.setRow g (splice cur.toList o cs).toArray) := by
  have hl := run_loadCells_list (P := P) w a cs hsrc
  have hst := run_storeCells_at P g o t cs 0 cur w hg (by simpa using hfit) h1
  cases hq : P.info? elem with
  | none => simp [hq] at hs
  | some i =>
    have hi : i.size = k := by simpa [hq] using hs
    rw [hn] at hl
    simp [Builtin.copy_, run_underlying hu, Builtin.lenOf, Builtin.firstCells, sizeOf, typeInfo, hq, hi, hN, hl, hst, splice, hn]

theorem run_clear_rowK (w : World) (t e ty : TypeId) (i : TypeInfo) (z : Value) (k : Nat) (ht : P.underlying t = some (.slice e)) (hi : P.info? e = some i) (hz : i.zero = some z) (hk : z.cells.size = k) (h1 : ∀ v ∈ z.cells, v.oneCell' = true)
    (g o n c : Nat) (hn : 0 < n) (cur : Array Value) (hg : w.heap[g]? = some (.cells cur e (0, 0))) (hfit : o + n * k ≤ cur.size) :
    (Builtin.clear_ #[t] ty #[.slice (some ⟨g, o, none⟩) n c]).run P w = .ok (.tuple #[]) (w.setRow g (splice cur.toList o (Builtin.zeroCells z.cells n).toList).toArray) := by
  have hl : (Builtin.zeroCells z.cells n).toList.length = n * k := by rw [Array.length_toList, size_zeroCells, hk]
  have hst := run_storeCells_at P g o e (Builtin.zeroCells z.cells n).toList 0 cur w hg (by rw [hl]; simpa using hfit) (by
    intro v hv
    simp only [Builtin.zeroCells, Array.toList_map, List.mem_map] at hv
    obtain ⟨j, hj, rfl⟩ := hv
    by_cases hz0 : z.cells.size = 0
    · simp [hz0] at hj
    · have hlt : j % z.cells.size < z.cells.size := Nat.mod_lt _ (by omega)
      rw [getElem!_pos z.cells _ hlt]
      exact h1 _ (Array.getElem_mem hlt))
  obtain ⟨m, rfl⟩ : ∃ m, n = m + 1 := ⟨n - 1, by omega⟩
  simp [Builtin.clear_, run_underlying ht, zeroValue, typeInfo, hi, hz, hst, splice]
end

/-- The row after 'clear(s[i:])', of which 's[:i]' is left. -/
theorem own_cut {w : World} {base g n cap : Nat} {e : TypeId} {k : Nat} {xs : List Value} (h : w.ownsRow base e k (.slice (some ⟨g, 0, none⟩) n cap) n xs) (i : Nat) (hi : i ≤ n) : w.ownsRow base e k (.slice (some ⟨g, 0, none⟩) i cap) i (xs.take (i * k)) := by
  have hik : i * k ≤ n * k := Nat.mul_le_mul_right k hi
  rcases h.2 with ⟨h', _⟩ | ⟨g', cap', cur, h', hb, hg, hnc, hcm, hcs, htake⟩
  · simp at h'
  · simp only [Value.slice.injEq, Option.some.injEq, Addr.mk.injEq, and_true, true_and] at h'
    obtain ⟨rfl, rfl⟩ := h'
    refine ⟨by rw [List.length_take, h.1]; omega, .inr ⟨g, cap, cur, rfl, hb, hg, by omega, hcm, hcs, ?_⟩⟩
    rw [← htake, List.take_take, Nat.min_eq_left hik]
theorem own_row {w : World} {base g n cap : Nat} {e : TypeId} {k : Nat} {xs : List Value} (h : w.ownsRow base e k (.slice (some ⟨g, 0, none⟩) n cap) n xs) : ∃ cur : Array Value, base ≤ g ∧ w.heap[g]? = some (.cells cur e (0, 0)) ∧ n ≤ cap ∧ cap ≤ maxLen ∧ cur.size = cap * k ∧ cur.toList.take (n * k) = xs := by
  rcases h.2 with ⟨h', _⟩ | ⟨g', cap', cur, h', hb, hg, hnc, hcm, hcs, htake⟩
  · simp at h'
  · simp only [Value.slice.injEq, Option.some.injEq, Addr.mk.injEq, and_true, true_and] at h'
    obtain ⟨rfl, rfl⟩ := h'
    exact ⟨cur, hb, hg, hnc, hcm, hcs, htake⟩
theorem row_own {w : World} {base g n cap : Nat} {e : TypeId} {k : Nat} {cur : Array Value} (hb : base ≤ g) (hg : w.heap[g]? = some (.cells cur e (0, 0))) (hnc : n ≤ cap) (hcm : cap ≤ maxLen) (hcs : cur.size = cap * k) : w.ownsRow base e k (.slice (some ⟨g, 0, none⟩) n cap) n (cur.toList.take (n * k)) :=
  ⟨by rw [List.length_take, Array.length_toList, hcs]; exact Nat.min_eq_left (Nat.mul_le_mul_right k hnc), .inr ⟨g, cap, cur, rfl, hb, hg, hnc, hcm, hcs, rfl⟩⟩
theorem grown_setRow (w : World) (g : Nat) (cs : Array Value) : w.grownBy (w.setRow g cs) (some g) :=
  ⟨rfl, rfl, rfl, by simp [World.setRow], fun k _ hk => setRow_other w g k cs (fun e => hk (by rw [e]))⟩
theorem take_splice {α : Type} (L : List α) (o : Nat) (cs : List α) (h : o ≤ L.length) (k : Nat) (hk : k ≤ o) : (splice L o cs).take k = L.take k := by
  rw [splice, List.take_append_of_le_length (by rw [List.length_take]; omega), List.take_take, Nat.min_eq_left hk]
theorem drop_splice {α : Type} (L : List α) (o : Nat) (cs : List α) (h : o ≤ L.length) : (splice L o cs).drop o = cs ++ L.drop (o + cs.length) := by
  rw [splice, List.drop_append_of_le_length (by rw [List.length_take]; omega), List.drop_eq_nil_of_le (by rw [List.length_take]; omega), List.nil_append]
/-- A shift by one element, and one that is laid into the gap. -/
theorem splice_insert {α : Type} (L xs v : List α) (n p : Nat) (hx : L.take n = xs) (hxl : xs.length = n) (hp : p ≤ n) (hl : n + v.length ≤ L.length) :
    (splice (splice L (p + v.length) (xs.drop p)) p v).take (n + v.length) = xs.take p ++ v ++ xs.drop p := by
  have hpl : p ≤ L.length := by omega
  have hl1 : (splice L (p + v.length) (xs.drop p)).length = L.length := length_splice _ _ _ (by rw [List.length_drop]; omega)
  have e1 : splice (splice L (p + v.length) (xs.drop p)) p v = xs.take p ++ (v ++ (xs.drop p ++ L.drop (p + v.length + (xs.drop p).length))) := by
    rw [show splice (splice L (p + v.length) (xs.drop p)) p v = (splice L (p + v.length) (xs.drop p)).take p ++ (v ++ (splice L (p + v.length) (xs.drop p)).drop (p + v.length)) from rfl,
      take_splice _ _ _ (by omega) _ (by omega), drop_splice _ _ _ (by omega), ← hx, List.take_take, Nat.min_eq_left hp]
  rw [e1, ← List.append_assoc, ← List.append_assoc]
  exact List.take_left' (by simp; omega)

/-! ### A region that draws its order -/
def setL (L : Nat → Bool) (i : Nat) : Nat → Bool := fun j => if j = i then true else L j
def cntF (L : Nat → Bool) : Nat → Nat
  | 0 => 0
  | n + 1 => cntF L n + if L n = true then 0 else 1
theorem cntF_out (L : Nat → Bool) (i n : Nat) (h : n ≤ i) : cntF (setL L i) n = cntF L n := by
  induction n with
  | zero => rfl
  | succ n ih =>
    have e : setL L i n = L n := by simp only [setL]; rw [if_neg (by omega)]
    rw [cntF, cntF, ih (by omega), e]
theorem cntF_set (L : Nat → Bool) (i n : Nat) (h : i < n) (hi : L i = false) : cntF (setL L i) n + 1 = cntF L n := by
  induction n with
  | zero => omega
  | succ n ih =>
    rw [cntF, cntF]
    by_cases e : i = n
    · subst e
      rw [cntF_out L i i (Nat.le_refl _), setL, if_pos rfl, hi]
      simp
    · have := ih (by omega)
      have e2 : setL L i n = L n := by rw [setL, if_neg (by omega)]
      rw [e2]
      omega
theorem cntF_zero (L : Nat → Bool) (n : Nat) (h : cntF L n = 0) : ∀ i, i < n → L i = true := by
  induction n with
  | zero => intro i hi; omega
  | succ n ih =>
    rw [cntF] at h
    intro i hi
    by_cases e : i = n
    · subst e
      by_cases hL : L i = true
      · exact hL
      · rw [if_neg hL] at h; omega
    · exact ih (by omega) i (by omega)

section
variable {P : Program} {ops : Array Oper} {Q : Exit → Act → World → Prop} {md : Region.Mode}
def listedF (listed : Array Bool) : Nat → Bool := fun i => listed.getD i false
theorem listedF_set (listed : Array Bool) (i : Nat) (h : i < listed.size) : listedF (listed.setIfInBounds i true) = setL (listedF listed) i := by
  funext j
  unfold listedF setL
  by_cases e : j = i
  · subst e; simp [h, Array.getD_eq_getD_getElem?]
  · simp [e, Array.getD_eq_getD_getElem?, Ne.symm e]
theorem wpAny_inv {I : (Nat → Bool) → Act → World → Prop}
    (hac : ∀ (i : Nat) (o : Oper), ops[i]? = some o → ∀ e ∈ o.after, e.on < i)
    (step : ∀ (i : Nat) (o : Oper), ops[i]? = some o → ∀ L a w, I L a w → L i = false → (∀ e ∈ o.after, Region.binds md e = true → L e.on = true) → wpOp P ops Q i (I (setL L i)) a w)
    (fin : ∀ L a w, I L a w → (∀ i, i < ops.size → L i = true) → Q .normal a w) :
    ∀ (fuel : Nat) (listed : Array Bool) (a : Act) (w : World), listed.size = ops.size → cntF (listedF listed) ops.size ≤ fuel → I (listedF listed) a w → wpAny P md ops Q fuel listed a w := by
  have hrd : ∀ (listed : Array Bool), listed.size = ops.size → ∀ i, i ∈ Region.ready md ops listed ↔ ∃ o, ops[i]? = some o ∧ listedF listed i = false ∧ ∀ e ∈ o.after, Region.binds md e = true → listedF listed e.on = true := by
    intro listed hs i
    unfold Region.ready
    simp only [List.mem_filter, List.mem_range, Bool.and_eq_true]
    constructor
    · rintro ⟨h1, h2, h3⟩
      obtain ⟨o, ho⟩ : ∃ o, ops[i]? = some o := ⟨_, Array.getElem?_eq_getElem h1⟩
      refine ⟨o, ho, ?_, fun e he hb => ?_⟩
      · simp only [Bool.not_eq_true', Array.getD_eq_getD_getElem?] at h2
        unfold listedF
        rw [Array.getD_eq_getD_getElem?]
        rw [Array.getElem?_eq_getElem (by omega)] at h2 ⊢
        simpa using h2
      · rw [ho] at h3
        simp only [Option.map_some, Option.getD_some, Array.all_eq_true'] at h3
        have := h3 e he
        rw [hb] at this
        simpa [listedF] using this
    · rintro ⟨o, ho, h2, h3⟩
      have h1 : i < ops.size := (Array.getElem?_eq_some_iff.1 ho).1
      refine ⟨h1, ?_, ?_⟩
      · simp only [Bool.not_eq_true', Array.getD_eq_getD_getElem?]
        unfold listedF at h2
        rw [Array.getD_eq_getD_getElem?] at h2
        rw [Array.getElem?_eq_getElem (by omega)] at h2 ⊢
        simpa using h2
      · rw [ho]
        simp only [Option.map_some, Option.getD_some, Array.all_eq_true']
        intro e he
        by_cases hb : Region.binds md e = true
        · have := h3 e he hb
          rw [hb]
          simpa [listedF] using this
        · simp [hb]
  have hall : ∀ (listed : Array Bool), listed.size = ops.size → Region.ready md ops listed = [] → ∀ i, i < ops.size → listedF listed i = true := by
    intro listed hs hr i
    induction i using Nat.strongRecOn with
    | _ i ih =>
      intro hi
      by_cases hL : listedF listed i = true
      · exact hL
      · obtain ⟨o, ho⟩ : ∃ o, ops[i]? = some o := ⟨_, Array.getElem?_eq_getElem hi⟩
        have : i ∈ Region.ready md ops listed := (hrd listed hs i).2 ⟨o, ho, by simpa using hL, fun e he _ => ih e.on (hac i o ho e he) (by have := hac i o ho e he; omega)⟩
        rw [hr] at this
        cases this
  intro fuel
  induction fuel with
  | zero =>
    intro listed a w hs hc hI
    have hL := cntF_zero _ _ (by omega : cntF (listedF listed) ops.size = 0)
    refine ⟨?_, fin _ _ _ hI hL⟩
    apply List.eq_nil_iff_forall_not_mem.2
    intro i hi
    obtain ⟨o, ho, h2, _⟩ := (hrd listed hs i).1 hi
    rw [hL i (Array.getElem?_eq_some_iff.1 ho).1] at h2
    cases h2
  | succ fuel ih =>
    intro listed a w hs hc hI
    refine ⟨fun hr => fin _ _ _ hI (hall listed hs hr), fun i hi => ?_⟩
    obtain ⟨o, ho, h2, h3⟩ := (hrd listed hs i).1 hi
    have hil := (Array.getElem?_eq_some_iff.1 ho).1
    refine wpOp_mono ?_ (step i o ho _ a w hI h2 h3)
    intro a' w' hI'
    refine ih _ _ _ (by simpa using hs) ?_ ?_
    · rw [listedF_set _ _ (by omega)]
      have := cntF_set (listedF listed) i ops.size hil h2
      omega
    · rw [listedF_set _ _ (by omega)]
      exact hI'

def upd (s : Nat → Value) (i : Nat) (v : Value) : Nat → Value := fun j => if j = i then v else s j
def depB (o : Oper) (j : Nat) : Bool := o.after.toList.any fun e => e.on == j && Region.binds .any e
def acL : List Oper → Nat → Bool
  | [], _ => true
  | o :: os, k => o.after.toList.all (fun e => decide (e.on < k)) && acL os (k + 1)
theorem acL_at : ∀ (l : List Oper) (k : Nat), acL l k = true → ∀ i o, l[i]? = some o → ∀ e ∈ o.after, e.on < k + i
  | [], _, _, i, o, h => by simp at h
  | x :: l, k, hs, 0, o, h => by
    simp at h
    subst h
    rw [acL, Bool.and_eq_true, List.all_eq_true] at hs
    intro e he
    simpa using hs.1 e (by simpa using he)
  | x :: l, k, hs, i + 1, o, h => by
    rw [acL, Bool.and_eq_true] at hs
    have := acL_at l (k + 1) hs.2 i o (by simpa using h)
    rwa [show k + (i + 1) = k + 1 + i by omega]
/-- What each operation owes, one by one. -/
def StepAll (S : Nat → Oper → Prop) : List Oper → Nat → Prop
  | [], _ => True
  | o :: os, k => S k o ∧ StepAll S os (k + 1)
theorem StepAll.at {S : Nat → Oper → Prop} : ∀ (l : List Oper) (k : Nat), StepAll S l k → ∀ i o, l[i]? = some o → S (k + i) o
  | [], _, _, i, o, h => by simp at h
  | x :: l, k, hs, 0, o, h => by simp at h; subst h; exact hs.1
  | x :: l, k, hs, i + 1, o, h => by
    have := StepAll.at l (k + 1) hs.2 i o (by simpa using h)
    rwa [show k + (i + 1) = k + 1 + i by omega]
/-- The fact that operation i of a region owes: from what its value says, all that its forerunners' values say being given. -/
def OpStep (P : Program) (ops : Array Oper) (Q : Exit → Act → World → Prop) (W : World) (V : Nat → Value → World → Prop) (lit : (Nat → Value) → Act) (i : Nat) (o : Oper) : Prop :=
  (∀ s v, (lit s).put o.dst v = lit (upd s i v)) ∧ ∀ (s : Nat → Value) (w : World), Below W.heap.size W w → (∀ j, depB o j = true → V j (s j) w) →
    ∀ K : Act → World → Prop, (∀ v w', V i v w' → Below w.heap.size w w' → K ((lit s).put o.dst v) w') → if Region.wanted o (yielded ops (lit s).tmps) = true then Oper.wp P o (lit s) w K Q else K ((lit s).put o.dst undef) w
theorem wp_region_facts {l : List Oper} {id : Nat} {a : Act} (W : World) (hm : P.follows .mixedOrders = true) (hac : acL l 0 = true) (V : Nat → Value → World → Prop) (lit : (Nat → Value) → Act) (s0 : Nat → Value) (h0 : lit s0 = a)
    (keep : ∀ j v w w', V j v w → Below w.heap.size w w' → V j v w')
    (steps : StepAll (OpStep P l.toArray Q W V lit) l 0)
    (fin : ∀ s w, Below W.heap.size W w → (∀ i, i < l.length → V i (s i) w) → Q .normal (lit s) w) : (Code.region id l.toArray true).wp P Q a W := by
  refine wp_region_any hm ?_
  have hac' : ∀ (i : Nat) (o : Oper), l.toArray[i]? = some o → ∀ e ∈ o.after, e.on < i := by
    intro i o ho e he
    have := acL_at l 0 hac i o (by simpa using ho) e he
    rwa [Nat.zero_add] at this
  refine wpAny_inv (I := fun L a w => ∃ s, a = lit s ∧ Below W.heap.size W w ∧ ∀ i, L i = true → V i (s i) w) hac' ?_ ?_ _ _ _ _ (by simp) ?_ ?_
  · rintro i o ho L a w ⟨s, rfl, hb, hV⟩ hLi hd
    have ho' : l[i]? = some o := by simpa using ho
    have hs := StepAll.at l 0 steps i o ho'
    rw [Nat.zero_add] at hs
    refine wpOp_step ho fun K hK => hs.2 s w hb (fun j hj => ?_) K fun v w' hv hbw => ?_
    · unfold depB at hj
      rw [List.any_eq_true] at hj
      obtain ⟨e, he, h2⟩ := hj
      rw [Array.mem_toList_iff] at he
      simp only [Bool.and_eq_true, beq_iff_eq] at h2
      obtain ⟨rfl, h3⟩ := h2
      exact hV _ (hd e he h3)
    · refine hK _ _ ⟨upd s i v, hs.1 s v, hb.trans (hbw.mono hb.size), fun j hj => ?_⟩
      by_cases e : j = i
      · subst e; rw [upd, if_pos rfl]; exact hv
      · rw [upd, if_neg e]
        rw [setL, if_neg e] at hj
        exact keep _ _ _ _ (hV j hj) hbw
  · rintro L a w ⟨s, rfl, hb, hV⟩ hL
    exact fin s w hb fun i hi => hV i (hL i (by simpa using hi))
  · have : ∀ (f : Nat → Bool) n, cntF f n ≤ n := by
      intro f n
      induction n with
      | zero => exact Nat.le_refl _
      | succ n ih => rw [cntF]; split <;> omega
    exact this _ _
  · refine ⟨s0, h0.symm, (Below.refl _ W).drew, fun i hi => ?_⟩
    exfalso
    unfold listedF at hi
    rw [Array.getD_eq_getD_getElem?] at hi
    by_cases h : i < l.length
    · simp [h] at hi
    · simp [h] at hi
end

end Go.Proofs.YtaalhglooipnaaaGreat
namespace Go.Proofs.YtaalhglooipnaaaGreat
open Go.RowKit
attribute [local go_sem ↓] Go.wp_at_zero Go.wp_at_succ

open Classical in
noncomputable def addS (l : List ByteArray) (c : ByteArray) : List ByteArray := if c ∈ l then l else l ++ [c]
theorem addS_len (l : List ByteArray) (c : ByteArray) : (addS l c).length ≤ l.length + 1 := by unfold addS; split <;> simp

set_option maxRecDepth 100000 in
set_option maxHeartbeats 8000000 in
theorem add_any (v : Value) (base n : Nat) (l : List ByteArray) (s : ByteArray) (w : World) (h : w.ownsRow base 9 1 v n (l.flatMap cvS)) (hln : l.length = n) (hn : n ≤ 500) :
    Calls Tryz.prog 93 #[v, .string s] w (StrPost w (addS l s)) := by
  obtain ⟨tr, hi, hz0, hz1, hz2⟩ := info_parts str_info
  have HZ := Lib.hid (And.intro h hln)
  clear h hln
  go_enter Tryz.func93, Tryz.ntmps93
  go_wp2_with fail
  refine (clone_any v base n l _ HZ.out.1 HZ.out.2 (by omega)).mono ?_
  rintro e w1 ⟨A, c, rfl, hown, hb⟩
  rw [HZ.out.2] at hown ⊢
  have HO := Lib.hid (And.intro hown hb)
  have HR := Lib.hid (Rd.of_own (cv := cvS) (d := ByteArray.empty) (fun _ => rfl) hown HZ.out.2)
  clear hown hb
  go_wp2_with fail
  refine (has_any A n c _ l s _ HR.out (by omega)).mono ?_
  rintro e w2 ⟨q, rfl, hq, rfl⟩
  have HQ := Lib.hid hq
  clear hq
  cases q
  · have HA := Lib.hid (show addS l s = l ++ [s] from if_neg (fun h => by have := HQ.out.2 h; cases this))
    have HL := Lib.hid (show (l ++ [s]).length = n + 1 by rw [List.length_append, HZ.out.2]; rfl)
    go_wp2_with (first
      | (at_builtin; refine wpList_append_lies _ rfl _ _ _ rfl w.heap.size 9 tr _ 1 16 Tryz.underlying25 hi hz0 hz1 hz2 rfl (by decide) _ n (l.flatMap cvS) rfl (HO.out.1.alloc _) _ 1 1 [.string s] rfl rfl (World.news_of_block (heap_alloc_new _ _)) (by intro u hu; simp at hu; subst hu; rfl) (by omega) (by unfold maxLen; omega) (by omega) (by have := HO.out.2.size; simp; omega) _ rfl ?_; intro g2 cap2 w4 hown2 hg2 hat2 hlt2; have HX := Lib.hid (And.intro hown2 ((HO.out.2.alloc HO.out.2.size _).grown hg2 (HO.out.2.alloc HO.out.2.size _).size (fun j hj => (HO.out.1.lt j hj).1))); clear hown2 hg2 hat2 hlt2))
    go_ret
    rw [HA.out]
    exact ⟨some ⟨g2, 0, none⟩, cap2, by rw [HL.out]; rfl, by rw [HL.out, cvS_snoc]; exact HX.out.1, HX.out.2⟩
  · have HA := Lib.hid (show addS l s = l from if_pos (HQ.out.1 rfl))
    go_wp2
    go_ret
    rw [HA.out]
    exact ⟨A, c, by rw [HZ.out.2]; rfl, by rw [HZ.out.2]; exact HO.out.1, HO.out.2⟩

noncomputable def cleanTo (l : List ByteArray) : Nat → List ByteArray
  | 0 => []
  | k + 1 => addS (cleanTo l k) (l.getD k ByteArray.empty)
noncomputable def cleanS (l : List ByteArray) : List ByteArray := cleanTo l l.length
theorem cleanTo_len (l : List ByteArray) (k : Nat) : (cleanTo l k).length ≤ k := by
  induction k with
  | zero => exact Nat.le_refl _
  | succ k ih => have := addS_len (cleanTo l k) (l.getD k ByteArray.empty); rw [cleanTo]; omega

set_option maxRecDepth 100000 in
set_option maxHeartbeats 8000000 in
theorem clean_any (A : Option Addr) (n c : Nat) (l : List ByteArray) (w : World) (hz : Ss w w.heap.size A n l) (hn : n ≤ 100) :
    Calls Tryz.prog 56 #[.slice A n c] w (StrPost w (cleanS l)) := by
  have HZ := Lib.hid hz
  clear hz
  go_enter Tryz.func56, Tryz.ntmps56
  go_wp2_with fail
  go_loopw [3, 8] (fun vo i wx => ∃ k : Nat, k ≤ n ∧ i = .int .i64 k ∧ wx.ownsRow w.heap.size 9 1 vo (cleanTo l k).length ((cleanTo l k).flatMap cvS) ∧ Below w.heap.size w wx) (fun _ i _ => n - (intOf i).toNat)
  case atStart => exact ⟨0, Nat.zero_le _, rfl, World.ownsRow_nil _ _ _ _, Below.refl _ _⟩
  case round =>
    obtain ⟨k, hk, rfl, hown, hb⟩ := hrel
    obtain ⟨vo, hvo⟩ : ∃ vo, vo = u3 := ⟨_, rfl⟩
    rw [← hvo] at hown ⊢
    clear hvo
    by_cases hlt : k < n
    · obtain ⟨b, off, rfl, hbB, d0⟩ := HZ.out.str k hlt
      replace d0 := (hb.cell (p := ⟨b, off + k, none⟩) hbB).trans d0
      have HC := Lib.hid (show cleanTo l (k + 1) = addS (cleanTo l k) (l.getD k ByteArray.empty) from rfl)
      obtain ⟨s, hs⟩ : ∃ s, s = l.getD k ByteArray.empty := ⟨_, rfl⟩
      obtain ⟨o, ho⟩ : ∃ o, o = cleanTo l k := ⟨_, rfl⟩
      have hol : o.length ≤ k := by rw [ho]; exact cleanTo_len l k
      rw [← hs] at d0 HC
      rw [← ho] at hown HC
      have i1 : (0 : Int) ≤ (k : Int) := by omega
      have i2 : (k : Int) < (n : Int) := by omega
      have HO := Lib.hid (And.intro hown hb)
      clear hs ho hown hb
      go_wp2_with fail
      refine (add_any vo _ o.length o s _ HO.out.1 rfl (by omega)).mono ?_
      rintro e w4 ⟨A2, c2, rfl, hown2, hb2⟩
      have HX := Lib.hid (And.intro (own_base hown2 HO.out.2.size) (HO.out.2.trans (hb2.mono HO.out.2.size)))
      clear hown2 hb2
      go_wp2_with fail
      go_roundw
      case rel => exact ⟨k + 1, by omega, by go_num, by rw [HC.out]; exact HX.out.1, HX.out.2⟩
      case measure => simp [intOf]; omega
    · obtain rfl : k = n := by omega
      obtain ⟨A5, c5, hv⟩ := own_form hown
      subst hv
      have HE := Lib.hid (show cleanS l = cleanTo l k by rw [cleanS, HZ.out.1])
      have HO := Lib.hid (And.intro hown hb)
      clear hown hb
      go_wp2
      go_ret
      rw [HE.out]
      exact ⟨A5, c5, rfl, HO.out.1, HO.out.2⟩

/-- How many of the first of b stand in a, one behind the other. -/
def keptTo (a b : List ByteArray) : Nat → Nat
  | 0 => 0
  | k + 1 => if keptTo a b k < b.length ∧ b.getD (keptTo a b k) ByteArray.empty = a.getD k ByteArray.empty then keptTo a b k + 1 else keptTo a b k
def keptS (a b : List ByteArray) : Nat := keptTo a b a.length
theorem keptTo_le (a b : List ByteArray) (k : Nat) : keptTo a b k ≤ b.length ∧ keptTo a b k ≤ k := by
  induction k with
  | zero => exact ⟨Nat.zero_le _, Nat.le_refl _⟩
  | succ k ih => rw [keptTo]; split <;> omega

end Go.Proofs.YtaalhglooipnaaaGreat
namespace Go.Proofs.YtaalhglooipnaaaGreat
open Go.RowKit
attribute [local go_sem ↓] Go.wp_at_zero Go.wp_at_succ

set_option maxHeartbeats 4000000 in
theorem equal_any (A B : Option Addr) (n c c' B1 B2 : Nat) (l : List ByteArray) (w : World) (hz : Ss w B1 A n l) (hz' : Ss w B2 B n l) (hn : n ≤ 1000) :
    Calls Tryz.prog 83 #[.slice A n c, .slice B n c'] w fun e w' => e = .returned (.bool true) ∧ Below w.heap.size w w' := by
  have HZ := Lib.hid (And.intro hz hz')
  clear hz hz'
  go_enter Tryz.func83, Tryz.ntmps83
  go_wp2_with fail
  go_loopw [13] (fun i wx => ∃ k : Nat, k ≤ n ∧ i = .int .i64 k ∧ Below w.heap.size w wx ∧ Hid (Ss wx B1 A n l ∧ Ss wx B2 B n l)) (fun i _ => n - (intOf i).toNat)
  case atStart => exact ⟨0, Nat.zero_le _, rfl, Below.refl _ _, HZ.out⟩
  case round =>
    obtain ⟨k, hk, rfl, hb, hS⟩ := hrel
    by_cases hlt : k < n
    · obtain ⟨b, off, rfl, hbB, d0⟩ := hS.out.1.str k hlt
      obtain ⟨b2, off2, rfl, hbB2, d1⟩ := hS.out.2.str k hlt
      obtain ⟨t, ht⟩ : ∃ t, t = l.getD k ByteArray.empty := ⟨_, rfl⟩
      rw [← ht] at d0 d1
      have i1 : (0 : Int) ≤ (k : Int) := by omega
      have i2 : (k : Int) < (n : Int) := by omega
      have HB := Lib.hid hb
      clear ht hb
      go_upto_region 6 with fail
      go_region
      all_goals (
        go_wp2_with fail
        go_roundw)
      all_goals first
        | exact ⟨k + 1, by omega, by go_num, HB.out.drew, ⟨fun h => hS.out.1 h, fun h => hS.out.2 h⟩⟩
        | exact ⟨k + 1, by omega, by go_num, HB.out.drew, Lib.hid ⟨hS.out.1, hS.out.2⟩⟩
        | (simp [intOf]; omega)
    · obtain rfl : k = n := by omega
      have HB := Lib.hid hb
      clear hb
      go_wp2
      go_ret
      exact ⟨by first | rfl | simp, HB.out⟩

set_option maxHeartbeats 4000000 in
theorem same_any (A B : Option Addr) (n c c' B1 B2 : Nat) (l : List ByteArray) (w : World) (hz : Ss w B1 A n l) (hz' : Ss w B2 B n l) (hn : n ≤ 1000) :
    Calls Tryz.prog 41 #[.slice A n c, .slice B n c'] w fun e w' => e = .returned (.bool true) ∧ Below w.heap.size w w' := by
  have HZ := Lib.hid (And.intro hz hz')
  clear hz hz'
  go_enter Tryz.func41, Tryz.ntmps41
  go_wp2_with fail
  refine (equal_any A B n c c' B1 B2 l _ HZ.out.1 HZ.out.2 hn).mono ?_
  rintro e w1 ⟨rfl, hb⟩
  have HB := Lib.hid hb
  clear hb
  go_wp2
  go_ret
  exact ⟨rfl, HB.out⟩

/-! ### Without a name -/
def isS (x s : ByteArray) : Bool := decide (x = s)
def IsIx (l : List ByteArray) (s : ByteArray) (r : Int) : Prop := (r = -1 ∧ ∀ j, j < l.length → l.getD j ByteArray.empty ≠ s) ∨ ∃ k : Nat, r = k ∧ k < l.length ∧ l.getD k ByteArray.empty = s ∧ ∀ j, j < k → l.getD j ByteArray.empty ≠ s
/-- Without a name. -/
def offS (s : ByteArray) (l : List ByteArray) : List ByteArray := l.filter fun x => !isS x s
theorem offS_snoc (s : ByteArray) (l : List ByteArray) (k : Nat) (h : k < l.length) : offS s (l.take (k + 1)) = if isS (l.getD k ByteArray.empty) s = true then offS s (l.take k) else offS s (l.take k) ++ [l.getD k ByteArray.empty] := by
  rw [take_snoc l ByteArray.empty k h, offS, List.filter_append]
  generalize l.getD k ByteArray.empty = x
  by_cases e : isS x s = true
  · rw [if_pos e]; simp [offS, e]
  · rw [if_neg e]; simp [offS, e]
theorem offS_id (s : ByteArray) (l : List ByteArray) (h : ∀ j, j < l.length → l.getD j ByteArray.empty ≠ s) : offS s l = l := by
  apply List.filter_eq_self.2
  intro a ha
  obtain ⟨i, h1, h2⟩ := List.mem_iff_getElem.1 ha
  have := h i h1
  simpa [isS, List.getD, h1, h2] using this
/-- In the midst of taking a name out. -/
structure Del (s : ByteArray) (l ys : List ByteArray) (j i : Nat) : Prop where
  len : ys.length = l.length
  head : ys.take i = offS s (l.take j)
  tail : ∀ m, j ≤ m → ys.getD m ByteArray.empty = l.getD m ByteArray.empty
  lt : i < j
  jl : j ≤ l.length
theorem Del.start {s : ByteArray} {l : List ByteArray} {k : Nat} (hk : k < l.length) (he : l.getD k ByteArray.empty = s) (hn : ∀ j, j < k → l.getD j ByteArray.empty ≠ s) : Del s l l (k + 1) k :=
  ⟨rfl, by
    rw [offS_snoc s l k hk, if_pos (by rw [he]; simp [isS])]
    refine (offS_id s _ fun j hj => ?_).symm
    have hj2 : j < k := by rw [List.length_take] at hj; omega
    have := hn j hj2
    simpa [List.getD, List.getElem?_take, hj2] using this, fun _ _ => rfl, Nat.lt_succ_self _, hk⟩
theorem Del.skip {s : ByteArray} {l ys : List ByteArray} {j i : Nat} (d : Del s l ys j i) (hj : j < l.length) (he : isS (l.getD j ByteArray.empty) s = true) : Del s l ys (j + 1) i :=
  ⟨d.len, by rw [offS_snoc s l j hj, if_pos he]; exact d.head, fun m hm => d.tail m (by omega), by have := d.lt; omega, hj⟩
theorem Del.keep {s : ByteArray} {l ys : List ByteArray} {j i : Nat} (d : Del s l ys j i) (hj : j < l.length) (he : isS (l.getD j ByteArray.empty) s = false) : Del s l (ys.set i (l.getD j ByteArray.empty)) (j + 1) (i + 1) := by
  have h1 := d.len
  have h2 := d.lt
  refine ⟨by rw [List.length_set]; exact h1, ?_, fun m hm => ?_, by omega, hj⟩
  · rw [offS_snoc s l j hj, if_neg (by rw [he]; decide), ← d.head, take_snoc _ ByteArray.empty i (by rw [List.length_set]; omega), List.take_set_of_le (Nat.le_refl _)]
    simp [List.getD, show i < ys.length by omega]
  · have := d.tail m (by omega)
    rw [← this]
    simp [List.getD, show i ≠ m by omega]
theorem Del.fin {s : ByteArray} {l ys : List ByteArray} {i : Nat} (d : Del s l ys l.length i) : ys.take i = offS s l := by
  have := d.head
  rwa [List.take_length] at this
theorem cvS_set (l : List ByteArray) (i : Nat) (s : ByteArray) : (l.set i s).flatMap cvS = (l.flatMap cvS).set i (.string s) := by
  have e : ∀ l : List ByteArray, l.flatMap cvS = l.map Value.string := fun l => by induction l with
    | nil => rfl
    | cons a l ih => simp only [List.flatMap_cons, ih, cvS, List.map_cons]; rfl
  rw [e, e, List.map_set]
theorem cvS_take (l : List ByteArray) (i : Nat) : (l.take i).flatMap cvS = (l.flatMap cvS).take i := by
  have e : ∀ l : List ByteArray, l.flatMap cvS = l.map Value.string := fun l => by induction l with
    | nil => rfl
    | cons a l ih => simp only [List.flatMap_cons, ih, cvS, List.map_cons]; rfl
  rw [e, e, List.map_take]

/-- 'clear(s[i:])', of which 's[:i]' is left. -/
theorem clear_own {P : Program} {w : World} (t : TypeId) (base : Nat) (e : TypeId) (i : TypeInfo) (z : Value) (k : Nat) (ht : P.underlying t = some (.slice e)) (hi : P.info? e = some i) (hz : i.zero = some z) (hk : z.cells.size = k) (h1 : ∀ v ∈ z.cells, v.oneCell' = true)
    (g n cap m o' c' : Nat) (xs : List Value) (hm : 0 < m) (q : Nat) (hq : q * k = o') (hqm : q + m = n) (hown : w.ownsRow base e k (.slice (some ⟨g, 0, none⟩) n cap) n xs) :
    ∃ w', (∀ ty, (Builtin.clear_ #[t] ty #[.slice (some ⟨g, o', none⟩) m c']).run P w = .ok (.tuple #[]) w') ∧ w'.ownsRow base e k (.slice (some ⟨g, 0, none⟩) q cap) q (xs.take o') ∧ w.grownBy w' (some g) := by
  obtain ⟨cur, hb, hg, hnc, hcm, hcs, htake⟩ := own_row hown
  have hfit : o' + m * k ≤ cur.size := by rw [hcs, ← hq, ← Nat.add_mul, hqm]; exact Nat.mul_le_mul_right k hnc
  have hrun := fun ty => run_clear_rowK (P := P) w t e ty i z k ht hi hz hk h1 g o' m c' hm cur hg hfit
  have hzl : (Builtin.zeroCells z.cells m).toList.length = m * k := by rw [Array.length_toList, size_zeroCells, hk]
  refine ⟨_, hrun, ?_, grown_setRow w g _⟩
  have hlen : (splice cur.toList o' (Builtin.zeroCells z.cells m).toList).length = cur.size := by
    rw [length_splice _ _ _ (by rw [hzl, Array.length_toList]; exact hfit), Array.length_toList]
  have r := row_own (w := w.setRow g (splice cur.toList o' (Builtin.zeroCells z.cells m).toList).toArray) (n := q) (cap := cap) (k := k) (e := e) hb (setRow_heap w g cur _ e _ hg) (by omega) hcm (by rw [List.size_toArray, hlen, hcs])
  rw [List.toList_toArray, take_splice _ _ _ (by rw [Array.length_toList]; omega) _ (by omega), hq] at r
  rw [← htake, List.take_take, Nat.min_eq_left (by rw [← hq]; exact Nat.mul_le_mul_right k (by omega))]
  exact r

theorem str_one : ∀ v ∈ (Value.string ByteArray.empty).cells, v.oneCell' = true := by decide
end Go.Proofs.YtaalhglooipnaaaGreat
namespace Go.Proofs.YtaalhglooipnaaaGreat
open Go.RowKit
attribute [local go_sem ↓] Go.wp_at_zero Go.wp_at_succ

/-- A step of layer 3. -/
abbrev Cst := Bool × ByteArray
def cst0 : Cst := (false, ByteArray.empty)
def cvT (p : Cst) : List Value := [.bool p.1, .string p.2]
theorem cvT_snoc (l : List Cst) (p : Cst) : (l ++ [p]).flatMap cvT = l.flatMap cvT ++ [.bool p.1, .string p.2] := by simp [cvT]
abbrev Ts (w : World) (B : Nat) (A : Option Addr) (n : Nat) (l : List Cst) : Prop := Rd cvT cst0 2 w B A n l
theorem Rd.cst {w : World} {B : Nat} {A : Option Addr} {n : Nat} {l : List Cst} (h : Ts w B A n l) (k : Nat) (hk : k < n) : ∃ b off, A = some ⟨b, off, none⟩ ∧ b < B ∧ w.cell? ⟨b, off + k * 2, none⟩ = some (.bool (l.getD k cst0).1) ∧ w.cell? ⟨b, off + k * 2 + 1, none⟩ = some (.string (l.getD k cst0).2) := by
  obtain ⟨b, off, hA, hB, h0⟩ := h.2 k hk
  exact ⟨b, off, hA, hB, h0 0 (by omega), h0 1 (by omega)⟩
open Classical in
noncomputable def dropsTo (bq l : List ByteArray) : Nat → List Cst
  | 0 => []
  | k + 1 => if l.getD k ByteArray.empty ∈ bq then dropsTo bq l k else dropsTo bq l k ++ [(true, l.getD k ByteArray.empty)]
def addsTo (o : List Cst) (l : List ByteArray) (k : Nat) : List Cst := o ++ (l.take k).map fun x => (false, x)
noncomputable def turnC (ca cb : List ByteArray) : List Cst := addsTo (dropsTo (cb.take (keptS ca cb)) ca ca.length) (cb.drop (keptS ca cb)) (cb.length - keptS ca cb)
noncomputable def turnS (a b : List ByteArray) : List Cst := turnC (cleanS a) (cleanS b)
theorem dropsTo_len (bq l : List ByteArray) (k : Nat) : (dropsTo bq l k).length ≤ k := by
  induction k with
  | zero => exact Nat.le_refl _
  | succ k ih => rw [dropsTo]; split <;> (try rw [List.length_append]) <;> (try simp only [List.length_cons, List.length_nil]) <;> omega
theorem addsTo_succ (o : List Cst) (l : List ByteArray) (k : Nat) (h : k < l.length) : addsTo o l (k + 1) = addsTo o l k ++ [(false, l.getD k ByteArray.empty)] := by
  rw [addsTo, addsTo, take_snoc l ByteArray.empty k h, List.map_append, ← List.append_assoc]; rfl
theorem addsTo_len (o : List Cst) (l : List ByteArray) (k : Nat) : (addsTo o l k).length ≤ o.length + k := by
  rw [addsTo, List.length_append, List.length_map, List.length_take]; omega
theorem cleanS_len (l : List ByteArray) : (cleanS l).length ≤ l.length := cleanTo_len l _
theorem keptS_le (a b : List ByteArray) : keptS a b ≤ b.length := (keptTo_le a b _).1
theorem Rd.drop {α : Type} {cv : α → List Value} {d : α} {w : World} {B b off n : Nat} {l : List α} (h : Rd cv d 1 w B (some ⟨b, off, none⟩) n l) (q : Nat) : Rd cv d 1 w B (some ⟨b, off + q, none⟩) (n - q) (l.drop q) := by
  refine ⟨by rw [List.length_drop, h.1], fun k hk => ?_⟩
  obtain ⟨b', off', hA, hB, h0⟩ := h.2 (q + k) (by omega)
  injection hA with hA
  injection hA with hA1 hA2
  subst hA1 hA2
  have e : (l.drop q).getD k d = l.getD (q + k) d := by simp [List.getD]
  rw [e]
  refine ⟨b, off + q, rfl, hB, fun j hj => ?_⟩
  have := h0 j hj
  rw [Nat.mul_one, ← Nat.add_assoc] at this
  rw [Nat.mul_one]
  exact this

theorem own_nil {w : World} {base : Nat} {e : TypeId} {size : Nat} {A : Option Addr} {n c : Nat} {xs : List Value} (h : w.ownsRow base e size (.slice A n c) n xs) : ∀ g, A = some g → g.spot = none := by
  rcases h.2 with ⟨hv, h0⟩ | ⟨g, cap, cur, hv, _⟩
  · injection hv with hv1
    subst hv1
    intro g h
    cases h
  · injection hv with hv1
    subst hv1
    intro g h
    injection h with h
    rw [← h]
/-- 's[q:]' of a row that is known. -/
theorem slice_from {P : Program} (t e : TypeId) (ht : P.underlying t = some (.slice e)) (hsz : (P.info? e).map (·.size) = some 1) {α : Type} (cv : α → List Value) (d : α) (A : Option Addr) (n c q : Nat) (wx : World) (B : Nat) (l : List α) (h : Rd cv d 1 wx B A n l) (hq : q ≤ n) (hc : n ≤ c)
    (hA : ∀ g, A = some g → g.spot = none) :
    ∃ A3 c3, (∀ w, (Instr.slice t (.slice A n c) (some (.int .i64 (q : Nat))) none none).run P w = .ok (.slice A3 (n - q) c3) w) ∧ (∀ w, (Instr.sliceAt t (.slice A n c) (some (.int .i64 (q : Nat))) none none).run P w = .ok (.slice A3 (n - q) c3) w) ∧ Rd cv d 1 wx B A3 (n - q) (l.drop q) := by
  have hs : ∀ w, (sizeOf e).run P w = .ok 1 w := fun w => by
    cases hq : P.info? e with
    | none => simp [hq] at hsz
    | some i =>
      have hi : i.size = 1 := by simpa [hq] using hsz
      simp [sizeOf, typeInfo, hq, hi]
  have hrun : ∀ w, (Instr.slice t (.slice A n c) (some (.int .i64 (q : Nat))) none none).run P w = .ok (.slice (if c = q then A else A.map (·.add (q * 1))) (n - q) (c - q)) w := fun w => by
    have h0 : (0 : Int) ≤ (q : Nat) := by omega
    have h1 : ((q : Nat) : Int) ≤ (n : Nat) := by omega
    simp [Instr.slice, run_underlying ht, Instr.sliceBounds, run_sliceBound, hs, hq]
  refine ⟨_, _, hrun, fun w => ?_, ?_⟩
  · simp only [Instr.sliceAt, Sem.run_bind, run_underlying ht, Result.andThen_ok]
    exact hrun w
  · by_cases hcq : c = q
    · rw [if_pos hcq]
      refine ⟨by rw [List.length_drop, h.1], fun k hk => by omega⟩
    · rw [if_neg hcq]
      cases A with
      | none =>
        refine ⟨by rw [List.length_drop, h.1], fun k hk => ?_⟩
        obtain ⟨b, off, hA, _⟩ := h.2 0 (by omega)
        cases hA
      | some g =>
        obtain ⟨g1, g2, g3⟩ := g
        have hg3 : g3 = none := hA _ rfl
        subst hg3
        rw [Nat.mul_one, Option.map_some, Addr.add_lit]
        exact h.drop q

end Go.Proofs.YtaalhglooipnaaaGreat
namespace Go.Proofs.YtaalhglooipnaaaGreat
open Go.RowKit
attribute [local go_sem ↓] Go.wp_at_zero Go.wp_at_succ

noncomputable def stepS (l : List ByteArray) (s : Cst) : List ByteArray := if s.1 = true then offS s.2 l else addS l s.2
noncomputable def applyTo (l : List ByteArray) (steps : List Cst) : Nat → List ByteArray
  | 0 => cleanS l
  | k + 1 => stepS (applyTo l steps k) (steps.getD k cst0)
noncomputable def applyS (l : List ByteArray) (steps : List Cst) : List ByteArray := applyTo l steps steps.length
theorem offS_len (s : ByteArray) (l : List ByteArray) : (offS s l).length ≤ l.length := List.length_filter_le _ _
theorem applyTo_len (l : List ByteArray) (steps : List Cst) (k : Nat) : (applyTo l steps k).length ≤ l.length + k := by
  induction k with
  | zero => exact cleanS_len l
  | succ k ih =>
    rw [applyTo, stepS]
    split
    · have := offS_len (steps.getD k cst0).2 (applyTo l steps k); omega
    · have := addS_len (applyTo l steps k) (steps.getD k cst0).2; omega

end Go.Proofs.YtaalhglooipnaaaGreat
