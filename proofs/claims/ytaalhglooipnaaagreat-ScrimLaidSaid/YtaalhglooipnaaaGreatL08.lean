/-
  A law for a region that draws its order, of values that are known one by one: the frame is the one ahead of the region with what each operation has put.
  A law for a region that draws its order, whose last operations stand in one order behind all others: the others owe a fact each, the last ones are walked.
  What single operations yield (addresses of fields, loads, new variables, built values), frames being known by what they hold; a store of a whole variable.
-/
import Derived.Test.YtaalhglooipnaaaGreatL02
import Derived.Tactics
import Derived.Deep.MidRow
import Derived.WalkSpells
namespace Go.Proofs.YtaalhglooipnaaaGreat
open Go.RowKit

theorem put_same (a : Act) (d : Option Tmp) (u v : Value) : (a.put d u).put d v = a.put d v := by
  cases d <;> simp [Act.put]
theorem put_comm (a : Act) {d d' : Option Tmp} (h : d ≠ d') (u v : Value) : (a.put d u).put d' v = (a.put d' v).put d u := by
  cases d with
  | none => cases d' <;> simp [Act.put]
  | some x =>
    cases d' with
    | none => simp [Act.put]
    | some y =>
      have hxy : x ≠ y := fun e => h (by rw [e])
      simp only [Act.put]
      rw [Array.setIfInBounds_comm _ _ hxy]
theorem put_self (a : Act) (d : Option Tmp) : a.put d (match d with | some t => a.tmps.getD t undef | none => undef) = a := by
  cases d with
  | none => rfl
  | some t =>
    simp only [Act.put]
    have : a.tmps.setIfInBounds t (a.tmps.getD t undef) = a.tmps := by
      apply Array.ext
      · simp
      · intro i h1 h2
        by_cases hi : t = i
        · subst hi; simp [Array.getD, h2]
        · exact Array.getElem_setIfInBounds_ne h2 hi
    rw [this]

def litOf (a : Act) : List (Option Tmp) → Nat → (Nat → Value) → Act
  | [], _, _ => a
  | d :: ds, k, s => litOf (a.put d (s k)) ds (k + 1) s
theorem litOf_upd_lt : ∀ (ds : List (Option Tmp)) (a : Act) (k : Nat) (s : Nat → Value) (i : Nat) (v : Value), i < k → litOf a ds k (upd s i v) = litOf a ds k s
  | [], _, _, _, _, _, _ => rfl
  | d :: ds, a, k, s, i, v, h => by
    rw [litOf, litOf, litOf_upd_lt ds _ (k + 1) s i v (by omega), upd, if_neg (by omega)]
theorem litOf_put_out : ∀ (ds : List (Option Tmp)) (a : Act) (k : Nat) (s : Nat → Value) (d : Option Tmp) (v : Value), d ∉ ds → (litOf a ds k s).put d v = litOf (a.put d v) ds k s
  | [], _, _, _, _, _, _ => rfl
  | d' :: ds, a, k, s, d, v, h => by
    have h1 : d' ≠ d := fun e => h (by simp [e])
    rw [litOf, litOf, litOf_put_out ds _ (k + 1) s d v (fun e => h (by simp [e])), put_comm _ h1]
theorem litOf_put : ∀ (ds : List (Option Tmp)) (a : Act) (k : Nat) (s : Nat → Value) (i : Nat) (d : Option Tmp) (v : Value), ds.Nodup → ds[i]? = some d → (litOf a ds k s).put d v = litOf a ds k (upd s (k + i) v)
  | [], _, _, _, _, _, _, _, h => by simp at h
  | d' :: ds, a, k, s, 0, d, v, hn, h => by
    simp at h
    subst h
    rw [litOf, litOf, litOf_put_out _ _ _ _ _ _ (List.nodup_cons.1 hn).1, put_same, litOf_upd_lt _ _ _ _ _ _ (by omega), upd, if_pos (by omega)]
  | d' :: ds, a, k, s, i + 1, d, v, hn, h => by
    rw [litOf, litOf, litOf_put ds _ (k + 1) s i d v (List.nodup_cons.1 hn).2 (by simpa using h), show k + 1 + i = k + (i + 1) by omega]
    have : upd s (k + (i + 1)) v k = s k := if_neg (by omega)
    rw [this]
def curOf (a : Act) (ds : List (Option Tmp)) (j : Nat) : Value := match ds.getD j none with | some t => a.tmps.getD t undef | none => undef
theorem litOf_cur (a : Act) : ∀ (ds : List (Option Tmp)) (k : Nat) (s : Nat → Value), (∀ j, j < ds.length → s (k + j) = curOf a ds j) → litOf a ds k s = a
  | [], _, _, _ => rfl
  | d :: ds, k, s, h => by
    have h0 := h 0 (by simp)
    rw [Nat.add_zero] at h0
    rw [litOf, h0]
    have e : a.put d (curOf a (d :: ds) 0) = a := put_self a d
    rw [e]
    refine litOf_cur a ds (k + 1) s fun j hj => ?_
    rw [show k + 1 + j = k + (j + 1) by omega, h (j + 1) (by simp; omega)]
    rfl

def nodupB (l : List (Option Tmp)) : Bool := match l with
  | [] => true
  | d :: ds => !ds.contains d && nodupB ds
theorem nodupB_nodup : ∀ l : List (Option Tmp), nodupB l = true → l.Nodup
  | [], _ => List.nodup_nil
  | d :: ds, h => by
    rw [nodupB, Bool.and_eq_true] at h
    exact List.nodup_cons.2 ⟨by simpa using h.1, nodupB_nodup ds h.2⟩

/-! ### What the frame then holds -/
def neB (t : Tmp) : Option Tmp → Bool
  | some x => !Nat.beq x t
  | none => true
def outB (t : Tmp) : List (Option Tmp) → Bool
  | [] => true
  | d :: ds => neB t d && outB t ds
def atB (ds : List (Option Tmp)) (i : Nat) (t : Tmp) : Bool := match ds[i]? with
  | some (some x) => Nat.beq x t
  | _ => false
theorem put_size (a : Act) (d : Option Tmp) (v : Value) : (a.put d v).tmps.size = a.tmps.size := by
  cases d <;> simp [Act.put]
theorem litOf_size : ∀ (ds : List (Option Tmp)) (a : Act) (k : Nat) (s : Nat → Value), (litOf a ds k s).tmps.size = a.tmps.size
  | [], _, _, _ => rfl
  | d :: ds, a, k, s => by rw [litOf, litOf_size ds, put_size]
theorem lit_out {ds : List (Option Tmp)} {a : Act} {s : Nat → Value} (t : Tmp) (h : outB t ds = true) : (litOf a ds 0 s).eval (.tmp t) = a.eval (.tmp t) := by
  have : ∀ (ds : List (Option Tmp)) (a : Act) (k : Nat), outB t ds = true → (litOf a ds k s).tmps.getD t undef = a.tmps.getD t undef := by
    intro ds
    induction ds with
    | nil => intro a k _; rfl
    | cons d ds ih =>
      intro a k h
      rw [outB, Bool.and_eq_true] at h
      rw [litOf, ih _ _ h.2]
      cases d with
      | none => rfl
      | some x =>
        have hx : x ≠ t := fun e => by subst e; simp [neB] at h
        simp only [Act.put, Array.getD_eq_getD_getElem?]
        rw [Array.getElem?_setIfInBounds_ne hx]
  exact this ds a 0 h
theorem lit_at {ds : List (Option Tmp)} {a : Act} {s : Nat → Value} (i : Nat) (t : Tmp) (h : atB ds i t = true) (hn : nodupB ds = true) (ht : Nat.blt t a.tmps.size = true) : (litOf a ds 0 s).eval (.tmp t) = s i := by
  have hd : ds[i]? = some (some t) := by
    unfold atB at h
    split at h
    · rename_i x hx
      rw [hx, Nat.eq_of_beq_eq_true h]
    · cases h
  have h1 := litOf_put ds a 0 s i (some t) (s i) (nodupB_nodup _ hn) hd
  have h2 : upd s (0 + i) (s i) = s := by
    funext j
    rw [Nat.zero_add, upd]
    split
    · rename_i e; rw [e]
    · rfl
  rw [h2] at h1
  rw [← h1]
  have h3 := litOf_size ds a 0 s
  have h4 : t < a.tmps.size := by simpa using ht
  simp only [Act.eval, Act.put, Array.getD_eq_getD_getElem?]
  rw [Array.getElem?_setIfInBounds_self_of_lt (by rw [h3]; exact h4)]
  rfl

/-- What each operation of the region owes. -/
def OpAt (P : Program) (ops : Array Oper) (W : World) (V : Nat → Value → World → Prop) (L : (Nat → Value) → Act) (i : Nat) (o : Oper) : Prop :=
  ∀ (s : Nat → Value) (w : World), Below W.heap.size W w → (∀ j, depB o j = true → V j (s j) w) →
    Region.wanted o (yielded ops (L s).tmps) = true ∧
    ((∃ v w', (execOp (L s).eval o).run P w = .ok (.value v) w' ∧ V i v w' ∧ Below w.heap.size w w') ∨
     (∃ f args, (execOp (L s).eval o).run P w = .ok (.enter f args) w ∧ Calls P f args w (fun e w' => ∃ v, e = .returned v ∧ V i v w' ∧ Below w.heap.size w w')))

theorem StepAll.imp {S T : Nat → Oper → Prop} : ∀ (l : List Oper) (k : Nat), (∀ i o, l[i]? = some o → S (k + i) o → T (k + i) o) → StepAll S l k → StepAll T l k
  | [], _, _, _ => trivial
  | o :: l, k, h, hs => ⟨h 0 o (by simp) hs.1, StepAll.imp l (k + 1) (fun i o' h1 h2 => by
      have := h (i + 1) o' (by simpa using h1)
      rw [show k + (i + 1) = k + 1 + i by omega] at this
      exact this h2) hs.2⟩

theorem wp_region_lit {P : Program} {Q : Exit → Act → World → Prop} {l : List Oper} {id : Nat} {a : Act} (W : World) (hm : P.follows .mixedOrders = true) (hac : acL l 0 = true) (hn : nodupB (l.map (·.dst)) = true)
    (V : Nat → Value → World → Prop) (keep : ∀ j v w w', V j v w → Below w.heap.size w w' → V j v w')
    (steps : StepAll (OpAt P l.toArray W V (litOf a (l.map (·.dst)) 0)) l 0)
    (fin : ∀ s w, Below W.heap.size W w → (∀ i, i < l.length → V i (s i) w) → Q .normal (litOf a (l.map (·.dst)) 0 s) w) : (Code.region id l.toArray true).wp P Q a W := by
  refine wp_region_facts W hm hac V (litOf a (l.map (·.dst)) 0) (curOf a (l.map (·.dst))) (litOf_cur a _ 0 _ fun j _ => by rw [Nat.zero_add]) keep ?_ fin
  refine StepAll.imp l 0 (fun i o ho h => ?_) steps
  rw [Nat.zero_add] at h ⊢
  have hd : (l.map (·.dst))[i]? = some o.dst := by simp [ho]
  have hput : ∀ s v, (litOf a (l.map (·.dst)) 0 s).put o.dst v = litOf a (l.map (·.dst)) 0 (upd s i v) := fun s v => by
    have := litOf_put (l.map (·.dst)) a 0 s i o.dst v (nodupB_nodup _ hn) hd
    rwa [Nat.zero_add] at this
  refine ⟨hput, fun s w hb hdep K hK => ?_⟩
  obtain ⟨hw, h⟩ := h s w hb hdep
  rw [if_pos hw]
  rcases h with ⟨v, w', hr, hv, hb'⟩ | ⟨f, args, hr, hc⟩
  · unfold Oper.wp
    rw [hr]
    exact hK v w' hv hb'
  · unfold Oper.wp
    rw [hr, Oper.upon_enter]
    refine hc.mono ?_
    rintro e w' ⟨v, rfl, hv, hb'⟩
    exact hK v w' hv hb'

theorem enters {P : Program} {f : FuncId} {fn : Func} {c : Code} (hf : P.funcs[f]? = some fn) (hname : (fn.name == "runtime.NumGoroutine") = false) (hb : fn.body = some c) (args : Array Value) (w : World) :
    (callFunc f args).run P w = .ok (.enter f args) w := by
  have h1 : fn.name ≠ "runtime.NumGoroutine" := by simpa using hname
  simp [callFunc, hf, h1, hb]
theorem wanted_of {o : Oper} {ops : Array Oper} {tmps : Array Value} {j : Nat} {b : Bool} (hg : o.guard = some (j, b)) (h : ((ops[j]?).bind (·.dst)).bind (tmps[·]?) = some (.bool b)) : Region.wanted o (yielded ops tmps) = true := by
  simp only [Region.wanted, hg, yielded, h]
  cases b <;> rfl

end Go.Proofs.YtaalhglooipnaaaGreat
namespace Go.Proofs.YtaalhglooipnaaaGreat
open Go.RowKit

/-- Does an operation wait for another one, by one edge or two? -/
def dep2B (l : List Oper) (o : Oper) (j : Nat) : Bool := depB o j || o.after.toList.any fun e => Region.binds .any e && (match l[e.on]? with | some o' => depB o' j | none => false)
def tailB (l : List Oper) : List Oper → Nat → Bool
  | [], _ => true
  | o :: os, k => (List.range k).all (fun j => dep2B l o j) && tailB l os (k + 1)
theorem tailB_at (l : List Oper) : ∀ (t : List Oper) (k : Nat), tailB l t k = true → ∀ i o, t[i]? = some o → ∀ j, j < k + i → dep2B l o j = true
  | [], _, _, i, o, h => by simp at h
  | x :: t, k, hs, 0, o, h => by
    simp at h
    subst h
    rw [tailB, Bool.and_eq_true, List.all_eq_true] at hs
    intro j hj
    exact hs.1 j (by simpa using hj)
  | x :: t, k, hs, i + 1, o, h => by
    rw [tailB, Bool.and_eq_true] at hs
    have := tailB_at l t (k + 1) hs.2 i o (by simpa using h)
    rwa [show k + (i + 1) = k + 1 + i by omega]

theorem wpList_op {P : Program} {ops : Array Oper} {Q : Exit → Act → World → Prop} {i : Nat} {o : Oper} {rest : List Oper} {a : Act} {w : World} (ho : ops[i]? = some o) (h : wpList P ops Q (o :: rest) a w) : wpOp P ops Q i (wpList P ops Q rest) a w := by
  unfold wpOp
  rw [ho]
  exact h

/-- What is known while the region runs: ahead of the last operations, or among them. -/
def RegI (P : Program) (l : List Oper) (Q : Exit → Act → World → Prop) (n : Nat) (W : World) (V : Nat → Value → World → Prop) (lit : (Nat → Value) → Act) (L : Nat → Bool) (a : Act) (w : World) : Prop :=
  ((∀ i o, l[i]? = some o → L i = true → ∀ e ∈ o.after, Region.binds .any e = true → L e.on = true) ∧ (∀ i, n ≤ i → L i = false) ∧ ∃ s, a = lit s ∧ Below W.heap.size W w ∧ ∀ i, i < n → L i = true → V i (s i) w) ∨
  ∃ k, n < k ∧ (∀ i, L i = decide (i < k)) ∧ wpList P l.toArray Q (l.drop k) a w

theorem wp_region_tail {P : Program} {Q : Exit → Act → World → Prop} {l : List Oper} {id : Nat} {a : Act} (n : Nat) (W : World) (hm : P.follows .mixedOrders = true) (hac : acL l 0 = true) (htl : tailB l (l.drop n) n = true) (hn : nodupB ((l.take n).map (·.dst)) = true)
    (V : Nat → Value → World → Prop) (keep : ∀ j v w w', V j v w → Below w.heap.size w w' → V j v w')
    (steps : StepAll (OpAt P l.toArray W V (litOf a ((l.take n).map (·.dst)) 0)) (l.take n) 0)
    (fin : ∀ s w, Below W.heap.size W w → (∀ i, i < n → V i (s i) w) → wpList P l.toArray Q (l.drop n) (litOf a ((l.take n).map (·.dst)) 0 s) w) (hlen0 : Nat.ble n l.length = true) : (Code.region id l.toArray true).wp P Q a W := by
  have hlen : n ≤ l.length := Nat.le_of_ble_eq_true hlen0
  refine wp_region_any hm ?_
  obtain ⟨lit, hlit⟩ : ∃ f, f = litOf a ((l.take n).map (·.dst)) 0 := ⟨_, rfl⟩
  rw [← hlit] at steps
  have hfin : ∀ s w, Below W.heap.size W w → (∀ i, i < n → V i (s i) w) → wpList P l.toArray Q (l.drop n) (lit s) w := by rw [hlit]; exact fin
  have hac' : ∀ (i : Nat) (o : Oper), l.toArray[i]? = some o → ∀ e ∈ o.after, e.on < i := by
    intro i o ho e he
    have := acL_at l 0 hac i o (by simpa using ho) e he
    rwa [Nat.zero_add] at this
  have hput : ∀ i o, l[i]? = some o → i < n → ∀ s v, (lit s).put o.dst v = lit (upd s i v) := fun i o ho hi s v => by
    have hd : ((l.take n).map (·.dst))[i]? = some o.dst := by simp [ho, hi]
    have := litOf_put ((l.take n).map (·.dst)) a 0 s i o.dst v (nodupB_nodup _ hn) hd
    rw [hlit]
    rwa [Nat.zero_add] at this
  refine wpAny_inv (I := RegI P l Q n W V lit) hac' ?_ ?_ _ _ _ _ (by simp) ?_ ?_
  · intro i o ho L a w hI hLi hd
    have ho' : l[i]? = some o := by simpa using ho
    have hil : i < l.length := (List.getElem?_eq_some_iff.1 ho').1
    rcases hI with ⟨hc, ht, s, rfl, hb, hV⟩ | ⟨k, hk, hL, hw⟩
    · by_cases hin : i < n
      · have hs := StepAll.at (l.take n) 0 steps i o (by simp [ho', hin])
        rw [Nat.zero_add] at hs
        obtain ⟨hwant, hcase⟩ := hs s w hb (fun j hj => by
          unfold depB at hj
          rw [List.any_eq_true] at hj
          obtain ⟨e, he, h2⟩ := hj
          rw [Array.mem_toList_iff] at he
          simp only [Bool.and_eq_true, beq_iff_eq] at h2
          obtain ⟨rfl, h3⟩ := h2
          exact hV _ (by have := hac' i o ho e he; omega) (hd e he h3))
        refine wpOp_step ho fun K hK => ?_
        rw [if_pos hwant]
        have hnext : ∀ v w', V i v w' → Below w.heap.size w w' → K ((lit s).put o.dst v) w' := by
          intro v w' hv hbw
          refine hK _ _ (.inl ⟨?_, fun j hj => ?_, upd s i v, hput i o ho' hin s v, hb.trans (hbw.mono hb.size), fun j hjn hj => ?_⟩)
          · intro j oj hoj hLj e he hbe
            rw [setL] at hLj ⊢
            by_cases ej : j = i
            · subst ej
              have : o = oj := by rw [ho'] at hoj; injection hoj
              subst this
              have h1 := hac' j o ho e he
              rw [if_neg (by omega)]
              exact hd e he hbe
            · rw [if_neg ej] at hLj
              split
              · rfl
              · exact hc j oj hoj hLj e he hbe
          · rw [setL, if_neg (by omega)]
            exact ht j hj
          · by_cases e : j = i
            · subst e; rw [upd, if_pos rfl]; exact hv
            · rw [upd, if_neg e]
              rw [setL, if_neg e] at hj
              exact keep _ _ _ _ (hV j hjn hj) hbw
        rcases hcase with ⟨v, w', hr, hv, hb'⟩ | ⟨f, args, hr, hcl⟩
        · unfold Oper.wp
          rw [hr]
          exact hnext v w' hv hb'
        · unfold Oper.wp
          rw [hr, Oper.upon_enter]
          refine hcl.mono ?_
          rintro e w' ⟨v, rfl, hv, hb'⟩
          exact hnext v w' hv hb'
      · -- the first one of the last
        have hd2 := tailB_at l (l.drop n) n htl (i - n) o (by rw [List.getElem?_drop, show n + (i - n) = i by omega]; exact ho')
        have hall : ∀ j, j < i → L j = true := by
          intro j hj
          have h2 := hd2 j (by omega)
          unfold dep2B at h2
          rw [Bool.or_eq_true] at h2
          rcases h2 with h2 | h2
          · unfold depB at h2
            rw [List.any_eq_true] at h2
            obtain ⟨e, he, h3⟩ := h2
            rw [Array.mem_toList_iff] at he
            simp only [Bool.and_eq_true, beq_iff_eq] at h3
            obtain ⟨rfl, h3⟩ := h3
            exact hd e he h3
          · rw [List.any_eq_true] at h2
            obtain ⟨e, he, h3⟩ := h2
            rw [Array.mem_toList_iff] at he
            simp only [Bool.and_eq_true] at h3
            obtain ⟨hbe, h3⟩ := h3
            split at h3
            · rename_i o' ho2
              unfold depB at h3
              rw [List.any_eq_true] at h3
              obtain ⟨e2, he2, h4⟩ := h3
              rw [Array.mem_toList_iff] at he2
              simp only [Bool.and_eq_true, beq_iff_eq] at h4
              obtain ⟨rfl, h4⟩ := h4
              exact hc e.on o' ho2 (hd e he hbe) e2 he2 h4
            · cases h3
        have hi : i = n := by
          by_cases e : i = n
          · exact e
          · exfalso
            have h1 := hall n (by omega)
            rw [ht n (Nat.le_refl _)] at h1
            cases h1
        subst hi
        have hw := hfin s w hb (fun j hj => hV j hj (hall j hj))
        have hdr : l.drop i = o :: l.drop (i + 1) := by
          rw [List.drop_eq_getElem_cons hil]
          congr 1
          rw [List.getElem?_eq_getElem hil] at ho'
          injection ho'
        rw [hdr] at hw
        refine wpOp_mono ?_ (wpList_op (by simpa using ho') hw)
        intro a' w' h'
        refine .inr ⟨i + 1, by omega, fun j => ?_, h'⟩
        rw [setL]
        by_cases e : j = i
        · rw [if_pos e, e]; simp
        · rw [if_neg e]
          by_cases e2 : j < i
          · rw [hall j e2]; simp; omega
          · rw [ht j (by omega)]; simp; omega
    · have hki : i = k := by
        have h1 := hL i
        rw [hLi] at h1
        have h2 : k ≤ i := by
          have := h1.symm
          simpa using this
        have hd2 := tailB_at l (l.drop n) n htl (i - n) o (by rw [List.getElem?_drop, show n + (i - n) = i by omega]; exact ho')
        by_cases e : i = k
        · exact e
        · exfalso
          have h2 := hd2 k (by omega)
          have hLk : L k = false := by rw [hL k]; simp
          unfold dep2B at h2
          rw [Bool.or_eq_true] at h2
          rcases h2 with h2 | h2
          · unfold depB at h2
            rw [List.any_eq_true] at h2
            obtain ⟨e, he, h3⟩ := h2
            rw [Array.mem_toList_iff] at he
            simp only [Bool.and_eq_true, beq_iff_eq] at h3
            obtain ⟨h4, h3⟩ := h3
            have := hd e he h3
            rw [h4, hLk] at this
            cases this
          · rw [List.any_eq_true] at h2
            obtain ⟨e, he, h3⟩ := h2
            rw [Array.mem_toList_iff] at he
            simp only [Bool.and_eq_true] at h3
            obtain ⟨hbe, h3⟩ := h3
            split at h3
            · rename_i o' ho2
              unfold depB at h3
              rw [List.any_eq_true] at h3
              obtain ⟨e2, he2, h4⟩ := h3
              rw [Array.mem_toList_iff] at he2
              simp only [Bool.and_eq_true, beq_iff_eq] at h4
              have h5 := hd e he hbe
              rw [hL e.on] at h5
              have h6 := acL_at l 0 hac e.on o' ho2 e2 he2
              have h7 : e.on < k := by simpa using h5
              omega
            · cases h3
      subst hki
      have hdr : l.drop i = o :: l.drop (i + 1) := by
        rw [List.drop_eq_getElem_cons hil]
        congr 1
        rw [List.getElem?_eq_getElem hil] at ho'
        injection ho'
      rw [hdr] at hw
      refine wpOp_mono ?_ (wpList_op (by simpa using ho') hw)
      intro a' w' h'
      refine .inr ⟨i + 1, by omega, fun j => ?_, h'⟩
      rw [setL]
      by_cases e : j = i
      · rw [if_pos e, e]; simp
      · rw [if_neg e, hL j]
        by_cases e2 : j < i
        · simp [e2]; omega
        · simp [e2]; omega
  · rintro L a w hI hL
    rcases hI with ⟨hc, ht, s, rfl, hb, hV⟩ | ⟨k, hk, hLk, hw⟩
    · have hnl : n = l.length := by
        by_cases e : n = l.length
        · exact e
        · exfalso
          have := hL n (by simp; omega)
          rw [ht n (Nat.le_refl _)] at this
          cases this
      have := hfin s w hb (fun i hi => hV i hi (hL i (by simp; omega)))
      rw [hnl, List.drop_length] at this
      exact this
    · have : l.drop k = [] := by
        apply List.drop_eq_nil_of_le
        rcases Nat.lt_or_ge k l.length with h | h
        · exfalso
          have h2 := hL k (by simpa using h)
          rw [hLk k] at h2
          simp at h2
        · exact h
      rw [this] at hw
      exact hw
  · have : ∀ (f : Nat → Bool) n, cntF f n ≤ n := by
      intro f n
      induction n with
      | zero => exact Nat.le_refl _
      | succ n ih => rw [cntF]; split <;> omega
    exact this _ _
  · have hno : ∀ i, listedF (Array.replicate l.toArray.size false) i = false := by
      intro i
      unfold listedF
      rw [Array.getD_eq_getD_getElem?]
      by_cases h : i < l.length
      · simp [h]
      · simp [h]
    refine .inl ⟨fun i o _ hi => ?_, fun i _ => hno i, curOf a ((l.take n).map (·.dst)), ?_, (Below.refl _ W).drew, fun i _ hi => ?_⟩
    · rw [hno i] at hi; cases hi
    · rw [hlit]; exact (litOf_cur a _ 0 _ fun j _ => by rw [Nat.zero_add]).symm
    · rw [hno i] at hi; cases hi

end Go.Proofs.YtaalhglooipnaaaGreat
namespace Go.Proofs.YtaalhglooipnaaaGreat
open Go.RowKit
attribute [local go_sem ↓] Go.wp_at_zero Go.wp_at_succ

section
variable {ρ : Operand → Value} {o : Oper} {w w' : World}
theorem ex_mv {x : Operand} {v : Value} (ho : o.op = .move x) (h : ρ x = v) : (execOp ρ o).run Tryz.prog w = .ok (.value v) w := by
  unfold execOp; rw [ho]; simp [h]
theorem ex_asg {x : Operand} {v : Value} (ho : o.op = .assign x) (h : ρ x = v) : (execOp ρ o).run Tryz.prog w = .ok (.value v) w := by
  unfold execOp; rw [ho]; simp [h]
theorem ex_fld {t : TypeId} {x : Operand} {j : Nat} {p q : Value} (ho : o.op = .fieldAddr t x j) (h : ρ x = p) (hf : (Instr.fieldAt t p j).run Tryz.prog w = .ok q w) : (execOp ρ o).run Tryz.prog w = .ok (.value q) w := by
  unfold execOp; rw [ho]; simp [h, hf]
theorem ex_ld {t : TypeId} {x : Operand} {p q : Value} (ho : o.op = .load t x) (h : ρ x = p) (hf : (Instr.loadAt t p).run Tryz.prog w = .ok q w) : (execOp ρ o).run Tryz.prog w = .ok (.value q) w := by
  unfold execOp; rw [ho]; simp [h, hf]
theorem ex_idx {t : TypeId} {x y : Operand} {p i q : Value} (ho : o.op = .indexAddr t x y) (h : ρ x = p) (hi : ρ y = i) (hf : (Instr.indexAt t p i).run Tryz.prog w = .ok q w) : (execOp ρ o).run Tryz.prog w = .ok (.value q) w := by
  unfold execOp; rw [ho]; simp [h, hi, hf]
theorem ex_alc {t : TypeId} {q : Value} (ho : o.op = .alloc t) (hf : (Instr.alloc t true (.tuple #[])).run Tryz.prog w = .ok q w') : (execOp ρ o).run Tryz.prog w = .ok (.value q) w' := by
  unfold execOp; rw [ho]; simp [hf]
theorem ex_bld {t : TypeId} {ps : Array (Nat × Operand)} {vs : Array (Nat × Value)} {q : Value} (ho : o.op = .build t ps) (h : ps.map (fun (i, x) => (i, ρ x)) = vs) (hf : (Instr.build t vs).run Tryz.prog w = .ok q w) : (execOp ρ o).run Tryz.prog w = .ok (.value q) w := by
  unfold execOp; rw [ho]; simp only [h]; simp [hf]
theorem ex_bsl {t : TypeId} {n : Nat} {ps : Array (Nat × Operand)} {vs : Array (Nat × Value)} {q : Value} (ho : o.op = .buildSlice t n ps) (h : ps.map (fun (i, x) => (i, ρ x)) = vs) (hf : (Instr.buildSlice t n vs).run Tryz.prog w = .ok q w') : (execOp ρ o).run Tryz.prog w = .ok (.value q) w' := by
  unfold execOp; rw [ho]; simp only [h]; simp [hf]
theorem ex_ext {x : Operand} {j : Nat} {p q : Value} (ho : o.op = .extract x j) (h : ρ x = p) (hf : (Instr.extract p j).run Tryz.prog w = .ok q w) : (execOp ρ o).run Tryz.prog w = .ok (.value q) w := by
  unfold execOp; rw [ho]; simp [h, hf]
theorem ex_nil {x : Operand} {a : Addr} (ho : o.op = .nilCheck x) (h : ρ x = .pointer (some a)) : (execOp ρ o).run Tryz.prog w = .ok (.value (.pointer (some a))) w := by
  unfold execOp; rw [ho]; simp [h]
theorem ex_lkp {t : TypeId} {x y : Operand} {c : Bool} {p i q : Value} (ho : o.op = .lookup t x y c) (h : ρ x = p) (hi : ρ y = i) (hf : (Instr.lookup t p i c).run Tryz.prog w = .ok q w) : (execOp ρ o).run Tryz.prog w = .ok (.value q) w := by
  unfold execOp; rw [ho]; simp [h, hi, hf]
theorem ex_bin {op : BinOp} {t t' : TypeId} {x y : Operand} {p q r : Value} (ho : o.op = .binOp op t x y t') (h : ρ x = p) (h' : ρ y = q) (hf : (do eqGuard op t x y p q; binOp op t p q : Sem Value).run Tryz.prog w = .ok r w) : (execOp ρ o).run Tryz.prog w = .ok (.value r) w := by
  unfold execOp; rw [ho]
  have hf' := hf
  simp only [Sem.run_bind] at hf' ⊢
  simp only [h, h', hf']
  rfl
theorem ex_c1 {x : Operand} {f : FuncId} {u : Value} {ts : Array TypeId} (ho : o.op = .call { callee := .value (.func f), args := #[x], argTypes := ts }) (hf : ρ (.func f) = .func (.func f) #[] #[]) (hc : (callFunc f #[u]).run Tryz.prog w = .ok (.enter f #[u]) w) (h : ρ x = u) : (execOp ρ o).run Tryz.prog w = .ok (.enter f #[u]) w := by
  unfold execOp; rw [ho]; simp only [resolve, hf]
  go_simp
theorem ex_c2 {x y : Operand} {f : FuncId} {u v : Value} {ts : Array TypeId} (ho : o.op = .call { callee := .value (.func f), args := #[x, y], argTypes := ts }) (hf : ρ (.func f) = .func (.func f) #[] #[]) (hc : (callFunc f #[u, v]).run Tryz.prog w = .ok (.enter f #[u, v]) w) (h : ρ x = u) (h' : ρ y = v) : (execOp ρ o).run Tryz.prog w = .ok (.enter f #[u, v]) w := by
  unfold execOp; rw [ho]; simp only [resolve, hf]
  go_simp
theorem ex_c3 {x y z : Operand} {f : FuncId} {u v t : Value} {ts : Array TypeId} (ho : o.op = .call { callee := .value (.func f), args := #[x, y, z], argTypes := ts }) (hf : ρ (.func f) = .func (.func f) #[] #[]) (hc : (callFunc f #[u, v, t]).run Tryz.prog w = .ok (.enter f #[u, v, t]) w) (h : ρ x = u) (h' : ρ y = v) (h2 : ρ z = t) : (execOp ρ o).run Tryz.prog w = .ok (.enter f #[u, v, t]) w := by
  unfold execOp; rw [ho]; simp only [resolve, hf]
  go_simp
end

theorem ld_row {w : World} {g : Nat} {ty t : TypeId} {cs : Array Value} {fs : Array Field} (hg : Blk w g t cs) (hu : Tryz.prog.underlying ty = some (.struct fs)) (hi : (Tryz.prog.info? ty).map (·.size) = some cs.size) :
    (Instr.loadAt ty (.pointer (some ⟨g, 0, none⟩))).run Tryz.prog w = .ok (.agg cs) w := by
  simp only [Instr.loadAt, Instr.sureAddr, Sem.run_bind, Sem.run_pure, Result.andThen_ok]
  exact run_loadVar_row w g t ty cs (0, 0) (.struct fs) hg hu rfl hi

theorem setRow_blk {w : World} {g : Nat} {t : TypeId} {cs cs' : Array Value} (hg : Blk w g t cs) : Blk (w.setRow g cs') g t cs' := setRow_heap w g cs _ _ _ hg

/-- A store of a whole variable, whose block is known: what is then. -/
theorem wpList_store_blk {P : Program} {ops : Array Oper} {rest : List Oper} {o : Oper} {a : Act} {w : World} {Q : Exit → Act → World → Prop} (hgd : o.guard = none) (ty : TypeId) (x y : Operand) (ho : o.op = .store ty x y)
    (g : Nat) (cells : Array Value) (hx : a.eval x = .pointer (some ⟨g, 0, none⟩)) (hy : a.eval y = .agg cells) (t : TypeId) (cs : Array Value) (hg : Blk w g t cs) (hcs : cs.size = cells.size) (hi : (P.info? ty).map (·.size) = some cells.size) (h1 : cells.all (·.oneCell') = true)
    (h : ∀ w', Blk w' g t cells → w.grownBy w' (some g) → w'.heap.size = w.heap.size → wpList P ops Q rest (a.put o.dst undef) w') : wpList P ops Q (o :: rest) a w :=
  wpList_plain hgd fun _ hK => wp_store_row ty x y ho g cells hx hy t cs hg hi hcs h1 (hK _ _ (h _ (setRow_blk hg) (grown_setRow w g cells) (by simp [World.setRow])))

end Go.Proofs.YtaalhglooipnaaaGreat
