/-
  A law for a region that draws its order, of values that are known one by one: the frame is the one ahead of the region with what each operation has put.
-/
import Derived.Test.YtgopokoghnfgiaaWovE
namespace Go.Proofs.Ytgopokoghnfgiaa
open Go.RowKit

theorem put_same (a : Act) (d : Option Tmp) (u v : Value) : (a.put d u).put d v = a.put d v := by
  cases d <;> simp [Act.put]
theorem put_comm (a : Act) {d d' : Option Tmp} (h : d ≠ d') (u v : Value) : (a.put d u).put d' v = (a.put d' v).put d u := by
  cases d with
  | none => cases d' <;> simp [Act.put]
  | some x =>
    cases d' with
    | none => simp [Act.put]
    | some y =>
      have hxy : x ≠ y := fun e => h (by rw [e])
      simp only [Act.put]
      rw [Array.setIfInBounds_comm _ _ hxy]
theorem put_self (a : Act) (d : Option Tmp) : a.put d (match d with | some t => a.tmps.getD t undef | none => undef) = a := by
  cases d with
  | none => rfl
  | some t =>
    simp only [Act.put]
    have : a.tmps.setIfInBounds t (a.tmps.getD t undef) = a.tmps := by
      apply Array.ext
      · simp
      · intro i h1 h2
        by_cases hi : t = i
        · subst hi; simp [Array.getD, h2]
        · exact Array.getElem_setIfInBounds_ne h2 hi
    rw [this]

def litOf (a : Act) : List (Option Tmp) → Nat → (Nat → Value) → Act
  | [], _, _ => a
  | d :: ds, k, s => litOf (a.put d (s k)) ds (k + 1) s
theorem litOf_upd_lt : ∀ (ds : List (Option Tmp)) (a : Act) (k : Nat) (s : Nat → Value) (i : Nat) (v : Value), i < k → litOf a ds k (upd s i v) = litOf a ds k s
  | [], _, _, _, _, _, _ => rfl
  | d :: ds, a, k, s, i, v, h => by
    rw [litOf, litOf, litOf_upd_lt ds _ (k + 1) s i v (by omega), upd, if_neg (by omega)]
theorem litOf_put_out : ∀ (ds : List (Option Tmp)) (a : Act) (k : Nat) (s : Nat → Value) (d : Option Tmp) (v : Value), d ∉ ds → (litOf a ds k s).put d v = litOf (a.put d v) ds k s
  | [], _, _, _, _, _, _ => rfl
  | d' :: ds, a, k, s, d, v, h => by
    have h1 : d' ≠ d := fun e => h (by simp [e])
    rw [litOf, litOf, litOf_put_out ds _ (k + 1) s d v (fun e => h (by simp [e])), put_comm _ h1]
theorem litOf_put : ∀ (ds : List (Option Tmp)) (a : Act) (k : Nat) (s : Nat → Value) (i : Nat) (d : Option Tmp) (v : Value), ds.Nodup → ds[i]? = some d → (litOf a ds k s).put d v = litOf a ds k (upd s (k + i) v)
  | [], _, _, _, _, _, _, _, h => by simp at h
  | d' :: ds, a, k, s, 0, d, v, hn, h => by
    simp at h
    subst h
    rw [litOf, litOf, litOf_put_out _ _ _ _ _ _ (List.nodup_cons.1 hn).1, put_same, litOf_upd_lt _ _ _ _ _ _ (by omega), upd, if_pos (by omega)]
  | d' :: ds, a, k, s, i + 1, d, v, hn, h => by
    rw [litOf, litOf, litOf_put ds _ (k + 1) s i d v (List.nodup_cons.1 hn).2 (by simpa using h), show k + 1 + i = k + (i + 1) by omega]
    have : upd s (k + (i + 1)) v k = s k := if_neg (by omega)
    rw [this]
def curOf (a : Act) (ds : List (Option Tmp)) (j : Nat) : Value := match ds.getD j none with | some t => a.tmps.getD t undef | none => undef
theorem litOf_cur (a : Act) : ∀ (ds : List (Option Tmp)) (k : Nat) (s : Nat → Value), (∀ j, j < ds.length → s (k + j) = curOf a ds j) → litOf a ds k s = a
  | [], _, _, _ => rfl
  | d :: ds, k, s, h => by
    have h0 := h 0 (by simp)
    rw [Nat.add_zero] at h0
    rw [litOf, h0]
    have e : a.put d (curOf a (d :: ds) 0) = a := put_self a d
    rw [e]
    refine litOf_cur a ds (k + 1) s fun j hj => ?_
    rw [show k + 1 + j = k + (j + 1) by omega, h (j + 1) (by simp; omega)]
    rfl

def nodupB (l : List (Option Tmp)) : Bool := match l with
  | [] => true
  | d :: ds => !ds.contains d && nodupB ds
theorem nodupB_nodup : ∀ l : List (Option Tmp), nodupB l = true → l.Nodup
  | [], _ => List.nodup_nil
  | d :: ds, h => by
    rw [nodupB, Bool.and_eq_true] at h
    exact List.nodup_cons.2 ⟨by simpa using h.1, nodupB_nodup ds h.2⟩

/-! ### What the frame then holds -/
def neB (t : Tmp) : Option Tmp → Bool
  | some x => !Nat.beq x t
  | none => true
def outB (t : Tmp) : List (Option Tmp) → Bool
  | [] => true
  | d :: ds => neB t d && outB t ds
def atB (ds : List (Option Tmp)) (i : Nat) (t : Tmp) : Bool := match ds[i]? with
  | some (some x) => Nat.beq x t
  | _ => false
theorem put_size (a : Act) (d : Option Tmp) (v : Value) : (a.put d v).tmps.size = a.tmps.size := by
  cases d <;> simp [Act.put]
theorem litOf_size : ∀ (ds : List (Option Tmp)) (a : Act) (k : Nat) (s : Nat → Value), (litOf a ds k s).tmps.size = a.tmps.size
  | [], _, _, _ => rfl
  | d :: ds, a, k, s => by rw [litOf, litOf_size ds, put_size]
theorem lit_out {ds : List (Option Tmp)} {a : Act} {s : Nat → Value} (t : Tmp) (h : outB t ds = true) : (litOf a ds 0 s).eval (.tmp t) = a.eval (.tmp t) := by
  have : ∀ (ds : List (Option Tmp)) (a : Act) (k : Nat), outB t ds = true → (litOf a ds k s).tmps.getD t undef = a.tmps.getD t undef := by
    intro ds
    induction ds with
    | nil => intro a k _; rfl
    | cons d ds ih =>
      intro a k h
      rw [outB, Bool.and_eq_true] at h
      rw [litOf, ih _ _ h.2]
      cases d with
      | none => rfl
      | some x =>
        have hx : x ≠ t := fun e => by subst e; simp [neB] at h
        simp only [Act.put, Array.getD_eq_getD_getElem?]
        rw [Array.getElem?_setIfInBounds_ne hx]
  exact this ds a 0 h
theorem lit_at {ds : List (Option Tmp)} {a : Act} {s : Nat → Value} (i : Nat) (t : Tmp) (h : atB ds i t = true) (hn : nodupB ds = true) (ht : Nat.blt t a.tmps.size = true) : (litOf a ds 0 s).eval (.tmp t) = s i := by
  have hd : ds[i]? = some (some t) := by
    unfold atB at h
    split at h
    · rename_i x hx
      rw [hx, Nat.eq_of_beq_eq_true h]
    · cases h
  have h1 := litOf_put ds a 0 s i (some t) (s i) (nodupB_nodup _ hn) hd
  have h2 : upd s (0 + i) (s i) = s := by
    funext j
    rw [Nat.zero_add, upd]
    split
    · rename_i e; rw [e]
    · rfl
  rw [h2] at h1
  rw [← h1]
  have h3 := litOf_size ds a 0 s
  have h4 : t < a.tmps.size := by simpa using ht
  simp only [Act.eval, Act.put, Array.getD_eq_getD_getElem?]
  rw [Array.getElem?_setIfInBounds_self_of_lt (by rw [h3]; exact h4)]
  rfl

/-- What each operation of the region owes. -/
def OpAt (P : Program) (ops : Array Oper) (W : World) (V : Nat → Value → World → Prop) (L : (Nat → Value) → Act) (i : Nat) (o : Oper) : Prop :=
  ∀ (s : Nat → Value) (w : World), Below W.heap.size W w → (∀ j, depB o j = true → V j (s j) w) →
    Region.wanted o (yielded ops (L s).tmps) = true ∧
    ((∃ v w', (execOp (L s).eval o).run P w = .ok (.value v) w' ∧ V i v w' ∧ Below w.heap.size w w') ∨
     (∃ f args, (execOp (L s).eval o).run P w = .ok (.enter f args) w ∧ Calls P f args w (fun e w' => ∃ v, e = .returned v ∧ V i v w' ∧ Below w.heap.size w w')))

theorem StepAll.imp {S T : Nat → Oper → Prop} : ∀ (l : List Oper) (k : Nat), (∀ i o, l[i]? = some o → S (k + i) o → T (k + i) o) → StepAll S l k → StepAll T l k
  | [], _, _, _ => trivial
  | o :: l, k, h, hs => ⟨h 0 o (by simp) hs.1, StepAll.imp l (k + 1) (fun i o' h1 h2 => by
      have := h (i + 1) o' (by simpa using h1)
      rw [show k + (i + 1) = k + 1 + i by omega] at this
      exact this h2) hs.2⟩

theorem wp_region_lit {P : Program} {Q : Exit → Act → World → Prop} {l : List Oper} {id : Nat} {a : Act} (W : World) (hm : P.follows .mixedOrders = true) (hac : acL l 0 = true) (hn : nodupB (l.map (·.dst)) = true)
    (V : Nat → Value → World → Prop) (keep : ∀ j v w w', V j v w → Below w.heap.size w w' → V j v w')
    (steps : StepAll (OpAt P l.toArray W V (litOf a (l.map (·.dst)) 0)) l 0)
    (fin : ∀ s w, Below W.heap.size W w → (∀ i, i < l.length → V i (s i) w) → Q .normal (litOf a (l.map (·.dst)) 0 s) w) : (Code.region id l.toArray true).wp P Q a W := by
  refine wp_region_facts W hm hac V (litOf a (l.map (·.dst)) 0) (curOf a (l.map (·.dst))) (litOf_cur a _ 0 _ fun j _ => by rw [Nat.zero_add]) keep ?_ fin
  refine StepAll.imp l 0 (fun i o ho h => ?_) steps
  rw [Nat.zero_add] at h ⊢
  have hd : (l.map (·.dst))[i]? = some o.dst := by simp [ho]
  have hput : ∀ s v, (litOf a (l.map (·.dst)) 0 s).put o.dst v = litOf a (l.map (·.dst)) 0 (upd s i v) := fun s v => by
    have := litOf_put (l.map (·.dst)) a 0 s i o.dst v (nodupB_nodup _ hn) hd
    rwa [Nat.zero_add] at this
  refine ⟨hput, fun s w hb hdep K hK => ?_⟩
  obtain ⟨hw, h⟩ := h s w hb hdep
  rw [if_pos hw]
  rcases h with ⟨v, w', hr, hv, hb'⟩ | ⟨f, args, hr, hc⟩
  · unfold Oper.wp
    rw [hr]
    exact hK v w' hv hb'
  · unfold Oper.wp
    rw [hr, Oper.upon_enter]
    refine hc.mono ?_
    rintro e w' ⟨v, rfl, hv, hb'⟩
    exact hK v w' hv hb'

theorem enters {P : Program} {f : FuncId} {fn : Func} {c : Code} (hf : P.funcs[f]? = some fn) (hname : (fn.name == "runtime.NumGoroutine") = false) (hb : fn.body = some c) (args : Array Value) (w : World) :
    (callFunc f args).run P w = .ok (.enter f args) w := by
  have h1 : fn.name ≠ "runtime.NumGoroutine" := by simpa using hname
  simp [callFunc, hf, h1, hb]
theorem wanted_of {o : Oper} {ops : Array Oper} {tmps : Array Value} {j : Nat} {b : Bool} (hg : o.guard = some (j, b)) (h : ((ops[j]?).bind (·.dst)).bind (tmps[·]?) = some (.bool b)) : Region.wanted o (yielded ops tmps) = true := by
  simp only [Region.wanted, hg, yielded, h]
  cases b <;> rfl

/-- An operation that leads to R. -/
def StepTo (P : Program) (Q : Exit → Act → World → Prop) (o : Oper) (a : Act) (w : World) (R : Value → World → Prop) : Prop := ∀ K : Act → World → Prop, (∀ v w', R v w' → K (a.put o.dst v) w') → Oper.wp P o a w K Q
theorem StepTo.val {P : Program} {Q : Exit → Act → World → Prop} {o : Oper} {a : Act} {w w' : World} {R : Value → World → Prop} {v : Value} (hr : (execOp a.eval o).run P w = .ok (.value v) w') (h : R v w') : StepTo P Q o a w R := fun K hK => by
  unfold Oper.wp; rw [hr]; exact hK v w' h
theorem StepTo.skip {P : Program} {Q : Exit → Act → World → Prop} {o : Oper} {a : Act} {w w' : World} {R : Value → World → Prop} (hr : (execOp a.eval o).run P w = .ok .skip w') (h : R undef w') : StepTo P Q o a w R := fun K hK => by
  unfold Oper.wp; rw [hr]; exact hK undef w' h
theorem StepTo.call {P : Program} {Q : Exit → Act → World → Prop} {o : Oper} {a : Act} {w : World} {R : Value → World → Prop} {f : FuncId} {args : Array Value} (hr : (execOp a.eval o).run P w = .ok (.enter f args) w) (h : Calls P f args w (fun e w' => ∃ v, e = .returned v ∧ R v w')) : StepTo P Q o a w R := fun K hK => by
  unfold Oper.wp; rw [hr, Oper.upon_enter]
  refine h.mono ?_
  rintro e w' ⟨v, rfl, hv⟩
  exact hK v w' hv
/-- A region that draws its order, of plain steps and of a few that change more than what is new: J says what holds then, by what has been done. -/
theorem wp_region_mix {P : Program} {Q : Exit → Act → World → Prop} {l : List Oper} {id : Nat} {a : Act} (w0 : World) (hm : P.follows .mixedOrders = true) (hac : acL l 0 = true) (hn : nodupB (l.map (·.dst)) = true)
    (V : Nat → Value → World → Prop) (Rel : World → World → Prop) (hRB : ∀ w w', Below w.heap.size w w' → Rel w w') (keep : ∀ j v w w', V j v w → Rel w w' → V j v w')
    (J : (Nat → Bool) → (Nat → Value) → World → Prop) (J0 : J (fun _ => false) (curOf a (l.map (·.dst))) w0.drew)
    (sp : Nat → Bool) (JB : ∀ L s w i v w', sp i = false → L i = false → J L s w → Below w.heap.size w w' → J (setL L i) (upd s i v) w')
    (steps : StepAll (fun i o => ∀ L s w, L i = false → J L s w → (∀ j, depB o j = true → L j = true ∧ V j (s j) w) →
      Region.wanted o (yielded l.toArray (litOf a (l.map (·.dst)) 0 s).tmps) = true ∧
      StepTo P Q o (litOf a (l.map (·.dst)) 0 s) w fun v w' => V i v w' ∧ (if sp i = true then Rel w w' ∧ J (setL L i) (upd s i v) w' else Below w.heap.size w w')) l 0)
    (fin : ∀ L s w, (∀ i, i < l.length → L i = true) → J L s w → (∀ i, i < l.length → V i (s i) w) → Q .normal (litOf a (l.map (·.dst)) 0 s) w) : (Code.region id l.toArray true).wp P Q a w0 := by
  refine wp_region_any hm ?_
  have hac' : ∀ (i : Nat) (o : Oper), l.toArray[i]? = some o → ∀ e ∈ o.after, e.on < i := by
    intro i o ho e he
    have := acL_at l 0 hac i o (by simpa using ho) e he
    rwa [Nat.zero_add] at this
  refine wpAny_inv (I := fun L b w => ∃ s L', b = litOf a (l.map (·.dst)) 0 s ∧ (∀ i, i < l.length → L' i = L i) ∧ J L' s w ∧ ∀ i, i < l.length → L i = true → V i (s i) w) hac' ?_ ?_ _ _ _ _ (by simp) ?_ ?_
  · rintro i o ho L b w ⟨s, L', rfl, hL', hJ, hV⟩ hLi hd
    have ho' : l[i]? = some o := by simpa using ho
    have hil : i < l.length := (List.getElem?_eq_some_iff.1 ho').1
    have hs := StepAll.at l 0 steps i o ho'
    rw [Nat.zero_add] at hs
    have hdd : (l.map (·.dst))[i]? = some o.dst := by simp [ho']
    have hput : ∀ s v, (litOf a (l.map (·.dst)) 0 s).put o.dst v = litOf a (l.map (·.dst)) 0 (upd s i v) := fun s v => by
      have := litOf_put (l.map (·.dst)) a 0 s i o.dst v (nodupB_nodup _ hn) hdd
      rwa [Nat.zero_add] at this
    obtain ⟨hw, hstep⟩ := hs L' s w (by rw [hL' i hil]; exact hLi) hJ (fun j hj => by
      unfold depB at hj
      rw [List.any_eq_true] at hj
      obtain ⟨e, he, h2⟩ := hj
      rw [Array.mem_toList_iff] at he
      simp only [Bool.and_eq_true, beq_iff_eq] at h2
      obtain ⟨rfl, h3⟩ := h2
      have h4 := hac' i o ho e he
      have h5 := hd e he h3
      exact ⟨by rw [hL' _ (by omega)]; exact h5, hV _ (by omega) h5⟩)
    refine wpOp_step ho fun K hK => ?_
    rw [if_pos hw]
    refine hstep K fun v w' hvw => ?_
    obtain ⟨hv, hif⟩ := hvw
    refine hK _ _ ⟨upd s i v, setL L' i, hput s v, fun j hj => ?_, ?_, fun j hj hLj => ?_⟩
    · rw [setL, setL]; split
      · rfl
      · exact hL' j hj
    · by_cases hsp : sp i = true
      · rw [if_pos hsp] at hif; exact hif.2
      · rw [if_neg hsp] at hif
        exact JB _ _ _ _ _ _ (by simpa using hsp) (by rw [hL' i hil]; exact hLi) hJ hif
    · have hrel : Rel w w' := by
        by_cases hsp : sp i = true
        · rw [if_pos hsp] at hif; exact hif.1
        · rw [if_neg hsp] at hif; exact hRB _ _ hif
      by_cases e : j = i
      · subst e; rw [upd, if_pos rfl]; exact hv
      · rw [upd, if_neg e]
        rw [setL, if_neg e] at hLj
        exact keep _ _ _ _ (hV j hj hLj) hrel
  · rintro L b w ⟨s, L', rfl, hL', hJ, hV⟩ hL
    exact fin L' s w (fun i hi => by rw [hL' i hi]; exact hL i (by simpa using hi)) hJ fun i hi => hV i hi (hL i (by simpa using hi))
  · have : ∀ (f : Nat → Bool) n, cntF f n ≤ n := by
      intro f n
      induction n with
      | zero => exact Nat.le_refl _
      | succ n ih => rw [cntF]; split <;> omega
    exact this _ _
  · refine ⟨curOf a (l.map (·.dst)), fun _ => false, (litOf_cur a _ 0 _ fun j _ => by rw [Nat.zero_add]).symm, fun i hi => ?_, J0, fun i hi h => ?_⟩
    · unfold listedF
      rw [Array.getD_eq_getD_getElem?]
      simp [hi]
    · exfalso
      unfold listedF at h
      rw [Array.getD_eq_getD_getElem?] at h
      simp [hi] at h

end Go.Proofs.Ytgopokoghnfgiaa
