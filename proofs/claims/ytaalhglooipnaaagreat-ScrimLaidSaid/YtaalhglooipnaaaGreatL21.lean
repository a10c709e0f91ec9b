/-
  The law of Reg where one waits for another by up to seven edges.
  What the document's Lay wants: boxes built, kids' boxes as they grow and are put.
-/
import Derived.Test.YtaalhglooipnaaaGreatL20
import Derived.Test.YtaalhglooipnaaaGreatL19
import Derived.Deep.AppendLies
namespace Go.Proofs.YtaalhglooipnaaaGreat
open Go.RowKit

def depF (l : List Oper) : Nat → Oper → Nat → Bool
  | 0, o, j => depB o j
  | f + 1, o, j => depB o j || o.after.toList.any fun e => Region.binds .any e && (match l[e.on]? with | some o' => depF l f o' j | none => false)
def tailF (l : List Oper) : List Oper → Nat → Bool
  | [], _ => true
  | o :: os, k => (List.range k).all (fun j => depF l 6 o j) && tailF l os (k + 1)
theorem tailF_at (l : List Oper) : ∀ (t : List Oper) (k : Nat), tailF l t k = true → ∀ i o, t[i]? = some o → ∀ j, j < k + i → depF l 6 o j = true
  | [], _, _, i, o, h => by simp at h
  | x :: t, k, hs, 0, o, h => by
    simp at h
    subst h
    rw [tailF, Bool.and_eq_true, List.all_eq_true] at hs
    intro j hj
    exact hs.1 j (by simpa using hj)
  | x :: t, k, hs, i + 1, o, h => by
    rw [tailF, Bool.and_eq_true] at hs
    have := tailF_at l t (k + 1) hs.2 i o (by simpa using h)
    rwa [show k + (i + 1) = k + 1 + i by omega]
theorem depB_of {o : Oper} {j : Nat} (h : depB o j = true) : ∃ e ∈ o.after, e.on = j ∧ Region.binds .any e = true := by
  unfold depB at h
  rw [List.any_eq_true] at h
  obtain ⟨e, he, h3⟩ := h
  rw [Array.mem_toList_iff] at he
  simp only [Bool.and_eq_true, beq_iff_eq] at h3
  exact ⟨e, he, h3.1, h3.2⟩
theorem depF_closed {l : List Oper} {L : Nat → Bool} (hc : ∀ i o, l[i]? = some o → L i = true → ∀ e ∈ o.after, Region.binds .any e = true → L e.on = true) :
    ∀ (f : Nat) (o : Oper) (j : Nat), (∀ e ∈ o.after, Region.binds .any e = true → L e.on = true) → depF l f o j = true → L j = true
  | 0, o, j, hd, h => by
    obtain ⟨e, he, rfl, hb⟩ := depB_of (by simpa [depF] using h)
    exact hd e he hb
  | f + 1, o, j, hd, h => by
    rw [depF, Bool.or_eq_true] at h
    rcases h with h | h
    · obtain ⟨e, he, rfl, hb⟩ := depB_of h
      exact hd e he hb
    · rw [List.any_eq_true] at h
      obtain ⟨e, he, h3⟩ := h
      rw [Array.mem_toList_iff] at he
      simp only [Bool.and_eq_true] at h3
      obtain ⟨hbe, h3⟩ := h3
      split at h3
      · rename_i o' ho2
        exact depF_closed hc f o' j (hc e.on o' ho2 (hd e he hbe)) h3
      · cases h3
theorem depF_lt {l : List Oper} (hac : ∀ i o, l[i]? = some o → ∀ e ∈ o.after, Region.binds .any e = true → e.on < i) (K : Nat) :
    ∀ (f : Nat) (o : Oper) (j : Nat), (∀ e ∈ o.after, Region.binds .any e = true → e.on < K) → depF l f o j = true → j < K
  | 0, o, j, hd, h => by
    obtain ⟨e, he, rfl, hb⟩ := depB_of (by simpa [depF] using h)
    exact hd e he hb
  | f + 1, o, j, hd, h => by
    rw [depF, Bool.or_eq_true] at h
    rcases h with h | h
    · obtain ⟨e, he, rfl, hb⟩ := depB_of h
      exact hd e he hb
    · rw [List.any_eq_true] at h
      obtain ⟨e, he, h3⟩ := h
      rw [Array.mem_toList_iff] at he
      simp only [Bool.and_eq_true] at h3
      obtain ⟨hbe, h3⟩ := h3
      split at h3
      · rename_i o' ho2
        have h1 := hd e he hbe
        exact depF_lt hac K f o' j (fun e2 he2 hb2 => by have := hac e.on o' ho2 e2 he2 hb2; omega) h3
      · cases h3
theorem wp_region_tail3 {P : Program} {Q : Exit → Act → World → Prop} {l : List Oper} {id : Nat} {a : Act} (n : Nat) (W : World) (hm : P.follows .mixedOrders = true) (hac : acL2 l 0 = true) (htl : tailF l (l.drop n) n = true) (hn : nodupB ((l.take n).map (·.dst)) = true)
    (V : Nat → Value → World → Prop) (keep : ∀ j v w w', V j v w → Below w.heap.size w w' → V j v w')
    (steps : StepAll (OpAt P l.toArray W V (litOf a ((l.take n).map (·.dst)) 0)) (l.take n) 0)
    (fin : ∀ s w, Below W.heap.size W w → (∀ i, i < n → V i (s i) w) → wpList P l.toArray Q (l.drop n) (litOf a ((l.take n).map (·.dst)) 0 s) w) (hlen0 : Nat.ble n l.length = true) : (Code.region id l.toArray true).wp P Q a W := by
  have hlen : n ≤ l.length := Nat.le_of_ble_eq_true hlen0
  refine wp_region_any hm ?_
  obtain ⟨lit, hlit⟩ : ∃ f, f = litOf a ((l.take n).map (·.dst)) 0 := ⟨_, rfl⟩
  rw [← hlit] at steps
  have hfin : ∀ s w, Below W.heap.size W w → (∀ i, i < n → V i (s i) w) → wpList P l.toArray Q (l.drop n) (lit s) w := by rw [hlit]; exact fin
  have hac' : ∀ (i : Nat) (o : Oper), l.toArray[i]? = some o → ∀ e ∈ o.after, Region.binds .any e = true → e.on < i := by
    intro i o ho e he hbe
    have := acL2_at l 0 hac i o (by simpa using ho) e he hbe
    rwa [Nat.zero_add] at this
  have hput : ∀ i o, l[i]? = some o → i < n → ∀ s v, (lit s).put o.dst v = lit (upd s i v) := fun i o ho hi s v => by
    have hd : ((l.take n).map (·.dst))[i]? = some o.dst := by simp [ho, hi]
    have := litOf_put ((l.take n).map (·.dst)) a 0 s i o.dst v (nodupB_nodup _ hn) hd
    rw [hlit]
    rwa [Nat.zero_add] at this
  refine wpAny_inv2 (I := RegI P l Q n W V lit) hac' ?_ ?_ _ _ _ _ (by simp) ?_ ?_
  · intro i o ho L a w hI hLi hd
    have ho' : l[i]? = some o := by simpa using ho
    have hil : i < l.length := (List.getElem?_eq_some_iff.1 ho').1
    rcases hI with ⟨hc, ht, s, rfl, hb, hV⟩ | ⟨k, hk, hL, hw⟩
    · by_cases hin : i < n
      · have hs := StepAll.at (l.take n) 0 steps i o (by simp [ho', hin])
        rw [Nat.zero_add] at hs
        obtain ⟨hwant, hcase⟩ := hs s w hb (fun j hj => by
          unfold depB at hj
          rw [List.any_eq_true] at hj
          obtain ⟨e, he, h2⟩ := hj
          rw [Array.mem_toList_iff] at he
          simp only [Bool.and_eq_true, beq_iff_eq] at h2
          obtain ⟨rfl, h3⟩ := h2
          exact hV _ (by have := hac' i o ho e he h3; omega) (hd e he h3))
        refine wpOp_step ho fun K hK => ?_
        rw [if_pos hwant]
        have hnext : ∀ v w', V i v w' → Below w.heap.size w w' → K ((lit s).put o.dst v) w' := by
          intro v w' hv hbw
          refine hK _ _ (.inl ⟨?_, fun j hj => ?_, upd s i v, hput i o ho' hin s v, hb.trans (hbw.mono hb.size), fun j hjn hj => ?_⟩)
          · intro j oj hoj hLj e he hbe
            rw [setL] at hLj ⊢
            by_cases ej : j = i
            · subst ej
              have : o = oj := by rw [ho'] at hoj; injection hoj
              subst this
              have h1 := hac' j o ho e he hbe
              rw [if_neg (by omega)]
              exact hd e he hbe
            · rw [if_neg ej] at hLj
              split
              · rfl
              · exact hc j oj hoj hLj e he hbe
          · rw [setL, if_neg (by omega)]
            exact ht j hj
          · by_cases e : j = i
            · subst e; rw [upd, if_pos rfl]; exact hv
            · rw [upd, if_neg e]
              rw [setL, if_neg e] at hj
              exact keep _ _ _ _ (hV j hjn hj) hbw
        rcases hcase with ⟨v, w', hr, hv, hb'⟩ | ⟨f, args, hr, hcl⟩
        · unfold Oper.wp
          rw [hr]
          exact hnext v w' hv hb'
        · unfold Oper.wp
          rw [hr, Oper.upon_enter]
          refine hcl.mono ?_
          rintro e w' ⟨v, rfl, hv, hb'⟩
          exact hnext v w' hv hb'
      · -- the first one of the last
        have hd2 := tailF_at l (l.drop n) n htl (i - n) o (by rw [List.getElem?_drop, show n + (i - n) = i by omega]; exact ho')
        have hall : ∀ j, j < i → L j = true := fun j hj => depF_closed hc 6 o j (fun e he hbe => hd e he hbe) (hd2 j (by omega))
        have hi : i = n := by
          by_cases e : i = n
          · exact e
          · exfalso
            have h1 := hall n (by omega)
            rw [ht n (Nat.le_refl _)] at h1
            cases h1
        subst hi
        have hw := hfin s w hb (fun j hj => hV j hj (hall j hj))
        have hdr : l.drop i = o :: l.drop (i + 1) := by
          rw [List.drop_eq_getElem_cons hil]
          congr 1
          rw [List.getElem?_eq_getElem hil] at ho'
          injection ho'
        rw [hdr] at hw
        refine wpOp_mono ?_ (wpList_op (by simpa using ho') hw)
        intro a' w' h'
        refine .inr ⟨i + 1, by omega, fun j => ?_, h'⟩
        rw [setL]
        by_cases e : j = i
        · rw [if_pos e, e]; simp
        · rw [if_neg e]
          by_cases e2 : j < i
          · rw [hall j e2]; simp; omega
          · rw [ht j (by omega)]; simp; omega
    · have hki : i = k := by
        have h1 := hL i
        rw [hLi] at h1
        have h2 : k ≤ i := by
          have := h1.symm
          simpa using this
        have hd2 := tailF_at l (l.drop n) n htl (i - n) o (by rw [List.getElem?_drop, show n + (i - n) = i by omega]; exact ho')
        by_cases e : i = k
        · exact e
        · exfalso
          have h2 := hd2 k (by omega)
          have := depF_lt (fun i o ho e he hbe => by have := acL2_at l 0 hac i o ho e he hbe; omega) k 6 o k (fun e he hbe => by have h5 := hd e he hbe; rw [hL e.on] at h5; simpa using h5) h2
          omega
      subst hki
      have hdr : l.drop i = o :: l.drop (i + 1) := by
        rw [List.drop_eq_getElem_cons hil]
        congr 1
        rw [List.getElem?_eq_getElem hil] at ho'
        injection ho'
      rw [hdr] at hw
      refine wpOp_mono ?_ (wpList_op (by simpa using ho') hw)
      intro a' w' h'
      refine .inr ⟨i + 1, by omega, fun j => ?_, h'⟩
      rw [setL]
      by_cases e : j = i
      · rw [if_pos e, e]; simp
      · rw [if_neg e, hL j]
        by_cases e2 : j < i
        · simp [e2]; omega
        · simp [e2]; omega
  · rintro L a w hI hL
    rcases hI with ⟨hc, ht, s, rfl, hb, hV⟩ | ⟨k, hk, hLk, hw⟩
    · have hnl : n = l.length := by
        by_cases e : n = l.length
        · exact e
        · exfalso
          have := hL n (by simp; omega)
          rw [ht n (Nat.le_refl _)] at this
          cases this
      have := hfin s w hb (fun i hi => hV i hi (hL i (by simp; omega)))
      rw [hnl, List.drop_length] at this
      exact this
    · have : l.drop k = [] := by
        apply List.drop_eq_nil_of_le
        rcases Nat.lt_or_ge k l.length with h | h
        · exfalso
          have h2 := hL k (by simpa using h)
          rw [hLk k] at h2
          simp at h2
        · exact h
      rw [this] at hw
      exact hw
  · have : ∀ (f : Nat → Bool) n, cntF f n ≤ n := by
      intro f n
      induction n with
      | zero => exact Nat.le_refl _
      | succ n ih => rw [cntF]; split <;> omega
    exact this _ _
  · have hno : ∀ i, listedF (Array.replicate l.toArray.size false) i = false := by
      intro i
      unfold listedF
      rw [Array.getD_eq_getD_getElem?]
      by_cases h : i < l.length
      · simp [h]
      · simp [h]
    refine .inl ⟨fun i o _ hi => ?_, fun i _ => hno i, curOf a ((l.take n).map (·.dst)), ?_, (Below.refl _ W).drew, fun i _ hi => ?_⟩
    · rw [hno i] at hi; cases hi
    · rw [hlit]; exact (litOf_cur a _ 0 _ fun j _ => by rw [Nat.zero_add]).symm
    · rw [hno i] at hi; cases hi



end Go.Proofs.YtaalhglooipnaaaGreat
namespace Go.Proofs.YtaalhglooipnaaaGreat
open Go.RowKit RT
attribute [local go_sem ↓] Go.wp_at_zero Go.wp_at_succ

theorem ex_lenS {ρ : Operand → Value} {o : Oper} {w : World} {x : Operand} {b : ByteArray} (ho : o.op = .call { callee := .builtin .len, args := #[x], argTypes := #[9] }) (hot : o.type = 3) (h : ρ x = .string b) : (execOp ρ o).run Tryz.prog w = .ok (.value (.int .i64 b.size)) w := by
  unfold execOp; rw [ho]; simp only [hot, resolve]
  go_simp
theorem bld_rr (a b : Int) (w : World) : (Instr.build 111 #[(2, .int .i64 a), (3, .int .i64 b)]).run Tryz.prog w = .ok (.agg #[.int .i64 0, .int .i64 0, .int .i64 a, .int .i64 b]) w := by go_simp
theorem bld_bx2 (i x y a b : Int) (w : World) : (Instr.build 118 #[(0, .int .i64 i), (1, .agg #[.int .i64 x, .int .i64 y, .int .i64 a, .int .i64 b])]).run Tryz.prog w = .ok (bV ⟨i, x, y, a, b⟩ (.slice none 0 0)) w := by
  unfold bV bC
  go_simp
theorem bld_bx3 (i x y a b : Int) (A : Option Addr) (n c : Nat) (w : World) : (Instr.build 118 #[(0, .int .i64 i), (1, .agg #[.int .i64 x, .int .i64 y, .int .i64 a, .int .i64 b]), (2, .slice A n c)]).run Tryz.prog w = .ok (bV ⟨i, x, y, a, b⟩ (.slice A n c)) w := by
  unfold bV bC
  go_simp
def RlyR2 (W : World) (X : Nat) (d : SD) (A1 A2 A3 A4 : Option Addr) (c1 c2 c3 n4 c4 : Nat) : Nat → Value → World → Prop
  | 0, v, _ => v = .pointer (some ⟨X, 0, none⟩)
  | 1, v, _ => v = .int .i64 d.id
  | 2, v, _ => v = .pointer (some ⟨X, 3, none⟩)
  | 3, v, _ => v = .string d.text
  | 4, v, _ => v = .int .i64 d.text.size
  | 5, v, _ => v = .int .i64 (Fl.P1.sat d.text.size)
  | 6, v, _ => v = .agg #[.int .i64 0, .int .i64 0, .int .i64 (Fl.P1.sat d.text.size), .int .i64 1]
  | 7, v, _ => v = bV ⟨d.id, 0, 0, Fl.P1.sat d.text.size, 1⟩ (.slice none 0 0)
  | _, _, _ => True
theorem RlyR2_keep (W : World) (X : Nat) (d : SD) (A1 A2 A3 A4 : Option Addr) (c1 c2 c3 n4 c4 : Nat) (j : Nat) (v : Value) (w w' : World) (h : RlyR2 W X d A1 A2 A3 A4 c1 c2 c3 n4 c4 j v w) (hb : Below w.heap.size w w') : RlyR2 W X d A1 A2 A3 A4 c1 c2 c3 n4 c4 j v w' := by
  match j with
  | 0 => exact h
  | 1 => exact h
  | 2 => exact h
  | 3 => exact h
  | 4 => exact h
  | 5 => exact h
  | 6 => exact h
  | 7 => exact h
  | _ + 8 => trivial
def RlyR39 (W : World) (Z : Nat) (pad SW H0 : Int) : Nat → Value → World → Prop
  | 0, v, _ => v = .pointer (some ⟨Z, 1, none⟩)
  | 1, v, _ => v = .int .i64 H0
  | 2, v, _ => v = (.int .i64 pad)
  | 3, v, _ => v = (.int .i64 pad)
  | 4, v, _ => v = .int .i64 (Fl.P1.add pad pad)
  | 5, v, _ => v = .int .i64 (Fl.P1.add H0 (Fl.P1.add pad pad))
  | _, _, _ => True
theorem RlyR39_keep (W : World) (Z : Nat) (pad SW H0 : Int) (j : Nat) (v : Value) (w w' : World) (h : RlyR39 W Z pad SW H0 j v w) (hb : Below w.heap.size w w') : RlyR39 W Z pad SW H0 j v w' := by
  match j with
  | 0 => exact h
  | 1 => exact h
  | 2 => exact h
  | 3 => exact h
  | 4 => exact h
  | 5 => exact h
  | _ + 6 => trivial
theorem bx_info : (Tryz.prog.info? 118).map (fun i => (i.zero, i.size, i.bytes)) = some (some (.agg zs_bx), 6, 64) := by kernel_rfl
theorem rsz_info : (Tryz.prog.info? 157).map (fun i => (i.zero, i.size, i.bytes)) = some (some (.agg #[.int .i64 0, .int .i64 0]), 2, 16) := by kernel_rfl
theorem bC_s (d : BD) {k : Value} (h : k.oneCell' = true) : ∀ u ∈ bC d k, u.oneCell' = true := by
  intro u hu
  simp [bC] at hu
  rcases hu with rfl | rfl | rfl | rfl | rfl | rfl
  all_goals first | rfl | exact h
theorem bC_all (d : BD) {k : Value} (h : k.oneCell' = true) : (bC d k).toArray.all (·.oneCell') = true := all_oneCell_toArray (bC_s d h)
/-- Kids' boxes and sizes as they grow: so many boxes, so many sizes. -/
structure BxI (w0 : World) (n m : Nat) (bs : List BT) (zs : List (Int × Int)) (u v : Value) (us : List Value) (wx : World) : Prop where
  bel : Below w0.heap.size w0 wx
  bx : wx.ownsRow w0.heap.size 118 6 u n (us.flatMap (cvK 6))
  sz : wx.ownsRow w0.heap.size 157 2 v m (Fl.flat2 zs)
  ts : IsTs bK wx (fun b => w0.heap.size ≤ b ∧ b < wx.heap.size ∧ u.ownBlock ≠ some b ∧ v.ownBlock ≠ some b) bs us
theorem BxI.start (w : World) : BxI w 0 0 [] [] (.slice (some ⟨w.heap.size, 0, none⟩) 0 0) (.slice (some ⟨w.heap.size + 1, 0, none⟩) 0 0) [] ((w.alloc (.cells #[] 118)).alloc (.cells #[] 157)) := by
  have h1 : (w.alloc (.cells #[] 118)).ownsRow w.heap.size 118 6 (.slice (some ⟨w.heap.size, 0, none⟩) 0 0) 0 [] := World.ownsRow_made w #[] 0 (Nat.le_refl _) (Nat.zero_le _) rfl
  have h2 := World.ownsRow_made (w.alloc (.cells #[] 118)) (base := w.heap.size) (e := 157) (size := 2) #[] 0 (by simp) (Nat.zero_le _) rfl
  have e1 : (w.alloc (.cells #[] 118)).heap.size = w.heap.size + 1 := by simp
  rw [e1] at h2
  exact ⟨((Below.refl _ w).alloc (Nat.le_refl _) _).alloc (by simp) _, h1.alloc _, h2, IsTs.nil⟩
section
variable {w0 wr wz w4 : World} {n m g cap : Nat} {bs : List BT} {zs : List (Int × Int)} {u v v' : Value} {us : List Value} {b : BT}
theorem BxI.keep (h : BxI w0 n m bs zs u v us wr) (hb : Below wr.heap.size wr wz) : BxI w0 n m bs zs u v us wz :=
  ⟨h.bel.trans (hb.mono h.bel.size), own_keep h.bx hb, own_keep h.sz hb, (h.ts.move (.of_below hb fun b hb => hb.2.1)).weak fun b hb' => ⟨hb'.1, Nat.lt_of_lt_of_le hb'.2.1 hb.size, hb'.2.2⟩⟩
theorem BxI.more (h : BxI w0 n m bs zs u v us wr) (hb : Below wr.heap.size wr wz) (ht : IsT bK wz (Fresh wr.heap.size wz) b v') (hg : wz.grownBy w4 u.ownBlock) (hat : u.ownBlock = some g ∨ g = wz.heap.size)
    (hown : w4.ownsRow w0.heap.size 118 6 (.slice (some ⟨g, 0, none⟩) (n + 1) cap) (n + 1) (us.flatMap (cvK 6) ++ cvK 6 v')) : BxI w0 (n + 1) m (bs ++ [b]) zs (.slice (some ⟨g, 0, none⟩) (n + 1) cap) v (us ++ [v']) w4 := by
  have hz := h.keep hb
  have hc : Chg (fun i => u.ownBlock = some i) wz w4 := .of_grown hg fun i hi => hi
  have hlt := fun i hi => (h.bx.lt i hi).2
  have hltv := fun i hi => (h.sz.lt i hi).2
  refine ⟨hz.bel.grown hg hz.bel.size (fun j hj => (hz.bx.lt j hj).1), by simpa using hown, hc.own hz.sz ?_, ?_⟩
  · intro i hi e
    rcases own_own_ne hz.sz hz.bx (by decide) with h | h
    · rw [hi] at h; cases h
    · exact h (by rw [hi, e])
  · have hgb : ∀ b, b < wz.heap.size → u.ownBlock ≠ some b → g ≠ b := by
      rintro b h1 h2 rfl
      rcases hat with e | e
      · exact h2 e
      · omega
    refine IsTs.snoc ((hz.ts.move (hc.still fun b hb' => ⟨hb'.2.1, hb'.2.2.1⟩)).weak fun b hb' => ⟨hb'.1, Nat.lt_of_lt_of_le hb'.2.1 hc.size, ?_, hb'.2.2.2⟩) ((ht.move (hc.still fun b hb' => ⟨hb'.2, ?_⟩)).weak fun b hb' => ⟨Nat.le_trans h.bel.size hb'.1, Nat.lt_of_lt_of_le hb'.2 hc.size, ?_, ?_⟩)
    · simp only [Value.ownBlock, ne_eq, Option.some.injEq]
      exact hgb b hb'.2.1 hb'.2.2.1
    · intro e; have := hlt b e; have := hb'.1; omega
    · simp only [Value.ownBlock, ne_eq, Option.some.injEq]
      exact hgb b hb'.2 fun e => by have := hlt b e; have := hb'.1; omega
    · intro e; have := hltv b e; have := hb'.1; omega
theorem BxI.size {p q : Int} (h : BxI w0 n m bs zs u v us wr) (hb : Below wr.heap.size wr wz) (hg : wz.grownBy w4 v.ownBlock) (hat : v.ownBlock = some g ∨ g = wz.heap.size)
    (hown : w4.ownsRow w0.heap.size 157 2 (.slice (some ⟨g, 0, none⟩) (m + 1) cap) (m + 1) (Fl.flat2 zs ++ [.int .i64 p, .int .i64 q])) : BxI w0 n (m + 1) bs (zs ++ [(p, q)]) u (.slice (some ⟨g, 0, none⟩) (m + 1) cap) us w4 := by
  have hz := h.keep hb
  have hc : Chg (fun i => v.ownBlock = some i) wz w4 := .of_grown hg fun i hi => hi
  refine ⟨hz.bel.grown hg hz.bel.size (fun j hj => (hz.sz.lt j hj).1), hc.own hz.bx ?_, by rw [Fl.flat2_snoc]; exact hown, ?_⟩
  · intro i hi e
    rcases own_own_ne hz.bx hz.sz (by decide) with h | h
    · rw [hi] at h; cases h
    · exact h (by rw [hi, e])
  · refine (hz.ts.move (hc.still fun b hb' => ⟨hb'.2.1, hb'.2.2.2⟩)).weak fun b hb' => ⟨hb'.1, Nat.lt_of_lt_of_le hb'.2.1 hc.size, hb'.2.2.1, ?_⟩
    simp only [Value.ownBlock, ne_eq, Option.some.injEq]
    rintro rfl
    rcases hat with e | e
    · exact hb'.2.2.2 e
    · have := hb'.2.1; omega
end
/-- What the document's Flow hands to Lay. -/
theorem rflow_put (d : SD) (II : Int) (ks : List STr) (A : Option Addr) (n c : Nat) (w : World) (hz : Fl.Pairs w w.heap.size A n (sizesT d II ks)) (hn : ks.length = n) (h40 : n ≤ 40) :
    Calls Tryz.prog 82 #[.int .i64 (wayV d), .int .i64 (eachV d II), .int .i64 (colsV d), .int .i64 (styV d nmGap), .slice A n c] w (Fl.PlacePost w (putT d II ks) (Fl.P1.add (putT d II ks).y (putT d II ks).h)) := by
  have hl : (sizesT d II ks).length = n := by rw [sizesT_len]; exact hn
  have hk : Fl.kind2 (wayV d) = wayV d := by
    rw [Fl.kind2]
    split
    · rfl
    · rename_i h
      rw [wayV] at h ⊢
      split
      · rename_i h2; rw [if_pos h2] at h; omega
      · rename_i h2; rw [if_neg h2] at h; omega
  have h1 := Fl.rflow_any (wayV d) (eachV d II) (colsV d) (styV d nmGap) A n c (sizesT d II ks) w hz h40 _ rfl _ rfl
  have h2 := Fl.flow_law (wayV d) (eachV d II) (colsV d) (styV d nmGap) (sizesT d II ks) _ (by rw [hk]) _ (by rw [hk])
  rw [hl] at h2
  rw [h2.1, h2.2] at h1
  exact h1
theorem own_cell {w : World} {base g n c sz : Nat} {e : TypeId} {xs : List Value} (h : w.ownsRow base e sz (.slice (some ⟨g, 0, none⟩) n c) n xs) (j : Nat) (hj : j < n * sz) : ∃ v, w.cell? ⟨g, j, none⟩ = some v := by
  have h3 := h.cells (g := g) rfl j _ (List.getElem?_eq_getElem (by rw [h.1]; exact hj))
  rw [Addr.add_lit, Nat.zero_add] at h3
  exact ⟨_, h3⟩
/-- Kids' boxes as they are put: points, and the whole, are kept. -/
structure BxP (w0 : World) (n : Nat) (A : Option Addr) (c : Nat) (AP : Option Addr) (cP : Nat) (ps : List (Int × Int)) (Z : Nat) (zc : Array Value) (bs : List BT) (us : List Value) (wx : World) : Prop where
  bel : Below w0.heap.size w0 wx
  bx : wx.ownsRow w0.heap.size 118 6 (.slice A n c) n (us.flatMap (cvK 6))
  ts : IsTs bK wx (fun b => w0.heap.size ≤ b ∧ b < wx.heap.size ∧ (Value.slice A n c).ownBlock ≠ some b) bs us
  pts : wx.ownsRow w0.heap.size 162 2 (.slice AP n cP) n (Fl.flat2 ps)
  zb : Blk wx Z 157 zc
  zl : w0.heap.size ≤ Z
section
variable {w0 wr wz : World} {n c cP Z : Nat} {A AP : Option Addr} {ps : List (Int × Int)} {zc : Array Value} {bs : List BT} {us : List Value}
theorem BxP.keep (h : BxP w0 n A c AP cP ps Z zc bs us wr) (hb : Below wr.heap.size wr wz) : BxP w0 n A c AP cP ps Z zc bs us wz :=
  ⟨h.bel.trans (hb.mono h.bel.size), own_keep h.bx hb, (h.ts.move (.of_below hb fun b hb => hb.2.1)).weak fun b hb' => ⟨hb'.1, Nat.lt_of_lt_of_le hb'.2.1 hb.size, hb'.2.2⟩, own_keep h.pts hb, h.zb.below hb h.zb.lt, h.zl⟩
theorem BxP.at_ (h : BxP w0 n A c AP cP ps Z zc bs us wr) (hn : 0 < n) : ∃ g, A = some ⟨g, 0, none⟩ ∧ w0.heap.size ≤ g ∧ (∀ j, wr.frozen? ⟨g, j, none⟩ = false) ∧ ∀ j, j < n * 6 → ∃ v, wr.cell? ⟨g, j, none⟩ = some v := by
  obtain ⟨g, cap, hv, hbg, _⟩ := h.bx.form hn
  injection hv with h1 _ h2
  subst h1 h2
  refine ⟨g, rfl, hbg, fun j => h.bx.frozenAt j, fun j hj => ?_⟩
  have hl : j < (us.flatMap (cvK 6)).length := by rw [h.bx.1]; exact hj
  have h3 := h.bx.cells (g := g) rfl j _ (List.getElem?_eq_getElem hl)
  rw [Addr.add_lit, Nat.zero_add] at h3
  exact ⟨_, h3⟩
theorem BxP.done (h : BxP w0 n A c AP cP ps Z zc bs us wr) (hl : bs.length = n) (d : BD) : IsT bK wr (Fresh w0.heap.size wr) (.mk d bs) (bV d (.slice A n c)) := by
  subst hl
  exact IsT.eq.2 ⟨A, c, us, rfl, RdS.of_own (fun _ _ => cvK_len 6 _) h.bx h.ts.len, h.ts.weak fun b hb => ⟨hb.1, hb.2.1⟩⟩
theorem BxP.put {g i : Nat} {b : BT} (h : BxP w0 n (some ⟨g, 0, none⟩) c AP cP ps Z zc bs us wr) (hi : bs[i]? = some b) (p : Int × Int) :
    ∃ us', BxP w0 n (some ⟨g, 0, none⟩) c AP cP ps Z zc (bs.set i (moveB b p)) us' ((wr.setCell ⟨g, i * 6 + 1, none⟩ (.int .i64 p.1)).setCell ⟨g, i * 6 + 2, none⟩ (.int .i64 p.2)) := by
  obtain ⟨A', c', hu, hb⟩ := h.ts.get hi
  have hc : Chg (fun j => j = g) wr ((wr.setCell ⟨g, i * 6 + 1, none⟩ (.int .i64 p.1)).setCell ⟨g, i * 6 + 2, none⟩ (.int .i64 p.2)) := (Chg.set (T := fun j => j = g) rfl _ _ _).trans (Chg.set (T := fun j => j = g) rfl _ _ _)
  have hg : w0.heap.size ≤ g := (h.bx.lt g rfl).1
  have hst : Still (fun b => w0.heap.size ≤ b ∧ b < wr.heap.size ∧ (Value.slice (some ⟨g, 0, none⟩) n c).ownBlock ≠ some b) wr ((wr.setCell ⟨g, i * 6 + 1, none⟩ (.int .i64 p.1)).setCell ⟨g, i * 6 + 2, none⟩ (.int .i64 p.2)) :=
    hc.still fun b hb => ⟨hb.2.1, fun e => hb.2.2 (by subst e; rfl)⟩
  have hsz : ((wr.setCell ⟨g, i * 6 + 1, none⟩ (.int .i64 p.1)).setCell ⟨g, i * 6 + 2, none⟩ (.int .i64 p.2)).heap.size = wr.heap.size := by simp
  refine ⟨us.set i (bV (moveB b p).dat (.slice A' b.kids.length c')), h.bel.trans (hc.below h.bel.size fun j hj => by subst hj; exact hg), ?_, ?_, hc.own h.pts ?_, hc.blk h.zb ?_, h.zl⟩
  · have h1 := own_setAt (own_setAt h.bx (i * 6 + 1) (.int .i64 p.1)) (i * 6 + 2) (.int .i64 p.2)
    have h2 := flat_put us i b.dat (.slice A' b.kids.length c') p.1 p.2 hu
    rw [← h2] at h1
    exact h1
  · exact ((h.ts.move hst).set_ i (hb.put p |>.move hst)).weak fun b hb => ⟨hb.1, by rw [hsz]; exact hb.2.1, hb.2.2⟩
  · intro j hj e
    subst e
    rcases own_own_ne h.pts h.bx (by decide) with h | h
    · rw [hj] at h; cases h
    · exact h (by rw [hj]; rfl)
  · intro e
    subst e
    exact own_blk_ne h.bx h.zb (by decide) rfl
end
theorem rsizeT_eq (t : STr) (g : Int) : sizeT t g = if t.dat.kind = 1 then (natT t, 1) else
      (widthV t.dat g, if (gtS t.dat.st nmH).2 = true then styV t.dat nmH else Fl.P1.add (Fl.P1.add (putT t.dat (insV t.dat g) t.kids).y (putT t.dat (insV t.dat g) t.kids).h) (Fl.P1.add (styV t.dat nmPad) (styV t.dat nmPad))) := by
  cases t; rw [sizeT]; rfl
/-- What Lay hands back. -/
def RlPost (t : STr) (g : Int) (w : World) (e : Ending) (w' : World) : Prop := ∃ v, e = .returned v ∧ IsT bK w' (Fresh w.heap.size w') (boxT t (0, 0) g) v ∧ Below w.heap.size w w'

end Go.Proofs.YtaalhglooipnaaaGreat
