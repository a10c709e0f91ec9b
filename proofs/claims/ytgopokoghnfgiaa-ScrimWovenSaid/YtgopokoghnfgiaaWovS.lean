/-
  The walk over Steps of layer 12, where nobody is dropped.
-/
import Derived.Test.YtgopokoghnfgiaaWovSb
import Derived.Test.YtgopokoghnfgiaaWovP
import Derived.Test.YtgopokoghnfgiaaWovF
namespace Go.Proofs.Ytgopokoghnfgiaa
open Go.RowKit Go.Shelf
attribute [local go_sem ↓] Go.wp_at_zero Go.wp_at_succ
attribute [local go_sem] Oper.semAt_some

/-- A row of numbers beyond B. -/
def OwnN (B : Nat) (l : List Int) (v : Value) (w : World) : Prop := ∃ A c, v = .slice A l.length c ∧ w.ownsRow B 3 1 (.slice A l.length c) l.length (nums l)
theorem OwnN.keepK {B : Nat} {l : List Int} {v : Value} {w w' : World} (h : OwnN B l v w) (hr : RelK B w w') : OwnN B l v w' := by
  obtain ⟨A, c, rfl, h⟩ := h
  obtain ⟨row, h1, h2⟩ := hr
  refine ⟨A, c, rfl, h.kept h1 ?_⟩
  cases hb : (Value.slice A l.length c).ownBlock with
  | none => exact .inl rfl
  | some b =>
    refine .inr fun e => ?_
    have h3 := (h.lt b hb).1
    have h4 := h2 b e.symm
    omega
theorem cOnce {B n c : Nat} {A : Option Addr} {l : List Int} {w : World} (hz : Nums w w.heap.size A n l) (hn : n ≤ 900) (hw : Wfs l) (hd : l.Nodup) (hB : B ≤ w.heap.size) :
    Calls Try.prog 38 #[.slice A n c] w (fun e w' => ∃ v, e = .returned v ∧ OwnN B l v w' ∧ Below w.heap.size w w') := by
  refine (wonce_any A n c l w hz hn hw hd).mono ?_
  rintro e w' ⟨A', c', rfl, hown, hb⟩
  exact ⟨_, rfl, ⟨A', c', rfl, own_base hown hB⟩, hb⟩
section
variable {ρ : Operand → Value} {o : Oper} {w : World}
theorem ex_load {x : Operand} {g : Nat} {A : Option Addr} {n c : Nat} (ho : o.op = .load 30 x) (h : ρ x = .pointer (some ⟨g, 0, none⟩)) (hc : w.cell? ⟨g, 0, none⟩ = some (.slice A n c)) : (execOp ρ o).run Try.prog w = .ok (.value (.slice A n c)) w := by
  unfold execOp; rw [ho]; simp only [h]
  go_simp
theorem ex_store {x y : Operand} {g : Nat} {A : Option Addr} {n c : Nat} {u : Value} (ho : o.op = .store 30 x y) (h : ρ x = .pointer (some ⟨g, 0, none⟩)) (hy : ρ y = .slice A n c) (hc : w.cell? ⟨g, 0, none⟩ = some u) (hf : w.frozen? ⟨g, 0, none⟩ = false) : (execOp ρ o).run Try.prog w = .ok .skip (w.setCell ⟨g, 0, none⟩ (.slice A n c)) := by
  unfold execOp; rw [ho]; simp only [h, hy]
  go_simp
theorem ex_storeM {x y : Operand} {g M : Nat} {u : Value} (ho : o.op = .store 78 x y) (h : ρ x = .pointer (some ⟨g, 0, none⟩)) (hy : ρ y = .map (some M)) (hc : w.cell? ⟨g, 0, none⟩ = some u) (hf : w.frozen? ⟨g, 0, none⟩ = false) : (execOp ρ o).run Try.prog w = .ok .skip (w.setCell ⟨g, 0, none⟩ (.map (some M))) := by
  unfold execOp; rw [ho]; simp only [h, hy]
  go_simp
theorem ex_allocM (ho : o.op = .alloc 78) : (execOp ρ o).run Try.prog w = .ok (.value (.pointer (some ⟨w.heap.size, 0, none⟩))) (w.alloc (.cells #[.map none] 78)) := by
  unfold execOp; rw [ho]
  go_simp
theorem ex_call1 {x : Operand} {f : FuncId} {u : Value} {ts : Array TypeId} (ho : o.op = .call { callee := .value (.func f), args := #[x], argTypes := ts }) (hf : ρ (.func f) = .func (.func f) #[] #[]) (hc : (callFunc f #[u]).run Try.prog w = .ok (.enter f #[u]) w) (h : ρ x = u) : (execOp ρ o).run Try.prog w = .ok (.enter f #[u]) w := by
  unfold execOp; rw [ho]; simp only [resolve, hf]
  go_simp
end

theorem mix_callsp {P : Program} {Q : Exit → Act → World → Prop} {o : Oper} {y : Nat → Option Bool} {a : Act} {w : World} {V : Value → World → Prop} {A : Value → World → Prop} {b : Bool} (hg : o.guard = none) (hb : b = true)
    (h : ∃ f args, (execOp a.eval o).run P w = .ok (.enter f args) w ∧ Calls P f args w (fun e w' => ∃ v, e = .returned v ∧ V v w' ∧ A v w')) :
    Region.wanted o y = true ∧ StepTo P Q o a w fun v w' => V v w' ∧ (if b = true then A v w' else Below w.heap.size w w') := by
  subst hb
  obtain ⟨f, args, h1, h2⟩ := h
  refine ⟨by simp [Region.wanted, hg], StepTo.call h1 (h2.mono ?_)⟩
  rintro e w' ⟨v, h3, h4, h5⟩
  exact ⟨v, h3, h4, by rw [if_pos rfl]; exact h5⟩
def spS1 (i : Nat) : Bool := i == 1 || i == 3 || i == 4 || i == 5
def VS1 (B : Nat) (A : Option Addr) (n c : Nat) (A' : Option Addr) (m c' : Nat) (fm tt : List Int) : Nat → Value → World → Prop
  | 0, v, _ => v = .slice A n c
  | 1, v, w => OwnN B fm v w
  | 2, v, _ => v = .slice A' m c'
  | 3, v, w => OwnN B tt v w
  | _, _, _ => True
theorem VS1_keep (B : Nat) (A : Option Addr) (n c : Nat) (A' : Option Addr) (m c' : Nat) (fm tt : List Int) (j : Nat) (v : Value) (w w' : World) (h : VS1 B A n c A' m c' fm tt j v w) (hr : RelK B w w') : VS1 B A n c A' m c' fm tt j v w' := by
  match j with
  | 0 => exact h
  | 1 => exact OwnN.keepK h hr
  | 2 => exact h
  | 3 => exact OwnN.keepK h hr
  | _ + 4 => trivial
/-- What lies there in the first drawn region: the box; what has been put back. -/
structure JS1 (w0 : World) (A : Option Addr) (n c : Nat) (A' : Option Addr) (m c' : Nat) (l0 l1 l2 l3 l4 l5 : Bool) (s1 s3 s4 : Value) (w : World) : Prop where
  box : Blk w w0.heap.size 30 #[if l5 = true then s3 else .slice A' m c']
  be : Below w0.heap.size w0 w
  sz : w0.heap.size + 1 ≤ w.heap.size
  a4 : l4 = true → l1 = true ∧ s4 = s1
  n4 : l4 = false → s4 = .slice A n c
  i1 : l1 = true → l0 = true
  i5 : l5 = true → l3 = true
  i3 : l3 = true → l2 = true
theorem JS1.keep {w0 w w' : World} {A : Option Addr} {n c : Nat} {A' : Option Addr} {m c' : Nat} {l0 l1 l2 l3 l4 l5 : Bool} {s1 s3 s4 : Value} (h : JS1 w0 A n c A' m c' l0 l1 l2 l3 l4 l5 s1 s3 s4 w) (hb : Below w.heap.size w w') : JS1 w0 A n c A' m c' l0 l1 l2 l3 l4 l5 s1 s3 s4 w' :=
  ⟨h.box.below hb h.box.lt, h.be.trans (hb.mono h.be.size), Nat.le_trans h.sz hb.size, h.a4, h.n4, h.i1, h.i5, h.i3⟩

/-- A map of places. -/
def PlV (B : Nat) (l : List Int) (v : Value) (w : World) : Prop := ∃ M, v = .map (some M) ∧ B ≤ M ∧ intKit.Own w M l.length (placeF l)
/-- Cells alone have been written. -/
def RelC (w w' : World) : Prop := ∃ row, w.grownBy w' row ∧ ∀ b, row = some b → ∃ t cs, Blk w b t cs
theorem RelC.of_below {w w' : World} (h : Below w.heap.size w w') : RelC w w' := ⟨none, only_of_below h none, fun _ h => by cases h⟩
theorem PlV.keepC {B : Nat} {l : List Int} {v : Value} {w w' : World} (h : PlV B l v w) (hr : RelC w w') : PlV B l v w' := by
  obtain ⟨M, rfl, hB, hO⟩ := h
  obtain ⟨row, h1, h2⟩ := hr
  refine ⟨M, rfl, hB, hO.kept h1 fun e => ?_⟩
  obtain ⟨t, cs, h3⟩ := h2 M e.symm
  exact MapKit.blk_ne h3 hO rfl
theorem cPlaces {B n c : Nat} {A : Option Addr} {l : List Int} {w : World} (hz : Nums w w.heap.size A n l) (hn : n ≤ 900) (hw : Wfs l) (hB : B ≤ w.heap.size) :
    Calls Try.prog 39 #[.slice A n c] w (fun e w' => ∃ v, e = .returned v ∧ PlV B l v w' ∧ Below w.heap.size w w') := by
  refine (places_any A n c l w hz (by omega) hw).mono ?_
  rintro e w' ⟨M, rfl, hM, hO, hb⟩
  exact ⟨_, rfl, ⟨M, rfl, Nat.le_trans hB hM, hO⟩, hb⟩
def spS2 (i : Nat) : Bool := i == 1 || i == 3 || i == 4 || i == 5 || i == 6
def VS2 (B : Nat) (v0 v2 : Value) (fm tt : List Int) : Nat → Value → World → Prop
  | 0, v, _ => v = v0
  | 1, v, w => PlV B fm v w
  | 2, v, _ => v = v2
  | 3, v, w => PlV B tt v w
  | _, _, _ => True
theorem VS2_keep (B : Nat) (v0 v2 : Value) (fm tt : List Int) (j : Nat) (v : Value) (w w' : World) (h : VS2 B v0 v2 fm tt j v w) (hr : RelC w w') : VS2 B v0 v2 fm tt j v w' := by
  match j with
  | 0 => exact h
  | 1 => exact PlV.keepC h hr
  | 2 => exact h
  | 3 => exact PlV.keepC h hr
  | _ + 4 => trivial
/-- What lies there in the second drawn region. -/
structure JS2 (w0 : World) (l1 l3 l4 l5 l6 : Bool) (s1 s3 s4 s6 : Value) (w : World) : Prop where
  box : l4 = true → ∃ g, s4 = .pointer (some ⟨g, 0, none⟩) ∧ w0.heap.size ≤ g ∧ Blk w g 78 #[if l5 = true then s1 else .map none]
  be : Below w0.heap.size w0 w
  i51 : l5 = true → l1 = true ∧ l4 = true
  a6 : l6 = true → l3 = true ∧ s6 = s3
theorem JS2.keep {w0 w w' : World} {l1 l3 l4 l5 l6 : Bool} {s1 s3 s4 s6 : Value} (h : JS2 w0 l1 l3 l4 l5 l6 s1 s3 s4 s6 w) (hb : Below w.heap.size w w') : JS2 w0 l1 l3 l4 l5 l6 s1 s3 s4 s6 w' :=
  ⟨fun h4 => by obtain ⟨g, h1, h2, h3⟩ := h.box h4; exact ⟨g, h1, h2, h3.below hb h3.lt⟩, h.be.trans (hb.mono h.be.size), h.i51, h.a6⟩

theorem alloc_at (W : World) (o : Obj) (n : Nat) (h : W.heap.size = n) : (W.alloc o).heap[n]? = some o := by subst h; exact heap_alloc_new W o
/-- What lies there within a round. -/
structure SM (we : World) (g8 g11 g12 M4 m4 : Nat) (S : List Int) (bv : Value) (now : List Int) (st : List Wst) (v8 v7 : Value) (W : World) : Prop where
  b8 : Blk W g8 30 #[v8]
  r8 : W.ownsRow we.heap.size 3 1 v8 now.length (nums now)
  b7 : Blk W we.heap.size 40 #[v7]
  r7 : W.ownsRow we.heap.size 82 3 v7 st.length (st.flatMap cvW)
  b11 : Blk W g11 78 #[.map (some M4)]
  m4 : intKit.Own W M4 m4 (stayF S)
  b12 : Blk W g12 30 #[bv]
  be : Below we.heap.size we W
theorem keeps_row {W W' : World} {base n size : Nat} {e : TypeId} {v : Value} {xs : List Value} (h : W.ownsRow base e size v n xs) (hg : W.grownBy W' v.ownBlock) : KeepsOthers W W' := KeepsOthers.of_grownBy hg fun j o ej hj => by
  rcases h.2 with ⟨rfl, _⟩ | ⟨g, cap, cur, rfl, _, hgb, _⟩
  · simp [Value.ownBlock] at ej
  · obtain rfl : g = j := by simpa [Value.ownBlock] using ej
    rw [hgb] at hj; cases hj; rfl
theorem SM.now {we : World} {g8 g11 g12 M4 m4 : Nat} {S : List Int} {bv : Value} {now now' : List Int} {st : List Wst} {v8 v8' v7 : Value} {W W' : World} (h : SM we g8 g11 g12 M4 m4 S bv now st v8 v7 W) (h12 : g12 ≠ g8) (h8 : we.heap.size ≤ g8) (hg : W.grownBy W' v8.ownBlock) (hr : W'.ownsRow we.heap.size 3 1 v8' now'.length (nums now')) :
    SM we g8 g11 g12 M4 m4 S bv now' st v8' v7 (W'.setCell ⟨g8, 0, none⟩ v8') ∧ KeepsOthers W (W'.setCell ⟨g8, 0, none⟩ v8') ∧ Blk W' g8 30 #[v8] := by
  have b8 := h.b8.grown hg (fun e => own_blk_ne h.r8 h.b8 (by decide) e.symm)
  have b7 := h.b7.grown hg (fun e => own_blk_ne h.r8 h.b7 (by decide) e.symm)
  have b11 := h.b11.grown hg (fun e => own_blk_ne h.r8 h.b11 (by decide) e.symm)
  have b12 := h.b12.grown hg (fun e => own_blk_ne h.r8 h.b12 (by decide) e.symm)
  have r7 := h.r7.kept hg (own_own_ne h.r7 h.r8 (by decide))
  have m4' := h.m4.kept hg (fun e => MapKit.own_ne h.r8 h.m4 e.symm)
  have be := h.be.grown hg h.be.size (fun r e => (h.r8.lt r e).1)
  have hs : W'.grownBy (W'.setCell ⟨g8, 0, none⟩ v8') (some g8) := only_set (World.grownBy.refl _ _) 0 _
  refine ⟨⟨b8.set_ 0 _, hr.kept hs (.inr (own_blk_ne hr b8 (by decide))), b7.grown hs (fun e => Blk.ne_ b7 b8 (by decide) (Option.some.inj e)), r7.kept hs (.inr (own_blk_ne r7 b8 (by decide))), b11.grown hs (fun e => Blk.ne_ b11 b8 (by decide) (Option.some.inj e)), m4'.kept hs (fun e => MapKit.blk_ne b8 m4' (Option.some.inj e).symm), b12.grown hs (fun e => h12 (Option.some.inj e)), be.grown hs be.size (fun r e => by cases e; exact h8)⟩, (keeps_row h.r8 hg).trans (KeepsOthers.setCell _ _ _), b8⟩
theorem SM.step {we : World} {g8 g11 g12 M4 m4 : Nat} {S : List Int} {bv : Value} {now : List Int} {st : List Wst} {s : Wst} {v8 v7 v7' : Value} {W W' : World} {o : Obj} (h : SM we g8 g11 g12 M4 m4 S bv now st v8 v7 W) (hg : (W.alloc o).grownBy W' v7.ownBlock) (hr : W'.ownsRow we.heap.size 82 3 v7' (st ++ [s]).length ((st ++ [s]).flatMap cvW)) :
    SM we g8 g11 g12 M4 m4 S bv now (st ++ [s]) v8 v7' (W'.setCell ⟨we.heap.size, 0, none⟩ v7') ∧ KeepsOthers W (W'.setCell ⟨we.heap.size, 0, none⟩ v7') ∧ Blk W' we.heap.size 40 #[v7] := by
  have a : Below W.heap.size W (W.alloc o) := (Below.refl _ _).alloc (Nat.le_refl _) _
  have r7' := own_keep h.r7 a
  have k8 := h.b8.below a h.b8.lt
  have k7 := h.b7.below a h.b7.lt
  have k11 := h.b11.below a h.b11.lt
  have k12 := h.b12.below a h.b12.lt
  have b8 := k8.grown hg (fun e => own_blk_ne r7' k8 (by decide) e.symm)
  have b7 := k7.grown hg (fun e => own_blk_ne r7' k7 (by decide) e.symm)
  have b11 := k11.grown hg (fun e => own_blk_ne r7' k11 (by decide) e.symm)
  have b12 := k12.grown hg (fun e => own_blk_ne r7' k12 (by decide) e.symm)
  have r8 := (own_keep h.r8 a).kept hg (own_own_ne (own_keep h.r8 a) r7' (by decide))
  have m4' := (h.m4.keep a).kept hg (fun e => MapKit.own_ne r7' (h.m4.keep a) e.symm)
  have be := (h.be.trans (a.mono h.be.size)).grown hg (Nat.le_trans h.be.size a.size) (fun r e => (r7'.lt r e).1)
  have hs : W'.grownBy (W'.setCell ⟨we.heap.size, 0, none⟩ v7') (some we.heap.size) := only_set (World.grownBy.refl _ _) 0 _
  refine ⟨⟨b8.grown hs (fun e => Blk.ne_ b8 b7 (by decide) (Option.some.inj e)), r8.kept hs (.inr (own_blk_ne r8 b7 (by decide))), b7.set_ 0 _, hr.kept hs (.inr (own_blk_ne hr b7 (by decide))), b11.grown hs (fun e => Blk.ne_ b11 b7 (by decide) (Option.some.inj e)), m4'.kept hs (fun e => MapKit.blk_ne b7 m4' (Option.some.inj e).symm), b12.grown hs (fun e => Blk.ne_ b12 b7 (by decide) (Option.some.inj e)), be.grown hs be.size (fun r e => by cases e; exact Nat.le_refl _)⟩, ((KeepsOthers.alloc W o).trans (keeps_row r7' hg)).trans (KeepsOthers.setCell _ _ _), b7⟩
theorem SM.drew {we : World} {g8 g11 g12 M4 m4 : Nat} {S : List Int} {bv : Value} {now : List Int} {st : List Wst} {v8 v7 : Value} {W : World} (h : SM we g8 g11 g12 M4 m4 S bv now st v8 v7 W) : SM we g8 g11 g12 M4 m4 S bv now st v8 v7 W.drew :=
  ⟨h.b8, h.r8, h.b7, h.r7, h.b11, h.m4, h.b12, h.be.drew⟩
theorem isIx_in {l : List Int} {s r : Int} (h : IsIxI l s r) (hs : s ∈ l) : ∃ a : Nat, r = a ∧ a < l.length ∧ l.getD a 0 = s := by
  rcases h with ⟨_, h⟩ | ⟨k, h1, h2, h3, _⟩
  · exact absurd hs h
  · exact ⟨k, h1, h2, h3⟩
/-- Between two rounds. -/
structure SI (we : World) (g8 g11 g12 M4 m4 : Nat) (fm S tt : List Int) (bv : Value) (k : Nat) (now : List Int) (st : List Wst) (v8 v7 : Value) (W : World) : Prop where
  wv : Wv fm S tt k now st
  b8 : Blk W g8 30 #[v8]
  r8 : W.ownsRow we.heap.size 3 1 v8 now.length (nums now)
  b7 : Blk W we.heap.size 40 #[v7]
  r7 : W.ownsRow we.heap.size 82 3 v7 st.length (st.flatMap cvW)
  b11 : Blk W g11 78 #[.map (some M4)]
  m4 : intKit.Own W M4 m4 (stayF S)
  b12 : Blk W g12 30 #[bv]
  be : Below we.heap.size we W
theorem SI.keep {we : World} {g8 g11 g12 M4 m4 : Nat} {fm S tt : List Int} {bv : Value} {k : Nat} {now : List Int} {st : List Wst} {v8 v7 : Value} {W W' : World} (h : SI we g8 g11 g12 M4 m4 fm S tt bv k now st v8 v7 W) (hb : Below W.heap.size W W') : SI we g8 g11 g12 M4 m4 fm S tt bv k now st v8 v7 W' :=
  ⟨h.wv, h.b8.below hb h.b8.lt, own_keep h.r8 hb, h.b7.below hb h.b7.lt, own_keep h.r7 hb, h.b11.below hb h.b11.lt, h.m4.keep hb, h.b12.below hb h.b12.lt, h.be.trans (hb.mono h.be.size)⟩
theorem blk_cells {W : World} {g : Nat} {t : TypeId} {cs : Array Value} (h : Blk W g t cs) {row : Option Nat} (hr : ∀ r, row = some r → ∃ o : Obj, W.heap[r]? = some o ∧ o.isCells = false) : some g ≠ row := fun e => by
  obtain ⟨o, h1, h2⟩ := hr g e.symm
  unfold Blk at h
  rw [h] at h1
  cases h1
  cases h2
theorem row_cells {W : World} {base n size : Nat} {e : TypeId} {v : Value} {xs : List Value} (h : W.ownsRow base e size v n xs) {row : Option Nat} (hr : ∀ r, row = some r → ∃ o : Obj, W.heap[r]? = some o ∧ o.isCells = false) : v.ownBlock = none ∨ v.ownBlock ≠ row := by
  rcases h.2 with ⟨rfl, _⟩ | ⟨g, cap, cur, rfl, _, hgb, _⟩
  · exact .inl rfl
  · refine .inr fun e' => ?_
    obtain ⟨o, h1, h2⟩ := hr g e'.symm
    rw [hgb] at h1
    cases h1
    cases h2
theorem row_is {W : World} {base n size : Nat} {e : TypeId} {v : Value} {xs : List Value} (h : W.ownsRow base e size v n xs) : ∀ j o, v.ownBlock = some j → W.heap[j]? = some o → o.isCells = true := by
  intro j o hj ho
  rcases h.2 with ⟨rfl, _⟩ | ⟨g, cap, cur, rfl, _, hgb, _⟩
  · cases hj
  · obtain rfl : g = j := Option.some.inj hj
    rw [hgb] at ho
    cases ho
    rfl
/-- Between two rounds, as the law takes it. -/
def SIk (we : World) (g8 g11 g12 M4 m4 : Nat) (fm S tt : List Int) (bv : Value) (k : Nat) (W : World) : Prop := ∃ now st v8 v7, SI we g8 g11 g12 M4 m4 fm S tt bv k now st v8 v7 W
theorem SIk.own {we : World} {g8 g11 g12 M4 m4 : Nat} {fm S tt : List Int} {bv : Value} {B : Nat} (hB : we.heap.size ≤ B) (hM : M4 < B) : OwnFrom B (SIk we g8 g11 g12 M4 m4 fm S tt bv) := by
  rintro k W W' row ⟨now, st, v8, v7, h⟩ hg hr
  have hc : ∀ r, row = some r → ∃ o : Obj, W.heap[r]? = some o ∧ o.isCells = false := fun r e => (hr r e).2
  exact ⟨now, st, v8, v7, ⟨h.wv, h.b8.grown hg (blk_cells h.b8 hc), h.r8.kept hg (row_cells h.r8 hc), h.b7.grown hg (blk_cells h.b7 hc), h.r7.kept hg (row_cells h.r7 hc), h.b11.grown hg (blk_cells h.b11 hc), h.m4.kept hg (fun e => by have := (hr M4 e.symm).1; omega), h.b12.grown hg (blk_cells h.b12 hc), h.be.grown hg h.be.size (fun r e => by have := (hr r e).1; omega)⟩⟩

/-- What Steps hands back. -/
def StepsPost (w : World) (fm tt : List Int) (e : Ending) (w' : World) : Prop :=
  ∃ (st : List Wst) (R : List Nat) (A : Option Addr) (c : Nat), IsLis (oldTo (placeF fm) tt tt.length) R ∧ Wv fm (staysL (idsTo (placeF fm) tt tt.length) R) tt tt.length tt st ∧
    e = .returned (.slice A st.length c) ∧ w'.ownsRow w.heap.size 82 3 (.slice A st.length c) st.length (st.flatMap cvW) ∧ Below w.heap.size w w'

set_option maxRecDepth 100000 in
set_option maxHeartbeats 32000000 in
theorem steps_any (A B : Option Addr) (n c m c' : Nat) (fm tt : List Int) (w : World) (hz : Nums w w.heap.size A n fm) (hz' : Nums w w.heap.size B m tt) (hn : n ≤ 100) (hm : m ≤ 200) (hw : Wfs fm) (hw' : Wfs tt) (hd : fm.Nodup) (hd' : tt.Nodup) (hft : ∀ x ∈ fm, x ∈ tt) :
    Calls Try.prog 21 #[.slice A n c, .slice B m c'] w (StepsPost w fm tt) := by
  have HZ := Lib.hid (And.intro hz (And.intro hz' (And.intro hw (And.intro hw' (And.intro hd (And.intro hd' hft))))))
  clear hz hz' hw hw' hd hd' hft
  refine (callsIn_wide (n := 9)).1 ?_
  refine callsIn_of_wp_marks Try.func21 rfl trivial ?_ rfl
  simp only [Try.ntmps21, List.size_toArray, List.length_cons, List.length_nil, Nat.reduceAdd, Nat.reduceSub, Array.replicate_succ, Array.replicate_zero, List.push_toArray, List.append_toArray, List.nil_append, List.cons_append]
  refine wpIn_wide.2 ?_
  go_upto_region 1 with fail
  obtain ⟨wb, hwb⟩ : ∃ wb, wb = w.alloc (Obj.cells #[Value.slice B m c'] 30) := ⟨_, rfl⟩
  have HB := Lib.hid (show Blk wb w.heap.size 30 #[Value.slice B m c'] ∧ Below w.heap.size w wb ∧ wb.heap.size = w.heap.size + 1 by
    subst hwb
    exact ⟨Blk.new _ _ _, (Below.refl _ _).alloc (Nat.le_refl _) _, by simp⟩)
  rw [← hwb]
  clear hwb
  go_cut [0] from 16 to 87 (fun s wx => OwnN (w.heap.size + 1) fm s wx ∧ ∃ v, OwnN (w.heap.size + 1) tt v wx ∧ Blk wx w.heap.size 30 #[v] ∧ Below w.heap.size w wx)
  case first =>
    refine wp_region_mix wb ?_ ?_ ?_ (VS1 (w.heap.size + 1) A n c B m c' fm tt) (RelK (w.heap.size + 1)) ?_ ?_ (fun L s w' => JS1 w A n c B m c' (L 0) (L 1) (L 2) (L 3) (L 4) (L 5) (s 1) (s 3) (s 4) w') ?_ spS1 ?_ ?_ ?_
    · kernel_rfl
    · kernel_rfl
    · kernel_rfl
    · exact fun _ _ h => RelK.of_below h
    · exact fun j v w1 w2 h hr => VS1_keep _ _ _ _ _ _ _ _ _ j v w1 w2 h hr
    · exact ⟨HB.out.1, HB.out.2.1.drew, by rw [← HB.out.2.2]; exact Nat.le_refl _, (fun h => by cases h), fun _ => by kernel_rfl, (fun h => by cases h), (fun h => by cases h), (fun h => by cases h)⟩
    · intro L s w1 i v w2 hi hL hJ hbw
      have hne : ¬ 1 = i ∧ ¬ 3 = i ∧ ¬ 4 = i ∧ ¬ 5 = i := by
        refine ⟨?_, ?_, ?_, ?_⟩ <;> (rintro rfl; cases hi)
      have hk := hJ.keep hbw
      have e0 : ∀ j, L j = true → setL L i j = true := fun j hj => by
        rw [setL]; split
        · rfl
        · exact hj
      have e1 : setL L i 1 = L 1 := if_neg hne.1
      have e3 : setL L i 3 = L 3 := if_neg hne.2.1
      have e4 : setL L i 4 = L 4 := if_neg hne.2.2.1
      have e5 : setL L i 5 = L 5 := if_neg hne.2.2.2
      have u1 : upd s i v 1 = s 1 := if_neg hne.1
      have u3 : upd s i v 3 = s 3 := if_neg hne.2.1
      have u4 : upd s i v 4 = s 4 := if_neg hne.2.2.1
      rw [e1, e3, e4, e5, u1, u3, u4]
      exact ⟨hk.box, hk.be, hk.sz, hk.a4, hk.n4, fun h => e0 0 (hk.i1 h), hk.i5, fun h => e0 2 (hk.i3 h)⟩
    · refine ⟨fun L s wx hL hJ hd => mix_plain rfl rfl ⟨_, _, ex_move rfl ((lit_at 4 0 (by kernel_rfl) (by kernel_rfl) (by kernel_rfl)).trans (hJ.n4 (by cases h : L 4 with | false => rfl | true => have := hJ.i1 (hJ.a4 h).1; rw [hL] at this; cases this))), rfl, Below.refl _ _⟩, ?_⟩
      refine ⟨fun L s wx hL hJ hd => mix_callsp rfl rfl ⟨_, _, ex_call1 rfl rfl (enters Try.func38 (by kernel_rfl) rfl _ _) ((lit_at 0 16 (by kernel_rfl) (by kernel_rfl) (by kernel_rfl)).trans (hd 0 (by kernel_rfl)).2), ?_⟩, ?_⟩
      · refine (cOnce (B := w.heap.size + 1) ((HZ.out.1.below hJ.be).more hJ.be.size) (by omega) HZ.out.2.2.1 HZ.out.2.2.2.2.1 hJ.sz).mono ?_
        rintro e w' ⟨v, rfl, hv, hb⟩
        have hk := hJ.keep hb
        refine ⟨v, rfl, hv, RelK.of_below hb, ⟨hk.box, hk.be, hk.sz, fun h => ?_, hk.n4, fun _ => (hd 0 (by kernel_rfl)).1, hk.i5, hk.i3⟩⟩
        have := (hJ.a4 h).1
        rw [hL] at this
        cases this
      refine ⟨fun L s wx hL hJ hd => mix_plain rfl rfl ⟨_, _, ex_load rfl (lit_out 3 (by kernel_rfl)) ((hJ.box.cell 0).trans (by cases h : L 5 with | false => rfl | true => have := hJ.i3 (hJ.i5 h); rw [hL] at this; cases this)), rfl, Below.refl _ _⟩, ?_⟩
      refine ⟨fun L s wx hL hJ hd => mix_callsp rfl rfl ⟨_, _, ex_call1 rfl rfl (enters Try.func38 (by kernel_rfl) rfl _ _) ((lit_at 2 18 (by kernel_rfl) (by kernel_rfl) (by kernel_rfl)).trans (hd 2 (by kernel_rfl)).2), ?_⟩, ?_⟩
      · refine (cOnce (B := w.heap.size + 1) ((HZ.out.2.1.below hJ.be).more hJ.be.size) (by omega) HZ.out.2.2.2.1 HZ.out.2.2.2.2.2.1 hJ.sz).mono ?_
        rintro e w' ⟨v, rfl, hv, hb⟩
        have hk := hJ.keep hb
        have h5 : L 5 = false := by
          cases h : L 5 with
          | false => rfl
          | true => have := hJ.i5 h; rw [hL] at this; cases this
        refine ⟨v, rfl, hv, RelK.of_below hb, ⟨?_, hk.be, hk.sz, hk.a4, hk.n4, hk.i1, fun h => rfl, fun _ => (hd 2 (by kernel_rfl)).1⟩⟩
        have hbx := hk.box
        rw [h5] at hbx
        show Blk w' w.heap.size 30 #[if L 5 = true then _ else _]
        rw [h5]
        exact hbx
      refine ⟨fun L s wx hL hJ hd => mix_sp rfl rfl ⟨s 1, wx, ex_assign rfl (lit_at 1 17 (by kernel_rfl) (by kernel_rfl) (by kernel_rfl)), trivial, RelK.of_below (Below.refl _ _), ⟨hJ.box, hJ.be, hJ.sz, fun _ => ⟨(hd 1 (by kernel_rfl)).1, rfl⟩, (fun h => by cases h), hJ.i1, hJ.i5, hJ.i3⟩⟩, ?_⟩
      refine ⟨fun L s wx hL hJ hd => mix_store rfl rfl ?_, ?_⟩
      · obtain ⟨A3, c3, h3, hown3⟩ := (hd 3 (by kernel_rfl)).2
        have hbx := hJ.box
        have h5 : L 5 = false := hL
        rw [h5] at hbx
        have hg : wx.grownBy (wx.setCell ⟨w.heap.size, 0, none⟩ (.slice A3 tt.length c3)) (some w.heap.size) := only_set (World.grownBy.refl _ _) 0 _
        refine ⟨_, ex_store rfl (lit_out 3 (by kernel_rfl)) ((lit_at 3 19 (by kernel_rfl) (by kernel_rfl) (by kernel_rfl)).trans h3) (hbx.cell 0) (hbx.frozen 0), trivial, ⟨some w.heap.size, hg, fun b hb => by cases hb; omega⟩, ⟨?_, ?_, ?_, hJ.a4, hJ.n4, hJ.i1, fun _ => (hd 3 (by kernel_rfl)).1, hJ.i3⟩⟩
        · show Blk _ w.heap.size 30 #[if (true = true) then s 3 else _]
          rw [if_pos rfl, h3]
          exact hbx.set_ 0 _
        · exact hJ.be.grown hg hJ.be.size (fun b hb => by cases hb; exact Nat.le_refl _)
        · exact Nat.le_trans hJ.sz hg.size
      trivial
    · intro L s wx hL hJ hV
      have h1 : OwnN (w.heap.size + 1) fm (s 1) wx := hV 1 (by decide)
      have h3 : OwnN (w.heap.size + 1) tt (s 3) wx := hV 3 (by decide)
      have h4 := (hJ.a4 (hL 4 (by decide))).2
      have hbx := hJ.box
      rw [hL 5 (by decide)] at hbx
      rw [← h4] at h1
      have HR := Lib.hid (show OwnN (w.heap.size + 1) fm (s 4) wx ∧ ∃ v, OwnN (w.heap.size + 1) tt v wx ∧ Blk wx w.heap.size 30 #[v] ∧ Below w.heap.size w wx from ⟨h1, s 3, h3, hbx, hJ.be⟩)
      clear hL hJ hV h1 h3 h4 hbx
      simp only [litOf, List.map_cons, List.map_nil, Nat.zero_add, Nat.reduceAdd, Act.put, List.setIfInBounds_toArray, List.set_cons_succ, List.set_cons_zero]
      go_wp2_with fail
      go_meet
      case rel => exact HR.out
  case rest =>
    obtain ⟨⟨A1, c1, rfl, hof⟩, v2, ⟨A2, c2, rfl, hot⟩, hbx, hbe⟩ := hcut
    obtain ⟨wd, rfl⟩ : ∃ x : World, x = wc := ⟨_, rfl⟩
    have HC := Lib.hid (And.intro hof (And.intro hot (And.intro hbx hbe)))
    have y3 := hbx.cell 0
    clear hof hot hbx hbe HB
    go_upto_region 2 with fail
    go_cut [5, 6] from 16 to 87 (fun s t wx => (∃ g M, s = .pointer (some ⟨g, 0, none⟩) ∧ wd.heap.size ≤ g ∧ Blk wx g 78 #[.map (some M)] ∧ wd.heap.size ≤ M ∧ intKit.Own wx M fm.length (placeF fm)) ∧ (∃ M, t = .map (some M) ∧ wd.heap.size ≤ M ∧ intKit.Own wx M tt.length (placeF tt)) ∧ Below wd.heap.size wd wx)
    case first =>
      refine wp_region_mix wd ?_ ?_ ?_ (VS2 wd.heap.size (.slice A1 fm.length c1) (.slice A2 tt.length c2) fm tt) RelC ?_ ?_ (fun L s w' => JS2 wd (L 1) (L 3) (L 4) (L 5) (L 6) (s 1) (s 3) (s 4) (s 6) w') ?_ spS2 ?_ ?_ ?_
      · kernel_rfl
      · kernel_rfl
      · kernel_rfl
      · exact fun _ _ h => RelC.of_below h
      · exact fun j v w1 w2 h hr => VS2_keep _ _ _ _ _ j v w1 w2 h hr
      · exact ⟨(fun h => by cases h), (Below.refl _ _).drew, (fun h => by cases h), (fun h => by cases h)⟩
      · intro L s w1 i v w2 hi hL hJ hbw
        have hne : ¬ 1 = i ∧ ¬ 3 = i ∧ ¬ 4 = i ∧ ¬ 5 = i ∧ ¬ 6 = i := by
          refine ⟨?_, ?_, ?_, ?_, ?_⟩ <;> (rintro rfl; cases hi)
        simp only [setL, upd, if_neg hne.1, if_neg hne.2.1, if_neg hne.2.2.1, if_neg hne.2.2.2.1, if_neg hne.2.2.2.2]
        exact hJ.keep hbw
      · refine ⟨fun L s wx hL hJ hd => mix_plain rfl rfl ⟨_, _, ex_move rfl (lit_out 0 (by kernel_rfl)), rfl, Below.refl _ _⟩, ?_⟩
        refine ⟨fun L s wx hL hJ hd => mix_callsp rfl rfl ⟨_, _, ex_call1 rfl rfl (enters Try.func39 (by kernel_rfl) rfl _ _) ((lit_at 0 20 (by kernel_rfl) (by kernel_rfl) (by kernel_rfl)).trans (hd 0 (by kernel_rfl)).2), ?_⟩, ?_⟩
        · refine (cPlaces (B := wd.heap.size) (((Nums.of_own HC.out.1 rfl).below hJ.be).more hJ.be.size) (by have := HZ.out.1.1; omega) HZ.out.2.2.1 hJ.be.size).mono ?_
          rintro e w' ⟨v, rfl, hv, hb⟩
          have hk := hJ.keep hb
          have h5 : L 5 = false := by
            cases h : L 5 with
            | false => rfl
            | true => have := (hJ.i51 h).1; rw [hL] at this; cases this
          refine ⟨v, rfl, hv, RelC.of_below hb, ⟨fun h4 => ?_, hk.be, fun h => ⟨rfl, (hk.i51 h).2⟩, hk.a6⟩⟩
          obtain ⟨g, h1, h2, h3⟩ := hk.box h4
          refine ⟨g, h1, h2, ?_⟩
          rw [h5] at h3
          show Blk w' g 78 #[if L 5 = true then _ else _]
          rw [h5]
          exact h3
        refine ⟨fun L s wx hL hJ hd => mix_plain rfl rfl ⟨_, _, ex_load rfl (lit_out 3 (by kernel_rfl)) ((HC.out.2.2.1.below hJ.be HC.out.2.2.1.lt).cell 0), rfl, Below.refl _ _⟩, ?_⟩
        refine ⟨fun L s wx hL hJ hd => mix_callsp rfl rfl ⟨_, _, ex_call1 rfl rfl (enters Try.func39 (by kernel_rfl) rfl _ _) ((lit_at 2 22 (by kernel_rfl) (by kernel_rfl) (by kernel_rfl)).trans (hd 2 (by kernel_rfl)).2), ?_⟩, ?_⟩
        · refine (cPlaces (B := wd.heap.size) (((Nums.of_own HC.out.2.1 rfl).below hJ.be).more hJ.be.size) (by have := HZ.out.2.1.1; omega) HZ.out.2.2.2.1 hJ.be.size).mono ?_
          rintro e w' ⟨v, rfl, hv, hb⟩
          have hk := hJ.keep hb
          have h6 : L 6 = false := by
            cases h : L 6 with
            | false => rfl
            | true => have := (hJ.a6 h).1; rw [hL] at this; cases this
          refine ⟨v, rfl, hv, RelC.of_below hb, ⟨hk.box, hk.be, hk.i51, fun h => ?_⟩⟩
          have h : L 6 = true := h
          rw [h6] at h
          cases h
        refine ⟨fun L s wx hL hJ hd => mix_sp rfl rfl ⟨_, _, ex_allocM rfl, trivial, RelC.of_below ((Below.refl _ _).alloc (Nat.le_refl _) _), ?_⟩, ?_⟩
        · have h5 : L 5 = false := by
            cases h : L 5 with
            | false => rfl
            | true => have := (hJ.i51 h).2; rw [hL] at this; cases this
          have hk := hJ.keep ((Below.refl _ _).alloc (Nat.le_refl _) (.cells #[.map none] 78))
          refine ⟨fun _ => ⟨_, rfl, hJ.be.size, ?_⟩, hk.be, fun h => ⟨(hk.i51 h).1, rfl⟩, hk.a6⟩
          show Blk _ wx.heap.size 78 #[if L 5 = true then _ else _]
          rw [h5]
          exact Blk.new _ _ _
        refine ⟨fun L s wx hL hJ hd => mix_store rfl rfl ?_, ?_⟩
        · obtain ⟨M, h1, hMB, hO⟩ := (hd 1 (by kernel_rfl)).2
          obtain ⟨g, h4, hg, hblk⟩ := hJ.box (hd 4 (by kernel_rfl)).1
          have hgr : wx.grownBy (wx.setCell ⟨g, 0, none⟩ (.map (some M))) (some g) := only_set (World.grownBy.refl _ _) 0 _
          refine ⟨_, ex_storeM rfl ((lit_at 4 5 (by kernel_rfl) (by kernel_rfl) (by kernel_rfl)).trans h4) ((lit_at 1 21 (by kernel_rfl) (by kernel_rfl) (by kernel_rfl)).trans h1) (hblk.cell 0) (hblk.frozen 0), trivial, ⟨some g, hgr, fun b hb => by cases hb; exact ⟨_, _, hblk⟩⟩, ⟨fun _ => ⟨g, h4, hg, ?_⟩, hJ.be.grown hgr hJ.be.size (fun b hb => by cases hb; exact hg), fun _ => ⟨(hd 1 (by kernel_rfl)).1, (hd 4 (by kernel_rfl)).1⟩, hJ.a6⟩⟩
          show Blk _ g 78 #[if (true = true) then s 1 else _]
          rw [if_pos rfl, h1]
          exact hblk.set_ 0 _
        refine ⟨fun L s wx hL hJ hd => mix_sp rfl rfl ⟨s 3, wx, ex_assign rfl (lit_at 3 23 (by kernel_rfl) (by kernel_rfl) (by kernel_rfl)), trivial, RelC.of_below (Below.refl _ _), ⟨hJ.box, hJ.be, hJ.i51, fun _ => ⟨(hd 3 (by kernel_rfl)).1, rfl⟩⟩⟩, ?_⟩
        trivial
      · intro L s wx hL hJ hV
        obtain ⟨M1, h1, hM1, hO1⟩ : PlV wd.heap.size fm (s 1) wx := hV 1 (by decide)
        obtain ⟨M3, h3, hM3, hO3⟩ : PlV wd.heap.size tt (s 3) wx := hV 3 (by decide)
        obtain ⟨g, h4, hg, hblk⟩ := hJ.box (hL 4 (by decide))
        rw [hL 5 (by decide), if_pos rfl, h1] at hblk
        have h6 := (hJ.a6 (hL 6 (by decide))).2
        have HR := Lib.hid (show (∃ g M, s 4 = .pointer (some ⟨g, 0, none⟩) ∧ wd.heap.size ≤ g ∧ Blk wx g 78 #[.map (some M)] ∧ wd.heap.size ≤ M ∧ intKit.Own wx M fm.length (placeF fm)) ∧ (∃ M, s 6 = .map (some M) ∧ wd.heap.size ≤ M ∧ intKit.Own wx M tt.length (placeF tt)) ∧ Below wd.heap.size wd wx from ⟨⟨g, M1, h4, hg, hblk, hM1, hO1⟩, ⟨M3, h6.trans h3, hM3, hO3⟩, hJ.be⟩)
        clear hL hJ hV h1 h3 h4 h6 hblk hO1 hO3
        simp only [litOf, List.map_cons, List.map_nil, Nat.zero_add, Nat.reduceAdd, Act.put, List.setIfInBounds_toArray, List.set_cons_succ, List.set_cons_zero]
        go_wp2_with fail
        go_meet
        case rel => exact HR.out
    case rest =>
      obtain ⟨⟨g5, M1, rfl, hg5, hb5, hM1, hO1⟩, ⟨M3, rfl, hM3, hO3⟩, hbd⟩ := hcut
      obtain ⟨we, rfl⟩ : ∃ x : World, x = wc := ⟨_, rfl⟩
      have HE := Lib.hid (show Blk we w.heap.size 30 #[.slice A2 tt.length c2] ∧ we.ownsRow (w.heap.size + 1) 3 1 (.slice A2 tt.length c2) tt.length (nums tt) ∧ we.ownsRow (w.heap.size + 1) 3 1 (.slice A1 fm.length c1) fm.length (nums fm) ∧ Blk we g5 78 #[.map (some M1)] ∧ intKit.Own we M1 fm.length (placeF fm) ∧ intKit.Own we M3 tt.length (placeF tt) ∧ Below w.heap.size w we from
        ⟨HC.out.2.2.1.below hbd HC.out.2.2.1.lt, own_keep HC.out.2.1 hbd, own_keep HC.out.1 hbd, hb5, hO1, hO3, HC.out.2.2.2.trans (hbd.mono HC.out.2.2.2.size)⟩)
      have HG5 := Lib.hid (show w.heap.size < g5 ∧ g5 < we.heap.size from ⟨by have := HC.out.2.2.1.lt; omega, hb5.lt⟩)
      clear hb5 hO1 hO3 hbd HC hg5 hM1 hM3 y3
      go_upto_region 5 with fail
      obtain ⟨wf, hwf⟩ : ∃ wf, wf = we.alloc (.cells #[.slice none 0 0] 40) := ⟨_, rfl⟩
      have hsf : wf.heap.size = we.heap.size + 1 := by rw [hwf]; simp
      have HF := Lib.hid (show Below we.heap.size we wf ∧ Blk wf we.heap.size 40 #[.slice none 0 0] from by
        rw [hwf]; exact ⟨(Below.refl _ _).alloc (Nat.le_refl _) _, Blk.new _ _ _⟩)
      rw [← hwf]
      obtain ⟨g8, hg8⟩ : ∃ g8, g8 = we.heap.size + 1 := ⟨_, rfl⟩
      rw [← hg8]
      have HG8 := Lib.hid (show g8 = wf.heap.size from hg8.trans hsf.symm)
      have HX8 := Lib.hid (show Blk (wf.alloc (.cells #[.slice none 0 0] 30)) g8 30 #[.slice none 0 0] by rw [HG8.out]; exact Blk.new _ _ _)
      obtain ⟨g7, hg7⟩ : ∃ g7, g7 = we.heap.size := ⟨_, rfl⟩
      rw [← hg7]
      have HG7 := Lib.hid hg7
      clear hwf hsf hg8 hg7
      have HN := Lib.hid (show fm.length = n ∧ tt.length = m from ⟨HZ.out.1.1, HZ.out.2.1.1⟩)
      have hfl : fm.length ≤ 100 := by rw [HN.out.1]; exact hn
      have htl : tt.length ≤ 200 := by rw [HN.out.2]; exact hm
      obtain ⟨tr, hi, hz0, hz1, hz2⟩ := info_parts winfo
      go_wp2_with fail
      go_loopw [26] (fun i wx => ∃ (k : Nat) (v : Value), k ≤ fm.length ∧ i = .int .i64 k ∧ Blk wx g8 30 #[v] ∧ wx.ownsRow (g8 + 1) 3 1 v k (nums (fm.take k)) ∧ Below wf.heap.size wf wx) (fun i _ => fm.length - (intOf i).toNat)
      case atStart => exact ⟨0, .slice none 0 0, Nat.zero_le _, rfl, HX8.out, World.ownsRow_nil _ _ _ _, (Below.refl _ _).alloc (Nat.le_refl _) _⟩
      case round =>
        obtain ⟨k, v, hk, rfl, hbx, hown, hb⟩ := hrel
        obtain ⟨Av, cv, hv⟩ := own_form hown
        subst hv
        have hbe : Below we.heap.size we wr := HF.out.1.trans (hb.mono HF.out.1.size)
        by_cases hlt : k < fm.length
        · obtain ⟨b, off, hA, hbB, d0⟩ := (Nums.of_own HE.out.2.2.1 rfl).2 k hlt
          subst hA
          replace d0 := (hbe.cell (p := ⟨b, off + k, none⟩) hbB).trans d0
          have HT := Lib.hid (take_snoc fm 0 k hlt)
          have hxin : fm.getD k 0 ∈ fm := (mem_getD fm _).2 ⟨k, hlt, rfl⟩
          have hwf := HZ.out.2.2.1 _ hxin
          have hpos := (placeF_mem HZ.out.2.2.2.2.2.1).2 (HZ.out.2.2.2.2.2.2 _ hxin)
          have hple := placeF_le tt (fm.getD k 0)
          have hO3 : intKit.Own wr M3 tt.length (placeF tt) := HE.out.2.2.2.2.2.1.keep hbe
          have hlk := hO3.look _ hwf
          simp only [intKit] at hlk
          obtain ⟨x, hx⟩ : ∃ x, x = fm.getD k 0 := ⟨_, rfl⟩
          rw [← hx] at d0 HT hwf hpos hlk hple
          obtain ⟨p, hp⟩ : ∃ p, p = placeF tt x := ⟨_, rfl⟩
          rw [← hp] at hpos hlk hple
          have hlk2 : (Instr.lookup 78 (.map (some M3)) (.int .i64 x) false).run Try.prog wr = .ok (.int .i64 (p : Nat)) wr := hlk
          have hp0 : (0 : Int) < (p : Int) := by omega
          have i1 : (0 : Int) ≤ (k : Int) := by omega
          have i2 : (k : Int) < (fm.length : Int) := by omega
          have y8 := hbx.cell 0
          have HO := Lib.hid (And.intro hown (And.intro hbx hb))
          have hg8s : g8 + 1 ≤ wr.heap.size := hbx.lt
          clear hx hp hlk hpos hxin hO3 hwf hown hbx hb hbe
          go_wp2_with (first
            | (at_builtin; refine wpList_append_lies _ rfl _ _ _ rfl (g8 + 1) 3 tr _ 1 8 Try.underlying30 hi hz0 hz1 hz2 rfl (by decide) _ k (nums (fm.take k)) rfl (HO.out.1.alloc _) _ 1 1 [.int .i64 x] rfl rfl (World.news_of_block (heap_alloc_new _ _)) (by intro u hu; simp at hu; subst hu; rfl) (by omega) (by unfold maxLen; omega) (by omega) (by simp; omega) _ rfl ?_; intro g2 cap2 w4 hown2 hg2 hat2 hlt2; have hb4 := (HO.out.2.1.alloc (.cells #[.int .i64 x] 3)).grown hg2 (fun e => by have := (HO.out.1.lt _ e.symm).1; omega); have z8 := hb4.cell 0; have f8 := hb4.frozen 0; have HB4 := Lib.hid hb4; have HX := Lib.hid (And.intro hown2 ((HO.out.2.2.alloc HO.out.2.2.size _).grown hg2 (HO.out.2.2.alloc HO.out.2.2.size _).size (fun j hj => by have := (HO.out.1.lt j hj).1; have := HG8.out; omega))); clear hown2 hg2 hat2 hlt2 hb4))
          go_roundw
          case rel =>
            have hgs := only_set (World.grownBy.refl w4 (some g8)) 0 (.slice (some ⟨g2, 0, none⟩) (k + 1) cap2)
            refine ⟨k + 1, _, by omega, by go_num, HB4.out.set_ 0 _, ?_, HX.out.2.grown hgs HX.out.2.size (fun j hj => by cases hj; rw [HG8.out]; exact Nat.le_refl _)⟩
            rw [HT.out, nums_snoc]
            exact HX.out.1.kept hgs (.inr (fun e => by have := (HX.out.1.lt _ e).1; omega))
          case measure => simp [intOf]; omega
        · obtain rfl : k = fm.length := by omega
          have hd : decide ((fm.length : Int) < (fm.length : Int)) = false := by simp
          rw [List.take_length] at hown
          have y5 := (HE.out.2.2.2.1.below hbe HE.out.2.2.2.1.lt).cell 0
          have y3 := (HE.out.1.below hbe HE.out.1.lt).cell 0
          have HO := Lib.hid (And.intro hown (And.intro hbx (And.intro hb hbe)))
          clear hown hbx hb hbe hlt
          obtain ⟨wg, rfl⟩ : ∃ x : World, x = wr := ⟨_, rfl⟩
          go_wp2_with fail
          refine (kept_any M1 fm.length (placeF fm) A2 tt.length c2 tt _ (HE.out.2.2.2.2.1.keep HO.out.2.2.2) ((Nums.of_own HE.out.2.1 rfl).keep HO.out.2.2.2) (by omega) HZ.out.2.2.2.1).mono ?_
          rintro e w2 ⟨R, M4, m4, hR, rfl, hM4, hO4, hb4⟩
          have HK := Lib.hid (And.intro hR (And.intro hO4 (And.intro hM4 hb4)))
          clear hR hM4 hO4 hb4
          go_upto_region 13 with fail
          obtain ⟨wh, hwh⟩ : ∃ wh, wh = w2.alloc (.cells #[.map (some M4)] 78) := ⟨_, rfl⟩
          have HB := Lib.hid (show Below wg.heap.size wg wh ∧ Blk wh w2.heap.size 78 #[.map (some M4)] ∧ intKit.Own wh M4 m4 (stayF (staysL (idsTo (placeF fm) tt tt.length) R)) ∧ wh.heap.size = w2.heap.size + 1 from by
            rw [hwh]
            exact ⟨HK.out.2.2.2.alloc HK.out.2.2.2.size _, Blk.new _ _ _, HK.out.2.1.keep ((Below.refl _ _).alloc (Nat.le_refl _) _), by simp⟩)
          rw [← hwh]
          obtain ⟨g11, hg11⟩ : ∃ g11, g11 = w2.heap.size := ⟨_, rfl⟩
          rw [← hg11]
          rw [← hg11] at HB
          have HG11 := Lib.hid hg11
          clear hwh hg11
          have HW := Lib.hid (show (Blk wh w.heap.size 30 #[.slice A2 tt.length c2] ∧ wh.ownsRow (w.heap.size + 1) 3 1 (.slice A2 tt.length c2) tt.length (nums tt)) ∧ (Blk wh g5 78 #[.map (some M1)] ∧ intKit.Own wh M1 fm.length (placeF fm)) ∧ Blk wh g7 40 #[.slice none 0 0] ∧ (Blk wh g8 30 #[.slice Av fm.length cv] ∧ wh.ownsRow (g8 + 1) 3 1 (.slice Av fm.length cv) fm.length (nums fm)) ∧ Below w.heap.size w wh from by
            have b1 := HB.out.1
            have b2 := HO.out.2.2.2
            have k1 := HE.out.1.below b2 HE.out.1.lt
            have k2 := HE.out.2.2.2.1.below b2 HE.out.2.2.2.1.lt
            have k3 := HF.out.2
            rw [← HG7.out] at k3
            have k4 := k3.below HO.out.2.2.1 k3.lt
            exact ⟨⟨k1.below b1 k1.lt, own_keep (own_keep HE.out.2.1 b2) b1⟩, ⟨k2.below b1 k2.lt, (HE.out.2.2.2.2.1.keep b2).keep b1⟩, k4.below b1 k4.lt, ⟨HO.out.2.1.below b1 HO.out.2.1.lt, own_keep HO.out.1 b1⟩, HE.out.2.2.2.2.2.2.trans ((b2.mono HE.out.2.2.2.2.2.2.size).trans (b1.mono (Nat.le_trans HE.out.2.2.2.2.2.2.size b2.size)))⟩)
          have y3 := HW.out.1.1.cell 0
          go_wp2_with fail
          refine (backward_any A2 tt.length c2 _).mono ?_
          rintro e w3 ⟨rfl, hw3⟩
          obtain ⟨g12, hg12⟩ : ∃ g12, g12 = wh.heap.size := ⟨_, rfl⟩
          have HI := Lib.hid (show Below wh.heap.size wh w3 ∧ Blk w3 g12 30 #[.slice A2 tt.length c2] ∧ w3.heap.size = g12 + 1 ∧ g12 = wh.heap.size from by
            rw [hw3, hg12]
            exact ⟨(Below.refl _ _).alloc (Nat.le_refl _) _, Blk.new _ _ _, by simp, rfl⟩)
          rw [← hg12]
          clear hw3 hg12 y3
          go_wp2_with fail
          refine (wpIn_wide (n := 9)).1 ?_
          have HFit := Lib.hid (fit_stays HZ.out.2.2.2.2.1 HZ.out.2.2.2.2.2.1 HZ.out.2.2.2.2.2.2 HK.out.1)
          have HBE := Lib.hid (show Below we.heap.size we w3 from (HO.out.2.2.2.trans (HB.out.1.mono HO.out.2.2.2.size)).trans (HI.out.1.mono (Nat.le_trans HO.out.2.2.2.size HB.out.1.size)))
          have H8 := Lib.hid (show we.heap.size ≤ g8 from by rw [HG8.out]; exact HF.out.1.size)
          have H12 := Lib.hid (show g12 ≠ g8 from by
            have h1 := HW.out.2.2.2.1.1.lt
            have h2 := HI.out.2.2.2
            omega)
          have HSI := Lib.hid (show SIk we g8 g11 g12 M4 m4 fm (staysL (idsTo (placeF fm) tt tt.length) R) tt (.slice A2 tt.length c2) 0 w3 from by
            have hb := HI.out.1
            have k8 := HW.out.2.2.2.1.1.below hb HW.out.2.2.2.1.1.lt
            have k7 := HW.out.2.2.1.below hb HW.out.2.2.1.lt
            rw [HG7.out] at k7
            exact ⟨fm, [], .slice Av fm.length cv, .slice none 0 0, ⟨Wv.zero HFit.out, k8, own_base (own_keep HW.out.2.2.2.1.2 hb) (Nat.le_succ_of_le H8.out), k7, World.ownsRow_nil _ _ _ _, HB.out.2.1.below hb HB.out.2.1.lt, HB.out.2.2.1.keep hb, HI.out.2.1, HBE.out⟩⟩)
          have HM4 := Lib.hid (show M4 < w3.heap.size ∧ we.heap.size ≤ w3.heap.size from
            ⟨Nat.lt_of_lt_of_le HB.out.2.2.1.lt HI.out.1.size, HBE.out.size⟩)
          have HLis := Lib.hid HK.out.1
          have HBw := Lib.hid HE.out.2.2.2.2.2.2
          refine' wpIn_range_nth rfl (by omega) (gf := 52) (lb := #[.pointer (some ⟨g12, 0, none⟩)]) rfl trivial (enters_of Try.func52 (by kernel_rfl) rfl) (encs := encB tt tt.length) (N := tt.length) (fun _ => rfl)
            (fun W => W.cell? ⟨g12, 0, none⟩ = some (.slice A2 tt.length c2) ∧ Nums W W.heap.size A2 tt.length tt)
            (fun l J W hX hY h0 => back_in 8 (by omega) l g12 tt.length c2 A2 tt (by omega) J W hX hY h0)
            (SIk we g8 g11 g12 M4 m4 fm (staysL (idsTo (placeF fm) tt tt.length) R) tt (.slice A2 tt.length c2)) ?_ (SIk.own HM4.out.2 HM4.out.1) HSI.out
            _ ?assign ?body ?done
          · rintro k W ⟨now, st, v8, v7, h⟩
            exact ⟨h.b12.cell 0, (Nums.of_own HE.out.2.1 rfl).keep h.be⟩
          case assign =>
            intro l k W K hK
            simp only [encB]
            gi_wp2
            exact hK
          case body =>
            rintro l k W hk ⟨now, st, v8, v7, h⟩
            obtain ⟨S, hS⟩ : ∃ S, S = staysL (idsTo (placeF fm) tt tt.length) R := ⟨_, rfl⟩
            rw [← hS] at HFit h ⊢
            obtain ⟨i, hi0⟩ : ∃ i, i = tt.length - 1 - k := ⟨_, rfl⟩
            rw [← hi0]
            have hil : i < tt.length := by omega
            have hidin : tt.getD i 0 ∈ tt := (mem_getD tt _).2 ⟨i, hil, rfl⟩
            have hwf := HZ.out.2.2.2.1 _ hidin
            have hlkS := h.m4.look _ hwf
            have hM1 : intKit.Own W M1 fm.length (placeF fm) := HE.out.2.2.2.2.1.keep h.be
            have hlkT := hM1.look _ hwf
            have hfm := placeF_mem (l := fm) (x := tt.getD i 0) HZ.out.2.2.2.2.1
            have hfle := placeF_le fm (tt.getD i 0)
            simp only [intKit] at hlkS hlkT
            have Hi := Lib.hid hi0
            have HSK := Lib.hid (fun hs => h.wv.skip HFit.out hk hs)
            rw [← hi0] at HSK
            obtain ⟨id, hid⟩ : ∃ id, id = tt.getD i 0 := ⟨_, rfl⟩
            have hid' : tt[i]?.getD 0 = id := hid.symm
            rw [hid']
            rw [← hid] at hlkS hlkT hfm hwf hfle HSK
            have HID := Lib.hid hid
            have y8 := h.b8.cell 0
            have y7 := h.b7.cell 0
            have y11 := h.b11.cell 0
            have y3 := (HE.out.1.below h.be HE.out.1.lt).cell 0
            have y5 := (HE.out.2.2.2.1.below h.be HE.out.2.2.2.1.lt).cell 0
            rw [← HG7.out] at y7
            have H := Lib.hid h
            have HS := Lib.hid hS
            clear h hS hi0 hid hid' hidin hM1
            by_cases hs : id ∈ S
            · have hlk2 : (Instr.lookup 78 (.map (some M4)) (.int .i64 id) false).run Try.prog W = .ok (.int .i64 1) W := by
                have e : stayF S id = 1 := if_pos hs
                rw [e] at hlkS
                exact hlkS
              have HN := Lib.hid (HSK.out hs)
              clear hlkS hlkT hfm hs
              gi_wp2
              exact ⟨KeepsFrom.refl _ _, now, st, v8, v7, ⟨HN.out, H.out.b8, H.out.r8, H.out.b7, H.out.r7, H.out.b11, H.out.m4, H.out.b12, H.out.be⟩⟩
            · have hlk2 : (Instr.lookup 78 (.map (some M4)) (.int .i64 id) false).run Try.prog W = .ok (.int .i64 0) W := by
                have e : stayF S id = 0 := if_neg hs
                rw [e] at hlkS
                exact hlkS
              have hnl := H.out.wv.nlen HFit.out
              have hsl := H.out.wv.len
              have HM := Lib.hid (show SM we g8 g11 g12 M4 m4 S (.slice A2 tt.length c2) now st v8 v7 W from ⟨H.out.b8, H.out.r8, H.out.b7, H.out.r7, H.out.b11, H.out.m4, H.out.b12, H.out.be⟩)
              obtain ⟨ti, hti, ht0, ht1, ht2⟩ := info_parts wst_info
              have HSTEP := Lib.hid (fun a => H.out.wv.step HFit.out hk (by rw [← Hi.out, ← HID.out]; exact hs) a)
              have HNEXT := Lib.hid (H.out.wv.next HFit.out hk)
              rw [← Hi.out, ← HID.out] at HSTEP HNEXT
              clear hlkS hs
              obtain ⟨A8, c8, hv8⟩ := own_form HM.out.r8
              obtain ⟨A7, c7, hv7⟩ := own_form HM.out.r7
              subst hv8 hv7
              by_cases hf : id ∈ fm
              · have hlk3 : (Instr.lookup 78 (.map (some M1)) (.int .i64 id) false).run Try.prog W = .ok (.int .i64 (placeF fm id : Nat)) W := hlkT
                have hp0 : 0 < placeF fm id := by have := hfm.2 hf; omega
                have HQ := Lib.hid (show now1 fm id now = offI id now from if_pos hf)
                have HKD := Lib.hid (show (if id ∈ fm then (3 : Int) else 2) = 3 from if_pos hf)
                rw [HQ.out] at HSTEP HNEXT
                rw [HKD.out] at HSTEP
                obtain ⟨p, hp⟩ : ∃ p, p = placeF fm id := ⟨_, rfl⟩
                rw [← hp] at hlk3 hp0 hfle
                have hp1 : (0 : Int) < (p : Int) := by omega
                obtain ⟨q, hq⟩ : ∃ q, q = offI id now := ⟨_, rfl⟩
                have hql : q.length ≤ now.length := by rw [hq]; exact List.length_filter_le _ _
                rw [← hq] at HSTEP HNEXT
                have HQD := Lib.hid hq.symm
                clear hlkT hfm hf hp hq
                by_cases hk0 : k = 0
                · have hc0 : decide ((i : Int) + 1 < (tt.length : Int)) = false := by have := Hi.out; simp; omega
                  have hc1 : ¬ (i : Int) + 1 < (tt.length : Int) := by have := Hi.out; omega
                  have HK0 := Lib.hid hk0
                  clear hk0
                  gi_wp2_with (first
                    | (refine ⟨trivial, ?_⟩; gi_at_call 45; refine (CallsIn.inRound l (callsIn_wide.2 (put_any _ we.heap.size q.length q q.length id _ HMq.out.r8 HMq.out.be.size rfl (by omega) (Nat.le_refl _)))).mono ?_; rintro e W4 ⟨A4, c4, rfl, hown4, hg4⟩; obtain ⟨hSM4, hKO4, hb4⟩ := HMq.out.now (now' := insI q q.length id) H12.out H8.out hg4 (by rw [insI_len]; exact hown4); have z8 := hb4.cell 0; have f8 := hb4.frozen 0; have x7 := hSM4.b7.cell 0; rw [← HG7.out] at x7; have HM4 := Lib.hid hSM4; have HKO4 := Lib.hid hKO4; clear hSM4 hKO4 hb4 hown4 hg4)
                    | (gi_at_builtin; refine wpListIn_append_own _ rfl _ _ 40 rfl we.heap.size 82 ti _ 3 24 Try.underlying40 hti ht0 ht1 ht2 rfl (by decide) _ st.length (st.flatMap cvW) rfl (HM4.out.r7.alloc _) _ 1 1 [.int .i64 3, .int .i64 id, .int .i64 (q.length : Nat)] rfl rfl (World.news_of_block (alloc_at _ _ _ (by simp))) (by intro u hu; simp at hu; rcases hu with rfl | rfl | rfl <;> rfl) (by unfold maxLen; omega) (by omega) (Nat.le_trans HM4.out.be.size (by simp)) ?_; intro v' w6 hown6 hg6 _; obtain ⟨g6, c6, rfl⟩ := ownsRow_succ hown6; obtain ⟨hSM5, hKO5, hb7⟩ := HM4.out.step (s := (3, id, (q.length : Nat))) hg6 (by rw [cvW_snoc, List.length_append]; exact hown6); rw [← HG7.out] at hb7; have z7 := hb7.cell 0; have f7 := hb7.frozen 0; have HM5 := Lib.hid hSM5; have HKO5 := Lib.hid hKO5; clear hSM5 hKO5 hb7 hown6 hg6)
                    | (refine ⟨trivial, ?_⟩; gi_at_call 43; refine (CallsIn.inRound l (callsIn_wide.2 (out_any _ we.heap.size now.length now id _ HM.out.r8 rfl (by omega)))).mono ?_; rintro e W2 ⟨A3, c3, rfl, hown3, hg3⟩; rw [HQD.out] at hown3 ⊢; obtain ⟨hSM2, hKO2, hb2⟩ := HM.out.now (now' := q) H12.out H8.out hg3 hown3; have z8 := hb2.cell 0; have f8 := hb2.frozen 0; have x8 := hSM2.b8.cell 0; have x3 := (HE.out.1.below hSM2.be HE.out.1.lt).cell 0; have HMq := Lib.hid hSM2; have HKO2 := Lib.hid hKO2; clear hSM2 hKO2 hb2 hown3 hg3))
                  rw [HG7.out]
                  exact ⟨(HKO2.out.trans (HKO4.out.trans HKO5.out)).from _, insI q q.length id, st ++ [((3 : Int), id, ((q.length : Nat) : Int))], _, _, ⟨HSTEP.out q.length (.inl ⟨HK0.out, rfl⟩), HM5.out.b8, HM5.out.r8, HM5.out.b7, HM5.out.r7, HM5.out.b11, HM5.out.m4, HM5.out.b12, HM5.out.be⟩⟩
                · obtain ⟨j, hj⟩ : ∃ j, j = i + 1 := ⟨_, rfl⟩
                  have hiI : (i : Int) + 1 = (j : Int) := by omega
                  have hj1 : (0 : Int) ≤ (j : Int) := by omega
                  have hj2 : (j : Int) < (tt.length : Int) := by have := Hi.out; omega
                  have HK0 := Lib.hid hk0
                  have hnx := HNEXT.out hk0
                  rw [← hj] at hnx HSTEP
                  obtain ⟨bt, ot, hA2, hbt, d0⟩ := (Nums.of_own HE.out.2.1 rfl).2 j (by omega)
                  subst hA2
                  obtain ⟨y, hy⟩ : ∃ y, y = tt.getD j 0 := ⟨_, rfl⟩
                  rw [← hy] at d0 hnx HSTEP
                  have HD0 := Lib.hid (And.intro d0 hbt)
                  have d1 := (HM.out.be.cell (p := ⟨bt, ot + j, none⟩) hbt).trans d0
                  have HNX := Lib.hid hnx
                  clear hk0 hnx hy d0 hj
                  have hwj : IntKind.i64.wrap (j : Int) = (j : Int) := by rw [IntKind.wrap_i64]; omega
                  have hmx : Try.prog.follows .mixedOrders = true := by kernel_rfl
                  gi_wp2_with ((refine ⟨trivial, ?_⟩; gi_at_call 43; refine (CallsIn.inRound l (callsIn_wide.2 (out_any _ we.heap.size now.length now id _ HM.out.r8 rfl (by omega)))).mono ?_; rintro e W2 ⟨A3, c3, rfl, hown3, hg3⟩; rw [HQD.out] at hown3 ⊢; obtain ⟨hSM2, hKO2, hb2⟩ := HM.out.now (now' := q) H12.out H8.out hg3 hown3; have z8 := hb2.cell 0; have f8 := hb2.frozen 0; have x8 := hSM2.b8.cell 0; have x3 := (HE.out.1.below hSM2.be HE.out.1.lt).cell 0; have HMq := Lib.hid hSM2; have HKO2 := Lib.hid hKO2; clear hSM2 hKO2 hb2 hown3 hg3; have d1 := (HMq.out.be.cell (p := ⟨bt, ot + j, none⟩) HD0.out.2).trans HD0.out.1))
                  have HMd := Lib.hid HMq.out.drew
                  have hqn : q.length ≤ 1000 := by omega
                  gi_region_with_o (refine ⟨trivial, ?_⟩; gi_at_call 44; refine (CallsIn.inRound l (callsIn_wide.2 (iindex_any _ q.length _ _ q y _ (Nums.of_own HMd.out.r8 rfl) hqn))).mono ?_; rintro e W3 ⟨r, rfl, hr, rfl⟩; obtain ⟨a, rfl, hal, hay⟩ := isIx_in hr HNX.out; have HAY := Lib.hid hay; clear hr hay)
                  have z8d := HMd.out.b8.cell 0
                  gi_wp2_with (first
                    | (refine ⟨trivial, ?_⟩; gi_at_call 45; refine (CallsIn.inRound l (callsIn_wide.2 (put_any _ we.heap.size q.length q a id _ HMd.out.r8 HMd.out.be.size rfl (by omega) (by omega)))).mono ?_; rintro e W4 ⟨A4, c4, rfl, hown4, hg4⟩; obtain ⟨hSM4, hKO4, hb4⟩ := HMd.out.now (now' := insI q a id) H12.out H8.out hg4 (by rw [insI_len]; exact hown4); have z8 := hb4.cell 0; have f8 := hb4.frozen 0; have x7 := hSM4.b7.cell 0; rw [← HG7.out] at x7; have HM4 := Lib.hid hSM4; have HKO4 := Lib.hid hKO4; clear hSM4 hKO4 hb4 hown4 hg4)
                    | (gi_at_builtin; refine wpListIn_append_own _ rfl _ _ 40 rfl we.heap.size 82 ti _ 3 24 Try.underlying40 hti ht0 ht1 ht2 rfl (by decide) _ st.length (st.flatMap cvW) rfl (HM4.out.r7.alloc _) _ 1 1 [.int .i64 3, .int .i64 id, .int .i64 (a : Nat)] rfl rfl (World.news_of_block (alloc_at _ _ _ (by simp))) (by intro u hu; simp at hu; rcases hu with rfl | rfl | rfl <;> rfl) (by unfold maxLen; omega) (by omega) (Nat.le_trans HM4.out.be.size (by simp)) ?_; intro v' w6 hown6 hg6 _; obtain ⟨g6, c6, rfl⟩ := ownsRow_succ hown6; obtain ⟨hSM5, hKO5, hb7⟩ := HM4.out.step (s := (3, id, (a : Nat))) hg6 (by rw [cvW_snoc, List.length_append]; exact hown6); rw [← HG7.out] at hb7; have z7 := hb7.cell 0; have f7 := hb7.frozen 0; have HM5 := Lib.hid hSM5; have HKO5 := Lib.hid hKO5; clear hSM5 hKO5 hb7 hown6 hg6))
                  all_goals (rw [HG7.out]; exact ⟨(HKO2.out.trans (((KeepsOthers.drew _).trans (HKO4.out.trans HKO5.out)))).from _, insI q a id, st ++ [((3 : Int), id, ((a : Nat) : Int))], _, _, ⟨HSTEP.out a (.inr ⟨HK0.out, hal, HAY.out⟩), HM5.out.b8, HM5.out.r8, HM5.out.b7, HM5.out.r7, HM5.out.b11, HM5.out.m4, HM5.out.b12, HM5.out.be⟩⟩)
              · have hlk3 : (Instr.lookup 78 (.map (some M1)) (.int .i64 id) false).run Try.prog W = .ok (.int .i64 0) W := by
                  have e : placeF fm id = 0 := by
                    cases h : placeF fm id with
                    | zero => rfl
                    | succ q => exact absurd (hfm.1 (by omega)) hf
                  rw [e] at hlkT
                  exact hlkT
                have HQ := Lib.hid (show now1 fm id now = now from if_neg hf)
                have HKD := Lib.hid (show (if id ∈ fm then (3 : Int) else 2) = 2 from if_neg hf)
                rw [HQ.out] at HSTEP HNEXT
                rw [HKD.out] at HSTEP
                clear hlkT hfm hf hfle
                by_cases hk0 : k = 0
                · have hc0 : decide ((i : Int) + 1 < (tt.length : Int)) = false := by have := Hi.out; simp; omega
                  have hc1 : ¬ (i : Int) + 1 < (tt.length : Int) := by have := Hi.out; omega
                  have HK0 := Lib.hid hk0
                  clear hk0
                  gi_wp2_with (first
                    | (refine ⟨trivial, ?_⟩; gi_at_call 45; refine (CallsIn.inRound l (callsIn_wide.2 (put_any _ we.heap.size now.length now now.length id _ HM.out.r8 HM.out.be.size rfl (by omega) (Nat.le_refl _)))).mono ?_; rintro e W4 ⟨A4, c4, rfl, hown4, hg4⟩; obtain ⟨hSM4, hKO4, hb4⟩ := HM.out.now (now' := insI now now.length id) H12.out H8.out hg4 (by rw [insI_len]; exact hown4); have z8 := hb4.cell 0; have f8 := hb4.frozen 0; have x7 := hSM4.b7.cell 0; rw [← HG7.out] at x7; have HM4 := Lib.hid hSM4; have HKO4 := Lib.hid hKO4; clear hSM4 hKO4 hb4 hown4 hg4)
                    | (gi_at_builtin; refine wpListIn_append_own _ rfl _ _ 40 rfl we.heap.size 82 ti _ 3 24 Try.underlying40 hti ht0 ht1 ht2 rfl (by decide) _ st.length (st.flatMap cvW) rfl (HM4.out.r7.alloc _) _ 1 1 [.int .i64 2, .int .i64 id, .int .i64 (now.length : Nat)] rfl rfl (World.news_of_block (alloc_at _ _ _ (by simp))) (by intro u hu; simp at hu; rcases hu with rfl | rfl | rfl <;> rfl) (by unfold maxLen; omega) (by omega) (Nat.le_trans HM4.out.be.size (by simp)) ?_; intro v' w6 hown6 hg6 _; obtain ⟨g6, c6, rfl⟩ := ownsRow_succ hown6; obtain ⟨hSM5, hKO5, hb7⟩ := HM4.out.step (s := (2, id, (now.length : Nat))) hg6 (by rw [cvW_snoc, List.length_append]; exact hown6); rw [← HG7.out] at hb7; have z7 := hb7.cell 0; have f7 := hb7.frozen 0; have HM5 := Lib.hid hSM5; have HKO5 := Lib.hid hKO5; clear hSM5 hKO5 hb7 hown6 hg6))
                  rw [HG7.out]
                  exact ⟨((HKO4.out.trans HKO5.out)).from _, insI now now.length id, st ++ [((2 : Int), id, ((now.length : Nat) : Int))], _, _, ⟨HSTEP.out now.length (.inl ⟨HK0.out, rfl⟩), HM5.out.b8, HM5.out.r8, HM5.out.b7, HM5.out.r7, HM5.out.b11, HM5.out.m4, HM5.out.b12, HM5.out.be⟩⟩
                · obtain ⟨j, hj⟩ : ∃ j, j = i + 1 := ⟨_, rfl⟩
                  have hiI : (i : Int) + 1 = (j : Int) := by omega
                  have hj1 : (0 : Int) ≤ (j : Int) := by omega
                  have hj2 : (j : Int) < (tt.length : Int) := by have := Hi.out; omega
                  have HK0 := Lib.hid hk0
                  have hnx := HNEXT.out hk0
                  rw [← hj] at hnx HSTEP
                  obtain ⟨bt, ot, hA2, hbt, d0⟩ := (Nums.of_own HE.out.2.1 rfl).2 j (by omega)
                  subst hA2
                  obtain ⟨y, hy⟩ : ∃ y, y = tt.getD j 0 := ⟨_, rfl⟩
                  rw [← hy] at d0 hnx HSTEP
                  have HD0 := Lib.hid (And.intro d0 hbt)
                  have d1 := (HM.out.be.cell (p := ⟨bt, ot + j, none⟩) hbt).trans d0
                  have HNX := Lib.hid hnx
                  clear hk0 hnx hy d0 hj
                  have hwj : IntKind.i64.wrap (j : Int) = (j : Int) := by rw [IntKind.wrap_i64]; omega
                  have hmx : Try.prog.follows .mixedOrders = true := by kernel_rfl
                  gi_wp2
                  have HMd := Lib.hid HM.out.drew
                  have hqn : now.length ≤ 1000 := by omega
                  gi_region_with_o (refine ⟨trivial, ?_⟩; gi_at_call 44; refine (CallsIn.inRound l (callsIn_wide.2 (iindex_any _ now.length _ _ now y _ (Nums.of_own HMd.out.r8 rfl) hqn))).mono ?_; rintro e W3 ⟨r, rfl, hr, rfl⟩; obtain ⟨a, rfl, hal, hay⟩ := isIx_in hr HNX.out; have HAY := Lib.hid hay; clear hr hay)
                  have z8d := HMd.out.b8.cell 0
                  gi_wp2_with (first
                    | (refine ⟨trivial, ?_⟩; gi_at_call 45; refine (CallsIn.inRound l (callsIn_wide.2 (put_any _ we.heap.size now.length now a id _ HMd.out.r8 HMd.out.be.size rfl (by omega) (by omega)))).mono ?_; rintro e W4 ⟨A4, c4, rfl, hown4, hg4⟩; obtain ⟨hSM4, hKO4, hb4⟩ := HMd.out.now (now' := insI now a id) H12.out H8.out hg4 (by rw [insI_len]; exact hown4); have z8 := hb4.cell 0; have f8 := hb4.frozen 0; have x7 := hSM4.b7.cell 0; rw [← HG7.out] at x7; have HM4 := Lib.hid hSM4; have HKO4 := Lib.hid hKO4; clear hSM4 hKO4 hb4 hown4 hg4)
                    | (gi_at_builtin; refine wpListIn_append_own _ rfl _ _ 40 rfl we.heap.size 82 ti _ 3 24 Try.underlying40 hti ht0 ht1 ht2 rfl (by decide) _ st.length (st.flatMap cvW) rfl (HM4.out.r7.alloc _) _ 1 1 [.int .i64 2, .int .i64 id, .int .i64 (a : Nat)] rfl rfl (World.news_of_block (alloc_at _ _ _ (by simp))) (by intro u hu; simp at hu; rcases hu with rfl | rfl | rfl <;> rfl) (by unfold maxLen; omega) (by omega) (Nat.le_trans HM4.out.be.size (by simp)) ?_; intro v' w6 hown6 hg6 _; obtain ⟨g6, c6, rfl⟩ := ownsRow_succ hown6; obtain ⟨hSM5, hKO5, hb7⟩ := HM4.out.step (s := (2, id, (a : Nat))) hg6 (by rw [cvW_snoc, List.length_append]; exact hown6); rw [← HG7.out] at hb7; have z7 := hb7.cell 0; have f7 := hb7.frozen 0; have HM5 := Lib.hid hSM5; have HKO5 := Lib.hid hKO5; clear hSM5 hKO5 hb7 hown6 hg6))
                  all_goals (rw [HG7.out]; exact ⟨((((KeepsOthers.drew _).trans (HKO4.out.trans HKO5.out)))).from _, insI now a id, st ++ [((2 : Int), id, ((a : Nat) : Int))], _, _, ⟨HSTEP.out a (.inr ⟨HK0.out, hal, HAY.out⟩), HM5.out.b8, HM5.out.r8, HM5.out.b7, HM5.out.r7, HM5.out.b11, HM5.out.m4, HM5.out.b12, HM5.out.be⟩⟩)
          case done =>
            rintro D W hD ⟨now, st, v8, v7, h⟩ hK
            obtain ⟨A7, c7, hv7⟩ := own_form h.r7
            subst hv7
            have y7 := h.b7.cell 0
            rw [← HG7.out] at y7
            have hc : ∀ r, some D = some r → ∃ o : Obj, W.heap[r]? = some o ∧ o.isCells = false := by
              rintro r e
              cases e
              exact ⟨_, hK, rfl⟩
            have HR := Lib.hid (show StepsPost w fm tt (.returned (.slice A7 st.length c7)) (W.putObj D (.deferred none)) from by
              have hw := h.wv
              rw [h.wv.fin HFit.out] at hw
              have hb := h.be.grown (grownBy_putObj' W D (.deferred none)) h.be.size (fun r e => by cases e; exact Nat.le_trans HM4.out.2 hD)
              exact ⟨st, R, A7, c7, HLis.out, hw, rfl, own_base (h.r7.kept (grownBy_putObj' W D (.deferred none)) (row_cells h.r7 hc)) HBw.out.size, HBw.out.trans (hb.mono HBw.out.size)⟩)
            clear h hc
            go_wp2_with fail
            refine ⟨by simp, .inl ⟨_, _, rfl, run_takeDeferred hK, ?_⟩⟩
            refine ⟨_, ?_, HR.out⟩
            simp [results, Try.f21, go_sem]

end Go.Proofs.Ytgopokoghnfgiaa
