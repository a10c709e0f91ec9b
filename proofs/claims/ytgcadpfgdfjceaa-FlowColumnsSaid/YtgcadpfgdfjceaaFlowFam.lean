/-
  Words for the document's Flow: a list of lists that the call itself makes, beside its list of sizes.
-/
import Derived.Test.YtgcadpfgdfjceaaFlowPlace
namespace Go.Proofs.Ytgcadpfgdfjceaa
open Go.RowKit

def nums (l : List Nat) : List Value := l.map fun i => .int .i64 (i : Nat)

theorem own_own_ne {w : World} {b1 b2 : Nat} {e1 e2 : TypeId} {s1 s2 n1 n2 : Nat} {v1 v2 : Value} {x1 x2 : List Value} (h1 : w.ownsRow b1 e1 s1 v1 n1 x1) (h2 : w.ownsRow b2 e2 s2 v2 n2 x2) (hne : e1 ≠ e2) : v1.ownBlock = none ∨ v1.ownBlock ≠ v2.ownBlock := by
  rcases h2.2 with ⟨rfl, _⟩ | ⟨g, cap, cur, rfl, _, hh, _⟩
  · cases hv : v1.ownBlock
    · exact .inl rfl
    · right; simp [Value.ownBlock]
  · exact .inr (own_blk_ne (g := g) h1 hh hne)

/-- A family of lists that the call itself made. -/
structure Fam (wx : World) (base : Nat) (vs : List Value) (rows : List (List Nat)) : Prop where
  len : vs.length = rows.length
  each : ∀ (j : Nat) (v : Value), vs[j]? = some v → wx.ownsRow base 3 1 v (rows.getD j []).length (nums (rows.getD j []))
  apart : ∀ (i j : Nat) (u v : Value), vs[i]? = some u → vs[j]? = some v → i ≠ j → u.ownBlock = none ∨ u.ownBlock ≠ v.ownBlock

section
variable {wx wy : World} {base : Nat} {vs : List Value} {rows : List (List Nat)}
theorem Fam.nil (wx : World) (base : Nat) : Fam wx base [] [] := ⟨rfl, fun j v h => by simp at h, fun i j u v h => by simp at h⟩
theorem Fam.kept {row : Option Nat} (f : Fam wx base vs rows) (hg : wx.grownBy wy row) (hne : ∀ (j : Nat) (v : Value), vs[j]? = some v → v.ownBlock = none ∨ v.ownBlock ≠ row) : Fam wy base vs rows :=
  ⟨f.len, fun j v h => (f.each j v h).kept hg (hne j v h), f.apart⟩
theorem Fam.keep (f : Fam wx base vs rows) (hb : Below wx.heap.size wx wy) : Fam wy base vs rows :=
  f.kept (only_of_below hb none) fun _ _ _ => by simp [Classical.em]
theorem Fam.far {s : Nat} {t : TypeId} {cs : Array Value} (f : Fam wx base vs rows) (hs : Blk wx s t cs) (ht : 3 ≠ t) (hg : wx.grownBy wy (some s)) : Fam wy base vs rows :=
  f.kept hg fun j v h => .inr (own_blk_ne (f.each j v h) hs ht)
theorem Fam.other {b2 : Nat} {e : TypeId} {sz n : Nat} {u : Value} {xs : List Value} (f : Fam wx base vs rows) (hu : wx.ownsRow b2 e sz u n xs) (he : 3 ≠ e) (hg : wx.grownBy wy u.ownBlock) : Fam wy base vs rows :=
  f.kept hg fun j v h => own_own_ne (f.each j v h) hu he
theorem Fam.push {u : Value} (f : Fam wx base vs rows) (hu : wx.ownsRow base 3 1 u 0 []) (hn : ∀ (j : Nat) (v : Value), vs[j]? = some v → (v.ownBlock = none ∨ v.ownBlock ≠ u.ownBlock) ∧ (u.ownBlock = none ∨ u.ownBlock ≠ v.ownBlock)) :
    Fam wx base (vs ++ [u]) (rows ++ [[]]) := by
  have hl := f.len
  refine ⟨by simp [hl], fun j v h => ?_, fun i j a b ha hb hij => ?_⟩
  · by_cases hj : j < vs.length
    · rw [List.getElem?_append_left hj] at h
      have := f.each j v h
      have e : (rows ++ [[]]).getD j [] = rows.getD j [] := by simp [List.getD, List.getElem?_append_left (show j < rows.length by omega)]
      rw [e]; exact this
    · have hj' : j = vs.length := by
        have := (List.getElem?_eq_some_iff.1 h).1
        simp at this; omega
      subst hj'
      simp at h
      subst h
      have e : (rows ++ [[]]).getD vs.length [] = [] := by rw [hl]; simp [List.getD]
      rw [e]; exact hu
  · by_cases hi : i < vs.length
    · rw [List.getElem?_append_left hi] at ha
      by_cases hj : j < vs.length
      · rw [List.getElem?_append_left hj] at hb
        exact f.apart i j a b ha hb hij
      · have hj' : j = vs.length := by
          have := (List.getElem?_eq_some_iff.1 hb).1
          simp at this; omega
        subst hj'
        simp at hb
        subst hb
        exact (hn i a ha).1
    · have hi' : i = vs.length := by
        have := (List.getElem?_eq_some_iff.1 ha).1
        simp at this; omega
      subst hi'
      simp at ha
      subst ha
      have hj : j < vs.length := by
        have := (List.getElem?_eq_some_iff.1 hb).1
        simp at this; omega
      rw [List.getElem?_append_left hj] at hb
      exact (hn j b hb).2
/-- The last list has grown. -/
theorem Fam.last {u u' : Value} {l : List Nat} {i : Nat} {vs0 : List Value} {rows0 : List (List Nat)} (f : Fam wx base (vs0 ++ [u]) (rows0 ++ [l])) (hg : wx.grownBy wy u.ownBlock)
    (hu : wy.ownsRow base 3 1 u' (l.length + 1) (nums l ++ [.int .i64 (i : Nat)])) (hat : u'.ownBlock = u.ownBlock ∨ ∀ b, u'.ownBlock = some b → wx.heap.size ≤ b) : Fam wy base (vs0 ++ [u']) (rows0 ++ [l ++ [i]]) := by
  have hl : vs0.length = rows0.length := by have := f.len; simp at this; exact this
  have hlast : (vs0 ++ [u])[vs0.length]? = some u := by simp
  have old : ∀ (j : Nat) (v : Value), vs0[j]? = some v → v.ownBlock = none ∨ v.ownBlock ≠ u.ownBlock := fun j v h =>
    f.apart j vs0.length v u (by rw [List.getElem?_append_left (List.getElem?_eq_some_iff.1 h).1]; exact h) hlast (by have := (List.getElem?_eq_some_iff.1 h).1; omega)
  have old' : ∀ (j : Nat) (v : Value), vs0[j]? = some v → u.ownBlock = none ∨ u.ownBlock ≠ v.ownBlock := fun j v h =>
    f.apart vs0.length j u v hlast (by rw [List.getElem?_append_left (List.getElem?_eq_some_iff.1 h).1]; exact h) (by have := (List.getElem?_eq_some_iff.1 h).1; omega)
  have oldown : ∀ (j : Nat) (v : Value), vs0[j]? = some v → wx.ownsRow base 3 1 v (rows0.getD j []).length (nums (rows0.getD j [])) := fun j v h => by
    have hj := (List.getElem?_eq_some_iff.1 h).1
    have := f.each j v (by rw [List.getElem?_append_left hj]; exact h)
    have e : (rows0 ++ [l]).getD j [] = rows0.getD j [] := by simp [List.getD, List.getElem?_append_left (show j < rows0.length by omega)]
    rwa [e] at this
  have far : ∀ (j : Nat) (v : Value), vs0[j]? = some v → (v.ownBlock = none ∨ v.ownBlock ≠ u'.ownBlock) ∧ (u'.ownBlock = none ∨ u'.ownBlock ≠ v.ownBlock) := fun j v h => by
    rcases hat with hat | hat
    · rw [hat]; exact ⟨old j v h, old' j v h⟩
    · have hlt := (oldown j v h).lt
      constructor
      · cases hv : v.ownBlock with
        | none => exact .inl rfl
        | some b => exact .inr fun e => by have := hat b e.symm; have := (hlt b hv).2; omega
      · cases hv : u'.ownBlock with
        | none => exact .inl rfl
        | some b => exact .inr fun e => by have := hat b hv; have := (hlt b e.symm).2; omega
  refine ⟨by simp [hl], fun j v h => ?_, fun i2 j a b ha hb hij => ?_⟩
  · by_cases hj : j < vs0.length
    · rw [List.getElem?_append_left hj] at h
      have e : (rows0 ++ [l ++ [i]]).getD j [] = rows0.getD j [] := by simp [List.getD, List.getElem?_append_left (show j < rows0.length by omega)]
      rw [e]
      exact (oldown j v h).kept hg (old j v h)
    · have hj' : j = vs0.length := by
        have := (List.getElem?_eq_some_iff.1 h).1
        simp at this; omega
      subst hj'
      simp at h
      subst h
      have e : (rows0 ++ [l ++ [i]]).getD vs0.length [] = l ++ [i] := by rw [hl]; simp [List.getD]
      rw [e]
      simpa [nums] using hu
  · by_cases hi : i2 < vs0.length
    · rw [List.getElem?_append_left hi] at ha
      by_cases hj : j < vs0.length
      · rw [List.getElem?_append_left hj] at hb
        exact f.apart i2 j a b (by rw [List.getElem?_append_left hi]; exact ha) (by rw [List.getElem?_append_left hj]; exact hb) hij
      · have hj' : j = vs0.length := by
          have := (List.getElem?_eq_some_iff.1 hb).1
          simp at this; omega
        subst hj'
        simp at hb
        subst hb
        exact (far i2 a ha).1
    · have hi' : i2 = vs0.length := by
        have := (List.getElem?_eq_some_iff.1 ha).1
        simp at this; omega
      subst hi'
      simp at ha
      subst ha
      have hj : j < vs0.length := by
        have := (List.getElem?_eq_some_iff.1 hb).1
        simp at this; omega
      rw [List.getElem?_append_left hj] at hb
      exact (far j b hb).2
end

/-- In the midst of Flow. -/
structure Fl (w wx : World) (v : Value) (m : Nat) (sz : List Value) (u : Value) (vs : List Value) (rows : List (List Nat)) : Prop where
  res : Blk wx w.heap.size 43 #[.int .i64 0, .int .i64 0]
  sizes : wx.ownsRow (w.heap.size + 1) 43 2 v m sz
  rws : wx.ownsRow (w.heap.size + 1) 30 1 u rows.length vs
  fam : Fam wx (w.heap.size + 1) vs rows
  below : Below w.heap.size w wx

section
variable {w wx wy wz : World} {v v' : Value} {m : Nat} {sz : List Value} {u u' : Value} {vs : List Value} {rows : List (List Nat)}
theorem Fl.size (f : Fl w wx v m sz u vs rows) : w.heap.size < wx.heap.size := f.res.lt
theorem Fl.keep (f : Fl w wx v m sz u vs rows) (hb : Below wx.heap.size wx wy) : Fl w wy v m sz u vs rows :=
  ⟨f.res.below hb f.res.lt, f.sizes.kept (only_of_below hb none) (by simp [Classical.em]), f.rws.kept (only_of_below hb none) (by simp [Classical.em]), f.fam.keep hb, f.below.trans (hb.mono (Nat.le_of_lt f.size))⟩
theorem Fl.alloc (f : Fl w wx v m sz u vs rows) (o : Obj) : Fl w (wx.alloc o) v m sz u vs rows := f.keep ((Below.refl _ _).alloc (Nat.le_refl _) o)
theorem Fl.drew (f : Fl w wx v m sz u vs rows) : Fl w wx.drew v m sz u vs rows := ⟨f.res, f.sizes, f.rws, ⟨f.fam.len, f.fam.each, f.fam.apart⟩, f.below.drew⟩
/-- A store into a box. -/
theorem Fl.set_ {s : Nat} {cs : Array Value} (f : Fl w wx v m sz u vs rows) (hs : Blk wx s 43 cs) (hlt : w.heap.size < s) (hv : v.ownBlock ≠ some s) (i : Nat) (a : Value) : Fl w (wx.setCell ⟨s, i, none⟩ a) v m sz u vs rows :=
  have hg : wx.grownBy (wx.setCell ⟨s, i, none⟩ a) (some s) := only_set (World.grownBy.refl wx _) i a
  ⟨f.res.far (p := ⟨s, i, none⟩) (Nat.ne_of_lt hlt) a, f.sizes.kept hg (.inr hv), f.rws.kept hg (.inr (own_blk_ne f.rws hs (by decide))), f.fam.far hs (by decide) hg, f.below.setCell (Nat.le_of_lt hlt) a⟩
/-- One size more. -/
theorem Fl.sized {a b : Int} (f : Fl w wx v m sz u vs rows) (o : Obj) (hown : wz.ownsRow (w.heap.size + 1) 43 2 v' (m + 1) (sz ++ [.int .i64 a, .int .i64 b])) (hg : (wx.alloc o).grownBy wz v.ownBlock) :
    Fl w wz v' (m + 1) (sz ++ [.int .i64 a, .int .i64 b]) u vs rows := by
  have f1 := f.alloc o
  have hs := f1.size
  refine ⟨f1.res.grown hg (fun e => ?_), hown, f1.rws.kept hg (own_own_ne f1.rws f1.sizes (by decide)), f1.fam.other f1.sizes (by decide) hg, f1.below.grown hg (Nat.le_of_lt hs) (fun k hk => ?_)⟩
  · have := (f1.sizes.lt _ e.symm).1; omega
  · have := (f1.sizes.lt k hk).1; omega
/-- A new row begins. -/
theorem Fl.newrow (f : Fl w wx v m sz u vs rows) (o : Obj) (hown : wz.ownsRow (w.heap.size + 1) 30 1 u' (rows.length + 1) (vs ++ [.slice (some ⟨wx.heap.size, 0, none⟩) 0 0]))
    (hg : ((wx.alloc (.cells #[] 3)).alloc o).grownBy wz u.ownBlock) : Fl w wz v m sz u' (vs ++ [.slice (some ⟨wx.heap.size, 0, none⟩) 0 0]) (rows ++ [[]]) := by
  have f1 := (f.alloc (.cells #[] 3)).alloc o
  have hs := f.size
  have hnew : ((wx.alloc (.cells #[] 3)).alloc o).ownsRow (w.heap.size + 1) 3 1 (.slice (some ⟨wx.heap.size, 0, none⟩) 0 0) 0 [] := (World.ownsRow_made wx #[] 0 (by omega) (Nat.zero_le _) rfl).alloc o
  have hf : Fam ((wx.alloc (.cells #[] 3)).alloc o) (w.heap.size + 1) (vs ++ [.slice (some ⟨wx.heap.size, 0, none⟩) 0 0]) (rows ++ [[]]) := by
    refine f1.fam.push hnew fun j x hx => ?_
    have hlt := (f.fam.each j x hx).lt
    constructor
    · cases hb : x.ownBlock with
      | none => exact .inl rfl
      | some b =>
        right
        intro e
        have h1 := (hlt b hb).2
        have h2 : b = wx.heap.size := by simpa [Value.ownBlock] using e
        omega
    · right
      intro e
      have h1 := (hlt wx.heap.size e.symm).2
      omega
  refine ⟨f1.res.grown hg (fun e => own_blk_ne f1.rws f1.res (by decide) e.symm), f1.sizes.kept hg (own_own_ne f1.sizes f1.rws (by decide)), by simpa using hown, hf.other f1.rws (by decide) hg, f1.below.grown hg (Nat.le_of_lt f1.size) (fun k hk => ?_)⟩
  have := (f1.rws.lt k hk).1; omega
/-- The last row has grown by a number. -/
theorem Fl.grown {g c : Nat} {x x' : Value} {l : List Nat} {i : Nat} {vs0 : List Value} {rows0 : List (List Nat)} (f : Fl w wx v m sz (.slice (some ⟨g, 0, none⟩) (rows0.length + 1) c) (vs0 ++ [x]) (rows0 ++ [l])) (o : Obj)
    (hown : wz.ownsRow (w.heap.size + 1) 3 1 x' (l.length + 1) (nums l ++ [.int .i64 (i : Nat)])) (hg : (wx.alloc o).grownBy wz x.ownBlock) (hat : x'.ownBlock = x.ownBlock ∨ x'.ownBlock = some (wx.alloc o).heap.size) :
    wz.cell? ⟨g, rows0.length, none⟩ = some x ∧ wz.frozen? ⟨g, rows0.length, none⟩ = false ∧
    Fl w (wz.setCell ⟨g, rows0.length, none⟩ x') v m sz (.slice (some ⟨g, 0, none⟩) (rows0.length + 1) c) (vs0 ++ [x']) (rows0 ++ [l ++ [i]]) := by
  have f1 := f.alloc o
  have hs := f1.size
  have hl : vs0.length = rows0.length := by have := f.fam.len; simp at this; exact this
  have hx := f1.fam.each vs0.length x (by simp)
  have hr0 := f1.rws
  rw [show (rows0 ++ [l]).length = rows0.length + 1 by simp] at hr0
  have hr := hr0.kept hg (own_own_ne hr0 hx (by decide))
  have hst := hr.stored rows0.length x'
  have hset : (vs0 ++ [x]).set rows0.length x' = vs0 ++ [x'] := by rw [← hl]; simp
  rw [hset] at hst
  have fam2 := f1.fam.last hg hown (by
    rcases hat with h | h
    · exact .inl h
    · exact .inr fun b hb => by rw [h] at hb; injection hb with hb; omega)
  have hsz := f1.sizes.kept hg (own_own_ne f1.sizes hx (by decide))
  have hrs := f1.res.grown hg (fun e => own_blk_ne hx f1.res (by decide) e.symm)
  refine ⟨?_, hr.frozenAt _, hrs.far (p := ⟨g, rows0.length, none⟩) (fun e => own_blk_ne hr hrs (by decide) (by rw [e]; rfl)) _, hsz.kept hst.2 (by
      have := own_own_ne hsz hr (by decide)
      simpa [Value.ownBlock] using this), by simpa using hst.1, fam2.other hr (by decide) hst.2, ?_⟩
  · rw [hr.cellAt _ (by omega), ← hl]; simp
  · refine (f1.below.grown hg (Nat.le_of_lt hs) (fun k hk => ?_)).setCell (p := ⟨g, rows0.length, none⟩) ?_ _
    · have := (hx.lt k hk).1; omega
    · have := (hr.lt g rfl).1; show w.heap.size ≤ g; omega
end

end Go.Proofs.Ytgcadpfgdfjceaa
