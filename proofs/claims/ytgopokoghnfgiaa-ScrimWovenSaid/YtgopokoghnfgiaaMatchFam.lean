/-
  Words for Pair: a map of names to blocks, each with a list of numbers that the call itself makes.
-/
import Derived.Test.YtgopokoghnfgiaaMatchTake
namespace Go.Proofs.Ytgopokoghnfgiaa
open Go.RowKit

abbrev Qm := Nm → Option (Nat × Value)
def qP (q : Qm) : Nm → Option Nat := fun x => (q x).map (·.1)
def setQ (q : Qm) (x : Nm) (p : Nat) (v : Value) : Qm := fun y => if y = x then some (p, v) else q y
theorem setQ_same (q : Qm) (x : Nm) (p : Nat) (v : Value) : setQ q x p v x = some (p, v) := if_pos rfl
theorem setQ_other {q : Qm} {x y : Nm} {p : Nat} {v : Value} (h : y ≠ x) : setQ q x p v y = q y := if_neg h
theorem qP_setQ (q : Qm) (x : Nm) (p : Nat) (v : Value) : qP (setQ q x p v) = setN (qP q) x p := by
  funext y
  by_cases h : y = x
  · simp [qP, setQ, setN, h]
  · simp [qP, setQ, setN, h]
theorem qP_set_same {q : Qm} {x : Nm} {p : Nat} {v v' : Value} (h : q x = some (p, v)) : qP (setQ q x p v') = qP q := by
  funext y
  by_cases e : y = x
  · subst e; simp [qP, setQ, h]
  · simp [qP, setQ, e]

/-- The first loop's memory. N: the slice of names. -/
structure Fr (base : Nat) (w wx : World) (M : Nat) (q : Qm) (L : Nm → List Nat) (k : Nat) (N : Value) (nn : Nat) (ns : List Value) : Prop where
  map : PM wx M k (qP q)
  mB : base ≤ M
  none_ : ∀ x, q x = none → L x = []
  blk : ∀ x P v, q x = some (P, v) → base ≤ P ∧ Blk wx P 74 #[v] ∧ wx.ownsRow base 3 1 v (L x).length (nums (nI (L x)))
  apart : ∀ x y P v P' v', q x = some (P, v) → q y = some (P', v') → x ≠ y → P ≠ P' ∧ (v.ownBlock = none ∨ v.ownBlock ≠ v'.ownBlock)
  names : wx.ownsRow base 71 3 N nn ns
  size : base ≤ w.heap.size
  below : Below base w wx

theorem blk_not_map {w : World} {g : Nat} {t : TypeId} {cs : Array Value} {M n : Nat} {q : Nm → Option Nat} (h : Blk w g t cs) (hM : PM w M n q) : g ≠ M := by
  rintro rfl
  obtain ⟨D, ⟨es, c, h1, _⟩, _⟩ := hM
  unfold Blk at h
  rw [h] at h1
  cases h1
theorem own_not_map {w : World} {base : Nat} {e : TypeId} {size n : Nat} {v : Value} {xs : List Value} {M m : Nat} {q : Nm → Option Nat} (h : w.ownsRow base e size v n xs) (hM : PM w M m q) : v.ownBlock ≠ some M := by
  rcases h.2 with ⟨rfl, _⟩ | ⟨g', cap, cur, rfl, _, hh, _⟩
  · simp [Value.ownBlock]
  · intro he
    have : g' = M := by simpa [Value.ownBlock] using he
    subst this
    obtain ⟨D, ⟨es, c, h1, _⟩, _⟩ := hM
    rw [hh] at h1
    cases h1

section
variable {base : Nat} {w wx wy wz : World} {M : Nat} {q : Qm} {L : Nm → List Nat} {k : Nat} {N : Value} {nn : Nat} {ns : List Value}
theorem Fr.kept {row : Option Nat} (f : Fr base w wx M q L k N nn ns) (hg : wx.grownBy wy row) (hM : some M ≠ row) (hP : ∀ x P v, q x = some (P, v) → some P ≠ row ∧ (v.ownBlock = none ∨ v.ownBlock ≠ row)) (hN : N.ownBlock = none ∨ N.ownBlock ≠ row) (hr : ∀ j, row = some j → base ≤ j) :
    Fr base w wy M q L k N nn ns :=
  ⟨f.map.kept hg hM, f.mB, f.none_, fun x P v h => by
    obtain ⟨h1, h2, h3⟩ := f.blk x P v h
    exact ⟨h1, h2.grown hg (hP x P v h).1, h3.kept hg (hP x P v h).2⟩, f.apart, f.names.kept hg hN, f.size, f.below.grown hg (Nat.le_trans f.size f.below.size) hr⟩
theorem Fr.keep (f : Fr base w wx M q L k N nn ns) (hb : Below wx.heap.size wx wy) : Fr base w wy M q L k N nn ns :=
  f.kept (only_of_below hb none) (by simp) (fun _ _ _ _ => by simp [Classical.em]) (by simp [Classical.em]) (fun j h => by cases h)
theorem Fr.alloc (f : Fr base w wx M q L k N nn ns) (o : Obj) : Fr base w (wx.alloc o) M q L k N nn ns := f.keep ((Below.refl _ _).alloc (Nat.le_refl _) o)
theorem Fr.drew (f : Fr base w wx M q L k N nn ns) : Fr base w wx.drew M q L k N nn ns := f.keep ((Below.refl _ _).drew)
theorem Fr.wsize (f : Fr base w wx M q L k N nn ns) : base ≤ wx.heap.size := Nat.le_trans f.size f.below.size
/-- A name that is new. -/
theorem Fr.new (f : Fr base w wx M q L k N nn ns) (x : Nm) (hq : q x = none) (hp : PM wy M (k + 1) (setN (qP q) x wx.heap.size)) (hg : (wx.alloc (.cells #[.slice none 0 0] 74)).grownBy wy (some M)) :
    Fr base w wy M (setQ q x wx.heap.size (.slice none 0 0)) L (k + 1) N nn ns := by
  have f1 := f.alloc (.cells #[.slice none 0 0] 74)
  have hb : Blk wy wx.heap.size 74 #[.slice none 0 0] := (Blk.new wx _ _).grown hg (by have := f.map.lt; simp; omega)
  refine ⟨by rw [qP_setQ]; exact hp, f.mB, fun y hy => ?_, fun y P v h => ?_, fun y z P v P' v' h h' hne => ?_, f1.names.kept hg (.inr (own_not_map f1.names f1.map)), f.size, f1.below.grown hg f1.wsize (fun j hj => by cases hj; exact f.mB)⟩
  · by_cases e : y = x
    · rw [e, setQ_same] at hy; cases hy
    · rw [setQ_other e] at hy; exact f.none_ y hy
  · by_cases e : y = x
    · subst e
      rw [setQ_same] at h
      injection h with h
      injection h with h1 h2
      subst h1 h2
      rw [f.none_ y hq]
      exact ⟨f.wsize, hb, World.ownsRow_nil _ _ _ _⟩
    · rw [setQ_other e] at h
      obtain ⟨h1, h2, h3⟩ := f1.blk y P v h
      exact ⟨h1, h2.grown hg (by have := blk_not_map h2 f1.map; simpa using this), h3.kept hg (.inr (own_not_map h3 f1.map))⟩
  · by_cases e : y = x
    · by_cases e' : z = x
      · exact absurd (e.trans e'.symm) hne
      · rw [e, setQ_same] at h
        rw [setQ_other e'] at h'
        injection h with h
        injection h with h1 h2
        subst h1 h2
        have := (f.blk z P' v' h').2.1.lt
        exact ⟨by omega, .inl rfl⟩
    · by_cases e' : z = x
      · rw [setQ_other e] at h
        rw [e', setQ_same] at h'
        injection h' with h'
        injection h' with h1 h2
        subst h1 h2
        have := (f.blk y P v h).2.1.lt
        exact ⟨by omega, by cases hv : v.ownBlock <;> simp [Value.ownBlock]⟩
      · rw [setQ_other e] at h
        rw [setQ_other e'] at h'
        exact f.apart y z P v P' v' h h' hne
/-- The last place, and the block's own cell. -/
theorem Fr.cells (f : Fr base w wx M q L k N nn ns) {x : Nm} {P : Nat} {v : Value} (h : q x = some (P, v)) : wx.cell? ⟨P, 0, none⟩ = some v ∧ wx.frozen? ⟨P, 0, none⟩ = false :=
  ⟨(f.blk x P v h).2.1.cell 0, (f.blk x P v h).2.1.frozen 0⟩
/-- A list has grown, and is not laid back yet. -/
structure Gr (base : Nat) (w wx : World) (M : Nat) (q : Qm) (L : Nm → List Nat) (k : Nat) (N : Value) (nn : Nat) (ns : List Value) (x : Nm) (P : Nat) (v v' : Value) (i : Nat) : Prop where
  map : PM wx M k (qP q)
  mB : base ≤ M
  none_ : ∀ x, q x = none → L x = []
  pB : base ≤ P
  blkX : Blk wx P 74 #[v]
  own : wx.ownsRow base 3 1 v' ((L x).length + 1) (nums (nI (L x)) ++ [.int .i64 (i : Nat)])
  blk : ∀ y P' u, q y = some (P', u) → y ≠ x → base ≤ P' ∧ Blk wx P' 74 #[u] ∧ wx.ownsRow base 3 1 u (L y).length (nums (nI (L y)))
  apart : ∀ y z P v P' v', q y = some (P, v) → q z = some (P', v') → y ≠ z → P ≠ P' ∧ (v.ownBlock = none ∨ v.ownBlock ≠ v'.ownBlock)
  far : ∀ y P' u, q y = some (P', u) → y ≠ x → P' ≠ P ∧ (u.ownBlock = none ∨ u.ownBlock ≠ v'.ownBlock) ∧ (v'.ownBlock = none ∨ v'.ownBlock ≠ u.ownBlock)
  names : wx.ownsRow base 71 3 N nn ns
  size : base ≤ w.heap.size
  below : Below base w wx
theorem Fr.grown (f : Fr base w wx M q L k N nn ns) {x : Nm} {P : Nat} {v v' : Value} {i : Nat} (h : q x = some (P, v)) (hg : wx.grownBy wy v.ownBlock)
    (hown : wy.ownsRow base 3 1 v' ((L x).length + 1) (nums (nI (L x)) ++ [.int .i64 (i : Nat)])) (hat : v'.ownBlock = v.ownBlock ∨ ∀ b, v'.ownBlock = some b → wx.heap.size ≤ b) : Gr base w wy M q L k N nn ns x P v v' i := by
  obtain ⟨p1, p2, p3⟩ := f.blk x P v h
  refine ⟨f.map.kept hg (fun e => own_not_map p3 f.map e.symm), f.mB, f.none_, p1, p2.grown hg (fun e => own_blk_ne p3 p2 (by decide) e.symm), hown, fun y P' u hy hne => ?_, f.apart, fun y P' u hy hne => ?_, f.names.kept hg (own_own_ne f.names p3 (by decide)), f.size, f.below.grown hg f.wsize (fun j hj => (p3.lt j hj).1)⟩
  · obtain ⟨y1, y2, y3⟩ := f.blk y P' u hy
    exact ⟨y1, y2.grown hg (fun e => own_blk_ne p3 y2 (by decide) e.symm), y3.kept hg (f.apart y x P' u P v hy h hne).2⟩
  · obtain ⟨y1, y2, y3⟩ := f.blk y P' u hy
    refine ⟨(f.apart y x P' u P v hy h hne).1, ?_⟩
    rcases hat with hat | hat
    · rw [hat]
      exact ⟨(f.apart y x P' u P v hy h hne).2, (f.apart x y P v P' u h hy hne.symm).2⟩
    · constructor
      · cases hv : u.ownBlock with
        | none => exact .inl rfl
        | some b => exact .inr fun e => by have := hat b e.symm; have := (y3.lt b hv).2; omega
      · cases hv : v'.ownBlock with
        | none => exact .inl rfl
        | some b => exact .inr fun e => by have := hat b hv; have := (y3.lt b e.symm).2; omega
theorem Gr.cell {x : Nm} {P : Nat} {v v' : Value} {i : Nat} (g : Gr base w wx M q L k N nn ns x P v v' i) : wx.cell? ⟨P, 0, none⟩ = some v ∧ wx.frozen? ⟨P, 0, none⟩ = false := ⟨g.blkX.cell 0, g.blkX.frozen 0⟩
theorem Gr.back {x : Nm} {P : Nat} {v v' : Value} {i : Nat} (g : Gr base w wx M q L k N nn ns x P v v' i) (hq : q x = some (P, v)) {L' : Nm → List Nat} (hx : L' x = L x ++ [i]) (ho : ∀ y, y ≠ x → L' y = L y) :
    Fr base w (wx.setCell ⟨P, 0, none⟩ v') M (setQ q x P v') L' k N nn ns := by
  have hg : wx.grownBy (wx.setCell ⟨P, 0, none⟩ v') (some P) := only_set (World.grownBy.refl wx _) 0 v'
  refine ⟨by rw [qP_set_same hq]; exact g.map.kept hg (by have := blk_not_map g.blkX g.map; simp; omega), g.mB, fun y hy => ?_, fun y P' u hy => ?_, fun y z P1 v1 P2 v2 h1 h2 hne => ?_, g.names.kept hg (.inr (own_blk_ne g.names g.blkX (by decide))), g.size, g.below.setCell g.pB _⟩
  · by_cases e : y = x
    · rw [e, setQ_same] at hy; cases hy
    · rw [setQ_other e] at hy; rw [ho y e]; exact g.none_ y hy
  · by_cases e : y = x
    · subst e
      rw [setQ_same] at hy
      injection hy with hy
      injection hy with e1 e2
      subst e1 e2
      refine ⟨g.pB, g.blkX.set_ 0 _, ?_⟩
      rw [hx, List.length_append]
      have := g.own.kept hg (.inr (own_blk_ne g.own g.blkX (by decide)))
      simpa [nums, nI] using this
    · rw [setQ_other e] at hy
      rw [ho y e]
      obtain ⟨y1, y2, y3⟩ := g.blk y P' u hy e
      exact ⟨y1, y2.far (p := ⟨P, 0, none⟩) (g.far y P' u hy e).1 _, y3.kept hg (.inr (own_blk_ne y3 g.blkX (by decide)))⟩
  · by_cases e : y = x
    · by_cases e' : z = x
      · exact absurd (e.trans e'.symm) hne
      · rw [e, setQ_same] at h1
        rw [setQ_other e'] at h2
        injection h1 with h1
        injection h1 with e1 e2
        subst e1 e2
        have := g.far z P2 v2 h2 e'
        exact ⟨this.1.symm, this.2.2⟩
    · by_cases e' : z = x
      · rw [setQ_other e] at h1
        rw [e', setQ_same] at h2
        injection h2 with h2
        injection h2 with e1 e2
        subst e1 e2
        have := g.far y P1 v1 h1 e
        exact ⟨this.1, this.2.1⟩
      · rw [setQ_other e] at h1
        rw [setQ_other e'] at h2
        exact g.apart y z P1 v1 P2 v2 h1 h2 hne
theorem Fr.init {w w1 : World} {N : Value} {nn : Nat} {ns : List Value} (hb : Below (w.alloc (.map #[] 0)).heap.size (w.alloc (.map #[] 0)) w1) (hn : w1.ownsRow (w.alloc (.map #[] 0)).heap.size 71 3 N nn ns) (ks : List Kid) :
    Fr w.heap.size w w1 w.heap.size (fun _ => none) (free ks 0) 0 N nn ns := by
  have hs : w.heap.size ≤ (w.alloc (.map #[] 0)).heap.size := by simp
  refine ⟨(PM.made w).keep hb, Nat.le_refl _, fun _ _ => rfl, ?_, ?_, own_base hn hs, Nat.le_refl _, ((Below.refl w.heap.size w).alloc (Nat.le_refl _) (.map #[] 0)).trans (hb.mono hs)⟩
  · intro x P v h; cases h
  · intro x y P v P' v' h; cases h
end

end Go.Proofs.Ytgopokoghnfgiaa
