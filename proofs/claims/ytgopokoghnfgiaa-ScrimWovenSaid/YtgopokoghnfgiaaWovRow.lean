/-
  Two rows that grow, beside others that stand.
-/
import Derived.Test.YtgopokoghnfgiaaWovE
namespace Go.Proofs.Ytgopokoghnfgiaa
open Go.RowKit Go.Shelf

/-! ### Two rows that grow, beside others that stand -/
abbrev Ne (u v : Value) : Prop := u.ownBlock = none ∨ u.ownBlock ≠ v.ownBlock
theorem ne_grow {w : World} {B : Nat} {e : TypeId} {s n n' c g H : Nat} {xs : List Value} {x v : Value} (hx : w.ownsRow B e s x n xs) (h : Ne x v) (hat : v.ownBlock = some g ∨ g = H) (hH : w.heap.size = H) :
    Ne x (.slice (some ⟨g, 0, none⟩) n' c) ∧ Ne (.slice (some ⟨g, 0, none⟩) n' c) x := by
  have key : x.ownBlock ≠ some g := by
    intro e
    rcases hat with h1 | h1
    · rcases h with h2 | h2
      · rw [h2] at e; cases e
      · exact h2 (e.trans h1.symm)
    · have := (hx.lt g e).2
      omega
  exact ⟨.inr key, .inr fun e => key e.symm⟩
theorem ne_new {w : World} {B : Nat} {e : TypeId} {s n n' c g : Nat} {xs : List Value} {x : Value} (hx : w.ownsRow B e s x n xs) (hg : w.heap.size ≤ g) : Ne x (.slice (some ⟨g, 0, none⟩) n' c) ∧ Ne (.slice (some ⟨g, 0, none⟩) n' c) x := by
  have key : x.ownBlock ≠ some g := by
    intro e
    have := (hx.lt g e).2
    omega
  exact ⟨.inr key, .inr fun e => key e.symm⟩
abbrev OwI (w : World) (B : Nat) (v : Value) (l : List Int) : Prop := w.ownsRow B 3 1 v l.length (nums l)
structure R2 (w0 : World) (F : List (Value × List Int)) (vl vs : Value) (ll ls : List Int) (w : World) : Prop where
  fx : ∀ f ∈ F, OwI w w0.heap.size f.1 f.2 ∧ Ne f.1 vl ∧ Ne f.1 vs
  l : OwI w w0.heap.size vl ll
  s : OwI w w0.heap.size vs ls
  lns : Ne vl vs
  snl : Ne vs vl
  b : Below w0.heap.size w0 w
section
variable {w0 w w4 : World} {F : List (Value × List Int)} {vl vs : Value} {ll ls : List Int} {g H c : Nat} {x : Int} {o : Obj}
theorem R2.growL (h : R2 w0 F vl vs ll ls w) (ho : w4.ownsRow w0.heap.size 3 1 (.slice (some ⟨g, 0, none⟩) (ll.length + 1) c) (ll.length + 1) (nums ll ++ [.int .i64 x])) (hg : (w.alloc o).grownBy w4 vl.ownBlock) (hat : vl.ownBlock = some g ∨ g = H) (hH : (w.alloc o).heap.size = H) :
    R2 w0 F (.slice (some ⟨g, 0, none⟩) (ll.length + 1) c) vs (ll ++ [x]) ls w4 := by
  refine ⟨fun f hf => ?_, ?_, (h.s.alloc o).kept hg h.snl, ?_, ?_, (h.b.alloc h.b.size o).grown hg (h.b.alloc h.b.size o).size (fun j hj => (h.l.lt j hj).1)⟩
  · obtain ⟨h1, h2, h3⟩ := h.fx f hf
    exact ⟨(h1.alloc o).kept hg h2, (ne_grow (h1.alloc o) h2 hat hH).1, h3⟩
  · rw [OwI, nums_snoc, List.length_append]; exact ho
  · exact (ne_grow (h.s.alloc o) h.snl hat hH).2
  · exact (ne_grow (h.s.alloc o) h.snl hat hH).1
theorem R2.swap (h : R2 w0 F vl vs ll ls w) : R2 w0 F vs vl ls ll w := ⟨fun f hf => ⟨(h.fx f hf).1, (h.fx f hf).2.2, (h.fx f hf).2.1⟩, h.s, h.l, h.snl, h.lns, h.b⟩
theorem R2.growS (h : R2 w0 F vl vs ll ls w) (ho : w4.ownsRow w0.heap.size 3 1 (.slice (some ⟨g, 0, none⟩) (ls.length + 1) c) (ls.length + 1) (nums ls ++ [.int .i64 x])) (hg : (w.alloc o).grownBy w4 vs.ownBlock) (hat : vs.ownBlock = some g ∨ g = H) (hH : (w.alloc o).heap.size = H) :
    R2 w0 F vl (.slice (some ⟨g, 0, none⟩) (ls.length + 1) c) ll (ls ++ [x]) w4 := (h.swap.growL ho hg hat hH).swap
theorem R2.below (h : R2 w0 F vl vs ll ls w) (hb : Below w.heap.size w w4) : R2 w0 F vl vs ll ls w4 :=
  ⟨fun f hf => ⟨own_keep (h.fx f hf).1 hb, (h.fx f hf).2⟩, own_keep h.l hb, own_keep h.s hb, h.lns, h.snl, h.b.trans (hb.mono h.b.size)⟩
/-- An empty row begins; the one that grew stands from now on. -/
theorem R2.turn (h : R2 w0 F vl vs ll ls w) : R2 w0 ((vs, ls) :: F) vl (.slice (some ⟨w.heap.size, 0, none⟩) 0 0) ll [] (w.alloc (.cells #[] 3)) := by
  have hn := fun (x : Value) (l : List Int) (hx : OwI w w0.heap.size x l) => ne_new (n' := 0) (c := 0) hx (Nat.le_refl _)
  refine ⟨fun f hf => ?_, h.l.alloc _, own_base (own_zero w) h.b.size, (hn _ _ h.l).1, (hn _ _ h.l).2, h.b.alloc h.b.size _⟩
  rcases List.mem_cons.1 hf with rfl | hf
  · exact ⟨h.s.alloc _, h.snl, (hn _ _ h.s).1⟩
  · obtain ⟨h1, h2, h3⟩ := h.fx f hf
    exact ⟨h1.alloc _, h2, (hn _ _ h1).1⟩
theorem R2.fix (h : R2 w0 F vl vs ll ls w) (hb : Below w.heap.size w w4) {v : Value} {l : List Int} (ho : OwI w4 w.heap.size v l) : R2 w0 ((v, l) :: F) vl vs ll ls w4 := by
  have hne : ∀ (x : Value) (m : List Int), OwI w w0.heap.size x m → Ne v x := fun x m hx => by
    cases e : v.ownBlock with
    | none => exact .inl e
    | some p =>
      refine .inr fun e2 => ?_
      rw [e] at e2
      have := (hx.lt p e2.symm).2
      have := (ho.lt p e).1
      omega
  have h' := h.below hb
  refine ⟨fun f hf => ?_, h'.l, h'.s, h'.lns, h'.snl, h'.b⟩
  rcases List.mem_cons.1 hf with rfl | hf
  · exact ⟨own_base ho h.b.size, hne _ _ h.l, hne _ _ h.s⟩
  · exact h'.fx f hf
theorem R2.start (w : World) : R2 w [] (.slice (some ⟨w.heap.size + 1, 0, none⟩) 0 0) (.slice (some ⟨w.heap.size, 0, none⟩) 0 0) [] [] ((w.alloc (.cells #[] 3)).alloc (.cells #[] 3)) := by
  have h1 := own_zero w
  have h2 := own_zero (w.alloc (.cells #[] 3))
  rw [World.size_alloc] at h2
  have h3 := ne_new (n' := 0) (c := 0) h1 (by rw [World.size_alloc]; exact Nat.le_refl _)
  exact ⟨fun f hf => absurd hf (by simp), own_base h2 (by omega), h1.alloc _, h3.2, h3.1, ((Below.refl _ _).alloc (Nat.le_refl _) _).alloc (by simp) _⟩
theorem OwI.nums {B n : Nat} {v : Value} {l : List Int} (h : OwI w B v l) (hn : l.length = n) : ∃ A c, v = .slice A n c ∧ Nums w w.heap.size A n l := by
  obtain ⟨A, c, hv⟩ := own_form h
  subst hv; subst hn
  exact ⟨A, c, rfl, Nums.of_own h rfl⟩
end


end Go.Proofs.Ytgopokoghnfgiaa
