/-
  Words for Pair, second loop: the lists are read, and shortened.
-/
import Derived.Test.YtgopokoghnfgiaaMatchPairA
namespace Go.Proofs.Ytgopokoghnfgiaa
open Go.RowKit

/-- Numbers in a block of numbers. -/
def NumsT (w : World) (B : Nat) (A : Option Addr) (n : Nat) (l : List Int) : Prop := Nums w B A n l ∧ ∀ b off, A = some ⟨b, off, none⟩ → b < B ∧ ∃ cs, Blk w b 3 cs
theorem NumsT.of_own {w : World} {base : Nat} {A : Option Addr} {n c : Nat} {l : List Int} (h : w.ownsRow base 3 1 (.slice A n c) n (nums l)) (hl : l.length = n) : NumsT w w.heap.size A n l := by
  refine ⟨Nums.of_own h hl, fun b off hA => ?_⟩
  rcases h.2 with ⟨hv, _⟩ | ⟨g, cap, cur, hv, _, hh, _⟩
  · injection hv with h1 _ _
    rw [hA] at h1; cases h1
  · injection hv with h1 _ _
    rw [hA] at h1
    injection h1 with h1
    injection h1 with h2 _
    subst h2
    exact ⟨Blk.lt (t := 3) (cs := cur) hh, cur, hh⟩
theorem NumsT.grown {w w' : World} {B : Nat} {A : Option Addr} {n : Nat} {l : List Int} {row : Option Nat} (h : NumsT w B A n l) (hg : w.grownBy w' row) (hB : B ≤ w.heap.size) (hr : ∀ j, row = some j → B ≤ j) : NumsT w' B A n l := by
  have hb : Below B w w' := (Below.refl B w).grown hg hB hr
  refine ⟨h.1.below hb, fun b off hA => ?_⟩
  obtain ⟨h1, cs, h2⟩ := h.2 b off hA
  exact ⟨h1, cs, h2.below hb h1⟩
theorem NumsT.set_ {w : World} {B P : Nat} {A : Option Addr} {n : Nat} {l : List Int} {cs : Array Value} (h : NumsT w B A n l) (hP : Blk w P 74 cs) (v : Value) : NumsT (w.setCell ⟨P, 0, none⟩ v) B A n l := by
  refine ⟨⟨h.1.1, fun k hk => ?_⟩, fun b off hA => ?_⟩
  · obtain ⟨b, off, hA, h1, h2⟩ := h.1.2 k hk
    obtain ⟨_, cs', h3⟩ := h.2 b off hA
    refine ⟨b, off, hA, h1, ?_⟩
    rw [(h3.far (p := ⟨P, 0, none⟩) (Blk.ne_ h3 hP (by decide)) v).cell, ← h3.cell]
    exact h2
  · obtain ⟨h1, cs', h3⟩ := h.2 b off hA
    exact ⟨h1, cs', h3.far (p := ⟨P, 0, none⟩) (Blk.ne_ h3 hP (by decide)) v⟩

/-- The second loop's memory: who is still free. -/
structure Sc (base B2 : Nat) (w wx : World) (M n : Nat) (q : Nm → Option Nat) (ks : List Kid) (outs : List Int) : Prop where
  map : PM wx M n q
  mB : M < B2
  none_ : ∀ x, q x = none → freeOf ks outs x = []
  blk : ∀ x P, q x = some P → base ≤ P ∧ P < B2 ∧ ∃ A c, Blk wx P 74 #[.slice A (freeOf ks outs x).length c] ∧ (freeOf ks outs x).length ≤ c ∧ c ≤ maxLen ∧ NumsT wx B2 A (freeOf ks outs x).length (nI (freeOf ks outs x))
  apart : ∀ x y P P', q x = some P → q y = some P' → x ≠ y → P ≠ P'
  bB : base ≤ B2
  wB : base ≤ w.heap.size
  size : B2 ≤ wx.heap.size
  below : Below base w wx

section
variable {base B2 : Nat} {w wx wy : World} {M n : Nat} {q : Nm → Option Nat} {ks : List Kid} {outs : List Int}
theorem Fr.turn {k : Nat} {qm : Qm} {N : Value} {nn : Nat} {ns : List Value} (f : Fr base w wx M qm (free ks ks.length) k N nn ns) : Sc base wx.heap.size w wx M k (qP qm) ks [] := by
  refine ⟨f.map, f.map.lt, fun x hx => ?_, fun x P hP => ?_, fun x y P P' h h' hne => ?_, f.wsize, f.size, Nat.le_refl _, f.below⟩
  · rw [freeOf_nil]
    exact f.none_ x (by simpa [qP] using hx)
  · obtain ⟨⟨P', v⟩, h1, h2⟩ := Option.map_eq_some_iff.1 hP
    simp only at h2
    subst h2
    obtain ⟨p1, p2, p3⟩ := f.blk x P' v h1
    obtain ⟨A, c, hv⟩ := own_form p3
    subst hv
    rw [freeOf_nil]
    exact ⟨p1, p2.lt, A, c, p2, (own_cap p3).1, (own_cap p3).2, NumsT.of_own p3 (nI_len _)⟩
  · obtain ⟨⟨P1, v⟩, h1, h2⟩ := Option.map_eq_some_iff.1 h
    obtain ⟨⟨P2, v'⟩, h3, h4⟩ := Option.map_eq_some_iff.1 h'
    simp only at h2 h4
    subst h2 h4
    exact (f.apart x y P1 v P2 v' h1 h3 hne).1
theorem Sc.kept {row : Option Nat} (f : Sc base B2 w wx M n q ks outs) (hg : wx.grownBy wy row) (hr : ∀ j, row = some j → B2 ≤ j) : Sc base B2 w wy M n q ks outs :=
  ⟨f.map.kept hg (fun e => by have := hr M e.symm; have := f.mB; omega), f.mB, f.none_, fun x P h => by
    obtain ⟨h1, h2, A, c, h3, h4, h5, h6⟩ := f.blk x P h
    exact ⟨h1, h2, A, c, h3.grown hg (fun e => by have := hr P e.symm; omega), h4, h5, h6.grown hg f.size hr⟩, f.apart, f.bB, f.wB, Nat.le_trans f.size hg.size,
    f.below.grown hg (Nat.le_trans f.bB f.size) (fun j hj => Nat.le_trans f.bB (hr j hj))⟩
theorem Sc.keep (f : Sc base B2 w wx M n q ks outs) (hb : Below wx.heap.size wx wy) : Sc base B2 w wy M n q ks outs := f.kept (only_of_below hb none) (fun j h => by cases h)
theorem Sc.alloc (f : Sc base B2 w wx M n q ks outs) (o : Obj) : Sc base B2 w (wx.alloc o) M n q ks outs := f.keep ((Below.refl _ _).alloc (Nat.le_refl _) o)
/-- Nobody is there for the name. -/
theorem Sc.nobody (f : Sc base B2 w wx M n q ks outs) : Sc base B2 w wx M n q ks (outs ++ [-1]) := by
  refine ⟨f.map, f.mB, fun x hx => ?_, fun x P hP => ?_, f.apart, f.bB, f.wB, f.size, f.below⟩
  · rw [freeOf_neg]; exact f.none_ x hx
  · rw [freeOf_neg]; exact f.blk x P hP
/-- One is taken. -/
theorem Sc.took (f : Sc base B2 w wx M n q ks outs) {x : Nm} {P a : Nat} {rest : List Nat} {A0 A : Option Addr} {c0 c m : Nat} (hq : q x = some P) (hf : freeOf ks outs x = a :: rest)
    (hb : Blk wx P 74 #[.slice A0 m c0]) (h0 : NumsT wx B2 A0 m (nI (a :: rest))) (hA : ∀ b off, A = some ⟨b, off, none⟩ → ∃ o, A0 = some ⟨b, o, none⟩) (hc : rest.length ≤ c) (hc2 : c ≤ maxLen) (hn : Nums wx B2 A rest.length (nI rest)) :
    Sc base B2 w (wx.setCell ⟨P, 0, none⟩ (.slice A rest.length c)) M n q ks (outs ++ [(a : Int)]) := by
  obtain ⟨p1, p2, _⟩ := f.blk x P hq
  have hg : wx.grownBy (wx.setCell ⟨P, 0, none⟩ (.slice A rest.length c)) (some P) := only_set (World.grownBy.refl wx _) 0 _
  refine ⟨f.map.kept hg (by have := blk_not_map hb f.map; simp; omega), f.mB, fun y hy => ?_, fun y P' hP => ?_, f.apart, f.bB, f.wB, Nat.le_trans f.size hg.size, f.below.setCell p1 _⟩
  · by_cases e : y = x
    · rw [e, hq] at hy; cases hy
    · rw [freeOf_other hf e]; exact f.none_ y hy
  · by_cases e : y = x
    · subst e
      rw [hq] at hP
      injection hP with hP
      subst hP
      rw [freeOf_take hf]
      exact ⟨p1, p2, A, c, hb.set_ 0 _, hc, hc2, NumsT.set_ ⟨hn, fun b off h => by obtain ⟨o, h1⟩ := hA b off h; exact h0.2 b o h1⟩ hb _⟩
    · rw [freeOf_other hf e]
      obtain ⟨y1, y2, A', c', y3, y4, y5, y6⟩ := f.blk y P' hP
      exact ⟨y1, y2, A', c', y3.far (p := ⟨P, 0, none⟩) (f.apart y x P' P hP hq e) _, y4, y5, y6.set_ hb _⟩
end

end Go.Proofs.Ytgopokoghnfgiaa
