/-
  The walks over Clone and Merge.
-/
import Derived.Test.YtgopokoghnfgiaaWeaveA
import Derived.Deep.RegionHeld3
import Derived.Laws.AppendOwnNone
import Derived.Lib.BufferMore
namespace Go.Proofs.Ytgopokoghnfgiaa
open Go.RowKit
attribute [local go_sem ↓] Go.wp_at_zero Go.wp_at_succ

theorem sl_info : (Try.prog.info? 30).map (fun i => (i.zero, i.size, i.bytes)) = some (some (.slice none 0 0), 1, 24) := by kernel_rfl

/-- At a step of a region: nothing is appended. -/
theorem step_append_none {P : Program} {w : World} {ops : Array Oper} {o : Oper} {a : Act} {K : Act → World → Prop} {Q : Exit → Act → World → Prop} {E : Prop} (hgd : o.guard = none) (s x : Operand) (t : TypeId)
    (ho : o.op = .call { callee := .builtin .append, args := #[s, x], argTypes := #[t, t] })
    (base : Nat) (e : TypeId) (i : TypeInfo) (size : Nat) (ht : P.underlying t = some (.slice e)) (hi : P.info? e = some i)
    (v : Value) (n : Nat) (xs : List Value) (hs : a.eval s = v) (hown : w.ownsRow base e size v n xs) (hx : a.eval x = .slice none 0 0)
    (h : K (a.put o.dst v) w) : if Region.wanted o (yielded ops a.tmps) = true then Oper.wp P o a w K Q else E := by
  have hw : Region.wanted o (yielded ops a.tmps) = true := by simp [Region.wanted, hgd]
  rw [if_pos hw]
  have hrun := run_append_owned_none (P := P) (w := w) base t o.type e i size ht hi v n xs hown
  unfold Oper.wp
  simp [execOp, ho, resolve, invoke, builtin, hs, hx, hrun, Result.andThen]
  exact h

/-- 'make([]T, n)', at the operation itself. -/
theorem wp_make_full {P : Program} (w : World) {o : Oper} {a : Act} {K : Act → World → Prop} {Q : Exit → Act → World → Prop} (l c : Operand) (t : TypeId) (hop : o.op = Op.makeSlice t l c)
    (base : Nat) (e : TypeId) (i : TypeInfo) (z : Value) (size : Nat) (h1 : P.underlying t = some (.slice e)) (h2 : P.info? e = some i) (h3 : i.zero = some z) (h4 : i.size = size)
    (kl kc : IntKind) (L C : Int) (n : Nat) (hl : a.eval l = .int kl L) (hc : a.eval c = .int kc C) (hL : L = (n : Int)) (hC : C = (n : Int)) (b2 : i.bytes * n ≤ 281474976710656) (b3 : n ≤ maxLen) (b4 : base ≤ w.heap.size)
    (hK : ∀ w', w'.ownsRow base e size (.slice (some ⟨w.heap.size, 0, none⟩) n n) n (madeCells z.cells (n * size)).toList → w.grownBy w' none → K (a.put o.dst (.slice (some ⟨w.heap.size, 0, none⟩) n n)) w') : o.wp P a w K Q := by
  obtain ⟨w', hrun, r1, r2⟩ := run_make_full (P := P) w base t e i z size h1 h2 h3 h4 kl kc n b2 b3 b4
  subst hL
  subst hC
  unfold Oper.wp
  simp [execOp, hop, hl, hc, hrun, Result.andThen]
  exact hK w' r1 r2
theorem wrap_nat (n : Nat) (h : n ≤ 100000) : IntKind.i64.wrap ((n : Int) + 1) = ((n + 1 : Nat) : Int) := by
  simp [IntKind.wrap, IntKind.bits, IntKind.signed]
  omega
theorem nil_eq (w : World) : (binOp .eql 30 (.slice none 0 0) (.slice none 0 0)).run Try.prog w = .ok (.bool true) w := Lib.run_eql_slice_nil_nil w _ _ Try.underlying30
theorem some_eq (g : Addr) (n c : Nat) (w : World) : (binOp .eql 30 (.slice (some g) n c) (.slice none 0 0)).run Try.prog w = .ok (.bool false) w := Lib.run_eql_slice_some_nil w _ _ _ Try.underlying30
attribute [local go_sem] nil_eq some_eq

set_option maxRecDepth 100000 in
set_option maxHeartbeats 4000000 in
theorem clone_any (v : Value) (base : Nat) (l : List Int) (w : World) (h : w.ownsRow base 3 1 v l.length (nums l)) (h0 : l = [] → v = .slice none 0 0) (hl : l.length ≤ 1000000) :
    Calls Try.prog 40 #[v] w (RowPost w l) := by
  obtain ⟨tr, hi, hz0, hz1, hz2⟩ := info_parts winfo
  by_cases hl0 : l = []
  · have hv := h0 hl0
    subst hv hl0
    clear h h0
    go_enter Try.func40, Try.ntmps40
    go_wp2
    go_ret
    exact ⟨none, 0, rfl, World.ownsRow_nil _ _ _ _, Below.refl _ _⟩
  · have hpos : 0 < l.length := List.length_pos_iff.2 hl0
    obtain ⟨g, cap, hv, hg, hgl⟩ := h.form hpos
    subst hv
    have HO := Lib.hid (And.intro (h.alloc (.cells #[] 3)) (World.ownsRow_made w #[] 0 (e := 3) (size := 1) (base := w.heap.size) (Nat.le_refl _) (Nat.zero_le _) rfl))
    obtain ⟨m, hm⟩ : ∃ m, m = l.length := ⟨_, rfl⟩
    have HM := Lib.hid hm
    rw [← hm] at HO hpos hl ⊢
    clear h h0 hl0 hm
    go_enter Try.func40, Try.ntmps40
    go_wp2_with (first
      | (at_builtin; refine wpList_append_lies _ rfl _ _ _ rfl w.heap.size 3 tr _ 1 8 Try.underlying30 hi hz0 hz1 hz2 rfl (by decide) _ 0 [] rfl HO.out.2 _ m cap (nums l) rfl (by rw [nums_len, Nat.mul_one]; exact HM.out.symm) (HO.out.1.cells rfl) (by intro u hu; simp only [nums, List.mem_map] at hu; obtain ⟨z, _, rfl⟩ := hu; rfl) (by omega) (by unfold maxLen; omega) (by omega) (by simp) _ rfl ?_; intro g2 cap2 w4 hown2 hg2 hat2 hlt2; have HX := Lib.hid (And.intro hown2 (((Below.refl w.heap.size w).alloc (Nat.le_refl _) (.cells #[] 3)).grown hg2 (by simp) (fun j hj => (HO.out.2.lt j hj).1))); clear hown2 hg2 hat2 hlt2))
    go_ret
    refine ⟨some ⟨g2, 0, none⟩, cap2, by rw [← HM.out]; rfl, ?_, HX.out.2⟩
    have := HX.out.1
    rw [Nat.zero_add, List.nil_append] at this
    rw [← HM.out]
    exact this

/-! ### Merge -/
def lastTo (was live : List Int) : Nat → Nat
  | 0 => 0
  | k + 1 => if placeF live (was.getD k 0) = 0 then lastTo was live k else placeF live (was.getD k 0)
/-- Ghosts behind the j-th of live, among the first k. -/
def behTo (was live : List Int) : Nat → Nat → List Int
  | 0, _ => []
  | k + 1, j => if placeF live (was.getD k 0) = 0 ∧ lastTo was live k = j then behTo was live k j ++ [was.getD k 0] else behTo was live k j
def behF (was live : List Int) : Nat → List Int := behTo was live was.length
def mergeTo (was live : List Int) : Nat → List Int
  | 0 => behF was live 0
  | m + 1 => mergeTo was live m ++ [live.getD m 0] ++ behF was live (m + 1)
def mergeS (was live : List Int) : List Int := mergeTo was live live.length
theorem placeF_le (l : List Int) (x : Int) : placeF l x ≤ l.length := placeTo_le _ _ _
theorem lastTo_le (was live : List Int) (k : Nat) : lastTo was live k ≤ live.length := by
  induction k with
  | zero => exact Nat.zero_le _
  | succ k ih =>
    rw [lastTo]
    split
    · exact ih
    · exact placeF_le _ _
theorem behTo_len (was live : List Int) (k j : Nat) : (behTo was live k j).length ≤ k := by
  induction k with
  | zero => exact Nat.zero_le _
  | succ k ih =>
    rw [behTo]
    split
    · simp; exact ih
    · omega
theorem mergeTo_len (was live : List Int) (m : Nat) (h : was.length ≤ 900) : (mergeTo was live m).length ≤ 901 * (m + 1) := by
  induction m with
  | zero => have := behTo_len was live was.length 0; rw [mergeTo, behF]; omega
  | succ m ih =>
    have := behTo_len was live was.length (m + 1)
    rw [mergeTo, behF, List.length_append, List.length_append]
    simp only [List.length_cons, List.length_nil]
    omega

/-- A family of rows, in a row. -/
structure Bh (base : Nat) (wx : World) (g m : Nat) (vs : List Value) (G : Nat → List Int) : Prop where
  len : vs.length = m
  row : wx.ownsRow base 30 1 (.slice (some ⟨g, 0, none⟩) m m) m vs
  each : ∀ (j : Nat) (v : Value), vs[j]? = some v → wx.ownsRow base 3 1 v (G j).length (nums (G j)) ∧ (G j = [] → v = .slice none 0 0)
  apart : ∀ (i j : Nat) (u v : Value), vs[i]? = some u → vs[j]? = some v → i ≠ j → u.ownBlock = none ∨ u.ownBlock ≠ v.ownBlock
section
variable {base : Nat} {wx wy wz : World} {g m : Nat} {vs : List Value} {G : Nat → List Int}
theorem Bh.keep (f : Bh base wx g m vs G) (hb : Below wx.heap.size wx wy) : Bh base wy g m vs G :=
  ⟨f.len, own_keep f.row hb, fun j v h => ⟨own_keep (f.each j v h).1 hb, (f.each j v h).2⟩, f.apart⟩
theorem Bh.alloc (f : Bh base wx g m vs G) (o : Obj) : Bh base (wx.alloc o) g m vs G := f.keep ((Below.refl _ _).alloc (Nat.le_refl _) o)
theorem Bh.cell (f : Bh base wx g m vs G) {j : Nat} {v : Value} (h : vs[j]? = some v) : wx.cell? ⟨g, j, none⟩ = some v := by
  have := f.row.cells (g := g) rfl j v h
  rwa [Addr.add_lit, Nat.zero_add] at this
theorem Bh.gB (f : Bh base wx g m vs G) : base ≤ g := (f.row.lt g rfl).1
/-- One of the lists has grown, and is laid back. -/
theorem Bh.store (f : Bh base wx g m vs G) {j : Nat} {v v' : Value} {x : Int} {G' : Nat → List Int} (hj : vs[j]? = some v) (hown : wz.ownsRow base 3 1 v' ((G j).length + 1) (nums (G j) ++ [.int .i64 x])) (hg : wx.grownBy wz v.ownBlock)
    (hat : v'.ownBlock = v.ownBlock ∨ ∀ b, v'.ownBlock = some b → wx.heap.size ≤ b) (hG : G' j = G j ++ [x]) (hG2 : ∀ i, i ≠ j → G' i = G i) :
    wz.cell? ⟨g, j, none⟩ = some v ∧ wz.frozen? ⟨g, j, none⟩ = false ∧ Bh base (wz.setCell ⟨g, j, none⟩ v') g m (vs.set j v') G' := by
  have hjl : j < vs.length := (List.getElem?_eq_some_iff.1 hj).1
  have hrow := f.row.kept hg (own_own_ne f.row (f.each j v hj).1 (by decide))
  have far : ∀ (i : Nat) (u : Value), vs[i]? = some u → i ≠ j → (u.ownBlock = none ∨ u.ownBlock ≠ v'.ownBlock) ∧ (v'.ownBlock = none ∨ v'.ownBlock ≠ u.ownBlock) := fun i u h hne => by
    rcases hat with hat | hat
    · rw [hat]; exact ⟨f.apart i j u v h hj hne, f.apart j i v u hj h hne.symm⟩
    · have hlt := (f.each i u h).1.lt
      constructor
      · cases hv : u.ownBlock with
        | none => exact .inl rfl
        | some b => exact .inr fun e => by have := hat b e.symm; have := (hlt b hv).2; omega
      · cases hv : v'.ownBlock with
        | none => exact .inl rfl
        | some b => exact .inr fun e => by have := hat b hv; have := (hlt b e.symm).2; omega
  have hst := hrow.stored j v'
  have hc := hrow.cells (g := g) rfl j v hj
  rw [Addr.add_lit, Nat.zero_add] at hc
  have gne : ∀ {u : Value} {k : Nat} {xs : List Value}, wz.ownsRow base 3 1 u k xs → u.ownBlock = none ∨ u.ownBlock ≠ some g := fun h => own_own_ne h hrow (by decide)
  refine ⟨hc, hrow.frozenAt j, by simp [f.len], hst.1, fun i u h => ?_, fun i k a b ha hb hne => ?_⟩
  · by_cases e : i = j
    · subst e
      rw [List.getElem?_set_self hjl] at h
      injection h with h
      subst h
      rw [hG]
      refine ⟨?_, fun h => by simp at h⟩
      have := hown.kept hst.2 (gne hown)
      simpa [nums] using this
    · rw [List.getElem?_set_ne (Ne.symm e)] at h
      rw [hG2 i e]
      have h1 := (f.each i u h).1.kept hg (f.apart i j u v h hj e)
      exact ⟨h1.kept hst.2 (gne h1), (f.each i u h).2⟩
  · by_cases e : i = j
    · subst e
      rw [List.getElem?_set_self hjl] at ha
      injection ha with ha
      subst ha
      rw [List.getElem?_set_ne hne] at hb
      exact (far k b hb hne.symm).2
    · rw [List.getElem?_set_ne (Ne.symm e)] at ha
      by_cases e' : k = j
      · subst e'
        rw [List.getElem?_set_self hjl] at hb
        injection hb with hb
        subst hb
        exact (far i a ha e).1
      · rw [List.getElem?_set_ne (Ne.symm e')] at hb
        exact f.apart i k a b ha hb hne
end

end Go.Proofs.Ytgopokoghnfgiaa
