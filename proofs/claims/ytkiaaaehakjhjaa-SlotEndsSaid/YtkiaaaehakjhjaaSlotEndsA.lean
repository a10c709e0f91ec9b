/-
  Words for SlotEnds: arguments, lists in memory whose kinds turn, the law of each step.
-/
import Derived.Test.YtkiaaaehakjhjaaSlotLaw4
import Derived.Test.YtkiaaaehakjhjaaSlotOpen
import Derived.Test.YtkiaaaehakjhjaaNumbers
import Derived.SliceStrings
import Derived.ChangeSlices
import Derived.ChangeMaps5
namespace Go.Proofs.Ytkiaaaehakjhjaa
open Go.ChangeShapes Go.WideShapes Go.ChangeAt Go.RowKit

/-- A slice of strings that reads as a list, below block B. -/
def Strs (w : World) (B : Nat) (A : Option Addr) (n : Nat) (ss : List ByteArray) : Prop :=
  ∀ k, k < n → ∃ b off, A = some ⟨b, off, none⟩ ∧ b < B ∧ w.cell? ⟨b, off + k, none⟩ = some (.string (ss.getD k ByteArray.empty))
def Ints (w : World) (B : Nat) (A : Option Addr) (n : Nat) (ss : List Int) : Prop :=
  ∀ k, k < n → ∃ b off, A = some ⟨b, off, none⟩ ∧ b < B ∧ w.cell? ⟨b, off + k, none⟩ = some (.int .i64 (ss.getD k 0))
section
variable {H : Type} {enc : TypeId × Value → H} {W : World} {base : Nat} {v : Value} {d : DataW H} {p : List MemPlace}
theorem strs_open (hv : Value.okWide Try.prog W .any base 45 v)
    (h : DataW.Trod enc Try.prog W 0 (fun _ => true) true 45 v d p) : ∃ A n c ss, v = .slice A n c ∧ n ≤ c ∧ c ≤ maxLen ∧ Strs W W.heap.size A n ss := by
  obtain ⟨a0, len, cap, rfl⟩ := okWide_slice Try.underlying45 hv
  obtain ⟨fuel, hf⟩ := h
  rcases open_strings Try.underlying45 Try.underlying9 (by kernel_rfl) hf with ⟨hcs, _⟩ | ⟨x, l, c, zs, hcs, _, hl, hm, hz, _, hcell, _⟩
  · simp [Value.cells] at hcs
    obtain ⟨rfl, rfl, rfl⟩ := hcs
    exact ⟨_, _, _, [], rfl, Nat.le_refl _, by unfold maxLen; omega, fun k hk => by omega⟩
  · simp [Value.cells] at hcs
    obtain ⟨rfl, rfl, rfl⟩ := hcs
    have hz' : zs.length = cap := by simpa using hz
    refine ⟨_, _, _, zs, rfl, hl, hm, fun k hk => ?_⟩
    have h1 := hcell k (by omega)
    obtain ⟨b, off, spot⟩ := x
    have hspot : spot = none := by simpa [Addr.add] using World.cell?_spot (hcell 0 (by omega))
    subst hspot
    rw [Addr.add_lit] at h1
    exact ⟨b, off, rfl, World.block_lt_of_cell? W _ h1, h1⟩
theorem ints_open (hv : Value.okWide Try.prog W .any base 28 v)
    (h : DataW.Trod enc Try.prog W 0 (fun _ => true) true 28 v d p) : ∃ A n c ss, v = .slice A n c ∧ n ≤ c ∧ c ≤ maxLen ∧ Ints W W.heap.size A n ss := by
  obtain ⟨a0, len, cap, rfl⟩ := okWide_slice Try.underlying28 hv
  obtain ⟨fuel, hf⟩ := h
  rcases open_ints Try.underlying28 Try.underlying3 (by kernel_rfl) hf with ⟨hcs, _⟩ | ⟨x, l, c, zs, hcs, _, hl, hm, hz, _, hcell, _⟩
  · simp [Value.cells] at hcs
    obtain ⟨rfl, rfl, rfl⟩ := hcs
    exact ⟨_, _, _, [], rfl, Nat.le_refl _, by unfold maxLen; omega, fun k hk => by omega⟩
  · simp [Value.cells] at hcs
    obtain ⟨rfl, rfl, rfl⟩ := hcs
    have hz' : zs.length = cap := by simpa using hz
    refine ⟨_, _, _, zs, rfl, hl, hm, fun k hk => ?_⟩
    have h1 := hcell k (by omega)
    obtain ⟨b, off, spot⟩ := x
    have hspot : spot = none := by simpa [Addr.add] using World.cell?_spot (hcell 0 (by omega))
    subst hspot
    rw [Addr.add_lit] at h1
    exact ⟨b, off, rfl, World.block_lt_of_cell? W _ h1, h1⟩
end

/-- A kid's kind is set. -/
def setKind (ks : List Kid) (i : Nat) (t : Int) : List Kid := ks.set i ((ks.getD i kid0).1, t)
theorem setKind_len (ks : List Kid) (i : Nat) (t : Int) : (setKind ks i t).length = ks.length := by simp [setKind]
theorem flatK_set : ∀ (ks : List Kid) (i : Nat) (t : Int), i < ks.length → flatK (setKind ks i t) = (flatK ks).set (i * 2 + 1) (.int .i64 t)
  | [], _, _, h => by simp at h
  | a :: l, 0, t, _ => by simp [setKind, flatK, k0, k1]
  | a :: l, i + 1, t, h => by
    have ih := flatK_set l i t (by simpa using h)
    have e1 : setKind (a :: l) (i + 1) t = a :: setKind l i t := by simp [setKind]
    have e2 : (i + 1) * 2 + 1 = i * 2 + 1 + 1 + 1 := by omega
    rw [e1, e2]
    show k0 a :: k1 a :: flatK (setKind l i t) = (k0 a :: k1 a :: flatK l).set _ _
    rw [ih]; rfl
theorem own_setKind {w : World} {base g c : Nat} {ks : List Kid} {n : Nat} (h : w.ownsRow base 41 2 (.slice (some ⟨g, 0, none⟩) n c) n (flatK ks)) (i : Nat) (t : Int) (hi : i < ks.length) :
    (w.setCell ⟨g, i * 2 + 1, none⟩ (.int .i64 t)).ownsRow base 41 2 (.slice (some ⟨g, 0, none⟩) n c) n (flatK (setKind ks i t)) ∧ w.grownBy (w.setCell ⟨g, i * 2 + 1, none⟩ (.int .i64 t)) (some g) := by
  rw [flatK_set ks i t hi]
  exact h.stored (i * 2 + 1) (.int .i64 t)

/-- Those of a list of numbers are held no longer. -/
def holdTo (l : List Int) : Nat → List Kid → List Kid
  | 0, ks => ks
  | j + 1, ks => setKind (holdTo l j ks) (l.getD j 0).toNat 6
theorem holdTo_len (l : List Int) (j : Nat) (ks : List Kid) : (holdTo l j ks).length = ks.length := by
  induction j with
  | zero => rfl
  | succ j ih => rw [holdTo, setKind_len]; exact ih
theorem setKind_get (ks : List Kid) (i : Nat) (t : Int) (j : Nat) (hj : j < ks.length) : (setKind ks i t).getD j kid0 = if j = i then ((ks.getD j kid0).1, t) else ks.getD j kid0 := by
  unfold setKind
  by_cases h : j = i
  · subst h; simp [List.getD, hj]
  · rw [if_neg h]; simp [List.getD, Ne.symm h]
theorem holdTo_get (l : List Int) (ks : List Kid) (i : Nat) (hi : i < ks.length) : ∀ j, ((∃ m, m < j ∧ (l.getD m 0).toNat = i) ∧ (holdTo l j ks).getD i kid0 = ((ks.getD i kid0).1, 6)) ∨ ((∀ m, m < j → (l.getD m 0).toNat ≠ i) ∧ (holdTo l j ks).getD i kid0 = ks.getD i kid0)
  | 0 => .inr ⟨fun m hm => by omega, rfl⟩
  | j + 1 => by
    have hl : i < (holdTo l j ks).length := by rw [holdTo_len]; exact hi
    rw [holdTo, setKind_get _ _ _ i hl]
    by_cases h : i = (l.getD j 0).toNat
    · left
      rw [if_pos h]
      refine ⟨⟨j, by omega, h.symm⟩, ?_⟩
      rcases holdTo_get l ks i hi j with ⟨_, h2⟩ | ⟨_, h2⟩
      · rw [h2]
      · rw [h2]
    · rw [if_neg h]
      rcases holdTo_get l ks i hi j with ⟨⟨m, h1, h2⟩, h3⟩ | ⟨h1, h3⟩
      · exact .inl ⟨⟨m, by omega, h2⟩, h3⟩
      · refine .inr ⟨fun m hm => ?_, h3⟩
        by_cases hmj : m = j
        · rw [hmj]; exact fun e => h e.symm
        · exact h1 m (by omega)
theorem nextL_mem (a : List Kid) (m : Nat) (hm : m < (nextL a).length) : entS a = false ∧ ∃ i : Nat, (nextL a).getD m 0 = (i : Int) ∧ i < a.length ∧ (a.getD i kid0).2 = 4 := by
  have hx : (nextL a).getD m 0 ∈ nextL a := by
    have : (nextL a).getD m 0 = (nextL a)[m] := by simp [List.getD, hm]
    rw [this]; exact List.getElem_mem hm
  rw [nextL] at hx hm ⊢
  cases he : entS a
  · rw [he] at hx
    refine ⟨rfl, ?_⟩
    simp only [Bool.false_eq_true, if_false] at hx ⊢
    rw [heldTo, List.mem_map] at hx
    obtain ⟨i, hi, he2⟩ := hx
    rw [List.mem_filter] at hi
    refine ⟨i, by rw [heldTo]; exact he2.symm, List.mem_range.1 hi.1, ?_⟩
    have := hi.2
    rw [heldB] at this
    simpa using this
  · rw [he] at hm; simp at hm
theorem nextL_all (a : List Kid) (he : entS a = false) (i : Nat) (hi : i < a.length) (h4 : (a.getD i kid0).2 = 4) : ∃ m, m < (nextL a).length ∧ (nextL a).getD m 0 = (i : Int) := by
  have hx : (i : Int) ∈ nextL a := by
    rw [nextL, if_neg (by rw [he]; simp), heldTo, List.mem_map]
    exact ⟨i, List.mem_filter.2 ⟨List.mem_range.2 hi, by rw [heldB, h4]; rfl⟩, rfl⟩
  obtain ⟨m, hm, h⟩ := List.getElem_of_mem hx
  exact ⟨m, hm, by rw [← h]; simp [List.getD, hm]⟩
theorem hold_eq (ks : List Kid) : holdTo (nextL (cutK 15 ks)) (nextL (cutK 15 ks)).length ks = hold ks := by
  refine List.ext_getElem (by rw [holdTo_len, hold_len]) fun i h1 h2 => ?_
  rw [hold_len] at h2
  have hh := hold_get ks i h2
  rw [getD_get (by rw [hold_len]; exact h2)] at hh
  rw [hh, ← getD_get h1]
  have hcl := cutK_len 15 ks
  rcases holdTo_get (nextL (cutK 15 ks)) ks i h2 (nextL (cutK 15 ks)).length with ⟨⟨m, hm, hmi⟩, hg⟩ | ⟨hno, hg⟩
  · obtain ⟨he, j, hj, hjl, hj4⟩ := nextL_mem (cutK 15 ks) m hm
    obtain rfl : j = i := by rw [hj] at hmi; omega
    rw [cutK_get ks j (by omega) h2] at hj4
    rw [hg, holdAt, if_pos ⟨he, hjl, hj4⟩]
  · rw [hg, holdAt, if_neg]
    rintro ⟨he, hil, h4⟩
    obtain ⟨m, hm, hmi⟩ := nextL_all (cutK 15 ks) he i hil (by rw [cutK_get ks i (by omega) h2]; exact h4)
    exact hno m hm (by rw [hmi]; omega)
theorem pass_eq (ks : List Kid) : pass ks = if nextB (cutK 15 ks) = true ∧ 0 ≤ cur (hold ks) then setKind (hold ks) (cur (hold ks)).toNat 3 else hold ks := rfl

/-- A slot while keys come. -/
structure Inv1 (x : List Kid) : Prop where
  right : Right x
  size : ∀ k ∈ x, k.1.size ≤ 20
  len : x.length ≤ 15 ∨ (x.length = 16 ∧ isLive (x.getD 15 kid0))
theorem cut20_id {s : ByteArray} (h : s.size ≤ 20) : cut20 s = s := by rw [cut20, if_neg (by omega)]
theorem cut20_le (s : ByteArray) : (cut20 s).size ≤ 20 := by
  unfold cut20
  split
  · rw [ByteArray.size_extract]; omega
  · omega
theorem cut_mem {x : List Kid} {k : Kid} (h : ∀ k ∈ x, k.1.size ≤ 20) (hk : k ∈ cutK 15 x) : k ∈ x := by
  rw [cutK, List.mem_map] at hk
  obtain ⟨k0, h0, rfl⟩ := hk
  have hm := List.mem_of_mem_take h0
  rw [cut20_id (h k0 hm)]
  exact hm
theorem cut_right {x : List Kid} (h : Inv1 x) : Right (cutK 15 x) := by
  refine ⟨fun k hk => h.right.kind k (cut_mem h.size hk), pair_of fun i j hij hj => ?_⟩
  rw [cutK_len] at hj
  have hp := pair_at h.right.pair hij (by omega)
  rw [cutK_get x i (by omega) (by omega), cutK_get x j (by omega) (by omega), cut20_id (h.size _ (getD_mem (by omega))), cut20_id (h.size _ (getD_mem (by omega)))]
  exact hp
theorem step_inv {x : List Kid} (h : Inv1 x) (key : ByteArray) (hk : key.size ≤ 20) (mode : Int) : Inv1 (afterS (cutK 15 x) key (ofS (cutK 15 x) key mode)) ∧ Fin1 key (afterS (cutK 15 x) key (ofS (cutK 15 x) key mode)) := by
  have h1 := of_of1 (key := key) (mode := mode) (cut_right h)
  obtain ⟨p, hp⟩ : ∃ p, p = ofS (cutK 15 x) key mode := ⟨_, rfl⟩
  rw [← hp] at h1 ⊢
  have hcl : (cutK 15 x).length ≤ 15 := by rw [cutK_len]; omega
  have hal := afterTo_len (cutK 15 x) p (cutK 15 x).length
  have hsz : ∀ k ∈ afterTo (cutK 15 x) p (cutK 15 x).length, k.1.size ≤ 20 := by
    intro k hk
    obtain ⟨i, hi, _, rfl⟩ := afterTo_mem hk
    show ((cutK 15 x).getD i kid0).1.size ≤ 20
    exact h.size _ (cut_mem h.size (getD_mem hi))
  have hlen : (afterS (cutK 15 x) key p).length ≤ 15 ∨ ((afterS (cutK 15 x) key p).length = 16 ∧ isLive ((afterS (cutK 15 x) key p).getD 15 kid0)) := by
    rw [afterS]
    split
    · rw [List.length_append]
      by_cases h15 : (afterTo (cutK 15 x) p (cutK 15 x).length).length = 15
      · right
        refine ⟨by rw [h15]; rfl, ?_⟩
        have : (afterTo (cutK 15 x) p (cutK 15 x).length ++ [(key, startK p.start)]).getD 15 kid0 = (key, startK p.start) := by
          simp [List.getD, h15]
        rw [this]
        have := startK_le p.start
        unfold isLive; simp only; omega
      · left; simp; omega
    · left; omega
  refine ⟨⟨h1.right, ?_, hlen⟩, ⟨h1.right, fun k hk hl => (h1.keys k hk hl).1, fun hn => ?_, hlen⟩⟩
  · intro k hk
    rw [afterS] at hk
    split at hk
    · rw [List.mem_append] at hk
      rcases hk with hk | hk
      · exact hsz k hk
      · rw [List.mem_singleton] at hk
        subst hk
        assumption
    · exact hsz k hk
  · cases hm : more key
    · simpa [more] using hm
    · obtain ⟨k, hk, hl⟩ := h1.some hm
      exact (hn k hk hl).elim
theorem inv_nil : Inv1 [] := ⟨⟨fun k hk => absurd hk (by simp), List.Pairwise.nil⟩, fun k hk => absurd hk (by simp), Or.inl (by simp)⟩
theorem inv_start {ks : List Kid} (h : Right (cutK 15 ks)) : Inv1 (cutK 15 ks) := by
  refine ⟨h, fun k hk => ?_, .inl (by rw [cutK_len]; omega)⟩
  rw [cutK, List.mem_map] at hk
  obtain ⟨k0, _, rfl⟩ := hk
  exact cut20_le _
theorem fin_none {x : List Kid} (h : Inv1 x) (hc : cur x = -2) (hl : x.length ≤ 15) : Fin1 ByteArray.empty x := by
  have hn : ∀ k ∈ x, ¬ isLive k := by
    intro k hk hlv
    obtain ⟨i, hi, rfl⟩ := mem_getD hk
    have := (cur_live h.right i hi).1 hlv
    omega
  exact ⟨h.right, fun k hk hlv => (hn k hk hlv).elim, fun _ => by decide +kernel, .inl hl⟩
theorem fin_some {x : List Kid} (h : Inv1 x) (c : Nat) (hc : cur x = c) (hl : x.length ≤ 15) : Fin1 (x.getD c kid0).1 x := by
  have hcl := cur_nat' x (by omega)
  have hlc := (cur_live h.right c (by omega)).2 hc.symm
  refine ⟨h.right, fun k hk hlv => ?_, fun hn => (hn _ (getD_mem (by omega)) hlc).elim, .inl hl⟩
  obtain ⟨i, hi, rfl⟩ := mem_getD hk
  rw [live_one h.right hi (by omega) hlv hlc]
/-- The rounds. -/
def roundN : Nat → List Kid → List Kid
  | 0, x => x
  | r + 1, x => round1 (roundN r x)
theorem roundN_fin {key : ByteArray} {x : List Kid} (h : Fin1 key x) : ∀ r, Fin1 key (roundN r x)
  | 0 => h
  | r + 1 => round_fin (roundN_fin h r)
theorem Fin1.len16 {key : ByteArray} {x : List Kid} (h : Fin1 key x) : x.length ≤ 16 := by rcases h.len with h | h <;> omega
/-- What is left in the midst. -/
def leftTo (x : List Kid) (k : Nat) : List Kid := ((x.take k).filter stays).map calmK
theorem leftTo_succ (x : List Kid) (k : Nat) (hk : k < x.length) : leftTo x (k + 1) = if stays (x.getD k kid0) = true then leftTo x k ++ [calmK (x.getD k kid0)] else leftTo x k := by
  rw [leftTo, take_snoc x kid0 k hk, List.filter_append, List.map_append, leftTo]
  generalize x.getD k kid0 = z
  cases h : stays z
  · simp [List.filter, h]
  · simp [List.filter, h]
theorem leftTo_len (x : List Kid) (k : Nat) : (leftTo x k).length ≤ k := by
  rw [leftTo, List.length_map]
  have h1 := List.length_filter_le stays (x.take k)
  have h2 : (x.take k).length ≤ k := by rw [List.length_take]; omega
  omega
theorem leftTo_end (x : List Kid) (k : Nat) (hk : x.length ≤ k) : leftTo x k = leftS x := by rw [leftTo, leftS, List.take_of_length_le hk]

end Go.Proofs.Ytkiaaaehakjhjaa
