/-
  The walks over put, Of, Set of layer 4.
  The walks over Of, Set, Drop of layer 4.
  The walks over DeleteFunc at pairs, but, Drop, Same of layer 4.
  The walks over Equal at pairs, Same, Turn of layer 4.
  The walk over Turn of layer 4.
  The walk over Apply of layer 4.
-/
import Derived.Test.YtaalhglooipnaaaGreatL03
import Derived.Test.YtaalhglooipnaaaGreatL02
import Derived.Laws.StructEq
namespace Go.Proofs.YtaalhglooipnaaaGreat
open Go.RowKit
attribute [local go_sem ↓] Go.wp_at_zero Go.wp_at_succ

theorem At.tail {a : Pr} {l : List Pr} {s : ByteArray} {r : Nat} (h : At (a :: l) s (r + 1)) : At l s r :=
  ⟨by have := h.le; simpa using this, fun k hk => h.low (k + 1) (by omega), fun k h1 h2 => h.high (k + 1) (by omega) (by simpa using h2)⟩
theorem putS_at (p : Pr) : ∀ (l : List Pr) (r : Nat), At l p.1 r → putS l p = if isAt l p.1 r = true then l.set r p else l.take r ++ p :: l.drop r
  | [], r, h => by
    have := h.le
    obtain rfl : r = 0 := by simpa using this
    simp [putS, isAt]
  | a :: l, 0, h => by
    have h0 : ltB a.1 p.1 = false := h.high 0 (Nat.le_refl _) (by simp)
    have e : isAt (a :: l) p.1 0 = decide (a.1 = p.1) := by simp [isAt]
    rw [putS, if_neg (by rw [h0]; decide), e]
    by_cases h1 : a.1 = p.1
    · simp [h1]
    · simp [h1]
  | a :: l, r + 1, h => by
    have h0 : ltB a.1 p.1 = true := h.low 0 (by omega)
    have e : isAt (a :: l) p.1 (r + 1) = isAt l p.1 r := by simp [isAt]
    rw [putS, if_pos h0, e, putS_at p l r h.tail]
    by_cases h1 : isAt l p.1 r = true
    · simp [h1]
    · simp [h1]

/-! ### Names that rise -/
def Rise (l : List Pr) : Prop := l.Pairwise fun a b => ltB a.1 b.1 = true
theorem Rise.srt {l : List Pr} (h : Rise l) : Srt l := fun i j hij hj => by
  have := List.pairwise_iff_getElem.1 h i j (by omega) hj hij
  simpa [List.getD, hj, show i < l.length by omega] using this
theorem putS_names (p : Pr) : ∀ (l : List Pr) (q : Pr), q ∈ putS l p → q ∈ l ∨ q = p
  | [], q, h => by simp [putS] at h; exact .inr h
  | a :: l, q, h => by
    rw [putS] at h
    split at h
    · rcases List.mem_cons.1 h with rfl | h
      · exact .inl (by simp)
      · rcases putS_names p l q h with h | h
        · exact .inl (by simp [h])
        · exact .inr h
    · split at h
      · rcases List.mem_cons.1 h with rfl | h
        · exact .inr rfl
        · exact .inl (by simp [h])
      · rcases List.mem_cons.1 h with rfl | h
        · exact .inr rfl
        · exact .inl h
theorem putS_rise (p : Pr) : ∀ (l : List Pr), Rise l → Rise (putS l p)
  | [], _ => List.pairwise_singleton _ _
  | a :: l, h => by
    obtain ⟨h1, h2⟩ := List.pairwise_cons.1 h
    rw [putS]
    split
    · rename_i h0
      refine List.pairwise_cons.2 ⟨fun q hq => ?_, putS_rise p l h2⟩
      rcases putS_names p l q hq with hq | rfl
      · exact h1 q hq
      · exact h0
    · rename_i h0
      split
      · rename_i he
        exact List.pairwise_cons.2 ⟨fun q hq => by rw [← he]; exact h1 q hq, h2⟩
      · rename_i he
        have hpa : ltB p.1 a.1 = true := by
          cases hq : ltB p.1 a.1 with
          | true => rfl
          | false => exact absurd (lt_tri (Bool.eq_false_iff.2 h0) hq) he
        refine List.pairwise_cons.2 ⟨fun q hq => ?_, h⟩
        rcases List.mem_cons.1 hq with rfl | hq
        · exact hpa
        · exact lt_trans hpa (h1 q hq)
theorem putS_len (p : Pr) (l : List Pr) : (putS l p).length ≤ l.length + 1 := by
  induction l with
  | nil => simp [putS]
  | cons a l ih =>
    rw [putS]
    split
    · simp; omega
    · split <;> simp
theorem cvP_set : ∀ (l : List Pr) (r : Nat) (p : Pr), (l.set r p).flatMap cvP = ((l.flatMap cvP).set (r * 2) (.string p.1)).set (r * 2 + 1) (.int .i64 p.2)
  | [], r, p => by simp
  | a :: l, 0, p => by simp [cvP]
  | a :: l, r + 1, p => by
    rw [List.set_cons_succ, List.flatMap_cons, List.flatMap_cons, cvP_set l r p, show (r + 1) * 2 = r * 2 + 2 by omega]
    simp [cvP]

set_option maxRecDepth 100000 in
set_option maxHeartbeats 8000000 in
theorem put_any (v : Value) (base n : Nat) (l : List Pr) (s : ByteArray) (x : Int) (w : World) (h : w.ownsRow base 105 2 v n (l.flatMap cvP)) (hbase : base ≤ w.heap.size) (hln : l.length = n) (hn : n ≤ 900) (hs : Rise l) :
    Calls Tryz.prog 95 #[v, .agg #[.string s, .int .i64 x]] w fun e w' =>
      ∃ A c, e = .returned (.slice A (putS l (s, x)).length c) ∧ w'.ownsRow base 105 2 (.slice A (putS l (s, x)).length c) (putS l (s, x)).length ((putS l (s, x)).flatMap cvP) ∧ w.grownBy w' v.ownBlock := by
  obtain ⟨A, c, rfl⟩ := own_form h
  have HO := Lib.hid (And.intro (h.alloc (.cells #[.string s, .int .i64 x] 105)) (And.intro hbase hln))
  have HS := Lib.hid hs
  have hX := Blk.new w 105 #[.string s, .int .i64 x]
  have y0 := hX.cell 0
  have y1 := hX.cell 1
  have HB := Lib.hid ((Below.refl w.heap.size w).alloc (Nat.le_refl _) (.cells #[.string s, .int .i64 x] 105))
  have HXL := Lib.hid hX.lt
  have HNE := Lib.hid (show (Value.slice A n c).ownBlock ≠ some w.heap.size from fun e => by have := (h.lt _ e).2; omega)
  clear h hbase hln hs hX
  go_enter Tryz.func95, Tryz.ntmps95
  go_wp2_with fail
  obtain ⟨w1, hw1⟩ : ∃ w1, w1 = w.alloc (.cells #[.string s, .int .i64 x] 105) := ⟨_, rfl⟩
  rw [← hw1] at HO HB HXL y0 y1 ⊢
  obtain ⟨X, hXe⟩ : ∃ X, X = w.heap.size := ⟨_, rfl⟩
  have HXE := Lib.hid hXe
  rw [← hXe] at y0 y1 HXL HNE ⊢
  clear hw1 hXe
  refine (where_any A n c _ l s _ (Rd.of_own (cv := cvP) (d := pr0) (fun _ => rfl) HO.out.1 HO.out.2.2) (Nat.le_refl _) (by omega) HS.out.srt).mono ?_
  rintro e w2 ⟨r, rfl, hr, hb2⟩
  have HA := Lib.hid hr
  have HR := Lib.hid (putS_at (s, x) l r hr)
  have hrn := hr.le
  rw [HO.out.2.2] at hrn
  replace y0 := (hb2.cell (p := ⟨X, 0, none⟩) HXL.out).trans y0
  replace y1 := (hb2.cell (p := ⟨X, 1, none⟩) HXL.out).trans y1
  have HO2 := Lib.hid (own_keep HO.out.1 hb2)
  have HB2 := Lib.hid (HB.out.trans (hb2.mono HB.out.size))
  clear hr hb2
  obtain ⟨q, hq⟩ : ∃ q, q = isAt l s r := ⟨_, rfl⟩
  have HQ := Lib.hid hq
  rw [← hq]
  rw [show ((s, x) : Pr).1 = s from rfl, ← hq] at HR
  clear hq
  cases q
  · have HR2 := Lib.hid (show putS l (s, x) = l.take r ++ (s, x) :: l.drop r by rw [HR.out]; rfl)
    have HL2 := Lib.hid (show (putS l (s, x)).length = n + 1 by rw [HR2.out, List.length_append, List.length_cons, List.length_take, List.length_drop, HO.out.2.2]; omega)
    have i1 : (0 : Int) ≤ (r : Int) := by omega
    go_wp2_with fail
    refine (insert_any (.slice A n c) base n l w2.heap.size r s x _ (HO2.out.alloc _) (by have := HO.out.2.1; have := HB2.out.size; simp; omega) HO.out.2.2 (by omega) hrn (Blk.new _ _ _) (fun e => by have := (HO2.out.lt _ e).2; omega)).mono ?_
    rintro e w3 ⟨A3, c3, rfl, hown, hg⟩
    have HX := Lib.hid (And.intro hown (only_trans (only_of_below HB2.out _) (only_trans (only_of_below ((Below.refl w2.heap.size w2).alloc (Nat.le_refl _) _) _) hg)))
    clear hown hg
    go_wp2
    go_ret
    rw [HL2.out]
    exact ⟨A3, c3, rfl, by rw [HR2.out]; exact HX.out.1, HX.out.2⟩
  · have hrl : r < n := by
      have := HQ.out
      simp only [isAt, Bool.true_eq, Bool.and_eq_true, decide_eq_true_eq] at this
      rw [HO.out.2.2] at this
      exact this.1
    have HR2 := Lib.hid (show putS l (s, x) = l.set r (s, x) by rw [HR.out]; rfl)
    have HL2 := Lib.hid (show (putS l (s, x)).length = n by rw [HR2.out, List.length_set, HO.out.2.2])
    obtain ⟨g, cap, hv, hg, hgl⟩ := HO2.out.form (by omega)
    injection hv with hA1 hA2 hA3
    subst hA1 hA3
    clear hA2
    have i1 : (0 : Int) ≤ (r : Int) := by omega
    have i2 : (r : Int) < (n : Int) := by omega
    have hll : (l.flatMap cvP).length = n * 2 := by rw [cvP_len, HO.out.2.2]
    obtain ⟨u0, hu0⟩ : ∃ u, w2.cell? ⟨g, r * 2, none⟩ = some u := by
      rw [HO2.out.cellAt (r * 2) (by omega)]
      exact ⟨_, List.getElem?_eq_getElem (by omega)⟩
    obtain ⟨u1, hu1⟩ : ∃ u, w2.cell? ⟨g, r * 2 + 1, none⟩ = some u := by
      rw [HO2.out.cellAt (r * 2 + 1) (by omega)]
      exact ⟨_, List.getElem?_eq_getElem (by omega)⟩
    have hf0 := HO2.out.frozenAt (r * 2)
    have hf1 := HO2.out.frozenAt (r * 2 + 1)
    have st := HO2.out.stored (r * 2) (.string s)
    have st2 := st.1.stored (r * 2 + 1) (.int .i64 x)
    have HX := Lib.hid (And.intro st2.1 (only_trans (only_of_below HB2.out (some g)) (only_trans st.2 st2.2)))
    clear st st2 hll hg
    go_wp2
    go_ret
    rw [HL2.out]
    exact ⟨some ⟨g, 0, none⟩, c, rfl, by rw [HR2.out, cvP_set]; exact HX.out.1, HX.out.2⟩

end Go.Proofs.YtaalhglooipnaaaGreat
namespace Go.Proofs.YtaalhglooipnaaaGreat
open Go.RowKit
attribute [local go_sem ↓] Go.wp_at_zero Go.wp_at_succ

def ofTo (l : List Pr) : Nat → List Pr
  | 0 => []
  | k + 1 => putS (ofTo l k) (l.getD k pr0)
def ofS (l : List Pr) : List Pr := ofTo l l.length
theorem ofTo_len (l : List Pr) (k : Nat) : (ofTo l k).length ≤ k := by
  induction k with
  | zero => exact Nat.le_refl _
  | succ k ih => have := putS_len (l.getD k pr0) (ofTo l k); rw [ofTo]; omega
theorem ofTo_rise (l : List Pr) (k : Nat) : Rise (ofTo l k) := by
  induction k with
  | zero => exact List.Pairwise.nil
  | succ k ih => exact putS_rise _ _ ih
theorem ofS_rise (l : List Pr) : Rise (ofS l) := ofTo_rise l _
theorem ofS_len (l : List Pr) : (ofS l).length ≤ l.length := ofTo_len l _
/-- What hands back a row of pairs leaves. -/
def PrPost (w : World) (l : List Pr) (e : Ending) (w' : World) : Prop :=
  ∃ A c, e = .returned (.slice A l.length c) ∧ w'.ownsRow w.heap.size 105 2 (.slice A l.length c) l.length (l.flatMap cvP) ∧ Below w.heap.size w w'

set_option maxRecDepth 100000 in
set_option maxHeartbeats 8000000 in
theorem of_any (A : Option Addr) (n c : Nat) (l : List Pr) (w : World) (hz : Ps w w.heap.size A n l) (hn : n ≤ 500) :
    Calls Tryz.prog 58 #[.slice A n c] w (PrPost w (ofS l)) := by
  have HZ := Lib.hid hz
  clear hz
  go_enter Tryz.func58, Tryz.ntmps58
  go_wp2_with fail
  go_loopw [3, 8] (fun vo i wx => ∃ k : Nat, k ≤ n ∧ i = .int .i64 k ∧ wx.ownsRow w.heap.size 105 2 vo (ofTo l k).length ((ofTo l k).flatMap cvP) ∧ Below w.heap.size w wx) (fun _ i _ => n - (intOf i).toNat)
  case atStart => exact ⟨0, Nat.zero_le _, rfl, World.ownsRow_nil _ _ _ _, Below.refl _ _⟩
  case round =>
    obtain ⟨k, hk, rfl, hown, hb⟩ := hrel
    obtain ⟨vo, hvo⟩ : ∃ vo, vo = u3 := ⟨_, rfl⟩
    rw [← hvo] at hown ⊢
    clear hvo
    by_cases hlt : k < n
    · obtain ⟨b, off, rfl, hbB, d0, d1⟩ := HZ.out.pr k hlt
      replace d0 := (hb.cell (p := ⟨b, off + k * 2, none⟩) hbB).trans d0
      replace d1 := (hb.cell (p := ⟨b, off + k * 2 + 1, none⟩) hbB).trans d1
      have HC := Lib.hid (show ofTo l (k + 1) = putS (ofTo l k) (l.getD k pr0) from rfl)
      have hol := ofTo_len l k
      have HRI := Lib.hid (ofTo_rise l k)
      obtain ⟨⟨s, x⟩, hs⟩ : ∃ s, s = l.getD k pr0 := ⟨_, rfl⟩
      obtain ⟨o, ho⟩ : ∃ o, o = ofTo l k := ⟨_, rfl⟩
      rw [← hs] at d0 d1 HC
      rw [← ho] at hown HC hol HRI
      simp only at d0 d1
      have i1 : (0 : Int) ≤ (k : Int) := by omega
      have i2 : (k : Int) < (n : Int) := by omega
      have HO := Lib.hid (And.intro (hown.alloc (.cells #[.string s, .int .i64 x] 105)) (hb.alloc hb.size (.cells #[.string s, .int .i64 x] 105)))
      have HOL := Lib.hid (fun j hj => (hown.lt j hj).1)
      have hX := Blk.new wr 105 #[.string s, .int .i64 x]
      have y0 := hX.cell 0
      have y1 := hX.cell 1
      clear hs ho hown hb hX
      go_wp2_with fail
      refine (put_any vo _ o.length o s x _ HO.out.1 HO.out.2.size rfl (by omega) HRI.out).mono ?_
      rintro e w4 ⟨A2, c2, rfl, hown2, hg2⟩
      have HX := Lib.hid (And.intro hown2 (HO.out.2.grown hg2 HO.out.2.size HOL.out))
      clear hown2 hg2
      go_wp2_with fail
      go_roundw
      case rel => exact ⟨k + 1, by omega, by go_num, by rw [HC.out]; exact HX.out.1, HX.out.2⟩
      case measure => simp [intOf]; omega
    · obtain rfl : k = n := by omega
      obtain ⟨A5, c5, hv⟩ := own_form hown
      subst hv
      have HE := Lib.hid (show ofS l = ofTo l k by rw [ofS, HZ.out.1])
      have HO := Lib.hid (And.intro hown hb)
      clear hown hb
      go_wp2
      go_ret
      rw [HE.out]
      exact ⟨A5, c5, rfl, HO.out.1, HO.out.2⟩

set_option maxHeartbeats 4000000 in
theorem set_any (A : Option Addr) (n c : Nat) (l : List Pr) (s : ByteArray) (x : Int) (w : World) (hz : Ps w w.heap.size A n l) (hn : n ≤ 500) :
    Calls Tryz.prog 105 #[.slice A n c, .string s, .int .i64 x] w (PrPost w (putS (ofS l) (s, x))) := by
  have HZ := Lib.hid hz
  clear hz
  go_enter Tryz.func105, Tryz.ntmps105
  go_wp2_with fail
  refine (of_any A n c l _ HZ.out hn).mono ?_
  rintro e w1 ⟨A1, c1, rfl, hown, hb⟩
  have HO := Lib.hid (And.intro hown hb)
  have hl := ofS_len l
  rw [HZ.out.1] at hl
  have HRI := Lib.hid (ofS_rise l)
  obtain ⟨o, ho⟩ : ∃ o, o = ofS l := ⟨_, rfl⟩
  rw [← ho] at HO hl HRI ⊢
  have HOE := Lib.hid ho
  clear ho hown hb
  go_wp2_with fail
  refine (put_any _ _ o.length o s x _ HO.out.1 HO.out.2.size rfl (by omega) HRI.out).mono ?_
  rintro e w4 ⟨A2, c2, rfl, hown2, hg2⟩
  have HX := Lib.hid (And.intro hown2 (HO.out.2.grown hg2 HO.out.2.size (fun j hj => (HO.out.1.lt j hj).1)))
  clear hown2 hg2
  go_wp2
  go_ret
  rw [← HOE.out]
  exact ⟨A2, c2, rfl, HX.out.1, HX.out.2⟩

/-! ### Without a name -/
def IsIxP (l : List Pr) (s : ByteArray) (r : Int) : Prop := (r = -1 ∧ ∀ j, j < l.length → (l.getD j pr0).1 ≠ s) ∨ ∃ k : Nat, r = k ∧ k < l.length ∧ (l.getD k pr0).1 = s ∧ ∀ j, j < k → (l.getD j pr0).1 ≠ s
end Go.Proofs.YtaalhglooipnaaaGreat
namespace Go.Proofs.YtaalhglooipnaaaGreat
open Go.RowKit
attribute [local go_sem ↓] Go.wp_at_zero Go.wp_at_succ

/-- Without a name. -/
def offP (s : ByteArray) (l : List Pr) : List Pr := l.filter fun x => !isS x.1 s
theorem offP_snoc (s : ByteArray) (l : List Pr) (k : Nat) (h : k < l.length) : offP s (l.take (k + 1)) = if isS (l.getD k pr0).1 s = true then offP s (l.take k) else offP s (l.take k) ++ [l.getD k pr0] := by
  rw [take_snoc l pr0 k h, offP, List.filter_append]
  generalize l.getD k pr0 = x
  by_cases e : isS x.1 s = true
  · rw [if_pos e]; simp [offP, e]
  · rw [if_neg e]; simp [offP, e]
theorem offP_id (s : ByteArray) (l : List Pr) (h : ∀ j, j < l.length → (l.getD j pr0).1 ≠ s) : offP s l = l := by
  apply List.filter_eq_self.2
  intro a ha
  obtain ⟨i, h1, h2⟩ := List.mem_iff_getElem.1 ha
  have := h i h1
  simpa [isS, List.getD, h1, h2] using this
theorem offP_len (s : ByteArray) (l : List Pr) : (offP s l).length ≤ l.length := List.length_filter_le _ _
/-- In the midst of taking a name out. -/
structure DelP (s : ByteArray) (l ys : List Pr) (j i : Nat) : Prop where
  len : ys.length = l.length
  head : ys.take i = offP s (l.take j)
  tail : ∀ m, j ≤ m → ys.getD m pr0 = l.getD m pr0
  lt : i < j
  jl : j ≤ l.length
theorem DelP.start {s : ByteArray} {l : List Pr} {k : Nat} (hk : k < l.length) (he : (l.getD k pr0).1 = s) (hn : ∀ j, j < k → (l.getD j pr0).1 ≠ s) : DelP s l l (k + 1) k :=
  ⟨rfl, by
    rw [offP_snoc s l k hk, if_pos (by rw [he]; simp [isS])]
    refine (offP_id s _ fun j hj => ?_).symm
    have hj2 : j < k := by rw [List.length_take] at hj; omega
    have := hn j hj2
    simpa [List.getD, List.getElem?_take, hj2] using this, fun _ _ => rfl, Nat.lt_succ_self _, hk⟩
theorem DelP.skip {s : ByteArray} {l ys : List Pr} {j i : Nat} (d : DelP s l ys j i) (hj : j < l.length) (he : isS (l.getD j pr0).1 s = true) : DelP s l ys (j + 1) i :=
  ⟨d.len, by rw [offP_snoc s l j hj, if_pos he]; exact d.head, fun m hm => d.tail m (by omega), by have := d.lt; omega, hj⟩
theorem DelP.keep {s : ByteArray} {l ys : List Pr} {j i : Nat} (d : DelP s l ys j i) (hj : j < l.length) (he : isS (l.getD j pr0).1 s = false) : DelP s l (ys.set i (l.getD j pr0)) (j + 1) (i + 1) := by
  have h1 := d.len
  have h2 := d.lt
  refine ⟨by rw [List.length_set]; exact h1, ?_, fun m hm => ?_, by omega, hj⟩
  · rw [offP_snoc s l j hj, if_neg (by rw [he]; decide), ← d.head, take_snoc _ pr0 i (by rw [List.length_set]; omega), List.take_set_of_le (Nat.le_refl _)]
    simp [List.getD, show i < ys.length by omega]
  · have := d.tail m (by omega)
    rw [← this]
    simp [List.getD, show i ≠ m by omega]
theorem DelP.fin {s : ByteArray} {l ys : List Pr} {i : Nat} (d : DelP s l ys l.length i) : ys.take i = offP s l := by
  have := d.head
  rwa [List.take_length] at this
theorem pr_one : ∀ v ∈ (Value.agg #[.string ByteArray.empty, .int .i64 0]).cells, v.oneCell' = true := by
  intro v hv
  simp [Value.cells] at hv
  rcases hv with rfl | rfl <;> rfl

theorem own_two {w : World} {base g n c : Nat} {xs : List Value} {e : TypeId} (h : w.ownsRow base e 2 (.slice (some ⟨g, 0, none⟩) n c) n xs) (i : Nat) (hi : (i : Int) < (n : Int)) : ∃ u0 u1, w.cell? ⟨g, i * 2, none⟩ = some u0 ∧ w.cell? ⟨g, i * 2 + 1, none⟩ = some u1 := by
  have hl := h.1
  rw [h.cellAt (i * 2) (by omega), h.cellAt (i * 2 + 1) (by omega), List.getElem?_eq_getElem (by omega), List.getElem?_eq_getElem (by omega)]
  exact ⟨_, _, rfl, rfl⟩

end Go.Proofs.YtaalhglooipnaaaGreat
namespace Go.Proofs.YtaalhglooipnaaaGreat
open Go.RowKit
attribute [local go_sem ↓] Go.wp_at_zero Go.wp_at_succ

theorem neq_pr (t s : ByteArray) (x y : Int) (w : World) : (binOp .neq 105 (.agg #[.string t, .int .i64 x]) (.agg #[.string s, .int .i64 y])).run Tryz.prog w = .ok (.bool !(decide (((t, x) : Pr) = (s, y)))) w := by
  have u3 := Tryz.underlying3
  have u9 := Tryz.underlying9
  have hS : Tryz.prog.underlying 105 = some (.struct (Tryz.prog.fieldsOf 105)) := by kernel_rfl
  have hp : Tryz.prog.stoodInHeld 105 = false := by kernel_rfl
  have he : (Op.equalIn 10000 105 (.agg #[.string t, .int .i64 x]) (.agg #[.string s, .int .i64 y])).run Tryz.prog w = .ok (decide (((t, x) : Pr) = (s, y))) w := by
    rw [show (10000 : Nat) = 9999 + 1 from rfl, run_equalIn_agg w 9999 105 _ _ hS hp]
    simp only [Program.fieldsOf, Tryz.underlying105]
    go_simp
    by_cases h2 : t.toList = s.toList
    · have h3 := toList_inj h2
      by_cases h1 : x = y
      · simp [h1, h3]
      · simp [h1, h3]
    · have h3 : ¬ t = s := fun e => h2 (by rw [e])
      simp [h2, h3]
  simp only [binOp]
  simp [Op.equal, Op.maxDepth, he]

set_option maxHeartbeats 4000000 in
theorem equalP_any (A B : Option Addr) (n c c' B1 B2 : Nat) (l : List Pr) (w : World) (hz : Ps w B1 A n l) (hz' : Ps w B2 B n l) (hn : n ≤ 1000) :
    Calls Tryz.prog 85 #[.slice A n c, .slice B n c'] w fun e w' => e = .returned (.bool true) ∧ Below w.heap.size w w' := by
  have HZ := Lib.hid (And.intro hz hz')
  clear hz hz'
  go_enter Tryz.func85, Tryz.ntmps85
  go_wp2_with fail
  go_loopw [13] (fun i wx => ∃ k : Nat, k ≤ n ∧ i = .int .i64 k ∧ Below w.heap.size w wx ∧ Hid (Ps wx B1 A n l ∧ Ps wx B2 B n l)) (fun i _ => n - (intOf i).toNat)
  case atStart => exact ⟨0, Nat.zero_le _, rfl, Below.refl _ _, HZ.out⟩
  case round =>
    obtain ⟨k, hk, rfl, hb, hS⟩ := hrel
    by_cases hlt : k < n
    · obtain ⟨b, off, rfl, hbB, d0, d0'⟩ := hS.out.1.pr k hlt
      obtain ⟨b2, off2, rfl, hbB2, d1, d1'⟩ := hS.out.2.pr k hlt
      obtain ⟨⟨t, x⟩, ht⟩ : ∃ t, t = l.getD k pr0 := ⟨_, rfl⟩
      rw [← ht] at d0 d1 d0' d1'
      simp only at d0 d1 d0' d1'
      have i1 : (0 : Int) ≤ (k : Int) := by omega
      have i2 : (k : Int) < (n : Int) := by omega
      have hq : ∀ w, (binOp .neq 105 (.agg #[.string t, .int .i64 x]) (.agg #[.string t, .int .i64 x])).run Tryz.prog w = .ok (.bool false) w := fun w => by rw [neq_pr]; simp
      have HB := Lib.hid hb
      clear ht hb
      go_upto_region 6 with fail
      go_region
      all_goals (
        go_wp2_with fail
        go_roundw)
      all_goals first
        | exact ⟨k + 1, by omega, by go_num, HB.out.drew, Lib.hid ⟨hS.out.1, hS.out.2⟩⟩
        | (simp [intOf]; omega)
    · obtain rfl : k = n := by omega
      have HB := Lib.hid hb
      clear hb
      go_wp2
      go_ret
      exact ⟨by first | rfl | simp, HB.out⟩

set_option maxHeartbeats 4000000 in
theorem sameP_any (A B : Option Addr) (n c m c' : Nat) (l l' : List Pr) (w : World) (hz : Ps w w.heap.size A n l) (hz' : Ps w w.heap.size B m l') (he : ofS l = ofS l') (hn : n ≤ 500) (hm : m ≤ 500) :
    Calls Tryz.prog 43 #[.slice A n c, .slice B m c'] w fun e w' => e = .returned (.bool true) ∧ Below w.heap.size w w' := by
  have HZ := Lib.hid (And.intro hz (And.intro hz' he))
  clear hz hz' he
  go_enter Tryz.func43, Tryz.ntmps43
  go_wp2_with fail
  refine (of_any A n c l _ HZ.out.1 hn).mono ?_
  rintro e w1 ⟨A1, c1, rfl, hown1, hb1⟩
  have H1 := Lib.hid (And.intro hown1 hb1)
  clear hown1 hb1
  go_wp2_with fail
  refine (of_any B m c' l' _ ((HZ.out.2.1.below H1.out.2).more H1.out.2.size) hm).mono ?_
  rintro e w2 ⟨A2, c2, rfl, hown2, hb2⟩
  have hl := ofS_len l
  rw [HZ.out.1.1] at hl
  rw [← HZ.out.2.2] at hown2 ⊢
  have H2 := Lib.hid (And.intro hown2 hb2)
  clear hown2 hb2
  go_wp2_with fail
  refine (equalP_any A1 A2 (ofS l).length c1 c2 _ _ (ofS l) _ (Rd.of_own (cv := cvP) (d := pr0) (fun _ => rfl) (own_keep H1.out.1 H2.out.2) rfl) (Rd.of_own (cv := cvP) (d := pr0) (fun _ => rfl) H2.out.1 rfl) (by omega)).mono ?_
  rintro e w3 ⟨rfl, hb3⟩
  have HB := Lib.hid (H1.out.2.trans ((H2.out.2.trans (hb3.mono H2.out.2.size)).mono H1.out.2.size))
  clear hb3
  go_wp2
  go_ret
  exact ⟨rfl, HB.out⟩

/-! ### Turn -/
def hasN (l : List Pr) (s : ByteArray) : Bool := l.any fun q => decide (q.1 = s)
def memP (l : List Pr) (p : Pr) : Bool := l.any fun q => decide (q = p)
theorem hasN_iff (l : List Pr) (s : ByteArray) : hasN l s = true ↔ ∃ q ∈ l, q.1 = s := by simp [hasN]
theorem memP_iff (l : List Pr) (p : Pr) : memP l p = true ↔ p ∈ l := by simp [memP]
theorem getD_mem {l : List Pr} {r : Nat} (h : r < l.length) : l.getD r pr0 ∈ l := by
  have e : l.getD r pr0 = l[r] := by simp [List.getD, h]
  rw [e]; exact List.getElem_mem h
theorem Rise.uniq {l : List Pr} (h : Rise l) {i j : Nat} (hi : i < l.length) (hj : j < l.length) (he : (l.getD i pr0).1 = (l.getD j pr0).1) : i = j := by
  rcases Nat.lt_trichotomy i j with h1 | h1 | h1
  · exact absurd he (lt_ne (h.srt i j h1 hj))
  · exact h1
  · exact absurd he.symm (lt_ne (h.srt j i h1 hi))
theorem at_hasN {l : List Pr} {s : ByteArray} {r : Nat} (h : At l s r) (hr : Rise l) : isAt l s r = hasN l s := by
  apply Bool.eq_iff_iff.2
  rw [hasN_iff, isAt, Bool.and_eq_true, decide_eq_true_eq, decide_eq_true_eq]
  constructor
  · rintro ⟨h1, h2⟩
    exact ⟨_, getD_mem h1, h2⟩
  · rintro ⟨q, hq, rfl⟩
    obtain ⟨i, hi, he⟩ := List.mem_iff_getElem.1 hq
    have hg : l.getD i pr0 = q := by simp [List.getD, hi, he]
    by_cases hir : i < r
    · have := h.low i hir
      rw [hg, lt_irrefl] at this
      cases this
    · by_cases e : i = r
      · subst e; exact ⟨hi, by rw [hg]⟩
      · have h1 := h.high r (Nat.le_refl _) (by omega)
        have h2 := hr.srt r i (by omega) hi
        rw [hg] at h2
        rw [h2] at h1
        cases h1
theorem at_memP {l : List Pr} {p : Pr} {r : Nat} (hr : Rise l) (hi : isAt l p.1 r = true) : memP l p = decide (l.getD r pr0 = p) := by
  rw [isAt, Bool.and_eq_true, decide_eq_true_eq, decide_eq_true_eq] at hi
  apply Bool.eq_iff_iff.2
  rw [memP_iff, decide_eq_true_eq]
  constructor
  · intro h
    obtain ⟨i, hi', he⟩ := List.mem_iff_getElem.1 h
    have hg : l.getD i pr0 = p := by simp [List.getD, hi', he]
    have := hr.uniq hi' hi.1 (by rw [hg, hi.2])
    subst this
    exact hg
  · intro h
    rw [← h]
    exact getD_mem hi.1
theorem not_memP {l : List Pr} {p : Pr} (h : hasN l p.1 = false) : memP l p = false := by
  cases hq : memP l p with
  | false => rfl
  | true =>
    have := (hasN_iff l p.1).2 ⟨p, (memP_iff l p).1 hq, rfl⟩
    rw [h] at this
    cases this

/-- A step of layer 4. -/
abbrev Pst := Bool × ByteArray × Int
def pst0 : Pst := (false, ByteArray.empty, 0)
def cvU (p : Pst) : List Value := [.bool p.1, .string p.2.1, .int .i64 p.2.2]
theorem cvU_snoc (l : List Pst) (p : Pst) : (l ++ [p]).flatMap cvU = l.flatMap cvU ++ [.bool p.1, .string p.2.1, .int .i64 p.2.2] := by simp [cvU]
abbrev Us (w : World) (B : Nat) (A : Option Addr) (n : Nat) (l : List Pst) : Prop := Rd cvU pst0 3 w B A n l
theorem Rd.pst {w : World} {B : Nat} {A : Option Addr} {n : Nat} {l : List Pst} (h : Us w B A n l) (k : Nat) (hk : k < n) : ∃ b off, A = some ⟨b, off, none⟩ ∧ b < B ∧ w.cell? ⟨b, off + k * 3, none⟩ = some (.bool (l.getD k pst0).1) ∧ w.cell? ⟨b, off + k * 3 + 1, none⟩ = some (.string (l.getD k pst0).2.1) ∧ w.cell? ⟨b, off + k * 3 + 2, none⟩ = some (.int .i64 (l.getD k pst0).2.2) := by
  obtain ⟨b, off, hA, hB, h0⟩ := h.2 k hk
  exact ⟨b, off, hA, hB, h0 0 (by omega), h0 1 (by omega), h0 2 (by omega)⟩
def dropsU (cb ca : List Pr) : Nat → List Pst
  | 0 => []
  | k + 1 => if hasN cb (ca.getD k pr0).1 = true then dropsU cb ca k else dropsU cb ca k ++ [(true, (ca.getD k pr0).1, 0)]
def setsU (o : List Pst) (ca cb : List Pr) : Nat → List Pst
  | 0 => o
  | k + 1 => if memP ca (cb.getD k pr0) = true then setsU o ca cb k else setsU o ca cb k ++ [(false, (cb.getD k pr0).1, (cb.getD k pr0).2)]
def turnU (ca cb : List Pr) : List Pst := setsU (dropsU cb ca ca.length) ca cb cb.length
def turnP (a b : List Pr) : List Pst := turnU (ofS a) (ofS b)
theorem dropsU_len (cb ca : List Pr) (k : Nat) : (dropsU cb ca k).length ≤ k := by
  induction k with
  | zero => exact Nat.le_refl _
  | succ k ih => rw [dropsU]; split <;> (try rw [List.length_append]) <;> (try simp only [List.length_cons, List.length_nil]) <;> omega
theorem setsU_len (o : List Pst) (ca cb : List Pr) (k : Nat) : (setsU o ca cb k).length ≤ o.length + k := by
  induction k with
  | zero => exact Nat.le_refl _
  | succ k ih => rw [setsU]; split <;> (try rw [List.length_append]) <;> (try simp only [List.length_cons, List.length_nil]) <;> omega

end Go.Proofs.YtaalhglooipnaaaGreat
namespace Go.Proofs.YtaalhglooipnaaaGreat
open Go.RowKit
attribute [local go_sem ↓] Go.wp_at_zero Go.wp_at_succ

end Go.Proofs.YtaalhglooipnaaaGreat
namespace Go.Proofs.YtaalhglooipnaaaGreat
open Go.RowKit
attribute [local go_sem ↓] Go.wp_at_zero Go.wp_at_succ

def stepU (l : List Pr) (s : Pst) : List Pr := if s.1 = true then offP s.2.1 (ofS l) else putS (ofS l) (s.2.1, s.2.2)
def applyUTo (l : List Pr) (steps : List Pst) : Nat → List Pr
  | 0 => ofS l
  | k + 1 => stepU (applyUTo l steps k) (steps.getD k pst0)
def applyU (l : List Pr) (steps : List Pst) : List Pr := applyUTo l steps steps.length
theorem applyUTo_len (l : List Pr) (steps : List Pst) (k : Nat) : (applyUTo l steps k).length ≤ l.length + k := by
  induction k with
  | zero => exact ofS_len l
  | succ k ih =>
    rw [applyUTo, stepU]
    split
    · have h1 := offP_len (steps.getD k pst0).2.1 (ofS (applyUTo l steps k)); have h2 := ofS_len (applyUTo l steps k); omega
    · have h1 := putS_len ((steps.getD k pst0).2.1, (steps.getD k pst0).2.2) (ofS (applyUTo l steps k)); have h2 := ofS_len (applyUTo l steps k); omega

/-! ### Few, Own -/
theorem blk_new2 (w : World) (o : Obj) (t : TypeId) (cs : Array Value) : Blk ((w.alloc o).alloc (.cells cs t)) (w.heap.size + 1) t cs := by
  have h := Blk.new (w.alloc o) t cs
  rw [World.size_alloc] at h
  exact h
def fewP (M : Nat) (l : List Pr) : List Pr := (l.take M).map fun p => (cut20 p.1, p.2)
theorem fewP_len (M : Nat) (l : List Pr) : (fewP M l).length = min M l.length := by simp [fewP]
theorem fewP_succ (l : List Pr) (k : Nat) (h : k < l.length) : fewP (k + 1) l = fewP k l ++ [(cut20 (l.getD k pr0).1, (l.getD k pr0).2)] := by
  rw [fewP, take_snoc l pr0 k h, List.map_append]; rfl

set_option maxRecDepth 100000 in
set_option maxHeartbeats 8000000 in
theorem fewP_any (A : Option Addr) (n c M : Nat) (hM : M ≤ 100) (l : List Pr) (w : World) (hz : Ps w w.heap.size A n l) :
    Calls Tryz.prog 52 #[.slice A n c, .int .i64 (M : Nat)] w fun e w' =>
      ∃ A c, e = .returned (.slice A (fewP M l).length c) ∧ w'.ownsRow w.heap.size 120 2 (.slice A (fewP M l).length c) (fewP M l).length ((fewP M l).flatMap cvP) ∧ Below w.heap.size w w' := by
  obtain ⟨tr, hi, hz0, hz1, hz2⟩ := info_parts rf_info
  have HZ := Lib.hid hz
  clear hz
  go_enter Tryz.func52, Tryz.ntmps52
  go_wp2_with fail
  go_loopw [5, 6] (fun vo i wx => ∃ k : Nat, k ≤ n ∧ k ≤ M ∧ i = .int .i64 k ∧ wx.ownsRow w.heap.size 120 2 vo k ((fewP k l).flatMap cvP) ∧ Below w.heap.size w wx) (fun _ i _ => M - (intOf i).toNat)
  case atStart => exact ⟨0, Nat.zero_le _, Nat.zero_le _, rfl, World.ownsRow_nil _ _ _ _, Below.refl _ _⟩
  case round =>
    obtain ⟨k, hk, hkM, rfl, hown, hb⟩ := hrel
    obtain ⟨vo, hvo⟩ : ∃ vo, vo = u5 := ⟨_, rfl⟩
    rw [← hvo] at hown ⊢
    clear hvo
    by_cases hlt : k < n ∧ k < M
    · obtain ⟨h1, h2⟩ := hlt
      obtain ⟨b, off, rfl, hbB, d0, d1⟩ := HZ.out.pr k h1
      have HS := Lib.hid (fewP_succ l k (by have := HZ.out.1; omega))
      obtain ⟨⟨s, x⟩, hs⟩ : ∃ s, s = l.getD k pr0 := ⟨_, rfl⟩
      rw [← hs] at d0 d1 HS
      simp only at d0 d1
      have D01 := Lib.hid (And.intro d0 d1)
      replace d0 := (hb.cell (p := ⟨b, off + k * 2, none⟩) hbB).trans d0
      replace d1 := (hb.cell (p := ⟨b, off + k * 2 + 1, none⟩) hbB).trans d1
      have i1 : (0 : Int) ≤ (k : Int) := by omega
      have i2 : (k : Int) < (n : Int) := by omega
      have i3 : (k : Int) < (M : Nat) := by omega
      have n0 := World.new_ne wr ⟨b, off + k * 2, none⟩ d0
      have n1 := World.new_ne wr ⟨b, off + k * 2 + 1, none⟩ d1
      have HO := Lib.hid (And.intro hown.drew hb.drew)
      clear hs hown hb
      go_upto_region 5 with fail
      go_region_held3 (fun w' => w'.cell? ⟨b, off + k * 2, none⟩ = some (.string s) ∧ w'.cell? ⟨b, off + k * 2 + 1, none⟩ = some (.int .i64 x)) (go_keep)
        (first
          | (go_at_call 50; ((with_reducible refine (cut_any _ _).mono ?_); rintro e w' ⟨rfl, rfl⟩))
          | (refine step_append_lies _ (by rfl) _ _ _ (by rfl) w.heap.size 120 tr _ 2 24 Tryz.underlying27 hi hz0 hz1 hz2 (by rfl) (by decide) _ k ((fewP k l).flatMap cvP) (by rfl) (by exact HO.out.1.alloc _) _ 1 1 [.string (cut20 s), .int .i64 x] (by rfl) (by rfl) (by exact World.news_of_block (heap_alloc_new _ _)) (by intro u hu; simp at hu; rcases hu with rfl | rfl <;> rfl) (by omega) (by unfold maxLen; omega) (by omega) (by have := HO.out.2.size; simp at this ⊢; omega) _ rfl ?_; intro g2 cap2 w2 hown2 hg2 hat2 hlt2; have HX := Lib.hid (And.intro hown2 ((HO.out.2.alloc HO.out.2.size _).grown hg2 (HO.out.2.alloc HO.out.2.size _).size (fun j hj => (HO.out.1.lt j hj).1))); have s0 := (HX.out.2.cell (p := ⟨b, off + k * 2, none⟩) hbB).trans D01.out.1; have s1 := (HX.out.2.cell (p := ⟨b, off + k * 2 + 1, none⟩) hbB).trans D01.out.2; clear hown2 hg2 hat2 hlt2))
      all_goals (
        go_wp2_with fail
        go_roundw)
      all_goals first
        | (refine ⟨k + 1, by omega, by omega, by go_num, ?_⟩; rw [HS.out, cvP_snoc]; exact ⟨HX.out.1, HX.out.2⟩)
        | (simp [intOf]; omega)
    · have HE := Lib.hid (show fewP k l = fewP M l ∧ (fewP M l).length = k by
        have hl := HZ.out.1
        have e : fewP k l = fewP M l := by
          rw [fewP, fewP]
          by_cases h : k = M
          · rw [h]
          · rw [List.take_of_length_le (by omega), List.take_of_length_le (by omega)]
        exact ⟨e, by rw [← e, fewP_len]; omega⟩)
      rw [HE.out.1] at hown
      obtain ⟨A5, c5, hv⟩ := own_form hown
      subst hv
      have HO := Lib.hid (And.intro hown hb)
      clear hown hb
      by_cases h1 : k < n
      · have i1 : (k : Int) < (n : Int) := by omega
        have i3 : decide ((k : Int) < (M : Nat)) = false := by simp; omega
        have i4 : decide (k < M) = false := by simp; omega
        clear hlt
        go_wp2
        go_ret
        exact ⟨A5, c5, by rw [HE.out.2]; rfl, by rw [HE.out.2]; exact HO.out.1, HO.out.2⟩
      · have i3 : decide ((k : Int) < (n : Int)) = false := by simp; omega
        have i4 : decide (k < n) = false := by simp; omega
        clear hlt
        go_wp2
        go_ret
        exact ⟨A5, c5, by rw [HE.out.2]; rfl, by rw [HE.out.2]; exact HO.out.1, HO.out.2⟩

set_option maxRecDepth 100000 in
set_option maxHeartbeats 8000000 in
theorem own_any (A : Option Addr) (n c : Nat) (l : List Pr) (w : World) (hz : Ps w w.heap.size A n l) (hn : n ≤ 500) :
    Calls Tryz.prog 26 #[.slice A n c] w (PrPost w l) := by
  obtain ⟨tr, hi, hz0, hz1, hz2⟩ := info_parts pr_info
  have HZ := Lib.hid hz
  clear hz
  go_enter Tryz.func26, Tryz.ntmps26
  go_wp2_with fail
  go_loopw [3, 8] (fun vo i wx => ∃ k : Nat, k ≤ n ∧ i = .int .i64 k ∧ wx.ownsRow w.heap.size 105 2 vo k ((l.take k).flatMap cvP) ∧ Below w.heap.size w wx) (fun _ i _ => n - (intOf i).toNat)
  case atStart => exact ⟨0, Nat.zero_le _, rfl, World.ownsRow_nil _ _ _ _, Below.refl _ _⟩
  case round =>
    obtain ⟨k, hk, rfl, hown, hb⟩ := hrel
    obtain ⟨vo, hvo⟩ : ∃ vo, vo = u3 := ⟨_, rfl⟩
    rw [← hvo] at hown ⊢
    clear hvo
    by_cases hlt : k < n
    · obtain ⟨b, off, rfl, hbB, d0, d1⟩ := HZ.out.pr k hlt
      replace d0 := (hb.cell (p := ⟨b, off + k * 2, none⟩) hbB).trans d0
      replace d1 := (hb.cell (p := ⟨b, off + k * 2 + 1, none⟩) hbB).trans d1
      have HS := Lib.hid (take_snoc l pr0 k (by have := HZ.out.1; omega))
      obtain ⟨⟨s, x⟩, hs⟩ : ∃ s, s = l.getD k pr0 := ⟨_, rfl⟩
      rw [← hs] at d0 d1 HS
      simp only at d0 d1
      have i1 : (0 : Int) ≤ (k : Int) := by omega
      have i2 : (k : Int) < (n : Int) := by omega
      have HO := Lib.hid (And.intro (hown.alloc (.cells #[.string s, .int .i64 x] 120)) (hb.alloc hb.size (.cells #[.string s, .int .i64 x] 120)))
      have hX := Blk.new wr 120 #[.string s, .int .i64 x]
      have y0 := hX.cell 0
      have y1 := hX.cell 1
      clear hs hown hb hX
      go_wp2_with (first
        | (at_builtin; refine wpList_append_lies _ rfl _ _ _ rfl w.heap.size 105 tr _ 2 24 Tryz.underlying37 hi hz0 hz1 hz2 rfl (by decide) _ k ((l.take k).flatMap cvP) rfl (HO.out.1.alloc _) _ 1 1 [.string s, .int .i64 x] rfl rfl (World.news_of_block (by first | exact heap_alloc_new _ _ | exact Blk.new _ _ _ | exact blk_new2 _ _ _ _)) (by intro u hu; simp at hu; rcases hu with rfl | rfl <;> rfl) (by omega) (by unfold maxLen; omega) (by omega) (by have := HO.out.2.size; simp at this ⊢; omega) _ rfl ?_; intro g2 cap2 w4 hown2 hg2 hat2 hlt2; have HX := Lib.hid (And.intro hown2 ((HO.out.2.alloc HO.out.2.size _).grown hg2 (HO.out.2.alloc HO.out.2.size _).size (fun j hj => (HO.out.1.lt j hj).1))); clear hown2 hg2 hat2 hlt2))
      go_roundw
      case rel => exact ⟨k + 1, by omega, by go_num, by rw [HS.out, cvP_snoc]; exact HX.out.1, HX.out.2⟩
      case measure => simp [intOf]; omega
    · obtain rfl : k = n := by omega
      have HE := Lib.hid (show l.take k = l ∧ l.length = k from ⟨List.take_of_length_le (by have := HZ.out.1; omega), HZ.out.1⟩)
      rw [HE.out.1] at hown
      obtain ⟨A5, c5, hv⟩ := own_form hown
      subst hv
      have HO := Lib.hid (And.intro hown hb)
      clear hown hb
      go_wp2
      go_ret
      exact ⟨A5, c5, by rw [HE.out.2]; rfl, by rw [HE.out.2]; exact HO.out.1, HO.out.2⟩

end Go.Proofs.YtaalhglooipnaaaGreat
