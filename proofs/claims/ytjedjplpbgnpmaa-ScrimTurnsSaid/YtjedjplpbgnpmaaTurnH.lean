/-
  The walks over put, Of, Set of layer 4.
-/
import Derived.Test.YtjedjplpbgnpmaaTurnG
namespace Go.Proofs.Ytjedjplpbgnpmaa
open Go.RowKit
attribute [local go_sem ↓] Go.wp_at_zero Go.wp_at_succ

theorem At.tail {a : Pr} {l : List Pr} {s : ByteArray} {r : Nat} (h : At (a :: l) s (r + 1)) : At l s r :=
  ⟨by have := h.le; simpa using this, fun k hk => h.low (k + 1) (by omega), fun k h1 h2 => h.high (k + 1) (by omega) (by simpa using h2)⟩
theorem putS_at (p : Pr) : ∀ (l : List Pr) (r : Nat), At l p.1 r → putS l p = if isAt l p.1 r = true then l.set r p else l.take r ++ p :: l.drop r
  | [], r, h => by
    have := h.le
    obtain rfl : r = 0 := by simpa using this
    simp [putS, isAt]
  | a :: l, 0, h => by
    have h0 : ltB a.1 p.1 = false := h.high 0 (Nat.le_refl _) (by simp)
    have e : isAt (a :: l) p.1 0 = decide (a.1 = p.1) := by simp [isAt]
    rw [putS, if_neg (by rw [h0]; decide), e]
    by_cases h1 : a.1 = p.1
    · simp [h1]
    · simp [h1]
  | a :: l, r + 1, h => by
    have h0 : ltB a.1 p.1 = true := h.low 0 (by omega)
    have e : isAt (a :: l) p.1 (r + 1) = isAt l p.1 r := by simp [isAt]
    rw [putS, if_pos h0, e, putS_at p l r h.tail]
    by_cases h1 : isAt l p.1 r = true
    · simp [h1]
    · simp [h1]

/-! ### Names that rise -/
def Rise (l : List Pr) : Prop := l.Pairwise fun a b => ltB a.1 b.1 = true
theorem Rise.srt {l : List Pr} (h : Rise l) : Srt l := fun i j hij hj => by
  have := List.pairwise_iff_getElem.1 h i j (by omega) hj hij
  simpa [List.getD, hj, show i < l.length by omega] using this
theorem putS_names (p : Pr) : ∀ (l : List Pr) (q : Pr), q ∈ putS l p → q ∈ l ∨ q = p
  | [], q, h => by simp [putS] at h; exact .inr h
  | a :: l, q, h => by
    rw [putS] at h
    split at h
    · rcases List.mem_cons.1 h with rfl | h
      · exact .inl (by simp)
      · rcases putS_names p l q h with h | h
        · exact .inl (by simp [h])
        · exact .inr h
    · split at h
      · rcases List.mem_cons.1 h with rfl | h
        · exact .inr rfl
        · exact .inl (by simp [h])
      · rcases List.mem_cons.1 h with rfl | h
        · exact .inr rfl
        · exact .inl h
theorem putS_rise (p : Pr) : ∀ (l : List Pr), Rise l → Rise (putS l p)
  | [], _ => List.pairwise_singleton _ _
  | a :: l, h => by
    obtain ⟨h1, h2⟩ := List.pairwise_cons.1 h
    rw [putS]
    split
    · rename_i h0
      refine List.pairwise_cons.2 ⟨fun q hq => ?_, putS_rise p l h2⟩
      rcases putS_names p l q hq with hq | rfl
      · exact h1 q hq
      · exact h0
    · rename_i h0
      split
      · rename_i he
        exact List.pairwise_cons.2 ⟨fun q hq => by rw [← he]; exact h1 q hq, h2⟩
      · rename_i he
        have hpa : ltB p.1 a.1 = true := by
          cases hq : ltB p.1 a.1 with
          | true => rfl
          | false => exact absurd (lt_tri (Bool.eq_false_iff.2 h0) hq) he
        refine List.pairwise_cons.2 ⟨fun q hq => ?_, h⟩
        rcases List.mem_cons.1 hq with rfl | hq
        · exact hpa
        · exact lt_trans hpa (h1 q hq)
theorem putS_len (p : Pr) (l : List Pr) : (putS l p).length ≤ l.length + 1 := by
  induction l with
  | nil => simp [putS]
  | cons a l ih =>
    rw [putS]
    split
    · simp; omega
    · split <;> simp
theorem cvP_set : ∀ (l : List Pr) (r : Nat) (p : Pr), (l.set r p).flatMap cvP = ((l.flatMap cvP).set (r * 2) (.string p.1)).set (r * 2 + 1) (.int .i64 p.2)
  | [], r, p => by simp
  | a :: l, 0, p => by simp [cvP]
  | a :: l, r + 1, p => by
    rw [List.set_cons_succ, List.flatMap_cons, List.flatMap_cons, cvP_set l r p, show (r + 1) * 2 = r * 2 + 2 by omega]
    simp [cvP]

set_option maxRecDepth 100000 in
set_option maxHeartbeats 8000000 in
theorem put_any (v : Value) (base n : Nat) (l : List Pr) (s : ByteArray) (x : Int) (w : World) (h : w.ownsRow base 34 2 v n (l.flatMap cvP)) (hbase : base ≤ w.heap.size) (hln : l.length = n) (hn : n ≤ 900) (hs : Rise l) :
    Calls Try.prog 18 #[v, .agg #[.string s, .int .i64 x]] w fun e w' =>
      ∃ A c, e = .returned (.slice A (putS l (s, x)).length c) ∧ w'.ownsRow base 34 2 (.slice A (putS l (s, x)).length c) (putS l (s, x)).length ((putS l (s, x)).flatMap cvP) ∧ w.grownBy w' v.ownBlock := by
  obtain ⟨A, c, rfl⟩ := own_form h
  have HO := Lib.hid (And.intro (h.alloc (.cells #[.string s, .int .i64 x] 34)) (And.intro hbase hln))
  have HS := Lib.hid hs
  have hX := Blk.new w 34 #[.string s, .int .i64 x]
  have y0 := hX.cell 0
  have y1 := hX.cell 1
  have HB := Lib.hid ((Below.refl w.heap.size w).alloc (Nat.le_refl _) (.cells #[.string s, .int .i64 x] 34))
  have HXL := Lib.hid hX.lt
  have HNE := Lib.hid (show (Value.slice A n c).ownBlock ≠ some w.heap.size from fun e => by have := (h.lt _ e).2; omega)
  clear h hbase hln hs hX
  go_enter Try.func18, Try.ntmps18
  go_wp2_with fail
  obtain ⟨w1, hw1⟩ : ∃ w1, w1 = w.alloc (.cells #[.string s, .int .i64 x] 34) := ⟨_, rfl⟩
  rw [← hw1] at HO HB HXL y0 y1 ⊢
  obtain ⟨X, hXe⟩ : ∃ X, X = w.heap.size := ⟨_, rfl⟩
  have HXE := Lib.hid hXe
  rw [← hXe] at y0 y1 HXL HNE ⊢
  clear hw1 hXe
  refine (where_any A n c _ l s _ (Rd.of_own (cv := cvP) (d := pr0) (fun _ => rfl) HO.out.1 HO.out.2.2) (Nat.le_refl _) (by omega) HS.out.srt).mono ?_
  rintro e w2 ⟨r, rfl, hr, hb2⟩
  have HA := Lib.hid hr
  have HR := Lib.hid (putS_at (s, x) l r hr)
  have hrn := hr.le
  rw [HO.out.2.2] at hrn
  replace y0 := (hb2.cell (p := ⟨X, 0, none⟩) HXL.out).trans y0
  replace y1 := (hb2.cell (p := ⟨X, 1, none⟩) HXL.out).trans y1
  have HO2 := Lib.hid (own_keep HO.out.1 hb2)
  have HB2 := Lib.hid (HB.out.trans (hb2.mono HB.out.size))
  clear hr hb2
  obtain ⟨q, hq⟩ : ∃ q, q = isAt l s r := ⟨_, rfl⟩
  have HQ := Lib.hid hq
  rw [← hq]
  rw [show ((s, x) : Pr).1 = s from rfl, ← hq] at HR
  clear hq
  cases q
  · have HR2 := Lib.hid (show putS l (s, x) = l.take r ++ (s, x) :: l.drop r by rw [HR.out]; rfl)
    have HL2 := Lib.hid (show (putS l (s, x)).length = n + 1 by rw [HR2.out, List.length_append, List.length_cons, List.length_take, List.length_drop, HO.out.2.2]; omega)
    have i1 : (0 : Int) ≤ (r : Int) := by omega
    go_wp2_with fail
    refine (insert_any (.slice A n c) base n l w2.heap.size r s x _ (HO2.out.alloc _) (by have := HO.out.2.1; have := HB2.out.size; simp; omega) HO.out.2.2 (by omega) hrn (Blk.new _ _ _) (fun e => by have := (HO2.out.lt _ e).2; omega)).mono ?_
    rintro e w3 ⟨A3, c3, rfl, hown, hg⟩
    have HX := Lib.hid (And.intro hown (only_trans (only_of_below HB2.out _) (only_trans (only_of_below ((Below.refl w2.heap.size w2).alloc (Nat.le_refl _) _) _) hg)))
    clear hown hg
    go_wp2
    go_ret
    rw [HL2.out]
    exact ⟨A3, c3, rfl, by rw [HR2.out]; exact HX.out.1, HX.out.2⟩
  · have hrl : r < n := by
      have := HQ.out
      simp only [isAt, Bool.true_eq, Bool.and_eq_true, decide_eq_true_eq] at this
      rw [HO.out.2.2] at this
      exact this.1
    have HR2 := Lib.hid (show putS l (s, x) = l.set r (s, x) by rw [HR.out]; rfl)
    have HL2 := Lib.hid (show (putS l (s, x)).length = n by rw [HR2.out, List.length_set, HO.out.2.2])
    obtain ⟨g, cap, hv, hg, hgl⟩ := HO2.out.form (by omega)
    injection hv with hA1 hA2 hA3
    subst hA1 hA3
    clear hA2
    have i1 : (0 : Int) ≤ (r : Int) := by omega
    have i2 : (r : Int) < (n : Int) := by omega
    have hll : (l.flatMap cvP).length = n * 2 := by rw [cvP_len, HO.out.2.2]
    obtain ⟨u0, hu0⟩ : ∃ u, w2.cell? ⟨g, r * 2, none⟩ = some u := by
      rw [HO2.out.cellAt (r * 2) (by omega)]
      exact ⟨_, List.getElem?_eq_getElem (by omega)⟩
    obtain ⟨u1, hu1⟩ : ∃ u, w2.cell? ⟨g, r * 2 + 1, none⟩ = some u := by
      rw [HO2.out.cellAt (r * 2 + 1) (by omega)]
      exact ⟨_, List.getElem?_eq_getElem (by omega)⟩
    have hf0 := HO2.out.frozenAt (r * 2)
    have hf1 := HO2.out.frozenAt (r * 2 + 1)
    have st := HO2.out.stored (r * 2) (.string s)
    have st2 := st.1.stored (r * 2 + 1) (.int .i64 x)
    have HX := Lib.hid (And.intro st2.1 (only_trans (only_of_below HB2.out (some g)) (only_trans st.2 st2.2)))
    clear st st2 hll hg
    go_wp2
    go_ret
    rw [HL2.out]
    exact ⟨some ⟨g, 0, none⟩, c, rfl, by rw [HR2.out, cvP_set]; exact HX.out.1, HX.out.2⟩

end Go.Proofs.Ytjedjplpbgnpmaa
