/-
  The walks over DeleteFunc at pairs, but, Drop, Same of layer 4.
-/
import Derived.Test.YtjedjplpbgnpmaaTurnI
namespace Go.Proofs.Ytjedjplpbgnpmaa
open Go.RowKit
attribute [local go_sem ↓] Go.wp_at_zero Go.wp_at_succ

/-- Without a name. -/
def offP (s : ByteArray) (l : List Pr) : List Pr := l.filter fun x => !isS x.1 s
theorem offP_snoc (s : ByteArray) (l : List Pr) (k : Nat) (h : k < l.length) : offP s (l.take (k + 1)) = if isS (l.getD k pr0).1 s = true then offP s (l.take k) else offP s (l.take k) ++ [l.getD k pr0] := by
  rw [take_snoc l pr0 k h, offP, List.filter_append]
  generalize l.getD k pr0 = x
  by_cases e : isS x.1 s = true
  · rw [if_pos e]; simp [offP, e]
  · rw [if_neg e]; simp [offP, e]
theorem offP_id (s : ByteArray) (l : List Pr) (h : ∀ j, j < l.length → (l.getD j pr0).1 ≠ s) : offP s l = l := by
  apply List.filter_eq_self.2
  intro a ha
  obtain ⟨i, h1, h2⟩ := List.mem_iff_getElem.1 ha
  have := h i h1
  simpa [isS, List.getD, h1, h2] using this
theorem offP_len (s : ByteArray) (l : List Pr) : (offP s l).length ≤ l.length := List.length_filter_le _ _
/-- In the midst of taking a name out. -/
structure DelP (s : ByteArray) (l ys : List Pr) (j i : Nat) : Prop where
  len : ys.length = l.length
  head : ys.take i = offP s (l.take j)
  tail : ∀ m, j ≤ m → ys.getD m pr0 = l.getD m pr0
  lt : i < j
  jl : j ≤ l.length
theorem DelP.start {s : ByteArray} {l : List Pr} {k : Nat} (hk : k < l.length) (he : (l.getD k pr0).1 = s) (hn : ∀ j, j < k → (l.getD j pr0).1 ≠ s) : DelP s l l (k + 1) k :=
  ⟨rfl, by
    rw [offP_snoc s l k hk, if_pos (by rw [he]; simp [isS])]
    refine (offP_id s _ fun j hj => ?_).symm
    have hj2 : j < k := by rw [List.length_take] at hj; omega
    have := hn j hj2
    simpa [List.getD, List.getElem?_take, hj2] using this, fun _ _ => rfl, Nat.lt_succ_self _, hk⟩
theorem DelP.skip {s : ByteArray} {l ys : List Pr} {j i : Nat} (d : DelP s l ys j i) (hj : j < l.length) (he : isS (l.getD j pr0).1 s = true) : DelP s l ys (j + 1) i :=
  ⟨d.len, by rw [offP_snoc s l j hj, if_pos he]; exact d.head, fun m hm => d.tail m (by omega), by have := d.lt; omega, hj⟩
theorem DelP.keep {s : ByteArray} {l ys : List Pr} {j i : Nat} (d : DelP s l ys j i) (hj : j < l.length) (he : isS (l.getD j pr0).1 s = false) : DelP s l (ys.set i (l.getD j pr0)) (j + 1) (i + 1) := by
  have h1 := d.len
  have h2 := d.lt
  refine ⟨by rw [List.length_set]; exact h1, ?_, fun m hm => ?_, by omega, hj⟩
  · rw [offP_snoc s l j hj, if_neg (by rw [he]; decide), ← d.head, take_snoc _ pr0 i (by rw [List.length_set]; omega), List.take_set_of_le (Nat.le_refl _)]
    simp [List.getD, show i < ys.length by omega]
  · have := d.tail m (by omega)
    rw [← this]
    simp [List.getD, show i ≠ m by omega]
theorem DelP.fin {s : ByteArray} {l ys : List Pr} {i : Nat} (d : DelP s l ys l.length i) : ys.take i = offP s l := by
  have := d.head
  rwa [List.take_length] at this
theorem pr_one : ∀ v ∈ (Value.agg #[.string ByteArray.empty, .int .i64 0]).cells, v.oneCell' = true := by
  intro v hv
  simp [Value.cells] at hv
  rcases hv with rfl | rfl <;> rfl

theorem own_two {w : World} {base g n c : Nat} {xs : List Value} {e : TypeId} (h : w.ownsRow base e 2 (.slice (some ⟨g, 0, none⟩) n c) n xs) (i : Nat) (hi : (i : Int) < (n : Int)) : ∃ u0 u1, w.cell? ⟨g, i * 2, none⟩ = some u0 ∧ w.cell? ⟨g, i * 2 + 1, none⟩ = some u1 := by
  have hl := h.1
  rw [h.cellAt (i * 2) (by omega), h.cellAt (i * 2 + 1) (by omega), List.getElem?_eq_getElem (by omega), List.getElem?_eq_getElem (by omega)]
  exact ⟨_, _, rfl, rfl⟩

set_option maxRecDepth 100000 in
set_option maxHeartbeats 8000000 in
theorem deletefP_any (v : Value) (base n : Nat) (l : List Pr) (s : ByteArray) (p : Nat) (w : World) (h : w.ownsRow base 34 2 v n (l.flatMap cvP)) (_hbase : base ≤ w.heap.size) (hln : l.length = n) (hn : n ≤ 1000) (hp : p < base) (hc : w.cell? ⟨p, 0, none⟩ = some (.string s)) :
    Calls Try.prog 41 #[v, .func (.func 35) #[] #[.pointer (some ⟨p, 0, none⟩)]] w fun e w' =>
      ∃ A c, e = .returned (.slice A (offP s l).length c) ∧ w'.ownsRow base 34 2 (.slice A (offP s l).length c) (offP s l).length ((offP s l).flatMap cvP) ∧ w.grownBy w' v.ownBlock := by
  obtain ⟨tr, hi, hz0, hz1, hz2⟩ := info_parts pr_info
  obtain ⟨A, c, rfl⟩ := own_form h
  have HR := Lib.hid (Rd.of_own (cv := cvP) (d := pr0) (fun _ => rfl) h hln)
  have HC := Lib.hid hc
  have HO := Lib.hid h
  have HL := Lib.hid hln
  clear h hc hln
  go_enter Try.func41, Try.ntmps41
  go_wp2_with fail
  refine (indexfP_any A n c _ l s p _ HR.out (Nat.le_refl _) hn HC.out).mono ?_
  rintro e w1 ⟨r, rfl, hr, hb1⟩
  have HB1 := Lib.hid hb1
  have HO1 := Lib.hid (own_keep HO.out hb1)
  have HC1 := Lib.hid ((hb1.cell (p := ⟨p, 0, none⟩) (World.block_lt_of_cell? _ _ HC.out)).trans HC.out)
  clear hb1
  rcases hr with ⟨rfl, hne⟩ | ⟨k0, rfl, hk0, he0, hn0⟩
  · have HE := Lib.hid (offP_id s l hne)
    clear hne
    go_wp2
    go_ret
    rw [HE.out, HL.out]
    exact ⟨A, c, rfl, HO1.out, only_of_below HB1.out _⟩
  · have HD := Lib.hid (DelP.start hk0 he0 hn0)
    rw [HL.out] at hk0
    obtain ⟨g, cap, hv, hg, hgl⟩ := HO1.out.form (by omega)
    injection hv with hA1 hA2 hA3
    subst hA1 hA3
    clear hA2 he0 hn0 HR
    have hh : ((k0 : Int) == -1) = false := by rw [beq_eq_false_iff_ne]; omega
    go_wp2_with fail
    go_loopw [5, 6] (fun vi vj wx => ∃ (i j : Nat) (ys : List Pr), vi = .int .i64 i ∧ vj = .int .i64 j ∧ i < j ∧ j ≤ n ∧ Hid (DelP s l ys j i) ∧ wx.ownsRow base 34 2 (.slice (some ⟨g, 0, none⟩) n c) n (ys.flatMap cvP) ∧ w1.grownBy wx (some g)) (fun _ j _ => n - (intOf j).toNat)
    case atStart => exact ⟨k0, k0 + 1, l, rfl, by go_num, by omega, by omega, HD.out, HO1.out, World.grownBy.refl _ _⟩
    case round =>
      obtain ⟨i, j, ys, rfl, rfl, hij, hjn, hD, hown, hg2⟩ := hrel
      by_cases hlt : j < n
      · have hyl := hD.out.len.trans HL.out
        obtain ⟨b, off, hA, hbB, d0, d1⟩ := (Rd.of_own (cv := cvP) (d := pr0) (fun _ => rfl) hown hyl).pr j hlt
        injection hA with hA
        injection hA with hA1 hA2
        subst hA1 hA2
        rw [Nat.zero_add] at d0 d1
        rw [hD.out.tail j (Nat.le_refl _)] at d0 d1
        have HDk := Lib.hid (hD.out.keep (by rw [HL.out]; exact hlt))
        have HDs := Lib.hid (hD.out.skip (by rw [HL.out]; exact hlt))
        obtain ⟨⟨t, x⟩, hx⟩ : ∃ x, x = l.getD j pr0 := ⟨_, rfl⟩
        rw [← hx] at d0 d1 HDk HDs
        simp only at d0 d1
        have i1 : (0 : Int) ≤ (j : Int) := by omega
        have i2 : (j : Int) < (n : Int) := by omega
        have i3 : (0 : Int) ≤ (i : Int) := by omega
        have i4 : (i : Int) < (n : Int) := by omega
        have hcp : wr.cell? ⟨p, 0, none⟩ = some (.string s) := (hg2.cell (a := ⟨p, 0, none⟩) HC1.out (fun e => absurd (Option.some.inj e : p = g) (by omega)))
        have HZ := Lib.hid (And.intro (hown.alloc (.cells #[.string t, .int .i64 x] 34)) (only_trans hg2 (World.grownBy_alloc wr (.cells #[.string t, .int .i64 x] 34) (some g))))
        have HBA := Lib.hid ((Below.refl wr.heap.size wr).alloc (Nat.le_refl _) (.cells #[.string t, .int .i64 x] 34))
        have HCP := Lib.hid ((HBA.out.cell (p := ⟨p, 0, none⟩) (World.block_lt_of_cell? _ _ hcp)).trans hcp)
        have hX := Blk.new wr 34 #[.string t, .int .i64 x]
        have y0 := hX.cell 0
        have y1 := hX.cell 1
        have HXL := Lib.hid hX.lt
        have HGW := Lib.hid (show g < wr.heap.size from (hown.lt g rfl).2)
        have HYL := Lib.hid hyl
        clear hx hcp hown hg2 hyl hX
        go_upto_region 8 with fail
        obtain ⟨wo, hwo⟩ : ∃ wo, wo = wr.alloc (.cells #[.string t, .int .i64 x] 34) := ⟨_, rfl⟩
        rw [← hwo] at HZ HCP HXL y0 y1 ⊢
        obtain ⟨X, hXe⟩ : ∃ X, X = wr.heap.size := ⟨_, rfl⟩
        rw [← hXe] at HXL y0 y1 HGW ⊢
        clear hwo hXe d0 d1
        by_cases hq : isS t s = true
        · go_wp2_with (go_at_call 35; refine (dropfP_any t s x p _ HCP.out).mono ?_; rintro e w2 ⟨rfl, hb2⟩; have HB2 := Lib.hid hb2; clear hb2; rw [hq])
          go_roundw
          case rel => exact ⟨i, j + 1, ys, rfl, by go_num, by omega, by omega, HDs.out hq, own_keep HZ.out.1 HB2.out, only_trans HZ.out.2 (only_of_below HB2.out _)⟩
          case measure => simp [intOf]; omega
        · have hq2 := Bool.eq_false_iff.2 hq
          go_wp2_with (go_at_call 35; refine (dropfP_any t s x p _ HCP.out).mono ?_; rintro e w2 ⟨rfl, hb2⟩; have HB2 := Lib.hid hb2; have HO2 := Lib.hid (own_keep HZ.out.1 hb2); replace y0 := (hb2.cell (p := ⟨X, 0, none⟩) HXL.out).trans y0; replace y1 := (hb2.cell (p := ⟨X, 1, none⟩) HXL.out).trans y1; obtain ⟨u0, u1, hu0, hu1⟩ := own_two HO2.out i i4; have hf0 := HO2.out.frozenAt (i * 2); have hf1 := HO2.out.frozenAt (i * 2 + 1); clear hb2; rw [hq2])
          have HST := Lib.hid (HO2.out.stored (i * 2) (.string t))
          have HST2 := Lib.hid (HST.out.1.stored (i * 2 + 1) (.int .i64 x))
          go_roundw
          case rel => exact ⟨i + 1, j + 1, ys.set i (t, x), by go_num, by go_num, by omega, by omega, HDk.out hq2, by rw [cvP_set]; exact HST2.out.1, only_trans HZ.out.2 (only_trans (only_of_below HB2.out _) (only_trans HST.out.2 HST2.out.2))⟩
          case measure => simp [intOf]; omega
      · obtain rfl : j = n := by omega
        have HDN := Lib.hid (show ys.take i = offP s l by have := hD.out; rw [← HL.out] at this; exact this.fin)
        have HOL := Lib.hid (show (offP s l).length = i by rw [← HDN.out, List.length_take, hD.out.len, HL.out]; omega)
        have HOW := Lib.hid (And.intro hown hg2)
        have hcap := (own_cap hown).1
        have i1 : (0 : Int) ≤ (i : Int) := by omega
        have i2 : (i : Int) ≤ (j : Int) := by omega
        have i3 : ¬ (c = i) := by omega
        clear hown hg2
        obtain ⟨w3, hcl, hown3, hg3⟩ := clear_own (P := Try.prog) 31 base 34 tr _ 2 Try.underlying31 hi hz0 rfl pr_one g j c (j - i) (i * 2) (c - i) _ (by omega) i rfl (by omega) HOW.out.1
        have HF := Lib.hid (And.intro hown3 hg3)
        clear hown3 hg3
        go_wp2
        go_ret
        rw [HOL.out]
        refine ⟨some ⟨g, 0, none⟩, c, rfl, ?_, only_trans (only_of_below HB1.out _) (only_trans HOW.out.2 HF.out.2)⟩
        rw [← HDN.out, flat_take (k := 2) (fun _ => rfl)]
        exact HF.out.1

set_option maxHeartbeats 4000000 in
theorem but_any (A : Option Addr) (n c : Nat) (l : List Pr) (s : ByteArray) (p : Nat) (w : World) (hz : Ps w w.heap.size A n l) (hn : n ≤ 500) (hc : w.cell? ⟨p, 0, none⟩ = some (.string s)) (hp : p < w.heap.size) :
    Calls Try.prog 34 #[.slice A n c, .func (.func 35) #[] #[.pointer (some ⟨p, 0, none⟩)]] w (PrPost w (offP s (ofS l))) := by
  have HO := Lib.hid hz
  have HC := Lib.hid hc
  clear hz hc
  go_enter Try.func34, Try.ntmps34
  go_wp2_with fail
  refine (of_any A n c l _ HO.out hn).mono ?_
  rintro e w1 ⟨A1, c1, rfl, hown, hb⟩
  have HX := Lib.hid (And.intro hown hb)
  have hl := ofS_len l
  rw [HO.out.1] at hl
  clear hown hb
  go_wp2_with fail
  refine (deletefP_any _ _ (ofS l).length (ofS l) s p _ HX.out.1 HX.out.2.size rfl (by omega) hp ((HX.out.2.cell (p := ⟨p, 0, none⟩) hp).trans HC.out)).mono ?_
  rintro e w2 ⟨A2, c2, rfl, hown, hg⟩
  have HY := Lib.hid (And.intro hown (HX.out.2.grown hg HX.out.2.size (fun j hj => (HX.out.1.lt j hj).1)))
  clear hown hg
  go_wp2
  go_ret
  exact ⟨A2, c2, rfl, HY.out.1, HY.out.2⟩

set_option maxHeartbeats 4000000 in
theorem dropP_any (A : Option Addr) (n c : Nat) (l : List Pr) (s : ByteArray) (w : World) (hz : Ps w w.heap.size A n l) (hn : n ≤ 500) :
    Calls Try.prog 23 #[.slice A n c, .string s] w (PrPost w (offP s (ofS l))) := by
  have HO := Lib.hid (hz.keep ((Below.refl w.heap.size w).alloc (Nat.le_refl _) (.cells #[.string s] 9)))
  clear hz
  go_enter Try.func23, Try.ntmps23
  go_wp2_with fail
  refine (but_any A n c l s w.heap.size _ HO.out hn ((Blk.new w 9 #[.string s]).cell 0) (by simp)).mono ?_
  rintro e w2 ⟨A2, c2, rfl, hown, hb⟩
  have HY := Lib.hid (And.intro (own_base hown (by simp : w.heap.size ≤ _)) (((Below.refl w.heap.size w).alloc (Nat.le_refl _) _).trans (hb.mono (by simp : w.heap.size ≤ _))))
  clear hown hb
  go_wp2
  go_ret
  exact ⟨A2, c2, rfl, HY.out.1, HY.out.2⟩

end Go.Proofs.Ytjedjplpbgnpmaa
