/-
  The walk over the statements' own small: boxes of small sizes.
-/
import Derived.Test.YtgcadpfgdfjceaaFlowArg
import Derived.Test.YtgcadpfgdfjceaaFlowBoxes
import Derived.Laws.BitsAllLaws
import Derived.Laws.BitsLemmas
namespace Go.Proofs.Ytgcadpfgdfjceaa
open Go.RowKit
attribute [local go_sem ↓] Go.wp_at_zero Go.wp_at_succ

/-- Masked with 2^k - 1, of any sign. -/
theorem i64_mask (a : Int) (k : Nat) (hk : k < 63) : bits .and .i64 a (((2 ^ k - 1 : Nat)) : Int) = a % ((2 ^ k : Nat) : Int) := by
  have h2 : (2 : Nat) ^ k < 2 ^ 63 := Nat.pow_lt_pow_right (by omega) hk
  have hp : 0 < 2 ^ k := Nat.two_pow_pos k
  have hm : ((BitVec.ofInt 64 a).toNat : Int) = a % 18446744073709551616 := by
    rw [BitVec.toNat_ofInt, Int.toNat_of_nonneg (Int.emod_nonneg _ (by decide)), show (((2 ^ 64 : Nat)) : Int) = 18446744073709551616 from by decide]
  have hk2 : (BitVec.ofInt 64 (((2 ^ k - 1 : Nat)) : Int)).toNat = 2 ^ k - 1 := by
    rw [BitVec.ofInt_natCast, BitVec.toNat_ofNat]
    exact Nat.mod_eq_of_lt (by omega)
  show IntKind.i64.wrap ((BitVec.ofInt 64 a &&& BitVec.ofInt 64 (((2 ^ k - 1 : Nat)) : Int)).toNat : Int) = _
  rw [BitVec.toNat_and, hk2, Nat.and_two_pow_sub_one_eq_mod, IntKind.wrap_i64]
  have hlt := Nat.mod_lt (BitVec.ofInt 64 a).toNat hp
  have hdvd : ((2 ^ k : Nat) : Int) ∣ 18446744073709551616 := by
    have : (2 : Nat) ^ k ∣ 2 ^ 64 := Nat.pow_dvd_pow 2 (by omega)
    have h := Int.natCast_dvd_natCast.2 this
    rwa [show (((2 ^ 64 : Nat)) : Int) = 18446744073709551616 from by decide] at h
  have he : (((BitVec.ofInt 64 a).toNat % 2 ^ k : Nat) : Int) = a % ((2 ^ k : Nat) : Int) := by
    rw [Int.natCast_emod, hm, Int.emod_emod_of_dvd _ hdvd]
  rw [← he]
  generalize (BitVec.ofInt 64 a).toNat % 2 ^ k = r at *
  omega
theorem and_1 (a : Int) : bits .and .i64 a 1 = a % 2 := i64_mask a 1 (by decide)
theorem and_7 (a : Int) : bits .and .i64 a 7 = a % 8 := i64_mask a 3 (by decide)
theorem and_15 (a : Int) : bits .and .i64 a 15 = a % 16 := i64_mask a 4 (by decide)
theorem and_1023 (a : Int) : bits .and .i64 a 1023 = a % 1024 := i64_mask a 10 (by decide)
theorem and_2047 (a : Int) : bits .and .i64 a 2047 = a % 2048 := i64_mask a 11 (by decide)

/-- The sizes of small. -/
def mask (zs : List (Int × Int)) : List (Int × Int) := (zs.take 20).map fun p => (p.1 % 1024, p.2 % 1024)

/-- What small leaves. -/
def SmallPost (w : World) (kind width cols gap : Int) (zs : List (Int × Int)) (e : Ending) (w' : World) : Prop :=
  ∃ A c, e = .returned (.agg #[.int .i64 kind, .int .i64 (width % 2048), .int .i64 cols, .int .i64 (gap % 16), .slice A (mask zs).length c]) ∧
    w'.ownsRow w.heap.size 43 2 (.slice A (mask zs).length c) (mask zs).length (flat2 (mask zs)) ∧ Below w.heap.size w w'

theorem mask_take (zs : List (Int × Int)) (k : Nat) (h : k < zs.length) : flat2 ((zs.take (k + 1)).map fun p => (p.1 % 1024, p.2 % 1024)) = flat2 ((zs.take k).map fun p => (p.1 % 1024, p.2 % 1024)) ++ [.int .i64 ((zs.getD k (0, 0)).1 % 1024), .int .i64 ((zs.getD k (0, 0)).2 % 1024)] := by
  rw [take_snoc zs (0, 0) k h, List.map_append, List.map_cons, List.map_nil, flat2_snoc]

theorem rsize_info : (Try.prog.info? 43).map (fun i => (i.zero, i.size, i.bytes)) = some (some (.agg #[.int .i64 0, .int .i64 0]), 2, 16) := by kernel_rfl

/-- Behind the boxes' own box and the result's cell. -/
def SmW (w : World) (kind width cols gap : Int) (A : Option Addr) (n c : Nat) : World :=
  (w.alloc (.cells #[.int .i64 kind, .int .i64 width, .int .i64 cols, .int .i64 gap, .slice A n c] 36)).alloc (.cells #[.int .i64 0, .int .i64 0, .int .i64 0, .int .i64 0, .slice none 0 0] 36)
theorem SmW.facts (w : World) (kind width cols gap : Int) (A : Option Addr) (n c : Nat) :
    (SmW w kind width cols gap A n c).heap.size = w.heap.size + 1 + 1 ∧ Below w.heap.size w (SmW w kind width cols gap A n c) ∧
    Blk (SmW w kind width cols gap A n c) w.heap.size 36 #[.int .i64 kind, .int .i64 width, .int .i64 cols, .int .i64 gap, .slice A n c] ∧
    Blk (SmW w kind width cols gap A n c) (w.heap.size + 1) 36 #[.int .i64 0, .int .i64 0, .int .i64 0, .int .i64 0, .slice none 0 0] := by
  refine ⟨by simp [SmW], ((Below.refl _ _).alloc (Nat.le_refl _) _).alloc (by simp) _, (Blk.new _ _ _).alloc _, ?_⟩
  have h := Blk.new (w.alloc (.cells #[.int .i64 kind, .int .i64 width, .int .i64 cols, .int .i64 gap, .slice A n c] 36)) 36 #[.int .i64 0, .int .i64 0, .int .i64 0, .int .i64 0, .slice none 0 0]
  rw [World.size_alloc] at h
  exact h

set_option maxHeartbeats 8000000 in
theorem small_any (kind width cols gap : Int) (A : Option Addr) (n c : Nat) (zs : List (Int × Int)) (w : World) (hz : Pairs w w.heap.size A n zs) :
    Calls Try.prog 32 #[.agg #[.int .i64 kind, .int .i64 width, .int .i64 cols, .int .i64 gap, .slice A n c]] w (SmallPost w kind width cols gap zs) := by
  obtain ⟨i0, hi, hz0, hz1, hz2⟩ := info_parts rsize_info
  have HZ := Lib.hid hz
  clear hz
  have b0 := and_15 gap
  have b1 := and_2047 width
  go_enter Try.func32, Try.ntmps32
  go_wp2_with fail
  change Code.wp _ _ _ _ (SmW w kind width cols gap A n c)
  obtain ⟨hW, hWb, hWx, hWr⟩ := SmW.facts w kind width cols gap A n c
  generalize SmW w kind width cols gap A n c = W at *
  have HW := Lib.hid (And.intro hW (And.intro hWb (And.intro hWx hWr)))
  clear hW hWb hWx hWr
  go_loopw [3, 4] (fun v i wr => ∃ k : Nat, k ≤ n ∧ k ≤ 20 ∧ i = .int .i64 k ∧ wr.ownsRow (w.heap.size + 1 + 1) 43 2 v k (flat2 ((zs.take k).map fun p => (p.1 % 1024, p.2 % 1024))) ∧ Below (w.heap.size + 1 + 1) W wr)
    (fun _ i _ => 20 - (intOf i).toNat)
  case atStart => exact ⟨0, Nat.zero_le _, Nat.zero_le _, rfl, World.ownsRow_nil _ _ _ _, Below.refl _ _⟩
  case round =>
    obtain ⟨k, hk, hk20, rfl, hown, hbel⟩ := hrel
    obtain ⟨hW, hWb, hWx, hWr⟩ := HW.out
    have hx := hWx.below hbel (by omega)
    have x1 := hx.cell 1
    have x3 := hx.cell 3
    have x4 := hx.cell 4
    have y1 := hx.frozen 1
    have y3 := hx.frozen 3
    have y4 := hx.frozen 4
    have hsz := hbel.size
    rw [hW] at hsz
    have hx0 := hx.lt
    have n4 := World.new_ne wr ⟨w.heap.size, 4, none⟩ x4
    by_cases hlt : k < n ∧ k < 20
    · obtain ⟨hlt, hlt20⟩ := hlt
      obtain ⟨b, off, rfl, hbB, hc0, hc1⟩ := HZ.out.2 k hlt
      have E0 := (hWb.cell (p := ⟨b, off + k * 2, none⟩) hbB).trans hc0
      have E1 := (hWb.cell (p := ⟨b, off + k * 2 + 1, none⟩) hbB).trans hc1
      have e0 := ((hbel.mono (B' := w.heap.size) (by omega)).cell (p := ⟨b, off + k * 2, none⟩) hbB).trans (hWb.cell (p := ⟨b, off + k * 2, none⟩) hbB)
      have e1 := ((hbel.mono (B' := w.heap.size) (by omega)).cell (p := ⟨b, off + k * 2 + 1, none⟩) hbB).trans (hWb.cell (p := ⟨b, off + k * 2 + 1, none⟩) hbB)
      rw [hc0] at e0
      rw [hc1] at e1
      clear hc0 hc1
      have HT := Lib.hid (mask_take zs k (by have := HZ.out.1; omega))
      obtain ⟨za, zb, hzab⟩ : ∃ za zb, zs.getD k (0, 0) = (za, zb) := ⟨_, _, rfl⟩
      rw [hzab] at e0 e1 HT E0 E1
      have HE := Lib.hid (And.intro hbB (And.intro E0 E1))
      clear E0 E1 hzab hx hW hWb hWx hWr
      have n0 := World.new_ne wr ⟨b, off + k * 2, none⟩ e0
      have n1 := World.new_ne wr ⟨b, off + k * 2 + 1, none⟩ e1
      have m0 := and_1023 za
      have m1 := and_1023 zb
      have i1 : (0 : Int) ≤ (k : Int) := by omega
      have i2 : (k : Int) < (n : Int) := by omega
      have i3 : (k : Int) < 20 := by omega
      have HO := Lib.hid hown
      have HB := Lib.hid hbel
      clear hown hbel
      go_upto_region 5 with fail
      go_region_held3 (fun w' => w'.cell? ⟨w.heap.size, 4, none⟩ = some (.slice (some ⟨b, off, none⟩) n c) ∧ w'.cell? ⟨b, off + k * 2, none⟩ = some (.int .i64 za) ∧ w'.cell? ⟨b, off + k * 2 + 1, none⟩ = some (.int .i64 zb)) (go_keep)
          (first
            | (refine step_append_lies _ (by rfl) _ _ _ (by rfl) (w.heap.size + 1 + 1) 43 i0 _ 2 16 Try.underlying34 hi hz0 hz1 hz2 (by rfl) (by decide) _ k (flat2 ((zs.take k).map fun p => (p.1 % 1024, p.2 % 1024))) (by rfl) ((HO.out.alloc _).drew) _ 1 1 [.int .i64 (za % 1024), .int .i64 (zb % 1024)] (by rfl) (by rfl) (World.news_of_block (heap_alloc_new _ _)) (by intro u hu; simp at hu; rcases hu with rfl | rfl <;> rfl) (by omega) (by unfold maxLen; omega) (by omega) (by simp; omega) (wr.heap.size + 1) (by simp) ?_; intro g2 cap2 w2 hown2 hg2 hat2 hlt2; have hb2 := ((HB.out.alloc (by omega) _).drew).grown hg2 (by simp; omega) (fun j hj => (HO.out.lt j hj).1); have f4 := (hb2.cell (p := ⟨w.heap.size, 4, none⟩) (by simp; omega)).trans (HW.out.2.2.1.cell 4); have f0 := (hb2.cell (p := ⟨b, off + k * 2, none⟩) (by have := HE.out.1; simp; omega)).trans HE.out.2.1; have f1 := (hb2.cell (p := ⟨b, off + k * 2 + 1, none⟩) (by have := HE.out.1; simp; omega)).trans HE.out.2.2))
      all_goals (
        rw [← HT.out] at hown2
        have HO2 := Lib.hid hown2
        have HB2 := Lib.hid hb2
        clear hown2 hb2 hg2 hat2 hlt2
        go_wp2_with fail
        go_roundw)
      case rel => exact ⟨k + 1, by omega, by omega, by go_num, HO2.out, HB2.out⟩
      case measure => simp [intOf]; omega
    · have hke : (zs.take k).map (fun p => (p.1 % 1024, p.2 % 1024)) = mask zs := by
        have hzl := HZ.out.1
        rw [mask]
        by_cases h : k = 20
        · rw [h]
        · rw [List.take_of_length_le (by omega), List.take_of_length_le (by omega)]
      have hlk : (mask zs).length = k := by
        have := HZ.out.1
        rw [← hke]
        simp; omega
      rw [hke] at hown
      have hb0 := hWb.trans (hbel.mono (B' := w.heap.size) (by omega))
      have hr := hWr.below hbel (by omega)
      have r0 := hr.frozen 0
      have r1 := hr.frozen 1
      have r2 := hr.frozen 2
      have r3 := hr.frozen 3
      have r4 := hr.frozen 4
      have q0 := hr.cell 0
      have q1 := hr.cell 1
      have q2 := hr.cell 2
      have q3 := hr.cell 3
      have q4 := hr.cell 4
      have x0 := hx.cell 0
      have x2 := hx.cell 2
      obtain ⟨A', c', hv⟩ := own_form hown
      subst hv
      have fin : ∀ a3 a1 a4 d0 d1 d2 d3 d4, ((((((((wr.setCell ⟨w.heap.size, 4, none⟩ a4).setCell ⟨w.heap.size, 3, none⟩ a3).setCell ⟨w.heap.size, 1, none⟩ a1).setCell ⟨w.heap.size + 1, 0, none⟩ d0).setCell ⟨w.heap.size + 1, 1, none⟩ d1).setCell ⟨w.heap.size + 1, 2, none⟩ d2).setCell ⟨w.heap.size + 1, 3, none⟩ d3).setCell ⟨w.heap.size + 1, 4, none⟩ d4).ownsRow w.heap.size 43 2 (.slice A' k c') k (flat2 (mask zs)) ∧
          Below w.heap.size w ((((((((wr.setCell ⟨w.heap.size, 4, none⟩ a4).setCell ⟨w.heap.size, 3, none⟩ a3).setCell ⟨w.heap.size, 1, none⟩ a1).setCell ⟨w.heap.size + 1, 0, none⟩ d0).setCell ⟨w.heap.size + 1, 1, none⟩ d1).setCell ⟨w.heap.size + 1, 2, none⟩ d2).setCell ⟨w.heap.size + 1, 3, none⟩ d3).setCell ⟨w.heap.size + 1, 4, none⟩ d4) := by
        intro a3 a1 a4 d0 d1 d2 d3 d4
        have h1 := hown.kept (row := some w.heap.size) (only_set (only_set (only_set (World.grownBy.refl wr _) 4 a4) 3 a3) 1 a1) (.inr (own_blk_ne hown hx (by decide)))
        have hr1 := ((hr.far (p := ⟨w.heap.size, 4, none⟩) (by simp) a4).far (p := ⟨w.heap.size, 3, none⟩) (by simp) a3).far (p := ⟨w.heap.size, 1, none⟩) (by simp) a1
        have h2 := h1.kept (row := some (w.heap.size + 1)) (only_set (only_set (only_set (only_set (only_set (World.grownBy.refl _ _) 0 d0) 1 d1) 2 d2) 3 d3) 4 d4) (.inr (own_blk_ne h1 hr1 (by decide)))
        refine ⟨own_base h2 (by omega), ?_⟩
        have g1 := ((hb0.setCell (p := ⟨w.heap.size, 4, none⟩) (Nat.le_refl _) a4).setCell (p := ⟨w.heap.size, 3, none⟩) (Nat.le_refl _) a3).setCell (p := ⟨w.heap.size, 1, none⟩) (Nat.le_refl _) a1
        exact ((((g1.setCell (p := ⟨w.heap.size + 1, 0, none⟩) (by simp) d0).setCell (p := ⟨w.heap.size + 1, 1, none⟩) (by simp) d1).setCell (p := ⟨w.heap.size + 1, 2, none⟩) (by simp) d2).setCell (p := ⟨w.heap.size + 1, 3, none⟩) (by simp) d3).setCell (p := ⟨w.heap.size + 1, 4, none⟩) (by simp) d4
      have HM := Lib.hid (And.intro hlk fin)
      clear hke hlk hown hbel hb0 hW hWb hWx hWr hx hr fin HW HZ
      have hend : k < n → 20 ≤ k := fun h => by omega
      by_cases hlt1 : k < n
      all_goals (
        first
        | (have hk20' : (20 : Int) ≤ (k : Int) := by have := hend hlt1; omega)
        | skip
        clear hlt hend
        go_wp2_with fail
        exact bodyPost_ret (v := .agg #[.int .i64 kind, .int .i64 (width % 2048), .int .i64 cols, .int .i64 (gap % 16), .slice A' k c']) (by simp [results, Try.results32, go_sem, q0, q1, q2, q3, q4]) rfl ⟨A', c', by rw [HM.out.1], by rw [HM.out.1]; exact HM.out.2 _ _ _ _ _ _ _ _⟩)

end Go.Proofs.Ytgcadpfgdfjceaa
