/-
  The walk over the statements' own put: boxes by the program.
-/
import Derived.Test.YtgcadpfgdfjceaaFlowTop
namespace Go.Proofs.Ytgcadpfgdfjceaa
open Go.RowKit
attribute [local go_sem ↓] Go.wp_at_zero Go.wp_at_succ

/-- The pen behind all boxes that are looked at. -/
def putSt (kind width cols gap : Int) (zs : List (Int × Int)) : P14.St :=
  if kind = 0 then P14.penAt (P14.least gap) (bStack zs) nStack zs.length
  else if kind = 1 then P14.penAt (P14.least gap) (bWrap zs) (nWrap (P14.least width)) zs.length
  else P14.penAt (P14.least gap) (bGrid (P14.least width) zs) (nGrid (max 1 (min cols 64))) zs.length

theorem size_info : (Try.prog.info? 39).map (fun i => (i.zero, i.size, i.bytes)) = some (some (.agg #[.int .i64 0, .int .i64 0]), 2, 16) := by kernel_rfl

theorem flat2_take (zs : List (Int × Int)) (k : Nat) (h : k < zs.length) : flat2 (zs.take (k + 1)) = flat2 (zs.take k) ++ [.int .i64 (zs.getD k (0, 0)).1, .int .i64 (zs.getD k (0, 0)).2] := by
  rw [take_snoc zs (0, 0) k h, flat2_snoc]

/-- Behind the boxes' own box and the result's cell. -/
def PutW (w : World) (kind width cols gap : Int) (A : Option Addr) (n c : Nat) : World :=
  (w.alloc (.cells #[.int .i64 kind, .int .i64 width, .int .i64 cols, .int .i64 gap, .slice A n c] 36)).alloc (.cells #[.int .i64 0, .int .i64 0] 39)

theorem PutW.size (w : World) (kind width cols gap : Int) (A : Option Addr) (n c : Nat) : (PutW w kind width cols gap A n c).heap.size = w.heap.size + 1 + 1 := by simp [PutW]
theorem PutW.below (w : World) (kind width cols gap : Int) (A : Option Addr) (n c : Nat) : Below w.heap.size w (PutW w kind width cols gap A n c) :=
  ((Below.refl _ _).alloc (Nat.le_refl _) _).alloc (by simp) _
theorem PutW.box (w : World) (kind width cols gap : Int) (A : Option Addr) (n c : Nat) : Blk (PutW w kind width cols gap A n c) w.heap.size 36 #[.int .i64 kind, .int .i64 width, .int .i64 cols, .int .i64 gap, .slice A n c] :=
  (Blk.new _ _ _).alloc _
theorem PutW.res (w : World) (kind width cols gap : Int) (A : Option Addr) (n c : Nat) : Blk (PutW w kind width cols gap A n c) (w.heap.size + 1) 39 #[.int .i64 0, .int .i64 0] := by
  have h := Blk.new (w.alloc (.cells #[.int .i64 kind, .int .i64 width, .int .i64 cols, .int .i64 gap, .slice A n c] 36)) 39 #[.int .i64 0, .int .i64 0]
  rw [World.size_alloc] at h
  exact h

set_option maxHeartbeats 4000000 in
theorem put_boxes (kind width cols gap : Int) (A : Option Addr) (n c : Nat) (zs : List (Int × Int)) (w : World) (hz : Pairs w w.heap.size A n zs) :
    Calls Try.prog 30 #[.agg #[.int .i64 kind, .int .i64 width, .int .i64 cols, .int .i64 gap, .slice A n c]] w (RowsPost w (putSt kind width cols gap (zs.take 40)) (zs.take 40).length) := by
  obtain ⟨i0, hi, hz0, hz1, hz2⟩ := info_parts size_info
  have HZ := Lib.hid hz
  clear hz
  obtain ⟨S, hS⟩ : ∃ S, S = putSt kind width cols gap (zs.take 40) := ⟨_, rfl⟩
  obtain ⟨m, hm⟩ : ∃ m, m = (zs.take 40).length := ⟨_, rfl⟩
  rw [← hS, ← hm]
  have HSM := Lib.hid (And.intro hS hm)
  clear hS hm
  go_enter Try.func30, Try.ntmps30
  go_wp2_with fail
  change Code.wp _ _ _ _ (PutW w kind width cols gap A n c)
  have hW := PutW.size w kind width cols gap A n c
  have hWb := PutW.below w kind width cols gap A n c
  have hWx := PutW.box w kind width cols gap A n c
  have hWr := PutW.res w kind width cols gap A n c
  generalize PutW w kind width cols gap A n c = W at *
  have HW := Lib.hid (And.intro hW (And.intro hWb (And.intro hWx hWr)))
  clear hW hWb hWx hWr
  go_loopw [4, 5] (fun v i wr => ∃ k : Nat, k ≤ n ∧ k ≤ 40 ∧ i = .int .i64 k ∧ wr.ownsRow (w.heap.size + 1 + 1) 39 2 v k (flat2 (zs.take k)) ∧ Below (w.heap.size + 1 + 1) W wr)
    (fun _ i _ => 40 - (intOf i).toNat)
  case atStart => exact ⟨0, Nat.zero_le _, Nat.zero_le _, rfl, World.ownsRow_nil _ _ _ _, Below.refl _ _⟩
  case round =>
    obtain ⟨k, hk, hk40, rfl, hown, hbel⟩ := hrel
    obtain ⟨hW, hWb, hWx, hWr⟩ := HW.out
    have hx := hWx.below hbel (by omega)
    have x0 := hx.cell 0
    have x1 := hx.cell 1
    have x2 := hx.cell 2
    have x3 := hx.cell 3
    have x4 := hx.cell 4
    have hsz := hbel.size
    rw [hW] at hsz
    by_cases hlt : k < n ∧ k < 40
    · obtain ⟨hlt, hlt40⟩ := hlt
      obtain ⟨b, off, rfl, hbB, hc0, hc1⟩ := HZ.out.2 k hlt
      have e0 := ((hbel.mono (B' := w.heap.size) (by omega)).cell (p := ⟨b, off + k * 2, none⟩) hbB).trans (hWb.cell (p := ⟨b, off + k * 2, none⟩) hbB)
      have e1 := ((hbel.mono (B' := w.heap.size) (by omega)).cell (p := ⟨b, off + k * 2 + 1, none⟩) hbB).trans (hWb.cell (p := ⟨b, off + k * 2 + 1, none⟩) hbB)
      rw [hc0] at e0
      rw [hc1] at e1
      clear hc0 hc1
      have HT := Lib.hid (flat2_take zs k (by have := HZ.out.1; omega))
      obtain ⟨za, zb, hzab⟩ : ∃ za zb, zs.getD k (0, 0) = (za, zb) := ⟨_, _, rfl⟩
      rw [hzab] at e0 e1 HT
      clear hzab hx hW hWb hWx hWr
      have HO := Lib.hid hown
      have HB := Lib.hid hbel
      clear hown hbel
      go_wp2_with (first
        | (at_builtin; refine wpList_append_lies _ rfl _ _ _ rfl (w.heap.size + 1 + 1) 39 i0 _ 2 16 Try.underlying52 hi hz0 hz1 hz2 rfl (by decide) _ k (flat2 (zs.take k)) rfl (HO.out.alloc _) _ 1 1 [.int .i64 za, .int .i64 zb] rfl rfl (World.news_of_block (heap_alloc_new _ _)) (by intro u hu; simp at hu; rcases hu with rfl | rfl <;> rfl) (by omega) (by unfold maxLen; omega) (by omega) (by simp; omega) _ rfl ?_; intro g2 cap2 w2 hown2 hg2 hat2 hlt2))
      have hb2 := (HB.out.alloc (by omega) _).grown hg2 (by simp; omega) (fun j hj => (HO.out.lt j hj).1)
      rw [← HT.out] at hown2
      have HO2 := Lib.hid hown2
      have HB2 := Lib.hid hb2
      clear hown2 hb2 hg2 hat2 hlt2
      go_roundw
      case rel => exact ⟨k + 1, by omega, by omega, by go_num, HO2.out, HB2.out⟩
      case measure => simp [intOf]; omega
    · have hke : zs.take k = zs.take 40 := by
        have hzl := HZ.out.1
        by_cases h : k = 40
        · rw [h]
        · have : k = n := by omega
          rw [List.take_of_length_le (by omega), List.take_of_length_le (by omega)]
      have hlk : (zs.take k).length = k := by
        have := HZ.out.1
        simp; omega
      have hb0 := hWb.trans (hbel.mono (B' := w.heap.size) (by omega))
      have hr0 := hWr.below hbel (by omega)
      obtain ⟨A', c', hv⟩ := own_form hown
      subst hv
      have hP := Pairs.of_own hown hlk
      have hlen : (zs.take 40).length = k := by rw [← hke, hlk]
      have HS : Hid ((kind = 0 → S = P14.penAt (P14.least gap) (bStack (zs.take k)) nStack k) ∧ (kind = 1 → S = P14.penAt (P14.least gap) (bWrap (zs.take k)) (nWrap (P14.least width)) k) ∧
          (kind ≠ 0 → kind ≠ 1 → S = P14.penAt (P14.least gap) (bGrid (P14.least width) (zs.take k)) (nGrid (max 1 (min cols 64))) k)) := by
        refine ⟨fun h => ?_, fun h => ?_, fun h h' => ?_⟩
        · rw [HSM.out.1, putSt, if_pos h, hlen, hke]
        · rw [HSM.out.1, putSt, if_neg (by omega), if_pos h, hlen, hke]
        · rw [HSM.out.1, putSt, if_neg h, if_neg h', hlen, hke]
      have HM := Lib.hid (show m = k by rw [HSM.out.2, hlen])
      have HP := Lib.hid (And.intro hP (And.intro hb0 hr0))
      clear hke hlk hlen hown hbel hb0 hr0 hP hW hWb hWx hWr hx HW HZ HSM
      have hend : k < n → 40 ≤ k := fun h => by omega
      have fin : ∀ (A1 : Option Addr) (c1 : Nat) (w1 : World), w1.ownsRow wr.heap.size 48 2 (.slice A1 k c1) k (flat2 S.out) → Below wr.heap.size wr w1 →
          (w1.cell? ⟨w.heap.size + 1, 0, none⟩ = some (.int .i64 0) ∧ w1.cell? ⟨w.heap.size + 1, 1, none⟩ = some (.int .i64 0) ∧ w1.frozen? ⟨w.heap.size + 1, 0, none⟩ = false ∧ w1.frozen? ⟨w.heap.size + 1, 1, none⟩ = false) ∧
          Hid (((w1.setCell ⟨w.heap.size + 1, 0, none⟩ (.int .i64 S.W)).setCell ⟨w.heap.size + 1, 1, none⟩ (.int .i64 (P1.add S.y S.h))).ownsRow w.heap.size 48 2 (.slice A1 k c1) k (flat2 S.out) ∧ Below w.heap.size w ((w1.setCell ⟨w.heap.size + 1, 0, none⟩ (.int .i64 S.W)).setCell ⟨w.heap.size + 1, 1, none⟩ (.int .i64 (P1.add S.y S.h)))) := by
        intro A1 c1 w1 ho hb
        obtain ⟨_, hb0, hr0⟩ := HP.out
        have hr := hr0.below hb hr0.lt
        exact ⟨⟨hr.cell 0, hr.cell 1, hr.frozen 0, hr.frozen 1⟩, RowsPost.cell hb0 (by omega) hr0 ho hb _ _⟩
      have FIN := Lib.hid fin
      clear fin
      by_cases hlt1 : k < n
      all_goals (
        first
        | (have hk40' : (40 : Int) ≤ (k : Int) := by have := hend hlt1; omega)
        | skip
        clear hlt hend
        by_cases k0 : kind = 0
        · have HS0 := Lib.hid (HS.out.1 k0)
          subst k0
          go_wp2_with fail
          refine (stack_any gap A' k c' (zs.take k) _ HP.out.1 hk40).mono ?_
          rintro e w1 ⟨A1, c1, rfl, ho, hb⟩
          rw [← HS0.out] at ho ⊢
          obtain ⟨⟨r0, r1, r2, r3⟩, HD⟩ := FIN.out A1 c1 w1 ho hb
          clear ho hb
          go_wp2
          exact bodyPost_ret (v := .tuple #[.slice A1 k c1, .agg #[.int .i64 S.W, .int .i64 (P1.add S.y S.h)]]) (by simp [results, Try.results30, go_sem, r0, r1]) rfl (by rw [HM.out]; exact ⟨A1, c1, rfl, HD.out⟩)
        · have k0' : (kind == 0) = false := by simpa using k0
          by_cases k1 : kind = 1
          · have HS0 := Lib.hid (HS.out.2.1 k1)
            subst k1
            go_wp2_with fail
            refine (wrap_any width gap A' k c' (zs.take k) _ HP.out.1 hk40).mono ?_
            rintro e w1 ⟨A1, c1, rfl, ho, hb⟩
            rw [← HS0.out] at ho ⊢
            obtain ⟨⟨r0, r1, r2, r3⟩, HD⟩ := FIN.out A1 c1 w1 ho hb
            clear ho hb
            go_wp2
            exact bodyPost_ret (v := .tuple #[.slice A1 k c1, .agg #[.int .i64 S.W, .int .i64 (P1.add S.y S.h)]]) (by simp [results, Try.results30, go_sem, r0, r1]) rfl (by rw [HM.out]; exact ⟨A1, c1, rfl, HD.out⟩)
          · have k1' : (kind == 1) = false := by simpa using k1
            go_wp2_with fail
            refine (grid_any cols width gap A' k c' (zs.take k) _ HP.out.1 hk40).mono ?_
            rintro e w1 ⟨A1, c1, rfl, ho, hb⟩
            rw [← HS.out.2.2 k0 k1] at ho ⊢
            obtain ⟨⟨r0, r1, r2, r3⟩, HD⟩ := FIN.out A1 c1 w1 ho hb
            clear ho hb
            go_wp2
            exact bodyPost_ret (v := .tuple #[.slice A1 k c1, .agg #[.int .i64 S.W, .int .i64 (P1.add S.y S.h)]]) (by simp [results, Try.results30, go_sem, r0, r1]) rfl (by rw [HM.out]; exact ⟨A1, c1, rfl, HD.out⟩))

end Go.Proofs.Ytgcadpfgdfjceaa
