/-
  The walk over the fixed facts of layer 26.
-/
import Derived.Test.YtkiaaaehakjhjaaSlotOf
import Derived.Test.YtkiaaaehakjhjaaNumbers
namespace Go.Proofs.Ytkiaaaehakjhjaa
open Go.RowKit
attribute [local go_sem ↓] Go.wp_at_zero Go.wp_at_succ

def strA : ByteArray := ⟨#[97]⟩
def strB : ByteArray := ⟨#[98]⟩
theorem aw1 : ofS [(strA, 0)] strB 1 = ⟨[1], -1, 2, []⟩ := by kernel_rfl
theorem aw2 : ofS [(strA, 0)] strB 2 = ⟨[2], -1, 1, []⟩ := by kernel_rfl

/-- A list of one kid that was made just now. -/
theorem kids_lit (w : World) (t : TypeId) (s : ByteArray) (a : Int) : Kids (w.alloc (.cells #[.string s, .int .i64 a] t)) (w.alloc (.cells #[.string s, .int .i64 a] t)).heap.size (some ⟨w.heap.size, 0, none⟩) 1 [(s, a)] := by
  refine ⟨rfl, fun k hk => ?_⟩
  obtain rfl : k = 0 := by omega
  have h := Blk.new w t #[.string s, .int .i64 a]
  exact ⟨w.heap.size, 0, rfl, h.lt, h.cell 0, h.cell 1⟩
theorem nums_lit (w : World) (a : Int) : Nums (w.alloc (.cells #[.int .i64 a] 3)) (w.alloc (.cells #[.int .i64 a] 3)).heap.size (some ⟨w.heap.size, 0, none⟩) 1 [a] := by
  refine ⟨rfl, fun k hk => ?_⟩
  obtain rfl : k = 0 := by omega
  have h := Blk.new w 3 #[.int .i64 a]
  exact ⟨w.heap.size, 0, rfl, h.lt, h.cell 0⟩

theorem ofAB_any (w : World) (mode x st : Int) (h : ofS [(strA, 0)] strB mode = ⟨[x], -1, st, []⟩) :
    Calls Try.prog 10 #[.slice (some ⟨w.heap.size, 0, none⟩) 1 1, .string strB, .int .i64 mode] (w.alloc (.cells #[.string strA, .int .i64 0] 47)) fun e w' =>
      ∃ A1 c1 A2 c2, e = .returned (.agg #[.slice A1 1 c1, .int .i64 (-1), .int .i64 st, .slice A2 0 c2]) ∧ Nums w' w'.heap.size A1 1 [x] ∧ Below w.heap.size w w' := by
  refine (of_any _ _ 1 _ _ strB mode (kids_lit w 47 strA 0) (by omega)).mono ?_
  rintro e w1 ⟨A1, c1, A2, c2, he, ho1, ho2, hb⟩
  rw [h] at he ho1
  exact ⟨A1, c1, A2, c2, he, Nums.of_own ho1 rfl, ((Below.refl _ _).alloc (Nat.le_refl _) _).trans (hb.mono (by simp))⟩

set_option maxRecDepth 100000 in
set_option maxHeartbeats 8000000 in
theorem awake_any (w : World) : Calls Try.prog 7 #[] w fun e w' => e = .returned (.bool true) ∧ Below w.heap.size w w' := by
  go_enter Try.func7, Try.ntmps7
  go_upto_region 1 with fail
  go_cut [1] (fun s wx => ∃ P A1 c1 A2 c2, s = .pointer (some ⟨P, 0, none⟩) ∧ Blk wx P 30 #[.slice A1 1 c1, .int .i64 (-1), .int .i64 2, .slice A2 0 c2] ∧ Nums wx wx.heap.size A1 1 [1] ∧ Below w.heap.size w wx)
  case first =>
    go_wp2_with fail
    refine (ofAB_any w 1 1 2 aw1).mono ?_
    rintro e w1 ⟨A1, c1, A2, c2, rfl, hn, hb⟩
    have HN := Lib.hid (And.intro hn hb)
    clear hn hb
    go_wp2_with fail
    go_meet
    exact ⟨_, A1, c1, A2, c2, rfl, Blk.new _ _ _, (HN.out.1.below ((Below.refl _ _).alloc (Nat.le_refl _) _)).more (by simp), HN.out.2.alloc HN.out.2.size _⟩
  case rest =>
    obtain ⟨P, A1, c1, A2, c2, rfl, hblk, hn, hb⟩ := hcut
    have H1 := Lib.hid (And.intro hblk (And.intro hn hb))
    clear hblk hn hb
    go_upto_region 2 with fail
    go_cut [2] (fun s wx => ∃ P2 A3 c3 A4 c4, s = .pointer (some ⟨P2, 0, none⟩) ∧ Blk wx P2 30 #[.slice A3 1 c3, .int .i64 (-1), .int .i64 1, .slice A4 0 c4] ∧ Nums wx wx.heap.size A3 1 [2] ∧ Blk wx P 30 #[.slice A1 1 c1, .int .i64 (-1), .int .i64 2, .slice A2 0 c2] ∧ Nums wx wx.heap.size A1 1 [1] ∧ Below w.heap.size w wx)
    case first =>
      obtain ⟨wo, hwo⟩ : ∃ wo, wo = wc := ⟨_, rfl⟩
      rw [← hwo] at H1 ⊢
      clear hwo
      go_wp2_with fail
      refine (ofAB_any _ 2 2 1 aw2).mono ?_
      rintro e w1 ⟨A3, c3, A4, c4, rfl, hn, hb⟩
      have HN := Lib.hid (And.intro hn hb)
      clear hn hb
      go_wp2_with fail
      go_meet
      have hb2 := HN.out.2.alloc HN.out.2.size (.cells #[.slice A3 1 c3, .int .i64 (-1), .int .i64 1, .slice A4 0 c4] 30)
      exact ⟨_, A3, c3, A4, c4, rfl, Blk.new _ _ _, (HN.out.1.below ((Below.refl _ _).alloc (Nat.le_refl _) _)).more (by simp), H1.out.1.below hb2 H1.out.1.lt, (H1.out.2.1.below hb2).more hb2.size, H1.out.2.2.trans (hb2.mono H1.out.2.2.size)⟩
    case rest =>
      obtain ⟨P2, A3, c3, A4, c4, rfl, hblk2, hn2, hblk, hn, hb⟩ := hcut
      have x0 : wc.cell? ⟨P, 0, none⟩ = some (.slice A1 1 c1) := hblk.cell 0
      have x1 : wc.cell? ⟨P, 1, none⟩ = some (.int .i64 (-1)) := hblk.cell 1
      have x2 : wc.cell? ⟨P, 2, none⟩ = some (.int .i64 2) := hblk.cell 2
      have y0 : wc.cell? ⟨P2, 0, none⟩ = some (.slice A3 1 c3) := hblk2.cell 0
      have y2 : wc.cell? ⟨P2, 2, none⟩ = some (.int .i64 1) := hblk2.cell 2
      have H2 := Lib.hid (And.intro hn2 (And.intro hn hb))
      clear hblk2 hn2 hblk hn hb H1
      go_wp2_with fail
      refine (numbers_any _ _ _ _ _ _ [1] [1] _ _ _ (H2.out.2.1.below ((Below.refl _ _).alloc (Nat.le_refl _) _)) (nums_lit _ 1) (by unfold maxLen; omega) (by unfold maxLen; omega)).mono ?_
      rintro e w3 ⟨rfl, n3, rfl⟩
      obtain ⟨wn, hwn⟩ : ∃ wn, wn = (wc.alloc (.cells #[.int .i64 1] 3)).drewN n3 := ⟨_, rfl⟩
      rw [← hwn]
      have hbn : Below wc.heap.size wc wn := by rw [hwn]; exact below_drewN ((Below.refl _ _).alloc (Nat.le_refl _) _) _
      have hP := World.block_lt_of_cell? wc _ x1
      have hP2 := World.block_lt_of_cell? wc _ y2
      replace x0 := (hbn.cell (p := ⟨P, 0, none⟩) hP).trans x0
      replace x1 := (hbn.cell (p := ⟨P, 1, none⟩) hP).trans x1
      replace x2 := (hbn.cell (p := ⟨P, 2, none⟩) hP).trans x2
      replace y0 := (hbn.cell (p := ⟨P2, 0, none⟩) hP2).trans y0
      replace y2 := (hbn.cell (p := ⟨P2, 2, none⟩) hP2).trans y2
      have H3 := Lib.hid (And.intro ((H2.out.1.below hbn).more hbn.size) (And.intro (H2.out.2.2.trans (hbn.mono H2.out.2.2.size)) hbn))
      have hP3 := Nat.lt_of_lt_of_le hP2 hbn.size
      clear hwn hbn H2 hP hP2
      go_wp2_with fail
      refine (numbers_any _ _ _ _ _ _ [2] [2] _ _ _ (H3.out.1.below ((Below.refl _ _).alloc (Nat.le_refl _) _)) (nums_lit _ 2) (by unfold maxLen; omega) (by unfold maxLen; omega)).mono ?_
      rintro e w3 ⟨rfl, n4, rfl⟩
      have z2 : ((wn.alloc (.cells #[.int .i64 2] 3)).drewN n4).cell? ⟨P2, 2, none⟩ = some (.int .i64 1) := ((below_drewN ((Below.refl _ _).alloc (Nat.le_refl _) (.cells #[.int .i64 2] 3)) n4).cell (p := ⟨P2, 2, none⟩) hP3).trans y2
      go_wp2
      go_ret
      exact ⟨rfl, below_drewN (H3.out.2.1.alloc H3.out.2.1.size _) _⟩

end Go.Proofs.Ytkiaaaehakjhjaa
