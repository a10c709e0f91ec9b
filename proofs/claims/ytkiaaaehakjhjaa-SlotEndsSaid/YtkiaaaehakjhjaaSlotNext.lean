/-
  The walks over what goes on by itself: slot's, the document's.
-/
import Derived.Test.YtkiaaaehakjhjaaSlotRel
namespace Go.Proofs.Ytkiaaaehakjhjaa
open Go.RowKit
attribute [local go_sem ↓] Go.wp_at_zero Go.wp_at_succ

def heldB (ks : List Kid) (i : Nat) : Bool := (ks.getD i kid0).2 == 4
def heldTo (ks : List Kid) (k : Nat) : List Int := ((List.range k).filter (heldB ks)).map fun (i : Nat) => (i : Int)
theorem heldTo_succ (ks : List Kid) (k : Nat) : heldTo ks (k + 1) = if heldB ks k = true then heldTo ks k ++ [(k : Int)] else heldTo ks k := by
  rw [heldTo, heldTo, List.range_succ, List.filter_append]
  cases h : heldB ks k <;> simp [List.filter, h]
theorem heldTo_len (ks : List Kid) (k : Nat) : (heldTo ks k).length ≤ k := by
  rw [heldTo, List.length_map]
  exact Nat.le_trans (List.length_filter_le _ _) (by simp)
def ghostTo (ks : List Kid) (k : Nat) : Bool := (List.range k).any fun i => ghostB (ks.getD i kid0).2
theorem ghostTo_succ (ks : List Kid) (k : Nat) : ghostTo ks (k + 1) = (ghostTo ks k || ghostB (ks.getD k kid0).2) := by
  rw [ghostTo, ghostTo, List.range_succ, List.any_append]
  simp
/-- Does the current one enter? does it wait? -/
def entS (ks : List Kid) : Bool := decide (0 ≤ cur ks) && entB (ks.getD (cur ks).toNat kid0).2
def waitS (ks : List Kid) : Bool := decide (0 ≤ cur ks) && (ks.getD (cur ks).toNat kid0).2 == 1
def nextL (ks : List Kid) : List Int := if entS ks = true then [] else heldTo ks ks.length
def nextB (ks : List Kid) : Bool := if entS ks = true then false else waitS ks && !ghostTo ks ks.length

def NextPost (w : World) (ks : List Kid) (e : Ending) (w' : World) : Prop :=
  ∃ A c, e = .returned (.tuple #[.slice A (nextL ks).length c, .bool (nextB ks)]) ∧ w'.ownsRow w.heap.size 3 1 (.slice A (nextL ks).length c) (nextL ks).length (nums (nextL ks)) ∧ Below w.heap.size w w'

theorem cur_nat (ks : List Kid) (h : 0 ≤ cur ks) : (cur ks).toNat < ks.length := by
  rw [cur] at h ⊢
  rcases firstAt_cases live ks with ⟨h1, _⟩ | ⟨k, h0, h1, _⟩
  · rw [h1] at h; simp at h
  · rw [h1, if_neg (by omega)]; omega

set_option maxRecDepth 100000 in
set_option maxHeartbeats 8000000 in
theorem next_any (A : Option Addr) (n c : Nat) (ks : List Kid) (w : World) (hz : Kids w w.heap.size A n ks) (hm : n ≤ 15) :
    Calls Try.prog 16 #[.slice A n c] w (NextPost w ks) := by
  obtain ⟨tr, hi, hz0, hz1, hz2⟩ := info_parts int_info
  obtain ⟨cu, hcu⟩ : ∃ cu, cu = cur ks := ⟨_, rfl⟩
  obtain ⟨q, hq⟩ : ∃ q, q = entS ks := ⟨_, rfl⟩
  have HZ := Lib.hid (And.intro hz (And.intro hcu hq))
  have HK := Lib.hid (show 0 ≤ cu → cu.toNat < n by intro h; rw [hcu] at h ⊢; have := cur_nat ks h; have := hz.1; omega)
  clear hz hcu hq
  go_enter Try.func16, Try.ntmps16
  go_wp2_with fail
  refine (cur_any _ _ _ ks _ HZ.out.1 (by unfold maxLen; omega)).mono ?_
  rintro e w1 ⟨rfl, hb1⟩
  rw [← HZ.out.2.1]
  have HB1 := Lib.hid hb1
  clear hb1
  go_upto_region 2 with fail
  go_cut [20] (fun s wx => s = .bool q ∧ Below w.heap.size w wx)
  case first =>
    by_cases h0 : 0 ≤ cu
    · obtain ⟨k, rfl⟩ : ∃ k : Nat, cu = k := ⟨cu.toNat, by omega⟩
      have hkn : k < n := by have := HK.out h0; omega
      have i2 : (k : Int) < (n : Int) := by omega
      obtain ⟨b, off, rfl, hbB, e0, e1⟩ := HZ.out.1.2 k hkn
      replace e0 := (HB1.out.cell (p := ⟨b, off + k * 2, none⟩) hbB).trans e0
      replace e1 := (HB1.out.cell (p := ⟨b, off + k * 2 + 1, none⟩) hbB).trans e1
      obtain ⟨s, t, hst⟩ : ∃ s t, ks.getD k kid0 = (s, t) := ⟨_, _, rfl⟩
      rw [hst] at e0 e1
      simp only [k0, k1] at e0 e1
      have HQ := Lib.hid (show q = entB t by
        have e : ks.getD ((k : Nat) : Int).toNat kid0 = (s, t) := hst
        rw [HZ.out.2.2, entS, ← HZ.out.2.1, e]; simp)
      clear hst
      go_wp2_with fail
      refine (look_any _ _ _).mono ?_
      rintro e w2 ⟨rfl, hb2⟩
      have HB2 := Lib.hid (HB1.out.trans (hb2.mono HB1.out.size))
      clear hb2 e0 e1
      go_wp2_with fail
      refine (entering_any _ _ _ _ _).mono ?_
      rintro e w3 ⟨rfl, hb3⟩
      have HB3 := Lib.hid (HB2.out.trans (hb3.mono HB2.out.size))
      clear hb3
      go_wp2
      go_meet
      exact ⟨by rw [HQ.out], HB3.out⟩
    · have HQ := Lib.hid (show q = false by rw [HZ.out.2.2, entS, ← HZ.out.2.1]; simp [h0])
      have hd : decide (0 ≤ cu) = false := by simpa using h0
      clear h0
      go_wp2
      go_meet
      exact ⟨by rw [HQ.out], HB1.out⟩
  case rest =>
    obtain ⟨rfl, hb⟩ := hcut
    clear HB1
    have HB1 := Lib.hid hb
    clear hb
    cases q
    rotate_left
    · have HL := Lib.hid (show nextL ks = [] ∧ nextB ks = false by rw [nextL, nextB, ← HZ.out.2.2]; exact ⟨rfl, rfl⟩)
      go_wp2
      exact bodyPost_ret (v := .tuple #[.slice none 0 0, .bool false]) (by simp [results, Try.results16, go_sem]) rfl ⟨none, 0, by rw [HL.out.1, HL.out.2]; rfl, by rw [HL.out.1]; exact World.ownsRow_nil _ _ _ _, HB1.out⟩
    · go_wp2_with fail
      go_loopw [5, 6, 23] (fun vh g i wr => ∃ k : Nat, k ≤ n ∧ i = .int .i64 k ∧ g = .bool (ghostTo ks k) ∧ wr.ownsRow w.heap.size 3 1 vh (heldTo ks k).length (nums (heldTo ks k)) ∧ Below w.heap.size w wr) (fun _ _ i _ => n - (intOf i).toNat)
      case atStart => exact ⟨0, Nat.zero_le _, rfl, rfl, World.ownsRow_nil _ _ _ _, HB1.out⟩
      case round =>
        obtain ⟨k, hk, rfl, rfl, hown, hb⟩ := hrel
        obtain ⟨vh, hvh⟩ : ∃ vh, vh = u5 := ⟨_, rfl⟩
        rw [← hvh] at hown ⊢
        clear hvh
        obtain ⟨g, hg⟩ : ∃ g, g = ghostTo ks k := ⟨_, rfl⟩
        rw [← hg]
        by_cases hlt : k < n
        · obtain ⟨b, off, rfl, hbB, e0, e1⟩ := HZ.out.1.2 k hlt
          replace e0 := (hb.cell (p := ⟨b, off + k * 2, none⟩) hbB).trans e0
          replace e1 := (hb.cell (p := ⟨b, off + k * 2 + 1, none⟩) hbB).trans e1
          obtain ⟨s0, t, hst⟩ : ∃ s t, ks.getD k kid0 = (s, t) := ⟨_, _, rfl⟩
          rw [hst] at e0 e1
          simp only [k0, k1] at e0 e1
          have i1 : (0 : Int) ≤ (k : Int) := by omega
          have i2 : (k : Int) < (n : Int) := by omega
          have HG := Lib.hid (show ghostTo ks (k + 1) = (g || ghostB t) by rw [ghostTo_succ, hst, hg])
          have HH := Lib.hid (heldTo_succ ks k)
          have HT := Lib.hid (show heldB ks k = (t == 4) by rw [heldB, hst])
          have HLN := Lib.hid (heldTo_len ks k)
          have HO := Lib.hid hown
          have HB := Lib.hid hb
          clear hst hg hown hb HB1
          obtain ⟨wo, hwo⟩ : ∃ wo, wo = wr := ⟨_, rfl⟩
          rw [← hwo] at HO HB e0 e1 ⊢
          clear hwo
          go_upto_region 9 with fail
          go_cut [6] (fun s wx => s = .bool (g || ghostB t) ∧ Blk wx wo.heap.size 47 #[.string s0, .int .i64 t] ∧ wx.ownsRow w.heap.size 3 1 vh (heldTo ks k).length (nums (heldTo ks k)) ∧ Below w.heap.size w wx)
          case first =>
            cases g
            · go_wp2_with fail
              refine (kghost_any _ _ _).mono ?_
              rintro e w2 ⟨rfl, hb2⟩
              have hbl := Blk.below (Blk.new wo 47 #[.string s0, .int .i64 t]) hb2 (by simp)
              have HBL := Lib.hid hbl
              have HB2 := Lib.hid hb2
              clear hbl hb2
              go_wp2
              go_meet
              exact ⟨by simp, HBL.out, own_keep (HO.out.alloc _) HB2.out, (HB.out.alloc HB.out.size _).trans (HB2.out.mono (HB.out.alloc HB.out.size _).size)⟩
            · go_wp2
              go_meet
              exact ⟨by simp, Blk.new _ _ _, HO.out.alloc _, HB.out.alloc HB.out.size _⟩
          case rest =>
            obtain ⟨rfl, hbl, hown, hb⟩ := hcut
            obtain ⟨B, hB⟩ : ∃ B, B = wo.heap.size := ⟨_, rfl⟩
            rw [← hB] at hbl ⊢
            have x1 : wc.cell? ⟨B, 1, none⟩ = some (.int .i64 t) := hbl.cell 1
            clear hbl hB HO HB e0 e1
            have HO := Lib.hid hown
            have HB := Lib.hid hb
            clear hown hb
            rw [← HG.out]
            by_cases h4 : t = 4
            · have HK1 := Lib.hid (show heldTo ks (k + 1) = heldTo ks k ++ [(k : Int)] by rw [HH.out, HT.out, h4]; rfl)
              subst h4
              obtain ⟨l, hl⟩ : ∃ l, l = heldTo ks k := ⟨_, rfl⟩
              rw [← hl] at HO HLN HK1
              have hll := HLN.out
              clear hl HH
              go_wp2_with (first
                | (at_builtin; refine wpList_append_lies _ rfl _ _ _ rfl w.heap.size 3 tr _ 1 8 Try.underlying28 hi hz0 hz1 hz2 rfl (by decide) _ l.length (nums l) rfl (HO.out.alloc _) _ 1 1 [.int .i64 (k : Int)] rfl rfl (World.news_of_block (heap_alloc_new _ _)) (by intro u hu; simp at hu; subst hu; rfl) (by omega) (by unfold maxLen; omega) (by omega) (by have := HB.out.size; simp; omega) _ rfl ?_; intro g2 cap2 w2 hown2 hg2 hat2 hlt2; have HN := Lib.hid hown2; have HB2 := Lib.hid ((HB.out.alloc HB.out.size _).grown hg2 (HB.out.alloc HB.out.size _).size (fun j hj => (HO.out.lt j hj).1)); clear hown2 hg2 hat2 hlt2))
              go_roundw
              case rel => exact ⟨k + 1, by omega, by go_num, rfl, by rw [HK1.out]; simpa [nums] using HN.out, HB2.out⟩
              case measure => simp [intOf]; omega
            · have HK1 := Lib.hid (show heldTo ks (k + 1) = heldTo ks k by rw [HH.out, HT.out, if_neg (by simpa using h4)])
              have g4 := beq_no h4
              clear h4 HH
              go_wp2
              go_roundw
              case rel => exact ⟨k + 1, by omega, by go_num, rfl, by rw [HK1.out]; exact HO.out, HB.out⟩
              case measure => simp [intOf]; omega
        · obtain rfl : k = n := by omega
          have HO := Lib.hid hown
          have HB := Lib.hid hb
          have HL := Lib.hid (show nextL ks = heldTo ks k ∧ nextB ks = (waitS ks && !g) by rw [nextL, nextB, ← HZ.out.2.2, HZ.out.1.1, hg]; exact ⟨rfl, rfl⟩)
          obtain ⟨A1, c1, hv⟩ := own_form hown
          subst hv
          clear hg hown hb HB1
          by_cases h0 : 0 ≤ cu
          · obtain ⟨j, rfl⟩ : ∃ j : Nat, cu = j := ⟨cu.toNat, by omega⟩
            have hkn : j < k := by have := HK.out h0; omega
            have i2 : (j : Int) < (k : Int) := by omega
            obtain ⟨b, off, rfl, hbB, e0, e1⟩ := HZ.out.1.2 j hkn
            replace e0 := (HB.out.cell (p := ⟨b, off + j * 2, none⟩) hbB).trans e0
            replace e1 := (HB.out.cell (p := ⟨b, off + j * 2 + 1, none⟩) hbB).trans e1
            obtain ⟨s, t, hst⟩ : ∃ s t, ks.getD j kid0 = (s, t) := ⟨_, _, rfl⟩
            rw [hst] at e0 e1
            simp only [k0, k1] at e0 e1
            have HQ := Lib.hid (show nextB ks = (t == 1 && !g) by
              have e : ks.getD ((j : Nat) : Int).toNat kid0 = (s, t) := hst
              rw [HL.out.2, waitS, ← HZ.out.2.1, e]; simp)
            clear hst
            by_cases h1 : t = 1
            · subst h1
              go_wp2
              exact bodyPost_ret (v := .tuple #[.slice A1 (heldTo ks k).length c1, .bool (!g)]) (by simp [results, Try.results16, go_sem]) rfl ⟨A1, c1, by rw [HL.out.1, HQ.out]; rfl, by rw [HL.out.1]; exact HO.out, HB.out⟩
            · have g1 := beq_no h1
              have HQ1 := Lib.hid (show nextB ks = false by rw [HQ.out, g1]; rfl)
              clear h1
              go_wp2
              exact bodyPost_ret (v := .tuple #[.slice A1 (heldTo ks k).length c1, .bool false]) (by simp [results, Try.results16, go_sem]) rfl ⟨A1, c1, by rw [HL.out.1, HQ1.out], by rw [HL.out.1]; exact HO.out, HB.out⟩
          · have HQ := Lib.hid (show nextB ks = false by rw [HL.out.2, waitS, ← HZ.out.2.1]; simp [h0])
            have hd : decide (0 ≤ cu) = false := by simpa using h0
            clear h0
            go_wp2
            exact bodyPost_ret (v := .tuple #[.slice A1 (heldTo ks k).length c1, .bool false]) (by simp [results, Try.results16, go_sem]) rfl ⟨A1, c1, by rw [HL.out.1, HQ.out], by rw [HL.out.1]; exact HO.out, HB.out⟩

end Go.Proofs.Ytkiaaaehakjhjaa
