/-
  The document's snaps (Get, Snap of layer 13) and Is, at entries whose numbers rise.
  Is of layer 13: the same entries.
  What place hands its entries to: a row that grows in a cell.
  What place's regions want: three numbers summed, points read, a call of five arguments.
-/
import Derived.Test.YtaalhglooipnaaaGreatL12
import Derived.Laws.StructEq
import Derived.Test.YtaalhglooipnaaaGreatL26
namespace Go.Proofs.YtaalhglooipnaaaGreat
open Go.RowKit
attribute [local go_sem ↓] Go.wp_at_zero Go.wp_at_succ

theorem ren_info : (Tryz.prog.info? 113).map (fun i => (i.zero, i.size, i.bytes)) = some (some (.agg #[.int .i64 0, .int .i64 0, .int .i64 0, .int .i64 0, .int .i64 0]), 5, 40) := by kernel_rfl

set_option maxRecDepth 100000 in
set_option maxHeartbeats 8000000 in
theorem rgetE_any (A : Option Addr) (n c : Nat) (l : List En) (j : Nat) (w : World) (hz : Es w w.heap.size A n l) (hn : n ≤ 500) (hs : SrtE l) (hj : j < n) :
    Calls Tryz.prog 72 #[.slice A n c, .int .i64 (l.getD j en0).1] w fun e w' => e = .returned (.tuple #[rcV (l.getD j en0).2, .bool true]) ∧ Below w.heap.size w w' := by
  have HZ := Lib.hid (And.intro hz hs)
  clear hz hs
  obtain ⟨⟨t, r1, r2, r3, r4⟩, ht⟩ : ∃ t, t = l.getD j en0 := ⟨_, rfl⟩
  rw [← ht]
  have HTT := Lib.hid ht
  clear ht
  have hX := Blk.new w 111 #[.int .i64 0, .int .i64 0, .int .i64 0, .int .i64 0]
  have hB0 := (Below.refl w.heap.size w).alloc (Nat.le_refl _) (.cells #[.int .i64 0, .int .i64 0, .int .i64 0, .int .i64 0] 111)
  go_enter Tryz.func72, Tryz.ntmps72
  go_upto_region 1 with fail
  obtain ⟨w1, hw1⟩ : ∃ w1, w1 = w.alloc (.cells #[.int .i64 0, .int .i64 0, .int .i64 0, .int .i64 0] 111) := ⟨_, rfl⟩
  obtain ⟨X, hXe⟩ : ∃ X, X = w.heap.size := ⟨_, rfl⟩
  rw [← hw1] at hX hB0 ⊢
  rw [← hXe] at hX ⊢
  have HX := Lib.hid (And.intro hX (And.intro hB0 (And.intro hXe (HZ.out.1.keep hB0))))
  clear hw1 hXe hX hB0
  have hn1 : (1 : Int) ≤ (n : Int) := by omega
  have hnw : (n : Int) - 1 = ((n - 1 : Nat) : Int) := by omega
  go_upto_region 2 with fail
  try rw [hnw]
  clear hnw
  go_loopw [6] (fun v6 wx => ∃ i : Nat, j ≤ i ∧ i < n ∧ v6 = .int .i64 i ∧ wx = w1) (fun v _ => (intOf v).toNat)
  case atStart => exact ⟨n - 1, by omega, by omega, by first | rfl | (congr 1; omega), rfl⟩
  case round =>
    obtain ⟨i, hji, hin, rfl, hw⟩ := hrel
    subst hw
    obtain ⟨b, off, rfl, hbB, d0, d1, d2, d3, d4⟩ := rd_en HX.out.2.2.2 i hin
    have i1 : (0 : Int) ≤ (i : Int) := by omega
    have i2 : (i : Int) < (n : Int) := by omega
    by_cases e : i = j
    · subst e
      rw [← HTT.out] at d0 d1 d2 d3 d4
      simp only at d0 d1 d2 d3 d4
      have y0 := HX.out.1.cell 0
      have y1 := HX.out.1.cell 1
      have y2 := HX.out.1.cell 2
      have y3 := HX.out.1.cell 3
      have z0 := HX.out.1.frozen 0
      have z1 := HX.out.1.frozen 1
      have z2 := HX.out.1.frozen 2
      have z3 := HX.out.1.frozen 3
      clear hbB
      go_wp2_with fail
      have hE := (((HX.out.1.set_ 0 (.int .i64 r1)).set_ 1 (.int .i64 r2)).set_ 2 (.int .i64 r3)).set_ 3 (.int .i64 r4)
      have hb := (((HX.out.2.1.setCell (p := ⟨X, 0, none⟩) (by rw [HX.out.2.2.1]; exact Nat.le_refl _) (.int .i64 r1)).setCell (p := ⟨X, 1, none⟩) (by rw [HX.out.2.2.1]; exact Nat.le_refl _) (.int .i64 r2)).setCell (p := ⟨X, 2, none⟩) (by rw [HX.out.2.2.1]; exact Nat.le_refl _) (.int .i64 r3)).setCell (p := ⟨X, 3, none⟩) (by rw [HX.out.2.2.1]; exact Nat.le_refl _) (.int .i64 r4)
      generalize (((wr.setCell ⟨X, 0, none⟩ (Value.int IntKind.i64 r1)).setCell ⟨X, 1, none⟩ (Value.int IntKind.i64 r2)).setCell ⟨X, 2, none⟩ (Value.int IntKind.i64 r3)).setCell ⟨X, 3, none⟩ (Value.int IntKind.i64 r4) = w4 at hE hb ⊢
      have q0 := hE.cell 0
      have q1 := hE.cell 1
      have q2 := hE.cell 2
      have q3 := hE.cell 3
      exact bodyPost_ret (v := .tuple #[.agg #[.int .i64 r1, .int .i64 r2, .int .i64 r3, .int .i64 r4], .bool true]) (by simp [results, Tryz.results72, go_sem, q0, q1, q2, q3]) rfl ⟨rfl, hb⟩
    · have hne : ((l.getD i en0).1 == t) = false := by
        rw [beq_eq_false_iff_ne, show t = (l.getD j en0).1 by rw [← HTT.out]]
        have := HZ.out.2 j i (by omega) (by have := HZ.out.1.1; omega)
        omega
      obtain ⟨s, hs⟩ : ∃ s, s = (l.getD i en0).1 := ⟨_, rfl⟩
      rw [← hs] at d0 hne
      have hiw : (i : Int) - 1 = ((i - 1 : Nat) : Int) := by omega
      have i3 : (1 : Int) ≤ (i : Int) := by omega
      clear hs d1 d2 d3 d4 hbB
      go_wp2
      go_roundw
      case rel => exact ⟨i - 1, by omega, by omega, by first | rfl | (congr 1; omega) | (rw [hiw]), trivial⟩
      case measure => simp [intOf]; omega

/-- What hands back a row of the document's entries leaves. -/
def REnPost (w : World) (l : List En) (e : Ending) (w' : World) : Prop :=
  ∃ A c, e = .returned (.slice A l.length c) ∧ w'.ownsRow w.heap.size 113 5 (.slice A l.length c) l.length (l.flatMap cvE) ∧ Below w.heap.size w w'
def lenOf : Value → Nat
  | .slice _ n _ => n
  | _ => 0
theorem take_getD {l : List En} {k j : Nat} (h : j < k) : (l.take k).getD j en0 = l.getD j en0 := by simp [List.getD, h]

set_option maxRecDepth 100000 in
set_option maxHeartbeats 16000000 in
theorem rsnap_any (A : Option Addr) (n c : Nat) (l : List En) (w : World) (hz : Es w w.heap.size A n l) (hn : n ≤ 500) (hs : SrtE l) :
    Calls Tryz.prog 38 #[.slice A n c] w (REnPost w l) := by
  obtain ⟨tr, hti, hz0, hz1, hz2⟩ := info_parts ren_info
  have HZ := Lib.hid (And.intro hz hs)
  clear hz hs
  have h0 : (w.alloc (.cells #[] 113)).ownsRow w.heap.size 113 5 (.slice (some ⟨w.heap.size, 0, none⟩) 0 0) 0 ((l.take 0).flatMap cvE) := World.ownsRow_made w #[] 0 (Nat.le_refl _) (Nat.zero_le _) rfl
  have HS := Lib.hid (And.intro h0 ((Below.refl w.heap.size w).alloc (Nat.le_refl _) (.cells #[] 113)))
  clear h0
  go_enter Tryz.func38, Tryz.ntmps38
  go_wp2_with fail
  obtain ⟨ws, hws⟩ : ∃ ws, ws = w.alloc (.cells #[] 113) := ⟨_, rfl⟩
  obtain ⟨vs, hvs⟩ : ∃ v, v = Value.slice (some ⟨w.heap.size, 0, none⟩) 0 0 := ⟨_, rfl⟩
  rw [← hws, ← hvs] at HS
  rw [← hws, ← hvs]
  have HVS := Lib.hid hvs
  clear hws hvs
  go_loopw [3] (fun vo wx => ∃ k : Nat, k ≤ n ∧ wx.ownsRow w.heap.size 113 5 vo k ((l.take k).flatMap cvE) ∧ Below w.heap.size w wx) (fun vo _ => n - lenOf vo)
  case atStart => exact ⟨0, Nat.zero_le _, HS.out.1, HS.out.2⟩
  case round =>
    obtain ⟨k, hk, hown, hb⟩ := hrel
    obtain ⟨Ao, co, hv⟩ := own_form hown
    obtain ⟨vo, hvo⟩ : ∃ vo, vo = u3 := ⟨_, rfl⟩
    rw [← hvo] at hown hv ⊢
    clear hvo
    subst hv
    have HO := Lib.hid (And.intro hown hb)
    clear hown hb HS
    have hlk : (l.take k).length = k := by rw [List.length_take]; have := HZ.out.1.1; omega
    have HLK := Lib.hid hlk
    clear hlk
    obtain ⟨best, hbest⟩ : ∃ b, b = (l.getD k en0).1 := ⟨_, rfl⟩
    have HBE := Lib.hid hbest
    clear hbest
    go_wp2_with fail
    go_loopw [4, 5, 13] (fun vf vb vi wx => ∃ j : Nat, j ≤ n ∧ vi = .int .i64 j ∧ vf = .bool (decide (k < j)) ∧ vb = .int .i64 (if k < j then best else 0) ∧ wx.ownsRow w.heap.size 113 5 (.slice Ao k co) k ((l.take k).flatMap cvE) ∧ Below w.heap.size w wx) (fun _ _ i _ => n - (intOf i).toNat)
    case atStart => exact ⟨0, Nat.zero_le _, rfl, by simp, by simp, HO.out.1, HO.out.2⟩
    case round =>
      obtain ⟨j, hj, rfl, hvf, hvb, hown, hb⟩ := hrel
      obtain ⟨fb, hfb⟩ : ∃ fb, fb = decide (k < j) := ⟨_, rfl⟩
      obtain ⟨bb, hbb⟩ : ∃ bb, bb = (if k < j then best else 0) := ⟨_, rfl⟩
      rw [← hfb] at hvf
      rw [← hbb] at hvb
      subst hvf
      subst hvb
      have HFB := Lib.hid (And.intro hfb hbb)
      clear hfb hbb
      by_cases hlt : j < n
      · obtain ⟨b, off, rfl, hbB, d0, d1, d2, d3, d4⟩ := rd_en HZ.out.1 j hlt
        replace d0 := (hb.cell (p := ⟨b, off + j * 5, none⟩) hbB).trans d0
        replace d1 := (hb.cell (p := ⟨b, off + j * 5 + 1, none⟩) hbB).trans d1
        replace d2 := (hb.cell (p := ⟨b, off + j * 5 + 2, none⟩) hbB).trans d2
        replace d3 := (hb.cell (p := ⟨b, off + j * 5 + 3, none⟩) hbB).trans d3
        replace d4 := (hb.cell (p := ⟨b, off + j * 5 + 4, none⟩) hbB).trans d4
        have hll := HZ.out.1.1
        have HC1 := Lib.hid (fun (h : j < k) => show (l.getD j en0).1 ≤ (l.getD (k - 1) en0).1 from by
          by_cases e : j = k - 1
          · rw [e]; exact Int.le_refl _
          · exact Int.le_of_lt (HZ.out.2 j (k - 1) (by omega) (by omega)))
        have HC2 := Lib.hid (fun (h : k ≤ j) (h0 : 0 < k) => HZ.out.2 (k - 1) j (by omega) (by omega))
        have HC3 := Lib.hid (fun (h : k < j) => show best < (l.getD j en0).1 from by rw [HBE.out]; exact HZ.out.2 k j h (by omega))
        have HC4 := Lib.hid (fun (h : j = k) => show (l.getD j en0).1 = best from by rw [HBE.out, h])
        obtain ⟨⟨t, v1, v2, v3, v4⟩, ht⟩ : ∃ t, t = l.getD j en0 := ⟨_, rfl⟩
        rw [← ht] at d0 d1 d2 d3 d4 HC1 HC2 HC3 HC4
        simp only at d0 d1 d2 d3 d4 HC1 HC2 HC3 HC4
        have i1 : (0 : Int) ≤ (j : Int) := by omega
        have i2 : (j : Int) < (n : Int) := by omega
        have HO2 := Lib.hid (And.intro (hown.alloc (.cells #[.int .i64 t, .int .i64 v1, .int .i64 v2, .int .i64 v3, .int .i64 v4] 113)) (hb.alloc hb.size (.cells #[.int .i64 t, .int .i64 v1, .int .i64 v2, .int .i64 v3, .int .i64 v4] 113)))
        have hX := Blk.new wr 113 #[.int .i64 t, .int .i64 v1, .int .i64 v2, .int .i64 v3, .int .i64 v4]
        have HX := Lib.hid hX
        have y0 := hX.cell 0
        clear ht hown hb hX hbB hll
        go_upto_region 7 with fail
        obtain ⟨w1, hw1⟩ : ∃ w1, w1 = wr.alloc (.cells #[.int .i64 t, .int .i64 v1, .int .i64 v2, .int .i64 v3, .int .i64 v4] 113) := ⟨_, rfl⟩
        obtain ⟨X, hXe⟩ : ∃ X, X = wr.heap.size := ⟨_, rfl⟩
        rw [← hw1] at HO2 HX y0 ⊢
        rw [← hXe] at HX y0 ⊢
        clear hw1 hXe d0 d1 d2 d3 d4
        go_cut [41] (fun s41 wx => s41 = .bool (decide (j = k)) ∧ ∃ n, wx = w1.drewN n)
        case first =>
          have hlk := HLK.out
          by_cases hk0 : k = 0
          · have e1 : ((k : Int) == 0) = true := by rw [beq_iff_eq]; omega
            by_cases hjk : j = k
            · obtain rfl : fb = false := by rw [HFB.out.1]; simp; omega
              have HR := Lib.hid (show decide (j = k) = true by simp [hjk])
              clear hk0 hjk hlk
              go_quiet (fail)
              go_wp2
              go_meet
              exact ⟨by rw [HR.out], _, rfl⟩
            · have hkj : k < j := by omega
              obtain rfl : fb = true := by rw [HFB.out.1]; simp; omega
              obtain rfl : best = bb := by rw [HFB.out.2, if_pos hkj]
              have e2 : decide (t < best) = false := by simp; exact Int.le_of_lt (HC3.out hkj)
              have HR := Lib.hid (show decide (j = k) = false by simp [hjk])
              clear hk0 hjk hlk hkj
              go_quiet (fail)
              go_wp2
              go_meet
              exact ⟨by rw [HR.out], _, rfl⟩
          · have e1 : ((k : Int) == 0) = false := by rw [beq_eq_false_iff_ne]; omega
            obtain ⟨b2, off2, hA2, hbB2, x0, _⟩ := rd_en (Rd.of_own (cv := cvE) (d := en0) (fun _ => rfl) HO2.out.1 hlk) (k - 1) (by omega)
            rw [take_getD (by omega)] at x0
            obtain ⟨last, hlast⟩ : ∃ b, b = (l.getD (k - 1) en0).1 := ⟨_, rfl⟩
            rw [← hlast] at x0 HC1 HC2
            subst hA2
            have kw : (k : Int) - 1 = ((k - 1 : Nat) : Int) := by omega
            have kn : (0 : Int) ≤ ((k - 1 : Nat) : Int) := by omega
            have kl : ((k - 1 : Nat) : Int) < (k : Int) := by omega
            by_cases hlo : j < k
            · have e2 : decide (last < t) = false := by simp; exact HC1.out hlo
              have HR := Lib.hid (show decide (j = k) = false by simp; omega)
              clear hk0 hlk hlo hlast hbB2
              go_quiet (fail)
              go_wp2
              go_meet
              exact ⟨by rw [HR.out], _, rfl⟩
            · have e2 : decide (last < t) = true := by simp; exact HC2.out (by omega) (by omega)
              by_cases hjk : j = k
              · obtain rfl : fb = false := by rw [HFB.out.1]; simp; omega
                have HR := Lib.hid (show decide (j = k) = true by simp [hjk])
                clear hk0 hjk hlk hlo hlast hbB2
                go_quiet (fail)
                go_wp2
                go_meet
                exact ⟨by rw [HR.out], _, rfl⟩
              · have hkj : k < j := by omega
                obtain rfl : fb = true := by rw [HFB.out.1]; simp; omega
                obtain rfl : best = bb := by rw [HFB.out.2, if_pos hkj]
                have e3 : decide (t < best) = false := by simp; exact Int.le_of_lt (HC3.out hkj)
                have HR := Lib.hid (show decide (j = k) = false by simp [hjk])
                clear hk0 hjk hlk hkj hlo hlast hbB2
                go_quiet (fail)
                go_wp2
                go_meet
                exact ⟨by rw [HR.out], _, rfl⟩
        case rest =>
          obtain ⟨rfl, nq, rfl⟩ := hcut
          have hbq := below_drewN (Below.refl w1.heap.size w1) nq
          have HO3 := Lib.hid (And.intro (own_keep HO2.out.1 hbq) (HO2.out.2.trans (hbq.mono HO2.out.2.size)))
          have y0 := (HX.out.drewN nq).cell 0
          generalize w1.drewN nq = w2 at HO3 y0 ⊢
          clear hbq HX HO2 HC1 HC2 HC3
          by_cases hjk : j = k
          · rw [show decide (j = k) = true by simp [hjk]]
            have HT := Lib.hid (show Value.bool true = .bool (decide (k < j + 1)) ∧ Value.int .i64 t = .int .i64 (if k < j + 1 then best else 0) from ⟨by rw [show decide (k < j + 1) = true by simp; omega], by rw [if_pos (by omega), HC4.out hjk]⟩)
            clear hjk HC4
            go_wp2_with fail
            go_roundw
            case rel => exact ⟨j + 1, by omega, by go_num, HT.out.1, HT.out.2, HO3.out.1, HO3.out.2⟩
            case measure => simp [intOf]; omega
          · rw [show decide (j = k) = false by simp [hjk]]
            have HT := Lib.hid (show Value.bool fb = .bool (decide (k < j + 1)) ∧ Value.int .i64 bb = .int .i64 (if k < j + 1 then best else 0) from ⟨by
              rw [HFB.out.1]
              by_cases e : k < j
              · rw [show decide (k < j + 1) = true by simp; omega, show decide (k < j) = true by simp [e]]
              · rw [show decide (k < j + 1) = false by simp; omega, show decide (k < j) = false by simp [e]], by
              rw [HFB.out.2]
              by_cases e : k < j
              · rw [if_pos e, if_pos (by omega)]
              · rw [if_neg e, if_neg (by omega)]⟩)
            clear hjk HC4
            go_wp2_with fail
            go_roundw
            case rel => exact ⟨j + 1, by omega, by go_num, HT.out.1, HT.out.2, HO3.out.1, HO3.out.2⟩
            case measure => simp [intOf]; omega
      · obtain rfl : n = j := by omega
        have HO3 := Lib.hid (And.intro hown hb)
        clear hlt hj hown hb
        by_cases hkn : k < n
        · obtain rfl : fb = true := by rw [HFB.out.1]; simp; omega
          obtain rfl : best = bb := by rw [HFB.out.2, if_pos hkn]
          have HTO := Lib.hid (take_snoc l en0 k (by have := HZ.out.1.1; omega))
          go_wp2_with fail
          have hg := rgetE_any A n c l k wr (HZ.out.1.keep (by exact HO3.out.2)) hn HZ.out.2 hkn
          rw [← HBE.out] at hg
          have hbe := HBE.out
          obtain ⟨⟨t, r1, r2, r3, r4⟩, ht⟩ : ∃ t, t = l.getD k en0 := ⟨_, rfl⟩
          rw [← ht] at hg hbe HTO
          simp only at hbe
          rw [← hbe] at HTO
          refine hg.mono ?_
          rintro e w4 ⟨rfl, hb4⟩
          have HO4 := Lib.hid (And.intro ((own_keep HO3.out.1 hb4).alloc (.cells #[.int .i64 r1, .int .i64 r2, .int .i64 r3, .int .i64 r4] 111)) ((HO3.out.2.trans (hb4.mono HO3.out.2.size)).alloc (HO3.out.2.trans (hb4.mono HO3.out.2.size)).size (.cells #[.int .i64 r1, .int .i64 r2, .int .i64 r3, .int .i64 r4] 111)))
          have hX := Blk.new w4 111 #[.int .i64 r1, .int .i64 r2, .int .i64 r3, .int .i64 r4]
          clear hg hbe ht hb4
          simp only [rcV]
          go_upto_region 14 with fail
          obtain ⟨w5, hw5⟩ : ∃ w5, w5 = w4.alloc (.cells #[.int .i64 r1, .int .i64 r2, .int .i64 r3, .int .i64 r4] 111) := ⟨_, rfl⟩
          obtain ⟨X, hXe⟩ : ∃ X, X = w4.heap.size := ⟨_, rfl⟩
          rw [← hw5] at HO4 hX ⊢
          rw [← hXe] at hX ⊢
          have y0 := hX.cell 0
          have y1 := hX.cell 1
          have y2 := hX.cell 2
          have y3 := hX.cell 3
          clear hw5 hXe hX
          go_wp2_with (first
            | (at_builtin; refine wpList_append_lies _ rfl _ _ _ rfl w.heap.size 113 tr _ 5 40 Tryz.underlying64 hti hz0 hz1 hz2 rfl (by decide) _ k ((l.take k).flatMap cvE) rfl (HO4.out.1.alloc _) _ 1 1 [.int .i64 best, .int .i64 r1, .int .i64 r2, .int .i64 r3, .int .i64 r4] rfl rfl (World.news_of_block (heap_alloc_new _ _)) (by intro u hu; simp at hu; rcases hu with rfl | rfl | rfl | rfl | rfl <;> rfl) (by omega) (by unfold maxLen; omega) (by omega) (by have := HO4.out.2.size; simp; omega) _ rfl ?_; intro g2 cap2 w6 hown2 hg2 hat2 hlt2; have HY := Lib.hid (And.intro hown2 ((HO4.out.2.alloc HO4.out.2.size _).grown hg2 (HO4.out.2.alloc HO4.out.2.size _).size (fun j hj => (HO4.out.1.lt j hj).1))); clear hown2 hg2 hat2 hlt2))
          go_roundw
          case rel => exact ⟨k + 1, by omega, by rw [HTO.out, cvE_snoc]; exact HY.out.1, HY.out.2⟩
          case measure => simp [lenOf]; omega
        · obtain rfl : n = k := by omega
          obtain rfl : fb = false := by rw [HFB.out.1]; simp
          have HE := Lib.hid (show l.take n = l ∧ l.length = n from ⟨List.take_of_length_le (by rw [HZ.out.1.1]; exact Nat.le_refl _), HZ.out.1.1⟩)
          go_wp2
          go_ret
          have h1 := HO3.out.1
          rw [HE.out.1] at h1
          rw [REnPost, HE.out.2]
          exact ⟨Ao, co, rfl, h1, HO3.out.2⟩

end Go.Proofs.YtaalhglooipnaaaGreat
namespace Go.Proofs.YtaalhglooipnaaaGreat
open Go.RowKit
attribute [local go_sem ↓] Go.wp_at_zero Go.wp_at_succ

theorem neq_rc (a b c d : Int) (w : World) : (binOp .neq 111 (.agg #[.int .i64 a, .int .i64 b, .int .i64 c, .int .i64 d]) (.agg #[.int .i64 a, .int .i64 b, .int .i64 c, .int .i64 d])).run Tryz.prog w = .ok (.bool false) w := by
  have u3 := Tryz.underlying3
  have hS : Tryz.prog.underlying 111 = some (.struct (Tryz.prog.fieldsOf 111)) := by kernel_rfl
  have hp : Tryz.prog.stoodInHeld 111 = false := by kernel_rfl
  have he : (Op.equalIn 10000 111 (.agg #[.int .i64 a, .int .i64 b, .int .i64 c, .int .i64 d]) (.agg #[.int .i64 a, .int .i64 b, .int .i64 c, .int .i64 d])).run Tryz.prog w = .ok true w := by
    rw [show (10000 : Nat) = 9999 + 1 from rfl, run_equalIn_agg w 9999 111 _ _ hS hp]
    simp only [Program.fieldsOf, Tryz.underlying111]
    go_simp
  simp only [binOp]
  simp [Op.equal, Op.maxDepth, he]

set_option maxRecDepth 100000 in
set_option maxHeartbeats 8000000 in
theorem is_any (A A' : Option Addr) (n c c' B B' : Nat) (l : List En) (w : World) (hz : Es w B A n l) (hz' : Es w B' A' n l) (hn : n ≤ 500) :
    Calls Tryz.prog 14 #[.slice A n c, .slice A' n c'] w fun e w' => e = .returned (.bool true) ∧ Below w.heap.size w w' := by
  have HZ := Lib.hid (And.intro hz hz')
  clear hz hz'
  go_enter Tryz.func14, Tryz.ntmps14
  go_wp2_with fail
  go_loopw [13] (fun i wx => ∃ k : Nat, k ≤ n ∧ i = .int .i64 k ∧ Hid (∃ q, wx = w.drewN q)) (fun i _ => n - (intOf i).toNat)
  case atStart => exact ⟨0, Nat.zero_le _, rfl, 0, rfl⟩
  case round =>
    obtain ⟨k, hk, rfl, hH⟩ := hrel
    obtain ⟨q, hq⟩ := hH.out
    by_cases hlt : k < n
    · obtain ⟨b, off, rfl, hbB, d0, d1, d2, d3, d4⟩ := rd_en HZ.out.1 k hlt
      obtain ⟨b', off', rfl, hbB', x0, x1, x2, x3, x4⟩ := rd_en HZ.out.2 k hlt
      have hcell : ∀ p, wr.cell? p = w.cell? p := fun p => by rw [hq]; rfl
      rw [← hcell] at d0 d1 d2 d3 d4 x0 x1 x2 x3 x4
      obtain ⟨⟨t, v1, v2, v3, v4⟩, ht⟩ : ∃ t, t = l.getD k en0 := ⟨_, rfl⟩
      rw [← ht] at d0 d1 d2 d3 d4 x0 x1 x2 x3 x4
      simp only at d0 d1 d2 d3 d4 x0 x1 x2 x3 x4
      have i1 : (0 : Int) ≤ (k : Int) := by omega
      have i2 : (k : Int) < (n : Int) := by omega
      have hne := fun w => neq_rc v1 v2 v3 v4 w
      clear hcell ht hq
      go_upto_region 6 with fail
      go_cut [39] (fun s39 wx => s39 = .bool false ∧ ∃ n, wx = wr.drewN n)
      case first =>
        go_quiet (fail)
        go_wp2
        go_meet
        exact ⟨rfl, _, rfl⟩
      case rest =>
        obtain ⟨rfl, nq, rfl⟩ := hcut
        go_wp2_with fail
        go_roundw
        case rel => exact ⟨k + 1, by omega, by go_num, by obtain ⟨q, hq⟩ := hH.out; exact ⟨q + nq, by rw [hq]; simp [World.drewN, Nat.add_assoc]⟩⟩
        case measure => simp [intOf]; omega
    · obtain rfl : n = k := by omega
      go_wp2
      go_ret
      exact ⟨by first | rfl | simp, below_drewN (Below.refl _ _) q⟩

end Go.Proofs.YtaalhglooipnaaaGreat
namespace Go.Proofs.YtaalhglooipnaaaGreat
open Go.RowKit RT
attribute [local go_sem ↓] Go.wp_at_zero Go.wp_at_succ

/-- A row of entries that a cell holds. -/
def Acc (w : World) (base L : Nat) (l : List En) (v : Value) : Prop := base ≤ L ∧ Blk w L 57 #[v] ∧ w.ownsRow base 79 5 v l.length (l.flatMap cvE) ∧ v.ownBlock ≠ some L
/-- More entries are behind. -/
def AccPost (w : World) (base L : Nat) (l : List En) (v : Value) (new : List En) (w' : World) : Prop :=
  ∃ v', Acc w' base L (l ++ new) v' ∧ Chg (fun i => v.ownBlock = some i ∨ i = L) w w' ∧ (v'.ownBlock = v.ownBlock ∨ ∀ b, v'.ownBlock = some b → w.heap.size ≤ b)
theorem Acc.keep {w w' : World} {base L : Nat} {l : List En} {v : Value} (h : Acc w base L l v) (hb : Below w.heap.size w w') : Acc w' base L l v :=
  ⟨h.1, h.2.1.below hb h.2.1.lt, own_keep h.2.2.1 hb, h.2.2.2⟩
theorem AccPost.trans {w w1 w2 : World} {base L : Nat} {l n1 n2 : List En} {v v1 : Value} (h1 : Acc w1 base L (l ++ n1) v1) (h2 : Chg (fun i => v.ownBlock = some i ∨ i = L) w w1) (h3 : v1.ownBlock = v.ownBlock ∨ ∀ b, v1.ownBlock = some b → w.heap.size ≤ b) (h : AccPost w1 base L (l ++ n1) v1 n2 w2) : AccPost w base L l v (n1 ++ n2) w2 := by
  obtain ⟨v2, a1, a2, a3⟩ := h
  refine ⟨v2, by rw [← List.append_assoc]; exact a1, ?_, ?_⟩
  · refine ⟨a2.os.trans h2.os, a2.tape.trans h2.tape, a2.output.trans h2.output, Nat.le_trans h2.size a2.size, fun i hi ht => ?_⟩
    refine (a2.block i (Nat.lt_of_lt_of_le hi h2.size) ?_).trans (h2.block i hi ht)
    rintro (e | e)
    · rcases h3 with h3 | h3
      · exact ht (.inl (h3 ▸ e))
      · have := h3 i e; omega
    · exact ht (.inr e)
  · rcases a3 with a3 | a3
    · rcases h3 with h3 | h3
      · exact .inl (a3.trans h3)
      · exact .inr fun b hb => h3 b (a3 ▸ hb)
    · exact .inr fun b hb => Nat.le_trans h2.size (a3 b hb)
set_option maxRecDepth 100000 in
set_option maxHeartbeats 4000000 in
theorem yield_any (id a b c d : Int) (w : World) (base L : Nat) (l : List En) (v : Value) (h : Acc w base L l v) (hl : l.length ≤ 1000) :
    Calls Tryz.prog 70 #[.int .i64 id, .agg #[.int .i64 a, .int .i64 b, .int .i64 c, .int .i64 d], .pointer (some ⟨L, 0, none⟩)] w fun e w' => e = .returned (.tuple #[]) ∧ AccPost w base L l v [(id, a, b, c, d)] w' := by
  obtain ⟨h1, h2, h3, h4⟩ := h
  obtain ⟨w1, hw1, hX, hB0, hs1⟩ := one_new w #[.int .i64 a, .int .i64 b, .int .i64 c, .int .i64 d] 74
  obtain ⟨tre, hti, hz0, hz1, hz2⟩ := info_parts en_info
  go_enter Tryz.func70, Tryz.ntmps70
  go_upto_region 1 with fail
  rw [← hw1]
  obtain ⟨X, hXe⟩ : ∃ X, X = w.heap.size := ⟨_, rfl⟩
  rw [← hXe] at hX ⊢
  have y0 : w1.cell? ⟨X, 0, none⟩ = some (.int .i64 a) := hX.cell 0
  have y1 : w1.cell? ⟨X, 1, none⟩ = some (.int .i64 b) := hX.cell 1
  have y2 : w1.cell? ⟨X, 2, none⟩ = some (.int .i64 c) := hX.cell 2
  have y3 : w1.cell? ⟨X, 3, none⟩ = some (.int .i64 d) := hX.cell 3
  have hL1 := h2.below hB0 h2.lt
  have z0 : w1.cell? ⟨L, 0, none⟩ = some v := hL1.cell 0
  have HB := Lib.hid hB0
  have HL := Lib.hid (And.intro hL1 h4)
  have HO := Lib.hid (And.intro (own_keep h3 hB0) (below_alloc w1 (.cells #[.int .i64 id, .int .i64 a, .int .i64 b, .int .i64 c, .int .i64 d] 79)))
  have HBL := Lib.hid (And.intro h1 h2.lt)
  obtain ⟨n, hn⟩ : ∃ n, n = l.length := ⟨_, rfl⟩
  rw [← hn] at HO hl
  have HN := Lib.hid hn
  clear hw1 hXe hX hB0 hs1 h1 h2 h3 h4 hL1 hn
  go_wp2_with (first
    | (at_builtin; refine wpList_append_lies _ rfl _ _ _ rfl base 79 tre _ 5 40 Tryz.underlying57 hti hz0 hz1 hz2 rfl (by decide) v n _ rfl (HO.out.1.alloc _) _ 1 1 [.int .i64 id, .int .i64 a, .int .i64 b, .int .i64 c, .int .i64 d] rfl rfl (World.news_of_block (heap_alloc_new _ _)) (by intro u hu; simp at hu; rcases hu with rfl | rfl | rfl | rfl | rfl <;> rfl) (by omega) (by unfold maxLen; omega) (by omega) (by have := HBL.out; have := HB.out.size; simp; omega) _ rfl ?_; intro g cap w4 hown hg hat hlt4; obtain ⟨c1, c2, hc, hN4, ho4, hq5, hq6⟩ := app_field (off := 0) (HL.out.1.alloc _) rfl (HO.out.1.alloc _) HL.out.2 rfl hown hg hat; have HS := Lib.hid (And.intro hc (And.intro hN4 (And.intro ho4 (And.intro hq5 hq6)))); clear hc hN4 ho4 hown hg hat hlt4 hq5 hq6))
  go_end0
  refine ⟨rfl, .slice (some ⟨g, 0, none⟩) (n + 1) cap, ⟨HBL.out.1, HS.out.2.1, ?_, HS.out.2.2.2.1⟩, ?_, ?_⟩
  · have h := HS.out.2.2.1
    rw [cvE_snoc, List.length_append]
    rw [HN.out] at h ⊢
    exact h
  · have h := HS.out.1
    have h2 : Chg (fun i => v.ownBlock = some i ∨ i = L) w w1 := .of_below HB.out fun i hi _ => hi
    refine h2.trans ((Chg.alloc _ w1 _).trans (h.mono fun i hi => hi))
  · rcases HS.out.2.2.2.2 with h | h
    · exact .inl h
    · exact .inr fun b hb => by
        rw [h] at hb
        have := HB.out.size
        simp at hb
        omega

end Go.Proofs.YtaalhglooipnaaaGreat
namespace Go.Proofs.YtaalhglooipnaaaGreat
open Go.RowKit RT
attribute [local go_sem ↓] Go.wp_at_zero Go.wp_at_succ

theorem ex_c5 {ρ : Operand → Value} {o : Oper} {w : World} {x y z p q : Operand} {f : FuncId} {u v t r s : Value} {ts : Array TypeId} (ho : o.op = .call { callee := .value (.func f), args := #[x, y, z, p, q], argTypes := ts }) (hf : ρ (.func f) = .func (.func f) #[] #[]) (hc : (callFunc f #[u, v, t, r, s]).run Tryz.prog w = .ok (.enter f #[u, v, t, r, s]) w) (h : ρ x = u) (h' : ρ y = v) (h2 : ρ z = t) (h3 : ρ p = r) (h4 : ρ q = s) : (execOp ρ o).run Tryz.prog w = .ok (.enter f #[u, v, t, r, s]) w := by
  unfold execOp; rw [ho]; simp only [resolve, hf]
  go_simp
/-- A new row of three numbers. -/
def NewI3 (B : Nat) (a b c : Int) (v : Value) (w : World) : Prop := ∃ g, v = .slice (some ⟨g, 0, none⟩) 3 3 ∧ B ≤ g ∧ Blk w g 3 #[.int .i64 a, .int .i64 b, .int .i64 c]
theorem NewI3.keep {B : Nat} {a b c : Int} {v : Value} {w w' : World} (h : NewI3 B a b c v w) (hb : Below w.heap.size w w') : NewI3 B a b c v w' := by
  obtain ⟨g, hv, hB, hg⟩ := h
  exact ⟨g, hv, hB, hg.below hb hg.lt⟩
theorem NewI3.new {B : Nat} {a b c : Int} {w : World} (h : B ≤ w.heap.size) : NewI3 B a b c (.slice (some ⟨w.heap.size, 0, none⟩) 3 3) (w.alloc (.cells #[.int .i64 a, .int .i64 b, .int .i64 c] 3)) := ⟨_, rfl, h, Blk.new _ _ _⟩
theorem bs_i3 (a b c : Int) (w : World) : (Instr.buildSlice 71 3 #[(0, .int .i64 a), (1, .int .i64 b), (2, .int .i64 c)]).run Tryz.prog w = .ok (.slice (some ⟨w.heap.size, 0, none⟩) 3 3) (w.alloc (.cells #[.int .i64 a, .int .i64 b, .int .i64 c] 3)) := by go_simp
theorem sum3_any {a b c : Int} {g : Nat} (w : World) (h : Blk w g 3 #[.int .i64 a, .int .i64 b, .int .i64 c]) :
    Calls Tryz.prog 113 #[.slice (some ⟨g, 0, none⟩) 3 3] w fun e w' => e = .returned (.int .i64 (Fl.P1.add (Fl.P1.add a b) c)) ∧ w = w' := by
  have hI : Fl.Ints w (some ⟨g, 0, none⟩) 3 [a, b, c] := ⟨rfl, .inr ⟨_, _, rfl, fun k hk => by
    rw [h.cell]
    match k, hk with
    | 0, _ => rfl
    | 1, _ => rfl
    | 2, _ => rfl⟩⟩
  have := Fl.sum_any (some ⟨g, 0, none⟩) 3 3 [a, b, c] w hI (by omega)
  rw [show Fl.P1.sum [a, b, c] = Fl.P1.add (Fl.P1.add a b) c from Fl.P14.sum3_eq a b c] at this
  exact this
theorem ix_fp {b off k n c : Nat} (h : k < n) (w : World) : (Instr.indexAt 184 (.slice (some ⟨b, off, none⟩) n c) (.int .i64 (k : Nat))).run Tryz.prog w = .ok (.pointer (some ⟨b, off + k * 2, none⟩)) w := by
  have h0 : (0 : Int) ≤ (k : Int) := by omega
  have h1 : (k : Int) < (n : Int) := by omega
  go_simp
theorem fai_fp_0 (b i : Nat) (w : World) : (Instr.fieldAt 188 (.pointer (some ⟨b, i, none⟩)) 0).run Tryz.prog w = .ok (.pointer (some ⟨b, i, none⟩)) w := by go_simp
theorem fai_fp_1 (b i : Nat) (w : World) : (Instr.fieldAt 188 (.pointer (some ⟨b, i, none⟩)) 1).run Tryz.prog w = .ok (.pointer (some ⟨b, i + 1, none⟩)) w := by go_simp
def PlaR4 (W : World) (X : Nat) (d : SD) (A1 A2 A3 A4 : Option Addr) (c1 c2 c3 n4 c4 : Nat) (g I pad : Int) : Nat → Value → World → Prop
  | 0, v, _ => v = .agg #[.int .i64 d.id, .int .i64 d.kind, .string d.tag, .string d.text, .slice A1 d.cl.length c1, .slice A2 d.at_.length c2, .slice A3 d.st.length c3, .slice A4 n4 c4]
  | 1, v, _ => v = (.int .i64 g)
  | 2, v, _ => v = .int .i64 I
  | 3, v, _ => v = .agg #[.int .i64 d.id, .int .i64 d.kind, .string d.tag, .string d.text, .slice A1 d.cl.length c1, .slice A2 d.at_.length c2, .slice A3 d.st.length c3, .slice A4 n4 c4]
  | 4, v, _ => v = .int .i64 pad
  | 5, v, _ => v = .int .i64 I
  | 6, v, _ => v = .int .i64 pad
  | _, _, _ => True
theorem PlaR4_keep (W : World) (X : Nat) (d : SD) (A1 A2 A3 A4 : Option Addr) (c1 c2 c3 n4 c4 : Nat) (g I pad : Int) (j : Nat) (v : Value) (w w' : World) (h : PlaR4 W X d A1 A2 A3 A4 c1 c2 c3 n4 c4 g I pad j v w) (hb : Below w.heap.size w w') : PlaR4 W X d A1 A2 A3 A4 c1 c2 c3 n4 c4 g I pad j v w' := by
  match j with
  | 0 => exact h
  | 1 => exact h
  | 2 => exact h
  | 3 => exact h
  | 4 => exact h
  | 5 => exact h
  | 6 => exact h
  | _ + 7 => trivial
def PlaR9 (W : World) (X K bp op k pn cP L : Nat) (d e : SD) (A1 A2 A3 A4 B1 B2 B3 A' : Option Addr) (c1 c2 c3 n4 c4 b1 b2 b3 m' c' : Nat) (x y I pad px py G : Int) : Nat → Value → World → Prop
  | 0, v, _ => v = .agg #[.int .i64 e.id, .int .i64 e.kind, .string e.tag, .string e.text, .slice B1 e.cl.length b1, .slice B2 e.at_.length b2, .slice B3 e.st.length b3, .slice A' m' c']
  | 1, v, _ => v = (.int .i64 x)
  | 2, v, _ => v = (.int .i64 pad)
  | 3, v, _ => v = (.slice (some ⟨bp, op, none⟩) pn cP)
  | 4, v, _ => v = (.int .i64 (k : Nat))
  | 5, v, _ => v = .pointer (some ⟨bp, op + k * 2, none⟩)
  | 6, v, _ => v = .pointer (some ⟨bp, op + k * 2, none⟩)
  | 7, v, _ => v = .int .i64 px
  | 8, v, w => NewI3 W.heap.size x pad px v w
  | 9, v, _ => v = .int .i64 (Fl.P1.add (Fl.P1.add x pad) px)
  | 10, v, _ => v = (.int .i64 y)
  | 11, v, _ => v = (.int .i64 pad)
  | 12, v, _ => v = (.slice (some ⟨bp, op, none⟩) pn cP)
  | 13, v, _ => v = (.int .i64 (k : Nat))
  | 14, v, _ => v = .pointer (some ⟨bp, op + k * 2, none⟩)
  | 15, v, _ => v = .pointer (some ⟨bp, op + k * 2 + 1, none⟩)
  | 16, v, _ => v = .int .i64 py
  | 17, v, w => NewI3 W.heap.size y pad py v w
  | 18, v, _ => v = .int .i64 (Fl.P1.add (Fl.P1.add y pad) py)
  | 19, v, _ => v = .agg #[.int .i64 d.id, .int .i64 d.kind, .string d.tag, .string d.text, .slice A1 d.cl.length c1, .slice A2 d.at_.length c2, .slice A3 d.st.length c3, .slice A4 n4 c4]
  | 20, v, _ => v = .agg #[.int .i64 e.id, .int .i64 e.kind, .string e.tag, .string e.text, .slice B1 e.cl.length b1, .slice B2 e.at_.length b2, .slice B3 e.st.length b3, .slice A' m' c']
  | 21, v, _ => v = (.int .i64 I)
  | 22, v, _ => v = .int .i64 G
  | 23, v, _ => v = (.func (.func 70) #[] #[.pointer (some ⟨L, 0, none⟩)])
  | _, _, _ => True
theorem PlaR9_keep (W : World) (X K bp op k pn cP L : Nat) (d e : SD) (A1 A2 A3 A4 B1 B2 B3 A' : Option Addr) (c1 c2 c3 n4 c4 b1 b2 b3 m' c' : Nat) (x y I pad px py G : Int) (j : Nat) (v : Value) (w w' : World) (h : PlaR9 W X K bp op k pn cP L d e A1 A2 A3 A4 B1 B2 B3 A' c1 c2 c3 n4 c4 b1 b2 b3 m' c' x y I pad px py G j v w) (hb : Below w.heap.size w w') : PlaR9 W X K bp op k pn cP L d e A1 A2 A3 A4 B1 B2 B3 A' c1 c2 c3 n4 c4 b1 b2 b3 m' c' x y I pad px py G j v w' := by
  match j with
  | 0 => exact h
  | 1 => exact h
  | 2 => exact h
  | 3 => exact h
  | 4 => exact h
  | 5 => exact h
  | 6 => exact h
  | 7 => exact h
  | 8 => exact h.keep hb
  | 9 => exact h
  | 10 => exact h
  | 11 => exact h
  | 12 => exact h
  | 13 => exact h
  | 14 => exact h
  | 15 => exact h
  | 16 => exact h
  | 17 => exact h.keep hb
  | 18 => exact h
  | 19 => exact h
  | 20 => exact h
  | 21 => exact h
  | 22 => exact h
  | 23 => exact h
  | _ + 24 => trivial
theorem placesT_take (d : SD) (n x y : Int) (kd : STr) : ∀ (ks : List STr) (ps : List (Int × Int)) (k : Nat), ks[k]? = some kd → k < ps.length →
    placesT d n x y (ks.take (k + 1)) (ps.take (k + 1)) = placesT d n x y (ks.take k) (ps.take k) ++ placeT kd (Fl.P1.add (Fl.P1.add x (styV d nmPad)) (ps.getD k (0, 0)).1) (Fl.P1.add (Fl.P1.add y (styV d nmPad)) (ps.getD k (0, 0)).2) (givenT d kd n)
  | [], _, k, h, _ => by simp at h
  | _ :: _, [], k, _, h => by simp at h
  | t :: ts, p :: ps, 0, h, _ => by
    obtain rfl : t = kd := by simpa using h
    simp only [List.take_succ_cons, List.take_zero, placesT]
    simp
  | t :: ts, p :: ps, k + 1, h, h' => by
    rw [List.take_succ_cons, List.take_succ_cons, List.take_succ_cons, List.take_succ_cons, placesT, placesT, placesT_take d n x y kd ts ps k (by simpa using h) (by simpa using h'), List.append_assoc]
    rfl
theorem placeT_eq (t : STr) (x y g : Int) : placeT t x y g = (t.dat.id, x, y, (sizeT t g).1, (sizeT t g).2) :: (if t.dat.kind = 1 then [] else placesT t.dat (insV t.dat g) x y t.kids (putT t.dat (insV t.dat g) t.kids).out) := by
  cases t; rw [placeT]; rfl
/-- What place leaves alone. -/
theorem Acc.blk {w w' : World} {base L g : Nat} {l : List En} {v : Value} {t : TypeId} {cs : Array Value} (h : Acc w base L l v) (hc : Chg (fun i => v.ownBlock = some i ∨ i = L) w w') (hg : Blk w g t cs) (h1 : 57 ≠ t) (h2 : 79 ≠ t) : Blk w' g t cs :=
  hc.blk hg (by
    rintro (e | e)
    · exact own_blk_ne h.2.2.1 hg h2 e
    · subst e
      exact Blk.ne_ h.2.1 hg h1 rfl)
theorem Acc.own {w w' : World} {base L B n sz : Nat} {l : List En} {v v2 : Value} {e : TypeId} {xs : List Value} (h : Acc w base L l v) (hc : Chg (fun i => v.ownBlock = some i ∨ i = L) w w') (ho : w.ownsRow B e sz v2 n xs) (h1 : e ≠ 57) (h2 : e ≠ 79) : w'.ownsRow B e sz v2 n xs :=
  hc.own ho (by
    rintro g hg (e' | e')
    · rcases own_own_ne ho h.2.2.1 h2 with q | q
      · rw [hg] at q; cases q
      · exact q (by rw [hg, e'])
    · subst e'
      exact own_blk_ne ho h.2.1 h1 hg)
theorem Acc.still {w w' : World} {base L : Nat} {l : List En} {v : Value} (h : Acc w base L l v) (hc : Chg (fun i => v.ownBlock = some i ∨ i = L) w w') : Still (· < base) w w' :=
  hc.still fun b hb => ⟨by have := h.2.1.lt; have := h.1; omega, by
    rintro (e | e)
    · have := (h.2.2.1.lt b e).1; omega
    · have := h.1; omega⟩

end Go.Proofs.YtaalhglooipnaaaGreat
