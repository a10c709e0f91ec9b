/-
  The walk over flow.rows as Grid calls it.
-/
import Derived.Test.YtgcadpfgdfjceaaFlowRnd
namespace Go.Proofs.Ytgcadpfgdfjceaa
open Go.RowKit
attribute [local go_sem ↓] Go.wp_at_zero Go.wp_at_succ

/-- How much box k takes, and how high it is. -/
def bGrid (col : Int) (zs : List (Int × Int)) (k : Nat) : Int × Int := (col, P14.least (zs.getD k (0, 0)).2)
/-- Does a row begin? -/
def nGrid (cols : Int) (_k : Nat) (_x _n : Int) : Bool := (_k : Int) % cols == 0

set_option maxHeartbeats 8000000 in
theorem rowsGrid_any (gap : Int) (A : Option Addr) (n c : Nat) (zs : List (Int × Int)) (w : World) (hz : Pairs w w.heap.size A n zs) (hn : n ≤ 40) (bl bc : Nat) (col cols : Int) (hcols : 1 ≤ cols) (hbl : bl < w.heap.size) (hcl : w.cell? ⟨bl, 0, none⟩ = some (.int .i64 col)) (hbc : bc < w.heap.size) (hcc : w.cell? ⟨bc, 0, none⟩ = some (.int .i64 cols)) :
    Calls Try.prog 40 #[.int .i64 gap, .slice A n c, .func (.func 44) #[] #[.pointer (some ⟨bl, 0, none⟩)], .func (.func 45) #[] #[.pointer (some ⟨bc, 0, none⟩)]] w (RowsPost w (P14.penAt (P14.least gap) (bGrid col zs) (nGrid cols) n) n) := by
  obtain ⟨i0, hi, hz0, hz1, hz2⟩ := info_parts point_info
  have hzl := hz.1
  have HZ := Lib.hid hz
  have HZL := Lib.hid hzl
  clear hz hzl
  have HCL := Lib.hid hcl
  have HCC := Lib.hid hcc
  clear hcl hcc
  go_enter Try.func40, Try.ntmps40
  go_wp2_with (first | (go_at_call 39; ((with_reducible refine (least_any _ _).mono ?_); rintro e w' ⟨rfl, rfl⟩)))
  go_loopw [11, 21] (fun v0 i wr => ∃ (k : Nat) (s : P14.St), k ≤ n ∧ i = .int .i64 k ∧ Hid (s = P14.penAt (P14.least gap) (bGrid col zs) (nGrid cols) k) ∧ Rnd w wr (w.heap.size + 1) s.x s.y s.h (P14.least gap) s.W (decide (0 < k)) v0 k (flat2 s.out))
    (fun _ i _ => n - (intOf i).toNat)
  case atStart =>
    refine ⟨0, P14.st0, Nat.zero_le _, rfl, rfl, ⟨?_, World.ownsRow_nil _ _ _ _, ((Below.refl _ _).alloc (Nat.le_refl _) _).alloc (by simp) _, by omega, (Blk.new _ _ _).alloc _⟩⟩
    have hb := Blk.new (w.alloc (.cells #[.int .i64 0, .int .i64 0] 39)) 61 #[.int .i64 0, .int .i64 0, .int .i64 0, .int .i64 (P14.least gap), .int .i64 0, .bool false]
    simp at hb
    exact hb
  case round =>
    obtain ⟨k, s, hk, rfl, hs, hr⟩ := hrel
    by_cases hlt : k < n
    · obtain ⟨b, off, rfl, hbB, hc0, hc1⟩ := HZ.out.2 k hlt
      have e0 := hr.below.cell (p := ⟨b, off + k * 2, none⟩) hbB
      have e1 := hr.below.cell (p := ⟨b, off + k * 2 + 1, none⟩) hbB
      rw [hc0] at e0
      rw [hc1] at e1
      clear hc0 hc1
      obtain ⟨za, zb, hzab⟩ : ∃ za zb, zs.getD k (0, 0) = (za, zb) := ⟨_, _, rfl⟩
      rw [hzab] at e0 e1
      have HB : Hid (bGrid col zs k = (col, P14.least zb)) := by unfold bGrid; rw [hzab]; rfl
      clear hzab
      have HR := Lib.hid hr
      clear hr
      go_upto_region 5 with fail
      go_cut [12, 13] (fun s12 s13 wx => ∃ sB : Nat, s12 = .int .i64 k ∧ s13 = .pointer (some ⟨sB, 0, none⟩) ∧ Rb w wx (w.heap.size + 1) s.x s.y s.h (P14.least gap) s.W (decide (0 < k)) u11 k (flat2 s.out) sB za zb)
      case first =>
        go_wp2_with fail
        go_meet
        exact ⟨_, rfl, rfl, Rb.start HR.out _ _⟩
      case rest =>
        obtain ⟨sB, rfl, rfl, hb⟩ := hcut
        obtain ⟨d0, d1, d2, d3⟩ := hb.cells
        have hlB := hb.box.lt
        have HB1 := Lib.hid hb
        clear hb e0 e1
        go_upto_region 6 with fail
        go_cut [] (fun wx => Rb w wx (w.heap.size + 1) s.x s.y s.h (P14.least gap) s.W (decide (0 < k)) u11 k (flat2 s.out) sB (P14.least za) (P14.least zb))
        case first =>
          go_wp2_with (first | (go_at_call 46; ((with_reducible refine (plain_any _ _ _).mono ?_); rintro e w1 ⟨rfl, hbel⟩; have hb1 := HB1.out.keep hbel; obtain ⟨g0, g1, g2, g3⟩ := hb1.cells; have HB2 := Lib.hid hb1; clear hb1)))
          go_meet
          exact HB2.out.sized _ _
        case rest =>
          have hb := hcut
          clear d0 d1 d2 d3 hlB hcut
          obtain ⟨d0, d1, d2, d3⟩ := hb.cells
          have HB2 := Lib.hid hb
          clear hb
          go_upto_region 7 with fail
          go_cut [14] (fun s14 wx => s14 = .int .i64 (col) ∧ Rb w wx (w.heap.size + 1) s.x s.y s.h (P14.least gap) s.W (decide (0 < k)) u11 k (flat2 s.out) sB (P14.least za) (P14.least zb))
          case first =>
            go_wp2_with fail
            refine (col_any _ _ _ _ _ ((HB2.out.rnd.below.cell (p := ⟨bl, 0, none⟩) hbl).trans HCL.out)).mono ?_
            rintro e w1 ⟨rfl, hbel⟩
            go_wp2_with fail
            go_meet
            exact ⟨rfl, HB2.out.keep hbel⟩
          case rest =>
            obtain ⟨rfl, hb⟩ := hcut
            clear d0 d1 d2 d3 HB2
            have HB3 := Lib.hid hb
            clear hb
            go_upto_region 8 with fail
            obtain ⟨q, hq⟩ : ∃ q : Bool, q = (decide (0 < k) && nGrid cols k s.x (col)) := ⟨_, rfl⟩
            have HQ := Lib.hid hq
            clear hq
            go_cut [39] (fun s39 wx => s39 = .bool q ∧ Rb w wx (w.heap.size + 1) s.x s.y s.h (P14.least gap) s.W (decide (0 < k)) u11 k (flat2 s.out) sB (P14.least za) (P14.least zb))
            case first =>
              by_cases h0 : k = 0
              · have hk0 : k ≤ 0 := by omega
                have HQ1 := Lib.hid (show q = false by rw [HQ.out]; simp [h0])
                clear h0
                go_wp2_with fail
                go_meet
                exact ⟨by rw [HQ1.out], HB3.out⟩
              · have hk0 : decide ((0 : Int) < (k : Int)) = true := by simp; omega
                have HQ1 := Lib.hid (show q = nGrid cols k s.x (col) by rw [HQ.out]; simp; omega)
                have hki : (0 : Int) ≤ (k : Int) := by omega
                go_wp2_with fail
                refine (nth_any _ _ _ _ _ _ hki hcols ((HB3.out.rnd.below.cell (p := ⟨bc, 0, none⟩) hbc).trans HCC.out)).mono ?_
                rintro e w1 ⟨rfl, nd, rfl⟩
                go_wp2_with fail
                go_meet
                exact ⟨by rw [HQ1.out]; rfl, HB3.out.drewN _⟩
            case rest =>
              obtain ⟨rfl, hb⟩ := hcut
              clear HB3
              have HB4 := Lib.hid hb
              clear hb
              obtain ⟨s1, hs1⟩ : ∃ s1, s1 = P14.pre (P14.least gap) (bGrid col zs) (nGrid cols) k s := ⟨_, rfl⟩
              have HS1 : Hid (s1 = P14.pre (P14.least gap) (bGrid col zs) (nGrid cols) k s ∧ s1 = (if q = true then P14.St.row (P14.least gap) s else s) ∧ (q = true → 0 < k)) := by
                refine ⟨hs1, ?_, fun h => ?_⟩
                · rw [hs1, P14.pre, HB.out, HQ.out]
                  simp
                · rw [HQ.out] at h
                  simp at h
                  exact h.1
              clear hs1
              go_upto_if 39 with fail
              go_cut [] (fun wx => Rb w wx (w.heap.size + 1) s1.x s1.y s1.h (P14.least gap) s1.W (decide (0 < k)) u11 k (flat2 s.out) sB (P14.least za) (P14.least zb))
              case first =>
                cases q
                · have HS2 := Lib.hid (show s1 = s by rw [HS1.out.2.1]; rfl)
                  go_wp2_with fail
                  go_meet
                  rw [HS2.out]
                  exact HB4.out
                · have HS2 := Lib.hid (show s1 = P14.St.row (P14.least gap) s by rw [HS1.out.2.1]; rfl)
                  have HK := Lib.hid (show decide (0 < k) = true by simpa using HS1.out.2.2 rfl)
                  have hp := HB4.out.rnd.pen
                  rw [HK.out] at hp
                  have HPN := Lib.hid hp
                  clear hp
                  go_wp2_with (first | (go_at_call 47; ((with_reducible refine (row_any _ _ _ _ _ _ _ HPN.out).mono ?_); rintro e w1 ⟨rfl, hp1, hg1⟩)))
                  go_meet
                  rw [HS2.out, HK.out]
                  exact HB4.out.moved hp1 hg1
              case rest =>
                have hb := hcut
                clear hcut HB4
                obtain ⟨d0, d1, d2, d3⟩ := hb.cells
                have hp := hb.rnd.pen
                have HPN := Lib.hid hp
                have HB5 := Lib.hid hb
                clear hb hp
                go_wp2_with (first
                  | (go_at_call 48; ((with_reducible refine (put_any _ _ _ _ _ _ _ _ _ _ _ HPN.out).mono ?_); rintro e w1 ⟨rfl, hp1, hg1⟩; have hb1 := HB5.out.moved hp1 hg1; have HB6 := Lib.hid hb1; have hsz := hb1.rnd.size; clear hp1 hg1 hb1))
                  | (at_builtin; refine wpList_append_lies _ rfl _ _ _ rfl w.heap.size 48 i0 _ 2 16 Try.underlying37 hi hz0 hz1 hz2 rfl (by decide) _ k (flat2 s.out) rfl (HB6.out.rnd.own.alloc _) _ 1 1 [.int .i64 s1.x, .int .i64 s1.y] rfl rfl (World.news_of_block (heap_alloc_new _ _)) (by intro u hu; simp at hu; rcases hu with rfl | rfl <;> rfl) (by omega) (by unfold maxLen; omega) (by omega) (by simp; omega) _ rfl ?_; intro g2 cap2 w2 hown2 hg2 hat2 hlt2))
                have hs2 : Hid (P14.St.put (P14.least gap) s1 (col, P14.least zb) = P14.penAt (P14.least gap) (bGrid col zs) (nGrid cols) (k + 1)) := by
                  refine Lib.hid ?_
                  rw [P14.penAt_succ, ← hs.out, ← HS1.out.1, HB.out]
                have ho2 : Hid (flat2 (P14.St.put (P14.least gap) s1 (col, P14.least zb)).out = flat2 s.out ++ [.int .i64 s1.x, .int .i64 s1.y]) := by
                  refine Lib.hid ?_
                  have : s1.out = s.out := by rw [HS1.out.1, P14.pre_out]
                  rw [P14.St.put, this, flat2_snoc]
                have hr2 := HB6.out.put hown2 _ hg2
                rw [← ho2.out] at hr2
                have HR2 := Lib.hid hr2
                clear hr2 hown2 hg2 hat2 hlt2
                go_roundw
                case rel => exact ⟨k + 1, _, by omega, by go_num, hs2, by rw [show decide (0 < k + 1) = true from by simp]; exact HR2.out⟩
                case measure => simp [intOf]; omega
    · obtain rfl : k = n := by omega
      have hp := hr.pen
      have HPN := Lib.hid hp
      have HR := Lib.hid hr
      clear hp hr
      go_wp2_with (first | (go_at_call 49; ((with_reducible refine (whole_any _ _ _ _ _ _ _ _ HPN.out).mono ?_); rintro e w1 ⟨rfl, hbel⟩; have hr1 := HR.out.keep hbel; have r0 := hr1.res.cell 0; have r1 := hr1.res.cell 1; have r2 := hr1.res.frozen 0; have r3 := hr1.res.frozen 1; have HR1 := Lib.hid hr1; clear hr1 hbel)))
      obtain ⟨AO, cO, hv⟩ := own_form HR1.out.own
      have HV := Lib.hid hv
      clear hv
      have hd := HR1.out.done (.int .i64 s.W) (.int .i64 (P1.add s.y s.h))
      have HD := Lib.hid hd
      clear hd
      refine bodyPost_ret (v := .tuple #[u11, .agg #[.int .i64 s.W, .int .i64 (P1.add s.y s.h)]]) (by simp [results, Try.results40, go_sem, r0, r1]) rfl ⟨AO, cO, ?_, ?_, ?_⟩
      · rw [← hs.out, HV.out]
      · rw [← hs.out, ← HV.out]
        exact HD.out.1
      · exact HD.out.2

end Go.Proofs.Ytgcadpfgdfjceaa
