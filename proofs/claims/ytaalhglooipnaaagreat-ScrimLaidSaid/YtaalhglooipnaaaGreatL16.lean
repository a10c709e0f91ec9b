/-
  The walk over flow.rows as Wrap calls it.
  The walk over flow.rows as Grid calls it.
  The walks over package flow: Stack, Wrap, Grid.
  The walk over the statements' own put: boxes by the program.
-/
import Derived.Test.YtaalhglooipnaaaGreatL15
namespace Go.Proofs.YtaalhglooipnaaaGreat.Fl
open Go.RowKit
attribute [local go_sem ↓] Go.wp_at_zero Go.wp_at_succ

/-- How much box k takes, and how high it is. -/
def bWrap  (zs : List (Int × Int)) (k : Nat) : Int × Int := (P14.least (zs.getD k (0, 0)).1, P14.least (zs.getD k (0, 0)).2)
/-- Does a row begin? -/
def nWrap (width : Int) (_k : Nat) (_x _n : Int) : Bool := decide (width < P1.add _x _n)

set_option maxRecDepth 100000 in
set_option maxHeartbeats 8000000 in
theorem rowsWrap_any (gap : Int) (A : Option Addr) (n c : Nat) (zs : List (Int × Int)) (w : World) (hz : Pairs w w.heap.size A n zs) (hn : n ≤ 40) (bw : Nat) (width : Int) (hbw : bw < w.heap.size) (hcw : w.cell? ⟨bw, 0, none⟩ = some (.int .i64 width)) :
    Calls Tryz.prog 156 #[.int .i64 gap, .slice A n c, .func (.func 157) #[] #[], .func (.func 158) #[] #[.pointer (some ⟨bw, 0, none⟩)]] w (RowsPost w (P14.penAt (P14.least gap) (bWrap  zs) (nWrap width) n) n) := by
  obtain ⟨i0, hi, hz0, hz1, hz2⟩ := info_parts point_info
  have hzl := hz.1
  have HZ := Lib.hid hz
  have HZL := Lib.hid hzl
  clear hz hzl
  have HCW := Lib.hid hcw
  clear hcw
  go_enter Tryz.func156, Tryz.ntmps156
  go_wp2_with (first | (go_at_call 155; ((with_reducible refine (least_any _ _).mono ?_); rintro e w' ⟨rfl, rfl⟩)))
  go_loopw [11, 21] (fun v0 i wr => ∃ (k : Nat) (s : P14.St), k ≤ n ∧ i = .int .i64 k ∧ Hid (s = P14.penAt (P14.least gap) (bWrap  zs) (nWrap width) k) ∧ Rnd w wr (w.heap.size + 1) s.x s.y s.h (P14.least gap) s.W (decide (0 < k)) v0 k (flat2 s.out))
    (fun _ i _ => n - (intOf i).toNat)
  case atStart =>
    refine ⟨0, P14.st0, Nat.zero_le _, rfl, rfl, ⟨?_, World.ownsRow_nil _ _ _ _, ((Below.refl _ _).alloc (Nat.le_refl _) _).alloc (by simp) _, by omega, (Blk.new _ _ _).alloc _⟩⟩
    have hb := Blk.new (w.alloc (.cells #[.int .i64 0, .int .i64 0] 180)) 225 #[.int .i64 0, .int .i64 0, .int .i64 0, .int .i64 (P14.least gap), .int .i64 0, .bool false]
    simp at hb
    exact hb
  case round =>
    obtain ⟨k, s, hk, rfl, hs, hr⟩ := hrel
    by_cases hlt : k < n
    · obtain ⟨b, off, rfl, hbB, hc0, hc1⟩ := HZ.out.2 k hlt
      have e0 := hr.below.cell (p := ⟨b, off + k * 2, none⟩) hbB
      have e1 := hr.below.cell (p := ⟨b, off + k * 2 + 1, none⟩) hbB
      rw [hc0] at e0
      rw [hc1] at e1
      clear hc0 hc1
      obtain ⟨za, zb, hzab⟩ : ∃ za zb, zs.getD k (0, 0) = (za, zb) := ⟨_, _, rfl⟩
      rw [hzab] at e0 e1
      have HB : Hid (bWrap  zs k = (P14.least za, P14.least zb)) := by unfold bWrap; rw [hzab]; rfl
      clear hzab
      have HR := Lib.hid hr
      clear hr
      go_upto_region 5 with fail
      go_cut [12, 13] (fun s12 s13 wx => ∃ sB : Nat, s12 = .int .i64 k ∧ s13 = .pointer (some ⟨sB, 0, none⟩) ∧ Rb w wx (w.heap.size + 1) s.x s.y s.h (P14.least gap) s.W (decide (0 < k)) u11 k (flat2 s.out) sB za zb)
      case first =>
        go_wp2_with fail
        go_meet
        exact ⟨_, rfl, rfl, Rb.start HR.out _ _⟩
      case rest =>
        obtain ⟨sB, rfl, rfl, hb⟩ := hcut
        obtain ⟨d0, d1, d2, d3⟩ := hb.cells
        have hlB := hb.box.lt
        have HB1 := Lib.hid hb
        clear hb e0 e1
        go_upto_region 6 with fail
        go_cut [] (fun wx => Rb w wx (w.heap.size + 1) s.x s.y s.h (P14.least gap) s.W (decide (0 < k)) u11 k (flat2 s.out) sB (P14.least za) (P14.least zb))
        case first =>
          go_wp2_with (first | (go_at_call 170; ((with_reducible refine (plain_any _ _ _).mono ?_); rintro e w1 ⟨rfl, hbel⟩; have hb1 := HB1.out.keep hbel; obtain ⟨g0, g1, g2, g3⟩ := hb1.cells; have HB2 := Lib.hid hb1; clear hb1)))
          go_meet
          exact HB2.out.sized _ _
        case rest =>
          have hb := hcut
          clear d0 d1 d2 d3 hlB hcut
          obtain ⟨d0, d1, d2, d3⟩ := hb.cells
          have HB2 := Lib.hid hb
          clear hb
          go_upto_region 7 with fail
          go_cut [14] (fun s14 wx => s14 = .int .i64 (P14.least za) ∧ Rb w wx (w.heap.size + 1) s.x s.y s.h (P14.least gap) s.W (decide (0 < k)) u11 k (flat2 s.out) sB (P14.least za) (P14.least zb))
          case first =>
            go_wp2_with fail
            refine (own_any _ _ _).mono ?_
            rintro e w1 ⟨rfl, hbel⟩
            go_wp2_with fail
            go_meet
            exact ⟨rfl, HB2.out.keep hbel⟩
          case rest =>
            obtain ⟨rfl, hb⟩ := hcut
            clear d0 d1 d2 d3 HB2
            have HB3 := Lib.hid hb
            clear hb
            go_upto_region 8 with fail
            obtain ⟨q, hq⟩ : ∃ q : Bool, q = (decide (0 < k) && nWrap width k s.x (P14.least za)) := ⟨_, rfl⟩
            have HQ := Lib.hid hq
            clear hq
            go_cut [39] (fun s39 wx => s39 = .bool q ∧ Rb w wx (w.heap.size + 1) s.x s.y s.h (P14.least gap) s.W (decide (0 < k)) u11 k (flat2 s.out) sB (P14.least za) (P14.least zb))
            case first =>
              by_cases h0 : k = 0
              · have hk0 : k ≤ 0 := by omega
                have HQ1 := Lib.hid (show q = false by rw [HQ.out]; simp [h0])
                clear h0
                go_wp2_with fail
                go_meet
                exact ⟨by rw [HQ1.out], HB3.out⟩
              · have hk0 : decide ((0 : Int) < (k : Int)) = true := by simp; omega
                have HQ1 := Lib.hid (show q = nWrap width k s.x (P14.least za) by rw [HQ.out]; simp; omega)
                have hki : (0 : Int) ≤ (k : Int) := by omega
                go_wp2_with fail
                refine (full_any _ _ _ _ _ _ _ _ _ _ _ _ HB3.out.rnd.pen ((HB3.out.rnd.below.cell (p := ⟨bw, 0, none⟩) hbw).trans HCW.out)).mono ?_
                rintro e w1 ⟨rfl, nd, rfl⟩
                go_wp2_with fail
                go_meet
                exact ⟨by rw [HQ1.out]; rfl, HB3.out.drewN _⟩
            case rest =>
              obtain ⟨rfl, hb⟩ := hcut
              clear HB3
              have HB4 := Lib.hid hb
              clear hb
              obtain ⟨s1, hs1⟩ : ∃ s1, s1 = P14.pre (P14.least gap) (bWrap  zs) (nWrap width) k s := ⟨_, rfl⟩
              have HS1 : Hid (s1 = P14.pre (P14.least gap) (bWrap  zs) (nWrap width) k s ∧ s1 = (if q = true then P14.St.row (P14.least gap) s else s) ∧ (q = true → 0 < k)) := by
                refine ⟨hs1, ?_, fun h => ?_⟩
                · rw [hs1, P14.pre, HB.out, HQ.out]
                  simp
                · rw [HQ.out] at h
                  simp at h
                  exact h.1
              clear hs1
              go_upto_if 39 with fail
              go_cut [] (fun wx => Rb w wx (w.heap.size + 1) s1.x s1.y s1.h (P14.least gap) s1.W (decide (0 < k)) u11 k (flat2 s.out) sB (P14.least za) (P14.least zb))
              case first =>
                cases q
                · have HS2 := Lib.hid (show s1 = s by rw [HS1.out.2.1]; rfl)
                  go_wp2_with fail
                  go_meet
                  rw [HS2.out]
                  exact HB4.out
                · have HS2 := Lib.hid (show s1 = P14.St.row (P14.least gap) s by rw [HS1.out.2.1]; rfl)
                  have HK := Lib.hid (show decide (0 < k) = true by simpa using HS1.out.2.2 rfl)
                  have hp := HB4.out.rnd.pen
                  rw [HK.out] at hp
                  have HPN := Lib.hid hp
                  clear hp
                  go_wp2_with (first | (go_at_call 171; ((with_reducible refine (row_any _ _ _ _ _ _ _ HPN.out).mono ?_); rintro e w1 ⟨rfl, hp1, hg1⟩)))
                  go_meet
                  rw [HS2.out, HK.out]
                  exact HB4.out.moved hp1 hg1
              case rest =>
                have hb := hcut
                clear hcut HB4
                obtain ⟨d0, d1, d2, d3⟩ := hb.cells
                have hp := hb.rnd.pen
                have HPN := Lib.hid hp
                have HB5 := Lib.hid hb
                clear hb hp
                go_wp2_with (first
                  | (go_at_call 172; ((with_reducible refine (put_any _ _ _ _ _ _ _ _ _ _ _ HPN.out).mono ?_); rintro e w1 ⟨rfl, hp1, hg1⟩; have hb1 := HB5.out.moved hp1 hg1; have HB6 := Lib.hid hb1; have hsz := hb1.rnd.size; clear hp1 hg1 hb1))
                  | (at_builtin; refine wpList_append_lies _ rfl _ _ _ rfl w.heap.size 188 i0 _ 2 16 Tryz.underlying184 hi hz0 hz1 hz2 rfl (by decide) _ k (flat2 s.out) rfl (HB6.out.rnd.own.alloc _) _ 1 1 [.int .i64 s1.x, .int .i64 s1.y] rfl rfl (World.news_of_block (heap_alloc_new _ _)) (by intro u hu; simp at hu; rcases hu with rfl | rfl <;> rfl) (by omega) (by unfold maxLen; omega) (by omega) (by simp; omega) _ rfl ?_; intro g2 cap2 w2 hown2 hg2 hat2 hlt2))
                have hs2 : Hid (P14.St.put (P14.least gap) s1 (P14.least za, P14.least zb) = P14.penAt (P14.least gap) (bWrap  zs) (nWrap width) (k + 1)) := by
                  refine Lib.hid ?_
                  rw [P14.penAt_succ, ← hs.out, ← HS1.out.1, HB.out]
                have ho2 : Hid (flat2 (P14.St.put (P14.least gap) s1 (P14.least za, P14.least zb)).out = flat2 s.out ++ [.int .i64 s1.x, .int .i64 s1.y]) := by
                  refine Lib.hid ?_
                  have : s1.out = s.out := by rw [HS1.out.1, P14.pre_out]
                  rw [P14.St.put, this, flat2_snoc]
                have hr2 := HB6.out.put hown2 _ hg2
                rw [← ho2.out] at hr2
                have HR2 := Lib.hid hr2
                clear hr2 hown2 hg2 hat2 hlt2
                go_roundw
                case rel => exact ⟨k + 1, _, by omega, by go_num, hs2, by rw [show decide (0 < k + 1) = true from by simp]; exact HR2.out⟩
                case measure => simp [intOf]; omega
    · obtain rfl : k = n := by omega
      have hp := hr.pen
      have HPN := Lib.hid hp
      have HR := Lib.hid hr
      clear hp hr
      go_wp2_with (first | (go_at_call 173; ((with_reducible refine (whole_any _ _ _ _ _ _ _ _ HPN.out).mono ?_); rintro e w1 ⟨rfl, hbel⟩; have hr1 := HR.out.keep hbel; have r0 := hr1.res.cell 0; have r1 := hr1.res.cell 1; have r2 := hr1.res.frozen 0; have r3 := hr1.res.frozen 1; have HR1 := Lib.hid hr1; clear hr1 hbel)))
      obtain ⟨AO, cO, hv⟩ := own_form HR1.out.own
      have HV := Lib.hid hv
      clear hv
      have hd := HR1.out.done (.int .i64 s.W) (.int .i64 (P1.add s.y s.h))
      have HD := Lib.hid hd
      clear hd
      refine bodyPost_ret (v := .tuple #[u11, .agg #[.int .i64 s.W, .int .i64 (P1.add s.y s.h)]]) (by simp [results, Tryz.results156, go_sem, r0, r1]) rfl ⟨AO, cO, ?_, ?_, ?_⟩
      · rw [← hs.out, HV.out]
      · rw [← hs.out, ← HV.out]
        exact HD.out.1
      · exact HD.out.2

end Go.Proofs.YtaalhglooipnaaaGreat.Fl
namespace Go.Proofs.YtaalhglooipnaaaGreat.Fl
open Go.RowKit
attribute [local go_sem ↓] Go.wp_at_zero Go.wp_at_succ

/-- How much box k takes, and how high it is. -/
def bGrid (col : Int) (zs : List (Int × Int)) (k : Nat) : Int × Int := (col, P14.least (zs.getD k (0, 0)).2)
/-- Does a row begin? -/
def nGrid (cols : Int) (_k : Nat) (_x _n : Int) : Bool := (_k : Int) % cols == 0

set_option maxRecDepth 100000 in
set_option maxHeartbeats 8000000 in
theorem rowsGrid_any (gap : Int) (A : Option Addr) (n c : Nat) (zs : List (Int × Int)) (w : World) (hz : Pairs w w.heap.size A n zs) (hn : n ≤ 40) (bl bc : Nat) (col cols : Int) (hcols : 1 ≤ cols) (hbl : bl < w.heap.size) (hcl : w.cell? ⟨bl, 0, none⟩ = some (.int .i64 col)) (hbc : bc < w.heap.size) (hcc : w.cell? ⟨bc, 0, none⟩ = some (.int .i64 cols)) :
    Calls Tryz.prog 156 #[.int .i64 gap, .slice A n c, .func (.func 161) #[] #[.pointer (some ⟨bl, 0, none⟩)], .func (.func 162) #[] #[.pointer (some ⟨bc, 0, none⟩)]] w (RowsPost w (P14.penAt (P14.least gap) (bGrid col zs) (nGrid cols) n) n) := by
  obtain ⟨i0, hi, hz0, hz1, hz2⟩ := info_parts point_info
  have hzl := hz.1
  have HZ := Lib.hid hz
  have HZL := Lib.hid hzl
  clear hz hzl
  have HCL := Lib.hid hcl
  have HCC := Lib.hid hcc
  clear hcl hcc
  go_enter Tryz.func156, Tryz.ntmps156
  go_wp2_with (first | (go_at_call 155; ((with_reducible refine (least_any _ _).mono ?_); rintro e w' ⟨rfl, rfl⟩)))
  go_loopw [11, 21] (fun v0 i wr => ∃ (k : Nat) (s : P14.St), k ≤ n ∧ i = .int .i64 k ∧ Hid (s = P14.penAt (P14.least gap) (bGrid col zs) (nGrid cols) k) ∧ Rnd w wr (w.heap.size + 1) s.x s.y s.h (P14.least gap) s.W (decide (0 < k)) v0 k (flat2 s.out))
    (fun _ i _ => n - (intOf i).toNat)
  case atStart =>
    refine ⟨0, P14.st0, Nat.zero_le _, rfl, rfl, ⟨?_, World.ownsRow_nil _ _ _ _, ((Below.refl _ _).alloc (Nat.le_refl _) _).alloc (by simp) _, by omega, (Blk.new _ _ _).alloc _⟩⟩
    have hb := Blk.new (w.alloc (.cells #[.int .i64 0, .int .i64 0] 180)) 225 #[.int .i64 0, .int .i64 0, .int .i64 0, .int .i64 (P14.least gap), .int .i64 0, .bool false]
    simp at hb
    exact hb
  case round =>
    obtain ⟨k, s, hk, rfl, hs, hr⟩ := hrel
    by_cases hlt : k < n
    · obtain ⟨b, off, rfl, hbB, hc0, hc1⟩ := HZ.out.2 k hlt
      have e0 := hr.below.cell (p := ⟨b, off + k * 2, none⟩) hbB
      have e1 := hr.below.cell (p := ⟨b, off + k * 2 + 1, none⟩) hbB
      rw [hc0] at e0
      rw [hc1] at e1
      clear hc0 hc1
      obtain ⟨za, zb, hzab⟩ : ∃ za zb, zs.getD k (0, 0) = (za, zb) := ⟨_, _, rfl⟩
      rw [hzab] at e0 e1
      have HB : Hid (bGrid col zs k = (col, P14.least zb)) := by unfold bGrid; rw [hzab]; rfl
      clear hzab
      have HR := Lib.hid hr
      clear hr
      go_upto_region 5 with fail
      go_cut [12, 13] (fun s12 s13 wx => ∃ sB : Nat, s12 = .int .i64 k ∧ s13 = .pointer (some ⟨sB, 0, none⟩) ∧ Rb w wx (w.heap.size + 1) s.x s.y s.h (P14.least gap) s.W (decide (0 < k)) u11 k (flat2 s.out) sB za zb)
      case first =>
        go_wp2_with fail
        go_meet
        exact ⟨_, rfl, rfl, Rb.start HR.out _ _⟩
      case rest =>
        obtain ⟨sB, rfl, rfl, hb⟩ := hcut
        obtain ⟨d0, d1, d2, d3⟩ := hb.cells
        have hlB := hb.box.lt
        have HB1 := Lib.hid hb
        clear hb e0 e1
        go_upto_region 6 with fail
        go_cut [] (fun wx => Rb w wx (w.heap.size + 1) s.x s.y s.h (P14.least gap) s.W (decide (0 < k)) u11 k (flat2 s.out) sB (P14.least za) (P14.least zb))
        case first =>
          go_wp2_with (first | (go_at_call 170; ((with_reducible refine (plain_any _ _ _).mono ?_); rintro e w1 ⟨rfl, hbel⟩; have hb1 := HB1.out.keep hbel; obtain ⟨g0, g1, g2, g3⟩ := hb1.cells; have HB2 := Lib.hid hb1; clear hb1)))
          go_meet
          exact HB2.out.sized _ _
        case rest =>
          have hb := hcut
          clear d0 d1 d2 d3 hlB hcut
          obtain ⟨d0, d1, d2, d3⟩ := hb.cells
          have HB2 := Lib.hid hb
          clear hb
          go_upto_region 7 with fail
          go_cut [14] (fun s14 wx => s14 = .int .i64 (col) ∧ Rb w wx (w.heap.size + 1) s.x s.y s.h (P14.least gap) s.W (decide (0 < k)) u11 k (flat2 s.out) sB (P14.least za) (P14.least zb))
          case first =>
            go_wp2_with fail
            refine (col_any _ _ _ _ _ ((HB2.out.rnd.below.cell (p := ⟨bl, 0, none⟩) hbl).trans HCL.out)).mono ?_
            rintro e w1 ⟨rfl, hbel⟩
            go_wp2_with fail
            go_meet
            exact ⟨rfl, HB2.out.keep hbel⟩
          case rest =>
            obtain ⟨rfl, hb⟩ := hcut
            clear d0 d1 d2 d3 HB2
            have HB3 := Lib.hid hb
            clear hb
            go_upto_region 8 with fail
            obtain ⟨q, hq⟩ : ∃ q : Bool, q = (decide (0 < k) && nGrid cols k s.x (col)) := ⟨_, rfl⟩
            have HQ := Lib.hid hq
            clear hq
            go_cut [39] (fun s39 wx => s39 = .bool q ∧ Rb w wx (w.heap.size + 1) s.x s.y s.h (P14.least gap) s.W (decide (0 < k)) u11 k (flat2 s.out) sB (P14.least za) (P14.least zb))
            case first =>
              by_cases h0 : k = 0
              · have hk0 : k ≤ 0 := by omega
                have HQ1 := Lib.hid (show q = false by rw [HQ.out]; simp [h0])
                clear h0
                go_wp2_with fail
                go_meet
                exact ⟨by rw [HQ1.out], HB3.out⟩
              · have hk0 : decide ((0 : Int) < (k : Int)) = true := by simp; omega
                have HQ1 := Lib.hid (show q = nGrid cols k s.x (col) by rw [HQ.out]; simp; omega)
                have hki : (0 : Int) ≤ (k : Int) := by omega
                go_wp2_with fail
                refine (nth_any _ _ _ _ _ _ hki hcols ((HB3.out.rnd.below.cell (p := ⟨bc, 0, none⟩) hbc).trans HCC.out)).mono ?_
                rintro e w1 ⟨rfl, nd, rfl⟩
                go_wp2_with fail
                go_meet
                exact ⟨by rw [HQ1.out]; rfl, HB3.out.drewN _⟩
            case rest =>
              obtain ⟨rfl, hb⟩ := hcut
              clear HB3
              have HB4 := Lib.hid hb
              clear hb
              obtain ⟨s1, hs1⟩ : ∃ s1, s1 = P14.pre (P14.least gap) (bGrid col zs) (nGrid cols) k s := ⟨_, rfl⟩
              have HS1 : Hid (s1 = P14.pre (P14.least gap) (bGrid col zs) (nGrid cols) k s ∧ s1 = (if q = true then P14.St.row (P14.least gap) s else s) ∧ (q = true → 0 < k)) := by
                refine ⟨hs1, ?_, fun h => ?_⟩
                · rw [hs1, P14.pre, HB.out, HQ.out]
                  simp
                · rw [HQ.out] at h
                  simp at h
                  exact h.1
              clear hs1
              go_upto_if 39 with fail
              go_cut [] (fun wx => Rb w wx (w.heap.size + 1) s1.x s1.y s1.h (P14.least gap) s1.W (decide (0 < k)) u11 k (flat2 s.out) sB (P14.least za) (P14.least zb))
              case first =>
                cases q
                · have HS2 := Lib.hid (show s1 = s by rw [HS1.out.2.1]; rfl)
                  go_wp2_with fail
                  go_meet
                  rw [HS2.out]
                  exact HB4.out
                · have HS2 := Lib.hid (show s1 = P14.St.row (P14.least gap) s by rw [HS1.out.2.1]; rfl)
                  have HK := Lib.hid (show decide (0 < k) = true by simpa using HS1.out.2.2 rfl)
                  have hp := HB4.out.rnd.pen
                  rw [HK.out] at hp
                  have HPN := Lib.hid hp
                  clear hp
                  go_wp2_with (first | (go_at_call 171; ((with_reducible refine (row_any _ _ _ _ _ _ _ HPN.out).mono ?_); rintro e w1 ⟨rfl, hp1, hg1⟩)))
                  go_meet
                  rw [HS2.out, HK.out]
                  exact HB4.out.moved hp1 hg1
              case rest =>
                have hb := hcut
                clear hcut HB4
                obtain ⟨d0, d1, d2, d3⟩ := hb.cells
                have hp := hb.rnd.pen
                have HPN := Lib.hid hp
                have HB5 := Lib.hid hb
                clear hb hp
                go_wp2_with (first
                  | (go_at_call 172; ((with_reducible refine (put_any _ _ _ _ _ _ _ _ _ _ _ HPN.out).mono ?_); rintro e w1 ⟨rfl, hp1, hg1⟩; have hb1 := HB5.out.moved hp1 hg1; have HB6 := Lib.hid hb1; have hsz := hb1.rnd.size; clear hp1 hg1 hb1))
                  | (at_builtin; refine wpList_append_lies _ rfl _ _ _ rfl w.heap.size 188 i0 _ 2 16 Tryz.underlying184 hi hz0 hz1 hz2 rfl (by decide) _ k (flat2 s.out) rfl (HB6.out.rnd.own.alloc _) _ 1 1 [.int .i64 s1.x, .int .i64 s1.y] rfl rfl (World.news_of_block (heap_alloc_new _ _)) (by intro u hu; simp at hu; rcases hu with rfl | rfl <;> rfl) (by omega) (by unfold maxLen; omega) (by omega) (by simp; omega) _ rfl ?_; intro g2 cap2 w2 hown2 hg2 hat2 hlt2))
                have hs2 : Hid (P14.St.put (P14.least gap) s1 (col, P14.least zb) = P14.penAt (P14.least gap) (bGrid col zs) (nGrid cols) (k + 1)) := by
                  refine Lib.hid ?_
                  rw [P14.penAt_succ, ← hs.out, ← HS1.out.1, HB.out]
                have ho2 : Hid (flat2 (P14.St.put (P14.least gap) s1 (col, P14.least zb)).out = flat2 s.out ++ [.int .i64 s1.x, .int .i64 s1.y]) := by
                  refine Lib.hid ?_
                  have : s1.out = s.out := by rw [HS1.out.1, P14.pre_out]
                  rw [P14.St.put, this, flat2_snoc]
                have hr2 := HB6.out.put hown2 _ hg2
                rw [← ho2.out] at hr2
                have HR2 := Lib.hid hr2
                clear hr2 hown2 hg2 hat2 hlt2
                go_roundw
                case rel => exact ⟨k + 1, _, by omega, by go_num, hs2, by rw [show decide (0 < k + 1) = true from by simp]; exact HR2.out⟩
                case measure => simp [intOf]; omega
    · obtain rfl : k = n := by omega
      have hp := hr.pen
      have HPN := Lib.hid hp
      have HR := Lib.hid hr
      clear hp hr
      go_wp2_with (first | (go_at_call 173; ((with_reducible refine (whole_any _ _ _ _ _ _ _ _ HPN.out).mono ?_); rintro e w1 ⟨rfl, hbel⟩; have hr1 := HR.out.keep hbel; have r0 := hr1.res.cell 0; have r1 := hr1.res.cell 1; have r2 := hr1.res.frozen 0; have r3 := hr1.res.frozen 1; have HR1 := Lib.hid hr1; clear hr1 hbel)))
      obtain ⟨AO, cO, hv⟩ := own_form HR1.out.own
      have HV := Lib.hid hv
      clear hv
      have hd := HR1.out.done (.int .i64 s.W) (.int .i64 (P1.add s.y s.h))
      have HD := Lib.hid hd
      clear hd
      refine bodyPost_ret (v := .tuple #[u11, .agg #[.int .i64 s.W, .int .i64 (P1.add s.y s.h)]]) (by simp [results, Tryz.results156, go_sem, r0, r1]) rfl ⟨AO, cO, ?_, ?_, ?_⟩
      · rw [← hs.out, HV.out]
      · rw [← hs.out, ← HV.out]
        exact HD.out.1
      · exact HD.out.2

end Go.Proofs.YtaalhglooipnaaaGreat.Fl
namespace Go.Proofs.YtaalhglooipnaaaGreat.Fl
open Go.RowKit
attribute [local go_sem ↓] Go.wp_at_zero Go.wp_at_succ

theorem own_base {w : World} {base base' : Nat} {e : TypeId} {size n : Nat} {v : Value} {xs : List Value} (h : w.ownsRow base e size v n xs) (hb : base' ≤ base) : w.ownsRow base' e size v n xs := by
  refine ⟨h.1, ?_⟩
  rcases h.2 with h0 | ⟨g, cap, cur, hv, hg, rest⟩
  · exact .inl h0
  · exact .inr ⟨g, cap, cur, hv, Nat.le_trans hb hg, rest⟩

/-- The result's cell is stored, and the wrapper leaves what rows left. -/
theorem RowsPost.cell {w wa w' : World} {s : P14.St} {n : Nat} {A : Option Addr} {c R : Nat} (hbel : Below w.heap.size w wa) (hR : w.heap.size ≤ R)
    (hres : Blk wa R 180 #[.int .i64 0, .int .i64 0])
    (hown : w'.ownsRow wa.heap.size 188 2 (.slice A n c) n (flat2 s.out)) (hb : Below wa.heap.size wa w') (a b : Value) :
    ((w'.setCell ⟨R, 0, none⟩ a).setCell ⟨R, 1, none⟩ b).ownsRow w.heap.size 188 2 (.slice A n c) n (flat2 s.out) ∧
    Below w.heap.size w ((w'.setCell ⟨R, 0, none⟩ a).setCell ⟨R, 1, none⟩ b) := by
  have hlt := hres.lt
  have hr' := hres.below hb hlt
  refine ⟨own_base (hown.kept (row := some R) (only_set (only_set (World.grownBy.refl w' _) 0 a) 1 b) (.inr (own_blk_ne hown hr' (by decide)))) hbel.size, ?_⟩
  exact (((hbel.trans (hb.mono hbel.size)).setCell hR a).setCell hR b)

set_option maxRecDepth 100000 in
set_option maxHeartbeats 1000000 in
theorem stack_any (gap : Int) (A : Option Addr) (n c : Nat) (zs : List (Int × Int)) (w : World) (hz : Pairs w w.heap.size A n zs) (hn : n ≤ 40) :
    Calls Tryz.prog 139 #[.int .i64 gap, .slice A n c] w (RowsPost w (P14.penAt (P14.least gap) (bStack zs) nStack n) n) := by
  have HZ := Lib.hid hz
  clear hz
  obtain ⟨s, hs⟩ : ∃ s, s = P14.penAt (P14.least gap) (bStack zs) nStack n := ⟨_, rfl⟩
  rw [← hs]
  have HS := Lib.hid hs
  clear hs
  go_enter Tryz.func139, Tryz.ntmps139
  go_wp2_with fail
  refine (rowsStack_any gap A n c zs _ ?_ hn).mono ?_
  · exact (HZ.out.below ((Below.refl _ _).alloc (Nat.le_refl _) _)).more (by simp)
  rintro e w' ⟨A', c', rfl, hown, hb⟩
  rw [← HS.out] at hown ⊢
  have hr0 := (Blk.new w 180 #[.int .i64 0, .int .i64 0])
  have hr := hr0.below hb hr0.lt
  have r0 := hr.cell 0
  have r1 := hr.cell 1
  have r2 := hr.frozen 0
  have r3 := hr.frozen 1
  have hd := RowsPost.cell (w := w) ((Below.refl _ _).alloc (Nat.le_refl _) _) (Nat.le_refl _) hr0 hown hb (.int .i64 s.W) (.int .i64 (P1.add s.y s.h))
  have HD := Lib.hid hd
  clear hd hown hb hr0 hr
  go_wp2
  exact bodyPost_ret (v := .tuple #[.slice A' n c', .agg #[.int .i64 s.W, .int .i64 (P1.add s.y s.h)]]) (by simp [results, Tryz.results139, go_sem, r0, r1]) rfl ⟨A', c', rfl, HD.out⟩

set_option maxRecDepth 100000 in
set_option maxHeartbeats 1000000 in
theorem wrap_any (width gap : Int) (A : Option Addr) (n c : Nat) (zs : List (Int × Int)) (w : World) (hz : Pairs w w.heap.size A n zs) (hn : n ≤ 40) :
    Calls Tryz.prog 136 #[.int .i64 width, .int .i64 gap, .slice A n c] w (RowsPost w (P14.penAt (P14.least gap) (bWrap zs) (nWrap (P14.least width)) n) n) := by
  have HZ := Lib.hid hz
  clear hz
  obtain ⟨s, hs⟩ : ∃ s, s = P14.penAt (P14.least gap) (bWrap zs) (nWrap (P14.least width)) n := ⟨_, rfl⟩
  rw [← hs]
  have HS := Lib.hid hs
  clear hs
  go_enter Tryz.func136, Tryz.ntmps136
  go_wp2_with (first | (go_at_call 155; ((with_reducible refine (least_any _ _).mono ?_); rintro e w' ⟨rfl, rfl⟩)))
  refine (rowsWrap_any gap A n c zs _ ?_ hn w.heap.size (P14.least width) (by simp <;> omega) ?_).mono ?_
  · exact (HZ.out.below (((Below.refl _ _).alloc (Nat.le_refl _) _).alloc (by simp) _)).more (by simp <;> omega)
  · exact ((Blk.new w 3 #[.int .i64 (P14.least width)]).alloc _).cell 0
  rintro e w' ⟨A', c', rfl, hown, hb⟩
  rw [← HS.out] at hown ⊢
  have hr0 := (Blk.new (w.alloc (.cells #[.int .i64 (P14.least width)] 3)) 180 #[.int .i64 0, .int .i64 0])
  have hr := hr0.below hb hr0.lt
  simp only [World.size_alloc] at hr0 hr
  have r0 := hr.cell 0
  have r1 := hr.cell 1
  have r2 := hr.frozen 0
  have r3 := hr.frozen 1
  have hd := RowsPost.cell (w := w) (((Below.refl _ _).alloc (Nat.le_refl _) _).alloc (by simp) _) (Nat.le_succ _) hr0 hown hb (.int .i64 s.W) (.int .i64 (P1.add s.y s.h))
  have HD := Lib.hid hd
  clear hd hown hb hr0 hr
  go_wp2
  exact bodyPost_ret (v := .tuple #[.slice A' n c', .agg #[.int .i64 s.W, .int .i64 (P1.add s.y s.h)]]) (by simp [results, Tryz.results136, go_sem, r0, r1]) rfl ⟨A', c', rfl, HD.out⟩

theorem GridWorld.col (w : World) (a b : Value) (o : Obj) : (((w.alloc (.cells #[a] 3)).alloc (.cells #[b] 3)).alloc o).drew.cell? ⟨w.heap.size + 1, 0, none⟩ = some b := by
  have h := ((Blk.new (w.alloc (.cells #[a] 3)) 3 #[b]).alloc o).cell 0
  rw [World.size_alloc] at h
  exact h
theorem GridWorld.cols (w : World) (a b : Value) (o : Obj) : (((w.alloc (.cells #[a] 3)).alloc (.cells #[b] 3)).alloc o).drew.cell? ⟨w.heap.size, 0, none⟩ = some a :=
  (((Blk.new w 3 #[a]).alloc _).alloc o).cell 0
theorem GridWorld.res (w : World) (a b u v : Value) : Blk (((w.alloc (.cells #[a] 3)).alloc (.cells #[b] 3)).alloc (.cells #[u, v] 180)).drew (w.heap.size + 1 + 1) 180 #[u, v] := by
  have h := Blk.new ((w.alloc (.cells #[a] 3)).alloc (.cells #[b] 3)) 180 #[u, v]
  rw [World.size_alloc, World.size_alloc] at h
  exact h

set_option maxRecDepth 100000 in
set_option maxHeartbeats 4000000 in
theorem grid_any (cols col gap : Int) (A : Option Addr) (n c : Nat) (zs : List (Int × Int)) (w : World) (hz : Pairs w w.heap.size A n zs) (hn : n ≤ 40) :
    Calls Tryz.prog 138 #[.int .i64 cols, .int .i64 col, .int .i64 gap, .slice A n c] w (RowsPost w (P14.penAt (P14.least gap) (bGrid (P14.least col) zs) (nGrid (max 1 (min cols 64))) n) n) := by
  have HZ := Lib.hid hz
  clear hz
  obtain ⟨s, hs⟩ : ∃ s, s = P14.penAt (P14.least gap) (bGrid (P14.least col) zs) (nGrid (max 1 (min cols 64))) n := ⟨_, rfl⟩
  rw [← hs]
  have HS := Lib.hid hs
  clear hs
  go_enter Tryz.func138, Tryz.ntmps138
  go_wp2_with fail
  go_region_with (first | (go_at_call 155; ((with_reducible refine (least_any _ _).mono ?_); rintro e w' ⟨rfl, rfl⟩)) | (go_at_call 27; ((with_reducible refine (clip_any _ _ _ _).mono ?_); rintro e w' ⟨rfl, rfl⟩)))
  all_goals go_wp2_with fail
  all_goals (refine (rowsGrid_any gap A n c zs _ ?_ hn (w.heap.size + 1) w.heap.size (P14.least col) (max 1 (min cols 64)) (by omega) (by simp <;> omega) ?_ (by simp <;> omega) ?_).mono ?_)
  all_goals (first
    | (exact (HZ.out.below ((((Below.refl _ _).alloc (Nat.le_refl _) _).alloc (by simp) _).alloc (by simp <;> omega) _).drew).more (by simp <;> omega))
    | (exact GridWorld.col w _ _ _)
    | (exact GridWorld.cols w _ _ _)
    | skip)
  all_goals (
    rintro e w' ⟨A', c', rfl, hown, hb⟩
    rw [← HS.out] at hown ⊢
    have hr0 := GridWorld.res w (.int .i64 (max 1 (min cols 64))) (.int .i64 (P14.least col)) (.int .i64 0) (.int .i64 0)
    have hr := hr0.below hb hr0.lt
    have r0 := hr.cell 0
    have r1 := hr.cell 1
    have r2 := hr.frozen 0
    have r3 := hr.frozen 1
    have hd := RowsPost.cell (w := w) ((((Below.refl _ _).alloc (Nat.le_refl _) _).alloc (by simp) _).alloc (by simp <;> omega) _).drew (by omega) hr0 hown hb (.int .i64 s.W) (.int .i64 (P1.add s.y s.h))
    have HD := Lib.hid hd
    clear hd hown hb hr0 hr
    go_wp2
    exact bodyPost_ret (v := .tuple #[.slice A' n c', .agg #[.int .i64 s.W, .int .i64 (P1.add s.y s.h)]]) (by simp [results, Tryz.results138, go_sem, r0, r1]) rfl ⟨A', c', rfl, HD.out⟩)

end Go.Proofs.YtaalhglooipnaaaGreat.Fl
namespace Go.Proofs.YtaalhglooipnaaaGreat.Fl
open Go.RowKit
attribute [local go_sem ↓] Go.wp_at_zero Go.wp_at_succ

/-- The pen behind all boxes that are looked at. -/
def putSt (kind width cols gap : Int) (zs : List (Int × Int)) : P14.St :=
  if kind = 0 then P14.penAt (P14.least gap) (bStack zs) nStack zs.length
  else if kind = 1 then P14.penAt (P14.least gap) (bWrap zs) (nWrap (P14.least width)) zs.length
  else P14.penAt (P14.least gap) (bGrid (P14.least width) zs) (nGrid (max 1 (min cols 64))) zs.length

theorem size_info : (Tryz.prog.info? 180).map (fun i => (i.zero, i.size, i.bytes)) = some (some (.agg #[.int .i64 0, .int .i64 0]), 2, 16) := by kernel_rfl

theorem flat2_take (zs : List (Int × Int)) (k : Nat) (h : k < zs.length) : flat2 (zs.take (k + 1)) = flat2 (zs.take k) ++ [.int .i64 (zs.getD k (0, 0)).1, .int .i64 (zs.getD k (0, 0)).2] := by
  rw [take_snoc zs (0, 0) k h, flat2_snoc]

end Go.Proofs.YtaalhglooipnaaaGreat.Fl
