/-
  The walk over slot's release.
-/
import Derived.Test.YtkiaaaehakjhjaaSlotCome2
import Derived.Test.YtkiaaaehakjhjaaOwnC
import Derived.Deep.RegionHeld3
import Derived.Deep.RegionWith
import Derived.BigRegion
namespace Go.Proofs.Ytkiaaaehakjhjaa
open Go.RowKit
attribute [local go_sem ↓] Go.wp_at_zero Go.wp_at_succ

/-- Is one let go? -/
def relB (each : List Int) (ks : List Kid) (i : Nat) : Bool := each.getD i 0 == 2 || (each.getD i 0 == 0 && (ks.getD i kid0).2 == 4)
def relTo (each : List Int) (ks : List Kid) (k : Nat) : List Int := ((List.range k).filter (relB each ks)).map fun (i : Nat) => (i : Int)
theorem relTo_succ (each : List Int) (ks : List Kid) (k : Nat) : relTo each ks (k + 1) = if relB each ks k = true then relTo each ks k ++ [(k : Int)] else relTo each ks k := by
  rw [relTo, relTo, List.range_succ, List.filter_append]
  cases h : relB each ks k <;> simp [List.filter, h]
theorem relTo_len (each : List Int) (ks : List Kid) (k : Nat) : (relTo each ks k).length ≤ k := by
  rw [relTo, List.length_map]
  exact Nat.le_trans (List.length_filter_le _ _) (by simp)
/-- Is none let go? -/
def quietS (p : PlanS) (ks : List Kid) : Bool := p.start == 1 || (decide (0 ≤ p.take) && (p.each.getD p.take.toNat 0 == 0 && entB (ks.getD p.take.toNat kid0).2))
def releaseS (ks : List Kid) (p : PlanS) : PlanS := if quietS p ks = true then p else { p with rel := p.rel ++ relTo p.each ks ks.length }

set_option maxRecDepth 100000 in
set_option maxHeartbeats 8000000 in
theorem release_any (w wx : World) (P : Nat) (vE vR : Value) (p : PlanS) (A : Option Addr) (n c : Nat) (ks : List Kid) (hp : Pn 30 w wx P vE vR p) (hz : Kids w w.heap.size A n ks) (hn : p.each.length = n) (hm : n ≤ 15) (ht : p.take < n) (hrel : p.rel = []) :
    Calls Try.prog 21 #[.pointer (some ⟨P, 0, none⟩), .slice A n c] wx fun e w' => e = .returned (.tuple #[]) ∧ ∃ vR', Pn 30 w w' P vE vR' (releaseS ks p) := by
  obtain ⟨tr, hi, hz0, hz1, hz2⟩ := info_parts int_info
  obtain ⟨cs, hcs⟩ : ∃ cs, cs = releaseS ks p := ⟨_, rfl⟩
  rw [← hcs]
  obtain ⟨q, hq⟩ : ∃ q, q = quietS p ks := ⟨_, rfl⟩
  have HC := Lib.hid (show cs = if q = true then p else { p with rel := p.rel ++ relTo p.each ks ks.length } by rw [hcs, releaseS, hq])
  have HQ := Lib.hid hq
  obtain ⟨x0, x1, x2, x3⟩ := hp.cells
  obtain ⟨f0, f1, f2, f3⟩ := hp.free
  have HP := Lib.hid hp
  have HZ := Lib.hid (And.intro hz (And.intro hn hrel))
  clear hcs hq hp hz hn hrel
  obtain ⟨es, tk, st, rl⟩ := p
  simp only at ht x1 x2
  go_enter Try.func21, Try.ntmps21
  go_upto_region 0 with fail
  go_cut [41] (fun s wr => s = .bool q ∧ Pn 30 w wr P vE vR ⟨es, tk, st, rl⟩)
  case first =>
    by_cases h1 : st = 1
    · have HQ1 := Lib.hid (show q = true by rw [HQ.out, quietS, h1]; rfl)
      subst h1
      go_quiet (fail)
      go_wp2
      go_meet
      exact ⟨by rw [HQ1.out], HP.out.drewN _⟩
    · have g1 := beq_no h1
      have HQ1 := Lib.hid (show q = (decide (0 ≤ tk) && (es.getD tk.toNat 0 == 0 && entB (ks.getD tk.toNat kid0).2)) by rw [HQ.out, quietS]; show (st == 1 || _) = _; rw [g1]; rfl)
      clear h1
      by_cases h2 : 0 ≤ tk
      · obtain ⟨k, rfl⟩ : ∃ k : Nat, tk = k := ⟨tk.toNat, by omega⟩
        have hkn : k < n := by omega
        have i2 : (k : Int) < (n : Int) := by omega
        obtain ⟨g, cE, hv, y0, y1⟩ := HP.out.eachAt k (by show k < es.length; have := HZ.out.2.1; simp only at this; omega)
        have hv' : vE = .slice (some ⟨g, 0, none⟩) n cE := by rw [hv]; have := HZ.out.2.1; exact congrArg (fun m => Value.slice (some ⟨g, 0, none⟩) m cE) this
        rw [hv'] at x0
        obtain ⟨x, hx⟩ : ∃ x, x = es.getD k 0 := ⟨_, rfl⟩
        replace y0 : wx.cell? ⟨g, k, none⟩ = some (.int .i64 x) := by rw [hx]; exact y0
        have HX := Lib.hid hx
        clear hv hv' hx
        by_cases h3 : x = 0
        · subst h3
          obtain ⟨b, off, rfl, hbB, e0, e1⟩ := HZ.out.1.2 k hkn
          replace e0 := (HP.out.below.cell (p := ⟨b, off + k * 2, none⟩) hbB).trans e0
          replace e1 := (HP.out.below.cell (p := ⟨b, off + k * 2 + 1, none⟩) hbB).trans e1
          obtain ⟨s, t, hst⟩ : ∃ s t, ks.getD k kid0 = (s, t) := ⟨_, _, rfl⟩
          rw [hst] at e0 e1
          simp only [k0, k1] at e0 e1
          have HQ2 := Lib.hid (show q = entB t by
            have e1 : es.getD ((k : Nat) : Int).toNat 0 = 0 := HX.out.symm
            have e2 : ks.getD ((k : Nat) : Int).toNat kid0 = (s, t) := hst
            rw [HQ1.out, e1, e2]; simp)
          have HPl := Lib.hid HP.out.lt
          have Hg := Lib.hid (World.block_lt_of_cell? wx _ y0)
          have Hb := Lib.hid (World.block_lt_of_cell? wx _ e0)
          clear hst
          go_region_held3 (fun w' => w'.cell? ⟨P, 0, none⟩ = some (.slice (some ⟨g, 0, none⟩) n cE) ∧ w'.cell? ⟨P, 1, none⟩ = some (.int .i64 k) ∧ w'.cell? ⟨P, 2, none⟩ = some (.int .i64 st) ∧ w'.cell? ⟨g, k, none⟩ = some (.int .i64 0) ∧ w'.cell? ⟨b, off + k * 2, none⟩ = some (.string s) ∧ w'.cell? ⟨b, off + k * 2 + 1, none⟩ = some (.int .i64 t)) (go_keep)
            (first
              | (go_at_call 23; ((with_reducible refine (look_any _ _ _).mono ?_); rintro e w1 ⟨rfl, hb1⟩; have hb1 : Below wx.heap.size wx w1 := (below_drewN (Below.refl _ _) 1).trans hb1; have HB1 := Lib.hid hb1; have z0 := (hb1.cell (p := ⟨P, 0, none⟩) HPl.out).trans x0; have z1 := (hb1.cell (p := ⟨P, 1, none⟩) HPl.out).trans x1; have z2 := (hb1.cell (p := ⟨P, 2, none⟩) HPl.out).trans x2; have z3 := (hb1.cell (p := ⟨g, k, none⟩) Hg.out).trans y0; have z4 := (hb1.cell (p := ⟨b, off + k * 2, none⟩) Hb.out).trans e0; have z5 := (hb1.cell (p := ⟨b, off + k * 2 + 1, none⟩) Hb.out).trans e1; clear hb1))
              | (go_at_call 24; ((with_reducible refine (entering_any _ _ _ _ _).mono ?_); rintro e w2 ⟨rfl, hb2⟩; have hb2 := HB1.out.trans (hb2.mono HB1.out.size); have HB2 := Lib.hid hb2; have r0 := (hb2.cell (p := ⟨P, 0, none⟩) HPl.out).trans x0; have r1 := (hb2.cell (p := ⟨P, 1, none⟩) HPl.out).trans x1; have r2 := (hb2.cell (p := ⟨P, 2, none⟩) HPl.out).trans x2; have r3 := (hb2.cell (p := ⟨g, k, none⟩) Hg.out).trans y0; have r4 := (hb2.cell (p := ⟨b, off + k * 2, none⟩) Hb.out).trans e0; have r5 := (hb2.cell (p := ⟨b, off + k * 2 + 1, none⟩) Hb.out).trans e1; clear hb2)))
          all_goals (go_wp2_with fail; go_meet; exact ⟨by rw [HQ2.out], HP.out.keep HB2.out⟩)
        · have g3 := beq_no h3
          have HQ2 := Lib.hid (show q = false by
            have e1 : es.getD ((k : Nat) : Int).toNat 0 = x := HX.out.symm
            rw [HQ1.out, e1, g3]; simp)
          clear h3
          go_quiet (fail)
          go_wp2
          go_meet
          exact ⟨by rw [HQ2.out], HP.out.drewN _⟩
      · have HQ2 := Lib.hid (show q = false by rw [HQ1.out]; simp [h2])
        have d2 : decide (0 ≤ tk) = false := by simpa using h2
        clear h2
        go_quiet (fail)
        go_wp2
        go_meet
        exact ⟨by rw [HQ2.out], HP.out.drewN _⟩
  case rest =>
    obtain ⟨rfl, hp⟩ := hcut
    obtain ⟨x0, x1, x2, x3⟩ := hp.cells
    obtain ⟨f0, f1, f2, f3⟩ := hp.free
    have HP1 := Lib.hid hp
    clear hp
    cases q
    · have HC1 := Lib.hid (show cs = { each := es, take := tk, start := st, rel := rl ++ relTo es ks n } by rw [HC.out, if_neg (by simp)]; show PlanS.mk _ _ _ _ = _; rw [HZ.out.1.1])
      clear x0 x1 x2 x3 f0 f1 f2 f3 HC HQ
      have HR := Lib.hid (show rl = [] from HZ.out.2.2)
      go_wp2_with fail
      go_loopw [44] (fun i wr => ∃ k : Nat, k ≤ n ∧ i = .int .i64 k ∧ ∃ vR', Pn 30 w wr P vE vR' ⟨es, tk, st, rl ++ relTo es ks k⟩) (fun i _ => n - (intOf i).toNat)
      case atStart => exact ⟨0, Nat.zero_le _, rfl, vR, by simpa [relTo] using HP1.out⟩
      case round =>
        obtain ⟨k, hk, rfl, vS, hp⟩ := hrel
        by_cases hlt : k < n
        · obtain ⟨b, off, rfl, hbB, e0, e1⟩ := HZ.out.1.2 k hlt
          replace e0 := (hp.below.cell (p := ⟨b, off + k * 2, none⟩) hbB).trans e0
          replace e1 := (hp.below.cell (p := ⟨b, off + k * 2 + 1, none⟩) hbB).trans e1
          obtain ⟨s, t, hst⟩ : ∃ s t, ks.getD k kid0 = (s, t) := ⟨_, _, rfl⟩
          rw [hst] at e0 e1
          simp only [k0, k1] at e0 e1
          have i1 : (0 : Int) ≤ (k : Int) := by omega
          have i2 : (k : Int) < (n : Int) := by omega
          have hpa := hp.alloc (.cells #[.string s, .int .i64 t] 47)
          obtain ⟨x0, x1, x2, x3⟩ := hpa.cells
          obtain ⟨f0, f1, f2, f3⟩ := hpa.free
          obtain ⟨g, cE, hv, y0, y1⟩ := hpa.eachAt k (by have := HZ.out.2.1; simp only at this ⊢; omega)
          have hv' : vE = .slice (some ⟨g, 0, none⟩) n cE := by rw [hv]; have := HZ.out.2.1; exact congrArg (fun m => Value.slice (some ⟨g, 0, none⟩) m cE) this
          rw [hv'] at x0
          obtain ⟨x, hx⟩ : ∃ x, x = es.getD k 0 := ⟨_, rfl⟩
          replace y0 : (wr.alloc (.cells #[.string s, .int .i64 t] 47)).cell? ⟨g, k, none⟩ = some (.int .i64 x) := by rw [hx]; exact y0
          have HS := Lib.hid (relTo_succ es ks k)
          have HK := Lib.hid (show relB es ks k = (x == 2 || (x == 0 && t == 4)) by rw [relB, hst, hx])
          have HL := Lib.hid (show (rl ++ relTo es ks k).length ≤ n by have := relTo_len es ks k; rw [HR.out]; simp; omega)
          have HPa := Lib.hid hpa
          have HP := Lib.hid hp
          clear hst hv hv' hx hpa hp HP1
          by_cases h2 : x = 2
          · subst h2
            have HK1 := Lib.hid (show relB es ks k = true by rw [HK.out]; rfl)
            clear y1
            obtain ⟨l, hl⟩ : ∃ l, l = rl ++ relTo es ks k := ⟨_, rfl⟩
            rw [← hl] at HPa HP HL
            have HE := Lib.hid hl
            clear hl
            have hll := HL.out
            have HPb := Lib.hid (HPa.out.alloc (.cells #[.int .i64 (k : Int)] 3))
            go_wp2_with (first
              | (at_builtin; refine wpList_append_lies _ rfl _ _ _ rfl w.heap.size 3 tr _ 1 8 Try.underlying28 hi hz0 hz1 hz2 rfl (by decide) _ l.length (nums l) rfl HPb.out.r _ 1 1 [.int .i64 (k : Int)] rfl rfl (World.news_of_block (blk_new2 _ _ _ _)) (by intro u hu; simp at hu; subst hu; rfl) (by omega) (by unfold maxLen; omega) (by omega) HPb.out.below.size _ rfl ?_; intro g2 cap2 w2 hown2 hg2 hat2 hlt2; have hbl := HPb.out.blk.grown hg2 (fun e => HPb.out.neR e.symm); have z3 := hbl.cell 3; have z4 := hbl.frozen 3; have HN := Lib.hid (HPb.out.push hown2 hg2 hat2); clear hbl hown2 hg2 hat2 hlt2))
            go_roundw
            case rel => exact ⟨k + 1, by omega, by go_num, _, by rw [HS.out, if_pos HK1.out, ← List.append_assoc, ← HE.out]; exact HN.out⟩
            case measure => simp [intOf]; omega
          · have g2 := beq_no h2
            by_cases h0 : x = 0
            · subst h0
              by_cases h4 : t = 4
              · subst h4
                have HK1 := Lib.hid (show relB es ks k = true by rw [HK.out]; rfl)
                clear y1
                obtain ⟨l, hl⟩ : ∃ l, l = rl ++ relTo es ks k := ⟨_, rfl⟩
                rw [← hl] at HPa HP HL
                have HE := Lib.hid hl
                clear hl
                have hll := HL.out
                have HPb := Lib.hid (HPa.out.alloc (.cells #[.int .i64 (k : Int)] 3))
                go_wp2_with (first
                  | (at_builtin; refine wpList_append_lies _ rfl _ _ _ rfl w.heap.size 3 tr _ 1 8 Try.underlying28 hi hz0 hz1 hz2 rfl (by decide) _ l.length (nums l) rfl HPb.out.r _ 1 1 [.int .i64 (k : Int)] rfl rfl (World.news_of_block (blk_new2 _ _ _ _)) (by intro u hu; simp at hu; subst hu; rfl) (by omega) (by unfold maxLen; omega) (by omega) HPb.out.below.size _ rfl ?_; intro g2 cap2 w2 hown2 hg2 hat2 hlt2; have hbl := HPb.out.blk.grown hg2 (fun e => HPb.out.neR e.symm); have z3 := hbl.cell 3; have z4 := hbl.frozen 3; have HN := Lib.hid (HPb.out.push hown2 hg2 hat2); clear hbl hown2 hg2 hat2 hlt2))
                go_roundw
                case rel => exact ⟨k + 1, by omega, by go_num, _, by rw [HS.out, if_pos HK1.out, ← List.append_assoc, ← HE.out]; exact HN.out⟩
                case measure => simp [intOf]; omega
              · have g4 := beq_no h4
                have HK1 := Lib.hid (show relB es ks k = false by rw [HK.out, g4]; rfl)
                clear h2 h4
                go_wp2
                go_roundw
                case rel => exact ⟨k + 1, by omega, by go_num, vS, by rw [HS.out, HK1.out]; exact HPa.out⟩
                case measure => simp [intOf]; omega
            · have g0 := beq_no h0
              have HK1 := Lib.hid (show relB es ks k = false by rw [HK.out, g2, g0]; rfl)
              clear h2 h0
              go_wp2
              go_roundw
              case rel => exact ⟨k + 1, by omega, by go_num, vS, by rw [HS.out, HK1.out]; exact HPa.out⟩
              case measure => simp [intOf]; omega
        · obtain rfl : k = n := by omega
          have HP := Lib.hid hp
          clear hp
          go_wp2
          go_end0
          exact ⟨rfl, vS, by rw [HC1.out]; exact HP.out⟩
    · go_wp2
      exact bodyPost_ret (v := .tuple #[]) (by simp [results, Try.results21, go_sem]) rfl ⟨rfl, vR, by rw [HC.out]; exact HP1.out⟩

end Go.Proofs.Ytkiaaaehakjhjaa
