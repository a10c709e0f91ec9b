/-
  SlotOrder: OUT-IN: nobody enters as long as another one leaves; IN-OUT: nobody is to leave by a new one. For every input; no condition.
-/
import Derived.Test.YtkiaaaehakjhjaaSlotLaw3
import Derived.Test.YtkiaaaehakjhjaaSlotAwake
import Derived.Test.YtkiaaaehakjhjaaSlotOpen
import Derived.ChangeMaps5
import Derived.Deep.RegionHeld3
import Derived.Deep.RegionWith
import Derived.BigRegion
import Derived.BigQuiet
import Derived.Deep.QuietTactic
import Derived.Deep.DrawnRows
namespace Go.Proofs.Ytkiaaaehakjhjaa
open Go.ChangeShapes Go.WideShapes Go.ChangeAt Go.RowKit
attribute [local go_sem ↓] Go.wp_at_zero Go.wp_at_succ

set_option maxRecDepth 100000 in
set_option maxHeartbeats 16000000 in
theorem slotOrder_walk (A : Option Addr) (n c : Nat) (ks : List Kid) (key : ByteArray) (mode : Int) (w : World) (hz : Kids w w.heap.size A n ks) :
    Calls Try.prog 4 #[.slice A n c, .string key, .int .i64 mode] w fun e w' => e = .returned (.bool true) ∧ Below w.heap.size w w' := by
  have HZ := Lib.hid hz
  clear hz
  go_enter Try.func4, Try.ntmps4
  go_wp2_with fail
  refine (awake_any _).mono ?_
  rintro e w1 ⟨rfl, hb1⟩
  have HB1 := Lib.hid hb1
  clear hb1
  obtain ⟨ls, hls⟩ : ∃ ls, ls = cutK 15 ks := ⟨_, rfl⟩
  obtain ⟨m, hm⟩ : ∃ m, m = ls.length := ⟨_, rfl⟩
  have hm15 : m ≤ 15 := by rw [hm, hls, cutK_len]; omega
  have HL := Lib.hid hls
  have HM := Lib.hid hm
  clear hls hm
  go_wp2_with fail
  refine (own_any A n c ks _ ((HZ.out.below HB1.out).more HB1.out.size)).mono ?_
  rintro e w2 ⟨A1, c1, A2, c2, he, hO⟩
  rw [← HL.out] at he hO
  have hcap := own_cap hO.b
  rw [← HM.out] at hcap
  obtain ⟨z1, z2⟩ := own_kids hO
  have HO := Lib.hid (And.intro z1 (And.intro z2 (HB1.out.trans (hO.below.mono HB1.out.size))))
  rw [← HM.out] at he HO
  subst he
  clear hO z1 z2 HB1
  go_wp2_with (first | (go_at_call 9; ((with_reducible refine (cut_any _ _).mono ?_); rintro e w' ⟨rfl, rfl⟩)))
  obtain ⟨kc, hkc⟩ : ∃ kc, kc = cut20 key := ⟨_, rfl⟩
  rw [← hkc]
  clear hkc
  go_wp2_with fail
  refine (of_any _ A1 m c1 ls kc mode HO.out.1 hm15).mono ?_
  obtain ⟨p, hp⟩ : ∃ p, p = ofS ls kc mode := ⟨_, rfl⟩
  rw [← hp]
  rintro e w3 ⟨A3, c3, A4, c4, rfl, ho3, ho4, hb3⟩
  have hpl : p.each.length = m := by rw [hp, of_len, HM.out]
  have hrl : p.rel.length ≤ m := by rw [hp, HM.out]; exact of_rel_len ls kc mode
  have HPF := Lib.hid (And.intro hpl (And.intro hrl (show p.start = 0 ∨ p.start = 1 ∨ p.start = 2 by rw [hp]; exact start_012 ls kc mode)))
  have HP := Lib.hid hp
  have H3 := Lib.hid (And.intro (Nums.of_own ho3 rfl) (And.intro (Nums.of_own ho4 rfl) hb3))
  obtain ⟨rl, hrl'⟩ : ∃ rl, rl = p.rel.length := ⟨_, rfl⟩
  rw [hpl] at H3 ⊢
  rw [← hrl'] at H3 ⊢ hrl
  clear hp ho3 ho4 hb3 hpl hrl'
  go_upto_region 6 with fail
  have q1 := Blk.new w3 30 #[.slice A3 m c3, .int .i64 p.take, .int .i64 p.start, .slice A4 rl c4]
  have hb5 := (Below.refl w3.heap.size w3).alloc (Nat.le_refl _) (.cells #[.slice A3 m c3, .int .i64 p.take, .int .i64 p.start, .slice A4 rl c4] 30)
  obtain ⟨wn, hwn⟩ : ∃ wn, wn = w3.alloc (.cells #[.slice A3 m c3, .int .i64 p.take, .int .i64 p.start, .slice A4 rl c4] 30) := ⟨_, rfl⟩
  obtain ⟨P, hP⟩ : ∃ P, P = w3.heap.size := ⟨_, rfl⟩
  rw [← hwn] at q1 hb5 ⊢
  rw [← hP] at q1 ⊢
  have hbn := H3.out.2.2.trans (hb5.mono H3.out.2.2.size)
  have HN := Lib.hid (And.intro q1 (And.intro ((H3.out.1.below hb5).more hb5.size) (And.intro ((H3.out.2.1.below hb5).more hb5.size) (And.intro (HO.out.2.1.keep hbn) (HO.out.2.2.trans (hbn.mono HO.out.2.2.size))))))
  clear hwn hP q1 hb5 hbn HO H3
  have x0 : wn.cell? ⟨P, 0, none⟩ = some (.slice A3 m c3) := HN.out.1.cell 0
  have x1 : wn.cell? ⟨P, 1, none⟩ = some (.int .i64 p.take) := HN.out.1.cell 1
  have x2 : wn.cell? ⟨P, 2, none⟩ = some (.int .i64 p.start) := HN.out.1.cell 2
  have x3 : wn.cell? ⟨P, 3, none⟩ = some (.slice A4 rl c4) := HN.out.1.cell 3
  go_wp2_with fail
  refine (after_any A2 A3 A4 m c2 c3 rl c4 ls kc p _ HN.out.2.2.2.1 HN.out.2.1 HN.out.2.2.1 hm15 (by omega) HPF.out.2.2).mono ?_
  rintro e w4 ⟨A5, c5, rfl, ho5, hb5⟩
  obtain ⟨y, hy⟩ : ∃ y, y = afterS ls kc p := ⟨_, rfl⟩
  rw [← hy] at ho5 ⊢
  obtain ⟨my, hmy⟩ : ∃ my, my = y.length := ⟨_, rfl⟩
  have hcy := own_cap ho5
  have hy5 := Kids.of_own ho5 rfl
  rw [← hmy] at hcy hy5 ⊢
  have hmy16 : my ≤ 16 := by
    rw [hmy, hy, afterS]
    have := afterTo_len ls p ls.length
    have := HM.out
    split
    · rw [List.length_append]; simp; omega
    · omega
  have HY := Lib.hid (And.intro hy hmy)
  have H4 := Lib.hid (And.intro (HN.out.1.below hb5 HN.out.1.lt) (And.intro (HN.out.2.2.2.1.keep hb5) (And.intro hy5 (HN.out.2.2.2.2.trans (hb5.mono HN.out.2.2.2.2.size)))))
  clear hy hmy ho5 hy5 hb5 x0 x1 x2 x3 HN
  have x2 : w4.cell? ⟨P, 2, none⟩ = some (.int .i64 p.start) := H4.out.1.cell 2
  go_wp2_with fail
  refine (right_any A2 m c2 ls _ H4.out.2.1 hcap.1 (by omega)).mono ?_
  obtain ⟨r, hr⟩ : ∃ r, r = rightS ls := ⟨_, rfl⟩
  rw [← hr]
  have HR := Lib.hid hr
  clear hr
  rintro e w5 ⟨rfl, hb5⟩
  replace x2 : w5.cell? ⟨P, 2, none⟩ = some (.int .i64 p.start) := (hb5.cell (p := ⟨P, 2, none⟩) H4.out.1.lt).trans x2
  have H5 := Lib.hid (And.intro (H4.out.1.below hb5 H4.out.1.lt) (And.intro (H4.out.2.1.keep hb5) (And.intro (H4.out.2.2.1.keep hb5) (H4.out.2.2.2.trans (hb5.mono H4.out.2.2.2.size)))))
  clear hb5 H4
  cases r
  · by_cases h0 : p.start = 0
    · have g0 : (p.start == 0) = true := by simpa using h0
      obtain ⟨st, hst⟩ : ∃ st, st = p.start := ⟨_, rfl⟩
      rw [← hst] at x2 h0
      clear g0 hst
      subst h0
      go_wp2
      go_ret
      exact ⟨rfl, H5.out.2.2.2⟩
    · have hmo : more kc = true := start_more (by rw [← HP.out]; exact h0)
      rw [more] at hmo
      have hk' : key.toList.isEmpty = key.toList.isEmpty := rfl
      have hk : ¬ kc.toList = [] := by simpa using hmo
      have g0 := beq_no h0
      clear hmo hk' h0
      go_wp2
      go_ret
      exact ⟨by simp [hk], H5.out.2.2.2⟩
  · have HRX := Lib.hid ((right_iff ls).1 HR.out.symm)
    have HO1 := Lib.hid (show Of1 kc y by rw [HY.out.1, HP.out]; exact of_of1 HRX.out)
    have HRY := Lib.hid ((right_iff y).2 HO1.out.right)
    go_wp2_with fail
    refine (right_any A5 my c5 y _ H5.out.2.2.1 hcy.1 (by omega)).mono ?_
    rintro e w6 ⟨he, hb6⟩
    obtain rfl : e = .returned (.bool true) := by rw [he, HRY.out]
    replace x2 : w6.cell? ⟨P, 2, none⟩ = some (.int .i64 p.start) := (hb6.cell (p := ⟨P, 2, none⟩) H5.out.1.lt).trans x2
    have H6 := Lib.hid (And.intro (H5.out.1.below hb6 H5.out.1.lt) (And.intro (H5.out.2.1.keep hb6) (And.intro (H5.out.2.2.1.keep hb6) (H5.out.2.2.2.trans (hb6.mono H5.out.2.2.2.size)))))
    clear hb6 H5 he
    go_wp2_with fail
    refine (rcur_any A5 my c5 y _ H6.out.2.2.1 (by unfold maxLen; omega)).mono ?_
    obtain ⟨cy, hcy'⟩ : ∃ cy, cy = cur y := ⟨_, rfl⟩
    rw [← hcy']
    have HCY := Lib.hid hcy'
    clear hcy'
    rintro e w7 ⟨rfl, hb7⟩
    replace x2 : w7.cell? ⟨P, 2, none⟩ = some (.int .i64 p.start) := (hb7.cell (p := ⟨P, 2, none⟩) H6.out.1.lt).trans x2
    have H7 := Lib.hid (And.intro (H6.out.1.below hb7 H6.out.1.lt) (And.intro (H6.out.2.1.keep hb7) (And.intro (H6.out.2.2.1.keep hb7) (H6.out.2.2.2.trans (hb7.mono H6.out.2.2.2.size)))))
    clear hb7 H6
    go_upto_region 14 with fail
    go_cut [69] (fun s wx => s = .bool false ∧ wx = w7)
    case first =>
      rcases HO1.out.cur with ⟨hmo, i, hi, hci, hke⟩ | ⟨hmo, hci⟩
      · obtain rfl : cy = (i : Int) := HCY.out.trans hci
        obtain ⟨b, off, rfl, hbB, e0, e1⟩ := H7.out.2.2.1.2 i (by have := HY.out.2; omega)
        obtain ⟨s, t, hst⟩ : ∃ s t, y.getD i kid0 = (s, t) := ⟨_, _, rfl⟩
        rw [hst] at e0 e1 hke
        simp only [k0, k1] at e0 e1 hke
        have i1 : (0 : Int) ≤ (i : Int) := by omega
        have i2 : (i : Int) < (my : Int) := by have := HY.out.2; omega
        have hk : ¬ kc.toList = [] := by simpa [more] using hmo
        have hk' : kc.toList.isEmpty = false := by simpa using hk
        have hs' : (s.toList == kc.toList) = true := by simpa using hke
        clear hst hci hmo hke
        go_wp2
        go_meet
        exact ⟨by first | rfl | simp, rfl⟩
      · have hk : kc.toList = [] := by simpa [more] using hmo
        obtain rfl : cy = -2 := HCY.out.trans hci
        clear hmo hci
        go_wp2
        go_meet
        exact ⟨by simp, rfl⟩
    case rest =>
      obtain ⟨rfl, hw⟩ := hcut
      subst hw
      obtain ⟨st, hst⟩ : ∃ st, st = p.start := ⟨_, rfl⟩
      rw [← hst] at x2
      have HST := Lib.hid hst
      clear hst
      obtain ⟨wo, rfl⟩ : ∃ wo : World, wo = wc := ⟨_, rfl⟩
      go_wp2_with fail
      go_loopw [72] (fun i wr => ∃ k : Nat, k ≤ my ∧ i = .int .i64 k ∧ Below wo.heap.size wo wr) (fun i _ => my - (intOf i).toNat)
      case atStart => exact ⟨0, Nat.zero_le _, rfl, Below.refl _ _⟩
      case round =>
        obtain ⟨k, hk, rfl, hb⟩ := hrel
        by_cases hlt : k < my
        · obtain ⟨b, off, rfl, hbB, e0, e1⟩ := H7.out.2.2.1.2 k hlt
          replace e0 := (hb.cell (p := ⟨b, off + k * 2, none⟩) hbB).trans e0
          replace e1 := (hb.cell (p := ⟨b, off + k * 2 + 1, none⟩) hbB).trans e1
          obtain ⟨s, t, hst⟩ : ∃ s t, y.getD k kid0 = (s, t) := ⟨_, _, rfl⟩
          rw [hst] at e0 e1
          simp only [k0, k1] at e0 e1
          have i1 : (0 : Int) ≤ (k : Int) := by omega
          have i2 : (k : Int) < (my : Int) := by omega
          have HS := Lib.hid hst
          have hba := hb.alloc hb.size (.cells #[.string s, .int .i64 t] 41)
          have hbl := Blk.new wr 41 #[.string s, .int .i64 t]
          obtain ⟨wa, hwa⟩ : ∃ wa, wa = wr.alloc (.cells #[.string s, .int .i64 t] 41) := ⟨_, rfl⟩
          obtain ⟨B, hB⟩ : ∃ B, B = wr.heap.size := ⟨_, rfl⟩
          clear hst hb
          go_upto_region 19 with fail
          rw [← hwa] at hba hbl ⊢
          rw [← hB] at hbl ⊢
          clear hwa hB e0 e1 x2
          have x2 : wa.cell? ⟨P, 2, none⟩ = some (.int .i64 st) := by rw [HST.out]; exact (H7.out.1.below hba H7.out.1.lt).cell 2
          have y0 : wa.cell? ⟨B, 0, none⟩ = some (.string s) := hbl.cell 0
          have y1 : wa.cell? ⟨B, 1, none⟩ = some (.int .i64 t) := hbl.cell 1
          have HA := Lib.hid (And.intro hba hbl)
          clear hba hbl
          go_cut [100] (fun s wx => s = .bool false ∧ wx = wa)
          case first =>
            by_cases hm1 : mode = 1
            · subst hm1
              rcases HO1.out.cur with ⟨hmo, i, hi, hci, hke⟩ | ⟨hmo, hci⟩
              · obtain rfl : cy = (i : Int) := HCY.out.trans hci
                obtain ⟨b', off', hA', hbB', e0, e1⟩ := H7.out.2.2.1.2 i (by have := HY.out.2; omega)
                injection hA' with hA'
                injection hA' with hA' hA''
                subst hA' hA''
                replace e1 := (HA.out.1.cell (p := ⟨b, off + i * 2 + 1, none⟩) hbB').trans e1
                obtain ⟨s', t', hst'⟩ : ∃ s t, y.getD i kid0 = (s, t) := ⟨_, _, rfl⟩
                rw [hst'] at e1
                simp only [k1] at e1
                have j1 : (0 : Int) ≤ (i : Int) := by omega
                have j2 : (i : Int) < (my : Int) := by have := HY.out.2; omega
                clear hmo hci hke hst' e0
                by_cases ht : t' = 2
                · subst ht
                  by_cases hs1 : st = 1
                  · subst hs1
                    have hln : y.length ≤ 1 := by
                      rw [HY.out.1, HP.out]
                      exact order1 HRX.out (by rw [← HP.out]; exact HST.out.symm)
                    have hki : k = i := by have := HY.out.2; omega
                    have hki' : (k : Int) = (i : Int) := by omega
                    clear hln
                    subst hki
                    go_wp2
                    go_meet
                    exact ⟨by simp, rfl⟩
                  · have gs := beq_no hs1
                    clear hs1
                    go_wp2
                    go_meet
                    exact ⟨rfl, rfl⟩
                · have gt := beq_no ht
                  clear ht
                  go_wp2
                  go_meet
                  exact ⟨rfl, rfl⟩
              · obtain rfl : cy = -2 := HCY.out.trans hci
                clear hmo hci
                go_wp2
                go_meet
                exact ⟨rfl, rfl⟩
            · have gm := beq_no hm1
              clear hm1
              go_wp2
              go_meet
              exact ⟨rfl, rfl⟩
          case rest =>
            obtain ⟨rfl, hw⟩ := hcut
            subst hw
            obtain ⟨wb, hwb⟩ : ∃ wb, wb = wc := ⟨_, rfl⟩
            rw [← hwb] at HA x2 y0 y1 ⊢
            clear hwb
            go_upto_region 21 with fail
            go_cut [134] (fun s wx => s = .bool false ∧ Below wo.heap.size wo wx)
            case first =>
              by_cases hm2 : mode = 2
              · subst hm2
                by_cases hs1 : st = 1
                · subst hs1
                  by_cases h5 : t = 5
                  · subst h5
                    by_cases hkm : k < m
                    · have hkm' : (k : Int) < (m : Int) := by omega
                      obtain ⟨cu, hcu⟩ : ∃ cu, cu = cur ls := ⟨_, rfl⟩
                      have HCU := Lib.hid hcu
                      have HPl := Lib.hid (World.block_lt_of_cell? wb _ x2)
                      have HBl := Lib.hid (World.block_lt_of_cell? wb _ y0)
                      rcases cur_cases ls with hcn | ⟨j, hj, hcj, _⟩
                      · obtain rfl : cu = -2 := hcu.trans hcn
                        clear hcu hcn
                        refine wp_region_held_drew (S := fun w' => w'.cell? ⟨P, 2, none⟩ = some (.int .i64 1) ∧ w'.cell? ⟨B, 0, none⟩ = some (.string s) ∧ w'.cell? ⟨B, 1, none⟩ = some (.int .i64 5)) (by kernel_rfl) ⟨x2, y0, y1⟩ (fun hHeld => ?_)
                        refine wpAnyH_take (i := 0) (oi := { dst := some 101, op := Op.move (Operand.tmp 2), type := 3, pos := "law.go:128", after := #[], guard := none }) (v := .int .i64 2) rfl (by kernel_rfl) (by kernel_rfl) (by kernel_rfl) (fun _ _ _ h => h) (Or.inl ⟨by rfl, by intro w hSw; (try dsimp only at hSw); go_simp⟩) hHeld ?_
                        simp only [Act.put, List.setIfInBounds_toArray, List.set_cons_zero, List.set_cons_succ]
                        refine wpAnyH_take (i := 1) (oi := { dst := some 102, op := Op.binOp BinOp.eql 3 (Operand.tmp 101) (Operand.const (Value.int IntKind.i64 2)) 3, type := 4, pos := "law.go:128", after := #[{ on := 0, ground := Ground.data }], guard := none }) (v := .bool true) rfl (by kernel_rfl) (by kernel_rfl) (by kernel_rfl) (fun _ _ _ h => h) (Or.inl ⟨by rfl, by intro w hSw; (try dsimp only at hSw); go_simp⟩) hHeld ?_
                        simp only [Act.put, List.setIfInBounds_toArray, List.set_cons_zero, List.set_cons_succ]
                        refine wpAnyH_take (i := 2) (oi := { dst := some 103, op := Op.move (Operand.tmp 102), type := 4, pos := "law.go:128", after := #[{ on := 1, ground := Ground.data }], guard := none }) (v := .bool true) rfl (by kernel_rfl) (by kernel_rfl) (by kernel_rfl) (fun _ _ _ h => h) (Or.inl ⟨by rfl, by intro w hSw; (try dsimp only at hSw); go_simp⟩) hHeld ?_
                        simp only [Act.put, List.setIfInBounds_toArray, List.set_cons_zero, List.set_cons_succ]
                        refine wpAnyH_take (i := 3) (oi := { dst := some 104, op := Op.fieldAddr 30 (Operand.tmp 9) 2, type := 0, pos := "law.go:128", after := #[{ on := 2, ground := Ground.guard }], guard := some (2, true) }) (v := .pointer (some ⟨P, 2, none⟩)) rfl (by kernel_rfl) (by kernel_rfl) (by kernel_rfl) (fun _ _ _ h => h) (Or.inl ⟨by rfl, by intro w hSw; (try dsimp only at hSw); go_simp⟩) hHeld ?_
                        simp only [Act.put, List.setIfInBounds_toArray, List.set_cons_zero, List.set_cons_succ]
                        refine wpAnyH_take (i := 4) (oi := { dst := some 105, op := Op.load 3 (Operand.tmp 104), type := 3, pos := "law.go:128", after := #[{ on := 3, ground := Ground.data }, { on := 2, ground := Ground.guard }], guard := some (2, true) }) (v := .int .i64 1) rfl (by kernel_rfl) (by kernel_rfl) (by kernel_rfl) (fun _ _ _ h => h) (Or.inl ⟨by rfl, by intro w hSw; (try dsimp only at hSw); go_simp⟩) hHeld ?_
                        simp only [Act.put, List.setIfInBounds_toArray, List.set_cons_zero, List.set_cons_succ]
                        refine wpAnyH_take (i := 5) (oi := { dst := some 106, op := Op.binOp BinOp.eql 3 (Operand.tmp 105) (Operand.const (Value.int IntKind.i64 1)) 3, type := 4, pos := "law.go:128", after := #[{ on := 4, ground := Ground.data }, { on := 2, ground := Ground.guard }], guard := some (2, true) }) (v := .bool true) rfl (by kernel_rfl) (by kernel_rfl) (by kernel_rfl) (fun _ _ _ h => h) (Or.inl ⟨by rfl, by intro w hSw; (try dsimp only at hSw); go_simp⟩) hHeld ?_
                        simp only [Act.put, List.setIfInBounds_toArray, List.set_cons_zero, List.set_cons_succ]
                        refine wpAnyH_take (i := 6) (oi := { dst := some 107, op := Op.pick (Operand.tmp 103) (Operand.tmp 106) (Operand.const (Value.bool false)), type := 4, pos := "law.go:128", after := #[{ on := 2, ground := Ground.data }, { on := 5, ground := Ground.data }], guard := none }) (v := .bool true) rfl (by kernel_rfl) (by kernel_rfl) (by kernel_rfl) (fun _ _ _ h => h) (Or.inl ⟨by rfl, by intro w hSw; (try dsimp only at hSw); go_simp⟩) hHeld ?_
                        simp only [Act.put, List.setIfInBounds_toArray, List.set_cons_zero, List.set_cons_succ]
                        refine wpAnyH_take (i := 7) (oi := { dst := some 108, op := Op.move (Operand.tmp 107), type := 4, pos := "law.go:128", after := #[{ on := 6, ground := Ground.data }, { on := 2, ground := Ground.chain }], guard := none }) (v := .bool true) rfl (by kernel_rfl) (by kernel_rfl) (by kernel_rfl) (fun _ _ _ h => h) (Or.inl ⟨by rfl, by intro w hSw; (try dsimp only at hSw); go_simp⟩) hHeld ?_
                        simp only [Act.put, List.setIfInBounds_toArray, List.set_cons_zero, List.set_cons_succ]
                        refine wpAnyH_take (i := 8) (oi := { dst := some 109, op := Op.fieldAddr 41 (Operand.tmp 14) 1, type := 0, pos := "law.go:128", after := #[{ on := 7, ground := Ground.guard }], guard := some (7, true) }) (v := .pointer (some ⟨B, 1, none⟩)) rfl (by kernel_rfl) (by kernel_rfl) (by kernel_rfl) (fun _ _ _ h => h) (Or.inl ⟨by rfl, by intro w hSw; (try dsimp only at hSw); go_simp⟩) hHeld ?_
                        simp only [Act.put, List.setIfInBounds_toArray, List.set_cons_zero, List.set_cons_succ]
                        refine wpAnyH_take (i := 9) (oi := { dst := some 110, op := Op.load 3 (Operand.tmp 109), type := 3, pos := "law.go:128", after := #[{ on := 8, ground := Ground.data }, { on := 7, ground := Ground.guard }], guard := some (7, true) }) (v := .int .i64 5) rfl (by kernel_rfl) (by kernel_rfl) (by kernel_rfl) (fun _ _ _ h => h) (Or.inl ⟨by rfl, by intro w hSw; (try dsimp only at hSw); go_simp⟩) hHeld ?_
                        simp only [Act.put, List.setIfInBounds_toArray, List.set_cons_zero, List.set_cons_succ]
                        refine wpAnyH_take (i := 10) (oi := { dst := some 111, op := Op.binOp BinOp.eql 3 (Operand.tmp 110) (Operand.const (Value.int IntKind.i64 5)) 3, type := 4, pos := "law.go:128", after := #[{ on := 9, ground := Ground.data }, { on := 7, ground := Ground.guard }], guard := some (7, true) }) (v := .bool true) rfl (by kernel_rfl) (by kernel_rfl) (by kernel_rfl) (fun _ _ _ h => h) (Or.inl ⟨by rfl, by intro w hSw; (try dsimp only at hSw); go_simp⟩) hHeld ?_
                        simp only [Act.put, List.setIfInBounds_toArray, List.set_cons_zero, List.set_cons_succ]
                        refine wpAnyH_take (i := 11) (oi := { dst := some 112, op := Op.pick (Operand.tmp 108) (Operand.tmp 111) (Operand.const (Value.bool false)), type := 4, pos := "law.go:128", after := #[{ on := 7, ground := Ground.data }, { on := 10, ground := Ground.data }], guard := none }) (v := .bool true) rfl (by kernel_rfl) (by kernel_rfl) (by kernel_rfl) (fun _ _ _ h => h) (Or.inl ⟨by rfl, by intro w hSw; (try dsimp only at hSw); go_simp⟩) hHeld ?_
                        simp only [Act.put, List.setIfInBounds_toArray, List.set_cons_zero, List.set_cons_succ]
                        refine wpAnyH_take (i := 12) (oi := { dst := some 113, op := Op.move (Operand.tmp 112), type := 4, pos := "law.go:128", after := #[{ on := 11, ground := Ground.data }, { on := 7, ground := Ground.chain }], guard := none }) (v := .bool true) rfl (by kernel_rfl) (by kernel_rfl) (by kernel_rfl) (fun _ _ _ h => h) (Or.inl ⟨by rfl, by intro w hSw; (try dsimp only at hSw); go_simp⟩) hHeld ?_
                        simp only [Act.put, List.setIfInBounds_toArray, List.set_cons_zero, List.set_cons_succ]
                        refine wpAnyH_take (i := 13) (oi := { dst := some 114, op := Op.move (Operand.tmp 13), type := 3, pos := "law.go:128", after := #[{ on := 12, ground := Ground.guard }], guard := some (12, true) }) (v := .int .i64 k) rfl (by kernel_rfl) (by kernel_rfl) (by kernel_rfl) (fun _ _ _ h => h) (Or.inl ⟨by rfl, by intro w hSw; (try dsimp only at hSw); go_simp⟩) hHeld ?_
                        simp only [Act.put, List.setIfInBounds_toArray, List.set_cons_zero, List.set_cons_succ]
                        refine wpAnyH_take (i := 14) (oi := { dst := some 115, op := Op.move (Operand.tmp 8), type := 22, pos := "law.go:128", after := #[{ on := 12, ground := Ground.guard }], guard := some (12, true) }) (v := .slice A2 m c2) rfl (by kernel_rfl) (by kernel_rfl) (by kernel_rfl) (fun _ _ _ h => h) (Or.inl ⟨by rfl, by intro w hSw; (try dsimp only at hSw); go_simp⟩) hHeld ?_
                        simp only [Act.put, List.setIfInBounds_toArray, List.set_cons_zero, List.set_cons_succ]
                        refine wpAnyH_take (i := 15) (oi := { dst := some 116, op := Op.call { callee := Callee.builtin Builtin.len, args := #[Operand.tmp 115], argTypes := #[22] }, type := 3, pos := "law.go:128", after := #[{ on := 14, ground := Ground.data }, { on := 12, ground := Ground.guard }], guard := some (12, true) }) (v := .int .i64 m) rfl (by kernel_rfl) (by kernel_rfl) (by kernel_rfl) (fun _ _ _ h => h) (Or.inl ⟨by rfl, by intro w hSw; (try dsimp only at hSw); go_simp⟩) hHeld ?_
                        simp only [Act.put, List.setIfInBounds_toArray, List.set_cons_zero, List.set_cons_succ]
                        refine wpAnyH_take (i := 16) (oi := { dst := some 117, op := Op.binOp BinOp.lss 3 (Operand.tmp 114) (Operand.tmp 116) 3, type := 4, pos := "law.go:128", after := #[{ on := 13, ground := Ground.data }, { on := 15, ground := Ground.data }, { on := 12, ground := Ground.guard }], guard := some (12, true) }) (v := .bool true) rfl (by kernel_rfl) (by kernel_rfl) (by kernel_rfl) (fun _ _ _ h => h) (Or.inl ⟨by rfl, by intro w hSw; (try dsimp only at hSw); go_simp⟩) hHeld ?_
                        simp only [Act.put, List.setIfInBounds_toArray, List.set_cons_zero, List.set_cons_succ]
                        refine wpAnyH_take (i := 17) (oi := { dst := some 118, op := Op.pick (Operand.tmp 113) (Operand.tmp 117) (Operand.const (Value.bool false)), type := 4, pos := "law.go:128", after := #[{ on := 12, ground := Ground.data }, { on := 16, ground := Ground.data }], guard := none }) (v := .bool true) rfl (by kernel_rfl) (by kernel_rfl) (by kernel_rfl) (fun _ _ _ h => h) (Or.inl ⟨by rfl, by intro w hSw; (try dsimp only at hSw); go_simp⟩) hHeld ?_
                        simp only [Act.put, List.setIfInBounds_toArray, List.set_cons_zero, List.set_cons_succ]
                        refine wpAnyH_take (i := 18) (oi := { dst := some 119, op := Op.move (Operand.tmp 118), type := 4, pos := "law.go:128", after := #[{ on := 17, ground := Ground.data }, { on := 12, ground := Ground.chain }], guard := none }) (v := .bool true) rfl (by kernel_rfl) (by kernel_rfl) (by kernel_rfl) (fun _ _ _ h => h) (Or.inl ⟨by rfl, by intro w hSw; (try dsimp only at hSw); go_simp⟩) hHeld ?_
                        simp only [Act.put, List.setIfInBounds_toArray, List.set_cons_zero, List.set_cons_succ]
                        refine wpAnyH_take (i := 19) (oi := { dst := some 120, op := Op.move (Operand.tmp 8), type := 22, pos := "law.go:128", after := #[{ on := 18, ground := Ground.guard }], guard := some (18, true) }) (v := .slice A2 m c2) rfl (by kernel_rfl) (by kernel_rfl) (by kernel_rfl) (fun _ _ _ h => h) (Or.inl ⟨by rfl, by intro w hSw; (try dsimp only at hSw); go_simp⟩) hHeld ?_
                        simp only [Act.put, List.setIfInBounds_toArray, List.set_cons_zero, List.set_cons_succ]
                        refine wpAnyH_ready (rs := [20]) (by kernel_rfl) (by simp) ?_
                        refine AllReadyH.cons (o := { dst := some 121, op := Op.call { callee := Callee.value (Operand.func 15), args := #[Operand.tmp 120], argTypes := #[22] }, type := 3, pos := "law.go:128", after := #[{ on := 19, ground := Ground.data }, { on := 18, ground := Ground.chain }, { on := 18, ground := Ground.guard }], guard := some (18, true) }) rfl (fun K hK => ?_) AllReadyH.nil
                        go_simp
                        refine (rcur_any _ _ _ ls _ (H7.out.2.1.keep (below_drewN HA.out.1 1)) (by unfold maxLen; omega)).mono ?_
                        rw [← HCU.out]
                        rintro e w8 ⟨rfl, hb8⟩
                        have hb9 := (below_drewN (Below.refl wb.heap.size wb) 1).trans hb8
                        have HB8 := Lib.hid (HA.out.1.trans (hb9.mono HA.out.1.size))
                        have z0 := (hb9.cell (p := ⟨P, 2, none⟩) HPl.out).trans x2
                        have z1 := (hb9.cell (p := ⟨B, 0, none⟩) HBl.out).trans y0
                        have z2 := (hb9.cell (p := ⟨B, 1, none⟩) HBl.out).trans y1
                        clear hb8 hb9
                        go_wp2_with fail
                        refine hK.out _ _ ⟨z0, z1, z2⟩ (fun hHeld => ?_)
                        clear hK K
                        try simp only [Act.put, List.setIfInBounds_toArray, List.set_cons_zero, List.set_cons_succ]
                        refine wpAnyH_take (i := 21) (oi := { dst := some 122, op := Op.binOp BinOp.geq 3 (Operand.tmp 121) (Operand.const (Value.int IntKind.i64 0)) 3, type := 4, pos := "law.go:128", after := #[{ on := 20, ground := Ground.data }, { on := 18, ground := Ground.guard }], guard := some (18, true) }) (v := .bool false) rfl (by kernel_rfl) (by kernel_rfl) (by kernel_rfl) (fun _ _ _ h => h) (Or.inl ⟨by rfl, by intro w hSw; (try dsimp only at hSw); go_simp⟩) hHeld ?_
                        simp only [Act.put, List.setIfInBounds_toArray, List.set_cons_zero, List.set_cons_succ]
                        refine wpAnyH_take (i := 22) (oi := { dst := some 123, op := Op.pick (Operand.tmp 119) (Operand.tmp 122) (Operand.const (Value.bool false)), type := 4, pos := "law.go:128", after := #[{ on := 18, ground := Ground.data }, { on := 21, ground := Ground.data }], guard := none }) (v := .bool false) rfl (by kernel_rfl) (by kernel_rfl) (by kernel_rfl) (fun _ _ _ h => h) (Or.inl ⟨by rfl, by intro w hSw; (try dsimp only at hSw); go_simp⟩) hHeld ?_
                        simp only [Act.put, List.setIfInBounds_toArray, List.set_cons_zero, List.set_cons_succ]
                        refine wpAnyH_take (i := 23) (oi := { dst := some 124, op := Op.move (Operand.tmp 123), type := 4, pos := "law.go:128", after := #[{ on := 22, ground := Ground.data }, { on := 20, ground := Ground.chain }], guard := none }) (v := .bool false) rfl (by kernel_rfl) (by kernel_rfl) (by kernel_rfl) (fun _ _ _ h => h) (Or.inl ⟨by rfl, by intro w hSw; (try dsimp only at hSw); go_simp⟩) hHeld ?_
                        simp only [Act.put, List.setIfInBounds_toArray, List.set_cons_zero, List.set_cons_succ]
                        refine wpAnyH_take (i := 24) (oi := { dst := some 125, op := Op.fieldAddr 41 (Operand.tmp 14) 0, type := 0, pos := "law.go:128", after := #[{ on := 23, ground := Ground.guard }], guard := some (23, true) }) (v := undef) rfl (by kernel_rfl) (by kernel_rfl) (by kernel_rfl) (fun _ _ _ h => h) (Or.inr ⟨by rfl, rfl⟩) hHeld ?_
                        simp only [Act.put, List.setIfInBounds_toArray, List.set_cons_zero, List.set_cons_succ]
                        refine wpAnyH_take (i := 25) (oi := { dst := some 126, op := Op.load 9 (Operand.tmp 125), type := 9, pos := "law.go:128", after := #[{ on := 24, ground := Ground.data }, { on := 23, ground := Ground.guard }], guard := some (23, true) }) (v := undef) rfl (by kernel_rfl) (by kernel_rfl) (by kernel_rfl) (fun _ _ _ h => h) (Or.inr ⟨by rfl, rfl⟩) hHeld ?_
                        simp only [Act.put, List.setIfInBounds_toArray, List.set_cons_zero, List.set_cons_succ]
                        refine wpAnyH_take (i := 26) (oi := { dst := some 127, op := Op.move (Operand.tmp 8), type := 22, pos := "law.go:128", after := #[{ on := 23, ground := Ground.guard }], guard := some (23, true) }) (v := undef) rfl (by kernel_rfl) (by kernel_rfl) (by kernel_rfl) (fun _ _ _ h => h) (Or.inr ⟨by rfl, rfl⟩) hHeld ?_
                        simp only [Act.put, List.setIfInBounds_toArray, List.set_cons_zero, List.set_cons_succ]
                        refine wpAnyH_take (i := 27) (oi := { dst := some 128, op := Op.move (Operand.tmp 8), type := 22, pos := "law.go:128", after := #[{ on := 23, ground := Ground.guard }], guard := some (23, true) }) (v := undef) rfl (by kernel_rfl) (by kernel_rfl) (by kernel_rfl) (fun _ _ _ h => h) (Or.inr ⟨by rfl, rfl⟩) hHeld ?_
                        simp only [Act.put, List.setIfInBounds_toArray, List.set_cons_zero, List.set_cons_succ]
                        refine wpAnyH_take (i := 28) (oi := { dst := some 129, op := Op.call { callee := Callee.value (Operand.func 15), args := #[Operand.tmp 128], argTypes := #[22] }, type := 3, pos := "law.go:128", after := #[{ on := 27, ground := Ground.data }, { on := 23, ground := Ground.chain }, { on := 23, ground := Ground.guard }], guard := some (23, true) }) (v := undef) rfl (by kernel_rfl) (by kernel_rfl) (by kernel_rfl) (fun _ _ _ h => h) (Or.inr ⟨by rfl, rfl⟩) hHeld ?_
                        simp only [Act.put, List.setIfInBounds_toArray, List.set_cons_zero, List.set_cons_succ]
                        refine wpAnyH_take (i := 29) (oi := { dst := some 130, op := Op.indexAddr 22 (Operand.tmp 127) (Operand.tmp 129), type := 0, pos := "law.go:128", after := #[{ on := 26, ground := Ground.data }, { on := 28, ground := Ground.data }, { on := 23, ground := Ground.guard }], guard := some (23, true) }) (v := undef) rfl (by kernel_rfl) (by kernel_rfl) (by kernel_rfl) (fun _ _ _ h => h) (Or.inr ⟨by rfl, rfl⟩) hHeld ?_
                        simp only [Act.put, List.setIfInBounds_toArray, List.set_cons_zero, List.set_cons_succ]
                        refine wpAnyH_take (i := 30) (oi := { dst := some 131, op := Op.fieldAddr 41 (Operand.tmp 130) 0, type := 0, pos := "law.go:128", after := #[{ on := 29, ground := Ground.data }, { on := 23, ground := Ground.guard }], guard := some (23, true) }) (v := undef) rfl (by kernel_rfl) (by kernel_rfl) (by kernel_rfl) (fun _ _ _ h => h) (Or.inr ⟨by rfl, rfl⟩) hHeld ?_
                        simp only [Act.put, List.setIfInBounds_toArray, List.set_cons_zero, List.set_cons_succ]
                        refine wpAnyH_take (i := 31) (oi := { dst := some 132, op := Op.load 9 (Operand.tmp 131), type := 9, pos := "law.go:128", after := #[{ on := 30, ground := Ground.data }, { on := 23, ground := Ground.guard }], guard := some (23, true) }) (v := undef) rfl (by kernel_rfl) (by kernel_rfl) (by kernel_rfl) (fun _ _ _ h => h) (Or.inr ⟨by rfl, rfl⟩) hHeld ?_
                        simp only [Act.put, List.setIfInBounds_toArray, List.set_cons_zero, List.set_cons_succ]
                        refine wpAnyH_take (i := 32) (oi := { dst := some 133, op := Op.binOp BinOp.eql 9 (Operand.tmp 126) (Operand.tmp 132) 9, type := 4, pos := "law.go:128", after := #[{ on := 25, ground := Ground.data }, { on := 31, ground := Ground.data }, { on := 23, ground := Ground.guard }], guard := some (23, true) }) (v := undef) rfl (by kernel_rfl) (by kernel_rfl) (by kernel_rfl) (fun _ _ _ h => h) (Or.inr ⟨by rfl, rfl⟩) hHeld ?_
                        simp only [Act.put, List.setIfInBounds_toArray, List.set_cons_zero, List.set_cons_succ]
                        refine wpAnyH_take (i := 33) (oi := { dst := some 134, op := Op.pick (Operand.tmp 124) (Operand.tmp 133) (Operand.const (Value.bool false)), type := 4, pos := "law.go:128", after := #[{ on := 23, ground := Ground.data }, { on := 32, ground := Ground.data }], guard := none }) (v := .bool false) rfl (by kernel_rfl) (by kernel_rfl) (by kernel_rfl) (fun _ _ _ h => h) (Or.inl ⟨by rfl, by intro w hSw; (try dsimp only at hSw); go_simp⟩) hHeld ?_
                        simp only [Act.put, List.setIfInBounds_toArray, List.set_cons_zero, List.set_cons_succ]
                        refine wpAnyH_done (by kernel_rfl) ?_ _
                        go_wp2_with fail
                        go_meet
                        exact ⟨rfl, HB8.out⟩
                      · obtain rfl : cu = (j : Int) := hcu.trans hcj
                        obtain ⟨b3, off3, rfl, hbB3, d0, d1⟩ := H7.out.2.1.2 j (by have := HM.out; omega)
                        replace d0 := (HA.out.1.cell (p := ⟨b3, off3 + j * 2, none⟩) hbB3).trans d0
                        obtain ⟨s3', t3', hst3⟩ : ∃ s t, ls.getD j kid0 = (s, t) := ⟨_, _, rfl⟩
                        rw [hst3] at d0
                        simp only [k0] at d0
                        have Hb3 := Lib.hid (World.block_lt_of_cell? wb _ d0)
                        have j1 : (0 : Int) ≤ (j : Int) := by omega
                        have j2 : (j : Int) < (m : Int) := by have := HM.out; omega
                        have hne : (s.toList == s3'.toList) = false := by
                          have h := order2 (key := kc) HRX.out (by rw [← HP.out]; exact HST.out.symm) j hcj (s, 5) (by rw [← HP.out, ← HY.out.1, ← HS.out]; exact getD_mem (by have := HY.out.2; omega)) rfl
                          rw [hst3] at h
                          simpa using h
                        clear hcu hcj hst3 d1
                        go_region_held3 (fun w' => w'.cell? ⟨P, 2, none⟩ = some (.int .i64 1) ∧ w'.cell? ⟨B, 0, none⟩ = some (.string s) ∧ w'.cell? ⟨B, 1, none⟩ = some (.int .i64 5) ∧ w'.cell? ⟨b3, off3 + j * 2, none⟩ = some (.string s3')) (go_keep)
                          (first
                            | (go_at_call 15; refine (rcur_any _ _ _ ls _ (H7.out.2.1.keep HB8.out) (by unfold maxLen; omega)).mono ?_; rw [← HCU.out]; rintro e w9 ⟨rfl, hb9⟩; have HB9 := Lib.hid (HB8.out.trans (hb9.mono HB8.out.size)); have r0 := (hb9.cell (p := ⟨P, 2, none⟩) (Nat.lt_of_lt_of_le HPl.out HB7.out.size)).trans z0; have r1 := (hb9.cell (p := ⟨B, 0, none⟩) (Nat.lt_of_lt_of_le HBl.out HB7.out.size)).trans z1; have r2 := (hb9.cell (p := ⟨B, 1, none⟩) (Nat.lt_of_lt_of_le HBl.out HB7.out.size)).trans z2; have r3 := (hb9.cell (p := ⟨b3, off3 + j * 2, none⟩) (Nat.lt_of_lt_of_le Hb3.out HB7.out.size)).trans z3; clear hb9)
                            | (go_at_call 15; refine (rcur_any _ _ _ ls _ (H7.out.2.1.keep (below_drewN HA.out.1 1)) (by unfold maxLen; omega)).mono ?_; rw [← HCU.out]; rintro e w8 ⟨rfl, hb8⟩; have hb9 := (below_drewN (Below.refl wb.heap.size wb) 1).trans hb8; have HB7 := Lib.hid hb9; have HB8 := Lib.hid (HA.out.1.trans (hb9.mono HA.out.1.size)); have z0 := (hb9.cell (p := ⟨P, 2, none⟩) HPl.out).trans x2; have z1 := (hb9.cell (p := ⟨B, 0, none⟩) HBl.out).trans y0; have z2 := (hb9.cell (p := ⟨B, 1, none⟩) HBl.out).trans y1; have z3 := (hb9.cell (p := ⟨b3, off3 + j * 2, none⟩) Hb3.out).trans d0; clear hb8 hb9))
                        all_goals (go_wp2_with fail; go_meet; exact ⟨rfl, HB9.out⟩)
                    · have hkm' : decide ((k : Int) < (m : Int)) = false := by simp; omega
                      have hkm2 : decide (k < m) = false := by simpa using hkm
                      clear hkm
                      go_quiet (fail)
                      go_wp2
                      go_meet
                      exact ⟨rfl, below_drewN HA.out.1 _⟩
                  · have g5 := beq_no h5
                    clear h5
                    go_quiet (fail)
                    go_wp2
                    go_meet
                    exact ⟨rfl, below_drewN HA.out.1 _⟩
                · have gs := beq_no hs1
                  clear hs1
                  go_quiet (fail)
                  go_wp2
                  go_meet
                  exact ⟨rfl, below_drewN HA.out.1 _⟩
              · have gm := beq_no hm2
                clear hm2
                go_quiet (fail)
                go_wp2
                go_meet
                exact ⟨rfl, below_drewN HA.out.1 _⟩
            case rest =>
              obtain ⟨rfl, hb⟩ := hcut
              clear x2 y0 y1 HA
              go_wp2
              go_roundw
              case rel => exact ⟨k + 1, by omega, by go_num, hb⟩
              case measure => simp [intOf]; omega
        · have HB := Lib.hid (H7.out.2.2.2.trans (hb.mono H7.out.2.2.2.size))
          clear hb
          go_wp2
          go_ret
          exact ⟨rfl, HB.out⟩

set_option maxRecDepth 100000 in
set_option maxHeartbeats 1000000 in
theorem slotOrder_lifted (os : Os) (started : os.Started) (H : Type) (enc : TypeId × Value → H) :
    ReturnsInHanded {} Try.checked os 4 .any (Rows.slotOrderSpec.pre6 enc Try.prog Try.f4 Rows.slotOrderRow.domain false) (Rows.slotOrderSpec.post enc Try.prog Try.f4 false true false false) := by
  refine returnsInHanded_of_change (C := Try.checked) own started (by kernel_rfl) Try.func4
    (ChangeSpec.witness6 (enc := enc) (C := Try.checked) false ⟨#[], #[.slice none 0 0, .string ByteArray.empty, .int .i64 0], []⟩ 8 (by kernel_rfl) (by kernel_rfl) (by kernel_rfl) (by kernel_rfl)) ?_
  intro W base args ds gs before hval0 hW hcnd _
  have hval : ∀ (j : Nat) t v, Try.f4.params[j]? = some t → args[j]? = some v → Value.okWide Try.prog W .any base t v := hval0
  have hW' := hW
  obtain ⟨p, q, hA0, hV, rfl, hfz, hnd⟩ := hW
  have hA : DataW.TrodAll enc Try.prog W 0 (fun _ => true) true Try.f4.params.toList args.toList ds p := hA0
  rw [Try.params4] at hA hval
  obtain ⟨v0, vs0, d0, ds0, p0, q0, hargs, rfl, rfl, h0, r0⟩ := trodAll_cons hA
  obtain ⟨v1, vs1, d1, ds1, p1, q1, rfl, rfl, rfl, h1, r1⟩ := trodAll_cons r0
  obtain ⟨v2, vs2, d2, ds2, p2, q2, rfl, rfl, rfl, h2, r2⟩ := trodAll_cons r1
  obtain ⟨rfl, rfl, rfl⟩ := trodAll_nil r2
  obtain rfl : args = #[v0, v1, v2] := by cases args; simp_all
  obtain ⟨rfl, rfl⟩ := trodVars_none hV
  have k0 := h0
  have lt0 : ∀ x ∈ p0, x.block < W.heap.size := by obtain ⟨m, hm⟩ := k0; exact DataW.trod_lt m _ _ _ hm
  have k1 := h1
  have lt1 : ∀ x ∈ p1, x.block < W.heap.size := by obtain ⟨m, hm⟩ := k1; exact DataW.trod_lt m _ _ _ hm
  have k2 := h2
  have lt2 : ∀ x ∈ p2, x.block < W.heap.size := by obtain ⟨m, hm⟩ := k2; exact DataW.trod_lt m _ _ _ hm
  obtain ⟨A, n, c, ks, rfl, _, _, hz⟩ := kids_open (hval 0 22 v0 rfl rfl) h0
  obtain ⟨key, rfl, rfl, rfl, _⟩ := Go.ChangeMaps.open_string Try.underlying9 (hval 1 9 v1 rfl rfl) h1
  obtain ⟨mode, rfl, rfl, rfl, _⟩ := open_int Try.underlying3 (hval 2 3 v2 rfl rfl) h2
  clear hA0 hval0
  refine (slotOrder_walk A n c ks key mode W hz).mono fun e W' ⟨he, bel⟩ => ?_
  subst he
  exact ⟨_, rfl, _, _, _, [], _, [], hW', trodAll_mk1 (shut_bool Try.underlying4 _), (trodAll_cons_mk (Below.trod laid_out (by kernel_rfl) (of_decide_eq_true (by kernel_rfl)) k0 bel lt0) (trodAll_cons_mk (Below.trod laid_out (by kernel_rfl) (of_decide_eq_true (by kernel_rfl)) k1 bel lt1) (trodAll_cons_mk (Below.trod laid_out (by kernel_rfl) (of_decide_eq_true (by kernel_rfl)) k2 bel lt2) trodAll_mk0))), rfl, bel.frame _, fun h => by cases h⟩

/-- The statement. -/
theorem slotOrder_holds : Rows.SlotOrderSaid :=
  OpenClaim.holds_of_wide 4 Try.f4 rfl rfl rfl rfl rfl rfl rfl ⟨rfl, rfl, rfl, rfl, rfl⟩ rfl rfl rfl rfl rfl (by kernel_rfl) Try.func4 (by kernel_rfl)
    (of_decide_eq_true (by kernel_rfl)) (by unfold Func.isWrapper; first | (rw [if_pos (by decide +kernel)]; kernel_rfl) | (rw [if_neg (by decide +kernel)]; exact ⟨rfl, rfl⟩))
    (fun os started H enc _ => slotOrder_lifted os started H enc)
#print axioms slotOrder_holds
end Go.Proofs.Ytkiaaaehakjhjaa
