/-
  SlotEnds: nobody waits for ever: twice over, all that is under way ends, and one stands still. For every input; no condition.
-/
import Derived.Test.YtkiaaaehakjhjaaSlotEndsA
import Derived.Test.YtkiaaaehakjhjaaSlotAwake
import Derived.Test.YtkiaaaehakjhjaaSlotNext
namespace Go.Proofs.Ytkiaaaehakjhjaa
open Go.ChangeShapes Go.WideShapes Go.ChangeAt Go.RowKit
attribute [local go_sem ↓] Go.wp_at_zero Go.wp_at_succ

/-- A slot in memory, that the call itself made. -/
structure Sl (w wr : World) (A : Option Addr) (c : Nat) (x : List Kid) : Prop where
  own : wr.ownsRow w.heap.size 41 2 (.slice A x.length c) x.length (flatK x)
  below : Below w.heap.size w wr
theorem Sl.keep {w wr wx : World} {A : Option Addr} {c : Nat} {x : List Kid} (h : Sl w wr A c x) (hb : Below wr.heap.size wr wx) : Sl w wx A c x := ⟨own_keep h.own hb, h.below.trans (hb.mono h.below.size)⟩
theorem Sl.kids {w wr : World} {A : Option Addr} {c : Nat} {x : List Kid} (h : Sl w wr A c x) : Kids wr wr.heap.size A x.length x := Kids.of_own h.own rfl
theorem Sl.nil (w wr : World) (h : Below w.heap.size w wr) : Sl w wr none 0 [] := ⟨World.ownsRow_nil _ _ _ _, h⟩
theorem Sl.cap {w wr : World} {A : Option Addr} {c : Nat} {x : List Kid} (h : Sl w wr A c x) : x.length ≤ c ∧ c ≤ maxLen := own_cap h.own
theorem Sl.set {w wr : World} {g c : Nat} {x : List Kid} (h : Sl w wr (some ⟨g, 0, none⟩) c x) (i : Nat) (t : Int) (hi : i < x.length) : Sl w (wr.setCell ⟨g, i * 2 + 1, none⟩ (.int .i64 t)) (some ⟨g, 0, none⟩) c (setKind x i t) := by
  have h1 := own_setKind h.own i t hi
  refine ⟨?_, ?_⟩
  · rw [setKind_len]; exact h1.1
  · exact h.below.setCell (p := ⟨g, i * 2 + 1, none⟩) (h.own.lt g rfl).1 _
theorem Sl.addr {w wr : World} {A : Option Addr} {c : Nat} {x : List Kid} (h : Sl w wr A c x) (hn : 0 < x.length) : ∃ g, A = some ⟨g, 0, none⟩ := by
  obtain ⟨g, cap, hv, _, _⟩ := h.own.form hn
  injection hv with h1 _ _
  exact ⟨g, h1⟩
theorem Sl.cell {w wr : World} {g c : Nat} {x : List Kid} (h : Sl w wr (some ⟨g, 0, none⟩) c x) (i : Nat) (hi : i < x.length) : wr.cell? ⟨g, i * 2, none⟩ = some (k0 (x.getD i kid0)) ∧ wr.cell? ⟨g, i * 2 + 1, none⟩ = some (k1 (x.getD i kid0)) := by
  obtain ⟨b, off, hA, _, h1, h2⟩ := h.kids.2 i hi
  injection hA with hA
  injection hA with h3 h4
  subst h3 h4
  rw [Nat.zero_add] at h1 h2
  exact ⟨h1, h2⟩
theorem Sl.froz {w wr : World} {g c : Nat} {x : List Kid} (h : Sl w wr (some ⟨g, 0, none⟩) c x) (i : Nat) : wr.frozen? ⟨g, i, none⟩ = false := h.own.frozenAt i

/-- The passes. -/
def passN : Nat → List Kid → List Kid
  | 0, x => x
  | s + 1, x => pass (passN s x)
theorem passN_fin {key : ByteArray} {x : List Kid} (h : Fin1 key x) : ∀ s, Fin1 key (passN s x)
  | 0 => h
  | s + 1 => (pass_like (passN_fin h s).right).fin (passN_fin h s)

theorem passN_len {key : ByteArray} {x : List Kid} (h : Fin1 key x) : ∀ s, (passN s x).length = x.length
  | 0 => rfl
  | s + 1 => (pass_like (passN_fin h s).right).len.trans (passN_len h s)

set_option maxRecDepth 100000 in
set_option maxHeartbeats 32000000 in
theorem slotEnds_walk (A B C : Option Addr) (n c nk ck nm cm : Nat) (ks : List Kid) (kk : List ByteArray) (mm : List Int) (w : World) (hz : Kids w w.heap.size A n ks) (hk : Strs w w.heap.size B nk kk) (hm : Ints w w.heap.size C nm mm) :
    Calls Try.prog 6 #[.slice A n c, .slice B nk ck, .slice C nm cm] w fun e w' => e = .returned (.bool true) ∧ Below w.heap.size w w' := by
  have HZ := Lib.hid (And.intro hz (And.intro hk hm))
  clear hz hk hm
  obtain ⟨tr, hi, hz0, hz1, hz2⟩ := info_parts ref_info
  go_enter Try.func6, Try.ntmps6
  go_wp2_with fail
  refine (awake_any _).mono ?_
  rintro e w1 ⟨rfl, hb1⟩
  have HB1 := Lib.hid hb1
  clear hb1
  obtain ⟨ls, hls⟩ : ∃ ls, ls = cutK 15 ks := ⟨_, rfl⟩
  have HL := Lib.hid hls
  have hl15 : ls.length ≤ 15 := by rw [hls, cutK_len]; omega
  clear hls
  go_wp2_with fail
  refine (own_any A n c ks _ ((HZ.out.1.below HB1.out).more HB1.out.size)).mono ?_
  rintro e w2 ⟨A1, c1, A2, c2, rfl, hO⟩
  rw [← HL.out] at hO ⊢
  have hS : Sl w w2 A2 c2 ls := ⟨own_base hO.b HB1.out.size, HB1.out.trans (hO.below.mono HB1.out.size)⟩
  have hcap := hS.cap
  have HS := Lib.hid hS
  clear hO hS HB1
  go_wp2_with fail
  refine (right_any A2 ls.length c2 ls _ HS.out.kids hcap.1 (by omega)).mono ?_
  obtain ⟨r, hr⟩ : ∃ r, r = rightS ls := ⟨_, rfl⟩
  rw [← hr]
  have HR := Lib.hid hr
  clear hr
  rintro e w3 ⟨rfl, hb3⟩
  have HS3 := Lib.hid (HS.out.keep hb3)
  clear hb3 HS
  go_upto_if 35 with fail
  go_cut [8] (fun s wx => ∃ x A c, s = .slice A x.length c ∧ Sl w wx A c x ∧ Inv1 x ∧ x.length ≤ 15)
  case first =>
    cases r
    · go_wp2
      go_meet
      exact ⟨[], none, 0, rfl, Sl.nil _ _ HS3.out.below, inv_nil, by simp⟩
    · have hR := (right_iff ls).1 HR.out.symm
      have hI : Inv1 ls := by rw [HL.out] at hR ⊢; exact inv_start hR
      have HI := Lib.hid hI
      clear hI hR
      go_wp2
      go_meet
      exact ⟨ls, A2, c2, rfl, HS3.out, HI.out, hl15⟩
  case rest =>
    obtain ⟨x0, A0, c0, rfl, hS, hI, hx15⟩ := hcut
    have H0 := Lib.hid (And.intro hS (And.intro hI hx15))
    clear hS hI hx15 HS3 HR HL hl15 hcap
    go_wp2_with fail
    go_loopw [8, 9, 10] (fun s8 s9 i wr => ∃ k : Nat, k ≤ nk ∧ k ≤ 12 ∧ i = .int .i64 k ∧ ∃ x A c last, s8 = .slice A x.length c ∧ s9 = .string last ∧ Sl w wr A c x ∧ Inv1 x ∧ (k = 0 → last = ByteArray.empty ∧ x.length ≤ 15) ∧ (0 < k → Fin1 last x)) (fun _ _ i _ => 12 - (intOf i).toNat)
    case atStart => exact ⟨0, Nat.zero_le _, Nat.zero_le _, rfl, x0, A0, c0, ByteArray.empty, rfl, rfl, H0.out.1, H0.out.2.1, fun _ => ⟨rfl, H0.out.2.2⟩, fun h => by omega⟩
    case round =>
      obtain ⟨k, hk, hk12, rfl, x, A, c, last, rfl, rfl, hS, hI, hL0, hL1⟩ := hrel
      have HX := Lib.hid (And.intro hS (And.intro hI (And.intro hL0 hL1)))
      clear hS hI hL0 hL1 H0
      by_cases hlt : k < nk ∧ k < 12
      · obtain ⟨hlt, hlt2⟩ := hlt
        as_aux_lemma =>
        have i1 : (0 : Int) ≤ (k : Int) := by omega
        have i2 : (k : Int) < (nk : Int) := by omega
        have i3 : (k : Int) < 12 := by omega
        obtain ⟨b, off, rfl, hbB, e0⟩ := HZ.out.2.1 k hlt
        replace e0 := (HX.out.1.below.cell (p := ⟨b, off + k, none⟩) hbB).trans e0
        obtain ⟨s, hs⟩ : ∃ s, s = kk.getD k ByteArray.empty := ⟨_, rfl⟩
        rw [← hs] at e0
        clear hs
        obtain ⟨m, hmx⟩ : ∃ m, m = x.length := ⟨_, rfl⟩
        have HM := Lib.hid hmx
        rw [← hmx]
        clear hmx
        obtain ⟨q, hq⟩ : ∃ q, q = decide ((k : Int) < (nm : Int)) := ⟨_, rfl⟩
        have HQ := Lib.hid hq
        clear hq
        obtain ⟨wo, rfl⟩ : ∃ wo : World, wo = wr := ⟨_, rfl⟩
        go_upto_region 11 with fail
        go_cut [49] (fun s wx => s = .bool q ∧ wx = wo)
        case first =>
          go_wp2
          go_meet
          exact ⟨by rw [HQ.out]; simp, rfl⟩
        case rest =>
          obtain ⟨rfl, hw⟩ := hcut
          subst hw
          go_upto_if 49 with fail
          obtain ⟨wo, hwo⟩ : ∃ wo : World, wo = wc := ⟨_, rfl⟩
          rw [← hwo] at HX e0 ⊢
          clear hwo
          go_cut [11] (fun s wx => ∃ md, s = .int .i64 md ∧ wx = wo)
          case first =>
            cases q
            · go_wp2
              go_meet
              exact ⟨0, rfl, rfl⟩
            · have hkm : k < nm := by have := of_decide_eq_true HQ.out.symm; omega
              obtain ⟨b2, off2, rfl, hbB2, d0⟩ := HZ.out.2.2 k hkm
              replace d0 := (HX.out.1.below.cell (p := ⟨b2, off2 + k, none⟩) hbB2).trans d0
              have j2 : (k : Int) < (nm : Int) := by omega
              obtain ⟨z, hz⟩ : ∃ z, z = mm.getD k 0 := ⟨_, rfl⟩
              rw [← hz] at d0
              clear hz
              go_wp2
              go_meet
              exact ⟨z, rfl, rfl⟩
          case rest =>
            obtain ⟨md, rfl, hw⟩ := hcut
            subst hw
            obtain ⟨l2, hl2⟩ : ∃ l2, l2 = cut20 s := ⟨_, rfl⟩
            have HL2 := Lib.hid (show l2.size ≤ 20 by rw [hl2]; exact cut20_le s)
            obtain ⟨ls, hls⟩ : ∃ ls, ls = cutK 15 x := ⟨_, rfl⟩
            have hml : ls.length ≤ 15 := by rw [hls, cutK_len]; omega
            have HLS := Lib.hid hls
            have hkid := HX.out.1.kids
            rw [← HM.out] at hkid
            have HKD := Lib.hid hkid
            clear hls hkid
            go_upto_region 14 with (first | (go_at_call 9; ((with_reducible refine (cut_any _ _).mono ?_); rintro e w' ⟨rfl, rfl⟩)))
            rw [← hl2]
            clear hl2 e0
            go_wp2_with fail
            refine (own_any A m c x _ HKD.out).mono ?_
            rintro e w2 ⟨A3, c3, A4, c4, he, hO⟩
            rw [← HLS.out] at he hO
            obtain ⟨z1, z2⟩ := own_kids hO
            obtain ⟨m2, hm2⟩ : ∃ m2, m2 = ls.length := ⟨_, rfl⟩
            rw [← hm2] at he z1 z2 hml
            have HO := Lib.hid (And.intro z1 (And.intro z2 (And.intro (HX.out.1.below.trans (hO.below.mono HX.out.1.below.size)) hm2)))
            subst he
            clear hO z1 z2 hm2 HKD
            go_wp2_with fail
            refine (of_any _ A3 m2 c3 ls l2 md HO.out.1 hml).mono ?_
            obtain ⟨p, hp⟩ : ∃ p, p = ofS ls l2 md := ⟨_, rfl⟩
            rw [← hp]
            rintro e w3 ⟨A5, c5, A6, c6, rfl, ho3, ho4, hb3⟩
            have hpl : p.each.length = m2 := by rw [hp, of_len, HO.out.2.2.2]
            have hrl : p.rel.length ≤ m2 := by rw [hp, HO.out.2.2.2]; exact of_rel_len ls l2 md
            have HPF := Lib.hid (show p.start = 0 ∨ p.start = 1 ∨ p.start = 2 by rw [hp]; exact start_012 ls l2 md)
            have HP := Lib.hid hp
            have H3 := Lib.hid (And.intro (Nums.of_own ho3 rfl) (And.intro (Nums.of_own ho4 rfl) hb3))
            obtain ⟨rl, hrl'⟩ : ∃ rl, rl = p.rel.length := ⟨_, rfl⟩
            rw [hpl] at H3 ⊢
            rw [← hrl'] at H3 ⊢ hrl
            clear hp ho3 ho4 hb3 hpl hrl'
            go_wp2_with fail
            refine (after_any A4 A5 A6 m2 c4 c5 rl c6 ls l2 p _ (HO.out.2.1.keep H3.out.2.2) H3.out.1 H3.out.2.1 hml (by omega) HPF.out).mono ?_
            rintro e w4 ⟨A7, c7, rfl, ho5, hb5⟩
            have hst := step_inv HX.out.2.1 l2 HL2.out md
            rw [← HLS.out, ← HP.out] at hst
            obtain ⟨y, hy⟩ : ∃ y, y = afterS ls l2 p := ⟨_, rfl⟩
            rw [← hy] at ho5 hst ⊢
            have hbz := HO.out.2.2.1.trans (H3.out.2.2.mono HO.out.2.2.1.size)
            have hS4 : Sl w w4 A7 c7 y := ⟨own_base ho5 hbz.size, hbz.trans (hb5.mono hbz.size)⟩
            have hcap := hS4.cap
            have hy16 := hst.2.len16
            have HS4 := Lib.hid hS4
            have HST := Lib.hid hst
            have HRY := Lib.hid ((right_iff y).2 hst.1.right)
            clear hy ho5 hb5 hbz hst hS4 HO H3 HLS HP HPF
            go_wp2_with fail
            refine (right_any A7 y.length c7 y _ HS4.out.kids hcap.1 (by omega)).mono ?_
            rintro e w5 ⟨he, hb5⟩
            obtain rfl : e = .returned (.bool true) := by rw [he, HRY.out]
            have HS5 := Lib.hid (HS4.out.keep hb5)
            clear he hb5 HS4
            go_wp2
            go_roundw
            case rel => exact ⟨k + 1, by omega, by omega, by go_num, y, A7, c7, l2, rfl, rfl, HS5.out, HST.out.1, fun h => by omega, fun _ => HST.out.2⟩
            case measure => simp [intOf]; omega
      · have hend : nk ≤ k ∨ 12 ≤ k := by omega
        go_upto_region 8 with fail
        obtain ⟨wo, rfl⟩ : ∃ wo : World, wo = wr := ⟨_, rfl⟩
        go_cut [43] (fun s wx => s = .bool false ∧ wx = wo)
        case first =>
          by_cases hlt1 : k < nk
          · have i3 : decide ((k : Int) < 12) = false := by simp; omega
            have i4 : decide (k < 12) = false := by simp; omega
            go_wp2
            go_meet
            exact ⟨by first | rfl | simp, rfl⟩
          · have i3 : decide ((k : Int) < (nk : Int)) = false := by simp; omega
            have i4 : decide (k < nk) = false := by simp; omega
            clear hlt
            go_wp2
            go_meet
            exact ⟨by first | rfl | simp, rfl⟩
        case rest =>
          obtain ⟨rfl, hw⟩ := hcut
          subst hw
          have HE := Lib.hid (And.intro hend hk)
          clear hend hlt
          obtain ⟨q, hq⟩ : ∃ q, q = (decide (nk = 0) && decide (0 ≤ cur x)) := ⟨_, rfl⟩
          have HQ := Lib.hid hq
          clear hq
          have hx16 : x.length ≤ 16 := by rcases HX.out.2.1.len with h | h <;> omega
          obtain ⟨m, hmx⟩ : ∃ m, m = x.length := ⟨_, rfl⟩
          have hkid := HX.out.1.kids
          rw [← hmx] at hkid hx16 ⊢
          have HM := Lib.hid hmx
          have HKD := Lib.hid hkid
          clear hmx hkid
          obtain ⟨wo, hwo⟩ : ∃ wo : World, wo = wc := ⟨_, rfl⟩
          rw [← hwo] at HX HKD ⊢
          clear hwo
          go_upto_region 19 with fail
          go_cut [89] (fun s wx => s = .bool q ∧ Below wo.heap.size wo wx)
          case first =>
            by_cases h0 : nk = 0
            · subst h0
              have HQ1 := Lib.hid (show q = decide (0 ≤ cur x) by rw [HQ.out]; simp)
              go_wp2_with fail
              refine (rcur_any A m c x _ HKD.out (by unfold maxLen; omega)).mono ?_
              rintro e w2 ⟨rfl, hb2⟩
              obtain ⟨cu, hcu⟩ : ∃ cu, cu = cur x := ⟨_, rfl⟩
              rw [← hcu] at HQ1 ⊢
              clear hcu
              have HB2 := Lib.hid hb2
              clear hb2
              go_wp2
              go_meet
              exact ⟨by rw [HQ1.out], HB2.out⟩
            · have HQ1 := Lib.hid (show q = false by rw [HQ.out]; simp [h0])
              have g0 : ((nk : Int) == 0) = false := by simp; omega
              go_wp2
              go_meet
              exact ⟨by rw [HQ1.out], Below.refl _ _⟩
          case rest =>
            obtain ⟨rfl, hb⟩ := hcut
            have HS2 := Lib.hid (HX.out.1.keep hb)
            have HK2 := Lib.hid (HKD.out.keep hb)
            clear hb
            go_upto_if 89 with fail
            obtain ⟨wo2, hwo2⟩ : ∃ wo2 : World, wo2 = wc := ⟨_, rfl⟩
            rw [← hwo2] at HS2 HK2 ⊢
            clear hwo2
            go_cut [9] (fun s wx => ∃ l2, s = .string l2 ∧ Below wo2.heap.size wo2 wx ∧ Fin1 l2 x)
            case first =>
              as_aux_lemma =>
              cases q
              · have HF := Lib.hid (show Fin1 last x by
                  by_cases h0 : nk = 0
                  · have hk0 : k = 0 := by have := HE.out.2; omega
                    have hl := HX.out.2.2.1 hk0
                    have hc : ¬ 0 ≤ cur x := by
                      have := HQ.out.symm
                      rw [h0] at this
                      simpa using this
                    rw [hl.1]
                    rcases cur_cases x with h1 | ⟨j, _, h1, _⟩
                    · exact fin_none HX.out.2.1 h1 hl.2
                    · omega
                  · exact HX.out.2.2.2 (by have := HE.out.1; omega))
                go_wp2
                go_meet
                exact ⟨last, rfl, Below.refl _ _, HF.out⟩
              · have hqq := HQ.out.symm
                rw [Bool.and_eq_true, decide_eq_true_iff, decide_eq_true_iff] at hqq
                obtain ⟨h0, hc0⟩ := hqq
                have hk0 : k = 0 := by have := HE.out.2; omega
                have hl := HX.out.2.2.1 hk0
                obtain ⟨cu, hcu⟩ : ∃ cu, cu = cur x := ⟨_, rfl⟩
                have hcl := cur_nat' x hc0
                rw [← hcu] at hc0 hcl
                obtain ⟨j, rfl⟩ : ∃ j : Nat, cu = j := ⟨cu.toNat, by omega⟩
                have HF := Lib.hid (fin_some HX.out.2.1 j hcu.symm hl.2)
                have HCU := Lib.hid hcu
                have hjm : j < m := by have := HM.out; omega
                obtain ⟨b, off, rfl, hbB, e0, e1⟩ := HK2.out.2 j hjm
                obtain ⟨s, t, hst⟩ : ∃ s t, x.getD j kid0 = (s, t) := ⟨_, _, rfl⟩
                rw [hst] at e0 HF
                simp only [k0] at e0
                have j1 : (0 : Int) ≤ (j : Int) := by omega
                have j2 : (j : Int) < (m : Int) := by omega
                have HE0 := Lib.hid e0
                clear hcu hl hst e1 e0 hc0 hcl h0 hk0
                go_wp2_with fail
                refine (rcur_any _ m c x _ HK2.out (by unfold maxLen; omega)).mono ?_
                rw [← HCU.out]
                rintro e w2 ⟨rfl, hb2⟩
                have e0 := (hb2.cell (p := ⟨b, off + j * 2, none⟩) hbB).trans HE0.out
                have HB2 := Lib.hid hb2
                clear hb2
                go_wp2
                go_meet
                exact ⟨s, rfl, HB2.out, HF.out⟩
            case rest =>
              obtain ⟨l2, rfl, hb, hF⟩ := hcut
              have hS0 := HS2.out.keep hb
              obtain ⟨x1, hx1⟩ : ∃ x1, x1 = x := ⟨_, rfl⟩
              rw [← hx1] at hS0 hF HM
              have H1 := Lib.hid (And.intro hS0 hF)
              have hm1 := HM.out
              clear hx1 hb hS0 hF HS2 HK2 HKD HX HE HQ hx16 HZ HM
              subst hm1
              go_wp2_with fail
              go_loopw [8, 96] (fun s8 i wr => ∃ r : Nat, r ≤ 3 ∧ i = .int .i64 r ∧ ∃ A c, s8 = .slice A (roundN r x1).length c ∧ Sl w wr A c (roundN r x1)) (fun _ i _ => 3 - (intOf i).toNat)
              case atStart => exact ⟨0, Nat.zero_le _, rfl, A, c, rfl, H1.out.1⟩
              case round =>
                obtain ⟨r, hr3, rfl, A, c, rfl, hS⟩ := hrel
                have HF := Lib.hid (roundN_fin H1.out.2 r)
                have HL := Lib.hid (rounds_law H1.out.2)
                have HR1 := Lib.hid (show roundN (r + 1) x1 = leftS (pass (pass (roundN r x1))) from rfl)
                by_cases hlr : r < 3
                · obtain ⟨x, hx⟩ : ∃ x, x = roundN r x1 := ⟨_, rfl⟩
                  rw [← hx] at hS HF HR1 ⊢
                  have HS := Lib.hid hS
                  clear hS hx H1 HL
                  have r1 : (r : Int) < 3 := by omega
                  obtain ⟨m, hmx⟩ : ∃ m, m = x.length := ⟨_, rfl⟩
                  rw [← hmx]
                  have HMX := Lib.hid hmx
                  clear hmx
                  go_wp2_with fail
                  go_loopw [98] (fun i wr => ∃ s : Nat, s ≤ 2 ∧ i = .int .i64 s ∧ Sl w wr A c (passN s x)) (fun i _ => 2 - (intOf i).toNat)
                  case atStart => exact ⟨0, Nat.zero_le _, rfl, HS.out⟩
                  case round =>
                    obtain ⟨s, hs2, rfl, hS⟩ := hrel
                    have hpl := passN_len HF.out s
                    rw [← HMX.out] at hpl
                    have HFP := Lib.hid (passN_fin HF.out s)
                    clear HS
                    by_cases hls : s < 2
                    · as_aux_lemma =>
                      obtain ⟨y, hy⟩ : ∃ y, y = passN s x := ⟨_, rfl⟩
                      have HN := Lib.hid (show passN (s + 1) x = pass y by rw [hy]; rfl)
                      rw [← hy] at hS HFP hpl
                      have hy16 := HFP.out.len16
                      have hmy : m = y.length := hpl.symm
                      have hkid := hS.kids
                      rw [← hmy] at hkid hy16
                      have HM := Lib.hid hmy
                      have HKD := Lib.hid hkid
                      have HS := Lib.hid hS
                      obtain ⟨ls, hls'⟩ : ∃ ls, ls = cutK 15 y := ⟨_, rfl⟩
                      have hml : ls.length ≤ 15 := by rw [hls', cutK_len]; omega
                      have hml2 : ls.length ≤ m := by rw [hls', cutK_len]; omega
                      have HLS := Lib.hid hls'
                      clear hy hS hmy hpl hkid hls'
                      have s1 : (s : Int) < 2 := by omega
                      go_wp2_with fail
                      refine (own_any A m c y _ HKD.out).mono ?_
                      rintro e w2 ⟨A3, c3, A4, c4, he, hO⟩
                      rw [← HLS.out] at he hO
                      obtain ⟨z1, z2⟩ := own_kids hO
                      obtain ⟨m2, hm2⟩ : ∃ m2, m2 = ls.length := ⟨_, rfl⟩
                      rw [← hm2] at he z1 z2 hml hml2
                      have HO := Lib.hid (And.intro z1 (And.intro (HS.out.keep (hO.below)) hm2))
                      have HGB := Lib.hid (fun g (h : A = some ⟨g, 0, none⟩) => show g < w2.heap.size from Nat.lt_of_lt_of_le (HS.out.own.lt g (by rw [h]; rfl)).2 hO.below.size)
                      subst he
                      clear hO z1 z2 hm2 HKD
                      go_wp2_with fail
                      refine (next_any A3 m2 c3 ls _ HO.out.1 hml).mono ?_
                      rintro e w3 ⟨A5, c5, he, ho5, hb5⟩
                      have HE := Lib.hid (And.intro (nextL_mem ls) (show holdTo (nextL ls) (nextL ls).length y = hold y by rw [HLS.out]; exact hold_eq y))
                      have HPE := Lib.hid (show pass y = if nextB ls = true ∧ 0 ≤ cur (hold y) then setKind (hold y) (cur (hold y)).toNat 3 else hold y by rw [HLS.out]; exact pass_eq y)
                      obtain ⟨l, hl⟩ : ∃ l, l = nextL ls := ⟨_, rfl⟩
                      obtain ⟨q, hq⟩ : ∃ q, q = nextB ls := ⟨_, rfl⟩
                      rw [← hl, ← hq] at he
                      rw [← hl] at ho5 HE
                      rw [← hq] at HPE
                      subst he
                      have hcap5 := own_cap ho5
                      have HS3 := Lib.hid (HO.out.2.1.keep hb5)
                      have HO5 := Lib.hid (And.intro ho5 HO.out.2.2)
                      obtain ⟨nl, hnl⟩ : ∃ nl, nl = l.length := ⟨_, rfl⟩
                      rw [← hnl] at HO5 HE hcap5 ⊢
                      have HNL := Lib.hid hnl
                      clear hl hq ho5 hb5 HO HS hnl
                      have hmlx : nl ≤ maxLen := by omega
                      unfold maxLen at hmlx
                      go_wp2_with fail
                      go_loopw [112] (fun i wr => ∃ j : Nat, j ≤ nl ∧ i = .int .i64 j ∧ Sl w wr A c (holdTo l j y) ∧ wr.ownsRow w2.heap.size 3 1 (.slice A5 nl c5) nl (nums l)) (fun i _ => nl - (intOf i).toNat)
                      case atStart => exact ⟨0, Nat.zero_le _, rfl, HS3.out, HO5.out.1⟩
                      case round =>
                        obtain ⟨j, hj, rfl, hS, hown⟩ := hrel
                        by_cases hlj : j < nl
                        · as_aux_lemma =>
                          obtain ⟨_, i, hi, hil, _⟩ := HE.out.1 j hlj
                          have him : i < m := by have := HO5.out.2; omega
                          obtain ⟨g, rfl⟩ := hS.addr (by rw [holdTo_len, ← HM.out]; omega)
                          obtain ⟨b5, o5, hA5, _, d0⟩ := (Nums.of_own hown HNL.out.symm).2 j hlj
                          subst hA5
                          rw [hi] at d0
                          have hil2 : i < (holdTo l j y).length := by rw [holdTo_len, ← HM.out]; omega
                          obtain ⟨e0, e1⟩ := hS.cell i hil2
                          obtain ⟨s', t', hst⟩ : ∃ s t, (holdTo l j y).getD i kid0 = (s, t) := ⟨_, _, rfl⟩
                          rw [hst] at e0 e1
                          simp only [k0, k1] at e0 e1
                          have f1 := hS.froz (i * 2 + 1)
                          have HSN := Lib.hid (show Sl w (wr.setCell ⟨g, i * 2 + 1, none⟩ (.int .i64 6)) (some ⟨g, 0, none⟩) c (holdTo l (j + 1) y) by
                            have h := hS.set i 6 hil2
                            rw [holdTo, hi]
                            exact h)
                          have HON := Lib.hid (hown.kept (row := some g) (only_set (World.grownBy.refl wr _) (i * 2 + 1) (.int .i64 6)) (.inr (own_nil_or hown g (HGB.out g rfl))))
                          have j1 : (0 : Int) ≤ (j : Int) := by omega
                          have j2 : (j : Int) < (nl : Int) := by omega
                          have i1 : (0 : Int) ≤ (i : Int) := by omega
                          have i2 : (i : Int) < (m : Int) := by omega
                          have i3 : decide ((i : Int) < 0) = false := by simp
                          have i4 : decide ((m : Int) ≤ (i : Int)) = false := by simp; omega
                          have i5 : decide (m ≤ i) = false := by simp; omega
                          clear hi hst hS hown
                          go_wp2
                          go_roundw
                          case rel => exact ⟨j + 1, by omega, by go_num, HSN.out, HON.out⟩
                          case measure => simp [intOf]; omega
                        · obtain rfl : nl = j := by omega
                          have hSh : Sl w wr A c (hold y) := by rw [← HE.out.2]; exact hS
                          have hkid := hSh.kids
                          rw [hold_len, ← HM.out] at hkid
                          have HSH := Lib.hid hSh
                          have HKH := Lib.hid hkid
                          have hcl := fun h => cur_nat' (hold y) h
                          rw [hold_len, ← HM.out] at hcl
                          clear hS hown hSh hkid HO5 HS3
                          go_wp2_with fail
                          refine (rcur_any A m c (hold y) _ HKH.out (by unfold maxLen; omega)).mono ?_
                          obtain ⟨cu, hcu⟩ : ∃ cu, cu = cur (hold y) := ⟨_, rfl⟩
                          rw [← hcu] at HPE hcl ⊢
                          rintro e w4 ⟨rfl, hb4⟩
                          have HS4 := Lib.hid (HSH.out.keep hb4)
                          clear hcu hb4 HSH HKH
                          cases q
                          · have HP1 := Lib.hid (show passN (s + 1) x = hold y by rw [HN.out, HPE.out, if_neg (by simp)])
                            clear hcl
                            go_wp2
                            go_roundw
                            case rel => exact ⟨s + 1, by omega, by go_num, by rw [HP1.out]; exact HS4.out⟩
                            case measure => simp [intOf]; omega
                          · by_cases hc0 : 0 ≤ cu
                            · obtain ⟨j, rfl⟩ : ∃ j : Nat, cu = j := ⟨cu.toNat, by omega⟩
                              have hjm : j < m := by have := hcl hc0; omega
                              have hjl : j < (hold y).length := by rw [hold_len, ← HM.out]; exact hjm
                              have HP1 := Lib.hid (show passN (s + 1) x = setKind (hold y) j 3 by rw [HN.out, HPE.out, if_pos ⟨rfl, by omega⟩]; rfl)
                              obtain ⟨g, rfl⟩ := HS4.out.addr (by omega)
                              obtain ⟨e0, e1⟩ := HS4.out.cell j hjl
                              obtain ⟨s', t', hst⟩ : ∃ s t, (hold y).getD j kid0 = (s, t) := ⟨_, _, rfl⟩
                              rw [hst] at e0 e1
                              simp only [k0, k1] at e0 e1
                              have f1 := HS4.out.froz (j * 2 + 1)
                              have j2 : (j : Int) < (m : Int) := by omega
                              have HSN := Lib.hid (HS4.out.set j 3 hjl)
                              clear hcl hst
                              go_wp2
                              go_roundw
                              case rel => exact ⟨s + 1, by omega, by go_num, by rw [HP1.out]; exact HSN.out⟩
                              case measure => simp [intOf]; omega
                            · have HP1 := Lib.hid (show passN (s + 1) x = hold y by rw [HN.out, HPE.out, if_neg (fun h => hc0 h.2)])
                              have hd : decide (0 ≤ cu) = false := by simpa using hc0
                              clear hcl hc0
                              go_wp2
                              go_roundw
                              case rel => exact ⟨s + 1, by omega, by go_num, by rw [HP1.out]; exact HS4.out⟩
                              case measure => simp [intOf]; omega
                    · obtain rfl : s = 2 := by omega
                      as_aux_lemma =>
                      obtain ⟨y, hy⟩ : ∃ y, y = passN 2 x := ⟨_, rfl⟩
                      have HRN := Lib.hid (show roundN (r + 1) x1 = leftS y by rw [HR1.out, hy]; rfl)
                      rw [← hy] at hS HFP hpl
                      have hy16 := HFP.out.len16
                      have HM := Lib.hid (show m = y.length from hpl.symm)
                      rw [hpl] at hy16
                      have HS := Lib.hid hS
                      have hkid := hS.kids
                      rw [hpl] at hkid
                      have HKD := Lib.hid hkid
                      clear hy hS hpl hkid HR1 HF HMX
                      obtain ⟨wo, rfl⟩ : ∃ wo : World, wo = wr := ⟨_, rfl⟩
                      go_wp2_with fail
                      go_loopw [23, 143] (fun vl i wr => ∃ k : Nat, k ≤ m ∧ i = .int .i64 k ∧ wr.ownsRow wo.heap.size 41 2 vl (leftTo y k).length (flatK (leftTo y k)) ∧ Below wo.heap.size wo wr) (fun _ i _ => m - (intOf i).toNat)
                      case atStart => exact ⟨0, Nat.zero_le _, rfl, World.ownsRow_nil _ _ _ _, Below.refl _ _⟩
                      case round =>
                        obtain ⟨k, hk, rfl, hown, hb⟩ := hrel
                        obtain ⟨vl, hvl⟩ : ∃ vl, vl = u23 := ⟨_, rfl⟩
                        rw [← hvl] at hown ⊢
                        clear hvl
                        obtain ⟨l, hl⟩ : ∃ l, l = leftTo y k := ⟨_, rfl⟩
                        rw [← hl] at hown
                        by_cases hlk : k < m
                        · as_aux_lemma =>
                          have hll : l.length ≤ k := by rw [hl]; exact leftTo_len y k
                          obtain ⟨b, off, rfl, hbB, e0, e1⟩ := HKD.out.2 k hlk
                          replace e0 := (hb.cell (p := ⟨b, off + k * 2, none⟩) hbB).trans e0
                          replace e1 := (hb.cell (p := ⟨b, off + k * 2 + 1, none⟩) hbB).trans e1
                          obtain ⟨s', t, hst⟩ : ∃ s t, y.getD k kid0 = (s, t) := ⟨_, _, rfl⟩
                          rw [hst] at e0 e1
                          simp only [k0, k1] at e0 e1
                          have i1 : (0 : Int) ≤ (k : Int) := by omega
                          have i2 : (k : Int) < (m : Int) := by omega
                          obtain ⟨ct, hct⟩ : ∃ ct, ct = calm t := ⟨_, rfl⟩
                          have HA := Lib.hid (show leftTo y (k + 1) = if (!(ct == 5) && !(ct == 6)) = true then l ++ [(s', ct)] else l by
                            rw [leftTo_succ y k (by have := HM.out; omega), hst, hl, stays, calmK, hct])
                          obtain ⟨q5, hq5⟩ : ∃ q5, q5 = (t == 2 || t == 3) := ⟨_, rfl⟩
                          have HQ5 := Lib.hid hq5
                          have HCT := Lib.hid (show ct = if q5 = true then 0 else t by rw [hct, calm, hq5]; simp)
                          have hblB := Blk.new wr 41 #[.string s', .int .i64 t]
                          have hown2 := hown.alloc (.cells #[.string s', .int .i64 t] 41)
                          have hb2 := hb.alloc hb.size (.cells #[.string s', .int .i64 t] 41)
                          obtain ⟨wa, hwa⟩ : ∃ wa, wa = wr.alloc (.cells #[.string s', .int .i64 t] 41) := ⟨_, rfl⟩
                          obtain ⟨P, hP⟩ : ∃ P, P = wr.heap.size := ⟨_, rfl⟩
                          have hne : vl.ownBlock ≠ some P := fun e => by have := (hown.lt P e).2; omega
                          have hPw : wo.heap.size ≤ P := by rw [hP]; exact hb.size
                          go_upto_region 42 with fail
                          rw [← hwa] at hblB hown2 hb2 ⊢
                          rw [← hP] at hblB ⊢
                          have HB := Lib.hid (And.intro hblB (And.intro hown2 (And.intro hb2 (And.intro hne hPw))))
                          clear hst hct hq5 hwa hP hne hPw hblB hown2 hb2 hown hb e0 e1 hl
                          have y1 : wa.cell? ⟨P, 1, none⟩ = some (.int .i64 t) := HB.out.1.cell 1
                          have y2 : wa.frozen? ⟨P, 1, none⟩ = false := HB.out.1.frozen 1
                          go_cut [154] (fun s wx => s = .bool q5 ∧ wx = wa)
                          case first =>
                            by_cases h2 : t = 2
                            · have HQ6 := Lib.hid (show q5 = true by rw [HQ5.out, h2]; rfl)
                              subst h2
                              go_wp2
                              go_meet
                              exact ⟨by rw [HQ6.out], rfl⟩
                            · have g2 := beq_no h2
                              have HQ6 := Lib.hid (show q5 = (t == 3) by rw [HQ5.out, g2]; rfl)
                              clear h2
                              go_wp2
                              go_meet
                              exact ⟨by rw [HQ6.out], rfl⟩
                          case rest =>
                            obtain ⟨rfl, hw⟩ := hcut
                            subst hw
                            go_upto_if 154 with fail
                            obtain ⟨wa, hwa⟩ : ∃ wa, wa = wc := ⟨_, rfl⟩
                            rw [← hwa] at HB y1 y2 ⊢
                            clear hwa
                            go_cut [] (fun wx => Blk wx P 41 #[.string s', .int .i64 ct] ∧ wx.ownsRow wo.heap.size 41 2 vl l.length (flatK l) ∧ Below wo.heap.size wo wx)
                            case first =>
                              cases q5
                              · have HC2 := Lib.hid (show ct = t by rw [HCT.out, if_neg (by simp)])
                                go_wp2
                                go_meet
                                rw [HC2.out]; exact ⟨HB.out.1, HB.out.2.1, HB.out.2.2.1⟩
                              · have HC2 := Lib.hid (show ct = 0 by rw [HCT.out, if_pos rfl])
                                go_wp2
                                go_meet
                                rw [HC2.out]; exact ⟨HB.out.1.set_ 1 _, HB.out.2.1.kept (row := some P) (only_set (World.grownBy.refl wa _) 1 _) (.inr HB.out.2.2.2.1), HB.out.2.2.1.setCell (p := ⟨P, 1, none⟩) HB.out.2.2.2.2 _⟩
                            case rest =>
                              obtain ⟨hbl, hown, hb⟩ := hcut
                              clear y1 y2 HB
                              have y0 : wc.cell? ⟨P, 0, none⟩ = some (.string s') := hbl.cell 0
                              have y1 : wc.cell? ⟨P, 1, none⟩ = some (.int .i64 ct) := hbl.cell 1
                              have HJ := Lib.hid (And.intro hown hb)
                              clear hbl hown hb
                              by_cases h5 : ct = 5
                              · have HA1 := Lib.hid (show leftTo y (k + 1) = l by rw [HA.out, h5]; rfl)
                                subst h5
                                go_wp2
                                go_roundw
                                case rel => exact ⟨k + 1, by omega, by go_num, by rw [HA1.out]; exact HJ.out.1, HJ.out.2⟩
                                case measure => simp [intOf]; omega
                              · have g5 := beq_no h5
                                by_cases h6 : ct = 6
                                · have HA1 := Lib.hid (show leftTo y (k + 1) = l by rw [HA.out, h6]; rfl)
                                  subst h6
                                  go_wp2
                                  go_roundw
                                  case rel => exact ⟨k + 1, by omega, by go_num, by rw [HA1.out]; exact HJ.out.1, HJ.out.2⟩
                                  case measure => simp [intOf]; omega
                                · have g6 := beq_no h6
                                  have HA1 := Lib.hid (show leftTo y (k + 1) = l ++ [(s', ct)] by rw [HA.out, g5, g6]; rfl)
                                  have b5 : (ct != 5) = true := by simpa using h5
                                  have b6 : (ct != 6) = true := by simpa using h6
                                  go_wp2_with (first
                                    | (at_builtin; refine wpList_append_lies _ rfl _ _ _ rfl wo.heap.size 41 tr _ 2 24 Try.underlying22 hi hz0 hz1 hz2 rfl (by decide) _ l.length (flatK l) rfl (HJ.out.1.alloc _) _ 1 1 [.string s', .int .i64 ct] rfl rfl (World.news_of_block (heap_alloc_new _ _)) (by intro u hu; simp at hu; rcases hu with rfl | rfl <;> rfl) (by omega) (by unfold maxLen; omega) (by omega) (by have := HJ.out.2.size; simp; omega) _ rfl ?_; intro g2 cap2 w2 hown2 hg2 hat2 hlt2; have HW := Lib.hid (And.intro hown2 ((HJ.out.2.alloc HJ.out.2.size _).grown hg2 (HJ.out.2.alloc HJ.out.2.size _).size (fun j hj => (HJ.out.1.lt j hj).1))); clear hown2 hg2 hat2 hlt2))
                                  refine ⟨?_, ?measure⟩
                                  case measure => simp [intOf]; omega
                                  (repeat apply Exists.intro)
                                  refine ⟨?rel, rfl⟩
                                  exact ⟨k + 1, by omega, by go_num, by rw [HA1.out, flatK_snoc, List.length_append]; exact HW.out.1, HW.out.2⟩
                        · obtain rfl : m = k := by omega
                          have hle : l = roundN (r + 1) x1 := by rw [HRN.out, hl]; exact leftTo_end y m (by have := HM.out; omega)
                          rw [hle] at hown
                          obtain ⟨A9, c9, hv⟩ := own_form hown
                          subst hv
                          have HSN := Lib.hid (show Sl w wr A9 c9 (roundN (r + 1) x1) from ⟨own_base hown HS.out.below.size, HS.out.below.trans (hb.mono HS.out.below.size)⟩)
                          clear hle hown hb hl HS HKD
                          go_wp2
                          go_roundw
                          case rel => exact ⟨r + 1, by omega, by go_num, A9, c9, rfl, HSN.out⟩
                          case measure => simp [intOf]; omega
                · obtain rfl : r = 3 := by omega
                  obtain ⟨x, hx⟩ : ∃ x, x = roundN 3 x1 := ⟨_, rfl⟩
                  have hLx : (x = [] ∧ l2.toList = []) ∨ ∃ s, x = [(s, 0)] ∧ s.toList = l2.toList := by rw [hx]; exact HL.out
                  rw [← hx] at hS ⊢
                  clear hx HL HR1 HF H1
                  rcases hLx with ⟨rfl, hl0⟩ | ⟨s, rfl, hsl⟩
                  · have HB := Lib.hid hS.below
                    clear hS
                    have hl1 : l2.toList.isEmpty = true := by simpa using hl0
                    go_wp2
                    go_ret
                    exact ⟨by first | rfl | simp [hl0], HB.out⟩
                  · obtain ⟨g, rfl⟩ := hS.addr (by simp)
                    obtain ⟨e0, e1⟩ := hS.cell 0 (by simp)
                    have e0' : wr.cell? ⟨g, 0, none⟩ = some (.string s) := e0
                    have e1' : wr.cell? ⟨g, 1, none⟩ = some (.int .i64 0) := e1
                    have HB := Lib.hid hS.below
                    have hs' : (s.toList == l2.toList) = true := by simpa using hsl
                    clear hS e0 e1 hsl
                    go_wp2
                    go_ret
                    exact ⟨by first | rfl | simp, HB.out⟩

set_option maxRecDepth 100000 in
set_option maxHeartbeats 1000000 in
theorem slotEnds_lifted (os : Os) (started : os.Started) (H : Type) (enc : TypeId × Value → H) :
    ReturnsInHanded {} Try.checked os 6 .any (Rows.slotEndsSpec.pre6 enc Try.prog Try.f6 Rows.slotEndsRow.domain false) (Rows.slotEndsSpec.post enc Try.prog Try.f6 false true false false) := by
  refine returnsInHanded_of_change (C := Try.checked) own started (by kernel_rfl) Try.func6
    (ChangeSpec.witness6 (enc := enc) (C := Try.checked) false ⟨#[], #[.slice none 0 0, .slice none 0 0, .slice none 0 0], []⟩ 8 (by kernel_rfl) (by kernel_rfl) (by kernel_rfl) (by kernel_rfl)) ?_
  intro W base args ds gs before hval0 hW hcnd _
  have hval : ∀ (j : Nat) t v, Try.f6.params[j]? = some t → args[j]? = some v → Value.okWide Try.prog W .any base t v := hval0
  have hW' := hW
  obtain ⟨p, q, hA0, hV, rfl, hfz, hnd⟩ := hW
  have hA : DataW.TrodAll enc Try.prog W 0 (fun _ => true) true Try.f6.params.toList args.toList ds p := hA0
  rw [Try.params6] at hA hval
  obtain ⟨v0, vs0, d0, ds0, p0, q0, hargs, rfl, rfl, h0, r0⟩ := trodAll_cons hA
  obtain ⟨v1, vs1, d1, ds1, p1, q1, rfl, rfl, rfl, h1, r1⟩ := trodAll_cons r0
  obtain ⟨v2, vs2, d2, ds2, p2, q2, rfl, rfl, rfl, h2, r2⟩ := trodAll_cons r1
  obtain ⟨rfl, rfl, rfl⟩ := trodAll_nil r2
  obtain rfl : args = #[v0, v1, v2] := by cases args; simp_all
  obtain ⟨rfl, rfl⟩ := trodVars_none hV
  have k0 := h0
  have lt0 : ∀ x ∈ p0, x.block < W.heap.size := by obtain ⟨m, hm⟩ := k0; exact DataW.trod_lt m _ _ _ hm
  have k1 := h1
  have lt1 : ∀ x ∈ p1, x.block < W.heap.size := by obtain ⟨m, hm⟩ := k1; exact DataW.trod_lt m _ _ _ hm
  have k2 := h2
  have lt2 : ∀ x ∈ p2, x.block < W.heap.size := by obtain ⟨m, hm⟩ := k2; exact DataW.trod_lt m _ _ _ hm
  obtain ⟨A, n, c, ks, rfl, _, _, hz⟩ := kids_open (hval 0 22 v0 rfl rfl) h0
  obtain ⟨B, nk, ck, kk, rfl, _, _, hk⟩ := strs_open (hval 1 45 v1 rfl rfl) h1
  obtain ⟨C, nm, cm, mm, rfl, _, _, hm⟩ := ints_open (hval 2 28 v2 rfl rfl) h2
  clear hA0 hval0
  refine (slotEnds_walk A B C n c nk ck nm cm ks kk mm W hz hk hm).mono fun e W' ⟨he, bel⟩ => ?_
  subst he
  exact ⟨_, rfl, _, _, _, [], _, [], hW', trodAll_mk1 (shut_bool Try.underlying4 _), (trodAll_cons_mk (Below.trod laid_out (by kernel_rfl) (of_decide_eq_true (by kernel_rfl)) k0 bel lt0) (trodAll_cons_mk (Below.trod laid_out (by kernel_rfl) (of_decide_eq_true (by kernel_rfl)) k1 bel lt1) (trodAll_cons_mk (Below.trod laid_out (by kernel_rfl) (of_decide_eq_true (by kernel_rfl)) k2 bel lt2) trodAll_mk0))), rfl, bel.frame _, fun h => by cases h⟩

/-- The statement. -/
theorem slotEnds_holds : Rows.SlotEndsSaid :=
  OpenClaim.holds_of_wide 6 Try.f6 rfl rfl rfl rfl rfl rfl rfl ⟨rfl, rfl, rfl, rfl, rfl⟩ rfl rfl rfl rfl rfl (by kernel_rfl) Try.func6 (by kernel_rfl)
    (of_decide_eq_true (by kernel_rfl)) (by unfold Func.isWrapper; first | (rw [if_pos (by decide +kernel)]; kernel_rfl) | (rw [if_neg (by decide +kernel)]; exact ⟨rfl, rfl⟩))
    (fun os started H enc _ => slotEnds_lifted os started H enc)
#print axioms slotEnds_holds
end Go.Proofs.Ytkiaaaehakjhjaa
