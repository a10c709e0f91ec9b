/-
  MatchOnce: no old kid is had twice, and none by one that isn't the same. For every input; no condition.
-/
import Derived.Test.YtgopokoghnfgiaaMatchOpen
import Derived.BigQuiet
import Derived.Laws.StructEq
namespace Go.Proofs.Ytgopokoghnfgiaa
open Go.ChangeShapes Go.WideShapes Go.ChangeAt Go.RowKit
attribute [local go_sem ↓] Go.wp_at_zero Go.wp_at_succ

theorem pairTo_take (old fresh : List Kid) (k i : Nat) (h : i ≤ k) : (pairTo old fresh k).take i = pairTo old fresh i := by
  induction k with
  | zero => obtain rfl : i = 0 := by omega
            rfl
  | succ k ih =>
    by_cases e : i = k + 1
    · subst e
      rw [List.take_of_length_le (by rw [pairTo_len]; omega)]
    · rw [pairTo, List.take_append_of_le_length (by rw [pairTo_len]; omega)]
      exact ih (by omega)
/-- What is had. -/
theorem pair_fact (old fresh : List Kid) (i : Nat) (h : i < fresh.length) :
    (pairS old fresh).getD i 0 = -1 ∨ ∃ j : Nat, (pairS old fresh).getD i 0 = (j : Nat) ∧ j < old.length ∧ old.getD j kid0 = fresh.getD i kid0 ∧ hadTo (pairS old fresh) j i = false := by
  rw [pairS, pairTo_pre _ _ _ _ h]
  rcases pick_cases old fresh i with h1 | ⟨j, h1, h2, h3, h4⟩
  · exact .inl h1
  · refine .inr ⟨j, h2, h1, congrArg Prod.fst h3, ?_⟩
    rw [hadTo, pairTo_take _ _ _ _ (by omega)]
    simpa using h4
theorem goneTo_pre (l : List Int) (k m : Nat) (h : k ≤ m) : ∃ t, goneTo l m = goneTo l k ++ t := by
  induction m with
  | zero => obtain rfl : k = 0 := by omega
            exact ⟨[], by simp⟩
  | succ m ih =>
    by_cases e : k = m + 1
    · subst e; exact ⟨[], by simp⟩
    · obtain ⟨t, ht⟩ := ih (by omega)
      rw [goneTo_succ]
      split
      · exact ⟨t, ht⟩
      · exact ⟨t ++ [(m : Int)], by rw [ht, List.append_assoc]⟩
theorem goneTo_next (l : List Int) (k m : Nat) (h : k < m) (hk : l.contains (k : Int) = false) : (goneTo l k).length < (goneTo l m).length ∧ (goneTo l m).getD (goneTo l k).length 0 = (k : Int) := by
  obtain ⟨t, ht⟩ := goneTo_pre l (k + 1) m h
  rw [goneTo_succ, hk, if_neg (by decide)] at ht
  rw [ht]
  refine ⟨by simp, ?_⟩
  simp [List.getD]

set_option maxRecDepth 100000 in
set_option maxHeartbeats 16000000 in
theorem matchOnce_walk (A B : Option Addr) (n c n' c' : Nat) (ks ls : List Kid) (w : World) (hz : Kids w w.heap.size A n ks) (hz' : Kids w w.heap.size B n' ls) (hi : OkI ks) (hi' : OkI ls) :
    Calls Try.prog 5 #[.slice A n c, .slice B n' c'] w fun e w' => e = .returned (.bool true) ∧ Below w.heap.size w w' := by
  obtain ⟨tb, hib, hb0, hb1, hb2⟩ := info_parts bool_info
  have HZ := Lib.hid (And.intro hz (And.intro hz' (And.intro (okK_cut hi 40 (by omega)) (okK_cut hi' 40 (by omega)))))
  clear hz hz' hi hi'
  go_enter Try.func5, Try.ntmps5
  go_wp2_with fail
  refine (awake_any _).mono ?_
  rintro e w1 ⟨rfl, hb1⟩
  have HB1 := Lib.hid hb1
  clear hb1
  obtain ⟨xs, hxs⟩ : ∃ l, l = cutK 40 ks := ⟨_, rfl⟩
  obtain ⟨ys, hys⟩ : ∃ l, l = cutK 40 ls := ⟨_, rfl⟩
  have hx40 : xs.length ≤ 40 := by rw [hxs, cutK_len]; omega
  have hy40 : ys.length ≤ 40 := by rw [hys, cutK_len]; omega
  have HOK := Lib.hid (show OkK xs ∧ OkK ys by rw [hxs, hys]; exact ⟨HZ.out.2.2.1, HZ.out.2.2.2⟩)
  have HX := Lib.hid (And.intro hxs hys)
  clear hxs hys
  go_wp2_with fail
  refine (own_any A n c 40 (by omega) ks _ ((HZ.out.1.below HB1.out).more HB1.out.size)).mono ?_
  rintro e w2 ⟨A1, c1, A2, c2, he, hO⟩
  rw [← HX.out.1] at he hO
  have hcapx := own_cap hO.b
  obtain ⟨z1, z2⟩ := own_kids hO
  have HO := Lib.hid (And.intro z1 (And.intro z2 (HB1.out.trans (hO.below.mono HB1.out.size))))
  obtain ⟨m, hm⟩ : ∃ m, m = xs.length := ⟨_, rfl⟩
  rw [← hm] at he HO hcapx hx40
  subst he
  have HM := Lib.hid hm
  clear hO z1 z2 HB1 hm
  go_wp2_with fail
  refine (own_any B n' c' 40 (by omega) ls _ ((HZ.out.2.1.below HO.out.2.2).more HO.out.2.2.size)).mono ?_
  rintro e w3 ⟨A3, c3, A4, c4, he, hO⟩
  rw [← HX.out.2] at he hO
  have hcapy := own_cap hO.b
  obtain ⟨z1, z2⟩ := own_kids hO
  have HO2 := Lib.hid (And.intro (HO.out.1.keep hO.below) (And.intro (HO.out.2.1.keep hO.below) (And.intro z1 (And.intro z2 (HO.out.2.2.trans (hO.below.mono HO.out.2.2.size))))))
  obtain ⟨m', hm'⟩ : ∃ m, m = ys.length := ⟨_, rfl⟩
  rw [← hm'] at he HO2 hcapy hy40
  subst he
  have HM' := Lib.hid hm'
  clear hO z1 z2 HO hm'
  go_wp2_with fail
  refine (pair_any A1 A3 m c1 m' c3 xs ys _ HO2.out.1 HO2.out.2.2.1 (by omega) (by omega) HOK.out.1 HOK.out.2).mono ?_
  rintro e w4 ⟨A5, c5, rfl, ho5, hb5⟩
  obtain ⟨l, hl⟩ : ∃ l, l = pairS xs ys := ⟨_, rfl⟩
  rw [← hl] at ho5
  have hll : l.length = m' := by rw [hl, pairS_len]; exact HM'.out.symm
  have HL := Lib.hid (And.intro hl hll)
  have HO3 := Lib.hid (And.intro (HO2.out.1.keep hb5) (And.intro (HO2.out.2.1.keep hb5) (And.intro (HO2.out.2.2.1.keep hb5) (And.intro (HO2.out.2.2.2.1.keep hb5) (And.intro (HO2.out.2.2.2.2.trans (hb5.mono HO2.out.2.2.2.2.size)) ho5)))))
  clear HO2 ho5 hb5 hl hll
  go_wp2_with (first
    | (at_make; refine wpList_make_full _ rfl _ _ 35 rfl w4.heap.size 4 tb _ 1 Try.underlying35 hib hb0 hb1 _ _ _ _ m rfl rfl rfl rfl (by rw [hb2]; omega) (by unfold maxLen; omega) (Nat.le_refl _) ?_; intro w5 hown hg1))
  have e : (madeCells (Value.bool false).cells (m * 1)).toList = bls (hadL l m 0) := by
    rw [Nat.mul_one, hadL_zero]
    exact (toList_madeCells_one _ _).trans (by simp [bls])
  rw [e] at hown
  obtain ⟨g, hg⟩ : ∃ g, g = w4.heap.size := ⟨_, rfl⟩
  have HG := Lib.hid hg
  have hbm := below_of_only hg1 (Nat.le_refl w4.heap.size)
  rw [← hg] at hown ⊢
  have HO4 := Lib.hid (And.intro (HO3.out.1.keep hbm) (And.intro (HO3.out.2.1.keep hbm) (And.intro (HO3.out.2.2.1.keep hbm) (And.intro (HO3.out.2.2.2.1.keep hbm) (And.intro (HO3.out.2.2.2.2.1.trans (hbm.mono HO3.out.2.2.2.2.1.size)) (And.intro (Nums.of_own HO3.out.2.2.2.2.2 HL.out.2) HO3.out.2.2.2.2.1.size))))))
  have H0 := Lib.hid (And.intro hown hbm)
  clear e hown hbm hg hg1
  obtain ⟨w4s, hw4s⟩ : ∃ w4s, w4s = w4.heap.size := ⟨_, rfl⟩
  have HW4 := Lib.hid hw4s
  clear hw4s
  go_loopw [41] (fun i wx => ∃ r : Nat, r ≤ m' ∧ i = .int .i64 r ∧ wx.ownsRow g 4 1 (.slice (some ⟨g, 0, none⟩) m m) m (bls (hadL l m r)) ∧ Below w4.heap.size w4 wx) (fun i _ => m' - (intOf i).toNat)
  case atStart => exact ⟨0, Nat.zero_le _, rfl, H0.out.1, H0.out.2⟩
  case round =>
    obtain ⟨r, hr, rfl, hown, hb⟩ := hrel
    by_cases hlt : r < m'
    · obtain ⟨b, off, rfl, hbB, d0⟩ := HO4.out.2.2.2.2.2.1.2 r hlt
      replace d0 := (hb.cell (p := ⟨b, off + r, none⟩) hbB).trans d0
      obtain ⟨z, hz⟩ : ∃ z, z = l.getD r 0 := ⟨_, rfl⟩
      rw [← hz] at d0
      have hfact := pair_fact xs ys r (by have := HM'.out; omega)
      rw [← HL.out.1, ← hz] at hfact
      have i1 : (0 : Int) ≤ (r : Int) := by omega
      have i2 : (r : Int) < (m' : Int) := by omega
      rcases hfact with h | ⟨j, h, hj, hkid, hhad⟩
      · have HH := Lib.hid (hadL_neg l m r (by have := HL.out.2; omega) (by rw [← hz, h]))
        have HI := Lib.hid (And.intro hown hb)
        subst h
        clear hz hown hb H0
        go_wp2
        go_roundw
        case rel => exact ⟨r + 1, by omega, by go_num, by rw [HH.out]; exact HI.out.1, HI.out.2⟩
        case measure => simp [intOf]; omega
      · have hjm : j < m := by have := HM.out; omega
        have HH := Lib.hid (hadL_set l m r j (by have := HL.out.2; omega) (by rw [← hz, h]))
        have y0 := hown.cells (g := g) rfl j _ (hadL_at l m r j hjm)
        have y1 := hown.frozenAt (g := g) j
        rw [Addr.add_lit, Nat.zero_add, hhad] at y0
        obtain ⟨b2, off2, rfl, hb2B, x0, x1⟩ := HO3.out.2.1.2 j hjm
        obtain ⟨b3, off3, rfl, hb3B, x2, x3⟩ := HO3.out.2.2.2.1.2 r hlt
        replace x0 := (hb.cell (p := ⟨b2, off2 + j * 2, none⟩) hb2B).trans x0
        replace x1 := (hb.cell (p := ⟨b2, off2 + j * 2 + 1, none⟩) hb2B).trans x1
        replace x2 := (hb.cell (p := ⟨b3, off3 + r * 2, none⟩) hb3B).trans x2
        replace x3 := (hb.cell (p := ⟨b3, off3 + r * 2 + 1, none⟩) hb3B).trans x3
        rw [hkid] at x0 x1
        obtain ⟨⟨s, t⟩, hst⟩ : ∃ p, p = ys.getD r kid0 := ⟨_, rfl⟩
        rw [← hst] at x0 x1 x2 x3
        simp only [k0, k1] at x0 x1 x2 x3
        have HIO := Lib.hid (And.intro hown hb)
        have j0 : ((j : Int) == -1) = false := by simp
        have j1 : (0 : Int) ≤ (j : Int) := by omega
        have j2 : (j : Int) < (m : Int) := by omega
        have j3 : decide ((j : Int) < 0) = false := by simp
        have j4 : decide ((m : Int) ≤ (j : Int)) = false := by simp; omega
        have j5 : decide (m ≤ j) = false := by simp; omega
        subst h
        clear hz hown hb H0 hkid hhad hst
        go_upto_region 13 with fail
        obtain ⟨wq, hwq⟩ : ∃ wq : World, wq = wr := ⟨_, rfl⟩
        rw [← hwq] at HIO x0 x1 x2 x3 y0 y1 d0 ⊢
        clear hwq
        go_cut [72] (fun s wx => s = .bool false ∧ Below wq.heap.size wq wx)
        case first =>
          go_quiet (fail)
          go_wp2
          go_meet
          exact ⟨rfl, below_drewN (Below.refl _ _) _⟩
        case rest =>
          obtain ⟨rfl, hbq⟩ := hcut
          have hown := own_keep HIO.out.1 hbq
          have hb := HIO.out.2.trans (hbq.mono HIO.out.2.size)
          have y0 := hown.cells (g := g) rfl j _ (hadL_at l m r j hjm)
          have y1 := hown.frozenAt (g := g) j
          rw [Addr.add_lit, Nat.zero_add] at y0
          have hst2 := hown.stored j (.bool true)
          have HI := Lib.hid (And.intro hst2.1 (hb.setCell (p := ⟨g, j, none⟩) (by have := HG.out; show w4.heap.size ≤ g; omega) (.bool true)))
          clear hown hb hst2 hbq HIO
          go_wp2
          go_roundw
          case rel => exact ⟨r + 1, by omega, by go_num, by rw [HH.out]; exact HI.out.1, HI.out.2⟩
          case measure => simp [intOf]; omega
    · obtain rfl : r = m' := by omega
      have HW := Lib.hid (And.intro hown hb)
      clear hown hb H0 hlt
      obtain ⟨wh, hwh⟩ : ∃ wh : World, wh = wr := ⟨_, rfl⟩
      rw [← hwh] at HW ⊢
      clear hwh
      go_wp2_with fail
      refine (gone_any A1 A3 m c1 r c3 xs ys _ ((HO3.out.1.below HW.out.2).more HW.out.2.size) ((HO3.out.2.2.1.below HW.out.2).more HW.out.2.size) (by omega) (by omega) HOK.out.1 HOK.out.2).mono ?_
      rw [goneS, ← HL.out.1, ← HM.out]
      obtain ⟨gl, hgl⟩ : ∃ gl, gl = goneTo l m := ⟨_, rfl⟩
      rw [← hgl]
      rintro e w7 ⟨A7, c7, rfl, ho7, hb7⟩
      have HGL := Lib.hid hgl
      have hgm : gl.length ≤ m := by rw [hgl]; exact goneTo_len l m
      have HR := Lib.hid (And.intro (own_keep HW.out.1 hb7) (And.intro (Nums.of_own ho7 rfl) (HW.out.2.trans (hb7.mono HW.out.2.size))))
      clear hgl ho7 hb7 HW
      obtain ⟨wq, hwq⟩ : ∃ wq : World, wq = w7 := ⟨_, rfl⟩
      rw [← hwq] at HR ⊢
      clear hwq
      obtain ⟨gn, hgn⟩ : ∃ gn, gn = gl.length := ⟨_, rfl⟩
      rw [← hgn] at HR hgm ⊢
      have HGN := Lib.hid hgn
      clear hgn
      go_wp2_with fail
      go_loopw [14, 82] (fun v i wx => ∃ k : Nat, k ≤ m ∧ i = .int .i64 k ∧ v = .int .i64 ((goneTo l k).length : Nat) ∧ wx = wq) (fun _ i _ => m - (intOf i).toNat)
      case atStart => exact ⟨0, Nat.zero_le _, rfl, rfl, rfl⟩
      case round =>
        obtain ⟨k, hk, rfl, rfl, hw⟩ := hrel
        subst hw
        obtain ⟨o, ho⟩ : ∃ o, o = (goneTo l k).length := ⟨_, rfl⟩
        have hok : o ≤ k := by rw [ho]; exact goneTo_len l k
        rw [← ho]
        by_cases hlt : k < m
        · have y0 := HR.out.1.cells (g := g) rfl k _ (hadL_at l m r k hlt)
          rw [Addr.add_lit, Nat.zero_add, hadTo_end l k r (by have := HL.out.2; omega)] at y0
          have HGT := Lib.hid (goneTo_succ l k)
          have HNX := Lib.hid (goneTo_next l k m hlt)
          obtain ⟨q, hq⟩ : ∃ q, q = l.contains (k : Int) := ⟨_, rfl⟩
          rw [← hq] at y0 HGT HNX
          rw [← HGL.out, ← ho, ← HGN.out] at HNX
          have HO := Lib.hid ho
          have i1 : (0 : Int) ≤ (k : Int) := by omega
          have i2 : (k : Int) < (m : Int) := by omega
          clear hq ho
          cases q
          · have HGT2 := Lib.hid (show (goneTo l (k + 1)).length = o + 1 by rw [HGT.out, HO.out]; simp)
            obtain ⟨hog, hat⟩ := HNX.out rfl
            obtain ⟨b4, off4, rfl, _, z0⟩ := HR.out.2.1.2 o hog
            rw [hat] at z0
            have j1 : (0 : Int) ≤ (o : Int) := by omega
            have j2 : (o : Int) < (gn : Int) := by omega
            have j3 : decide ((gn : Int) ≤ (o : Int)) = false := by simp; omega
            have j4 : decide (gn ≤ o) = false := by simp; omega
            clear hat
            go_wp2
            go_roundw
            case rel => exact ⟨k + 1, by omega, by go_num, by rw [HGT2.out]; go_num, trivial⟩
            case measure => simp [intOf]; omega
          · have HGT2 := Lib.hid (show (goneTo l (k + 1)).length = o by rw [HGT.out, HO.out]; rfl)
            go_wp2
            go_roundw
            case rel => exact ⟨k + 1, by omega, by go_num, by rw [HGT2.out], trivial⟩
            case measure => simp [intOf]; omega
        · obtain rfl : k = m := by omega
          obtain rfl : o = gn := by rw [ho, ← HGL.out, HGN.out]
          have HE := Lib.hid (HO3.out.2.2.2.2.1.trans (HR.out.2.2.mono HO3.out.2.2.2.2.1.size))
          clear ho
          go_wp2
          go_ret
          exact ⟨by simp, HE.out⟩

set_option maxRecDepth 100000 in
set_option maxHeartbeats 1000000 in
theorem matchOnce_lifted (os : Os) (started : os.Started) (H : Type) (enc : TypeId × Value → H) :
    ReturnsInHanded {} Try.checked os 5 .any (Rows.matchOnceSpec.pre6 enc Try.prog Try.f5 Rows.matchOnceRow.domain false) (Rows.matchOnceSpec.post enc Try.prog Try.f5 false true false false) := by
  refine returnsInHanded_of_change (C := Try.checked) own started (by kernel_rfl) Try.func5
    (ChangeSpec.witness6 (enc := enc) (C := Try.checked) false ⟨#[], #[.slice none 0 0, .slice none 0 0], []⟩ 8 (by kernel_rfl) (by kernel_rfl) (by kernel_rfl) (by kernel_rfl)) ?_
  intro W base args ds gs before hval0 hW hcnd _
  have hval : ∀ (j : Nat) t v, Try.f5.params[j]? = some t → args[j]? = some v → Value.okWide Try.prog W .any base t v := hval0
  have hW' := hW
  obtain ⟨p, q, hA0, hV, rfl, hfz, hnd⟩ := hW
  have hA : DataW.TrodAll enc Try.prog W 0 (fun _ => true) true Try.f5.params.toList args.toList ds p := hA0
  rw [Try.params5] at hA hval
  obtain ⟨v0, vs0, d0, ds0, p0, q0, hargs, rfl, rfl, h0, r0⟩ := trodAll_cons hA
  obtain ⟨v1, vs1, d1, ds1, p1, q1, rfl, rfl, rfl, h1, r1⟩ := trodAll_cons r0
  obtain ⟨rfl, rfl, rfl⟩ := trodAll_nil r1
  obtain rfl : args = #[v0, v1] := by cases args; simp_all
  obtain ⟨rfl, rfl⟩ := trodVars_none hV
  have k0 := h0
  have lt0 : ∀ x ∈ p0, x.block < W.heap.size := by obtain ⟨m, hm⟩ := k0; exact DataW.trod_lt m _ _ _ hm
  have k1 := h1
  have lt1 : ∀ x ∈ p1, x.block < W.heap.size := by obtain ⟨m, hm⟩ := k1; exact DataW.trod_lt m _ _ _ hm
  obtain ⟨A, n, c, ks, rfl, _, _, hz, hi⟩ := kids_open (hval 0 22 v0 rfl rfl) h0
  obtain ⟨B, n', c', ls, rfl, _, _, hz', hi'⟩ := kids_open (hval 1 22 v1 rfl rfl) h1
  clear hA0 hval0
  refine (matchOnce_walk A B n c n' c' ks ls W hz hz' hi hi').mono fun e W' ⟨he, bel⟩ => ?_
  subst he
  exact ⟨_, rfl, _, _, _, [], _, [], hW', trodAll_mk1 (shut_bool Try.underlying4 _), (trodAll_cons_mk (Below.trod laid_out (by kernel_rfl) (of_decide_eq_true (by kernel_rfl)) k0 bel lt0) (trodAll_cons_mk (Below.trod laid_out (by kernel_rfl) (of_decide_eq_true (by kernel_rfl)) k1 bel lt1) trodAll_mk0)), rfl, bel.frame _, fun h => by cases h⟩

/-- The statement. -/
theorem matchOnce_holds : Rows.MatchOnceSaid :=
  OpenClaim.holds_of_wide 5 Try.f5 rfl rfl rfl rfl rfl rfl rfl ⟨rfl, rfl, rfl, rfl, rfl⟩ rfl rfl rfl rfl rfl (by kernel_rfl) Try.func5 (by kernel_rfl)
    (of_decide_eq_true (by kernel_rfl)) (by unfold Func.isWrapper; first | (rw [if_pos (by decide +kernel)]; kernel_rfl) | (rw [if_neg (by decide +kernel)]; exact ⟨rfl, rfl⟩))
    (fun os started H enc _ => matchOnce_lifted os started H enc)
#print axioms matchOnce_holds
end Go.Proofs.Ytgopokoghnfgiaa
