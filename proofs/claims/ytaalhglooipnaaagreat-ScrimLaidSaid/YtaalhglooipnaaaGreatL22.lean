/-
  The document's Lay.
-/
import Derived.Test.YtaalhglooipnaaaGreatL21
namespace Go.Proofs.YtaalhglooipnaaaGreat
open Go.RowKit RT
attribute [local go_sem ↓] Go.wp_at_zero Go.wp_at_succ

set_option maxRecDepth 100000 in
set_option maxHeartbeats 8000000 in
theorem rlay_any (m : Nat) : ∀ (t : STr) (v : Value) (g : Int) (w : World), m ≤ 40 → t.size ≤ m → All stOk t → IsT sK w (Old w) t v → Calls Tryz.prog 40 #[v, .int .i64 g] w (RlPost t g w) := by
  induction m with
  | zero => intro t v g w _ h; have := size_pos t; omega
  | succ m ih =>
    intro t v g w hm hsz hal hT
    obtain ⟨A4, c4, vs, ⟨a1, a2, a3, rfl, hr⟩, hvs, hks⟩ := IsT.eq.1 hT
    obtain ⟨hs, hals⟩ := All.eq.1 hal
    have hkl := kids_len hsz
    have hks1 := fun k hk => kid_size hsz k hk
    have HEQ := Lib.hid (And.intro (boxT_eq t (0, 0) g) (And.intro (rsizeT_eq t g) (natT_eq t)))
    unfold RlPost
    obtain ⟨bt, hbt⟩ : ∃ bt, bt = boxT t (0, 0) g := ⟨_, rfl⟩
    rw [← hbt] at HEQ ⊢
    obtain ⟨d, hd⟩ : ∃ d, d = t.dat := ⟨_, rfl⟩
    obtain ⟨ks, hkse⟩ : ∃ ks, ks = t.kids := ⟨_, rfl⟩
    rw [← hd] at hr hs HEQ ⊢
    rw [← hkse] at hvs hks hals hkl hks1 HEQ ⊢
    clear hT hal hd hkse hsz hbt
    obtain ⟨A1, c1, A2, c2, A3, c3, rfl, rfl, rfl, hrr⟩ := hr
    have hr : Rows3 w (Old w) d.cl d.at_ d.st (.slice A1 d.cl.length c1) (.slice A2 d.at_.length c2) (.slice A3 d.st.length c3) := ⟨A1, c1, A2, c2, A3, c3, rfl, rfl, rfl, hrr⟩
    obtain ⟨w1, hw1, hX, hRR, hB0, hs1⟩ := two_new w (sC d (.slice A1 d.cl.length c1) (.slice A2 d.at_.length c2) (.slice A3 d.st.length c3) (.slice A4 ks.length c4)).toArray zs_bx 68 118
    unfold sV sC
    unfold sC zs_bx at hw1
    unfold sC at hX
    go_enter Tryz.func40, Tryz.ntmps40
    go_upto_region 1 with fail
    rw [← hw1]
    obtain ⟨X, hXe⟩ : ∃ X, X = w.heap.size := ⟨_, rfl⟩
    rw [← hXe] at hX hRR hs1 ⊢
    have HX := Lib.hid hX
    have HB := Lib.hid hB0
    have HR := Lib.hid (hr.old hB0)
    have HRS := Lib.hid (And.intro hRR (And.intro hXe hs1))
    have HKS := Lib.hid (And.intro (show Vs 8 w1 (Old w) A4 ks.length vs from hvs.move (.of_below hB0 fun _ h => h)) (And.intro (hks.move (w' := w1) (.of_below hB0 fun _ h => h)) (fun b (h : Old w b) => show b < w1.heap.size from Nat.lt_of_lt_of_le h hB0.size)))
    have HB1 := Lib.hid (Below.refl w1.heap.size w1)
    obtain ⟨x0, x1, x2, x3, x4, x5, x6, x7⟩ := rcells (a1 := .slice A1 d.cl.length c1) (a2 := .slice A2 d.at_.length c2) (a3 := .slice A3 d.st.length c3) (k := .slice A4 ks.length c4) hX
    have HPS := Lib.hid ((hrr.2.2.move (w' := w1) (.of_below hB0 fun _ h => h)).weak (S' := Old w1) fun b h => Nat.lt_of_lt_of_le h hB0.size)
    clear hw1 hXe hX hRR hB0 hs1 hr hrr hvs hks
    by_cases hk1 : d.kind = 1
    · have HE := Lib.hid (show bt = .mk ⟨d.id, 0, 0, Fl.P1.sat d.text.size, 1⟩ [] by rw [HEQ.out.1, HEQ.out.2.1, HEQ.out.2.2, if_pos hk1, if_pos hk1, if_pos hk1])
      have i1 : (d.kind == 1) = true := by simp [hk1]
      clear hk1 HEQ
      obtain ⟨kd, hkd⟩ : ∃ kd, kd = d.kind := ⟨_, rfl⟩
      go_upto_region 2 with fail
      refine wp_region_tail 8 _ ?_ ?_ ?_ ?_ (RlyR2 w1 X d A1 A2 A3 A4 c1 c2 c3 ks.length c4) (fun j v wx wy => RlyR2_keep _ _ _ _ _ _ _ _ _ _ _ _ j v wx wy) ?_ ?_ ?_
      · kernel_rfl
      · kernel_rfl
      · kernel_rfl
      · kernel_rfl
      · refine ⟨opV rfl fun s wx hb hd => ⟨_, ex_fld rfl (lit_out 2 (by kernel_rfl)) (fa_rt_0 _ wx), rfl⟩, ?_⟩
        refine ⟨opV rfl fun s wx hb hd => ⟨_, ex_ld rfl ((lit_at 0 32 (by kernel_rfl) (by kernel_rfl) (by kernel_rfl)).trans (hd 0 (by kernel_rfl))) (ld_int (((HX.out).below hb (HX.out).lt).cell 0)), rfl⟩, ?_⟩
        refine ⟨opV rfl fun s wx hb hd => ⟨_, ex_fld rfl (lit_out 2 (by kernel_rfl)) (fa_rt_3 _ wx), rfl⟩, ?_⟩
        refine ⟨opV rfl fun s wx hb hd => ⟨_, ex_ld rfl ((lit_at 2 34 (by kernel_rfl) (by kernel_rfl) (by kernel_rfl)).trans (hd 2 (by kernel_rfl))) (ld_string (((HX.out).below hb (HX.out).lt).cell 3)), rfl⟩, ?_⟩
        refine ⟨opV rfl fun s wx hb hd => ⟨_, ex_lenS rfl rfl ((lit_at 3 35 (by kernel_rfl) (by kernel_rfl) (by kernel_rfl)).trans (hd 3 (by kernel_rfl))), rfl⟩, ?_⟩
        refine ⟨opC rfl fun s wx hb hd => ⟨_, _, ex_c1 rfl rfl (enters Tryz.func75 (by kernel_rfl) rfl _ _) ((lit_at 4 36 (by kernel_rfl) (by kernel_rfl) (by kernel_rfl)).trans (hd 4 (by kernel_rfl))), ?_⟩, ?_⟩
        · refine (Fl.rsat_any d.text.size wx).mono ?_
          rintro e1 w1 ⟨rfl, rfl⟩
          exact ⟨_, rfl, rfl, Below.refl _ _⟩
        refine ⟨opV rfl fun s wx hb hd => ⟨_, ex_bld2 rfl ((lit_at 5 37 (by kernel_rfl) (by kernel_rfl) (by kernel_rfl)).trans (hd 5 (by kernel_rfl))) rfl (bld_rr _ _ wx), rfl⟩, ?_⟩
        refine ⟨opV rfl fun s wx hb hd => ⟨_, ex_bld2 rfl ((lit_at 1 33 (by kernel_rfl) (by kernel_rfl) (by kernel_rfl)).trans (hd 1 (by kernel_rfl))) ((lit_at 6 38 (by kernel_rfl) (by kernel_rfl) (by kernel_rfl)).trans (hd 6 (by kernel_rfl))) (bld_bx2 _ _ _ _ _ wx), rfl⟩, ?_⟩
        trivial
      rotate_left
      · kernel_rfl
      intro s wz hbz hV
      have e7 : s 7 = bV ⟨d.id, 0, 0, Fl.P1.sat d.text.size, 1⟩ (.slice none 0 0) := hV 7 (by omega)
      clear hV
      simp only [List.take_succ_cons, List.take_zero, List.drop_succ_cons, List.drop_zero, litOf, List.map_cons, List.map_nil, Nat.zero_add, Nat.reduceAdd, Act.put, List.setIfInBounds_toArray, List.set_cons_succ, List.set_cons_zero]
      refine wpList_store_blk rfl 118 _ _ rfl (X + 1) (bC ⟨d.id, 0, 0, Fl.P1.sat d.text.size, 1⟩ (.slice none 0 0)).toArray rfl e7 118 zs_bx (HRS.out.1.below hbz HRS.out.1.lt) rfl sz_bx (bC_all _ rfl) ?_
      intro wa hNa hga hsa
      refine wpList_nil ?_
      simp only [Act.put, List.setIfInBounds_toArray, List.set_cons_succ, List.set_cons_zero]
      have hB2 : Below w.heap.size w wa := (HB.out.trans (hbz.mono HB.out.size)).grown hga (Nat.le_trans HB.out.size hbz.size) (fun j hj => by cases hj; have := HRS.out; omega)
      have HF := Lib.hid (And.intro hNa hB2)
      clear hbz e7 hNa hga hsa hB2 x0 x1 x2 x3 x4 x5 x6 x7
      go_wp2_with fail
      exact bodyPost_ret (v := bV ⟨d.id, 0, 0, Fl.P1.sat d.text.size, 1⟩ (.slice none 0 0)) (results_cell_row rfl _ _ (X + 1) 118 _ (0, 0) _ rfl HF.out.1 Tryz.underlying118 rfl sz_bx) rfl ⟨_, rfl, by rw [HE.out]; exact IsT.eq.2 ⟨none, 0, [], rfl, RdS.nil _ _ _, IsTs.nil⟩, HF.out.2⟩
    · have HE1 := Lib.hid (show bt = .mk ⟨d.id, 0, 0, widthV d g, if (gtS d.st nmH).2 = true then styV d nmH else Fl.P1.add (Fl.P1.add (putT d (insV d g) ks).y (putT d (insV d g) ks).h) (Fl.P1.add (styV d nmPad) (styV d nmPad))⟩ (boxesT d (insV d g) ks (putT d (insV d g) ks).out) by rw [HEQ.out.1, HEQ.out.2.1, if_neg hk1, if_neg hk1])
      have i1 : (d.kind == 1) = false := by simp [hk1]
      clear hk1 HEQ
      go_wp2_with fail
      have hc2 := rstyle_any d (.slice A1 d.cl.length c1) (.slice A2 d.at_.length c2) (.slice A3 d.st.length c3) A4 ks.length c4 nmW w1 (HR.out.old HB1.out) hs
      unfold sV sC at hc2
      refine hc2.mono ?_
      clear hc2
      rintro e2 w2 ⟨rfl, hb2⟩
      have HBN := Lib.hid (HB1.out.trans (hb2.mono HB1.out.size))
      clear HB1 hb2 x0 x1 x2 x3 x4 x5 x6 x7
      have HB1 := HBN
      clear HBN
      obtain ⟨x0, x1, x2, x3, x4, x5, x6, x7⟩ := rcells (a1 := .slice A1 d.cl.length c1) (a2 := .slice A2 d.at_.length c2) (a3 := .slice A3 d.st.length c3) (k := .slice A4 ks.length c4) (HX.out.below HB1.out HX.out.lt)
      obtain ⟨WW, hWW⟩ : ∃ WW, WW = widthV d g := ⟨_, rfl⟩
      have HWW := Lib.hid hWW
      rw [widthV] at hWW
      have hII : insV d g = max 0 (Fl.P1.sub (Fl.P1.sub WW (styV d nmPad)) (styV d nmPad)) := by rw [insV, HWW.out]
      obtain ⟨II, hI⟩ : ∃ II, II = insV d g := ⟨_, rfl⟩
      rw [← HWW.out, ← hI] at HE1
      rw [← hI] at hII
      have HII := Lib.hid hII
      clear hII hI HWW
      obtain ⟨y, hy⟩ : ∃ y, y = styV d nmW := ⟨_, rfl⟩
      obtain ⟨q, hq⟩ : ∃ q, q = (gtS d.st nmW).2 := ⟨_, rfl⟩
      rw [← hy, ← hq] at hWW ⊢
      have HH := Lib.hid hWW
      clear hy hq hWW
      go_upto_if 46 with fail
      go_cut [5] (fun s5 wx => s5 = .int .i64 WW ∧ wx = w2)
      case first =>
        cases q
        · have HE2 := Lib.hid (show WW = Fl.P14.least g by rw [HH.out]; rfl)
          go_wp2_with (first | (go_at_call 76; ((with_reducible refine (Fl.rleast_any _ _).mono ?_); rintro e w' ⟨rfl, rfl⟩)))
          go_meet
          exact ⟨by rw [HE2.out], rfl⟩
        · have HE2 := Lib.hid (show WW = y by rw [HH.out]; rfl)
          go_wp2_with fail
          go_meet
          exact ⟨by rw [HE2.out], rfl⟩
      case rest =>
        obtain ⟨rfl, rfl⟩ := hcut
        clear HH
        go_wp2_with fail
        have hc3 := rstyle_any d (.slice A1 d.cl.length c1) (.slice A2 d.at_.length c2) (.slice A3 d.st.length c3) A4 ks.length c4 nmPad wc (HR.out.old HB1.out) hs
        unfold sV sC at hc3
        refine hc3.mono ?_
        clear hc3
        rintro e3 w3 ⟨rfl, hb3⟩
        have HBN := Lib.hid (HB1.out.trans (hb3.mono HB1.out.size))
        clear HB1 hb3 x0 x1 x2 x3 x4 x5 x6 x7
        have HB1 := HBN
        clear HBN
        obtain ⟨x0, x1, x2, x3, x4, x5, x6, x7⟩ := rcells (a1 := .slice A1 d.cl.length c1) (a2 := .slice A2 d.at_.length c2) (a3 := .slice A3 d.st.length c3) (k := .slice A4 ks.length c4) (HX.out.below HB1.out HX.out.lt)
        obtain ⟨pad, hpad⟩ : ∃ pad, pad = styV d nmPad := ⟨_, rfl⟩
        rw [← hpad] at HII HE1 ⊢
        have HPD := Lib.hid hpad
        clear hpad
        go_wp2_with fail
        have hc4 := rstyle_any d (.slice A1 d.cl.length c1) (.slice A2 d.at_.length c2) (.slice A3 d.st.length c3) A4 ks.length c4 nmGap w3 (HR.out.old HB1.out) hs
        unfold sV sC at hc4
        refine hc4.mono ?_
        clear hc4
        rintro e4 w4 ⟨rfl, hb4⟩
        have HBN := Lib.hid (HB1.out.trans (hb4.mono HB1.out.size))
        clear HB1 hb4 x0 x1 x2 x3 x4 x5 x6 x7
        have HB1 := HBN
        clear HBN
        obtain ⟨x0, x1, x2, x3, x4, x5, x6, x7⟩ := rcells (a1 := .slice A1 d.cl.length c1) (a2 := .slice A2 d.at_.length c2) (a3 := .slice A3 d.st.length c3) (k := .slice A4 ks.length c4) (HX.out.below HB1.out HX.out.lt)
        obtain ⟨gap, hgap⟩ : ∃ gap, gap = styV d nmGap := ⟨_, rfl⟩
        rw [← hgap]
        have HGP := Lib.hid hgap
        clear hgap
        go_wp2_with fail
        have hc5 := rstyle_any d (.slice A1 d.cl.length c1) (.slice A2 d.at_.length c2) (.slice A3 d.st.length c3) A4 ks.length c4 nmCols w4 (HR.out.old HB1.out) hs
        unfold sV sC at hc5
        refine hc5.mono ?_
        clear hc5
        rintro e5 w5 ⟨rfl, hb5⟩
        have HBN := Lib.hid (HB1.out.trans (hb5.mono HB1.out.size))
        clear HB1 hb5 x0 x1 x2 x3 x4 x5 x6 x7
        have HB1 := HBN
        clear HBN
        obtain ⟨x0, x1, x2, x3, x4, x5, x6, x7⟩ := rcells (a1 := .slice A1 d.cl.length c1) (a2 := .slice A2 d.at_.length c2) (a3 := .slice A3 d.st.length c3) (k := .slice A4 ks.length c4) (HX.out.below HB1.out HX.out.lt)
        obtain ⟨cl, hcl⟩ : ∃ cl, cl = colsV d := ⟨_, rfl⟩
        have HCL := Lib.hid hcl
        rw [colsV] at hcl
        obtain ⟨sc, hsc⟩ : ∃ sc, sc = styV d nmCols := ⟨_, rfl⟩
        rw [← hsc] at hcl ⊢
        have HSC := Lib.hid hcl
        clear hsc hcl
        go_wp2_with fail
        refine (get_ref A3 d.st.length c3 d.st nmFlow w5 ((HPS.out.move (.of_below HB1.out fun _ h => h)).rd fun b h => Nat.lt_of_lt_of_le h HB1.out.size) hs.2 hs.1).mono ?_
        rintro e6 w6 ⟨rfl, hw6⟩
        rw [hw6]
        clear hw6 w6
        obtain ⟨F, hF⟩ : ∃ F, F = (gtS d.st nmFlow).1 := ⟨_, rfl⟩
        obtain ⟨qF, hqF⟩ : ∃ qF, qF = (gtS d.st nmFlow).2 := ⟨_, rfl⟩
        obtain ⟨WY, hWY⟩ : ∃ WY, WY = wayV d := ⟨_, rfl⟩
        have hw2 := hWY
        rw [wayV, ← hF] at hw2
        rw [← hF, ← hqF]
        have HWY := Lib.hid hWY
        have HWF := Lib.hid hw2
        have hwy : Hid (WY = 0 ∨ WY = 1 ∨ WY = 2) := Lib.hid (by
          rw [hw2]
          by_cases h : F = 1 ∨ F = 2
          · rw [if_pos h]; omega
          · rw [if_neg h]; omega)
        clear hF hqF hWY hw2
        obtain ⟨fb, hfb⟩ : ∃ fb, fb = (!(decide (F = 1)) && !(decide (F = 2))) := ⟨_, rfl⟩
        have HFB := Lib.hid hfb
        clear hfb
        go_upto_region 11 with fail
        rw [← HSC.out]
        have hcl1 : 1 ≤ cl := by rw [HSC.out]; omega
        have hcl2 : cl ≤ 64 := by rw [HSC.out]; omega
        have HC64 := Lib.hid (And.intro hcl1 hcl2)
        have icl : wrap64 (cl - 1) = cl - 1 := by unfold wrap64; omega
        clear hcl1 hcl2
        go_cut [78] (fun s wx => s = .bool fb ∧ wx = w5)
        case first =>
          by_cases h1 : F = 1
          · have HE := Lib.hid (show fb = false by rw [HFB.out, h1]; rfl)
            subst h1
            clear HFB HWF
            go_wp2_with fail
            go_meet
            exact ⟨by rw [HE.out], rfl⟩
          · by_cases h2 : F = 2
            · have HE := Lib.hid (show fb = false by rw [HFB.out, h2]; rfl)
              subst h2
              clear HFB HWF h1
              go_wp2_with fail
              go_meet
              exact ⟨by rw [HE.out], rfl⟩
            · have HE := Lib.hid (show fb = true by rw [HFB.out]; simp [h1, h2])
              have j1 : (F == 1) = false := by simp [h1]
              have j2 : (F == 2) = false := by simp [h2]
              have j3 : (F != 1) = true := by simp [h1]
              have j4 : (F != 2) = true := by simp [h2]
              clear HFB HWF h1 h2
              go_wp2_with fail
              go_meet
              exact ⟨by rw [HE.out], rfl⟩
        case rest =>
          obtain ⟨rfl, rfl⟩ := hcut
          go_upto_if 78 with fail
          go_cut [13] (fun s wx => s = .int .i64 WY ∧ wx = wc)
          case first =>
            cases fb
            · have HE := Lib.hid (show WY = F by
                have := HFB.out
                rw [HWF.out]
                by_cases h1 : F = 1
                · rw [if_pos (.inl h1)]
                · by_cases h2 : F = 2
                  · rw [if_pos (.inr h2)]
                  · simp [h1, h2] at this)
              go_wp2_with fail
              go_meet
              exact ⟨by rw [HE.out], rfl⟩
            · have HE := Lib.hid (show WY = 0 by
                have := HFB.out
                rw [HWF.out]
                by_cases h1 : F = 1
                · simp [h1] at this
                · by_cases h2 : F = 2
                  · simp [h2] at this
                  · rw [if_neg (by omega)])
              go_wp2_with fail
              go_meet
              exact ⟨by rw [HE.out], rfl⟩
          case rest =>
            obtain ⟨rfl, rfl⟩ := hcut
            clear HFB HWF
            go_upto_region 15 with (first | (go_at_call 78; ((with_reducible refine (Fl.rsub_any _ _ _).mono ?_); rintro e w' ⟨rfl, rfl⟩)))
            rw [← HII.out]
            obtain ⟨EE, hEE⟩ : ∃ EE, EE = eachV d II := ⟨_, rfl⟩
            have HEE := Lib.hid hEE
            rw [eachV, ← HWY.out, colV, ← HCL.out, ← HGP.out] at hEE
            have HEF := Lib.hid hEE
            clear hEE
            clear HII
            obtain ⟨ey, hey⟩ : ∃ ey, ey = (WY == 2) := ⟨_, rfl⟩
            have HEY := Lib.hid hey
            go_upto_if 87 with fail
            rw [← hey]
            clear hey
            go_cut [16] (fun s wx => s = .int .i64 EE ∧ wx = wc)
            case first =>
              cases ey
              · have HE := Lib.hid (show EE = II by rw [HEF.out, if_neg (by have := HEY.out; intro h; subst h; simp at this)])
                clear HEF
                go_wp2_with fail
                go_meet
                exact ⟨by rw [HE.out], rfl⟩
              · have HE := Lib.hid (show EE = max 0 (Fl.P1.div (Fl.P1.sub II (Fl.P1.mul (cl - 1) gap)) cl) by rw [HEF.out, if_pos (by have := HEY.out; simpa using this.symm)])
                clear HEF
                go_wp2_with (first | (go_at_call 78; ((with_reducible refine (Fl.rsub_any _ _ _).mono ?_); rintro e w' ⟨rfl, rfl⟩)) | (go_at_call 80; ((with_reducible refine (Fl.rmul_any _ _ _).mono ?_); rintro e w' ⟨rfl, rfl⟩)) | (go_at_call 79; ((with_reducible refine (Fl.rdiv_any _ _ _).mono ?_); rintro e w' ⟨rfl, rfl⟩)))
                go_meet
                exact ⟨by rw [HE.out], rfl⟩
            case rest =>
              obtain ⟨rfl, rfl⟩ := hcut
              obtain ⟨w0, rfl⟩ : ∃ w0, w0 = wc := ⟨_, rfl⟩
              clear HEF HEY
              go_upto_region 20 with fail
              have HB0 := Lib.hid HB1.out.size
              have HST := Lib.hid (BxI.start w0)
              obtain ⟨wb, hwb⟩ : ∃ wb, wb = (w0.alloc (.cells #[] 118)).alloc (.cells #[] 157) := ⟨_, rfl⟩
              rw [← hwb] at HST ⊢
              clear hwb
              obtain ⟨WB, hWB⟩ : ∃ WB, WB = w0.heap.size := ⟨_, rfl⟩
              rw [← hWB] at HST ⊢
              clear hWB x0 x1 x2 x3 x4 x5 x6 x7
              have x7 : wb.cell? ⟨X, 7, none⟩ = some (.slice A4 ks.length c4) := (HX.out.below (HB1.out.trans (HST.out.bel.mono HB1.out.size)) HX.out.lt).cell 7
              obtain ⟨trb, hti, hz0, hz1, hz2⟩ := info_parts bx_info
              obtain ⟨trs, hsi, hy0, hy1, hy2⟩ := info_parts rsz_info
              go_wp2_with fail
              go_loopw [17, 18, 106] (fun u v i wx => ∃ k us, k ≤ ks.length ∧ i = .int .i64 (k : Nat) ∧ BxI w0 k k (boxes0 d II (ks.take k)) (sizesT d II (ks.take k)) u v us wx) (fun _ _ i _ => ks.length - (intOf i).toNat)
              case atStart => exact ⟨0, [], Nat.zero_le _, rfl, by rw [List.take_zero, sizesT]; exact HST.out⟩
              case round =>
                obtain ⟨k, us, hk, rfl, hI⟩ := hrel
                obtain ⟨v0, hv0⟩ : ∃ v0, v0 = u17 := ⟨_, rfl⟩
                obtain ⟨z0, hz0'⟩ : ∃ z0, z0 = u18 := ⟨_, rfl⟩
                rw [← hv0, ← hz0'] at hI ⊢
                clear hv0 hz0'
                by_cases hlt : k < ks.length
                · obtain ⟨kd, hkd⟩ : ∃ kd : STr, kd = ks[k]'hlt := ⟨_, rfl⟩
                  have hkd1 : kd.size ≤ m := by rw [hkd]; exact hks1 k hlt
                  have hkd2 : All stOk kd := by rw [hkd]; exact hals.at_ k hlt
                  have hkd3 : ks.take (k + 1) = ks.take k ++ [kd] := by rw [hkd]; simp
                  have hT : IsT sK w1 (Old w) kd (vs.getD k agg0) := by rw [hkd]; exact HKS.out.2.1.at_ k hlt
                  clear hkd
                  have hb1r : Below w1.heap.size w1 wr := HB1.out.trans (hI.bel.mono HB1.out.size)
                  obtain ⟨A', c', vs', ⟨k1, k2, k3, hv, B1, b1, B2, b2, B3, b3, rfl, rfl, rfl, _⟩, _, _⟩ := IsT.eq.1 hT
                  obtain ⟨e, he⟩ : ∃ e, e = kd.dat := ⟨_, rfl⟩
                  obtain ⟨m', hm'⟩ : ∃ v, v = kd.kids.length := ⟨_, rfl⟩
                  rw [← he, ← hm'] at hv
                  obtain ⟨b, off, rfl, hbB, d0, d1, d2, d3, d4, d5, d6, d7⟩ := Vs.shown HKS.out.1 k hlt hv (Still.of_below hb1r HKS.out.2.2)
                  rw [hv] at hT
                  have i2 : (0 : Int) ≤ (k : Int) := by omega
                  have i3 : (k : Int) < (ks.length : Int) := by omega
                  obtain ⟨wk, hwk, hK8, hBk, hsk⟩ := one_new wr (sC e (.slice B1 e.cl.length b1) (.slice B2 e.at_.length b2) (.slice B3 e.st.length b3) (.slice A' m' c')).toArray 68
                  unfold sC at hwk hK8
                  have HTK := Lib.hid (show IsT sK wk (Old wk) kd (sV e (.slice B1 e.cl.length b1) (.slice B2 e.at_.length b2) (.slice B3 e.st.length b3) (.slice A' m' c')) from (hT.move (.of_below (hb1r.trans (hBk.mono hb1r.size)) HKS.out.2.2)).weak fun b hb' => Nat.lt_of_lt_of_le (HKS.out.2.2 b hb') (Nat.le_trans hb1r.size hBk.size))
                  obtain ⟨G, hG⟩ : ∃ G, G = givenT d kd II := ⟨_, rfl⟩
                  have HGS := Lib.hid hG
                  rw [givenT, ← HWY.out, ← HEE.out] at hG
                  have HGV := Lib.hid hG
                  have HNT := Lib.hid (fun wx (hb : Below wk.heap.size wk wx) => rnatural_any 1000 kd _ wx (by omega) (Nat.le_refl _) hkd2 (HTK.out.keep hb))
                  have HIH := Lib.hid (fun wx (hb : Below wk.heap.size wk wx) => ih kd _ G wx (by omega) hkd1 hkd2 (HTK.out.keep hb))
                  unfold sV sC at HNT HIH
                  have HTS := Lib.hid hkd3
                  have HIK := Lib.hid (hI.keep hBk)
                  clear hT hv he hm' hG hkd3
                  go_upto_region 24 with fail
                  rw [← hwk]
                  obtain ⟨K8, hK8e⟩ : ∃ K8, K8 = wr.heap.size := ⟨_, rfl⟩
                  rw [← hK8e] at hK8 ⊢
                  have HK8 := Lib.hid hK8
                  obtain ⟨y0, y1, y2, y3, y4, y5, y6, y7⟩ := rcells (a1 := .slice B1 e.cl.length b1) (a2 := .slice B2 e.at_.length b2) (a3 := .slice B3 e.st.length b3) (k := .slice A' m' c') hK8
                  clear hwk hK8 hBk hsk hI hK8e d0 d1 d2 d3 d4 d5 d6 d7 hbB hb1r x7
                  obtain ⟨ey, hey⟩ : ∃ ey, ey = (WY == 1) := ⟨_, rfl⟩
                  have HEY := Lib.hid hey
                  go_upto_if 112 with fail
                  rw [← hey]
                  clear hey
                  go_cut [21] (fun s wx => s = .int .i64 G ∧ Below wk.heap.size wk wx)
                  case first =>
                    cases ey
                    · have HE := Lib.hid (show G = EE by rw [HGV.out, if_neg (by have := HEY.out; intro h; subst h; simp at this)])
                      clear HGV HNT HIH
                      go_wp2_with fail
                      go_meet
                      exact ⟨by rw [HE.out], Below.refl _ _⟩
                    · have HE := Lib.hid (show G = natT kd by rw [HGV.out, if_pos (by have := HEY.out; simpa using this.symm)])
                      clear HGV HIH
                      go_wp2_with fail
                      refine (HNT.out wk (Below.refl _ _)).mono ?_
                      rintro e8 w8 ⟨rfl, hb8⟩
                      have HB8 := Lib.hid hb8
                      rw [← HE.out]
                      clear hb8 HNT
                      go_wp2_with fail
                      go_meet
                      exact ⟨rfl, HB8.out⟩
                  case rest =>
                    obtain ⟨rfl, hb9⟩ := hcut
                    have HB9 := Lib.hid hb9
                    clear HGV HNT HEY y0 y1 y2 y3 y4 y5 y6 y7
                    obtain ⟨y0, y1, y2, y3, y4, y5, y6, y7⟩ := rcells (a1 := .slice B1 e.cl.length b1) (a2 := .slice B2 e.at_.length b2) (a3 := .slice B3 e.st.length b3) (k := .slice A' m' c') (HK8.out.below hb9 HK8.out.lt)
                    clear hb9
                    go_wp2_with fail
                    refine (HIH.out wc HB9.out).mono ?_
                    rintro e5 w5 ⟨v5, rfl, hT5, hb5⟩
                    obtain ⟨AK, cK, rfl⟩ := hT5.form
                    have hbw : (boxT kd (0, 0) G).dat.w = (sizeT kd G).1 := by rw [boxT_eq]; rfl
                    have hbh : (boxT kd (0, 0) G).dat.h = (sizeT kd G).2 := by rw [boxT_eq]; rfl
                    have hz1s : sizesT d II (ks.take (k + 1)) = sizesT d II (ks.take k) ++ [((boxT kd (0, 0) G).dat.w, (boxT kd (0, 0) G).dat.h)] := by rw [HTS.out, sizesT_snoc, ← HGS.out, hbw, hbh]
                    have hb1s : boxes0 d II (ks.take (k + 1)) = boxes0 d II (ks.take k) ++ [boxT kd (0, 0) G] := by rw [HTS.out, boxes0_snoc, ← HGS.out]
                    obtain ⟨bk, hbk⟩ : ∃ bk, bk = boxT kd (0, 0) G := ⟨_, rfl⟩
                    rw [← hbk] at hT5 hz1s hb1s ⊢
                    obtain ⟨bd, hbd⟩ : ∃ bd, bd = bk.dat := ⟨_, rfl⟩
                    rw [← hbd] at hT5 hz1s ⊢
                    obtain ⟨nk, hnk⟩ : ∃ nk, nk = bk.kids.length := ⟨_, rfl⟩
                    rw [← hnk] at hT5 ⊢
                    have HZB := Lib.hid (And.intro hz1s hb1s)
                    clear hbw hbh hz1s hb1s hbk hbd hnk
                    obtain ⟨w6, hw6, hK9, hB6, hs6⟩ := one_new w5 (bC bd (.slice AK nk cK)).toArray 118
                    have HT6 := Lib.hid (show IsT bK w6 (Fresh wk.heap.size w6) bk (bV bd (.slice AK nk cK)) from (hT5.move (.of_below hB6 fun b hb => hb.2)).weak fun b hb => ⟨Nat.le_trans HB9.out.size hb.1, Nat.lt_of_lt_of_le hb.2 hB6.size⟩)
                    have HBW := Lib.hid (show Below wk.heap.size wk w6 from (HB9.out.trans (hb5.mono HB9.out.size)).trans (hB6.mono (Nat.le_trans HB9.out.size hb5.size)))
                    unfold bV bC
                    unfold bC at hw6 hK9
                    have HB5 := Lib.hid hb5.size
                    clear y0 y1 y2 y3 y4 y5 y6 y7 hT5 hb5
                    go_upto_region 27 with fail
                    rw [← hw6]
                    obtain ⟨K9, hK9e⟩ : ∃ K9, K9 = w5.heap.size := ⟨_, rfl⟩
                    rw [← hK9e] at hK9 ⊢
                    have q0 : w6.cell? ⟨K9, 0, none⟩ = some (.int .i64 bd.id) := hK9.cell 0
                    have q1 : w6.cell? ⟨K9, 1, none⟩ = some (.int .i64 bd.x) := hK9.cell 1
                    have q2 : w6.cell? ⟨K9, 2, none⟩ = some (.int .i64 bd.y) := hK9.cell 2
                    have q3 : w6.cell? ⟨K9, 3, none⟩ = some (.int .i64 bd.w) := hK9.cell 3
                    have q4 : w6.cell? ⟨K9, 4, none⟩ = some (.int .i64 bd.h) := hK9.cell 4
                    have q5 : w6.cell? ⟨K9, 5, none⟩ = some (.slice AK nk cK) := hK9.cell 5
                    have HK9 := Lib.hid (And.intro hK9 (show wk.heap.size ≤ K9 by rw [hK9e]; exact Nat.le_trans HB9.out.size HB5.out))
                    have HI6 := Lib.hid (HIK.out.keep HBW.out)
                    clear hw6 hK9 hB6 hs6 hK9e
                    go_upto_region 28 with (first
                      | (at_builtin; refine wpList_append_lies _ rfl _ _ _ rfl w0.heap.size 118 trb _ 6 64 Tryz.underlying116 hti hz0 hz1 hz2 rfl (by decide) v0 k _ rfl (HI6.out.bx.alloc _) _ 1 1 [.int .i64 bd.id, .int .i64 bd.x, .int .i64 bd.y, .int .i64 bd.w, .int .i64 bd.h, .slice AK nk cK] rfl rfl (World.news_of_block (heap_alloc_new _ _)) (by intro u hu; simp at hu; rcases hu with rfl | rfl | rfl | rfl | rfl | rfl <;> rfl) (by omega) (by unfold maxLen; omega) (by omega) (by have := HI6.out.bel.size; simp; omega) _ rfl ?_; intro g cap w7 hown hg hat hlt7; have HM := Lib.hid (HIK.out.more (b := bk) (v' := bV bd (.slice AK nk cK)) (HBW.out.trans ((below_alloc w6 _).mono HBW.out.size)) (HT6.out.fresh (below_alloc w6 _)) hg hat hown); have HK7 := Lib.hid ((HK9.out.1.alloc _).grown hg (fun e => by have := (HIK.out.bx.lt K9 e.symm).2; have := HK9.out.2; omega)); clear hown hg hat hlt7))
                    clear q0 q1 q2 q3 q4 q5
                    have q3 : w7.cell? ⟨K9, 3, none⟩ = some (.int .i64 bd.w) := HK7.out.cell 3
                    have q4 : w7.cell? ⟨K9, 4, none⟩ = some (.int .i64 bd.h) := HK7.out.cell 4
                    go_wp2_with (first
                      | (at_builtin; refine wpList_append_lies _ rfl _ _ _ rfl w0.heap.size 157 trs _ 2 16 Tryz.underlying154 hsi hy0 hy1 hy2 rfl (by decide) z0 k _ rfl (HM.out.sz.alloc _) _ 1 1 [.int .i64 bd.w, .int .i64 bd.h] rfl rfl (World.news_of_block (heap_alloc_new _ _)) (by intro u hu; simp at hu; rcases hu with rfl | rfl <;> rfl) (by omega) (by unfold maxLen; omega) (by omega) (by have := HM.out.bel.size; simp; omega) _ rfl ?_; intro g2 cap2 w8 hown hg hat hlt8; have HS := Lib.hid (HM.out.size (below_alloc w7 _) hg hat hown); clear hown hg hat hlt8))
                    go_roundw
                    case rel => exact ⟨k + 1, _, by omega, by go_num, by rw [HZB.out.1, HZB.out.2]; exact HS.out⟩
                    case measure => simp [intOf]; omega
                · obtain rfl : k = ks.length := by omega
                  rw [List.take_length] at hI
                  obtain ⟨A7, c7, rfl⟩ := own_form hI.bx
                  obtain ⟨A8, c8, rfl⟩ := own_form hI.sz
                  have hfl := rflow_put d II ks A8 ks.length c8 wr (Fl.Pairs.of_own hI.sz (sizesT_len d II ks)) rfl (by omega)
                  rw [← HWY.out, ← HEE.out, ← HCL.out, ← HGP.out] at hfl
                  have hSl := putT_len d II ks
                  obtain ⟨S, hS⟩ : ∃ S, S = putT d II ks := ⟨_, rfl⟩
                  rw [← hS] at hfl HE1 hSl
                  obtain ⟨n, hn⟩ : ∃ n, n = ks.length := ⟨_, rfl⟩
                  have hbl := boxes0_len d II ks
                  have hbe := boxesT_eq d II ks S.out
                  obtain ⟨bs0, hbs0⟩ : ∃ bs0, bs0 = boxes0 d II ks := ⟨_, rfl⟩
                  rw [← hbs0] at hI hbl hbe
                  rw [hbe] at HE1
                  rw [← hn] at hI hfl hSl hbl hkl HX ⊢
                  have HFL := Lib.hid hfl
                  have HII := Lib.hid (And.intro hI (And.intro hSl hbl))
                  have HK8 := Lib.hid (HB1.out.trans (hI.bel.mono HB1.out.size))
                  clear hfl hS hbs0 hbe hn hI hlt hk HKS HST x7 hks1 hSl hbl HWY HEE HCL HGP
                  go_wp2_with fail
                  refine HFL.out.mono ?_
                  rintro e2 w2 ⟨AP, cP, rfl, hoP, hbP⟩
                  obtain ⟨H0, hH0⟩ : ∃ H0, H0 = Fl.P1.add S.y S.h := ⟨_, rfl⟩
                  rw [← hH0] at HE1 ⊢
                  rw [HII.out.2.1] at hoP ⊢
                  have HOP := Lib.hid (own_base hoP (HII.out.1.bel.size))
                  have HI2 := Lib.hid (HII.out.1.keep hbP)
                  have HBW := Lib.hid (HK8.out.trans (hbP.mono HK8.out.size))
                  clear hH0 HFL hoP hbP HK8
                  obtain ⟨w3, hw3, hZ, hB3, hs3⟩ := one_new w2 #[.int .i64 S.W, .int .i64 H0] 157
                  go_upto_region 31 with fail
                  rw [← hw3]
                  obtain ⟨Z, hZe⟩ : ∃ Z, Z = w2.heap.size := ⟨_, rfl⟩
                  rw [← hZe] at hZ ⊢
                  have HP := Lib.hid (show BxP w0 n A7 c7 AP cP S.out Z #[.int .i64 S.W, .int .i64 H0] bs0 us w3 from
                    have h3 := HI2.out.keep hB3
                    ⟨h3.bel, h3.bx, h3.ts.weak fun b hb => ⟨hb.1, hb.2.1, hb.2.2.1⟩, own_keep HOP.out hB3, hZ, by rw [hZe]; exact HI2.out.bel.size⟩)
                  have HB3 := Lib.hid (HBW.out.trans (hB3.mono HBW.out.size))
                  clear hw3 hZ hB3 hs3 hZe HI2 HOP HBW
                  go_wp2_with fail
                  go_loopw [144] (fun i wx => ∃ k us, k ≤ n ∧ i = .int .i64 (k : Nat) ∧ BxP w0 n A7 c7 AP cP S.out Z #[.int .i64 S.W, .int .i64 H0] (putB bs0 S.out k) us wx) (fun i _ => n - (intOf i).toNat)
                  case atStart => exact ⟨0, us, Nat.zero_le _, rfl, by rw [putB_zero]; exact HP.out⟩
                  case round =>
                    obtain ⟨k, us2, hk, rfl, hI⟩ := hrel
                    by_cases hlt : k < n
                    · have hPS : Fl.Pairs wr wr.heap.size AP n S.out := Fl.Pairs.of_own hI.pts HII.out.2.1
                      obtain ⟨bp, op, rfl, hbp, d0, d1⟩ := hPS.2 k hlt
                      obtain ⟨px, hpx⟩ : ∃ px, px = (S.out.getD k (0, 0)).1 := ⟨_, rfl⟩
                      obtain ⟨py, hpy⟩ : ∃ py, py = (S.out.getD k (0, 0)).2 := ⟨_, rfl⟩
                      rw [← hpx] at d0
                      rw [← hpy] at d1
                      have HPE := Lib.hid (show (px, py) = S.out.getD k (0, 0) by rw [hpx, hpy])
                      obtain ⟨wk, hwk, hK9, hBk, hsk⟩ := one_new wr #[.int .i64 px, .int .i64 py] 162
                      have i1 : (0 : Int) ≤ (k : Int) := by omega
                      have i2 : (k : Int) < (n : Int) := by omega
                      clear hPS hpx hpy
                      go_upto_region 34 with fail
                      rw [← hwk]
                      obtain ⟨K9, hK9e⟩ : ∃ K9, K9 = wr.heap.size := ⟨_, rfl⟩
                      rw [← hK9e] at hK9 ⊢
                      have hI2 := hI.keep hBk
                      obtain ⟨gb, rfl, hgl, hgf, hgc⟩ := hI2.at_ (by omega)
                      obtain ⟨q1, r1⟩ := hgc (k * 6 + 1) (by omega)
                      have f1 := hgf (k * 6 + 1)
                      have hO5 := own_setAt hI2.bx (k * 6 + 1) (.int .i64 px)
                      obtain ⟨q2, r2⟩ := own_cell hO5 (k * 6 + 2) (by omega)
                      have f2 := hO5.frozenAt (k * 6 + 2)
                      have z0 : wk.cell? ⟨K9, 0, none⟩ = some (.int .i64 px) := hK9.cell 0
                      have hgk : K9 ≠ gb := by have := (hI.bx.lt gb rfl).2; omega
                      have z1 : (wk.setCell ⟨gb, k * 6 + 1, none⟩ (.int .i64 px)).cell? ⟨K9, 1, none⟩ = some (.int .i64 py) := (hK9.far (p := ⟨gb, k * 6 + 1, none⟩) hgk _).cell 1
                      have HPU := Lib.hid (hI2.put (putB_at bs0 S.out (HII.out.2.1.trans HII.out.2.2.symm) k (by rw [HII.out.2.2]; exact hlt)) (px, py))
                      have HST := Lib.hid (putB_step bs0 S.out (HII.out.2.1.trans HII.out.2.2.symm) k (by rw [HII.out.2.2]; exact hlt))
                      rw [← HPE.out] at HST
                      have HF := Lib.hid (And.intro z1 (And.intro r2 f2))
                      clear hwk hK9 hBk hsk hK9e hI hI2 hgl hgf hgc hbp d0 d1 hO5 hgk z1 r2 f2
                      go_upto_region 35 with fail
                      obtain ⟨w5, hw5⟩ : ∃ w5, w5 = wk.setCell ⟨gb, k * 6 + 1, none⟩ (.int .i64 px) := ⟨_, rfl⟩
                      rw [← hw5] at HPU HF ⊢
                      obtain ⟨z1, r2, f2⟩ := HF.out
                      clear hw5 r1 f1 z0
                      go_wp2_with fail
                      obtain ⟨us3, hI3⟩ := HPU.out
                      rw [← HST.out] at hI3
                      have HI3 := Lib.hid hI3
                      clear HPU HST hI3
                      go_roundw
                      case rel => exact ⟨k + 1, _, by omega, by go_num, HI3.out⟩
                      case measure => simp [intOf]; omega
                    · obtain rfl : k = n := by omega
                      have hbs : putB bs0 S.out k = List.zipWith moveB bs0 S.out := by
                        have := putB_all bs0 S.out (HII.out.2.1.trans HII.out.2.2.symm)
                        rw [HII.out.2.2] at this
                        exact this
                      have hbl : (putB bs0 S.out k).length = k := by rw [putB_len bs0 S.out (HII.out.2.1.trans HII.out.2.2.symm)]; exact HII.out.2.2
                      rw [hbs] at hI hbl
                      obtain ⟨bs, hbse⟩ : ∃ bs, bs = List.zipWith moveB bs0 S.out := ⟨_, rfl⟩
                      rw [← hbse] at hI hbl HE1
                      have HIE := Lib.hid (And.intro hI hbl)
                      have HBN := Lib.hid (HB1.out.trans (hI.bel.mono HB1.out.size))
                      clear HB1 HB3 HP HII hbs hbl hbse hI hlt hk
                      have HB1 := HBN
                      clear HBN
                      obtain ⟨x0, x1, x2, x3, x4, x5, x6, x7⟩ := rcells (a1 := .slice A1 d.cl.length c1) (a2 := .slice A2 d.at_.length c2) (a3 := .slice A3 d.st.length c3) (k := .slice A4 k c4) (HX.out.below HB1.out HX.out.lt)
                      go_wp2_with fail
                      have hc7 := rstyle_any d (.slice A1 d.cl.length c1) (.slice A2 d.at_.length c2) (.slice A3 d.st.length c3) A4 k c4 nmH wr (HR.out.old HB1.out) hs
                      unfold sV sC at hc7
                      refine hc7.mono ?_
                      clear hc7
                      rintro e7 w7 ⟨rfl, hb7⟩
                      have hb7x := Lib.hid hb7
                      have HBN := Lib.hid (HB1.out.trans (hb7.mono HB1.out.size))
                      clear HB1 hb7 x0 x1 x2 x3 x4 x5 x6 x7
                      have HB1 := HBN
                      clear HBN
                      obtain ⟨x0, x1, x2, x3, x4, x5, x6, x7⟩ := rcells (a1 := .slice A1 d.cl.length c1) (a2 := .slice A2 d.at_.length c2) (a3 := .slice A3 d.st.length c3) (k := .slice A4 k c4) (HX.out.below HB1.out HX.out.lt)
                      have HI7 := Lib.hid (And.intro (HIE.out.1.keep hb7x.out) HIE.out.2)
                      obtain ⟨HV, hHV⟩ : ∃ HV, HV = (if (gtS d.st nmH).2 = true then styV d nmH else Fl.P1.add H0 (Fl.P1.add pad pad)) := ⟨_, rfl⟩
                      rw [← hHV] at HE1
                      obtain ⟨y7, hy7⟩ : ∃ y, y = styV d nmH := ⟨_, rfl⟩
                      obtain ⟨q7, hq7⟩ : ∃ q, q = (gtS d.st nmH).2 := ⟨_, rfl⟩
                      rw [← hy7, ← hq7] at hHV ⊢
                      have HH := Lib.hid hHV
                      clear hy7 hq7 hHV HIE hb7x
                      go_upto_if 170 with fail
                      go_cut [27] (fun s wx => s = .int .i64 HV ∧ Below w7.heap.size w7 wx)
                      case first =>
                        cases q7
                        · have HE2 := Lib.hid (show HV = Fl.P1.add H0 (Fl.P1.add pad pad) by rw [HH.out]; rfl)
                          have HZ := Lib.hid HI7.out.1.zb
                          obtain ⟨SW, hSW⟩ : ∃ SW, SW = S.W := ⟨_, rfl⟩
                          rw [← hSW] at HZ
                          clear HH x0 x1 x2 x3 x4 x5 x6 x7 hSW
                          go_upto_region 39 with fail
                          refine wp_region_tail 6 _ ?_ ?_ ?_ ?_ (RlyR39 w7 Z pad SW H0) (fun j v wx wy => RlyR39_keep _ _ _ _ _ j v wx wy) ?_ ?_ ?_
                          · kernel_rfl
                          · kernel_rfl
                          · kernel_rfl
                          · kernel_rfl
                          · refine ⟨opV rfl fun s wx hb hd => ⟨_, ex_fld rfl (lit_out 24 (by kernel_rfl)) (fa_rs_1 _ wx), rfl⟩, ?_⟩
                            refine ⟨opV rfl fun s wx hb hd => ⟨_, ex_ld rfl ((lit_at 0 171 (by kernel_rfl) (by kernel_rfl) (by kernel_rfl)).trans (hd 0 (by kernel_rfl))) (ld_int (((HZ.out).below hb (HZ.out).lt).cell 1)), rfl⟩, ?_⟩
                            refine ⟨opV rfl fun s wx hb hd => ⟨_, ex_mv rfl (lit_out 7 (by kernel_rfl)), rfl⟩, ?_⟩
                            refine ⟨opV rfl fun s wx hb hd => ⟨_, ex_mv rfl (lit_out 7 (by kernel_rfl)), rfl⟩, ?_⟩
                            refine ⟨opC rfl fun s wx hb hd => ⟨_, _, ex_c2 rfl rfl (enters Tryz.func74 (by kernel_rfl) rfl _ _) ((lit_at 2 173 (by kernel_rfl) (by kernel_rfl) (by kernel_rfl)).trans (hd 2 (by kernel_rfl))) ((lit_at 3 174 (by kernel_rfl) (by kernel_rfl) (by kernel_rfl)).trans (hd 3 (by kernel_rfl))), ?_⟩, ?_⟩
                            · refine (Fl.radd_any pad pad wx).mono ?_
                              rintro e1 w1 ⟨rfl, rfl⟩
                              exact ⟨_, rfl, rfl, Below.refl _ _⟩
                            refine ⟨opC rfl fun s wx hb hd => ⟨_, _, ex_c2 rfl rfl (enters Tryz.func74 (by kernel_rfl) rfl _ _) ((lit_at 1 172 (by kernel_rfl) (by kernel_rfl) (by kernel_rfl)).trans (hd 1 (by kernel_rfl))) ((lit_at 4 175 (by kernel_rfl) (by kernel_rfl) (by kernel_rfl)).trans (hd 4 (by kernel_rfl))), ?_⟩, ?_⟩
                            · refine (Fl.radd_any H0 (Fl.P1.add pad pad) wx).mono ?_
                              rintro e1 w1 ⟨rfl, rfl⟩
                              exact ⟨_, rfl, rfl, Below.refl _ _⟩
                            trivial
                          rotate_left
                          · kernel_rfl
                          intro s wz hbz hV
                          have e5 : s 5 = .int .i64 (Fl.P1.add H0 (Fl.P1.add pad pad)) := hV 5 (by omega)
                          clear hV
                          simp only [List.take_succ_cons, List.take_zero, List.drop_succ_cons, List.drop_zero, litOf, List.map_cons, List.map_nil, Nat.zero_add, Nat.reduceAdd, Act.put, List.setIfInBounds_toArray, List.set_cons_succ, List.set_cons_zero]
                          refine wpList_val rfl (ex_asg rfl e5) ?_
                          simp only [Act.put, List.setIfInBounds_toArray, List.set_cons_succ, List.set_cons_zero]
                          refine wpList_nil ?_
                          have HBY := Lib.hid hbz
                          clear hbz e5
                          go_wp2_with fail
                          go_meet
                          exact ⟨by rw [HE2.out], HBY.out⟩
                        · have HE2 := Lib.hid (show HV = y7 by rw [HH.out]; rfl)
                          go_wp2_with fail
                          go_meet
                          exact ⟨by rw [HE2.out], Below.refl _ _⟩
                      case rest =>
                        obtain ⟨rfl, hb9⟩ := hcut
                        have HI9 := Lib.hid (And.intro (HI7.out.1.keep hb9) HI7.out.2)
                        have HR9 := Lib.hid (HRS.out.1.below (HB1.out.trans (hb9.mono HB1.out.size)) HRS.out.1.lt)
                        have HB9 := Lib.hid (HB1.out.trans (hb9.mono HB1.out.size))
                        clear x0 x1 x2 x3 x4 x5 x6 x7
                        have x0 : wc.cell? ⟨X, 0, none⟩ = some (.int .i64 d.id) := (HX.out.below HB9.out HX.out.lt).cell 0
                        clear hb9 HI7 HH
                        go_upto_region 40 with fail
                        refine _root_.Go.wp_region_lit ?_
                        refine wpList_val rfl (ex_fld rfl rfl (fa_rt_0 X _)) ?_
                        simp only [Act.put, List.setIfInBounds_toArray, List.set_cons_succ, List.set_cons_zero]
                        refine wpList_val rfl (ex_ld rfl rfl (ld_int x0)) ?_
                        simp only [Act.put, List.setIfInBounds_toArray, List.set_cons_succ, List.set_cons_zero]
                        refine wpList_val rfl (ex_mv rfl rfl) ?_
                        simp only [Act.put, List.setIfInBounds_toArray, List.set_cons_succ, List.set_cons_zero]
                        refine wpList_val rfl (ex_mv rfl rfl) ?_
                        simp only [Act.put, List.setIfInBounds_toArray, List.set_cons_succ, List.set_cons_zero]
                        refine wpList_val rfl (ex_bld2 rfl rfl rfl (bld_rr WW HV _)) ?_
                        simp only [Act.put, List.setIfInBounds_toArray, List.set_cons_succ, List.set_cons_zero]
                        refine wpList_val rfl (ex_mv rfl rfl) ?_
                        simp only [Act.put, List.setIfInBounds_toArray, List.set_cons_succ, List.set_cons_zero]
                        refine wpList_val rfl (ex_bld3 rfl rfl rfl rfl (bld_bx3 d.id 0 0 WW HV A7 k c7 _)) ?_
                        simp only [Act.put, List.setIfInBounds_toArray, List.set_cons_succ, List.set_cons_zero]
                        refine wpList_store_blk rfl 118 _ _ rfl (X + 1) (bC ⟨d.id, 0, 0, WW, HV⟩ (.slice A7 k c7)).toArray rfl rfl 118 zs_bx HR9.out rfl sz_bx (bC_all _ rfl) ?_
                        intro wf hRf hgf hsf
                        refine wpList_nil ?_
                        simp only [Act.put, List.setIfInBounds_toArray, List.set_cons_succ, List.set_cons_zero]
                        obtain ⟨bv, hbv⟩ : ∃ bv, bv = bV ⟨d.id, 0, 0, WW, HV⟩ (.slice A7 k c7) := ⟨_, rfl⟩
                        rw [← hbv]
                        clear hbv
                        have hT2 := ((HI9.out.1.done HI9.out.2 ⟨d.id, 0, 0, WW, HV⟩).move (.of_grown hgf fun b hb => ⟨hb.2, fun e => by cases e; have := hb.1; have := HRS.out.2.2; have := HB0.out; omega⟩)).weak (S' := Fresh w.heap.size wf) fun b hb => ⟨by have := hb.1; have := HRS.out.2; have := HB0.out; omega, by rw [hsf]; exact hb.2⟩
                        have hB2 : Below w.heap.size w wf := (HB.out.trans (HB9.out.mono HB.out.size)).grown hgf (Nat.le_trans HB.out.size HB9.out.size) (fun j hj => by cases hj; have := HRS.out; omega)
                        rw [← HE1.out] at hT2
                        have HF := Lib.hid (And.intro hRf (And.intro hT2 hB2))
                        clear hRf hgf hsf hT2 hB2
                        go_wp2_with fail
                        exact bodyPost_ret (v := bV ⟨d.id, 0, 0, WW, HV⟩ (.slice A7 k c7)) (results_cell_row rfl _ _ (X + 1) 118 _ (0, 0) _ rfl HF.out.1 Tryz.underlying118 rfl sz_bx) rfl ⟨_, rfl, HF.out.2.1, HF.out.2.2⟩

end Go.Proofs.YtaalhglooipnaaaGreat
