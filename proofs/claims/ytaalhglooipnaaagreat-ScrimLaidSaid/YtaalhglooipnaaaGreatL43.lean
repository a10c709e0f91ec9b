/-
  The statement's own function: it hands back true.
-/
import Derived.Test.YtaalhglooipnaaaGreatL42
namespace Go.Proofs.YtaalhglooipnaaaGreat
open Go.RowKit RT
attribute [local go_sem ↓] Go.wp_at_zero Go.wp_at_succ

set_option maxRecDepth 100000 in
set_option maxHeartbeats 8000000 in
theorem main_any (A : Option Addr) (n c : Nat) (vs : List Value) (g px py : Int) (w : World) (hc : n ≤ c) (hF : FlR w (Old w) A n vs) :
    Calls Tryz.prog 3 #[.agg #[.slice A n c, .int .i64 g, .int .i64 px, .int .i64 py]] w fun e w' => e = .returned (.bool true) ∧ Below w.heap.size w w' := by
  obtain ⟨w1, hw1, hX, hB0, hs1⟩ := one_new w #[.slice A n c, .int .i64 g, .int .i64 px, .int .i64 py] 24
  have HFL := Lib.hid hF
  clear hF
  go_enter Tryz.func3, Tryz.ntmps3
  go_upto_region 1 with fail
  rw [← hw1]
  obtain ⟨X, hXe⟩ : ∃ X, X = w.heap.size := ⟨_, rfl⟩
  rw [← hXe] at hX ⊢
  have HX := Lib.hid hX
  have HB := Lib.hid hB0
  clear hw1 hXe hs1 hX hB0
  refine wp_region_tail2 9 _ ?_ ?_ ?_ ?_ (LmnR1 w1 X n c A g px py) (fun j v wx wy => LmnR1_keep _ _ _ _ _ _ _ _ j v wx wy) ?_ ?_ ?_
  · kernel_rfl
  · kernel_rfl
  · kernel_rfl
  · kernel_rfl
  · refine ⟨opV rfl fun s wx hb hd => ⟨_, ex_fld rfl (lit_out 1 (by kernel_rfl)) (fa_wh_1 _ wx), rfl⟩, ?_⟩
    refine ⟨opV rfl fun s wx hb hd => ⟨_, ex_ld rfl ((lit_at 0 20 (by kernel_rfl) (by kernel_rfl) (by kernel_rfl)).trans (hd 0 (by kernel_rfl))) (ld_int (((HX.out).below hb (HX.out).lt).cell 1)), rfl⟩, ?_⟩
    refine ⟨opV rfl fun s wx hb hd => ⟨_, ex_fld rfl (lit_out 1 (by kernel_rfl)) (fa_wh_2 _ wx), rfl⟩, ?_⟩
    refine ⟨opV rfl fun s wx hb hd => ⟨_, ex_ld rfl ((lit_at 2 22 (by kernel_rfl) (by kernel_rfl) (by kernel_rfl)).trans (hd 2 (by kernel_rfl))) (ld_int (((HX.out).below hb (HX.out).lt).cell 2)), rfl⟩, ?_⟩
    refine ⟨opV rfl fun s wx hb hd => ⟨_, ex_fld rfl (lit_out 1 (by kernel_rfl)) (fa_wh_3 _ wx), rfl⟩, ?_⟩
    refine ⟨opV rfl fun s wx hb hd => ⟨_, ex_ld rfl ((lit_at 4 24 (by kernel_rfl) (by kernel_rfl) (by kernel_rfl)).trans (hd 4 (by kernel_rfl))) (ld_int (((HX.out).below hb (HX.out).lt).cell 3)), rfl⟩, ?_⟩
    refine ⟨opV rfl fun s wx hb hd => ⟨_, ex_asg rfl ((lit_at 1 21 (by kernel_rfl) (by kernel_rfl) (by kernel_rfl)).trans (hd 1 (by kernel_rfl))), rfl⟩, ?_⟩
    refine ⟨opV rfl fun s wx hb hd => ⟨_, ex_asg rfl ((lit_at 3 23 (by kernel_rfl) (by kernel_rfl) (by kernel_rfl)).trans (hd 3 (by kernel_rfl))), rfl⟩, ?_⟩
    refine ⟨opV rfl fun s wx hb hd => ⟨_, ex_asg rfl ((lit_at 5 25 (by kernel_rfl) (by kernel_rfl) (by kernel_rfl)).trans (hd 5 (by kernel_rfl))), rfl⟩, ?_⟩
    trivial
  rotate_left
  · kernel_rfl
  intro s wz hbz hV
  have e6 : s 6 = .int .i64 g := hV 6 (by omega)
  have e7 : s 7 = .int .i64 px := hV 7 (by omega)
  have e8 : s 8 = .int .i64 py := hV 8 (by omega)
  clear hV
  simp only [List.take_succ_cons, List.take_zero, List.drop_succ_cons, List.drop_zero, litOf, List.map_cons, List.map_nil, Nat.zero_add, Nat.reduceAdd, Act.put, List.setIfInBounds_toArray, List.set_cons_succ, List.set_cons_zero]
  refine wpList_nil ?_
  rw [e6, e7, e8]
  have x0 : wz.cell? ⟨X, 0, none⟩ = some (.slice A n c) := (HX.out.below hbz HX.out.lt).cell 0
  have HBZ := Lib.hid (HB.out.trans (hbz.mono HB.out.size))
  clear e6 e7 e8 hbz HB HX
  have HTR := Lib.hid (tree_any A n c vs wz hc ((HFL.out.move (.of_below HBZ.out fun _ h => h)).weak fun b h => Nat.lt_of_lt_of_le h HBZ.out.size))
  clear HFL
  go_wp2_with fail
  refine HTR.out.mono ?_
  rintro e2 w2 ⟨v2, rfl, ⟨t, hts, htx, hT⟩, hb2⟩
  have hOWN := fun wx (hb : Below w2.heap.size w2 wx) => ownV_any 1000 t v2 wx (by omega) (Nat.le_refl _) (All.imp (fun _ h => h.1) htx) ((IsT.vk hT).old.keep hb)
  have hCHK := fun wx (hb : Below w2.heap.size w2 wx) => checks_any t v2 wx hts htx (hT.old.keep hb)
  have htl := tx_sh t htx
  have HTT := Lib.hid (And.intro hts (And.intro (All.imp (fun _ h => h.1) htx) (show tx t ≤ 1000000 by omega)))
  obtain ⟨A4, c4, us, ⟨⟨a1, a2, a3, rfl, hrows⟩, _⟩, _, _⟩ := IsT.eq.1 hT
  obtain ⟨A1, c1, A2, c2, A3, c3, rfl, rfl, rfl, _⟩ := hrows
  obtain ⟨kn, hkn⟩ : ∃ kn, kn = t.kids.length := ⟨_, rfl⟩
  obtain ⟨d, hd⟩ : ∃ d, d = t.dat := ⟨_, rfl⟩
  rw [← hd, ← hkn] at hOWN hCHK
  rw [← hd, ← hkn]
  clear hT hkn hd hts htx htl
  obtain ⟨w3, hw3, hV, hB3, hs3⟩ := one_new w2 (vC d (.slice A1 d.cl.length c1) (.slice A2 d.at_.length c2) (.slice A3 d.st.length c3) (.slice A4 kn c4)).toArray 32
  have HOWN := Lib.hid (hOWN w3 hB3)
  have HCHK := Lib.hid (fun wx (hb : Below w3.heap.size w3 wx) => hCHK wx (hB3.trans (hb.mono hB3.size)))
  unfold vV vC at HOWN HCHK
  unfold vV vC
  unfold vC at hV hw3
  have HB3 := Lib.hid ((HBZ.out.trans (hb2.mono HBZ.out.size)).trans (hB3.mono (Nat.le_trans HBZ.out.size hb2.size)))
  clear hOWN hCHK hb2 x0 HBZ
  go_upto_region 3 with fail
  rw [← hw3]
  obtain ⟨V, hVe⟩ : ∃ V, V = w2.heap.size := ⟨_, rfl⟩
  rw [← hVe] at hV ⊢
  have HV := Lib.hid hV
  obtain ⟨x0, x1, x2, x3, x4, x5, x6, x7, x8, x9, x10, x11, x12, x13⟩ := vcells (a1 := .slice A1 d.cl.length c1) (a2 := .slice A2 d.at_.length c2) (a3 := .slice A3 d.st.length c3) (k := .slice A4 kn c4) hV
  clear hw3 hV hB3 hs3 hVe
  go_wp2_with fail
  refine HOWN.out.mono ?_
  rintro e4 w4 ⟨v4, rfl, hT4, hb4⟩
  have HST := Lib.hid (stof_any t v4 w4 (by have := HTT.out.1; omega) HTT.out.2.2 HTT.out.2.1 hT4.old)
  have HB4 := Lib.hid (show Below w3.heap.size w3 w4 from hb4)
  clear x0 x1 x2 x3 x4 x5 x6 x7 x8 x9 x10 x11 x12 x13 hT4 hb4 HOWN
  go_wp2_with fail
  refine HST.out.mono ?_
  rintro e5 w5 ⟨v5, rfl, ⟨t', hrel, hT5⟩, hb5⟩
  have HRL := Lib.hid hrel
  clear hrel HST
  obtain ⟨s0, hs0⟩ : ∃ s0, s0 = stT t' := ⟨_, rfl⟩
  have HS0 := Lib.hid hs0
  rw [← hs0] at hT5
  clear hs0
  have HT5 := Lib.hid hT5
  obtain ⟨T4, t4, us5, ⟨a1, a2, a3, rfl, hrows⟩, _, _⟩ := IsT.eq.1 hT5
  obtain ⟨T1, t1, T2, t2, T3, t3, rfl, rfl, rfl, _⟩ := hrows
  obtain ⟨tn, htn⟩ : ∃ tn, tn = s0.kids.length := ⟨_, rfl⟩
  obtain ⟨e, he⟩ : ∃ e, e = s0.dat := ⟨_, rfl⟩
  rw [← he, ← htn] at HT5
  rw [← he, ← htn]
  clear hT5 he htn
  obtain ⟨w6, hw6, hTB, hB6, hs6⟩ := one_new w5 (sC e (.slice T1 e.cl.length t1) (.slice T2 e.at_.length t2) (.slice T3 e.st.length t3) (.slice T4 tn t4)).toArray 40
  have HTS := Lib.hid (show IsT sK w6 (· < w6.heap.size) s0 (sV e (.slice T1 e.cl.length t1) (.slice T2 e.at_.length t2) (.slice T3 e.st.length t3) (.slice T4 tn t4)) from HT5.out.old.keep hB6)
  have HB6 := Lib.hid ((HB4.out.trans (hb5.mono HB4.out.size)).trans (hB6.mono (Nat.le_trans HB4.out.size hb5.size)))
  unfold sV sC at HTS
  unfold sV sC
  unfold sC at hw6 hTB
  clear hb5 HT5 HB4
  go_upto_region 4 with fail
  rw [← hw6]
  obtain ⟨T, hTe⟩ : ∃ T, T = w5.heap.size := ⟨_, rfl⟩
  rw [← hTe] at hTB ⊢
  have HTB := Lib.hid hTB
  clear hw6 hTB hB6 hs6 hTe
  go_wp2_with fail
  refine (new_any w6 w6.heap.size (Nat.le_refl _)).mono ?_
  rintro e7 w7 ⟨D, M, gs, kvs, rfl, hdom, hb7⟩
  have HDM := Lib.hid hdom
  have HB7 := Lib.hid hb7
  clear hdom hb7
  go_wp2_with fail
  refine (on_any HDM.out).mono ?_
  rintro e8 w8 ⟨L, rfl, hlog, hb8⟩
  have HLG := Lib.hid hlog
  have HB8 := Lib.hid (HB7.out.trans (hb8.mono HB7.out.size))
  obtain ⟨hdom, _, ov, xs, hL, _⟩ := hlog
  have y0 : w8.cell? ⟨L, 0, none⟩ = some (.pointer (some ⟨D, 0, none⟩)) := hL.cell 0
  have hlogL := Lib.hid hL
  have hlogL := hlogL.out
  have H36 := Lib.hid HB6.out.size
  clear hb8 HB7 HDM hdom hL
  go_wp2_with fail
  refine (room_one HLG.out.1).mono ?_
  rintro e9 w9 ⟨rfl, hb9⟩
  have HB9 := Lib.hid (HB8.out.trans (hb9.mono HB8.out.size))
  have HB39 := Lib.hid (HB6.out.trans ((HB8.out.trans (hb9.mono HB8.out.size)).mono HB6.out.size))
  have hLk := hlogL.below hb9 hlogL.lt
  have y0 : w9.cell? ⟨L, 0, none⟩ = some (.pointer (some ⟨D, 0, none⟩)) := hLk.cell 0
  have HLG9 := Lib.hid (HLG.out.keep hb9)
  obtain ⟨x0, x1, x2, x3, x4, x5, x6, x7, x8, x9, x10, x11, x12, x13⟩ := vcells (a1 := .slice A1 d.cl.length c1) (a2 := .slice A2 d.at_.length c2) (a3 := .slice A3 d.st.length c3) (k := .slice A4 kn c4) (HV.out.below HB39.out HV.out.lt)
  clear hb9 HB8 hlogL hLk HLG HB6
  go_wp2_with fail
  refine (HCHK.out w9 HB39.out).mono ?_
  rintro e10 w10 ⟨q, rfl, hq, hb10⟩
  have HQ := Lib.hid hq
  have HB10 := Lib.hid (HB9.out.trans (hb10.mono HB9.out.size))
  have HBW := Lib.hid (show Below w.heap.size w w10 from (HB3.out.trans (HB39.out.mono HB3.out.size)).trans (hb10.mono (Nat.le_trans HB3.out.size HB39.out.size)))
  have HLG := Lib.hid (HLG9.out.keep hb10)
  have HW6 := Lib.hid (show w.heap.size ≤ w6.heap.size from Nat.le_trans HB3.out.size H36.out)
  clear hq hb10 x0 x1 x2 x3 x4 x5 x6 x7 x8 x9 x10 x11 x12 x13 y0 HLG9 HB9 HB39 HCHK HB3 HV
  by_cases hq0 : q = 0
  · subst hq0
    have HOK := Lib.hid (HQ.out rfl)
    have hgood : GoodT s0 := by rw [HS0.out]; exact goodT_st t' HRL.out.few HRL.out.norm (HRL.out.ok HOK.out) (Nat.le_trans HRL.out.text HTT.out.2.2)
    have hs20 : s0.size ≤ 20 := by rw [HS0.out]; exact Nat.le_trans (stT_size t') (Nat.le_trans HRL.out.size HTT.out.1)
    have HG := Lib.hid (And.intro hgood hs20)
    have hT10 : IsT sK w10 (· < w6.heap.size) s0 (sV e (.slice T1 e.cl.length t1) (.slice T2 e.at_.length t2) (.slice T3 e.st.length t3) (.slice T4 tn t4)) := HTS.out.move (.of_below HB10.out fun _ h => h)
    have hlay := lay_any 20 s0 _ w10 w6.heap.size L D M 1 nd0 gs kvs 0 0 hs20 hgood hT10 HLG.out (fun j hj => by show (-1 : Int) ≤ -1 ∧ (-1 : Int) < j; omega) (by omega) rfl (by show 0 ≤ 100; omega) (by omega) (by omega)
    unfold sV sC at hlay
    have HLAY := Lib.hid (show Calls Tryz.prog 11 #[.pointer (some ⟨L, 0, none⟩), .agg #[.int .i64 e.id, .int .i64 e.kind, .string e.tag, .string e.text, .slice T1 e.cl.length t1, .slice T2 e.at_.length t2, .slice T3 e.st.length t3, .slice T4 tn t4], .int .i64 0, .int .i64 0] w10 (LayPost w6.heap.size w10 L D M (1 + s0.size) (layN s0 0 1 nd0) (0 + 302 * s0.size)) from hlay)
    obtain ⟨x0, x1, x2, x3, x4, x5, x6, x7⟩ := scells (a1 := .slice T1 e.cl.length t1) (a2 := .slice T2 e.at_.length t2) (a3 := .slice T3 e.st.length t3) (k := .slice T4 tn t4) (HTB.out.below (HB10.out.mono (Nat.le_refl _)) HTB.out.lt)
    clear hgood hs20 hT10 hlay HOK HQ HRL HS0 HTT
    go_wp2_with fail
    refine HLAY.out.mono ?_
    rintro e11 w11 ⟨rfl, ⟨gs', kvs', nox, _, hlog⟩, hb11, _⟩
    have HB11 := Lib.hid (HB10.out.trans hb11)
    have HBW11 := Lib.hid (HBW.out.trans (hb11.mono HW6.out))
    have HDM := Lib.hid hlog.1
    obtain ⟨_, hBL, ov2, xs2, hLk, _⟩ := hlog
    have HLK := Lib.hid hLk
    have y0 : w11.cell? ⟨L, 0, none⟩ = some (.pointer (some ⟨D, 0, none⟩)) := hLk.cell 0
    clear hb11 x0 x1 x2 x3 x4 x5 x6 x7 HLAY HLG HB10 HBW hLk
    obtain ⟨l, hl⟩ : ∃ l, l = placeT (rootT s0) 0 0 g := ⟨_, rfl⟩
    have hls := rootT_srt s0 g
    have hll := rootT_len s0 g HG.out.1
    rw [← hl] at hls hll
    have HL := Lib.hid (And.intro hl (And.intro hls hll))
    have hld := ldom_any (rootT s0) g w11 w6.heap.size D M (1 + s0.size) (layN s0 0 1 nd0) gs' kvs' (by rw [rootT_size]; have := HG.out.2; omega) (rootT_rd s0) (by have := HG.out.2; omega) (rootT_few s0 HG.out.1 (by have := HG.out.2; omega)) HDM.out (rootT_st s0 HG.out.1) (by rw [← hl]; exact hls)
    rw [← hl] at hld
    have HLD := Lib.hid hld
    clear hl hls hll hld
    go_wp2_with fail
    refine HLD.out.mono ?_
    rintro e12 w12 ⟨A9, c9, rfl, ho9, hb12⟩
    have HO9 := Lib.hid ho9
    have HB12 := Lib.hid hb12
    have y0 : w12.cell? ⟨L, 0, none⟩ = some (.pointer (some ⟨D, 0, none⟩)) := (HLK.out.below hb12 HLK.out.lt).cell 0
    have HRD := Lib.hid (show Calls Tryz.prog 13 #[.pointer (some ⟨D, 0, none⟩), .int .i64 0] w12 _ from read_any 40 (rootT s0) w12 w6.heap.size D M (1 + s0.size) (layN s0 0 1 nd0) gs' kvs' 0 (by rw [rootT_size]; have := HG.out.2; omega) (by omega) (rootT_rd s0) (by have := HG.out.2; omega) (rootT_few s0 HG.out.1 (by have := HG.out.2; omega)) (HDM.out.keep hb12))
    obtain ⟨sn, hsn⟩ : ∃ sn, sn = l.length := ⟨_, rfl⟩
    have HSN := Lib.hid hsn
    rw [← hsn] at HO9 ⊢
    clear ho9 hb12 HLD hsn
    go_wp2_with fail
    refine HRD.out.mono ?_
    rintro e13 w13 ⟨v13, rfl, hT13, hb13⟩
    have HT13 := Lib.hid hT13
    obtain ⟨U4, c7, us13, ⟨a1, a2, a3, rfl, hrows⟩, hvs, hks⟩ := IsT.eq.1 hT13
    obtain ⟨U1, u1, U2, u2, U3, u3, rfl, rfl, rfl, _⟩ := hrows
    have hn1 : (rootT s0).kids.length = 1 := rfl
    have hkT : IsT sK w13 (Fresh w12.heap.size w13) (numT s0 1) (us13.getD 0 agg0) := hks.at_ 0 (by rw [hn1]; omega)
    rw [hn1] at hvs HT13 ⊢
    obtain ⟨rd, hrd⟩ : ∃ rd, rd = (rootT s0).dat := ⟨_, rfl⟩
    rw [← hrd] at HT13 ⊢
    clear hrd hn1 hks hT13
    obtain ⟨F4, f4, us', ⟨k1, k2, k3, hv, F1, f1, F2, f2, F3, f3, rfl, rfl, rfl, _⟩, _, _⟩ := IsT.eq.1 hkT
    obtain ⟨f, hf⟩ : ∃ f, f = (numT s0 1).dat := ⟨_, rfl⟩
    obtain ⟨fn, hfn⟩ : ∃ fn, fn = (numT s0 1).kids.length := ⟨_, rfl⟩
    rw [← hf, ← hfn] at hv
    obtain ⟨bk, ok, rfl, hbk, t0⟩ := Vs.shown hvs 0 (by omega) hv (Still.of_below (Below.refl w13.heap.size w13) fun b h => h.2)
    rw [hv] at hkT
    rw [Nat.zero_mul, Nat.add_zero] at t0
    have HKR := Lib.hid (And.intro hkT (show At8 w13 bk ok f (.slice F1 f.cl.length f1) (.slice F2 f.at_.length f2) (.slice F3 f.st.length f3) (.slice F4 fn f4) ∧ bk < w13.heap.size from ⟨t0, hbk.2⟩))
    obtain ⟨w14, hw14, hU, hB14, hs14⟩ := one_new w13 (sC rd (.slice U1 rd.cl.length u1) (.slice U2 rd.at_.length u2) (.slice U3 rd.st.length u3) (.slice (some ⟨bk, ok, none⟩) 1 c7)).toArray 40
    unfold sV sC
    unfold sC at hw14 hU
    have HB14 := Lib.hid (hb13.trans (hB14.mono hb13.size))
    have HB6 := Lib.hid (HB11.out.trans ((HB12.out.trans (HB14.out.mono HB12.out.size)).mono HB11.out.size))
    have HBW14 := Lib.hid (HBW11.out.trans ((HB12.out.trans (HB14.out.mono HB12.out.size)).mono HBW11.out.size))
    have HT14 := Lib.hid (HT13.out.old.keep hB14)
    have HKT := Lib.hid (show At8 w14 bk ok f (.slice F1 f.cl.length f1) (.slice F2 f.at_.length f2) (.slice F3 f.st.length f3) (.slice F4 fn f4) ∧ bk < w14.heap.size from ⟨HKR.out.2.1.below hB14 HKR.out.2.2, Nat.lt_of_lt_of_le HKR.out.2.2 hB14.size⟩)
    have HK14 := Lib.hid (HKR.out.1.old.keep hB14)
    clear t0 hbk hkT hv hf hfn hvs hb13 HT13 HKR HB11 HBW11 HRD y0
    go_upto_region 13 with fail
    rw [← hw14]
    obtain ⟨U, hUe⟩ : ∃ U, U = w13.heap.size := ⟨_, rfl⟩
    rw [← hUe] at hU ⊢
    have HU := Lib.hid hU
    have HT := Lib.hid (HTB.out.below HB6.out HTB.out.lt)
    clear hw14 hU hB14 hs14 hUe
    have hlen : l.length ≤ 500 := by have := HL.out.2.2; have := HG.out.2; omega
    have HTD := Lib.hid (fun wx (hb : Below w14.heap.size w14 wx) => told_any 40 (rootT s0) _ wx (by rw [rootT_size]; have := HG.out.2; omega) (by omega) (rootT_tf s0 HG.out.1) (HT14.out.keep hb))
    have HRO := Lib.hid (show ∀ wx v, Below w14.heap.size w14 wx → IsT sK wx (Old wx) (rootT s0) v → Calls Tryz.prog 15 #[v, .int .i64 g] wx (REnPost wx l) from fun wx v _ hT => by
      have h := rof_any (rootT s0) v g wx (by rw [rootT_size]; have := HG.out.2; omega) (rootT_st s0 HG.out.1) hT (by rw [← HL.out.1]; exact HL.out.2.1)
      rw [← HL.out.1] at h
      exact h)
    have HIS := Lib.hid (show ∀ wx A c, Below w14.heap.size w14 wx → wx.ownsRow w14.heap.size 113 5 (.slice A l.length c) l.length (l.flatMap cvE) → Calls Tryz.prog 14 #[.slice A9 sn c9, .slice A l.length c] wx (fun e w' => e = .returned (.bool true) ∧ Below wx.heap.size wx w') from fun wx A c hb ho => by
      have h9 := own_keep HO9.out (HB14.out.trans (hb.mono HB14.out.size))
      rw [HSN.out] at h9 ⊢
      exact is_any A9 A l.length c9 c _ _ l wx ((RdS.of_own (cv := cvE) (sz := 5) (d := en0) (fun _ _ => rfl) h9 rfl).rd fun b h => h.2) ((RdS.of_own (cv := cvE) (sz := 5) (d := en0) (fun _ _ => rfl) ho rfl).rd fun b h => h.2) hlen)
    have HSM := Lib.hid (fun wx (hb : Below w14.heap.size w14 wx) => sames_any 20 (numT s0 1) s0 _ _ wx (by omega) (by rw [numT_size]; exact HG.out.2) (Alk.num s0 1) (num_sf s0 1 HG.out.1) (good_sf s0 HG.out.1) (HK14.out.keep hb) ((HTS.out.move (Still.of_below (HB6.out.trans (hb.mono HB6.out.size)) fun _ h => h)).weak fun b h => Nat.lt_of_lt_of_le h (HB6.out.trans (hb.mono HB6.out.size)).size))
    unfold sV sC at HTD HSM
    refine wp_region_tail 22 _ ?_ ?_ ?_ ?_ (LmnR13 w14 U T bk ok c9 c7 sn u1 u2 u3 t1 t2 t3 t4 tn f1 f2 f3 f4 fn A9 U1 U2 U3 T1 T2 T3 T4 F1 F2 F3 F4 rd e f (rootT s0) g l) (fun j v wx wy => LmnR13_keep _ _ _ _ _ _ _ _ _ _ _ _ _ _ _ _ _ _ _ _ _ _ _ _ _ _ _ _ _ _ _ _ _ _ _ _ _ _ _ j v wx wy) ?_ ?_ ?_
    · kernel_rfl
    · kernel_rfl
    · kernel_rfl
    · kernel_rfl
    · refine ⟨opV rfl fun s wx hb hd => ⟨_, ex_mv rfl (lit_out 9 (by kernel_rfl)), rfl⟩, ?_⟩
      refine ⟨opV rfl fun s wx hb hd => ⟨_, ex_ld rfl (lit_out 10 (by kernel_rfl)) (ld_row ((HU.out).below hb (HU.out).lt) Tryz.underlying40 sz_st), rfl⟩, ?_⟩
      refine ⟨opC rfl fun s wx hb hd => ⟨_, _, ex_c1 rfl rfl (enters Tryz.func16 (by kernel_rfl) rfl _ _) ((lit_at 1 73 (by kernel_rfl) (by kernel_rfl) (by kernel_rfl)).trans (hd 1 (by kernel_rfl))), ?_⟩, ?_⟩
      · refine (HTD.out wx hb).mono ?_
        rintro e1 w1 ⟨v', rfl, hT', hb'⟩
        exact ⟨v', rfl, hT'.weak (Fresh.low hb.size), hb'⟩
      refine ⟨opV rfl fun s wx hb hd => ⟨_, ex_mv rfl (lit_out 3 (by kernel_rfl)), rfl⟩, ?_⟩
      refine ⟨opC rfl fun s wx hb hd => ?_, ?_⟩
      · have hT := (hd 2 (by kernel_rfl))
        refine ⟨_, _, ex_c2 rfl rfl (enters Tryz.func15 (by kernel_rfl) rfl _ _) (lit_at 2 74 (by kernel_rfl) (by kernel_rfl) (by kernel_rfl)) ((lit_at 3 75 (by kernel_rfl) (by kernel_rfl) (by kernel_rfl)).trans (hd 3 (by kernel_rfl))), ?_⟩
        refine (HRO.out wx _ hb (IsT.old hT)).mono ?_
        rintro e1 w1 ⟨A, c, rfl, ho, hb'⟩
        exact ⟨_, rfl, ⟨A, c, rfl, own_base ho hb.size⟩, hb'⟩
      refine ⟨opC rfl fun s wx hb hd => ?_, ?_⟩
      · obtain ⟨A, c, e, ho⟩ := (hd 4 (by kernel_rfl))
        refine ⟨_, _, ex_c2 rfl rfl (enters Tryz.func14 (by kernel_rfl) rfl _ _) ((lit_at 0 72 (by kernel_rfl) (by kernel_rfl) (by kernel_rfl)).trans (hd 0 (by kernel_rfl))) ((lit_at 4 76 (by kernel_rfl) (by kernel_rfl) (by kernel_rfl)).trans e), ?_⟩
        refine (HIS.out wx A c hb ho).mono ?_
        rintro e1 w1 ⟨rfl, hb'⟩
        exact ⟨_, rfl, rfl, hb'⟩
      refine ⟨opV rfl fun s wx hb hd => ⟨_, ex_notT rfl ((lit_at 5 77 (by kernel_rfl) (by kernel_rfl) (by kernel_rfl)).trans (hd 5 (by kernel_rfl))), rfl⟩, ?_⟩
      refine ⟨opV rfl fun s wx hb hd => ⟨_, ex_mv rfl ((lit_at 6 78 (by kernel_rfl) (by kernel_rfl) (by kernel_rfl)).trans (hd 6 (by kernel_rfl))), rfl⟩, ?_⟩
      refine ⟨op_grd 7 false 79 (by kernel_rfl) (by kernel_rfl) (by kernel_rfl) (fun s => (lit_at 7 79 (by kernel_rfl) (by kernel_rfl) (by kernel_rfl))) (fun _ _ h => h) fun s wx hb hd => .inl ⟨_, ex_fld rfl (lit_out 10 (by kernel_rfl)) (fa_st_7 _ wx), rfl⟩, ?_⟩
      refine ⟨op_grd 7 false 79 (by kernel_rfl) (by kernel_rfl) (by kernel_rfl) (fun s => (lit_at 7 79 (by kernel_rfl) (by kernel_rfl) (by kernel_rfl))) (fun _ _ h => h) fun s wx hb hd => .inl ⟨_, ex_ld rfl ((lit_at 8 80 (by kernel_rfl) (by kernel_rfl) (by kernel_rfl)).trans (hd 8 (by kernel_rfl))) (ld_Lstill_Tree (((HU.out).below hb (HU.out).lt).cell 7)), rfl⟩, ?_⟩
      refine ⟨op_grd 7 false 79 (by kernel_rfl) (by kernel_rfl) (by kernel_rfl) (fun s => (lit_at 7 79 (by kernel_rfl) (by kernel_rfl) (by kernel_rfl))) (fun _ _ h => h) fun s wx hb hd => .inl ⟨_, ex_len38 rfl rfl ((lit_at 9 81 (by kernel_rfl) (by kernel_rfl) (by kernel_rfl)).trans (hd 9 (by kernel_rfl))), rfl⟩, ?_⟩
      refine ⟨op_grd 7 false 79 (by kernel_rfl) (by kernel_rfl) (by kernel_rfl) (fun s => (lit_at 7 79 (by kernel_rfl) (by kernel_rfl) (by kernel_rfl))) (fun _ _ h => h) fun s wx hb hd => .inl ⟨_, ex_neq1 rfl ((lit_at 10 82 (by kernel_rfl) (by kernel_rfl) (by kernel_rfl)).trans (hd 10 (by kernel_rfl))) rfl, rfl⟩, ?_⟩
      refine ⟨opV rfl fun s wx hb hd => ⟨_, ex_pkF rfl ((lit_at 7 79 (by kernel_rfl) (by kernel_rfl) (by kernel_rfl)).trans (hd 7 (by kernel_rfl))) ((lit_at 11 83 (by kernel_rfl) (by kernel_rfl) (by kernel_rfl)).trans (hd 11 (by kernel_rfl))), rfl⟩, ?_⟩
      refine ⟨opV rfl fun s wx hb hd => ⟨_, ex_mv rfl ((lit_at 12 84 (by kernel_rfl) (by kernel_rfl) (by kernel_rfl)).trans (hd 12 (by kernel_rfl))), rfl⟩, ?_⟩
      refine ⟨op_grd 13 false 85 (by kernel_rfl) (by kernel_rfl) (by kernel_rfl) (fun s => (lit_at 13 85 (by kernel_rfl) (by kernel_rfl) (by kernel_rfl))) (fun _ _ h => h) fun s wx hb hd => .inl ⟨_, ex_fld rfl (lit_out 10 (by kernel_rfl)) (fa_st_7 _ wx), rfl⟩, ?_⟩
      refine ⟨op_grd 13 false 85 (by kernel_rfl) (by kernel_rfl) (by kernel_rfl) (fun s => (lit_at 13 85 (by kernel_rfl) (by kernel_rfl) (by kernel_rfl))) (fun _ _ h => h) fun s wx hb hd => .inl ⟨_, ex_ld rfl ((lit_at 14 86 (by kernel_rfl) (by kernel_rfl) (by kernel_rfl)).trans (hd 14 (by kernel_rfl))) (ld_Lstill_Tree (((HU.out).below hb (HU.out).lt).cell 7)), rfl⟩, ?_⟩
      refine ⟨op_grd 13 false 85 (by kernel_rfl) (by kernel_rfl) (by kernel_rfl) (fun s => (lit_at 13 85 (by kernel_rfl) (by kernel_rfl) (by kernel_rfl))) (fun _ _ h => h) fun s wx hb hd => .inl ⟨_, ex_idx rfl ((lit_at 15 87 (by kernel_rfl) (by kernel_rfl) (by kernel_rfl)).trans (hd 15 (by kernel_rfl))) rfl (ix_st0 _ _ _ wx), rfl⟩, ?_⟩
      refine ⟨op_grd 13 false 85 (by kernel_rfl) (by kernel_rfl) (by kernel_rfl) (fun s => (lit_at 13 85 (by kernel_rfl) (by kernel_rfl) (by kernel_rfl))) (fun _ _ h => h) fun s wx hb hd => .inl ⟨_, ex_ld rfl ((lit_at 16 88 (by kernel_rfl) (by kernel_rfl) (by kernel_rfl)).trans (hd 16 (by kernel_rfl))) ((HKT.out.1.below hb HKT.out.2).lds), rfl⟩, ?_⟩
      refine ⟨op_grd 13 false 85 (by kernel_rfl) (by kernel_rfl) (by kernel_rfl) (fun s => (lit_at 13 85 (by kernel_rfl) (by kernel_rfl) (by kernel_rfl))) (fun _ _ h => h) fun s wx hb hd => .inl ⟨_, ex_ld rfl (lit_out 7 (by kernel_rfl)) (ld_row ((HT.out).below hb (HT.out).lt) Tryz.underlying40 sz_st), rfl⟩, ?_⟩
      refine ⟨op_grd 13 false 85 (by kernel_rfl) (by kernel_rfl) (by kernel_rfl) (fun s => (lit_at 13 85 (by kernel_rfl) (by kernel_rfl) (by kernel_rfl))) (fun _ _ h => h) fun s wx hb hd => .inr ⟨_, _, ex_c2 rfl rfl (enters Tryz.func17 (by kernel_rfl) rfl _ _) ((lit_at 17 89 (by kernel_rfl) (by kernel_rfl) (by kernel_rfl)).trans (hd 17 (by kernel_rfl))) ((lit_at 18 90 (by kernel_rfl) (by kernel_rfl) (by kernel_rfl)).trans (hd 18 (by kernel_rfl))), ?_⟩, ?_⟩
      · refine (HSM.out wx hb).mono ?_
        rintro e1 w1 ⟨rfl, hb'⟩
        exact ⟨_, rfl, rfl, hb'⟩
      refine ⟨op_grd 13 false 85 (by kernel_rfl) (by kernel_rfl) (by kernel_rfl) (fun s => (lit_at 13 85 (by kernel_rfl) (by kernel_rfl) (by kernel_rfl))) (fun _ _ h => h) fun s wx hb hd => .inl ⟨_, ex_notT rfl ((lit_at 19 91 (by kernel_rfl) (by kernel_rfl) (by kernel_rfl)).trans (hd 19 (by kernel_rfl))), rfl⟩, ?_⟩
      refine ⟨opV rfl fun s wx hb hd => ⟨_, ex_pkF rfl ((lit_at 13 85 (by kernel_rfl) (by kernel_rfl) (by kernel_rfl)).trans (hd 13 (by kernel_rfl))) ((lit_at 20 92 (by kernel_rfl) (by kernel_rfl) (by kernel_rfl)).trans (hd 20 (by kernel_rfl))), rfl⟩, ?_⟩
      trivial
    rotate_left
    · kernel_rfl
    intro s15 w15 hb15 hV
    have e21 : s15 21 = .bool false := hV 21 (by omega)
    clear hV
    simp only [List.take_succ_cons, List.take_zero, List.drop_succ_cons, List.drop_zero, litOf, List.map_cons, List.map_nil, Nat.zero_add, Nat.reduceAdd, Act.put, List.setIfInBounds_toArray, List.set_cons_succ, List.set_cons_zero]
    refine wpList_nil ?_
    rw [e21]
    have hHIT := hit_any A9 l.length c9 l px py w15 ((RdS.of_own (cv := cvE) (sz := 5) (d := en0) (fun _ _ => rfl) (show w15.ownsRow w11.heap.size 79 5 (.slice A9 l.length c9) l.length (l.flatMap cvE) by rw [← HSN.out]; exact own_keep HO9.out (HB14.out.trans (hb15.mono HB14.out.size))) rfl).rd fun b h => h.2) hlen HL.out.2.1
    rw [← HSN.out] at hHIT
    have HO15 := Lib.hid (own_keep HO9.out (HB14.out.trans (hb15.mono HB14.out.size)))
    have HB15 := Lib.hid (HBW14.out.trans (hb15.mono HBW14.out.size))
    have HT15 := Lib.hid (HT.out.below hb15 HT.out.lt)
    have HTS15 := Lib.hid (show IsT sK w15 (Old w15) s0 _ from (HTS.out.move (Still.of_below (HB6.out.trans (hb15.mono HB6.out.size)) fun _ h => h)).weak fun b h => Nat.lt_of_lt_of_le h (HB6.out.trans (hb15.mono HB6.out.size)).size)
    obtain ⟨H, hH⟩ : ∃ H, H = hitTo l px py sn := ⟨_, rfl⟩
    have HH := Lib.hid hH
    rw [← hH] at hHIT
    unfold RowPost at hHIT
    obtain ⟨m, hm⟩ : ∃ m, m = H.length := ⟨_, rfl⟩
    have HM := Lib.hid hm
    rw [← hm] at hHIT
    have HHIT := Lib.hid hHIT
    have HSN5 := Lib.hid (show sn ≤ 500 by rw [HSN.out]; exact hlen)
    have HM5 := Lib.hid (show m ≤ 500 by rw [hm, hH]; exact Nat.le_trans (hitTo_len l px py sn) HSN5.out)
    clear hHIT hH hm hb15 e21 HSM HIS HRO HTD HU HT HKT HK14 HT14 HBW14 HB6 HB14 HO9 HB12 HTS HTB HDM HLK hlen
    go_wp2_with fail
    refine HHIT.out.mono ?_
    rintro e16 w16 ⟨AH, cH, rfl, hoH, hb16⟩
    have HNM := Lib.hid (Nums.of_own hoH HM.out.symm)
    have HO16 := Lib.hid (own_keep HO15.out hb16)
    have HB16 := Lib.hid (HB15.out.trans (hb16.mono HB15.out.size))
    have HT16 := Lib.hid (HT15.out.below hb16 HT15.out.lt)
    have HTS16 := Lib.hid (HTS15.out.keep hb16)
    clear hoH hb16 HO15 HB15 HT15 HTS15 HHIT
    go_wp2_with fail
    go_loopw [100] (fun i wx => ∃ k, k ≤ m ∧ i = .int .i64 (k : Nat) ∧ Below w16.heap.size w16 wx) (fun i _ => m - (intOf i).toNat)
    case atStart => exact ⟨0, Nat.zero_le _, rfl, Below.refl _ _⟩
    case round =>
      obtain ⟨k, hk, rfl, hb⟩ := hrel
      by_cases hlt : k < m
      · obtain ⟨bh, oh, rfl, hbh, d0⟩ := HNM.out.2 k hlt
        replace d0 := (hb.cell (p := ⟨bh, oh + k, none⟩) hbh).trans d0
        obtain ⟨j, hj, hid, hhas⟩ := hitTo_mem l px py sn k (by rw [← HH.out, ← HM.out]; exact hlt)
        rw [HH.out, hid] at d0
        have hge := getE_any A9 l.length c9 l j wr ((RdS.of_own (cv := cvE) (sz := 5) (d := en0) (fun _ _ => rfl) (show wr.ownsRow w11.heap.size 79 5 (.slice A9 l.length c9) l.length (l.flatMap cvE) by rw [← HSN.out]; exact own_keep HO16.out hb) rfl).rd fun b h => h.2) (by rw [← HSN.out]; exact HSN5.out) HL.out.2.1 (by rw [← HSN.out]; exact hj)
        rw [← HSN.out] at hge
        obtain ⟨⟨ti, v1, v2, v3, v4⟩, ht⟩ : ∃ t, t = l.getD j en0 := ⟨_, rfl⟩
        rw [← ht] at d0 hhas hge
        simp only at d0 hhas
        have HGE := Lib.hid hge
        have HBR := Lib.hid hb
        have HHS := Lib.hid (fun wx => hasr_any v1 v2 v3 v4 px py wx)
        rw [hhas] at HHS
        have i1 : (0 : Int) ≤ (k : Int) := by omega
        have i2 : (k : Int) < (m : Int) := by omega
        have hm5 := HM5.out
        clear hge ht hid hhas hj hb hbh
        go_wp2_with fail
        refine HGE.out.mono ?_
        rintro e17 w17 ⟨rfl, hb17⟩
        obtain ⟨w18, hw18, hK, hB18, hs18⟩ := one_new w17 #[.int .i64 v1, .int .i64 v2, .int .i64 v3, .int .i64 v4] 74
        have HB18 := Lib.hid (HBR.out.trans ((hb17.trans (hB18.mono hb17.size)).mono HBR.out.size))
        unfold rcV
        clear hb17 d0 HBR HGE
        go_upto_region 20 with fail
        rw [← hw18]
        obtain ⟨K, hKe⟩ : ∃ K, K = w17.heap.size := ⟨_, rfl⟩
        rw [← hKe] at hK ⊢
        have y0 : w18.cell? ⟨K, 0, none⟩ = some (.int .i64 v1) := hK.cell 0
        have y1 : w18.cell? ⟨K, 1, none⟩ = some (.int .i64 v2) := hK.cell 1
        have y2 : w18.cell? ⟨K, 2, none⟩ = some (.int .i64 v3) := hK.cell 2
        have y3 : w18.cell? ⟨K, 3, none⟩ = some (.int .i64 v4) := hK.cell 3
        clear hw18 hK hB18 hs18 hKe
        go_wp2_with fail
        refine (HHS.out w18).mono ?_
        rintro e19 w19 ⟨rfl, hb19⟩
        have HB19 := Lib.hid (HB18.out.trans (hb19.mono HB18.out.size))
        clear hb19 HB18 y0 y1 y2 y3 HHS
        go_wp2_with fail
        go_roundw
        case rel => exact ⟨k + 1, by omega, by go_num, HB19.out⟩
        case measure => simp [intOf]; omega
      · obtain rfl : k = m := by omega
        have HBR := Lib.hid hb
        clear hb hlt hk
        go_wp2_with fail
        obtain ⟨wq, rfl⟩ : ∃ wq, wq = wr := ⟨_, rfl⟩
        go_loopw [17, 122] (fun v i wx => ∃ k, k ≤ sn ∧ i = .int .i64 (k : Nat) ∧ v = .int .i64 ((hitTo l px py k).length : Nat) ∧ Below wq.heap.size wq wx) (fun _ i _ => sn - (intOf i).toNat)
        case atStart => exact ⟨0, Nat.zero_le _, rfl, rfl, Below.refl _ _⟩
        case round =>
          obtain ⟨j, hj, rfl, rfl, hb⟩ := hrel
          have hsn5 := HSN5.out
          have hol := hitTo_len l px py j
          by_cases hlt : j < sn
          · have hes : Es wr wr.heap.size A9 sn l := by
              have h := own_keep HO16.out (HBR.out.trans (hb.mono HBR.out.size))
              rw [HSN.out] at h ⊢
              exact (RdS.of_own (cv := cvE) (sz := 5) (d := en0) (fun _ _ => rfl) h rfl).rd fun b h => h.2
            obtain ⟨b, off, rfl, hbB, d0, d1, d2, d3, d4⟩ := rd_en hes j hlt
            have HT := Lib.hid (show hitTo l px py (j + 1) = if hasR (l.getD j en0).2 px py = true then hitTo l px py j ++ [(l.getD j en0).1] else hitTo l px py j from rfl)
            obtain ⟨⟨ti, v1, v2, v3, v4⟩, ht⟩ : ∃ t, t = l.getD j en0 := ⟨_, rfl⟩
            rw [← ht] at d0 d1 d2 d3 d4 HT
            simp only at d0 d1 d2 d3 d4
            obtain ⟨o, ho⟩ : ∃ o, o = hitTo l px py j := ⟨_, rfl⟩
            rw [← ho] at HT hol ⊢
            obtain ⟨ln, hln⟩ : ∃ ln, ln = o.length := ⟨_, rfl⟩
            rw [← hln] at hol ⊢
            have HLN := Lib.hid hln
            have i1 : (0 : Int) ≤ (j : Int) := by omega
            have i2 : (j : Int) < (sn : Int) := by omega
            obtain ⟨w18, hw18, hK, hB18, hs18⟩ := one_new wr #[.int .i64 ti, .int .i64 v1, .int .i64 v2, .int .i64 v3, .int .i64 v4] 79
            have HB18 := Lib.hid (hb.trans (hB18.mono hb.size))
            clear ht ho hln hes hbB hb
            go_upto_region 27 with fail
            rw [← hw18]
            obtain ⟨K, hKe⟩ : ∃ K, K = wr.heap.size := ⟨_, rfl⟩
            rw [← hKe] at hK ⊢
            have y1 : w18.cell? ⟨K, 1, none⟩ = some (.int .i64 v1) := hK.cell 1
            have y2 : w18.cell? ⟨K, 2, none⟩ = some (.int .i64 v2) := hK.cell 2
            have y3 : w18.cell? ⟨K, 3, none⟩ = some (.int .i64 v3) := hK.cell 3
            have y4 : w18.cell? ⟨K, 4, none⟩ = some (.int .i64 v4) := hK.cell 4
            clear hw18 hK hB18 hs18 hKe d0 d1 d2 d3 d4
            go_wp2_with fail
            refine (hasr_any v1 v2 v3 v4 px py w18).mono ?_
            obtain ⟨qh, hqh⟩ : ∃ qh, qh = hasR (v1, v2, v3, v4) px py := ⟨_, rfl⟩
            rw [← hqh] at HT ⊢
            rintro e19 w19 ⟨rfl, hb19⟩
            have HB19 := Lib.hid (HB18.out.trans (hb19.mono HB18.out.size))
            clear hb19 HB18 y1 y2 y3 y4 hqh
            cases qh
            · have HT2 := Lib.hid (show (hitTo l px py (j + 1)).length = ln by rw [HT.out, HLN.out]; rfl)
              clear HT
              go_wp2_with fail
              go_roundw
              case rel => exact ⟨j + 1, by omega, by go_num, by rw [HT2.out], HB19.out⟩
              case measure => simp [intOf]; omega
            · have HT2 := Lib.hid (show (hitTo l px py (j + 1)).length = ln + 1 by rw [HT.out, HLN.out]; simp)
              clear HT
              go_wp2_with fail
              go_roundw
              case rel => exact ⟨j + 1, by omega, by go_num, by rw [HT2.out]; go_num, HB19.out⟩
              case measure => simp [intOf]; omega
          · obtain rfl : j = sn := by omega
            have hmm : (hitTo l px py j).length = k := by rw [HM.out, HH.out]
            rw [hmm]
            have HBF := Lib.hid (HB16.out.trans ((HBR.out.trans (hb.mono HBR.out.size)).mono HB16.out.size))
            have hb16 := HBR.out.trans (hb.mono HBR.out.size)
            obtain ⟨sz, hsz⟩ : ∃ sz, sz = s0.size := ⟨_, rfl⟩
            have hjs : j = sz + 1 := by rw [HSN.out, hsz]; exact HL.out.2.2
            have hsz2 : sz ≤ 20 := by rw [hsz]; exact HG.out.2
            have hTSZ := tsize_any s0 _ wr (by have := HG.out.2; omega) (HTS16.out.keep hb16)
            rw [← hsz] at hTSZ
            have HTSZ := Lib.hid hTSZ
            obtain ⟨x0, x1, x2, x3, x4, x5, x6, x7⟩ := scells (a1 := .slice T1 e.cl.length t1) (a2 := .slice T2 e.at_.length t2) (a3 := .slice T3 e.st.length t3) (k := .slice T4 tn t4) (HT16.out.below hb16 HT16.out.lt)
            have j1 : (((j : Nat) : Int) == ((sz : Nat) : Int) + 1) = true := by rw [hjs]; simp
            have j2 : wrap64 ((sz : Int) + 1) = (sz : Int) + 1 := by unfold wrap64; omega
            clear hmm hb hb16 hsz hjs hTSZ hol hlt hj
            go_wp2_with fail
            refine HTSZ.out.mono ?_
            rintro e20 w20 ⟨rfl, hb20⟩
            have HBE := Lib.hid (HBF.out.trans (hb20.mono HBF.out.size))
            clear hb20 x0 x1 x2 x3 x4 x5 x6 x7 HBF HTSZ
            go_wp2_with fail
            go_ret
            exact ⟨rfl, HBE.out⟩
  · have i1 : (q != 0) = true := by simp [hq0]
    clear hq0
    go_wp2_with fail
    go_ret
    exact ⟨rfl, HBW.out⟩

end Go.Proofs.YtaalhglooipnaaaGreat
