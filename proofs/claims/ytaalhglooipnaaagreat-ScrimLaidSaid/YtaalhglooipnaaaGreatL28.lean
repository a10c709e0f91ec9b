/-
  The layout's place.
  The walks over own, AddClass, SetAttr, SetStyle, Element, Text of layer 5.
-/
import Derived.Test.YtaalhglooipnaaaGreatL27
import Derived.Test.YtaalhglooipnaaaGreatL24
namespace Go.Proofs.YtaalhglooipnaaaGreat
open Go.RowKit RT
attribute [local go_sem ↓] Go.wp_at_zero Go.wp_at_succ

mutual
theorem placeT_len : ∀ (t : STr) (x y g : Int), (placeT t x y g).length ≤ t.size
  | .mk d ks, x, y, g => by
    rw [placeT, RT.size, List.length_cons]
    split
    · simp
    · have := placesT_len d (insV d g) x y ks (putT d (insV d g) ks).out; omega
theorem placesT_len (d : SD) (n x y : Int) : ∀ (ks : List STr) (ps : List (Int × Int)), (placesT d n x y ks ps).length ≤ sizes ks
  | [], ps => by rw [placesT] <;> simp
  | _ :: _, [] => by rw [placesT] <;> simp
  | t :: ts, p :: ps => by
    rw [placesT, List.length_append, sizes]
    have := placeT_len t (Fl.P1.add (Fl.P1.add x (styV d nmPad)) p.1) (Fl.P1.add (Fl.P1.add y (styV d nmPad)) p.2) (givenT d t n)
    have := placesT_len d n x y ts ps
    omega
end
theorem AccPost.pre {w w1 w2 : World} {base L : Nat} {l new : List En} {v : Value} (hb : Below w.heap.size w w1) (h : AccPost w1 base L l v new w2) : AccPost w base L l v new w2 := by
  obtain ⟨v2, a1, a2, a3⟩ := h
  refine ⟨v2, a1, (Chg.of_below hb fun i hi _ => hi).trans a2, ?_⟩
  rcases a3 with a3 | a3
  · exact .inl a3
  · exact .inr fun b h => Nat.le_trans hb.size (a3 b h)
set_option maxRecDepth 100000 in
set_option maxHeartbeats 8000000 in
theorem lplace_any (m : Nat) : ∀ (t : STr) (v : Value) (x y g : Int) (w : World) (base L : Nat) (l : List En) (u : Value), m ≤ 40 → t.size ≤ m → All stOk t → IsT sK w (· < base) t v → Acc w base L l u → l.length + t.size ≤ 500 →
    Calls Tryz.prog 69 #[v, .int .i64 x, .int .i64 y, .int .i64 g, .func (.func 70) #[] #[.pointer (some ⟨L, 0, none⟩)]] w fun e w' => e = .returned (.tuple #[]) ∧ AccPost w base L l u (placeT t x y g) w' := by
  induction m with
  | zero => intro t v x y g w base L l u _ h; have := size_pos t; omega
  | succ m ih =>
    intro t v x y g w base L l u hm hsz hal hT hA hlen
    have hbase : base ≤ w.heap.size := by have := hA.1; have := hA.2.1.lt; omega
    have hTo : IsT sK w (Old w) t v := hT.weak fun b h => Nat.lt_of_lt_of_le h hbase
    have HPUT := Lib.hid (fun wx vx n (hx : IsT sK wx (Old wx) t vx) => lput_any 39 (by omega) (fun t v g w h => lsize_any 39 t v g w (by omega) h) t vx n wx (by omega) hal hx)
    have HSIZ := Lib.hid (fun wx vx (hx : IsT sK wx (Old wx) t vx) => lsize_any 40 t vx g wx (by omega) (by omega) hal hx)
    obtain ⟨A4, c4, vs, ⟨a1, a2, a3, rfl, hr⟩, hvs, hks⟩ := IsT.eq.1 hT
    obtain ⟨hs, hals⟩ := All.eq.1 hal
    have hkl := kids_len hsz
    have hks1 := fun k hk => kid_size hsz k hk
    have HEQ := Lib.hid (placeT_eq t x y g)
    have hsk : t.size = 1 + sizes t.kids := RT.size_eq t
    obtain ⟨d, hd⟩ : ∃ d, d = t.dat := ⟨_, rfl⟩
    obtain ⟨ks, hkse⟩ : ∃ ks, ks = t.kids := ⟨_, rfl⟩
    rw [← hd] at hr hs HEQ HPUT hTo hT ⊢
    rw [← hkse] at hvs hks hals hkl hks1 HEQ HPUT hTo hT hsk ⊢
    rw [hsk] at hlen
    obtain ⟨A1, c1, A2, c2, A3, c3, rfl, rfl, rfl, hrr⟩ := hr
    have hr : Rows3 w (· < base) d.cl d.at_ d.st (.slice A1 d.cl.length c1) (.slice A2 d.at_.length c2) (.slice A3 d.st.length c3) := ⟨A1, c1, A2, c2, A3, c3, rfl, rfl, rfl, hrr⟩
    obtain ⟨w1, hw1, hX, hB0, hs1⟩ := one_new w (sC d (.slice A1 d.cl.length c1) (.slice A2 d.at_.length c2) (.slice A3 d.st.length c3) (.slice A4 ks.length c4)).toArray 40
    obtain ⟨p, hp⟩ : ∃ p, p = (sizeT t g).1 := ⟨_, rfl⟩
    obtain ⟨q, hq⟩ : ∃ q, q = (sizeT t g).2 := ⟨_, rfl⟩
    rw [← hp, ← hq] at HEQ
    have HSZ := Lib.hid (show ∀ wx, Below w.heap.size w wx → Calls Tryz.prog 109 #[.agg #[.int .i64 d.id, .int .i64 d.kind, .string d.tag, .string d.text, .slice A1 d.cl.length c1, .slice A2 d.at_.length c2, .slice A3 d.st.length c3, .slice A4 ks.length c4], .int .i64 g] wx (fun e' w' => e' = .returned (.agg #[.int .i64 p, .int .i64 q]) ∧ Below wx.heap.size wx w') from fun wx hbx => by
      have h := HSIZ.out wx _ (hTo.keep hbx)
      unfold SzPost at h
      rw [← hp, ← hq] at h
      exact h)
    have HTO := Lib.hid hTo
    have HLN := Lib.hid hlen
    have HA := Lib.hid (And.intro hA (hA.keep hB0))
    have HKS := Lib.hid (And.intro (show Vs 8 w (· < base) A4 ks.length vs from hvs) (And.intro hks hbase))
    have HR := Lib.hid hr
    have HTB := Lib.hid hT
    unfold sV sC
    unfold sC at hX hw1
    clear hT hal hd hkse hsz hA hlen hbase hTo hvs hks hr hrr hp hq HSIZ hsk
    go_enter Tryz.func69, Tryz.ntmps69
    go_upto_region 1 with fail
    rw [← hw1]
    obtain ⟨X, hXe⟩ : ∃ X, X = w.heap.size := ⟨_, rfl⟩
    rw [← hXe] at hX ⊢
    have HX := Lib.hid hX
    have HB := Lib.hid hB0
    obtain ⟨x0, x1, x2, x3, x4, x5, x6, x7⟩ := scells (a1 := .slice A1 d.cl.length c1) (a2 := .slice A2 d.at_.length c2) (a3 := .slice A3 d.st.length c3) (k := .slice A4 ks.length c4) hX
    clear hw1 hXe hX hB0 hs1
    go_wp2_with fail
    refine (HSZ.out w1 HB.out).mono ?_
    rintro e2 w2 ⟨rfl, hb2⟩
    obtain ⟨w3, hw3, hS3, hB3, hs3⟩ := one_new w2 #[.int .i64 p, .int .i64 q] 180
    clear x0 x1 x2 x3 x4 x5 x6 x7
    go_upto_region 2 with fail
    rw [← hw3]
    obtain ⟨S, hSe⟩ : ∃ S, S = w2.heap.size := ⟨_, rfl⟩
    rw [← hSe] at hS3 ⊢
    have hb3 : Below w1.heap.size w1 w3 := hb2.trans (hB3.mono hb2.size)
    have HX3 := Lib.hid (HX.out.below hb3 HX.out.lt)
    have HB3 := Lib.hid (HB.out.trans (hb3.mono HB.out.size))
    have HA3 := Lib.hid (HA.out.2.keep hb3)
    have y0 : w3.cell? ⟨S, 0, none⟩ = some (.int .i64 p) := hS3.cell 0
    have y1 : w3.cell? ⟨S, 1, none⟩ = some (.int .i64 q) := hS3.cell 1
    obtain ⟨x0, x1, x2, x3, x4, x5, x6, x7⟩ := scells (a1 := .slice A1 d.cl.length c1) (a2 := .slice A2 d.at_.length c2) (a3 := .slice A3 d.st.length c3) (k := .slice A4 ks.length c4) HX3.out
    clear hw3 hS3 hB3 hs3 hSe hb2 hb3 HX HB HSZ
    go_wp2_with fail
    refine (yield_any d.id x y p q w3 base L l u HA3.out (by have := HLN.out; omega)).mono ?_
    rintro e4 w4 ⟨rfl, u4, hA4, hC4, hO4⟩
    have HX4 := Lib.hid (HA3.out.blk hC4 HX3.out (by decide) (by decide))
    have HP4 := Lib.hid (show AccPost w base L l u [(d.id, x, y, p, q)] w4 from AccPost.pre HB3.out ⟨u4, hA4, hC4, hO4⟩)
    have HA4 := Lib.hid hA4
    have HST := Lib.hid (show Still (· < base) w w4 from (Still.of_below HB3.out fun b hb => Nat.lt_of_lt_of_le hb HKS.out.2.2).trans (HA3.out.still hC4))
    have HC4 := Lib.hid (And.intro ((Chg.of_below HB3.out fun i hi _ => hi).trans hC4) (show u4.ownBlock = u.ownBlock ∨ ∀ b, u4.ownBlock = some b → w.heap.size ≤ b by
      rcases hO4 with h | h
      · exact .inl h
      · exact .inr fun b hb => Nat.le_trans HB3.out.size (h b hb)))
    have HSZ4 := Lib.hid (show w.heap.size ≤ w4.heap.size from Nat.le_trans HB3.out.size hC4.size)
    obtain ⟨head, hhd⟩ : ∃ h, h = (d.id, x, y, p, q) := ⟨_, rfl⟩
    rw [← hhd] at HEQ HP4 HA4
    clear hA4 hC4 hO4 x0 x1 x2 x3 x4 x5 x6 x7 y0 y1 HX3 hhd
    obtain ⟨x0, x1, x2, x3, x4, x5, x6, x7⟩ := scells (a1 := .slice A1 d.cl.length c1) (a2 := .slice A2 d.at_.length c2) (a3 := .slice A3 d.st.length c3) (k := .slice A4 ks.length c4) HX4.out
    by_cases hk1 : d.kind = 1
    · have HE := Lib.hid (show placeT t x y g = [head] by rw [HEQ.out, if_pos hk1])
      have i1 : (d.kind == 1) = true := by simp [hk1]
      clear hk1 HEQ
      go_wp2_with fail
      refine bodyPost_ret (results_none rfl _ _ _) rfl ?_
      exact ⟨rfl, by rw [HE.out]; exact HP4.out⟩
    · have HE := Lib.hid (show placeT t x y g = head :: placesT d (insV d g) x y ks (putT d (insV d g) ks).out by rw [HEQ.out, if_neg hk1])
      have i1 : (d.kind == 1) = false := by simp [hk1]
      clear hk1 HEQ
      obtain ⟨I, hI⟩ : ∃ I, I = insV d g := ⟨_, rfl⟩
      obtain ⟨pad, hpad⟩ : ∃ pad, pad = styV d nmPad := ⟨_, rfl⟩
      have hR4 : Rows3 w4 (Old w4) d.cl d.at_ d.st (.slice A1 d.cl.length c1) (.slice A2 d.at_.length c2) (.slice A3 d.st.length c3) := (HR.out.move HST.out).weak fun b h => Nat.lt_of_lt_of_le (Nat.lt_of_lt_of_le h HKS.out.2.2) HSZ4.out
      have HR4 := Lib.hid hR4
      have hR4K := Lib.hid hR4
      have HIN := Lib.hid (show ∀ wx, Below w4.heap.size w4 wx → Calls Tryz.prog 110 #[.agg #[.int .i64 d.id, .int .i64 d.kind, .string d.tag, .string d.text, .slice A1 d.cl.length c1, .slice A2 d.at_.length c2, .slice A3 d.st.length c3, .slice A4 ks.length c4], .int .i64 g] wx (fun e' w' => e' = .returned (.int .i64 I) ∧ Below wx.heap.size wx w') from fun wx hbx => by
        have h := inside_any d _ _ _ A4 ks.length c4 g wx (HR4.out.old hbx) hs
        rw [← hI] at h
        exact h)
      have HPA := Lib.hid (show ∀ wx, Below w4.heap.size w4 wx → Calls Tryz.prog 111 #[.agg #[.int .i64 d.id, .int .i64 d.kind, .string d.tag, .string d.text, .slice A1 d.cl.length c1, .slice A2 d.at_.length c2, .slice A3 d.st.length c3, .slice A4 ks.length c4], .string nmPad] wx (fun e' w' => e' = .returned (.int .i64 pad) ∧ Below wx.heap.size wx w') from fun wx hbx => by
        have h := ask_any d _ _ _ A4 ks.length c4 nmPad wx (HR4.out.old hbx) hs
        rw [← hpad] at h
        exact h)
      rw [← hI] at HE
      have HPD := Lib.hid hpad
      clear hR4 hI hpad
      go_upto_region 4 with fail
      clear x0 x1 x2 x3 x4 x5 x6 x7
      have HX := HX4
      refine wp_region_tail 7 _ ?_ ?_ ?_ ?_ (PlaR4 w4 X d A1 A2 A3 A4 c1 c2 c3 ks.length c4 g I pad) (fun j v wx wy => PlaR4_keep _ _ _ _ _ _ _ _ _ _ _ _ _ _ _ j v wx wy) ?_ ?_ ?_
      · kernel_rfl
      · kernel_rfl
      · kernel_rfl
      · kernel_rfl
      · refine ⟨opV rfl fun s wx hb hd => ⟨_, ex_ld rfl (lit_out 5 (by kernel_rfl)) (ld_row ((HX.out).below hb (HX.out).lt) Tryz.underlying40 sz_st), rfl⟩, ?_⟩
        refine ⟨opV rfl fun s wx hb hd => ⟨_, ex_mv rfl (lit_out 3 (by kernel_rfl)), rfl⟩, ?_⟩
        refine ⟨opC rfl fun s wx hb hd => ⟨_, _, ex_c2 rfl rfl (enters Tryz.func110 (by kernel_rfl) rfl _ _) ((lit_at 0 34 (by kernel_rfl) (by kernel_rfl) (by kernel_rfl)).trans (hd 0 (by kernel_rfl))) ((lit_at 1 35 (by kernel_rfl) (by kernel_rfl) (by kernel_rfl)).trans (hd 1 (by kernel_rfl))), ?_⟩, ?_⟩
        · refine (HIN.out wx hb).mono ?_
          rintro e1 w1 ⟨rfl, hb'⟩
          exact ⟨_, rfl, rfl, hb'⟩
        refine ⟨opV rfl fun s wx hb hd => ⟨_, ex_ld rfl (lit_out 5 (by kernel_rfl)) (ld_row ((HX.out).below hb (HX.out).lt) Tryz.underlying40 sz_st), rfl⟩, ?_⟩
        refine ⟨opC rfl fun s wx hb hd => ⟨_, _, ex_c2 rfl rfl (enters Tryz.func111 (by kernel_rfl) rfl _ _) ((lit_at 3 37 (by kernel_rfl) (by kernel_rfl) (by kernel_rfl)).trans (hd 3 (by kernel_rfl))) rfl, ?_⟩, ?_⟩
        · refine (HPA.out wx hb).mono ?_
          rintro e1 w1 ⟨rfl, hb'⟩
          exact ⟨_, rfl, rfl, hb'⟩
        refine ⟨opV rfl fun s wx hb hd => ⟨_, ex_asg rfl ((lit_at 2 36 (by kernel_rfl) (by kernel_rfl) (by kernel_rfl)).trans (hd 2 (by kernel_rfl))), rfl⟩, ?_⟩
        refine ⟨opV rfl fun s wx hb hd => ⟨_, ex_asg rfl ((lit_at 4 38 (by kernel_rfl) (by kernel_rfl) (by kernel_rfl)).trans (hd 4 (by kernel_rfl))), rfl⟩, ?_⟩
        trivial
      rotate_left
      · kernel_rfl
      intro s w5 hb5 hV
      have e5 : s 5 = .int .i64 I := hV 5 (by omega)
      have e6 : s 6 = .int .i64 pad := hV 6 (by omega)
      clear hV
      simp only [List.take_succ_cons, List.take_zero, List.drop_succ_cons, List.drop_zero, litOf, List.map_cons, List.map_nil, Nat.zero_add, Nat.reduceAdd, Act.put, List.setIfInBounds_toArray, List.set_cons_succ, List.set_cons_zero]
      refine wpList_nil ?_
      rw [e5, e6]
      have HX5 := Lib.hid (HX4.out.below hb5 HX4.out.lt)
      have HA5 := Lib.hid (HA4.out.keep hb5)
      have HB5 := Lib.hid hb5
      clear HX hb5 e5 e6
      obtain ⟨x0, x1, x2, x3, x4, x5, x6, x7⟩ := scells (a1 := .slice A1 d.cl.length c1) (a2 := .slice A2 d.at_.length c2) (a3 := .slice A3 d.st.length c3) (k := .slice A4 ks.length c4) HX5.out
      go_wp2_with fail
      have hT5 : IsT sK w5 (Old w5) t (.agg #[.int .i64 d.id, .int .i64 d.kind, .string d.tag, .string d.text, .slice A1 d.cl.length c1, .slice A2 d.at_.length c2, .slice A3 d.st.length c3, .slice A4 ks.length c4]) :=
        ((HTB.out.move HST.out).weak fun b h => Nat.lt_of_lt_of_le (Nat.lt_of_lt_of_le h HKS.out.2.2) HSZ4.out).keep HB5.out
      refine (HPUT.out w5 _ I hT5).mono ?_
      clear hT5
      rintro e6 w6 ⟨AP, cP, rfl, hown, hb6⟩
      obtain ⟨T, hTe⟩ : ∃ T, T = putT d I ks := ⟨_, rfl⟩
      have HTL := Lib.hid (show T.out.length = ks.length by rw [hTe, putT, Fl.putSt_len, sizesT_len])
      rw [← hTe] at hown HE ⊢
      clear hTe
      obtain ⟨wb, hwb, hSb, hBb, hsb⟩ := one_new w6 #[.int .i64 T.W, .int .i64 (Fl.P1.add T.y T.h)] 180
      have HX6 := Lib.hid (HX5.out.below hb6 HX5.out.lt)
      clear x0 x1 x2 x3 x4 x5 x6 x7
      obtain ⟨x0, x1, x2, x3, x4, x5, x6, x7⟩ := scells (a1 := .slice A1 d.cl.length c1) (a2 := .slice A2 d.at_.length c2) (a3 := .slice A3 d.st.length c3) (k := .slice A4 ks.length c4) HX6.out
      go_upto_region 6 with fail
      rw [← hwb]
      have hb6b : Below w5.heap.size w5 wb := hb6.trans (hBb.mono hb6.size)
      have HXb := Lib.hid (HX5.out.below hb6b HX5.out.lt)
      have HAb := Lib.hid (HA5.out.keep hb6b)
      have HPb := Lib.hid (own_keep hown hBb)
      have HRb := Lib.hid (hR4K.out.old (HB5.out.trans (hb6b.mono HB5.out.size)))
      have HSb := Lib.hid (show Still (· < base) w wb from HST.out.trans (Still.of_below (HB5.out.trans (hb6b.mono HB5.out.size)) fun b hb => Nat.lt_of_lt_of_le (Nat.lt_of_lt_of_le hb HKS.out.2.2) HSZ4.out))
      have HWb := Lib.hid (HB5.out.trans (hb6b.mono HB5.out.size))
      clear hwb hSb hBb hsb hb6 hb6b hown x0 x1 x2 x3 x4 x5 x6 x7
      obtain ⟨x0, x1, x2, x3, x4, x5, x6, x7⟩ := scells (a1 := .slice A1 d.cl.length c1) (a2 := .slice A2 d.at_.length c2) (a3 := .slice A3 d.st.length c3) (k := .slice A4 ks.length c4) HXb.out
      go_wp2_with fail
      go_loopw [48] (fun i wx => ∃ k, k ≤ ks.length ∧ i = .int .i64 (k : Nat) ∧ AccPost wb base L (l ++ [head]) u4 (placesT d I x y (ks.take k) (T.out.take k)) wx) (fun i _ => ks.length - (intOf i).toNat)
      case atStart => exact ⟨0, Nat.zero_le _, rfl, u4, by rw [List.take_zero, List.take_zero, placesT, List.append_nil]; exact HAb.out; all_goals simp, Chg.refl _ _, .inl rfl⟩
      case round =>
        obtain ⟨k, hk, rfl, u5, hA5, hC5, hO5⟩ := hrel
        have HPR := Lib.hid (HAb.out.own hC5 HPb.out (by decide) (by decide))
        have HXR := Lib.hid (HAb.out.blk hC5 HXb.out (by decide) (by decide))
        have HSR := Lib.hid (HSb.out.trans (HAb.out.still hC5))
        by_cases hlt : k < ks.length
        · have hS : Still (· < base) w wr := HSR.out
          obtain ⟨kd, hkd⟩ : ∃ kd : STr, kd = ks[k]'hlt := ⟨_, rfl⟩
          have hkd1 : kd.size ≤ m := by rw [hkd]; exact hks1 k hlt
          have hkd2 : All stOk kd := by rw [hkd]; exact hals.at_ k hlt
          have hkd3 : ks.take (k + 1) = ks.take k ++ [kd] := by rw [hkd]; simp
          have hkd4 : ks[k]? = some kd := by rw [hkd]; simp
          have hT : IsT sK wr (· < base) kd (vs.getD k agg0) := by rw [hkd]; exact (HKS.out.2.1.move hS).at_ k hlt
          clear hkd
          obtain ⟨A', c', vs', ⟨k1, k2, k3, hv, B1, b1, B2, b2, B3, b3, rfl, rfl, rfl, _⟩, _, _⟩ := IsT.eq.1 hT
          obtain ⟨e, he⟩ : ∃ e, e = kd.dat := ⟨_, rfl⟩
          obtain ⟨m', hm'⟩ : ∃ v, v = kd.kids.length := ⟨_, rfl⟩
          rw [← he, ← hm'] at hv
          obtain ⟨b, off, rfl, hbB, d0, d1, d2, d3, d4, d5, d6, d7⟩ := Vs.shown HKS.out.1 k hlt hv hS
          rw [hv] at hT
          have i2 : (0 : Int) ≤ (k : Int) := by omega
          have i3 : (k : Int) < (ks.length : Int) := by omega
          obtain ⟨wk, hwk, hK7, hBk, hsk⟩ := one_new wr (sC e (.slice B1 e.cl.length b1) (.slice B2 e.at_.length b2) (.slice B3 e.st.length b3) (.slice A' m' c')).toArray 40
          unfold sC at hwk hK7
          have hbr : base ≤ wr.heap.size := by have := hA5.1; have := hA5.2.1.lt; omega
          have hSk : Still (· < base) w wk := hS.trans (Still.of_below hBk fun b hb => Nat.lt_of_lt_of_le hb hbr)
          have hbk : base ≤ wk.heap.size := Nat.le_trans hbr hBk.size
          have hPr : Fl.Pairs wr wr.heap.size AP ks.length T.out := Fl.Pairs.of_own HPR.out HTL.out
          obtain ⟨bp, op, rfl, hbp, q0, q1⟩ := hPr.2 k hlt
          obtain ⟨px, hpx⟩ : ∃ px, px = (T.out.getD k (0, 0)).1 := ⟨_, rfl⟩
          obtain ⟨py, hpy⟩ : ∃ py, py = (T.out.getD k (0, 0)).2 := ⟨_, rfl⟩
          obtain ⟨G, hG⟩ : ∃ G, G = givenT d kd I := ⟨_, rfl⟩
          rw [← hpx] at q0
          rw [← hpy] at q1
          have HPT := Lib.hid (show bp < wk.heap.size ∧ wk.cell? ⟨bp, op + k * 2, none⟩ = some (.int .i64 px) ∧ wk.cell? ⟨bp, op + k * 2 + 1, none⟩ = some (.int .i64 py) from ⟨Nat.lt_of_lt_of_le hbp hBk.size, (hBk.cell (p := ⟨bp, op + k * 2, none⟩) hbp).trans q0, (hBk.cell (p := ⟨bp, op + k * 2 + 1, none⟩) hbp).trans q1⟩)
          have HKP := Lib.hid hlt
          have hTk : IsT sK wk (· < base) kd (sV e (.slice B1 e.cl.length b1) (.slice B2 e.at_.length b2) (.slice B3 e.st.length b3) (.slice A' m' c')) := hT.move (Still.of_below hBk fun b hb => Nat.lt_of_lt_of_le hb hbr)
          have HTK := Lib.hid hTk
          have HRK := Lib.hid (show Rows3 wk (Old wk) d.cl d.at_ d.st (.slice A1 d.cl.length c1) (.slice A2 d.at_.length c2) (.slice A3 d.st.length c3) from (HR.out.move hSk).weak fun b h => Nat.lt_of_lt_of_le h hbk)
          have HGV := Lib.hid (show ∀ wx, Below wk.heap.size wk wx → Calls Tryz.prog 114 #[.agg #[.int .i64 d.id, .int .i64 d.kind, .string d.tag, .string d.text, .slice A1 d.cl.length c1, .slice A2 d.at_.length c2, .slice A3 d.st.length c3, .slice (some ⟨b, off, none⟩) ks.length c4], .agg #[.int .i64 e.id, .int .i64 e.kind, .string e.tag, .string e.text, .slice B1 e.cl.length b1, .slice B2 e.at_.length b2, .slice B3 e.st.length b3, .slice A' m' c'], .int .i64 I] wx (fun e' w' => e' = .returned (.int .i64 G) ∧ Below wx.heap.size wx w') from fun wx hbx => by
            have h := given_any d _ _ _ (some ⟨b, off, none⟩) ks.length c4 kd _ I wx (HRK.out.old hbx) hs m hkd1 (by omega) hkd2 ((HTK.out.weak fun b h => Nat.lt_of_lt_of_le h hbk).keep hbx)
            rw [← hG] at h
            exact h)
          obtain ⟨l5, hl5⟩ : ∃ l5, l5 = (l ++ [head]) ++ placesT d I x y (ks.take k) (T.out.take k) := ⟨_, rfl⟩
          have HPL := Lib.hid (show placesT d I x y (ks.take (k + 1)) (T.out.take (k + 1)) = placesT d I x y (ks.take k) (T.out.take k) ++ placeT kd (Fl.P1.add (Fl.P1.add x pad) px) (Fl.P1.add (Fl.P1.add y pad) py) G by
            rw [placesT_take d I x y kd ks T.out k hkd4 (by rw [HTL.out]; exact hlt), ← hpx, ← hpy, ← hG, ← HPD.out])
          have HL5 := Lib.hid (show l5.length + kd.size ≤ 500 by
            have h1 := placesT_len d I x y (ks.take k) (T.out.take k)
            have h2 := sizes_app (ks.take k) [kd]
            have h3 := sizes_take ks (k + 1)
            rw [hkd3, h2] at h3
            have h4 : sizes [kd] = kd.size := by rw [sizes, sizes]; omega
            have h5 : ((l ++ [head]) ++ placesT d I x y (ks.take k) (T.out.take k)).length = l.length + 1 + (placesT d I x y (ks.take k) (T.out.take k)).length := by rw [List.length_append, List.length_append]; rfl
            have := HLN.out
            rw [hl5, h5]
            omega)
          rw [← hl5] at hA5
          have HLE := Lib.hid hl5
          have HAK := Lib.hid (hA5.keep hBk)
          have HX := Lib.hid (HXR.out.below hBk HXR.out.lt)
          have HC5 := Lib.hid (And.intro hA5 (And.intro hC5 (And.intro hO5 hBk)))
          clear hS hT hv he hm' hG hpx hpy hl5 hA5 hC5 hO5 hPr hbp q0 q1 hSk hTk
          go_upto_region 9 with fail
          rw [← hwk]
          obtain ⟨K8, hK8e⟩ : ∃ K8, K8 = wr.heap.size := ⟨_, rfl⟩
          rw [← hK8e] at hK7 ⊢
          have HK8 := Lib.hid hK7
          clear hwk hK7 hBk hsk hK8e d0 d1 d2 d3 d4 d5 d6 d7 hbB x0 x1 x2 x3 x4 x5 x6 x7
          refine wp_region_tail3 24 _ ?_ ?_ ?_ ?_ (PlaR9 wk X K8 bp op k ks.length cP L d e A1 A2 A3 (some ⟨b, off, none⟩) B1 B2 B3 A' c1 c2 c3 ks.length c4 b1 b2 b3 m' c' x y I pad px py G) (fun j v wx wy => PlaR9_keep _ _ _ _ _ _ _ _ _ _ _ _ _ _ _ _ _ _ _ _ _ _ _ _ _ _ _ _ _ _ _ _ _ _ _ _ j v wx wy) ?_ ?_ ?_
          · kernel_rfl
          · kernel_rfl
          · kernel_rfl
          · kernel_rfl
          · refine ⟨opV rfl fun s wx hb hd => ⟨_, ex_ld rfl (lit_out 16 (by kernel_rfl)) (ld_row ((HK8.out).below hb (HK8.out).lt) Tryz.underlying40 sz_st), rfl⟩, ?_⟩
            refine ⟨opV rfl fun s wx hb hd => ⟨_, ex_mv rfl (lit_out 1 (by kernel_rfl)), rfl⟩, ?_⟩
            refine ⟨opV rfl fun s wx hb hd => ⟨_, ex_mv rfl (lit_out 12 (by kernel_rfl)), rfl⟩, ?_⟩
            refine ⟨opV rfl fun s wx hb hd => ⟨_, ex_mv rfl (lit_out 13 (by kernel_rfl)), rfl⟩, ?_⟩
            refine ⟨opV rfl fun s wx hb hd => ⟨_, ex_mv rfl (lit_out 15 (by kernel_rfl)), rfl⟩, ?_⟩
            refine ⟨opV rfl fun s wx hb hd => ⟨_, ex_idx rfl ((lit_at 3 56 (by kernel_rfl) (by kernel_rfl) (by kernel_rfl)).trans (hd 3 (by kernel_rfl))) ((lit_at 4 57 (by kernel_rfl) (by kernel_rfl) (by kernel_rfl)).trans (hd 4 (by kernel_rfl))) (ix_fp HKP.out wx), rfl⟩, ?_⟩
            refine ⟨opV rfl fun s wx hb hd => ⟨_, ex_fld rfl ((lit_at 5 58 (by kernel_rfl) (by kernel_rfl) (by kernel_rfl)).trans (hd 5 (by kernel_rfl))) (fai_fp_0 _ _ wx), rfl⟩, ?_⟩
            refine ⟨opV rfl fun s wx hb hd => ⟨_, ex_ld rfl ((lit_at 6 59 (by kernel_rfl) (by kernel_rfl) (by kernel_rfl)).trans (hd 6 (by kernel_rfl))) (ld_int ((hb.cell HPT.out.1).trans HPT.out.2.1)), rfl⟩, ?_⟩
            refine ⟨opN rfl fun s wx hb hd => ⟨_, _, ex_bsl3 rfl ((lit_at 1 54 (by kernel_rfl) (by kernel_rfl) (by kernel_rfl)).trans (hd 1 (by kernel_rfl))) ((lit_at 2 55 (by kernel_rfl) (by kernel_rfl) (by kernel_rfl)).trans (hd 2 (by kernel_rfl))) ((lit_at 7 60 (by kernel_rfl) (by kernel_rfl) (by kernel_rfl)).trans (hd 7 (by kernel_rfl))) (bs_i3 _ _ _ wx), NewI3.new hb.size, below_alloc _ _⟩, ?_⟩
            refine ⟨opC rfl fun s wx hb hd => ?_, ?_⟩
            · obtain ⟨gg, eg, hg1, hg2⟩ := (hd 8 (by kernel_rfl))
              refine ⟨_, _, ex_c1 rfl rfl (enters Tryz.func113 (by kernel_rfl) rfl _ _) ((lit_at 8 61 (by kernel_rfl) (by kernel_rfl) (by kernel_rfl)).trans eg), ?_⟩
              refine (sum3_any _ hg2).mono ?_
              rintro e1 w1 ⟨rfl, rfl⟩
              exact ⟨_, rfl, rfl, Below.refl _ _⟩
            refine ⟨opV rfl fun s wx hb hd => ⟨_, ex_mv rfl (lit_out 2 (by kernel_rfl)), rfl⟩, ?_⟩
            refine ⟨opV rfl fun s wx hb hd => ⟨_, ex_mv rfl (lit_out 12 (by kernel_rfl)), rfl⟩, ?_⟩
            refine ⟨opV rfl fun s wx hb hd => ⟨_, ex_mv rfl (lit_out 13 (by kernel_rfl)), rfl⟩, ?_⟩
            refine ⟨opV rfl fun s wx hb hd => ⟨_, ex_mv rfl (lit_out 15 (by kernel_rfl)), rfl⟩, ?_⟩
            refine ⟨opV rfl fun s wx hb hd => ⟨_, ex_idx rfl ((lit_at 12 65 (by kernel_rfl) (by kernel_rfl) (by kernel_rfl)).trans (hd 12 (by kernel_rfl))) ((lit_at 13 66 (by kernel_rfl) (by kernel_rfl) (by kernel_rfl)).trans (hd 13 (by kernel_rfl))) (ix_fp HKP.out wx), rfl⟩, ?_⟩
            refine ⟨opV rfl fun s wx hb hd => ⟨_, ex_fld rfl ((lit_at 14 67 (by kernel_rfl) (by kernel_rfl) (by kernel_rfl)).trans (hd 14 (by kernel_rfl))) (fai_fp_1 _ _ wx), rfl⟩, ?_⟩
            refine ⟨opV rfl fun s wx hb hd => ⟨_, ex_ld rfl ((lit_at 15 68 (by kernel_rfl) (by kernel_rfl) (by kernel_rfl)).trans (hd 15 (by kernel_rfl))) (ld_int ((hb.cell HPT.out.1).trans HPT.out.2.2)), rfl⟩, ?_⟩
            refine ⟨opN rfl fun s wx hb hd => ⟨_, _, ex_bsl3 rfl ((lit_at 10 63 (by kernel_rfl) (by kernel_rfl) (by kernel_rfl)).trans (hd 10 (by kernel_rfl))) ((lit_at 11 64 (by kernel_rfl) (by kernel_rfl) (by kernel_rfl)).trans (hd 11 (by kernel_rfl))) ((lit_at 16 69 (by kernel_rfl) (by kernel_rfl) (by kernel_rfl)).trans (hd 16 (by kernel_rfl))) (bs_i3 _ _ _ wx), NewI3.new hb.size, below_alloc _ _⟩, ?_⟩
            refine ⟨opC rfl fun s wx hb hd => ?_, ?_⟩
            · obtain ⟨gg, eg, hg1, hg2⟩ := (hd 17 (by kernel_rfl))
              refine ⟨_, _, ex_c1 rfl rfl (enters Tryz.func113 (by kernel_rfl) rfl _ _) ((lit_at 17 70 (by kernel_rfl) (by kernel_rfl) (by kernel_rfl)).trans eg), ?_⟩
              refine (sum3_any _ hg2).mono ?_
              rintro e1 w1 ⟨rfl, rfl⟩
              exact ⟨_, rfl, rfl, Below.refl _ _⟩
            refine ⟨opV rfl fun s wx hb hd => ⟨_, ex_ld rfl (lit_out 5 (by kernel_rfl)) (ld_row ((HX.out).below hb (HX.out).lt) Tryz.underlying40 sz_st), rfl⟩, ?_⟩
            refine ⟨opV rfl fun s wx hb hd => ⟨_, ex_ld rfl (lit_out 16 (by kernel_rfl)) (ld_row ((HK8.out).below hb (HK8.out).lt) Tryz.underlying40 sz_st), rfl⟩, ?_⟩
            refine ⟨opV rfl fun s wx hb hd => ⟨_, ex_mv rfl (lit_out 11 (by kernel_rfl)), rfl⟩, ?_⟩
            refine ⟨opC rfl fun s wx hb hd => ⟨_, _, ex_c3 rfl rfl (enters Tryz.func114 (by kernel_rfl) rfl _ _) ((lit_at 19 72 (by kernel_rfl) (by kernel_rfl) (by kernel_rfl)).trans (hd 19 (by kernel_rfl))) ((lit_at 20 73 (by kernel_rfl) (by kernel_rfl) (by kernel_rfl)).trans (hd 20 (by kernel_rfl))) ((lit_at 21 74 (by kernel_rfl) (by kernel_rfl) (by kernel_rfl)).trans (hd 21 (by kernel_rfl))), ?_⟩, ?_⟩
            · refine (HGV.out wx hb).mono ?_
              rintro e1 w1 ⟨rfl, hb'⟩
              exact ⟨_, rfl, rfl, hb'⟩
            refine ⟨opV rfl fun s wx hb hd => ⟨_, ex_mv rfl (lit_out 4 (by kernel_rfl)), rfl⟩, ?_⟩
            trivial
          rotate_left
          · kernel_rfl
          intro s2 w7 hb7 hV
          have e0 : s2 0 = .agg #[.int .i64 e.id, .int .i64 e.kind, .string e.tag, .string e.text, .slice B1 e.cl.length b1, .slice B2 e.at_.length b2, .slice B3 e.st.length b3, .slice A' m' c'] := hV 0 (by omega)
          have e9 : s2 9 = .int .i64 (Fl.P1.add (Fl.P1.add x pad) px) := hV 9 (by omega)
          have e18 : s2 18 = .int .i64 (Fl.P1.add (Fl.P1.add y pad) py) := hV 18 (by omega)
          have e22 : s2 22 = .int .i64 G := hV 22 (by omega)
          have e23 : s2 23 = .func (.func 70) #[] #[.pointer (some ⟨L, 0, none⟩)] := hV 23 (by omega)
          clear hV
          simp only [List.take_succ_cons, List.take_zero, List.drop_succ_cons, List.drop_zero, litOf, List.map_cons, List.map_nil, Nat.zero_add, Nat.reduceAdd, Act.put, List.setIfInBounds_toArray, List.set_cons_succ, List.set_cons_zero]
          have hih := ih kd _ (Fl.P1.add (Fl.P1.add x pad) px) (Fl.P1.add (Fl.P1.add y pad) py) G w7 base L l5 u5 (by omega) hkd1 hkd2 (HTK.out.move (Still.of_below hb7 fun b hb => Nat.lt_of_lt_of_le hb hbk)) (HAK.out.keep hb7) HL5.out
          unfold sV sC at hih
          refine wpList_call rfl (ex_c5 rfl rfl (enters Tryz.func69 (by kernel_rfl) rfl _ _) e0 e9 e18 e22 e23) (hih.mono ?_)
          clear hih
          rintro e8 w8 ⟨rfl, hP8⟩
          refine ⟨_, rfl, ?_⟩
          refine wpList_nil ?_
          simp only [Act.put, List.setIfInBounds_toArray, List.set_cons_succ, List.set_cons_zero]
          have HP9 := Lib.hid (show AccPost wb base L (l ++ [head]) u4 (placesT d I x y (ks.take (k + 1)) (T.out.take (k + 1))) w8 by
            have h1 := HC5.out.1
            rw [HLE.out] at h1 hP8
            rw [HPL.out]
            exact AccPost.trans h1 HC5.out.2.1 HC5.out.2.2.1 (AccPost.pre (HC5.out.2.2.2.trans (hb7.mono HC5.out.2.2.2.size)) hP8))
          clear hP8 hb7 e0 e9 e18 e22 e23
          go_wp2_with fail
          go_roundw
          case rel => exact ⟨k + 1, by omega, by go_num, HP9.out⟩
          case measure => simp [intOf]; omega
        · obtain rfl : k = ks.length := by omega
          rw [List.take_length, ← HTL.out, List.take_length] at hA5
          have HFIN := Lib.hid (show AccPost w base L l u (placeT t x y g) wr by
            rw [HE.out]
            exact AccPost.trans HA4.out HC4.out.1 HC4.out.2 (AccPost.pre HWb.out ⟨u5, hA5, hC5, hO5⟩))
          clear hA5 hC5 hO5 hlt hk
          go_wp2_with fail
          go_end0
          exact ⟨rfl, HFIN.out⟩

end Go.Proofs.YtaalhglooipnaaaGreat
namespace Go.Proofs.YtaalhglooipnaaaGreat
open Go.RowKit RT Go.Maps Go.WideMaps
attribute [local go_sem ↓] Go.wp_at_zero Go.wp_at_succ
attribute [local go_sem] nilq_S someq_S

set_option maxRecDepth 100000 in
set_option maxHeartbeats 4000000 in
theorem clnS_own (A : Option Addr) (n c : Nat) (l : List ByteArray) (S : Nat → Prop) (w : World) (hS : ∀ b, S b → b < w.heap.size) (hr : RdS cvS ByteArray.empty 1 w S A n l) (hn : n ≤ 1000000) :
    Calls Tryz.prog 53 #[.slice A n c] w (StrPost w l) := by
  obtain ⟨tr, hi, hz0, hz1, hz2⟩ := info_parts str_info
  cases A with
  | none =>
    have h0 : n = 0 := by
      rcases Nat.eq_zero_or_pos n with h | h
      · exact h
      · obtain ⟨b, off, h1, _⟩ := hr.2 0 h; cases h1
    subst h0
    obtain rfl := List.length_eq_zero_iff.1 hr.1
    clear hr
    go_enter Tryz.func53, Tryz.ntmps53
    go_wp2
    go_ret
    exact ⟨none, 0, rfl, World.ownsRow_nil _ _ _ _, Below.refl _ _⟩
  | some g =>
    have hb1 := below_alloc w (.cells #[] 9)
    have HO := Lib.hid (And.intro (hr.move (.of_below hb1 hS)) (World.ownsRow_made w #[] 0 (e := 9) (size := 1) (base := w.heap.size) (Nat.le_refl _) (Nat.zero_le _) rfl))
    have HM := Lib.hid hr.1
    clear hr hS hb1
    go_enter Tryz.func53, Tryz.ntmps53
    go_wp2_with (first
      | (at_builtin; refine wpList_append_own _ rfl _ _ _ rfl w.heap.size 9 tr _ 1 16 Tryz.underlying25 hi hz0 hz1 hz2 rfl (by decide) _ 0 [] rfl HO.out.2 g n c (l.flatMap cvS) rfl (by rw [cvS_len, Nat.mul_one]; exact HM.out) (HO.out.1.cells (fun _ _ => rfl) (by decide)) (cvS_oneCell l) (by unfold maxLen; omega) (by omega) (by simp) ?_; intro v2 w4 hown2 hg2 hat2; have HX := Lib.hid (And.intro hown2 (((Below.refl w.heap.size w).alloc (Nat.le_refl _) (.cells #[] 9)).grown hg2 (by simp) (fun j hj => (HO.out.2.lt j hj).1))); clear hown2 hg2 hat2))
    go_ret
    have := HX.out.1
    rw [Nat.zero_add, List.nil_append] at this
    obtain ⟨A5, c5, rfl⟩ := own_form this
    refine ⟨A5, c5, by rw [HM.out]; rfl, ?_, HX.out.2⟩
    rw [HM.out]
    exact this

set_option maxRecDepth 100000 in
set_option maxHeartbeats 8000000 in
theorem addR_any (A0 : Option Addr) (n c0 : Nat) (l : List ByteArray) (S : Nat → Prop) (s : ByteArray) (w : World) (hS : ∀ b, S b → b < w.heap.size) (h : RdS cvS ByteArray.empty 1 w S A0 n l) (hn : n ≤ 500) :
    Calls Tryz.prog 93 #[.slice A0 n c0, .string s] w (StrPost w (addS l s)) := by
  obtain ⟨tr, hi, hz0, hz1, hz2⟩ := info_parts str_info
  have HZ := Lib.hid (And.intro (And.intro h hS) h.1)
  clear h hS
  go_enter Tryz.func93, Tryz.ntmps93
  go_wp2_with fail
  refine (clnS_own A0 n c0 l S _ HZ.out.1.2 HZ.out.1.1 (by omega)).mono ?_
  rintro e w1 ⟨A, c, rfl, hown, hb⟩
  rw [HZ.out.2] at hown ⊢
  have HO := Lib.hid (And.intro hown hb)
  have HR := Lib.hid (Rd.of_own (cv := cvS) (d := ByteArray.empty) (fun _ => rfl) hown HZ.out.2)
  clear hown hb
  go_wp2_with fail
  refine (has_any A n c _ l s _ HR.out (by omega)).mono ?_
  rintro e w2 ⟨q, rfl, hq, rfl⟩
  have HQ := Lib.hid hq
  clear hq
  cases q
  · have HA := Lib.hid (show addS l s = l ++ [s] from if_neg (fun h => by have := HQ.out.2 h; cases this))
    have HL := Lib.hid (show (l ++ [s]).length = n + 1 by rw [List.length_append, HZ.out.2]; rfl)
    go_wp2_with (first
      | (at_builtin; refine wpList_append_lies _ rfl _ _ _ rfl w.heap.size 9 tr _ 1 16 Tryz.underlying25 hi hz0 hz1 hz2 rfl (by decide) _ n (l.flatMap cvS) rfl (HO.out.1.alloc _) _ 1 1 [.string s] rfl rfl (World.news_of_block (heap_alloc_new _ _)) (by intro u hu; simp at hu; subst hu; rfl) (by omega) (by unfold maxLen; omega) (by omega) (by have := HO.out.2.size; simp; omega) _ rfl ?_; intro g2 cap2 w4 hown2 hg2 hat2 hlt2; have HX := Lib.hid (And.intro hown2 ((HO.out.2.alloc HO.out.2.size _).grown hg2 (HO.out.2.alloc HO.out.2.size _).size (fun j hj => (HO.out.1.lt j hj).1))); clear hown2 hg2 hat2 hlt2))
    go_ret
    rw [HA.out]
    exact ⟨some ⟨g2, 0, none⟩, cap2, by rw [HL.out]; rfl, by rw [HL.out, cvS_snoc]; exact HX.out.1, HX.out.2⟩
  · have HA := Lib.hid (show addS l s = l from if_pos (HQ.out.1 rfl))
    go_wp2
    go_ret
    rw [HA.out]
    exact ⟨A, c, by rw [HZ.out.2]; rfl, by rw [HZ.out.2]; exact HO.out.1, HO.out.2⟩


set_option maxRecDepth 100000 in
set_option maxHeartbeats 4000000 in
theorem ownD_any {B : Nat} {w : World} {D M n : Nat} {nd : Nat → ND} {gs : Nat → Nat} {kvs : Nat → Value} (h : DomI B w D M n nd gs kvs) (hn : n ≤ 50) (i : Nat) (h0 : 0 < i) (hi : i < n) (hk : (nd i).kind = 2) (s : ByteArray) (hs : NameOk s) :
    Calls Tryz.prog 102 #[.pointer (some ⟨D, 0, none⟩), .int .i64 (i : Nat), .int .i64 2, .string s] w fun e w' => e = .returned (.tuple #[.pointer (some ⟨gs i, 0, none⟩), .int .i64 0]) ∧ w' = w := by
  obtain ⟨_, ⟨a1, a2, a3, hN, _⟩, _⟩ := h.node i hi
  have y1 : w.cell? ⟨gs i, 1, none⟩ = some (.int .i64 2) := by rw [hN.cell 1, ← hk]; rfl
  have y2 : w.cell? ⟨D, 2, none⟩ = some (.map (some M)) := h.dom.cell 2
  have hl := h.look (by omega) i hi
  have i1 : ((i : Int) == 0) = false := by rw [beq_eq_false_iff_ne]; omega
  clear hk hN h
  go_enter Tryz.func102, Tryz.ntmps102
  go_wp2_with (first | (go_at_call 101; refine (wname_any s hs _).mono ?_; rintro e w' ⟨rfl, rfl⟩))
  go_ret2
  exact ⟨rfl, rfl⟩

theorem DomI.setc {B : Nat} {w w1 : World} {D M n i j : Nat} {nd : Nat → ND} {gs : Nat → Nat} {kvs : Nat → Value} (h : DomI B w D M n nd gs kvs) (hi : i < n) (hb : Below w.heap.size w w1) (u : Value) (d' : ND) {a1 a2 a3 b1 b2 b3 : Value} (hN : Blk w (gs i) 97 (nC i (nd i) a1 a2 a3 (kvs i)).toArray)
    (hC : (nC i (nd i) a1 a2 a3 (kvs i)).toArray.setIfInBounds j u = (nC i d' b1 b2 b3 (kvs i)).toArray) (h1 : RowS B d'.cl b1 w1) (h2 : RowA 90 B d'.at_ b2 w1) (h3 : RowP 105 B d'.st b3 w1) (hkd : d'.kids = (nd i).kids) :
    DomI B (w1.setCell ⟨gs i, j, none⟩ u) D M n (setF nd i d') gs (setF kvs i (kvs i)) ∧ Below B w (w1.setCell ⟨gs i, j, none⟩ u) ∧ KpT w (w1.setCell ⟨gs i, j, none⟩ u) := by
  obtain ⟨hgB, _, hk⟩ := h.node i hi
  have hN1 := hN.below hb hN.lt
  have hc : Chg (fun b => b = gs i) w1 (w1.setCell ⟨gs i, j, none⟩ u) := Chg.set (T := fun b => b = gs i) rfl _ _ _
  have hN2 := hN1.set_ j u
  rw [hC] at hN2
  have hne : ∀ {e : TypeId}, e ≠ 97 → ∀ b cs, B ≤ b → Blk w1 b e cs → ¬ b = gs i := fun he b cs _ hB e => by subst e; exact Blk.ne_ hB hN1 he rfl
  refine h.upd hi hb (hc.mono fun b hb => .inl hb) hN2 (h1.chg hc (hne (by decide))) (h2.chg hc (hne (by decide))) (h3.chg hc (hne (by decide))) ?_ (.inl rfl)
  rw [hkd]
  exact hc.own (own_keep hk hb) fun g hg e => own_blk_ne (own_keep hk hb) hN1 (by decide) (by rw [hg, e])

end Go.Proofs.YtaalhglooipnaaaGreat
