/-
  check of the document's layer 7: a node, and its kids.
-/
import Derived.Test.YtaalhglooipnaaaGreatL40
namespace Go.Proofs.YtaalhglooipnaaaGreat
open Go.RowKit RT
attribute [local go_sem ↓] Go.wp_at_zero Go.wp_at_succ

theorem may_any (t : VT) (v : Value) (w : World) (hsz : t.size ≤ 20) (hvb : txb t.dat) (hT : IsT vK w (Old w) t v) : Calls Tryz.prog 59 #[v] w (MyPost t.dat w) := by
  by_cases hk : t.dat.kind = 1
  · exact may1_any t v w hsz hvb hT (Lib.hid hk)
  · exact may2_any t v w hsz hvb hT (Lib.hid hk)
def CkPost (t : VT) (w : World) (e : Ending) (w' : World) : Prop := ∃ r q : Int, e = .returned (.tuple #[.int .i64 r, .int .i64 q]) ∧ (q = 0 → All okV t ∧ 0 ≤ r ∧ r ≤ 4096) ∧ Below w.heap.size w w'
set_option maxRecDepth 100000 in
set_option maxHeartbeats 8000000 in
theorem check_any (m : Nat) : ∀ (t : VT) (v : Value) (deep depth lf : Int) (w : World), m ≤ 20 → t.size ≤ m → All txb t → IsT vK2 w (Old w) t v → 0 ≤ deep → deep + m ≤ 1000 → 0 ≤ lf → lf ≤ 4096 →
    Calls Tryz.prog 29 #[v, .int .i64 deep, .int .i64 depth, .int .i64 lf] w (CkPost t w) := by
  induction m with
  | zero => intro t v deep depth lf w _ h; have := size_pos t; omega
  | succ m ih =>
    intro t v deep depth lf w hm hsz hal hT hd0 hd1 hl0 hl1
    have HMAY := Lib.hid (fun wx vx (hx : IsT vK wx (Old wx) t vx) => may_any t vx wx (by omega) (All.eq.1 hal).1 hx)
    have HT0 := Lib.hid hT
    obtain ⟨A4, c4, vs, ⟨⟨a1, a2, a3, rfl, hrows⟩, Ak, nk, ck, hkk, hcap⟩, hvs, hks⟩ := IsT.eq.1 hT
    injection hkk with hk1 hk2 hk3
    subst hk1 hk2 hk3
    obtain ⟨A1, c1, A2, c2, A3, c3, rfl, rfl, rfl, r1, r2, r3⟩ := hrows
    obtain ⟨htx, hals⟩ := All.eq.1 hal
    have hkl := kids_len hsz
    have hks1 := fun k hk => kid_size hsz k hk
    have HALL := Lib.hid (fun (h1 : okV t.dat) (h2 : Alls okV t.kids) => (All.eq (t := t)).2 ⟨h1, h2⟩)
    obtain ⟨d, hd⟩ : ∃ d, d = t.dat := ⟨_, rfl⟩
    obtain ⟨ks, hkse⟩ : ∃ ks, ks = t.kids := ⟨_, rfl⟩
    rw [← hd] at r1 r2 r3 htx HT0 HMAY HALL ⊢
    rw [← hkse] at hvs hks hals hkl hks1 HT0 HALL hcap ⊢
    obtain ⟨w1, hw1, hX, hB0, hs1⟩ := one_new w (vC d (.slice A1 d.cl.length c1) (.slice A2 d.at_.length c2) (.slice A3 d.st.length c3) (.slice A4 ks.length c4)).toArray 32
    have HROW := Lib.hid (And.intro r1 (And.intro r2 (And.intro r3 htx)))
    have HKS := Lib.hid (And.intro (show Vs 14 w (Old w) A4 ks.length vs from hvs) hks)
    unfold vV vC
    unfold vC at hX hw1
    unfold vV vC at HT0
    have i0 : wrap64 (lf - 1) = lf - 1 := by unfold wrap64; omega
    clear hT hal hd hkse hsz hvs hks r1 r2 r3 htx
    go_enter Tryz.func29, Tryz.ntmps29
    go_upto_region 1 with fail
    rw [← hw1]
    obtain ⟨X, hXe⟩ : ∃ X, X = w.heap.size := ⟨_, rfl⟩
    rw [← hXe] at hX ⊢
    have HX := Lib.hid hX
    have HB := Lib.hid hB0
    obtain ⟨x0, x1, x2, x3, x4, x5, x6, x7, x8, x9, x10, x11, x12, x13⟩ := vcells (a1 := .slice A1 d.cl.length c1) (a2 := .slice A2 d.at_.length c2) (a3 := .slice A3 d.st.length c3) (k := .slice A4 ks.length c4) hX
    clear hw1 hXe hX hB0 hs1
    by_cases h1 : depth < deep
    · clear x0 x1 x2 x3 x4 x5 x6 x7 x8 x9 x10 x11 x12 x13
      go_wp2_with fail
      exact bodyPost_ret (v := .tuple #[.int .i64 (lf - 1), .int .i64 7]) (by simp [results, Tryz.results29, go_sem]) rfl ⟨_, _, rfl, fun h => by omega, HB.out⟩
    · by_cases h2 : lf - 1 < 0
      · clear x0 x1 x2 x3 x4 x5 x6 x7 x8 x9 x10 x11 x12 x13
        go_wp2_with fail
        exact bodyPost_ret (v := .tuple #[.int .i64 (lf - 1), .int .i64 8]) (by simp [results, Tryz.results29, go_sem]) rfl ⟨_, _, rfl, fun h => by omega, HB.out⟩
      · go_wp2_with fail
        have hmy := HMAY.out w1 _ ((IsT.vk HT0.out).keep HB.out)
        refine hmy.mono ?_
        clear hmy
        rintro e2 w2 ⟨q2, rfl, hq2, hb2⟩
        have HB2 := Lib.hid (HB.out.trans (hb2.mono HB.out.size))
        have HX2 := Lib.hid (HX.out.below hb2 HX.out.lt)
        have HQ2 := Lib.hid hq2
        clear hq2 hb2 x0 x1 x2 x3 x4 x5 x6 x7 x8 x9 x10 x11 x12 x13
        cases q2
        · go_wp2_with fail
          exact bodyPost_ret (v := .tuple #[.int .i64 (lf - 1), .int .i64 4]) (by simp [results, Tryz.results29, go_sem]) rfl ⟨_, _, rfl, fun h => by omega, HB2.out⟩
        · have HOK := Lib.hid (HQ2.out rfl)
          obtain ⟨x0, x1, x2, x3, x4, x5, x6, x7, x8, x9, x10, x11, x12, x13⟩ := vcells (a1 := .slice A1 d.cl.length c1) (a2 := .slice A2 d.at_.length c2) (a3 := .slice A3 d.st.length c3) (k := .slice A4 ks.length c4) HX2.out
          go_wp2_with fail
          have q1 : RdS cvS ByteArray.empty 1 w2 (Old w2) A1 d.cl.length d.cl := (HROW.out.1.move (.of_below HB2.out fun _ h => h)).weak fun b h => Nat.lt_of_lt_of_le h HB2.out.size
          have q2 : RdS St.cvP St.pr0 2 w2 (Old w2) A2 d.at_.length d.at_ := (HROW.out.2.1.move (.of_below HB2.out fun _ h => h)).weak fun b h => Nat.lt_of_lt_of_le h HB2.out.size
          have q3 : RdS cvP pr0 2 w2 (Old w2) A3 d.st.length d.st := (HROW.out.2.2.1.move (.of_below HB2.out fun _ h => h)).weak fun b h => Nat.lt_of_lt_of_le h HB2.out.size
          have hnm := names_any d A1 A2 A3 c1 c2 c3 (.slice A4 ks.length c4) w2 HROW.out.2.2.2.1 q1 q2 q3
          unfold vV vC at hnm
          refine hnm.mono ?_
          clear hnm q1 q2 q3 x0 x1 x2 x3 x4 x5 x6 x7 x8 x9 x10 x11 x12 x13
          rintro e6 w6 ⟨v6, rfl, hown, hb6⟩
          obtain ⟨A6, c6, rfl⟩ := own_form hown
          have hNL := namesL_100 HROW.out.2.2.2.2
          have hLl : (namesL d).length ≤ 300 := by rw [namesL_len]; have := HROW.out.2.2.2.1; unfold vb at this; omega
          obtain ⟨L, hL⟩ : ∃ L, L = namesL d := ⟨_, rfl⟩
          rw [← hL] at hown hNL hLl ⊢
          have HL := Lib.hid hNL
          have HS := Lib.hid (RdS.of_own (cv := cvS) (sz := 1) (d := ByteArray.empty) (fun _ _ => rfl) hown rfl)
          have HB6 := Lib.hid (HB2.out.trans (hb6.mono HB2.out.size))
          have HX6 := Lib.hid (HX2.out.below hb6 HX2.out.lt)
          clear hown hb6 hL hNL
          go_wp2_with fail
          go_loopw [36] (fun i wx => ∃ k, k ≤ L.length ∧ i = .int .i64 (k : Nat) ∧ wx = w6) (fun i _ => L.length - (intOf i).toNat)
          case atStart => exact ⟨0, Nat.zero_le _, rfl, rfl⟩
          case round =>
            obtain ⟨k, hk, rfl, rfl⟩ := hrel
            by_cases hlt : k < L.length
            · obtain ⟨b, off, rfl, hbB, d0⟩ := HS.out.2 k hlt
              replace d0 := d0 0 (by omega)
              have i1 : (0 : Int) ≤ (k : Int) := by omega
              have i2 : (k : Int) < (L.length : Int) := by omega
              obtain ⟨x, hx⟩ : ∃ x, x = L.getD k ByteArray.empty := ⟨_, rfl⟩
              rw [← hx] at d0
              replace d0 : wr.cell? ⟨b, off + k * 1, none⟩ = some (.string x) := d0
              rw [Nat.mul_one] at d0
              have hxs : x.size ≤ 1000 := by rw [hx]; have := HL.out k; omega
              clear hx
              go_wp2_with fail
              refine (rreserved_any x hxs wr).mono ?_
              rintro e7 w7 ⟨q7, rfl, rfl⟩
              cases q7
              · go_wp2_with fail
                go_roundw
                case rel => exact ⟨k + 1, by omega, by go_num, trivial⟩
                case measure => simp [intOf]; omega
              · go_wp2_with fail
                exact bodyPost_ret (v := .tuple #[.int .i64 (lf - 1), .int .i64 6]) (by simp [results, Tryz.results29, go_sem]) rfl ⟨_, _, rfl, fun h => by omega, HB6.out⟩
            · have i2 : ¬ (k : Int) < (L.length : Int) := by omega
              clear hlt hk
              have HKI := Lib.hid (show HidA wr w X d A1 A2 A3 c1 c2 c3 A4 c4 ks vs from ⟨HX6.out, HKS.out.1.move (.of_below HB6.out fun _ h => h), (IsTs.vk HKS.out.2).move (.of_below HB6.out fun _ h => h), fun b h => Nat.lt_of_lt_of_le h HB6.out.size⟩)
              have x13 : wr.cell? ⟨X, 13, none⟩ = some (.slice A4 ks.length c4) := HX6.out.cell 13
              obtain ⟨wb, hwb⟩ : ∃ wb, wb = wr := ⟨_, rfl⟩
              rw [← hwb] at HKI HB6 x13 ⊢
              clear hwb HX6 HX2 HX HB HB2 HS HL hLl
              go_wp2_with fail
              go_loopw [47] (fun i wx => ∃ k, k ≤ ks.length ∧ i = .int .i64 (k : Nat) ∧ Below wb.heap.size wb wx) (fun i _ => ks.length - (intOf i).toNat)
              case atStart => exact ⟨0, Nat.zero_le _, rfl, Below.refl _ _⟩
              case round =>
                obtain ⟨k, hk, rfl, hb⟩ := hrel
                by_cases hlt : k < ks.length
                · obtain ⟨b, off, e, B1, b1, B2, b2, B3, b3, A', m', c', rfl, hbB, d0, d1, d2, d3, d4, d5, d6, d7, d8, d9, d10, d11, d12, d13⟩ := HKI.out.at_ hb k hlt
                  have i1 : (0 : Int) ≤ (k : Int) := by omega
                  have i3 : (k : Int) < (ks.length : Int) := by omega
                  have i4 : (k : Int) ≤ (c4 : Int) := by omega
                  obtain ⟨wk, hwk, hK7, hBk, hsk⟩ := one_new wr (vC e (.slice B1 e.cl.length b1) (.slice B2 e.at_.length b2) (.slice B3 e.st.length b3) (.slice A' m' c')).toArray 32
                  unfold vC at hwk hK7
                  go_upto_region 17 with fail
                  rw [← hwk]
                  obtain ⟨K7, hK7e⟩ : ∃ K7, K7 = wr.heap.size := ⟨_, rfl⟩
                  rw [← hK7e] at hK7 ⊢
                  have HBK := Lib.hid (hb.trans (hBk.mono hb.size))
                  have HK7 := Lib.hid hK7
                  clear hwk hK7 hBk hsk hK7e hb d0 d1 d2 d3 d4 d5 d6 d7 d8 d9 d10 d11 d12 d13 hbB x13
                  have x13 : wk.cell? ⟨X, 13, none⟩ = some (.slice (some ⟨b, off, none⟩) ks.length c4) := (HKI.out.blk.below HBK.out HKI.out.blk.lt).cell 13
                  go_wp2_with fail
                  go_loopw [57] (fun i wx => ∃ j, j ≤ k ∧ i = .int .i64 (j : Nat) ∧ Below wk.heap.size wk wx) (fun i _ => k - (intOf i).toNat)
                  case atStart => exact ⟨0, Nat.zero_le _, rfl, Below.refl _ _⟩
                  case round =>
                    obtain ⟨j, hj, rfl, hb2⟩ := hrel
                    have hb3 := HBK.out.trans (hb2.mono HBK.out.size)
                    by_cases hjl : j < k
                    · obtain ⟨b', off', e', B1', b1', B2', b2', B3', b3', A2', m2', c2', hA, hbB, d0, d1, d2, d3, d4, d5, d6, d7, d8, d9, d10, d11, d12, d13⟩ := HKI.out.at_ hb3 j (by omega)
                      simp only [Option.some.injEq, Addr.mk.injEq, and_true] at hA
                      obtain ⟨rfl, rfl⟩ := hA
                      have j1 : (0 : Int) ≤ (j : Int) := by omega
                      have j3 : (j : Int) < (k : Int) := by omega
                      obtain ⟨wq, hwq, hK9, hBq, hsq⟩ := one_new wr (vC e' (.slice B1' e'.cl.length b1') (.slice B2' e'.at_.length b2') (.slice B3' e'.st.length b3') (.slice A2' m2' c2')).toArray 32
                      unfold vC at hwq hK9
                      go_upto_region 20 with fail
                      rw [← hwq]
                      obtain ⟨K9, hK9e⟩ : ∃ K9, K9 = wr.heap.size := ⟨_, rfl⟩
                      rw [← hK9e] at hK9 ⊢
                      obtain ⟨s1, z1⟩ : ∃ s1 : ByteArray, wq.cell? ⟨K9, 2, none⟩ = some (.string s1) := ⟨e'.key, hK9.cell 2⟩
                      have hbq := hb2.trans (hBq.mono hb2.size)
                      obtain ⟨s2, z2⟩ : ∃ s2 : ByteArray, wq.cell? ⟨K7, 2, none⟩ = some (.string s2) := ⟨e.key, (HK7.out.below hbq HK7.out.lt).cell 2⟩
                      have HBQ := Lib.hid hbq
                      have HBQ2 := Lib.hid (HB6.out.trans ((HBK.out.trans (hbq.mono HBK.out.size)).mono HB6.out.size))
                      clear hwq hK9 hBq hsq hK9e hb2 hb3 hbq d0 d1 d2 d3 d4 d5 d6 d7 d8 d9 d10 d11 d12 d13 hbB x13
                      go_cut [70] (fun s wx => ∃ q, s = .bool q ∧ wx = wq)
                      case first =>
                        as_aux_lemma =>
                        go_wp2_with fail
                        all_goals
                          go_meet
                          exact ⟨_, rfl, rfl⟩
                      case rest =>
                        obtain ⟨q, rfl, rfl⟩ := hcut
                        clear z1 z2
                        cases q
                        · go_wp2_with fail
                          go_roundw
                          case rel => exact ⟨j + 1, by omega, by go_num, HBQ.out⟩
                          case measure => simp [intOf]; omega
                        · go_wp2_with fail
                          exact bodyPost_ret (v := .tuple #[.int .i64 (lf - 1), .int .i64 5]) (by simp [results, Tryz.results29, go_sem]) rfl ⟨_, _, rfl, fun h => by omega, HBQ2.out⟩
                    · have j3 : ¬ (j : Int) < (k : Int) := by omega
                      have HB3 := Lib.hid hb3
                      clear hb2 hb3 hjl hj x13
                      go_wp2_with fail
                      go_roundw
                      case rel => exact ⟨k + 1, by omega, by go_num, HB3.out⟩
                      case measure => simp [intOf]; omega
                · have i3 : ¬ (k : Int) < (ks.length : Int) := by omega
                  clear hlt hk
                  have HB7 := Lib.hid (HB6.out.trans (hb.mono HB6.out.size))
                  have x13 : wr.cell? ⟨X, 13, none⟩ = some (.slice A4 ks.length c4) := (HKI.out.blk.below hb HKI.out.blk.lt).cell 13
                  clear hb
                  have HKD := Lib.hid (show Vs 14 wr (Old w) A4 ks.length vs ∧ IsTs vK2 wr (Old w) ks vs ∧ (∀ b, Old w b → b < wr.heap.size) from ⟨HKS.out.1.move (.of_below HB7.out fun _ h => h), HKS.out.2.move (.of_below HB7.out fun _ h => h), fun b h => Nat.lt_of_lt_of_le h HB7.out.size⟩)
                  obtain ⟨wd, hwd⟩ : ∃ wd, wd = wr := ⟨_, rfl⟩
                  rw [← hwd] at HKD HB7 x13 ⊢
                  clear hwd
                  go_wp2_with fail
                  go_loopw [3, 77] (fun s i wx => ∃ (k : Nat) (r : Int), k ≤ ks.length ∧ i = .int .i64 (k : Nat) ∧ s = .int .i64 r ∧ 0 ≤ r ∧ r ≤ 4096 ∧ Below wd.heap.size wd wx ∧ ∀ j, j < k → ∀ t, ks[j]? = some t → All okV t) (fun _ i _ => ks.length - (intOf i).toNat)
                  case atStart => exact ⟨0, lf - 1, Nat.zero_le _, rfl, rfl, by omega, by omega, Below.refl _ _, fun j h => by omega⟩
                  case round =>
                    obtain ⟨k, r, hk, rfl, rfl, hr0, hr1, hb, hok⟩ := hrel
                    have HO := Lib.hid hok
                    clear hok
                    by_cases hlt : k < ks.length
                    · obtain ⟨kd, hkd⟩ : ∃ kd : VT, kd = ks[k]'hlt := ⟨_, rfl⟩
                      have hkd1 : kd.size ≤ m := by rw [hkd]; exact hks1 k hlt
                      have hkd2 : All txb kd := by rw [hkd]; exact hals.at_ k hlt
                      have hkd4 : ks[k]? = some kd := by rw [hkd]; simp
                      have hT : IsT vK2 wd (Old w) kd (vs.getD k agg0) := by rw [hkd]; exact HKD.out.2.1.at_ k hlt
                      clear hkd
                      obtain ⟨A', c', vs', ⟨⟨k1, k2, k3, hv, B1, b1, B2, b2, B3, b3, rfl, rfl, rfl, _⟩, _⟩, _, _⟩ := IsT.eq.1 hT
                      obtain ⟨e, he⟩ : ∃ e, e = kd.dat := ⟨_, rfl⟩
                      obtain ⟨m', hm'⟩ : ∃ v, v = kd.kids.length := ⟨_, rfl⟩
                      rw [← he, ← hm'] at hv
                      obtain ⟨b, off, rfl, hbB, d0, d1, d2, d3, d4, d5, d6, d7, d8, d9, d10, d11, d12, d13⟩ := Vs.view HKD.out.1 k hlt hv (Still.of_below hb HKD.out.2.2)
                      rw [hv] at hT
                      have i1 : (0 : Int) ≤ (k : Int) := by omega
                      have i3 : (k : Int) < (ks.length : Int) := by omega
                      have i5 : wrap64 (deep + 1) = deep + 1 := by unfold wrap64; omega
                      obtain ⟨wk, hwk, hK7, hBk, hsk⟩ := one_new wr (vC e (.slice B1 e.cl.length b1) (.slice B2 e.at_.length b2) (.slice B3 e.st.length b3) (.slice A' m' c')).toArray 32
                      unfold vC at hwk hK7
                      have hbk := hb.trans (hBk.mono hb.size)
                      have hih := ih kd _ (deep + 1) depth r wk (by omega) hkd1 hkd2 ((hT.move (.of_below hbk HKD.out.2.2)).weak fun b h => Nat.lt_of_lt_of_le (HKD.out.2.2 b h) hbk.size) (by omega) (by omega) hr0 hr1
                      unfold vV vC at hih
                      have HIH := Lib.hid hih
                      have HBK := Lib.hid hbk
                      clear hih hbk hT hv he hm'
                      go_upto_region 27 with fail
                      rw [← hwk]
                      obtain ⟨K7, hK7e⟩ : ∃ K7, K7 = wr.heap.size := ⟨_, rfl⟩
                      rw [← hK7e] at hK7 ⊢
                      obtain ⟨z0, z1, z2, z3, z4, z5, z6, z7, z8, z9, z10, z11, z12, z13⟩ := vcells (a1 := .slice B1 e.cl.length b1) (a2 := .slice B2 e.at_.length b2) (a3 := .slice B3 e.st.length b3) (k := .slice A' m' c') hK7
                      clear hwk hK7 hBk hsk hK7e hb d0 d1 d2 d3 d4 d5 d6 d7 d8 d9 d10 d11 d12 d13 hbB x13
                      go_wp2_with fail
                      refine HIH.out.mono ?_
                      rintro e5 w5 ⟨r', q', rfl, hq', hb5⟩
                      have HQ := Lib.hid hq'
                      have HB5 := Lib.hid (HBK.out.trans (hb5.mono HBK.out.size))
                      clear hq' hb5 z0 z1 z2 z3 z4 z5 z6 z7 z8 z9 z10 z11 z12 z13
                      by_cases hq0 : q' = 0
                      · obtain ⟨g1, g2, g3⟩ := HQ.out hq0
                        have HG := Lib.hid g1
                        clear HQ g1
                        subst hq0
                        go_wp2_with fail
                        go_roundw
                        case rel =>
                          refine ⟨k + 1, r', by omega, by go_num, rfl, g2, g3, HB5.out, fun j hj t ht => ?_⟩
                          rcases Nat.lt_or_ge j k with h | h
                          · exact HO.out j h t ht
                          · obtain rfl : j = k := by omega
                            rw [hkd4] at ht
                            injection ht with ht
                            rw [← ht]; exact HG.out
                        case measure => simp [intOf]; omega
                      · have i6 : (q' == 0) = false := by simp [hq0]
                        have HNZ := Lib.hid hq0
                        clear hq0 HQ
                        go_wp2_with fail
                        exact bodyPost_ret (v := .tuple #[.int .i64 r', .int .i64 q']) (by simp [results, Tryz.results29, go_sem]) rfl ⟨_, _, rfl, fun h => absurd h HNZ.out, HB7.out.trans (HB5.out.mono HB7.out.size)⟩
                    · have i3 : ¬ (k : Int) < (ks.length : Int) := by omega
                      have HFIN := Lib.hid (And.intro (HALL.out HOK.out (Alls.of fun t ht => by
                        obtain ⟨j, hj, rfl⟩ := List.getElem_of_mem ht
                        exact HO.out j (by omega) _ (by simp))) (And.intro hr0 (And.intro hr1 (HB7.out.trans (hb.mono HB7.out.size)))))
                      clear hlt hk hb x13
                      go_wp2_with fail
                      exact bodyPost_ret (v := .tuple #[.int .i64 r, .int .i64 0]) (by simp [results, Tryz.results29, go_sem]) rfl ⟨_, _, rfl, fun _ => ⟨HFIN.out.1, HFIN.out.2.1, HFIN.out.2.2.1⟩, HFIN.out.2.2.2⟩

end Go.Proofs.YtaalhglooipnaaaGreat
