/-
  The layout's small functions: Natural, given.
  The law of Reg where edges that do not bind may point forward.
-/
import Derived.Test.YtaalhglooipnaaaGreatL19
import Derived.Test.YtaalhglooipnaaaGreatL08
namespace Go.Proofs.YtaalhglooipnaaaGreat
open Go.RowKit RT
attribute [local go_sem ↓] Go.wp_at_zero Go.wp_at_succ

theorem sty_none {d : SD} {s : ByteArray} (h : ¬ (gtS d.st s).2 = true) : styV d s = 0 := by
  have key : ∀ l : List Pr, ¬ (gtS l s).2 = true → (gtS l s).1 = 0 := by
    intro l
    induction l with
    | nil => intro _; rfl
    | cons p l ih =>
      intro h
      rw [gtS] at h ⊢
      split
      · rename_i hp; rw [if_pos hp] at h; exact absurd rfl h
      · rename_i hp; rw [if_neg hp] at h; exact ih h
  unfold styV
  rw [key _ h]
  rfl
set_option maxRecDepth 100000 in
set_option maxHeartbeats 4000000 in
theorem natural_any (m : Nat) : ∀ (t : STr) (v : Value) (w : World), t.size ≤ m → m ≤ 1000 → All stOk t → IsT sK w (Old w) t v →
    Calls Tryz.prog 130 #[v] w fun e w' => e = .returned (.int .i64 (natT t)) ∧ Below w.heap.size w w' := by
  induction m with
  | zero => intro t v w h; have := size_pos t; omega
  | succ m ih =>
    intro t v w hsz hm hal hT
    obtain ⟨A4, c4, vs, ⟨a1, a2, a3, rfl, hr⟩, hvs, hks⟩ := IsT.eq.1 hT
    obtain ⟨hs, hals⟩ := All.eq.1 hal
    have hkl := kids_len hsz
    have hks1 := fun k hk => kid_size hsz k hk
    have HNT := Lib.hid (natT_eq t)
    obtain ⟨d, hd⟩ : ∃ d, d = t.dat := ⟨_, rfl⟩
    obtain ⟨ks, hkse⟩ : ∃ ks, ks = t.kids := ⟨_, rfl⟩
    rw [← hd] at hr hs HNT ⊢
    rw [← hkse] at hvs hks hals hkl hks1 HNT ⊢
    clear hT hal hd hkse hsz
    obtain ⟨A1, c1, A2, c2, A3, c3, rfl, rfl, rfl, hrr⟩ := hr
    have hr : Rows3 w (Old w) d.cl d.at_ d.st (.slice A1 d.cl.length c1) (.slice A2 d.at_.length c2) (.slice A3 d.st.length c3) := ⟨A1, c1, A2, c2, A3, c3, rfl, rfl, rfl, hrr⟩
    obtain ⟨w1, hw1, hX, hB0, hs1⟩ := one_new w (sC d (.slice A1 d.cl.length c1) (.slice A2 d.at_.length c2) (.slice A3 d.st.length c3) (.slice A4 ks.length c4)).toArray 40
    unfold sV sC
    unfold sC at hX hw1
    go_enter Tryz.func130, Tryz.ntmps130
    go_upto_region 1 with fail
    rw [← hw1]
    obtain ⟨X, hXe⟩ : ∃ X, X = w.heap.size := ⟨_, rfl⟩
    rw [← hXe] at hX ⊢
    have HX := Lib.hid hX
    have HB := Lib.hid hB0
    have HR := Lib.hid (hr.old hB0)
    obtain ⟨x0, x1, x2, x3, x4, x5, x6, x7⟩ := scells (a1 := .slice A1 d.cl.length c1) (a2 := .slice A2 d.at_.length c2) (a3 := .slice A3 d.st.length c3) (k := .slice A4 ks.length c4) hX
    clear hw1 hXe hX hB0 hs1 hr hrr

    have HKS := Lib.hid (And.intro (show Vs 8 w1 (Old w) A4 ks.length vs from hvs.move (.of_below HB.out fun _ h => h)) (And.intro (hks.move (w' := w1) (.of_below HB.out fun _ h => h)) (fun b (h : Old w b) => show b < w1.heap.size from Nat.lt_of_lt_of_le h HB.out.size)))
    clear hvs hks
    by_cases hk1 : d.kind = 1
    · have HE := Lib.hid (show natT t = Fl.P1.sat d.text.size by rw [HNT.out, if_pos hk1])
      have i1 : (d.kind == 1) = true := by simp [hk1]
      clear HNT HR HKS hk1 x4 x5 x6 x7
      go_wp2_with (first | (go_at_call 106; ((with_reducible refine (Fl.sat_any _ _).mono ?_); rintro e w' ⟨rfl, rfl⟩)))
      go_ret
      exact ⟨by rw [HE.out] <;> rfl, HB.out⟩
    · have HE1 := Lib.hid (show natT t = if (gtS d.st nmW).2 = true then styV d nmW else Fl.P1.add (natM ks 0) (Fl.P1.add (styV d nmPad) (styV d nmPad)) by rw [HNT.out, if_neg hk1])
      have i1 : (d.kind == 1) = false := by simp [hk1]
      clear HNT hk1
      go_wp2_with fail
      have hc2 := style_any d (.slice A1 d.cl.length c1) (.slice A2 d.at_.length c2) (.slice A3 d.st.length c3) A4 ks.length c4 nmW w1 HR.out hs
      unfold sV sC at hc2
      refine hc2.mono ?_
      clear hc2
      rintro e2 w2 ⟨rfl, hb2⟩
      have HB2 := Lib.hid hb2
      have HXb := Lib.hid (HX.out.below hb2 HX.out.lt)
      have HBb := Lib.hid (HB.out.trans (hb2.mono HB.out.size))
      have HRb := Lib.hid (HR.out.old hb2)
      clear HX HB HR hb2 x0 x1 x2 x3 x4 x5 x6 x7
      have HX := HXb
      have HB := HBb
      have HR := HRb
      clear HXb HBb HRb
      obtain ⟨x0, x1, x2, x3, x4, x5, x6, x7⟩ := scells (a1 := .slice A1 d.cl.length c1) (a2 := .slice A2 d.at_.length c2) (a3 := .slice A3 d.st.length c3) (k := .slice A4 ks.length c4) HX.out
      have HKW := Lib.hid (show Vs 8 w2 (Old w) A4 ks.length vs ∧ IsTs sK w2 (Old w) ks vs ∧ (∀ b, Old w b → b < w2.heap.size) from by
        have hb2 := HB2.out
        exact ⟨HKS.out.1.move (.of_below hb2 HKS.out.2.2), HKS.out.2.1.move (.of_below hb2 HKS.out.2.2), fun b h => Nat.lt_of_lt_of_le (HKS.out.2.2 b h) hb2.size⟩)
      clear HKS HB2
      by_cases hq : (gtS d.st nmW).2 = true
      · have HE := Lib.hid (show natT t = styV d nmW by rw [HE1.out, if_pos hq])
        rw [hq]
        clear hq HE1 HKW HX HR x0 x1 x2 x3 x4 x5 x6 x7
        obtain ⟨y, hy⟩ : ∃ y, y = styV d nmW := ⟨_, rfl⟩
        rw [← hy] at HE ⊢
        clear hy
        go_wp2_with fail
        go_ret
        exact ⟨by rw [HE.out] <;> rfl, HB.out⟩
      · have HE := Lib.hid (show natT t = Fl.P1.add (natM ks 0) (Fl.P1.add (styV d nmPad) (styV d nmPad)) by rw [HE1.out, if_neg hq])
        skip
        rw [Bool.not_eq_true] at hq
        rw [hq]
        clear hq HE1
        obtain ⟨wb, hwb⟩ : ∃ wb, wb = w2 := ⟨_, rfl⟩
        rw [← hwb] at HKW HX HB HR x0 x1 x2 x3 x4 x5 x6 x7 ⊢
        clear hwb
        go_wp2_with fail
        go_loopw [5, 25] (fun s i wx => ∃ k, k ≤ ks.length ∧ i = .int .i64 (k : Nat) ∧ s = .int .i64 (natM (ks.take k) 0) ∧ Below wb.heap.size wb wx) (fun _ i _ => ks.length - (intOf i).toNat)
        case atStart => exact ⟨0, Nat.zero_le _, rfl, by rw [List.take_zero, natM], Below.refl _ _⟩
        case round =>
          obtain ⟨k, hk, rfl, rfl, hb⟩ := hrel
          by_cases hlt : k < ks.length
          · have hT := HKW.out.2.1.at_ k hlt
            obtain ⟨A', c', vs', ⟨k1, k2, k3, hv, B1, b1, B2, b2, B3, b3, rfl, rfl, rfl, _⟩, _, _⟩ := IsT.eq.1 hT
            obtain ⟨e, he⟩ : ∃ e, e = (ks[k]).dat := ⟨_, rfl⟩
            obtain ⟨m', hm'⟩ : ∃ v, v = (ks[k]).kids.length := ⟨_, rfl⟩
            rw [← he, ← hm'] at hv
            obtain ⟨b, off, rfl, hbB, d0, d1, d2, d3, d4, d5, d6, d7⟩ := Vs.shown HKW.out.1 k hlt hv (Still.of_below hb HKW.out.2.2)
            rw [hv] at hT
            have i2 : (0 : Int) ≤ (k : Int) := by omega
            have i3 : (k : Int) < (ks.length : Int) := by omega
            obtain ⟨wk, hwk, hK7, hBk, hsk⟩ := one_new wr (sC e (.slice B1 e.cl.length b1) (.slice B2 e.at_.length b2) (.slice B3 e.st.length b3) (.slice A' m' c')).toArray 40
            unfold sC at hwk hK7
            have HTK := Lib.hid (show IsT sK wk (Old wk) ks[k] (sV e (.slice B1 e.cl.length b1) (.slice B2 e.at_.length b2) (.slice B3 e.st.length b3) (.slice A' m' c')) from (hT.move (.of_below (hb.trans (hBk.mono hb.size)) HKW.out.2.2)).weak fun b hb' => Nat.lt_of_lt_of_le (HKW.out.2.2 b hb') (Nat.le_trans hb.size hBk.size))
            have hih := ih ks[k] _ wk (hks1 k hlt) (by omega) (hals.at_ k hlt) HTK.out
            unfold sV sC at hih
            have HIH := Lib.hid hih
            have HTS := Lib.hid (show natM (ks.take (k + 1)) 0 = max (natM (ks.take k) 0) (natT ks[k]) by rw [show ks.take (k + 1) = ks.take k ++ [ks[k]] by simp, natM_snoc])
            have HBW := Lib.hid (hb.trans (hBk.mono hb.size))
            obtain ⟨M, hM⟩ : ∃ M, M = natM (ks.take k) 0 := ⟨_, rfl⟩
            rw [← hM] at HTS ⊢
            clear hT hv he hm' hih hM hb
            go_upto_region 10 with fail
            rw [← hwk]
            obtain ⟨K7, hK7e⟩ : ∃ K7, K7 = wr.heap.size := ⟨_, rfl⟩
            rw [← hK7e] at hK7 ⊢
            clear d0 d1 d2 d3 d4 d5 d6 d7 hbB hwk hBk hsk hK7e x0 x1 x2 x3 x4 x5 x6 x7
            obtain ⟨z0, z1, z2, z3, z4, z5, z6, z7⟩ := scells (a1 := .slice B1 e.cl.length b1) (a2 := .slice B2 e.at_.length b2) (a3 := .slice B3 e.st.length b3) (k := .slice A' m' c') hK7
            clear hK7
            go_wp2_with fail
            refine HIH.out.mono ?_
            rintro e5 w5 ⟨rfl, hb5⟩
            have HB5 := Lib.hid (HBW.out.trans (hb5.mono HBW.out.size))
            obtain ⟨N, hN⟩ : ∃ N, N = natT ks[k] := ⟨_, rfl⟩
            rw [← hN] at HTS ⊢
            clear hN hb5 z0 z1 z2 z3 z4 z5 z6 z7
            go_wp2_with fail
            go_roundw
            case rel => exact ⟨k + 1, by omega, by go_num, by rw [HTS.out], HB5.out⟩
            case measure => simp [intOf]; omega
          · obtain rfl : k = ks.length := by omega
            rw [List.take_length]
            have HBR := Lib.hid (HB.out.trans (hb.mono HB.out.size))
            have HXR := Lib.hid (HX.out.below hb HX.out.lt)
            have HRR := Lib.hid (HR.out.old hb)
            clear x0 x1 x2 x3 x4 x5 x6 x7 HX HB HR hb hlt hk HKW
            have HX := HXR
            have HB := HBR
            have HR := HRR
            clear HXR HBR HRR
            obtain ⟨x0, x1, x2, x3, x4, x5, x6, x7⟩ := scells (a1 := .slice A1 d.cl.length c1) (a2 := .slice A2 d.at_.length c2) (a3 := .slice A3 d.st.length c3) (k := .slice A4 ks.length c4) HX.out
            obtain ⟨M, hM⟩ : ∃ M, M = natM ks 0 := ⟨_, rfl⟩
            rw [← hM] at HE ⊢
            clear hM
            go_wp2_with fail
            have hc6 := ask_any d (.slice A1 d.cl.length c1) (.slice A2 d.at_.length c2) (.slice A3 d.st.length c3) A4 ks.length c4 nmPad wr HR.out hs
            unfold sV sC at hc6
            refine hc6.mono ?_
            clear hc6
            rintro e6 w6 ⟨rfl, hb6⟩
            have HXb := Lib.hid (HX.out.below hb6 HX.out.lt)
            have HBb := Lib.hid (HB.out.trans (hb6.mono HB.out.size))
            have HRb := Lib.hid (HR.out.old hb6)
            clear HX HB HR hb6 x0 x1 x2 x3 x4 x5 x6 x7
            have HX := HXb
            have HB := HBb
            have HR := HRb
            clear HXb HBb HRb
            obtain ⟨x0, x1, x2, x3, x4, x5, x6, x7⟩ := scells (a1 := .slice A1 d.cl.length c1) (a2 := .slice A2 d.at_.length c2) (a3 := .slice A3 d.st.length c3) (k := .slice A4 ks.length c4) HX.out
            obtain ⟨y, hy⟩ : ∃ y, y = styV d nmPad := ⟨_, rfl⟩
            rw [← hy] at HE ⊢
            clear hy
            go_wp2_with (first | (go_at_call 132; ((with_reducible refine (twice_any _ _).mono ?_); rintro e w' ⟨rfl, rfl⟩)) | (go_at_call 90; ((with_reducible refine (Fl.add_any _ _ _).mono ?_); rintro e w' ⟨rfl, rfl⟩)))
            go_ret
            exact ⟨by rw [HE.out] <;> rfl, HB.out⟩
set_option maxRecDepth 100000 in
set_option maxHeartbeats 4000000 in
theorem rnatural_any (m : Nat) : ∀ (t : STr) (v : Value) (w : World), t.size ≤ m → m ≤ 1000 → All stOk t → IsT sK w (Old w) t v →
    Calls Tryz.prog 81 #[v] w fun e w' => e = .returned (.int .i64 (natT t)) ∧ Below w.heap.size w w' := by
  induction m with
  | zero => intro t v w h; have := size_pos t; omega
  | succ m ih =>
    intro t v w hsz hm hal hT
    obtain ⟨A4, c4, vs, ⟨a1, a2, a3, rfl, hr⟩, hvs, hks⟩ := IsT.eq.1 hT
    obtain ⟨hs, hals⟩ := All.eq.1 hal
    have hkl := kids_len hsz
    have hks1 := fun k hk => kid_size hsz k hk
    have HNT := Lib.hid (natT_eq t)
    obtain ⟨d, hd⟩ : ∃ d, d = t.dat := ⟨_, rfl⟩
    obtain ⟨ks, hkse⟩ : ∃ ks, ks = t.kids := ⟨_, rfl⟩
    rw [← hd] at hr hs HNT ⊢
    rw [← hkse] at hvs hks hals hkl hks1 HNT ⊢
    clear hT hal hd hkse hsz
    obtain ⟨A1, c1, A2, c2, A3, c3, rfl, rfl, rfl, hrr⟩ := hr
    have hr : Rows3 w (Old w) d.cl d.at_ d.st (.slice A1 d.cl.length c1) (.slice A2 d.at_.length c2) (.slice A3 d.st.length c3) := ⟨A1, c1, A2, c2, A3, c3, rfl, rfl, rfl, hrr⟩
    obtain ⟨w1, hw1, hX, hB0, hs1⟩ := one_new w (sC d (.slice A1 d.cl.length c1) (.slice A2 d.at_.length c2) (.slice A3 d.st.length c3) (.slice A4 ks.length c4)).toArray 68
    unfold sV sC
    unfold sC at hX hw1
    go_enter Tryz.func81, Tryz.ntmps81
    go_upto_region 1 with fail
    rw [← hw1]
    obtain ⟨X, hXe⟩ : ∃ X, X = w.heap.size := ⟨_, rfl⟩
    rw [← hXe] at hX ⊢
    have HX := Lib.hid hX
    have HB := Lib.hid hB0
    have HR := Lib.hid (hr.old hB0)
    obtain ⟨x0, x1, x2, x3, x4, x5, x6, x7⟩ := rcells (a1 := .slice A1 d.cl.length c1) (a2 := .slice A2 d.at_.length c2) (a3 := .slice A3 d.st.length c3) (k := .slice A4 ks.length c4) hX
    clear hw1 hXe hX hB0 hs1 hr hrr

    have HKS := Lib.hid (And.intro (show Vs 8 w1 (Old w) A4 ks.length vs from hvs.move (.of_below HB.out fun _ h => h)) (And.intro (hks.move (w' := w1) (.of_below HB.out fun _ h => h)) (fun b (h : Old w b) => show b < w1.heap.size from Nat.lt_of_lt_of_le h HB.out.size)))
    clear hvs hks
    by_cases hk1 : d.kind = 1
    · have HE := Lib.hid (show natT t = Fl.P1.sat d.text.size by rw [HNT.out, if_pos hk1])
      have i1 : (d.kind == 1) = true := by simp [hk1]
      clear HNT HR HKS hk1 x4 x5 x6 x7
      go_wp2_with (first | (go_at_call 75; ((with_reducible refine (Fl.rsat_any _ _).mono ?_); rintro e w' ⟨rfl, rfl⟩)))
      go_ret
      exact ⟨by rw [HE.out] <;> rfl, HB.out⟩
    · have HE1 := Lib.hid (show natT t = if (gtS d.st nmW).2 = true then styV d nmW else Fl.P1.add (natM ks 0) (Fl.P1.add (styV d nmPad) (styV d nmPad)) by rw [HNT.out, if_neg hk1])
      have i1 : (d.kind == 1) = false := by simp [hk1]
      clear HNT hk1
      go_wp2_with fail
      have hc2 := rstyle_any d (.slice A1 d.cl.length c1) (.slice A2 d.at_.length c2) (.slice A3 d.st.length c3) A4 ks.length c4 nmW w1 HR.out hs
      unfold sV sC at hc2
      refine hc2.mono ?_
      clear hc2
      rintro e2 w2 ⟨rfl, hb2⟩
      have HB2 := Lib.hid hb2
      have HXb := Lib.hid (HX.out.below hb2 HX.out.lt)
      have HBb := Lib.hid (HB.out.trans (hb2.mono HB.out.size))
      have HRb := Lib.hid (HR.out.old hb2)
      clear HX HB HR hb2 x0 x1 x2 x3 x4 x5 x6 x7
      have HX := HXb
      have HB := HBb
      have HR := HRb
      clear HXb HBb HRb
      obtain ⟨x0, x1, x2, x3, x4, x5, x6, x7⟩ := rcells (a1 := .slice A1 d.cl.length c1) (a2 := .slice A2 d.at_.length c2) (a3 := .slice A3 d.st.length c3) (k := .slice A4 ks.length c4) HX.out
      have HKW := Lib.hid (show Vs 8 w2 (Old w) A4 ks.length vs ∧ IsTs sK w2 (Old w) ks vs ∧ (∀ b, Old w b → b < w2.heap.size) from by
        have hb2 := HB2.out
        exact ⟨HKS.out.1.move (.of_below hb2 HKS.out.2.2), HKS.out.2.1.move (.of_below hb2 HKS.out.2.2), fun b h => Nat.lt_of_lt_of_le (HKS.out.2.2 b h) hb2.size⟩)
      clear HKS HB2
      by_cases hq : (gtS d.st nmW).2 = true
      · have HE := Lib.hid (show natT t = styV d nmW by rw [HE1.out, if_pos hq])
        rw [hq]
        clear hq HE1 HKW HX HR x0 x1 x2 x3 x4 x5 x6 x7
        obtain ⟨y, hy⟩ : ∃ y, y = styV d nmW := ⟨_, rfl⟩
        rw [← hy] at HE ⊢
        clear hy
        go_wp2_with fail
        go_ret
        exact ⟨by rw [HE.out] <;> rfl, HB.out⟩
      · have HE := Lib.hid (show natT t = Fl.P1.add (natM ks 0) (Fl.P1.add (styV d nmPad) (styV d nmPad)) by rw [HE1.out, if_neg hq])
        rw [sty_none hq]
        rw [Bool.not_eq_true] at hq
        rw [hq]
        clear hq HE1
        obtain ⟨wb, hwb⟩ : ∃ wb, wb = w2 := ⟨_, rfl⟩
        rw [← hwb] at HKW HX HB HR x0 x1 x2 x3 x4 x5 x6 x7 ⊢
        clear hwb
        go_wp2_with fail
        go_loopw [3, 26] (fun s i wx => ∃ k, k ≤ ks.length ∧ i = .int .i64 (k : Nat) ∧ s = .int .i64 (natM (ks.take k) 0) ∧ Below wb.heap.size wb wx) (fun _ i _ => ks.length - (intOf i).toNat)
        case atStart => exact ⟨0, Nat.zero_le _, rfl, by rw [List.take_zero, natM], Below.refl _ _⟩
        case round =>
          obtain ⟨k, hk, rfl, rfl, hb⟩ := hrel
          by_cases hlt : k < ks.length
          · have hT := HKW.out.2.1.at_ k hlt
            obtain ⟨A', c', vs', ⟨k1, k2, k3, hv, B1, b1, B2, b2, B3, b3, rfl, rfl, rfl, _⟩, _, _⟩ := IsT.eq.1 hT
            obtain ⟨e, he⟩ : ∃ e, e = (ks[k]).dat := ⟨_, rfl⟩
            obtain ⟨m', hm'⟩ : ∃ v, v = (ks[k]).kids.length := ⟨_, rfl⟩
            rw [← he, ← hm'] at hv
            obtain ⟨b, off, rfl, hbB, d0, d1, d2, d3, d4, d5, d6, d7⟩ := Vs.shown HKW.out.1 k hlt hv (Still.of_below hb HKW.out.2.2)
            rw [hv] at hT
            have i2 : (0 : Int) ≤ (k : Int) := by omega
            have i3 : (k : Int) < (ks.length : Int) := by omega
            obtain ⟨wk, hwk, hK7, hBk, hsk⟩ := one_new wr (sC e (.slice B1 e.cl.length b1) (.slice B2 e.at_.length b2) (.slice B3 e.st.length b3) (.slice A' m' c')).toArray 68
            unfold sC at hwk hK7
            have HTK := Lib.hid (show IsT sK wk (Old wk) ks[k] (sV e (.slice B1 e.cl.length b1) (.slice B2 e.at_.length b2) (.slice B3 e.st.length b3) (.slice A' m' c')) from (hT.move (.of_below (hb.trans (hBk.mono hb.size)) HKW.out.2.2)).weak fun b hb' => Nat.lt_of_lt_of_le (HKW.out.2.2 b hb') (Nat.le_trans hb.size hBk.size))
            have hih := ih ks[k] _ wk (hks1 k hlt) (by omega) (hals.at_ k hlt) HTK.out
            unfold sV sC at hih
            have HIH := Lib.hid hih
            have HTS := Lib.hid (show natM (ks.take (k + 1)) 0 = max (natM (ks.take k) 0) (natT ks[k]) by rw [show ks.take (k + 1) = ks.take k ++ [ks[k]] by simp, natM_snoc])
            have HBW := Lib.hid (hb.trans (hBk.mono hb.size))
            obtain ⟨M, hM⟩ : ∃ M, M = natM (ks.take k) 0 := ⟨_, rfl⟩
            rw [← hM] at HTS ⊢
            clear hT hv he hm' hih hM hb
            go_upto_region 9 with fail
            rw [← hwk]
            obtain ⟨K7, hK7e⟩ : ∃ K7, K7 = wr.heap.size := ⟨_, rfl⟩
            rw [← hK7e] at hK7 ⊢
            clear d0 d1 d2 d3 d4 d5 d6 d7 hbB hwk hBk hsk hK7e x0 x1 x2 x3 x4 x5 x6 x7
            obtain ⟨z0, z1, z2, z3, z4, z5, z6, z7⟩ := rcells (a1 := .slice B1 e.cl.length b1) (a2 := .slice B2 e.at_.length b2) (a3 := .slice B3 e.st.length b3) (k := .slice A' m' c') hK7
            clear hK7
            go_wp2_with fail
            refine HIH.out.mono ?_
            rintro e5 w5 ⟨rfl, hb5⟩
            have HB5 := Lib.hid (HBW.out.trans (hb5.mono HBW.out.size))
            obtain ⟨N, hN⟩ : ∃ N, N = natT ks[k] := ⟨_, rfl⟩
            rw [← hN] at HTS ⊢
            clear hN hb5 z0 z1 z2 z3 z4 z5 z6 z7
            go_wp2_with fail
            go_roundw
            case rel => exact ⟨k + 1, by omega, by go_num, by rw [HTS.out], HB5.out⟩
            case measure => simp [intOf]; omega
          · obtain rfl : k = ks.length := by omega
            rw [List.take_length]
            have HBR := Lib.hid (HB.out.trans (hb.mono HB.out.size))
            have HXR := Lib.hid (HX.out.below hb HX.out.lt)
            have HRR := Lib.hid (HR.out.old hb)
            clear x0 x1 x2 x3 x4 x5 x6 x7 HX HB HR hb hlt hk HKW
            have HX := HXR
            have HB := HBR
            have HR := HRR
            clear HXR HBR HRR
            obtain ⟨x0, x1, x2, x3, x4, x5, x6, x7⟩ := rcells (a1 := .slice A1 d.cl.length c1) (a2 := .slice A2 d.at_.length c2) (a3 := .slice A3 d.st.length c3) (k := .slice A4 ks.length c4) HX.out
            obtain ⟨M, hM⟩ : ∃ M, M = natM ks 0 := ⟨_, rfl⟩
            rw [← hM] at HE ⊢
            clear hM
            go_wp2_with fail
            have hc6 := rstyle_any d (.slice A1 d.cl.length c1) (.slice A2 d.at_.length c2) (.slice A3 d.st.length c3) A4 ks.length c4 nmPad wr HR.out hs
            unfold sV sC at hc6
            refine hc6.mono ?_
            clear hc6
            rintro e6 w6 ⟨rfl, hb6⟩
            have HXb := Lib.hid (HX.out.below hb6 HX.out.lt)
            have HBb := Lib.hid (HB.out.trans (hb6.mono HB.out.size))
            have HRb := Lib.hid (HR.out.old hb6)
            clear HX HB HR hb6 x0 x1 x2 x3 x4 x5 x6 x7
            have HX := HXb
            have HB := HBb
            have HR := HRb
            clear HXb HBb HRb
            obtain ⟨x0, x1, x2, x3, x4, x5, x6, x7⟩ := rcells (a1 := .slice A1 d.cl.length c1) (a2 := .slice A2 d.at_.length c2) (a3 := .slice A3 d.st.length c3) (k := .slice A4 ks.length c4) HX.out
            obtain ⟨y, hy⟩ : ∃ y, y = styV d nmPad := ⟨_, rfl⟩
            rw [← hy] at HE ⊢
            clear hy
            go_wp2_with (first | (go_at_call 74; ((with_reducible refine (Fl.radd_any _ _ _).mono ?_); rintro e w' ⟨rfl, rfl⟩)))
            go_ret
            exact ⟨by rw [HE.out] <;> rfl, HB.out⟩
set_option maxRecDepth 100000 in
set_option maxHeartbeats 4000000 in
theorem given_any (d : SD) (a1 a2 a3 : Value) (A4 : Option Addr) (n4 c4 : Nat) (t : STr) (v : Value) (n : Int) (w : World) (hr : Rows3 w (Old w) d.cl d.at_ d.st a1 a2 a3) (hs : stOk d) (m : Nat) (hsz : t.size ≤ m) (hm : m ≤ 1000) (hal : All stOk t) (hT : IsT sK w (Old w) t v) :
    Calls Tryz.prog 114 #[sV d a1 a2 a3 (.slice A4 n4 c4), v, .int .i64 n] w fun e w' => e = .returned (.int .i64 (givenT d t n)) ∧ Below w.heap.size w w' := by
  obtain ⟨A1, c1, A2, c2, A3, c3, rfl, rfl, rfl, hrr⟩ := hr
  have hr : Rows3 w (Old w) d.cl d.at_ d.st (.slice A1 d.cl.length c1) (.slice A2 d.at_.length c2) (.slice A3 d.st.length c3) := ⟨A1, c1, A2, c2, A3, c3, rfl, rfl, rfl, hrr⟩
  obtain ⟨A', c', vs', ⟨k1, k2, k3, rfl, B1, b1, B2, b2, B3, b3, rfl, rfl, rfl, _⟩, _, _⟩ := IsT.eq.1 hT
  have HT0 := Lib.hid hT
  have HA := Lib.hid hal
  have HGT := Lib.hid (show givenT d t n = if wayV d = 1 then natT t else eachV d n from rfl)
  obtain ⟨e, he⟩ : ∃ e, e = t.dat := ⟨_, rfl⟩
  obtain ⟨m', hm'⟩ : ∃ v, v = t.kids.length := ⟨_, rfl⟩
  rw [← he, ← hm'] at HT0 ⊢
  clear hT he hm' hal
  obtain ⟨w1, hw1, hX, hY, hB0, hs1⟩ := two_new w (sC d (.slice A1 d.cl.length c1) (.slice A2 d.at_.length c2) (.slice A3 d.st.length c3) (.slice A4 n4 c4)).toArray (sC e (.slice B1 e.cl.length b1) (.slice B2 e.at_.length b2) (.slice B3 e.st.length b3) (.slice A' m' c')).toArray 40 40
  unfold sV sC
  unfold sC at hX hY hw1
  go_enter Tryz.func114, Tryz.ntmps114
  go_upto_region 1 with fail
  rw [← hw1]
  obtain ⟨X, hXe⟩ : ∃ X, X = w.heap.size := ⟨_, rfl⟩
  rw [← hXe] at hX hY ⊢
  have HX := Lib.hid hX
  have HY := Lib.hid hY
  have HB := Lib.hid hB0
  have HR := Lib.hid (hr.old hB0)
  have HT := Lib.hid (HT0.out.keep hB0)
  obtain ⟨x0, x1, x2, x3, x4, x5, x6, x7⟩ := scells (a1 := .slice A1 d.cl.length c1) (a2 := .slice A2 d.at_.length c2) (a3 := .slice A3 d.st.length c3) (k := .slice A4 n4 c4) hX
  clear hw1 hXe hX hY hB0 hs1 hr hrr HT0
  go_wp2_with fail
  have hc2 := way_any d (.slice A1 d.cl.length c1) (.slice A2 d.at_.length c2) (.slice A3 d.st.length c3) A4 n4 c4 w1 HR.out hs
  unfold sV sC at hc2
  refine hc2.mono ?_
  clear hc2
  rintro e2 w2 ⟨rfl, hb2⟩
  have HYb := Lib.hid (HY.out.below hb2 HY.out.lt)
  have HTb := Lib.hid (HT.out.keep hb2)
  have HXb := Lib.hid (HX.out.below hb2 HX.out.lt)
  have HBb := Lib.hid (HB.out.trans (hb2.mono HB.out.size))
  have HRb := Lib.hid (HR.out.old hb2)
  clear HX HB HR hb2 x0 x1 x2 x3 x4 x5 x6 x7
  clear HY HT
  have HY := HYb
  have HT := HTb
  clear HYb HTb
  have HX := HXb
  have HB := HBb
  have HR := HRb
  clear HXb HBb HRb
  obtain ⟨x0, x1, x2, x3, x4, x5, x6, x7⟩ := scells (a1 := .slice A1 d.cl.length c1) (a2 := .slice A2 d.at_.length c2) (a3 := .slice A3 d.st.length c3) (k := .slice A4 n4 c4) HX.out
  obtain ⟨y, hy⟩ : ∃ y, y = wayV d := ⟨_, rfl⟩
  rw [← hy] at HGT ⊢
  have HWY := Lib.hid hy
  clear hy
  by_cases h1 : y = 1
  · have HE := Lib.hid (show givenT d t n = natT t by rw [HGT.out, if_pos h1])
    subst h1
    clear HGT HX HR x0 x1 x2 x3 x4 x5 x6 x7
    obtain ⟨x0, x1, x2, x3, x4, x5, x6, x7⟩ := scells (a1 := .slice B1 e.cl.length b1) (a2 := .slice B2 e.at_.length b2) (a3 := .slice B3 e.st.length b3) (k := .slice A' m' c') HY.out
    go_wp2_with fail
    have hn := natural_any m t _ w2 hsz hm HA.out HT.out
    unfold sV sC at hn
    refine hn.mono ?_
    clear hn
    rintro e3 w3 ⟨rfl, hb3⟩
    have HB3 := Lib.hid (HB.out.trans (hb3.mono HB.out.size))
    obtain ⟨z, hz⟩ : ∃ z, z = natT t := ⟨_, rfl⟩
    rw [← hz] at HE ⊢
    clear hz hb3 x0 x1 x2 x3 x4 x5 x6 x7
    go_wp2_with fail
    go_ret
    exact ⟨by rw [HE.out] <;> rfl, HB3.out⟩
  · have HE1 := Lib.hid (show givenT d t n = if y = 2 then colV d n else n by rw [HGT.out, if_neg h1, eachV, ← HWY.out])
    have i1 : (y == 1) = false := by simp [h1]
    clear HGT h1
    by_cases h2 : y = 2
    · have HE := Lib.hid (show givenT d t n = colV d n by rw [HE1.out, if_pos h2])
      subst h2
      go_wp2_with fail
      have hc3 := column_any d (.slice A1 d.cl.length c1) (.slice A2 d.at_.length c2) (.slice A3 d.st.length c3) A4 n4 c4 n w2 HR.out hs
      unfold sV sC at hc3
      refine hc3.mono ?_
      clear hc3
      rintro e3 w3 ⟨rfl, hb3⟩
      have HB3 := Lib.hid (HB.out.trans (hb3.mono HB.out.size))
      obtain ⟨z, hz⟩ : ∃ z, z = colV d n := ⟨_, rfl⟩
      obtain ⟨z2, hz2⟩ : ∃ z2, z2 = colsV d := ⟨_, rfl⟩
      rw [← hz] at HE ⊢
      rw [← hz2]
      clear hz hz2 hb3 x0 x1 x2 x3 x4 x5 x6 x7
      go_wp2_with fail
      go_ret
      exact ⟨by rw [HE.out] <;> rfl, HB3.out⟩
    · have HE := Lib.hid (show givenT d t n = n by rw [HE1.out, if_neg h2])
      have i2 : (y == 2) = false := by simp [h2]
      go_wp2_with fail
      go_ret
      exact ⟨by rw [HE.out] <;> rfl, HB.out⟩

end Go.Proofs.YtaalhglooipnaaaGreat
namespace Go.Proofs.YtaalhglooipnaaaGreat
open Go.RowKit

def acL2 : List Oper → Nat → Bool
  | [], _ => true
  | o :: os, k => o.after.toList.all (fun e => !Region.binds .any e || decide (e.on < k)) && acL2 os (k + 1)
theorem acL2_at : ∀ (l : List Oper) (k : Nat), acL2 l k = true → ∀ i o, l[i]? = some o → ∀ e ∈ o.after, Region.binds .any e = true → e.on < k + i
  | [], _, _, i, o, h => by simp at h
  | x :: l, k, hs, 0, o, h => by
    simp at h
    subst h
    rw [acL2, Bool.and_eq_true, List.all_eq_true] at hs
    intro e he hb
    have := hs.1 e (by simpa using he)
    rw [hb] at this
    simpa using this
  | x :: l, k, hs, i + 1, o, h => by
    rw [acL2, Bool.and_eq_true] at hs
    have := acL2_at l (k + 1) hs.2 i o (by simpa using h)
    rwa [show k + (i + 1) = k + 1 + i by omega]
section
variable {P : Program} {ops : Array Oper} {Q : Exit → Act → World → Prop} {md : Region.Mode}
theorem wpAny_inv2 {I : (Nat → Bool) → Act → World → Prop}
    (hac : ∀ (i : Nat) (o : Oper), ops[i]? = some o → ∀ e ∈ o.after, Region.binds md e = true → e.on < i)
    (step : ∀ (i : Nat) (o : Oper), ops[i]? = some o → ∀ L a w, I L a w → L i = false → (∀ e ∈ o.after, Region.binds md e = true → L e.on = true) → wpOp P ops Q i (I (setL L i)) a w)
    (fin : ∀ L a w, I L a w → (∀ i, i < ops.size → L i = true) → Q .normal a w) :
    ∀ (fuel : Nat) (listed : Array Bool) (a : Act) (w : World), listed.size = ops.size → cntF (listedF listed) ops.size ≤ fuel → I (listedF listed) a w → wpAny P md ops Q fuel listed a w := by
  have hrd : ∀ (listed : Array Bool), listed.size = ops.size → ∀ i, i ∈ Region.ready md ops listed ↔ ∃ o, ops[i]? = some o ∧ listedF listed i = false ∧ ∀ e ∈ o.after, Region.binds md e = true → listedF listed e.on = true := by
    intro listed hs i
    unfold Region.ready
    simp only [List.mem_filter, List.mem_range, Bool.and_eq_true]
    constructor
    · rintro ⟨h1, h2, h3⟩
      obtain ⟨o, ho⟩ : ∃ o, ops[i]? = some o := ⟨_, Array.getElem?_eq_getElem h1⟩
      refine ⟨o, ho, ?_, fun e he hb => ?_⟩
      · simp only [Bool.not_eq_true', Array.getD_eq_getD_getElem?] at h2
        unfold listedF
        rw [Array.getD_eq_getD_getElem?]
        rw [Array.getElem?_eq_getElem (by omega)] at h2 ⊢
        simpa using h2
      · rw [ho] at h3
        simp only [Option.map_some, Option.getD_some, Array.all_eq_true'] at h3
        have := h3 e he
        rw [hb] at this
        simpa [listedF] using this
    · rintro ⟨o, ho, h2, h3⟩
      have h1 : i < ops.size := (Array.getElem?_eq_some_iff.1 ho).1
      refine ⟨h1, ?_, ?_⟩
      · simp only [Bool.not_eq_true', Array.getD_eq_getD_getElem?]
        unfold listedF at h2
        rw [Array.getD_eq_getD_getElem?] at h2
        rw [Array.getElem?_eq_getElem (by omega)] at h2 ⊢
        simpa using h2
      · rw [ho]
        simp only [Option.map_some, Option.getD_some, Array.all_eq_true']
        intro e he
        by_cases hb : Region.binds md e = true
        · have := h3 e he hb
          rw [hb]
          simpa [listedF] using this
        · simp [hb]
  have hall : ∀ (listed : Array Bool), listed.size = ops.size → Region.ready md ops listed = [] → ∀ i, i < ops.size → listedF listed i = true := by
    intro listed hs hr i
    induction i using Nat.strongRecOn with
    | _ i ih =>
      intro hi
      by_cases hL : listedF listed i = true
      · exact hL
      · obtain ⟨o, ho⟩ : ∃ o, ops[i]? = some o := ⟨_, Array.getElem?_eq_getElem hi⟩
        have : i ∈ Region.ready md ops listed := (hrd listed hs i).2 ⟨o, ho, by simpa using hL, fun e he hbe => ih e.on (hac i o ho e he hbe) (by have := hac i o ho e he hbe; omega)⟩
        rw [hr] at this
        cases this
  intro fuel
  induction fuel with
  | zero =>
    intro listed a w hs hc hI
    have hL := cntF_zero _ _ (by omega : cntF (listedF listed) ops.size = 0)
    refine ⟨?_, fin _ _ _ hI hL⟩
    apply List.eq_nil_iff_forall_not_mem.2
    intro i hi
    obtain ⟨o, ho, h2, _⟩ := (hrd listed hs i).1 hi
    rw [hL i (Array.getElem?_eq_some_iff.1 ho).1] at h2
    cases h2
  | succ fuel ih =>
    intro listed a w hs hc hI
    refine ⟨fun hr => fin _ _ _ hI (hall listed hs hr), fun i hi => ?_⟩
    obtain ⟨o, ho, h2, h3⟩ := (hrd listed hs i).1 hi
    have hil := (Array.getElem?_eq_some_iff.1 ho).1
    refine wpOp_mono ?_ (step i o ho _ a w hI h2 h3)
    intro a' w' hI'
    refine ih _ _ _ (by simpa using hs) ?_ ?_
    · rw [listedF_set _ _ (by omega)]
      have := cntF_set (listedF listed) i ops.size hil h2
      omega
    · rw [listedF_set _ _ (by omega)]
      exact hI'

end
theorem wp_region_tail2 {P : Program} {Q : Exit → Act → World → Prop} {l : List Oper} {id : Nat} {a : Act} (n : Nat) (W : World) (hm : P.follows .mixedOrders = true) (hac : acL2 l 0 = true) (htl : tailB l (l.drop n) n = true) (hn : nodupB ((l.take n).map (·.dst)) = true)
    (V : Nat → Value → World → Prop) (keep : ∀ j v w w', V j v w → Below w.heap.size w w' → V j v w')
    (steps : StepAll (OpAt P l.toArray W V (litOf a ((l.take n).map (·.dst)) 0)) (l.take n) 0)
    (fin : ∀ s w, Below W.heap.size W w → (∀ i, i < n → V i (s i) w) → wpList P l.toArray Q (l.drop n) (litOf a ((l.take n).map (·.dst)) 0 s) w) (hlen0 : Nat.ble n l.length = true) : (Code.region id l.toArray true).wp P Q a W := by
  have hlen : n ≤ l.length := Nat.le_of_ble_eq_true hlen0
  refine wp_region_any hm ?_
  obtain ⟨lit, hlit⟩ : ∃ f, f = litOf a ((l.take n).map (·.dst)) 0 := ⟨_, rfl⟩
  rw [← hlit] at steps
  have hfin : ∀ s w, Below W.heap.size W w → (∀ i, i < n → V i (s i) w) → wpList P l.toArray Q (l.drop n) (lit s) w := by rw [hlit]; exact fin
  have hac' : ∀ (i : Nat) (o : Oper), l.toArray[i]? = some o → ∀ e ∈ o.after, Region.binds .any e = true → e.on < i := by
    intro i o ho e he hbe
    have := acL2_at l 0 hac i o (by simpa using ho) e he hbe
    rwa [Nat.zero_add] at this
  have hput : ∀ i o, l[i]? = some o → i < n → ∀ s v, (lit s).put o.dst v = lit (upd s i v) := fun i o ho hi s v => by
    have hd : ((l.take n).map (·.dst))[i]? = some o.dst := by simp [ho, hi]
    have := litOf_put ((l.take n).map (·.dst)) a 0 s i o.dst v (nodupB_nodup _ hn) hd
    rw [hlit]
    rwa [Nat.zero_add] at this
  refine wpAny_inv2 (I := RegI P l Q n W V lit) hac' ?_ ?_ _ _ _ _ (by simp) ?_ ?_
  · intro i o ho L a w hI hLi hd
    have ho' : l[i]? = some o := by simpa using ho
    have hil : i < l.length := (List.getElem?_eq_some_iff.1 ho').1
    rcases hI with ⟨hc, ht, s, rfl, hb, hV⟩ | ⟨k, hk, hL, hw⟩
    · by_cases hin : i < n
      · have hs := StepAll.at (l.take n) 0 steps i o (by simp [ho', hin])
        rw [Nat.zero_add] at hs
        obtain ⟨hwant, hcase⟩ := hs s w hb (fun j hj => by
          unfold depB at hj
          rw [List.any_eq_true] at hj
          obtain ⟨e, he, h2⟩ := hj
          rw [Array.mem_toList_iff] at he
          simp only [Bool.and_eq_true, beq_iff_eq] at h2
          obtain ⟨rfl, h3⟩ := h2
          exact hV _ (by have := hac' i o ho e he h3; omega) (hd e he h3))
        refine wpOp_step ho fun K hK => ?_
        rw [if_pos hwant]
        have hnext : ∀ v w', V i v w' → Below w.heap.size w w' → K ((lit s).put o.dst v) w' := by
          intro v w' hv hbw
          refine hK _ _ (.inl ⟨?_, fun j hj => ?_, upd s i v, hput i o ho' hin s v, hb.trans (hbw.mono hb.size), fun j hjn hj => ?_⟩)
          · intro j oj hoj hLj e he hbe
            rw [setL] at hLj ⊢
            by_cases ej : j = i
            · subst ej
              have : o = oj := by rw [ho'] at hoj; injection hoj
              subst this
              have h1 := hac' j o ho e he hbe
              rw [if_neg (by omega)]
              exact hd e he hbe
            · rw [if_neg ej] at hLj
              split
              · rfl
              · exact hc j oj hoj hLj e he hbe
          · rw [setL, if_neg (by omega)]
            exact ht j hj
          · by_cases e : j = i
            · subst e; rw [upd, if_pos rfl]; exact hv
            · rw [upd, if_neg e]
              rw [setL, if_neg e] at hj
              exact keep _ _ _ _ (hV j hjn hj) hbw
        rcases hcase with ⟨v, w', hr, hv, hb'⟩ | ⟨f, args, hr, hcl⟩
        · unfold Oper.wp
          rw [hr]
          exact hnext v w' hv hb'
        · unfold Oper.wp
          rw [hr, Oper.upon_enter]
          refine hcl.mono ?_
          rintro e w' ⟨v, rfl, hv, hb'⟩
          exact hnext v w' hv hb'
      · -- the first one of the last
        have hd2 := tailB_at l (l.drop n) n htl (i - n) o (by rw [List.getElem?_drop, show n + (i - n) = i by omega]; exact ho')
        have hall : ∀ j, j < i → L j = true := by
          intro j hj
          have h2 := hd2 j (by omega)
          unfold dep2B at h2
          rw [Bool.or_eq_true] at h2
          rcases h2 with h2 | h2
          · unfold depB at h2
            rw [List.any_eq_true] at h2
            obtain ⟨e, he, h3⟩ := h2
            rw [Array.mem_toList_iff] at he
            simp only [Bool.and_eq_true, beq_iff_eq] at h3
            obtain ⟨rfl, h3⟩ := h3
            exact hd e he h3
          · rw [List.any_eq_true] at h2
            obtain ⟨e, he, h3⟩ := h2
            rw [Array.mem_toList_iff] at he
            simp only [Bool.and_eq_true] at h3
            obtain ⟨hbe, h3⟩ := h3
            split at h3
            · rename_i o' ho2
              unfold depB at h3
              rw [List.any_eq_true] at h3
              obtain ⟨e2, he2, h4⟩ := h3
              rw [Array.mem_toList_iff] at he2
              simp only [Bool.and_eq_true, beq_iff_eq] at h4
              obtain ⟨rfl, h4⟩ := h4
              exact hc e.on o' ho2 (hd e he hbe) e2 he2 h4
            · cases h3
        have hi : i = n := by
          by_cases e : i = n
          · exact e
          · exfalso
            have h1 := hall n (by omega)
            rw [ht n (Nat.le_refl _)] at h1
            cases h1
        subst hi
        have hw := hfin s w hb (fun j hj => hV j hj (hall j hj))
        have hdr : l.drop i = o :: l.drop (i + 1) := by
          rw [List.drop_eq_getElem_cons hil]
          congr 1
          rw [List.getElem?_eq_getElem hil] at ho'
          injection ho'
        rw [hdr] at hw
        refine wpOp_mono ?_ (wpList_op (by simpa using ho') hw)
        intro a' w' h'
        refine .inr ⟨i + 1, by omega, fun j => ?_, h'⟩
        rw [setL]
        by_cases e : j = i
        · rw [if_pos e, e]; simp
        · rw [if_neg e]
          by_cases e2 : j < i
          · rw [hall j e2]; simp; omega
          · rw [ht j (by omega)]; simp; omega
    · have hki : i = k := by
        have h1 := hL i
        rw [hLi] at h1
        have h2 : k ≤ i := by
          have := h1.symm
          simpa using this
        have hd2 := tailB_at l (l.drop n) n htl (i - n) o (by rw [List.getElem?_drop, show n + (i - n) = i by omega]; exact ho')
        by_cases e : i = k
        · exact e
        · exfalso
          have h2 := hd2 k (by omega)
          have hLk : L k = false := by rw [hL k]; simp
          unfold dep2B at h2
          rw [Bool.or_eq_true] at h2
          rcases h2 with h2 | h2
          · unfold depB at h2
            rw [List.any_eq_true] at h2
            obtain ⟨e, he, h3⟩ := h2
            rw [Array.mem_toList_iff] at he
            simp only [Bool.and_eq_true, beq_iff_eq] at h3
            obtain ⟨h4, h3⟩ := h3
            have := hd e he h3
            rw [h4, hLk] at this
            cases this
          · rw [List.any_eq_true] at h2
            obtain ⟨e, he, h3⟩ := h2
            rw [Array.mem_toList_iff] at he
            simp only [Bool.and_eq_true] at h3
            obtain ⟨hbe, h3⟩ := h3
            split at h3
            · rename_i o' ho2
              unfold depB at h3
              rw [List.any_eq_true] at h3
              obtain ⟨e2, he2, h4⟩ := h3
              rw [Array.mem_toList_iff] at he2
              simp only [Bool.and_eq_true, beq_iff_eq] at h4
              have h5 := hd e he hbe
              rw [hL e.on] at h5
              have h6 := acL2_at l 0 hac e.on o' ho2 e2 he2 h4.2
              have h7 : e.on < k := by simpa using h5
              omega
            · cases h3
      subst hki
      have hdr : l.drop i = o :: l.drop (i + 1) := by
        rw [List.drop_eq_getElem_cons hil]
        congr 1
        rw [List.getElem?_eq_getElem hil] at ho'
        injection ho'
      rw [hdr] at hw
      refine wpOp_mono ?_ (wpList_op (by simpa using ho') hw)
      intro a' w' h'
      refine .inr ⟨i + 1, by omega, fun j => ?_, h'⟩
      rw [setL]
      by_cases e : j = i
      · rw [if_pos e, e]; simp
      · rw [if_neg e, hL j]
        by_cases e2 : j < i
        · simp [e2]; omega
        · simp [e2]; omega
  · rintro L a w hI hL
    rcases hI with ⟨hc, ht, s, rfl, hb, hV⟩ | ⟨k, hk, hLk, hw⟩
    · have hnl : n = l.length := by
        by_cases e : n = l.length
        · exact e
        · exfalso
          have := hL n (by simp; omega)
          rw [ht n (Nat.le_refl _)] at this
          cases this
      have := hfin s w hb (fun i hi => hV i hi (hL i (by simp; omega)))
      rw [hnl, List.drop_length] at this
      exact this
    · have : l.drop k = [] := by
        apply List.drop_eq_nil_of_le
        rcases Nat.lt_or_ge k l.length with h | h
        · exfalso
          have h2 := hL k (by simpa using h)
          rw [hLk k] at h2
          simp at h2
        · exact h
      rw [this] at hw
      exact hw
  · have : ∀ (f : Nat → Bool) n, cntF f n ≤ n := by
      intro f n
      induction n with
      | zero => exact Nat.le_refl _
      | succ n ih => rw [cntF]; split <;> omega
    exact this _ _
  · have hno : ∀ i, listedF (Array.replicate l.toArray.size false) i = false := by
      intro i
      unfold listedF
      rw [Array.getD_eq_getD_getElem?]
      by_cases h : i < l.length
      · simp [h]
      · simp [h]
    refine .inl ⟨fun i o _ hi => ?_, fun i _ => hno i, curOf a ((l.take n).map (·.dst)), ?_, (Below.refl _ W).drew, fun i _ hi => ?_⟩
    · rw [hno i] at hi; cases hi
    · rw [hlit]; exact (litOf_cur a _ 0 _ fun j _ => by rw [Nat.zero_add]).symm
    · rw [hno i] at hi; cases hi


end Go.Proofs.YtaalhglooipnaaaGreat
