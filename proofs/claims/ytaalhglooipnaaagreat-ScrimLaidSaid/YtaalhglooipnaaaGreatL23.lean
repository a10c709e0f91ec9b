/-
  The layout's put: where an element's kids go, and the whole.
  Maps that a call itself makes, of whatever keys and elements: one bundle.
  Nodes by numbers, in memory (layer 5): what is known of a Dom, of a Log over it, and how that stays.
-/
import Derived.Test.YtaalhglooipnaaaGreatL20
import Derived.Test.YtaalhglooipnaaaGreatL21
import Derived.Deep.AppendLies
import Derived.Test.YtaalhglooipnaaaGreatL01
import Derived.Maps.Own
import Derived.Maps.OwnOps
import Derived.Maps.Views
import Derived.DeepKeys4
import Derived.Test.YtaalhglooipnaaaGreatL14
import Derived.Maps.OwnSet
namespace Go.Proofs.YtaalhglooipnaaaGreat
open Go.RowKit RT
attribute [local go_sem ↓] Go.wp_at_zero Go.wp_at_succ

def PutR5 (W : World) (X K8 : Nat) (d e : SD) (A1 A2 A3 A4 B1 B2 B3 A' : Option Addr) (c1 c2 c3 n4 c4 b1 b2 b3 m' c' : Nat) (u6 : Value) (n G p q : Int) : Nat → Value → World → Prop
  | 0, v, _ => v = u6
  | 1, v, _ => v = .agg #[.int .i64 e.id, .int .i64 e.kind, .string e.tag, .string e.text, .slice B1 e.cl.length b1, .slice B2 e.at_.length b2, .slice B3 e.st.length b3, .slice A' m' c']
  | 2, v, _ => v = .agg #[.int .i64 d.id, .int .i64 d.kind, .string d.tag, .string d.text, .slice A1 d.cl.length c1, .slice A2 d.at_.length c2, .slice A3 d.st.length c3, .slice A4 n4 c4]
  | 3, v, _ => v = .agg #[.int .i64 e.id, .int .i64 e.kind, .string e.tag, .string e.text, .slice B1 e.cl.length b1, .slice B2 e.at_.length b2, .slice B3 e.st.length b3, .slice A' m' c']
  | 4, v, _ => v = (.int .i64 n)
  | 5, v, _ => v = .int .i64 G
  | 6, v, _ => v = .agg #[.int .i64 p, .int .i64 q]
  | 7, v, w => NewSl W.heap.size 180 #[.int .i64 p, .int .i64 q] v w
  | _, _, _ => True
theorem PutR5_keep (W : World) (X K8 : Nat) (d e : SD) (A1 A2 A3 A4 B1 B2 B3 A' : Option Addr) (c1 c2 c3 n4 c4 b1 b2 b3 m' c' : Nat) (u6 : Value) (n G p q : Int) (j : Nat) (v : Value) (w w' : World) (h : PutR5 W X K8 d e A1 A2 A3 A4 B1 B2 B3 A' c1 c2 c3 n4 c4 b1 b2 b3 m' c' u6 n G p q j v w) (hb : Below w.heap.size w w') : PutR5 W X K8 d e A1 A2 A3 A4 B1 B2 B3 A' c1 c2 c3 n4 c4 b1 b2 b3 m' c' u6 n G p q j v w' := by
  match j with
  | 0 => exact h
  | 1 => exact h
  | 2 => exact h
  | 3 => exact h
  | 4 => exact h
  | 5 => exact h
  | 6 => exact h
  | 7 => exact h.keep hb
  | _ + 8 => trivial
theorem fsz_info : (Tryz.prog.info? 180).map (fun i => (i.zero, i.size, i.bytes)) = some (some (.agg #[.int .i64 0, .int .i64 0]), 2, 16) := by kernel_rfl
/-- What Size hands back. -/
def SzPost (t : STr) (g : Int) (w : World) (e : Ending) (w' : World) : Prop := e = .returned (.agg #[.int .i64 (sizeT t g).1, .int .i64 (sizeT t g).2]) ∧ Below w.heap.size w w'
set_option maxRecDepth 100000 in
set_option maxHeartbeats 8000000 in
theorem lput_any (m : Nat) (hm : m ≤ 39) (hS : ∀ (t : STr) (v : Value) (g : Int) (w : World), t.size ≤ m → All stOk t → IsT sK w (Old w) t v → Calls Tryz.prog 109 #[v, .int .i64 g] w (SzPost t g w))
    (t : STr) (v : Value) (n : Int) (w : World) (hsz : t.size ≤ m + 1) (hal : All stOk t) (hT : IsT sK w (Old w) t v) : Calls Tryz.prog 112 #[v, .int .i64 n] w (Fl.RowsPost w (putT t.dat n t.kids) t.kids.length) := by
  obtain ⟨A4, c4, vs, ⟨a1, a2, a3, rfl, hr⟩, hvs, hks⟩ := IsT.eq.1 hT
  obtain ⟨hs, hals⟩ := All.eq.1 hal
  have hkl := kids_len hsz
  have hks1 := fun k hk => kid_size hsz k hk
  obtain ⟨d, hd⟩ : ∃ d, d = t.dat := ⟨_, rfl⟩
  obtain ⟨ks, hkse⟩ : ∃ ks, ks = t.kids := ⟨_, rfl⟩
  rw [← hd] at hr hs ⊢
  rw [← hkse] at hvs hks hals hkl hks1 ⊢
  clear hT hal hd hkse hsz
  obtain ⟨A1, c1, A2, c2, A3, c3, rfl, rfl, rfl, hrr⟩ := hr
  have hr : Rows3 w (Old w) d.cl d.at_ d.st (.slice A1 d.cl.length c1) (.slice A2 d.at_.length c2) (.slice A3 d.st.length c3) := ⟨A1, c1, A2, c2, A3, c3, rfl, rfl, rfl, hrr⟩
  obtain ⟨w1, hw1, hX, hRR, hB0, hs1⟩ := two_new w (sC d (.slice A1 d.cl.length c1) (.slice A2 d.at_.length c2) (.slice A3 d.st.length c3) (.slice A4 ks.length c4)).toArray zs_fs 40 180
  unfold sV sC
  unfold sC zs_fs at hw1
  unfold sC at hX
  unfold zs_fs at hRR
  go_enter Tryz.func112, Tryz.ntmps112
  go_upto_region 2 with fail
  rw [← hw1]
  obtain ⟨X, hXe⟩ : ∃ X, X = w.heap.size := ⟨_, rfl⟩
  rw [← hXe] at hX hRR hs1 ⊢
  have HX := Lib.hid hX
  have HB := Lib.hid hB0
  have HR := Lib.hid (hr.old hB0)
  have HRS := Lib.hid (And.intro hRR (And.intro hXe hs1))
  obtain ⟨x0, x1, x2, x3, x4, x5, x6, x7⟩ := scells (a1 := .slice A1 d.cl.length c1) (a2 := .slice A2 d.at_.length c2) (a3 := .slice A3 d.st.length c3) (k := .slice A4 ks.length c4) hX
  have HKS := Lib.hid (And.intro (show Vs 8 w1 (Old w) A4 ks.length vs from hvs.move (.of_below hB0 fun _ h => h)) (And.intro (hks.move (w' := w1) (.of_below hB0 fun _ h => h)) (fun b (h : Old w b) => show b < w1.heap.size from Nat.lt_of_lt_of_le h hB0.size)))
  clear hw1 hXe hX hRR hB0 hs1 hr hrr hvs hks
  obtain ⟨trf, hti, hz0, hz1, hz2⟩ := info_parts fsz_info
  go_wp2_with fail
  go_loopw [6, 15] (fun s i wx => ∃ k, k ≤ ks.length ∧ i = .int .i64 (k : Nat) ∧ wx.ownsRow w1.heap.size 180 2 s k (Fl.flat2 (sizesT d n (ks.take k))) ∧ Below w1.heap.size w1 wx) (fun _ i _ => ks.length - (intOf i).toNat)
  case atStart => exact ⟨0, Nat.zero_le _, rfl, by rw [List.take_zero, sizesT]; exact World.ownsRow_nil _ _ _ _, Below.refl _ _⟩
  case round =>
    obtain ⟨k, hk, rfl, hown, hb⟩ := hrel
    obtain ⟨v0, hv0⟩ : ∃ v0, v0 = u6 := ⟨_, rfl⟩
    rw [← hv0] at hown ⊢
    clear hv0
    by_cases hlt : k < ks.length
    · have hT := HKS.out.2.1.at_ k hlt
      obtain ⟨A', c', vs', ⟨k1, k2, k3, hv, B1, b1, B2, b2, B3, b3, rfl, rfl, rfl, _⟩, _, _⟩ := IsT.eq.1 hT
      obtain ⟨e, he⟩ : ∃ e, e = (ks[k]).dat := ⟨_, rfl⟩
      obtain ⟨m', hm'⟩ : ∃ v, v = (ks[k]).kids.length := ⟨_, rfl⟩
      rw [← he, ← hm'] at hv
      obtain ⟨b, off, rfl, hbB, d0, d1, d2, d3, d4, d5, d6, d7⟩ := Vs.shown HKS.out.1 k hlt hv (Still.of_below hb HKS.out.2.2)
      rw [hv] at hT
      have i2 : (0 : Int) ≤ (k : Int) := by omega
      have i3 : (k : Int) < (ks.length : Int) := by omega
      obtain ⟨wk, hwk, hK7, hBk, hsk⟩ := one_new wr (sC e (.slice B1 e.cl.length b1) (.slice B2 e.at_.length b2) (.slice B3 e.st.length b3) (.slice A' m' c')).toArray 40
      unfold sC at hwk hK7
      have HTK := Lib.hid (show IsT sK wk (Old wk) ks[k] (sV e (.slice B1 e.cl.length b1) (.slice B2 e.at_.length b2) (.slice B3 e.st.length b3) (.slice A' m' c')) from (hT.move (.of_below (hb.trans (hBk.mono hb.size)) HKS.out.2.2)).weak fun b hb' => Nat.lt_of_lt_of_le (HKS.out.2.2 b hb') (Nat.le_trans hb.size hBk.size))
      have HBW := Lib.hid (hb.trans (hBk.mono hb.size))
      have HRK := Lib.hid (HR.out.old HBW.out)
      obtain ⟨G, hG⟩ : ∃ G, G = givenT d ks[k] n := ⟨_, rfl⟩
      obtain ⟨p, hp⟩ : ∃ p, p = (sizeT ks[k] G).1 := ⟨_, rfl⟩
      obtain ⟨q, hq⟩ : ∃ q, q = (sizeT ks[k] G).2 := ⟨_, rfl⟩
      have HGV := Lib.hid (show ∀ wx, Below wk.heap.size wk wx → Calls Tryz.prog 114 #[.agg #[.int .i64 d.id, .int .i64 d.kind, .string d.tag, .string d.text, .slice A1 d.cl.length c1, .slice A2 d.at_.length c2, .slice A3 d.st.length c3, .slice (some ⟨b, off, none⟩) ks.length c4], .agg #[.int .i64 e.id, .int .i64 e.kind, .string e.tag, .string e.text, .slice B1 e.cl.length b1, .slice B2 e.at_.length b2, .slice B3 e.st.length b3, .slice A' m' c'], .int .i64 n] wx (fun e' w' => e' = .returned (.int .i64 G) ∧ Below wx.heap.size wx w') from fun wx hbx => by
        have h := given_any d _ _ _ (some ⟨b, off, none⟩) ks.length c4 ks[k] _ n wx (HRK.out.old hbx) hs m (hks1 k hlt) (by omega) (hals.at_ k hlt) (HTK.out.keep hbx)
        rw [← hG] at h
        exact h)
      have HSV := Lib.hid (show ∀ wx, Below wk.heap.size wk wx → Calls Tryz.prog 109 #[.agg #[.int .i64 e.id, .int .i64 e.kind, .string e.tag, .string e.text, .slice B1 e.cl.length b1, .slice B2 e.at_.length b2, .slice B3 e.st.length b3, .slice A' m' c'], .int .i64 G] wx (fun e' w' => e' = .returned (.agg #[.int .i64 p, .int .i64 q]) ∧ Below wx.heap.size wx w') from fun wx hbx => by
        have h := hS ks[k] _ G wx (hks1 k hlt) (hals.at_ k hlt) (HTK.out.keep hbx)
        unfold SzPost at h
        rw [← hp, ← hq] at h
        exact h)
      have HPQ := Lib.hid (show Fl.flat2 (sizesT d n (ks.take (k + 1))) = Fl.flat2 (sizesT d n (ks.take k)) ++ [.int .i64 p, .int .i64 q] by
        rw [show ks.take (k + 1) = ks.take k ++ [ks[k]] by simp, sizesT_snoc, ← hG, Fl.flat2_snoc, ← hp, ← hq])
      clear hT hv he hm' hG hp hq
      go_upto_region 5 with fail
      rw [← hwk]
      obtain ⟨K8, hK8e⟩ : ∃ K8, K8 = wr.heap.size := ⟨_, rfl⟩
      rw [← hK8e] at hK7 ⊢
      have HK8 := Lib.hid hK7
      have HX0 := HX
      have HX := Lib.hid (HX0.out.below HBW.out HX0.out.lt)
      have HO := Lib.hid (own_keep hown hBk)
      clear hwk hK7 hBk hsk hK8e d0 d1 d2 d3 d4 d5 d6 d7 hbB hb hown x0 x1 x2 x3 x4 x5 x6 x7
      refine wp_region_tail3 8 _ ?_ ?_ ?_ ?_ (PutR5 wk X K8 d e A1 A2 A3 (some ⟨b, off, none⟩) B1 B2 B3 A' c1 c2 c3 ks.length c4 b1 b2 b3 m' c' v0 n G p q) (fun j v wx wy => PutR5_keep _ _ _ _ _ _ _ _ _ _ _ _ _ _ _ _ _ _ _ _ _ _ _ _ _ _ _ _ j v wx wy) ?_ ?_ ?_
      · kernel_rfl
      · kernel_rfl
      · kernel_rfl
      · kernel_rfl
      · refine ⟨opV rfl fun s wx hb hd => ⟨_, ex_mv rfl (lit_out 6 (by kernel_rfl)), rfl⟩, ?_⟩
        refine ⟨opV rfl fun s wx hb hd => ⟨_, ex_ld rfl (lit_out 8 (by kernel_rfl)) (ld_row ((HK8.out).below hb (HK8.out).lt) Tryz.underlying40 sz_st), rfl⟩, ?_⟩
        refine ⟨opV rfl fun s wx hb hd => ⟨_, ex_ld rfl (lit_out 2 (by kernel_rfl)) (ld_row ((HX.out).below hb (HX.out).lt) Tryz.underlying40 sz_st), rfl⟩, ?_⟩
        refine ⟨opV rfl fun s wx hb hd => ⟨_, ex_ld rfl (lit_out 8 (by kernel_rfl)) (ld_row ((HK8.out).below hb (HK8.out).lt) Tryz.underlying40 sz_st), rfl⟩, ?_⟩
        refine ⟨opV rfl fun s wx hb hd => ⟨_, ex_mv rfl (lit_out 1 (by kernel_rfl)), rfl⟩, ?_⟩
        refine ⟨opC rfl fun s wx hb hd => ⟨_, _, ex_c3 rfl rfl (enters Tryz.func114 (by kernel_rfl) rfl _ _) ((lit_at 2 21 (by kernel_rfl) (by kernel_rfl) (by kernel_rfl)).trans (hd 2 (by kernel_rfl))) ((lit_at 3 22 (by kernel_rfl) (by kernel_rfl) (by kernel_rfl)).trans (hd 3 (by kernel_rfl))) ((lit_at 4 23 (by kernel_rfl) (by kernel_rfl) (by kernel_rfl)).trans (hd 4 (by kernel_rfl))), ?_⟩, ?_⟩
        · refine (HGV.out wx hb).mono ?_
          rintro e1 w1 ⟨rfl, hb'⟩
          exact ⟨_, rfl, rfl, hb'⟩
        refine ⟨opC rfl fun s wx hb hd => ⟨_, _, ex_c2 rfl rfl (enters Tryz.func109 (by kernel_rfl) rfl _ _) ((lit_at 1 20 (by kernel_rfl) (by kernel_rfl) (by kernel_rfl)).trans (hd 1 (by kernel_rfl))) ((lit_at 5 24 (by kernel_rfl) (by kernel_rfl) (by kernel_rfl)).trans (hd 5 (by kernel_rfl))), ?_⟩, ?_⟩
        · refine (HSV.out wx hb).mono ?_
          rintro e1 w1 ⟨rfl, hb'⟩
          exact ⟨_, rfl, rfl, hb'⟩
        refine ⟨opN rfl fun s wx hb hd => ⟨_, _, ex_bsl1 rfl ((lit_at 6 25 (by kernel_rfl) (by kernel_rfl) (by kernel_rfl)).trans (hd 6 (by kernel_rfl))) (bs_fs _ _ wx), NewSl.new hb.size, below_alloc _ _⟩, ?_⟩
        trivial
      rotate_left
      · kernel_rfl
      intro s2 wz hbz hV
      have e1 : s2 0 = v0 := hV 0 (by omega)
      obtain ⟨g3, e7, hg3, hB3⟩ := hV 7 (by omega)
      clear hV
      simp only [List.take_succ_cons, List.take_zero, List.drop_succ_cons, List.drop_zero, litOf, List.map_cons, List.map_nil, Nat.zero_add, Nat.reduceAdd, Act.put, List.setIfInBounds_toArray, List.set_cons_succ, List.set_cons_zero]
      have ho := own_keep HO.out hbz
      have HA := Lib.hid (And.intro ho (And.intro hB3 (HBW.out.trans (hbz.mono HBW.out.size))))
      clear ho hB3 hbz
      refine wpList_append_lies _ rfl _ _ _ rfl w1.heap.size 180 trf _ 2 16 Tryz.underlying205 hti hz0 hz1 hz2 rfl (by decide) v0 k _ e1 HA.out.1 ⟨g3, 0, none⟩ 1 1 [.int .i64 p, .int .i64 q] e7 rfl (news_at HA.out.2.1) (by intro u hu; simp at hu; rcases hu with rfl | rfl <;> rfl) (by omega) (by unfold maxLen; omega) (by omega) HA.out.2.2.size _ rfl ?_
      intro g cap w4 hown hg hat hlt4
      have HS4 := Lib.hid (And.intro hown (HA.out.2.2.grown hg HA.out.2.2.size (fun j hj => (HA.out.1.lt j hj).1)))
      clear hown hg hat hlt4 e1 e7 hg3
      go_wp2_with fail
      go_roundw
      case rel => exact ⟨k + 1, by omega, by go_num, by rw [HPQ.out]; exact HS4.out.1, HS4.out.2⟩
      case measure => simp [intOf]; omega
    · obtain rfl : k = ks.length := by omega
      rw [List.take_length] at hown
      obtain ⟨A9, c9, rfl⟩ := own_form hown
      have HPT := Lib.hid (show putT d n ks = Fl.putSt (wayV d) (eachV d n) (colsV d) (styV d nmGap) (sizesT d n ks) from rfl)
      have HZL := Lib.hid (sizesT_len d n ks)
      obtain ⟨zs, hzs⟩ : ∃ zs, zs = sizesT d n ks := ⟨_, rfl⟩
      rw [← hzs] at hown HPT HZL
      have HBR := Lib.hid (HB.out.trans (hb.mono HB.out.size))
      have HXR := Lib.hid (HX.out.below hb HX.out.lt)
      have HRR := Lib.hid (HR.out.old hb)
      have HQR := Lib.hid (And.intro (HRS.out.1.below hb HRS.out.1.lt) HRS.out.2)
      have HZR := Lib.hid (show Fl.Pairs wr wr.heap.size A9 ks.length zs from Fl.Pairs.of_own hown HZL.out)
      clear x0 x1 x2 x3 x4 x5 x6 x7 HX HB HR HRS hb hlt hk HKS hown hzs hks1
      have HX := HXR
      have HB := HBR
      have HR := HRR
      clear HXR HBR HRR
      obtain ⟨x0, x1, x2, x3, x4, x5, x6, x7⟩ := scells (a1 := .slice A1 d.cl.length c1) (a2 := .slice A2 d.at_.length c2) (a3 := .slice A3 d.st.length c3) (k := .slice A4 ks.length c4) HX.out
      go_wp2_with fail
      have hc2 := ask_any d (.slice A1 d.cl.length c1) (.slice A2 d.at_.length c2) (.slice A3 d.st.length c3) A4 ks.length c4 nmGap wr HR.out hs
      unfold sV sC at hc2
      refine hc2.mono ?_
      clear hc2
      rintro e2 w2 ⟨rfl, hb2⟩
      have HQb := Lib.hid (And.intro (HQR.out.1.below hb2 HQR.out.1.lt) HQR.out.2)
      have HZb := Lib.hid ((HZR.out.below hb2).more hb2.size)
      have HXb := Lib.hid (HX.out.below hb2 HX.out.lt)
      have HBb := Lib.hid (HB.out.trans (hb2.mono HB.out.size))
      have HRb := Lib.hid (HR.out.old hb2)
      clear HX HB HR hb2 x0 x1 x2 x3 x4 x5 x6 x7
      clear HQR HZR
      have HQR := HQb
      have HZR := HZb
      clear HQb HZb
      have HX := HXb
      have HB := HBb
      have HR := HRb
      clear HXb HBb HRb
      obtain ⟨x0, x1, x2, x3, x4, x5, x6, x7⟩ := scells (a1 := .slice A1 d.cl.length c1) (a2 := .slice A2 d.at_.length c2) (a3 := .slice A3 d.st.length c3) (k := .slice A4 ks.length c4) HX.out
      obtain ⟨gp, hgp⟩ : ∃ gp, gp = styV d nmGap := ⟨_, rfl⟩
      rw [← hgp] at HPT ⊢
      clear hgp
      go_wp2_with fail
      have hc3 := way_any d (.slice A1 d.cl.length c1) (.slice A2 d.at_.length c2) (.slice A3 d.st.length c3) A4 ks.length c4 w2 HR.out hs
      unfold sV sC at hc3
      refine hc3.mono ?_
      clear hc3
      rintro e3 w3 ⟨rfl, hb3⟩
      have HQb := Lib.hid (And.intro (HQR.out.1.below hb3 HQR.out.1.lt) HQR.out.2)
      have HZb := Lib.hid ((HZR.out.below hb3).more hb3.size)
      have HXb := Lib.hid (HX.out.below hb3 HX.out.lt)
      have HBb := Lib.hid (HB.out.trans (hb3.mono HB.out.size))
      have HRb := Lib.hid (HR.out.old hb3)
      clear HX HB HR hb3 x0 x1 x2 x3 x4 x5 x6 x7
      clear HQR HZR
      have HQR := HQb
      have HZR := HZb
      clear HQb HZb
      have HX := HXb
      have HB := HBb
      have HR := HRb
      clear HXb HBb HRb
      obtain ⟨x0, x1, x2, x3, x4, x5, x6, x7⟩ := scells (a1 := .slice A1 d.cl.length c1) (a2 := .slice A2 d.at_.length c2) (a3 := .slice A3 d.st.length c3) (k := .slice A4 ks.length c4) HX.out
      obtain ⟨y, hy⟩ : ∃ y, y = wayV d := ⟨_, rfl⟩
      rw [← hy] at HPT ⊢
      have HWY := Lib.hid hy
      clear hy
      have hEV := show eachV d n = if wayV d = 2 then colV d n else n from rfl
      rw [← HWY.out] at hEV
      have HEV := Lib.hid hEV
      clear hEV
      by_cases h1 : y = 1
      · have HE := Lib.hid (show putT d n ks = Fl.P14.penAt (Fl.P14.least gp) (Fl.bWrap zs) (Fl.nWrap (Fl.P14.least n)) ks.length by
          rw [HPT.out, Fl.putSt, if_neg (by omega), if_pos h1, HEV.out, if_neg (by omega), HZL.out])
        subst h1
        go_wp2_with fail
        refine (Fl.wrap_any n gp A9 ks.length c9 zs w3 HZR.out (by omega)).mono ?_
        rintro e9 w9 ⟨A', c', rfl, hown, hb9⟩
        obtain ⟨S, hS9⟩ : ∃ S, S = putT d n ks := ⟨_, rfl⟩
        rw [← HE.out, ← hS9] at hown ⊢
        have HSE := Lib.hid hS9
        clear HE hS9
        have hr := HQR.out.1.below hb9 HQR.out.1.lt
        have r0 := hr.cell 0
        have r1 := hr.cell 1
        have r2 := hr.frozen 0
        have r3 := hr.frozen 1
        have hd := Fl.RowsPost.cell (w := w) (R := X + 1) HB.out (by have := HQR.out.2.1; omega) HQR.out.1 hown hb9 (.int .i64 S.W) (.int .i64 (Fl.P1.add S.y S.h))
        have HD := Lib.hid hd
        clear hd hown hb9 hr x0 x1 x2 x3 x4 x5 x6 x7
        go_wp2_with fail
        exact bodyPost_ret (v := .tuple #[.slice A' ks.length c', .agg #[.int .i64 S.W, .int .i64 (Fl.P1.add S.y S.h)]]) (by simp [results, Tryz.results112, go_sem, r0, r1]) rfl ⟨A', c', by rw [← HSE.out], by rw [← HSE.out]; exact HD.out.1, HD.out.2⟩
      · have i1 : (y == 1) = false := by simp [h1]
        by_cases h2 : y = 2
        · have HEV2 := Lib.hid (show eachV d n = colV d n by rw [HEV.out, if_pos h2])
          have HE := Lib.hid (show putT d n ks = Fl.P14.penAt (Fl.P14.least gp) (Fl.bGrid (Fl.P14.least (colV d n)) zs) (Fl.nGrid (max 1 (min (colsV d) 64))) ks.length by
            rw [HPT.out, Fl.putSt, if_neg (by omega), if_neg h1, HEV2.out, HZL.out])
          subst h2
          clear h1
          go_wp2_with fail
          have hc4 := column_any d (.slice A1 d.cl.length c1) (.slice A2 d.at_.length c2) (.slice A3 d.st.length c3) A4 ks.length c4 n w3 HR.out hs
          unfold sV sC at hc4
          refine hc4.mono ?_
          clear hc4
          rintro e4 w4 ⟨rfl, hb4⟩
          have HQb := Lib.hid (And.intro (HQR.out.1.below hb4 HQR.out.1.lt) HQR.out.2)
          have HZb := Lib.hid ((HZR.out.below hb4).more hb4.size)
          have HXb := Lib.hid (HX.out.below hb4 HX.out.lt)
          have HBb := Lib.hid (HB.out.trans (hb4.mono HB.out.size))
          have HRb := Lib.hid (HR.out.old hb4)
          clear HX HB HR hb4 x0 x1 x2 x3 x4 x5 x6 x7
          clear HQR HZR
          have HQR := HQb
          have HZR := HZb
          clear HQb HZb
          have HX := HXb
          have HB := HBb
          have HR := HRb
          clear HXb HBb HRb
          obtain ⟨x0, x1, x2, x3, x4, x5, x6, x7⟩ := scells (a1 := .slice A1 d.cl.length c1) (a2 := .slice A2 d.at_.length c2) (a3 := .slice A3 d.st.length c3) (k := .slice A4 ks.length c4) HX.out
          obtain ⟨cc, hcc⟩ : ∃ cc, cc = colV d n := ⟨_, rfl⟩
          obtain ⟨cs, hcs⟩ : ∃ cs, cs = colsV d := ⟨_, rfl⟩
          rw [← hcc, ← hcs] at HE ⊢
          clear hcc hcs
          go_wp2_with fail
          refine (Fl.grid_any cs cc gp A9 ks.length c9 zs w4 HZR.out (by omega)).mono ?_
          rintro e9 w9 ⟨A', c', rfl, hown, hb9⟩
          obtain ⟨S, hS9⟩ : ∃ S, S = putT d n ks := ⟨_, rfl⟩
          rw [← HE.out, ← hS9] at hown ⊢
          have HSE := Lib.hid hS9
          clear HE hS9
          have hr := HQR.out.1.below hb9 HQR.out.1.lt
          have r0 := hr.cell 0
          have r1 := hr.cell 1
          have r2 := hr.frozen 0
          have r3 := hr.frozen 1
          have hd := Fl.RowsPost.cell (w := w) (R := X + 1) HB.out (by have := HQR.out.2.1; omega) HQR.out.1 hown hb9 (.int .i64 S.W) (.int .i64 (Fl.P1.add S.y S.h))
          have HD := Lib.hid hd
          clear hd hown hb9 hr x0 x1 x2 x3 x4 x5 x6 x7
          go_wp2_with fail
          exact bodyPost_ret (v := .tuple #[.slice A' ks.length c', .agg #[.int .i64 S.W, .int .i64 (Fl.P1.add S.y S.h)]]) (by simp [results, Tryz.results112, go_sem, r0, r1]) rfl ⟨A', c', by rw [← HSE.out], by rw [← HSE.out]; exact HD.out.1, HD.out.2⟩
        · have HE := Lib.hid (show putT d n ks = Fl.P14.penAt (Fl.P14.least gp) (Fl.bStack zs) Fl.nStack ks.length by
            have h0 : y = 0 := by
              have := HWY.out
              rw [this, wayV] at h1 h2 ⊢
              split at h1
              · rename_i h; rw [if_pos h] at h2; rcases h with h | h <;> omega
              · rename_i h; rw [if_neg h]
            rw [HPT.out, Fl.putSt, if_pos h0, HZL.out])
          have i2 : (y == 2) = false := by simp [h2]
          clear h1 h2
          go_wp2_with fail
          refine (Fl.stack_any gp A9 ks.length c9 zs w3 HZR.out (by omega)).mono ?_
          rintro e9 w9 ⟨A', c', rfl, hown, hb9⟩
          obtain ⟨S, hS9⟩ : ∃ S, S = putT d n ks := ⟨_, rfl⟩
          rw [← HE.out, ← hS9] at hown ⊢
          have HSE := Lib.hid hS9
          clear HE hS9
          have hr := HQR.out.1.below hb9 HQR.out.1.lt
          have r0 := hr.cell 0
          have r1 := hr.cell 1
          have r2 := hr.frozen 0
          have r3 := hr.frozen 1
          have hd := Fl.RowsPost.cell (w := w) (R := X + 1) HB.out (by have := HQR.out.2.1; omega) HQR.out.1 hown hb9 (.int .i64 S.W) (.int .i64 (Fl.P1.add S.y S.h))
          have HD := Lib.hid hd
          clear hd hown hb9 hr x0 x1 x2 x3 x4 x5 x6 x7
          go_wp2_with fail
          exact bodyPost_ret (v := .tuple #[.slice A' ks.length c', .agg #[.int .i64 S.W, .int .i64 (Fl.P1.add S.y S.h)]]) (by simp [results, Tryz.results112, go_sem, r0, r1]) rfl ⟨A', c', by rw [← HSE.out], by rw [← HSE.out]; exact HD.out.1, HD.out.2⟩

end Go.Proofs.YtaalhglooipnaaaGreat
namespace Go.Proofs.YtaalhglooipnaaaGreat
open Go.RowKit Go.Maps Go.WideMaps

/-- What is to be known of a map's type, its keys, its elements. -/
structure MapKit (κ V : Type) where
  k : TypeId
  e : TypeId
  t : TypeId
  und : Tryz.prog.underlying t = some (.map k e)
  law : Keyed Tryz.prog k
  kv : κ → Value
  kl : κ → Lit
  okk : κ → Prop
  hkey : ∀ x, okk x → keyOf Tryz.prog k (kv x) = some (kl x)
  inj : ∀ x y, okk x → okk y → kl x = kl y → x = y
  R : Value → Option (DataW Unit × List MemPlace)
  code : V → DataW Unit
  vv : V → Value
  okv : V → Prop
  hR : ∀ v, okv v → R (vv v) = some (code v, [])
  hinv : ∀ v u ps, okv u → R v = some (code u, ps) → v = vv u
  z : V
  okz : okv z
  zero : ∀ w, (zeroValue e).run Tryz.prog w = .ok (vv z) w

section
variable {κ V : Type} (K : MapKit κ V)
/-- Block M is a map that reads as f. -/
def MapKit.Own (w : World) (M n : Nat) (f : κ → V) : Prop :=
  ∃ D : DataW Unit, w.ownsMap Tryz.prog K.k K.R M n D ∧ ∀ x, K.okk x → K.okv (f x) ∧ D.atKey (K.kl x) (K.code K.z) = K.code (f x)
variable {K} {w w' : World} {M n : Nat} {f : κ → V}
theorem MapKit.isMap {D : DataW Unit} {k : TypeId} {R : Value → Option (DataW Unit × List MemPlace)} (h : w.ownsMap Tryz.prog k R M n D) : IsMap D := by
  obtain ⟨es, c, _, _, _, rfl⟩ := h
  exact ⟨_, rfl⟩
theorem MapKit.Own.lt (h : K.Own w M n f) : M < w.heap.size := by
  obtain ⟨D, h, _⟩ := h
  exact World.ownsMap.lt h
theorem MapKit.made (K : MapKit κ V) (w : World) : K.Own (w.alloc (.map #[] 0)) w.heap.size 0 fun _ => K.z :=
  ⟨.map [], World.ownsMap_made w _ _ _, fun x _ => ⟨K.okz, atKey_of_not_has (by rfl) _⟩⟩
theorem MapKit.Own.kept {row : Option Nat} (h : K.Own w M n f) (hg : w.grownBy w' row) (hne : some M ≠ row) : K.Own w' M n f := by
  obtain ⟨D, h1, h2⟩ := h
  exact ⟨D, World.ownsMap.kept h1 hg hne, h2⟩
theorem MapKit.Own.keep (h : K.Own w M n f) (hb : Below w.heap.size w w') : K.Own w' M n f := h.kept (only_of_below hb none) (by simp)
theorem MapKit.Own.mono (h : K.Own w M n f) {m : Nat} (hm : n ≤ m) : K.Own w M m f := by
  obtain ⟨D, h1, h2⟩ := h
  exact ⟨D, World.ownsMap.mono h1 hm, h2⟩
theorem MapKit.Own.okv (h : K.Own w M n f) (x : κ) (hx : K.okk x) : K.okv (f x) := by
  obtain ⟨D, h1, h2⟩ := h
  exact (h2 x hx).1
theorem MapKit.Own.look (h : K.Own w M n f) (x : κ) (hx : K.okk x) : (Instr.lookup K.t (.map (some M)) (K.kv x) false).run Tryz.prog w = .ok (K.vv (f x)) w := by
  obtain ⟨D, h1, h2⟩ := h
  obtain ⟨v, ps, hrun, hv⟩ := World.ownsMap.lookup h1 K.law K.und (K.zero w) (K.hR K.z K.okz) (K.hkey x hx)
  rw [(h2 x hx).2] at hv
  rw [hrun, K.hinv _ _ _ (h2 x hx).1 hv]
/-- At one key another element. -/
def setF [DecidableEq κ] (f : κ → V) (x : κ) (v : V) : κ → V := fun y => if y = x then v else f y
theorem setF_same [DecidableEq κ] (f : κ → V) (x : κ) (v : V) : setF f x v x = v := if_pos rfl
theorem setF_other [DecidableEq κ] (f : κ → V) {x y : κ} (v : V) (h : y ≠ x) : setF f x v y = f y := if_neg h
theorem MapKit.Own.update [DecidableEq κ] (h : K.Own w M n f) (x : κ) (hx : K.okk x) (hn : n < maxLen) (v : V) (hv : K.okv v) :
    ∃ w', (Instr.mapUpdate K.t (.map (some M)) (K.kv x) (K.vv v)).run Tryz.prog w = .ok () w' ∧ K.Own w' M (n + 1) (setF f x v) ∧ w.grownBy w' (some M) := by
  obtain ⟨D, h1, h2⟩ := h
  obtain ⟨w', hrun, h3, h4⟩ := World.ownsMap.update h1 K.law K.und hn (K.hkey x hx) (K.hR v hv)
  refine ⟨w', hrun, ⟨_, h3, fun y hy => ?_⟩, h4⟩
  by_cases e : y = x
  · subst e
    rw [setF_same, atKey_put_same (MapKit.isMap h1) (K.law.key (K.hkey y hy))]
    exact ⟨hv, rfl⟩
  · rw [setF_other _ _ e, atKey_put_other (fun e2 => e (K.inj y x hy hx e2))]
    exact h2 y hy
theorem MapKit.blk_ne {t : TypeId} {cs : Array Value} {g : Nat} (h : Blk w g t cs) (hM : K.Own w M n f) : g ≠ M := by
  rintro rfl
  obtain ⟨D, ⟨es, c, h1, _⟩, _⟩ := hM
  unfold Blk at h
  rw [h] at h1
  cases h1
theorem MapKit.own_ne {base : Nat} {e : TypeId} {size m : Nat} {v : Value} {xs : List Value} (h : w.ownsRow base e size v m xs) (hM : K.Own w M n f) : v.ownBlock ≠ some M := by
  rcases h.2 with ⟨rfl, _⟩ | ⟨g', cap, cur, rfl, _, hh, _⟩
  · simp [Value.ownBlock]
  · intro he
    have : g' = M := by simpa [Value.ownBlock] using he
    subst this
    obtain ⟨D, ⟨es, c, h1, _⟩, _⟩ := hM
    rw [hh] at h1
    cases h1
end

/-! ### map[int]int -/
theorem kl_int_inj (x y : Int) (h : Lit.int .i64 x = Lit.int .i64 y) : x = y := by injection h
theorem wf_small0 (n : Nat) (h : n ≤ 1000) : (Lit.int .i64 (n : Nat)).wf = true := by
  simp only [Lit.wf, Bool.and_eq_true, decide_eq_true_eq]
  exact ⟨by simp [IntKind.min, IntKind.bits, IntKind.signed], by simp [IntKind.max, IntKind.bits, IntKind.signed]; omega⟩
end Go.Proofs.YtaalhglooipnaaaGreat
namespace Go.Proofs.YtaalhglooipnaaaGreat
open Go.RowKit RT Go.Maps Go.WideMaps

/-! ### map[int]*Node -/
def pv : Option Nat → Value
  | none => .pointer none
  | some g => .pointer (some ⟨g, 0, none⟩)
def pR : Value → Option (DataW Unit × List MemPlace)
  | .pointer none => some (.lit (.int .i64 0), [])
  | .pointer (some ⟨g, 0, none⟩) => some (.lit (.int .i64 ((g : Int) + 1)), [])
  | _ => none
def pCode : Option Nat → DataW Unit
  | none => .lit (.int .i64 0)
  | some g => .lit (.int .i64 ((g : Int) + 1))
theorem pR_inv (v : Value) (u : Option Nat) (ps : List MemPlace) (h : pR v = some (pCode u, ps)) : v = pv u := by
  unfold pR at h
  split at h
  · cases u with
    | none => rfl
    | some g =>
      simp only [pCode, Option.some.injEq, Prod.mk.injEq, DataW.lit.injEq, Lit.int.injEq, true_and] at h
      omega
  · rename_i g
    cases u with
    | none =>
      simp only [pCode, Option.some.injEq, Prod.mk.injEq, DataW.lit.injEq, Lit.int.injEq, true_and] at h
      omega
    | some g' =>
      simp only [pCode, Option.some.injEq, Prod.mk.injEq, DataW.lit.injEq, Lit.int.injEq, true_and] at h
      have : g = g' := by omega
      rw [this]; rfl
  · cases h
noncomputable def ndKit : MapKit Int (Option Nat) where
  k := 3
  e := 95
  t := 92
  und := Tryz.underlying92
  law := int_keyed Tryz.underlying3
  kv x := .int .i64 x
  kl x := .int .i64 x
  okk x := (Lit.int .i64 x).wf = true
  hkey x h := keyOf_int_mk Tryz.underlying3 h
  inj x y _ _ h := kl_int_inj x y h
  R := pR
  code := pCode
  vv := pv
  okv _ := True
  hR v _ := by cases v <;> rfl
  hinv v u ps _ h := pR_inv v u ps h
  z := none
  okz := trivial
  zero w := by kernel_rfl
theorem wf_int (x : Int) (h : -1000000 ≤ x) (h2 : x ≤ 1000000) : (Lit.int .i64 x).wf = true := by
  simp only [Lit.wf, Bool.and_eq_true, decide_eq_true_eq]
  exact ⟨by simp [IntKind.min, IntKind.bits, IntKind.signed]; omega, by simp [IntKind.max, IntKind.bits, IntKind.signed]; omega⟩

theorem MapKit.Own.len {κ V : Type} {K : MapKit κ V} {w : World} {M n : Nat} {f : κ → V} (h : K.Own w M n f) : ∃ s : Nat, s ≤ n ∧ ∀ ty, (Builtin.len_ #[K.t] ty #[.map (some M)]).run Tryz.prog w = .ok (.int .i64 (s : Nat)) w := by
  obtain ⟨D, h1, _⟩ := h
  exact ⟨Maps.size D, World.ownsMap.size_le h1, fun ty => World.ownsMap.len h1 K.und ty⟩
theorem MapKit.Own.look2 {κ V : Type} {K : MapKit κ V} {w : World} {M n : Nat} {f : κ → V} (h : K.Own w M n f) (x : κ) (hx : K.okk x) (hne : K.code (f x) ≠ K.code K.z) : (Instr.lookup K.t (.map (some M)) (K.kv x) true).run Tryz.prog w = .ok (.tuple #[K.vv (f x), .bool true]) w := by
  obtain ⟨D, h1, h2⟩ := h
  obtain ⟨es, clock, hb, F, _, rfl⟩ := h1
  rcases Maps.fit_look true K.law K.und (K.zero w) hb F (K.hkey x hx) with ⟨_, _, hat⟩ | ⟨e0, y, _, _, hrun, hRv, hat, _⟩
  · exfalso
    have := (h2 x hx).2
    rw [hat] at this
    exact hne this.symm
  · have h3 := (h2 x hx).2
    rw [hat] at h3
    rw [hrun]
    obtain ⟨y1, y2⟩ := y
    simp only at h3
    subst h3
    rw [K.hinv _ _ _ (h2 x hx).1 hRv]
    rfl

/-! ### Nodes -/
structure ND where
  kind : Int
  tag : ByteArray
  text : ByteArray
  cl : List ByteArray
  at_ : List St.Pr
  st : List Pr
  par : Int
  kids : List Int
def nC (i : Nat) (d : ND) (a1 a2 a3 k : Value) : List Value := [.int .i64 i, .int .i64 d.kind, .string d.tag, .string d.text, a1, a2, a3, .int .i64 d.par, k]
def NodeI (B : Nat) (w : World) (i : Nat) (d : ND) (g : Nat) (kv : Value) : Prop :=
  B ≤ g ∧ (∃ a1 a2 a3, Blk w g 97 (nC i d a1 a2 a3 kv).toArray ∧ RowS B d.cl a1 w ∧ RowA 90 B d.at_ a2 w ∧ RowP 105 B d.st a3 w) ∧ w.ownsRow B 3 1 kv d.kids.length (nums d.kids)
def mapF (n : Nat) (gs : Nat → Nat) : Int → Option Nat := fun x => if 0 ≤ x ∧ x < n then some (gs x.toNat) else none
structure DomI (B : Nat) (w : World) (D M n : Nat) (nd : Nat → ND) (gs : Nat → Nat) (kvs : Nat → Value) : Prop where
  dB : B ≤ D
  dom : Blk w D 94 #[.int .i64 100, .int .i64 n, .map (some M)]
  mB : B ≤ M
  map : ndKit.Own w M n (mapF n gs)
  node : ∀ i, i < n → NodeI B w i (nd i) (gs i) (kvs i)
  gne : ∀ i j, i < n → j < n → i ≠ j → gs i ≠ gs j
  kne : ∀ i j, i < n → j < n → i ≠ j → (kvs i).ownBlock = none ∨ (kvs i).ownBlock ≠ (kvs j).ownBlock
/-- A Log's own blocks stay. -/
def KpT (w w' : World) : Prop := ∀ g t cs, (t = 53 ∨ t = 142 ∨ t = 40) → Blk w g t cs → Blk w' g t cs
theorem KpT.refl (w : World) : KpT w w := fun _ _ _ _ h => h
theorem KpT.trans {a b c : World} (h : KpT a b) (h' : KpT b c) : KpT a c := fun g t cs ht hb => h' g t cs ht (h g t cs ht hb)
theorem KpT.of_below {w w' : World} (h : Below w.heap.size w w') : KpT w w' := fun _ _ _ _ hb => hb.below h hb.lt
theorem KpT.of_chg {T : Nat → Prop} {w w' : World} (h : Chg T w w') (hT : ∀ b t cs, T b → Blk w b t cs → t ≠ 53 ∧ t ≠ 142 ∧ t ≠ 40) : KpT w w' := fun g t cs ht hb => h.blk hb fun hTg => by
  obtain ⟨h1, h2, h3⟩ := hT g t cs hTg hb
  rcases ht with e | e | e
  · exact h1 e
  · exact h2 e
  · exact h3 e

section
variable {B : Nat} {w w1 w2 : World} {D M n i : Nat} {nd : Nat → ND} {gs : Nat → Nat} {kvs : Nat → Value} {T : Nat → Prop}
theorem MapKit.Own.chg {κ V : Type} {K : MapKit κ V} {M n : Nat} {f : κ → V} (h : K.Own w M n f) (hc : Chg T w w1) (hT : ¬ T M) : K.Own w1 M n f := by
  obtain ⟨D, ⟨es, c, h1, h2⟩, h3⟩ := h
  exact ⟨D, ⟨es, c, (hc.block M (Array.getElem?_eq_some_iff.1 h1).1 hT).trans h1, h2⟩, h3⟩
theorem NodeI.chg {d : ND} {g : Nat} {kv : Value} (h : NodeI B w i d g kv) (hc : Chg T w w1) (h0 : ¬ T g) (h1 : ∀ b t cs, T b → Blk w b t cs → t ≠ 9 ∧ t ≠ 90 ∧ t ≠ 105) (h2 : ∀ b, kv.ownBlock = some b → ¬ T b) : NodeI B w1 i d g kv := by
  obtain ⟨hB, ⟨a1, a2, a3, hN, r1, r2, r3⟩, hk⟩ := h
  exact ⟨hB, ⟨a1, a2, a3, hc.blk hN h0, r1.chg hc fun b cs _ hb ht => (h1 b _ cs ht hb).1 rfl, r2.chg hc fun b cs _ hb ht => (h1 b _ cs ht hb).2.1 rfl, r3.chg hc fun b cs _ hb ht => (h1 b _ cs ht hb).2.2 rfl⟩, hc.own hk h2⟩
/-- What changes only blocks that are none of the Dom's. -/
theorem DomI.chg (h : DomI B w D M n nd gs kvs) (hc : Chg T w w1) (hT : ∀ b, T b → ∃ t cs, Blk w b t cs ∧ (t = 53 ∨ t = 142)) : DomI B w1 D M n nd gs kvs := by
  have hty : ∀ b t cs, T b → Blk w b t cs → t = 53 ∨ t = 142 := by
    intro b t cs ht hb
    obtain ⟨t', cs', hb', hh⟩ := hT b ht
    by_cases e : t = t'
    · rw [e]; exact hh
    · exact absurd rfl (Blk.ne_ hb hb' e)
  refine ⟨h.dB, hc.blk h.dom fun ht => ?_, h.mB, h.map.chg hc fun ht => ?_, fun i hi => (h.node i hi).chg hc (fun ht => ?_) (fun b t cs ht hb => ?_) (fun b hb ht => ?_), h.gne, h.kne⟩
  · rcases hty D _ _ ht h.dom with e | e <;> exact absurd e (by decide)
  · obtain ⟨t, cs, hb, _⟩ := hT M ht
    exact MapKit.blk_ne hb h.map rfl
  · obtain ⟨_, ⟨_, _, _, hN, _⟩, _⟩ := h.node i hi
    rcases hty _ _ _ ht hN with e | e <;> exact absurd e (by decide)
  · rcases hty b t cs ht hb with e | e <;> subst e <;> exact ⟨by decide, by decide, by decide⟩
  · obtain ⟨_, _, hk⟩ := h.node i hi
    obtain ⟨t, cs, hb2, hh⟩ := hT b ht
    refine own_blk_ne hk hb2 ?_ hb
    rcases hh with e | e <;> subst e <;> decide
theorem DomI.keep (h : DomI B w D M n nd gs kvs) (hb : Below w.heap.size w w1) : DomI B w1 D M n nd gs kvs :=
  h.chg (T := fun _ => False) (.of_below hb fun _ h _ => h) fun _ h => h.elim
theorem DomI.bnd (h : DomI B w D M n nd gs kvs) : B ≤ w.heap.size := Nat.le_trans h.dB (Nat.le_of_lt h.dom.lt)
theorem NodeI.lt {d : ND} {g : Nat} {kv : Value} (h : NodeI B w i d g kv) : g < w.heap.size := by
  obtain ⟨_, ⟨_, _, _, hN, _⟩, _⟩ := h
  exact hN.lt
/-- A node is changed, perhaps its row of kids, too. -/
theorem DomI.upd (h : DomI B w D M n nd gs kvs) (hi : i < n) (hb : Below w.heap.size w w1) (hc : Chg (fun b => b = gs i ∨ (kvs i).ownBlock = some b) w1 w2) {d' : ND} {a1 a2 a3 kv : Value}
    (hN : Blk w2 (gs i) 97 (nC i d' a1 a2 a3 kv).toArray) (h1 : RowS B d'.cl a1 w2) (h2 : RowA 90 B d'.at_ a2 w2) (h3 : RowP 105 B d'.st a3 w2) (hk : w2.ownsRow B 3 1 kv d'.kids.length (nums d'.kids))
    (hkv : kv.ownBlock = (kvs i).ownBlock ∨ ∃ g0, kv.ownBlock = some g0 ∧ w.heap.size ≤ g0) : DomI B w2 D M n (setF nd i d') gs (setF kvs i kv) ∧ Below B w w2 ∧ KpT w w2 := by
  have hz := h.keep hb
  obtain ⟨hgB, ⟨b1, b2, b3, hgN, _⟩, hgk⟩ := hz.node i hi
  have hty : ∀ b t cs, (b = gs i ∨ (kvs i).ownBlock = some b) → Blk w1 b t cs → t = 97 ∨ t = 3 := by
    rintro b t cs (rfl | hb) hB
    · left
      by_cases e : t = 97
      · exact e
      · exact absurd rfl (Blk.ne_ hB hgN e)
    · right
      by_cases e : t = 3
      · exact e
      · exact absurd hb (own_blk_ne hgk hB (Ne.symm e))
  have hTB : ∀ b, (b = gs i ∨ (kvs i).ownBlock = some b) → B ≤ b := by
    rintro b (rfl | hb)
    · exact hgB
    · exact (hgk.lt b hb).1
  have hlt : ∀ j, j < n → ∀ b, (kvs j).ownBlock = some b → b < w.heap.size := fun j hj b hb => ((h.node j hj).2.2.lt b hb).2
  refine ⟨⟨h.dB, hc.blk hz.dom fun ht => ?_, h.mB, hz.map.chg hc fun ht => ?_, fun j hj => ?_, h.gne, fun j k hj hk hjk => ?_⟩, (hb.mono h.bnd).trans (hc.below (Nat.le_trans h.bnd hb.size) hTB), (KpT.of_below hb).trans (.of_chg hc fun b t cs ht hB => by rcases hty b t cs ht hB with e | e <;> subst e <;> exact ⟨by decide, by decide, by decide⟩)⟩
  · rcases hty D _ _ ht hz.dom with e | e <;> exact absurd e (by decide)
  · rcases ht with e | e
    · exact MapKit.blk_ne (e ▸ hgN) hz.map rfl
    · exact MapKit.own_ne hgk hz.map e
  · by_cases e : j = i
    · subst e
      rw [setF_same, setF_same]
      exact ⟨hgB, ⟨a1, a2, a3, hN, h1, h2, h3⟩, hk⟩
    · rw [setF_other _ _ e, setF_other _ _ e]
      refine (hz.node j hj).chg hc (fun ht => ?_) (fun b t cs ht hB => by rcases hty b t cs ht hB with e | e <;> subst e <;> exact ⟨by decide, by decide, by decide⟩) (fun b hb2 ht => ?_)
      · rcases ht with e2 | e2
        · exact h.gne j i hj hi e e2
        · obtain ⟨_, ⟨_, _, _, hjN, _⟩, _⟩ := hz.node j hj
          exact own_blk_ne hgk hjN (by decide) e2
      · rcases ht with e2 | e2
        · obtain ⟨_, _, hjk⟩ := hz.node j hj
          exact own_blk_ne hjk (e2 ▸ hgN) (by decide) hb2
        · rcases h.kne j i hj hi e with h0 | h0
          · rw [hb2] at h0; cases h0
          · exact h0 (by rw [hb2, e2])
  · by_cases e1 : j = i
    · subst e1
      rw [setF_same, setF_other _ _ (Ne.symm hjk)]
      rcases hkv with e | ⟨g0, e, hg0⟩
      · rw [e]; exact h.kne j k hj hk hjk
      · right
        rw [e]
        intro e2
        have := hlt k hk g0 e2.symm
        omega
    · rw [setF_other _ _ e1]
      by_cases e2 : k = i
      · subst e2
        rw [setF_same]
        rcases hkv with e | ⟨g0, e, hg0⟩
        · rw [e]; exact h.kne j k hj hk hjk
        · cases hq : (kvs j).ownBlock with
          | none => exact .inl rfl
          | some b =>
            right
            rw [e]
            intro e3
            have := hlt j hj b hq
            simp only [Option.some.injEq] at e3
            omega
      · rw [setF_other _ _ e2]
        exact h.kne j k hj hk hjk
theorem DomI.look (h : DomI B w D M n nd gs kvs) (hn : n ≤ 1000) (i : Nat) (hi : i < n) : (Instr.lookup 92 (.map (some M)) (.int .i64 (i : Nat)) false).run Tryz.prog w = .ok (.pointer (some ⟨gs i, 0, none⟩)) w := by
  have h1 := h.map.look (i : Int) (wf_int _ (by omega) (by omega))
  have h2 : mapF n gs (i : Int) = some (gs i) := by rw [mapF, if_pos ⟨by omega, by omega⟩]; rfl
  rw [h2] at h1
  exact h1
theorem DomI.look2 (h : DomI B w D M n nd gs kvs) (hn : n ≤ 1000) (i : Nat) (hi : i < n) : (Instr.lookup 92 (.map (some M)) (.int .i64 (i : Nat)) true).run Tryz.prog w = .ok (.tuple #[.pointer (some ⟨gs i, 0, none⟩), .bool true]) w := by
  have h2 : mapF n gs (i : Int) = some (gs i) := by rw [mapF, if_pos ⟨by omega, by omega⟩]; rfl
  have h1 := h.map.look2 (i : Int) (wf_int _ (by omega) (by omega)) (by
    rw [h2]
    show DataW.lit (.int .i64 ((gs i : Int) + 1)) ≠ DataW.lit (.int .i64 0)
    intro e
    simp only [DataW.lit.injEq, Lit.int.injEq, true_and] at e
    omega)
  rw [h2] at h1
  exact h1
theorem DomI.miss (h : DomI B w D M n nd gs kvs) : (Instr.lookup 92 (.map (some M)) (.int .i64 (-1)) false).run Tryz.prog w = .ok (.pointer none) w := by
  have h1 := h.map.look (-1 : Int) (wf_int _ (by omega) (by omega))
  have h2 : mapF n gs (-1) = none := by rw [mapF, if_neg (by omega)]
  rw [h2] at h1
  exact h1
end

/-! ### A Log -/
def LogI (B : Nat) (w : World) (L D M n : Nat) (nd : Nat → ND) (gs : Nat → Nat) (kvs : Nat → Value) (no : Nat) : Prop :=
  DomI B w D M n nd gs kvs ∧ B ≤ L ∧ ∃ ov xs, Blk w L 53 #[.pointer (some ⟨D, 0, none⟩), ov] ∧ w.ownsRow B 142 6 ov no xs
theorem KpT.own {w w' : World} (h : KpT w w') {B n sz : Nat} {v : Value} {xs : List Value} (ho : w.ownsRow B 142 sz v n xs) : w'.ownsRow B 142 sz v n xs := by
  refine ⟨ho.1, ?_⟩
  rcases ho.2 with h0 | ⟨g, cap, cur, rfl, h1, h2, h3⟩
  · exact .inl h0
  · exact .inr ⟨g, cap, cur, rfl, h1, h g _ _ (.inr (.inl rfl)) h2, h3⟩
/-- The Dom within changes. -/
theorem LogI.dom {B : Nat} {w w' : World} {L D M n n' : Nat} {nd nd' : Nat → ND} {gs gs' : Nat → Nat} {kvs kvs' : Nat → Value} {no : Nat} (h : LogI B w L D M n nd gs kvs no) (hd : DomI B w' D M n' nd' gs' kvs') (hk : KpT w w') : LogI B w' L D M n' nd' gs' kvs' no := by
  obtain ⟨_, h2, ov, xs, h3, h4⟩ := h
  exact ⟨hd, h2, ov, xs, hk _ _ _ (.inl rfl) h3, hk.own h4⟩
theorem LogI.keep {B : Nat} {w w' : World} {L D M n : Nat} {nd : Nat → ND} {gs : Nat → Nat} {kvs : Nat → Value} {no : Nat} (h : LogI B w L D M n nd gs kvs no) (hb : Below w.heap.size w w') : LogI B w' L D M n nd gs kvs no := h.dom (h.1.keep hb) (.of_below hb)

end Go.Proofs.YtaalhglooipnaaaGreat
