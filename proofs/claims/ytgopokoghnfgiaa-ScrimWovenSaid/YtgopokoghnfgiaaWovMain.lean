/-
  The walk over ScrimWoven.
-/
import Derived.Test.YtgopokoghnfgiaaWovQ
import Derived.Test.YtgopokoghnfgiaaWovS
import Derived.Test.YtgopokoghnfgiaaWovRow
import Derived.BigQuiet
namespace Go.Proofs.Ytgopokoghnfgiaa
open Go.RowKit Go.Shelf
attribute [local go_sem ↓] Go.wp_at_zero Go.wp_at_succ

def kA : List Kid := [(strA, 0)]
theorem kA_ok : OkK kA := ⟨by decide, by decide⟩
theorem kids_lit1 (w : World) (t : TypeId) (a : Kid) : Kids (w.alloc (.cells #[.int .i64 a.2, .string a.1] t)) (w.heap.size + 1) (some ⟨w.heap.size, 0, none⟩) 1 [a] := by
  refine ⟨rfl, fun k hk => ?_⟩
  have h := Blk.new w t #[.int .i64 a.2, .string a.1]
  refine ⟨w.heap.size, 0, rfl, by omega, ?_⟩
  match k, hk with
  | 0, _ => exact ⟨h.cell 0, h.cell 1⟩
theorem nums_lit1 (w : World) (a : Int) : Nums (w.alloc (.cells #[.int .i64 a] 3)) (w.heap.size + 1) (some ⟨w.heap.size, 0, none⟩) 1 [a] := by
  refine ⟨rfl, fun k hk => ?_⟩
  have h := Blk.new w 3 #[.int .i64 a]
  refine ⟨w.heap.size, 0, rfl, by omega, ?_⟩
  match k, hk with
  | 0, _ => exact h.cell 0
theorem pairA : pairS kA kA = [0] := by kernel_rfl
theorem wfs_small {l : List Int} (h : ∀ x ∈ l, 0 ≤ x ∧ x < 200) : Wfs l := fun x hx => by
  have h1 := h x hx
  obtain ⟨k, rfl⟩ : ∃ k : Nat, x = (k : Int) := ⟨x.toNat, by omega⟩
  exact wf_small0 k (by omega)
theorem cvW_len (a : Wst) : (cvW a).length = 3 := rfl
theorem merge1 : mergeS [1] [] = [1] := by kernel_rfl


set_option maxRecDepth 100000 in
set_option maxHeartbeats 32000000 in
theorem woven_walk (A B : Option Addr) (n c n' c' : Nat) (ks ls : List Kid) (w : World) (hz : Kids w w.heap.size A n ks) (hz' : Kids w w.heap.size B n' ls) (hi : OkI ks) (hi' : OkI ls) :
    Calls Try.prog 7 #[.slice A n c, .slice B n' c'] w fun e w' => e = .returned (.bool true) ∧ Below w.heap.size w w' := by
  obtain ⟨tr, hti, hz0, hz1, hz2⟩ := info_parts winfo
  have HZ := Lib.hid (And.intro hz (And.intro hz' (And.intro (okK_cut hi 12 (by omega)) (okK_cut hi' 12 (by omega)))))
  clear hz hz' hi hi'
  go_enter Try.func7, Try.ntmps7
  obtain ⟨xs, hxs⟩ : ∃ l, l = cutK 12 ks := ⟨_, rfl⟩
  obtain ⟨ys, hys⟩ : ∃ l, l = cutK 12 ls := ⟨_, rfl⟩
  have hx12 : xs.length ≤ 12 := by rw [hxs, cutK_len]; omega
  have hy12 : ys.length ≤ 12 := by rw [hys, cutK_len]; omega
  have HOK := Lib.hid (show OkK xs ∧ OkK ys by rw [hxs, hys]; exact ⟨HZ.out.2.2.1, HZ.out.2.2.2⟩)
  have HX := Lib.hid (And.intro hxs hys)
  clear hxs hys
  go_wp2_with fail
  refine (own_any A n c 12 (by omega) ks _ HZ.out.1).mono ?_
  rintro e w2 ⟨A1, c1, A2, c2, he, hO⟩
  rw [← HX.out.1] at he hO
  obtain ⟨z1, z2⟩ := own_kids hO
  have HO := Lib.hid (And.intro z1 hO.below)
  obtain ⟨m, hm⟩ : ∃ m, m = xs.length := ⟨_, rfl⟩
  rw [← hm] at he HO hx12
  subst he
  have HM := Lib.hid hm
  clear hO z1 z2 hm
  go_wp2_with fail
  refine (own_any B n' c' 12 (by omega) ls _ ((HZ.out.2.1.below HO.out.2).more HO.out.2.size)).mono ?_
  rintro e w3 ⟨A3, c3, A4, c4, he, hO⟩
  rw [← HX.out.2] at he hO
  obtain ⟨z1, z2⟩ := own_kids hO
  have HO2 := Lib.hid (And.intro (HO.out.1.keep hO.below) (And.intro z1 (HO.out.2.trans (hO.below.mono HO.out.2.size))))
  obtain ⟨m', hm'⟩ : ∃ m, m = ys.length := ⟨_, rfl⟩
  rw [← hm'] at he HO2 hy12
  subst he
  have HM' := Lib.hid hm'
  clear hO z1 z2 HO hm'
  go_wp2_with fail
  have k1 : Kids (w3.alloc (.cells #[.int .i64 0, .string strA] 38)) (w3.alloc (.cells #[.int .i64 0, .string strA] 38)).heap.size (some ⟨w3.heap.size, 0, none⟩) 1 kA := by
    rw [World.size_alloc]; exact kids_lit1 w3 _ (strA, 0)
  have k2 : Kids ((w3.alloc (.cells #[.int .i64 0, .string strA] 38)).alloc (.cells #[.int .i64 0, .string strA] 38)) ((w3.alloc (.cells #[.int .i64 0, .string strA] 38)).alloc (.cells #[.int .i64 0, .string strA] 38)).heap.size (some ⟨w3.heap.size + 1, 0, none⟩) 1 kA := by
    have h := kids_lit1 (w3.alloc (.cells #[.int .i64 0, .string strA] 38)) 38 (strA, 0)
    rw [World.size_alloc] at h
    rw [World.size_alloc, World.size_alloc]
    exact h
  have hb4 : Below w3.heap.size w3 ((w3.alloc (.cells #[.int .i64 0, .string strA] 38)).alloc (.cells #[.int .i64 0, .string strA] 38)) := ((Below.refl _ _).alloc (Nat.le_refl _) _).alloc (by simp) _
  have k1 := k1.keep ((Below.refl _ _).alloc (Nat.le_refl _) (.cells #[.int .i64 0, .string strA] 38))
  have HO3 := Lib.hid (And.intro (HO2.out.1.keep hb4) (And.intro (HO2.out.2.1.keep hb4) (HO2.out.2.2.trans (hb4.mono HO2.out.2.2.size))))
  clear hb4 HO2
  refine (pair_any _ _ 1 1 1 1 kA kA _ k1 k2 (by omega) (by omega) kA_ok kA_ok).mono ?_
  generalize ((w3.alloc (.cells #[.int .i64 0, .string strA] 38)).alloc (.cells #[.int .i64 0, .string strA] 38)) = w4 at HO3 ⊢
  rintro e w5 ⟨A5, c5, rfl, ho5, hb5⟩
  have HO4 := Lib.hid (And.intro (HO3.out.1.keep hb5) (And.intro (HO3.out.2.1.keep hb5) (HO3.out.2.2.trans (hb5.mono HO3.out.2.2.size))))
  clear HO3 ho5 hb5 k1 k2
  go_wp2_with fail
  have n1 : Nums (w5.alloc (.cells #[.int .i64 1] 3)) (w5.alloc (.cells #[.int .i64 1] 3)).heap.size (some ⟨w5.heap.size, 0, none⟩) 1 [1] := by
    rw [World.size_alloc]; exact nums_lit1 w5 1
  have hb6 : Below w5.heap.size w5 (w5.alloc (.cells #[.int .i64 1] 3)) := (Below.refl _ _).alloc (Nat.le_refl _) _
  have HO5 := Lib.hid (And.intro (HO4.out.1.keep hb6) (And.intro (HO4.out.2.1.keep hb6) (HO4.out.2.2.trans (hb6.mono HO4.out.2.2.size))))
  refine (merge_any _ none 1 1 0 0 [1] [] _ n1 ⟨rfl, fun k hk => absurd hk (by omega)⟩ (by omega) (by omega) (by intro x hx; simp at hx; subst hx; decide) (by intro x hx; cases hx) (by decide) List.nodup_nil).mono ?_
  rw [merge1]
  generalize w5.alloc (.cells #[.int .i64 1] 3) = w6 at HO5 ⊢
  rintro e w7 ⟨A6, c6, rfl, ho6, hb7⟩
  have HO6 := Lib.hid (And.intro (HO5.out.1.keep hb7) (And.intro (HO5.out.2.1.keep hb7) (HO5.out.2.2.trans (hb7.mono HO5.out.2.2.size))))
  clear HO5 HO4 n1 hb6 ho6 hb7
  go_wp2_with fail
  have HR := Lib.hid (R2.start w7)
  obtain ⟨vl, hvl⟩ : ∃ vl, vl = Value.slice (some ⟨w7.heap.size + 1, 0, none⟩) 0 0 := ⟨_, rfl⟩
  rw [← hvl] at HR ⊢
  clear hvl
  generalize (w7.alloc (.cells #[] 3)).alloc (.cells #[] 3) = w8 at HR ⊢
  go_loopw [9, 55] (fun v9 v55 wx => ∃ k : Nat, k ≤ m ∧ v55 = .int .i64 k ∧ Hid (R2 w7 [] vl v9 [] (wasS k) wx)) (fun _ i _ => m - (intOf i).toNat)
  case atStart => exact ⟨0, Nat.zero_le _, rfl, HR⟩
  case round =>
    obtain ⟨k, hk, rfl, hr⟩ := hrel
    obtain ⟨v9, hv9⟩ : ∃ v, v = u9 := ⟨_, rfl⟩
    rw [← hv9] at hr ⊢
    clear hv9 HR
    by_cases hlt : k < m
    · have i1 : (0 : Int) ≤ (k : Int) := by omega
      have i2 : (k : Int) < (m : Int) := by omega
      go_wp2_with (first
        | (at_builtin; refine wpList_append_lies _ rfl _ _ _ rfl w7.heap.size 3 tr _ 1 8 Try.underlying30 hti hz0 hz1 hz2 rfl (by decide) _ (wasS k).length (nums (wasS k)) rfl (hr.out.s.alloc _) _ 1 1 [.int .i64 (k : Int)] rfl rfl (World.news_of_block (heap_alloc_new _ _)) (by intro u hu; simp at hu; subst hu; rfl) (by omega) (by rw [wasS_len]; unfold maxLen; omega) (by rw [wasS_len]; omega) (by have := hr.out.b.size; simp; omega) _ rfl ?_; intro g2 cap2 w4 hown2 hg2 hat2 hlt2; have HX := Lib.hid (hr.out.growS hown2 hg2 hat2 rfl); clear hown2 hg2 hat2 hlt2))
      go_roundw
      case rel => exact ⟨k + 1, by omega, by go_num, by rw [wasS_succ]; exact HX⟩
      case measure => simp [intOf]; omega
    · obtain rfl : m = k := by omega
      clear hlt hk
      go_wp2_with fail
      have HR2 := Lib.hid hr.out.turn
      obtain ⟨vs, hvs⟩ : ∃ v, v = Value.slice (some ⟨wr.heap.size, 0, none⟩) 0 0 := ⟨_, rfl⟩
      rw [← hvs] at HR2 ⊢
      clear hvs hr
      generalize wr.alloc (.cells #[] 3) = w9 at HR2 ⊢
      refine (pair_any A1 A3 m c1 m' c3 xs ys _ (HO6.out.1.keep HR2.out.b) (HO6.out.2.1.keep HR2.out.b) (by omega) (by omega) HOK.out.1 HOK.out.2).mono ?_
      rintro e w10 ⟨A7, c7, rfl, ho, hb⟩
      obtain ⟨l, hl⟩ : ∃ l, l = pairS xs ys := ⟨_, rfl⟩
      have hll : l.length = m' := by rw [hl, pairS_len]; exact HM'.out.symm
      have HP := Lib.hid (show Prl m l by rw [hl, HM.out]; exact prl_pair xs ys)
      rw [← hl] at ho
      have HR3 := Lib.hid (HR2.out.fix hb (v := .slice A7 m' c7) (l := l) (by rw [OwI, hll]; exact ho))
      have HL := Lib.hid (And.intro hl hll)
      clear hl hll ho hb HR2
      go_wp2_with fail
      go_loopw [10, 12, 68] (fun v10 v12 v68 wx => ∃ k : Nat, k ≤ m' ∧ v68 = .int .i64 k ∧ Hid (R2 w7 [(.slice A7 m' c7, l), (v9, wasS m)] v10 v12 (liveTo l k) (stayTo l k) wx)) (fun _ _ i _ => m' - (intOf i).toNat)
      case atStart => exact ⟨0, Nat.zero_le _, rfl, HR3⟩
      case round =>
        obtain ⟨k, hk, rfl, hr⟩ := hrel
        obtain ⟨v10, hv10⟩ : ∃ v, v = u10 := ⟨_, rfl⟩
        rw [← hv10] at hr ⊢
        obtain ⟨v12, hv12⟩ : ∃ v, v = u12 := ⟨_, rfl⟩
        rw [← hv12] at hr ⊢
        clear hv10 hv12 HR3
        by_cases hlt : k < m'
        · have i1 : (0 : Int) ≤ (k : Int) := by omega
          have i2 : (k : Int) < (m' : Int) := by omega
          have hown := (hr.out.fx _ List.mem_cons_self).1
          rw [OwI, HL.out.2] at hown
          obtain ⟨b, off, hA, hbB, d0⟩ := (Nums.of_own hown HL.out.2).2 k hlt
          subst hA
          have HV := Lib.hid (liveTo_succ l k)
          have hll := HL.out.2
          have hsl := stayTo_le l k
          have hvl := liveTo_len l k
          clear hown hbB
          rcases HP.out.at_ k (by omega) with h | ⟨j, h, hj⟩
          · have HS := Lib.hid (stayTo_neg l k (by omega) (by omega))
            rw [liveAtI, if_pos (by omega)] at HV
            rw [h] at d0
            clear h
            go_wp2_with (first
              | (at_builtin; refine wpList_append_lies _ rfl _ _ _ rfl w7.heap.size 3 tr _ 1 8 Try.underlying30 hti hz0 hz1 hz2 rfl (by decide) _ (liveTo l k).length (nums (liveTo l k)) rfl (hr.out.l.alloc _) _ 1 1 [.int .i64 (100 + (k : Int))] rfl rfl (World.news_of_block (heap_alloc_new _ _)) (by intro u hu; simp at hu; subst hu; rfl) (by omega) (by unfold maxLen; omega) (by omega) (by have := hr.out.b.size; simp; omega) _ rfl ?_; intro g2 cap2 w4 hown2 hg2 hat2 hlt2; have HX := Lib.hid (hr.out.growL hown2 hg2 hat2 rfl); clear hown2 hg2 hat2 hlt2))
            go_roundw
            case rel => exact ⟨k + 1, by omega, by go_num, by rw [HV.out, HS.out]; rw [hvl] at HX; exact HX⟩
            case measure => simp [intOf]; omega
          · have HS := Lib.hid (stayTo_pos l k (by omega) (by omega))
            rw [liveAtI, if_neg (by omega)] at HV
            rw [h] at d0 HV HS
            clear h
            go_upto_region 18 with (first
              | (at_builtin; refine wpList_append_lies _ rfl _ _ _ rfl w7.heap.size 3 tr _ 1 8 Try.underlying30 hti hz0 hz1 hz2 rfl (by decide) _ (liveTo l k).length (nums (liveTo l k)) rfl (hr.out.l.alloc _) _ 1 1 [.int .i64 (j : Int)] rfl rfl (World.news_of_block (heap_alloc_new _ _)) (by intro u hu; simp at hu; subst hu; rfl) (by omega) (by unfold maxLen; omega) (by omega) (by have := hr.out.b.size; simp; omega) _ rfl ?_; intro g2 cap2 w4 hown2 hg2 hat2 hlt2; have HX := Lib.hid (hr.out.growL hown2 hg2 hat2 rfl); clear hown2 hg2 hat2 hlt2))
            go_wp2_with (first
              | (at_builtin; refine wpList_append_lies _ rfl _ _ _ rfl w7.heap.size 3 tr _ 1 8 Try.underlying30 hti hz0 hz1 hz2 rfl (by decide) _ (stayTo l k).length (nums (stayTo l k)) rfl (HX.out.s.alloc _) _ 1 1 [.int .i64 (j : Int)] rfl rfl (World.news_of_block (heap_alloc_new _ _)) (by intro u hu; simp at hu; subst hu; rfl) (by omega) (by unfold maxLen; omega) (by omega) (by have := HX.out.b.size; simp; omega) _ rfl ?_; intro g2 cap2 w4 hown2 hg2 hat2 hlt2; have HY := Lib.hid (HX.out.growS hown2 hg2 hat2 rfl); clear hown2 hg2 hat2 hlt2))
            go_roundw
            case rel => exact ⟨k + 1, by omega, by go_num, by rw [HV.out, HS.out]; rw [hvl] at HY; exact HY⟩
            case measure => simp [intOf]; omega
        · obtain rfl : m' = k := by omega
          clear hlt hk
          go_wp2_with fail
          obtain ⟨Aw, cw, hv, hnw⟩ := (hr.out.fx (v9, wasS m) (by simp)).1.nums (wasS_len m)
          subst hv
          obtain ⟨Al, cl, hv, hnl⟩ := hr.out.l.nums (liveTo_len l m')
          subst hv
          obtain ⟨ns, hns⟩ : ∃ ns, ns = (stayTo l m').length := ⟨_, rfl⟩
          have hns12 : ns ≤ m' := by rw [hns]; exact stayTo_le l m'
          obtain ⟨As, cs, hv, hnst⟩ := hr.out.s.nums hns.symm
          subst hv
          have HM1 := Lib.hid (And.intro hnw (And.intro hnl (And.intro hnst hr.out.b)))
          have HNS := Lib.hid hns
          have hlive := live_nodup HP.out (by omega)
          have hlb := live_bd HP.out (by omega) (by have := HL.out.2; omega)
          have htob := to_bd HP.out (by omega) (by have := HL.out.2; omega)
          have hton := to_nodup HP.out (by omega)
          have htom := to_mem HP.out (by omega)
          have htol := to_len HP.out (by omega)
          rw [HL.out.2] at hlive hlb
          obtain ⟨tt, htt⟩ : ∃ t, t = toL m l := ⟨_, rfl⟩
          rw [← htt] at htob hton htom htol
          have htt2 : mergeS (wasS m) (liveTo l m') = tt := by rw [htt, toL, HL.out.2]
          rw [HL.out.2, ← hns] at htol
          have hwasb : Wfs (wasS m) := wfs_small fun x hx => by
            obtain ⟨j, h1, h2⟩ := (wasS_mem m x).1 hx
            omega
          have HT := Lib.hid (And.intro htt (And.intro (wfs_small htob) (And.intro hton (And.intro (fun x (hx : x ∈ wasS m) => (htom x).2 (.inr hx)) hwasb))))
          refine (merge_any Aw Al m cw m' cl (wasS m) (liveTo l m') _ hnw hnl (by omega) (by omega) hwasb (wfs_small hlb) (wasS_nodup m) hlive).mono ?_
          rw [htt2]
          rintro e w11 ⟨A8, c8, he, ho, hb⟩
          obtain ⟨nt, hnt⟩ : ∃ n, n = tt.length := ⟨_, rfl⟩
          rw [← hnt] at he ho htol
          subst he
          have HNT := Lib.hid hnt.symm
          have HM2 := Lib.hid (And.intro (HM1.out.1.keep hb) (And.intro (HM1.out.2.1.keep hb) (And.intro (HM1.out.2.2.1.keep hb) (And.intro (Nums.of_own ho hnt.symm) (HM1.out.2.2.2.trans (hb.mono HM1.out.2.2.2.size))))))
          have HLE := Lib.hid (show (nt : Int) = (m : Int) + (m' : Int) - (ns : Int) by omega)
          have hnt24 : nt ≤ 24 := by omega
          clear hnw hnl hnst hns hlive hlb htob hton htom htol htt htt2 hwasb ho hb hr HM1 hnt
          go_wp2_with fail
          refine (steps_any Aw A8 m cw nt c8 (wasS m) tt _ HM2.out.1 HM2.out.2.2.2.1 (by omega) (by omega) HT.out.2.2.2.2 HT.out.2.1 (wasS_nodup m) HT.out.2.2.1 HT.out.2.2.2.1).mono ?_
          rintro e w12 ⟨st, R, A9, c9, hR, hW, he, ho, hb⟩
          obtain ⟨nst, hnst⟩ : ∃ n, n = st.length := ⟨_, rfl⟩
          have hst := hW.len
          rw [HNT.out, ← hnst] at hst
          rw [← hnst] at he ho
          subst he
          have hend := hW.end_
          have HW := Lib.hid (And.intro hR (And.intro hW hnst))
          have HM3 := Lib.hid (And.intro (HM2.out.1.keep hb) (And.intro (HM2.out.2.2.1.keep hb) (And.intro (HM2.out.2.2.2.1.keep hb) (And.intro (Rd.of_own (cv := cvW) (d := wst0) cvW_len ho hnst.symm) (HM2.out.2.2.2.2.trans (hb.mono HM2.out.2.2.2.2.size))))))
          rw [← hnst] at hend
          clear hR hW ho hb HM2 hnst
          go_wp2_with fail
          refine (wapply_any Aw A9 m cw nst c9 (wasS m) st _ HM3.out.1 HM3.out.2.2.2.1 (by omega) (by omega) HT.out.2.2.2.2 (wasS_nodup m) HW.out.2.1.ok).mono ?_
          rw [hend, HNT.out]
          clear hend
          rintro e w13 ⟨A10, c10, rfl, ho, hb⟩
          have HM4 := Lib.hid (And.intro (HM3.out.2.1.keep hb) (And.intro (HM3.out.2.2.1.keep hb) (And.intro (HM3.out.2.2.2.1.keep hb) (And.intro (Nums.of_own ho HNT.out) (HM3.out.2.2.2.2.trans (hb.mono HM3.out.2.2.2.2.size))))))
          clear ho hb HM3
          go_wp2_with fail
          refine (numbers_any _ _ _ _ _ _ _ _ _ _ _ HM4.out.2.2.2.1 HM4.out.2.1 (by unfold maxLen; omega) (by unfold maxLen; omega)).mono ?_
          rintro e w14 ⟨he, nd, rfl⟩
          obtain rfl : e = .returned (.bool true) := by rw [he]; simp
          have hb := below_drewN (Below.refl w13.heap.size w13) nd
          have HM5 := Lib.hid (And.intro (HM4.out.1.keep hb) (And.intro (HM4.out.2.1.keep hb) (And.intro (HM4.out.2.2.1.keep hb) (HM4.out.2.2.2.2.trans (hb.mono HM4.out.2.2.2.2.size)))))
          clear he hb HM4
          generalize w13.drewN nd = w14 at HM5 ⊢
          have hlen := HLE.out.symm
          go_upto_region 25 with fail
          clear hlen
          go_wp2_with fail
          have hp0 := own_zero w14
          have hpb := (Below.refl w14.heap.size w14).alloc (Nat.le_refl _) (.cells #[] 3)
          obtain ⟨vp, hvp⟩ : ∃ v, v = Value.slice (some ⟨w14.heap.size, 0, none⟩) 0 0 := ⟨_, rfl⟩
          rw [← hvp] at hp0 ⊢
          have HR4 := Lib.hid (And.intro hp0 hpb)
          clear hvp hp0 hpb
          generalize w14.alloc (.cells #[] 3) = w15 at HR4 ⊢
          go_loopw [19, 125] (fun v19 v125 wx => ∃ k : Nat, k ≤ nt ∧ v125 = .int .i64 k ∧ Hid (OwI wx w14.heap.size v19 (placesTo tt k) ∧ Below w14.heap.size w14 wx)) (fun _ i _ => nt - (intOf i).toNat)
          case atStart => exact ⟨0, Nat.zero_le _, rfl, HR4⟩
          case round =>
            obtain ⟨k, hk, rfl, hr⟩ := hrel
            obtain ⟨v19, hv19⟩ : ∃ v, v = u19 := ⟨_, rfl⟩
            rw [← hv19] at hr ⊢
            clear hv19 HR4
            by_cases hlt : k < nt
            · have i1 : (0 : Int) ≤ (k : Int) := by omega
              have i2 : (k : Int) < (nt : Int) := by omega
              obtain ⟨b, off, hA, hbB, d0⟩ := HM5.out.2.1.2 k hlt
              subst hA
              replace d0 := (hr.out.2.cell (p := ⟨b, off + k, none⟩) hbB).trans d0
              have HV := Lib.hid (placesTo_succ tt k (by have := HNT.out; omega))
              have hpl := placesTo_le tt k
              obtain ⟨z, hz⟩ : ∃ z, z = tt.getD k 0 := ⟨_, rfl⟩
              rw [← hz] at d0 HV
              clear hbB hz
              by_cases hz : z < 100
              · rw [if_pos hz] at HV
                go_wp2_with (first
                | (at_builtin; refine wpList_append_lies _ rfl _ _ _ rfl w14.heap.size 3 tr _ 1 8 Try.underlying30 hti hz0 hz1 hz2 rfl (by decide) _ (placesTo tt k).length (nums (placesTo tt k)) rfl (hr.out.1.alloc _) _ 1 1 [.int .i64 z] rfl rfl (World.news_of_block (heap_alloc_new _ _)) (by intro u hu; simp at hu; subst hu; rfl) (by omega) (by unfold maxLen; omega) (by omega) (by have := hr.out.2.size; simp; omega) _ rfl ?_; intro g2 cap2 w4 hown2 hg2 hat2 hlt2; have HX := Lib.hid (show OwI w4 w14.heap.size (.slice (some ⟨g2, 0, none⟩) ((placesTo tt k).length + 1) cap2) (placesTo tt k ++ [z]) ∧ Below w14.heap.size w14 w4 from ⟨by rw [OwI, nums_snoc, List.length_append]; exact hown2, (hr.out.2.alloc hr.out.2.size _).grown hg2 (hr.out.2.alloc hr.out.2.size _).size (fun j hj => (hr.out.1.lt j hj).1)⟩); clear hown2 hg2 hat2 hlt2))
                go_roundw
                case rel => exact ⟨k + 1, by omega, by go_num, by rw [HV.out]; exact HX⟩
                case measure => simp [intOf]; omega
              · rw [if_neg hz] at HV
                have HX := Lib.hid hr.out
                go_wp2
                go_roundw
                case rel => exact ⟨k + 1, by omega, by go_num, by rw [HV.out]; exact hr⟩
                case measure => simp [intOf]; omega
            · obtain rfl : nt = k := by omega
              clear hlt hk
              go_wp2_with fail
              obtain ⟨np, hnp⟩ : ∃ n, n = (placesTo tt nt).length := ⟨_, rfl⟩
              have hnp24 : np ≤ nt := by rw [hnp]; exact placesTo_le tt nt
              obtain ⟨A11, c11, hv, hnpl⟩ := hr.out.1.nums hnp.symm
              subst hv
              have HM6 := Lib.hid (And.intro (HM5.out.1.keep hr.out.2) (And.intro (HM5.out.2.1.keep hr.out.2) (And.intro (HM5.out.2.2.1.keep hr.out.2) (And.intro hnpl (HM5.out.2.2.2.trans (hr.out.2.mono HM5.out.2.2.2.size))))))
              have HNP := Lib.hid hnp
              clear hnpl hr HM5 hnp
              refine (gone_any A1 A3 m c1 m' c3 xs ys _ (HO6.out.1.keep HM6.out.2.2.2.2) (HO6.out.2.1.keep HM6.out.2.2.2.2) (by omega) (by omega) HOK.out.1 HOK.out.2).mono ?_
              obtain ⟨gs, hgs⟩ : ∃ g, g = goneS xs ys := ⟨_, rfl⟩
              rw [← hgs]
              rintro e w16 ⟨A12, c12, he, ho, hb⟩
              have hgs2 : gs = goneTo l m := by rw [hgs, goneS, ← HL.out.1, HM.out]
              have hgl := gone_len HP.out (by omega)
              rw [HL.out.2, ← HNS.out, ← hgs2] at hgl
              obtain ⟨ng, hng⟩ : ∃ n, n = gs.length := ⟨_, rfl⟩
              rw [← hng] at he ho hgl
              subst he
              have HM7 := Lib.hid (And.intro (HM6.out.1.keep hb) (And.intro (HM6.out.2.1.keep hb) (And.intro (HM6.out.2.2.1.keep hb) (And.intro (HM6.out.2.2.2.1.keep hb) (And.intro (Nums.of_own ho hng.symm) (HM6.out.2.2.2.2.trans (hb.mono HM6.out.2.2.2.2.size)))))))
              have HG := Lib.hid (And.intro hgs2 hng)
              have HGL := Lib.hid hgl
              have hng12 : ng ≤ 12 := by omega
              clear hgs hgs2 hgl hng ho hb HM6
              go_wp2_with fail
              go_loopw [141] (fun v141 wx => ∃ k : Nat, k ≤ ng ∧ v141 = .int .i64 k ∧ wx = w16) (fun i _ => ng - (intOf i).toNat)
              case atStart => exact ⟨0, Nat.zero_le _, rfl, rfl⟩
              case round =>
                obtain ⟨k, hk, rfl, hw⟩ := hrel
                subst hw
                by_cases hlt : k < ng
                · have i1 : (0 : Int) ≤ (k : Int) := by omega
                  have i2 : (k : Int) < (ng : Int) := by omega
                  obtain ⟨b, off, hA, hbB, d0⟩ := HM7.out.2.2.2.2.1.2 k hlt
                  subst hA
                  obtain ⟨j, hj, hjm, hjl⟩ := (gone_mem (n := m) (l := l) (gs.getD k 0)).1 (by rw [← HG.out.1]; exact getD_mem (by have := HG.out.2; omega))
                  rw [hj] at d0
                  have HJ := Lib.hid (bhd_gone HP.out (by omega) j hjm (by rw [← hj]; exact hjl))
                  rw [HL.out.2, ← HNS.out, ← HT.out.1, ← HG.out.1] at HJ
                  clear hbB hj hjl
                  obtain ⟨wg, hwg⟩ : ∃ wg : World, wg = wr := ⟨_, rfl⟩
                  rw [← hwg] at HM7 d0 ⊢
                  clear hwg
                  go_wp2_with fail
                  obtain ⟨sl, hsl⟩ : ∃ s, s = stayTo l m' := ⟨_, rfl⟩
                  rw [← hsl] at HJ HM7 HNS
                  clear hsl
                  go_loopw [25, 147] (fun v25 v147 wx => ∃ r : Nat, r ≤ ns ∧ v147 = .int .i64 r ∧ v25 = .int .i64 (nearK sl (j : Int) r) ∧ wx = wg) (fun _ i _ => ns - (intOf i).toNat)
                  case atStart => exact ⟨0, Nat.zero_le _, rfl, rfl, rfl⟩
                  case round =>
                    obtain ⟨r, hr, rfl, hv25, hw⟩ := hrel
                    subst hw
                    subst hv25
                    by_cases hrn : r < ns
                    · have i3 : (0 : Int) ≤ (r : Int) := by omega
                      have i4 : (r : Int) < (ns : Int) := by omega
                      obtain ⟨b2, off2, hA, hbB, d1⟩ := HM7.out.1.2 r hrn
                      subst hA
                      have HN := Lib.hid (show nearK sl (j : Int) (r + 1) = if sl.getD r 0 < (j : Int) ∧ nearK sl (j : Int) r < sl.getD r 0 then sl.getD r 0 else nearK sl (j : Int) r from rfl)
                      obtain ⟨z, hz⟩ : ∃ z, z = sl.getD r 0 := ⟨_, rfl⟩
                      obtain ⟨y, hy⟩ : ∃ y, y = nearK sl (j : Int) r := ⟨_, rfl⟩
                      rw [← hz, ← hy] at HN
                      rw [← hz] at d1
                      rw [← hy]
                      clear hz hy hbB
                      by_cases hc1 : z < (j : Int)
                      · by_cases hc2 : y < z
                        · rw [if_pos ⟨hc1, hc2⟩] at HN
                          go_wp2
                          go_roundw
                          case rel => exact ⟨r + 1, by omega, by go_num, by rw [HN.out], trivial⟩
                          case measure => simp [intOf]; omega
                        · rw [if_neg (fun h => hc2 h.2)] at HN
                          go_wp2
                          go_roundw
                          case rel => exact ⟨r + 1, by omega, by go_num, by rw [HN.out], trivial⟩
                          case measure => simp [intOf]; omega
                      · rw [if_neg (fun h => hc1 h.1)] at HN
                        go_wp2
                        go_roundw
                        case rel => exact ⟨r + 1, by omega, by go_num, by rw [HN.out], trivial⟩
                        case measure => simp [intOf]; omega
                    · obtain rfl : ns = r := by omega
                      clear hrn hr
                      obtain ⟨q, p, hB⟩ := HJ.out
                      have HB := Lib.hid hB
                      obtain ⟨y, hy⟩ : ∃ y, y = nearK sl (j : Int) ns := ⟨_, rfl⟩
                      rw [← hy] at HB ⊢
                      clear hy hB d0
                      go_wp2_with fail
                      refine (behind_any A8 _ nt c8 ng c12 tt gs (j : Int) y q p _ HM7.out.2.1 HM7.out.2.2.2.2.1 (by omega) (by omega) HB.out).mono ?_
                      rintro e w20 ⟨rfl, rfl⟩
                      go_wp2
                      go_roundw
                      case rel => exact ⟨k + 1, by omega, by go_num, trivial⟩
                      case measure => simp [intOf]; omega
                · obtain rfl : ng = k := by omega
                  clear hlt hk
                  go_wp2_with fail
                  refine (moves_any A9 nst c9 st _ HM7.out.2.2.1 (by omega)).mono ?_
                  rintro e w17 ⟨rfl, hb17⟩
                  have HM8 := Lib.hid (And.intro (HM7.out.2.2.2.1.keep hb17) (HM7.out.2.2.2.2.2.trans (hb17.mono HM7.out.2.2.2.2.2.size)))
                  have hR := HW.out.1
                  have hWv := HW.out.2.1
                  rw [HT.out.1] at hR hWv
                  have hmv := moves_law (n := m) HP.out (by omega) hR hWv
                  rw [← HT.out.1, HNT.out, ← HNP.out] at hmv
                  obtain ⟨mv, hmve⟩ : ∃ x, x = movesS st := ⟨_, rfl⟩
                  obtain ⟨le, hlee⟩ : ∃ x, x = lenS (placesTo tt nt) := ⟨_, rfl⟩
                  rw [← hmve, ← hlee] at hmv
                  rw [← hmve]
                  have HLEE := Lib.hid hlee
                  have HMV := Lib.hid hmv
                  have hmvb : mv ≤ np := by omega
                  have hleb : le ≤ np := by omega
                  clear hR hWv hb17 HM7 hmve hlee hmv
                  go_wp2_with fail
                  refine (lenr_any A11 np c11 (placesTo tt nt) _ HM8.out.1 (by omega)).mono ?_
                  rw [← HLEE.out]
                  rintro e w18 ⟨rfl, hb18⟩
                  have HM9 := Lib.hid (And.intro (HM8.out.1.keep hb18) (HM8.out.2.trans (hb18.mono HM8.out.2.size)))
                  clear hb18 HM8
                  have hmv2 : (np : Int) - (le : Int) = (mv : Int) := by have := HMV.out; omega
                  go_wp2_with fail
                  clear hmv2
                  refine (lislen_any A11 np c11 (placesTo tt nt) _ HM9.out.1 (by omega)).mono ?_
                  rw [← HLEE.out]
                  rintro e w19 ⟨rfl, hb19⟩
                  have HM10 := Lib.hid (And.intro (HM9.out.1.keep hb19) (HM9.out.2.trans (hb19.mono HM9.out.2.size)))
                  clear hb19 HM9
                  go_wp2_with fail
                  refine (lenr_any A11 np c11 (placesTo tt nt) _ HM10.out.1 (by omega)).mono ?_
                  rw [← HLEE.out]
                  rintro e w20 ⟨rfl, hb20⟩
                  have HM11 := Lib.hid (HM10.out.2.trans (hb20.mono HM10.out.2.size))
                  clear hb20 HM10
                  have hgl2 : (m : Int) - (ns : Int) = (ng : Int) := by have := HGL.out; omega
                  go_wp2
                  go_ret
                  exact ⟨rfl, HO6.out.2.2.trans (HM11.out.mono HO6.out.2.2.size)⟩

end Go.Proofs.Ytgopokoghnfgiaa
