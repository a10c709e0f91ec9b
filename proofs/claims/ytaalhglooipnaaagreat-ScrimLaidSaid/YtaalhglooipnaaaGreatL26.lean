/-
  The walk over Read of layer 9.
  The layout's Size.
-/
import Derived.Test.YtaalhglooipnaaaGreatL25
import Derived.Test.YtaalhglooipnaaaGreatL14
import Derived.Test.YtaalhglooipnaaaGreatL23
namespace Go.Proofs.YtaalhglooipnaaaGreat
open Go.RowKit RT
attribute [local go_sem ↓] Go.wp_at_zero Go.wp_at_succ

/-- What a node of the kept tree shows. -/
def rN (i : Nat) (d : ND) : SD := ⟨i, d.kind, d.tag, d.text, d.cl, d.at_, d.st⟩
mutual
def RdT (nd : Nat → ND) (n : Nat) : STr → Nat → Prop
  | .mk s ts, i => i < n ∧ s = rN i (nd i) ∧ (nd i).kids.length = ts.length ∧ RdTs nd n ts (nd i).kids
def RdTs (nd : Nat → ND) (n : Nat) : List STr → List Int → Prop
  | t :: ts, k :: ks => (k = (k.toNat : Nat) ∧ RdT nd n t k.toNat) ∧ RdTs nd n ts ks
  | _, _ => True
end
theorem RdTs.at_ {nd : Nat → ND} {n : Nat} : ∀ {ts : List STr} {ks : List Int} (_ : RdTs nd n ts ks) (k : Nat) (h : k < ts.length) (h' : k < ks.length), ks[k] = (ks[k].toNat : Nat) ∧ RdT nd n ts[k] ks[k].toNat
  | [], _, _, k, h, _ => by simp at h
  | _ :: _, [], _, k, _, h' => by simp at h'
  | t :: ts, x :: ks, h, 0, _, _ => by rw [RdTs] at h; exact h.1
  | t :: ts, x :: ks, h, k + 1, h1, h2 => by rw [RdTs] at h; exact RdTs.at_ h.2 k (by simpa using h1) (by simpa using h2)

theorem ext_0 (a b : Value) (w : World) : (Instr.extract (.tuple #[a, b]) 0).run Tryz.prog w = .ok a w := rfl
theorem ext_1 (a b : Value) (w : World) : (Instr.extract (.tuple #[a, b]) 1).run Tryz.prog w = .ok b w := rfl
theorem bld_rd (i : Nat) (d : ND) (A4 A5 A6 : Option Addr) (n4 c4 n5 c5 n6 c6 : Nat) (w : World) :
    (Instr.build 40 #[(0, .int .i64 i), (1, .int .i64 d.kind), (2, .string d.tag), (3, .string d.text), (4, .slice A4 n4 c4), (5, .slice A5 n5 c5), (6, .slice A6 n6 c6)]).run Tryz.prog w =
      .ok (sV (rN i d) (.slice A4 n4 c4) (.slice A5 n5 c5) (.slice A6 n6 c6) (.slice none 0 0)) w := by
  unfold sV sC rN
  go_simp
theorem nC_all (i : Nat) (d : ND) (A1 A2 A3 A4 : Option Addr) (n1 c1 n2 c2 n3 c3 n4 c4 : Nat) : (nC i d (.slice A1 n1 c1) (.slice A2 n2 c2) (.slice A3 n3 c3) (.slice A4 n4 c4)).toArray.all (·.oneCell') = true := by
  simp [nC, Value.oneCell']
def ND.few (d : ND) : Prop := d.cl.length ≤ 1000 ∧ d.at_.length ≤ 1000 ∧ d.st.length ≤ 1000 ∧ d.kids.length ≤ 1000
set_option maxRecDepth 100000 in
set_option maxHeartbeats 8000000 in
theorem read_any (m : Nat) : ∀ (t : STr) (w : World) (B D M n : Nat) (nd : Nat → ND) (gs : Nat → Nat) (kvs : Nat → Value) (i : Nat), t.size ≤ m → m ≤ 1000 → RdT nd n t i → n ≤ 50 → (∀ i, i < n → (nd i).few) → DomI B w D M n nd gs kvs →
    Calls Tryz.prog 13 #[.pointer (some ⟨D, 0, none⟩), .int .i64 (i : Nat)] w fun e w' => ∃ v', e = .returned (.tuple #[v', .int .i64 0]) ∧ IsT sK w' (Fresh w.heap.size w') t v' ∧ Below w.heap.size w w' := by
  induction m with
  | zero => intro t w B D M n nd gs kvs i h; have := size_pos t; omega
  | succ m ih =>
    intro t w B D M n nd gs kvs i hsz hm hT hn hfew hD
    obtain ⟨s, ts⟩ := t
    have hkl := kids_len hsz
    have hks1 := fun k hk => kid_size hsz k hk
    simp only [RT.kids] at hkl hks1
    rw [RdT] at hT
    obtain ⟨hi, rfl, hlen, hkids⟩ := hT
    obtain ⟨d, hd⟩ : ∃ d, d = nd i := ⟨_, rfl⟩
    rw [← hd] at hlen hkids
    obtain ⟨w1, hw1, hR, hB0, hs1⟩ := one_new w zs_st 40
    have hg := fun wx (hb : Below w1.heap.size w1 wx) => get_any (hD.keep (hB0.trans (hb.mono hB0.size))) hn i hi (hfew i hi)
    rw [← hd] at hg
    have HG := Lib.hid hg
    have HD := Lib.hid hD
    have HFW := Lib.hid hfew
    have HDE := Lib.hid hd
    have HNN := Lib.hid (And.intro hn hi)
    have HR := Lib.hid (And.intro hR (And.intro hB0 hs1))
    rw [← hd] 
    unfold zs_st at hw1
    clear hg hD hfew hd hn hi hsz hR hB0
    go_enter Tryz.func13, Tryz.ntmps13
    go_upto_region 1 with fail
    rw [← hw1]
    obtain ⟨X, hXe⟩ : ∃ X, X = w.heap.size := ⟨_, rfl⟩
    rw [← hXe] at HR hs1 ⊢
    have HXE := Lib.hid (And.intro hXe hs1)
    clear hw1 hXe hs1
    refine _root_.Go.wp_region_lit ?_
    refine wpList_val rfl (ex_mv rfl rfl) ?_
    refine wpList_val rfl (ex_mv rfl rfl) ?_
    refine wpList_call rfl (ex_c2 rfl rfl (enters Tryz.func37 (by kernel_rfl) rfl _ _) rfl rfl) ((HG.out w1 (Below.refl _ _)).mono ?_)
    rintro e2 w2 ⟨a1, a2, a3, k, rfl, h1, h2, h3, h4, hb2⟩
    obtain ⟨A1, c1, rfl, t1⟩ := id h1
    obtain ⟨A2, c2, rfl, t2⟩ := id h2
    obtain ⟨A3, c3, rfl, t3⟩ := id h3
    obtain ⟨A4, c4, rfl, t4⟩ := id h4
    clear t1 t2 t3 t4
    generalize hnv : Value.agg (nC i d (.slice A1 d.cl.length c1) (.slice A2 d.at_.length c2) (.slice A3 d.st.length c3) (.slice A4 d.kids.length c4)).toArray = nv
    refine ⟨_, rfl, ?_⟩
    simp only [Act.put, List.setIfInBounds_toArray, List.set_cons_succ, List.set_cons_zero]
    refine wpList_val rfl (ex_mv rfl rfl) ?_
    refine wpList_val rfl (ex_ext rfl (show _ = Value.tuple #[nv, .bool true] from rfl) (ext_0 nv (.bool true) w2)) ?_
    refine wpList_val rfl (ex_ext rfl (show _ = Value.tuple #[nv, .bool true] from rfl) (ext_1 nv (.bool true) w2)) ?_
    refine wpList_val rfl (ex_alc rfl (al_nd _)) ?_
    obtain ⟨w3, hw3, hN3, hb3, hs3⟩ := one_new w2 zs_nd 97
    rw [← hw3]
    obtain ⟨G, hGe⟩ : ∃ G, G = w2.heap.size := ⟨_, rfl⟩
    rw [← hGe] at hN3 ⊢
    simp only [Act.put, List.setIfInBounds_toArray, List.set_cons_succ, List.set_cons_zero]
    refine wpList_store_blk rfl 97 _ _ rfl G (nC i d (.slice A1 d.cl.length c1) (.slice A2 d.at_.length c2) (.slice A3 d.st.length c3) (.slice A4 d.kids.length c4)).toArray rfl hnv.symm 97 zs_nd hN3 (by kernel_rfl) sz_nd (nC_all i d A1 A2 A3 A4 _ c1 _ c2 _ c3 _ c4) ?_
    intro w4 hG4 hg4 hs4
    refine wpList_val rfl (ex_asg rfl rfl) ?_
    refine wpList_nil ?_
    have hb4 : Below w2.heap.size w2 w4 := hb3.grown hg4 hb3.size (fun j hj => by cases hj; omega)
    have HGN := Lib.hid hG4
    have HR4 := Lib.hid (And.intro (And.intro (h1.keep hb4) (And.intro (h2.keep hb4) (And.intro (h3.keep hb4) (h4.keep hb4)))) (And.intro hb2 (And.intro hb4 (And.intro hGe hs4))))
    clear h1 h2 h3 h4 hb2 hb3 hb4 hN3 hw3 hs3 hGe hG4 hg4 hs4 hnv
    go_upto_region 4 with fail
    refine _root_.Go.wp_region_lit ?_
    refine wpList_val rfl (ex_mv rfl rfl) ?_
    refine wpList_val rfl (ex_fld rfl rfl (fa_nd_1 G _)) ?_
    refine wpList_val rfl (ex_ld rfl rfl (ld_int (HGN.out.cell 1))) ?_
    simp only [Act.put, List.setIfInBounds_toArray, List.set_cons_succ, List.set_cons_zero]
    refine wpList_val rfl (ex_fld rfl rfl (fa_nd_2 G _)) ?_
    refine wpList_val rfl (ex_ld rfl rfl (ld_string (HGN.out.cell 2))) ?_
    simp only [Act.put, List.setIfInBounds_toArray, List.set_cons_succ, List.set_cons_zero]
    refine wpList_val rfl (ex_fld rfl rfl (fa_nd_3 G _)) ?_
    refine wpList_val rfl (ex_ld rfl rfl (ld_string (HGN.out.cell 3))) ?_
    simp only [Act.put, List.setIfInBounds_toArray, List.set_cons_succ, List.set_cons_zero]
    refine wpList_val rfl (ex_fld rfl rfl (fa_nd_4 G _)) ?_
    refine wpList_val rfl (ex_ld rfl rfl (ld_Lstring (HGN.out.cell 4))) ?_
    simp only [Act.put, List.setIfInBounds_toArray, List.set_cons_succ, List.set_cons_zero]
    refine wpList_val rfl (ex_fld rfl rfl (fa_nd_5 G _)) ?_
    refine wpList_val rfl (ex_ld rfl rfl (ld_props_Map_string (HGN.out.cell 5))) ?_
    simp only [Act.put, List.setIfInBounds_toArray, List.set_cons_succ, List.set_cons_zero]
    refine wpList_val rfl (ex_fld rfl rfl (fa_nd_6 G _)) ?_
    refine wpList_val rfl (ex_ld rfl rfl (ld_props_Map_int (HGN.out.cell 6))) ?_
    simp only [Act.put, List.setIfInBounds_toArray, List.set_cons_succ, List.set_cons_zero]
    refine wpList_val rfl (ex_bld7 rfl rfl rfl rfl rfl rfl rfl rfl (bld_rd i d A1 A2 A3 _ c1 _ c2 _ c3 w4)) ?_
    refine wpList_val rfl (ex_alc rfl (al_st _)) ?_
    simp only [Act.put, List.setIfInBounds_toArray, List.set_cons_succ, List.set_cons_zero]
    obtain ⟨w5, hw5, hN5, hb5, hs5⟩ := one_new w4 zs_st 40
    rw [← hw5]
    obtain ⟨N, hNe⟩ : ∃ N, N = w4.heap.size := ⟨_, rfl⟩
    rw [← hNe] at hN5 ⊢
    refine wpList_store_blk rfl 40 _ _ rfl N _ rfl rfl 40 zs_st hN5 (by kernel_rfl) sz_st ?_ ?_
    · exact sC_all rfl rfl rfl rfl
    intro wa hNa hga hsa
    refine wpList_nil ?_
    have hba : Below w4.heap.size w4 wa := hb5.grown hga hb5.size (fun j hj => by cases hj; omega)
    have hI : SI 40 90 105 w1 N (rN i d) [] (.slice A1 d.cl.length c1) (.slice A2 d.at_.length c2) (.slice A3 d.st.length c3) (.slice none 0 0) [] wa := by
      have hr := HR4.out.1
      have hz1 := HR4.out.2.1.size
      have hz2 := HR4.out.2.2.1.size
      exact ⟨(HR4.out.2.1.trans (HR4.out.2.2.1.mono hz1)).trans (hba.mono (Nat.le_trans hz1 hz2)), by omega, hNa, hr.1.keep hba, hr.2.1.keep hba, hr.2.2.1.keep hba, World.ownsRow_nil _ _ _ _, by simp [Value.ownBlock], IsTs.nil⟩
    have hk4 := HR4.out.1.2.2.2.keep hba
    have HI := Lib.hid (And.intro hI hk4)
    have HGA := Lib.hid (HGN.out.below hba HGN.out.lt)
    have x8 : wa.cell? ⟨G, 8, none⟩ = some (.slice A4 d.kids.length c4) := HGA.out.cell 8
    have HNE := Lib.hid (And.intro hNe (And.intro hNa.lt hba))
    clear hI hk4 hNa hga hsa hb5 hN5 hw5 hs5 hNe hba
    obtain ⟨trv, htiv, hzv0, hzv1, hzv2⟩ := info_parts stT_info
    go_wp2_with fail
    go_loopw [39] (fun x wx => ∃ k s7 us, k ≤ ts.length ∧ x = .int .i64 k ∧ SI 40 90 105 w1 N (rN i d) (ts.take k) (.slice A1 d.cl.length c1) (.slice A2 d.at_.length c2) (.slice A3 d.st.length c3) s7 us wx ∧ Below w4.heap.size w4 wx ∧ ∀ b, s7.ownBlock = some b → w4.heap.size ≤ b) (fun x _ => ts.length - (intOf x).toNat)
    case atStart => exact ⟨0, .slice none 0 0, [], Nat.zero_le _, rfl, HI.out.1, HNE.out.2.2, by simp [Value.ownBlock]⟩
    case round =>
      obtain ⟨k, s7, us, hk, rfl, hI, hbW, hown⟩ := hrel
      by_cases hlt : k < ts.length
      · have hlt' : k < d.kids.length := by rw [hlen]; exact hlt
        obtain ⟨hk1, hk2⟩ := hkids.at_ k hlt hlt'
        obtain ⟨c, hc⟩ : ∃ c, c = (d.kids[k]).toNat := ⟨_, rfl⟩
        rw [← hc] at hk1 hk2
        obtain ⟨b, off, rfl, d0⟩ : ∃ b off, A4 = some ⟨b, off, none⟩ ∧ wr.cell? ⟨b, off + k, none⟩ = some (.int .i64 (c : Nat)) := by
          obtain ⟨A', c', hv, hrd⟩ := HR4.out.1.2.2.2.rd
          injection hv with hA1 hA2 hA3
          subst hA1
          obtain ⟨b, off, rfl, hbB, h0⟩ := (hrd.move (.of_below hbW fun b hb => hb.2)).2 k hlt'
          refine ⟨b, off, rfl, ?_⟩
          have := h0 0 (by omega)
          rw [Nat.mul_one, Nat.add_zero, show d.kids.getD k 0 = d.kids[k] by simp [List.getD, hlt'], hk1] at this
          exact this
        have hkk : (k : Int) < (d.kids.length : Int) := by omega
        have i1 : (0 : Int) ≤ (k : Int) := by omega
        have hb0 : Below w.heap.size w wr := by
          have h1 := HR.out.2.1.mono (Nat.le_of_eq HXE.out.1.symm)
          exact h1.trans (hI.1.mono h1.size)
        have HIH := Lib.hid (ih ts[k] wr B D M n nd gs kvs c (hks1 k hlt) (by omega) hk2 HNN.out.1 HFW.out (HD.out.keep hb0))
        have HII := Lib.hid (And.intro hI (And.intro hbW hown))
        have HTS : Hid (ts.take (k + 1) = ts.take k ++ [ts[k]]) := Lib.hid (List.take_succ_eq_append_getElem hlt)
        have HTL := Lib.hid (show (ts.take k).length = k by rw [List.length_take]; omega)
        clear hk1 hk2 hc hI hbW hown hb0
        go_upto_region 8 with fail
        refine _root_.Go.wp_region_lit ?_
        refine wpList_val rfl (ex_mv rfl rfl) ?_
        refine wpList_val rfl (ex_mv rfl rfl) ?_
        refine wpList_call rfl (ex_c2 rfl rfl (enters Tryz.func13 (by kernel_rfl) rfl _ _) rfl rfl) (HIH.out.mono ?_)
        rintro e6 w6 ⟨v', rfl, hT6, hb6⟩
        refine ⟨_, rfl, ?_⟩
        simp only [Act.put, List.setIfInBounds_toArray, List.set_cons_succ, List.set_cons_zero]
        obtain ⟨J, j, js, ⟨j1, j2, j3, rfl, hr6⟩, _, _⟩ := IsT.eq.1 hT6
        obtain ⟨g1, g2, g3⟩ := hr6.forms
        generalize hkv : Value.slice J ts[k].kids.length j = kv at hT6 hr6 ⊢
        obtain ⟨e, he⟩ : ∃ e, e = ts[k].dat := ⟨_, rfl⟩
        rw [← he] at hT6 ⊢
        generalize hnv : sV e j1 j2 j3 kv = nv6
        refine wpList_val rfl (ex_mv rfl rfl) ?_
        refine wpList_val rfl (ex_ext rfl (show _ = Value.tuple #[nv6, .int .i64 0] from rfl) (ext_0 nv6 (.int .i64 0) w6)) ?_
        refine wpList_val rfl (ex_ext rfl (show _ = Value.tuple #[nv6, .int .i64 0] from rfl) (ext_1 nv6 (.int .i64 0) w6)) ?_
        refine wpList_val rfl (ex_alc rfl (al_st _)) ?_
        simp only [Act.put, List.setIfInBounds_toArray, List.set_cons_succ, List.set_cons_zero]
        obtain ⟨w7, hw7, hN7, hb7, hs7⟩ := one_new w6 zs_st 40
        rw [← hw7]
        obtain ⟨K, hKe⟩ : ∃ K, K = w6.heap.size := ⟨_, rfl⟩
        rw [← hKe] at hN7 ⊢
        refine wpList_store_blk rfl 40 _ _ rfl K (sC e j1 j2 j3 kv).toArray rfl hnv.symm 40 zs_st hN7 (by kernel_rfl) sz_st (sC_all g1 g2 g3 (by rw [← hkv]; rfl)) ?_
        intro w8 hK8 hg8 hs8
        refine wpList_val rfl (ex_asg rfl rfl) ?_
        refine wpList_nil ?_
        simp only [Act.put, List.setIfInBounds_toArray, List.set_cons_succ, List.set_cons_zero]
        have hb8 : Below w6.heap.size w6 w8 := hb7.grown hg8 hb7.size (fun j hj => by cases hj; omega)
        have hT8 := (hT6.fresh hb8)
        have HK := Lib.hid hK8
        have HT := Lib.hid (And.intro hT8 (And.intro (hb6.trans (hb8.mono hb6.size)) (hb6.size)))
        have HN8 := Lib.hid (HII.out.1.2.2.1.below (hb6.trans (hb8.mono hb6.size)) HII.out.1.2.2.1.lt)
        clear hT8 hT6 hr6 hb6 hb7 hb8 hN7 hw7 hs7 hKe hK8 hg8 hs8 hnv hkv he g1 g2 g3
        go_upto_region 9 with fail
        refine _root_.Go.wp_region_lit ?_
        refine wpList_val rfl (ex_fld rfl rfl (fa_st_7 N _)) ?_
        refine wpList_val rfl (ex_ld rfl rfl (ld_Lstill_Tree (HN8.out.cell 7))) ?_
        refine wpList_load_row rfl 40 _ rfl K rfl 40 _ (0, 0) _ HK.out Tryz.underlying40 rfl sz_st ?_
        simp only [Act.put, List.setIfInBounds_toArray, List.set_cons_succ, List.set_cons_zero]
        refine wpList_val rfl (ex_bsl1 rfl rfl (bs_st _ _ _ _ _ _ _ _ w8)) ?_
        simp only [Act.put, List.setIfInBounds_toArray, List.set_cons_succ, List.set_cons_zero]
        have hle : wr.heap.size ≤ w8.heap.size := HT.out.2.1.size
        obtain ⟨w9, hw9, hB9, hb9, hs9⟩ := one_new w8 (sC e j1 j2 j3 kv).toArray 40
        unfold sC at hw9
        rw [← hw9]
        obtain ⟨g3, hg3⟩ : ∃ g3, g3 = w8.heap.size := ⟨_, rfl⟩
        rw [← hg3] at hB9 ⊢
        have hbw : Below wr.heap.size wr w9 := HT.out.2.1.trans (hb9.mono hle)
        have ho := own_keep HII.out.1.2.2.2.2.2.2.1 hbw
        rw [HTL.out] at ho
        have HA := Lib.hid (And.intro ho (And.intro hB9 (And.intro (HT.out.1.fresh hb9) (And.intro hbw (HN8.out.below hb9 HN8.out.lt)))))
        have hHI := HII.out.1.1.size
        have hbs := hbw.size
        clear ho hbw hw9 hs9 hB9 hle hg3 hb9
        refine wpList_append_lies _ rfl _ _ _ rfl w1.heap.size 40 trv _ 8 144 Tryz.underlying38 htiv hzv0 hzv1 hzv2 rfl (by decide) s7 k _ rfl HA.out.1 ⟨g3, 0, none⟩ 1 1 (cvK 8 (sV e j1 j2 j3 kv)) rfl (cvK_len 8 _) (news_at HA.out.2.1) (IsT.one_s HA.out.2.2.1) (by omega) (by unfold maxLen; omega) (by omega) (by omega) _ rfl ?_
        intro g cap wA hown hg hat hltA
        obtain ⟨q1, q2, hc, hN4, ho4, hvN, hat4⟩ := app_field (off := 7) HA.out.2.2.2.2 rfl HA.out.1 HII.out.1.2.2.2.2.2.2.2.1 rfl hown hg hat
        have HS := Lib.hid (And.intro (HII.out.1.kid (by decide) (by decide) (by decide) HA.out.2.2.2.1 HA.out.2.2.1 hc hN4 (by rw [HTL.out]; exact ho4) hvN hat4) (And.intro ((HII.out.2.1.trans (HA.out.2.2.2.1.mono HII.out.2.1.size)).trans (hc.below (Nat.le_trans HII.out.2.1.size HA.out.2.2.2.1.size) fun b hb => by
          rcases hb with h | h
          · exact HII.out.2.2 b h
          · have := HNE.out.1; omega)) (show ∀ b, (Value.slice (some ⟨g, 0, none⟩) (k + 1) cap).ownBlock = some b → w4.heap.size ≤ b from fun b hb => by
          rcases hat4 with h | h
          · rw [h] at hb; exact HII.out.2.2 b hb
          · rw [h] at hb; cases hb; exact Nat.le_trans HII.out.2.1.size HA.out.2.2.2.1.size)))
        clear hc hN4 ho4 hown hg hat hltA htiv hzv0 hzv1 hzv2 hHI hbs hvN hat4
        go_wp2_with fail
        go_roundw
        case rel => exact ⟨k + 1, _, _, by omega, by go_num, by rw [HTS.out]; exact HS.out.1, HS.out.2.1, HS.out.2.2⟩
        case measure => simp [intOf]; omega
      · obtain rfl : k = ts.length := by omega
        have hR := HR.out.1.below hI.1 HR.out.1.lt
        rw [List.take_length] at hI
        have HIE := Lib.hid hI
        clear hI hlt hk hbW hown
        go_upto_region 11 with fail
        refine _root_.Go.wp_region_lit ?_
        refine wpList_load_row rfl 40 _ rfl N rfl 40 _ (0, 0) _ HIE.out.2.2.1 Tryz.underlying40 rfl sz_st ?_
        simp only [Act.put, List.setIfInBounds_toArray, List.set_cons_succ, List.set_cons_zero]
        refine wpList_store_blk rfl 40 _ _ rfl X _ rfl rfl 40 zs_st hR (by kernel_rfl) sz_st ?_ ?_
        · exact sV_one HIE.out.done
        intro wf hRf hgf hsf
        refine wpList_val rfl (ex_asg rfl rfl) ?_
        refine wpList_nil ?_
        simp only [Act.put, List.setIfInBounds_toArray, List.set_cons_succ, List.set_cons_zero]
        have hX1 := HXE.out.1
        have hX2 := HXE.out.2
        have hT := HIE.out.done
        have hT2 := (hT.move (.of_grown hgf fun b hb => ⟨hb.2, fun e => by cases e; have := hb.1; omega⟩)).weak (S' := Fresh w.heap.size wf) fun b hb => ⟨by have := hb.1; omega, by rw [hsf]; exact hb.2⟩
        have hB1 := HR.out.2.1.mono (Nat.le_of_eq HXE.out.1.symm)
        have hB2 : Below w.heap.size w wf := (hB1.trans (HIE.out.1.mono hB1.size)).grown hgf (by have := HIE.out.1.size; have := hB1.size; omega) (fun j hj => by cases hj; omega)
        have HF := Lib.hid (And.intro hT2 hB2)
        have r0 : wf.cell? ⟨X, 0, none⟩ = some (.int .i64 i) := hRf.cell 0
        have r1 : wf.cell? ⟨X, 1, none⟩ = some (.int .i64 d.kind) := hRf.cell 1
        have r2 : wf.cell? ⟨X, 2, none⟩ = some (.string d.tag) := hRf.cell 2
        have r3 : wf.cell? ⟨X, 3, none⟩ = some (.string d.text) := hRf.cell 3
        have r4 : wf.cell? ⟨X, 4, none⟩ = some (.slice A1 d.cl.length c1) := hRf.cell 4
        have r5 : wf.cell? ⟨X, 5, none⟩ = some (.slice A2 d.at_.length c2) := hRf.cell 5
        have r6 : wf.cell? ⟨X, 6, none⟩ = some (.slice A3 d.st.length c3) := hRf.cell 6
        have r7 : wf.cell? ⟨X, 7, none⟩ = some s7 := hRf.cell 7
        clear hT hT2 hB1 hB2 hgf hsf hR hRf hX1 hX2
        go_wp2_with fail
        refine bodyPost_ret (v := .tuple #[sV (rN i d) (.slice A1 d.cl.length c1) (.slice A2 d.at_.length c2) (.slice A3 d.st.length c3) s7, .int .i64 0]) ?_ rfl ⟨_, rfl, HF.out.1, HF.out.2⟩
        simp [results, Tryz.results13, go_sem, r0, r1, r2, r3, r4, r5, r6, r7, sV, sC, rN]

end Go.Proofs.YtaalhglooipnaaaGreat
namespace Go.Proofs.YtaalhglooipnaaaGreat
open Go.RowKit RT
attribute [local go_sem ↓] Go.wp_at_zero Go.wp_at_succ

def SizeR5 (W : World) (X : Nat) (d : SD) (A1 A2 A3 A4 : Option Addr) (c1 c2 c3 n4 c4 : Nat) (g I p q : Int) : Nat → Value → World → Prop
  | 0, v, _ => v = .agg #[.int .i64 d.id, .int .i64 d.kind, .string d.tag, .string d.text, .slice A1 d.cl.length c1, .slice A2 d.at_.length c2, .slice A3 d.st.length c3, .slice A4 n4 c4]
  | 1, v, _ => v = .agg #[.int .i64 d.id, .int .i64 d.kind, .string d.tag, .string d.text, .slice A1 d.cl.length c1, .slice A2 d.at_.length c2, .slice A3 d.st.length c3, .slice A4 n4 c4]
  | 2, v, _ => v = (.int .i64 g)
  | 3, v, _ => v = .int .i64 I
  | 4, v, _ => ∃ A c, v = .tuple #[.slice A n4 c, .agg #[.int .i64 p, .int .i64 q]]
  | 5, v, _ => ∃ A c, v = .tuple #[.slice A n4 c, .agg #[.int .i64 p, .int .i64 q]]
  | 6, v, _ => ∃ A c, v = .slice A n4 c
  | 7, v, _ => v = .agg #[.int .i64 p, .int .i64 q]
  | 8, v, w => NewAt W.heap.size 180 zs_fs v w
  | 9, v, _ => ∃ A c, v = .slice A n4 c
  | _, _, _ => True
theorem SizeR5_keep (W : World) (X : Nat) (d : SD) (A1 A2 A3 A4 : Option Addr) (c1 c2 c3 n4 c4 : Nat) (g I p q : Int) (j : Nat) (v : Value) (w w' : World) (h : SizeR5 W X d A1 A2 A3 A4 c1 c2 c3 n4 c4 g I p q j v w) (hb : Below w.heap.size w w') : SizeR5 W X d A1 A2 A3 A4 c1 c2 c3 n4 c4 g I p q j v w' := by
  match j with
  | 0 => exact h
  | 1 => exact h
  | 2 => exact h
  | 3 => exact h
  | 4 => exact h
  | 5 => exact h
  | 6 => exact h
  | 7 => exact h
  | 8 => exact NewAt.keep h hb
  | 9 => exact h
  | _ + 10 => trivial
def SizeR6 (W : World) (X N : Nat) (d : SD) (A1 A2 A3 A4 : Option Addr) (c1 c2 c3 n4 c4 : Nat) (p q pad : Int) : Nat → Value → World → Prop
  | 0, v, _ => v = .pointer (some ⟨N, 1, none⟩)
  | 1, v, _ => v = .int .i64 q
  | 2, v, _ => v = .agg #[.int .i64 d.id, .int .i64 d.kind, .string d.tag, .string d.text, .slice A1 d.cl.length c1, .slice A2 d.at_.length c2, .slice A3 d.st.length c3, .slice A4 n4 c4]
  | 3, v, _ => v = .int .i64 pad
  | 4, v, _ => v = .int .i64 (Fl.P1.add pad pad)
  | 5, v, _ => v = .int .i64 (Fl.P1.add q (Fl.P1.add pad pad))
  | _, _, _ => True
theorem SizeR6_keep (W : World) (X N : Nat) (d : SD) (A1 A2 A3 A4 : Option Addr) (c1 c2 c3 n4 c4 : Nat) (p q pad : Int) (j : Nat) (v : Value) (w w' : World) (h : SizeR6 W X N d A1 A2 A3 A4 c1 c2 c3 n4 c4 p q pad j v w) (hb : Below w.heap.size w w') : SizeR6 W X N d A1 A2 A3 A4 c1 c2 c3 n4 c4 p q pad j v w' := by
  match j with
  | 0 => exact h
  | 1 => exact h
  | 2 => exact h
  | 3 => exact h
  | 4 => exact h
  | 5 => exact h
  | _ + 6 => trivial
theorem sizeT_eq (t : STr) (g : Int) : sizeT t g = if t.dat.kind = 1 then (natT t, 1) else
      (widthV t.dat g, if (gtS t.dat.st nmH).2 = true then styV t.dat nmH else Fl.P1.add (Fl.P1.add (putT t.dat (insV t.dat g) t.kids).y (putT t.dat (insV t.dat g) t.kids).h) (Fl.P1.add (styV t.dat nmPad) (styV t.dat nmPad))) := by
  cases t; rw [sizeT]; rfl
set_option maxRecDepth 100000 in
set_option maxHeartbeats 8000000 in
theorem lsize_any (m : Nat) : ∀ (t : STr) (v : Value) (g : Int) (w : World), m ≤ 40 → t.size ≤ m → All stOk t → IsT sK w (Old w) t v → Calls Tryz.prog 109 #[v, .int .i64 g] w (SzPost t g w) := by
  induction m with
  | zero => intro t v g w _ h; have := size_pos t; omega
  | succ m ih =>
    intro t v g w hm hsz hal hT
    have HPUT := Lib.hid (fun wx vx n (hx : IsT sK wx (Old wx) t vx) => lput_any m (by omega) (fun t v g w h => ih t v g w (by omega) h) t vx n wx hsz hal hx)
    have HNAT := Lib.hid (fun wx vx (hx : IsT sK wx (Old wx) t vx) => natural_any 1000 t vx wx (by omega) (Nat.le_refl _) hal hx)
    have HT0 := Lib.hid hT
    obtain ⟨A4, c4, vs, ⟨a1, a2, a3, rfl, hr⟩, _, _⟩ := IsT.eq.1 hT
    obtain ⟨hs, _⟩ := All.eq.1 hal
    have HEQ := Lib.hid (sizeT_eq t g)
    obtain ⟨kn, hkn⟩ : ∃ kn, kn = t.kids.length := ⟨_, rfl⟩
    obtain ⟨d, hd⟩ : ∃ d, d = t.dat := ⟨_, rfl⟩
    unfold SzPost
    rw [← hd] at hr hs HEQ HT0 HPUT ⊢
    rw [← hkn] at HT0 HPUT ⊢
    clear hT hal ih hkn hd
    obtain ⟨A1, c1, A2, c2, A3, c3, rfl, rfl, rfl, hrr⟩ := hr
    have hr : Rows3 w (Old w) d.cl d.at_ d.st (.slice A1 d.cl.length c1) (.slice A2 d.at_.length c2) (.slice A3 d.st.length c3) := ⟨A1, c1, A2, c2, A3, c3, rfl, rfl, rfl, hrr⟩
    obtain ⟨w1, hw1, hX, hRR, hB0, hs1⟩ := two_new w (sC d (.slice A1 d.cl.length c1) (.slice A2 d.at_.length c2) (.slice A3 d.st.length c3) (.slice A4 kn c4)).toArray zs_fs 40 180
    unfold sV sC
    unfold sC zs_fs at hw1
    unfold sC at hX
    unfold zs_fs at hRR
    go_enter Tryz.func109, Tryz.ntmps109
    go_upto_region 1 with fail
    rw [← hw1]
    obtain ⟨X, hXe⟩ : ∃ X, X = w.heap.size := ⟨_, rfl⟩
    rw [← hXe] at hX hRR hs1 ⊢
    have HX := Lib.hid hX
    have HB := Lib.hid hB0
    have HR := Lib.hid (hr.old hB0)
    have HRS := Lib.hid (And.intro hRR (And.intro hXe hs1))
    have HT := Lib.hid (HT0.out.keep hB0)
    obtain ⟨x0, x1, x2, x3, x4, x5, x6, x7⟩ := scells (a1 := .slice A1 d.cl.length c1) (a2 := .slice A2 d.at_.length c2) (a3 := .slice A3 d.st.length c3) (k := .slice A4 kn c4) hX
    clear hw1 hXe hX hRR hB0 hs1 hr hrr HT0
    by_cases hk1 : d.kind = 1
    · have HE := Lib.hid (show sizeT t g = (natT t, 1) by rw [HEQ.out, if_pos hk1])
      have i1 : (d.kind == 1) = true := by simp [hk1]
      have hn := HNAT.out w1 _ HT.out
      unfold sV sC at hn
      have HN := Lib.hid hn
      clear hk1 HEQ hn HNAT HPUT
      obtain ⟨kd, hkd⟩ : ∃ kd, kd = d.kind := ⟨_, rfl⟩
      obtain ⟨N, hN⟩ : ∃ N, N = natT t := ⟨_, rfl⟩
      rw [← hN] at HE HN
      clear hN hkd
      go_wp2_with fail
      refine HN.out.mono ?_
      rintro e2 w2 ⟨rfl, hb2⟩
      have hr := HRS.out.1.below hb2 HRS.out.1.lt
      have r0 := hr.cell 0
      have r1 := hr.cell 1
      have r2 := hr.frozen 0
      have r3 := hr.frozen 1
      have hXl : w.heap.size ≤ X + 1 := by have := HRS.out.2.1; omega
      have HB2 := Lib.hid (((HB.out.trans (hb2.mono HB.out.size)).setCell (p := ⟨X + 1, 0, none⟩) hXl (.int .i64 N)).setCell (p := ⟨X + 1, 1, none⟩) hXl (.int .i64 1))
      clear hr hb2 hXl x0 x1 x2 x3 x4 x5 x6 x7
      go_wp2_with fail
      exact bodyPost_ret (v := .agg #[.int .i64 N, .int .i64 1]) (by simp [results, Tryz.results109, go_sem, r0, r1]) rfl ⟨by rw [HE.out], HB2.out⟩
    · have HE := Lib.hid (show sizeT t g = (widthV d g, if (gtS d.st nmH).2 = true then styV d nmH else Fl.P1.add (Fl.P1.add (putT d (insV d g) t.kids).y (putT d (insV d g) t.kids).h) (Fl.P1.add (styV d nmPad) (styV d nmPad))) by rw [HEQ.out, if_neg hk1])
      have i1 : (d.kind == 1) = false := by simp [hk1]
      clear hk1 HEQ HNAT
      go_wp2_with fail
      have hc2 := style_any d (.slice A1 d.cl.length c1) (.slice A2 d.at_.length c2) (.slice A3 d.st.length c3) A4 kn c4 nmH w1 HR.out hs
      unfold sV sC at hc2
      refine hc2.mono ?_
      clear hc2
      rintro e2 w2 ⟨rfl, hb2⟩
      have HQb := Lib.hid (And.intro (HRS.out.1.below hb2 HRS.out.1.lt) HRS.out.2)
      have HTb := Lib.hid (HT.out.keep hb2)
      have HXb := Lib.hid (HX.out.below hb2 HX.out.lt)
      have HBb := Lib.hid (HB.out.trans (hb2.mono HB.out.size))
      have HRb := Lib.hid (HR.out.old hb2)
      clear HX HB HR hb2 x0 x1 x2 x3 x4 x5 x6 x7
      clear HRS HT
      have HRS := HQb
      have HT := HTb
      clear HQb HTb
      have HX := HXb
      have HB := HBb
      have HR := HRb
      clear HXb HBb HRb
      obtain ⟨x0, x1, x2, x3, x4, x5, x6, x7⟩ := scells (a1 := .slice A1 d.cl.length c1) (a2 := .slice A2 d.at_.length c2) (a3 := .slice A3 d.st.length c3) (k := .slice A4 kn c4) HX.out
      obtain ⟨H, hH⟩ : ∃ H, H = (if (gtS d.st nmH).2 = true then styV d nmH else Fl.P1.add (Fl.P1.add (putT d (insV d g) t.kids).y (putT d (insV d g) t.kids).h) (Fl.P1.add (styV d nmPad) (styV d nmPad))) := ⟨_, rfl⟩
      rw [← hH] at HE
      obtain ⟨y, hy⟩ : ∃ y, y = styV d nmH := ⟨_, rfl⟩
      obtain ⟨q, hq⟩ : ∃ q, q = (gtS d.st nmH).2 := ⟨_, rfl⟩
      rw [← hy, ← hq] at hH ⊢
      have HH := Lib.hid hH
      clear hy hq hH
      go_upto_if 21 with fail
      go_cut [5] (fun s5 wx => s5 = .int .i64 H ∧ Below w2.heap.size w2 wx)
      case first =>
        cases q
        · obtain ⟨I, hI⟩ : ∃ I, I = insV d g := ⟨_, rfl⟩
          obtain ⟨S, hS⟩ : ∃ S, S = putT d I t.kids := ⟨_, rfl⟩
          obtain ⟨pad, hpad⟩ : ∃ pad, pad = styV d nmPad := ⟨_, rfl⟩
          obtain ⟨q, hq⟩ : ∃ q, q = Fl.P1.add S.y S.h := ⟨_, rfl⟩
          obtain ⟨p, hp⟩ : ∃ p, p = S.W := ⟨_, rfl⟩
          have HE2 := Lib.hid (show H = Fl.P1.add q (Fl.P1.add pad pad) by rw [HH.out, hq, hS, hI, hpad]; rfl)
          have HIN := Lib.hid (show ∀ wx, Below w2.heap.size w2 wx → Calls Tryz.prog 110 #[.agg #[.int .i64 d.id, .int .i64 d.kind, .string d.tag, .string d.text, .slice A1 d.cl.length c1, .slice A2 d.at_.length c2, .slice A3 d.st.length c3, .slice A4 kn c4], .int .i64 g] wx (fun e' w' => e' = .returned (.int .i64 I) ∧ Below wx.heap.size wx w') from fun wx hbx => by
            have h := inside_any d _ _ _ A4 kn c4 g wx (HR.out.old hbx) hs
            rw [← hI] at h
            exact h)
          have HPU := Lib.hid (show ∀ wx, Below w2.heap.size w2 wx → Calls Tryz.prog 112 #[.agg #[.int .i64 d.id, .int .i64 d.kind, .string d.tag, .string d.text, .slice A1 d.cl.length c1, .slice A2 d.at_.length c2, .slice A3 d.st.length c3, .slice A4 kn c4], .int .i64 I] wx (fun e' w' => ∃ A c, e' = .returned (.tuple #[.slice A kn c, .agg #[.int .i64 p, .int .i64 q]]) ∧ Below wx.heap.size wx w') from fun wx hbx => by
            refine (HPUT.out wx _ I (HT.out.keep hbx)).mono ?_
            rintro e' w' ⟨A, c, he, _, hb'⟩
            rw [← hS, ← hq, ← hp] at he
            exact ⟨A, c, he, hb'⟩)
          have HPD := Lib.hid hpad
          clear hI hS hpad hq hp x0 x1 x2 x3 x4 x5 x6 x7
          go_upto_region 5 with fail
          refine wp_region_tail2 10 _ ?_ ?_ ?_ ?_ (SizeR5 w2 X d A1 A2 A3 A4 c1 c2 c3 kn c4 g I p q) (fun j v wx wy => SizeR5_keep _ _ _ _ _ _ _ _ _ _ _ _ _ _ _ _ j v wx wy) ?_ ?_ ?_
          · kernel_rfl
          · kernel_rfl
          · kernel_rfl
          · kernel_rfl
          · refine ⟨opV rfl fun s wx hb hd => ⟨_, ex_ld rfl (lit_out 2 (by kernel_rfl)) (ld_row ((HX.out).below hb (HX.out).lt) Tryz.underlying40 sz_st), rfl⟩, ?_⟩
            refine ⟨opV rfl fun s wx hb hd => ⟨_, ex_ld rfl (lit_out 2 (by kernel_rfl)) (ld_row ((HX.out).below hb (HX.out).lt) Tryz.underlying40 sz_st), rfl⟩, ?_⟩
            refine ⟨opV rfl fun s wx hb hd => ⟨_, ex_mv rfl (lit_out 1 (by kernel_rfl)), rfl⟩, ?_⟩
            refine ⟨opC rfl fun s wx hb hd => ⟨_, _, ex_c2 rfl rfl (enters Tryz.func110 (by kernel_rfl) rfl _ _) ((lit_at 1 24 (by kernel_rfl) (by kernel_rfl) (by kernel_rfl)).trans (hd 1 (by kernel_rfl))) ((lit_at 2 25 (by kernel_rfl) (by kernel_rfl) (by kernel_rfl)).trans (hd 2 (by kernel_rfl))), ?_⟩, ?_⟩
            · refine (HIN.out wx hb).mono ?_
              rintro e1 w1 ⟨rfl, hb'⟩
              exact ⟨_, rfl, rfl, hb'⟩
            refine ⟨opC rfl fun s wx hb hd => ⟨_, _, ex_c2 rfl rfl (enters Tryz.func112 (by kernel_rfl) rfl _ _) ((lit_at 0 23 (by kernel_rfl) (by kernel_rfl) (by kernel_rfl)).trans (hd 0 (by kernel_rfl))) ((lit_at 3 26 (by kernel_rfl) (by kernel_rfl) (by kernel_rfl)).trans (hd 3 (by kernel_rfl))), ?_⟩, ?_⟩
            · refine (HPU.out wx hb).mono ?_
              rintro e1 w1 ⟨A, c, rfl, hb'⟩
              exact ⟨_, rfl, ⟨A, c, rfl⟩, hb'⟩
            refine ⟨opV rfl fun s wx hb hd => ?_, ?_⟩
            · obtain ⟨A, c, e⟩ := (hd 4 (by kernel_rfl))
              exact ⟨_, ex_mv rfl ((lit_at 4 27 (by kernel_rfl) (by kernel_rfl) (by kernel_rfl)).trans e), ⟨A, c, rfl⟩⟩
            refine ⟨opV rfl fun s wx hb hd => ?_, ?_⟩
            · obtain ⟨A, c, e⟩ := (hd 5 (by kernel_rfl))
              exact ⟨_, ex_ext rfl ((lit_at 5 22 (by kernel_rfl) (by kernel_rfl) (by kernel_rfl)).trans e) (ext_0 _ _ wx), ⟨A, c, rfl⟩⟩
            refine ⟨opV rfl fun s wx hb hd => ?_, ?_⟩
            · obtain ⟨A, c, e⟩ := (hd 5 (by kernel_rfl))
              exact ⟨_, ex_ext rfl ((lit_at 5 22 (by kernel_rfl) (by kernel_rfl) (by kernel_rfl)).trans e) (ext_1 _ _ wx), rfl⟩
            refine ⟨opN rfl fun s wx hb hd => ⟨_, _, ex_alc rfl (al_fs wx), NewAt.new hb.size, below_alloc _ _⟩, ?_⟩
            refine ⟨opV rfl fun s wx hb hd => ?_, ?_⟩
            · obtain ⟨A, c, e⟩ := (hd 6 (by kernel_rfl))
              exact ⟨_, ex_asg rfl ((lit_at 6 28 (by kernel_rfl) (by kernel_rfl) (by kernel_rfl)).trans e), ⟨A, c, rfl⟩⟩
            trivial
          rotate_left
          · kernel_rfl
          intro s wz hbz hV
          have e7 : s 7 = .agg #[.int .i64 p, .int .i64 q] := hV 7 (by omega)
          obtain ⟨N, e8, hN1, hN2⟩ := hV 8 (by omega)
          clear hV
          simp only [List.take_succ_cons, List.take_zero, List.drop_succ_cons, List.drop_zero, litOf, List.map_cons, List.map_nil, Nat.zero_add, Nat.reduceAdd, Act.put, List.setIfInBounds_toArray, List.set_cons_succ, List.set_cons_zero]
          refine wpList_store_blk rfl 180 _ _ rfl N #[.int .i64 p, .int .i64 q] e8 e7 180 zs_fs hN2 rfl (by kernel_rfl) (by simp [Value.oneCell']) ?_
          intro wa hNa hga hsa
          refine wpList_nil ?_
          simp only [Act.put, List.setIfInBounds_toArray, List.set_cons_succ, List.set_cons_zero]
          have hB1 : Below w2.heap.size w2 wa := hbz.grown hga hbz.size (fun j hj => by cases hj; exact hN1)
          have HNA := Lib.hid hNa
          have HXA := Lib.hid (HX.out.below hB1 HX.out.lt)
          have HRA := Lib.hid (HR.out.old hB1)
          have HB1 := Lib.hid hB1
          rw [e8]
          clear hbz e7 e8 hN1 hN2 hNa hga hsa hB1 HX HR
          have HX := HXA
          have HN := HNA
          have HPA := Lib.hid (show ∀ wx, Below wa.heap.size wa wx → Calls Tryz.prog 111 #[.agg #[.int .i64 d.id, .int .i64 d.kind, .string d.tag, .string d.text, .slice A1 d.cl.length c1, .slice A2 d.at_.length c2, .slice A3 d.st.length c3, .slice A4 kn c4], .string nmPad] wx (fun e' w' => e' = .returned (.int .i64 pad) ∧ Below wx.heap.size wx w') from fun wx hbx => by
            have h := ask_any d _ _ _ A4 kn c4 nmPad wx (HRA.out.old hbx) hs
            rw [← HPD.out] at h
            exact h)
          go_upto_region 6 with fail
          refine wp_region_tail 6 _ ?_ ?_ ?_ ?_ (SizeR6 wa X N d A1 A2 A3 A4 c1 c2 c3 kn c4 p q pad) (fun j v wx wy => SizeR6_keep _ _ _ _ _ _ _ _ _ _ _ _ _ _ _ _ j v wx wy) ?_ ?_ ?_
          · kernel_rfl
          · kernel_rfl
          · kernel_rfl
          · kernel_rfl
          · refine ⟨opV rfl fun s wx hb hd => ⟨_, ex_fld rfl (lit_out 8 (by kernel_rfl)) (fa_fs_1 _ wx), rfl⟩, ?_⟩
            refine ⟨opV rfl fun s wx hb hd => ⟨_, ex_ld rfl ((lit_at 0 30 (by kernel_rfl) (by kernel_rfl) (by kernel_rfl)).trans (hd 0 (by kernel_rfl))) (ld_int (((HN.out).below hb (HN.out).lt).cell 1)), rfl⟩, ?_⟩
            refine ⟨opV rfl fun s wx hb hd => ⟨_, ex_ld rfl (lit_out 2 (by kernel_rfl)) (ld_row ((HX.out).below hb (HX.out).lt) Tryz.underlying40 sz_st), rfl⟩, ?_⟩
            refine ⟨opC rfl fun s wx hb hd => ⟨_, _, ex_c2 rfl rfl (enters Tryz.func111 (by kernel_rfl) rfl _ _) ((lit_at 2 32 (by kernel_rfl) (by kernel_rfl) (by kernel_rfl)).trans (hd 2 (by kernel_rfl))) rfl, ?_⟩, ?_⟩
            · refine (HPA.out wx hb).mono ?_
              rintro e1 w1 ⟨rfl, hb'⟩
              exact ⟨_, rfl, rfl, hb'⟩
            refine ⟨opC rfl fun s wx hb hd => ⟨_, _, ex_c1 rfl rfl (enters Tryz.func132 (by kernel_rfl) rfl _ _) ((lit_at 3 33 (by kernel_rfl) (by kernel_rfl) (by kernel_rfl)).trans (hd 3 (by kernel_rfl))), ?_⟩, ?_⟩
            · refine (twice_any pad wx).mono ?_
              rintro e1 w1 ⟨rfl, rfl⟩
              exact ⟨_, rfl, rfl, Below.refl _ _⟩
            refine ⟨opC rfl fun s wx hb hd => ⟨_, _, ex_c2 rfl rfl (enters Tryz.func90 (by kernel_rfl) rfl _ _) ((lit_at 1 31 (by kernel_rfl) (by kernel_rfl) (by kernel_rfl)).trans (hd 1 (by kernel_rfl))) ((lit_at 4 34 (by kernel_rfl) (by kernel_rfl) (by kernel_rfl)).trans (hd 4 (by kernel_rfl))), ?_⟩, ?_⟩
            · refine (Fl.add_any q (Fl.P1.add pad pad) wx).mono ?_
              rintro e1 w1 ⟨rfl, rfl⟩
              exact ⟨_, rfl, rfl, Below.refl _ _⟩
            trivial
          rotate_left
          · kernel_rfl
          intro s3 wy hby hV
          have e5 : s3 5 = .int .i64 (Fl.P1.add q (Fl.P1.add pad pad)) := hV 5 (by omega)
          clear hV
          simp only [List.take_succ_cons, List.take_zero, List.drop_succ_cons, List.drop_zero, litOf, List.map_cons, List.map_nil, Nat.zero_add, Nat.reduceAdd, Act.put, List.setIfInBounds_toArray, List.set_cons_succ, List.set_cons_zero]
          refine wpList_val rfl (ex_asg rfl e5) ?_
          simp only [Act.put, List.setIfInBounds_toArray, List.set_cons_succ, List.set_cons_zero]
          refine wpList_nil ?_
          have HBY := Lib.hid (HB1.out.trans (hby.mono HB1.out.size))
          clear hby e5
          go_wp2_with fail
          go_meet
          exact ⟨by rw [HE2.out], HBY.out⟩
        · have HE2 := Lib.hid (show H = y by rw [HH.out]; rfl)
          go_wp2_with fail
          go_meet
          exact ⟨by rw [HE2.out], Below.refl _ _⟩
      case rest =>
        obtain ⟨rfl, hb3⟩ := hcut
        have HQb := Lib.hid (And.intro (HRS.out.1.below hb3 HRS.out.1.lt) HRS.out.2)
        have HXb := Lib.hid (HX.out.below hb3 HX.out.lt)
        have HBb := Lib.hid (HB.out.trans (hb3.mono HB.out.size))
        have HRb := Lib.hid (HR.out.old hb3)
        clear HX HB HR HRS hb3 x0 x1 x2 x3 x4 x5 x6 x7
        have HX := HXb
        have HB := HBb
        have HR := HRb
        have HRS := HQb
        clear HXb HBb HRb HQb HPUT HT HH
        obtain ⟨x0, x1, x2, x3, x4, x5, x6, x7⟩ := scells (a1 := .slice A1 d.cl.length c1) (a2 := .slice A2 d.at_.length c2) (a3 := .slice A3 d.st.length c3) (k := .slice A4 kn c4) HX.out
        go_wp2_with fail
        have hc4 := width_any d (.slice A1 d.cl.length c1) (.slice A2 d.at_.length c2) (.slice A3 d.st.length c3) A4 kn c4 g wc HR.out hs
        unfold sV sC at hc4
        refine hc4.mono ?_
        clear hc4
        rintro e4 w4 ⟨rfl, hb4⟩
        have HQb := Lib.hid (And.intro (HRS.out.1.below hb4 HRS.out.1.lt) HRS.out.2)
        have HXb := Lib.hid (HX.out.below hb4 HX.out.lt)
        have HBb := Lib.hid (HB.out.trans (hb4.mono HB.out.size))
        have HRb := Lib.hid (HR.out.old hb4)
        clear HX HB HR hb4 x0 x1 x2 x3 x4 x5 x6 x7
        clear HRS
        have HRS := HQb
        clear HQb
        have HX := HXb
        have HB := HBb
        have HR := HRb
        clear HXb HBb HRb
        obtain ⟨x0, x1, x2, x3, x4, x5, x6, x7⟩ := scells (a1 := .slice A1 d.cl.length c1) (a2 := .slice A2 d.at_.length c2) (a3 := .slice A3 d.st.length c3) (k := .slice A4 kn c4) HX.out
        obtain ⟨WW, hWW⟩ : ∃ WW, WW = widthV d g := ⟨_, rfl⟩
        rw [← hWW] at HE ⊢
        have hr := HRS.out.1
        have r0 := hr.cell 0
        have r1 := hr.cell 1
        have r2 := hr.frozen 0
        have r3 := hr.frozen 1
        have hXl : w.heap.size ≤ X + 1 := by have := HRS.out.2.1; omega
        have HB2 := Lib.hid ((HB.out.setCell (p := ⟨X + 1, 0, none⟩) hXl (.int .i64 WW)).setCell (p := ⟨X + 1, 1, none⟩) hXl (.int .i64 H))
        clear hr hXl x0 x1 x2 x3 x4 x5 x6 x7 hWW
        go_wp2_with fail
        exact bodyPost_ret (v := .agg #[.int .i64 WW, .int .i64 H]) (by simp [results, Tryz.results109, go_sem, r0, r1]) rfl ⟨by rw [HE.out], HB2.out⟩

end Go.Proofs.YtaalhglooipnaaaGreat
