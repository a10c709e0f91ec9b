/-
  A Dom and a Log are made: New of layer 5, On of layer 9, Of of layer 9 (still).
-/
import Derived.Test.YtaalhglooipnaaaGreatL31
import Derived.Test.YtaalhglooipnaaaGreatL35
namespace Go.Proofs.YtaalhglooipnaaaGreat
open Go.RowKit RT Go.Maps
attribute [local go_sem ↓] Go.wp_at_zero Go.wp_at_succ

theorem room_one {B : Nat} {w : World} {D M : Nat} {nd : Nat → ND} {gs : Nat → Nat} {kvs : Nat → Value} (h : DomI B w D M 1 nd gs kvs) :
    Calls Tryz.prog 9 #[.pointer (some ⟨D, 0, none⟩)] w fun e w' => e = .returned (.int .i64 100) ∧ Below w.heap.size w w' := by
  obtain ⟨Dm, h1, h2⟩ := h.map
  have hs := World.ownsMap.size_le h1
  have hp : Maps.size Dm ≠ 0 := by
    intro h0
    obtain ⟨es, clock, hb, F, hs, rfl⟩ := h1
    have h3 := (h2 0 (wf_int 0 (by omega) (by omega))).2
    rw [List.length_eq_zero_iff.1 h0] at h3
    have h4 : ndKit.code none = ndKit.code (some (gs 0)) := h3
    simp only [ndKit, pCode, DataW.lit.injEq, Lit.int.injEq, true_and] at h4
    omega
  have h1s : Maps.size Dm = 1 := by omega
  refine (room_len D M 1 _ w h.dom (fun w' hb ty => ?_) (by omega)).mono ?_
  · have := World.ownsMap.len (World.ownsMap.kept h1 (only_of_below hb none) (by simp)) ndKit.und ty
    rw [h1s] at this
    exact this
  · rintro e w' ⟨rfl, hb⟩
    exact ⟨rfl, hb⟩
theorem clip_100 (w : World) : Calls Tryz.prog 27 #[.int .i64 100, .int .i64 1, .int .i64 65536] w fun e w' => e = .returned (.int .i64 100) ∧ w = w' := by
  go_enter Tryz.func27, Tryz.ntmps27
  go_wp2_with fail
  go_ret
  exact ⟨rfl, rfl⟩
def rootS : ByteArray := ⟨#[114, 111, 111, 116]⟩
def nd0 : Nat → ND := fun _ => ⟨2, rootS, eb, [], [], [], -1, []⟩
theorem bld_root (w : World) : (Instr.build 97 #[(1, .int .i64 2), (2, .string rootS), (7, .int .i64 (-1))]).run Tryz.prog w = .ok (.agg (nC 0 (nd0 0) (.slice none 0 0) (.slice none 0 0) (.slice none 0 0) (.slice none 0 0)).toArray) w := by
  unfold nC nd0 rootS eb
  go_simp
theorem ex_box {ρ : Operand → Value} {o : Oper} {w w' : World} {t : TypeId} {x : Operand} {p q : Value} (ho : o.op = .box t x) (h : ρ x = p) (hf : (Instr.box t p).run Tryz.prog w = .ok q w') : (execOp ρ o).run Tryz.prog w = .ok (.value q) w' := by
  unfold execOp; rw [ho]; simp [h, hf]
theorem box_root (w : World) : (Instr.box 97 (.agg (nC 0 (nd0 0) (.slice none 0 0) (.slice none 0 0) (.slice none 0 0) (.slice none 0 0)).toArray)).run Tryz.prog w = .ok (.pointer (some ⟨w.heap.size, 0, none⟩)) (w.alloc (.cells (nC 0 (nd0 0) (.slice none 0 0) (.slice none 0 0) (.slice none 0 0) (.slice none 0 0)).toArray 97)) := by
  unfold nC nd0 rootS eb
  go_simp
set_option maxRecDepth 100000 in
set_option maxHeartbeats 2000000 in
theorem new_any (w : World) (B : Nat) (hB : B ≤ w.heap.size) : Calls Tryz.prog 8 #[.int .i64 100] w fun e w' => ∃ D M gs kvs, e = .returned (.pointer (some ⟨D, 0, none⟩)) ∧ DomI B w' D M 1 nd0 gs kvs ∧ Below w.heap.size w w' := by
  go_enter Tryz.func8, Tryz.ntmps8
  have hmm := @run_makeMap Tryz.prog
  go_wp2_with fail
  refine (clip_100 w).mono ?_
  rintro e0 w0 ⟨rfl, rfl⟩
  go_upto_region 2 with fail
  have hm0 := MapKit.made ndKit w
  obtain ⟨wa, hwa⟩ : ∃ wa, wa = w.alloc (.map #[] 0) := ⟨_, rfl⟩
  have hba : Below w.heap.size w wa := by rw [hwa]; exact below_alloc _ _
  have hsa : wa.heap.size = w.heap.size + 1 := by rw [hwa]; simp
  rw [← hwa] at hm0 ⊢
  obtain ⟨M, hM⟩ : ∃ M, M = w.heap.size := ⟨_, rfl⟩
  rw [← hM] at hm0 ⊢
  obtain ⟨w2, hw2, hD, hb2, hs2⟩ := one_new wa #[.int .i64 100, .int .i64 1, .map (some M)] 94
  rw [← hw2]
  rw [hsa, ← hM] at hD hb2 hs2
  have hm2 := hm0.keep (by rw [hsa, ← hM]; exact hb2)
  obtain ⟨D, hDe⟩ : ∃ D, D = M + 1 := ⟨_, rfl⟩
  rw [← hDe] at hD hb2 hs2 ⊢
  have y2 : w2.cell? ⟨D, 2, none⟩ = some (.map (some M)) := hD.cell 2
  obtain ⟨w3, hw3, hG, hb3, hs3⟩ := one_new w2 (nC 0 (nd0 0) (.slice none 0 0) (.slice none 0 0) (.slice none 0 0) (.slice none 0 0)).toArray 97
  obtain ⟨w4, hrun, hm4, hg4⟩ := (hm2.keep hb3).update (0 : Int) (wf_int 0 (by omega) (by omega)) (by unfold maxLen; omega) (some w2.heap.size) trivial
  have HH := Lib.hid (And.intro hm4 (And.intro hD (And.intro hG (And.intro hba (And.intro hsa (And.intro hb2 (And.intro hs2 (And.intro hb3 (And.intro hs3 (And.intro hg4 (And.intro hDe hM)))))))))))
  clear hm0 hm2 hm4 hD hG hba hsa hb2 hs2 hb3 hs3 hg4 hDe hM hwa hw2
  have hrun2 : (Instr.mapUpdate 92 (.map (some M)) (.int .i64 0) (.pointer (some ⟨w2.heap.size, 0, none⟩))).run Tryz.prog w3 = .ok () w4 := hrun
  clear hrun
  refine _root_.Go.wp_region_lit ?_
  refine wpList_val rfl (ex_mv rfl rfl) ?_
  refine wpList_val rfl (ex_nil rfl rfl) ?_
  refine wpList_val rfl (ex_fld rfl rfl (fa_dm_2 D _)) ?_
  refine wpList_val rfl (ex_ld rfl rfl (ld_map_intParena_Node y2)) ?_
  simp only [Act.put, List.setIfInBounds_toArray, List.set_cons_succ, List.set_cons_zero]
  refine wpList_val rfl (ex_bld3 rfl rfl rfl rfl (bld_root w2)) ?_
  refine wpList_val rfl (ex_box rfl rfl (box_root w2)) ?_
  simp only [Act.put, List.setIfInBounds_toArray, List.set_cons_succ, List.set_cons_zero]
  rw [← hw3]
  refine wpList_skip rfl (ex_mup rfl rfl rfl rfl hrun2) ?_
  refine wpList_nil ?_
  clear hrun2 y2 hmm hw3
  go_wp2_with fail
  go_ret
  obtain ⟨hm4, hD, hG, hba, hsa, hb2, hs2, hb3, hs3, hg4, hDe, hM⟩ := HH.out
  have hD4 : Blk w4 D 94 #[.int .i64 100, .int .i64 1, .map (some M)] := (hD.below hb3 hD.lt).grown hg4 (fun e => by injection e with e; omega)
  have hG4 := hG.grown hg4 (fun e => by injection e with e; omega)
  refine ⟨D, M, fun _ => w2.heap.size, fun _ => .slice none 0 0, rfl, ⟨by omega, hD4, by omega, ?_, ?_, ?_, ?_⟩, ?_⟩
  · have e1 : mapF 1 (fun _ => w2.heap.size) = setF (fun _ => none) (0 : Int) (some w2.heap.size) := by
      funext x
      unfold mapF setF
      by_cases e : x = 0
      · subst e; rfl
      · rw [if_neg (by omega)]; simp [e]
    rw [e1]
    exact hm4
  · intro i hi
    obtain rfl : i = 0 := by omega
    exact ⟨by omega, ⟨_, _, _, hG4, Row.nil _ _ _ _, Row.nil _ _ _ _, Row.nil _ _ _ _⟩, World.ownsRow_nil _ _ _ _⟩
  · intro i j hi hj hne; omega
  · intro i j hi hj hne; omega
  · exact (((hba.trans (hb2.mono (by omega))).trans (hb3.mono (by omega)))).grown hg4 (by omega) (fun j hj => by injection hj with hj; omega)

set_option maxRecDepth 100000 in
theorem on_any {B : Nat} {w : World} {D M n : Nat} {nd : Nat → ND} {gs : Nat → Nat} {kvs : Nat → Value} (h : DomI B w D M n nd gs kvs) :
    Calls Tryz.prog 7 #[.pointer (some ⟨D, 0, none⟩)] w fun e w' => ∃ L, e = .returned (.pointer (some ⟨L, 0, none⟩)) ∧ LogI B w' L D M n nd gs kvs 0 ∧ Below w.heap.size w w' := by
  obtain ⟨w1, hw1, hL, hb1, hs1⟩ := one_new w #[.pointer (some ⟨D, 0, none⟩), .slice none 0 0] 53
  have HH := Lib.hid (And.intro (show LogI B w1 w.heap.size D M n nd gs kvs 0 from ⟨h.keep hb1, h.bnd, _, [], hL, World.ownsRow_nil _ _ _ _⟩) hb1)
  clear h hL hb1 hs1
  go_enter Tryz.func7, Tryz.ntmps7
  go_wp2_with fail
  go_ret
  rw [← hw1]
  exact ⟨_, rfl, HH.out.1, HH.out.2⟩

mutual
theorem goodT_st : ∀ (t : VT), All vb t → All nrm t → All okV t → tx t ≤ 1000000 → GoodT (stT t)
  | .mk d ks, h1, h2, h3, h4 => by
    have a1 := All.eq.1 h1
    have a2 := All.eq.1 h2
    have a3 := All.eq.1 h3
    rw [tx] at h4
    rw [stT, GoodT]
    refine ⟨?_, ?_, ?_, ?_⟩
    · unfold stD
      split
      · exact .inl ⟨rfl, rfl, rfl, rfl, rfl⟩
      · rename_i hk
        obtain ⟨o1, o2, o3, o4⟩ := a3.1 hk
        exact .inr ⟨rfl, rfl, o1, a2.1.1, o2, a2.1.2.1, o3, a2.1.2.2, o4⟩
    · unfold stD
      split
      · exact ⟨by simp, by simp, by simp, by show d.text.size ≤ _; omega⟩
      · exact ⟨a1.1.1, a1.1.2.1, a1.1.2.2, by show eb.size ≤ _; decide⟩
    · intro hk
      rw [if_pos]
      unfold stD at hk
      split at hk
      · assumption
      · cases hk
    · split
      · rw [GoodTs]; trivial
      · exact goodTs_st ks a1.2 a2.2 a3.2 (by omega)
theorem goodTs_st : ∀ (ts : List VT), Alls vb ts → Alls nrm ts → Alls okV ts → txs ts ≤ 1000000 → GoodTs (stTs ts)
  | [], _, _, _, _ => by rw [stTs, GoodTs]; trivial
  | t :: ts, h1, h2, h3, h4 => by
    rw [Alls] at h1 h2 h3
    rw [txs] at h4
    rw [stTs, GoodTs]
    exact ⟨goodT_st t h1.1 h2.1 h3.1 (by omega), goodTs_st ts h1.2 h2.2 h3.2 (by omega)⟩
end
mutual
theorem stT_size : ∀ t : VT, (stT t).size ≤ t.size
  | .mk d ks => by
    rw [stT, RT.size_eq, RT.size_eq]
    have := stTs_size ks
    show 1 + sizes (if d.kind = 1 then [] else stTs ks) ≤ 1 + sizes ks
    split
    · rw [sizes]; omega
    · omega
theorem stTs_size : ∀ ts : List VT, sizes (stTs ts) ≤ sizes ts
  | [] => by rw [stTs, sizes]; omega
  | t :: ts => by
    rw [stTs, sizes, sizes]
    have := stT_size t
    have := stTs_size ts
    omega
end
set_option maxRecDepth 100000 in
set_option maxHeartbeats 2000000 in
theorem stof_any (t : VT) (v : Value) (w : World) (hsz : t.size ≤ 1000) (htx : tx t ≤ 1000000) (hvb : All vb t) (hT : IsT vK w (Old w) t v) :
    Calls Tryz.prog 5 #[v] w (Hands (fun v' w' => ∃ t', NRel t t' ∧ IsT sK w' (Fresh w.heap.size w') (stT t') v') w) := by
  obtain ⟨A4, c4, vs, ⟨a1, a2, a3, rfl, hrows⟩, hvs, hks⟩ := IsT.eq.1 hT
  obtain ⟨A1, c1, A2, c2, A3, c3, rfl, rfl, rfl, r1, r2, r3⟩ := hrows
  obtain ⟨d, hd⟩ : ∃ d, d = t.dat := ⟨_, rfl⟩
  obtain ⟨kl, hkl⟩ : ∃ k, k = t.kids.length := ⟨_, rfl⟩
  rw [← hd, ← hkl] at hT ⊢
  clear r1 r2 r3 hvs hks hd hkl
  obtain ⟨w1, hw1, hX, hR, hB0, hs1⟩ := two_new w (vC d (.slice A1 d.cl.length c1) (.slice A2 d.at_.length c2) (.slice A3 d.st.length c3) (.slice A4 kl c4)).toArray zs_st 45 40
  have HT := Lib.hid ((hT.move (.of_below hB0 fun _ h => h)).weak (S' := Old w1) fun b hb => Nat.lt_of_lt_of_le hb hB0.size)
  unfold vV vC
  unfold vC zs_st at hw1
  clear hT
  go_enter Tryz.func5, Tryz.ntmps5
  go_upto_region 1 with fail
  rw [← hw1]
  obtain ⟨X, hXe⟩ : ∃ X, X = w.heap.size := ⟨_, rfl⟩
  rw [← hXe] at hX hR hs1 ⊢
  have HX := Lib.hid (And.intro hX (And.intro hR (And.intro hB0 (And.intro hXe hs1))))
  clear hX hR hB0 hXe hs1 hw1
  refine _root_.Go.wp_region_lit ?_
  refine wpList_load_row rfl 45 _ rfl X rfl 45 _ (0, 0) _ HX.out.1 Tryz.underlying45 rfl sz_vn ?_
  simp only [Act.put, List.setIfInBounds_toArray, List.set_cons_succ, List.set_cons_zero]
  refine wpList_call rfl (ex_c1 rfl rfl (enters Tryz.func25 (by kernel_rfl) rfl _ _) rfl) ((normal_any 1000 t _ w1 hsz (by omega) htx hvb HT.out).mono ?_)
  rintro e2 w2 ⟨v2, rfl, ⟨t2, hN2, hT2⟩, hb2⟩
  refine ⟨_, rfl, ?_⟩
  simp only [Act.put, List.setIfInBounds_toArray, List.set_cons_succ, List.set_cons_zero]
  refine wpList_call rfl (ex_c1 rfl rfl (enters Tryz.func24 (by kernel_rfl) rfl _ _) rfl) ((still_any 1000 t2 _ w2 (by have := hN2.size; omega) (by omega) hN2.few (hT2.weak fun b hb => hb.2)).mono ?_)
  rintro e3 w3 ⟨v3, rfl, hT3, hb3⟩
  refine ⟨_, rfl, ?_⟩
  simp only [Act.put, List.setIfInBounds_toArray, List.set_cons_succ, List.set_cons_zero]
  obtain ⟨J, j, js, ⟨j1, j2, j3, rfl, hr3⟩, _, _⟩ := IsT.eq.1 hT3
  obtain ⟨g1, g2, g3⟩ := hr3.forms
  obtain ⟨e, he⟩ : ∃ e, e = (stT t2).dat := ⟨_, rfl⟩
  obtain ⟨kv, hkv⟩ : ∃ kv, kv = Value.slice J (stT t2).kids.length j := ⟨_, rfl⟩
  rw [← he, ← hkv] at hT3 ⊢
  have hR3 := (HX.out.2.1.below hb2 HX.out.2.1.lt).below hb3 (Nat.lt_of_lt_of_le HX.out.2.1.lt hb2.size)
  refine wpList_store_blk rfl 40 _ _ rfl (X + 1) (sC e j1 j2 j3 kv).toArray rfl rfl 40 zs_st hR3 (by kernel_rfl) sz_st (sC_all g1 g2 g3 (by rw [hkv]; rfl)) ?_
  intro wf hRf hgf hsf
  refine wpList_nil ?_
  have hX2 := HX.out.2.2.2.2
  have hX1 := HX.out.2.2.2.1
  have hsz2 := hb2.size
  have hsz3 := hb3.size
  have hT4 := (hT3.move (.of_grown hgf fun b hb => ⟨hb.2, fun e => by cases e; have := hb.1; omega⟩)).weak (S' := Fresh w.heap.size wf) fun b hb => ⟨by have := hb.1; omega, by rw [hsf]; exact hb.2⟩
  have hB4 : Below w.heap.size w wf := ((HX.out.2.2.1.trans (hb2.mono HX.out.2.2.1.size)).trans (hb3.mono (by omega))).grown hgf (by omega) (fun j hj => by cases hj; omega)
  have HF := Lib.hid (And.intro hRf (And.intro hT4 (And.intro hB4 hN2)))
  clear hT4 hB4 hN2 hRf hgf hsf hX1 hX2 hsz2 hsz3 hR3 hT3 hr3 hT2 hb2 hb3 he hkv g1 g2 g3
  go_wp2_with fail
  exact bodyPost_ret (v := sV e j1 j2 j3 kv) (results_cell_row rfl _ _ (X + 1) 40 _ (0, 0) _ rfl HF.out.1 Tryz.underlying40 rfl sz_st) rfl ⟨_, rfl, ⟨t2, HF.out.2.2.2, HF.out.2.1⟩, HF.out.2.2.1⟩

end Go.Proofs.YtaalhglooipnaaaGreat
