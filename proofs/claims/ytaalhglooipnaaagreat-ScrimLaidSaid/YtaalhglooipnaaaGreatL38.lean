/-
  Trees out of rows of flats (layer 7's law): kids, Tree.
  Tree of layer 7's law: a view out of a row of flats.
  The root, and the tree laid below it: plain.
-/
import Derived.Test.YtaalhglooipnaaaGreatL37
import Derived.Test.YtaalhglooipnaaaGreatL33
import Derived.Test.YtaalhglooipnaaaGreatL34
import Derived.Test.YtaalhglooipnaaaGreatL36
namespace Go.Proofs.YtaalhglooipnaaaGreat
open Go.RowKit RT
attribute [local go_sem ↓] Go.wp_at_zero Go.wp_at_succ

/-- One flat that can be read. -/
def FlA (w : World) (S : Nat → Prop) (v : Value) : Prop := ∃ dp d A1 c1 A2 c2 A3 c3, v = fV dp d (.slice A1 d.cl.length c1) (.slice A2 d.at_.length c2) (.slice A3 d.st.length c3) ∧
  RdS cvS ByteArray.empty 1 w S A1 d.cl.length d.cl ∧ RdS St.cvP St.pr0 2 w S A2 d.at_.length d.at_ ∧ RdS cvP pr0 2 w S A3 d.st.length d.st
def FlR (w : World) (S : Nat → Prop) (A : Option Addr) (n : Nat) (vs : List Value) : Prop := Vs 14 w S A n vs ∧ ∀ v ∈ vs, FlA w S v
theorem FlR.move {w w' : World} {S : Nat → Prop} {A : Option Addr} {n : Nat} {vs : List Value} (h : FlR w S A n vs) (hb : Still S w w') : FlR w' S A n vs :=
  ⟨RdS.move h.1 hb, fun v hv => by
    obtain ⟨dp, d, A1, c1, A2, c2, A3, c3, e, h1, h2, h3⟩ := h.2 v hv
    exact ⟨dp, d, A1, c1, A2, c2, A3, c3, e, h1.move hb, h2.move hb, h3.move hb⟩⟩
theorem FlR.weak {w : World} {S S' : Nat → Prop} {A : Option Addr} {n : Nat} {vs : List Value} (h : FlR w S A n vs) (hb : ∀ b, S b → S' b) : FlR w S' A n vs :=
  ⟨RdS.weak h.1 hb, fun v hv => by
    obtain ⟨dp, d, A1, c1, A2, c2, A3, c3, e, h1, h2, h3⟩ := h.2 v hv
    exact ⟨dp, d, A1, c1, A2, c2, A3, c3, e, h1.weak hb, h2.weak hb, h3.weak hb⟩⟩
/-- Short texts, all the way down. -/
def txb (d : VD) : Prop := vb d ∧ shV d
/-- What kids hands back. -/
def KdPost (w : World) (n at_ : Nat) (e : Ending) (w' : World) : Prop := ∃ (at' : Nat) (ts : List VT) (v : Value) (us : List Value), e = .returned (.tuple #[v, .int .i64 (at' : Nat)]) ∧ at_ ≤ at' ∧ at' ≤ n ∧ sizes ts ≤ at' - at_ ∧ Alls txb ts ∧
  w'.ownsRow w.heap.size 32 14 v ts.length (us.flatMap (cvK 14)) ∧ IsTs vK2 w' (fun b => w.heap.size ≤ b ∧ b < w'.heap.size ∧ v.ownBlock ≠ some b) ts us ∧ Below w.heap.size w w'
theorem FlR.flat {w : World} {S : Nat → Prop} {A : Option Addr} {n : Nat} {vs : List Value} (h : FlR w S A n vs) (k : Nat) (hk : k < n) : ∃ dp d A1 c1 A2 c2 A3 c3 b off, A = some ⟨b, off, none⟩ ∧ S b ∧
    (∀ j, j < 14 → w.cell? ⟨b, off + k * 14 + j, none⟩ = (fC dp d (.slice A1 d.cl.length c1) (.slice A2 d.at_.length c2) (.slice A3 d.st.length c3))[j]?) ∧
    RdS cvS ByteArray.empty 1 w S A1 d.cl.length d.cl ∧ RdS St.cvP St.pr0 2 w S A2 d.at_.length d.at_ ∧ RdS cvP pr0 2 w S A3 d.st.length d.st := by
  obtain ⟨b, off, hA, hB, h0⟩ := h.1.2 k hk
  have hlen := h.1.1
  have hm : vs.getD k agg0 ∈ vs := by
    rw [List.getD, List.getElem?_eq_getElem (by omega)]
    exact List.getElem_mem _
  obtain ⟨dp, d, A1, c1, A2, c2, A3, c3, e, h1, h2, h3⟩ := h.2 _ hm
  refine ⟨dp, d, A1, c1, A2, c2, A3, c3, b, off, hA, hB, fun j hj => ?_, h1, h2, h3⟩
  rw [h0 j hj, e]
  rfl
theorem ld_fl {b o : Nat} {w : World} {v0 v1 v2 v3 v4 v5 v6 v7 v8 v9 v10 v11 v12 v13 : Value} (h0 : w.cell? ⟨b, o, none⟩ = some v0) (h1 : w.cell? ⟨b, o + 1, none⟩ = some v1) (h2 : w.cell? ⟨b, o + 2, none⟩ = some v2) (h3 : w.cell? ⟨b, o + 3, none⟩ = some v3) (h4 : w.cell? ⟨b, o + 4, none⟩ = some v4) (h5 : w.cell? ⟨b, o + 5, none⟩ = some v5) (h6 : w.cell? ⟨b, o + 6, none⟩ = some v6) (h7 : w.cell? ⟨b, o + 7, none⟩ = some v7) (h8 : w.cell? ⟨b, o + 8, none⟩ = some v8) (h9 : w.cell? ⟨b, o + 9, none⟩ = some v9) (h10 : w.cell? ⟨b, o + 10, none⟩ = some v10) (h11 : w.cell? ⟨b, o + 11, none⟩ = some v11) (h12 : w.cell? ⟨b, o + 12, none⟩ = some v12) (h13 : w.cell? ⟨b, o + 13, none⟩ = some v13) :
    (Instr.loadAt 82 (.pointer (some ⟨b, o, none⟩))).run Tryz.prog w = .ok (.agg #[v0, v1, v2, v3, v4, v5, v6, v7, v8, v9, v10, v11, v12, v13]) w := by go_simp
theorem ix_fl {b off k n c : Nat} (h : k < n) (w : World) : (Instr.indexAt 22 (.slice (some ⟨b, off, none⟩) n c) (.int .i64 (k : Nat))).run Tryz.prog w = .ok (.pointer (some ⟨b, off + k * 14, none⟩)) w := by
  have h0 : (0 : Int) ≤ (k : Int) := by omega
  have h1 : (k : Int) < (n : Int) := by omega
  go_simp
def KI (w2 : World) (ts : List VT) (us : List Value) (s3 : Value) (wx : World) : Prop :=
  Below w2.heap.size w2 wx ∧ wx.ownsRow w2.heap.size 32 14 s3 ts.length (us.flatMap (cvK 14)) ∧ IsTs vK2 wx (fun b => w2.heap.size ≤ b ∧ b < wx.heap.size ∧ s3.ownBlock ≠ some b) ts us
section
variable {w2 wr wz w5 : World} {ts : List VT} {us : List Value} {s3 v : Value}
theorem KI.keep (h : KI w2 ts us s3 wr) (hb : Below wr.heap.size wr wz) : KI w2 ts us s3 wz := by
  obtain ⟨h1, h2, h3⟩ := h
  exact ⟨h1.trans (hb.mono h1.size), own_keep h2 hb, (h3.move (.of_below hb fun b hb => hb.2.1)).weak fun b hb' => ⟨hb'.1, Nat.lt_of_lt_of_le hb'.2.1 hb.size, hb'.2.2⟩⟩
theorem KI.kid {t : VT} {v' : Value} (h : KI w2 ts us s3 wz) (ht : IsT vK2 wz (fun b => w2.heap.size ≤ b ∧ b < wz.heap.size ∧ s3.ownBlock ≠ some b) t v') (hg : wz.grownBy w5 s3.ownBlock)
    (hown : w5.ownsRow w2.heap.size 32 14 v (ts.length + 1) (us.flatMap (cvK 14) ++ cvK 14 v')) (hat : v.ownBlock = s3.ownBlock ∨ v.ownBlock = some wz.heap.size) : KI w2 (ts ++ [t]) (us ++ [v']) v w5 := by
  obtain ⟨h1, h2, h3⟩ := h
  refine ⟨h1.grown hg h1.size (fun j hj => (h2.lt j hj).1), ?_, ?_⟩
  · rw [List.length_append, List.flatMap_append]
    simpa using hown
  · have hw : ∀ b, (w2.heap.size ≤ b ∧ b < wz.heap.size ∧ s3.ownBlock ≠ some b) → (w2.heap.size ≤ b ∧ b < w5.heap.size ∧ v.ownBlock ≠ some b) := by
      intro b hb
      refine ⟨hb.1, Nat.lt_of_lt_of_le hb.2.1 hg.size, ?_⟩
      rcases hat with e | e
      · rw [e]; exact hb.2.2
      · rw [e]; have := hb.2.1; simp only [ne_eq, Option.some.injEq]; omega
    exact ((h3.move (.of_grown hg fun b hb => ⟨hb.2.1, fun e => hb.2.2 e.symm⟩)).weak hw).snoc ((ht.move (.of_grown hg fun b hb => ⟨hb.2.1, fun e => hb.2.2 e.symm⟩)).weak hw)
end

theorem rn_info : (Tryz.prog.info? 32).map (fun i => (i.zero, i.size, i.bytes)) = some (some (.agg zs_rn), 14, 192) := by kernel_rfl
set_option maxRecDepth 100000 in
set_option maxHeartbeats 8000000 in
theorem kids_any (m : Nat) : ∀ (A : Option Addr) (n c at_ : Nat) (dp : Int) (vs : List Value) (w : World), n - at_ < m → at_ ≤ n → n ≤ 20 → FlR w (Old w) A n vs →
    Calls Tryz.prog 23 #[.slice A n c, .int .i64 (at_ : Nat), .int .i64 dp] w (KdPost w n at_) := by
  induction m with
  | zero => intro A n c at_ dp vs w hm; omega
  | succ m ih =>
    intro A n c at_ dp vs w hm hat hn hF
    have HF := Lib.hid hF
    clear hF
    go_enter Tryz.func23, Tryz.ntmps23
    go_wp2_with fail
    go_loopw [1, 8] (fun i vo wx => ∃ (at' : Nat) (ts : List VT) (us : List Value), at_ ≤ at' ∧ at' ≤ n ∧ i = .int .i64 (at' : Nat) ∧ sizes ts ≤ at' - at_ ∧ Alls txb ts ∧ wx.ownsRow w.heap.size 32 14 vo ts.length (us.flatMap (cvK 14)) ∧ IsTs vK2 wx (fun b => w.heap.size ≤ b ∧ b < wx.heap.size ∧ vo.ownBlock ≠ some b) ts us ∧ Below w.heap.size w wx) (fun i _ _ => n - (intOf i).toNat)
    case atStart => exact ⟨at_, [], [], Nat.le_refl _, hat, rfl, by rw [sizes]; omega, by rw [Alls]; trivial, World.ownsRow_nil _ _ _ _, IsTs.nil, Below.refl _ _⟩
    case round =>
      obtain ⟨k, ts, us, hk1, hk2, rfl, hsz, hal, hown, hts, hb⟩ := hrel
      obtain ⟨vo, hvo⟩ : ∃ vo, vo = u8 := ⟨_, rfl⟩
      rw [← hvo] at hown hts ⊢
      clear hvo
      by_cases hlt : k < n
      · obtain ⟨dk, d, A1, c1, A2, c2, A3, c3, b, off, rfl, hbB, h0, r1, r2, r3⟩ := (HF.out.move (.of_below hb fun _ h => h)).flat k hlt
        have i1 : (0 : Int) ≤ (k : Int) := by omega
        have i2 : (k : Int) < (n : Int) := by omega
        have d0 := h0 0 (by omega)
        have d1 := h0 1 (by omega)
        have d2 := h0 2 (by omega)
        have d3 := h0 3 (by omega)
        have d4 := h0 4 (by omega)
        have d5 := h0 5 (by omega)
        have d6 := h0 6 (by omega)
        have d7 := h0 7 (by omega)
        have d8 := h0 8 (by omega)
        have d9 := h0 9 (by omega)
        have d10 := h0 10 (by omega)
        have d11 := h0 11 (by omega)
        have d12 := h0 12 (by omega)
        have d13 := h0 13 (by omega)
        have hld := ld_fl d0 d1 d2 d3 d4 d5 d6 d7 d8 d9 d10 d11 d12 d13
        by_cases hdp : dp < dk
        · have e0 : wr.cell? ⟨b, off + k * 14, none⟩ = some (.int .i64 dk) := d0
          have hnd := node_any dk d A1 A2 A3 c1 c2 c3 wr (r1.weak fun b h => Nat.lt_of_lt_of_le h hb.size) (r2.weak fun b h => Nat.lt_of_lt_of_le h hb.size) (r3.weak fun b h => Nat.lt_of_lt_of_le h hb.size)
          have HND := Lib.hid hnd
          have HLD := Lib.hid hld
          have HI := Lib.hid (And.intro hsz (And.intro hal (And.intro hown (And.intro hts hb))))
          clear hnd hld d0 d1 d2 d3 d4 d5 d6 d7 d8 d9 d10 d11 d12 d13 h0 r1 r2 r3 hsz hal hown hts hb
          go_upto_region 3 with fail
          refine _root_.Go.wp_region_lit ?_
          refine wpList_val rfl (ex_mv rfl rfl) ?_
          refine wpList_val rfl (ex_mv rfl rfl) ?_
          refine wpList_val rfl (ex_idx rfl rfl rfl (ix_fl hlt _)) ?_
          refine wpList_val rfl (ex_ld rfl rfl HLD.out) ?_
          simp only [Act.put, List.setIfInBounds_toArray, List.set_cons_succ, List.set_cons_zero]
          refine wpList_call rfl (ex_c1 rfl rfl (enters Tryz.func22 (by kernel_rfl) rfl _ _) rfl) (HND.out.mono ?_)
          rintro e5 w5 ⟨v5, rfl, ⟨d5, hvb5, htx5, hT5⟩, hb5⟩
          refine ⟨_, rfl, ?_⟩
          simp only [Act.put, List.setIfInBounds_toArray, List.set_cons_succ, List.set_cons_zero]
          obtain ⟨J, j, js, ⟨⟨j1, j2, j3, rfl, hr5⟩, _⟩, hvs5, _⟩ := IsT.eq.1 hT5
          obtain ⟨g1, g2, g3⟩ := hr5.forms
          refine wpList_val rfl (ex_alc rfl (al_rn _)) ?_
          simp only [Act.put, List.setIfInBounds_toArray, List.set_cons_succ, List.set_cons_zero]
          obtain ⟨w6, hw6, hN6, hb6, hs6⟩ := one_new w5 zs_rn 32
          rw [← hw6]
          obtain ⟨N, hNe⟩ : ∃ N, N = w5.heap.size := ⟨_, rfl⟩
          rw [← hNe] at hN6 ⊢
          refine wpList_store_blk rfl 32 _ _ rfl N (vC d5 j1 j2 j3 (.slice J 0 j)).toArray rfl rfl 32 zs_rn hN6 rfl (by kernel_rfl) (vC_all g1 g2 g3 rfl) ?_
          intro w7 hN7 hg7 hs7
          refine wpList_nil ?_
          simp only [Act.put, List.setIfInBounds_toArray, List.set_cons_succ, List.set_cons_zero]
          have hb7 : Below w5.heap.size w5 w7 := hb6.grown hg7 hb6.size (fun j hj => by cases hj; omega)
          have HN := Lib.hid (And.intro hN7 (And.intro (hr5.move (Fresh.still hb7)) (And.intro (hb5.trans (hb7.mono hb5.size)) (And.intro hNe (And.intro hvb5 (And.intro htx5 hb5.size))))))
          have e0b : w7.cell? ⟨b, off + k * 14, none⟩ = some (.int .i64 dk) := ((hb5.trans (hb7.mono hb5.size)).cell (p := ⟨b, off + k * 14, none⟩) (Nat.lt_of_lt_of_le hbB HI.out.2.2.2.2.size)).trans e0
          clear hw6 hN6 hb6 hs6 hNe hN7 hg7 hs7 hb7 hb5 hvb5 htx5 hT5 hr5 hvs5 g1 g2 g3 e0
          go_wp2_with fail
          have hW7 : Below w.heap.size w w7 := HI.out.2.2.2.2.trans (HN.out.2.2.1.mono HI.out.2.2.2.2.size)
          refine (ih _ n c (k + 1) dk vs w7 (by omega) (by omega) hn ((HF.out.move (.of_below hW7 fun _ h => h)).weak fun b h => Nat.lt_of_lt_of_le h hW7.size)).mono ?_
          rintro e8 w8 ⟨k', ts', v8, us', rfl, a1, a2, a3, a4, a5, a6, hb8⟩
          obtain ⟨A8, c8, rfl⟩ := own_form a5
          have hN8 := HN.out.1.below hb8 HN.out.1.lt
          have q13 : w8.cell? ⟨N, 13, none⟩ = some (.slice J 0 j) := hN8.cell 13
          have f13 := hN8.frozen 13
          have H8 := Lib.hid (And.intro hN8 (And.intro (And.intro a1 (And.intro a2 (And.intro a3 a4))) (And.intro a5 (And.intro a6 hb8))))
          have HW7 := Lib.hid hW7
          clear hN8 a1 a2 a3 a4 a5 a6 hb8 hW7
          go_upto_region 5 with fail
          have hN9 := H8.out.1.set_ 13 (.slice A8 ts'.length c8)
          have hc9 : Chg (· = N) w8 (w8.setCell ⟨N, 13, none⟩ (.slice A8 ts'.length c8)) := Chg.set (T := (· = N)) rfl _ _ _
          generalize w8.setCell ⟨N, 13, none⟩ (.slice A8 ts'.length c8) = w9 at hN9 hc9 ⊢
          replace hN9 : Blk w9 N 32 (vC d5 j1 j2 j3 (.slice A8 ts'.length c8)).toArray := hN9
          have hNn := HN.out.2.2.2.1
          have hNw : wr.heap.size ≤ N := by rw [hNn]; exact HN.out.2.2.2.2.2.2
          have hb8 := H8.out.2.2.2.2
          have hb9 : Below wr.heap.size wr w9 := (HN.out.2.2.1.trans (hb8.mono HN.out.2.2.1.size)).trans (hc9.below (Nat.le_trans HN.out.2.2.1.size hb8.size) fun i hi => by rw [hi]; exact hNw)
          have hT9 : IsT vK2 w9 (Fresh wr.heap.size w9) (.mk d5 ts') (vV d5 j1 j2 j3 (.slice A8 ts'.length c8)) := by
            rw [IsT.eq]
            have hr := HN.out.2.1
            have h5 := H8.out.2.2.1
            have h6 := H8.out.2.2.2.1
            have hNlt := HN.out.1.lt
            have hbs := hb8.size
            have hcs := hc9.size
            have hws := HN.out.2.2.1.size
            refine ⟨A8, c8, us', ⟨⟨j1, j2, j3, rfl, ?_⟩, A8, _, c8, rfl, own_capn h5⟩, ?_, ?_⟩
            · exact ((hr.move (.of_below hb8 fun b hb => by have := hb.2; omega)).move (hc9.still fun b hb => ⟨by have := hb.2; omega, fun e => by have := hb.2; omega⟩)).weak fun b hb => ⟨hb.1, by have := hb.2; omega⟩
            · exact ((RdS.of_own (fun _ _ => cvK_len 14 _) h5 h6.len).move (hc9.still fun b hb => ⟨hb.2, fun e => by have := hb.1; omega⟩)).weak fun b hb => ⟨by have := hb.1; omega, by have := hb.2; omega⟩
            · exact (h6.move (hc9.still fun b hb => ⟨hb.2.1, fun e => by have := hb.1; omega⟩)).weak fun b hb => ⟨by have := hb.1; omega, by have := hb.2.1; omega⟩
          have hKI : KI w ts us vo wr := ⟨HI.out.2.2.2.2, HI.out.2.2.1, HI.out.2.2.2.1⟩
          have HA := Lib.hid (And.intro hN9 (And.intro hT9 (And.intro hb9 hKI)))
          clear hN9 hT9 hb9 hKI hc9 hNn hNw hb8 q13 f13
          obtain ⟨trr, htir, hzr0, hzr1, hzr2⟩ := info_parts rn_info
          refine _root_.Go.wp_region_lit ?_
          refine wpList_val rfl (ex_mv rfl rfl) ?_
          refine wpList_load_row rfl 32 _ rfl N rfl 32 _ (0, 0) _ HA.out.1 Tryz.underlying32 rfl sz_rn ?_
          simp only [Act.put, List.setIfInBounds_toArray, List.set_cons_succ, List.set_cons_zero]
          refine wpList_val rfl (ex_bsl1 rfl rfl (bs_rn _ _ _ _ _ _ _ _ _ _ _ _ _ _ w9)) ?_
          simp only [Act.put, List.setIfInBounds_toArray, List.set_cons_succ, List.set_cons_zero]
          have hle : w.heap.size ≤ wr.heap.size := HI.out.2.2.2.2.size
          have hsz9 : wr.heap.size ≤ w9.heap.size := HA.out.2.2.1.size
          obtain ⟨w10, hw10, hB10, hb10, hs10⟩ := one_new w9 (vC d5 j1 j2 j3 (.slice A8 ts'.length c8)).toArray 32
          unfold vC at hw10
          rw [← hw10]
          obtain ⟨g3, hg3⟩ : ∃ g3, g3 = w9.heap.size := ⟨_, rfl⟩
          rw [← hg3] at hB10 ⊢
          have hK10 := HA.out.2.2.2.keep (HA.out.2.2.1.trans (hb10.mono hsz9))
          have hlen : ts.length ≤ 20 := by have := sizes_len ts; have := HI.out.1; omega
          have HB := Lib.hid (And.intro hK10 (And.intro hB10 ((HA.out.2.1.fresh hb10).weak (S' := fun b => w.heap.size ≤ b ∧ b < w10.heap.size ∧ vo.ownBlock ≠ some b) fun b hb => ⟨Nat.le_trans hle hb.1, hb.2, fun e => by have := (HI.out.2.2.1.lt b e).2; have := hb.1; omega⟩)))
          have hz10 : w.heap.size ≤ w10.heap.size := by have := hb10.size; omega
          clear hw10 hs10 hB10 hg3 hb10 hK10 hle hsz9
          refine wpList_append_lies _ rfl _ _ _ rfl w.heap.size 32 trr _ 14 192 Tryz.underlying30 htir hzr0 hzr1 hzr2 rfl (by decide) vo ts.length _ rfl HB.out.1.2.1 ⟨g3, 0, none⟩ 1 1 (cvK 14 (vV d5 j1 j2 j3 (.slice A8 ts'.length c8))) rfl (cvK_len 14 _) (news_at HB.out.2.1) (IsT.one_v HB.out.2.2.vk) (by omega) (by unfold maxLen; omega) (by omega) hz10 _ rfl ?_
          intro g cap w11 hown hg hat hlt11
          have HS := Lib.hid (HB.out.1.kid HB.out.2.2 hg hown (by rcases hat with h | h; exact .inl h.symm; exact .inr (by rw [h]; rfl)))
          have HR1 := Lib.hid (show at_ ≤ k' ∧ k' ≤ n ∧ sizes (ts ++ [RT.mk d5 ts']) ≤ k' - at_ ∧ Alls txb (ts ++ [RT.mk d5 ts']) by
            have h8 := H8.out.2.1
            have h1 := HI.out.1
            refine ⟨by omega, h8.2.1, ?_, Alls.app.2 ⟨HI.out.2.1, Alls.one.2 (All.eq.2 ⟨⟨HN.out.2.2.2.2.1, HN.out.2.2.2.2.2.1⟩, h8.2.2.2⟩)⟩⟩
            rw [sizes_app, sizes_one, RT.size_eq]
            show sizes ts + (1 + sizes ts') ≤ _
            omega)
          clear hown hg hat hlt11 htir hzr0 hzr1 hzr2 hz10
          go_wp2_with fail
          go_roundw
          case rel =>
            exact ⟨k', _, _, HR1.out.1, HR1.out.2.1, by go_num, HR1.out.2.2.1, HR1.out.2.2.2, HS.out.2.1, HS.out.2.2, HS.out.1⟩
          case measure => have := H8.out.2.1.1; simp [intOf]; omega
        · have e0 : wr.cell? ⟨b, off + k * 14, none⟩ = some (.int .i64 dk) := d0
          have i3 : decide (dp < dk) = false := by simp; omega
          obtain ⟨A9, c9, rfl⟩ := own_form hown
          have HE := Lib.hid (And.intro hsz (And.intro hal (And.intro hown (And.intro hts hb))))
          clear d0 d1 d2 d3 d4 d5 d6 d7 d8 d9 d10 d11 d12 d13 h0 r1 r2 r3 hsz hal hown hts hb hdp hld
          go_wp2_with fail
          exact bodyPost_ret (v := .tuple #[.slice A9 ts.length c9, .int .i64 (k : Nat)]) (by simp [results, Tryz.results23, go_sem]) rfl ⟨k, ts, _, us, rfl, hk1, hk2, HE.out.1, HE.out.2.1, HE.out.2.2.1, HE.out.2.2.2.1, HE.out.2.2.2.2⟩
      · have i3 : decide ((k : Int) < (n : Int)) = false := by simp; omega
        have i4 : decide (k < n) = false := by simp; omega
        obtain ⟨A9, c9, rfl⟩ := own_form hown
        have HE := Lib.hid (And.intro hsz (And.intro hal (And.intro hown (And.intro hts hb))))
        clear hsz hal hown hts hb hlt
        go_wp2_with fail
        exact bodyPost_ret (v := .tuple #[.slice A9 ts.length c9, .int .i64 (k : Nat)]) (by simp [results, Tryz.results23, go_sem]) rfl ⟨k, ts, _, us, rfl, hk1, hk2, HE.out.1, HE.out.2.1, HE.out.2.2.1, HE.out.2.2.2.1, HE.out.2.2.2.2⟩

end Go.Proofs.YtaalhglooipnaaaGreat
namespace Go.Proofs.YtaalhglooipnaaaGreat
open Go.RowKit RT
attribute [local go_sem ↓] Go.wp_at_zero Go.wp_at_succ

def TrPost (w : World) (v : Value) (w' : World) : Prop := ∃ t : VT, t.size ≤ 20 ∧ All txb t ∧ IsT vK2 w' (Fresh w.heap.size w') t v
/-- The view of no flats. -/
def vd0 : VD := ⟨2, ⟨#[112]⟩, ByteArray.empty, ByteArray.empty, [], [], [], (0, 0, 0, 0, false, false)⟩
theorem FlR.cut {w : World} {S : Nat → Prop} {A : Option Addr} {n m : Nat} {vs : List Value} (h : FlR w S A n vs) (hm : m ≤ n) : FlR w S A m (vs.take m) := by
  obtain ⟨⟨h1, h2⟩, h3⟩ := h
  refine ⟨⟨by rw [List.length_take]; omega, fun k hk => ?_⟩, fun v hv => h3 v (List.mem_of_mem_take hv)⟩
  obtain ⟨b, off, hA, hB, h0⟩ := h2 k (by omega)
  refine ⟨b, off, hA, hB, fun j hj => ?_⟩
  rw [h0 j hj, List.getD, List.getD, List.getElem?_take_of_lt hk]
theorem vd0_is (w : World) (S : Nat → Prop) : IsT vK2 w S (.mk vd0 []) (vV vd0 (.slice none 0 0) (.slice none 0 0) (.slice none 0 0) (.slice none 0 0)) := by
  rw [IsT.eq]
  exact ⟨none, 0, [], ⟨⟨_, _, _, rfl, none, 0, none, 0, none, 0, rfl, rfl, rfl, .nil _ _ _, .nil _ _ _, .nil _ _ _⟩, none, 0, 0, rfl, Nat.le_refl _⟩, .nil _ _ _, IsTs.nil⟩
theorem vd0_txb : All txb (.mk vd0 []) := by
  rw [All, Alls]
  refine ⟨⟨⟨by decide, by decide, by decide⟩, by decide, by decide, by decide, ?_, ?_, ?_⟩, trivial⟩
  · intro s h; cases h
  · intro s h; cases h
  · intro s h; cases h
theorem bld_p (w : World) : (Instr.build 32 #[(0, .int .i64 2), (1, .string ⟨#[112]⟩)]).run Tryz.prog w = .ok (vV vd0 (.slice none 0 0) (.slice none 0 0) (.slice none 0 0) (.slice none 0 0)) w := by
  go_simp
  rfl
set_option maxRecDepth 100000 in
set_option maxHeartbeats 8000000 in
theorem tree_any (A : Option Addr) (n c : Nat) (vs : List Value) (w : World) (hc : n ≤ c) (hF : FlR w (Old w) A n vs) :
    Calls Tryz.prog 4 #[.slice A n c, .int .i64 20] w (Hands (TrPost w) w) := by
  have HF := Lib.hid hF
  clear hF
  obtain ⟨w1, hw1, hR, hB0, hs1⟩ := one_new w zs_rn 32
  unfold zs_rn at hw1
  go_enter Tryz.func4, Tryz.ntmps4
  go_upto_if 9 with fail
  go_cut [0, 4] (fun s0 s4 wx => ∃ m vs', s0 = .slice A m c ∧ s4 = .pointer (some ⟨w.heap.size, 0, none⟩) ∧ m ≤ 20 ∧ FlR w (Old w) A m vs' ∧ wx = w1)
  case first =>
    by_cases h : 20 < n
    · have hi : (20 : Int) < (n : Int) := by omega
      have hi2 : (20 : Int) ≤ (c : Int) := by omega
      obtain ⟨b, off, hA, _, _⟩ := HF.out.1.2 0 (by omega)
      subst hA
      go_wp2_with fail
      go_meet
      exact ⟨20, vs.take 20, rfl, rfl, Nat.le_refl _, HF.out.cut (by omega), hw1.symm⟩
    · have hi : (n : Int) ≤ 20 := by omega
      have HN := Lib.hid (show n ≤ 20 by omega)
      clear h hc
      go_wp2_with fail
      go_meet
      exact ⟨n, vs, rfl, rfl, HN.out, HF.out, hw1.symm⟩
  case rest =>
    obtain ⟨m, vs', rfl, rfl, hm, hF, rfl⟩ := hcut
    obtain ⟨X, hXe⟩ : ∃ X, X = w.heap.size := ⟨_, rfl⟩
    have HX := Lib.hid (And.intro hXe (And.intro hB0 hs1))
    rw [← hXe] at hR ⊢
    clear hc hw1 hXe hB0 hs1
    by_cases h0 : m = 0
    · subst h0
      clear hF hm
      go_upto_region 4 with fail
      refine _root_.Go.wp_region_lit ?_
      refine wpList_val rfl (ex_bld2 rfl rfl rfl (bld_p wc)) ?_
      simp only [Act.put, List.setIfInBounds_toArray, List.set_cons_succ, List.set_cons_zero]
      refine wpList_store_blk rfl 32 _ _ rfl X (vC vd0 (.slice none 0 0) (.slice none 0 0) (.slice none 0 0) (.slice none 0 0)).toArray rfl rfl 32 zs_rn hR rfl (by kernel_rfl) (vC_all rfl rfl rfl rfl) ?_
      intro wf hRf hgf hsf
      refine wpList_nil ?_
      simp only [Act.put, List.setIfInBounds_toArray, List.set_cons_succ, List.set_cons_zero]
      have HF := Lib.hid (And.intro hRf ((HX.out.2.1.grown hgf (by have := HX.out.2.2; omega) (fun j hj => by cases hj; have := HX.out.1; omega))))
      clear hRf hgf hsf
      go_wp2_with fail
      exact bodyPost_ret (v := vV vd0 (.slice none 0 0) (.slice none 0 0) (.slice none 0 0) (.slice none 0 0)) (results_cell_row rfl _ _ X 32 _ (0, 0) _ rfl HF.out.1 Tryz.underlying32 rfl sz_rn) rfl ⟨_, rfl, ⟨.mk vd0 [], by decide, vd0_txb, vd0_is _ _⟩, HF.out.2⟩
    · obtain ⟨dk, d, A1, c1, A2, c2, A3, c3, b, off, rfl, hbB, h0', r1, r2, r3⟩ := hF.flat 0 (by omega)
      have i1 : ¬ ((m : Int) = 0) := by omega
      have d0 := h0' 0 (by omega)
      have d1 := h0' 1 (by omega)
      have d2 := h0' 2 (by omega)
      have d3 := h0' 3 (by omega)
      have d4 := h0' 4 (by omega)
      have d5 := h0' 5 (by omega)
      have d6 := h0' 6 (by omega)
      have d7 := h0' 7 (by omega)
      have d8 := h0' 8 (by omega)
      have d9 := h0' 9 (by omega)
      have d10 := h0' 10 (by omega)
      have d11 := h0' 11 (by omega)
      have d12 := h0' 12 (by omega)
      have d13 := h0' 13 (by omega)
      have hB0 := HX.out.2.1
      have hcl : ∀ j, wc.cell? ⟨b, j, none⟩ = w.cell? ⟨b, j, none⟩ := fun j => hB0.cell (p := ⟨b, j, none⟩) hbB
      rw [← hcl] at d0 d1 d2 d3 d4 d5 d6 d7 d8 d9 d10 d11 d12 d13
      have hld := ld_fl d0 d1 d2 d3 d4 d5 d6 d7 d8 d9 d10 d11 d12 d13
      have e0 : wc.cell? ⟨b, off + 0 * 14, none⟩ = some (.int .i64 dk) := d0
      have hnd := node_any dk d A1 A2 A3 c1 c2 c3 wc ((r1.move (w' := wc) (.of_below hB0 fun _ h => h)).weak fun b h => Nat.lt_of_lt_of_le h hB0.size) ((r2.move (w' := wc) (.of_below hB0 fun _ h => h)).weak fun b h => Nat.lt_of_lt_of_le h hB0.size) ((r3.move (w' := wc) (.of_below hB0 fun _ h => h)).weak fun b h => Nat.lt_of_lt_of_le h hB0.size)
      have HND := Lib.hid hnd
      have HLD := Lib.hid hld
      have HFF := Lib.hid ((hF.move (w' := wc) (.of_below hB0 fun _ h => h)).weak (S' := Old wc) fun b h => Nat.lt_of_lt_of_le h hB0.size)
      have hlt : 0 < m := by omega
      have hbB2 : b < wc.heap.size := Nat.lt_of_lt_of_le hbB hB0.size
      clear hnd hld d0 d1 d2 d3 d4 d5 d6 d7 d8 d9 d10 d11 d12 d13 h0' r1 r2 r3 hF hcl hB0 h0
      go_upto_region 5 with fail
      refine _root_.Go.wp_region_lit ?_
      refine wpList_val rfl (ex_mv rfl rfl) ?_
      refine wpList_val rfl (ex_idx rfl rfl rfl (ix_fl hlt _)) ?_
      refine wpList_val rfl (ex_ld rfl rfl HLD.out) ?_
      simp only [Act.put, List.setIfInBounds_toArray, List.set_cons_succ, List.set_cons_zero]
      refine wpList_call rfl (ex_c1 rfl rfl (enters Tryz.func22 (by kernel_rfl) rfl _ _) rfl) (HND.out.mono ?_)
      rintro e5 w5 ⟨v5, rfl, ⟨d5, hvb5, htx5, hT5⟩, hb5⟩
      refine ⟨_, rfl, ?_⟩
      simp only [Act.put, List.setIfInBounds_toArray, List.set_cons_succ, List.set_cons_zero]
      obtain ⟨J, j, js, ⟨⟨j1, j2, j3, rfl, hr5⟩, _⟩, hvs5, _⟩ := IsT.eq.1 hT5
      obtain ⟨g1, g2, g3⟩ := hr5.forms
      refine wpList_val rfl (ex_alc rfl (al_rn _)) ?_
      simp only [Act.put, List.setIfInBounds_toArray, List.set_cons_succ, List.set_cons_zero]
      obtain ⟨w6, hw6, hN6, hb6, hs6⟩ := one_new w5 zs_rn 32
      rw [← hw6]
      obtain ⟨N, hNe⟩ : ∃ N, N = w5.heap.size := ⟨_, rfl⟩
      rw [← hNe] at hN6 ⊢
      refine wpList_store_blk rfl 32 _ _ rfl N (vC d5 j1 j2 j3 (.slice J 0 j)).toArray rfl rfl 32 zs_rn hN6 rfl (by kernel_rfl) (vC_all g1 g2 g3 rfl) ?_
      intro w7 hN7 hg7 hs7
      refine wpList_nil ?_
      simp only [Act.put, List.setIfInBounds_toArray, List.set_cons_succ, List.set_cons_zero]
      have hb7 : Below w5.heap.size w5 w7 := hb6.grown hg7 hb6.size (fun j hj => by cases hj; omega)
      have hW7 : Below wc.heap.size wc w7 := hb5.trans (hb7.mono hb5.size)
      have HN := Lib.hid (And.intro hN7 (And.intro (hr5.move (Fresh.still hb7)) (And.intro hW7 (And.intro hNe (And.intro hvb5 (And.intro htx5 (And.intro hb5.size (hR.below hW7 hR.lt))))))))
      have e0b : w7.cell? ⟨b, off, none⟩ = some (.int .i64 dk) := (hW7.cell (p := ⟨b, off + 0 * 14, none⟩) hbB2).trans e0
      clear hw6 hN6 hb6 hs6 hNe hN7 hg7 hs7 hb7 hb5 hvb5 htx5 hT5 hr5 hvs5 g1 g2 g3 e0 hW7 hR
      go_wp2_with fail
      refine (kids_any 21 _ m c 1 dk vs' w7 (by omega) (by omega) hm ((HFF.out.move (.of_below HN.out.2.2.1 fun _ h => h)).weak fun b h => Nat.lt_of_lt_of_le h HN.out.2.2.1.size)).mono ?_
      rintro e8 w8 ⟨k', ts', v8, us', rfl, a1, a2, a3, a4, a5, a6, hb8⟩
      obtain ⟨A8, c8, rfl⟩ := own_form a5
      have hN8 := HN.out.1.below hb8 HN.out.1.lt
      have q13 : w8.cell? ⟨N, 13, none⟩ = some (.slice J 0 j) := hN8.cell 13
      have f13 := hN8.frozen 13
      have H8 := Lib.hid (And.intro hN8 (And.intro (And.intro a1 (And.intro a2 (And.intro a3 a4))) (And.intro a5 (And.intro a6 hb8))))
      clear hN8 a1 a2 a3 a4 a5 a6 hb8
      go_upto_region 7 with fail
      have hN9 := H8.out.1.set_ 13 (.slice A8 ts'.length c8)
      have hc9 : Chg (· = N) w8 (w8.setCell ⟨N, 13, none⟩ (.slice A8 ts'.length c8)) := Chg.set (T := (· = N)) rfl _ _ _
      generalize w8.setCell ⟨N, 13, none⟩ (.slice A8 ts'.length c8) = w9 at hN9 hc9 ⊢
      replace hN9 : Blk w9 N 32 (vC d5 j1 j2 j3 (.slice A8 ts'.length c8)).toArray := hN9
      have hNn := HN.out.2.2.2.1
      have hNw : wc.heap.size ≤ N := by rw [hNn]; exact HN.out.2.2.2.2.2.2.1
      have hb8 := H8.out.2.2.2.2
      have hb9 : Below wc.heap.size wc w9 := (HN.out.2.2.1.trans (hb8.mono HN.out.2.2.1.size)).trans (hc9.below (Nat.le_trans HN.out.2.2.1.size hb8.size) fun i hi => by rw [hi]; exact hNw)
      have hT9 : IsT vK2 w9 (Fresh wc.heap.size w9) (.mk d5 ts') (vV d5 j1 j2 j3 (.slice A8 ts'.length c8)) := by
        rw [IsT.eq]
        have hr := HN.out.2.1
        have h5 := H8.out.2.2.1
        have h6 := H8.out.2.2.2.1
        have hNlt := HN.out.1.lt
        have hbs := hb8.size
        have hcs := hc9.size
        have hws := HN.out.2.2.1.size
        refine ⟨A8, c8, us', ⟨⟨j1, j2, j3, rfl, ?_⟩, A8, _, c8, rfl, own_capn h5⟩, ?_, ?_⟩
        · exact ((hr.move (.of_below hb8 fun b hb => by have := hb.2; omega)).move (hc9.still fun b hb => ⟨by have := hb.2; omega, fun e => by have := hb.2; omega⟩)).weak fun b hb => ⟨hb.1, by have := hb.2; omega⟩
        · exact ((RdS.of_own (fun _ _ => cvK_len 14 _) h5 h6.len).move (hc9.still fun b hb => ⟨hb.2, fun e => by have := hb.1; omega⟩)).weak fun b hb => ⟨by have := hb.1; omega, by have := hb.2; omega⟩
        · exact (h6.move (hc9.still fun b hb => ⟨hb.2.1, fun e => by have := hb.1; omega⟩)).weak fun b hb => ⟨by have := hb.1; omega, by have := hb.2.1; omega⟩
      have hR9 := (HN.out.2.2.2.2.2.2.2.below hb8 HN.out.2.2.2.2.2.2.2.lt)
      have hX1 := HX.out.1
      have hX2 := HX.out.2.2
      replace hR9 : Blk w9 X 32 zs_rn := hc9.blk hR9 (by omega)
      have HA := Lib.hid (And.intro hN9 (And.intro hT9 (And.intro hb9 hR9)))
      clear hN9 hT9 hb9 hR9 hc9 hNn hNw hb8 q13 f13
      refine _root_.Go.wp_region_lit ?_
      refine wpList_load_row rfl 32 _ rfl N rfl 32 _ (0, 0) _ HA.out.1 Tryz.underlying32 rfl sz_rn ?_
      simp only [Act.put, List.setIfInBounds_toArray, List.set_cons_succ, List.set_cons_zero]
      refine wpList_store_blk rfl 32 _ _ rfl X (vC d5 j1 j2 j3 (.slice A8 ts'.length c8)).toArray rfl rfl 32 zs_rn HA.out.2.2.2 rfl (by kernel_rfl) (vV_one HA.out.2.1.vk) ?_
      intro wf hRf hgf hsf
      refine wpList_nil ?_
      simp only [Act.put, List.setIfInBounds_toArray, List.set_cons_succ, List.set_cons_zero]
      have hT := HA.out.2.1
      have hT2 := (hT.move (.of_grown hgf fun b hb => ⟨hb.2, fun e => by cases e; have := hb.1; omega⟩)).weak (S' := Fresh w.heap.size wf) fun b hb => ⟨by have := hb.1; omega, by rw [hsf]; exact hb.2⟩
      have hB2 : Below w.heap.size w wf := (HX.out.2.1.trans (HA.out.2.2.1.mono HX.out.2.1.size)).grown hgf (by have := HA.out.2.2.1.size; omega) (fun j hj => by cases hj; omega)
      have hsz : (RT.mk d5 ts').size ≤ 20 := by
        rw [RT.size]
        have := H8.out.2.1.2.2.1
        have := H8.out.2.1.2.1
        omega
      have HF2 := Lib.hid (And.intro hRf (And.intro hT2 (And.intro hB2 (And.intro hsz (show All txb (.mk d5 ts') from All.eq.2 ⟨⟨HN.out.2.2.2.2.1, HN.out.2.2.2.2.2.1⟩, H8.out.2.1.2.2.2⟩)))))
      clear hT hT2 hB2 hgf hsf hRf hX1 hX2 hsz
      go_wp2_with fail
      exact bodyPost_ret (v := vV d5 j1 j2 j3 (.slice A8 ts'.length c8)) (results_cell_row rfl _ _ X 32 _ (0, 0) _ rfl HF2.out.1 Tryz.underlying32 rfl sz_rn) rfl ⟨_, rfl, ⟨_, HF2.out.2.2.2.1, HF2.out.2.2.2.2, HF2.out.2.1⟩, HF2.out.2.2.1⟩

end Go.Proofs.YtaalhglooipnaaaGreat
namespace Go.Proofs.YtaalhglooipnaaaGreat
open Go.RowKit RT

mutual
theorem All.num {p : SD → Prop} (hp : ∀ d (i : Int), p d → p { d with id := i }) : ∀ (t : STr) (n : Nat), All p t → All p (numT t n)
  | .mk d ks, n, h => by
    rw [All] at h
    rw [numT, All]
    exact ⟨hp d n h.1, Alls.num hp ks (n + 1) h.2⟩
theorem Alls.num {p : SD → Prop} (hp : ∀ d (i : Int), p d → p { d with id := i }) : ∀ (ts : List STr) (n : Nat), Alls p ts → Alls p (numTs ts n)
  | [], n, _ => by rw [numTs, Alls]; trivial
  | t :: ts, n, h => by
    rw [Alls] at h
    rw [numTs, Alls]
    exact ⟨All.num hp t n h.1, Alls.num hp ts _ h.2⟩
end
mutual
theorem GoodT.all : ∀ (t : STr), GoodT t → All (fun d => gd d ∧ sb d) t
  | .mk d ks, h => by
    rw [GoodT] at h
    rw [All]
    exact ⟨⟨h.1, h.2.1⟩, GoodTs.all ks h.2.2.2⟩
theorem GoodTs.all : ∀ (ts : List STr), GoodTs ts → Alls (fun d => gd d ∧ sb d) ts
  | [], _ => by rw [Alls]; trivial
  | t :: ts, h => by
    rw [GoodTs] at h
    rw [Alls]
    exact ⟨GoodT.all t h.1, GoodTs.all ts h.2⟩
end
theorem gd_stOk {d : SD} (h : gd d ∧ sb d) : stOk d := by
  refine ⟨?_, by have := h.2.2.2.1; omega⟩
  rcases h.1 with h1 | h1
  · rw [h1.2.2.2.1]; exact List.Pairwise.nil
  · exact h1.2.2.2.2.2.2.2.1
theorem sb_few {d : SD} (h : gd d ∧ sb d) : d.cl.length ≤ 500 ∧ d.at_.length ≤ 500 ∧ d.st.length ≤ 500 := by
  obtain ⟨_, h1, h2, h3, _⟩ := h
  omega
mutual
theorem Alk.num : ∀ (t : STr) (n : Nat), Alk (numT t n) t
  | .mk d ks, n => by rw [numT, Alk]; exact ⟨rfl, Alks.num ks (n + 1)⟩
theorem Alks.num : ∀ (ts : List STr) (n : Nat), Alks (numTs ts n) ts
  | [], n => by rw [numTs, Alks]; trivial
  | t :: ts, n => by rw [numTs, Alks]; exact ⟨Alk.num t n, Alks.num ts _⟩
end
mutual
theorem placeT_count : ∀ (t : STr) (n : Nat) (x y g : Int), GoodT t → (placeT (numT t n) x y g).length = t.size
  | .mk d ks, n, x, y, g, h => by
    rw [GoodT] at h
    rw [numT, placeT, RT.size, List.length_cons]
    by_cases hk : d.kind = 1
    · have h0 := h.2.2.1 hk
      rw [if_pos hk, h0, sizes]
      rfl
    · rw [if_neg hk, placesT_count _ _ _ _ ks (n + 1) _ (by rw [putT_len, numTs_len]) h.2.2.2]
      omega
theorem placesT_count (d : SD) (m x y : Int) : ∀ (ts : List STr) (n : Nat) (ps : List (Int × Int)), ps.length = ts.length → GoodTs ts → (placesT d m x y (numTs ts n) ps).length = sizes ts
  | [], n, ps, _, _ => by rw [numTs, sizes]; unfold placesT; rfl
  | t :: ts, n, [], h, _ => by simp at h
  | t :: ts, n, p :: ps, h, hg => by
    rw [GoodTs] at hg
    rw [numTs, placesT, sizes, List.length_append, placeT_count t n _ _ _ hg.1, placesT_count d m x y ts (n + t.size) ps (by simpa using h) hg.2]
end
def FewN (k : Nat) (nd : Nat → ND) : Prop := ∀ j, (nd j).cl.length ≤ 1000 ∧ (nd j).at_.length ≤ 1000 ∧ (nd j).st.length ≤ 1000 ∧ (nd j).kids.length ≤ k
mutual
theorem layN_few : ∀ (t : STr) (p n : Nat) (nd : Nat → ND) (k : Nat), All (fun d => gd d ∧ sb d) t → FewN k nd → FewN (k + t.size) (layN t p n nd)
  | .mk d ks, p, n, nd, k, h, hf => by
    rw [All] at h
    rw [layN, RT.size, ← Nat.add_assoc]
    obtain ⟨f1, f2, f3⟩ := sb_few h.1
    refine layNs_few ks n (n + 1) _ (k + 1) h.2 fun j => ?_
    by_cases hj : j = n
    · rw [hj, setF_same]
      exact ⟨by show d.cl.length ≤ _; omega, by show d.at_.length ≤ _; omega, by show d.st.length ≤ _; omega, by show 0 ≤ _; omega⟩
    · rw [setF_other _ _ hj]
      by_cases hp : j = p
      · have := hf p
        rw [hp, setF_same]
        refine ⟨this.1, this.2.1, this.2.2.1, ?_⟩
        show ((nd p).kids ++ [(n : Int)]).length ≤ k + 1
        rw [List.length_append]
        have := this.2.2.2
        simpa using this
      · have := hf j
        rw [setF_other _ _ hp]
        exact ⟨this.1, this.2.1, this.2.2.1, by omega⟩
theorem layNs_few : ∀ (ts : List STr) (p n : Nat) (nd : Nat → ND) (k : Nat), Alls (fun d => gd d ∧ sb d) ts → FewN k nd → FewN (k + sizes ts) (layNs ts p n nd)
  | [], p, n, nd, k, _, hf => by rw [layNs, sizes]; exact hf
  | t :: ts, p, n, nd, k, h, hf => by
    rw [Alls] at h
    rw [layNs, sizes, ← Nat.add_assoc]
    exact layNs_few ts p _ _ _ h.2 (layN_few t p n nd k h.1 hf)
end
/-- What a Dom shows in which a tree was laid. -/
def rootT (s : STr) : STr := .mk (rN 0 (layN s 0 1 nd0 0)) [numT s 1]
theorem rootT_num (s : STr) : rootT s = numT (.mk (rN 0 (layN s 0 1 nd0 0)) [s]) 0 := by
  rw [rootT, numT, numTs, numTs]; rfl
theorem rootT_size (s : STr) : (rootT s).size = 1 + s.size := by rw [rootT, RT.size, sizes_one, numT_size]
theorem root_node (s : STr) : layN s 0 1 nd0 0 = { nd0 0 with kids := [(1 : Int)] } := by
  rw [layN_par s 0 1 nd0 (by omega)]
  rfl
theorem rootT_rd (s : STr) : RdT (layN s 0 1 nd0) (1 + s.size) (rootT s) 0 := by
  rw [rootT, RdT]
  refine ⟨by omega, rfl, by rw [root_node]; rfl, ?_⟩
  rw [root_node]
  show RdTs _ _ [numT s 1] [(1 : Int)]
  rw [RdTs, RdTs]
  · exact ⟨⟨rfl, NumR.rd s 1 (Nat.le_refl _) (NumR.lay s 0 1 nd0 (by omega))⟩, trivial⟩
  all_goals simp
theorem rootT_few (s : STr) (h : GoodT s) (hs : s.size ≤ 1000) : ∀ i, i < 1 + s.size → (layN s 0 1 nd0 i).few := fun i _ => by
  have h1 := layN_few s 0 1 nd0 0 (GoodT.all s h) (fun j => ⟨by show 0 ≤ _; omega, by show 0 ≤ _; omega, by show 0 ≤ _; omega, by show 0 ≤ _; omega⟩) i
  exact ⟨h1.1, h1.2.1, h1.2.2.1, by have := h1.2.2.2; omega⟩
theorem rootT_srt (s : STr) (g : Int) : SrtE (placeT (rootT s) 0 0 g) := by
  rw [rootT_num]
  exact (placeT_rise _ 0 0 0 g).srt
theorem rootT_len (s : STr) (g : Int) (h : GoodT s) : (placeT (rootT s) 0 0 g).length = s.size + 1 := by
  rw [placeT_eq]
  have hk : (rootT s).dat.kind = 2 := by
    rw [rootT]
    show (layN s 0 1 nd0 0).kind = 2
    rw [root_node]
    rfl
  rw [hk, if_neg (by decide), List.length_cons]
  have h1 := placesT_count (rootT s).dat (insV (rootT s).dat g) 0 0 [s] 1 (putT (rootT s).dat (insV (rootT s).dat g) (rootT s).kids).out (by rw [putT_len]; rfl) (by rw [GoodTs, GoodTs]; exact ⟨h, trivial⟩)
  rw [numTs, numTs, sizes_one] at h1
  show (placesT _ _ 0 0 [numT s 1] _).length + 1 = _
  rw [h1]
theorem rootT_all (p : SD → Prop) (hp : ∀ d (i : Int), p d → p { d with id := i }) (s : STr) (h : All p s) (h0 : p ⟨0, 2, rootS, eb, [], [], []⟩) : All p (rootT s) := by
  rw [rootT, All]
  refine ⟨?_, ?_⟩
  · rw [root_node]; exact h0
  · rw [Alls, Alls]; exact ⟨All.num hp s 1 h, trivial⟩
theorem rootT_st (s : STr) (h : GoodT s) : All stOk (rootT s) :=
  rootT_all stOk (fun _ _ h => h) s (All.imp (fun _ => gd_stOk) (GoodT.all s h)) ⟨List.Pairwise.nil, by show 0 ≤ _; omega⟩
theorem rootT_tf (s : STr) (h : GoodT s) : All tfew (rootT s) :=
  rootT_all tfew (fun _ _ h => h) s (All.imp (fun _ => sb_few) (GoodT.all s h)) ⟨by show 0 ≤ _; omega, by show 0 ≤ _; omega, by show 0 ≤ _; omega⟩
theorem good_sf (s : STr) (h : GoodT s) : All sfew s := All.imp (fun _ => sb_few) (GoodT.all s h)
theorem num_sf (s : STr) (n : Nat) (h : GoodT s) : All sfew (numT s n) := All.num (fun _ _ h => h) s n (good_sf s h)
mutual
theorem tx_sh : ∀ (t : VT), All txb t → tx t ≤ 70 * t.size
  | .mk d ks, h => by
    rw [All] at h
    rw [tx, RT.size]
    have h1 := txs_sh ks h.2
    have h2 := h.1.2.1
    omega
theorem txs_sh : ∀ (ts : List VT), Alls txb ts → txs ts ≤ 70 * sizes ts
  | [], _ => by rw [txs, sizes]; omega
  | t :: ts, h => by
    rw [Alls] at h
    rw [txs, sizes]
    have h1 := tx_sh t h.1
    have h2 := txs_sh ts h.2
    omega
end
/-! ### The points that are hit -/
theorem hitTo_mem (l : List En) (x y : Int) : ∀ (k : Nat) (i : Nat), i < (hitTo l x y k).length → ∃ j, j < k ∧ (hitTo l x y k).getD i 0 = (l.getD j en0).1 ∧ hasR (l.getD j en0).2 x y = true
  | 0, i, h => by rw [hitTo] at h; simp at h
  | k + 1, i, h => by
    rw [hitTo] at h ⊢
    by_cases hc : hasR (l.getD k en0).2 x y = true
    · rw [if_pos hc] at h ⊢
      by_cases hi : i < (hitTo l x y k).length
      · obtain ⟨j, h1, h2, h3⟩ := hitTo_mem l x y k i hi
        refine ⟨j, by omega, ?_, h3⟩
        rw [← h2]; simp only [List.getD, List.getElem?_append_left hi]
      · have : i = (hitTo l x y k).length := by
          rw [List.length_append, List.length_singleton] at h
          omega
        refine ⟨k, by omega, ?_, hc⟩
        rw [this, List.getD, List.getElem?_append_right (Nat.le_refl _)]
        simp
    · rw [if_neg hc] at h ⊢
      obtain ⟨j, h1, h2, h3⟩ := hitTo_mem l x y k i h
      exact ⟨j, by omega, h2, h3⟩

end Go.Proofs.YtaalhglooipnaaaGreat
