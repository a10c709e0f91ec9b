/-
  The static rendering, node by node: still of layer 9.
  Plain mathematics of layer 14 (flow): the pen of the program and the rows of the document, as functions on lists of integers; no program in sight.
  The walks over package flow: the pen's methods.
-/
import Derived.Test.YtaalhglooipnaaaGreatL13
import Derived.Test.YtaalhglooipnaaaGreatL10
import Derived.Test.YtaalhglooipnaaaGreatL11
import Derived.Test.YtaalhglooipnaaaGreatL01
import Derived.Deep.RegionHeld3
import Derived.Deep.RegionWith
import Derived.BigRegion
import Derived.Deep.DrawnRows
namespace Go.Proofs.YtaalhglooipnaaaGreat
open Go.RowKit RT
attribute [local go_sem ↓] Go.wp_at_zero Go.wp_at_succ

/-- What is known of a tree that is made. -/
def SI (e eA eP : TypeId) (w1 : World) (N : Nat) (d : SD) (ts : List STr) (u4 u5 u6 u7 : Value) (vs : List Value) (wx : World) : Prop :=
  Below w1.heap.size w1 wx ∧ w1.heap.size ≤ N ∧ Blk wx N e (sC d u4 u5 u6 u7).toArray ∧ RowS w1.heap.size d.cl u4 wx ∧ RowA eA w1.heap.size d.at_ u5 wx ∧ RowP eP w1.heap.size d.st u6 wx ∧
  wx.ownsRow w1.heap.size e 8 u7 ts.length (vs.flatMap (cvK 8)) ∧ u7.ownBlock ≠ some N ∧
  IsTs sK wx (fun b => w1.heap.size ≤ b ∧ b < wx.heap.size ∧ b ≠ N ∧ u7.ownBlock ≠ some b) ts vs
section
variable {e eA eP : TypeId} {w1 wr wz w5 : World} {N : Nat} {d : SD} {ts : List STr} {u4 u5 u6 u7 v : Value} {vs : List Value}
theorem SI.kid {t : STr} {v' : Value} (n1 : e ≠ 9) (n2 : e ≠ eA) (n3 : e ≠ eP) (h : SI e eA eP w1 N d ts u4 u5 u6 u7 vs wr) (hb : Below wr.heap.size wr wz) (ht : IsT sK wz (Fresh wr.heap.size wz) t v') (hc : Chg (fun i => u7.ownBlock = some i ∨ i = N) wz w5) (hN : Blk w5 N e ((sC d u4 u5 u6 u7).toArray.setIfInBounds 7 v))
    (hown : w5.ownsRow w1.heap.size e 8 v (ts.length + 1) (vs.flatMap (cvK 8) ++ cvK 8 v')) (hvN : v.ownBlock ≠ some N) (hat : v.ownBlock = u7.ownBlock ∨ v.ownBlock = some wz.heap.size) : SI e eA eP w1 N d (ts ++ [t]) u4 u5 u6 v (vs ++ [v']) w5 := by
  obtain ⟨h1, h2, h3, h4, h5, h6, h7, h8, h9⟩ := h
  have h3z := h3.below hb h3.lt
  have h7z := own_keep h7 hb
  have hT : ∀ i, (u7.ownBlock = some i ∨ i = N) → w1.heap.size ≤ i := by
    rintro i (hi | rfl)
    · exact (h7.lt i hi).1
    · exact h2
  have hNlt := h3.lt
  refine ⟨(h1.trans (hb.mono h1.size)).trans (hc.below (Nat.le_trans h1.size hb.size) hT), h2, hN, (h4.keep hb).chg hc ?_, (h5.keep hb).chg hc ?_, (h6.keep hb).chg hc ?_, ?_, hvN, ?_⟩
  · rintro b cs _ hb' (e' | rfl)
    · exact own_blk_ne h7z hb' n1 e'
    · exact Blk.ne_ hb' h3z (Ne.symm n1) rfl
  · rintro b cs _ hb' (e' | rfl)
    · exact own_blk_ne h7z hb' n2 e'
    · exact Blk.ne_ hb' h3z (Ne.symm n2) rfl
  · rintro b cs _ hb' (e' | rfl)
    · exact own_blk_ne h7z hb' n3 e'
    · exact Blk.ne_ hb' h3z (Ne.symm n3) rfl
  · rw [List.length_append, List.flatMap_append]
    simpa using hown
  · have hold : IsTs sK w5 (fun b => w1.heap.size ≤ b ∧ b < w5.heap.size ∧ b ≠ N ∧ v.ownBlock ≠ some b) ts vs := by
      refine ((h9.move (.of_below hb fun b hb => hb.2.1)).move (hc.still fun b hb' => ⟨Nat.lt_of_lt_of_le hb'.2.1 hb.size, ?_⟩)).weak fun b hb' => ⟨hb'.1, Nat.lt_of_lt_of_le hb'.2.1 (Nat.le_trans hb.size hc.size), hb'.2.2.1, ?_⟩
      · rintro (e | e)
        · exact hb'.2.2.2 e
        · exact hb'.2.2.1 e
      · rcases hat with e | e
        · rw [e]; exact hb'.2.2.2
        · rw [e]; have := hb'.2.1; have := hb.size; simp only [ne_eq, Option.some.injEq]; omega
    refine hold.snoc ((ht.move (hc.still fun b hb' => ⟨hb'.2, ?_⟩)).weak fun b hb' => ⟨Nat.le_trans h1.size hb'.1, Nat.lt_of_lt_of_le hb'.2 hc.size, by have := hb'.1; omega, ?_⟩)
    · rintro (e | e)
      · have := (h7.lt b e).2; have := hb'.1; omega
      · have := hb'.1; omega
    · rcases hat with e | e
      · rw [e]; intro e2; have := (h7.lt b e2).2; have := hb'.1; omega
      · rw [e]; have := hb'.2; simp only [ne_eq, Option.some.injEq]; omega
theorem SI.done (h : SI e eA eP w1 N d ts u4 u5 u6 u7 vs wr) : IsT sK wr (fun b => w1.heap.size ≤ b ∧ b < wr.heap.size) (.mk d ts) (sV d u4 u5 u6 u7) := by
  obtain ⟨h1, h2, h3, h4, h5, h6, h7, h8, h9⟩ := h
  obtain ⟨A4, c4, rfl, r4⟩ := h4.rd
  obtain ⟨A5, c5, rfl, r5⟩ := h5.rd
  obtain ⟨A6, c6, rfl, r6⟩ := h6.rd
  obtain ⟨A7, c7, rfl⟩ := own_form h7
  rw [IsT.eq]
  exact ⟨A7, c7, vs, ⟨_, _, _, rfl, A4, c4, A5, c5, A6, c6, rfl, rfl, rfl, r4, r5, r6⟩, RdS.of_own (fun _ _ => cvK_len 8 _) h7 h9.len, h9.weak fun b hb => ⟨hb.1, hb.2.1⟩⟩
end
theorem sV_one {w : World} {S : Nat → Prop} {t : STr} {v : Value} (h : IsT sK w S t v) : v.cells.all (·.oneCell') = true := by
  have h1 := h.one_s
  obtain ⟨A, c, vs, ⟨a1, a2, a3, rfl, hr⟩, _, _⟩ := IsT.eq.1 h
  rw [sV_cells] at h1
  exact all_oneCell_toArray h1

def eb : ByteArray := ⟨#[]⟩
/-- A node of a static rendering. -/
def stD (d : VD) : SD := if d.kind = 1 then ⟨0, 1, eb, d.text, [], [], []⟩ else ⟨0, 2, d.tag, eb, d.cl, d.at_, d.st⟩
mutual
def stT : VT → STr
  | .mk d ks => .mk (stD d) (if d.kind = 1 then [] else stTs ks)
def stTs : List VT → List STr
  | [] => []
  | t :: ts => stT t :: stTs ts
end
theorem stTs_map : ∀ ts : List VT, stTs ts = ts.map stT
  | [] => by rw [stTs]; rfl
  | t :: ts => by rw [stTs, stTs_map ts]; rfl
theorem stT_eq (d : VD) (ks : List VT) : stT (.mk d ks) = .mk (stD d) (if d.kind = 1 then [] else ks.map stT) := by rw [stT, stTs_map]
theorem stTs_len (ts : List VT) : (stTs ts).length = ts.length := by rw [stTs_map, List.length_map]

theorem stTs_snoc (ks : List VT) (k : Nat) (h : k < ks.length) : stTs (ks.take (k + 1)) = stTs (ks.take k) ++ [stT ks[k]] := by
  rw [stTs_map, stTs_map, List.take_succ_eq_append_getElem h, List.map_append]
  rfl
theorem bld_st (d : VD) (hk : d.kind ≠ 1) (A4 A5 A6 : Option Addr) (n4 c4 n5 c5 n6 c6 : Nat) (w : World) :
    (Instr.build 40 #[(1, .int .i64 2), (2, .string d.tag), (4, .slice A4 n4 c4), (5, .slice A5 n5 c5), (6, .slice A6 n6 c6)]).run Tryz.prog w =
      .ok (sV (stD d) (.slice A4 n4 c4) (.slice A5 n5 c5) (.slice A6 n6 c6) (.slice none 0 0)) w := by
  rw [stD, if_neg hk]
  unfold sV sC eb
  go_simp
theorem bld_st1 (s : ByteArray) (w : World) : (Instr.build 40 #[(1, .int .i64 1), (3, .string s)]).run Tryz.prog w = .ok (sV ⟨0, 1, eb, s, [], [], []⟩ (.slice none 0 0) (.slice none 0 0) (.slice none 0 0) (.slice none 0 0)) w := by
  unfold sV sC eb
  go_simp
theorem stT_info : (Tryz.prog.info? 40).map (fun i => (i.zero, i.size, i.bytes)) = some (some (.agg zs_st), 8, 144) := by kernel_rfl

def StlR3 (W : World) (X : Nat) (d : VD) (A1 A2 A3 : Option Addr) (c1 c2 c3 : Nat) (kv : Value) : Nat → Value → World → Prop
  | 0, v, _ => v = .pointer (some ⟨X, 1, none⟩)
  | 1, v, _ => v = .string d.tag
  | 2, v, _ => v = .pointer (some ⟨X, 4, none⟩)
  | 3, v, _ => v = .slice A1 d.cl.length c1
  | 4, v, w => RowS W.heap.size d.cl v w
  | 5, v, _ => v = .pointer (some ⟨X, 5, none⟩)
  | 6, v, _ => v = .slice A2 d.at_.length c2
  | 7, v, w => RowA 90 W.heap.size d.at_ v w
  | 8, v, _ => v = .pointer (some ⟨X, 6, none⟩)
  | 9, v, _ => v = .slice A3 d.st.length c3
  | 10, v, w => RowP 105 W.heap.size d.st v w
  | 11, v, w => ∃ u4 u5 u6, v = sV (stD d) u4 u5 u6 (.slice none 0 0) ∧ RowS W.heap.size d.cl u4 w ∧ RowA 90 W.heap.size d.at_ u5 w ∧ RowP 105 W.heap.size d.st u6 w
  | 12, v, w => NewAt W.heap.size 40 zs_st v w
  | _, _, _ => True
theorem StlR3_keep (W : World) (X : Nat) (d : VD) (A1 A2 A3 : Option Addr) (c1 c2 c3 : Nat) (kv : Value) (j : Nat) (v : Value) (w w' : World) (h : StlR3 W X d A1 A2 A3 c1 c2 c3 kv j v w) (hb : Below w.heap.size w w') : StlR3 W X d A1 A2 A3 c1 c2 c3 kv j v w' := by
  match j with
  | 0 => exact h
  | 1 => exact h
  | 2 => exact h
  | 3 => exact h
  | 4 => exact Row.keep h hb
  | 5 => exact h
  | 6 => exact h
  | 7 => exact Row.keep h hb
  | 8 => exact h
  | 9 => exact h
  | 10 => exact Row.keep h hb
  | 11 => exact (by obtain ⟨u4, u5, u6, e, h1, h2, h3⟩ := h; exact ⟨u4, u5, u6, e, h1.keep hb, h2.keep hb, h3.keep hb⟩)
  | 12 => exact NewAt.keep h hb
  | _ + 13 => trivial
def StlR7 (W : World) (N K5 : Nat) (d : SD) (u4 u5 u6 u7 : Value) (e : VD) (k1 k2 k3 k4 : Value) (t : VT) : Nat → Value → World → Prop
  | 0, v, _ => v = .pointer (some ⟨N, 7, none⟩)
  | 1, v, _ => v = u7
  | 2, v, _ => v = .agg #[.int .i64 e.kind, .string e.tag, .string e.key, .string e.text, k1, k2, k3, .int .i64 e.op.1, .int .i64 e.op.2.1, .int .i64 e.op.2.2.1, .int .i64 e.op.2.2.2.1, .bool e.op.2.2.2.2.1, .bool e.op.2.2.2.2.2, k4]
  | 3, v, w => IsT sK w (Fresh W.heap.size w) (stT t) v
  | 4, v, w => NewT sK 40 W.heap.size (stT t) v w
  | _, _, _ => True
theorem StlR7_keep (W : World) (N K5 : Nat) (d : SD) (u4 u5 u6 u7 : Value) (e : VD) (k1 k2 k3 k4 : Value) (t : VT) (j : Nat) (v : Value) (w w' : World) (h : StlR7 W N K5 d u4 u5 u6 u7 e k1 k2 k3 k4 t j v w) (hb : Below w.heap.size w w') : StlR7 W N K5 d u4 u5 u6 u7 e k1 k2 k3 k4 t j v w' := by
  match j with
  | 0 => exact h
  | 1 => exact h
  | 2 => exact h
  | 3 => exact h.fresh hb
  | 4 => exact NewT.keep h hb
  | _ + 5 => trivial

set_option maxRecDepth 100000 in
set_option maxHeartbeats 8000000 in
theorem still_any (m : Nat) : ∀ (t : VT) (v : Value) (w : World), t.size ≤ m → m ≤ 1000 → All vb t → IsT vK w (Old w) t v →
    Calls Tryz.prog 24 #[v] w (Hands (fun v' w' => IsT sK w' (Fresh w.heap.size w') (stT t) v') w) := by
  induction m with
  | zero => intro t v w h; have := size_pos t; omega
  | succ m ih =>
    intro t v w hsz hm hvb hT
    obtain ⟨A4, c4, vs, ⟨a1, a2, a3, rfl, hrows⟩, hvs, hks⟩ := IsT.eq.1 hT
    obtain ⟨A1, c1, A2, c2, A3, c3, rfl, rfl, rfl, r1, r2, r3⟩ := hrows
    obtain ⟨hv1, hv2⟩ := All.eq.1 hvb
    obtain ⟨hb1, hb2, hb3⟩ := hv1
    have hkl := kids_len hsz
    have hks1 := fun k hk => kid_size hsz k hk
    obtain ⟨d, hd⟩ : ∃ d, d = t.dat := ⟨_, rfl⟩
    obtain ⟨ks, hkse⟩ : ∃ ks, ks = t.kids := ⟨_, rfl⟩
    have HT := Lib.hid (show t = RT.mk d ks by rw [hd, hkse]; cases t; rfl)
    rw [← hd] at r1 r2 r3 hb1 hb2 hb3 ⊢
    rw [← hkse] at hvs hks hv2 hkl hks1 ⊢
    clear hT hvb hd hkse hsz
    obtain ⟨w1, hw1, hX, hR, hB0, hs1⟩ := two_new w (vC d (.slice A1 d.cl.length c1) (.slice A2 d.at_.length c2) (.slice A3 d.st.length c3) (.slice A4 ks.length c4)).toArray zs_st 45 40
    unfold vV vC
    unfold vC zs_st at hw1
    unfold vC at hX
    go_enter Tryz.func24, Tryz.ntmps24
    go_upto_region 1 with fail
    rw [← hw1]
    obtain ⟨X, hXe⟩ : ∃ X, X = w.heap.size := ⟨_, rfl⟩
    rw [← hXe] at hX hR hs1 ⊢
    have HX := Lib.hid (And.intro hX (And.intro (r1.move (.of_below hB0 fun _ h => h)) (And.intro (r2.move (.of_below hB0 fun _ h => h)) (And.intro (r3.move (.of_below hB0 fun _ h => h)) (fun b (h : Old w b) => show b < w1.heap.size from Nat.lt_of_lt_of_le h hB0.size)))))
    have HK := Lib.hid (And.intro hR (And.intro hB0 (And.intro (show Vs 14 w1 (Old w) A4 ks.length vs from hvs.move (.of_below hB0 fun _ h => h)) (hks.move (.of_below hB0 fun _ h => h)))))
    have HXE := Lib.hid (And.intro hXe hs1)
    have x0 : w1.cell? ⟨X, 0, none⟩ = some (.int .i64 d.kind) := HX.out.1.cell 0
    clear hX hR hB0 hw1 hXe hs1 r1 r2 r3 hvs hks
    by_cases hk1 : d.kind = 1
    · have q1 : (d.kind == 1) = true := by simpa using hk1
      have HK1 := Lib.hid hk1
      have x3 : w1.cell? ⟨X, 3, none⟩ = some (.string d.text) := HX.out.1.cell 3
      clear hk1
      go_upto_region 2 with fail
      refine _root_.Go.wp_region_lit ?_
      refine wpList_val rfl (ex_fld rfl rfl (fa_vn_3 X _)) ?_
      refine wpList_val rfl (ex_ld rfl rfl (ld_string x3)) ?_
      refine wpList_val rfl (ex_bld2 rfl rfl rfl (bld_st1 d.text _)) ?_
      refine wpList_store_blk rfl 40 _ _ rfl (X + 1) _ rfl rfl 40 _ HK.out.1 rfl sz_st ?_ ?_
      · exact sC_all rfl rfl rfl rfl
      intro wf hRf hgf hsf
      refine wpList_nil ?_
      have hB2 : Below w.heap.size w wf := HK.out.2.1.grown hgf HK.out.2.1.size (fun j hj => by cases hj; have := HXE.out; omega)
      have hT2 : IsT sK wf (Fresh w.heap.size wf) (stT t) (sV ⟨0, 1, eb, d.text, [], [], []⟩ (.slice none 0 0) (.slice none 0 0) (.slice none 0 0) (.slice none 0 0)) := by
        rw [HT.out, stT_eq, if_pos HK1.out, stD, if_pos HK1.out, IsT]
        exact ⟨none, 0, [], ⟨_, _, _, rfl, none, 0, none, 0, none, 0, rfl, rfl, rfl, .nil _ _ _, .nil _ _ _, .nil _ _ _⟩, .nil _ _ _, IsTs.nil⟩
      have HF := Lib.hid (And.intro hT2 hB2)
      have HRf := Lib.hid hRf
      clear hT2 hB2 hgf hsf hRf
      go_wp2_with fail
      exact bodyPost_ret (v := sV ⟨0, 1, eb, d.text, [], [], []⟩ (.slice none 0 0) (.slice none 0 0) (.slice none 0 0) (.slice none 0 0)) (results_cell_row rfl _ _ (X + 1) 40 _ (0, 0) _ rfl HRf.out Tryz.underlying40 rfl sz_st) rfl ⟨_, rfl, HF.out.1, HF.out.2⟩
    · have q1 : (d.kind == 1) = false := by simpa using hk1
      have HK1 := Lib.hid hk1
      clear hk1
      go_upto_region 3 with fail
      refine wp_region_tail 13 _ ?_ ?_ ?_ ?_ (StlR3 w1 X d A1 A2 A3 c1 c2 c3 (.slice A4 ks.length c4)) (fun j v wx wy => StlR3_keep _ _ _ _ _ _ _ _ _ _ j v wx wy) ?_ ?_ ?_
      · kernel_rfl
      · kernel_rfl
      · kernel_rfl
      · kernel_rfl
      · refine ⟨opV rfl fun s wx hb hd => ⟨_, ex_fld rfl (lit_out 1 (by kernel_rfl)) (fa_vn_1 _ wx), rfl⟩, ?_⟩
        refine ⟨opV rfl fun s wx hb hd => ⟨_, ex_ld rfl ((lit_at 0 12 (by kernel_rfl) (by kernel_rfl) (by kernel_rfl)).trans (hd 0 (by kernel_rfl))) (ld_string (((HX.out.1).below hb (HX.out.1).lt).cell 1)), rfl⟩, ?_⟩
        refine ⟨opV rfl fun s wx hb hd => ⟨_, ex_fld rfl (lit_out 1 (by kernel_rfl)) (fa_vn_4 _ wx), rfl⟩, ?_⟩
        refine ⟨opV rfl fun s wx hb hd => ⟨_, ex_ld rfl ((lit_at 2 14 (by kernel_rfl) (by kernel_rfl) (by kernel_rfl)).trans (hd 2 (by kernel_rfl))) (ld_Lstring (((HX.out.1).below hb (HX.out.1).lt).cell 4)), rfl⟩, ?_⟩
        refine ⟨opC rfl fun s wx hb hd => ⟨_, _, ex_c1 rfl rfl (enters Tryz.func53 (by kernel_rfl) rfl _ _) ((lit_at 3 15 (by kernel_rfl) (by kernel_rfl) (by kernel_rfl)).trans (hd 3 (by kernel_rfl))), ?_⟩, ?_⟩
        · refine (cln_S A1 _ c1 d.cl _ wx (fun b h => Nat.lt_of_lt_of_le (HX.out.2.2.2.2 b h) hb.size) (HX.out.2.1.move (.of_below hb HX.out.2.2.2.2)) (by omega)).mono ?_
          rintro e w' ⟨v', rfl, hrow, hb'⟩
          exact ⟨v', rfl, hrow.low hb.size, hb'⟩
        refine ⟨opV rfl fun s wx hb hd => ⟨_, ex_fld rfl (lit_out 1 (by kernel_rfl)) (fa_vn_5 _ wx), rfl⟩, ?_⟩
        refine ⟨opV rfl fun s wx hb hd => ⟨_, ex_ld rfl ((lit_at 5 17 (by kernel_rfl) (by kernel_rfl) (by kernel_rfl)).trans (hd 5 (by kernel_rfl))) (ld_props_Map_string (((HX.out.1).below hb (HX.out.1).lt).cell 5)), rfl⟩, ?_⟩
        refine ⟨opC rfl fun s wx hb hd => ⟨_, _, ex_c1 rfl rfl (enters Tryz.func54 (by kernel_rfl) rfl _ _) ((lit_at 6 18 (by kernel_rfl) (by kernel_rfl) (by kernel_rfl)).trans (hd 6 (by kernel_rfl))), ?_⟩, ?_⟩
        · refine (cln_A A2 _ c2 d.at_ _ wx (fun b h => Nat.lt_of_lt_of_le (HX.out.2.2.2.2 b h) hb.size) (HX.out.2.2.1.move (.of_below hb HX.out.2.2.2.2)) (by omega)).mono ?_
          rintro e w' ⟨v', rfl, hrow, hb'⟩
          exact ⟨v', rfl, hrow.low hb.size, hb'⟩
        refine ⟨opV rfl fun s wx hb hd => ⟨_, ex_fld rfl (lit_out 1 (by kernel_rfl)) (fa_vn_6 _ wx), rfl⟩, ?_⟩
        refine ⟨opV rfl fun s wx hb hd => ⟨_, ex_ld rfl ((lit_at 8 20 (by kernel_rfl) (by kernel_rfl) (by kernel_rfl)).trans (hd 8 (by kernel_rfl))) (ld_props_Map_int (((HX.out.1).below hb (HX.out.1).lt).cell 6)), rfl⟩, ?_⟩
        refine ⟨opC rfl fun s wx hb hd => ⟨_, _, ex_c1 rfl rfl (enters Tryz.func55 (by kernel_rfl) rfl _ _) ((lit_at 9 21 (by kernel_rfl) (by kernel_rfl) (by kernel_rfl)).trans (hd 9 (by kernel_rfl))), ?_⟩, ?_⟩
        · refine (cln_P A3 _ c3 d.st _ wx (fun b h => Nat.lt_of_lt_of_le (HX.out.2.2.2.2 b h) hb.size) (HX.out.2.2.2.1.move (.of_below hb HX.out.2.2.2.2)) (by omega)).mono ?_
          rintro e w' ⟨v', rfl, hrow, hb'⟩
          exact ⟨v', rfl, hrow.low hb.size, hb'⟩
        refine ⟨opV rfl fun s wx hb hd => ?_, ?_⟩
        · obtain ⟨A4, c4, e4, h4⟩ := (hd 4 (by kernel_rfl))
          obtain ⟨A5, c5, e5, h5⟩ := (hd 7 (by kernel_rfl))
          obtain ⟨A6, c6, e6, h6⟩ := (hd 10 (by kernel_rfl))
          exact ⟨_, ex_bld5 rfl rfl ((lit_at 1 13 (by kernel_rfl) (by kernel_rfl) (by kernel_rfl)).trans (hd 1 (by kernel_rfl))) ((lit_at 4 16 (by kernel_rfl) (by kernel_rfl) (by kernel_rfl)).trans e4) ((lit_at 7 19 (by kernel_rfl) (by kernel_rfl) (by kernel_rfl)).trans e5) ((lit_at 10 22 (by kernel_rfl) (by kernel_rfl) (by kernel_rfl)).trans e6) (bld_st d HK1.out A4 A5 A6 _ c4 _ c5 _ c6 wx), _, _, _, rfl, ⟨A4, c4, rfl, h4⟩, ⟨A5, c5, rfl, h5⟩, ⟨A6, c6, rfl, h6⟩⟩
        refine ⟨opN rfl fun s wx hb hd => ⟨_, _, ex_alc rfl (al_st wx), NewAt.new hb.size, below_alloc _ _⟩, ?_⟩
        trivial
      rotate_left
      · kernel_rfl
      intro s wz hbz hV
      obtain ⟨s4, s5, s6, e17, h4, h5, h6⟩ := hV 11 (by omega)
      obtain ⟨N, e18, hN1, hN2⟩ := hV 12 (by omega)
      clear hV
      simp only [List.take_succ_cons, List.take_zero, List.drop_succ_cons, List.drop_zero, litOf, List.map_cons, List.map_nil, Nat.zero_add, Nat.reduceAdd, Act.put, List.setIfInBounds_toArray, List.set_cons_succ, List.set_cons_zero]
      refine wpList_store_blk rfl 40 _ _ rfl N _ e18 e17 40 zs_st hN2 rfl (by kernel_rfl) ?_ ?_
      · exact sC_all h4.one h5.one h6.one rfl
      intro wa hNa hga hsa
      have hX := HX.out.1
      have hB1 : Below w1.heap.size w1 wa := hbz.grown hga hbz.size (fun j hj => by cases hj; exact hN1)
      obtain ⟨sd, hsd⟩ : ∃ sd, sd = stD d := ⟨_, rfl⟩
      have hsd2 : sd.cl = d.cl ∧ sd.at_ = d.at_ ∧ sd.st = d.st := by rw [hsd, stD, if_neg HK1.out]; exact ⟨rfl, rfl, rfl⟩
      rw [← hsd] at hNa e17
      have hI : SI 40 90 105 w1 N sd [] s4 s5 s6 (.slice none 0 0) [] wa := by
        have hc : Chg (· = N) wz wa := .of_grown hga fun i h => by cases h; rfl
        refine ⟨hB1, hN1, hNa, ?_, ?_, ?_, World.ownsRow_nil _ _ _ _, by simp [Value.ownBlock], IsTs.nil⟩
        · rw [hsd2.1]; exact h4.chg hc (fun b cs _ hb e => by subst e; exact Blk.ne_ hb hN2 (by decide) rfl)
        · rw [hsd2.2.1]; exact h5.chg hc (fun b cs _ hb e => by subst e; exact Blk.ne_ hb hN2 (by decide) rfl)
        · rw [hsd2.2.2]; exact h6.chg hc (fun b cs _ hb e => by subst e; exact Blk.ne_ hb hN2 (by decide) rfl)
      have HI := Lib.hid hI
      have HSD := Lib.hid hsd
      have x13 : wa.cell? ⟨X, 13, none⟩ = some (.slice A4 ks.length c4) := (hX.below hB1 hX.lt).cell 13
      clear hI hB1 hNa hga hsa h4 h5 h6 hN1 hN2 hX hbz e17 hsd hsd2
      obtain ⟨trv, htiv, hzv0, hzv1, hzv2⟩ := info_parts stT_info
      go_wp2_with fail
      go_loopw [27] (fun i wx => ∃ k s7 us, k ≤ ks.length ∧ i = .int .i64 k ∧ SI 40 90 105 w1 N sd (stTs (ks.take k)) s4 s5 s6 s7 us wx) (fun i _ => ks.length - (intOf i).toNat)
      case atStart => exact ⟨0, .slice none 0 0, [], Nat.zero_le _, rfl, HI.out⟩
      case round =>
        obtain ⟨k, s7, us, hk, rfl, hI⟩ := hrel
        by_cases hlt : k < ks.length
        · have hT := HK.out.2.2.2.at_ k hlt
          obtain ⟨A', c', vs', ⟨k1, k2, k3, hv, B1, b1, B2, b2, B3, b3, rfl, rfl, rfl, _⟩, _, _⟩ := IsT.eq.1 hT
          obtain ⟨e, he⟩ : ∃ e, e = (ks[k]).dat := ⟨_, rfl⟩
          obtain ⟨m', hm'⟩ : ∃ v, v = (ks[k]).kids.length := ⟨_, rfl⟩
          rw [← he, ← hm'] at hv
          obtain ⟨b, off, rfl, hbB, d0, d1, d2, d3, d4, d5, d6, d7, d8, d9, d10, d11, d12, d13⟩ := Vs.view HK.out.2.2.1 k hlt hv (Still.of_below hI.1 HX.out.2.2.2.2)
          rw [hv] at hT
          have i1 : (0 : Int) ≤ (k : Int) := by omega
          have i2 : (k : Int) < (ks.length : Int) := by omega
          obtain ⟨wk, hwk, hK7, hBk, hsk⟩ := one_new wr (vC e (.slice B1 e.cl.length b1) (.slice B2 e.at_.length b2) (.slice B3 e.st.length b3) (.slice A' m' c')).toArray 45
          unfold vC at hwk hK7
          have HTK := Lib.hid (show IsT vK wk (Old wk) ks[k] (vV e (.slice B1 e.cl.length b1) (.slice B2 e.at_.length b2) (.slice B3 e.st.length b3) (.slice A' m' c')) from (hT.move (.of_below (hI.1.trans (hBk.mono hI.1.size)) HX.out.2.2.2.2)).weak fun b hb => Nat.lt_of_lt_of_le (HX.out.2.2.2.2 b hb) (Nat.le_trans hI.1.size hBk.size))
          have HIH := Lib.hid (fun v w => ih ks[k] v w (hks1 k hlt) (by omega) (hv2.at_ k hlt))
          have HTS := Lib.hid (show stTs (ks.take (k + 1)) = stTs (ks.take k) ++ [stT ks[k]] by exact stTs_snoc ks k hlt)
          have HTL := Lib.hid (show (stTs (ks.take k)).length = k by rw [stTs_len, List.length_take]; omega)
          clear hT hv he hm'
          go_upto_region 7 with fail
          rw [← hwk]
          obtain ⟨K7, hK7e⟩ : ∃ K7, K7 = wr.heap.size := ⟨_, rfl⟩
          rw [← hK7e] at hK7 ⊢
          have HN := Lib.hid (hI.2.2.1.below hBk hI.2.2.1.lt)
          have HK5 := Lib.hid hK7
          have HI := Lib.hid (And.intro hI hBk)
          clear hwk hK7 hBk hsk hI hK7e d0 d1 d2 d3 d4 d5 d6 d7 d8 d9 d10 d11 d12 d13 hbB
          refine wp_region_tail 5 _ ?_ ?_ ?_ ?_ (StlR7 wk N K7 sd s4 s5 s6 s7 e (.slice B1 e.cl.length b1) (.slice B2 e.at_.length b2) (.slice B3 e.st.length b3) (.slice A' m' c') ks[k]) (fun j v wx wy => StlR7_keep _ _ _ _ _ _ _ _ _ _ _ _ _ _ j v wx wy) ?_ ?_ ?_
          · kernel_rfl
          · kernel_rfl
          · kernel_rfl
          · kernel_rfl
          · refine ⟨opV rfl fun s wx hb hd => ⟨_, ex_fld rfl (lit_out 3 (by kernel_rfl)) (fa_st_7 _ wx), rfl⟩, ?_⟩
            refine ⟨opV rfl fun s wx hb hd => ⟨_, ex_ld rfl ((lit_at 0 31 (by kernel_rfl) (by kernel_rfl) (by kernel_rfl)).trans (hd 0 (by kernel_rfl))) (ld_Lstill_Tree (((HN.out).below hb (HN.out).lt).cell 7)), rfl⟩, ?_⟩
            refine ⟨opV rfl fun s wx hb hd => ⟨_, ex_ld rfl (lit_out 5 (by kernel_rfl)) (ld_row ((HK5.out).below hb (HK5.out).lt) Tryz.underlying45 sz_vn), rfl⟩, ?_⟩
            refine ⟨opC rfl fun s wx hb hd => ⟨_, _, ex_c1 rfl rfl (enters Tryz.func24 (by kernel_rfl) rfl _ _) ((lit_at 2 33 (by kernel_rfl) (by kernel_rfl) (by kernel_rfl)).trans (hd 2 (by kernel_rfl))), ?_⟩, ?_⟩
            · refine (HIH.out _ wx (HTK.out.keep hb)).mono ?_
              rintro e w' ⟨v', rfl, hT', hb'⟩
              exact ⟨v', rfl, hT'.weak (Fresh.low hb.size), hb'⟩
            refine ⟨opN rfl fun s wx hb hd => ?_, ?_⟩
            · have hT := (hd 3 (by kernel_rfl))
              obtain ⟨_, _, _, ⟨b1, b2, b3, hv, _⟩, _, _⟩ := IsT.eq.1 hT
              rw [hv] at hT
              exact ⟨_, _, ex_bsl1 rfl ((lit_at 3 34 (by kernel_rfl) (by kernel_rfl) (by kernel_rfl)).trans hv) (bs_st _ _ _ _ _ _ _ _ wx), NewT.new (K := sK) hT hb.size, below_alloc _ _⟩
            trivial
          rotate_left
          · kernel_rfl
          intro s2 wz hbz hV
          have e1 := hV 1 (by omega)
          obtain ⟨g3, v3, e3, hg3, hB3, hT3⟩ := hV 4 (by omega)
          clear hV
          simp only [List.take_succ_cons, List.take_zero, List.drop_succ_cons, List.drop_zero, litOf, List.map_cons, List.map_nil, Nat.zero_add, Nat.reduceAdd, Act.put, List.setIfInBounds_toArray, List.set_cons_succ, List.set_cons_zero]
          have hbw : Below wr.heap.size wr wz := HI.out.2.trans (hbz.mono HI.out.2.size)
          have ho := own_keep HI.out.1.2.2.2.2.2.2.1 hbw
          rw [HTL.out] at ho
          have HA := Lib.hid (And.intro ho (And.intro hB3 (And.intro hT3 (And.intro hbw hbz))))
          have hHI := HI.out.1.1.size
          have hbs := hbw.size
          clear ho hB3 hT3 hbw hbz
          refine wpList_append_lies _ rfl _ _ _ rfl w1.heap.size 40 trv _ 8 144 Tryz.underlying38 htiv hzv0 hzv1 hzv2 rfl (by decide) s7 k _ e1 HA.out.1 ⟨g3, 0, none⟩ 1 1 (cvK 8 v3) e3 (cvK_len 8 v3) (news_at HA.out.2.1) (IsT.one_s HA.out.2.2.1) (by omega) (by unfold maxLen; omega) (by omega) (by omega) _ rfl ?_
          intro g cap w4 hown hg hat hlt4
          obtain ⟨q1, q2, hc, hN4, ho4, hvN, hat4⟩ := app_field (off := 7) (HN.out.below HA.out.2.2.2.2 HN.out.lt) rfl HA.out.1 HI.out.1.2.2.2.2.2.2.2.1 rfl hown hg hat
          have HS := Lib.hid (HI.out.1.kid (by decide) (by decide) (by decide) HA.out.2.2.2.1 (HA.out.2.2.1.weak (Fresh.low HI.out.2.size)) hc hN4 (by rw [HTL.out]; exact ho4) hvN hat4)
          clear hc hN4 ho4 hown hg hat hlt4 e1 e3 hg3 htiv hzv0 hzv1 hzv2 hHI hbs hvN hat4
          go_wp2_with fail
          go_roundw
          case rel => exact ⟨k + 1, _, _, by omega, by go_num, by rw [HTS.out]; exact HS.out⟩
          case measure => simp [intOf]; omega
        · obtain rfl : k = ks.length := by omega
          have hR := HK.out.1.below hI.1 HK.out.1.lt
          have HI := Lib.hid hI
          clear hI hlt hk
          go_upto_region 9 with fail
          refine _root_.Go.wp_region_lit ?_
          refine wpList_load_row rfl 40 _ rfl N rfl 40 _ (0, 0) _ HI.out.2.2.1 Tryz.underlying40 rfl sz_st ?_
          refine wpList_store_blk rfl 40 _ _ rfl (X + 1) _ rfl rfl 40 _ hR rfl sz_st ?_ ?_
          · exact sV_one HI.out.done
          intro wf hRf hgf hsf
          refine wpList_nil ?_
          have hks : ks.take ks.length = ks := List.take_length
          have hT := HI.out.done
          rw [hks, HSD.out, stTs_map] at hT
          have hst : stT t = .mk (stD d) (ks.map stT) := by rw [HT.out, stT_eq, if_neg HK1.out]
          rw [← hst, ← HSD.out] at hT
          have hT2 := (hT.move (.of_grown hgf fun b hb => ⟨hb.2, fun e => by cases e; have := hb.1; have := HXE.out.2; omega⟩)).weak (S' := Fresh w.heap.size wf) fun b hb => ⟨by have := hb.1; have := HXE.out; omega, by rw [hsf]; exact hb.2⟩
          have hB2 : Below w.heap.size w wf := (HK.out.2.1.trans (HI.out.1.mono HK.out.2.1.size)).grown hgf (by have := HI.out.1.size; have := HK.out.2.1.size; omega) (fun j hj => by cases hj; have := HXE.out; omega)
          have HF := Lib.hid (And.intro hT2 hB2)
          have HRf := Lib.hid hRf
          clear hks hT hT2 hB2 hgf hsf hR hRf hst
          go_wp2_with fail
          exact bodyPost_ret (v := sV sd s4 s5 s6 s7) (results_cell_row rfl _ _ (X + 1) 40 _ (0, 0) _ rfl HRf.out Tryz.underlying40 rfl sz_st) rfl ⟨_, rfl, HF.out.1, HF.out.2⟩

end Go.Proofs.YtaalhglooipnaaaGreat
namespace Go.Proofs.YtaalhglooipnaaaGreat.Fl
namespace P14
open P1

/-- A number that isn't below 0. -/
def least (n : Int) : Int := max 0 (sat n)
theorem least_lo (n : Int) : 0 ≤ least n := by unfold least; omega
theorem least_hi (n : Int) : least n ≤ 2147483647 := by unfold least; have := sat_hi n; omega

/-- The sum of three, one behind the other. -/
def sum3 (x n g : Int) : Int := sum [x, n, g]
theorem sum3_eq (x n g : Int) : sum3 x n g = add (add x n) g := by
  have h0 : sat 0 = 0 := by unfold sat; omega
  show add (add (add 0 x) n) g = _
  unfold add
  simp only [h0, Int.zero_add, sat_sat]
theorem add_lo (a b : Int) : -2147483648 ≤ add a b := sat_lo _
theorem add_hi (a b : Int) : add a b ≤ 2147483647 := sat_hi _

/-- Where the next box goes, and what has been put. -/
structure St where
  x : Int
  y : Int
  h : Int
  W : Int
  out : List (Int × Int)

def St.put (g : Int) (s : St) (b : Int × Int) : St :=
  { x := sum3 s.x b.1 g, y := s.y, h := max s.h b.2, W := max s.W (add s.x b.1), out := s.out ++ [(s.x, s.y)] }
def St.row (g : Int) (s : St) : St := { x := 0, y := sum3 s.y s.h g, h := 0, W := s.W, out := s.out }
def st0 : St := ⟨0, 0, 0, 0, []⟩

section prog
variable (g : Int) (b : Nat → Int × Int) (nx : Nat → Int → Int → Bool)
/-- Behind the question whether a row begins. -/
def pre (k : Nat) (s : St) : St := if 0 < k ∧ nx k s.x (b k).1 = true then s.row g else s
/-- The program's pen behind k boxes (b k: how much it takes, how high it is). -/
def penAt : Nat → St
  | 0 => st0
  | k + 1 => (pre g b nx k (penAt k)).put g (b k)
theorem penAt_succ (k : Nat) : penAt g b nx (k + 1) = (pre g b nx k (penAt g b nx k)).put g (b k) := rfl
theorem pre_out (k : Nat) (s : St) : (pre g b nx k s).out = s.out := by unfold pre; split <;> rfl
theorem penAt_len (k : Nat) : (penAt g b nx k).out.length = k := by
  induction k with
  | zero => rfl
  | succ k ih => simp [penAt_succ, St.put, pre_out, ih]
end prog

section ref
variable (g : Int) (b : Nat → Int × Int)
/-- The document's place: behind j rows. -/
def placed (rows : List (List Nat)) : Nat → St
  | 0 => st0
  | j + 1 => (rows.getD j []).foldl (fun s i => s.put g (b i)) (if j = 0 then st0 else (placed rows j).row g)
theorem placed_succ (rows : List (List Nat)) (j : Nat) :
    placed g b rows (j + 1) = (rows.getD j []).foldl (fun s i => s.put g (b i)) (if j = 0 then st0 else (placed g b rows j).row g) := rfl
theorem placed_congr {r r' : List (List Nat)} (j : Nat) (h : ∀ i, i < j → r.getD i [] = r'.getD i []) : placed g b r j = placed g b r' j := by
  induction j with
  | zero => rfl
  | succ j ih => rw [placed_succ, placed_succ, h j (by omega), ih (fun i hi => h i (by omega))]

/-- Where the document begins row j. -/
def begun (rows : List (List Nat)) (j : Nat) : St := if j = 0 then st0 else (placed g b rows j).row g
theorem placed_begun (rows : List (List Nat)) (j : Nat) : placed g b rows (j + 1) = (rows.getD j []).foldl (fun s i => s.put g (b i)) (begun g b rows j) := rfl
theorem fold_len (l : List Nat) (s : St) : (l.foldl (fun s i => s.put g (b i)) s).out.length = s.out.length + l.length := by
  induction l generalizing s with
  | nil => rfl
  | cons a l ih => rw [List.foldl_cons, ih]; simp only [St.put, List.length_append, List.length_cons, List.length_nil]; omega
theorem fold_y (l : List Nat) (s : St) : (l.foldl (fun s i => s.put g (b i)) s).y = s.y := by
  induction l generalizing s with
  | nil => rfl
  | cons a l ih => rw [List.foldl_cons, ih]; rfl
theorem begun_out (rows : List (List Nat)) (j : Nat) : (begun g b rows j).out = (placed g b rows j).out ∧ (begun g b rows j).W = (placed g b rows j).W ∧ (begun g b rows j).x = 0 ∧ (begun g b rows j).h = 0 := by
  unfold begun
  split
  · rename_i h; subst h; exact ⟨rfl, rfl, rfl, rfl⟩
  · exact ⟨rfl, rfl, rfl, rfl⟩
theorem placed_len (rows : List (List Nat)) (h : ∀ j, (rows.getD j []).length ≤ 40) (j : Nat) : (placed g b rows j).out.length ≤ 40 * j := by
  induction j with
  | zero => exact Nat.zero_le _
  | succ j ih =>
    rw [placed_begun, fold_len, (begun_out g b rows j).1]
    have := h j
    omega
/-- The height of the whole, behind j rows. -/
def high (rows : List (List Nat)) (j : Nat) : Int := if j = 0 then 0 else add (placed g b rows j).y (placed g b rows j).h

variable (fresh : Nat → Int → Bool)
/-- Where the document stands in its row ahead of box k. -/
def rx : Nat → Int
  | 0 => 0
  | k + 1 => add (add (if fresh k (rx k) = true then 0 else rx k) (b k).1) g
/-- The document's rows behind k boxes. -/
def rowsAt : Nat → List (List Nat)
  | 0 => []
  | k + 1 => if fresh k (rx g b fresh k) = true then rowsAt k ++ [[k]] else (rowsAt k).dropLast ++ [(rowsAt k).getLastD [] ++ [k]]
theorem rowsAt_succ (k : Nat) : rowsAt g b fresh (k + 1) = if fresh k (rx g b fresh k) = true then rowsAt g b fresh k ++ [[k]] else (rowsAt g b fresh k).dropLast ++ [(rowsAt g b fresh k).getLastD [] ++ [k]] := rfl
theorem rx_succ (k : Nat) : rx g b fresh (k + 1) = add (add (if fresh k (rx g b fresh k) = true then 0 else rx g b fresh k) (b k).1) g := rfl
end ref

section law
variable {g : Int} {b : Nat → Int × Int} {nx : Nat → Int → Int → Bool} {fresh : Nat → Int → Bool}

/-- Both put each box at the same place. -/
theorem same (hf : ∀ k x, fresh k x = true ↔ (k = 0 ∨ nx k x (b k).1 = true)) (k : Nat) :
    (penAt g b nx k).x = rx g b fresh k ∧ (0 < k → rowsAt g b fresh k ≠ []) ∧ placed g b (rowsAt g b fresh k) (rowsAt g b fresh k).length = penAt g b nx k := by
  induction k with
  | zero => exact ⟨rfl, fun h => absurd h (by omega), rfl⟩
  | succ k ih =>
    obtain ⟨ix, ine, ip⟩ := ih
    have hxx : (pre g b nx k (penAt g b nx k)).x = if fresh k (rx g b fresh k) = true then 0 else rx g b fresh k := by
      unfold pre
      by_cases hk : k = 0
      · subst hk
        rw [if_neg (by omega), if_pos ((hf 0 _).2 (.inl rfl))]
        rfl
      · by_cases hn : nx k (penAt g b nx k).x (b k).1 = true
        · rw [if_pos ⟨by omega, hn⟩, if_pos ((hf k _).2 (.inr (by rw [← ix]; exact hn)))]
          rfl
        · rw [if_neg (fun h => hn h.2), if_neg, ix]
          intro h
          rcases (hf k _).1 h with h | h
          · exact hk h
          · exact hn (by rw [ix]; exact h)
    refine ⟨?_, fun _ => ?_, ?_⟩
    · rw [penAt_succ, rx_succ]
      simp only [St.put, sum3_eq]
      rw [hxx]
    · rw [rowsAt_succ]
      split <;> simp
    · rw [rowsAt_succ, penAt_succ]
      by_cases hk : k = 0
      · subst hk
        rw [if_pos ((hf 0 _).2 (.inl rfl))]
        rfl
      · have hne := ine (by omega)
        by_cases hn : nx k (penAt g b nx k).x (b k).1 = true
        · rw [if_pos ((hf k _).2 (.inr (by rw [← ix]; exact hn)))]
          simp only [List.length_append, List.length_cons, List.length_nil]
          rw [placed_succ]
          have hl : (rowsAt g b fresh k).length ≠ 0 := fun h => hne (List.eq_nil_of_length_eq_zero h)
          rw [if_neg hl, placed_congr g b (r' := rowsAt g b fresh k) _ (fun i hi => by simp [List.getD, List.getElem?_append_left hi]), ip]
          have e : (rowsAt g b fresh k ++ [[k]]).getD (rowsAt g b fresh k).length [] = [k] := by simp [List.getD]
          rw [e]
          simp only [List.foldl_cons, List.foldl_nil]
          unfold pre
          rw [if_pos ⟨by omega, hn⟩]
        · have hfr : ¬ fresh k (rx g b fresh k) = true := by
            intro h
            rcases (hf k _).1 h with h | h
            · exact hk h
            · exact hn (by rw [ix]; exact h)
          rw [if_neg hfr]
          generalize rowsAt g b fresh k = r at *
          obtain ⟨i, l, rfl⟩ : ∃ i l, r = i ++ [l] := ⟨r.dropLast, r.getLast hne, (List.dropLast_concat_getLast hne).symm⟩
          simp only [List.dropLast_concat, List.getLastD_concat, List.length_append, List.length_cons, List.length_nil] at ip ⊢
          have e2 : (i ++ [l ++ [k]]).getD i.length [] = l ++ [k] := by simp [List.getD]
          have e3 : (i ++ [l]).getD i.length [] = l := by simp [List.getD]
          rw [placed_succ, e3] at ip
          rw [placed_succ, e2, List.foldl_append, placed_congr g b (r' := i ++ [l]) _ (fun j hj => by simp [List.getD, List.getElem?_append_left hj]), ip]
          simp only [List.foldl_cons, List.foldl_nil]
          unfold pre
          rw [if_neg (fun h => hn h.2)]
end law

end P14
end Go.Proofs.YtaalhglooipnaaaGreat.Fl
namespace Go.Proofs.YtaalhglooipnaaaGreat.Fl
open Go.RowKit
attribute [local go_sem ↓] Go.wp_at_zero Go.wp_at_succ

set_option maxHeartbeats 400000 in
theorem least_any (x : Int) (w : World) :
    Calls Tryz.prog 155 #[.int .i64 x] w fun e w' => e = .returned (.int .i64 (P14.least x)) ∧ w = w' := by
  go_enter Tryz.func155, Tryz.ntmps155
  go_wp2_with (go_at_call 106; ((with_reducible refine (sat_any _ _).mono ?_); rintro e w' ⟨rfl, rfl⟩))
  go_ret
  exact ⟨rfl, rfl⟩

set_option maxHeartbeats 400000 in
theorem rleast_any (x : Int) (w : World) :
    Calls Tryz.prog 76 #[.int .i64 x] w fun e w' => e = .returned (.int .i64 (P14.least x)) ∧ w = w' := by
  go_enter Tryz.func76, Tryz.ntmps76
  go_wp2_with (go_at_call 75; ((with_reducible refine (rsat_any _ _).mono ?_); rintro e w' ⟨rfl, rfl⟩))
  go_ret
  exact ⟨rfl, rfl⟩

/-- The pen lies in block g. -/
def Pen (w : World) (g : Nat) (x y h gap wide : Int) (any : Bool) : Prop :=
  Blk w g 225 #[.int .i64 x, .int .i64 y, .int .i64 h, .int .i64 gap, .int .i64 wide, .bool any]

theorem Pen.cells {w : World} {g : Nat} {x y h gap wide : Int} {any : Bool} (p : Pen w g x y h gap wide any) :
    w.cell? ⟨g, 0, none⟩ = some (.int .i64 x) ∧ w.cell? ⟨g, 1, none⟩ = some (.int .i64 y) ∧ w.cell? ⟨g, 2, none⟩ = some (.int .i64 h) ∧
    w.cell? ⟨g, 3, none⟩ = some (.int .i64 gap) ∧ w.cell? ⟨g, 4, none⟩ = some (.int .i64 wide) ∧ w.cell? ⟨g, 5, none⟩ = some (.bool any) :=
  ⟨p.cell 0, p.cell 1, p.cell 2, p.cell 3, p.cell 4, p.cell 5⟩
theorem Pen.free {w : World} {g : Nat} {x y h gap wide : Int} {any : Bool} (p : Pen w g x y h gap wide any) :
    w.frozen? ⟨g, 0, none⟩ = false ∧ w.frozen? ⟨g, 1, none⟩ = false ∧ w.frozen? ⟨g, 2, none⟩ = false ∧ w.frozen? ⟨g, 3, none⟩ = false ∧ w.frozen? ⟨g, 4, none⟩ = false ∧ w.frozen? ⟨g, 5, none⟩ = false :=
  ⟨p.frozen 0, p.frozen 1, p.frozen 2, p.frozen 3, p.frozen 4, p.frozen 5⟩

theorem ints_three (w : World) (a b c : Int) (t : TypeId) : Ints (w.alloc (.cells #[.int .i64 a, .int .i64 b, .int .i64 c] t)) (some ⟨w.heap.size, 0, none⟩) 3 [a, b, c] :=
  ⟨rfl, .inr ⟨_, _, rfl, fun k hk => by
    rw [(Blk.new w t _).cell]
    match k, hk with
    | 0, _ => rfl
    | 1, _ => rfl
    | 2, _ => rfl⟩⟩

theorem Pen.turned {w : World} {g : Nat} {x y h gap wide : Int} {any : Bool} (p : Pen w g x y h gap wide any) (a b c : Int) (o : Obj) :
    Pen ((((w.setCell ⟨g, 1, none⟩ (.int .i64 a)).setCell ⟨g, 0, none⟩ (.int .i64 b)).setCell ⟨g, 2, none⟩ (.int .i64 c)).alloc o).drew g b a c gap wide any :=
  (((Blk.set_ p 1 (.int .i64 a)).set_ 0 (.int .i64 b)).set_ 2 (.int .i64 c)).alloc o
theorem Pen.turned_only (w : World) (g : Nat) (a b c : Value) (o : Obj) :
    w.grownBy ((((w.setCell ⟨g, 1, none⟩ a).setCell ⟨g, 0, none⟩ b).setCell ⟨g, 2, none⟩ c).alloc o).drew (some g) :=
  only_drew (only_alloc (only_set (only_set (only_set (World.grownBy.refl w _) 1 a) 0 b) 2 c) o)

set_option maxHeartbeats 2000000 in
theorem row_any (g : Nat) (x y h gap wide : Int) (w : World) (hp : Pen w g x y h gap wide true) :
    Calls Tryz.prog 171 #[.pointer (some ⟨g, 0, none⟩)] w fun e w' => e = .returned (.tuple #[]) ∧ Pen w' g 0 (P1.sum [y, h, gap]) 0 gap wide true ∧ w.grownBy w' (some g) := by
  obtain ⟨c0, c1, c2, c3, c4, c5⟩ := hp.cells
  obtain ⟨f0, f1, f2, f3, f4, f5⟩ := hp.free
  have hlt := hp.lt
  have HP := Lib.hid hp
  clear hp
  go_enter Tryz.func171, Tryz.ntmps171
  go_wp2_with fail
  go_region_with (first | (go_at_call 113; refine (sum_any _ _ _ [y, h, gap] _ ?_ (by omega)).mono ?_; exact ints_three w _ _ _ _; rintro e w' ⟨rfl, rfl⟩))
  all_goals (go_wp2; go_end0; exact ⟨rfl, HP.out.turned _ _ _ _, Pen.turned_only _ _ _ _ _ _⟩)

set_option maxHeartbeats 2000000 in
theorem whole_any (g : Nat) (x y h gap wide : Int) (any : Bool) (w : World) (hp : Pen w g x y h gap wide any) :
    Calls Tryz.prog 173 #[.pointer (some ⟨g, 0, none⟩)] w fun e w' => e = .returned (.agg #[.int .i64 wide, .int .i64 (P1.add y h)]) ∧ Below w.heap.size w w' := by
  obtain ⟨c0, c1, c2, c3, c4, c5⟩ := hp.cells
  obtain ⟨f0, f1, f2, f3, f4, f5⟩ := hp.free
  have hlt := hp.lt
  have n1 := World.new_ne w ⟨g, 1, none⟩ c1
  have n2 := World.new_ne w ⟨g, 2, none⟩ c2
  have n4 := World.new_ne w ⟨g, 4, none⟩ c4
  clear hp
  go_enter Tryz.func173, Tryz.ntmps173
  go_wp2_with fail
  go_region_held3 (fun w' => w'.cell? ⟨g, 1, none⟩ = some (.int .i64 y) ∧ w'.cell? ⟨g, 2, none⟩ = some (.int .i64 h) ∧ w'.cell? ⟨g, 4, none⟩ = some (.int .i64 wide)) (go_keep)
    (first | (go_at_call 90; ((with_reducible refine (add_any _ _ _).mono ?_); rintro e w' ⟨rfl, rfl⟩)))
  go_wp2
  exact bodyPost_ret (v := .agg #[.int .i64 wide, .int .i64 (P1.add y h)]) (by simp [results, Tryz.results173, go_sem]) rfl ⟨rfl, ((Below.refl _ _).alloc (Nat.le_refl _) _).drew⟩

set_option maxHeartbeats 2000000 in
theorem plain_any (a b : Int) (w : World) :
    Calls Tryz.prog 170 #[.agg #[.int .i64 a, .int .i64 b]] w fun e w' => e = .returned (.agg #[.int .i64 (P14.least a), .int .i64 (P14.least b)]) ∧ Below w.heap.size w w' := by
  go_enter Tryz.func170, Tryz.ntmps170
  go_wp2_with fail
  go_region_held3 (fun w' => w'.cell? ⟨w.heap.size, 0, none⟩ = some (.int .i64 a) ∧ w'.cell? ⟨w.heap.size, 1, none⟩ = some (.int .i64 b)) (go_keep)
    (first | (go_at_call 155; ((with_reducible refine (least_any _ _).mono ?_); rintro e w' ⟨rfl, rfl⟩)))
  go_wp2
  exact bodyPost_ret (v := .agg #[.int .i64 (P14.least a), .int .i64 (P14.least b)]) (by simp [results, Tryz.results170, go_sem]) rfl ⟨rfl, (((Below.refl _ _).alloc (Nat.le_refl _) _).alloc (by simp) _).drew⟩

end Go.Proofs.YtaalhglooipnaaaGreat.Fl
