/-
  The walk over Normal of layer 7.
-/
import Derived.Test.YtaalhglooipnaaaGreatL30
import Derived.StillTailTactics
namespace Go.Proofs.YtaalhglooipnaaaGreat
open Go.RowKit RT
attribute [local go_sem ↓] Go.wp_at_zero Go.wp_at_succ

def NrmR1 (W : World) (X : Nat) (d : VD) (A1 A2 A3 : Option Addr) (c1 c2 c3 : Nat) (kv : Value) : Nat → Value → World → Prop
  | 0, v, _ => v = .pointer (some ⟨X, 4, none⟩)
  | 1, v, _ => v = .slice A1 d.cl.length c1
  | 2, v, w => RowS W.heap.size (cleanS d.cl) v w
  | 3, v, _ => v = .pointer (some ⟨X, 5, none⟩)
  | 4, v, _ => v = .slice A2 d.at_.length c2
  | 5, v, w => RowA 90 W.heap.size (St.ofS d.at_) v w
  | 6, v, _ => v = .pointer (some ⟨X, 6, none⟩)
  | 7, v, _ => v = .slice A3 d.st.length c3
  | 8, v, w => RowP 105 W.heap.size (ofS d.st) v w
  | 9, v, _ => v = .pointer (some ⟨X, 4, none⟩)
  | _, _, _ => True
theorem NrmR1_keep (W : World) (X : Nat) (d : VD) (A1 A2 A3 : Option Addr) (c1 c2 c3 : Nat) (kv : Value) (j : Nat) (v : Value) (w w' : World) (h : NrmR1 W X d A1 A2 A3 c1 c2 c3 kv j v w) (hb : Below w.heap.size w w') : NrmR1 W X d A1 A2 A3 c1 c2 c3 kv j v w' := by
  match j with
  | 0 => exact h
  | 1 => exact h
  | 2 => exact Row.keep h hb
  | 3 => exact h
  | 4 => exact h
  | 5 => exact Row.keep h hb
  | 6 => exact h
  | 7 => exact h
  | 8 => exact Row.keep h hb
  | 9 => exact h
  | _ + 10 => trivial
theorem ix_vn {g n q p : Nat} (h : p < n) (w : World) : (Instr.indexAt 43 (.slice (some ⟨g, 0, none⟩) n q) (.int .i64 (p : Nat))).run Tryz.prog w = .ok (.pointer (some ⟨g, p * 14, none⟩)) w := by
  have h0 : (0 : Int) ≤ (p : Int) := by omega
  have h1 : (p : Int) < (n : Int) := by omega
  go_simp
theorem fai_vn_3 (b i : Nat) (w : World) : (Instr.fieldAt 45 (.pointer (some ⟨b, i, none⟩)) 3).run Tryz.prog w = .ok (.pointer (some ⟨b, i + 3, none⟩)) w := by go_simp
theorem add_str (x y : Operand) (s t : ByteArray) (h : s.size + t.size ≤ 1000000) (w : World) : (do eqGuard .add 9 x y (.string s) (.string t); binOp .add 9 (.string s) (.string t) : Sem Value).run Tryz.prog w = .ok (.string (s ++ t)) w := by
  have h2 : s.size + t.size ≤ 9223372036854775807 := by omega
  go_simp
def NrmR11 (W : World) (K5 g n q p : Nat) (e5 : VD) (s0 : ByteArray) (l1 l2 l3 l4 : Value) : Nat → Value → World → Prop
  | 0, v, _ => v = .slice (some ⟨g, 0, none⟩) n q
  | 1, v, _ => v = .int .i64 (p : Nat)
  | 2, v, _ => v = .pointer (some ⟨g, p * 14, none⟩)
  | 3, v, _ => v = .pointer (some ⟨g, p * 14 + 3, none⟩)
  | 4, v, _ => v = .string s0
  | 5, v, _ => v = .pointer (some ⟨K5, 3, none⟩)
  | 6, v, _ => v = .string e5.text
  | 7, v, _ => v = .string (s0 ++ e5.text)
  | _, _, _ => True
theorem NrmR11_keep (W : World) (K5 g n q p : Nat) (e5 : VD) (s0 : ByteArray) (l1 l2 l3 l4 : Value) (j : Nat) (v : Value) (w w' : World) (h : NrmR11 W K5 g n q p e5 s0 l1 l2 l3 l4 j v w) (hb : Below w.heap.size w w') : NrmR11 W K5 g n q p e5 s0 l1 l2 l3 l4 j v w' := by
  match j with
  | 0 => exact h
  | 1 => exact h
  | 2 => exact h
  | 3 => exact h
  | 4 => exact h
  | 5 => exact h
  | 6 => exact h
  | 7 => exact h
  | _ + 8 => trivial

/-- What is known of the kids that are made. -/
def NI (w2 : World) (ts : List VT) (us : List Value) (s3 : Value) (wx : World) : Prop :=
  Below w2.heap.size w2 wx ∧ wx.ownsRow w2.heap.size 45 14 s3 ts.length (us.flatMap (cvK 14)) ∧ IsTs vK wx (fun b => w2.heap.size ≤ b ∧ b < wx.heap.size ∧ s3.ownBlock ≠ some b) ts us
section
variable {w2 wr wz w5 : World} {ts : List VT} {us : List Value} {s3 v : Value}
theorem NI.keep (h : NI w2 ts us s3 wr) (hb : Below wr.heap.size wr wz) : NI w2 ts us s3 wz := by
  obtain ⟨h1, h2, h3⟩ := h
  exact ⟨h1.trans (hb.mono h1.size), own_keep h2 hb, (h3.move (.of_below hb fun b hb => hb.2.1)).weak fun b hb' => ⟨hb'.1, Nat.lt_of_lt_of_le hb'.2.1 hb.size, hb'.2.2⟩⟩
theorem NI.kid {t : VT} {v' : Value} (h : NI w2 ts us s3 wz) (ht : IsT vK wz (fun b => w2.heap.size ≤ b ∧ b < wz.heap.size ∧ s3.ownBlock ≠ some b) t v') (hg : wz.grownBy w5 s3.ownBlock)
    (hown : w5.ownsRow w2.heap.size 45 14 v (ts.length + 1) (us.flatMap (cvK 14) ++ cvK 14 v')) (hat : v.ownBlock = s3.ownBlock ∨ v.ownBlock = some wz.heap.size) : NI w2 (ts ++ [t]) (us ++ [v']) v w5 := by
  obtain ⟨h1, h2, h3⟩ := h
  refine ⟨h1.grown hg h1.size (fun j hj => (h2.lt j hj).1), ?_, ?_⟩
  · rw [List.length_append, List.flatMap_append]
    simpa using hown
  · have hw : ∀ b, (w2.heap.size ≤ b ∧ b < wz.heap.size ∧ s3.ownBlock ≠ some b) → (w2.heap.size ≤ b ∧ b < w5.heap.size ∧ v.ownBlock ≠ some b) := by
      intro b hb
      refine ⟨hb.1, Nat.lt_of_lt_of_le hb.2.1 hg.size, ?_⟩
      rcases hat with e | e
      · rw [e]; exact hb.2.2
      · rw [e]; have := hb.2.1; simp only [ne_eq, Option.some.injEq]; omega
    exact ((h3.move (.of_grown hg fun b hb => ⟨hb.2.1, fun e => hb.2.2 e.symm⟩)).weak hw).snoc ((ht.move (.of_grown hg fun b hb => ⟨hb.2.1, fun e => hb.2.2 e.symm⟩)).weak hw)
end

theorem flat_set (us : List Value) (d : VD) (a1 a2 a3 k : Value) (s : ByteArray) :
    ((us ++ [vV d a1 a2 a3 k]).flatMap (cvK 14)).set (us.length * 14 + 3) (.string (d.text ++ s)) = (us ++ [vV (addText d s) a1 a2 a3 k]).flatMap (cvK 14) := by
  have hl : (us.flatMap (cvK 14)).length = us.length * 14 := flatS_len us fun a _ => cvK_len 14 a
  rw [List.flatMap_append, List.flatMap_append, List.set_append_right _ _ (by omega), hl, show us.length * 14 + 3 - us.length * 14 = 3 by omega]
  rfl

theorem NI.join {w2 w : World} {ts0 : List VT} {e0 : VD} {ks0 : List VT} {us0 : List Value} {j1 j2 j3 k4 : Value} {g n q : Nat} (s : ByteArray) (h : NI w2 (ts0 ++ [.mk e0 ks0]) (us0 ++ [vV e0 j1 j2 j3 k4]) (.slice (some ⟨g, 0, none⟩) n q) w) (hn : n = (ts0 ++ [RT.mk e0 ks0]).length) :
    NI w2 (ts0 ++ [.mk (addText e0 s) ks0]) (us0 ++ [vV (addText e0 s) j1 j2 j3 k4]) (.slice (some ⟨g, 0, none⟩) n q) (w.setCell ⟨g, us0.length * 14 + 3, none⟩ (.string (e0.text ++ s))) := by
  obtain ⟨h1, h2, h3⟩ := h
  have hg := (h2.lt g rfl).1
  have hc : Chg (· = g) w (w.setCell ⟨g, us0.length * 14 + 3, none⟩ (.string (e0.text ++ s))) := Chg.set (T := (· = g)) rfl _ _ _
  refine ⟨h1.trans (hc.below h1.size fun i hi => by rw [hi]; exact hg), ?_, ?_⟩
  · have hl : (ts0 ++ [RT.mk (addText e0 s) ks0]).length = n := by rw [hn]; simp
    rw [hl]
    rw [← hn] at h2
    have := own_setAt h2 (us0.length * 14 + 3) (.string (e0.text ++ s))
    rw [flat_set] at this
    exact this
  · obtain ⟨us1, v1, he, hs0, hsl⟩ := h3.unsnoc
    obtain ⟨rfl, hv⟩ := List.append_inj' he rfl
    obtain rfl : vV e0 j1 j2 j3 k4 = v1 := by simpa using hv
    have hst : Still (fun b => w2.heap.size ≤ b ∧ b < w.heap.size ∧ (Value.slice (some ⟨g, 0, none⟩) n q).ownBlock ≠ some b) w (w.setCell ⟨g, us0.length * 14 + 3, none⟩ (.string (e0.text ++ s))) := hc.still fun b hb => ⟨hb.2.1, fun e => hb.2.2 (by rw [e]; rfl)⟩
    have hw : ∀ b, (w2.heap.size ≤ b ∧ b < w.heap.size ∧ (Value.slice (some ⟨g, 0, none⟩) n q).ownBlock ≠ some b) → (w2.heap.size ≤ b ∧ b < (w.setCell ⟨g, us0.length * 14 + 3, none⟩ (.string (e0.text ++ s))).heap.size ∧ (Value.slice (some ⟨g, 0, none⟩) n q).ownBlock ≠ some b) := fun b hb => ⟨hb.1, Nat.lt_of_lt_of_le hb.2.1 hc.size, hb.2.2⟩
    refine ((hs0.move hst).weak hw).snoc ?_
    have hT := (hsl.move hst).weak hw
    obtain ⟨A, c, vs, ⟨a1, a2, a3, hv, hr⟩, h4, h5⟩ := IsT.eq.1 hT
    rw [IsT]
    have hvv : j1 = a1 ∧ j2 = a2 ∧ j3 = a3 ∧ k4 = .slice A ks0.length c := by
      simp only [vV, vC, Value.agg.injEq] at hv
      have := congrArg Array.toList hv
      simp only [List.cons.injEq] at this
      exact ⟨this.2.2.2.2.1, this.2.2.2.2.2.1, this.2.2.2.2.2.2.1, this.2.2.2.2.2.2.2.2.2.2.2.2.2.1⟩
    obtain ⟨rfl, rfl, rfl, rfl⟩ := hvv
    exact ⟨A, c, vs, ⟨_, _, _, rfl, hr⟩, h4, h5⟩

/-- The last one's kind. -/
def lastKind (ts : List VT) : Int := match ts.getLast? with
  | some t => t.dat.kind
  | none => 0
theorem lastKind_app (ts : List VT) (t : VT) : lastKind (ts ++ [t]) = t.dat.kind := by simp [lastKind]

/-- What Normal hands back. -/
def NPost (t : VT) (w : World) (v' : Value) (w' : World) : Prop := ∃ t', NRel t t' ∧ IsT vK w' (Fresh w.heap.size w') t' v'

set_option maxRecDepth 100000 in
set_option maxHeartbeats 16000000 in
theorem normal_any (m : Nat) : ∀ (t : VT) (v : Value) (w : World), t.size ≤ m → m ≤ 1000 → tx t ≤ 1000000 → All vb t → IsT vK w (Old w) t v →
    Calls Tryz.prog 25 #[v] w (Hands (NPost t w) w) := by
  induction m with
  | zero => intro t v w h; have := size_pos t; omega
  | succ m ih =>
    intro t v w hsz hm htx hvb hT
    obtain ⟨A4, c4, vs, ⟨a1, a2, a3, rfl, hrows⟩, hvs, hks⟩ := IsT.eq.1 hT
    obtain ⟨A1, c1, A2, c2, A3, c3, rfl, rfl, rfl, r1, r2, r3⟩ := hrows
    obtain ⟨hv1, hv2⟩ := All.eq.1 hvb
    obtain ⟨hb1, hb2, hb3⟩ := hv1
    have hkl := kids_len hsz
    have hks1 := fun k hk => kid_size hsz k hk
    have hsum : sizes t.kids ≤ m := by rw [RT.size_eq] at hsz; omega
    rw [tx_eq] at htx
    obtain ⟨d, hd⟩ : ∃ d, d = t.dat := ⟨_, rfl⟩
    obtain ⟨ks, hkse⟩ : ∃ ks, ks = t.kids := ⟨_, rfl⟩
    have HT := Lib.hid (show t = RT.mk d ks by rw [hd, hkse]; cases t; rfl)
    rw [← hd] at r1 r2 r3 hb1 hb2 hb3 htx ⊢
    rw [← hkse] at hvs hks hv2 hkl hks1 htx hsum ⊢
    have hksz := fun k (hk : k < ks.length) => Nat.le_trans (txs_mem ks ks[k] (List.getElem_mem hk)) (Nat.le_trans (Nat.le_add_left _ _) htx)
    have HTX := Lib.hid htx
    clear hT hvb hd hkse hsz htx
    obtain ⟨w1, hw1, hX, hR, hB0, hs1⟩ := two_new w (vC d (.slice A1 d.cl.length c1) (.slice A2 d.at_.length c2) (.slice A3 d.st.length c3) (.slice A4 ks.length c4)).toArray zs_vn 45 45
    unfold vV vC
    unfold vC zs_vn at hw1
    unfold vC at hX
    go_enter Tryz.func25, Tryz.ntmps25
    go_upto_region 1 with fail
    rw [← hw1]
    obtain ⟨X, hXe⟩ : ∃ X, X = w.heap.size := ⟨_, rfl⟩
    rw [← hXe] at hX hR hs1 ⊢
    have HX := Lib.hid (And.intro hX (And.intro (r1.move (.of_below hB0 fun _ h => h)) (And.intro (r2.move (.of_below hB0 fun _ h => h)) (And.intro (r3.move (.of_below hB0 fun _ h => h)) (fun b (h : Old w b) => show b < w1.heap.size from Nat.lt_of_lt_of_le h hB0.size)))))
    have HK := Lib.hid (And.intro hR (And.intro hB0 (And.intro (show Vs 14 w1 (Old w) A4 ks.length vs from hvs.move (.of_below hB0 fun _ h => h)) (hks.move (.of_below hB0 fun _ h => h)))))
    have HXE := Lib.hid (And.intro hXe hs1)
    have HVD := Lib.hid (show vb d from ⟨hb1, hb2, hb3⟩)
    clear hX hR hB0 hw1 hXe hs1 r1 r2 r3 hvs hks
    refine wp_region_tail 10 _ ?_ ?_ ?_ ?_ (NrmR1 w1 X d A1 A2 A3 c1 c2 c3 (.slice A4 ks.length c4)) (fun j v wx wy => NrmR1_keep _ _ _ _ _ _ _ _ _ _ j v wx wy) ?_ ?_ ?_
    · kernel_rfl
    · kernel_rfl
    · kernel_rfl
    · kernel_rfl
    · refine ⟨opV rfl fun s wx hb hd => ⟨_, ex_fld rfl (lit_out 1 (by kernel_rfl)) (fa_vn_4 _ wx), rfl⟩, ?_⟩
      refine ⟨opV rfl fun s wx hb hd => ⟨_, ex_ld rfl ((lit_at 0 7 (by kernel_rfl) (by kernel_rfl) (by kernel_rfl)).trans (hd 0 (by kernel_rfl))) (ld_Lstring (((HX.out.1).below hb (HX.out.1).lt).cell 4)), rfl⟩, ?_⟩
      refine ⟨opC rfl fun s wx hb hd => ⟨_, _, ex_c1 rfl rfl (enters Tryz.func56 (by kernel_rfl) rfl _ _) ((lit_at 1 8 (by kernel_rfl) (by kernel_rfl) (by kernel_rfl)).trans (hd 1 (by kernel_rfl))), ?_⟩, ?_⟩
      · refine (clean_row A1 _ c1 d.cl _ wx (fun b h => Nat.lt_of_lt_of_le (HX.out.2.2.2.2 b h) hb.size) (HX.out.2.1.move (.of_below hb HX.out.2.2.2.2)) (by omega)).mono ?_
        rintro e w' ⟨v', rfl, hrow, hb'⟩
        exact ⟨v', rfl, hrow.low hb.size, hb'⟩
      refine ⟨opV rfl fun s wx hb hd => ⟨_, ex_fld rfl (lit_out 1 (by kernel_rfl)) (fa_vn_5 _ wx), rfl⟩, ?_⟩
      refine ⟨opV rfl fun s wx hb hd => ⟨_, ex_ld rfl ((lit_at 3 10 (by kernel_rfl) (by kernel_rfl) (by kernel_rfl)).trans (hd 3 (by kernel_rfl))) (ld_props_Map_string (((HX.out.1).below hb (HX.out.1).lt).cell 5)), rfl⟩, ?_⟩
      refine ⟨opC rfl fun s wx hb hd => ⟨_, _, ex_c1 rfl rfl (enters Tryz.func57 (by kernel_rfl) rfl _ _) ((lit_at 4 11 (by kernel_rfl) (by kernel_rfl) (by kernel_rfl)).trans (hd 4 (by kernel_rfl))), ?_⟩, ?_⟩
      · refine (ofA_row A2 _ c2 d.at_ _ wx (fun b h => Nat.lt_of_lt_of_le (HX.out.2.2.2.2 b h) hb.size) (HX.out.2.2.1.move (.of_below hb HX.out.2.2.2.2)) (by omega)).mono ?_
        rintro e w' ⟨v', rfl, hrow, hb'⟩
        exact ⟨v', rfl, hrow.low hb.size, hb'⟩
      refine ⟨opV rfl fun s wx hb hd => ⟨_, ex_fld rfl (lit_out 1 (by kernel_rfl)) (fa_vn_6 _ wx), rfl⟩, ?_⟩
      refine ⟨opV rfl fun s wx hb hd => ⟨_, ex_ld rfl ((lit_at 6 13 (by kernel_rfl) (by kernel_rfl) (by kernel_rfl)).trans (hd 6 (by kernel_rfl))) (ld_props_Map_int (((HX.out.1).below hb (HX.out.1).lt).cell 6)), rfl⟩, ?_⟩
      refine ⟨opC rfl fun s wx hb hd => ⟨_, _, ex_c1 rfl rfl (enters Tryz.func58 (by kernel_rfl) rfl _ _) ((lit_at 7 14 (by kernel_rfl) (by kernel_rfl) (by kernel_rfl)).trans (hd 7 (by kernel_rfl))), ?_⟩, ?_⟩
      · refine (ofP_row A3 _ c3 d.st _ wx (fun b h => Nat.lt_of_lt_of_le (HX.out.2.2.2.2 b h) hb.size) (HX.out.2.2.2.1.move (.of_below hb HX.out.2.2.2.2)) (by omega)).mono ?_
        rintro e w' ⟨v', rfl, hrow, hb'⟩
        exact ⟨v', rfl, hrow.low hb.size, hb'⟩
      refine ⟨opV rfl fun s wx hb hd => ⟨_, ex_fld rfl (lit_out 1 (by kernel_rfl)) (fa_vn_4 _ wx), rfl⟩, ?_⟩
      trivial
    rotate_left
    · kernel_rfl
    intro s wz hbz hV
    obtain ⟨B4, b4, e4, h4⟩ := hV 2 (by omega)
    obtain ⟨B5, b5, e5, h5⟩ := hV 5 (by omega)
    obtain ⟨B6, b6, e6, h6⟩ := hV 8 (by omega)
    have e9 : s 9 = .pointer (some ⟨X, 4, none⟩) := hV 9 (by omega)
    clear hV
    have hXz := HX.out.1.below hbz HX.out.1.lt
    have y4 : wz.cell? ⟨X, 4, none⟩ = some (.slice A1 d.cl.length c1) := hXz.cell 4
    have y5 : wz.cell? ⟨X, 5, none⟩ = some (.slice A2 d.at_.length c2) := hXz.cell 5
    have y6 : wz.cell? ⟨X, 6, none⟩ = some (.slice A3 d.st.length c3) := hXz.cell 6
    have f4 := hXz.frozen 4
    have f5 := hXz.frozen 5
    have f6 := hXz.frozen 6
    simp only [List.take_succ_cons, List.take_zero, List.drop_succ_cons, List.drop_zero, litOf, List.map_cons, List.map_nil, Nat.zero_add, Nat.reduceAdd, Act.put, List.setIfInBounds_toArray, List.set_cons_succ, List.set_cons_zero]
    go_upto_region 2 with fail
    have hE := ((hXz.set_ 4 (.slice B4 (cleanS d.cl).length b4)).set_ 5 (.slice B5 (St.ofS d.at_).length b5)).set_ 6 (.slice B6 (ofS d.st).length b6)
    have hC : Chg (· = X) wz (((wz.setCell ⟨X, 4, none⟩ (.slice B4 (cleanS d.cl).length b4)).setCell ⟨X, 5, none⟩ (.slice B5 (St.ofS d.at_).length b5)).setCell ⟨X, 6, none⟩ (.slice B6 (ofS d.st).length b6)) := ((Chg.set (T := (· = X)) rfl _ _ _).trans (Chg.set (T := (· = X)) rfl _ _ _)).trans (Chg.set (T := (· = X)) rfl _ _ _)
    generalize ((wz.setCell ⟨X, 4, none⟩ (.slice B4 (cleanS d.cl).length b4)).setCell ⟨X, 5, none⟩ (.slice B5 (St.ofS d.at_).length b5)).setCell ⟨X, 6, none⟩ (.slice B6 (ofS d.st).length b6) = w2 at hE hC ⊢
    replace hE : Blk w2 X 45 (vC (nD d) (.slice B4 (cleanS d.cl).length b4) (.slice B5 (St.ofS d.at_).length b5) (.slice B6 (ofS d.st).length b6) (.slice A4 ks.length c4)).toArray := hE
    have hrow4 : RowS w1.heap.size (nD d).cl (.slice B4 (cleanS d.cl).length b4) w2 := Row.chg ⟨B4, b4, rfl, h4⟩ hC (fun b cs _ hb e => by subst e; exact Blk.ne_ hb hXz (by decide) rfl)
    have hrow5 : RowA 90 w1.heap.size (nD d).at_ (.slice B5 (St.ofS d.at_).length b5) w2 := Row.chg ⟨B5, b5, rfl, h5⟩ hC (fun b cs _ hb e => by subst e; exact Blk.ne_ hb hXz (by decide) rfl)
    have hrow6 : RowP 105 w1.heap.size (nD d).st (.slice B6 (ofS d.st).length b6) w2 := Row.chg ⟨B6, b6, rfl, h6⟩ hC (fun b cs _ hb e => by subst e; exact Blk.ne_ hb hXz (by decide) rfl)
    have hst : Still (Old w) w1 w2 := (Still.of_below hbz HX.out.2.2.2.2).trans (hC.still fun b hb => ⟨Nat.lt_of_lt_of_le (HX.out.2.2.2.2 b hb) hbz.size, fun e => by subst e; have := HXE.out.1; unfold Old at hb; omega⟩)
    have hsz2 : w1.heap.size ≤ w2.heap.size := Nat.le_trans hbz.size hC.size
    have hB2 : Below w.heap.size w w2 := (HK.out.2.1.trans (hbz.mono HK.out.2.1.size)).trans (hC.below (Nat.le_trans HK.out.2.1.size hbz.size) fun i hi => by rw [hi, HXE.out.1]; exact Nat.le_refl _)
    have hR2 : Blk w2 (X + 1) 45 zs_vn := hC.blk (HK.out.1.below hbz HK.out.1.lt) (by omega)
    have HR := Lib.hid (And.intro hE (And.intro hrow4 (And.intro hrow5 (And.intro hrow6 (And.intro hR2 (And.intro hB2 hsz2))))))
    have HL := Lib.hid (And.intro (show Vs 14 w2 (Old w) A4 ks.length vs from HK.out.2.2.1.move hst) (And.intro (HK.out.2.2.2.move hst) (fun b (h : Old w b) => show b < w2.heap.size from Nat.lt_of_lt_of_le h hB2.size)))
    have x13 : w2.cell? ⟨X, 13, none⟩ = some (.slice A4 ks.length c4) := hE.cell 13
    have HI0 := Lib.hid (show NI w2 [] [] (.slice none 0 0) w2 from ⟨Below.refl _ _, World.ownsRow_nil _ _ _ _, IsTs.nil⟩)
    clear hE hC hrow4 hrow5 hrow6 hst hsz2 hB2 hR2 hXz y4 y5 y6 f4 f5 f6 h4 h5 h6 e4 e5 e6 e9 hbz
    obtain ⟨trv, htiv, hzv0, hzv1, hzv2⟩ := info_parts vn_info
    go_wp2_with fail
    go_loopw [3, 22] (fun v3 i wx => ∃ k ts us, k ≤ ks.length ∧ i = .int .i64 k ∧ NRels (ks.take k) ts ∧ NI w2 ts us v3 wx) (fun _ i _ => ks.length - (intOf i).toNat)
    case atStart => exact ⟨0, [], [], Nat.zero_le _, rfl, NRels.nil _, HI0.out⟩
    case round =>
      obtain ⟨k, ts, us, hk, rfl, hN, hI⟩ := hrel
      obtain ⟨P3, q3, hv3⟩ := own_form hI.2.1
      obtain ⟨v3, hv3e⟩ : ∃ v3, v3 = u3 := ⟨_, rfl⟩
      rw [← hv3e] at hI hv3 ⊢
      clear hv3e
      subst hv3
      have htl : ts.length ≤ 1000 := by
        have h1 := hN.size
        have h2 := sizes_len ts
        have h3 := sizes_take ks k
        omega
      by_cases hlt : k < ks.length
      · have hT := HL.out.2.1.at_ k hlt
        obtain ⟨A', c', vs', ⟨k1, k2, k3, hv, B1, b1, B2, b2, B3, b3, rfl, rfl, rfl, _⟩, _, _⟩ := IsT.eq.1 hT
        obtain ⟨e, he⟩ : ∃ e, e = (ks[k]).dat := ⟨_, rfl⟩
        obtain ⟨m', hm'⟩ : ∃ v, v = (ks[k]).kids.length := ⟨_, rfl⟩
        rw [← he, ← hm'] at hv
        obtain ⟨b, off, rfl, hbB, d0, d1, d2, d3, d4, d5, d6, d7, d8, d9, d10, d11, d12, d13⟩ := Vs.view HL.out.1 k hlt hv (Still.of_below hI.1 HL.out.2.2)
        rw [hv] at hT
        have i1 : (0 : Int) ≤ (k : Int) := by omega
        have i2 : (k : Int) < (ks.length : Int) := by omega
        obtain ⟨wk, hwk, hK7, hBk, hsk⟩ := one_new wr (vC e (.slice B1 e.cl.length b1) (.slice B2 e.at_.length b2) (.slice B3 e.st.length b3) (.slice A' m' c')).toArray 45
        unfold vC at hwk hK7
        have HTK := Lib.hid (show IsT vK wk (Old wk) ks[k] (vV e (.slice B1 e.cl.length b1) (.slice B2 e.at_.length b2) (.slice B3 e.st.length b3) (.slice A' m' c')) from (hT.move (.of_below (hI.1.trans (hBk.mono hI.1.size)) HL.out.2.2)).weak fun b hb => Nat.lt_of_lt_of_le (HL.out.2.2 b hb) (Nat.le_trans hI.1.size hBk.size))
        have HIH := Lib.hid (fun v w => ih ks[k] v w (hks1 k hlt) (by omega) (hksz k hlt) (hv2.at_ k hlt))
        have HTS := Lib.hid (show ks.take (k + 1) = ks.take k ++ [ks[k]] by simp)
        clear hT hv he hm'
        go_upto_region 6 with fail
        rw [← hwk]
        obtain ⟨K5, hK5e⟩ : ∃ K5, K5 = wr.heap.size := ⟨_, rfl⟩
        rw [← hK5e] at hK7 ⊢
        refine _root_.Go.wp_region_lit ?_
        refine wpList_load_row rfl 45 _ rfl K5 rfl 45 _ (0, 0) _ hK7 Tryz.underlying45 rfl sz_vn ?_
        refine wpList_call rfl (ex_c1 rfl rfl (enters Tryz.func25 (by kernel_rfl) rfl _ _) rfl) ((HIH.out _ wk HTK.out).mono ?_)
        rintro e5 w5 ⟨v5, rfl, ⟨t5, hN5, hT5⟩, hb5⟩
        refine ⟨v5, rfl, ?_⟩
        obtain ⟨P', p', us', ⟨l1, l2, l3, rfl, hr5⟩, hvs5, hks5⟩ := IsT.eq.1 hT5
        obtain ⟨g1, g2, g3⟩ := hr5.forms
        obtain ⟨e5, he5⟩ : ∃ e, e = t5.dat := ⟨_, rfl⟩
        obtain ⟨m5, hm5⟩ : ∃ v, v = t5.kids.length := ⟨_, rfl⟩
        rw [← he5, ← hm5] at hT5 ⊢
        refine wpList_store_blk rfl 45 _ _ rfl K5 _ rfl rfl 45 _ (hK7.below hb5 hK7.lt) rfl sz_vn (vC_all g1 g2 g3 rfl) ?_
        intro w6 hK6 hg6 hs6
        refine wpList_nil ?_
        have hb6 : Below wr.heap.size wr w6 := (hBk.trans (hb5.mono hBk.size)).grown hg6 (Nat.le_trans hBk.size hb5.size) (fun j hj => by cases hj; omega)
        have hI6 := hI.keep hb6
        have hT6 : IsT vK w6 (fun b => w2.heap.size ≤ b ∧ b < w6.heap.size ∧ (Value.slice P3 ts.length q3).ownBlock ≠ some b) t5 (vV e5 l1 l2 l3 (.slice P' m5 p')) := (hT5.move (.of_grown hg6 fun b hb => ⟨hb.2, fun h => by cases h; have := hb.1; omega⟩)).weak fun b hb => by
          have h1 := hb.1
          have h2 := hI.1.size
          exact ⟨by omega, by rw [hs6]; exact hb.2, fun h => by have := (hI.2.1.lt b h).2; omega⟩
        have z0 : w6.cell? ⟨K5, 0, none⟩ = some (.int .i64 e5.kind) := hK6.cell 0
        have z3 : w6.cell? ⟨K5, 3, none⟩ = some (.string e5.text) := hK6.cell 3
        have HI6 := Lib.hid (And.intro hI6 (And.intro hT6 (And.intro hN (And.intro hN5 (And.intro he5 hK6)))))
        have HSZ := Lib.hid (And.intro hI.1.size (And.intro hb6.size hI6.1.size))
        clear hb6 hI6 hT6 hI hT5 hvs5 hks5 hr5 hg6 hs6 hb5 hBk hsk hwk hK7 hK5e hN hN5 he5 d0 d1 d2 d3 d4 d5 d6 d7 d8 d9 d10 d11 d12 d13 hbB hm5 hK6
        obtain ⟨n, hn⟩ : ∃ n, n = ts.length := ⟨_, rfl⟩
        rw [← hn] at HI6 htl ⊢
        have HNE := Lib.hid hn
        clear hn
        obtain ⟨lk, hlk⟩ : ∃ i, i = lastKind ts := ⟨_, rfl⟩
        obtain ⟨q9, hq9⟩ : ∃ q : Bool, q = (decide (e5.kind = 1) && decide (e5.text.toList = [])) := ⟨_, rfl⟩
        obtain ⟨q10, hq10⟩ : ∃ q : Bool, q = (decide (e5.kind = 1) && decide (0 < n) && decide (lk = 1)) := ⟨_, rfl⟩
        have HQ := Lib.hid (And.intro hq9 (And.intro hq10 hlk))
        clear hq9 hq10 hlk
        go_upto_region 9 with fail
        go_cut [35] (fun v wx => v = .bool q9 ∧ w6 = wx)
        case first =>
          by_cases c1 : e5.kind = 1
          · have q1 : (e5.kind == 1) = true := by simpa using c1
            by_cases c2 : e5.text.toList = []
            · have HV := Lib.hid (show q9 = true by rw [HQ.out.1]; simp [c1, c2])
              have c3 : e5.text.toList.isEmpty = true := by rw [c2]; rfl
              clear c1
              go_wp2_with fail
              go_meet
              exact ⟨by rw [HV.out], rfl⟩
            · have HV := Lib.hid (show q9 = false by rw [HQ.out.1]; simp [c2])
              have c3 : e5.text.toList.isEmpty = false := by simpa using c2
              clear c1
              go_wp2_with fail
              go_meet
              exact ⟨by rw [HV.out], rfl⟩
          · have q1 : (e5.kind == 1) = false := by simpa using c1
            have HV := Lib.hid (show q9 = false by rw [HQ.out.1]; simp [c1])
            clear c1
            go_wp2_with fail
            go_meet
            exact ⟨by rw [HV.out], rfl⟩
        case rest =>
          obtain ⟨rfl, rfl⟩ := hcut
          cases q9
          · go_upto_region 10 with fail
            go_cut [44] (fun v wx => v = .bool q10 ∧ w6 = wx)
            case first =>
              by_cases c1 : e5.kind = 1
              · have q1 : (e5.kind == 1) = true := by simpa using c1
                by_cases c2 : n = 0
                · subst c2
                  have HV := Lib.hid (show q10 = false by rw [HQ.out.2.1]; simp)
                  clear c1
                  go_wp2_with fail
                  go_meet
                  exact ⟨by rw [HV.out], rfl⟩
                · have hne : ts ≠ [] := fun h => by have := HNE.out; rw [h] at this; exact c2 this
                  obtain ⟨ts0, tl, rfl⟩ : ∃ ts0 tl, ts = ts0 ++ [tl] := ⟨_, _, (List.dropLast_concat_getLast hne).symm⟩
                  obtain ⟨us0, vl, rfl, hs0, hsl⟩ := HI6.out.1.2.2.unsnoc
                  obtain ⟨J, j, js, ⟨j1, j2, j3, rfl, _⟩, _, _⟩ := IsT.eq.1 hsl
                  have hul := hs0.len
                  have hnl : n = us0.length + 1 := by rw [HNE.out, List.length_append, hul]; rfl
                  have ho6 := HI6.out.1.2.1
                  rw [← HNE.out] at ho6
                  have hr := RdS.of_own (cv := cvK 14) (d := agg0) (fun _ _ => cvK_len 14 _) ho6 (show (us0 ++ [vV tl.dat j1 j2 j3 (.slice J tl.kids.length j)]).length = n by rw [List.length_append, hnl]; rfl)
                  obtain ⟨bl, ol, rfl, _, hc0⟩ := hr.2 us0.length (by omega)
                  have hc1 := hc0 0 (by omega)
                  rw [show (us0 ++ [vV tl.dat j1 j2 j3 (.slice J tl.kids.length j)]).getD us0.length agg0 = vV tl.dat j1 j2 j3 (.slice J tl.kids.length j) by simp] at hc1
                  replace hc1 : w6.cell? ⟨bl, ol + us0.length * 14, none⟩ = some (.int .i64 tl.dat.kind) := hc1
                  have hlk : lk = tl.dat.kind := by rw [HQ.out.2.2, lastKind_app]
                  rw [← hlk] at hc1
                  have i3 : (0 : Int) ≤ (n : Int) - 1 := by omega
                  have i4 : (n : Int) - 1 < (n : Int) := by omega
                  have i5 : ((n : Int) - 1).toNat = us0.length := by omega
                  have i6 : (n : Int) - 1 = (us0.length : Int) := by omega
                  have i7 : (1 : Int) ≤ (n : Int) := by omega
                  have HV := Lib.hid (show q10 = decide (lk = 1) by rw [HQ.out.2.1]; simp [c1]; omega)
                  clear c1 hr hc0 hs0 hsl hul hlk hne hnl ho6
                  go_wp2_with fail
                  go_meet
                  exact ⟨by rw [HV.out]; first | rfl | (congr 1; simp), rfl⟩
              · have q1 : (e5.kind == 1) = false := by simpa using c1
                have HV := Lib.hid (show q10 = false by rw [HQ.out.2.1]; simp [c1])
                clear c1
                go_wp2_with fail
                go_meet
                exact ⟨by rw [HV.out], rfl⟩
            case rest =>
              obtain ⟨rfl, rfl⟩ := hcut
              cases q10
              · go_upto_region 8 with fail
                refine _root_.Go.wp_region_lit ?_
                refine wpList_val rfl (ex_mv rfl rfl) ?_
                refine wpList_load_row rfl 45 _ rfl K5 rfl 45 _ (0, 0) _ HI6.out.2.2.2.2.2 Tryz.underlying45 rfl sz_vn ?_
                refine wpList_val rfl (ex_bsl1 rfl rfl (bs_vn _ _ _ _ _ _ _ _ _ _ _ _ _ _ w6)) ?_
                obtain ⟨w7, hw7, hB7, hb7, hs7⟩ := one_new w6 (vC e5 l1 l2 l3 (.slice P' m5 p')).toArray 45
                have hI7 := HI6.out.1.keep hb7
                have hT7 := (HI6.out.2.1.move (.of_below hb7 fun b hb => hb.2.1)).weak (S' := fun b => w2.heap.size ≤ b ∧ b < w7.heap.size ∧ (Value.slice P3 n q3).ownBlock ≠ some b) fun b hb => ⟨hb.1, Nat.lt_of_lt_of_le hb.2.1 hb7.size, hb.2.2⟩
                have ho7 := hI7.2.1
                rw [← HNE.out] at ho7
                have HA := Lib.hid (And.intro hI7 (And.intro hT7 (And.intro ho7 hB7)))
                have hz7 : w2.heap.size ≤ w7.heap.size := Nat.le_trans HSZ.out.2.2 hb7.size
                unfold vC at hw7
                rw [← hw7]
                clear hI7 hT7 ho7 hB7 hb7 hs7 hw7
                refine wpList_append_lies _ rfl _ _ _ rfl w2.heap.size 45 trv _ 14 192 Tryz.underlying43 htiv hzv0 hzv1 hzv2 rfl (by decide) (.slice P3 n q3) n _ rfl HA.out.2.2.1 ⟨w6.heap.size, 0, none⟩ 1 1 (cvK 14 (vV e5 l1 l2 l3 (.slice P' m5 p'))) rfl (cvK_len 14 _) (news_at HA.out.2.2.2) (IsT.one_v HA.out.2.1) (by omega) (by unfold maxLen; omega) (by omega) hz7 _ rfl ?_
                intro g cap w8 hown hg hat hlt8
                have HS := Lib.hid (HA.out.1.kid HA.out.2.1 hg (by rw [← HNE.out]; exact hown) (by rcases hat with h | h; exact .inl h.symm; exact .inr (by rw [h]; rfl)))
                clear hown hg hat hlt8 htiv hzv0 hzv1 hzv2 hz7
                go_wp2_with fail
                go_roundw
                case rel => exact ⟨k + 1, _, _, by omega, by go_num, by rw [HTS.out]; exact HI6.out.2.2.1.put HI6.out.2.2.2.1, HS.out⟩
                case measure => simp [intOf]; omega
              · go_upto_region 11 with fail
                have hq := HQ.out.2.1
                have hq1 : e5.kind = 1 ∧ 0 < n ∧ lk = 1 := by simpa [and_assoc] using hq.symm
                have hne : ts ≠ [] := fun h => by have h1 := HNE.out; rw [h] at h1; have h2 : n = 0 := h1; have h3 := hq1.2.1; omega
                obtain ⟨ts0, tl, rfl⟩ : ∃ ts0 tl, ts = ts0 ++ [tl] := ⟨_, _, (List.dropLast_concat_getLast hne).symm⟩
                have hI := HI6.out.1
                obtain ⟨us0, vl, rfl, hs0, hsl⟩ := hI.2.2.unsnoc
                obtain ⟨J, j, js, ⟨j1, j2, j3, rfl, _⟩, _, _⟩ := IsT.eq.1 hsl
                have hlk : tl.dat.kind = 1 := by rw [← hq1.2.2, HQ.out.2.2, lastKind_app]
                obtain ⟨e0, he0⟩ : ∃ e, e = tl.dat := ⟨_, rfl⟩
                obtain ⟨ks0, hks0⟩ : ∃ e, e = tl.kids := ⟨_, rfl⟩
                obtain rfl : tl = .mk e0 ks0 := by rw [he0, hks0]; cases tl; rfl
                obtain ⟨k4, hk4⟩ : ∃ v, v = Value.slice J (RT.mk e0 ks0).kids.length j := ⟨_, rfl⟩
                rw [← hk4] at hI hsl
                replace hI : NI w2 (ts0 ++ [.mk e0 ks0]) (us0 ++ [vV e0 j1 j2 j3 k4]) (.slice P3 n q3) w6 := hI
                replace hlk : e0.kind = 1 := hlk
                have hul := hs0.len
                have hnl : n = us0.length + 1 := by rw [HNE.out, List.length_append, hul]; rfl
                have ho6 := hI.2.1
                rw [← HNE.out] at ho6
                obtain ⟨g, cap, hv, hgb, hglt⟩ := ho6.form (by omega)
                obtain ⟨rfl, rfl⟩ : P3 = some ⟨g, 0, none⟩ ∧ q3 = cap := by injection hv; exact ⟨by assumption, by assumption⟩
                have c3 : w6.cell? ⟨g, us0.length * 14 + 3, none⟩ = some (.string e0.text) := by
                  have hr := RdS.of_own (cv := cvK 14) (d := agg0) (fun _ _ => cvK_len 14 _) ho6 (show (us0 ++ [vV e0 j1 j2 j3 k4]).length = n by rw [List.length_append, hnl]; rfl)
                  obtain ⟨bl, ol, hA, _, hc0⟩ := hr.2 us0.length (by omega)
                  obtain ⟨rfl, rfl⟩ : g = bl ∧ 0 = ol := by injection hA with hA; injection hA with h1 h2 _; exact ⟨h1, h2⟩
                  have hc1 := hc0 3 (by omega)
                  rw [show (us0 ++ [vV e0 j1 j2 j3 k4]).getD us0.length agg0 = vV e0 j1 j2 j3 k4 by simp, Nat.zero_add] at hc1
                  exact hc1
                have cf : w6.frozen? ⟨g, us0.length * 14 + 3, none⟩ = false := by
                  obtain ⟨cur, _, hh, _⟩ := own_row ho6
                  exact Blk.frozen (cs := cur) hh _
                have HIJ := Lib.hid hI
                have hnr := HI6.out.2.2.1.join hlk HI6.out.2.2.2.1
                rw [← HI6.out.2.2.2.2.1] at hnr
                have hcat : e0.text.size + e5.text.size ≤ 1000000 := by
                  have h1 := hnr.text
                  have h2 := txs_take ks (k + 1)
                  rw [HTS.out] at h2
                  rw [txs_app, txs_one, tx_eq] at h1
                  have h3 : (addText e0 e5.text).text.size = e0.text.size + e5.text.size := by simp [addText]
                  have h4 : txs ts0 + ((addText e0 e5.text).text.size + txs ks0) ≤ txs (ks.take k ++ [ks[k]]) := h1
                  have h5 := HTX.out
                  omega
                have HNR := Lib.hid hnr
                have HTD := Lib.hid HI6.out.2.2.2.2.1
                have i6 : (n : Int) - 1 = (us0.length : Int) := by omega
                have i3 : (0 : Int) ≤ (us0.length : Int) := by omega
                have i4 : (us0.length : Int) < (n : Int) := by omega
                rw [i6]
                clear hq hq1 hne hI hs0 hsl hlk he0 hks0 hk4 hul hnl ho6 hv hgb hglt i6 hnr
                have HC3 := Lib.hid (And.intro c3 (block_lt_of_cell c3))
                have HK6 := Lib.hid HI6.out.2.2.2.2.2
                have hpn : us0.length < n := by omega
                refine wp_region_tail 8 _ ?_ ?_ ?_ ?_ (NrmR11 w6 K5 g n q3 us0.length e5 e0.text l1 l2 l3 (.slice P' m5 p')) (fun j v wx wy => NrmR11_keep _ _ _ _ _ _ _ _ _ _ _ _ j v wx wy) ?_ ?_ ?_
                · kernel_rfl
                · kernel_rfl
                · kernel_rfl
                · kernel_rfl
                · refine ⟨opV rfl fun s wx hb hd => ⟨_, ex_mv rfl (lit_out 3 (by kernel_rfl)), rfl⟩, ?_⟩
                  refine ⟨opV rfl fun s wx hb hd => ⟨_, ex_mv rfl (lit_out 6 (by kernel_rfl)), rfl⟩, ?_⟩
                  refine ⟨opV rfl fun s wx hb hd => ⟨_, ex_idx rfl ((lit_at 0 60 (by kernel_rfl) (by kernel_rfl) (by kernel_rfl)).trans (hd 0 (by kernel_rfl))) ((lit_at 1 61 (by kernel_rfl) (by kernel_rfl) (by kernel_rfl)).trans (hd 1 (by kernel_rfl))) (ix_vn hpn wx), rfl⟩, ?_⟩
                  refine ⟨opV rfl fun s wx hb hd => ⟨_, ex_fld rfl ((lit_at 2 62 (by kernel_rfl) (by kernel_rfl) (by kernel_rfl)).trans (hd 2 (by kernel_rfl))) (fai_vn_3 _ _ wx), rfl⟩, ?_⟩
                  refine ⟨opV rfl fun s wx hb hd => ⟨_, ex_ld rfl ((lit_at 3 63 (by kernel_rfl) (by kernel_rfl) (by kernel_rfl)).trans (hd 3 (by kernel_rfl))) (ld_string ((hb.cell HC3.out.2).trans HC3.out.1)), rfl⟩, ?_⟩
                  refine ⟨opV rfl fun s wx hb hd => ⟨_, ex_fld rfl (lit_out 5 (by kernel_rfl)) (fa_vn_3 _ wx), rfl⟩, ?_⟩
                  refine ⟨opV rfl fun s wx hb hd => ⟨_, ex_ld rfl ((lit_at 5 65 (by kernel_rfl) (by kernel_rfl) (by kernel_rfl)).trans (hd 5 (by kernel_rfl))) (ld_string (((HK6.out).below hb (HK6.out).lt).cell 3)), rfl⟩, ?_⟩
                  refine ⟨opV rfl fun s wx hb hd => ⟨_, ex_bin rfl ((lit_at 4 64 (by kernel_rfl) (by kernel_rfl) (by kernel_rfl)).trans (hd 4 (by kernel_rfl))) ((lit_at 6 66 (by kernel_rfl) (by kernel_rfl) (by kernel_rfl)).trans (hd 6 (by kernel_rfl))) (add_str _ _ _ _ hcat wx), rfl⟩, ?_⟩
                  trivial
                rotate_left
                · kernel_rfl
                intro s2 wq hbq hV
                have v0 : s2 0 = .slice (some ⟨g, 0, none⟩) n q3 := hV 0 (by omega)
                have v1 : s2 1 = .int .i64 (us0.length : Nat) := hV 1 (by omega)
                have v7 : s2 7 = .string (e0.text ++ e5.text) := hV 7 (by omega)
                clear hV
                have HS := Lib.hid ((HIJ.out.keep hbq).join e5.text HNE.out)
                have cq : wq.cell? ⟨g, us0.length * 14 + 3, none⟩ = some (.string e0.text) := (hbq.cell HC3.out.2).trans HC3.out.1
                have fq : wq.frozen? ⟨g, us0.length * 14 + 3, none⟩ = false := (hbq.frozen HC3.out.2).trans cf
                clear hbq c3 cf
                simp only [List.take_succ_cons, List.take_zero, List.drop_succ_cons, List.drop_zero, litOf, List.map_cons, List.map_nil, Nat.zero_add, Nat.reduceAdd, Act.put, List.setIfInBounds_toArray, List.set_cons_succ, List.set_cons_zero]
                refine wpList_val rfl (ex_idx rfl v0 v1 (ix_vn hpn _)) ?_
                refine wpList_val rfl (ex_fld rfl rfl (fai_vn_3 _ _ _)) ?_
                clear v0 v1 hpn
                go_wp2_with fail
                go_roundw
                case rel => exact ⟨k + 1, _, _, by omega, by go_num, by rw [HTS.out]; exact HNR.out, HS.out⟩
                case measure => simp [intOf]; omega
          · go_wp2_with fail
            go_roundw
            case rel => exact ⟨k + 1, ts, us, by omega, by go_num, by rw [HTS.out]; exact HI6.out.2.2.1.drop, HI6.out.1⟩
            case measure => simp [intOf]; omega
      · obtain rfl : k = ks.length := by omega
        have hX := HR.out.1.below hI.1 HR.out.1.lt
        have hRr := HR.out.2.2.2.2.1.below hI.1 HR.out.2.2.2.2.1.lt
        have y13 : wr.cell? ⟨X, 13, none⟩ = some (.slice A4 ks.length c4) := hX.cell 13
        have g13 := hX.frozen 13
        have HI := Lib.hid (And.intro hI (And.intro hX (And.intro hRr hN)))
        clear hI hlt hk hX hRr hN
        go_upto_region 14 with fail
        have hE := HI.out.2.1.set_ 13 (.slice P3 ts.length q3)
        have hC : Chg (· = X) wr (wr.setCell ⟨X, 13, none⟩ (.slice P3 ts.length q3)) := Chg.set (T := (· = X)) rfl _ _ _
        generalize wr.setCell ⟨X, 13, none⟩ (.slice P3 ts.length q3) = w7 at hE hC ⊢
        replace hE : Blk w7 X 45 (vC (nD d) (.slice B4 (cleanS d.cl).length b4) (.slice B5 (St.ofS d.at_).length b5) (.slice B6 (ofS d.st).length b6) (.slice P3 ts.length q3)).toArray := hE
        refine _root_.Go.wp_region_lit ?_
        refine wpList_load_row rfl 45 _ rfl X rfl 45 _ (0, 0) _ hE Tryz.underlying45 rfl sz_vn ?_
        refine wpList_store_blk rfl 45 _ _ rfl (X + 1) _ rfl rfl 45 _ (hC.blk HI.out.2.2.1 (by omega)) rfl sz_vn (vC_all rfl rfl rfl rfl) ?_
        intro wf hRf hgf hsf
        refine wpList_nil ?_
        have hC2 : Chg (fun i => i = X ∨ i = X + 1) wr wf := (hC.mono fun i h => .inl h).trans (.of_grown hgf fun i h => by cases h; exact .inr rfl)
        have hXX := HXE.out
        have hin := HI.out.1.1
        have hrel : NRel t (.mk (nD d) ts) := by
          rw [HT.out]
          have := HI.out.2.2.2
          rw [List.take_length] at this
          exact NRel.of HVD.out this
        have hS0 := HR.out.2.2.2.2.2.2
        have hT : IsT vK wf (Fresh w.heap.size wf) (.mk (nD d) ts) (vV (nD d) (.slice B4 (cleanS d.cl).length b4) (.slice B5 (St.ofS d.at_).length b5) (.slice B6 (ofS d.st).length b6) (.slice P3 ts.length q3)) := by
          have hne : ∀ {e : TypeId} (he : e ≠ 45), ∀ b cs, w1.heap.size ≤ b → Blk wr b e cs → ¬ (b = X ∨ b = X + 1) := fun he b cs hb hB h => by rcases h with rfl | rfl <;> omega
          have hr4 := (Row.chg (HR.out.2.1.chg (T := fun i => w2.heap.size ≤ i) (.of_below hin fun i h h2 => by omega) (fun b cs _ hb h => by have := hb.lt; omega)) hC2 (hne (by decide))).rd
          have hr5 := (Row.chg (HR.out.2.2.1.chg (T := fun i => w2.heap.size ≤ i) (.of_below hin fun i h h2 => by omega) (fun b cs _ hb h => by have := hb.lt; omega)) hC2 (hne (by decide))).rd
          have hr6 := (Row.chg (HR.out.2.2.2.1.chg (T := fun i => w2.heap.size ≤ i) (.of_below hin fun i h h2 => by omega) (fun b cs _ hb h => by have := hb.lt; omega)) hC2 (hne (by decide))).rd
          obtain ⟨A4', c4', h4e, hr4⟩ := hr4
          obtain ⟨A5', c5', h5e, hr5⟩ := hr5
          obtain ⟨A6', c6', h6e, hr6⟩ := hr6
          have hlow : ∀ b, Fresh w1.heap.size wf b → Fresh w.heap.size wf b := fun b hb => ⟨by have := hb.1; omega, hb.2⟩
          have hst : Still (fun b => w2.heap.size ≤ b ∧ b < wr.heap.size ∧ (Value.slice P3 ts.length q3).ownBlock ≠ some b) wr wf := hC2.still fun b hb => ⟨hb.2.1, fun h => by have := hb.1; rcases h with rfl | rfl <;> omega⟩
          have hown := hC2.own HI.out.1.2.1 fun g hg h => by have := (HI.out.1.2.1.lt g hg).1; rcases h with rfl | rfl <;> omega
          rw [IsT]
          refine ⟨P3, q3, us, ⟨_, _, _, rfl, A4', c4', A5', c5', A6', c6', h4e, h5e, h6e, hr4.weak hlow, hr5.weak hlow, hr6.weak hlow⟩, (RdS.of_own (fun _ _ => cvK_len 14 _) hown HI.out.1.2.2.len).weak fun b hb => ⟨by have := hb.1; omega, hb.2⟩, (HI.out.1.2.2.move hst).weak fun b hb => ⟨by have := hb.1; omega, Nat.lt_of_lt_of_le hb.2.1 hC2.size⟩⟩
        have hB : Below w.heap.size w wf := (HR.out.2.2.2.2.2.1.trans (hin.mono HR.out.2.2.2.2.2.1.size)).trans (hC2.below (Nat.le_trans HR.out.2.2.2.2.2.1.size hin.size) fun i hi => by rcases hi with rfl | rfl <;> omega)
        have HF := Lib.hid (And.intro hT (And.intro hB hrel))
        have HRf := Lib.hid hRf
        clear hT hB hrel hRf hgf hsf hC2 hC hE hin hXX hS0 y13 g13
        go_wp2_with fail
        exact bodyPost_ret (v := vV (nD d) (.slice B4 (cleanS d.cl).length b4) (.slice B5 (St.ofS d.at_).length b5) (.slice B6 (ofS d.st).length b6) (.slice P3 ts.length q3)) (results_cell_row rfl _ _ (X + 1) 45 _ (0, 0) _ rfl HRf.out Tryz.underlying45 rfl sz_vn) rfl ⟨_, rfl, ⟨_, HF.out.2.2, HF.out.1⟩, HF.out.2.1⟩

end Go.Proofs.YtaalhglooipnaaaGreat
