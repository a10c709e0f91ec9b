/-
  The walks over Count, Room, add, Element, Text of layer 5.
-/
import Derived.Test.YtaalhglooipnaaaGreatL23
namespace Go.Proofs.YtaalhglooipnaaaGreat
open Go.RowKit RT Go.Maps Go.WideMaps
attribute [local go_sem ↓] Go.wp_at_zero Go.wp_at_succ

set_option maxRecDepth 100000 in
set_option maxHeartbeats 4000000 in
theorem count_len (D M s : Nat) (w : World) (hD : w.cell? ⟨D, 2, none⟩ = some (.map (some M))) (hlen : ∀ ty, (Builtin.len_ #[92] ty #[.map (some M)]).run Tryz.prog w = .ok (.int .i64 (s : Nat)) w) (hs : s ≤ 1000) :
    Calls Tryz.prog 28 #[.pointer (some ⟨D, 0, none⟩)] w fun e w' => e = .returned (.int .i64 ((s : Int) - 1)) ∧ w' = w := by
  go_enter Tryz.func28, Tryz.ntmps28
  go_wp2
  go_ret
  exact ⟨rfl, rfl⟩
theorem sub_i (x y : Operand) (a b : Int) (h : -1000000 ≤ a) (h2 : a ≤ 1000000) (h3 : -1000000 ≤ b) (h4 : b ≤ 1000000) (w : World) : (do eqGuard .sub 3 x y (.int .i64 a) (.int .i64 b); binOp .sub 3 (.int .i64 a) (.int .i64 b) : Sem Value).run Tryz.prog w = .ok (.int .i64 (a - b)) w := by
  have e : IntKind.i64.wrap (a - b) = a - b := IntWalk.i64_in _ (by omega)
  go_simp
def RoomR1 (W : World) (D M s : Nat) (a1 : Value) : Nat → Value → World → Prop
  | 0, v, _ => v = .pointer (some ⟨D, 0, none⟩)
  | 1, v, _ => v = .pointer (some ⟨D, 0, none⟩)
  | 2, v, _ => v = .pointer (some ⟨D, 0, none⟩)
  | 3, v, _ => v = .int .i64 100
  | 4, v, _ => v = .pointer (some ⟨D, 0, none⟩)
  | 5, v, _ => v = .int .i64 ((s : Int) - 1)
  | 6, v, _ => v = .int .i64 (100 - ((s : Int) - 1))
  | 7, v, _ => v = (.int .i64 (100 - ((s : Int) - 1)))
  | _, _, _ => True
theorem RoomR1_keep (W : World) (D M s : Nat) (a1 : Value) (j : Nat) (v : Value) (w w' : World) (h : RoomR1 W D M s a1 j v w) (hb : Below w.heap.size w w') : RoomR1 W D M s a1 j v w' := by
  match j with
  | 0 => exact h
  | 1 => exact h
  | 2 => exact h
  | 3 => exact h
  | 4 => exact h
  | 5 => exact h
  | 6 => exact h
  | 7 => exact h
  | _ + 8 => trivial
set_option maxRecDepth 100000 in
set_option maxHeartbeats 4000000 in
theorem room_len (D M s : Nat) (a1 : Value) (w : World) (hD : Blk w D 94 #[.int .i64 100, a1, .map (some M)]) (hlen : ∀ (w' : World), Below w.heap.size w w' → ∀ ty, (Builtin.len_ #[92] ty #[.map (some M)]).run Tryz.prog w' = .ok (.int .i64 (s : Nat)) w') (hs : s ≤ 1000) :
    Calls Tryz.prog 9 #[.pointer (some ⟨D, 0, none⟩)] w fun e w' => e = .returned (.int .i64 (101 - (s : Int))) ∧ Below w.heap.size w w' := by
  have HL := Lib.hid hlen
  have HD := Lib.hid hD
  clear hlen hD
  go_enter Tryz.func9, Tryz.ntmps9
  go_upto_region 1 with fail
  refine wp_region_tail 8 _ ?_ ?_ ?_ ?_ (RoomR1 w D M s a1) (fun j v wx wy => RoomR1_keep _ _ _ _ _ j v wx wy) ?_ ?_ ?_
  · kernel_rfl
  · kernel_rfl
  · kernel_rfl
  · kernel_rfl
  · refine ⟨opV rfl fun s wx hb hd => ⟨_, ex_mv rfl (lit_out 0 (by kernel_rfl)), rfl⟩, ?_⟩
    refine ⟨opV rfl fun s wx hb hd => ⟨_, ex_nil rfl ((lit_at 0 3 (by kernel_rfl) (by kernel_rfl) (by kernel_rfl)).trans (hd 0 (by kernel_rfl))), rfl⟩, ?_⟩
    refine ⟨opV rfl fun s wx hb hd => ⟨_, ex_fld rfl ((lit_at 1 4 (by kernel_rfl) (by kernel_rfl) (by kernel_rfl)).trans (hd 1 (by kernel_rfl))) (fa_dm_0 _ wx), rfl⟩, ?_⟩
    refine ⟨opV rfl fun s wx hb hd => ⟨_, ex_ld rfl ((lit_at 2 5 (by kernel_rfl) (by kernel_rfl) (by kernel_rfl)).trans (hd 2 (by kernel_rfl))) (ld_int (((HD.out).below hb (HD.out).lt).cell 0)), rfl⟩, ?_⟩
    refine ⟨opV rfl fun s wx hb hd => ⟨_, ex_mv rfl (lit_out 0 (by kernel_rfl)), rfl⟩, ?_⟩
    refine ⟨opC rfl fun s' wx hb hd => ⟨_, _, ex_c1 rfl rfl (enters Tryz.func28 (by kernel_rfl) rfl _ _) ((lit_at 4 7 (by kernel_rfl) (by kernel_rfl) (by kernel_rfl)).trans (hd 4 (by kernel_rfl))), ?_⟩, ?_⟩
    · refine (count_len D M s wx (((HD.out).below hb (HD.out).lt).cell 2) (HL.out _ hb) hs).mono ?_
      rintro e w' ⟨rfl, rfl⟩
      exact ⟨_, rfl, rfl, Below.refl _ _⟩
    refine ⟨opV rfl fun s' wx hb hd => ⟨_, ex_bin rfl ((lit_at 3 6 (by kernel_rfl) (by kernel_rfl) (by kernel_rfl)).trans (hd 3 (by kernel_rfl))) ((lit_at 5 8 (by kernel_rfl) (by kernel_rfl) (by kernel_rfl)).trans (hd 5 (by kernel_rfl))) (sub_i _ _ _ _ (by omega) (by omega) (by omega) (by omega) wx), rfl⟩, ?_⟩
    refine ⟨opV rfl fun s wx hb hd => ⟨_, ex_asg rfl ((lit_at 6 9 (by kernel_rfl) (by kernel_rfl) (by kernel_rfl)).trans (hd 6 (by kernel_rfl))), rfl⟩, ?_⟩
    trivial
  rotate_left
  · kernel_rfl
  intro t wz hbz hV
  have e7 : t 7 = .int .i64 (100 - ((s : Int) - 1)) := hV 7 (by omega)
  clear hV
  simp only [List.take_succ_cons, List.take_zero, List.drop_succ_cons, List.drop_zero, litOf, List.map_cons, List.map_nil, Nat.zero_add, Nat.reduceAdd, Act.put, List.setIfInBounds_toArray, List.set_cons_succ, List.set_cons_zero]
  have HB := Lib.hid hbz
  clear hbz
  go_wp2_with fail
  go_ret
  refine ⟨?_, HB.out⟩
  show Ending.returned (t 7) = _
  rw [e7]
  congr 2
  omega
theorem MapKit.Own.lenB {κ V : Type} {K : MapKit κ V} {w : World} {M n : Nat} {f : κ → V} (h : K.Own w M n f) : ∃ s : Nat, s ≤ n ∧ ∀ w', Below w.heap.size w w' → ∀ ty, (Builtin.len_ #[K.t] ty #[.map (some M)]).run Tryz.prog w' = .ok (.int .i64 (s : Nat)) w' := by
  obtain ⟨D, h1, _⟩ := h
  exact ⟨Maps.size D, World.ownsMap.size_le h1, fun w' hb ty => World.ownsMap.len (World.ownsMap.kept h1 (only_of_below hb none) (by simp)) K.und ty⟩
theorem room_any {B : Nat} {w : World} {D M n : Nat} {nd : Nat → ND} {gs : Nat → Nat} {kvs : Nat → Value} (h : DomI B w D M n nd gs kvs) (hn : n ≤ 50) :
    Calls Tryz.prog 9 #[.pointer (some ⟨D, 0, none⟩)] w fun e w' => ∃ r : Nat, e = .returned (.int .i64 r) ∧ 0 < r ∧ r ≤ 101 ∧ Below w.heap.size w w' := by
  obtain ⟨s, hs, hlen⟩ := h.map.lenB
  refine (room_len D M s _ w h.dom hlen (by omega)).mono ?_
  rintro e w' ⟨rfl, hb⟩
  exact ⟨101 - s, by congr 2; omega, by omega, by omega, hb⟩

/-! ### add -/
theorem wpList_skip {P : Program} {ops : Array Oper} {rest : List Oper} {o : Oper} {a : Act} {w w' : World} {Q : Exit → Act → World → Prop} (hgd : o.guard = none) (hr : (execOp a.eval o).run P w = .ok .skip w') (h : wpList P ops Q rest (a.put o.dst undef) w') : wpList P ops Q (o :: rest) a w := by
  refine wpList_plain hgd fun _ hK => ?_
  unfold Oper.wp
  rw [hr]
  exact hK _ _ h
theorem ex_mup {ρ : Operand → Value} {o : Oper} {w w' : World} {t : TypeId} {x y z : Operand} {p i q : Value} (ho : o.op = .mapUpdate t x y z) (h : ρ x = p) (hi : ρ y = i) (hz : ρ z = q) (hf : (Instr.mapUpdate t p i q).run Tryz.prog w = .ok () w') : (execOp ρ o).run Tryz.prog w = .ok .skip w' := by
  unfold execOp; rw [ho]; simp [h, hi, hz, hf]
theorem mapF_succ (n : Nat) (gs : Nat → Nat) (G : Nat) : mapF (n + 1) (setF gs n G) = setF (mapF n gs) (n : Int) (some G) := by
  funext x
  by_cases e : x = (n : Int)
  · subst e
    rw [setF_same, mapF, if_pos ⟨by omega, by omega⟩]
    have : ((n : Int)).toNat = n := by omega
    rw [this, setF_same]
  · rw [setF_other _ _ e, mapF, mapF]
    by_cases h : 0 ≤ x ∧ x < (n : Int)
    · rw [if_pos h, if_pos ⟨h.1, by omega⟩, setF_other _ _ (by omega)]
    · rw [if_neg h, if_neg (by omega)]
theorem DomI.grow {B : Nat} {w w6 : World} {D M n G : Nat} {nd : Nat → ND} {gs : Nat → Nat} {kvs : Nat → Value} {d' : ND} (h : DomI B w D M n nd gs kvs) (hG : w.heap.size ≤ G) (hd : d'.cl = [] ∧ d'.at_ = [] ∧ d'.st = [] ∧ d'.kids = [])
    (hN : Blk w6 G 97 (nC n d' (.slice none 0 0) (.slice none 0 0) (.slice none 0 0) (.slice none 0 0)).toArray) (hD : Blk w6 D 94 #[.int .i64 100, .int .i64 ((n + 1 : Nat) : Int), .map (some M)]) (hM : ndKit.Own w6 M (n + 1) (setF (mapF n gs) (n : Int) (some G)))
    (hc : Chg (fun b => b = D ∨ b = M ∨ w.heap.size ≤ b) w w6) : DomI B w6 D M (n + 1) (setF nd n d') (setF gs n G) (setF kvs n (.slice none 0 0)) ∧ Below B w w6 ∧ KpT w w6 := by
  have hlt : ∀ i, i < n → gs i < w.heap.size := fun i hi => (h.node i hi).lt
  have hty : ∀ b t cs, (b = D ∨ b = M ∨ w.heap.size ≤ b) → Blk w b t cs → t = 94 := by
    rintro b t cs (rfl | rfl | hb) hB
    · by_cases e : t = 94
      · exact e
      · exact absurd rfl (Blk.ne_ hB h.dom e)
    · exact absurd rfl (MapKit.blk_ne hB h.map)
    · have := hB.lt; omega
  refine ⟨⟨h.dB, hD, h.mB, by rw [mapF_succ]; exact hM, fun i hi => ?_, fun i j hi hj hij => ?_, fun i j hi hj hij => ?_⟩, hc.below h.bnd (by
    rintro i (rfl | rfl | hi)
    · exact h.dB
    · exact h.mB
    · have := h.bnd; omega), .of_chg hc fun b t cs ht hB => by rw [hty b t cs ht hB]; exact ⟨by decide, by decide, by decide⟩⟩
  · by_cases e : i = n
    · subst e
      rw [setF_same, setF_same, setF_same]
      obtain ⟨d1, d2, d3, d4⟩ := hd
      refine ⟨by have := h.bnd; omega, ⟨_, _, _, hN, by rw [d1]; exact Row.nil _ _ _ _, by rw [d2]; exact Row.nil _ _ _ _, by rw [d3]; exact Row.nil _ _ _ _⟩, by rw [d4]; exact World.ownsRow_nil _ _ _ _⟩
    · rw [setF_other _ _ e, setF_other _ _ e, setF_other _ _ e]
      refine (h.node i (by omega)).chg hc (fun ht => ?_) (fun b t cs ht hB => by rw [hty b t cs ht hB]; exact ⟨by decide, by decide, by decide⟩) (fun b hb ht => ?_)
      · obtain ⟨_, ⟨_, _, _, hiN, _⟩, _⟩ := h.node i (by omega)
        have := hty _ _ _ ht hiN
        exact absurd this (by decide)
      · obtain ⟨_, _, hk⟩ := h.node i (by omega)
        rcases ht with rfl | rfl | ht
        · exact own_blk_ne hk h.dom (by decide) hb
        · exact MapKit.own_ne hk h.map hb
        · have := (hk.lt b hb).2; omega
  · by_cases e1 : i = n
    · subst e1
      rw [setF_same, setF_other _ _ (Ne.symm hij)]
      have := hlt j (by omega); omega
    · rw [setF_other _ _ e1]
      by_cases e2 : j = n
      · subst e2; rw [setF_same]; have := hlt i (by omega); omega
      · rw [setF_other _ _ e2]; exact h.gne i j (by omega) (by omega) hij
  · by_cases e1 : i = n
    · subst e1; rw [setF_same]; exact .inl rfl
    · rw [setF_other _ _ e1]
      by_cases e2 : j = n
      · subst e2; rw [setF_same]
        cases (kvs i).ownBlock with
        | none => exact .inl rfl
        | some b => right; simp [Value.ownBlock]
      · rw [setF_other _ _ e2]; exact h.kne i j (by omega) (by omega) hij

/-- What an operation of a Dom leaves. -/
def DPost (B : Nat) (w : World) (D M n' : Nat) (nd' : Nat → ND) (gs' : Nat → Nat) (v : Value) (e : Ending) (w' : World) : Prop :=
  e = .returned v ∧ (∃ kvs', DomI B w' D M n' nd' gs' kvs') ∧ Below B w w' ∧ KpT w w'
def AddR4 (W : World) (D G M n : Nat) (kind : Int) (tag text : ByteArray) : Nat → Value → World → Prop
  | 0, v, _ => v = .pointer (some ⟨D, 0, none⟩)
  | 1, v, _ => v = .pointer (some ⟨D, 0, none⟩)
  | 2, v, _ => v = .pointer (some ⟨D, 2, none⟩)
  | 3, v, _ => v = .map (some M)
  | 4, v, _ => v = .pointer (some ⟨G, 0, none⟩)
  | 5, v, _ => v = .int .i64 n
  | _, _, _ => True
theorem AddR4_keep (W : World) (D G M n : Nat) (kind : Int) (tag text : ByteArray) (j : Nat) (v : Value) (w w' : World) (h : AddR4 W D G M n kind tag text j v w) (hb : Below w.heap.size w w') : AddR4 W D G M n kind tag text j v w' := by
  match j with
  | 0 => exact h
  | 1 => exact h
  | 2 => exact h
  | 3 => exact h
  | 4 => exact h
  | 5 => exact h
  | _ + 6 => trivial

set_option maxRecDepth 100000 in
set_option maxHeartbeats 8000000 in
theorem addN_any {B : Nat} {w : World} {D M n : Nat} {nd : Nat → ND} {gs : Nat → Nat} {kvs : Nat → Value} (h : DomI B w D M n nd gs kvs) (hn : n ≤ 50) (kind : Int) (tag text : ByteArray) :
    Calls Tryz.prog 100 #[.pointer (some ⟨D, 0, none⟩), .agg #[.int .i64 0, .int .i64 kind, .string tag, .string text, .slice none 0 0, .slice none 0 0, .slice none 0 0, .int .i64 0, .slice none 0 0]] w fun e w' =>
      ∃ G, DPost B w D M (n + 1) (setF nd n ⟨kind, tag, text, [], [], [], -1, []⟩) (setF gs n G) (.tuple #[.int .i64 (n : Nat), .int .i64 0]) e w' := by
  obtain ⟨w1, hw1, hG, hb1, hs1⟩ := one_new w #[.int .i64 0, .int .i64 kind, .string tag, .string text, .slice none 0 0, .slice none 0 0, .slice none 0 0, .int .i64 0, .slice none 0 0] 97
  have HH := Lib.hid h
  clear h
  go_enter Tryz.func100, Tryz.ntmps100
  go_upto_region 1 with fail
  rw [← hw1]
  obtain ⟨G, hGe⟩ : ∃ G, G = w.heap.size := ⟨_, rfl⟩
  rw [← hGe] at hG hs1 ⊢
  have HG := Lib.hid (And.intro hG (And.intro hb1 (And.intro hGe hs1)))
  clear hG hb1 hGe hs1 hw1
  go_wp2_with fail
  refine (room_any (HH.out.keep HG.out.2.1) hn).mono ?_
  rintro e w2 ⟨r, rfl, hr0, hr1, hb2⟩
  have i1 : ¬ ((r : Int) ≤ 0) := by omega
  have h2 := (HH.out.keep HG.out.2.1).keep hb2
  have hG2 := HG.out.1.below hb2 HG.out.1.lt
  have y1 : w2.cell? ⟨D, 1, none⟩ = some (.int .i64 n) := h2.dom.cell 1
  have y0 : w2.cell? ⟨G, 0, none⟩ = some (.int .i64 0) := hG2.cell 0
  have y7 : w2.cell? ⟨G, 7, none⟩ = some (.int .i64 0) := hG2.cell 7
  have f0 := hG2.frozen 0
  have f7 := hG2.frozen 7
  have H2 := Lib.hid (And.intro h2 (And.intro hG2 hb2))
  clear h2 hG2 hb2 hr0
  go_upto_region 4 with fail
  have hE := (H2.out.2.1.set_ 0 (.int .i64 n)).set_ 7 (.int .i64 (-1))
  have hc : Chg (· = G) w2 ((w2.setCell ⟨G, 0, none⟩ (.int .i64 n)).setCell ⟨G, 7, none⟩ (.int .i64 (-1))) := (Chg.set (T := (· = G)) rfl _ _ _).trans (Chg.set (T := (· = G)) rfl _ _ _)
  generalize (w2.setCell ⟨G, 0, none⟩ (.int .i64 n)).setCell ⟨G, 7, none⟩ (.int .i64 (-1)) = w3 at hE hc ⊢
  replace hE : Blk w3 G 97 (nC n ⟨kind, tag, text, [], [], [], -1, []⟩ (.slice none 0 0) (.slice none 0 0) (.slice none 0 0) (.slice none 0 0)).toArray := hE
  have hGD : D ≠ G := by have := HH.out.dom.lt; have := HG.out.2.2.1; omega
  have hGM : M ≠ G := by have := HH.out.map.lt; have := HG.out.2.2.1; omega
  have HD := Lib.hid (hc.blk H2.out.1.dom hGD)
  have HE := Lib.hid hE
  have HM := Lib.hid (H2.out.1.map.chg hc hGM)
  have HC := Lib.hid hc
  clear hE hc
  refine wp_region_tail 6 _ ?_ ?_ ?_ ?_ (AddR4 w3 D G M n kind tag text) (fun j v wx wy => AddR4_keep _ _ _ _ _ _ _ _ j v wx wy) ?_ ?_ ?_
  · kernel_rfl
  · kernel_rfl
  · kernel_rfl
  · kernel_rfl
  · refine ⟨opV rfl fun s wx hb hd => ⟨_, ex_mv rfl (lit_out 0 (by kernel_rfl)), rfl⟩, ?_⟩
    refine ⟨opV rfl fun s wx hb hd => ⟨_, ex_nil rfl ((lit_at 0 15 (by kernel_rfl) (by kernel_rfl) (by kernel_rfl)).trans (hd 0 (by kernel_rfl))), rfl⟩, ?_⟩
    refine ⟨opV rfl fun s wx hb hd => ⟨_, ex_fld rfl ((lit_at 1 16 (by kernel_rfl) (by kernel_rfl) (by kernel_rfl)).trans (hd 1 (by kernel_rfl))) (fa_dm_2 _ wx), rfl⟩, ?_⟩
    refine ⟨opV rfl fun s wx hb hd => ⟨_, ex_ld rfl ((lit_at 2 17 (by kernel_rfl) (by kernel_rfl) (by kernel_rfl)).trans (hd 2 (by kernel_rfl))) (ld_map_intParena_Node (((HD.out).below hb (HD.out).lt).cell 2)), rfl⟩, ?_⟩
    refine ⟨opV rfl fun s wx hb hd => ⟨_, ex_fld rfl (lit_out 3 (by kernel_rfl)) (fa_nd_0 _ wx), rfl⟩, ?_⟩
    refine ⟨opV rfl fun s wx hb hd => ⟨_, ex_ld rfl ((lit_at 4 19 (by kernel_rfl) (by kernel_rfl) (by kernel_rfl)).trans (hd 4 (by kernel_rfl))) (ld_int (((HE.out).below hb (HE.out).lt).cell 0)), rfl⟩, ?_⟩
    trivial
  rotate_left
  · kernel_rfl
  intro s wz hbz hV
  have e3 : s 3 = .map (some M) := hV 3 (by omega)
  have e5 : s 5 = .int .i64 (n : Nat) := hV 5 (by omega)
  clear hV
  obtain ⟨w5, hrun, hM5, hg5⟩ := (HM.out.keep hbz).update (n : Int) (wf_int _ (by omega) (by omega)) (by unfold maxLen; omega) (some G) trivial
  simp only [List.take_succ_cons, List.take_zero, List.drop_succ_cons, List.drop_zero, litOf, List.map_cons, List.map_nil, Nat.zero_add, Nat.reduceAdd, Act.put, List.setIfInBounds_toArray, List.set_cons_succ, List.set_cons_zero]
  refine wpList_skip rfl (ex_mup rfl e3 e5 rfl hrun) ?_
  refine wpList_nil ?_
  have hD5 : Blk w5 D 94 #[.int .i64 100, .int .i64 n, .map (some M)] := (HD.out.below hbz HD.out.lt).grown hg5 (fun e => by injection e with e; exact MapKit.blk_ne HD.out HM.out e)
  have hG5 := (HE.out.below hbz HE.out.lt).grown hg5 (fun e => by injection e with e; exact MapKit.blk_ne HE.out HM.out e)
  have z1 : w5.cell? ⟨D, 1, none⟩ = some (.int .i64 n) := hD5.cell 1
  have g1 := hD5.frozen 1
  have z0 : w5.cell? ⟨G, 0, none⟩ = some (.int .i64 n) := hG5.cell 0
  have hC5 : Chg (fun b => b = D ∨ b = M ∨ w.heap.size ≤ b) w w5 := by
    refine ((((Chg.of_below HG.out.2.1 fun i h _ => h).trans (.of_below H2.out.2.2 fun i h h2 => ?_)).trans (HC.out.mono fun i h => ?_)).trans (.of_below hbz fun i h h2 => h)).trans (.of_grown hg5 fun i h => ?_)
    · exact h
    · have := HG.out.2.2.1; right; right; omega
    · injection h with h; right; left; exact h.symm
  have H5 := Lib.hid (And.intro hD5 (And.intro hG5 (And.intro hM5 (And.intro hC5 hGD))))
  clear hD5 hG5 hM5 hC5 hg5 hbz hrun e3 e5 hGD hGM y1 y0 y7 f0 f7
  go_upto_region 6 with fail
  have hD6 := H5.out.1.set_ 1 (.int .i64 ((n : Int) + 1))
  have hc6 : Chg (· = D) w5 (w5.setCell ⟨D, 1, none⟩ (.int .i64 ((n : Int) + 1))) := Chg.set (T := (· = D)) rfl _ _ _
  generalize w5.setCell ⟨D, 1, none⟩ (.int .i64 ((n : Int) + 1)) = w6 at hD6 hc6 ⊢
  have hG6 := hc6.blk H5.out.2.1 (Ne.symm H5.out.2.2.2.2)
  have x0 : w6.cell? ⟨G, 0, none⟩ = some (.int .i64 n) := hG6.cell 0
  have HF := Lib.hid (HH.out.grow (G := G) (by have := HG.out.2.2.1; omega) ⟨rfl, rfl, rfl, rfl⟩ hG6 hD6 (H5.out.2.2.1.chg hc6 (fun e => MapKit.blk_ne H5.out.1 H5.out.2.2.1 e.symm)) (H5.out.2.2.2.1.trans (hc6.mono fun i h => .inl h)))
  clear hD6 hc6 hG6
  go_wp2_with fail
  go_ret2
  exact ⟨G, rfl, ⟨_, HF.out.1⟩, HF.out.2.1, HF.out.2.2⟩

end Go.Proofs.YtaalhglooipnaaaGreat
