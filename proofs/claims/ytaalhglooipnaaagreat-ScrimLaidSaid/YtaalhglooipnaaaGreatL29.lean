/-
  The walks over AddClass, SetAttr, SetStyle of layer 5.
  The walks over Within, Insert of layer 5 (a fresh node becomes the last kid).
-/
import Derived.Test.YtaalhglooipnaaaGreatL28
import Derived.Test.YtaalhglooipnaaaGreatL20
import Derived.Test.YtaalhglooipnaaaGreatL10
namespace Go.Proofs.YtaalhglooipnaaaGreat
open Go.RowKit RT Go.Maps Go.WideMaps
attribute [local go_sem ↓] Go.wp_at_zero Go.wp_at_succ

set_option maxRecDepth 100000 in
set_option maxHeartbeats 4000000 in
theorem addClassD_any {B : Nat} {w : World} {D M n : Nat} {nd : Nat → ND} {gs : Nat → Nat} {kvs : Nat → Value} (h : DomI B w D M n nd gs kvs) (hn : n ≤ 50) (i : Nat) (h0 : 0 < i) (hi : i < n) (hk : (nd i).kind = 2) (s : ByteArray) (hs : NameOk s) (hc : s ∉ (nd i).cl) (hl : (nd i).cl.length ≤ 200) :
    Calls Tryz.prog 65 #[.pointer (some ⟨D, 0, none⟩), .int .i64 (i : Nat), .string s] w (DPost B w D M n (setF nd i { nd i with cl := (nd i).cl ++ [s] }) gs (.int .i64 0)) := by
  obtain ⟨_, ⟨a1, a2, a3, hN, r1, r2, r3⟩, _⟩ := h.node i hi
  obtain ⟨A1, c1, rfl, q1⟩ := r1.rd
  have y4 : w.cell? ⟨gs i, 4, none⟩ = some (.slice A1 (nd i).cl.length c1) := hN.cell 4
  have HH := Lib.hid (And.intro h (And.intro hN (And.intro r2 (And.intro r3 (And.intro q1 hc)))))
  clear h hN r1 r2 r3 q1 hc
  go_enter Tryz.func65, Tryz.ntmps65
  go_wp2_with fail
  refine (ownD_any HH.out.1 hn i h0 hi hk s hs).mono ?_
  rintro e w' ⟨rfl, rfl⟩
  have HS0 := Lib.hid (And.intro hk hs)
  clear hk hs
  go_wp2_with fail
  refine (has_any A1 _ c1 _ (nd i).cl s _ (HH.out.2.2.2.2.1.rd fun b hb => hb.2) (by omega)).mono ?_
  rintro e w2 ⟨q, rfl, hq, rfl⟩
  obtain rfl : q = false := by
    cases q
    · rfl
    · exact absurd (hq.1 rfl) HH.out.2.2.2.2.2
  clear hq
  go_wp2_with fail
  refine (addR_any A1 _ c1 (nd i).cl (Fresh B w2) s w2 (fun b hb => hb.2) HH.out.2.2.2.2.1 (by omega)).mono ?_
  rintro e w1 ⟨A, c, rfl, hown, hb⟩
  have ha : addS (nd i).cl s = (nd i).cl ++ [s] := if_neg HH.out.2.2.2.2.2
  rw [ha] at hown ⊢
  clear ha
  obtain ⟨l', hl'⟩ : ∃ l, l = (nd i).cl ++ [s] := ⟨_, rfl⟩
  rw [← hl'] at hown ⊢
  have hN1 := HH.out.2.1.below hb HH.out.2.1.lt
  have z4 : w1.cell? ⟨gs i, 4, none⟩ = some (.slice A1 (nd i).cl.length c1) := hN1.cell 4
  have g4 := hN1.frozen 4
  have HS := Lib.hid (HH.out.1.setc (j := 4) (b1 := .slice A l'.length c) (b2 := a2) (b3 := a3) hi hb (.slice A l'.length c) { nd i with cl := l' } HH.out.2.1 rfl (Row.of_own (fun _ _ => rfl) hown rfl HH.out.1.bnd) (HH.out.2.2.1.keep hb) (HH.out.2.2.2.1.keep hb) rfl)
  have HL := Lib.hid hl'
  clear hN1 hown hb hl'
  go_wp2_with fail
  go_ret
  rw [← HL.out]
  exact ⟨rfl, ⟨_, HS.out.1⟩, HS.out.2.1, HS.out.2.2⟩

set_option maxRecDepth 100000 in
set_option maxHeartbeats 4000000 in
theorem setAttrD_any {B : Nat} {w : World} {D M n : Nat} {nd : Nat → ND} {gs : Nat → Nat} {kvs : Nat → Value} (h : DomI B w D M n nd gs kvs) (hn : n ≤ 50) (i : Nat) (h0 : 0 < i) (hi : i < n) (hk : (nd i).kind = 2) (s x : ByteArray) (hs : NameOk s) (hl : (nd i).at_.length ≤ 200) :
    Calls Tryz.prog 66 #[.pointer (some ⟨D, 0, none⟩), .int .i64 (i : Nat), .string s, .string x] w (DPost B w D M n (setF nd i { nd i with at_ := St.putS (St.ofS (nd i).at_) (s, x) }) gs (.int .i64 0)) := by
  obtain ⟨_, ⟨a1, a2, a3, hN, r1, r2, r3⟩, _⟩ := h.node i hi
  obtain ⟨A1, c1, rfl, q1⟩ := r2.rd
  have y4 : w.cell? ⟨gs i, 5, none⟩ = some (.slice A1 (nd i).at_.length c1) := hN.cell 5
  have HH := Lib.hid (And.intro h (And.intro hN (And.intro r1 (And.intro r3 q1))))
  clear h hN r1 r2 r3 q1
  go_enter Tryz.func66, Tryz.ntmps66
  go_wp2_with fail
  refine (ownD_any HH.out.1 hn i h0 hi hk s hs).mono ?_
  rintro e w' ⟨rfl, rfl⟩
  have HS0 := Lib.hid (And.intro hk hs)
  clear hk hs
  go_wp2_with fail
  refine (St.set_any A1 _ c1 (nd i).at_ s x _ (HH.out.2.2.2.2.rd fun b hb => hb.2) (by omega)).mono ?_
  rintro e w1 ⟨A, c, rfl, hown, hb⟩
  obtain ⟨l', hl'⟩ : ∃ l, l = St.putS (St.ofS (nd i).at_) (s, x) := ⟨_, rfl⟩
  rw [← hl'] at hown ⊢
  have hN1 := HH.out.2.1.below hb HH.out.2.1.lt
  have z4 : w1.cell? ⟨gs i, 5, none⟩ = some (.slice A1 (nd i).at_.length c1) := hN1.cell 5
  have g4 := hN1.frozen 5
  have HS := Lib.hid (HH.out.1.setc (j := 5) (b1 := a1) (b2 := .slice A l'.length c) (b3 := a3) hi hb (.slice A l'.length c) { nd i with at_ := l' } HH.out.2.1 rfl (HH.out.2.2.1.keep hb) (Row.of_own (fun _ _ => rfl) hown rfl HH.out.1.bnd) (HH.out.2.2.2.1.keep hb) rfl)
  have HL := Lib.hid hl'
  clear hN1 hown hb hl'
  go_wp2_with fail
  go_ret
  rw [← HL.out]
  exact ⟨rfl, ⟨_, HS.out.1⟩, HS.out.2.1, HS.out.2.2⟩

def SetStyR3 (W : World) (G i : Nat) (d : ND) (a1 a2 kv : Value) (A1 : Option Addr) (c1 : Nat) (s : ByteArray) (x : Int) (l : List Pr) : Nat → Value → World → Prop
  | 0, v, _ => v = .pointer (some ⟨G, 0, none⟩)
  | 1, v, _ => v = .pointer (some ⟨G, 0, none⟩)
  | 2, v, _ => v = .pointer (some ⟨G, 0, none⟩)
  | 3, v, _ => v = .pointer (some ⟨G, 6, none⟩)
  | 4, v, _ => v = .slice A1 d.st.length c1
  | 5, v, _ => v = (.string s)
  | 6, v, _ => v = (.int .i64 x)
  | 7, v, _ => v = .int .i64 x
  | 8, v, w => RowP 105 W.heap.size l v w
  | _, _, _ => True
theorem SetStyR3_keep (W : World) (G i : Nat) (d : ND) (a1 a2 kv : Value) (A1 : Option Addr) (c1 : Nat) (s : ByteArray) (x : Int) (l : List Pr) (j : Nat) (v : Value) (w w' : World) (h : SetStyR3 W G i d a1 a2 kv A1 c1 s x l j v w) (hb : Below w.heap.size w w') : SetStyR3 W G i d a1 a2 kv A1 c1 s x l j v w' := by
  match j with
  | 0 => exact h
  | 1 => exact h
  | 2 => exact h
  | 3 => exact h
  | 4 => exact h
  | 5 => exact h
  | 6 => exact h
  | 7 => exact h
  | 8 => exact Row.keep h hb
  | _ + 9 => trivial
set_option maxRecDepth 100000 in
set_option maxHeartbeats 4000000 in
theorem setStyleD_any {B : Nat} {w : World} {D M n : Nat} {nd : Nat → ND} {gs : Nat → Nat} {kvs : Nat → Value} (h : DomI B w D M n nd gs kvs) (hn : n ≤ 50) (i : Nat) (h0 : 0 < i) (hi : i < n) (hk : (nd i).kind = 2) (s : ByteArray) (x : Int) (hx : -2147483648 ≤ x ∧ x ≤ 2147483647) (hs : NameOk s) (hl : (nd i).st.length ≤ 200) :
    Calls Tryz.prog 67 #[.pointer (some ⟨D, 0, none⟩), .int .i64 (i : Nat), .string s, .int .i64 x] w (DPost B w D M n (setF nd i { nd i with st := putS (ofS (nd i).st) (s, x) }) gs (.int .i64 0)) := by
  obtain ⟨_, ⟨a1, a2, a3, hN, r1, r2, r3⟩, _⟩ := h.node i hi
  obtain ⟨A1, c1, rfl, q1⟩ := r3.rd
  have HH := Lib.hid (And.intro h (And.intro hN (And.intro r1 (And.intro r2 (And.intro q1 hx)))))
  clear h hN r1 r2 r3 q1 hx
  go_enter Tryz.func67, Tryz.ntmps67
  go_wp2_with fail
  refine (ownD_any HH.out.1 hn i h0 hi hk s hs).mono ?_
  rintro e w' ⟨rfl, rfl⟩
  have HS0 := Lib.hid (And.intro hk hs)
  clear hk hs
  go_upto_region 3 with fail
  obtain ⟨l', hl'⟩ : ∃ l, l = putS (ofS (nd i).st) (s, x) := ⟨_, rfl⟩
  obtain ⟨G, hG⟩ : ∃ g, g = gs i := ⟨_, rfl⟩
  have hsat : Fl.P1.sat x = x := by have := HH.out.2.2.2.2.2; unfold Fl.P1.sat; omega
  have HN := Lib.hid HH.out.2.1
  rw [← hG] at HN ⊢
  have HL := Lib.hid (And.intro hl' (And.intro hG hsat))
  clear hl' hG hsat
  refine wp_region_tail 9 _ ?_ ?_ ?_ ?_ (SetStyR3 w' G i (nd i) a1 a2 (kvs i) A1 c1 s x l') (fun j v wx wy => SetStyR3_keep _ _ _ _ _ _ _ _ _ _ _ _ j v wx wy) ?_ ?_ ?_
  · kernel_rfl
  · kernel_rfl
  · kernel_rfl
  · kernel_rfl
  · refine ⟨opV rfl fun s wx hb hd => ⟨_, ex_mv rfl (lit_out 9 (by kernel_rfl)), rfl⟩, ?_⟩
    refine ⟨opV rfl fun s wx hb hd => ⟨_, ex_mv rfl (lit_out 9 (by kernel_rfl)), rfl⟩, ?_⟩
    refine ⟨opV rfl fun s wx hb hd => ⟨_, ex_nil rfl ((lit_at 1 21 (by kernel_rfl) (by kernel_rfl) (by kernel_rfl)).trans (hd 1 (by kernel_rfl))), rfl⟩, ?_⟩
    refine ⟨opV rfl fun s wx hb hd => ⟨_, ex_fld rfl ((lit_at 2 22 (by kernel_rfl) (by kernel_rfl) (by kernel_rfl)).trans (hd 2 (by kernel_rfl))) (fa_nd_6 _ wx), rfl⟩, ?_⟩
    refine ⟨opV rfl fun s wx hb hd => ⟨_, ex_ld rfl ((lit_at 3 23 (by kernel_rfl) (by kernel_rfl) (by kernel_rfl)).trans (hd 3 (by kernel_rfl))) (ld_props_Map_int (((HN.out).below hb (HN.out).lt).cell 6)), rfl⟩, ?_⟩
    refine ⟨opV rfl fun s wx hb hd => ⟨_, ex_mv rfl (lit_out 2 (by kernel_rfl)), rfl⟩, ?_⟩
    refine ⟨opV rfl fun s wx hb hd => ⟨_, ex_mv rfl (lit_out 3 (by kernel_rfl)), rfl⟩, ?_⟩
    refine ⟨opC rfl fun s' wx hb hd => ⟨_, _, ex_c1 rfl rfl (enters Tryz.func106 (by kernel_rfl) rfl _ _) ((lit_at 6 26 (by kernel_rfl) (by kernel_rfl) (by kernel_rfl)).trans (hd 6 (by kernel_rfl))), ?_⟩, ?_⟩
    · refine (Fl.sat_any _ _).mono ?_
      rintro e w1 ⟨rfl, rfl⟩
      exact ⟨_, rfl, by rw [HL.out.2.2]; rfl, Below.refl _ _⟩
    refine ⟨opC rfl fun s' wx hb hd => ⟨_, _, ex_c3 rfl rfl (enters Tryz.func105 (by kernel_rfl) rfl _ _) ((lit_at 4 24 (by kernel_rfl) (by kernel_rfl) (by kernel_rfl)).trans (hd 4 (by kernel_rfl))) ((lit_at 5 25 (by kernel_rfl) (by kernel_rfl) (by kernel_rfl)).trans (hd 5 (by kernel_rfl))) ((lit_at 7 27 (by kernel_rfl) (by kernel_rfl) (by kernel_rfl)).trans (hd 7 (by kernel_rfl))), ?_⟩, ?_⟩
    · refine (set_any A1 _ c1 (nd i).st s x wx ((HH.out.2.2.2.2.1.keep hb).rd fun b hb => hb.2) (by omega)).mono ?_
      rintro e w1 ⟨A, c, rfl, hown, hb'⟩
      rw [← HL.out.1] at hown ⊢
      exact ⟨_, rfl, Row.of_own (fun _ _ => rfl) hown rfl hb.size, hb'⟩
    trivial
  rotate_left
  · kernel_rfl
  intro t wz hbz hV
  have e0 : t 0 = .pointer (some ⟨G, 0, none⟩) := hV 0 (by omega)
  obtain ⟨A, c, e8, r8⟩ := hV 8 (by omega)
  clear hV
  have hN1 := HN.out.below hbz HN.out.lt
  have z4 : wz.cell? ⟨G, 6, none⟩ = some (.slice A1 (nd i).st.length c1) := hN1.cell 6
  have g4 := hN1.frozen 6
  have hu := HH.out.1.setc (j := 6) (b1 := a1) (b2 := a2) (b3 := .slice A l'.length c) hi hbz (.slice A l'.length c) { nd i with st := l' } HH.out.2.1 rfl (HH.out.2.2.1.keep hbz) (HH.out.2.2.2.1.keep hbz) (Row.low ⟨A, c, rfl, r8⟩ HH.out.1.bnd) rfl
  rw [← HL.out.2.1] at hu
  have HS := Lib.hid hu
  clear hu hN1 hbz r8
  simp only [List.take_succ_cons, List.take_zero, List.drop_succ_cons, List.drop_zero, litOf, List.map_cons, List.map_nil, Nat.zero_add, Nat.reduceAdd, Act.put, List.setIfInBounds_toArray, List.set_cons_succ, List.set_cons_zero]
  go_wp2_with fail
  go_ret
  rw [← HL.out.1]
  exact ⟨rfl, ⟨_, HS.out.1⟩, HS.out.2.1, HS.out.2.2⟩

/-! ### Element, Text -/
set_option maxRecDepth 100000 in
set_option maxHeartbeats 4000000 in
theorem elementD_any {B : Nat} {w : World} {D M n : Nat} {nd : Nat → ND} {gs : Nat → Nat} {kvs : Nat → Value} (h : DomI B w D M n nd gs kvs) (hn : n ≤ 50) (tag : ByteArray) (hs : NameOk tag) :
    Calls Tryz.prog 64 #[.pointer (some ⟨D, 0, none⟩), .string tag] w fun e w' => ∃ G, DPost B w D M (n + 1) (setF nd n ⟨2, tag, eb, [], [], [], -1, []⟩) (setF gs n G) (.tuple #[.int .i64 (n : Nat), .int .i64 0]) e w' := by
  have HH := Lib.hid (And.intro h hs)
  clear h hs
  go_enter Tryz.func64, Tryz.ntmps64
  go_wp2_with (first | (go_at_call 101; refine (wname_any tag HH.out.2 _).mono ?_; rintro e w' ⟨rfl, rfl⟩))
  refine (addN_any HH.out.1 hn 2 tag eb).mono ?_
  rintro e w1 ⟨G, rfl, hd, hb, hk⟩
  have HF := Lib.hid (And.intro hd (And.intro hb hk))
  clear hd hb hk
  go_wp2_with fail
  go_ret2
  exact ⟨G, rfl, HF.out.1, HF.out.2.1, HF.out.2.2⟩
set_option maxRecDepth 100000 in
set_option maxHeartbeats 4000000 in
theorem textD_any {B : Nat} {w : World} {D M n : Nat} {nd : Nat → ND} {gs : Nat → Nat} {kvs : Nat → Value} (h : DomI B w D M n nd gs kvs) (hn : n ≤ 50) (text : ByteArray) :
    Calls Tryz.prog 62 #[.pointer (some ⟨D, 0, none⟩), .string text] w fun e w' => ∃ G, DPost B w D M (n + 1) (setF nd n ⟨1, eb, text, [], [], [], -1, []⟩) (setF gs n G) (.tuple #[.int .i64 (n : Nat), .int .i64 0]) e w' := by
  have HH := Lib.hid h
  clear h
  go_enter Tryz.func62, Tryz.ntmps62
  go_wp2_with fail
  refine (addN_any HH.out hn 1 eb text).mono ?_
  rintro e w1 ⟨G, rfl, hd, hb, hk⟩
  have HF := Lib.hid (And.intro hd (And.intro hb hk))
  clear hd hb hk
  go_wp2_with fail
  go_ret2
  exact ⟨G, rfl, HF.out.1, HF.out.2.1, HF.out.2.2⟩

end Go.Proofs.YtaalhglooipnaaaGreat
namespace Go.Proofs.YtaalhglooipnaaaGreat
open Go.RowKit RT Go.Maps Go.WideMaps
attribute [local go_sem ↓] Go.wp_at_zero Go.wp_at_succ

set_option maxRecDepth 100000 in
set_option maxHeartbeats 4000000 in
theorem insEnd_any (v : Value) (base n : Nat) (l : List Int) (vb : Nat) (x : Int) (w : World) (h : w.ownsRow base 3 1 v n (nums l)) (hbase : base ≤ w.heap.size) (hln : l.length = n) (hn : n ≤ 1000) (hvb : Blk w vb 3 #[.int .i64 x]) :
    Calls Tryz.prog 108 #[v, .int .i64 n, .slice (some ⟨vb, 0, none⟩) 1 1] w fun e w' =>
      ∃ u, e = .returned u ∧ w'.ownsRow base 3 1 u (n + 1) (nums (l ++ [x])) ∧ w.grownBy w' v.ownBlock ∧ (u.ownBlock = v.ownBlock ∨ u.ownBlock = some w.heap.size) := by
  obtain ⟨tr, hti, hz0, hz1, hz2⟩ := info_parts Ii.winfo
  obtain ⟨A, c, rfl⟩ := own_form h
  obtain ⟨g, cap, w', hrun, hown, hg, hat, _⟩ := run_append_lies (P := Tryz.prog) w 71 71 base 3 tr _ 1 8 Tryz.underlying71 hti hz0 hz1 hz2 rfl (by decide) _ n _ h ⟨vb, 0, none⟩ 1 1 [.int .i64 x] rfl (World.news_of_block hvb) (by intro u hu; simp at hu; subst hu; rfl) (by omega) (by unfold maxLen; omega) (by omega) hbase _ rfl
  have HX := Lib.hid (And.intro hown (And.intro hg hat))
  have HRR := Lib.hid hrun
  obtain ⟨A3, c3, hsl, hsl2⟩ := Ii.slice_some (P := Tryz.prog) 71 3 tr Tryz.underlying71 hti A n c n (Nat.le_refl _)
  clear hown hg h hvb hln hrun hat
  go_enter Tryz.func108, Tryz.ntmps108
  go_wp2_with (at_builtin; refine wpList_append_of_run rfl _ _ _ rfl _ _ _ rfl rfl HRR.out ?_)
  go_ret
  refine ⟨_, rfl, by rw [nums_snoc]; exact HX.out.1, HX.out.2.1, ?_⟩
  rcases HX.out.2.2 with h | h
  · exact .inl h.symm
  · right; rw [h]; rfl

def WitR5 (W : World) (D G jj M n : Nat) (d : ND) (a1 a2 a3 kv u : Value) : Nat → Value → World → Prop
  | 0, v, _ => v = .pointer (some ⟨D, 0, none⟩)
  | 1, v, _ => v = .pointer (some ⟨D, 0, none⟩)
  | 2, v, _ => v = .pointer (some ⟨D, 2, none⟩)
  | 3, v, _ => v = .map (some M)
  | 4, v, _ => v = .pointer (some ⟨G, 0, none⟩)
  | 5, v, _ => v = .pointer (some ⟨G, 0, none⟩)
  | 6, v, _ => v = .pointer (some ⟨G, 7, none⟩)
  | 7, v, _ => v = .int .i64 d.par
  | 8, v, _ => v = u
  | _, _, _ => True
theorem WitR5_keep (W : World) (D G jj M n : Nat) (d : ND) (a1 a2 a3 kv u : Value) (j : Nat) (v : Value) (w w' : World) (h : WitR5 W D G jj M n d a1 a2 a3 kv u j v w) (hb : Below w.heap.size w w') : WitR5 W D G jj M n d a1 a2 a3 kv u j v w' := by
  match j with
  | 0 => exact h
  | 1 => exact h
  | 2 => exact h
  | 3 => exact h
  | 4 => exact h
  | 5 => exact h
  | 6 => exact h
  | 7 => exact h
  | 8 => exact h
  | _ + 9 => trivial
def InsR1 (W : World) (D M n p i : Nat) (g1 g2 : Nat) : Nat → Value → World → Prop
  | 0, v, _ => v = .pointer (some ⟨D, 0, none⟩)
  | 1, v, _ => v = .pointer (some ⟨D, 0, none⟩)
  | 2, v, _ => v = .pointer (some ⟨D, 2, none⟩)
  | 3, v, _ => v = .map (some M)
  | 4, v, _ => v = (.int .i64 (p : Nat))
  | 5, v, _ => v = .pointer (some ⟨g1, 0, none⟩)
  | 6, v, _ => v = .pointer (some ⟨D, 0, none⟩)
  | 7, v, _ => v = .pointer (some ⟨D, 0, none⟩)
  | 8, v, _ => v = .pointer (some ⟨D, 2, none⟩)
  | 9, v, _ => v = .map (some M)
  | 10, v, _ => v = (.int .i64 (i : Nat))
  | 11, v, _ => v = .pointer (some ⟨g2, 0, none⟩)
  | 12, v, _ => v = .pointer (some ⟨g1, 0, none⟩)
  | 13, v, _ => v = .pointer (some ⟨g2, 0, none⟩)
  | _, _, _ => True
theorem InsR1_keep (W : World) (D M n p i : Nat) (g1 g2 : Nat) (j : Nat) (v : Value) (w w' : World) (h : InsR1 W D M n p i g1 g2 j v w) (hb : Below w.heap.size w w') : InsR1 W D M n p i g1 g2 j v w' := by
  match j with
  | 0 => exact h
  | 1 => exact h
  | 2 => exact h
  | 3 => exact h
  | 4 => exact h
  | 5 => exact h
  | 6 => exact h
  | 7 => exact h
  | 8 => exact h
  | 9 => exact h
  | 10 => exact h
  | 11 => exact h
  | 12 => exact h
  | 13 => exact h
  | _ + 14 => trivial
/-- Whose parents stand ahead. -/
def Ups (n : Nat) (nd : Nat → ND) : Prop := ∀ j, j < n → -1 ≤ (nd j).par ∧ (nd j).par < j

set_option maxRecDepth 100000 in
set_option maxHeartbeats 4000000 in
theorem within_any {B : Nat} {w : World} {D M n : Nat} {nd : Nat → ND} {gs : Nat → Nat} {kvs : Nat → Value} (h : DomI B w D M n nd gs kvs) (hn : n ≤ 50) (hu : Ups n nd) (p i : Nat) (hp : p < i) (hi : i < n) :
    Calls Tryz.prog 107 #[.pointer (some ⟨D, 0, none⟩), .int .i64 (p : Nat), .int .i64 (i : Nat)] w fun e w' => e = .returned (.bool false) ∧ Below w.heap.size w w' := by
  have hl1 := h.look (by omega) i hi
  have hl2 := h.look (by omega) p (by omega)
  have y2 : w.cell? ⟨D, 2, none⟩ = some (.map (some M)) := h.dom.cell 2
  have HH := Lib.hid (And.intro h hu)
  clear h hu
  go_enter Tryz.func107, Tryz.ntmps107
  go_wp2_with fail
  go_loopg [7] (p + 1) (fun k v wx => Below w.heap.size w wx ∧ (v = .pointer none ∨ ∃ j, j < i ∧ j + 1 ≤ k ∧ v = .pointer (some ⟨gs j, 0, none⟩)))
  case atStart => exact ⟨Below.refl _ _, .inr ⟨p, hp, Nat.le_refl _, rfl⟩⟩
  case round =>
    obtain ⟨hb, hv⟩ := hrel
    have HB := Lib.hid hb
    have hD := HH.out.1.dom.below hb HH.out.1.dom.lt
    clear hb hl1 hl2 y2
    rcases hv with rfl | ⟨j, hj, hjk, rfl⟩
    · go_wp2_with fail
      go_ret
      exact ⟨rfl, HB.out⟩
    · obtain ⟨_, ⟨a1, a2, a3, hN, _⟩, _⟩ := HH.out.1.node j (by omega)
      have HN := Lib.hid (hN.below HB.out hN.lt)
      have y0 : wr.cell? ⟨gs j, 0, none⟩ = some (.int .i64 j) := HN.out.cell 0
      have i1 : ((j : Int) == (i : Int)) = false := by rw [beq_eq_false_iff_ne]; omega
      have i2 : (j == i) = false := by rw [beq_eq_false_iff_ne]; omega
      have HD := Lib.hid hD
      obtain ⟨G, hG⟩ : ∃ g, g = gs j := ⟨_, rfl⟩
      rw [← hG] at HN y0 ⊢
      have hu := HH.out.2 j (by omega)
      obtain ⟨u, hu1, hu2⟩ : ∃ u : Value, (∀ wx, Below w.heap.size w wx → (Instr.lookup 92 (.map (some M)) (.int .i64 (nd j).par) false).run Tryz.prog wx = .ok u wx) ∧ (u = .pointer none ∨ ∃ j', j' < j ∧ u = .pointer (some ⟨gs j', 0, none⟩)) := by
        by_cases e : (nd j).par = -1
        · exact ⟨_, fun wx hb => by rw [e]; exact (HH.out.1.keep hb).miss, .inl rfl⟩
        · obtain ⟨j', hj'⟩ : ∃ j' : Nat, (nd j).par = (j' : Int) := ⟨(nd j).par.toNat, by omega⟩
          exact ⟨_, fun wx hb => by rw [hj']; exact (HH.out.1.keep hb).look (by omega) j' (by omega), .inr ⟨j', by omega, rfl⟩⟩
      have HU := Lib.hid (And.intro hu1 hu2)
      clear hu1 hu2 hu hN hD hG
      go_upto_region 5 with fail
      refine wp_region_tail 9 _ ?_ ?_ ?_ ?_ (WitR5 wr D G j M n (nd j) a1 a2 a3 (kvs j) u) (fun j v wx wy => WitR5_keep _ _ _ _ _ _ _ _ _ _ _ _ j v wx wy) ?_ ?_ ?_
      · kernel_rfl
      · kernel_rfl
      · kernel_rfl
      · kernel_rfl
      · refine ⟨opV rfl fun s wx hb hd => ⟨_, ex_mv rfl (lit_out 0 (by kernel_rfl)), rfl⟩, ?_⟩
        refine ⟨opV rfl fun s wx hb hd => ⟨_, ex_nil rfl ((lit_at 0 23 (by kernel_rfl) (by kernel_rfl) (by kernel_rfl)).trans (hd 0 (by kernel_rfl))), rfl⟩, ?_⟩
        refine ⟨opV rfl fun s wx hb hd => ⟨_, ex_fld rfl ((lit_at 1 24 (by kernel_rfl) (by kernel_rfl) (by kernel_rfl)).trans (hd 1 (by kernel_rfl))) (fa_dm_2 _ wx), rfl⟩, ?_⟩
        refine ⟨opV rfl fun s wx hb hd => ⟨_, ex_ld rfl ((lit_at 2 25 (by kernel_rfl) (by kernel_rfl) (by kernel_rfl)).trans (hd 2 (by kernel_rfl))) (ld_map_intParena_Node (((HD.out).below hb (HD.out).lt).cell 2)), rfl⟩, ?_⟩
        refine ⟨opV rfl fun s wx hb hd => ⟨_, ex_mv rfl (lit_out 7 (by kernel_rfl)), rfl⟩, ?_⟩
        refine ⟨opV rfl fun s wx hb hd => ⟨_, ex_nil rfl ((lit_at 4 27 (by kernel_rfl) (by kernel_rfl) (by kernel_rfl)).trans (hd 4 (by kernel_rfl))), rfl⟩, ?_⟩
        refine ⟨opV rfl fun s wx hb hd => ⟨_, ex_fld rfl ((lit_at 5 28 (by kernel_rfl) (by kernel_rfl) (by kernel_rfl)).trans (hd 5 (by kernel_rfl))) (fa_nd_7 _ wx), rfl⟩, ?_⟩
        refine ⟨opV rfl fun s wx hb hd => ⟨_, ex_ld rfl ((lit_at 6 29 (by kernel_rfl) (by kernel_rfl) (by kernel_rfl)).trans (hd 6 (by kernel_rfl))) (ld_int (((HN.out).below hb (HN.out).lt).cell 7)), rfl⟩, ?_⟩
        refine ⟨opV rfl fun s' wx hb hd => ⟨_, ex_lkp rfl ((lit_at 3 26 (by kernel_rfl) (by kernel_rfl) (by kernel_rfl)).trans (hd 3 (by kernel_rfl))) ((lit_at 7 30 (by kernel_rfl) (by kernel_rfl) (by kernel_rfl)).trans (hd 7 (by kernel_rfl))) (HU.out.1 wx (HB.out.trans (hb.mono HB.out.size))), rfl⟩, ?_⟩
        trivial
      rotate_left
      · kernel_rfl
      intro s wz hbz hV
      have e9 : s 8 = u := hV 8 (by omega)
      clear hV
      simp only [List.take_succ_cons, List.take_zero, List.drop_succ_cons, List.drop_zero, litOf, List.map_cons, List.map_nil, Nat.zero_add, Nat.reduceAdd, Act.put, List.setIfInBounds_toArray, List.set_cons_succ, List.set_cons_zero]
      have HB2 := Lib.hid (HB.out.trans (hbz.mono HB.out.size))
      clear hbz
      have HE := Lib.hid e9
      clear e9
      go_wp2_with fail
      go_roundg j
      case measure => omega
      case rel =>
        refine ⟨HB2.out, ?_⟩
        rw [HE.out]
        rcases HU.out.2 with h | ⟨j', h1, h2⟩
        · exact .inl h
        · exact .inr ⟨j', by omega, by omega, h2⟩

set_option maxRecDepth 100000 in
set_option maxHeartbeats 8000000 in
theorem insertD_any {B : Nat} {w : World} {D M n : Nat} {nd : Nat → ND} {gs : Nat → Nat} {kvs : Nat → Value} (h : DomI B w D M n nd gs kvs) (hn : n ≤ 50) (hu : Ups n nd) (p i : Nat) (hp : p < i) (hi : i < n) (hk : (nd p).kind = 2) (hpar : (nd i).par = -1) (hl : (nd p).kids.length ≤ 200) :
    Calls Tryz.prog 68 #[.pointer (some ⟨D, 0, none⟩), .int .i64 (p : Nat), .int .i64 ((nd p).kids.length : Nat), .int .i64 (i : Nat)] w
      (DPost B w D M n (setF (setF nd p { nd p with kids := (nd p).kids ++ [(i : Int)] }) i { nd i with par := p }) gs (.int .i64 0)) := by
  obtain ⟨m, hm⟩ : ∃ m, m = (nd p).kids.length := ⟨_, rfl⟩
  rw [← hm] at hl ⊢
  obtain ⟨g1, hg1⟩ : ∃ g, g = gs p := ⟨_, rfl⟩
  obtain ⟨g2, hg2⟩ : ∃ g, g = gs i := ⟨_, rfl⟩
  have HLK := Lib.hid (show (∀ wx, Below w.heap.size w wx → (Instr.lookup 92 (.map (some M)) (.int .i64 (p : Nat)) false).run Tryz.prog wx = .ok (.pointer (some ⟨g1, 0, none⟩)) wx) ∧ (∀ wx, Below w.heap.size w wx → (Instr.lookup 92 (.map (some M)) (.int .i64 (i : Nat)) false).run Tryz.prog wx = .ok (.pointer (some ⟨g2, 0, none⟩)) wx) from by
    rw [hg1, hg2]
    exact ⟨fun wx hb => (h.keep hb).look (by omega) p (by omega), fun wx hb => (h.keep hb).look (by omega) i hi⟩)
  have HD := Lib.hid h.dom
  have HH := Lib.hid (And.intro h (And.intro hu (And.intro hm (And.intro hg1 (And.intro hg2 (And.intro hk hpar))))))
  clear h hu hm hg1 hg2 hk hpar
  go_enter Tryz.func68, Tryz.ntmps68
  go_upto_region 1 with fail
  refine wp_region_tail2 14 _ ?_ ?_ ?_ ?_ (InsR1 w D M n p i g1 g2) (fun j v wx wy => InsR1_keep _ _ _ _ _ _ _ _ j v wx wy) ?_ ?_ ?_
  · kernel_rfl
  · kernel_rfl
  · kernel_rfl
  · kernel_rfl
  · refine ⟨opV rfl fun s wx hb hd => ⟨_, ex_mv rfl (lit_out 0 (by kernel_rfl)), rfl⟩, ?_⟩
    refine ⟨opV rfl fun s wx hb hd => ⟨_, ex_nil rfl ((lit_at 0 11 (by kernel_rfl) (by kernel_rfl) (by kernel_rfl)).trans (hd 0 (by kernel_rfl))), rfl⟩, ?_⟩
    refine ⟨opV rfl fun s wx hb hd => ⟨_, ex_fld rfl ((lit_at 1 12 (by kernel_rfl) (by kernel_rfl) (by kernel_rfl)).trans (hd 1 (by kernel_rfl))) (fa_dm_2 _ wx), rfl⟩, ?_⟩
    refine ⟨opV rfl fun s wx hb hd => ⟨_, ex_ld rfl ((lit_at 2 13 (by kernel_rfl) (by kernel_rfl) (by kernel_rfl)).trans (hd 2 (by kernel_rfl))) (ld_map_intParena_Node (((HD.out).below hb (HD.out).lt).cell 2)), rfl⟩, ?_⟩
    refine ⟨opV rfl fun s wx hb hd => ⟨_, ex_mv rfl (lit_out 1 (by kernel_rfl)), rfl⟩, ?_⟩
    refine ⟨opV rfl fun s' wx hb hd => ⟨_, ex_lkp rfl ((lit_at 3 14 (by kernel_rfl) (by kernel_rfl) (by kernel_rfl)).trans (hd 3 (by kernel_rfl))) ((lit_at 4 15 (by kernel_rfl) (by kernel_rfl) (by kernel_rfl)).trans (hd 4 (by kernel_rfl))) (HLK.out.1 wx hb), rfl⟩, ?_⟩
    refine ⟨opV rfl fun s wx hb hd => ⟨_, ex_mv rfl (lit_out 0 (by kernel_rfl)), rfl⟩, ?_⟩
    refine ⟨opV rfl fun s wx hb hd => ⟨_, ex_nil rfl ((lit_at 6 17 (by kernel_rfl) (by kernel_rfl) (by kernel_rfl)).trans (hd 6 (by kernel_rfl))), rfl⟩, ?_⟩
    refine ⟨opV rfl fun s wx hb hd => ⟨_, ex_fld rfl ((lit_at 7 18 (by kernel_rfl) (by kernel_rfl) (by kernel_rfl)).trans (hd 7 (by kernel_rfl))) (fa_dm_2 _ wx), rfl⟩, ?_⟩
    refine ⟨opV rfl fun s wx hb hd => ⟨_, ex_ld rfl ((lit_at 8 19 (by kernel_rfl) (by kernel_rfl) (by kernel_rfl)).trans (hd 8 (by kernel_rfl))) (ld_map_intParena_Node (((HD.out).below hb (HD.out).lt).cell 2)), rfl⟩, ?_⟩
    refine ⟨opV rfl fun s wx hb hd => ⟨_, ex_mv rfl (lit_out 3 (by kernel_rfl)), rfl⟩, ?_⟩
    refine ⟨opV rfl fun s' wx hb hd => ⟨_, ex_lkp rfl ((lit_at 9 20 (by kernel_rfl) (by kernel_rfl) (by kernel_rfl)).trans (hd 9 (by kernel_rfl))) ((lit_at 10 21 (by kernel_rfl) (by kernel_rfl) (by kernel_rfl)).trans (hd 10 (by kernel_rfl))) (HLK.out.2 wx hb), rfl⟩, ?_⟩
    refine ⟨opV rfl fun s wx hb hd => ⟨_, ex_asg rfl ((lit_at 5 16 (by kernel_rfl) (by kernel_rfl) (by kernel_rfl)).trans (hd 5 (by kernel_rfl))), rfl⟩, ?_⟩
    refine ⟨opV rfl fun s wx hb hd => ⟨_, ex_asg rfl ((lit_at 11 22 (by kernel_rfl) (by kernel_rfl) (by kernel_rfl)).trans (hd 11 (by kernel_rfl))), rfl⟩, ?_⟩
    trivial
  rotate_left
  · kernel_rfl
  intro s wz hbz hV
  have e12 : s 12 = .pointer (some ⟨g1, 0, none⟩) := hV 12 (by omega)
  have e13 : s 13 = .pointer (some ⟨g2, 0, none⟩) := hV 13 (by omega)
  clear hV
  simp only [List.take_succ_cons, List.take_zero, List.drop_succ_cons, List.drop_zero, litOf, List.map_cons, List.map_nil, Nat.zero_add, Nat.reduceAdd, Act.put, List.setIfInBounds_toArray, List.set_cons_succ, List.set_cons_zero]
  have hz := HH.out.1.keep hbz
  obtain ⟨_, ⟨a1, a2, a3, hN, r1, r2, r3⟩, hko⟩ := hz.node p (by omega)
  obtain ⟨_, ⟨b1, b2, b3, hN2, q1, q2, q3⟩, _⟩ := hz.node i hi
  rw [← HH.out.2.2.2.1] at hN
  rw [← HH.out.2.2.2.2.1] at hN2
  have x1 : wz.cell? ⟨g1, 1, none⟩ = some (.int .i64 2) := by rw [hN.cell 1, ← HH.out.2.2.2.2.2.1]; rfl
  have x7 : wz.cell? ⟨g2, 7, none⟩ = some (.int .i64 (-1)) := by rw [hN2.cell 7, ← HH.out.2.2.2.2.2.2]; rfl
  have i1 : ((i : Int) == 0) = false := by rw [beq_eq_false_iff_ne]; omega
  have i1' : (i == 0) = false := by rw [beq_eq_false_iff_ne]; omega
  obtain ⟨A, c, hkv⟩ := own_form hko
  rw [← HH.out.2.2.1] at hko hkv
  have HZ := Lib.hid (And.intro hz (And.intro hN (And.intro hN2 (And.intro hko (And.intro hkv hbz)))))
  have HR := Lib.hid (And.intro (And.intro r1 (And.intro r2 r3)) (And.intro q1 (And.intro q2 q3)))
  clear hz hN hN2 hko hkv hbz r1 r2 r3 q1 q2 q3
  go_wp2_with fail
  refine (within_any HZ.out.1 hn HH.out.2.1 p i hp hi).mono ?_
  rintro e w2 ⟨rfl, hb2⟩
  have h2 := HZ.out.1.keep hb2
  have hN := HZ.out.2.1.below hb2 HZ.out.2.1.lt
  have y8 : w2.cell? ⟨g1, 8, none⟩ = some (.slice A m c) := by rw [hN.cell 8, ← HZ.out.2.2.2.2.1]; rfl
  have i2 : (0 : Int) ≤ (m : Int) := by omega
  have i3 : ¬ ((m : Int) < 0) := by omega
  have i4 : ¬ ((m : Int) < (m : Int)) := by omega
  obtain ⟨w3, hw3, hvb, hb3, hs3⟩ := one_new w2 #[.int .i64 (i : Nat)] 3
  have HB2 := Lib.hid (And.intro hb2 (And.intro h2 hN))
  have H3 := Lib.hid (And.intro hvb (And.intro hb3 hs3))
  clear hb2 h2 hN hvb hb3 hs3 x1 x7
  go_wp2_with fail
  rw [← hw3]
  have ho3 : w3.ownsRow B 3 1 (.slice A m c) m (nums (nd p).kids) := by
    rw [← HZ.out.2.2.2.2.1]
    exact own_keep (own_keep HZ.out.2.2.2.1 HB2.out.1) H3.out.2.1
  refine (insEnd_any (.slice A m c) B m (nd p).kids w2.heap.size (i : Int) w3 ho3 (Nat.le_trans HB2.out.2.1.bnd H3.out.2.1.size) HH.out.2.2.1.symm (by omega) H3.out.1).mono ?_
  rintro e w4 ⟨u, rfl, hown, hg, hat⟩
  obtain ⟨A', c', hue⟩ := own_form hown
  have hN3 := HB2.out.2.2.below H3.out.2.1 HB2.out.2.2.lt
  have hne : (Value.slice A m c).ownBlock ≠ some g1 := own_blk_ne ho3 hN3 (by decide)
  have hN4 := hN3.grown hg (fun e => hne e.symm)
  have z8 : w4.cell? ⟨g1, 8, none⟩ = some (.slice A m c) := by rw [hN4.cell 8, ← HZ.out.2.2.2.2.1]; rfl
  have f8 := hN4.frozen 8
  have hbB : Below w2.heap.size w2 w3 := H3.out.2.1
  -- the parent
  have hc4 : Chg (fun b => b = gs p ∨ (kvs p).ownBlock = some b) w3 (w4.setCell ⟨g1, 8, none⟩ u) := by
    rw [← HH.out.2.2.2.1, HZ.out.2.2.2.2.1]
    exact (Chg.of_grown hg fun b hb => .inr hb).trans (Chg.set (.inl rfl) _ _ _)
  have hN5 : Blk (w4.setCell ⟨g1, 8, none⟩ u) (gs p) 97 (nC p { nd p with kids := (nd p).kids ++ [(i : Int)] } a1 a2 a3 u).toArray := by
    have := hN4.set_ 8 u
    rw [← HH.out.2.2.2.1]
    exact this
  have hrow : ∀ {e : TypeId}, e ≠ 3 → e ≠ 97 → ∀ b cs, B ≤ b → Blk w3 b e cs → ¬ (b = gs p ∨ (kvs p).ownBlock = some b) := fun h1 h2 b cs _ hB hh => by
    rcases hh with e | e
    · rw [← HH.out.2.2.2.1] at e
      subst e
      exact Blk.ne_ hB hN3 h2 rfl
    · rw [HZ.out.2.2.2.2.1] at e
      exact own_blk_ne ho3 hB (Ne.symm h1) e
  have hlen : ((nd p).kids ++ [(i : Int)]).length = m + 1 := by rw [List.length_append, ← HH.out.2.2.1]; rfl
  have hup := HB2.out.2.1.upd (d' := { nd p with kids := (nd p).kids ++ [(i : Int)] }) (by omega) hbB hc4 hN5 (((HR.out.1.1.keep HB2.out.1).keep hbB).chg hc4 (hrow (by decide) (by decide))) (((HR.out.1.2.1.keep HB2.out.1).keep hbB).chg hc4 (hrow (by decide) (by decide))) (((HR.out.1.2.2.keep HB2.out.1).keep hbB).chg hc4 (hrow (by decide) (by decide)))
    (by
      show (w4.setCell ⟨g1, 8, none⟩ u).ownsRow B 3 1 u ((nd p).kids ++ [(i : Int)]).length (nums ((nd p).kids ++ [(i : Int)]))
      rw [hlen]
      refine (Chg.set (T := (· = g1)) rfl _ _ _).own hown fun g hg' e => ?_
      subst e
      rcases hat with h | h
      · exact hne (by rw [← h]; exact hg')
      · rw [h] at hg'
        have := hN3.lt
        injection hg' with hg'
        omega)
    (by
      rcases hat with h | h
      · left; rw [h, HZ.out.2.2.2.2.1]
      · exact .inr ⟨_, h, hbB.size⟩)
  have HU := Lib.hid hup
  generalize hw5 : w4.setCell ⟨g1, 8, none⟩ u = w5 at HU hN5
  have hip : i ≠ p := by omega
  obtain ⟨_, ⟨t1, t2, t3, hNi, v1, v2, v3⟩, _⟩ := HU.out.1.node i hi
  rw [setF_other _ _ hip, setF_other _ _ hip] at hNi
  rw [setF_other _ _ hip] at v1 v2 v3
  have z7 : w5.cell? ⟨g2, 7, none⟩ = some (.int .i64 (-1)) := by rw [HH.out.2.2.2.2.1, hNi.cell 7, ← HH.out.2.2.2.2.2.2]; rfl
  have f7 : w5.frozen? ⟨g2, 7, none⟩ = false := by rw [HH.out.2.2.2.2.1]; exact hNi.frozen 7
  have hset := HU.out.1.setc (j := 7) (b1 := t1) (b2 := t2) (b3 := t3) (a1 := t1) (a2 := t2) (a3 := t3) hi (Below.refl _ _) (.int .i64 (p : Nat)) { nd i with par := (p : Int) } (by rw [setF_other _ _ hip, setF_other _ _ hip]; exact hNi) (by rw [setF_other _ _ hip]; rfl) v1 v2 v3 (by rw [setF_other _ _ hip])
  have HS := Lib.hid (And.intro hset (And.intro (HZ.out.2.2.2.2.2) HB2.out.1))
  clear hset hNi v1 v2 v3 hup hN5 hc4 hrow hlen hown hg hat hN3 hN4 hne hbB ho3 hip
  rw [← hw5] at z7 f7 HS HU
  have HW := Lib.hid hw5
  subst hue
  clear hw5 hw3
  go_wp2_with fail
  go_ret
  obtain ⟨⟨h1, h2, h3⟩, h4, h5⟩ := HS.out
  rw [← HH.out.2.2.2.2.1] at h1 h2 h3
  refine ⟨rfl, ⟨_, h1⟩, ?_, ?_⟩
  · exact ((h4.mono HH.out.1.bnd).trans (h5.mono (Nat.le_trans HH.out.1.bnd h4.size))).trans (HU.out.2.1.trans h2)
  · exact (KpT.of_below h4).trans ((KpT.of_below h5).trans (HU.out.2.2.trans h3))

end Go.Proofs.YtaalhglooipnaaaGreat
