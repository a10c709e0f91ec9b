/-
  The walks over layer 6: note, Element, Text, AddClass, SetAttr, SetStyle, Insert of a Log.
  A view as it is shown: Normal of layer 7. Of it is known what the law asks: it is no greater, its names are among the view's, its lists are clean and rise.
  What lay does to a Dom's nodes, in plain words.
-/
import Derived.Test.YtaalhglooipnaaaGreatL29
import Derived.Deep.RegionHeld3
import Derived.Deep.RegionLaw
import Derived.Deep.AppendLies
import Derived.Test.YtaalhglooipnaaaGreatL14
import Derived.Test.YtaalhglooipnaaaGreatL05
namespace Go.Proofs.YtaalhglooipnaaaGreat
open Go.RowKit RT Go.Maps Go.WideMaps
attribute [local go_sem ↓] Go.wp_at_zero Go.wp_at_succ

theorem bs_op (v0 v1 v2 v3 v4 v5 : Value) (w : World) : (Instr.buildSlice 51 1 #[(0, .agg #[v0, v1, v2, v3, v4, v5])]).run Tryz.prog w = .ok (.slice (some ⟨w.heap.size, 0, none⟩) 1 1) (w.alloc (.cells #[v0, v1, v2, v3, v4, v5] 142)) := by go_simp
theorem op_info : (Tryz.prog.info? 142).map (fun i => (i.zero, i.size, i.bytes)) = some (some (.agg #[.int .i64 0, .int .i64 0, .int .i64 0, .int .i64 0, .string ⟨#[]⟩, .string ⟨#[]⟩]), 6, 64) := by kernel_rfl
/-- Variables of trees stay. -/
def KpX (w w' : World) : Prop := ∀ g cs, Blk w g 40 cs → Blk w' g 40 cs
theorem KpX.of {w w' : World} (h : KpT w w') : KpX w w' := fun g cs hb => h g _ cs (.inr (.inr rfl)) hb
theorem KpX.trans {a b c : World} (h : KpX a b) (h' : KpX b c) : KpX a c := fun g cs hb => h' g cs (h g cs hb)
theorem KpX.of_below {w w' : World} (h : Below w.heap.size w w') : KpX w w' := fun _ _ hb => hb.below h hb.lt
/-- What note's append and store leave. -/
theorem note_step {B : Nat} {w w1 w4 : World} {L D M n : Nat} {nd : Nat → ND} {gs : Nat → Nat} {kvs : Nat → Value} {no g cap c0 : Nat} {A0 : Option Addr} {xs news : List Value} {cs : Array Value} {t : TypeId} {o : Obj} (hd : DomI B w D M n nd gs kvs) (hBL : B ≤ L) (hL : Blk w1 L 53 #[.pointer (some ⟨D, 0, none⟩), .slice A0 no c0]) (ho1 : w1.ownsRow B 142 6 (.slice A0 no c0) no xs)
    (hbw : Below w.heap.size w w1) (hown : w4.ownsRow B 142 6 (.slice (some ⟨g, 0, none⟩) (no + 1) cap) (no + 1) (xs ++ news)) (hg : (w1.alloc o).grownBy w4 (Value.slice A0 no c0).ownBlock) (hat : (Value.slice A0 no c0).ownBlock = some g ∨ g = (w1.alloc o).heap.size) :
    w4.cell? ⟨L, 1, none⟩ = some (.slice A0 no c0) ∧ w4.frozen? ⟨L, 1, none⟩ = false ∧ (∀ b, b < w1.heap.size → b ≠ L → Blk w1 b t cs → (Value.slice A0 no c0).ownBlock ≠ some b → Blk w4 b t cs) ∧
      LogI B (w4.setCell ⟨L, 1, none⟩ (.slice (some ⟨g, 0, none⟩) (no + 1) cap)) L D M n nd gs kvs (no + 1) ∧ Below B w (w4.setCell ⟨L, 1, none⟩ (.slice (some ⟨g, 0, none⟩) (no + 1) cap)) ∧ KpX w (w4.setCell ⟨L, 1, none⟩ (.slice (some ⟨g, 0, none⟩) (no + 1) cap)) := by
  have hLz := hL.alloc o
  have ho := ho1.alloc o
  have hbz : Below w.heap.size w (w1.alloc o) := hbw.alloc hbw.size o
  have hBw : B ≤ (w1.alloc o).heap.size := Nat.le_trans hd.bnd hbz.size
  have hne : (Value.slice A0 no c0).ownBlock ≠ some L := own_blk_ne ho hLz (by decide)
  obtain ⟨q1, q2, hc, hN4, ho4, _, _⟩ := app_field (off := 1) hLz rfl ho hne rfl hown hg hat
  have hty : ∀ b, ((Value.slice A0 no c0).ownBlock = some b ∨ b = L) → ∃ t cs, Blk (w1.alloc o) b t cs ∧ (t = 53 ∨ t = 142) := by
    rintro b (hb | rfl)
    · rcases ho.2 with ⟨e, _⟩ | ⟨g', cap', cur, e, _, hh, _⟩
      · rw [e] at hb; cases hb
      · rw [e] at hb
        injection hb with hb
        subst hb
        exact ⟨_, cur, hh, .inr rfl⟩
    · exact ⟨_, _, hLz, .inl rfl⟩
  have hTB : ∀ b, ((Value.slice A0 no c0).ownBlock = some b ∨ b = L) → B ≤ b := by
    rintro b (hb | rfl)
    · exact (ho.lt b hb).1
    · exact hBL
  exact ⟨q1, q2, fun b hb hbL hB hr => (hB.alloc o).grown hg (fun e => hr e.symm), ⟨(hd.keep hbz).chg hc hty, hBL, _, _, hN4, ho4⟩, (hbz.mono hd.bnd).trans (hc.below hBw hTB), (KpX.of_below hbz).trans fun g cs hb => hc.blk hb fun ht => by
    obtain ⟨t', cs', hb', hh⟩ := hty g ht
    rcases hh with e | e <;> subst e <;> exact Blk.ne_ hb hb' (by decide) rfl⟩
set_option maxRecDepth 100000 in
set_option maxHeartbeats 4000000 in
theorem note_any {B : Nat} {w : World} {L D M n : Nat} {nd : Nat → ND} {gs : Nat → Nat} {kvs : Nat → Value} {no : Nat} (h : LogI B w L D M n nd gs kvs no) (hno : no ≤ 1000000000) (k a b c : Int) (s v : ByteArray) :
    Calls Tryz.prog 63 #[.pointer (some ⟨L, 0, none⟩), .int .i64 0, .agg #[.int .i64 k, .int .i64 a, .int .i64 b, .int .i64 c, .string s, .string v]] w fun e w' => e = .returned (.int .i64 0) ∧ LogI B w' L D M n nd gs kvs (no + 1) ∧ Below B w w' ∧ KpX w w' := by
  obtain ⟨w1, hw1, hO, hb1, hs1⟩ := one_new w #[.int .i64 k, .int .i64 a, .int .i64 b, .int .i64 c, .string s, .string v] 142
  obtain ⟨tr, hti, hz0, hz1, hz2⟩ := info_parts op_info
  obtain ⟨hd, hBL, ov, xs, hL, hown⟩ := h
  obtain ⟨A0, c0, rfl⟩ := own_form hown
  have hbd : Below w.heap.size w w1.drew := ⟨hb1.os, hb1.tape, hb1.output, hb1.size, hb1.block⟩
  have HL := Lib.hid (hL.below hbd hL.lt)
  have HO0 := Lib.hid hown
  have HH := Lib.hid (And.intro hd (And.intro hBL (And.intro (own_keep hown hbd) hbd)))
  have HO := Lib.hid hO
  have HW := Lib.hid hw1
  have d1 : w1.cell? ⟨L, 1, none⟩ = some (.slice A0 no c0) := HL.out.cell 1
  clear hd hBL hL hown hb1 hO hbd
  go_enter Tryz.func63, Tryz.ntmps63
  go_upto_region 2 with fail
  rw [← hw1]
  obtain ⟨G, hG⟩ : ∃ g, g = w.heap.size := ⟨_, rfl⟩
  rw [← hG] at HO hs1 ⊢
  have hG1 : G < w1.heap.size := by omega
  have hL1 : L < w1.heap.size := HL.out.lt
  have HG := Lib.hid (And.intro hG (And.intro hs1 (show L ≠ G from fun e => by
    have h1 := HH.out.1.dom
    have := (HL.out.ne_ (w := w1.drew) (g' := G) (t' := 142) (cs' := #[.int .i64 k, .int .i64 a, .int .i64 b, .int .i64 c, .string s, .string v]) HO.out (by decide))
    exact this e)))
  have HG2 := Lib.hid (show (Value.slice A0 no c0).ownBlock ≠ some G from fun e => by have h1 := HG.out.1; have h2 := (HO0.out.lt G e).2; omega)
  have g0 : w1.cell? ⟨G, 0, none⟩ = some (.int .i64 k) := HO.out.cell 0
  have g1 : w1.cell? ⟨G, 1, none⟩ = some (.int .i64 a) := HO.out.cell 1
  have g2 : w1.cell? ⟨G, 2, none⟩ = some (.int .i64 b) := HO.out.cell 2
  have g3 : w1.cell? ⟨G, 3, none⟩ = some (.int .i64 c) := HO.out.cell 3
  have g4 : w1.cell? ⟨G, 4, none⟩ = some (.string s) := HO.out.cell 4
  have g5 : w1.cell? ⟨G, 5, none⟩ = some (.string v) := HO.out.cell 5
  have n1 := World.new_ne w1 ⟨L, 1, none⟩ d1
  have n2 := World.new_ne w1 ⟨G, 0, none⟩ g0
  have n3 := World.new_ne w1 ⟨G, 1, none⟩ g1
  have n4 := World.new_ne w1 ⟨G, 2, none⟩ g2
  have n5 := World.new_ne w1 ⟨G, 3, none⟩ g3
  have n6 := World.new_ne w1 ⟨G, 4, none⟩ g4
  have n7 := World.new_ne w1 ⟨G, 5, none⟩ g5
  clear hw1 hG hs1
  have hLG := HG.out.2.2
  have hGL := Ne.symm HG.out.2.2
  go_region_law
    ((refine step_append_lies _ (by rfl) _ _ _ (by rfl) B 142 tr _ 6 64 Tryz.underlying51 hti hz0 hz1 hz2 (by rfl) (by decide) _ no xs (by rfl) (by exact HH.out.2.2.1.alloc _) _ 1 1 [.int .i64 k, .int .i64 a, .int .i64 b, .int .i64 c, .string s, .string v] (by rfl) (by rfl) (by exact World.news_of_block (heap_alloc_new _ _)) (by intro u hu; simp at hu; rcases hu with rfl | rfl | rfl | rfl | rfl | rfl <;> rfl) (by omega) (by unfold maxLen; omega) (by omega) (by exact Nat.le_trans (Nat.le_trans HH.out.1.bnd HH.out.2.2.2.size) (by simp)) _ rfl ?_; intro g cap w4 hown hg hat hlt4; have HS := Lib.hid (note_step (t := 142) (cs := #[.int .i64 k, .int .i64 a, .int .i64 b, .int .i64 c, .string s, .string v]) HH.out.1 HH.out.2.1 HL.out HH.out.2.2.1 HH.out.2.2.2 hown hg hat); have s0 := HS.out.1; have s1 := HS.out.2.1; have hgg := HS.out.2.2.1 G (by simpa using hG1) (Ne.symm HG.out.2.2) HO.out HG2.out; have z0 := hgg.cell 0; have z1 := hgg.cell 1; have z2 := hgg.cell 2; have z3 := hgg.cell 3; have z4 := hgg.cell 4; have z5 := hgg.cell 5; clear hown hg hat hlt4 hgg))
  all_goals (
    go_wp2_with fail
    go_ret
    exact ⟨rfl, HS.out.2.2.2.1, HS.out.2.2.2.2⟩)


/-- What an operation of a Log leaves. -/
def LPost (B : Nat) (w : World) (L D M n' : Nat) (nd' : Nat → ND) (gs' : Nat → Nat) (no' : Nat) (v : Value) (e : Ending) (w' : World) : Prop :=
  e = .returned v ∧ (∃ kvs', LogI B w' L D M n' nd' gs' kvs' no') ∧ Below B w w' ∧ KpX w w'

set_option maxRecDepth 100000 in
set_option maxHeartbeats 4000000 in
theorem elementL_any {B : Nat} {w : World} {L D M n : Nat} {nd : Nat → ND} {gs : Nat → Nat} {kvs : Nat → Value} {no : Nat} (h : LogI B w L D M n nd gs kvs no) (hn : n ≤ 50) (hno : no ≤ 1000000000) (tag : ByteArray) (hs : NameOk tag) :
    Calls Tryz.prog 31 #[.pointer (some ⟨L, 0, none⟩), .string tag] w fun e w' => ∃ G, LPost B w L D M (n + 1) (setF nd n ⟨2, tag, eb, [], [], [], -1, []⟩) (setF gs n G) (no + 1) (.tuple #[.int .i64 (n : Nat), .int .i64 0]) e w' := by
  obtain ⟨_, _, ov, xs, hL, _⟩ := id h
  have y0 : w.cell? ⟨L, 0, none⟩ = some (.pointer (some ⟨D, 0, none⟩)) := hL.cell 0
  have HH := Lib.hid h
  clear hL h
  go_enter Tryz.func31, Tryz.ntmps31
  go_wp2_with fail
  refine (elementD_any HH.out.1 hn tag hs).mono ?_
  rintro e w2 ⟨G, rfl, ⟨kvs2, hd2⟩, hb2, hk2⟩
  have HD2 := Lib.hid (HH.out.dom hd2 hk2)
  have HB2 := Lib.hid (And.intro hb2 (KpX.of hk2))
  clear hd2 hb2 hk2
  go_wp2_with (first | (go_at_call 63; refine (note_any HD2.out hno _ _ _ _ _ _).mono ?_; rintro e w3 ⟨rfl, hl3, hb3, hx3⟩; have HF := Lib.hid (And.intro hl3 (And.intro (HB2.out.1.trans hb3) (HB2.out.2.trans hx3))); clear hl3 hb3 hx3))
  go_ret2
  exact ⟨G, rfl, ⟨_, HF.out.1⟩, HF.out.2⟩

set_option maxRecDepth 100000 in
set_option maxHeartbeats 4000000 in
theorem textL_any {B : Nat} {w : World} {L D M n : Nat} {nd : Nat → ND} {gs : Nat → Nat} {kvs : Nat → Value} {no : Nat} (h : LogI B w L D M n nd gs kvs no) (hn : n ≤ 50) (hno : no ≤ 1000000000) (text : ByteArray) :
    Calls Tryz.prog 30 #[.pointer (some ⟨L, 0, none⟩), .string text] w fun e w' => ∃ G, LPost B w L D M (n + 1) (setF nd n ⟨1, eb, text, [], [], [], -1, []⟩) (setF gs n G) (no + 1) (.tuple #[.int .i64 (n : Nat), .int .i64 0]) e w' := by
  obtain ⟨_, _, ov, xs, hL, _⟩ := id h
  have y0 : w.cell? ⟨L, 0, none⟩ = some (.pointer (some ⟨D, 0, none⟩)) := hL.cell 0
  have HH := Lib.hid h
  clear hL h
  go_enter Tryz.func30, Tryz.ntmps30
  go_wp2_with fail
  refine (textD_any HH.out.1 hn text).mono ?_
  rintro e w2 ⟨G, rfl, ⟨kvs2, hd2⟩, hb2, hk2⟩
  have HD2 := Lib.hid (HH.out.dom hd2 hk2)
  have HB2 := Lib.hid (And.intro hb2 (KpX.of hk2))
  clear hd2 hb2 hk2
  go_wp2_with (first | (go_at_call 63; refine (note_any HD2.out hno _ _ _ _ _ _).mono ?_; rintro e w3 ⟨rfl, hl3, hb3, hx3⟩; have HF := Lib.hid (And.intro hl3 (And.intro (HB2.out.1.trans hb3) (HB2.out.2.trans hx3))); clear hl3 hb3 hx3))
  go_ret2
  exact ⟨G, rfl, ⟨_, HF.out.1⟩, HF.out.2⟩

set_option maxRecDepth 100000 in
set_option maxHeartbeats 4000000 in
theorem addClassL_any {B : Nat} {w : World} {L D M n : Nat} {nd : Nat → ND} {gs : Nat → Nat} {kvs : Nat → Value} {no : Nat} (h : LogI B w L D M n nd gs kvs no) (hn : n ≤ 50) (hno : no ≤ 1000000000) (i : Nat) (h0 : 0 < i) (hi : i < n) (hk : (nd i).kind = 2) (s : ByteArray) (hs : NameOk s) (hc : s ∉ (nd i).cl) (hl : (nd i).cl.length ≤ 200) :
    Calls Tryz.prog 32 #[.pointer (some ⟨L, 0, none⟩), .int .i64 (i : Nat), .string s] w (LPost B w L D M n (setF nd i { nd i with cl := (nd i).cl ++ [s] }) gs (no + 1) (.int .i64 0)) := by
  obtain ⟨_, _, ov, xs, hL, _⟩ := id h
  have y0 : w.cell? ⟨L, 0, none⟩ = some (.pointer (some ⟨D, 0, none⟩)) := hL.cell 0
  have HH := Lib.hid (And.intro h (And.intro hk (And.intro hs hc)))
  clear hL h hk hs hc
  go_enter Tryz.func32, Tryz.ntmps32
  go_wp2_with fail
  refine (addClassD_any (HH.out.1).1 hn i h0 hi HH.out.2.1 s HH.out.2.2.1 HH.out.2.2.2 hl).mono ?_
  rintro e w2 ⟨rfl, ⟨kvs2, hd2⟩, hb2, hk2⟩
  have HD2 := Lib.hid (HH.out.1.dom hd2 hk2)
  have HB2 := Lib.hid (And.intro hb2 (KpX.of hk2))
  clear hd2 hb2 hk2
  go_wp2_with (first | (go_at_call 63; refine (note_any HD2.out hno _ _ _ _ _ _).mono ?_; rintro e w3 ⟨rfl, hl3, hb3, hx3⟩; have HF := Lib.hid (And.intro hl3 (And.intro (HB2.out.1.trans hb3) (HB2.out.2.trans hx3))); clear hl3 hb3 hx3))
  go_ret
  exact ⟨rfl, ⟨_, HF.out.1⟩, HF.out.2⟩

set_option maxRecDepth 100000 in
set_option maxHeartbeats 4000000 in
theorem setAttrL_any {B : Nat} {w : World} {L D M n : Nat} {nd : Nat → ND} {gs : Nat → Nat} {kvs : Nat → Value} {no : Nat} (h : LogI B w L D M n nd gs kvs no) (hn : n ≤ 50) (hno : no ≤ 1000000000) (i : Nat) (h0 : 0 < i) (hi : i < n) (hk : (nd i).kind = 2) (s x : ByteArray) (hs : NameOk s) (hl : (nd i).at_.length ≤ 200) :
    Calls Tryz.prog 33 #[.pointer (some ⟨L, 0, none⟩), .int .i64 (i : Nat), .string s, .string x] w (LPost B w L D M n (setF nd i { nd i with at_ := St.putS (St.ofS (nd i).at_) (s, x) }) gs (no + 1) (.int .i64 0)) := by
  obtain ⟨_, _, ov, xs, hL, _⟩ := id h
  have y0 : w.cell? ⟨L, 0, none⟩ = some (.pointer (some ⟨D, 0, none⟩)) := hL.cell 0
  have HH := Lib.hid (And.intro h (And.intro hk hs))
  clear hL h hk hs
  go_enter Tryz.func33, Tryz.ntmps33
  go_wp2_with fail
  refine (setAttrD_any (HH.out.1).1 hn i h0 hi HH.out.2.1 s x HH.out.2.2 hl).mono ?_
  rintro e w2 ⟨rfl, ⟨kvs2, hd2⟩, hb2, hk2⟩
  have HD2 := Lib.hid (HH.out.1.dom hd2 hk2)
  have HB2 := Lib.hid (And.intro hb2 (KpX.of hk2))
  clear hd2 hb2 hk2
  go_wp2_with (first | (go_at_call 63; refine (note_any HD2.out hno _ _ _ _ _ _).mono ?_; rintro e w3 ⟨rfl, hl3, hb3, hx3⟩; have HF := Lib.hid (And.intro hl3 (And.intro (HB2.out.1.trans hb3) (HB2.out.2.trans hx3))); clear hl3 hb3 hx3))
  go_ret
  exact ⟨rfl, ⟨_, HF.out.1⟩, HF.out.2⟩

set_option maxRecDepth 100000 in
set_option maxHeartbeats 4000000 in
theorem setStyleL_any {B : Nat} {w : World} {L D M n : Nat} {nd : Nat → ND} {gs : Nat → Nat} {kvs : Nat → Value} {no : Nat} (h : LogI B w L D M n nd gs kvs no) (hn : n ≤ 50) (hno : no ≤ 1000000000) (i : Nat) (h0 : 0 < i) (hi : i < n) (hk : (nd i).kind = 2) (s : ByteArray) (x : Int) (hx : -2147483648 ≤ x ∧ x ≤ 2147483647) (hs : NameOk s) (hl : (nd i).st.length ≤ 200) :
    Calls Tryz.prog 34 #[.pointer (some ⟨L, 0, none⟩), .int .i64 (i : Nat), .string s, .int .i64 x] w (LPost B w L D M n (setF nd i { nd i with st := putS (ofS (nd i).st) (s, x) }) gs (no + 1) (.int .i64 0)) := by
  obtain ⟨_, _, ov, xs, hL, _⟩ := id h
  have y0 : w.cell? ⟨L, 0, none⟩ = some (.pointer (some ⟨D, 0, none⟩)) := hL.cell 0
  have HH := Lib.hid (And.intro h (And.intro hk (And.intro hx hs)))
  clear hL h hk hx hs
  go_enter Tryz.func34, Tryz.ntmps34
  go_wp2_with fail
  refine (setStyleD_any (HH.out.1).1 hn i h0 hi HH.out.2.1 s x HH.out.2.2.1 HH.out.2.2.2 hl).mono ?_
  rintro e w2 ⟨rfl, ⟨kvs2, hd2⟩, hb2, hk2⟩
  have HD2 := Lib.hid (HH.out.1.dom hd2 hk2)
  have HB2 := Lib.hid (And.intro hb2 (KpX.of hk2))
  clear hd2 hb2 hk2
  go_wp2_with (first | (go_at_call 63; refine (note_any HD2.out hno _ _ _ _ _ _).mono ?_; rintro e w3 ⟨rfl, hl3, hb3, hx3⟩; have HF := Lib.hid (And.intro hl3 (And.intro (HB2.out.1.trans hb3) (HB2.out.2.trans hx3))); clear hl3 hb3 hx3))
  go_ret
  exact ⟨rfl, ⟨_, HF.out.1⟩, HF.out.2⟩

set_option maxRecDepth 100000 in
set_option maxHeartbeats 4000000 in
theorem insertL_any {B : Nat} {w : World} {L D M n : Nat} {nd : Nat → ND} {gs : Nat → Nat} {kvs : Nat → Value} {no : Nat} (h : LogI B w L D M n nd gs kvs no) (hn : n ≤ 50) (hno : no ≤ 1000000000) (hu : Ups n nd) (p i : Nat) (hp : p < i) (hi : i < n) (hk : (nd p).kind = 2) (hpar : (nd i).par = -1) (hl : (nd p).kids.length ≤ 200) :
    Calls Tryz.prog 35 #[.pointer (some ⟨L, 0, none⟩), .int .i64 (p : Nat), .int .i64 ((nd p).kids.length : Nat), .int .i64 (i : Nat)] w (LPost B w L D M n (setF (setF nd p { nd p with kids := (nd p).kids ++ [(i : Int)] }) i { nd i with par := p }) gs (no + 1) (.int .i64 0)) := by
  obtain ⟨_, _, ov, xs, hL, _⟩ := id h
  have y0 : w.cell? ⟨L, 0, none⟩ = some (.pointer (some ⟨D, 0, none⟩)) := hL.cell 0
  have HH := Lib.hid (And.intro h (And.intro hu (And.intro hk hpar)))
  clear hL h hu hk hpar
  go_enter Tryz.func35, Tryz.ntmps35
  go_wp2_with fail
  refine (insertD_any HH.out.1.1 hn HH.out.2.1 p i hp hi HH.out.2.2.1 HH.out.2.2.2 hl).mono ?_
  rintro e w2 ⟨rfl, ⟨kvs2, hd2⟩, hb2, hk2⟩
  have HD2 := Lib.hid (HH.out.1.dom hd2 hk2)
  have HB2 := Lib.hid (And.intro hb2 (KpX.of hk2))
  clear hd2 hb2 hk2
  go_wp2_with (first | (go_at_call 63; refine (note_any HD2.out hno _ _ _ _ _ _).mono ?_; rintro e w3 ⟨rfl, hl3, hb3, hx3⟩; have HF := Lib.hid (And.intro hl3 (And.intro (HB2.out.1.trans hb3) (HB2.out.2.trans hx3))); clear hl3 hb3 hx3))
  go_ret
  exact ⟨rfl, ⟨_, HF.out.1⟩, HF.out.2⟩

end Go.Proofs.YtaalhglooipnaaaGreat
namespace Go.Proofs.YtaalhglooipnaaaGreat
open Go.RowKit RT
attribute [local go_sem ↓] Go.wp_at_zero Go.wp_at_succ

/-! ### What is asked of data -/
/-- Names as they may be. -/
def okV (d : VD) : Prop := d.kind ≠ 1 → NameOk d.tag ∧ (∀ c ∈ d.cl, NameOk c) ∧ (∀ p ∈ d.at_, NameOk p.1) ∧ (∀ p ∈ d.st, NameOk p.1 ∧ -2147483648 ≤ p.2 ∧ p.2 ≤ 2147483647)
/-- Lists as they are shown. -/
def nrm (d : VD) : Prop := d.cl.Nodup ∧ St.Rise d.at_ ∧ Rise d.st
mutual
/-- How many bytes all texts have. -/
def tx : VT → Nat
  | .mk d ks => d.text.size + txs ks
def txs : List VT → Nat
  | [] => 0
  | t :: ts => tx t + txs ts
end
theorem tx_eq (t : VT) : tx t = t.dat.text.size + txs t.kids := by cases t; rw [tx]; rfl
theorem txs_app : ∀ ts us : List VT, txs (ts ++ us) = txs ts + txs us
  | [], us => by rw [txs, Nat.zero_add]; rfl
  | a :: ts, us => by rw [List.cons_append, txs, txs, txs_app ts us, Nat.add_assoc]
theorem txs_mem : ∀ (ts : List VT) (t : VT), t ∈ ts → tx t ≤ txs ts
  | [], t, h => by cases h
  | a :: ts, t, h => by
    rw [txs]
    rcases List.mem_cons.1 h with rfl | h
    · omega
    · have := txs_mem ts t h; omega
theorem txs_take (ts : List VT) (k : Nat) : txs (ts.take k) ≤ txs ts := by
  have := txs_app (ts.take k) (ts.drop k)
  rw [List.take_append_drop] at this
  omega
theorem txs_one (t : VT) : txs [t] = tx t := by rw [txs, txs, Nat.add_zero]
theorem sizes_one {α : Type} (t : RT α) : sizes [t] = t.size := by rw [sizes, sizes, Nat.add_zero]
/-- How what is shown hangs together with the view. -/
structure NRel (t t' : VT) : Prop where
  size : t'.size ≤ t.size
  text : tx t' ≤ tx t
  few : All vb t'
  norm : All nrm t'
  ok : All okV t → All okV t'
/-- Likewise, of lists. -/
structure NRels (ts ts' : List VT) : Prop where
  size : sizes ts' ≤ sizes ts
  text : txs ts' ≤ txs ts
  few : Alls vb ts'
  norm : Alls nrm ts'
  ok : Alls okV ts → Alls okV ts'
theorem NRels.nil (ts : List VT) : NRels ts [] := ⟨by rw [sizes]; omega, by rw [txs]; omega, by rw [Alls]; trivial, by rw [Alls]; trivial, fun _ => by rw [Alls]; trivial⟩
theorem Alls.app {p : VD → Prop} {ts us : List VT} : Alls p (ts ++ us) ↔ Alls p ts ∧ Alls p us := by
  induction ts with
  | nil => simp [Alls]
  | cons a ts ih => rw [List.cons_append, Alls, Alls, ih, and_assoc]
theorem Alls.one {p : VD → Prop} {t : VT} : Alls p [t] ↔ All p t := by rw [Alls, Alls]; simp
theorem NRels.drop {ts ts' : List VT} {t : VT} (h : NRels ts ts') : NRels (ts ++ [t]) ts' :=
  ⟨by rw [sizes_app]; have := h.size; omega, by rw [txs_app]; have := h.text; omega, h.few, h.norm, fun ho => h.ok (Alls.app.1 ho).1⟩
theorem NRels.put {ts ts' : List VT} {t t' : VT} (h : NRels ts ts') (ht : NRel t t') : NRels (ts ++ [t]) (ts' ++ [t']) :=
  ⟨by rw [sizes_app, sizes_app, sizes_one, sizes_one]; have := h.size; have := ht.size; omega, by rw [txs_app, txs_app, txs_one, txs_one]; have := h.text; have := ht.text; omega,
    Alls.app.2 ⟨h.few, Alls.one.2 ht.few⟩, Alls.app.2 ⟨h.norm, Alls.one.2 ht.norm⟩, fun ho => Alls.app.2 ⟨h.ok (Alls.app.1 ho).1, Alls.one.2 (ht.ok (Alls.one.1 (Alls.app.1 ho).2))⟩⟩
/-- A text more. -/
def addText (e : VD) (s : ByteArray) : VD := { e with text := e.text ++ s }
theorem NRels.join {ts ts' : List VT} {t t' : VT} {e : VD} {ks : List VT} (h : NRels ts (ts' ++ [.mk e ks])) (he : e.kind = 1) (ht : NRel t t') : NRels (ts ++ [t]) (ts' ++ [.mk (addText e t'.dat.text) ks]) := by
  have h1 := Alls.app.1 h.few
  have h2 := Alls.app.1 h.norm
  have e1 := All.eq.1 (Alls.one.1 h1.2)
  have e2 := All.eq.1 (Alls.one.1 h2.2)
  refine ⟨?_, ?_, Alls.app.2 ⟨h1.1, Alls.one.2 (All.eq.2 ⟨e1.1, e1.2⟩)⟩, Alls.app.2 ⟨h2.1, Alls.one.2 (All.eq.2 ⟨e2.1, e2.2⟩)⟩, fun ho => ?_⟩
  · have h3 := h.size
    rw [sizes_app, sizes_one, RT.size_eq] at h3 ⊢
    rw [sizes_app]
    exact Nat.le_trans h3 (Nat.le_add_right _ _)
  · have h3 := h.text
    have h4 := ht.text
    rw [txs_app, txs_one, tx_eq] at h3 ⊢
    rw [txs_app, txs_one]
    rw [tx_eq] at h4
    have : (addText e t'.dat.text).text.size = e.text.size + t'.dat.text.size := by simp [addText]
    show txs ts' + ((addText e t'.dat.text).text.size + txs ks) ≤ _
    have h3' : txs ts' + (e.text.size + txs ks) ≤ txs ts := h3
    omega
  · have h3 := Alls.app.1 (h.ok (Alls.app.1 ho).1)
    have e3 := All.eq.1 (Alls.one.1 h3.2)
    exact Alls.app.2 ⟨h3.1, Alls.one.2 (All.eq.2 ⟨fun hne => absurd he hne, e3.2⟩)⟩

theorem getD_in {α : Type} {l : List α} {d : α} {k : Nat} (h : k < l.length) : l.getD k d ∈ l := by
  have e : l.getD k d = l[k] := by simp [List.getD, h]
  rw [e]; exact List.getElem_mem h
theorem ofTo_mem (l : List Pr) : ∀ k, k ≤ l.length → ∀ q ∈ ofTo l k, q ∈ l
  | 0, _, q, h => by cases h
  | k + 1, hk, q, h => by
    rw [ofTo] at h
    rcases putS_names _ _ _ h with h | rfl
    · exact ofTo_mem l k (by omega) q h
    · exact getD_in hk
theorem ofS_mem (l : List Pr) : ∀ q ∈ ofS l, q ∈ l := ofTo_mem l _ (Nat.le_refl _)
theorem sofTo_mem (l : List St.Pr) : ∀ k, k ≤ l.length → ∀ q ∈ St.ofTo l k, q ∈ l
  | 0, _, q, h => by cases h
  | k + 1, hk, q, h => by
    rw [St.ofTo] at h
    rcases St.putS_names _ _ _ h with h | rfl
    · exact sofTo_mem l k (by omega) q h
    · exact getD_in hk
theorem sofS_mem (l : List St.Pr) : ∀ q ∈ St.ofS l, q ∈ l := sofTo_mem l _ (Nat.le_refl _)
theorem addS_mem (l : List ByteArray) (s : ByteArray) : ∀ q ∈ addS l s, q ∈ l ∨ q = s := by
  intro q h
  unfold addS at h
  split at h
  · exact .inl h
  · rcases List.mem_append.1 h with h | h
    · exact .inl h
    · exact .inr (List.mem_singleton.1 h)
theorem cleanTo_mem (l : List ByteArray) : ∀ k, k ≤ l.length → ∀ q ∈ cleanTo l k, q ∈ l
  | 0, _, q, h => by cases h
  | k + 1, hk, q, h => by
    rw [cleanTo] at h
    rcases addS_mem _ _ _ h with h | rfl
    · exact cleanTo_mem l k (by omega) q h
    · exact getD_in hk
theorem cleanS_mem (l : List ByteArray) : ∀ q ∈ cleanS l, q ∈ l := cleanTo_mem l _ (Nat.le_refl _)

/-- A node's own data, as they are shown. -/
noncomputable def nD (d : VD) : VD := { d with cl := cleanS d.cl, at_ := St.ofS d.at_, st := ofS d.st }
theorem nD_ok {d : VD} (h : okV d) : okV (nD d) := fun hk => by
  obtain ⟨h1, h2, h3, h4⟩ := h hk
  exact ⟨h1, fun c hc => h2 c (cleanS_mem _ _ hc), fun p hp => h3 p (sofS_mem _ _ hp), fun p hp => h4 p (ofS_mem _ _ hp)⟩
theorem nD_nrm (d : VD) : nrm (nD d) := ⟨cleanS_nodup _, St.ofS_rise _, ofS_rise _⟩
theorem nD_vb {d : VD} (h : vb d) : vb (nD d) := ⟨Nat.le_trans (cleanS_len _) h.1, Nat.le_trans (St.ofS_len _) h.2.1, Nat.le_trans (ofS_len _) h.2.2⟩
theorem NRel.of {d : VD} {ks ks' : List VT} (hv : vb d) (h : NRels ks ks') : NRel (.mk d ks) (.mk (nD d) ks') := by
  refine ⟨?_, ?_, All.eq.2 ⟨nD_vb hv, h.few⟩, All.eq.2 ⟨nD_nrm d, h.norm⟩, fun ho => ?_⟩
  · rw [RT.size_eq, RT.size_eq]; have := h.size; show 1 + sizes ks' ≤ 1 + sizes ks; omega
  · rw [tx_eq, tx_eq]; have := h.text; show (nD d).text.size + txs ks' ≤ d.text.size + txs ks; show d.text.size + txs ks' ≤ _; omega
  · have := All.eq.1 ho
    exact All.eq.2 ⟨nD_ok this.1, h.ok this.2⟩

/-! ### The three calls -/
theorem clean_row (A : Option Addr) (n c : Nat) (l : List ByteArray) (S : Nat → Prop) (w : World) (hS : ∀ b, S b → b < w.heap.size) (hr : RdS cvS ByteArray.empty 1 w S A n l) (hn : n ≤ 100) :
    Calls Tryz.prog 56 #[.slice A n c] w (Hands (RowS w.heap.size (cleanS l)) w) := by
  refine (clean_any A n c l w (hr.rd hS) hn).mono ?_
  rintro e w' ⟨A', c', rfl, h, hb⟩
  exact ⟨_, rfl, Row.of_own (fun _ _ => rfl) h rfl (Nat.le_refl _), hb⟩
theorem ofA_row (A : Option Addr) (n c : Nat) (l : List St.Pr) (S : Nat → Prop) (w : World) (hS : ∀ b, S b → b < w.heap.size) (hr : RdS St.cvP St.pr0 2 w S A n l) (hn : n ≤ 100) :
    Calls Tryz.prog 57 #[.slice A n c] w (Hands (RowA 90 w.heap.size (St.ofS l)) w) := by
  refine (St.of_any A n c l w (hr.rd hS) (by omega)).mono ?_
  rintro e w' ⟨A', c', rfl, h, hb⟩
  exact ⟨_, rfl, Row.of_own (fun _ _ => rfl) h rfl (Nat.le_refl _), hb⟩
theorem ofP_row (A : Option Addr) (n c : Nat) (l : List Pr) (S : Nat → Prop) (w : World) (hS : ∀ b, S b → b < w.heap.size) (hr : RdS cvP pr0 2 w S A n l) (hn : n ≤ 100) :
    Calls Tryz.prog 58 #[.slice A n c] w (Hands (RowP 105 w.heap.size (ofS l)) w) := by
  refine (of_any A n c l w (hr.rd hS) (by omega)).mono ?_
  rintro e w' ⟨A', c', rfl, h, hb⟩
  exact ⟨_, rfl, Row.of_own (fun _ _ => rfl) h rfl (Nat.le_refl _), hb⟩

end Go.Proofs.YtaalhglooipnaaaGreat
namespace Go.Proofs.YtaalhglooipnaaaGreat
open Go.RowKit RT

/-- A node as lay wants it. -/
def gd (d : SD) : Prop :=
  (d.kind = 1 ∧ d.cl = [] ∧ d.at_ = [] ∧ d.st = [] ∧ d.tag = eb) ∨
  (d.kind = 2 ∧ d.text = eb ∧ NameOk d.tag ∧ d.cl.Nodup ∧ (∀ c ∈ d.cl, NameOk c) ∧ St.Rise d.at_ ∧ (∀ p ∈ d.at_, NameOk p.1) ∧ Rise d.st ∧ ∀ p ∈ d.st, NameOk p.1 ∧ -2147483648 ≤ p.2 ∧ p.2 ≤ 2147483647)
def sb (d : SD) : Prop := d.cl.length ≤ 100 ∧ d.at_.length ≤ 100 ∧ d.st.length ≤ 100 ∧ d.text.size ≤ 1000000
mutual
def GoodT : STr → Prop
  | .mk d ks => gd d ∧ sb d ∧ (d.kind = 1 → ks = []) ∧ GoodTs ks
def GoodTs : List STr → Prop
  | [] => True
  | t :: ts => GoodT t ∧ GoodTs ts
end
theorem GoodTs.at_ : ∀ {ts : List STr}, GoodTs ts → ∀ k (h : k < ts.length), GoodT ts[k]
  | t :: ts, h, 0, _ => by rw [GoodTs] at h; exact h.1
  | t :: ts, h, k + 1, hk => by rw [GoodTs] at h; exact h.2.at_ k (by simpa using hk)
theorem gd_kind {d : SD} (h : gd d) : d.kind = 1 ∨ d.kind = 2 := h.imp (·.1) (·.1)

mutual
def layN : STr → Nat → Nat → (Nat → ND) → (Nat → ND)
  | .mk d ks, p, n, nd => layNs ks n (n + 1) (setF (setF nd p { nd p with kids := (nd p).kids ++ [(n : Int)] }) n ⟨d.kind, d.tag, d.text, d.cl, d.at_, d.st, p, []⟩)
def layNs : List STr → Nat → Nat → (Nat → ND) → (Nat → ND)
  | [], _, _, nd => nd
  | t :: ts, p, n, nd => layNs ts p (n + t.size) (layN t p n nd)
end
def idsL : Nat → List STr → List Int
  | _, [] => []
  | n, t :: ts => (n : Int) :: idsL (n + t.size) ts
theorem idsL_len : ∀ (ts : List STr) (n : Nat), (idsL n ts).length = ts.length
  | [], _ => rfl
  | t :: ts, n => by rw [idsL, List.length_cons, idsL_len ts, List.length_cons]
theorem layNs_snoc (t : STr) : ∀ (ts : List STr) (p n : Nat) (nd : Nat → ND), layNs (ts ++ [t]) p n nd = layN t p (n + sizes ts) (layNs ts p n nd)
  | [], p, n, nd => by rw [List.nil_append, layNs, layNs, layNs, sizes, Nat.add_zero]
  | a :: ts, p, n, nd => by rw [List.cons_append, layNs, layNs_snoc t ts, layNs, sizes, Nat.add_assoc]
theorem idsL_snoc (t : STr) : ∀ (ts : List STr) (n : Nat), idsL n (ts ++ [t]) = idsL n ts ++ [((n + sizes ts : Nat) : Int)]
  | [], n => by rw [List.nil_append, idsL, idsL, idsL, sizes, Nat.add_zero]; rfl
  | a :: ts, n => by rw [List.cons_append, idsL, idsL_snoc t ts, idsL, sizes, Nat.add_assoc]; rfl
theorem setF_set {α β : Type} [DecidableEq α] (f : α → β) (x : α) (a b : β) : setF (setF f x a) x b = setF f x b := by
  funext y
  by_cases e : y = x
  · rw [e, setF_same, setF_same]
  · rw [setF_other _ _ e, setF_other _ _ e, setF_other _ _ e]
theorem setF_mid {α β : Type} [DecidableEq α] (f : α → β) {x y : α} (h : y ≠ x) (a b c : β) : setF (setF (setF f x a) y b) x c = setF (setF f y b) x c := by
  funext z
  by_cases e : z = x
  · rw [e, setF_same, setF_same]
  · rw [setF_other _ _ e, setF_other _ _ e]
    by_cases e2 : z = y
    · rw [e2, setF_same, setF_same]
    · rw [setF_other _ _ e2, setF_other _ _ e2, setF_other _ _ e]

mutual
theorem layN_old : ∀ (t : STr) (p n : Nat) (nd : Nat → ND) (j : Nat), j < n → j ≠ p → layN t p n nd j = nd j
  | .mk d ks, p, n, nd, j, hj, hp => by
    rw [layN, layNs_old ks n (n + 1) _ j (by omega) (by omega), setF_other _ _ (by omega), setF_other _ _ hp]
theorem layNs_old : ∀ (ts : List STr) (p n : Nat) (nd : Nat → ND) (j : Nat), j < n → j ≠ p → layNs ts p n nd j = nd j
  | [], p, n, nd, j, _, _ => by rw [layNs]
  | t :: ts, p, n, nd, j, hj, hp => by
    rw [layNs, layNs_old ts p _ _ j (by omega) hp, layN_old t p n nd j hj hp]
end
theorem layN_par (t : STr) (p n : Nat) (nd : Nat → ND) (hp : p < n) : layN t p n nd p = { nd p with kids := (nd p).kids ++ [(n : Int)] } := by
  cases t with
  | mk d ks => rw [layN, layNs_old ks n (n + 1) _ p (by omega) (by omega), setF_other _ _ (by omega), setF_same]
theorem layNs_par : ∀ (ts : List STr) (p n : Nat) (nd : Nat → ND), p < n → layNs ts p n nd p = { nd p with kids := (nd p).kids ++ idsL n ts }
  | [], p, n, nd, _ => by rw [layNs, idsL, List.append_nil]
  | t :: ts, p, n, nd, hp => by rw [layNs, layNs_par ts p _ _ (by omega), layN_par t p n nd hp, idsL]; simp
mutual
theorem layN_ups : ∀ (t : STr) (p n : Nat) (nd : Nat → ND), p < n → Ups n nd → Ups (n + t.size) (layN t p n nd)
  | .mk d ks, p, n, nd, hp, hu => by
    rw [layN, size, ← Nat.add_assoc]
    refine layNs_ups ks n (n + 1) _ (by omega) fun j hj => ?_
    by_cases e : j = n
    · subst e; rw [setF_same]; exact ⟨by show -1 ≤ (p : Int); omega, by show (p : Int) < _; omega⟩
    · rw [setF_other _ _ e]
      by_cases e2 : j = p
      · subst e2; rw [setF_same]; exact hu j (by omega)
      · rw [setF_other _ _ e2]; exact hu j (by omega)
theorem layNs_ups : ∀ (ts : List STr) (p n : Nat) (nd : Nat → ND), p < n → Ups n nd → Ups (n + sizes ts) (layNs ts p n nd)
  | [], p, n, nd, _, hu => by rw [layNs, sizes]; exact hu
  | t :: ts, p, n, nd, hp, hu => by
    rw [layNs, sizes, ← Nat.add_assoc]
    exact layNs_ups ts p _ _ (by omega) (layN_ups t p n nd hp hu)
end

theorem sput_take {l : List St.Pr} (h : St.Rise l) (k : Nat) (hk : k < l.length) : St.putS (St.ofS (l.take k)) (l.getD k St.pr0) = l.take (k + 1) := by
  have h1 : St.Rise (l.take k) := List.Pairwise.sublist (List.take_sublist k l) h
  rw [St.ofS_id h1, St.putS_end]
  · exact (take_snoc l St.pr0 k hk).symm
  · intro q hq
    obtain ⟨i, hi, rfl⟩ := List.mem_iff_getElem.1 hq
    have hik : i < k := by rw [List.length_take] at hi; omega
    rw [List.getElem_take]
    have := List.pairwise_iff_getElem.1 h i k (by omega) hk hik
    have e : l.getD k St.pr0 = l[k] := by simp [List.getD, hk]
    rw [e]; exact this
theorem put_take {l : List Pr} (h : Rise l) (k : Nat) (hk : k < l.length) : putS (ofS (l.take k)) (l.getD k pr0) = l.take (k + 1) := by
  have h1 : Rise (l.take k) := List.Pairwise.sublist (List.take_sublist k l) h
  rw [ofS_id h1, putS_end]
  · exact (take_snoc l pr0 k hk).symm
  · intro q hq
    obtain ⟨i, hi, rfl⟩ := List.mem_iff_getElem.1 hq
    have hik : i < k := by rw [List.length_take] at hi; omega
    rw [List.getElem_take]
    have := List.pairwise_iff_getElem.1 h i k (by omega) hk hik
    have e : l.getD k pr0 = l[k] := by simp [List.getD, hk]
    rw [e]; exact this

end Go.Proofs.YtaalhglooipnaaaGreat
