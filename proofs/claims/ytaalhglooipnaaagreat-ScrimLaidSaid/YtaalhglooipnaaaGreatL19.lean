/-
  The layout as both sides have it: plain.
  Boxes: the document's layout as a tree.
  The layout's small functions: ask, twice, width, inside, way, column; Natural; given.
  The layout's small functions: inside, way, column.
-/
import Derived.Test.YtaalhglooipnaaaGreatL18
import Derived.Test.YtaalhglooipnaaaGreatL16
namespace Go.Proofs.YtaalhglooipnaaaGreat
open Go.RowKit RT

def nmW : ByteArray := ⟨#[119]⟩
def nmH : ByteArray := ⟨#[104]⟩
def nmPad : ByteArray := ⟨#[112, 97, 100]⟩
def nmGap : ByteArray := ⟨#[103, 97, 112]⟩
def nmCols : ByteArray := ⟨#[99, 111, 108, 115]⟩
def nmFlow : ByteArray := ⟨#[102, 108, 111, 119]⟩
def wayV (d : SD) : Int := if (gtS d.st nmFlow).1 = 1 ∨ (gtS d.st nmFlow).1 = 2 then (gtS d.st nmFlow).1 else 0
def colsV (d : SD) : Int := max 1 (min (styV d nmCols) 64)
def colV (d : SD) (n : Int) : Int := max 0 (Fl.P1.div (Fl.P1.sub n (Fl.P1.mul (colsV d - 1) (styV d nmGap))) (colsV d))
def widthV (d : SD) (g : Int) : Int := if (gtS d.st nmW).2 = true then styV d nmW else Fl.P14.least g
def insV (d : SD) (g : Int) : Int := max 0 (Fl.P1.sub (Fl.P1.sub (widthV d g) (styV d nmPad)) (styV d nmPad))
def eachV (d : SD) (n : Int) : Int := if wayV d = 2 then colV d n else n
mutual
def natT : STr → Int
  | .mk d ks => if d.kind = 1 then Fl.P1.sat d.text.size else if (gtS d.st nmW).2 = true then styV d nmW else Fl.P1.add (natM ks 0) (Fl.P1.add (styV d nmPad) (styV d nmPad))
def natM : List STr → Int → Int
  | [], m => m
  | t :: ts, m => natM ts (max m (natT t))
end
def givenT (d : SD) (k : STr) (n : Int) : Int := if wayV d = 1 then natT k else eachV d n
mutual
/-- A node's size, for a width. -/
def sizeT : STr → Int → Int × Int
  | .mk d ks, g => if d.kind = 1 then (natT (.mk d ks), 1) else
      (widthV d g, if (gtS d.st nmH).2 = true then styV d nmH else Fl.P1.add (Fl.P1.add (Fl.putSt (wayV d) (eachV d (insV d g)) (colsV d) (styV d nmGap) (sizesT d (insV d g) ks)).y (Fl.putSt (wayV d) (eachV d (insV d g)) (colsV d) (styV d nmGap) (sizesT d (insV d g) ks)).h) (Fl.P1.add (styV d nmPad) (styV d nmPad)))
def sizesT (d : SD) (n : Int) : List STr → List (Int × Int)
  | [] => []
  | t :: ts => sizeT t (givenT d t n) :: sizesT d n ts
end
/-- Where an element's kids go. -/
def putT (d : SD) (n : Int) (ks : List STr) : Fl.P14.St := Fl.putSt (wayV d) (eachV d n) (colsV d) (styV d nmGap) (sizesT d n ks)
mutual
/-- Where a node, and all below it, are. -/
def placeT : STr → Int → Int → Int → List En
  | .mk d ks, x, y, g => (d.id, x, y, (sizeT (.mk d ks) g).1, (sizeT (.mk d ks) g).2) :: (if d.kind = 1 then [] else placesT d (insV d g) x y ks (putT d (insV d g) ks).out)
def placesT (d : SD) (n x y : Int) : List STr → List (Int × Int) → List En
  | t :: ts, p :: ps => placeT t (Fl.P1.add (Fl.P1.add x (styV d nmPad)) p.1) (Fl.P1.add (Fl.P1.add y (styV d nmPad)) p.2) (givenT d t n) ++ placesT d n x y ts ps
  | _, _ => []
end
theorem natT_eq (t : STr) : natT t = if t.dat.kind = 1 then Fl.P1.sat t.dat.text.size else if (gtS t.dat.st nmW).2 = true then styV t.dat nmW else Fl.P1.add (natM t.kids 0) (Fl.P1.add (styV t.dat nmPad) (styV t.dat nmPad)) := by
  cases t; rw [natT]; rfl
theorem sizesT_len (d : SD) (n : Int) : ∀ ks : List STr, (sizesT d n ks).length = ks.length
  | [] => by rw [sizesT]; rfl
  | t :: ts => by rw [sizesT, List.length_cons, List.length_cons, sizesT_len d n ts]
theorem sizesT_snoc (d : SD) (n : Int) : ∀ (ks : List STr) (t : STr), sizesT d n (ks ++ [t]) = sizesT d n ks ++ [sizeT t (givenT d t n)]
  | [], t => by rw [List.nil_append, sizesT, sizesT, sizesT]; rfl
  | a :: ts, t => by rw [List.cons_append, sizesT, sizesT, sizesT_snoc d n ts t]; rfl
theorem natM_snoc : ∀ (ks : List STr) (m : Int) (t : STr), natM (ks ++ [t]) m = max (natM ks m) (natT t)
  | [], m, t => by rw [List.nil_append, natM, natM, natM]
  | a :: ts, m, t => by rw [List.cons_append, natM, natM, natM_snoc ts _ t]

end Go.Proofs.YtaalhglooipnaaaGreat
namespace Go.Proofs.YtaalhglooipnaaaGreat
open Go.RowKit RT

structure BD where
  id : Int
  x : Int
  y : Int
  w : Int
  h : Int
abbrev BT := RT BD
def bC (d : BD) (k : Value) : List Value := [.int .i64 d.id, .int .i64 d.x, .int .i64 d.y, .int .i64 d.w, .int .i64 d.h, k]
def bV (d : BD) (k : Value) : Value := .agg (bC d k).toArray
def bK : NK BD where
  sz := 6
  D := fun _ _ d k v => v = bV d k
  move := fun h _ => h
  weak := fun h _ => h
theorem bV_cells (d : BD) (k : Value) : cvK 6 (bV d k) = bC d k := rfl
/-- A box at another place. -/
def moveB (b : BT) (p : Int × Int) : BT := .mk { b.dat with x := p.1, y := p.2 } b.kids
mutual
/-- A node's box, for a width, at a place. -/
def boxT : STr → Int × Int → Int → BT
  | .mk d ks, p, g => .mk ⟨d.id, p.1, p.2, (sizeT (.mk d ks) g).1, (sizeT (.mk d ks) g).2⟩ (if d.kind = 1 then [] else boxesT d (insV d g) ks (putT d (insV d g) ks).out)
def boxesT (d : SD) (n : Int) : List STr → List (Int × Int) → List BT
  | t :: ts, p :: ps => boxT t p (givenT d t n) :: boxesT d n ts ps
  | _, _ => []
end
/-- The kids' boxes ahead of being put. -/
def boxes0 (d : SD) (n : Int) (ks : List STr) : List BT := ks.map fun t => boxT t (0, 0) (givenT d t n)
theorem moveB_boxT (t : STr) (p q : Int × Int) (g : Int) : moveB (boxT t p g) q = boxT t q g := by
  cases t; rw [boxT, boxT]; rfl
theorem boxesT_eq (d : SD) (n : Int) : ∀ (ks : List STr) (ps : List (Int × Int)), boxesT d n ks ps = List.zipWith moveB (boxes0 d n ks) ps
  | [], ps => by rw [boxesT] <;> simp [boxes0]
  | t :: ts, [] => by rw [boxesT] <;> simp [boxes0]
  | t :: ts, p :: ps => by
    rw [boxesT, boxesT_eq d n ts ps]
    simp only [boxes0, List.map_cons, List.zipWith_cons_cons, moveB_boxT]
/-- The first are put. -/
def putB (bs : List BT) (ps : List (Int × Int)) (i : Nat) : List BT := List.zipWith moveB (bs.take i) (ps.take i) ++ bs.drop i
theorem putB_zero (bs : List BT) (ps : List (Int × Int)) : putB bs ps 0 = bs := by simp [putB]
theorem putB_len (bs : List BT) (ps : List (Int × Int)) (h : ps.length = bs.length) (i : Nat) : (putB bs ps i).length = bs.length := by simp [putB]; omega
theorem putB_all (bs : List BT) (ps : List (Int × Int)) (h : ps.length = bs.length) : putB bs ps bs.length = List.zipWith moveB bs ps := by
  rw [putB, List.take_length, ← h, List.take_length, h, List.drop_length, List.append_nil]
theorem putB_at (bs : List BT) (ps : List (Int × Int)) (h : ps.length = bs.length) (i : Nat) (hi : i < bs.length) : (putB bs ps i)[i]? = some bs[i] := by
  rw [putB, List.getElem?_append_right (by simp; omega)]
  simp only [List.length_zipWith, List.length_take, List.getElem?_drop]
  rw [show i + (i - min (min i bs.length) (min i ps.length)) = i by omega, List.getElem?_eq_getElem hi]
theorem putB_step (bs : List BT) (ps : List (Int × Int)) (h : ps.length = bs.length) (i : Nat) (hi : i < bs.length) : putB bs ps (i + 1) = (putB bs ps i).set i (moveB bs[i] (ps.getD i (0, 0))) := by
  have e1 : List.zipWith moveB (bs.take (i + 1)) (ps.take (i + 1)) = List.zipWith moveB (bs.take i) (ps.take i) ++ [moveB bs[i] (ps.getD i (0, 0))] := by
    rw [show bs.take (i + 1) = bs.take i ++ [bs[i]] by simp, show ps.take (i + 1) = ps.take i ++ [ps.getD i (0, 0)] by rw [List.take_add_one, List.getElem?_eq_getElem (by omega : i < ps.length)]; simp [List.getD, show i < ps.length by omega]]
    rw [List.zipWith_append (by simp; omega)]
    rfl
  have hl : (List.zipWith moveB (bs.take i) (ps.take i)).length = i := by simp; omega
  rw [putB, putB, e1, List.set_append_right _ _ (by omega), hl, Nat.sub_self, show bs.drop i = bs[i] :: bs.drop (i + 1) by simp, List.set_cons_zero, List.append_assoc]
  rfl
theorem boxT_eq (t : STr) (p : Int × Int) (g : Int) : boxT t p g = .mk ⟨t.dat.id, p.1, p.2, (sizeT t g).1, (sizeT t g).2⟩ (if t.dat.kind = 1 then [] else boxesT t.dat (insV t.dat g) t.kids (putT t.dat (insV t.dat g) t.kids).out) := by
  cases t; rw [boxT]; rfl
theorem boxes0_snoc (d : SD) (n : Int) (ks : List STr) (t : STr) : boxes0 d n (ks ++ [t]) = boxes0 d n ks ++ [boxT t (0, 0) (givenT d t n)] := by simp [boxes0]
theorem boxes0_len (d : SD) (n : Int) (ks : List STr) : (boxes0 d n ks).length = ks.length := by simp [boxes0]
theorem putT_len (d : SD) (n : Int) (ks : List STr) : (putT d n ks).out.length = ks.length := by rw [putT, Fl.putSt_len, sizesT_len]
section
variable {α : Type} {K : NK α} {w w' : World} {S S' : Nat → Prop}
theorem IsTs.set_ : ∀ {ts : List (RT α)} {vs : List Value} (i : Nat) {t : RT α} {v : Value}, IsTs K w S ts vs → IsT K w S t v → IsTs K w S (ts.set i t) (vs.set i v)
  | [], vs, i, t, v, h, _ => by rw [IsTs] at h; subst h; rw [List.set_nil, List.set_nil]; exact IsTs.nil
  | a :: ts, vs, 0, t, v, h, h1 => by
    rw [IsTs] at h
    obtain ⟨u, us, rfl, _, h3⟩ := h
    rw [List.set_cons_zero, List.set_cons_zero, IsTs]
    exact ⟨v, us, rfl, h1, h3⟩
  | a :: ts, vs, i + 1, t, v, h, h1 => by
    rw [IsTs] at h
    obtain ⟨u, us, rfl, h2, h3⟩ := h
    rw [List.set_cons_succ, List.set_cons_succ, IsTs]
    exact ⟨u, us.set i v, rfl, h2, h3.set_ i h1⟩
end
theorem IsT.form {w : World} {S : Nat → Prop} {b : BT} {v : Value} (h : IsT bK w S b v) : ∃ A c, v = bV b.dat (.slice A b.kids.length c) := by
  obtain ⟨A, c, vs, h1, _, _⟩ := IsT.eq.1 h
  exact ⟨A, c, h1⟩
theorem IsT.put {w : World} {S : Nat → Prop} {b : BT} {k : Value} (h : IsT bK w S b (bV b.dat k)) (p : Int × Int) : IsT bK w S (moveB b p) (bV (moveB b p).dat k) := by
  obtain ⟨A, c, vs, h1, h2, h3⟩ := IsT.eq.1 h
  have hk : k = .slice A b.kids.length c := by
    have h1 : bV b.dat k = bV b.dat (.slice A b.kids.length c) := h1
    unfold bV at h1
    injection h1 with h1
    simpa [bC] using h1
  subst hk
  exact IsT.eq.2 ⟨A, c, vs, rfl, h2, h3⟩
theorem flat_put : ∀ (vs : List Value) (i : Nat) (d : BD) (k : Value) (a b : Int), vs[i]? = some (bV d k) →
    (vs.set i (bV { d with x := a, y := b } k)).flatMap (cvK 6) = ((vs.flatMap (cvK 6)).set (i * 6 + 1) (.int .i64 a)).set (i * 6 + 2) (.int .i64 b)
  | [], i, d, k, a, b, h => by simp at h
  | v :: vs, 0, d, k, a, b, h => by
    obtain rfl : v = bV d k := by simpa using h
    simp only [List.set_cons_zero, List.flatMap_cons, bV_cells, bC]
    rfl
  | v :: vs, i + 1, d, k, a, b, h => by
    have ih := flat_put vs i d k a b (by simpa using h)
    rw [List.set_cons_succ, List.flatMap_cons, List.flatMap_cons, ih, List.set_append_right _ _ (by rw [cvK_len]; omega), cvK_len, List.set_append_right _ _ (by rw [cvK_len]; omega), cvK_len]
    rw [show (i + 1) * 6 + 1 - 6 = i * 6 + 1 by omega, show (i + 1) * 6 + 2 - 6 = i * 6 + 2 by omega]
theorem IsTs.get {w : World} {S : Nat → Prop} {bs : List BT} {vs : List Value} (h : IsTs bK w S bs vs) {i : Nat} {b : BT} (hi : bs[i]? = some b) : ∃ A c, vs[i]? = some (bV b.dat (.slice A b.kids.length c)) ∧ IsT bK w S b (bV b.dat (.slice A b.kids.length c)) := by
  obtain ⟨hlt, rfl⟩ := List.getElem?_eq_some_iff.1 hi
  have h1 := h.at_ i hlt
  obtain ⟨A, c, he⟩ := h1.form
  rw [he] at h1
  refine ⟨A, c, ?_, h1⟩
  rw [← he, List.getElem?_eq_getElem (by rw [h.len]; exact hlt)]
  simp [List.getD, show i < vs.length by rw [h.len]; exact hlt]

end Go.Proofs.YtaalhglooipnaaaGreat
namespace Go.Proofs.YtaalhglooipnaaaGreat
open Go.RowKit RT
attribute [local go_sem ↓] Go.wp_at_zero Go.wp_at_succ

theorem Rows3.old {w w' : World} {cl : List ByteArray} {at_ : List St.Pr} {st : List Pr} {a1 a2 a3 : Value} (h : Rows3 w (Old w) cl at_ st a1 a2 a3) (hb : Below w.heap.size w w') : Rows3 w' (Old w') cl at_ st a1 a2 a3 :=
  (h.move (.of_below hb fun _ h => h)).weak fun b h => Nat.lt_of_lt_of_le h hb.size
set_option maxHeartbeats 4000000 in
theorem twice_any (x : Int) (w : World) : Calls Tryz.prog 132 #[.int .i64 x] w fun e w' => e = .returned (.int .i64 (Fl.P1.add x x)) ∧ w' = w := by
  go_enter Tryz.func132, Tryz.ntmps132
  go_wp2_with (first | (go_at_call 90; ((with_reducible refine (Fl.add_any _ _ _).mono ?_); rintro e w' ⟨rfl, rfl⟩)))
  go_ret
  exact ⟨rfl, rfl⟩
set_option maxRecDepth 100000 in
set_option maxHeartbeats 4000000 in
theorem ask_any (d : SD) (a1 a2 a3 : Value) (A4 : Option Addr) (n4 c4 : Nat) (s : ByteArray) (w : World) (hr : Rows3 w (Old w) d.cl d.at_ d.st a1 a2 a3) (hs : stOk d) :
    Calls Tryz.prog 111 #[sV d a1 a2 a3 (.slice A4 n4 c4), .string s] w fun e w' => e = .returned (.int .i64 (styV d s)) ∧ Below w.heap.size w w' := by
  obtain ⟨A1, c1, A2, c2, A3, c3, rfl, rfl, rfl, hrr⟩ := hr
  have hr : Rows3 w (Old w) d.cl d.at_ d.st (.slice A1 d.cl.length c1) (.slice A2 d.at_.length c2) (.slice A3 d.st.length c3) := ⟨A1, c1, A2, c2, A3, c3, rfl, rfl, rfl, hrr⟩
  obtain ⟨w1, hw1, hX, hB0, hs1⟩ := one_new w (sC d (.slice A1 d.cl.length c1) (.slice A2 d.at_.length c2) (.slice A3 d.st.length c3) (.slice A4 n4 c4)).toArray 40
  unfold sV sC
  unfold sC at hX hw1
  go_enter Tryz.func111, Tryz.ntmps111
  go_upto_region 1 with fail
  rw [← hw1]
  obtain ⟨X, hXe⟩ : ∃ X, X = w.heap.size := ⟨_, rfl⟩
  rw [← hXe] at hX ⊢
  have HX := Lib.hid hX
  have HB := Lib.hid hB0
  have HR := Lib.hid (hr.old hB0)
  obtain ⟨x0, x1, x2, x3, x4, x5, x6, x7⟩ := scells (a1 := .slice A1 d.cl.length c1) (a2 := .slice A2 d.at_.length c2) (a3 := .slice A3 d.st.length c3) (k := .slice A4 n4 c4) hX
  clear hw1 hXe hX hB0 hs1 hr hrr
  go_wp2_with fail
  have hc2 := style_any d (.slice A1 d.cl.length c1) (.slice A2 d.at_.length c2) (.slice A3 d.st.length c3) A4 n4 c4 s w1 HR.out hs
  unfold sV sC at hc2
  refine hc2.mono ?_
  clear hc2
  rintro e2 w2 ⟨rfl, hb2⟩
  have HXb := Lib.hid (HX.out.below hb2 HX.out.lt)
  have HBb := Lib.hid (HB.out.trans (hb2.mono HB.out.size))
  have HRb := Lib.hid (HR.out.old hb2)
  clear HX HB HR hb2 x0 x1 x2 x3 x4 x5 x6 x7
  have HX := HXb
  have HB := HBb
  have HR := HRb
  clear HXb HBb HRb
  obtain ⟨x0, x1, x2, x3, x4, x5, x6, x7⟩ := scells (a1 := .slice A1 d.cl.length c1) (a2 := .slice A2 d.at_.length c2) (a3 := .slice A3 d.st.length c3) (k := .slice A4 n4 c4) HX.out
  obtain ⟨y, hy⟩ : ∃ y, y = styV d s := ⟨_, rfl⟩
  rw [← hy]
  have HY := Lib.hid hy
  clear hy
  go_wp2_with fail
  go_ret
  exact ⟨by rw [← HY.out] <;> rfl, HB.out⟩
set_option maxRecDepth 100000 in
set_option maxHeartbeats 4000000 in
theorem width_any (d : SD) (a1 a2 a3 : Value) (A4 : Option Addr) (n4 c4 : Nat) (g : Int) (w : World) (hr : Rows3 w (Old w) d.cl d.at_ d.st a1 a2 a3) (hs : stOk d) :
    Calls Tryz.prog 133 #[sV d a1 a2 a3 (.slice A4 n4 c4), .int .i64 g] w fun e w' => e = .returned (.int .i64 (widthV d g)) ∧ Below w.heap.size w w' := by
  obtain ⟨A1, c1, A2, c2, A3, c3, rfl, rfl, rfl, hrr⟩ := hr
  have hr : Rows3 w (Old w) d.cl d.at_ d.st (.slice A1 d.cl.length c1) (.slice A2 d.at_.length c2) (.slice A3 d.st.length c3) := ⟨A1, c1, A2, c2, A3, c3, rfl, rfl, rfl, hrr⟩
  obtain ⟨w1, hw1, hX, hB0, hs1⟩ := one_new w (sC d (.slice A1 d.cl.length c1) (.slice A2 d.at_.length c2) (.slice A3 d.st.length c3) (.slice A4 n4 c4)).toArray 40
  unfold sV sC
  unfold sC at hX hw1
  go_enter Tryz.func133, Tryz.ntmps133
  go_upto_region 1 with fail
  rw [← hw1]
  obtain ⟨X, hXe⟩ : ∃ X, X = w.heap.size := ⟨_, rfl⟩
  rw [← hXe] at hX ⊢
  have HX := Lib.hid hX
  have HB := Lib.hid hB0
  have HR := Lib.hid (hr.old hB0)
  obtain ⟨x0, x1, x2, x3, x4, x5, x6, x7⟩ := scells (a1 := .slice A1 d.cl.length c1) (a2 := .slice A2 d.at_.length c2) (a3 := .slice A3 d.st.length c3) (k := .slice A4 n4 c4) hX
  clear hw1 hXe hX hB0 hs1 hr hrr
  go_wp2_with fail
  have hc2 := style_any d (.slice A1 d.cl.length c1) (.slice A2 d.at_.length c2) (.slice A3 d.st.length c3) A4 n4 c4 nmW w1 HR.out hs
  unfold sV sC at hc2
  refine hc2.mono ?_
  clear hc2
  rintro e2 w2 ⟨rfl, hb2⟩
  have HXb := Lib.hid (HX.out.below hb2 HX.out.lt)
  have HBb := Lib.hid (HB.out.trans (hb2.mono HB.out.size))
  have HRb := Lib.hid (HR.out.old hb2)
  clear HX HB HR hb2 x0 x1 x2 x3 x4 x5 x6 x7
  have HX := HXb
  have HB := HBb
  have HR := HRb
  clear HXb HBb HRb
  obtain ⟨x0, x1, x2, x3, x4, x5, x6, x7⟩ := scells (a1 := .slice A1 d.cl.length c1) (a2 := .slice A2 d.at_.length c2) (a3 := .slice A3 d.st.length c3) (k := .slice A4 n4 c4) HX.out
  by_cases hq : (gtS d.st nmW).2 = true
  · have HY := Lib.hid (show widthV d g = styV d nmW from if_pos hq)
    rw [hq]
    clear hq
    obtain ⟨y, hy⟩ : ∃ y, y = styV d nmW := ⟨_, rfl⟩
    rw [← hy] at HY ⊢
    clear hy
    go_wp2_with fail
    go_ret
    exact ⟨by rw [HY.out] <;> rfl, HB.out⟩
  · have HY := Lib.hid (show widthV d g = Fl.P14.least g from if_neg hq)
    rw [Bool.not_eq_true] at hq
    rw [hq]
    clear hq
    go_wp2_with (first | (go_at_call 106; ((with_reducible refine (Fl.sat_any _ _).mono ?_); rintro e w' ⟨rfl, rfl⟩)))
    go_ret
    exact ⟨by rw [HY.out] <;> rfl, HB.out⟩

end Go.Proofs.YtaalhglooipnaaaGreat
namespace Go.Proofs.YtaalhglooipnaaaGreat
open Go.RowKit RT
attribute [local go_sem ↓] Go.wp_at_zero Go.wp_at_succ

set_option maxRecDepth 100000 in
set_option maxHeartbeats 4000000 in
theorem inside_any (d : SD) (a1 a2 a3 : Value) (A4 : Option Addr) (n4 c4 : Nat) (g : Int) (w : World) (hr : Rows3 w (Old w) d.cl d.at_ d.st a1 a2 a3) (hs : stOk d) :
    Calls Tryz.prog 110 #[sV d a1 a2 a3 (.slice A4 n4 c4), .int .i64 g] w fun e w' => e = .returned (.int .i64 (insV d g)) ∧ Below w.heap.size w w' := by
  obtain ⟨A1, c1, A2, c2, A3, c3, rfl, rfl, rfl, hrr⟩ := hr
  have hr : Rows3 w (Old w) d.cl d.at_ d.st (.slice A1 d.cl.length c1) (.slice A2 d.at_.length c2) (.slice A3 d.st.length c3) := ⟨A1, c1, A2, c2, A3, c3, rfl, rfl, rfl, hrr⟩
  obtain ⟨w1, hw1, hX, hB0, hs1⟩ := one_new w (sC d (.slice A1 d.cl.length c1) (.slice A2 d.at_.length c2) (.slice A3 d.st.length c3) (.slice A4 n4 c4)).toArray 40
  unfold sV sC
  unfold sC at hX hw1
  go_enter Tryz.func110, Tryz.ntmps110
  go_upto_region 1 with fail
  rw [← hw1]
  obtain ⟨X, hXe⟩ : ∃ X, X = w.heap.size := ⟨_, rfl⟩
  rw [← hXe] at hX ⊢
  have HX := Lib.hid hX
  have HB := Lib.hid hB0
  have HR := Lib.hid (hr.old hB0)
  obtain ⟨x0, x1, x2, x3, x4, x5, x6, x7⟩ := scells (a1 := .slice A1 d.cl.length c1) (a2 := .slice A2 d.at_.length c2) (a3 := .slice A3 d.st.length c3) (k := .slice A4 n4 c4) hX
  clear hw1 hXe hX hB0 hs1 hr hrr
  go_wp2_with fail
  have hc2 := ask_any d (.slice A1 d.cl.length c1) (.slice A2 d.at_.length c2) (.slice A3 d.st.length c3) A4 n4 c4 nmPad w1 HR.out hs
  unfold sV sC at hc2
  refine hc2.mono ?_
  clear hc2
  rintro e2 w2 ⟨rfl, hb2⟩
  have HXb := Lib.hid (HX.out.below hb2 HX.out.lt)
  have HBb := Lib.hid (HB.out.trans (hb2.mono HB.out.size))
  have HRb := Lib.hid (HR.out.old hb2)
  clear HX HB HR hb2 x0 x1 x2 x3 x4 x5 x6 x7
  have HX := HXb
  have HB := HBb
  have HR := HRb
  clear HXb HBb HRb
  obtain ⟨x0, x1, x2, x3, x4, x5, x6, x7⟩ := scells (a1 := .slice A1 d.cl.length c1) (a2 := .slice A2 d.at_.length c2) (a3 := .slice A3 d.st.length c3) (k := .slice A4 n4 c4) HX.out
  obtain ⟨y, hy⟩ : ∃ y, y = styV d nmPad := ⟨_, rfl⟩
  rw [← hy]
  have HY := Lib.hid hy
  clear hy
  go_wp2_with fail
  have hc3 := width_any d (.slice A1 d.cl.length c1) (.slice A2 d.at_.length c2) (.slice A3 d.st.length c3) A4 n4 c4 g w2 HR.out hs
  unfold sV sC at hc3
  refine hc3.mono ?_
  clear hc3
  rintro e3 w3 ⟨rfl, hb3⟩
  have HXb := Lib.hid (HX.out.below hb3 HX.out.lt)
  have HBb := Lib.hid (HB.out.trans (hb3.mono HB.out.size))
  have HRb := Lib.hid (HR.out.old hb3)
  clear HX HB HR hb3 x0 x1 x2 x3 x4 x5 x6 x7
  have HX := HXb
  have HB := HBb
  have HR := HRb
  clear HXb HBb HRb
  obtain ⟨x0, x1, x2, x3, x4, x5, x6, x7⟩ := scells (a1 := .slice A1 d.cl.length c1) (a2 := .slice A2 d.at_.length c2) (a3 := .slice A3 d.st.length c3) (k := .slice A4 n4 c4) HX.out
  obtain ⟨z, hz⟩ : ∃ z, z = widthV d g := ⟨_, rfl⟩
  rw [← hz]
  have HZ := Lib.hid (show insV d g = max 0 (Fl.P1.sub (Fl.P1.sub z y) y) by rw [HY.out, hz]; rfl)
  clear hz
  go_wp2_with (first | (go_at_call 134; ((with_reducible refine (Fl.sub_any _ _ _).mono ?_); rintro e w' ⟨rfl, rfl⟩)))
  go_ret
  exact ⟨by rw [HZ.out] <;> rfl, HB.out⟩
set_option maxRecDepth 100000 in
set_option maxHeartbeats 4000000 in
theorem way_any (d : SD) (a1 a2 a3 : Value) (A4 : Option Addr) (n4 c4 : Nat) (w : World) (hr : Rows3 w (Old w) d.cl d.at_ d.st a1 a2 a3) (hs : stOk d) :
    Calls Tryz.prog 135 #[sV d a1 a2 a3 (.slice A4 n4 c4)] w fun e w' => e = .returned (.int .i64 (wayV d)) ∧ Below w.heap.size w w' := by
  obtain ⟨A1, c1, A2, c2, A3, c3, rfl, rfl, rfl, hrr⟩ := hr
  have hr : Rows3 w (Old w) d.cl d.at_ d.st (.slice A1 d.cl.length c1) (.slice A2 d.at_.length c2) (.slice A3 d.st.length c3) := ⟨A1, c1, A2, c2, A3, c3, rfl, rfl, rfl, hrr⟩
  obtain ⟨w1, hw1, hX, hB0, hs1⟩ := one_new w (sC d (.slice A1 d.cl.length c1) (.slice A2 d.at_.length c2) (.slice A3 d.st.length c3) (.slice A4 n4 c4)).toArray 40
  unfold sV sC
  unfold sC at hX hw1
  go_enter Tryz.func135, Tryz.ntmps135
  go_upto_region 1 with fail
  rw [← hw1]
  obtain ⟨X, hXe⟩ : ∃ X, X = w.heap.size := ⟨_, rfl⟩
  rw [← hXe] at hX ⊢
  have HX := Lib.hid hX
  have HB := Lib.hid hB0
  have HR := Lib.hid (hr.old hB0)
  obtain ⟨x0, x1, x2, x3, x4, x5, x6, x7⟩ := scells (a1 := .slice A1 d.cl.length c1) (a2 := .slice A2 d.at_.length c2) (a3 := .slice A3 d.st.length c3) (k := .slice A4 n4 c4) hX
  clear hw1 hXe hX hB0 hs1 hr hrr
  have HPS := Lib.hid (show Ps w1 w1.heap.size A3 d.st.length d.st by
    obtain ⟨B1, e1, B2, e2, B3, e3, _, _, h3, _, _, r3⟩ := HR.out
    injection h3 with h31 h32 h33
    subst h31
    exact r3.rd fun b h => h)
  go_wp2_with fail
  refine (get_map A3 d.st.length c3 d.st nmFlow w1 HPS.out hs.2 hs.1).mono ?_
  rintro e2 w2 ⟨rfl, hb2⟩
  have HB2 := Lib.hid (HB.out.trans (hb2.mono HB.out.size))
  obtain ⟨g, hg⟩ : ∃ g, g = gtS d.st nmFlow := ⟨_, rfl⟩
  rw [← hg]
  have HY := Lib.hid (show wayV d = if g.1 = 1 ∨ g.1 = 2 then g.1 else 0 by rw [hg]; rfl)
  clear hg hb2 HX HR HPS x0 x1 x2 x3 x4 x5 x6 x7
  obtain ⟨v, q⟩ := g
  by_cases h1 : v = 1
  · have HV := Lib.hid (show wayV d = 1 by rw [HY.out, if_pos (.inl h1)]; exact h1)
    subst h1
    go_wp2_with fail
    go_ret
    exact ⟨by rw [HV.out] <;> rfl, HB2.out⟩
  · by_cases h2 : v = 2
    · have HV := Lib.hid (show wayV d = 2 by rw [HY.out, if_pos (.inr h2)]; exact h2)
      subst h2
      go_wp2_with fail
      go_ret
      exact ⟨by rw [HV.out] <;> rfl, HB2.out⟩
    · have HV := Lib.hid (show wayV d = 0 by rw [HY.out, if_neg (by simp [h1, h2])])
      have i1 : (v == 1) = false := by simp [h1]
      have i2 : (v == 2) = false := by simp [h2]
      go_wp2_with fail
      go_ret
      exact ⟨by rw [HV.out] <;> rfl, HB2.out⟩
set_option maxRecDepth 100000 in
set_option maxHeartbeats 4000000 in
theorem column_any (d : SD) (a1 a2 a3 : Value) (A4 : Option Addr) (n4 c4 : Nat) (g : Int) (w : World) (hr : Rows3 w (Old w) d.cl d.at_ d.st a1 a2 a3) (hs : stOk d) :
    Calls Tryz.prog 137 #[sV d a1 a2 a3 (.slice A4 n4 c4), .int .i64 g] w fun e w' => e = .returned (.tuple #[.int .i64 (colsV d), .int .i64 (colV d g)]) ∧ Below w.heap.size w w' := by
  obtain ⟨A1, c1, A2, c2, A3, c3, rfl, rfl, rfl, hrr⟩ := hr
  have hr : Rows3 w (Old w) d.cl d.at_ d.st (.slice A1 d.cl.length c1) (.slice A2 d.at_.length c2) (.slice A3 d.st.length c3) := ⟨A1, c1, A2, c2, A3, c3, rfl, rfl, rfl, hrr⟩
  obtain ⟨w1, hw1, hX, hB0, hs1⟩ := one_new w (sC d (.slice A1 d.cl.length c1) (.slice A2 d.at_.length c2) (.slice A3 d.st.length c3) (.slice A4 n4 c4)).toArray 40
  unfold sV sC
  unfold sC at hX hw1
  go_enter Tryz.func137, Tryz.ntmps137
  go_upto_region 1 with fail
  rw [← hw1]
  obtain ⟨X, hXe⟩ : ∃ X, X = w.heap.size := ⟨_, rfl⟩
  rw [← hXe] at hX ⊢
  have HX := Lib.hid hX
  have HB := Lib.hid hB0
  have HR := Lib.hid (hr.old hB0)
  obtain ⟨x0, x1, x2, x3, x4, x5, x6, x7⟩ := scells (a1 := .slice A1 d.cl.length c1) (a2 := .slice A2 d.at_.length c2) (a3 := .slice A3 d.st.length c3) (k := .slice A4 n4 c4) hX
  clear hw1 hXe hX hB0 hs1 hr hrr
  go_wp2_with fail
  have hc2 := ask_any d (.slice A1 d.cl.length c1) (.slice A2 d.at_.length c2) (.slice A3 d.st.length c3) A4 n4 c4 nmCols w1 HR.out hs
  unfold sV sC at hc2
  refine hc2.mono ?_
  clear hc2
  rintro e2 w2 ⟨rfl, hb2⟩
  have HXb := Lib.hid (HX.out.below hb2 HX.out.lt)
  have HBb := Lib.hid (HB.out.trans (hb2.mono HB.out.size))
  have HRb := Lib.hid (HR.out.old hb2)
  clear HX HB HR hb2 x0 x1 x2 x3 x4 x5 x6 x7
  have HX := HXb
  have HB := HBb
  have HR := HRb
  clear HXb HBb HRb
  obtain ⟨x0, x1, x2, x3, x4, x5, x6, x7⟩ := scells (a1 := .slice A1 d.cl.length c1) (a2 := .slice A2 d.at_.length c2) (a3 := .slice A3 d.st.length c3) (k := .slice A4 n4 c4) HX.out
  obtain ⟨y, hy⟩ : ∃ y, y = styV d nmCols := ⟨_, rfl⟩
  rw [← hy]
  have HY := Lib.hid hy
  clear hy
  go_wp2_with fail
  refine (Fl.clip_any y 1 64 _).mono ?_
  rintro e3 w3 ⟨rfl, rfl⟩
  obtain ⟨c, hc⟩ : ∃ c, c = max 1 (min y 64) := ⟨_, rfl⟩
  rw [← hc]
  have HC := Lib.hid (show colsV d = c by rw [hc, HY.out]; rfl)
  have hc1 : 1 ≤ c := by omega
  have hc2 : c ≤ 64 := by omega
  clear hc HY
  have i1 : wrap64 (c - 1) = c - 1 := by unfold wrap64; omega
  go_wp2_with fail
  have hc4 := ask_any d (.slice A1 d.cl.length c1) (.slice A2 d.at_.length c2) (.slice A3 d.st.length c3) A4 n4 c4 nmGap w2 HR.out hs
  unfold sV sC at hc4
  refine hc4.mono ?_
  clear hc4
  rintro e4 w4 ⟨rfl, hb4⟩
  have HXb := Lib.hid (HX.out.below hb4 HX.out.lt)
  have HBb := Lib.hid (HB.out.trans (hb4.mono HB.out.size))
  have HRb := Lib.hid (HR.out.old hb4)
  clear HX HB HR hb4 x0 x1 x2 x3 x4 x5 x6 x7
  have HX := HXb
  have HB := HBb
  have HR := HRb
  clear HXb HBb HRb
  obtain ⟨x0, x1, x2, x3, x4, x5, x6, x7⟩ := scells (a1 := .slice A1 d.cl.length c1) (a2 := .slice A2 d.at_.length c2) (a3 := .slice A3 d.st.length c3) (k := .slice A4 n4 c4) HX.out
  obtain ⟨z, hz⟩ : ∃ z, z = styV d nmGap := ⟨_, rfl⟩
  rw [← hz]
  have HZ := Lib.hid (show colV d g = max 0 (Fl.P1.div (Fl.P1.sub g (Fl.P1.mul (c - 1) z)) c) by rw [← HC.out, hz]; rfl)
  clear hz
  go_wp2_with (first | (go_at_call 134; ((with_reducible refine (Fl.sub_any _ _ _).mono ?_); rintro e w' ⟨rfl, rfl⟩)) | (go_at_call 159; ((with_reducible refine (Fl.mul_any _ _ _).mono ?_); rintro e w' ⟨rfl, rfl⟩)))
  refine (Fl.div_any _ c w4).mono ?_
  rintro e5 w5 ⟨rfl, n5, rfl⟩
  have HB2 := Lib.hid (HB.out.trans (below_drewN (Below.refl _ w4) n5))
  clear HX HR x0 x1 x2 x3 x4 x5 x6 x7
  obtain ⟨u, hu⟩ : ∃ u, u = Fl.P1.div (Fl.P1.sub g (Fl.P1.mul (c - 1) z)) c := ⟨_, rfl⟩
  rw [← hu]
  rw [← hu] at HZ
  clear hu
  go_wp2_with fail
  exact bodyPost_ret (v := .tuple #[.int .i64 c, .int .i64 (max 0 u)]) (by simp [results, Tryz.results137, go_sem]) rfl ⟨by rw [HC.out, HZ.out], HB2.out⟩

end Go.Proofs.YtaalhglooipnaaaGreat
