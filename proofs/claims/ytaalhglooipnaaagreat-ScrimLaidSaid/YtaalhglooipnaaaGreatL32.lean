/-
  What the document's spread wants: kids of a tree and of a box, side by side; entries.
  The document's spread: where all are, of a box at a point.
-/
import Derived.Test.YtaalhglooipnaaaGreatL22
import Derived.Test.YtaalhglooipnaaaGreatL28
import Derived.Test.YtaalhglooipnaaaGreatL27
import Derived.Test.YtaalhglooipnaaaGreatL31
namespace Go.Proofs.YtaalhglooipnaaaGreat
open Go.RowKit RT
attribute [local go_sem ↓] Go.wp_at_zero Go.wp_at_succ

theorem ix_rt {b off k n c : Nat} (h : k < n) (w : World) : (Instr.indexAt 66 (.slice (some ⟨b, off, none⟩) n c) (.int .i64 (k : Nat))).run Tryz.prog w = .ok (.pointer (some ⟨b, off + k * 8, none⟩)) w := by
  have h0 : (0 : Int) ≤ (k : Int) := by omega
  have h1 : (k : Int) < (n : Int) := by omega
  go_simp
theorem fai_rr_0 (b i : Nat) (w : World) : (Instr.fieldAt 111 (.pointer (some ⟨b, i, none⟩)) 0).run Tryz.prog w = .ok (.pointer (some ⟨b, i, none⟩)) w := by go_simp
theorem fai_rr_1 (b i : Nat) (w : World) : (Instr.fieldAt 111 (.pointer (some ⟨b, i, none⟩)) 1).run Tryz.prog w = .ok (.pointer (some ⟨b, i + 1, none⟩)) w := by go_simp
/-- A tree's eight cells somewhere in a row. -/
def At8 (w : World) (b o : Nat) (d : SD) (a1 a2 a3 kv : Value) : Prop :=
  w.cell? ⟨b, o, none⟩ = some (.int .i64 d.id) ∧ w.cell? ⟨b, o + 1, none⟩ = some (.int .i64 d.kind) ∧ w.cell? ⟨b, o + 2, none⟩ = some (.string d.tag) ∧ w.cell? ⟨b, o + 3, none⟩ = some (.string d.text) ∧
  w.cell? ⟨b, o + 4, none⟩ = some a1 ∧ w.cell? ⟨b, o + 5, none⟩ = some a2 ∧ w.cell? ⟨b, o + 6, none⟩ = some a3 ∧ w.cell? ⟨b, o + 7, none⟩ = some kv
theorem At8.below {w w' : World} {b o B : Nat} {d : SD} {a1 a2 a3 kv : Value} (h : At8 w b o d a1 a2 a3 kv) (hb : Below B w w') (hB : b < B) : At8 w' b o d a1 a2 a3 kv := by
  obtain ⟨h0, h1, h2, h3, h4, h5, h6, h7⟩ := h
  have f : ∀ i, w'.cell? ⟨b, i, none⟩ = w.cell? ⟨b, i, none⟩ := fun i => hb.cell (p := ⟨b, i, none⟩) hB
  exact ⟨(f _).trans h0, (f _).trans h1, (f _).trans h2, (f _).trans h3, (f _).trans h4, (f _).trans h5, (f _).trans h6, (f _).trans h7⟩
theorem At8.ld {w : World} {b o : Nat} {d : SD} {a1 a2 a3 kv : Value} (h : At8 w b o d a1 a2 a3 kv) : (Instr.loadAt 68 (.pointer (some ⟨b, o, none⟩))).run Tryz.prog w = .ok (sV d a1 a2 a3 kv) w := by
  obtain ⟨h0, h1, h2, h3, h4, h5, h6, h7⟩ := h
  unfold sV sC
  go_simp
/-- A kid's box, as it lies in a row. -/
theorem Vs.box {w : World} {S : Nat → Prop} {A : Option Addr} {n : Nat} {vs : List Value} (h : Vs 6 w S A n vs) (k : Nat) (hk : k < n) {d : BD} {kv : Value} (hv : vs.getD k agg0 = bV d kv) {w' : World} (hw : Still S w w') :
    ∃ b off, A = some ⟨b, off, none⟩ ∧ S b ∧ w'.cell? ⟨b, off + k * 6, none⟩ = some (.int .i64 d.id) ∧ w'.cell? ⟨b, off + k * 6 + 1, none⟩ = some (.int .i64 d.x) ∧ w'.cell? ⟨b, off + k * 6 + 2, none⟩ = some (.int .i64 d.y) ∧ w'.cell? ⟨b, off + k * 6 + 3, none⟩ = some (.int .i64 d.w) ∧
      w'.cell? ⟨b, off + k * 6 + 4, none⟩ = some (.int .i64 d.h) ∧ w'.cell? ⟨b, off + k * 6 + 5, none⟩ = some kv := by
  obtain ⟨b, off, hA, hB, h0⟩ := h.2 k hk
  rw [hv] at h0
  have h1 : ∀ j, j < 6 → w'.cell? ⟨b, off + k * 6 + j, none⟩ = (cvK 6 (bV d kv))[j]? := fun j hj => (hw.cell hB _).trans (h0 j hj)
  exact ⟨b, off, hA, hB, h1 0 (by omega), h1 1 (by omega), h1 2 (by omega), h1 3 (by omega), h1 4 (by omega), h1 5 (by omega)⟩
theorem cvE_one (l : List En) : ∀ u ∈ l.flatMap cvE, u.oneCell' = true := by
  intro u hu
  obtain ⟨p, _, hp⟩ := List.mem_flatMap.1 hu
  simp [cvE] at hp
  rcases hp with rfl | rfl | rfl | rfl | rfl <;> rfl
/-- The kids that a box has, and where they go. -/
def kidsB (d : SD) (ks : List STr) : List STr := if d.kind = 1 then [] else ks
def ptsB (d : SD) (II : Int) (ks : List STr) : List (Int × Int) := if d.kind = 1 then [] else (putT d II ks).out
theorem ptsB_len (d : SD) (II : Int) (ks : List STr) : (ptsB d II ks).length = (kidsB d ks).length := by
  unfold ptsB kidsB
  split
  · rfl
  · exact putT_len d II ks
theorem boxesT_len (d : SD) (n : Int) : ∀ (ks : List STr) (ps : List (Int × Int)), ps.length = ks.length → (boxesT d n ks ps).length = ks.length
  | [], ps, _ => by rw [boxesT] <;> simp
  | t :: ts, [], h => by simp at h
  | t :: ts, p :: ps, h => by rw [boxesT, List.length_cons, List.length_cons, boxesT_len d n ts ps (by simpa using h)]
theorem boxesT_at (d : SD) (n : Int) : ∀ (ks : List STr) (ps : List (Int × Int)) (k : Nat) (kd : STr), ks[k]? = some kd → k < ps.length → (boxesT d n ks ps)[k]? = some (boxT kd (ps.getD k (0, 0)) (givenT d kd n))
  | [], ps, k, kd, h, _ => by simp at h
  | t :: ts, [], k, kd, _, h => by simp at h
  | t :: ts, p :: ps, 0, kd, h, _ => by
    obtain rfl : t = kd := by simpa using h
    rw [boxesT]; rfl
  | t :: ts, p :: ps, k + 1, kd, h, h' => by
    rw [boxesT, List.getElem?_cons_succ, boxesT_at d n ts ps k kd (by simpa using h) (by simpa using h')]
    rfl
theorem boxT_kids (t : STr) (p : Int × Int) (g : Int) : (boxT t p g).kids = boxesT t.dat (insV t.dat g) (kidsB t.dat t.kids) (ptsB t.dat (insV t.dat g) t.kids) := by
  rw [boxT_eq]
  unfold kidsB ptsB
  show (if _ then _ else _) = _
  split
  · rw [boxesT] <;> simp
  · rfl
theorem placeT_kids (t : STr) (x y g : Int) : placeT t x y g = (t.dat.id, x, y, (sizeT t g).1, (sizeT t g).2) :: placesT t.dat (insV t.dat g) x y (kidsB t.dat t.kids) (ptsB t.dat (insV t.dat g) t.kids) := by
  rw [placeT_eq]
  unfold kidsB ptsB
  split
  · rw [placesT] <;> simp
  · rfl
theorem kidsB_len (d : SD) (ks : List STr) : (kidsB d ks).length ≤ ks.length := by
  unfold kidsB
  split
  · simp
  · exact Nat.le_refl _
theorem kidsB_at {d : SD} {ks : List STr} {k : Nat} (h : k < (kidsB d ks).length) : ∃ h' : k < ks.length, (kidsB d ks)[k]? = some (ks[k]'h') := by
  unfold kidsB at h ⊢
  split at h
  · simp at h
  · rename_i h1
    exact ⟨h, by rw [if_neg h1]; exact List.getElem?_eq_getElem h⟩
def SprR9 (W : World) (K m' c' : Nat) (A' : Option Addr) (e : BD) (x pad : Int) : Nat → Value → World → Prop
  | 0, v, _ => v = (.int .i64 x)
  | 1, v, _ => v = (.int .i64 pad)
  | 2, v, _ => v = .int .i64 (Fl.P1.add x pad)
  | 3, v, _ => v = .pointer (some ⟨K, 1, none⟩)
  | 4, v, _ => v = .pointer (some ⟨K, 1, none⟩)
  | 5, v, _ => v = .int .i64 e.x
  | 6, v, _ => v = .int .i64 (Fl.P1.add (Fl.P1.add x pad) e.x)
  | _, _, _ => True
theorem SprR9_keep (W : World) (K m' c' : Nat) (A' : Option Addr) (e : BD) (x pad : Int) (j : Nat) (v : Value) (w w' : World) (h : SprR9 W K m' c' A' e x pad j v w) (hb : Below w.heap.size w w') : SprR9 W K m' c' A' e x pad j v w' := by
  match j with
  | 0 => exact h
  | 1 => exact h
  | 2 => exact h
  | 3 => exact h
  | 4 => exact h
  | 5 => exact h
  | 6 => exact h
  | _ + 7 => trivial
def SprR10 (W : World) (K m' c' : Nat) (A' : Option Addr) (e : BD) (y pad : Int) : Nat → Value → World → Prop
  | 0, v, _ => v = (.int .i64 y)
  | 1, v, _ => v = (.int .i64 pad)
  | 2, v, _ => v = .int .i64 (Fl.P1.add y pad)
  | 3, v, _ => v = .pointer (some ⟨K, 1, none⟩)
  | 4, v, _ => v = .pointer (some ⟨K, 2, none⟩)
  | 5, v, _ => v = .int .i64 e.y
  | 6, v, _ => v = .int .i64 (Fl.P1.add (Fl.P1.add y pad) e.y)
  | _, _, _ => True
theorem SprR10_keep (W : World) (K m' c' : Nat) (A' : Option Addr) (e : BD) (y pad : Int) (j : Nat) (v : Value) (w w' : World) (h : SprR10 W K m' c' A' e y pad j v w) (hb : Below w.heap.size w w') : SprR10 W K m' c' A' e y pad j v w' := by
  match j with
  | 0 => exact h
  | 1 => exact h
  | 2 => exact h
  | 3 => exact h
  | 4 => exact h
  | 5 => exact h
  | 6 => exact h
  | _ + 7 => trivial
def SprR11 (W : World) (X K bp op k n4 c1 c2 c3 c4 b1 b2 b3 m1 m2 m' c' : Nat) (A1 A2 A3 B1 B2 B3 B4 A' : Option Addr) (d f : SD) (e : BD) (u10 : Value) (kx ky : Int) (new : List En) : Nat → Value → World → Prop
  | 0, v, _ => v = u10
  | 1, v, _ => v = .pointer (some ⟨X, 7, none⟩)
  | 2, v, _ => v = .slice (some ⟨bp, op, none⟩) n4 c4
  | 3, v, _ => v = (.int .i64 (k : Nat))
  | 4, v, _ => v = .pointer (some ⟨bp, op + k * 8, none⟩)
  | 5, v, _ => v = sV f (.slice B1 f.cl.length b1) (.slice B2 f.at_.length b2) (.slice B3 f.st.length b3) (.slice B4 m1 m2)
  | 6, v, _ => v = .agg #[.int .i64 e.id, .int .i64 e.x, .int .i64 e.y, .int .i64 e.w, .int .i64 e.h, .slice A' m' c']
  | 7, v, _ => v = (.int .i64 kx)
  | 8, v, _ => v = (.int .i64 ky)
  | 9, v, w => ∃ A c, v = .slice A new.length c ∧ w.ownsRow W.heap.size 113 5 (.slice A new.length c) new.length (new.flatMap cvE)
  | _, _, _ => True
theorem SprR11_keep (W : World) (X K bp op k n4 c1 c2 c3 c4 b1 b2 b3 m1 m2 m' c' : Nat) (A1 A2 A3 B1 B2 B3 B4 A' : Option Addr) (d f : SD) (e : BD) (u10 : Value) (kx ky : Int) (new : List En) (j : Nat) (v : Value) (w w' : World) (h : SprR11 W X K bp op k n4 c1 c2 c3 c4 b1 b2 b3 m1 m2 m' c' A1 A2 A3 B1 B2 B3 B4 A' d f e u10 kx ky new j v w) (hb : Below w.heap.size w w') : SprR11 W X K bp op k n4 c1 c2 c3 c4 b1 b2 b3 m1 m2 m' c' A1 A2 A3 B1 B2 B3 B4 A' d f e u10 kx ky new j v w' := by
  match j with
  | 0 => exact h
  | 1 => exact h
  | 2 => exact h
  | 3 => exact h
  | 4 => exact h
  | 5 => exact h
  | 6 => exact h
  | 7 => exact h
  | 8 => exact h
  | 9 => exact (by obtain ⟨A, c, h1, h2⟩ := h; exact ⟨A, c, h1, own_keep h2 hb⟩)
  | _ + 10 => trivial

end Go.Proofs.YtaalhglooipnaaaGreat
namespace Go.Proofs.YtaalhglooipnaaaGreat
open Go.RowKit RT
attribute [local go_sem ↓] Go.wp_at_zero Go.wp_at_succ

set_option maxRecDepth 100000 in
set_option maxHeartbeats 8000000 in
theorem rspread_any (m : Nat) : ∀ (t : STr) (v vb : Value) (p : Int × Int) (x y g : Int) (w : World), m ≤ 40 → t.size ≤ m → All stOk t → IsT sK w (Old w) t v → IsT bK w (Old w) (boxT t p g) vb → Calls Tryz.prog 39 #[v, vb, .int .i64 x, .int .i64 y] w (REnPost w (placeT t x y g)) := by
  induction m with
  | zero => intro t v vb p x y g w _ h; have := size_pos t; omega
  | succ m ih =>
    intro t v vb p x y g w hm hsz hal hT hBT
    have hpl := placeT_len t x y g
    have hpk := placeT_kids t x y g
    obtain ⟨A4, c4, vs, ⟨a1, a2, a3, rfl, hr⟩, hvs, hks⟩ := IsT.eq.1 hT
    obtain ⟨hs, hals⟩ := All.eq.1 hal
    have hks1 := fun k hk => kid_size hsz k hk
    obtain ⟨A6, c6, us, hvb, hus, hbs⟩ := IsT.eq.1 hBT
    have hvb : vb = bV (boxT t p g).dat (.slice A6 (boxT t p g).kids.length c6) := hvb
    subst hvb
    have hbd : (boxT t p g).dat = ⟨t.dat.id, p.1, p.2, (sizeT t g).1, (sizeT t g).2⟩ := by rw [boxT_eq]; rfl
    rw [boxT_kids] at hus hbs ⊢
    rw [hbd]
    obtain ⟨sw, hsw⟩ : ∃ sw, sw = (sizeT t g).1 := ⟨_, rfl⟩
    obtain ⟨sh, hsh⟩ : ∃ sh, sh = (sizeT t g).2 := ⟨_, rfl⟩
    rw [← hsw, ← hsh] at hpk ⊢
    obtain ⟨II, hI⟩ : ∃ II, II = insV t.dat g := ⟨_, rfl⟩
    rw [← hI] at hpk hus hbs ⊢
    have hkb := fun k => kidsB_at (d := t.dat) (ks := t.kids) (k := k)
    have hpl2 := ptsB_len t.dat II t.kids
    have hkl : (kidsB t.dat t.kids).length ≤ m := Nat.le_trans (kidsB_len _ _) (kids_len hsz)
    have hsk : sizes (kidsB t.dat t.kids) ≤ m := by
      rw [size_eq] at hsz
      unfold kidsB
      split
      · rw [sizes]; omega
      · omega
    obtain ⟨ks2, hks2⟩ : ∃ ks2, ks2 = kidsB t.dat t.kids := ⟨_, rfl⟩
    obtain ⟨ps2, hps2⟩ : ∃ ps2, ps2 = ptsB t.dat II t.kids := ⟨_, rfl⟩
    rw [← hks2, ← hps2] at hpk hus hbs hpl2 ⊢
    rw [← hks2] at hkl hkb hsk
    rw [boxesT_len t.dat II ks2 ps2 hpl2] at hus ⊢
    have hba := fun k kd => boxesT_at t.dat II ks2 ps2 k kd
    obtain ⟨d, hd⟩ : ∃ d, d = t.dat := ⟨_, rfl⟩
    obtain ⟨ks, hkse⟩ : ∃ ks, ks = t.kids := ⟨_, rfl⟩
    obtain ⟨P, hP⟩ : ∃ P, P = placeT t x y g := ⟨_, rfl⟩
    obtain ⟨bs, hbse⟩ : ∃ bs, bs = boxesT t.dat II ks2 ps2 := ⟨_, rfl⟩
    rw [← hP] at hpl hpk ⊢
    rw [← hbse] at hbs hba
    rw [← hd] at hr hs hpk hba ⊢
    rw [← hkse] at hvs hks hals hks1 hkb ⊢
    have hpm : P.length ≤ m + 1 := Nat.le_trans hpl hsz
    obtain ⟨n, hn⟩ : ∃ n, n = ks2.length := ⟨_, rfl⟩
    rw [← hn] at hkl hus hpl2 hkb ⊢
    have HN := Lib.hid (And.intro hn (And.intro hpl2 (And.intro hba (And.intro hkb (And.intro hpk (And.intro hpm hsk))))))
    have hBt : bs.length = n := by rw [hbse, boxesT_len _ _ _ _ (by rw [← hn]; exact hpl2), ← hn]
    have HBL := Lib.hid hBt
    clear hT hal hBT hbd hsw hsh hI hks2 hps2 hd hkse hP hbse hn hpl2 hba hkb hpk hpm hBt hsz hpl hsk
    obtain ⟨A1, c1, A2, c2, A3, c3, rfl, rfl, rfl, hrr⟩ := hr
    have hr : Rows3 w (Old w) d.cl d.at_ d.st (.slice A1 d.cl.length c1) (.slice A2 d.at_.length c2) (.slice A3 d.st.length c3) := ⟨A1, c1, A2, c2, A3, c3, rfl, rfl, rfl, hrr⟩
    obtain ⟨w1, hw1, hX, hY, hB0, hs1⟩ := two_new w (sC d (.slice A1 d.cl.length c1) (.slice A2 d.at_.length c2) (.slice A3 d.st.length c3) (.slice A4 ks.length c4)).toArray (bC ⟨d.id, p.1, p.2, sw, sh⟩ (.slice A6 n c6)).toArray 68 118
    unfold sV sC bV bC
    unfold sC bC at hw1
    unfold sC at hX
    unfold bC at hY
    go_enter Tryz.func39, Tryz.ntmps39
    go_upto_region 1 with fail
    rw [← hw1]
    obtain ⟨X, hXe⟩ : ∃ X, X = w.heap.size := ⟨_, rfl⟩
    rw [← hXe] at hX hY hs1 ⊢
    have b0 : w1.cell? ⟨X + 1, 0, none⟩ = some (.int .i64 d.id) := hY.cell 0
    have b1 : w1.cell? ⟨X + 1, 1, none⟩ = some (.int .i64 p.1) := hY.cell 1
    have b2 : w1.cell? ⟨X + 1, 2, none⟩ = some (.int .i64 p.2) := hY.cell 2
    have b3 : w1.cell? ⟨X + 1, 3, none⟩ = some (.int .i64 sw) := hY.cell 3
    have b4 : w1.cell? ⟨X + 1, 4, none⟩ = some (.int .i64 sh) := hY.cell 4
    obtain ⟨w2, hw2, hK, hB2, hs2⟩ := one_new w1 #[.int .i64 p.1, .int .i64 p.2, .int .i64 sw, .int .i64 sh] 111
    have HX := Lib.hid (hX.below hB2 hX.lt)
    have HY := Lib.hid (hY.below hB2 hY.lt)
    have HB := Lib.hid (hB0.trans (hB2.mono hB0.size))
    have HR0 := Lib.hid (And.intro hr (And.intro hvs (And.intro hks (And.intro hus hbs))))
    have HXE := Lib.hid (And.intro hXe (And.intro hs1 hs2))
    clear hw1 hX hY hB0 hr hrr hvs hks hus hbs hXe hs1 hs2
    go_upto_region 2 with fail
    rw [← hw2]
    obtain ⟨K, hKe⟩ : ∃ K, K = w1.heap.size := ⟨_, rfl⟩
    rw [← hKe] at hK HXE ⊢
    have r0 : w2.cell? ⟨K, 0, none⟩ = some (.int .i64 p.1) := hK.cell 0
    have f0 : w2.frozen? ⟨K, 0, none⟩ = false := hK.frozen 0
    have hK3 := hK.set_ 0 (.int .i64 x)
    have HXL := Lib.hid (show X + 2 ≤ K ∧ X = w.heap.size ∧ w2.heap.size = K + 1 by have := HXE.out; omega)
    clear hw2 hB2 hKe b0 b1 b2 b3 b4
    go_upto_region 3 with fail
    obtain ⟨w3, hw3⟩ : ∃ w3, w3 = w2.setCell ⟨K, 0, none⟩ (.int .i64 x) := ⟨_, rfl⟩
    have hB3 : Below (X + 2) w2 w3 := by rw [hw3]; exact (Below.refl _ _).setCell (p := ⟨K, 0, none⟩) (show X + 2 ≤ K by have := HXL.out; omega) _
    rw [← hw3] at hK3 ⊢
    have r1 : w3.cell? ⟨K, 1, none⟩ = some (.int .i64 p.2) := hK3.cell 1
    have f1 : w3.frozen? ⟨K, 1, none⟩ = false := hK3.frozen 1
    have hK4 := hK3.set_ 1 (.int .i64 y)
    clear hK hw3 r0 f0
    go_upto_region 4 with fail
    obtain ⟨w4, hw4⟩ : ∃ w4, w4 = w3.setCell ⟨K, 1, none⟩ (.int .i64 y) := ⟨_, rfl⟩
    have hB4 : Below (X + 2) w2 w4 := by rw [hw4]; exact hB3.setCell (p := ⟨K, 1, none⟩) (show X + 2 ≤ K by have := HXL.out; omega) _
    rw [← hw4] at hK4 ⊢
    clear hw4 hB3 hK3 r1 f1
    simp only [List.setIfInBounds_toArray, List.set_cons_succ, List.set_cons_zero] at hK4
    have r0 : w4.cell? ⟨K, 0, none⟩ = some (.int .i64 x) := hK4.cell 0
    have r1 : w4.cell? ⟨K, 1, none⟩ = some (.int .i64 y) := hK4.cell 1
    have r2 : w4.cell? ⟨K, 2, none⟩ = some (.int .i64 sw) := hK4.cell 2
    have r3 : w4.cell? ⟨K, 3, none⟩ = some (.int .i64 sh) := hK4.cell 3
    have b0 : w4.cell? ⟨X + 1, 0, none⟩ = some (.int .i64 d.id) := (hB4.cell (p := ⟨X + 1, 0, none⟩) (by show X + 1 < X + 2; omega)).trans (HY.out.cell 0)
    obtain ⟨w5, hw5, hO, hB5, hs5⟩ := one_new w4 #[.int .i64 d.id, .int .i64 x, .int .i64 y, .int .i64 sw, .int .i64 sh] 113
    have hB6 : Below w.heap.size w2 w5 := (hB4.mono (by have := HXL.out; omega)).trans (hB5.mono (Nat.le_trans HB.out.size hB4.size))
    have HOW := Lib.hid (show w5.ownsRow (X + 2) 113 5 (.slice (some ⟨w4.heap.size, 0, none⟩) 1 1) 1 ([(d.id, x, y, sw, sh)].flatMap cvE) by rw [hw5]; exact World.ownsRow_lit w4 _ 1 (by have := HXL.out; have := hB4.size; omega) (by decide) rfl)
    have HX5 := Lib.hid (show X + 2 ≤ w5.heap.size by have := HXL.out; have := hB4.size; have := hB5.size; omega)
    have hBX : Below (X + 2) w2 w5 := hB4.trans (hB5.mono (by have := HXL.out; have := hB4.size; omega))
    have HXb := Lib.hid ((HX.out.below hBX (by omega)))
    have HYb := Lib.hid ((HY.out.below hBX (by omega)))
    have HBb := Lib.hid (HB.out.trans hB6)
    have HRb := Lib.hid (HR0.out.1.old HBb.out)
    have HKS := Lib.hid (And.intro (show Vs 8 w5 (Old w) A4 ks.length vs from HR0.out.2.1.move (.of_below HBb.out fun _ h => h)) (And.intro (HR0.out.2.2.1.move (w' := w5) (.of_below HBb.out fun _ h => h)) (And.intro (show Vs 6 w5 (Old w) A6 n us from HR0.out.2.2.2.1.move (.of_below HBb.out fun _ h => h)) (And.intro (HR0.out.2.2.2.2.move (w' := w5) (.of_below HBb.out fun _ h => h)) (fun b (h : Old w b) => show b < X + 2 from Nat.lt_of_lt_of_le h (by have := HXL.out; omega))))))
    clear HX HY HB HR0
    have HX := HXb
    have HY := HYb
    have HB := HBb
    have HR := HRb
    clear HXb HYb HBb HRb
    go_upto_region 5 with fail
    rw [← hw5]
    obtain ⟨G5, hG5⟩ : ∃ G, G = w4.heap.size := ⟨_, rfl⟩
    rw [← hG5] at HOW ⊢
    clear hG5 hw5 hO hB5 hs5 hB6 hBX hB4 hK4 r0 r1 r2 r3 b0
    obtain ⟨x0, x1, x2, x3, x4, x5, x6, x7⟩ := rcells (a1 := .slice A1 d.cl.length c1) (a2 := .slice A2 d.at_.length c2) (a3 := .slice A3 d.st.length c3) (k := .slice A4 ks.length c4) HX.out
    go_wp2_with fail
    have hc2 := rstyle_any d (.slice A1 d.cl.length c1) (.slice A2 d.at_.length c2) (.slice A3 d.st.length c3) A4 ks.length c4 nmPad w5 HR.out hs
    unfold sV sC at hc2
    refine hc2.mono ?_
    clear hc2
    rintro e6 w6 ⟨rfl, hb6⟩
    obtain ⟨pad, hpad⟩ : ∃ pad, pad = styV d nmPad := ⟨_, rfl⟩
    rw [← hpad]
    have HPD := Lib.hid hpad
    have HOW6 := Lib.hid (own_keep HOW.out hb6)
    have HB6 := Lib.hid (hb6.mono HX5.out)
    have y5 : w6.cell? ⟨X + 1, 5, none⟩ = some (.slice A6 n c6) := (HY.out.below hb6 HY.out.lt).cell 5
    obtain ⟨tre, hti, hz0, hz1, hz2⟩ := info_parts ren_info
    clear hpad hb6 x0 x1 x2 x3 x4 x5 x6 x7 HOW
    go_wp2_with fail
    go_loopw [10, 36] (fun u i wx => ∃ k, k ≤ n ∧ i = .int .i64 (k : Nat) ∧ Below (X + 2) w5 wx ∧ wx.ownsRow (X + 2) 113 5 u ((d.id, x, y, sw, sh) :: placesT d II x y (ks2.take k) (ps2.take k)).length (((d.id, x, y, sw, sh) :: placesT d II x y (ks2.take k) (ps2.take k)).flatMap cvE)) (fun _ i _ => n - (intOf i).toNat)
    case atStart => exact ⟨0, Nat.zero_le _, rfl, HB6.out, by rw [List.take_zero, List.take_zero, placesT] <;> first | exact HOW6.out | simp⟩
    case round =>
      obtain ⟨k, hk, rfl, hb, hown⟩ := hrel
      obtain ⟨v0, hv0⟩ : ∃ v0, v0 = u10 := ⟨_, rfl⟩
      rw [← hv0] at hown ⊢
      clear hv0
      by_cases hlt : k < n
      · obtain ⟨hk', hk2⟩ := HN.out.2.2.2.1 k hlt
        obtain ⟨kd, hkd⟩ : ∃ kd : STr, kd = ks[k]'hk' := ⟨_, rfl⟩
        rw [← hkd] at hk2
        have hkd1 : kd.size ≤ m := by rw [hkd]; exact hks1 k hk'
        have hkd2 : All stOk kd := by rw [hkd]; exact hals.at_ k hk'
        have hT : IsT sK w5 (Old w) kd (vs.getD k agg0) := by rw [hkd]; exact HKS.out.2.1.at_ k hk'
        clear hkd
        have hpk2 : k < ps2.length := by rw [HN.out.2.1]; exact hlt
        have hbk := HN.out.2.2.1 k kd hk2 hpk2
        obtain ⟨l1, hl1⟩ : ∃ l1, l1 = (d.id, x, y, sw, sh) :: placesT d II x y (ks2.take (k + 1)) (ps2.take (k + 1)) := ⟨_, rfl⟩
        have hl1s : l1.length ≤ m + 1 := by
          rw [hl1, List.length_cons]
          have h1 := placesT_len d II x y (ks2.take (k + 1)) (ps2.take (k + 1))
          have h2 := sizes_take ks2 (k + 1)
          have h3 := HN.out.2.2.2.2.2.2
          omega
        have HL1 := Lib.hid hl1
        rw [placesT_take d II x y kd ks2 ps2 k hk2 hpk2, ← HPD.out] at hl1
        obtain ⟨pk, hpk⟩ : ∃ pk, pk = ps2.getD k (0, 0) := ⟨_, rfl⟩
        obtain ⟨G, hG⟩ : ∃ G, G = givenT d kd II := ⟨_, rfl⟩
        rw [← hpk, ← hG] at hl1 hbk
        obtain ⟨l0, hl0⟩ : ∃ l0, l0 = (d.id, x, y, sw, sh) :: placesT d II x y (ks2.take k) (ps2.take k) := ⟨_, rfl⟩
        rw [← List.cons_append, ← hl0] at hl1
        rw [← hl0] at hown
        clear hl0 hpk hG hpk2 hk2
        obtain ⟨A', c', hu, hBk⟩ := HKS.out.2.2.2.1.get hbk
        have hex : (boxT kd pk G).dat.x = pk.1 := by rw [boxT_eq]; rfl
        have hey : (boxT kd pk G).dat.y = pk.2 := by rw [boxT_eq]; rfl
        obtain ⟨bk, hbke⟩ : ∃ bk, bk = boxT kd pk G := ⟨_, rfl⟩
        rw [← hbke] at hu hBk hex hey
        obtain ⟨e, he⟩ : ∃ e, e = bk.dat := ⟨_, rfl⟩
        obtain ⟨m', hm'⟩ : ∃ m', m' = bk.kids.length := ⟨_, rfl⟩
        rw [← he] at hu hBk hex hey
        rw [← hm'] at hu hBk
        rw [← hex, ← hey] at hl1
        have huv : us.getD k agg0 = bV e (.slice A' m' c') := by simp [List.getD, hu]
        obtain ⟨bq, oq, rfl, hbB, d0, d1, d2, d3, d4, d5⟩ := Vs.box HKS.out.2.2.1 k hlt huv (Still.of_below hb HKS.out.2.2.2.2)
        obtain ⟨B4, m2, vs', ⟨k1, k2, k3, hv, B1, b1, B2, b2, B3, b3, rfl, rfl, rfl, _⟩, _, _⟩ := IsT.eq.1 hT
        obtain ⟨f, hf⟩ : ∃ f, f = kd.dat := ⟨_, rfl⟩
        obtain ⟨m1, hm1⟩ : ∃ m1, m1 = kd.kids.length := ⟨_, rfl⟩
        rw [← hf, ← hm1] at hv
        obtain ⟨bp, op, rfl, hbp, t0⟩ := Vs.shown HKS.out.1 k hk' hv (Still.of_below hb HKS.out.2.2.2.2)
        rw [hv] at hT
        have i1 : (0 : Int) ≤ (k : Int) := by omega
        have i2 : (k : Int) < (n : Int) := by omega
        obtain ⟨wk, hwk, hK, hBw, hsk⟩ := one_new wr (bC e (.slice A' m' c')).toArray 118
        unfold bC at hwk hK
        have HBK := Lib.hid (hb.trans (hBw.mono (Nat.le_trans HX5.out hb.size)))
        have HOK := Lib.hid (own_keep hown hBw)
        have HT8 := Lib.hid (show At8 wr bp (op + k * 8) f (.slice B1 f.cl.length b1) (.slice B2 f.at_.length b2) (.slice B3 f.st.length b3) (.slice B4 m1 m2) ∧ bp < wr.heap.size ∧ k < ks.length from ⟨t0, Nat.lt_of_lt_of_le (HKS.out.2.2.2.2 bp hbp) (Nat.le_trans HX5.out hb.size), hk'⟩)
        have HBR := Lib.hid (show Below wr.heap.size wr wk from hBw)
        obtain ⟨new, hnew⟩ : ∃ new, new = placeT kd (Fl.P1.add (Fl.P1.add x pad) e.x) (Fl.P1.add (Fl.P1.add y pad) e.y) G := ⟨_, rfl⟩
        have hnp : 0 < new.length := by rw [hnew, placeT_eq]; simp
        have hnl : new.length ≤ 41 := by
          have := placeT_len kd (Fl.P1.add (Fl.P1.add x pad) e.x) (Fl.P1.add (Fl.P1.add y pad) e.y) G
          rw [hnew]; omega
        have HIH0 := Lib.hid (fun wx (hbx : Below (X + 2) w5 wx) => ih kd _ _ pk (Fl.P1.add (Fl.P1.add x pad) e.x) (Fl.P1.add (Fl.P1.add y pad) e.y) G wx (by omega) hkd1 hkd2
          ((hT.move (.of_below hbx HKS.out.2.2.2.2)).weak fun b hb' => Nat.lt_of_lt_of_le (HKS.out.2.2.2.2 b hb') (Nat.le_trans HX5.out hbx.size))
          (by rw [← hbke]; exact (hBk.move (.of_below hbx HKS.out.2.2.2.2)).weak fun b hb' => Nat.lt_of_lt_of_le (HKS.out.2.2.2.2 b hb') (Nat.le_trans HX5.out hbx.size)))
        rw [← hnew] at hl1 HIH0
        have HNW := Lib.hid (And.intro hl1 (And.intro hl1s (And.intro hnp hnl)))
        clear hl1 hl1s hnp hnl hnew hT hBk hv hf hm1 huv hu hex hey hbke he hm' hbk t0 hbp hk' y5
        go_upto_region 9 with fail
        rw [← hwk]
        obtain ⟨K9, hK9e⟩ : ∃ K9, K9 = wr.heap.size := ⟨_, rfl⟩
        rw [← hK9e] at hK ⊢
        have HK := Lib.hid hK
        clear hwk hK hBw hsk hK9e d0 d1 d2 d3 d4 d5 hbB hb hown
        refine wp_region_tail 7 _ ?_ ?_ ?_ ?_ (SprR9 wk K9 m' c' A' e x pad) (fun j v wx wy => SprR9_keep _ _ _ _ _ _ _ _ j v wx wy) ?_ ?_ ?_
        · kernel_rfl
        · kernel_rfl
        · kernel_rfl
        · kernel_rfl
        · refine ⟨opV rfl fun s wx hb hd => ⟨_, ex_mv rfl (lit_out 2 (by kernel_rfl)), rfl⟩, ?_⟩
          refine ⟨opV rfl fun s wx hb hd => ⟨_, ex_mv rfl (lit_out 11 (by kernel_rfl)), rfl⟩, ?_⟩
          refine ⟨opC rfl fun s wx hb hd => ⟨_, _, ex_c2 rfl rfl (enters Tryz.func74 (by kernel_rfl) rfl _ _) ((lit_at 0 41 (by kernel_rfl) (by kernel_rfl) (by kernel_rfl)).trans (hd 0 (by kernel_rfl))) ((lit_at 1 42 (by kernel_rfl) (by kernel_rfl) (by kernel_rfl)).trans (hd 1 (by kernel_rfl))), ?_⟩, ?_⟩
          · refine (Fl.radd_any x pad wx).mono ?_
            rintro e1 w1 ⟨rfl, rfl⟩
            exact ⟨_, rfl, rfl, Below.refl _ _⟩
          refine ⟨opV rfl fun s wx hb hd => ⟨_, ex_fld rfl (lit_out 14 (by kernel_rfl)) (fa_bx_1 _ wx), rfl⟩, ?_⟩
          refine ⟨opV rfl fun s wx hb hd => ⟨_, ex_fld rfl ((lit_at 3 44 (by kernel_rfl) (by kernel_rfl) (by kernel_rfl)).trans (hd 3 (by kernel_rfl))) (fai_rr_0 _ 1 wx), rfl⟩, ?_⟩
          refine ⟨opV rfl fun s wx hb hd => ⟨_, ex_ld rfl ((lit_at 4 45 (by kernel_rfl) (by kernel_rfl) (by kernel_rfl)).trans (hd 4 (by kernel_rfl))) (ld_int (((HK.out).below hb (HK.out).lt).cell 1)), rfl⟩, ?_⟩
          refine ⟨opC rfl fun s wx hb hd => ⟨_, _, ex_c2 rfl rfl (enters Tryz.func74 (by kernel_rfl) rfl _ _) ((lit_at 2 43 (by kernel_rfl) (by kernel_rfl) (by kernel_rfl)).trans (hd 2 (by kernel_rfl))) ((lit_at 5 46 (by kernel_rfl) (by kernel_rfl) (by kernel_rfl)).trans (hd 5 (by kernel_rfl))), ?_⟩, ?_⟩
          · refine (Fl.radd_any (Fl.P1.add x pad) e.x wx).mono ?_
            rintro e1 w1 ⟨rfl, rfl⟩
            exact ⟨_, rfl, rfl, Below.refl _ _⟩
          trivial
        rotate_left
        · kernel_rfl
        intro s9 wx9 hbz9 hV
        have e6 : s9 6 = .int .i64 (Fl.P1.add (Fl.P1.add x pad) e.x) := hV 6 (by omega)
        clear hV
        simp only [List.take_succ_cons, List.take_zero, List.drop_succ_cons, List.drop_zero, litOf, List.map_cons, List.map_nil, Nat.zero_add, Nat.reduceAdd, Act.put, List.setIfInBounds_toArray, List.set_cons_succ, List.set_cons_zero]
        refine wpList_val rfl (ex_asg rfl e6) ?_
        simp only [Act.put, List.setIfInBounds_toArray, List.set_cons_succ, List.set_cons_zero]
        refine wpList_nil ?_
        have HKn := Lib.hid (HK.out.below hbz9 HK.out.lt)
        have HBn := Lib.hid (HBK.out.trans (hbz9.mono (Nat.le_trans HX5.out HBK.out.size)))
        have HBRn := Lib.hid (HBR.out.trans (hbz9.mono HBR.out.size))
        have HOn := Lib.hid (own_keep HOK.out hbz9)
        clear e6 hbz9 HK HBK HOK HBR
        have HK := HKn
        have HBK := HBn
        have HOK := HOn
        have HBR := HBRn
        clear HKn HBn HOn HBRn
        go_upto_region 10 with fail
        refine wp_region_tail 7 _ ?_ ?_ ?_ ?_ (SprR10 wx9 K9 m' c' A' e y pad) (fun j v wx wy => SprR10_keep _ _ _ _ _ _ _ _ j v wx wy) ?_ ?_ ?_
        · kernel_rfl
        · kernel_rfl
        · kernel_rfl
        · kernel_rfl
        · refine ⟨opV rfl fun s wx hb hd => ⟨_, ex_mv rfl (lit_out 3 (by kernel_rfl)), rfl⟩, ?_⟩
          refine ⟨opV rfl fun s wx hb hd => ⟨_, ex_mv rfl (lit_out 11 (by kernel_rfl)), rfl⟩, ?_⟩
          refine ⟨opC rfl fun s wx hb hd => ⟨_, _, ex_c2 rfl rfl (enters Tryz.func74 (by kernel_rfl) rfl _ _) ((lit_at 0 48 (by kernel_rfl) (by kernel_rfl) (by kernel_rfl)).trans (hd 0 (by kernel_rfl))) ((lit_at 1 49 (by kernel_rfl) (by kernel_rfl) (by kernel_rfl)).trans (hd 1 (by kernel_rfl))), ?_⟩, ?_⟩
          · refine (Fl.radd_any y pad wx).mono ?_
            rintro e1 w1 ⟨rfl, rfl⟩
            exact ⟨_, rfl, rfl, Below.refl _ _⟩
          refine ⟨opV rfl fun s wx hb hd => ⟨_, ex_fld rfl (lit_out 14 (by kernel_rfl)) (fa_bx_1 _ wx), rfl⟩, ?_⟩
          refine ⟨opV rfl fun s wx hb hd => ⟨_, ex_fld rfl ((lit_at 3 51 (by kernel_rfl) (by kernel_rfl) (by kernel_rfl)).trans (hd 3 (by kernel_rfl))) (fai_rr_1 _ 1 wx), rfl⟩, ?_⟩
          refine ⟨opV rfl fun s wx hb hd => ⟨_, ex_ld rfl ((lit_at 4 52 (by kernel_rfl) (by kernel_rfl) (by kernel_rfl)).trans (hd 4 (by kernel_rfl))) (ld_int (((HK.out).below hb (HK.out).lt).cell 2)), rfl⟩, ?_⟩
          refine ⟨opC rfl fun s wx hb hd => ⟨_, _, ex_c2 rfl rfl (enters Tryz.func74 (by kernel_rfl) rfl _ _) ((lit_at 2 50 (by kernel_rfl) (by kernel_rfl) (by kernel_rfl)).trans (hd 2 (by kernel_rfl))) ((lit_at 5 53 (by kernel_rfl) (by kernel_rfl) (by kernel_rfl)).trans (hd 5 (by kernel_rfl))), ?_⟩, ?_⟩
          · refine (Fl.radd_any (Fl.P1.add y pad) e.y wx).mono ?_
            rintro e1 w1 ⟨rfl, rfl⟩
            exact ⟨_, rfl, rfl, Below.refl _ _⟩
          trivial
        rotate_left
        · kernel_rfl
        intro s10 wy9 hbz10 hV
        have e6 : s10 6 = .int .i64 (Fl.P1.add (Fl.P1.add y pad) e.y) := hV 6 (by omega)
        clear hV
        simp only [List.take_succ_cons, List.take_zero, List.drop_succ_cons, List.drop_zero, litOf, List.map_cons, List.map_nil, Nat.zero_add, Nat.reduceAdd, Act.put, List.setIfInBounds_toArray, List.set_cons_succ, List.set_cons_zero]
        refine wpList_val rfl (ex_asg rfl e6) ?_
        simp only [Act.put, List.setIfInBounds_toArray, List.set_cons_succ, List.set_cons_zero]
        refine wpList_nil ?_
        have HKn := Lib.hid (HK.out.below hbz10 HK.out.lt)
        have HBn := Lib.hid (HBK.out.trans (hbz10.mono (Nat.le_trans HX5.out HBK.out.size)))
        have HBRn := Lib.hid (HBR.out.trans (hbz10.mono HBR.out.size))
        have HOn := Lib.hid (own_keep HOK.out hbz10)
        clear e6 hbz10 HK HBK HOK HBR
        have HK := HKn
        have HBK := HBn
        have HOK := HOn
        have HBR := HBRn
        clear HKn HBn HOn HBRn
        obtain ⟨kx, hkx⟩ : ∃ kx, kx = Fl.P1.add (Fl.P1.add x pad) e.x := ⟨_, rfl⟩
        obtain ⟨ky, hky⟩ : ∃ ky, ky = Fl.P1.add (Fl.P1.add y pad) e.y := ⟨_, rfl⟩
        rw [← hkx, ← hky] at HIH0
        rw [← hkx, ← hky]
        clear hkx hky
        go_upto_region 11 with fail
        have HX0 := HX
        have HX := Lib.hid (HX0.out.below HBK.out (by omega))
        have HKP := Lib.hid HT8.out.2.2
        have HKT := Lib.hid (show At8 wy9 bp (op + k * 8) f (.slice B1 f.cl.length b1) (.slice B2 f.at_.length b2) (.slice B3 f.st.length b3) (.slice B4 m1 m2) ∧ bp < wy9.heap.size from ⟨HT8.out.1.below HBR.out HT8.out.2.1, Nat.lt_of_lt_of_le HT8.out.2.1 HBR.out.size⟩)
        have HIH := Lib.hid (show ∀ wx, Below wy9.heap.size wy9 wx → Calls Tryz.prog 39 #[sV f (.slice B1 f.cl.length b1) (.slice B2 f.at_.length b2) (.slice B3 f.st.length b3) (.slice B4 m1 m2), .agg #[.int .i64 e.id, .int .i64 e.x, .int .i64 e.y, .int .i64 e.w, .int .i64 e.h, .slice A' m' c'], .int .i64 kx, .int .i64 ky] wx (REnPost wx new) from fun wx hbx => HIH0.out wx (HBK.out.trans (hbx.mono (Nat.le_trans HX5.out HBK.out.size))))
        refine wp_region_tail3 10 _ ?_ ?_ ?_ ?_ (SprR11 wy9 X K9 bp op k ks.length c1 c2 c3 c4 b1 b2 b3 m1 m2 m' c' A1 A2 A3 B1 B2 B3 B4 A' d f e v0 kx ky new) (fun j v wx wy => SprR11_keep _ _ _ _ _ _ _ _ _ _ _ _ _ _ _ _ _ _ _ _ _ _ _ _ _ _ _ _ _ _ _ _ _ j v wx wy) ?_ ?_ ?_
        · kernel_rfl
        · kernel_rfl
        · kernel_rfl
        · kernel_rfl
        · refine ⟨opV rfl fun s wx hb hd => ⟨_, ex_mv rfl (lit_out 10 (by kernel_rfl)), rfl⟩, ?_⟩
          refine ⟨opV rfl fun s wx hb hd => ⟨_, ex_fld rfl (lit_out 4 (by kernel_rfl)) (fa_rt_7 _ wx), rfl⟩, ?_⟩
          refine ⟨opV rfl fun s wx hb hd => ⟨_, ex_ld rfl ((lit_at 1 56 (by kernel_rfl) (by kernel_rfl) (by kernel_rfl)).trans (hd 1 (by kernel_rfl))) (ld_Lscrimref09_Tree (((HX.out).below hb (HX.out).lt).cell 7)), rfl⟩, ?_⟩
          refine ⟨opV rfl fun s wx hb hd => ⟨_, ex_mv rfl (lit_out 13 (by kernel_rfl)), rfl⟩, ?_⟩
          refine ⟨opV rfl fun s wx hb hd => ⟨_, ex_idx rfl ((lit_at 2 57 (by kernel_rfl) (by kernel_rfl) (by kernel_rfl)).trans (hd 2 (by kernel_rfl))) ((lit_at 3 58 (by kernel_rfl) (by kernel_rfl) (by kernel_rfl)).trans (hd 3 (by kernel_rfl))) (ix_rt HKP.out wx), rfl⟩, ?_⟩
          refine ⟨opV rfl fun s wx hb hd => ⟨_, ex_ld rfl ((lit_at 4 59 (by kernel_rfl) (by kernel_rfl) (by kernel_rfl)).trans (hd 4 (by kernel_rfl))) ((HKT.out.1.below hb HKT.out.2).ld), rfl⟩, ?_⟩
          refine ⟨opV rfl fun s wx hb hd => ⟨_, ex_ld rfl (lit_out 14 (by kernel_rfl)) (ld_row ((HK.out).below hb (HK.out).lt) Tryz.underlying118 sz_bx), rfl⟩, ?_⟩
          refine ⟨opV rfl fun s wx hb hd => ⟨_, ex_mv rfl (lit_out 15 (by kernel_rfl)), rfl⟩, ?_⟩
          refine ⟨opV rfl fun s wx hb hd => ⟨_, ex_mv rfl (lit_out 16 (by kernel_rfl)), rfl⟩, ?_⟩
          refine ⟨opC rfl fun s wx hb hd => ⟨_, _, ex_c4 rfl rfl (enters Tryz.func39 (by kernel_rfl) rfl _ _) ((lit_at 5 60 (by kernel_rfl) (by kernel_rfl) (by kernel_rfl)).trans (hd 5 (by kernel_rfl))) ((lit_at 6 61 (by kernel_rfl) (by kernel_rfl) (by kernel_rfl)).trans (hd 6 (by kernel_rfl))) ((lit_at 7 62 (by kernel_rfl) (by kernel_rfl) (by kernel_rfl)).trans (hd 7 (by kernel_rfl))) ((lit_at 8 63 (by kernel_rfl) (by kernel_rfl) (by kernel_rfl)).trans (hd 8 (by kernel_rfl))), ?_⟩, ?_⟩
          · refine (HIH.out wx hb).mono ?_
            rintro e1 w1 ⟨A, c, rfl, ho, hb'⟩
            exact ⟨_, rfl, ⟨A, c, rfl, own_base ho hb.size⟩, hb'⟩
          trivial
        rotate_left
        · kernel_rfl
        intro s11 wz hbz hV
        have e0 : s11 0 = v0 := hV 0 (by omega)
        obtain ⟨A9, c9, e9, ho9⟩ := hV 9 (by omega)
        clear hV
        simp only [List.take_succ_cons, List.take_zero, List.drop_succ_cons, List.drop_zero, litOf, List.map_cons, List.map_nil, Nat.zero_add, Nat.reduceAdd, Act.put, List.setIfInBounds_toArray, List.set_cons_succ, List.set_cons_zero]
        obtain ⟨g9, cap9, hv9, _, _⟩ := ho9.form HNW.out.2.2.1
        obtain ⟨rfl, rfl⟩ : A9 = some ⟨g9, 0, none⟩ ∧ c9 = cap9 := by injection hv9; exact ⟨by assumption, by assumption⟩
        have hoz := own_keep HOK.out hbz
        have hbw := HBK.out.trans (hbz.mono (Nat.le_trans HX5.out HBK.out.size))
        have hbs := Nat.le_trans HX5.out hbw.size
        have hl1 := HNW.out.1
        have hll : l1.length = l0.length + new.length := by rw [hl1, List.length_append]
        have hlm := HNW.out.2.1
        refine wpList_append_lies _ rfl _ _ _ rfl (X + 2) 113 tre _ 5 40 Tryz.underlying64 hti hz0 hz1 hz2 rfl (by decide) v0 l0.length _ e0 hoz ⟨g9, 0, none⟩ new.length c9 (new.flatMap cvE) e9 (cvE_len new) (fun j u hj => ho9.cells (g := g9) rfl j u hj) (cvE_one new) HNW.out.2.2.1 (by unfold maxLen; omega) (by omega) hbs _ rfl ?_
        intro g2 cap2 w9 hown hg hat hlt9
        have HS := Lib.hid (show Below (X + 2) w5 w9 ∧ w9.ownsRow (X + 2) 113 5 (.slice (some ⟨g2, 0, none⟩) (l0.length + new.length) cap2) ((d.id, x, y, sw, sh) :: placesT d II x y (ks2.take (k + 1)) (ps2.take (k + 1))).length (((d.id, x, y, sw, sh) :: placesT d II x y (ks2.take (k + 1)) (ps2.take (k + 1))).flatMap cvE) from by
          refine ⟨?_, ?_⟩
          · exact hbw.grown hg hbs (fun j hj => (hoz.lt j hj).1)
          · rw [← HL1.out, hll, hl1, List.flatMap_append]; exact hown)
        refine wpList_val rfl (ex_asg rfl rfl) ?_
        simp only [Act.put, List.setIfInBounds_toArray, List.set_cons_succ, List.set_cons_zero]
        refine wpList_nil ?_
        clear hown hg hat hlt9 hbw hbs hoz hl1 hll hlm hv9 ho9 e0 e9 hbz
        obtain ⟨ln, hln⟩ : ∃ ln, ln = l0.length + new.length := ⟨_, rfl⟩
        rw [← hln] at HS ⊢
        clear hln
        go_wp2_with fail
        go_roundw
        case rel => exact ⟨k + 1, by omega, by go_num, HS.out⟩
        case measure => simp [intOf]; omega
      · obtain rfl : k = n := by omega
        have hf : (d.id, x, y, sw, sh) :: placesT d II x y (ks2.take k) (ps2.take k) = P := by
          rw [show ks2.take k = ks2 by rw [HN.out.1, List.take_length], show ps2.take k = ps2 by rw [← HN.out.2.1, List.take_length]]
          exact HN.out.2.2.2.2.1.symm
        rw [hf] at hown
        obtain ⟨A9, c9, rfl⟩ := own_form hown
        have HF := Lib.hid (And.intro (own_base hown (base' := w.heap.size) (by have := HXL.out; omega)) (HB.out.trans (hb.mono (by have := HXL.out; omega))))
        obtain ⟨pn, hpn⟩ : ∃ pn, pn = P.length := ⟨_, rfl⟩
        rw [← hpn] at HF ⊢
        have HPN := Lib.hid hpn
        clear hf hown hb hpn hlt hk y5
        go_wp2_with fail
        go_ret
        exact ⟨A9, c9, by rw [← HPN.out] <;> rfl, by rw [← HPN.out]; exact HF.out.1, HF.out.2⟩

end Go.Proofs.YtaalhglooipnaaaGreat
