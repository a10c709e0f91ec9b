/-
  Same of layer 9: the walk.
  Told of layer 9's law: a shown tree, as the document's.
  Told of layer 9's law: the walk.
-/
import Derived.Test.YtaalhglooipnaaaGreatL33
import Derived.Test.YtaalhglooipnaaaGreatL04
import Derived.Test.YtaalhglooipnaaaGreatL02
import Derived.Test.YtaalhglooipnaaaGreatL19
import Derived.Test.YtaalhglooipnaaaGreatL21
import Derived.Deep.AppendLies
namespace Go.Proofs.YtaalhglooipnaaaGreat
open Go.RowKit RT
attribute [local go_sem ↓] Go.wp_at_zero Go.wp_at_succ

theorem Alk.eq {a b : STr} : Alk a b ↔ ({ a.dat with id := 0 } : SD) = { b.dat with id := 0 } ∧ Alks a.kids b.kids := by
  cases a; cases b; rw [Alk]; rfl
set_option maxRecDepth 100000 in
set_option maxHeartbeats 8000000 in
theorem sames_any (m : Nat) : ∀ (a b : STr) (va vb : Value) (w : World), m ≤ 400 → a.size ≤ m → Alk a b → All sfew a → All sfew b → IsT sK w (Old w) a va → IsT sK w (Old w) b vb → Calls Tryz.prog 17 #[va, vb] w (SmPost w) := by
  induction m with
  | zero => intro a b va vb w _ h; have := size_pos a; omega
  | succ m ih =>
    intro a b va vb w hm hsz hab hfa hfb hTa hTb
    obtain ⟨A4, c4, vs, ⟨a1, a2, a3, rfl, hr⟩, hvs, hks⟩ := IsT.eq.1 hTa
    obtain ⟨B4, g4, us, ⟨b1, b2, b3, rfl, hr'⟩, hus, hls⟩ := IsT.eq.1 hTb
    obtain ⟨hd, hkk⟩ := Alk.eq.1 hab
    obtain ⟨hf1, hf2⟩ := All.eq.1 hfa
    obtain ⟨_, hf4⟩ := All.eq.1 hfb
    have hks1 := fun k hk => kid_size hsz k hk
    have hkl := kids_len hsz
    rw [hkk.len] at hus ⊢
    obtain ⟨d, hde⟩ : ∃ d, d = a.dat := ⟨_, rfl⟩
    obtain ⟨e, hee⟩ : ∃ e, e = b.dat := ⟨_, rfl⟩
    obtain ⟨ks, hkse⟩ : ∃ ks, ks = a.kids := ⟨_, rfl⟩
    obtain ⟨ls, hlse⟩ : ∃ ls, ls = b.kids := ⟨_, rfl⟩
    rw [← hde, ← hee] at hd
    rw [← hde] at hr hf1 ⊢
    rw [← hee] at hr' ⊢
    rw [← hkse] at hvs hks hkk hf2 hks1 hkl hus ⊢
    rw [← hlse] at hls hkk hf4
    clear hab hfa hfb hTa hTb hde hee hkse hlse hsz
    obtain ⟨i1, kd, tg, tx, cl, at_, st⟩ := d
    obtain ⟨i2, kd', tg', tx', cl', at', st'⟩ := e
    simp only [SD.mk.injEq, true_and] at hd
    obtain ⟨rfl, rfl, rfl, rfl, rfl, rfl⟩ := hd
    obtain ⟨A1, c1, A2, c2, A3, c3, rfl, rfl, rfl, hrr⟩ := hr
    obtain ⟨B1, g1, B2, g2, B3, g3, rfl, rfl, rfl, hrr'⟩ := hr'
    have HF := Lib.hid hf1
    have hE := fun wx (hb : Below w.heap.size w wx) => eqf_any m (fun a b va vb w h => ih a b va vb w (by omega) h) ks ls A4 B4 c4 g4 vs us wx hks1 (by omega) hkk hf2 hf4 ((RdS.move hvs (.of_below hb fun _ h => h)).weak fun b h => Nat.lt_of_lt_of_le h hb.size) (hks.keep hb) ((RdS.move hus (.of_below hb fun _ h => h)).weak fun b h => Nat.lt_of_lt_of_le h hb.size) (hls.keep hb)
    have HE := Lib.hid hE
    have HR := Lib.hid (And.intro hrr hrr')
    obtain ⟨w1, hw1, hX, hY, hB0, hs1⟩ := two_new w (sC ⟨i1, kd, tg, tx, cl, at_, st⟩ (.slice A1 cl.length c1) (.slice A2 at_.length c2) (.slice A3 st.length c3) (.slice A4 ks.length c4)).toArray (sC ⟨i2, kd, tg, tx, cl, at_, st⟩ (.slice B1 cl.length g1) (.slice B2 at_.length g2) (.slice B3 st.length g3) (.slice B4 ks.length g4)).toArray 40 40
    unfold sV sC
    unfold sC at hX hY hw1
    clear hE hrr hrr' hf1 hvs hks hus hls hkk hf2 hf4 hks1 ih hkl
    go_enter Tryz.func17, Tryz.ntmps17
    go_upto_region 1 with fail
    rw [← hw1]
    clear hw1
    obtain ⟨X, hXe⟩ : ∃ X, X = w.heap.size := ⟨_, rfl⟩
    rw [← hXe] at hX hY ⊢
    have HX := Lib.hid hX
    have HY := Lib.hid hY
    have HB := Lib.hid hB0
    obtain ⟨x0, x1, x2, x3, x4, x5, x6, x7⟩ := scells (d := ⟨i1, kd, tg, tx, cl, at_, st⟩) (a1 := .slice A1 cl.length c1) (a2 := .slice A2 at_.length c2) (a3 := .slice A3 st.length c3) (k := .slice A4 ks.length c4) hX
    obtain ⟨y0, y1, y2, y3, y4, y5, y6, y7⟩ := scells (d := ⟨i2, kd, tg, tx, cl, at_, st⟩) (a1 := .slice B1 cl.length g1) (a2 := .slice B2 at_.length g2) (a3 := .slice B3 st.length g3) (k := .slice B4 ks.length g4) hY
    clear hXe hX hY hB0 hs1
    go_wp2_with fail
    refine (same_any A1 B1 cl.length c1 g1 w1.heap.size w1.heap.size cl w1 ((HR.out.1.1.move (w' := w1) (.of_below HB.out fun _ h => h)).rd fun b h => Nat.lt_of_lt_of_le h HB.out.size) ((HR.out.2.1.move (w' := w1) (.of_below HB.out fun _ h => h)).rd fun b h => Nat.lt_of_lt_of_le h HB.out.size) (by have := HF.out.1; simp at this; omega)).mono ?_
    rintro e2 w2 ⟨rfl, hb2⟩
    have HX2 := Lib.hid (HX.out.below hb2 HX.out.lt)
    have HY2 := Lib.hid (HY.out.below hb2 HY.out.lt)
    have HB2 := Lib.hid (HB.out.trans (hb2.mono HB.out.size))
    clear hb2 x0 x1 x2 x3 x4 x5 x6 x7 y0 y1 y2 y3 y4 y5 y6 y7
    obtain ⟨x0, x1, x2, x3, x4, x5, x6, x7⟩ := scells (d := ⟨i1, kd, tg, tx, cl, at_, st⟩) (a1 := .slice A1 cl.length c1) (a2 := .slice A2 at_.length c2) (a3 := .slice A3 st.length c3) (k := .slice A4 ks.length c4) HX2.out
    obtain ⟨y0, y1, y2, y3, y4, y5, y6, y7⟩ := scells (d := ⟨i2, kd, tg, tx, cl, at_, st⟩) (a1 := .slice B1 cl.length g1) (a2 := .slice B2 at_.length g2) (a3 := .slice B3 st.length g3) (k := .slice B4 ks.length g4) HY2.out
    go_wp2_with fail
    refine (St.sameP_any A2 B2 at_.length c2 at_.length g2 at_ at_ w2 ((HR.out.1.2.1.move (w' := w2) (.of_below HB2.out fun _ h => h)).rd fun b h => Nat.lt_of_lt_of_le h HB2.out.size) ((HR.out.2.2.1.move (w' := w2) (.of_below HB2.out fun _ h => h)).rd fun b h => Nat.lt_of_lt_of_le h HB2.out.size) rfl (by have := HF.out.2.1; simp at this; omega) (by have := HF.out.2.1; simp at this; omega)).mono ?_
    rintro e3 w3 ⟨rfl, hb3⟩
    have HX3 := Lib.hid (HX2.out.below hb3 HX2.out.lt)
    have HY3 := Lib.hid (HY2.out.below hb3 HY2.out.lt)
    have HB3 := Lib.hid (HB2.out.trans (hb3.mono HB2.out.size))
    clear hb3 x0 x1 x2 x3 x4 x5 x6 x7 y0 y1 y2 y3 y4 y5 y6 y7
    obtain ⟨x0, x1, x2, x3, x4, x5, x6, x7⟩ := scells (d := ⟨i1, kd, tg, tx, cl, at_, st⟩) (a1 := .slice A1 cl.length c1) (a2 := .slice A2 at_.length c2) (a3 := .slice A3 st.length c3) (k := .slice A4 ks.length c4) HX3.out
    obtain ⟨y0, y1, y2, y3, y4, y5, y6, y7⟩ := scells (d := ⟨i2, kd, tg, tx, cl, at_, st⟩) (a1 := .slice B1 cl.length g1) (a2 := .slice B2 at_.length g2) (a3 := .slice B3 st.length g3) (k := .slice B4 ks.length g4) HY3.out
    go_wp2_with fail
    refine (sameP_any A3 B3 st.length c3 st.length g3 st st w3 ((HR.out.1.2.2.move (w' := w3) (.of_below HB3.out fun _ h => h)).rd fun b h => Nat.lt_of_lt_of_le h HB3.out.size) ((HR.out.2.2.2.move (w' := w3) (.of_below HB3.out fun _ h => h)).rd fun b h => Nat.lt_of_lt_of_le h HB3.out.size) rfl (by have := HF.out.2.2; simp at this; omega) (by have := HF.out.2.2; simp at this; omega)).mono ?_
    rintro e4 w4 ⟨rfl, hb4⟩
    have HX4 := Lib.hid (HX3.out.below hb4 HX3.out.lt)
    have HY4 := Lib.hid (HY3.out.below hb4 HY3.out.lt)
    have HB4 := Lib.hid (HB3.out.trans (hb4.mono HB3.out.size))
    clear hb4 x0 x1 x2 x3 x4 x5 x6 x7 y0 y1 y2 y3 y4 y5 y6 y7
    obtain ⟨x0, x1, x2, x3, x4, x5, x6, x7⟩ := scells (d := ⟨i1, kd, tg, tx, cl, at_, st⟩) (a1 := .slice A1 cl.length c1) (a2 := .slice A2 at_.length c2) (a3 := .slice A3 st.length c3) (k := .slice A4 ks.length c4) HX4.out
    obtain ⟨y0, y1, y2, y3, y4, y5, y6, y7⟩ := scells (d := ⟨i2, kd, tg, tx, cl, at_, st⟩) (a1 := .slice B1 cl.length g1) (a2 := .slice B2 at_.length g2) (a3 := .slice B3 st.length g3) (k := .slice B4 ks.length g4) HY4.out
    go_wp2_with fail
    refine (HE.out w4 HB4.out).mono ?_
    rintro e5 w5 ⟨rfl, hb5⟩
    have HB5 := Lib.hid (HB4.out.trans (hb5.mono HB4.out.size))
    clear hb5 x0 x1 x2 x3 x4 x5 x6 x7 y0 y1 y2 y3 y4 y5 y6 y7
    go_wp2_with fail
    go_ret
    exact ⟨rfl, HB5.out⟩

end Go.Proofs.YtaalhglooipnaaaGreat
namespace Go.Proofs.YtaalhglooipnaaaGreat
open Go.RowKit RT
attribute [local go_sem ↓] Go.wp_at_zero Go.wp_at_succ

theorem bld_rt (d : SD) (A4 : Option Addr) (n4 c4 : Nat) (w : World) :
    (Instr.build 68 #[(0, .int .i64 d.id), (1, .int .i64 d.kind), (2, .string d.tag), (3, .string d.text), (4, .slice A4 n4 c4)]).run Tryz.prog w = .ok (sV d (.slice A4 n4 c4) (.slice none 0 0) (.slice none 0 0) (.slice none 0 0)) w := by
  unfold sV sC
  go_simp
def TldR1 (W : World) (X : Nat) (d : SD) (A1 A2 A3 A4 : Option Addr) (c1 c2 c3 n4 c4 : Nat) : Nat → Value → World → Prop
  | 0, v, _ => v = .pointer (some ⟨X, 0, none⟩)
  | 1, v, _ => v = .int .i64 d.id
  | 2, v, _ => v = .pointer (some ⟨X, 1, none⟩)
  | 3, v, _ => v = .int .i64 d.kind
  | 4, v, _ => v = .pointer (some ⟨X, 2, none⟩)
  | 5, v, _ => v = .string d.tag
  | 6, v, _ => v = .pointer (some ⟨X, 3, none⟩)
  | 7, v, _ => v = .string d.text
  | 8, v, _ => ∃ B0, v = .slice B0 0 0
  | 9, v, _ => v = .pointer (some ⟨X, 4, none⟩)
  | 10, v, _ => v = .slice A1 d.cl.length c1
  | 11, v, w => RowS W.heap.size d.cl v w
  | 12, v, w => ∃ u4, v = sV d u4 (.slice none 0 0) (.slice none 0 0) (.slice none 0 0) ∧ RowS W.heap.size d.cl u4 w
  | 13, v, w => NewAt W.heap.size 68 zs_rt v w
  | _, _, _ => True
theorem TldR1_keep (W : World) (X : Nat) (d : SD) (A1 A2 A3 A4 : Option Addr) (c1 c2 c3 n4 c4 : Nat) (j : Nat) (v : Value) (w w' : World) (h : TldR1 W X d A1 A2 A3 A4 c1 c2 c3 n4 c4 j v w) (hb : Below w.heap.size w w') : TldR1 W X d A1 A2 A3 A4 c1 c2 c3 n4 c4 j v w' := by
  match j with
  | 0 => exact h
  | 1 => exact h
  | 2 => exact h
  | 3 => exact h
  | 4 => exact h
  | 5 => exact h
  | 6 => exact h
  | 7 => exact h
  | 8 => exact h
  | 9 => exact h
  | 10 => exact h
  | 11 => exact Row.keep h hb
  | 12 => exact (by obtain ⟨u4, e, h1⟩ := h; exact ⟨u4, e, h1.keep hb⟩)
  | 13 => exact NewAt.keep h hb
  | _ + 14 => trivial
/-- What is known of a tree that is told: i attributes, j styles, so many kids. -/
def TlI (w1 : World) (N : Nat) (d : SD) (i j : Nat) (ts : List STr) (u4 u5 u6 u7 : Value) (us : List Value) (wx : World) : Prop :=
  Below w1.heap.size w1 wx ∧ w1.heap.size ≤ N ∧ Blk wx N 68 (sC d u4 u5 u6 u7).toArray ∧ RowS w1.heap.size d.cl u4 wx ∧
  wx.ownsRow w1.heap.size 89 2 u5 i ((d.at_.take i).flatMap St.cvP) ∧ wx.ownsRow w1.heap.size 120 2 u6 j ((d.st.take j).flatMap cvP) ∧
  wx.ownsRow w1.heap.size 68 8 u7 ts.length (us.flatMap (cvK 8)) ∧ u7.ownBlock ≠ some N ∧
  IsTs sK wx (fun b => w1.heap.size ≤ b ∧ b < wx.heap.size ∧ b ≠ N ∧ u7.ownBlock ≠ some b) ts us

section
variable {w1 wr wz w5 : World} {N i j : Nat} {d : SD} {ts : List STr} {u4 u5 u6 u7 v : Value} {us : List Value}
theorem TlI.attr (h : TlI w1 N d i 0 [] u4 u5 (.slice none 0 0) (.slice none 0 0) [] wr) (hb : Below wr.heap.size wr wz) (hi : i < d.at_.length) (hc : Chg (fun b => u5.ownBlock = some b ∨ b = N) wz w5) (hN : Blk w5 N 68 ((sC d u4 u5 (.slice none 0 0) (.slice none 0 0)).toArray.setIfInBounds 5 v))
    (hown : w5.ownsRow w1.heap.size 89 2 v (i + 1) ((d.at_.take i).flatMap St.cvP ++ [.string (d.at_.getD i St.pr0).1, .string (d.at_.getD i St.pr0).2])) : TlI w1 N d (i + 1) 0 [] u4 v (.slice none 0 0) (.slice none 0 0) [] w5 := by
  obtain ⟨h1, h2, h3, h4, h5, h6, h7, h8, h9⟩ := h
  have h3z := h3.below hb h3.lt
  have h5z := own_keep h5 hb
  have hT : ∀ b, (u5.ownBlock = some b ∨ b = N) → w1.heap.size ≤ b := by
    rintro b (hi | rfl)
    · exact (h5.lt b hi).1
    · exact h2
  refine ⟨(h1.trans (hb.mono h1.size)).trans (hc.below (Nat.le_trans h1.size hb.size) hT), h2, hN, (h4.keep hb).chg hc ?_, ?_, World.ownsRow_nil _ _ _ _, World.ownsRow_nil _ _ _ _, h8, ?_⟩
  · rintro b cs _ hb' (e | rfl)
    · exact own_blk_ne h5z hb' (by decide) e
    · exact Blk.ne_ hb' h3z (by decide) rfl
  · rw [take_snoc d.at_ St.pr0 i hi, St.cvP_snoc]
    exact hown
  · rw [IsTs]
theorem TlI.sty (h : TlI w1 N d d.at_.length j [] u4 u5 u6 (.slice none 0 0) [] wr) (hb : Below wr.heap.size wr wz) (hj : j < d.st.length) (hc : Chg (fun b => u6.ownBlock = some b ∨ b = N) wz w5) (hN : Blk w5 N 68 ((sC d u4 u5 u6 (.slice none 0 0)).toArray.setIfInBounds 6 v))
    (hown : w5.ownsRow w1.heap.size 120 2 v (j + 1) ((d.st.take j).flatMap cvP ++ [.string (d.st.getD j pr0).1, .int .i64 (d.st.getD j pr0).2])) : TlI w1 N d d.at_.length (j + 1) [] u4 u5 v (.slice none 0 0) [] w5 := by
  obtain ⟨h1, h2, h3, h4, h5, h6, h7, h8, h9⟩ := h
  have h3z := h3.below hb h3.lt
  have h5z := own_keep h5 hb
  have h6z := own_keep h6 hb
  have hT : ∀ b, (u6.ownBlock = some b ∨ b = N) → w1.heap.size ≤ b := by
    rintro b (hi | rfl)
    · exact (h6.lt b hi).1
    · exact h2
  refine ⟨(h1.trans (hb.mono h1.size)).trans (hc.below (Nat.le_trans h1.size hb.size) hT), h2, hN, (h4.keep hb).chg hc ?_, hc.own h5z ?_, ?_, World.ownsRow_nil _ _ _ _, h8, ?_⟩
  · rintro b cs _ hb' (e | rfl)
    · exact own_blk_ne h6z hb' (by decide) e
    · exact Blk.ne_ hb' h3z (by decide) rfl
  · rintro g hg (e | rfl)
    · rcases own_own_ne h5z h6z (by decide) with h | h
      · rw [hg] at h; cases h
      · exact h (by rw [hg, e])
    · exact own_blk_ne h5z h3z (by decide) hg
  · rw [take_snoc d.st pr0 j hj]
    have e : (d.st.take j ++ [d.st.getD j pr0]).flatMap cvP = (d.st.take j).flatMap cvP ++ [.string (d.st.getD j pr0).1, .int .i64 (d.st.getD j pr0).2] := by simp [cvP]
    rw [e]
    exact hown
  · rw [IsTs]
theorem TlI.kid {t : STr} {v' : Value} (h : TlI w1 N d d.at_.length d.st.length ts u4 u5 u6 u7 us wr) (hb : Below wr.heap.size wr wz) (ht : IsT sK wz (Fresh wr.heap.size wz) t v') (hc : Chg (fun i => u7.ownBlock = some i ∨ i = N) wz w5) (hN : Blk w5 N 68 ((sC d u4 u5 u6 u7).toArray.setIfInBounds 7 v))
    (hown : w5.ownsRow w1.heap.size 68 8 v (ts.length + 1) (us.flatMap (cvK 8) ++ cvK 8 v')) (hvN : v.ownBlock ≠ some N) (hat : v.ownBlock = u7.ownBlock ∨ v.ownBlock = some wz.heap.size) : TlI w1 N d d.at_.length d.st.length (ts ++ [t]) u4 u5 u6 v (us ++ [v']) w5 := by
  obtain ⟨h1, h2, h3, h4, h5, h6, h7, h8, h9⟩ := h
  have h3z := h3.below hb h3.lt
  have h5z := own_keep h5 hb
  have h6z := own_keep h6 hb
  have h7z := own_keep h7 hb
  have hT : ∀ i, (u7.ownBlock = some i ∨ i = N) → w1.heap.size ≤ i := by
    rintro i (hi | rfl)
    · exact (h7.lt i hi).1
    · exact h2
  have hNlt := h3.lt
  refine ⟨(h1.trans (hb.mono h1.size)).trans (hc.below (Nat.le_trans h1.size hb.size) hT), h2, hN, (h4.keep hb).chg hc ?_, hc.own h5z ?_, hc.own h6z ?_, ?_, hvN, ?_⟩
  · rintro b cs _ hb' (e | rfl)
    · exact own_blk_ne h7z hb' (by decide) e
    · exact Blk.ne_ hb' h3z (by decide) rfl
  · rintro g hg (e | rfl)
    · rcases own_own_ne h5z h7z (by decide) with h | h
      · rw [hg] at h; cases h
      · exact h (by rw [hg, e])
    · exact own_blk_ne h5z h3z (by decide) hg
  · rintro g hg (e | rfl)
    · rcases own_own_ne h6z h7z (by decide) with h | h
      · rw [hg] at h; cases h
      · exact h (by rw [hg, e])
    · exact own_blk_ne h6z h3z (by decide) hg
  · rw [List.length_append, List.flatMap_append]
    simpa using hown
  · have hold : IsTs sK w5 (fun b => w1.heap.size ≤ b ∧ b < w5.heap.size ∧ b ≠ N ∧ v.ownBlock ≠ some b) ts us := by
      refine ((h9.move (.of_below hb fun b hb => hb.2.1)).move (hc.still fun b hb' => ⟨Nat.lt_of_lt_of_le hb'.2.1 hb.size, ?_⟩)).weak fun b hb' => ⟨hb'.1, Nat.lt_of_lt_of_le hb'.2.1 (Nat.le_trans hb.size hc.size), hb'.2.2.1, ?_⟩
      · rintro (e | e)
        · exact hb'.2.2.2 e
        · exact hb'.2.2.1 e
      · rcases hat with e | e
        · rw [e]; exact hb'.2.2.2
        · rw [e]; have := hb'.2.1; have := hb.size; simp only [ne_eq, Option.some.injEq]; omega
    refine hold.snoc ((ht.move (hc.still fun b hb' => ⟨hb'.2, ?_⟩)).weak fun b hb' => ⟨Nat.le_trans h1.size hb'.1, Nat.lt_of_lt_of_le hb'.2 hc.size, by have := hb'.1; omega, ?_⟩)
    · rintro (e | e)
      · have := (h7.lt b e).2; have := hb'.1; omega
      · have := hb'.1; omega
    · rcases hat with e | e
      · rw [e]; intro e2; have := (h7.lt b e2).2; have := hb'.1; omega
      · rw [e]; have := hb'.2; simp only [ne_eq, Option.some.injEq]; omega
theorem TlI.done (h : TlI w1 N d d.at_.length d.st.length ts u4 u5 u6 u7 us wr) : IsT sK wr (fun b => w1.heap.size ≤ b ∧ b < wr.heap.size) (.mk d ts) (sV d u4 u5 u6 u7) := by
  obtain ⟨h1, h2, h3, h4, h5, h6, h7, h8, h9⟩ := h
  obtain ⟨A4, c4, rfl, r4⟩ := h4.rd
  obtain ⟨A5, c5, rfl⟩ := own_form h5
  obtain ⟨A6, c6, rfl⟩ := own_form h6
  obtain ⟨A7, c7, rfl⟩ := own_form h7
  rw [List.take_length] at h5 h6
  rw [IsT.eq]
  exact ⟨A7, c7, us, ⟨_, _, _, rfl, A4, c4, A5, c5, A6, c6, rfl, rfl, rfl, r4, RdS.of_own (fun _ _ => rfl) h5 rfl, RdS.of_own (fun _ _ => rfl) h6 rfl⟩, RdS.of_own (fun _ _ => cvK_len 8 _) h7 h9.len, h9.weak fun b hb => ⟨hb.1, hb.2.1⟩⟩
end

end Go.Proofs.YtaalhglooipnaaaGreat
namespace Go.Proofs.YtaalhglooipnaaaGreat
open Go.RowKit RT
attribute [local go_sem ↓] Go.wp_at_zero Go.wp_at_succ

def TldR15 (W : World) (N K9 : Nat) (d e : SD) (u4 u5 u6 u7 k1 k2 k3 k4 : Value) (t : STr) : Nat → Value → World → Prop
  | 0, v, _ => v = .pointer (some ⟨N, 7, none⟩)
  | 1, v, _ => v = u7
  | 2, v, _ => v = .agg #[.int .i64 e.id, .int .i64 e.kind, .string e.tag, .string e.text, k1, k2, k3, k4]
  | 3, v, w => IsT sK w (Fresh W.heap.size w) t v
  | 4, v, w => NewT sK 68 W.heap.size t v w
  | _, _, _ => True
theorem TldR15_keep (W : World) (N K9 : Nat) (d e : SD) (u4 u5 u6 u7 k1 k2 k3 k4 : Value) (t : STr) (j : Nat) (v : Value) (w w' : World) (h : TldR15 W N K9 d e u4 u5 u6 u7 k1 k2 k3 k4 t j v w) (hb : Below w.heap.size w w') : TldR15 W N K9 d e u4 u5 u6 u7 k1 k2 k3 k4 t j v w' := by
  match j with
  | 0 => exact h
  | 1 => exact h
  | 2 => exact h
  | 3 => exact h.fresh hb
  | 4 => exact NewT.keep h hb
  | _ + 5 => trivial
theorem at_infoT : (Tryz.prog.info? 89).map (fun i => (i.zero, i.size, i.bytes)) = some (some (.agg #[.string ByteArray.empty, .string ByteArray.empty]), 2, 32) := by kernel_rfl
theorem pr_infoT : (Tryz.prog.info? 120).map (fun i => (i.zero, i.size, i.bytes)) = some (some (.agg #[.string ByteArray.empty, .int .i64 0]), 2, 24) := by kernel_rfl
theorem rt_infoT : (Tryz.prog.info? 68).map (fun i => (i.zero, i.size, i.bytes)) = some (some (.agg zs_rt), 8, 144) := by kernel_rfl
def tfew (d : SD) : Prop := d.cl.length ≤ 500 ∧ d.at_.length ≤ 500 ∧ d.st.length ≤ 500
set_option maxRecDepth 100000 in
set_option maxHeartbeats 8000000 in
theorem told_any (m : Nat) : ∀ (t : STr) (v : Value) (w : World), t.size ≤ m → m ≤ 1000 → All tfew t → IsT sK w (Old w) t v →
    Calls Tryz.prog 16 #[v] w (Hands (fun v' w' => IsT sK w' (Fresh w.heap.size w') t v') w) := by
  induction m with
  | zero => intro t v w h; have := size_pos t; omega
  | succ m ih =>
    intro t v w hsz hm hvb hT
    obtain ⟨A4, c4, vs, ⟨a1, a2, a3, rfl, hrows⟩, hvs, hks⟩ := IsT.eq.1 hT
    obtain ⟨A1, c1, A2, c2, A3, c3, rfl, rfl, rfl, r1, r2, r3⟩ := hrows
    obtain ⟨hv1, hv2⟩ := All.eq.1 hvb
    obtain ⟨hb1, hb2, hb3⟩ := hv1
    have hkl := kids_len hsz
    have hks1 := fun k hk => kid_size hsz k hk
    obtain ⟨d, hd⟩ : ∃ d, d = t.dat := ⟨_, rfl⟩
    obtain ⟨ks, hkse⟩ : ∃ ks, ks = t.kids := ⟨_, rfl⟩
    have HT := Lib.hid (show t = RT.mk d ks by rw [hd, hkse]; cases t; rfl)
    rw [← hd] at r1 r2 r3 hb1 hb2 hb3 ⊢
    rw [← hkse] at hvs hks hv2 hkl hks1 ⊢
    clear hT hvb hd hkse hsz
    obtain ⟨w1, hw1, hX, hR, hB0, hs1⟩ := two_new w (sC d (.slice A1 d.cl.length c1) (.slice A2 d.at_.length c2) (.slice A3 d.st.length c3) (.slice A4 ks.length c4)).toArray zs_rt 40 68
    unfold sV sC
    unfold sC zs_rt at hw1
    unfold sC at hX
    go_enter Tryz.func16, Tryz.ntmps16
    go_upto_region 1 with fail
    rw [← hw1]
    obtain ⟨X, hXe⟩ : ∃ X, X = w.heap.size := ⟨_, rfl⟩
    rw [← hXe] at hX hR hs1 ⊢
    have HX := Lib.hid (And.intro hX (And.intro (r1.move (.of_below hB0 fun _ h => h)) (fun b (h : Old w b) => show b < w1.heap.size from Nat.lt_of_lt_of_le h hB0.size)))
    have HK := Lib.hid (And.intro hR (And.intro hB0 (And.intro (r2.move (.of_below hB0 fun _ h => h)) (And.intro (r3.move (.of_below hB0 fun _ h => h)) (And.intro (show Vs 8 w1 (Old w) A4 ks.length vs from hvs.move (.of_below hB0 fun _ h => h)) (hks.move (.of_below hB0 fun _ h => h)))))))
    have HXE := Lib.hid (And.intro hXe hs1)
    clear hX hR hB0 hw1 hXe hs1 r1 r2 r3 hvs hks
    refine wp_region_tail 14 _ ?_ ?_ ?_ ?_ (TldR1 w1 X d A1 A2 A3 A4 c1 c2 c3 ks.length c4) (fun j v wx wy => TldR1_keep _ _ _ _ _ _ _ _ _ _ _ _ j v wx wy) ?_ ?_ ?_
    · kernel_rfl
    · kernel_rfl
    · kernel_rfl
    · kernel_rfl
    · refine ⟨opV rfl fun s wx hb hd => ⟨_, ex_fld rfl (lit_out 1 (by kernel_rfl)) (fa_st_0 _ wx), rfl⟩, ?_⟩
      refine ⟨opV rfl fun s wx hb hd => ⟨_, ex_ld rfl ((lit_at 0 10 (by kernel_rfl) (by kernel_rfl) (by kernel_rfl)).trans (hd 0 (by kernel_rfl))) (ld_int (((HX.out.1).below hb (HX.out.1).lt).cell 0)), rfl⟩, ?_⟩
      refine ⟨opV rfl fun s wx hb hd => ⟨_, ex_fld rfl (lit_out 1 (by kernel_rfl)) (fa_st_1 _ wx), rfl⟩, ?_⟩
      refine ⟨opV rfl fun s wx hb hd => ⟨_, ex_ld rfl ((lit_at 2 12 (by kernel_rfl) (by kernel_rfl) (by kernel_rfl)).trans (hd 2 (by kernel_rfl))) (ld_int (((HX.out.1).below hb (HX.out.1).lt).cell 1)), rfl⟩, ?_⟩
      refine ⟨opV rfl fun s wx hb hd => ⟨_, ex_fld rfl (lit_out 1 (by kernel_rfl)) (fa_st_2 _ wx), rfl⟩, ?_⟩
      refine ⟨opV rfl fun s wx hb hd => ⟨_, ex_ld rfl ((lit_at 4 14 (by kernel_rfl) (by kernel_rfl) (by kernel_rfl)).trans (hd 4 (by kernel_rfl))) (ld_string (((HX.out.1).below hb (HX.out.1).lt).cell 2)), rfl⟩, ?_⟩
      refine ⟨opV rfl fun s wx hb hd => ⟨_, ex_fld rfl (lit_out 1 (by kernel_rfl)) (fa_st_3 _ wx), rfl⟩, ?_⟩
      refine ⟨opV rfl fun s wx hb hd => ⟨_, ex_ld rfl ((lit_at 6 16 (by kernel_rfl) (by kernel_rfl) (by kernel_rfl)).trans (hd 6 (by kernel_rfl))) (ld_string (((HX.out.1).below hb (HX.out.1).lt).cell 3)), rfl⟩, ?_⟩
      refine ⟨opN rfl fun s wx hb hd => ⟨_, _, ex_bsl0 rfl (bsl0_S wx), ⟨_, rfl⟩, below_alloc _ _⟩, ?_⟩
      refine ⟨opV rfl fun s wx hb hd => ⟨_, ex_fld rfl (lit_out 1 (by kernel_rfl)) (fa_st_4 _ wx), rfl⟩, ?_⟩
      refine ⟨opV rfl fun s wx hb hd => ⟨_, ex_ld rfl ((lit_at 9 19 (by kernel_rfl) (by kernel_rfl) (by kernel_rfl)).trans (hd 9 (by kernel_rfl))) (ld_Lstring (((HX.out.1).below hb (HX.out.1).lt).cell 4)), rfl⟩, ?_⟩
      refine ⟨opN rfl fun s wx hb hd => ?_, ?_⟩
      · obtain ⟨B0, h0⟩ := (hd 8 (by kernel_rfl))
        obtain ⟨v', w', hr, hrow, hb'⟩ := app_S wx 25 B0 A1 _ c1 d.cl _ (HX.out.2.1.move (.of_below hb HX.out.2.2)) (by omega)
        exact ⟨v', w', ex_app rfl ((lit_at 8 18 (by kernel_rfl) (by kernel_rfl) (by kernel_rfl)).trans h0) ((lit_at 10 20 (by kernel_rfl) (by kernel_rfl) (by kernel_rfl)).trans (hd 10 (by kernel_rfl))) hr, hrow.low hb.size, hb'⟩
      refine ⟨opV rfl fun s wx hb hd => ?_, ?_⟩
      · obtain ⟨A5, c5, e5, h5⟩ := (hd 11 (by kernel_rfl))
        exact ⟨_, ex_bld5 rfl ((lit_at 1 11 (by kernel_rfl) (by kernel_rfl) (by kernel_rfl)).trans (hd 1 (by kernel_rfl))) ((lit_at 3 13 (by kernel_rfl) (by kernel_rfl) (by kernel_rfl)).trans (hd 3 (by kernel_rfl))) ((lit_at 5 15 (by kernel_rfl) (by kernel_rfl) (by kernel_rfl)).trans (hd 5 (by kernel_rfl))) ((lit_at 7 17 (by kernel_rfl) (by kernel_rfl) (by kernel_rfl)).trans (hd 7 (by kernel_rfl))) ((lit_at 11 21 (by kernel_rfl) (by kernel_rfl) (by kernel_rfl)).trans e5) (bld_rt d A5 _ c5 wx), _, rfl, ⟨A5, c5, rfl, h5⟩⟩
      refine ⟨opN rfl fun s wx hb hd => ⟨_, _, ex_alc rfl (al_rt wx), NewAt.new hb.size, below_alloc _ _⟩, ?_⟩
      trivial
    rotate_left
    · kernel_rfl
    intro s wz hbz hV
    obtain ⟨u4, e12, h4⟩ := hV 12 (by omega)
    obtain ⟨N, e13, hN1, hN2⟩ := hV 13 (by omega)
    clear hV
    simp only [List.take_succ_cons, List.take_zero, List.drop_succ_cons, List.drop_zero, litOf, List.map_cons, List.map_nil, Nat.zero_add, Nat.reduceAdd, Act.put, List.setIfInBounds_toArray, List.set_cons_succ, List.set_cons_zero]
    refine wpList_store_blk rfl 68 _ _ rfl N _ e13 e12 68 zs_rt hN2 rfl (by kernel_rfl) ?_ ?_
    · exact sC_all h4.one rfl rfl rfl
    intro wa hNa hga hsa
    have hX := HX.out.1
    have hB1 : Below w1.heap.size w1 wa := hbz.grown hga hbz.size (fun j hj => by cases hj; exact hN1)
    have hI : TlI w1 N d 0 0 [] u4 (.slice none 0 0) (.slice none 0 0) (.slice none 0 0) [] wa := by
      have hc : Chg (· = N) wz wa := .of_grown hga fun i h => by cases h; rfl
      refine ⟨hB1, hN1, hNa, h4.chg hc (fun b cs _ hb e => by subst e; exact Blk.ne_ hb hN2 (by decide) rfl), World.ownsRow_nil _ _ _ _, World.ownsRow_nil _ _ _ _, World.ownsRow_nil _ _ _ _, by simp [Value.ownBlock], IsTs.nil⟩
    have HI := Lib.hid hI
    have x5 := (hX.below hB1 hX.lt).cell 5
    rw [e13]
    clear hI hB1 hNa hga hsa h4 hN1 hN2 hX hbz e12 e13
    obtain ⟨tra, hti, hz0, hz1, hz2⟩ := info_parts at_infoT
    go_wp2_with fail
    go_loopw [26] (fun i wx => ∃ k u5, k ≤ d.at_.length ∧ i = .int .i64 k ∧ TlI w1 N d k 0 [] u4 u5 (.slice none 0 0) (.slice none 0 0) [] wx) (fun i _ => d.at_.length - (intOf i).toNat)
    case atStart => exact ⟨0, .slice none 0 0, Nat.zero_le _, rfl, HI.out⟩
    case round =>
      obtain ⟨k, ua, hk, rfl, hI⟩ := hrel
      by_cases hlt : k < d.at_.length
      · obtain ⟨b, off, rfl, hbB, d0⟩ := HK.out.2.2.1.2 k hlt
        have d1 := d0 1 (by omega)
        replace d0 := d0 0 (by omega)
        have hbb := HX.out.2.2 b hbB
        replace d0 := (hI.1.cell (p := ⟨b, off + k * 2 + 0, none⟩) hbb).trans d0
        replace d1 := (hI.1.cell (p := ⟨b, off + k * 2 + 1, none⟩) hbb).trans d1
        obtain ⟨x, hx⟩ : ∃ x, x = d.at_.getD k St.pr0 := ⟨_, rfl⟩
        rw [← hx] at d0 d1
        replace d0 : wr.cell? ⟨b, off + k * 2, none⟩ = some (.string x.1) := d0
        replace d1 : wr.cell? ⟨b, off + k * 2 + 1, none⟩ = some (.string x.2) := d1
        have HXX := Lib.hid hx
        have i1 : (0 : Int) ≤ (k : Int) := by omega
        have i2 : (k : Int) < (d.at_.length : Int) := by omega
        obtain ⟨wk, hwk, hK5, hBk, hsk⟩ := one_new wr #[.string x.1, .string x.2] 90
        clear hx
        go_upto_region 5 with fail
        rw [← hwk]
        obtain ⟨K5, hK5e⟩ : ∃ K5, K5 = wr.heap.size := ⟨_, rfl⟩
        rw [← hK5e] at hK5 ⊢
        have HN := Lib.hid (hI.2.2.1.below hBk hI.2.2.1.lt)
        have HK5 := Lib.hid hK5
        have HI := Lib.hid (And.intro hI hBk)
        clear hwk hK5 hBk hsk hI hK5e d0 d1 hbb hbB
        have y5 : wk.cell? ⟨N, 5, none⟩ = some ua := HN.out.cell 5
        have z0 : wk.cell? ⟨K5, 0, none⟩ = some (.string x.1) := HK5.out.cell 0
        have z1 : wk.cell? ⟨K5, 1, none⟩ = some (.string x.2) := HK5.out.cell 1
        have HO := Lib.hid (And.intro (own_keep HI.out.1.2.2.2.2.1 HI.out.2) (below_alloc wk (.cells #[.string x.1, .string x.2] 89)))
        go_wp2_with (first
          | (at_builtin; refine wpList_append_lies _ rfl _ _ _ rfl w1.heap.size 89 tra _ 2 32 Tryz.underlying26 hti hz0 hz1 hz2 rfl (by decide) ua k _ rfl (HO.out.1.alloc _) _ 1 1 [.string x.1, .string x.2] rfl rfl (World.news_of_block (heap_alloc_new _ _)) (by intro u hu; simp at hu; rcases hu with rfl | rfl <;> rfl) (by omega) (by unfold maxLen; omega) (by omega) (by have := HI.out.1.1.size; have := HI.out.2.size; simp; omega) _ rfl ?_; intro g cap w4 hown hg hat hlt4; obtain ⟨c1, c2, hc, hN4, ho4, _, _⟩ := app_field (off := 5) (HN.out.alloc _) rfl (HO.out.1.alloc _) (own_blk_ne HO.out.1 HN.out (by decide)) rfl hown hg hat; have HS := Lib.hid (HI.out.1.attr (HI.out.2.trans (HO.out.2.mono HI.out.2.size)) hlt hc hN4 (by rw [← HXX.out]; exact ho4)); clear hc hN4 ho4 hown hg hat hlt4))
        go_roundw
        case rel => exact ⟨k + 1, _, by omega, by go_num, HS.out⟩
        case measure => simp [intOf]; omega
      · obtain rfl : k = d.at_.length := by omega
        have HI2 := Lib.hid hI
        have x6 : wr.cell? ⟨X, 6, none⟩ = some (.slice A3 d.st.length c3) := (HX.out.1.below hI.1 HX.out.1.lt).cell 6
        clear hI hlt hk HI
        obtain ⟨trp, htp, hp0, hp1, hp2⟩ := info_parts pr_infoT
        go_wp2_with fail
        go_loopw [40] (fun i wx => ∃ k u5, k ≤ d.st.length ∧ i = .int .i64 k ∧ TlI w1 N d d.at_.length k [] u4 ua u5 (.slice none 0 0) [] wx) (fun i _ => d.st.length - (intOf i).toNat)
        case atStart => exact ⟨0, .slice none 0 0, Nat.zero_le _, rfl, HI2.out⟩
        case round =>
          obtain ⟨k, ub, hk, rfl, hI⟩ := hrel
          by_cases hlt : k < d.st.length
          · obtain ⟨b, off, rfl, hbB, d0⟩ := HK.out.2.2.2.1.2 k hlt
            have d1 := d0 1 (by omega)
            replace d0 := d0 0 (by omega)
            have hbb := HX.out.2.2 b hbB
            replace d0 := (hI.1.cell (p := ⟨b, off + k * 2 + 0, none⟩) hbb).trans d0
            replace d1 := (hI.1.cell (p := ⟨b, off + k * 2 + 1, none⟩) hbb).trans d1
            obtain ⟨x, hx⟩ : ∃ x, x = d.st.getD k pr0 := ⟨_, rfl⟩
            rw [← hx] at d0 d1
            replace d0 : wr.cell? ⟨b, off + k * 2, none⟩ = some (.string x.1) := d0
            replace d1 : wr.cell? ⟨b, off + k * 2 + 1, none⟩ = some (.int .i64 x.2) := d1
            have HXX := Lib.hid hx
            have i1 : (0 : Int) ≤ (k : Int) := by omega
            have i2 : (k : Int) < (d.st.length : Int) := by omega
            obtain ⟨wk, hwk, hK5, hBk, hsk⟩ := one_new wr #[.string x.1, .int .i64 x.2] 105
            clear hx
            go_upto_region 10 with fail
            rw [← hwk]
            obtain ⟨K5, hK5e⟩ : ∃ K5, K5 = wr.heap.size := ⟨_, rfl⟩
            rw [← hK5e] at hK5 ⊢
            have HN := Lib.hid (hI.2.2.1.below hBk hI.2.2.1.lt)
            have HK5 := Lib.hid hK5
            have HI := Lib.hid (And.intro hI hBk)
            clear hwk hK5 hBk hsk hI hK5e d0 d1 hbb hbB
            have y6 : wk.cell? ⟨N, 6, none⟩ = some ub := HN.out.cell 6
            have z0 : wk.cell? ⟨K5, 0, none⟩ = some (.string x.1) := HK5.out.cell 0
            have z1 : wk.cell? ⟨K5, 1, none⟩ = some (.int .i64 x.2) := HK5.out.cell 1
            have HO := Lib.hid (And.intro (own_keep HI.out.1.2.2.2.2.2.1 HI.out.2) (below_alloc wk (.cells #[.string x.1, .int .i64 x.2] 120)))
            go_wp2_with (first
              | (at_builtin; refine wpList_append_lies _ rfl _ _ _ rfl w1.heap.size 120 trp _ 2 24 Tryz.underlying27 htp hp0 hp1 hp2 rfl (by decide) ub k _ rfl (HO.out.1.alloc _) _ 1 1 [.string x.1, .int .i64 x.2] rfl rfl (World.news_of_block (heap_alloc_new _ _)) (by intro u hu; simp at hu; rcases hu with rfl | rfl <;> rfl) (by omega) (by unfold maxLen; omega) (by omega) (by have := HI.out.1.1.size; have := HI.out.2.size; simp; omega) _ rfl ?_; intro g cap w4 hown hg hat hlt4; obtain ⟨c1, c2, hc, hN4, ho4, _, _⟩ := app_field (off := 6) (HN.out.alloc _) rfl (HO.out.1.alloc _) (own_blk_ne HO.out.1 HN.out (by decide)) rfl hown hg hat; have HS := Lib.hid (HI.out.1.sty (HI.out.2.trans (HO.out.2.mono HI.out.2.size)) hlt hc hN4 (by rw [← HXX.out]; exact ho4)); clear hc hN4 ho4 hown hg hat hlt4))
            go_roundw
            case rel => exact ⟨k + 1, _, by omega, by go_num, HS.out⟩
            case measure => simp [intOf]; omega
          · obtain rfl : k = d.st.length := by omega
            have HI3 := Lib.hid hI
            have x7 : wr.cell? ⟨X, 7, none⟩ = some (.slice A4 ks.length c4) := (HX.out.1.below hI.1 HX.out.1.lt).cell 7
            clear hI hlt hk HI2
            obtain ⟨trv, htiv, hzv0, hzv1, hzv2⟩ := info_parts rt_infoT
            go_wp2_with fail
            go_loopw [54] (fun i wx => ∃ k u7 us, k ≤ ks.length ∧ i = .int .i64 k ∧ TlI w1 N d d.at_.length d.st.length (ks.take k) u4 ua ub u7 us wx) (fun i _ => ks.length - (intOf i).toNat)
            case atStart => exact ⟨0, .slice none 0 0, [], Nat.zero_le _, rfl, HI3.out⟩
            case round =>
              obtain ⟨k, uc, us, hk, rfl, hI⟩ := hrel
              by_cases hlt : k < ks.length
              · obtain ⟨kd, hkd⟩ : ∃ kd : STr, kd = ks[k]'hlt := ⟨_, rfl⟩
                have hkd1 : kd.size ≤ m := by rw [hkd]; exact hks1 k hlt
                have hkd2 : All tfew kd := by rw [hkd]; exact hv2.at_ k hlt
                have hkd3 : ks.take (k + 1) = ks.take k ++ [kd] := by rw [hkd]; simp
                have hT : IsT sK w1 (Old w) kd (vs.getD k agg0) := by rw [hkd]; exact HK.out.2.2.2.2.2.at_ k hlt
                clear hkd
                obtain ⟨A', c', vs', ⟨k1, k2, k3, hv, B1, b1, B2, b2, B3, b3, rfl, rfl, rfl, _⟩, _, _⟩ := IsT.eq.1 hT
                obtain ⟨e, he⟩ : ∃ e, e = kd.dat := ⟨_, rfl⟩
                obtain ⟨m', hm'⟩ : ∃ v, v = kd.kids.length := ⟨_, rfl⟩
                rw [← he, ← hm'] at hv
                obtain ⟨b, off, rfl, hbB, d0, d1, d2, d3, d4, d5, d6, d7⟩ := Vs.shown HK.out.2.2.2.2.1 k hlt hv (Still.of_below hI.1 HX.out.2.2)
                rw [hv] at hT
                have i1 : (0 : Int) ≤ (k : Int) := by omega
                have i2 : (k : Int) < (ks.length : Int) := by omega
                obtain ⟨wk, hwk, hK9, hBk, hsk⟩ := one_new wr (sC e (.slice B1 e.cl.length b1) (.slice B2 e.at_.length b2) (.slice B3 e.st.length b3) (.slice A' m' c')).toArray 40
                unfold sC at hwk hK9
                have HTK := Lib.hid (show IsT sK wk (Old wk) kd (sV e (.slice B1 e.cl.length b1) (.slice B2 e.at_.length b2) (.slice B3 e.st.length b3) (.slice A' m' c')) from (hT.move (.of_below (hI.1.trans (hBk.mono hI.1.size)) HX.out.2.2)).weak fun b hb => Nat.lt_of_lt_of_le (HX.out.2.2 b hb) (Nat.le_trans hI.1.size hBk.size))
                have HIH := Lib.hid (fun v w => ih kd v w hkd1 (by omega) hkd2)
                have HTS := Lib.hid hkd3
                have HTL := Lib.hid (show (ks.take k).length = k by rw [List.length_take]; omega)
                clear hT hv he hm' hkd3
                go_upto_region 15 with fail
                rw [← hwk]
                obtain ⟨K9, hK9e⟩ : ∃ K9, K9 = wr.heap.size := ⟨_, rfl⟩
                rw [← hK9e] at hK9 ⊢
                have HN := Lib.hid (hI.2.2.1.below hBk hI.2.2.1.lt)
                have HK9 := Lib.hid hK9
                have HI := Lib.hid (And.intro hI hBk)
                clear hwk hK9 hBk hsk hI hK9e d0 d1 d2 d3 d4 d5 d6 d7 hbB
                refine wp_region_tail 5 _ ?_ ?_ ?_ ?_ (TldR15 wk N K9 d e u4 ua ub uc (.slice B1 e.cl.length b1) (.slice B2 e.at_.length b2) (.slice B3 e.st.length b3) (.slice A' m' c') kd) (fun j v wx wy => TldR15_keep _ _ _ _ _ _ _ _ _ _ _ _ _ _ j v wx wy) ?_ ?_ ?_
                · kernel_rfl
                · kernel_rfl
                · kernel_rfl
                · kernel_rfl
                · refine ⟨opV rfl fun s wx hb hd => ⟨_, ex_fld rfl (lit_out 3 (by kernel_rfl)) (fa_rt_7 _ wx), rfl⟩, ?_⟩
                  refine ⟨opV rfl fun s wx hb hd => ⟨_, ex_ld rfl ((lit_at 0 58 (by kernel_rfl) (by kernel_rfl) (by kernel_rfl)).trans (hd 0 (by kernel_rfl))) (ld_Lscrimref09_Tree (((HN.out).below hb (HN.out).lt).cell 7)), rfl⟩, ?_⟩
                  refine ⟨opV rfl fun s wx hb hd => ⟨_, ex_ld rfl (lit_out 9 (by kernel_rfl)) (ld_row ((HK9.out).below hb (HK9.out).lt) Tryz.underlying40 sz_st), rfl⟩, ?_⟩
                  refine ⟨opC rfl fun s wx hb hd => ⟨_, _, ex_c1 rfl rfl (enters Tryz.func16 (by kernel_rfl) rfl _ _) ((lit_at 2 60 (by kernel_rfl) (by kernel_rfl) (by kernel_rfl)).trans (hd 2 (by kernel_rfl))), ?_⟩, ?_⟩
                  · refine (HIH.out _ wx (HTK.out.keep hb)).mono ?_
                    rintro e1 w1 ⟨v', rfl, hT', hb'⟩
                    exact ⟨v', rfl, hT'.weak (Fresh.low hb.size), hb'⟩
                  refine ⟨opN rfl fun s wx hb hd => ?_, ?_⟩
                  · have hT := (hd 3 (by kernel_rfl))
                    obtain ⟨_, _, _, ⟨b1, b2, b3, hv, _⟩, _, _⟩ := IsT.eq.1 hT
                    rw [hv] at hT
                    exact ⟨_, _, ex_bsl1 rfl ((lit_at 3 61 (by kernel_rfl) (by kernel_rfl) (by kernel_rfl)).trans hv) (bs_rt _ _ _ _ _ _ _ _ wx), NewT.new (K := sK) hT hb.size, below_alloc _ _⟩
                  trivial
                rotate_left
                · kernel_rfl
                intro s2 wz hbz hV
                have e1 := hV 1 (by omega)
                obtain ⟨g3, v3, e3, hg3, hB3, hT3⟩ := hV 4 (by omega)
                clear hV
                simp only [List.take_succ_cons, List.take_zero, List.drop_succ_cons, List.drop_zero, litOf, List.map_cons, List.map_nil, Nat.zero_add, Nat.reduceAdd, Act.put, List.setIfInBounds_toArray, List.set_cons_succ, List.set_cons_zero]
                have hbw : Below wr.heap.size wr wz := HI.out.2.trans (hbz.mono HI.out.2.size)
                have ho := own_keep HI.out.1.2.2.2.2.2.2.1 hbw
                rw [HTL.out] at ho
                have HA := Lib.hid (And.intro ho (And.intro hB3 (And.intro hT3 (And.intro hbw hbz))))
                have hHI := HI.out.1.1.size
                have hbs := hbw.size
                clear ho hB3 hT3 hbw hbz
                refine wpList_append_lies _ rfl _ _ _ rfl w1.heap.size 68 trv _ 8 144 Tryz.underlying66 htiv hzv0 hzv1 hzv2 rfl (by decide) uc k _ e1 HA.out.1 ⟨g3, 0, none⟩ 1 1 (cvK 8 v3) e3 (cvK_len 8 v3) (news_at HA.out.2.1) (IsT.one_s HA.out.2.2.1) (by omega) (by unfold maxLen; omega) (by omega) (by omega) _ rfl ?_
                intro g cap w4 hown hg hat hlt4
                obtain ⟨q1, q2, hc, hN4, ho4, hvN, hat4⟩ := app_field (off := 7) (HN.out.below HA.out.2.2.2.2 HN.out.lt) rfl HA.out.1 HI.out.1.2.2.2.2.2.2.2.1 rfl hown hg hat
                have HS := Lib.hid (HI.out.1.kid HA.out.2.2.2.1 (HA.out.2.2.1.weak (Fresh.low HI.out.2.size)) hc hN4 (by rw [HTL.out]; exact ho4) hvN hat4)
                clear hc hN4 ho4 hown hg hat hlt4 e1 e3 hg3 htiv hzv0 hzv1 hzv2 hHI hbs hti hz0 hz1 hz2 htp hp0 hp1 hp2 hvN hat4
                go_wp2_with fail
                go_roundw
                case rel => exact ⟨k + 1, _, _, by omega, by go_num, by rw [HTS.out]; exact HS.out⟩
                case measure => simp [intOf]; omega
              · obtain rfl : k = ks.length := by omega
                have hR := HK.out.1.below hI.1 HK.out.1.lt
                have HI := Lib.hid hI
                clear hI hlt hk
                go_upto_region 17 with fail
                refine _root_.Go.wp_region_lit ?_
                refine wpList_load_row rfl 68 _ rfl N rfl 68 _ (0, 0) _ HI.out.2.2.1 Tryz.underlying68 rfl sz_rt ?_
                refine wpList_store_blk rfl 68 _ _ rfl (X + 1) _ rfl rfl 68 _ hR rfl sz_rt ?_ ?_
                · exact all_oneCell_toArray HI.out.done.one_s
                intro wf hRf hgf hsf
                refine wpList_nil ?_
                have hks : ks.take ks.length = ks := List.take_length
                have hT := HI.out.done
                rw [hks, ← HT.out] at hT
                have hT2 := (hT.move (.of_grown hgf fun b hb => ⟨hb.2, fun e => by cases e; have := hb.1; have := HXE.out.2; omega⟩)).weak (S' := Fresh w.heap.size wf) fun b hb => ⟨by have := hb.1; have := HXE.out; omega, by rw [hsf]; exact hb.2⟩
                have hB2 : Below w.heap.size w wf := (HK.out.2.1.trans (HI.out.1.mono HK.out.2.1.size)).grown hgf (by have := HI.out.1.size; have := HK.out.2.1.size; omega) (fun j hj => by cases hj; have := HXE.out; omega)
                have HF := Lib.hid (And.intro hT2 hB2)
                have HRf := Lib.hid hRf
                clear hks hT hT2 hB2 hgf hsf hR hRf
                go_wp2_with fail
                exact bodyPost_ret (v := sV d u4 ua ub uc) (results_cell_row rfl _ _ (X + 1) 68 _ (0, 0) _ rfl HRf.out Tryz.underlying68 rfl sz_rt) rfl ⟨_, rfl, HF.out.1, HF.out.2⟩

end Go.Proofs.YtaalhglooipnaaaGreat
