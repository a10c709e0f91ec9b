/-
  Check of the document's layer 7.
  The layout's Dom: where all nodes of a Dom are; may of any node.
  What all hands its trees to: a row of numbers that grows in a cell.
  all and IDs of a shown tree: how many.
  all of layer 9, with what IDs hands it: how many numbers there are then.
  IDs of a shown tree: as many as it has nodes.
  What the statement's own function wants.
-/
import Derived.Test.YtaalhglooipnaaaGreatL41
import Derived.Test.YtaalhglooipnaaaGreatL33
import Derived.Test.YtaalhglooipnaaaGreatL26
import Derived.Test.YtaalhglooipnaaaGreatL34
import Derived.Test.YtaalhglooipnaaaGreatL27
import Derived.Test.YtaalhglooipnaaaGreatL38
namespace Go.Proofs.YtaalhglooipnaaaGreat
open Go.RowKit RT
attribute [local go_sem ↓] Go.wp_at_zero Go.wp_at_succ

set_option maxRecDepth 100000 in
set_option maxHeartbeats 8000000 in
theorem checks_any (t : VT) (v : Value) (w : World) (hsz : t.size ≤ 20) (hal : All txb t) (hT : IsT vK2 w (Old w) t v) :
    Calls Tryz.prog 10 #[v, .int .i64 20, .int .i64 4096] w fun e w' => ∃ q : Int, e = .returned (.int .i64 q) ∧ (q = 0 → All okV t) ∧ Below w.heap.size w w' := by
  have HT0 := Lib.hid hT
  have HAL := Lib.hid hal
  obtain ⟨A4, c4, vs, ⟨⟨a1, a2, a3, rfl, hrows⟩, _⟩, _, _⟩ := IsT.eq.1 hT
  obtain ⟨A1, c1, A2, c2, A3, c3, rfl, rfl, rfl, _⟩ := hrows
  obtain ⟨kn, hkn⟩ : ∃ kn, kn = t.kids.length := ⟨_, rfl⟩
  obtain ⟨d, hd⟩ : ∃ d, d = t.dat := ⟨_, rfl⟩
  rw [← hd] at HT0 ⊢
  rw [← hkn] at HT0 ⊢
  clear hT hal hkn hd
  obtain ⟨w1, hw1, hX, hB0, hs1⟩ := one_new w (vC d (.slice A1 d.cl.length c1) (.slice A2 d.at_.length c2) (.slice A3 d.st.length c3) (.slice A4 kn c4)).toArray 32
  unfold vV vC
  unfold vC at hX hw1
  go_enter Tryz.func10, Tryz.ntmps10
  go_upto_region 1 with fail
  rw [← hw1]
  obtain ⟨X, hXe⟩ : ∃ X, X = w.heap.size := ⟨_, rfl⟩
  rw [← hXe] at hX ⊢
  have HB := Lib.hid hB0
  obtain ⟨x0, x1, x2, x3, x4, x5, x6, x7, x8, x9, x10, x11, x12, x13⟩ := vcells (a1 := .slice A1 d.cl.length c1) (a2 := .slice A2 d.at_.length c2) (a3 := .slice A3 d.st.length c3) (k := .slice A4 kn c4) hX
  clear hw1 hXe hX hB0 hs1
  go_wp2_with fail
  have hc := check_any 20 t _ 1 20 4096 w1 (Nat.le_refl _) hsz HAL.out (HT0.out.keep HB.out) (by omega) (by omega) (by omega) (by omega)
  unfold vV vC at hc
  refine hc.mono ?_
  clear hc
  rintro e2 w2 ⟨r, q, rfl, hq, hb2⟩
  have HQ := Lib.hid (And.intro hq (HB.out.trans (hb2.mono HB.out.size)))
  clear hq hb2 x0 x1 x2 x3 x4 x5 x6 x7 x8 x9 x10 x11 x12 x13
  go_wp2_with fail
  go_ret
  exact ⟨q, rfl, fun h => (HQ.out.1 h).1, HQ.out.2⟩

end Go.Proofs.YtaalhglooipnaaaGreat
namespace Go.Proofs.YtaalhglooipnaaaGreat
open Go.RowKit RT
attribute [local go_sem ↓] Go.wp_at_zero Go.wp_at_succ

set_option maxRecDepth 100000 in
set_option maxHeartbeats 8000000 in
theorem ldom_any (t : STr) (g : Int) (w : World) (B D M n : Nat) (nd : Nat → ND) (gs : Nat → Nat) (kvs : Nat → Value) (hsz : t.size ≤ 40) (hR : RdT nd n t 0) (hn : n ≤ 50) (hf : ∀ i, i < n → (nd i).few) (hD : DomI B w D M n nd gs kvs) (hal : All stOk t) (hs : SrtE (placeT t 0 0 g)) :
    Calls Tryz.prog 12 #[.pointer (some ⟨D, 0, none⟩), .int .i64 g] w (EnPost w (placeT t 0 0 g)) := by
  have HRD := Lib.hid (read_any 40 t w B D M n nd gs kvs 0 hsz (by omega) hR hn hf hD)
  have HAL := Lib.hid hal
  have HS := Lib.hid hs
  clear hR hf hD hal hs
  go_enter Tryz.func12, Tryz.ntmps12
  go_upto_region 1 with fail
  refine _root_.Go.wp_region_lit ?_
  refine wpList_val rfl (ex_mv rfl rfl) ?_
  simp only [Act.put, List.setIfInBounds_toArray, List.set_cons_succ, List.set_cons_zero]
  refine wpList_call rfl (ex_c2 rfl rfl (enters Tryz.func13 (by kernel_rfl) rfl _ _) rfl rfl) (HRD.out.mono ?_)
  rintro e2 w2 ⟨v2, rfl, hT2, hb2⟩
  refine ⟨_, rfl, ?_⟩
  simp only [Act.put, List.setIfInBounds_toArray, List.set_cons_succ, List.set_cons_zero]
  obtain ⟨A4, c4, vs, ⟨a1, a2, a3, rfl, hr⟩, _, _⟩ := IsT.eq.1 hT2
  obtain ⟨kn, hkn⟩ : ∃ kn, kn = t.kids.length := ⟨_, rfl⟩
  obtain ⟨d, hd⟩ : ∃ d, d = t.dat := ⟨_, rfl⟩
  rw [← hd] at hr hT2 ⊢
  rw [← hkn] at hT2 ⊢
  clear hkn hd
  obtain ⟨A1, c1, A2, c2, A3, c3, rfl, rfl, rfl, hrr⟩ := hr
  refine wpList_val rfl (ex_mv rfl rfl) ?_
  refine wpList_val rfl (ex_ext rfl rfl (ext_0 _ _ _)) ?_
  refine wpList_val rfl (ex_ext rfl rfl (ext_1 _ _ _)) ?_
  refine wpList_val rfl (ex_alc rfl (al_st _)) ?_
  simp only [Act.put, List.setIfInBounds_toArray, List.set_cons_succ, List.set_cons_zero]
  obtain ⟨w3, hw3, hN3, hb3, hs3⟩ := one_new w2 zs_st 40
  rw [← hw3]
  obtain ⟨N, hNe⟩ : ∃ N, N = w2.heap.size := ⟨_, rfl⟩
  rw [← hNe] at hN3 ⊢
  refine wpList_store_blk rfl 40 _ _ rfl N (sC d (.slice A1 d.cl.length c1) (.slice A2 d.at_.length c2) (.slice A3 d.st.length c3) (.slice A4 kn c4)).toArray rfl rfl 40 zs_st hN3 rfl (by kernel_rfl) (sC_all rfl rfl rfl rfl) ?_
  intro w4 hN4 hg4 hs4
  simp only [Act.put, List.setIfInBounds_toArray, List.set_cons_succ, List.set_cons_zero]
  refine wpList_val rfl (ex_asg (v := .int .i64 0) rfl rfl) ?_
  refine wpList_nil ?_
  simp only [Act.put, List.setIfInBounds_toArray, List.set_cons_succ, List.set_cons_zero]
  have hb4 : Below w2.heap.size w2 w4 := hb3.grown hg4 hb3.size (fun j hj => by cases hj; omega)
  have HT4 := Lib.hid ((hT2.fresh hb4).weak (S' := Old w4) fun b h => h.2)
  have HB4 := Lib.hid (hb2.trans (hb4.mono hb2.size))
  obtain ⟨x0, x1, x2, x3, x4, x5, x6, x7⟩ := scells (a1 := .slice A1 d.cl.length c1) (a2 := .slice A2 d.at_.length c2) (a3 := .slice A3 d.st.length c3) (k := .slice A4 kn c4) hN4
  clear hT2 hb2 hw3 hN3 hb3 hs3 hNe hN4 hg4 hs4 hb4 hrr HRD
  go_wp2_with fail
  have hl := lof_any t _ g w4 hsz HAL.out HT4.out HS.out
  unfold sV sC at hl
  refine hl.mono ?_
  clear hl
  rintro e5 w5 ⟨A5, c5, rfl, hown, hb5⟩
  obtain ⟨P, hPe⟩ : ∃ P, P = placeT t 0 0 g := ⟨_, rfl⟩
  rw [← hPe] at hown ⊢
  have HF := Lib.hid (And.intro hPe (And.intro (own_low hown HB4.out.size) (HB4.out.trans (hb5.mono HB4.out.size))))
  clear hown hb5 hPe x0 x1 x2 x3 x4 x5 x6 x7
  go_wp2_with fail
  go_ret
  rw [← HF.out.1]
  exact ⟨A5, c5, rfl, HF.out.2.1, HF.out.2.2⟩

end Go.Proofs.YtaalhglooipnaaaGreat
namespace Go.Proofs.YtaalhglooipnaaaGreat
open Go.RowKit RT
attribute [local go_sem ↓] Go.wp_at_zero Go.wp_at_succ

/-- A row of so many numbers that a cell holds. -/
def AcI (w : World) (base L n : Nat) (v : Value) : Prop := base ≤ L ∧ Blk w L 71 #[v] ∧ (∃ xs, w.ownsRow base 3 1 v n xs) ∧ v.ownBlock ≠ some L
def AcIPost (w : World) (base L n : Nat) (v : Value) (k : Nat) (w' : World) : Prop :=
  ∃ v', AcI w' base L (n + k) v' ∧ Chg (fun i => v.ownBlock = some i ∨ i = L) w w' ∧ (v'.ownBlock = v.ownBlock ∨ ∀ b, v'.ownBlock = some b → w.heap.size ≤ b)
theorem AcI.keep {w w' : World} {base L n : Nat} {v : Value} (h : AcI w base L n v) (hb : Below w.heap.size w w') : AcI w' base L n v :=
  ⟨h.1, h.2.1.below hb h.2.1.lt, h.2.2.1.elim fun xs h => ⟨xs, own_keep h hb⟩, h.2.2.2⟩
set_option maxRecDepth 100000 in
set_option maxHeartbeats 4000000 in
theorem idsf_any (d : SD) (A1 A2 A3 A4 : Option Addr) (n1 c1 n2 c2 n3 c3 n4 c4 : Nat) (w : World) (base L n : Nat) (v : Value) (h : AcI w base L n v) (hl : n ≤ 1000) :
    Calls Tryz.prog 92 #[sV d (.slice A1 n1 c1) (.slice A2 n2 c2) (.slice A3 n3 c3) (.slice A4 n4 c4), .pointer (some ⟨L, 0, none⟩)] w fun e w' => e = .returned (.bool true) ∧ AcIPost w base L n v 1 w' := by
  obtain ⟨h1, h2, ⟨xs, h3⟩, h4⟩ := h
  obtain ⟨w1, hw1, hX, hB0, hs1⟩ := one_new w (sC d (.slice A1 n1 c1) (.slice A2 n2 c2) (.slice A3 n3 c3) (.slice A4 n4 c4)).toArray 40
  obtain ⟨tre, hti, hz0, hz1, hz2⟩ := info_parts Fl.int_info
  unfold sV sC
  unfold sC at hX hw1
  go_enter Tryz.func92, Tryz.ntmps92
  go_upto_region 1 with fail
  rw [← hw1]
  obtain ⟨X, hXe⟩ : ∃ X, X = w.heap.size := ⟨_, rfl⟩
  rw [← hXe] at hX ⊢
  have y0 : w1.cell? ⟨X, 0, none⟩ = some (.int .i64 d.id) := hX.cell 0
  have hL1 := h2.below hB0 h2.lt
  have z0 : w1.cell? ⟨L, 0, none⟩ = some v := hL1.cell 0
  have HB := Lib.hid hB0
  have HL := Lib.hid (And.intro hL1 h4)
  have HO := Lib.hid (And.intro (own_keep h3 hB0) (below_alloc w1 (.cells #[.int .i64 d.id] 3)))
  have HBL := Lib.hid (And.intro h1 h2.lt)
  clear hw1 hXe hX hB0 hs1 h1 h2 h3 h4 hL1
  go_wp2_with (first
    | (at_builtin; refine wpList_append_lies _ rfl _ _ _ rfl base 3 tre _ 1 8 Tryz.underlying71 hti hz0 hz1 hz2 rfl (by decide) v n _ rfl (HO.out.1.alloc _) _ 1 1 [.int .i64 d.id] rfl rfl (World.news_of_block (heap_alloc_new _ _)) (by intro u hu; simp at hu; subst hu; rfl) (by omega) (by unfold maxLen; omega) (by omega) (by have := HBL.out; have := HB.out.size; simp; omega) _ rfl ?_; intro g cap w4 hown hg hat hlt4; obtain ⟨c1, c2, hc, hN4, ho4, hq5, hq6⟩ := app_field (off := 0) (HL.out.1.alloc _) rfl (HO.out.1.alloc _) HL.out.2 rfl hown hg hat; have HS := Lib.hid (And.intro hc (And.intro hN4 (And.intro ho4 (And.intro hq5 hq6)))); clear hc hN4 ho4 hown hg hat hlt4 hq5 hq6))
  go_ret
  refine ⟨rfl, .slice (some ⟨g, 0, none⟩) (n + 1) cap, ⟨HBL.out.1, HS.out.2.1, ⟨_, HS.out.2.2.1⟩, HS.out.2.2.2.1⟩, ?_, ?_⟩
  · have h := HS.out.1
    have h2 : Chg (fun i => v.ownBlock = some i ∨ i = L) w w1 := .of_below HB.out fun i hi _ => hi
    refine h2.trans ((Chg.alloc _ w1 _).trans (h.mono fun i hi => hi))
  · rcases HS.out.2.2.2.2 with h | h
    · exact .inl h
    · exact .inr fun b hb => by
        rw [h] at hb
        have := HB.out.size
        simp at hb
        omega

end Go.Proofs.YtaalhglooipnaaaGreat
namespace Go.Proofs.YtaalhglooipnaaaGreat
open Go.RowKit RT
attribute [local go_sem ↓] Go.wp_at_zero Go.wp_at_succ

theorem AcI.blk {w w' : World} {base L g n : Nat} {v : Value} {t : TypeId} {cs : Array Value} (h : AcI w base L n v) (hc : Chg (fun i => v.ownBlock = some i ∨ i = L) w w') (hg : Blk w g t cs) (h1 : 71 ≠ t) (h2 : 3 ≠ t) : Blk w' g t cs :=
  hc.blk hg (by
    obtain ⟨_, hb, ⟨xs, ho⟩, _⟩ := h
    rintro (e | e)
    · exact own_blk_ne ho hg h2 e
    · subst e
      exact Blk.ne_ hb hg h1 rfl)
theorem AcI.still {w w' : World} {base L n : Nat} {v : Value} (h : AcI w base L n v) (hc : Chg (fun i => v.ownBlock = some i ∨ i = L) w w') : Still (· < base) w w' := by
  obtain ⟨h1, hb, ⟨xs, ho⟩, _⟩ := h
  refine hc.still fun b hb' => ⟨by have := hb.lt; omega, ?_⟩
  rintro (e | e)
  · have := (ho.lt b e).1; omega
  · omega
theorem AcIPost.trans {w w1 w2 : World} {base L n k j : Nat} {v v1 : Value} (h1 : AcI w1 base L (n + k) v1) (h2 : Chg (fun i => v.ownBlock = some i ∨ i = L) w w1) (h3 : v1.ownBlock = v.ownBlock ∨ ∀ b, v1.ownBlock = some b → w.heap.size ≤ b) (h : AcIPost w1 base L (n + k) v1 j w2) : AcIPost w base L n v (k + j) w2 := by
  obtain ⟨v2, a1, a2, a3⟩ := h
  refine ⟨v2, by rw [← Nat.add_assoc]; exact a1, ?_, ?_⟩
  · refine ⟨a2.os.trans h2.os, a2.tape.trans h2.tape, a2.output.trans h2.output, Nat.le_trans h2.size a2.size, fun i hi ht => ?_⟩
    refine (a2.block i (Nat.lt_of_lt_of_le hi h2.size) ?_).trans (h2.block i hi ht)
    rintro (e | e)
    · rcases h3 with h3 | h3
      · exact ht (.inl (h3 ▸ e))
      · have := h3 i e; omega
    · exact ht (.inr e)
  · rcases a3 with a3 | a3
    · rcases h3 with h3 | h3
      · exact .inl (a3.trans h3)
      · exact .inr fun b hb => h3 b (a3 ▸ hb)
    · exact .inr fun b hb => Nat.le_trans h2.size (a3 b hb)
theorem AcIPost.pre {w w1 w2 : World} {base L n k : Nat} {v : Value} (hb : Below w.heap.size w w1) (h : AcIPost w1 base L n v k w2) : AcIPost w base L n v k w2 := by
  obtain ⟨v2, a1, a2, a3⟩ := h
  refine ⟨v2, a1, (Chg.of_below hb fun i hi _ => hi).trans a2, ?_⟩
  rcases a3 with a3 | a3
  · exact .inl a3
  · exact .inr fun b h => Nat.le_trans hb.size (a3 b h)

end Go.Proofs.YtaalhglooipnaaaGreat
namespace Go.Proofs.YtaalhglooipnaaaGreat
open Go.RowKit RT
attribute [local go_sem ↓] Go.wp_at_zero Go.wp_at_succ

set_option maxRecDepth 100000 in
set_option maxHeartbeats 8000000 in
theorem all_tree (m : Nat) : ∀ (t : STr) (v : Value) (w : World) (base L n : Nat) (u : Value), m ≤ 400 → t.size ≤ m → IsT sK w (· < base) t v → AcI w base L n u → n + t.size ≤ 900 →
    Calls Tryz.prog 91 #[v, .func (.func 92) #[] #[.pointer (some ⟨L, 0, none⟩)]] w fun e w' => e = .returned (.bool true) ∧ AcIPost w base L n u t.size w' := by
  induction m with
  | zero => intro t v w base L n u _ h; have := size_pos t; omega
  | succ m ih =>
    intro t v w base L n u hm hsz hT hA hlen
    have hbase : base ≤ w.heap.size := by have := hA.1; have := hA.2.1.lt; omega
    obtain ⟨A4, c4, vs, ⟨a1, a2, a3, rfl, hr⟩, hvs, hks⟩ := IsT.eq.1 hT
    have hkl := kids_len hsz
    have hks1 := fun k hk => kid_size hsz k hk
    have hsk : t.size = 1 + sizes t.kids := RT.size_eq t
    obtain ⟨d, hd⟩ : ∃ d, d = t.dat := ⟨_, rfl⟩
    obtain ⟨ks, hkse⟩ : ∃ ks, ks = t.kids := ⟨_, rfl⟩
    rw [hsk] at hlen ⊢
    rw [← hd] at hr ⊢
    rw [← hkse] at hvs hks hkl hks1 hlen ⊢
    obtain ⟨A1, c1, A2, c2, A3, c3, rfl, rfl, rfl, hrr⟩ := hr
    obtain ⟨w1, hw1, hX, hB0, hs1⟩ := one_new w (sC d (.slice A1 d.cl.length c1) (.slice A2 d.at_.length c2) (.slice A3 d.st.length c3) (.slice A4 ks.length c4)).toArray 40
    have HA := Lib.hid (hA.keep hB0)
    have HLN := Lib.hid hlen
    have HKS := Lib.hid (And.intro (show Vs 8 w (· < base) A4 ks.length vs from hvs) (And.intro hks hbase))
    unfold sV sC
    unfold sC at hX hw1
    clear hT hd hkse hsz hA hlen hvs hks hrr hsk hbase
    go_enter Tryz.func91, Tryz.ntmps91
    go_upto_region 1 with fail
    rw [← hw1]
    clear hw1
    obtain ⟨X, hXe⟩ : ∃ X, X = w.heap.size := ⟨_, rfl⟩
    rw [← hXe] at hX ⊢
    have HX := Lib.hid hX
    have HB := Lib.hid hB0
    obtain ⟨x0, x1, x2, x3, x4, x5, x6, x7⟩ := scells (a1 := .slice A1 d.cl.length c1) (a2 := .slice A2 d.at_.length c2) (a3 := .slice A3 d.st.length c3) (k := .slice A4 ks.length c4) hX
    clear hXe hX hB0 hs1
    go_wp2_with fail
    have hy := idsf_any d A1 A2 A3 A4 d.cl.length c1 d.at_.length c2 d.st.length c3 ks.length c4 w1 base L n u HA.out (by have := HLN.out; omega)
    unfold sV sC at hy
    refine hy.mono ?_
    clear hy
    rintro e4 w4 ⟨rfl, ua, hA4, hC4, hO4⟩
    have HX4 := Lib.hid (HA.out.blk hC4 HX.out (by decide) (by decide))
    have HST := Lib.hid (show Still (· < base) w w4 from (Still.of_below HB.out fun b hb => Nat.lt_of_lt_of_le hb HKS.out.2.2).trans (HA.out.still hC4))
    have HC4 := Lib.hid (And.intro hA4 (And.intro hC4 hO4))
    clear hA4 hC4 hO4 x0 x1 x2 x3 x4 x5 x6 x7
    obtain ⟨x0, x1, x2, x3, x4, x5, x6, x7⟩ := scells (a1 := .slice A1 d.cl.length c1) (a2 := .slice A2 d.at_.length c2) (a3 := .slice A3 d.st.length c3) (k := .slice A4 ks.length c4) HX4.out
    go_wp2_with fail
    go_loopw [14] (fun i wx => ∃ k, k ≤ ks.length ∧ i = .int .i64 (k : Nat) ∧ AcIPost w4 base L (n + 1) ua (sizes (ks.take k)) wx) (fun i _ => ks.length - (intOf i).toNat)
    case atStart => exact ⟨0, Nat.zero_le _, rfl, ua, by rw [List.take_zero, sizes]; exact HC4.out.1, Chg.refl _ _, .inl rfl⟩
    case round =>
      obtain ⟨k, hk, rfl, ub, hA5, hC5, hO5⟩ := hrel
      by_cases hlt : k < ks.length
      · have hS : Still (· < base) w wr := HST.out.trans (AcI.still HC4.out.1 hC5)
        obtain ⟨kd, hkd⟩ : ∃ kd : STr, kd = ks[k]'hlt := ⟨_, rfl⟩
        have hkd1 : kd.size ≤ m := by rw [hkd]; exact hks1 k hlt
        have hkd3 : ks.take (k + 1) = ks.take k ++ [kd] := by rw [hkd]; simp
        have hT : IsT sK wr (· < base) kd (vs.getD k agg0) := by rw [hkd]; exact (HKS.out.2.1.move hS).at_ k hlt
        clear hkd
        obtain ⟨A', c', vs', ⟨k1, k2, k3, hv, B1, b1, B2, b2, B3, b3, rfl, rfl, rfl, _⟩, _, _⟩ := IsT.eq.1 hT
        obtain ⟨e, he⟩ : ∃ e, e = kd.dat := ⟨_, rfl⟩
        obtain ⟨m', hm'⟩ : ∃ v, v = kd.kids.length := ⟨_, rfl⟩
        rw [← he, ← hm'] at hv
        obtain ⟨b, off, rfl, hbB, d0, d1, d2, d3, d4, d5, d6, d7⟩ := Vs.shown HKS.out.1 k hlt hv hS
        rw [hv] at hT
        have i2 : (0 : Int) ≤ (k : Int) := by omega
        have i3 : (k : Int) < (ks.length : Int) := by omega
        obtain ⟨wk, hwk, hK7, hBk, hsk⟩ := one_new wr (sC e (.slice B1 e.cl.length b1) (.slice B2 e.at_.length b2) (.slice B3 e.st.length b3) (.slice A' m' c')).toArray 40
        unfold sC at hwk hK7
        have hbr : base ≤ wr.heap.size := by have := hA5.1; have := hA5.2.1.lt; omega
        have hsz2 : sizes (ks.take (k + 1)) = sizes (ks.take k) + kd.size := by
          rw [hkd3, sizes_app]
          have h4 : sizes [kd] = kd.size := by rw [sizes, sizes]; omega
          rw [h4]
        have hih := ih kd _ wk base L (n + 1 + sizes (ks.take k)) ub (by omega) hkd1 (hT.move (Still.of_below hBk fun b hb => Nat.lt_of_lt_of_le hb hbr)) (hA5.keep hBk) (by
          have h3 := sizes_take ks (k + 1)
          have := HLN.out
          omega)
        unfold sV sC at hih
        have HIH := Lib.hid hih
        have HC5 := Lib.hid (And.intro hA5 (And.intro hC5 (And.intro hO5 (And.intro hBk hsz2))))
        clear hS hT hv he hm' hih hA5 hC5 hO5 hbr hsz2
        go_upto_region 6 with fail
        rw [← hwk]
        obtain ⟨K8, hK8e⟩ : ∃ K8, K8 = wr.heap.size := ⟨_, rfl⟩
        rw [← hK8e] at hK7 ⊢
        obtain ⟨z0, z1, z2, z3, z4, z5, z6, z7⟩ := scells (a1 := .slice B1 e.cl.length b1) (a2 := .slice B2 e.at_.length b2) (a3 := .slice B3 e.st.length b3) (k := .slice A' m' c') hK7
        clear hwk hK7 hBk hsk hK8e d0 d1 d2 d3 d4 d5 d6 d7 hbB x0 x1 x2 x3 x4 x5 x6 x7
        go_wp2_with fail
        refine HIH.out.mono ?_
        rintro e8 w8 ⟨rfl, hP8⟩
        have HP9 := Lib.hid (show AcIPost w4 base L (n + 1) ua (sizes (ks.take (k + 1))) w8 by
          rw [HC5.out.2.2.2.2]
          exact AcIPost.trans HC5.out.1 HC5.out.2.1 HC5.out.2.2.1 (AcIPost.pre HC5.out.2.2.2.1 hP8))
        clear hP8 z0 z1 z2 z3 z4 z5 z6 z7
        go_wp2_with fail
        go_roundw
        case rel => exact ⟨k + 1, by omega, by go_num, HP9.out⟩
        case measure => simp [intOf]; omega
      · obtain rfl : k = ks.length := by omega
        rw [List.take_length] at hA5
        have HFIN := Lib.hid (show AcIPost w base L n u (1 + sizes ks) wr from AcIPost.pre HB.out (AcIPost.trans HC4.out.1 HC4.out.2.1 HC4.out.2.2 ⟨ub, hA5, hC5, hO5⟩))
        clear hA5 hC5 hO5 hlt hk
        go_wp2_with fail
        go_ret
        exact ⟨rfl, HFIN.out⟩

end Go.Proofs.YtaalhglooipnaaaGreat
namespace Go.Proofs.YtaalhglooipnaaaGreat
open Go.RowKit RT
attribute [local go_sem ↓] Go.wp_at_zero Go.wp_at_succ

set_option maxRecDepth 100000 in
set_option maxHeartbeats 8000000 in
theorem ids_any (t : STr) (v : Value) (w : World) (hsz : t.size ≤ 400) (hT : IsT sK w (Old w) t v) : Calls Tryz.prog 49 #[v] w (fun e w' => ∃ A c, e = .returned (.slice A t.size c) ∧ Below w.heap.size w w') := by
  have HT0 := Lib.hid hT
  obtain ⟨A4, c4, vs, ⟨a1, a2, a3, rfl, hr⟩, _, _⟩ := IsT.eq.1 hT
  obtain ⟨kn, hkn⟩ : ∃ kn, kn = t.kids.length := ⟨_, rfl⟩
  obtain ⟨d, hd⟩ : ∃ d, d = t.dat := ⟨_, rfl⟩
  rw [← hd] at hr HT0 ⊢
  rw [← hkn] at HT0 ⊢
  clear hT hkn hd
  obtain ⟨A1, c1, A2, c2, A3, c3, rfl, rfl, rfl, hrr⟩ := hr
  obtain ⟨w1, hw1, hX, hB0, hs1⟩ := one_new w (sC d (.slice A1 d.cl.length c1) (.slice A2 d.at_.length c2) (.slice A3 d.st.length c3) (.slice A4 kn c4)).toArray 40
  unfold sV sC
  unfold sC at hX hw1
  go_enter Tryz.func49, Tryz.ntmps49
  go_upto_region 1 with fail
  rw [← hw1]
  clear hw1
  obtain ⟨X, hXe⟩ : ∃ X, X = w.heap.size := ⟨_, rfl⟩
  rw [← hXe] at hX ⊢
  have HX := Lib.hid hX
  have HB := Lib.hid hB0
  clear hXe hs1 hX
  obtain ⟨w2, hw2, hL, hB1, hs2⟩ := one_new w1 #[.slice none 0 0] 71
  go_upto_region 2 with fail
  rw [← hw2]
  obtain ⟨L, hLe⟩ : ∃ L, L = w1.heap.size := ⟨_, rfl⟩
  rw [← hLe] at hL ⊢
  obtain ⟨x0, x1, x2, x3, x4, x5, x6, x7⟩ := scells (a1 := .slice A1 d.cl.length c1) (a2 := .slice A2 d.at_.length c2) (a3 := .slice A3 d.st.length c3) (k := .slice A4 kn c4) (HX.out.below hB1 HX.out.lt)
  have HB2 := Lib.hid (hB0.trans (hB1.mono hB0.size))
  have HAC := Lib.hid (show AcI w2 w.heap.size L 0 (.slice none 0 0) from ⟨by rw [hLe]; exact hB0.size, hL, ⟨[], World.ownsRow_nil _ _ _ _⟩, by simp [Value.ownBlock]⟩)
  clear hB0 hw2 hL hB1 hs2 hLe hrr
  go_wp2_with fail
  have hpl := all_tree 400 t _ w2 w.heap.size L 0 (.slice none 0 0) (Nat.le_refl _) hsz (HT0.out.move (Still.of_below HB2.out fun b hb => hb)) HAC.out (by omega)
  unfold sV sC at hpl
  refine hpl.mono ?_
  clear hpl
  rintro e3 w3 ⟨rfl, v3, hA3, hC3, hO3⟩
  rw [Nat.zero_add] at hA3
  obtain ⟨h1, h2, ⟨xs, h3⟩, h4⟩ := hA3
  obtain ⟨A5, c5, rfl⟩ := own_form h3
  have z0 : w3.cell? ⟨L, 0, none⟩ = some (.slice A5 t.size c5) := h2.cell 0
  have HB3 := Lib.hid (show Below w.heap.size w w3 from HB2.out.trans (hC3.below HB2.out.size fun i hi => by
    rcases hi with hi | hi
    · simp [Value.ownBlock] at hi
    · rw [hi]; exact HAC.out.1))
  clear h1 h2 h3 h4 hC3 hO3 x0 x1 x2 x3 x4 x5 x6 x7
  go_wp2_with fail
  go_ret
  exact ⟨A5, c5, rfl, HB3.out⟩

set_option maxRecDepth 100000 in
set_option maxHeartbeats 8000000 in
theorem tsize_any (t : STr) (v : Value) (w : World) (hsz : t.size ≤ 400) (hT : IsT sK w (Old w) t v) : Calls Tryz.prog 21 #[v] w (fun e w' => e = .returned (.int .i64 (t.size : Nat)) ∧ Below w.heap.size w w') := by
  have HT0 := Lib.hid hT
  obtain ⟨A4, c4, vs, ⟨a1, a2, a3, rfl, hr⟩, _, _⟩ := IsT.eq.1 hT
  obtain ⟨kn, hkn⟩ : ∃ kn, kn = t.kids.length := ⟨_, rfl⟩
  obtain ⟨d, hd⟩ : ∃ d, d = t.dat := ⟨_, rfl⟩
  rw [← hd] at hr HT0 ⊢
  rw [← hkn] at HT0 ⊢
  clear hT hkn hd
  obtain ⟨A1, c1, A2, c2, A3, c3, rfl, rfl, rfl, hrr⟩ := hr
  obtain ⟨w1, hw1, hX, hB0, hs1⟩ := one_new w (sC d (.slice A1 d.cl.length c1) (.slice A2 d.at_.length c2) (.slice A3 d.st.length c3) (.slice A4 kn c4)).toArray 40
  unfold sV sC
  unfold sC at hX hw1
  go_enter Tryz.func21, Tryz.ntmps21
  go_upto_region 1 with fail
  rw [← hw1]
  clear hw1
  obtain ⟨X, hXe⟩ : ∃ X, X = w.heap.size := ⟨_, rfl⟩
  rw [← hXe] at hX ⊢
  have HB := Lib.hid hB0
  obtain ⟨x0, x1, x2, x3, x4, x5, x6, x7⟩ := scells (a1 := .slice A1 d.cl.length c1) (a2 := .slice A2 d.at_.length c2) (a3 := .slice A3 d.st.length c3) (k := .slice A4 kn c4) hX
  clear hXe hs1 hX hB0 hrr
  go_wp2_with fail
  have hi := ids_any t _ w1 hsz (HT0.out.keep HB.out)
  unfold sV sC at hi
  refine hi.mono ?_
  clear hi
  rintro e3 w3 ⟨A, c, rfl, hb3⟩
  have HB3 := Lib.hid (HB.out.trans (hb3.mono HB.out.size))
  clear hb3 x0 x1 x2 x3 x4 x5 x6 x7
  go_wp2_with fail
  go_ret
  exact ⟨rfl, HB3.out⟩

end Go.Proofs.YtaalhglooipnaaaGreat
namespace Go.Proofs.YtaalhglooipnaaaGreat
open Go.RowKit RT
attribute [local go_sem ↓] Go.wp_at_zero Go.wp_at_succ

theorem eval_bool {a : Act} {t : Tmp} {b : Bool} (h : a.eval (.tmp t) = .bool b) : a.tmps[t]? = some (.bool b) := by
  simp only [Act.eval, Array.getD_eq_getD_getElem?] at h
  cases hq : a.tmps[t]? with
  | none => rw [hq] at h; simp [undef] at h
  | some x => rw [hq] at h; simp at h; rw [h]
/-- A step whose guard is known. -/
theorem op_grd {ops : Array Oper} {W : World} {V : Nat → Value → World → Prop} {L : (Nat → Value) → Act} {i : Nat} {o : Oper} (j : Nat) (b : Bool) (t : Tmp) (hg : o.guard = some (j, b)) (ht : (ops[j]?).bind (·.dst) = some t) (hj : depB o j = true)
    (hL : ∀ s, (L s).eval (.tmp t) = s j) (hVj : ∀ v w, V j v w → v = .bool b)
    (h : ∀ (s : Nat → Value) (w : World), Below W.heap.size W w → (∀ j, depB o j = true → V j (s j) w) →
      ((∃ v, (execOp (L s).eval o).run Tryz.prog w = .ok (.value v) w ∧ V i v w) ∨ ∃ f args, (execOp (L s).eval o).run Tryz.prog w = .ok (.enter f args) w ∧ Calls Tryz.prog f args w (fun e w' => ∃ v, e = .returned v ∧ V i v w' ∧ Below w.heap.size w w'))) : OpAt Tryz.prog ops W V L i o := by
  intro s w hb hd
  refine ⟨wanted_of hg ?_, ?_⟩
  · rw [ht]
    exact eval_bool ((hL s).trans (hVj _ _ (hd j hj)))
  · rcases h s w hb hd with ⟨v, h1, h2⟩ | h
    · exact .inl ⟨v, w, h1, h2, Below.refl _ _⟩
    · exact .inr h
section
variable {ρ : Operand → Value} {o : Oper} {w : World}
theorem ex_notT {x : Operand} {t : TypeId} (ho : o.op = .unOp .not t x) (h : ρ x = .bool true) : (execOp ρ o).run Tryz.prog w = .ok (.value (.bool false)) w := by
  unfold execOp; rw [ho]; simp only [h]
  go_simp
theorem ex_pkF {x y z : Operand} {u : Value} (ho : o.op = .pick x y z) (h : ρ x = .bool false) (h' : ρ z = u) : (execOp ρ o).run Tryz.prog w = .ok (.value u) w := by
  unfold execOp; rw [ho]; simp only [h]
  go_simp
theorem ex_neq1 {x y : Operand} (ho : o.op = .binOp .neq 3 x y 3) (h : ρ x = .int .i64 1) (h' : ρ y = .int .i64 1) : (execOp ρ o).run Tryz.prog w = .ok (.value (.bool false)) w := by
  unfold execOp; rw [ho]; simp only [h, h']
  go_simp
theorem ex_len38 {x : Operand} {A : Option Addr} {c : Nat} (ho : o.op = .call { callee := .builtin .len, args := #[x], argTypes := #[38] }) (hot : o.type = 3) (h : ρ x = .slice A 1 c) : (execOp ρ o).run Tryz.prog w = .ok (.value (.int .i64 1)) w := by
  unfold execOp; rw [ho]; simp only [hot, resolve]
  go_simp
end
theorem ix_st0 (b off c : Nat) (w : World) : (Instr.indexAt 38 (.slice (some ⟨b, off, none⟩) 1 c) (.int .i64 0)).run Tryz.prog w = .ok (.pointer (some ⟨b, off, none⟩)) w := by go_simp
theorem At8.lds {w : World} {b o : Nat} {d : SD} {a1 a2 a3 kv : Value} (h : At8 w b o d a1 a2 a3 kv) : (Instr.loadAt 40 (.pointer (some ⟨b, o, none⟩))).run Tryz.prog w = .ok (sV d a1 a2 a3 kv) w := by
  obtain ⟨h0, h1, h2, h3, h4, h5, h6, h7⟩ := h
  unfold sV sC
  go_simp
def LmnR1 (W : World) (X n c : Nat) (A : Option Addr) (g px py : Int) : Nat → Value → World → Prop
  | 0, v, _ => v = .pointer (some ⟨X, 1, none⟩)
  | 1, v, _ => v = .int .i64 g
  | 2, v, _ => v = .pointer (some ⟨X, 2, none⟩)
  | 3, v, _ => v = .int .i64 px
  | 4, v, _ => v = .pointer (some ⟨X, 3, none⟩)
  | 5, v, _ => v = .int .i64 py
  | 6, v, _ => v = .int .i64 g
  | 7, v, _ => v = .int .i64 px
  | 8, v, _ => v = .int .i64 py
  | _, _, _ => True
theorem LmnR1_keep (W : World) (X n c : Nat) (A : Option Addr) (g px py : Int) (j : Nat) (v : Value) (w w' : World) (h : LmnR1 W X n c A g px py j v w) (hb : Below w.heap.size w w') : LmnR1 W X n c A g px py j v w' := by
  match j with
  | 0 => exact h
  | 1 => exact h
  | 2 => exact h
  | 3 => exact h
  | 4 => exact h
  | 5 => exact h
  | 6 => exact h
  | 7 => exact h
  | 8 => exact h
  | _ + 9 => trivial
def LmnR13 (W : World) (U T bk ok c9 c7 sn u1 u2 u3 t1 t2 t3 t4 tn f1 f2 f3 f4 fn : Nat) (B9 U1 U2 U3 T1 T2 T3 T4 F1 F2 F3 F4 : Option Addr) (d e f : SD) (t : STr) (g : Int) (l : List En) : Nat → Value → World → Prop
  | 0, v, _ => v = (.slice B9 sn c9)
  | 1, v, _ => v = .agg #[.int .i64 d.id, .int .i64 d.kind, .string d.tag, .string d.text, .slice U1 d.cl.length u1, .slice U2 d.at_.length u2, .slice U3 d.st.length u3, .slice (some ⟨bk, ok, none⟩) 1 c7]
  | 2, v, w => IsT sK w (Fresh W.heap.size w) t v
  | 3, v, _ => v = (.int .i64 g)
  | 4, v, w => ∃ A c, v = .slice A l.length c ∧ w.ownsRow W.heap.size 113 5 (.slice A l.length c) l.length (l.flatMap cvE)
  | 5, v, _ => v = .bool true
  | 6, v, _ => v = .bool false
  | 7, v, _ => v = .bool false
  | 8, v, _ => v = .pointer (some ⟨U, 7, none⟩)
  | 9, v, _ => v = .slice (some ⟨bk, ok, none⟩) 1 c7
  | 10, v, _ => v = .int .i64 1
  | 11, v, _ => v = .bool false
  | 12, v, _ => v = .bool false
  | 13, v, _ => v = .bool false
  | 14, v, _ => v = .pointer (some ⟨U, 7, none⟩)
  | 15, v, _ => v = .slice (some ⟨bk, ok, none⟩) 1 c7
  | 16, v, _ => v = .pointer (some ⟨bk, ok, none⟩)
  | 17, v, _ => v = (sV f (.slice F1 f.cl.length f1) (.slice F2 f.at_.length f2) (.slice F3 f.st.length f3) (.slice F4 fn f4))
  | 18, v, _ => v = .agg #[.int .i64 e.id, .int .i64 e.kind, .string e.tag, .string e.text, .slice T1 e.cl.length t1, .slice T2 e.at_.length t2, .slice T3 e.st.length t3, .slice T4 tn t4]
  | 19, v, _ => v = .bool true
  | 20, v, _ => v = .bool false
  | 21, v, _ => v = .bool false
  | _, _, _ => True
theorem LmnR13_keep (W : World) (U T bk ok c9 c7 sn u1 u2 u3 t1 t2 t3 t4 tn f1 f2 f3 f4 fn : Nat) (B9 U1 U2 U3 T1 T2 T3 T4 F1 F2 F3 F4 : Option Addr) (d e f : SD) (t : STr) (g : Int) (l : List En) (j : Nat) (v : Value) (w w' : World) (h : LmnR13 W U T bk ok c9 c7 sn u1 u2 u3 t1 t2 t3 t4 tn f1 f2 f3 f4 fn B9 U1 U2 U3 T1 T2 T3 T4 F1 F2 F3 F4 d e f t g l j v w) (hb : Below w.heap.size w w') : LmnR13 W U T bk ok c9 c7 sn u1 u2 u3 t1 t2 t3 t4 tn f1 f2 f3 f4 fn B9 U1 U2 U3 T1 T2 T3 T4 F1 F2 F3 F4 d e f t g l j v w' := by
  match j with
  | 0 => exact h
  | 1 => exact h
  | 2 => exact h.fresh hb
  | 3 => exact h
  | 4 => exact (by obtain ⟨A, c, h1, h2⟩ := h; exact ⟨A, c, h1, own_keep h2 hb⟩)
  | 5 => exact h
  | 6 => exact h
  | 7 => exact h
  | 8 => exact h
  | 9 => exact h
  | 10 => exact h
  | 11 => exact h
  | 12 => exact h
  | 13 => exact h
  | 14 => exact h
  | 15 => exact h
  | 16 => exact h
  | 17 => exact h
  | 18 => exact h
  | 19 => exact h
  | 20 => exact h
  | 21 => exact h
  | _ + 22 => trivial

end Go.Proofs.YtaalhglooipnaaaGreat
