/-
  The document's Of: where all nodes of a tree are.
  The tree that lay has laid, with its numbers: plain.
  names of the document's layer 7: of classes, attributes, styles.
  The layout's Of: where all nodes of a tree are.
  The numbers of a numbered tree's entries rise.
  Same of layer 9: two trees that differ by their numbers alone.
-/
import Derived.Test.YtaalhglooipnaaaGreatL32
import Derived.Test.YtaalhglooipnaaaGreatL30
import Derived.Test.YtaalhglooipnaaaGreatL26
import Derived.Test.YtaalhglooipnaaaGreatL13
import Derived.Test.YtaalhglooipnaaaGreatL28
import Derived.Test.YtaalhglooipnaaaGreatL18
namespace Go.Proofs.YtaalhglooipnaaaGreat
open Go.RowKit RT
attribute [local go_sem ↓] Go.wp_at_zero Go.wp_at_succ

def RofR1 (W : World) (X n4 c1 c2 c3 c4 : Nat) (A1 A2 A3 A4 : Option Addr) (d : SD) (t : STr) (g : Int) (l : List En) : Nat → Value → World → Prop
  | 0, v, _ => v = .agg #[.int .i64 d.id, .int .i64 d.kind, .string d.tag, .string d.text, .slice A1 d.cl.length c1, .slice A2 d.at_.length c2, .slice A3 d.st.length c3, .slice A4 n4 c4]
  | 1, v, _ => v = .agg #[.int .i64 d.id, .int .i64 d.kind, .string d.tag, .string d.text, .slice A1 d.cl.length c1, .slice A2 d.at_.length c2, .slice A3 d.st.length c3, .slice A4 n4 c4]
  | 2, v, _ => v = (.int .i64 g)
  | 3, v, w => IsT bK w (Fresh W.heap.size w) (boxT t (0, 0) g) v
  | 4, v, w => ∃ A c, v = .slice A l.length c ∧ w.ownsRow W.heap.size 113 5 (.slice A l.length c) l.length (l.flatMap cvE)
  | 5, v, w => ∃ A c, v = .slice A l.length c ∧ w.ownsRow W.heap.size 113 5 (.slice A l.length c) l.length (l.flatMap cvE)
  | _, _, _ => True
theorem RofR1_keep (W : World) (X n4 c1 c2 c3 c4 : Nat) (A1 A2 A3 A4 : Option Addr) (d : SD) (t : STr) (g : Int) (l : List En) (j : Nat) (v : Value) (w w' : World) (h : RofR1 W X n4 c1 c2 c3 c4 A1 A2 A3 A4 d t g l j v w) (hb : Below w.heap.size w w') : RofR1 W X n4 c1 c2 c3 c4 A1 A2 A3 A4 d t g l j v w' := by
  match j with
  | 0 => exact h
  | 1 => exact h
  | 2 => exact h
  | 3 => exact h.fresh hb
  | 4 => exact (by obtain ⟨A, c, h1, h2⟩ := h; exact ⟨A, c, h1, own_keep h2 hb⟩)
  | 5 => exact (by obtain ⟨A, c, h1, h2⟩ := h; exact ⟨A, c, h1, own_keep h2 hb⟩)
  | _ + 6 => trivial
set_option maxRecDepth 100000 in
set_option maxHeartbeats 8000000 in
theorem rof_any (t : STr) (v : Value) (g : Int) (w : World) (hsz : t.size ≤ 40) (hal : All stOk t) (hT : IsT sK w (Old w) t v) (hs : SrtE (placeT t 0 0 g)) : Calls Tryz.prog 15 #[v, .int .i64 g] w (REnPost w (placeT t 0 0 g)) := by
  have hpl := placeT_len t 0 0 g
  have HT0 := Lib.hid hT
  have HAL := Lib.hid (And.intro hal hsz)
  obtain ⟨l, hl⟩ : ∃ l, l = placeT t 0 0 g := ⟨_, rfl⟩
  rw [← hl] at hs hpl ⊢
  obtain ⟨A4, c4, vs, ⟨a1, a2, a3, rfl, hr⟩, _, _⟩ := IsT.eq.1 hT
  obtain ⟨kn, hkn⟩ : ∃ kn, kn = t.kids.length := ⟨_, rfl⟩
  obtain ⟨d, hd⟩ : ∃ d, d = t.dat := ⟨_, rfl⟩
  rw [← hd] at hr HT0 ⊢
  rw [← hkn] at HT0 ⊢
  clear hT hal hkn hd
  obtain ⟨A1, c1, A2, c2, A3, c3, rfl, rfl, rfl, hrr⟩ := hr
  obtain ⟨w1, hw1, hX, hB0, hs1⟩ := one_new w (sC d (.slice A1 d.cl.length c1) (.slice A2 d.at_.length c2) (.slice A3 d.st.length c3) (.slice A4 kn c4)).toArray 68
  have HLY := Lib.hid (fun wx (hb : Below w1.heap.size w1 wx) => rlay_any 40 t _ g wx (Nat.le_refl _) HAL.out.2 HAL.out.1 (HT0.out.keep (hB0.trans (hb.mono hB0.size))))
  have HSP := Lib.hid (fun wx vb (hb : Below w1.heap.size w1 wx) (hbt : IsT bK wx (Old wx) (boxT t (0, 0) g) vb) => rspread_any 40 t _ vb (0, 0) 0 0 g wx (Nat.le_refl _) HAL.out.2 HAL.out.1 (HT0.out.keep (hB0.trans (hb.mono hB0.size))) hbt)
  rw [← hl] at HSP
  have HSN := Lib.hid (fun A c wx (ho : wx.ownsRow w1.heap.size 113 5 (.slice A l.length c) l.length (l.flatMap cvE)) => rsnap_any A l.length c l wx ((RdS.of_own (cv := cvE) (sz := 5) (d := en0) (fun _ _ => rfl) ho rfl).rd fun b h => h.2) (by omega) hs)
  unfold sV sC at *
  unfold RlPost at HLY
  go_enter Tryz.func15, Tryz.ntmps15
  go_upto_region 1 with fail
  rw [← hw1]
  obtain ⟨X, hXe⟩ : ∃ X, X = w.heap.size := ⟨_, rfl⟩
  rw [← hXe] at hX ⊢
  have HX := Lib.hid hX
  have HB := Lib.hid hB0
  clear hw1 hXe hs1 hX hB0 hrr hpl hl
  refine wp_region_tail 6 _ ?_ ?_ ?_ ?_ (RofR1 w1 X kn c1 c2 c3 c4 A1 A2 A3 A4 d t g l) (fun j v wx wy => RofR1_keep _ _ _ _ _ _ _ _ _ _ _ _ _ _ _ j v wx wy) ?_ ?_ ?_
  · kernel_rfl
  · kernel_rfl
  · kernel_rfl
  · kernel_rfl
  · refine ⟨opV rfl fun s wx hb hd => ⟨_, ex_ld rfl (lit_out 2 (by kernel_rfl)) (ld_row ((HX.out).below hb (HX.out).lt) Tryz.underlying68 sz_rt), rfl⟩, ?_⟩
    refine ⟨opV rfl fun s wx hb hd => ⟨_, ex_ld rfl (lit_out 2 (by kernel_rfl)) (ld_row ((HX.out).below hb (HX.out).lt) Tryz.underlying68 sz_rt), rfl⟩, ?_⟩
    refine ⟨opV rfl fun s wx hb hd => ⟨_, ex_mv rfl (lit_out 1 (by kernel_rfl)), rfl⟩, ?_⟩
    refine ⟨opC rfl fun s wx hb hd => ⟨_, _, ex_c2 rfl rfl (enters Tryz.func40 (by kernel_rfl) rfl _ _) ((lit_at 1 6 (by kernel_rfl) (by kernel_rfl) (by kernel_rfl)).trans (hd 1 (by kernel_rfl))) ((lit_at 2 7 (by kernel_rfl) (by kernel_rfl) (by kernel_rfl)).trans (hd 2 (by kernel_rfl))), ?_⟩, ?_⟩
    · refine (HLY.out wx hb).mono ?_
      rintro e1 w1 ⟨v', rfl, hT', hb'⟩
      exact ⟨v', rfl, hT'.weak (Fresh.low hb.size), hb'⟩
    refine ⟨opC rfl fun s wx hb hd => ?_, ?_⟩
    · have hT := (hd 3 (by kernel_rfl))
      refine ⟨_, _, ex_c4 rfl rfl (enters Tryz.func39 (by kernel_rfl) rfl _ _) ((lit_at 0 5 (by kernel_rfl) (by kernel_rfl) (by kernel_rfl)).trans (hd 0 (by kernel_rfl))) (lit_at 3 8 (by kernel_rfl) (by kernel_rfl) (by kernel_rfl)) rfl rfl, ?_⟩
      refine (HSP.out wx _ hb (IsT.old hT)).mono ?_
      rintro e1 w1 ⟨A, c, rfl, ho, hb'⟩
      exact ⟨_, rfl, ⟨A, c, rfl, own_base ho hb.size⟩, hb'⟩
    refine ⟨opC rfl fun s wx hb hd => ?_, ?_⟩
    · obtain ⟨A, c, e, ho⟩ := (hd 4 (by kernel_rfl))
      refine ⟨_, _, ex_c1 rfl rfl (enters Tryz.func38 (by kernel_rfl) rfl _ _) ((lit_at 4 9 (by kernel_rfl) (by kernel_rfl) (by kernel_rfl)).trans e), ?_⟩
      refine (HSN.out A c wx ho).mono ?_
      rintro e1 w1 ⟨A2, c2, rfl, ho2, hb'⟩
      exact ⟨_, rfl, ⟨A2, c2, rfl, own_base ho2 hb.size⟩, hb'⟩
    trivial
  rotate_left
  · kernel_rfl
  intro s wz hbz hV
  obtain ⟨A9, c9, e5, ho⟩ := hV 5 (by omega)
  clear hV
  simp only [List.take_succ_cons, List.take_zero, List.drop_succ_cons, List.drop_zero, litOf, List.map_cons, List.map_nil, Nat.zero_add, Nat.reduceAdd, Act.put, List.setIfInBounds_toArray, List.set_cons_succ, List.set_cons_zero]
  refine wpList_val rfl (ex_asg rfl e5) ?_
  simp only [Act.put, List.setIfInBounds_toArray, List.set_cons_succ, List.set_cons_zero]
  refine wpList_nil ?_
  have HF := Lib.hid (And.intro (own_base ho HB.out.size) (HB.out.trans (hbz.mono HB.out.size)))
  obtain ⟨n, hn⟩ : ∃ n, n = l.length := ⟨_, rfl⟩
  rw [← hn] at HF ⊢
  have HN := Lib.hid hn
  clear e5 ho hbz hn
  go_wp2_with fail
  go_ret
  exact ⟨A9, c9, by rw [← HN.out] <;> rfl, by rw [← HN.out]; exact HF.out.1, HF.out.2⟩

end Go.Proofs.YtaalhglooipnaaaGreat
namespace Go.Proofs.YtaalhglooipnaaaGreat
open Go.RowKit RT

mutual
/-- Numbered in preorder. -/
def numT : STr → Nat → STr
  | .mk d ks, n => .mk { d with id := n } (numTs ks (n + 1))
def numTs : List STr → Nat → List STr
  | [], _ => []
  | t :: ts, n => numT t n :: numTs ts (n + t.size)
end
theorem numTs_len : ∀ (ts : List STr) (n : Nat), (numTs ts n).length = ts.length
  | [], _ => by rw [numTs]
  | t :: ts, n => by rw [numTs, List.length_cons, List.length_cons, numTs_len ts]
mutual
theorem numT_size : ∀ (t : STr) (n : Nat), (numT t n).size = t.size
  | .mk d ks, n => by rw [numT, RT.size, RT.size, numTs_size ks]
theorem numTs_size : ∀ (ts : List STr) (n : Nat), sizes (numTs ts n) = sizes ts
  | [], _ => by rw [numTs]
  | t :: ts, n => by rw [numTs, sizes, sizes, numT_size t, numTs_size ts]
end
mutual
/-- The nodes are the tree's. -/
def NumR (nd : Nat → ND) : STr → Nat → Prop
  | .mk d ks, n => { d with id := n } = rN n (nd n) ∧ (nd n).kids = idsL (n + 1) ks ∧ NumRs nd ks (n + 1)
def NumRs (nd : Nat → ND) : List STr → Nat → Prop
  | [], _ => True
  | t :: ts, n => NumR nd t n ∧ NumRs nd ts (n + t.size)
end
mutual
theorem NumR.same {nd nd' : Nat → ND} : ∀ (t : STr) (n : Nat), (∀ j, n ≤ j → j < n + t.size → nd' j = nd j) → NumR nd t n → NumR nd' t n
  | .mk d ks, n, h, hr => by
    rw [NumR] at hr ⊢
    rw [RT.size] at h
    rw [h n (Nat.le_refl _) (by omega)]
    exact ⟨hr.1, hr.2.1, NumRs.same ks (n + 1) (fun j h1 h2 => h j (by omega) (by omega)) hr.2.2⟩
theorem NumRs.same {nd nd' : Nat → ND} : ∀ (ts : List STr) (n : Nat), (∀ j, n ≤ j → j < n + sizes ts → nd' j = nd j) → NumRs nd ts n → NumRs nd' ts n
  | [], n, _, _ => by rw [NumRs]; trivial
  | t :: ts, n, h, hr => by
    rw [NumRs] at hr ⊢
    rw [sizes] at h
    exact ⟨NumR.same t n (fun j h1 h2 => h j h1 (by omega)) hr.1, NumRs.same ts _ (fun j h1 h2 => h j (by omega) (by omega)) hr.2⟩
end
mutual
theorem NumR.lay : ∀ (t : STr) (p n : Nat) (nd : Nat → ND), p < n → NumR (layN t p n nd) t n
  | .mk d ks, p, n, nd, hp => by
    rw [layN, NumR, layNs_par ks n (n + 1) _ (by omega), setF_same]
    exact ⟨rfl, by simp, NumRs.lay ks n (n + 1) _ (by omega)⟩
theorem NumRs.lay : ∀ (ts : List STr) (p n : Nat) (nd : Nat → ND), p < n → NumRs (layNs ts p n nd) ts n
  | [], _, _, _, _ => by rw [NumRs]; trivial
  | t :: ts, p, n, nd, hp => by
    rw [layNs, NumRs]
    refine ⟨NumR.same t n (fun j h1 h2 => layNs_old ts p _ _ j (by omega) (by omega)) (NumR.lay t p n nd hp), NumRs.lay ts p _ _ (by omega)⟩
end
mutual
theorem NumR.rd {nd : Nat → ND} {N : Nat} : ∀ (t : STr) (n : Nat), n + t.size ≤ N → NumR nd t n → RdT nd N (numT t n) n
  | .mk d ks, n, h, hr => by
    rw [NumR] at hr
    rw [RT.size] at h
    rw [numT, RdT, hr.2.1]
    exact ⟨by omega, hr.1, by rw [numTs_len, idsL_len], NumRs.rd ks (n + 1) (by omega) hr.2.2⟩
theorem NumRs.rd {nd : Nat → ND} {N : Nat} : ∀ (ts : List STr) (n : Nat), n + sizes ts ≤ N → NumRs nd ts n → RdTs nd N (numTs ts n) (idsL n ts)
  | [], n, _, _ => by simp [numTs, RdTs]
  | t :: ts, n, h, hr => by
    rw [NumRs] at hr
    rw [sizes] at h
    rw [numTs, idsL, RdTs]
    exact ⟨⟨rfl, NumR.rd t n (by omega) hr.1⟩, NumRs.rd ts _ (by omega) hr.2⟩
end

end Go.Proofs.YtaalhglooipnaaaGreat
namespace Go.Proofs.YtaalhglooipnaaaGreat
open Go.RowKit RT
attribute [local go_sem ↓] Go.wp_at_zero Go.wp_at_succ

theorem own_low {w : World} {base base' : Nat} {e : TypeId} {size n : Nat} {v : Value} {xs : List Value} (h : w.ownsRow base e size v n xs) (hb : base' ≤ base) : w.ownsRow base' e size v n xs := by
  refine ⟨h.1, ?_⟩
  rcases h.2 with h0 | ⟨g, cap, cur, hv, hg, rest⟩
  · exact .inl h0
  · exact .inr ⟨g, cap, cur, hv, Nat.le_trans hb hg, rest⟩
def namesL (d : VD) : List ByteArray := d.cl ++ d.at_.map (·.1) ++ d.st.map (·.1)
/-- append([]string{}, l...), as a row of one's own. -/
theorem app_own (w : World) (ty : TypeId) (g base : Nat) (hg : Blk w g 9 #[]) (hb : base ≤ g) (A : Option Addr) (n c : Nat) (l : List ByteArray) (S : Nat → Prop) (hr : RdS cvS ByteArray.empty 1 w S A n l) (hn : n ≤ 1000000) :
    ∃ v w', (Builtin.append_ #[25, 25] ty #[.slice (some ⟨g, 0, none⟩) 0 0, .slice A n c]).run Tryz.prog w = .ok v w' ∧ w'.ownsRow base 9 1 v n (l.flatMap cvS) ∧ Below w.heap.size w w' := by
  obtain ⟨i, hi, hz, hsize, hby⟩ := info_parts str_info
  have ht := Tryz.underlying25
  have hl := hr.1
  have hcv : ∀ a ∈ l, (cvS a).length = 1 := fun _ _ => rfl
  by_cases h0 : n = 0
  · subst h0
    obtain rfl := List.length_eq_zero_iff.1 hl
    refine ⟨.slice (some ⟨g, 0, none⟩) 0 0, w, ?_, ?_, Below.refl _ _⟩
    · cases A <;> simp [Builtin.append_, run_underlying ht, sizeOf, typeInfo, hi, Builtin.lenOf, Builtin.firstCells, loadCells, loadCellsFrom, storeCells]
    · have := row_own (w := w) (g := g) (n := 0) (cap := 0) (e := 9) (k := 1) (cur := #[]) hb hg (Nat.le_refl _) (by decide) rfl
      exact this
  · obtain ⟨b, off, hA, hB, _⟩ := hr.2 0 (by omega)
    subst hA
    have hnews := hr.cells hcv (by decide)
    have hfl : (l.flatMap cvS).length = n * i.size := by rw [hsize, ← hl]; exact flatS_len l hcv
    have hmax : n ≤ maxLen := by unfold maxLen; omega
    have hrun := run_append_grow (P := Tryz.prog) w 25 ty 9 i _ ht hi hz ⟨g, 0, none⟩ 0 0 [] (by simp) (by intro j v h; simp at h) ⟨b, off, none⟩ n c _ hfl hnews (by omega) (by omega) (by
        exact growslice_fits (by omega) (by rw [Nat.zero_add, hby]; omega))
    simp only [Nat.zero_add, Array.empty_append] at hrun
    have hge := grownCap_ge w n 0 9
    have hcm : grownCap w n 0 9 ≤ maxLen := grownCap_le_maxLen w n 0 9 hmax
    have hs : ((l.flatMap cvS).toArray ++ Builtin.zeroCells (Value.string ByteArray.empty).cells (grownCap w n 0 9 - n)).size = grownCap w n 0 9 * 1 := by
      rw [Array.size_append, List.size_toArray, size_zeroCells, hfl, hsize]
      show n * 1 + (grownCap w n 0 9 - n) * 1 = _
      omega
    have htk : ((l.flatMap cvS).toArray ++ Builtin.zeroCells (Value.string ByteArray.empty).cells (grownCap w n 0 9 - n)).toList.take (n * 1) = l.flatMap cvS := by
      rw [Array.toList_append, List.toList_toArray]
      exact List.take_left' (by rw [hfl, hsize])
    have ho := row_own (w := w.drew.alloc (.cells _ 9)) (g := w.heap.size) (n := n) (cap := grownCap w n 0 9) (base := base) (e := 9) (k := 1) (by have := hg.lt; omega) (heap_alloc_new w.drew _) hge hcm hs
    rw [htk] at ho
    exact ⟨_, _, hrun, ho, ((below_drewN (Below.refl _ _) 1).alloc (Nat.le_refl _) _)⟩
theorem bs1_S (v : ByteArray) (w : World) : (Instr.buildSlice 25 1 #[(0, .string v)]).run Tryz.prog w = .ok (.slice (some ⟨w.heap.size, 0, none⟩) 1 1) (w.alloc (.cells #[.string v] 9)) := by
  go_simp
set_option maxRecDepth 100000 in
set_option maxHeartbeats 8000000 in
theorem names_any (d : VD) (A1 A2 A3 : Option Addr) (c1 c2 c3 : Nat) (k : Value) (w : World) (hvb : vb d) (r1 : RdS cvS ByteArray.empty 1 w (Old w) A1 d.cl.length d.cl) (r2 : RdS St.cvP St.pr0 2 w (Old w) A2 d.at_.length d.at_) (r3 : RdS cvP pr0 2 w (Old w) A3 d.st.length d.st) :
    Calls Tryz.prog 60 #[vV d (.slice A1 d.cl.length c1) (.slice A2 d.at_.length c2) (.slice A3 d.st.length c3) k] w (Hands (fun v w' => w'.ownsRow w.heap.size 9 1 v (namesL d).length ((namesL d).flatMap cvS)) w) := by
  obtain ⟨hb1, hb2, hb3⟩ := hvb
  obtain ⟨w1, hw1, hX, hB0, hs1⟩ := one_new w (vC d (.slice A1 d.cl.length c1) (.slice A2 d.at_.length c2) (.slice A3 d.st.length c3) k).toArray 32
  unfold vV vC
  unfold vC at hX hw1
  go_enter Tryz.func60, Tryz.ntmps60
  go_upto_region 1 with fail
  rw [← hw1]
  obtain ⟨X, hXe⟩ : ∃ X, X = w.heap.size := ⟨_, rfl⟩
  rw [← hXe] at hX hs1 ⊢
  have HX := Lib.hid (And.intro hX (And.intro hB0 (And.intro hXe hs1)))
  have HR := Lib.hid (And.intro (r1.move (w' := w1) (.of_below hB0 fun _ h => h)) (And.intro (r2.move (w' := w1) (.of_below hB0 fun _ h => h)) (And.intro (r3.move (w' := w1) (.of_below hB0 fun _ h => h)) (fun b (h : Old w b) => show b < w1.heap.size from Nat.lt_of_lt_of_le h hB0.size))))
  clear hw1 hXe hs1 hX hB0 r1 r2 r3
  refine _root_.Go.wp_region_lit ?_
  refine wpList_val rfl (ex_bsl0 rfl (bsl0_S w1)) ?_
  obtain ⟨w2, hw2, hG, hB2, hs2⟩ := one_new w1 #[] 9
  rw [← hw2]
  obtain ⟨G, hGe⟩ : ∃ G, G = w1.heap.size := ⟨_, rfl⟩
  rw [← hGe] at hG ⊢
  refine wpList_val rfl (ex_fld rfl rfl (fa_rn_4 X w2)) ?_
  have x4 : w2.cell? ⟨X, 4, none⟩ = some (.slice A1 d.cl.length c1) := (HX.out.1.below hB2 HX.out.1.lt).cell 4
  refine wpList_val rfl (ex_ld rfl rfl (ld_Lstring x4)) ?_
  simp only [Act.put, List.setIfInBounds_toArray, List.set_cons_succ, List.set_cons_zero]
  obtain ⟨v3, w3, hrun, hown, hb3'⟩ := app_own w2 25 G w1.heap.size hG (by rw [hGe]; exact Nat.le_refl _) A1 d.cl.length c1 d.cl (Old w) (HR.out.1.move (.of_below hB2 HR.out.2.2.2)) (by omega)
  refine wpList_val rfl (ex_app rfl rfl rfl hrun) ?_
  refine wpList_val rfl (ex_asg (v := v3) rfl rfl) ?_
  refine wpList_nil ?_
  simp only [Act.put, List.setIfInBounds_toArray, List.set_cons_succ, List.set_cons_zero]
  have HI := Lib.hid (show Below w1.heap.size w1 w3 ∧ w3.ownsRow w1.heap.size 9 1 v3 d.cl.length (d.cl.flatMap cvS) from ⟨hB2.trans (hb3'.mono hB2.size), hown⟩)
  clear hrun hown hb3' hG hGe hB2 hs2 hw2 x4
  have x5 : w3.cell? ⟨X, 5, none⟩ = some (.slice A2 d.at_.length c2) := (HX.out.1.below HI.out.1 HX.out.1.lt).cell 5
  obtain ⟨trs, hti, hz0, hz1, hz2⟩ := info_parts str_info
  go_wp2_with fail
  go_loopw [3, 15] (fun v i wx => ∃ k, k ≤ d.at_.length ∧ i = .int .i64 (k : Nat) ∧ Below w1.heap.size w1 wx ∧ wx.ownsRow w1.heap.size 9 1 v (d.cl.length + k) ((d.cl ++ (d.at_.take k).map (·.1)).flatMap cvS)) (fun _ i _ => d.at_.length - (intOf i).toNat)
  case atStart => exact ⟨0, Nat.zero_le _, rfl, HI.out.1, by simpa using HI.out.2⟩
  case round =>
    obtain ⟨k, hk, rfl, hb, hown⟩ := hrel
    obtain ⟨v0, hv0⟩ : ∃ v0, v0 = u3 := ⟨_, rfl⟩
    rw [← hv0] at hown ⊢
    clear hv0
    by_cases hlt : k < d.at_.length
    · obtain ⟨b, off, rfl, hbB, d0⟩ := HR.out.2.1.2 k hlt
      have d1 := d0 1 (by omega)
      replace d0 := d0 0 (by omega)
      have hbb := HR.out.2.2.2 b hbB
      replace d0 := (hb.cell (p := ⟨b, off + k * 2 + 0, none⟩) hbb).trans d0
      replace d1 := (hb.cell (p := ⟨b, off + k * 2 + 1, none⟩) hbb).trans d1
      obtain ⟨x, hx⟩ : ∃ x, x = d.at_.getD k St.pr0 := ⟨_, rfl⟩
      rw [← hx] at d0 d1
      replace d0 : wr.cell? ⟨b, off + k * 2, none⟩ = some (.string x.1) := d0
      replace d1 : wr.cell? ⟨b, off + k * 2 + 1, none⟩ = some (.string x.2) := d1
      have i1 : (0 : Int) ≤ (k : Int) := by omega
      have i2 : (k : Int) < (d.at_.length : Int) := by omega
      obtain ⟨wk, hwk, hK5, hBk, hsk⟩ := one_new wr #[.string x.1, .string x.2] 89
      have HXX := Lib.hid hx
      clear hx
      go_upto_region 5 with fail
      rw [← hwk]
      obtain ⟨K5, hK5e⟩ : ∃ K5, K5 = wr.heap.size := ⟨_, rfl⟩
      rw [← hK5e] at hK5 ⊢
      have z0 : wk.cell? ⟨K5, 0, none⟩ = some (.string x.1) := hK5.cell 0
      have HO := Lib.hid (And.intro (own_keep hown hBk) (And.intro (hb.trans (hBk.mono hb.size)) (below_alloc wk (.cells #[.string x.1] 9))))
      clear hwk hK5 hBk hsk hown hK5e d0 d1 hbb hbB
      go_wp2_with (first
        | (at_builtin; refine wpList_append_lies _ rfl _ _ _ rfl w1.heap.size 9 trs _ 1 16 Tryz.underlying25 hti hz0 hz1 hz2 rfl (by decide) v0 (d.cl.length + k) _ rfl (HO.out.1.alloc _) _ 1 1 [.string x.1] rfl rfl (World.news_of_block (heap_alloc_new _ _)) (by intro u hu; simp at hu; subst hu; rfl) (by omega) (by unfold maxLen; omega) (by omega) (by have := HO.out.2.1.size; simp; omega) _ rfl ?_; intro g cap w4 hown hg hat hlt4; have HS := Lib.hid (And.intro hown ((HO.out.2.1.trans (HO.out.2.2.mono HO.out.2.1.size)).grown hg (by have := HO.out.2.1.size; simp; omega) (fun j hj => (HO.out.1.lt j hj).1))); clear hown hg hat hlt4))
      go_roundw
      case rel =>
        refine ⟨k + 1, by omega, by go_num, HS.out.2, ?_⟩
        have h := HS.out.1
        have e1 : (d.cl ++ (d.at_.take (k + 1)).map (·.1)).flatMap cvS = (d.cl ++ (d.at_.take k).map (·.1)).flatMap cvS ++ [.string x.1] := by
          rw [take_snoc d.at_ St.pr0 k hlt, ← HXX.out]
          simp [cvS]
        rw [e1]
        exact h
      case measure => simp [intOf]; omega
    · obtain rfl : k = d.at_.length := by omega
      have HI2 := Lib.hid (And.intro hb (show wr.ownsRow w1.heap.size 9 1 v0 (d.cl.length + d.at_.length) ((d.cl ++ d.at_.map (·.1)).flatMap cvS) by rw [List.take_length] at hown; exact hown))
      have x6 : wr.cell? ⟨X, 6, none⟩ = some (.slice A3 d.st.length c3) := (HX.out.1.below hb HX.out.1.lt).cell 6
      clear hown hlt hk hb
      go_wp2_with fail
      go_loopw [3, 28] (fun v i wx => ∃ k, k ≤ d.st.length ∧ i = .int .i64 (k : Nat) ∧ Below w1.heap.size w1 wx ∧ wx.ownsRow w1.heap.size 9 1 v ((d.cl.length + d.at_.length) + k) ((d.cl ++ d.at_.map (·.1) ++ (d.st.take k).map (·.1)).flatMap cvS)) (fun _ i _ => d.st.length - (intOf i).toNat)
      case atStart => exact ⟨0, Nat.zero_le _, rfl, HI2.out.1, by simpa using HI2.out.2⟩
      case round =>
        obtain ⟨k, hk, rfl, hb, hown⟩ := hrel
        obtain ⟨v0, hv0⟩ : ∃ v0, v0 = u3 := ⟨_, rfl⟩
        rw [← hv0] at hown ⊢
        clear hv0
        by_cases hlt : k < d.st.length
        · obtain ⟨b, off, rfl, hbB, d0⟩ := HR.out.2.2.1.2 k hlt
          have d1 := d0 1 (by omega)
          replace d0 := d0 0 (by omega)
          have hbb := HR.out.2.2.2 b hbB
          replace d0 := (hb.cell (p := ⟨b, off + k * 2 + 0, none⟩) hbb).trans d0
          replace d1 := (hb.cell (p := ⟨b, off + k * 2 + 1, none⟩) hbb).trans d1
          obtain ⟨x, hx⟩ : ∃ x, x = d.st.getD k pr0 := ⟨_, rfl⟩
          rw [← hx] at d0 d1
          replace d0 : wr.cell? ⟨b, off + k * 2, none⟩ = some (.string x.1) := d0
          replace d1 : wr.cell? ⟨b, off + k * 2 + 1, none⟩ = some (.int .i64 x.2) := d1
          have i1 : (0 : Int) ≤ (k : Int) := by omega
          have i2 : (k : Int) < (d.st.length : Int) := by omega
          obtain ⟨wk, hwk, hK5, hBk, hsk⟩ := one_new wr #[.string x.1, .int .i64 x.2] 120
          have HXX := Lib.hid hx
          clear hx
          go_upto_region 10 with fail
          rw [← hwk]
          obtain ⟨K5, hK5e⟩ : ∃ K5, K5 = wr.heap.size := ⟨_, rfl⟩
          rw [← hK5e] at hK5 ⊢
          have z0 : wk.cell? ⟨K5, 0, none⟩ = some (.string x.1) := hK5.cell 0
          have HO := Lib.hid (And.intro (own_keep hown hBk) (And.intro (hb.trans (hBk.mono hb.size)) (below_alloc wk (.cells #[.string x.1] 9))))
          clear hwk hK5 hBk hsk hown hK5e d0 d1 hbb hbB
          go_wp2_with (first
            | (at_builtin; refine wpList_append_lies _ rfl _ _ _ rfl w1.heap.size 9 trs _ 1 16 Tryz.underlying25 hti hz0 hz1 hz2 rfl (by decide) v0 ((d.cl.length + d.at_.length) + k) _ rfl (HO.out.1.alloc _) _ 1 1 [.string x.1] rfl rfl (World.news_of_block (heap_alloc_new _ _)) (by intro u hu; simp at hu; subst hu; rfl) (by omega) (by unfold maxLen; omega) (by omega) (by have := HO.out.2.1.size; simp; omega) _ rfl ?_; intro g cap w4 hown hg hat hlt4; have HS := Lib.hid (And.intro hown ((HO.out.2.1.trans (HO.out.2.2.mono HO.out.2.1.size)).grown hg (by have := HO.out.2.1.size; simp; omega) (fun j hj => (HO.out.1.lt j hj).1))); clear hown hg hat hlt4))
          go_roundw
          case rel =>
            refine ⟨k + 1, by omega, by go_num, HS.out.2, ?_⟩
            have h := HS.out.1
            have e1 : (d.cl ++ d.at_.map (·.1) ++ (d.st.take (k + 1)).map (·.1)).flatMap cvS = (d.cl ++ d.at_.map (·.1) ++ (d.st.take k).map (·.1)).flatMap cvS ++ [.string x.1] := by
              rw [take_snoc d.st pr0 k hlt, ← HXX.out]
              simp [cvS]
            rw [e1]
            exact h
          case measure => simp [intOf]; omega
        · obtain rfl : k = d.st.length := by omega
          have HE := Lib.hid (show wr.ownsRow w.heap.size 9 1 v0 (namesL d).length ((namesL d).flatMap cvS) ∧ Below w.heap.size w wr by
            rw [List.take_length] at hown
            have e : (namesL d).length = d.cl.length + d.at_.length + d.st.length := by simp [namesL]; omega
            rw [e]
            exact ⟨own_low hown (by have := HX.out.2.1.size; omega), HX.out.2.1.trans (hb.mono HX.out.2.1.size)⟩)
          clear hown hlt hk hb
          go_wp2_with fail
          exact bodyPost_ret (v := v0) (by simp [results, Tryz.results60, go_sem]) rfl ⟨_, rfl, HE.out.1, HE.out.2⟩

end Go.Proofs.YtaalhglooipnaaaGreat
namespace Go.Proofs.YtaalhglooipnaaaGreat
open Go.RowKit RT
attribute [local go_sem ↓] Go.wp_at_zero Go.wp_at_succ

set_option maxRecDepth 100000 in
set_option maxHeartbeats 8000000 in
theorem lof_any (t : STr) (v : Value) (g : Int) (w : World) (hsz : t.size ≤ 40) (hal : All stOk t) (hT : IsT sK w (Old w) t v) (hs : SrtE (placeT t 0 0 g)) : Calls Tryz.prog 36 #[v, .int .i64 g] w (EnPost w (placeT t 0 0 g)) := by
  have HT0 := Lib.hid hT
  have HS := Lib.hid hs
  have HAL := Lib.hid hal
  obtain ⟨A4, c4, vs, ⟨a1, a2, a3, rfl, hr⟩, _, _⟩ := IsT.eq.1 hT
  obtain ⟨kn, hkn⟩ : ∃ kn, kn = t.kids.length := ⟨_, rfl⟩
  obtain ⟨d, hd⟩ : ∃ d, d = t.dat := ⟨_, rfl⟩
  rw [← hd] at hr HT0 ⊢
  rw [← hkn] at HT0 ⊢
  clear hT hal hkn hd hs
  obtain ⟨A1, c1, A2, c2, A3, c3, rfl, rfl, rfl, hrr⟩ := hr
  obtain ⟨w1, hw1, hX, hB0, hs1⟩ := one_new w (sC d (.slice A1 d.cl.length c1) (.slice A2 d.at_.length c2) (.slice A3 d.st.length c3) (.slice A4 kn c4)).toArray 40
  unfold sV sC
  unfold sC at hX hw1
  go_enter Tryz.func36, Tryz.ntmps36
  go_upto_region 1 with fail
  rw [← hw1]
  clear hw1
  obtain ⟨X, hXe⟩ : ∃ X, X = w.heap.size := ⟨_, rfl⟩
  rw [← hXe] at hX ⊢
  have HX := Lib.hid hX
  have HB := Lib.hid hB0
  clear hXe hs1 hX
  obtain ⟨w2, hw2, hL, hB1, hs2⟩ := one_new w1 #[.slice none 0 0] 57
  go_upto_region 2 with fail
  rw [← hw2]
  obtain ⟨L, hLe⟩ : ∃ L, L = w1.heap.size := ⟨_, rfl⟩
  rw [← hLe] at hL ⊢
  have HL := Lib.hid (And.intro hL (And.intro hB1 hLe))
  obtain ⟨x0, x1, x2, x3, x4, x5, x6, x7⟩ := scells (a1 := .slice A1 d.cl.length c1) (a2 := .slice A2 d.at_.length c2) (a3 := .slice A3 d.st.length c3) (k := .slice A4 kn c4) (HX.out.below hB1 HX.out.lt)
  have HB2 := Lib.hid (hB0.trans (hB1.mono hB0.size))
  have HAC := Lib.hid (show Acc w2 w.heap.size L [] (.slice none 0 0) from ⟨by rw [hLe]; exact hB0.size, hL, World.ownsRow_nil _ _ _ _, by simp [Value.ownBlock]⟩)
  clear hB0 hw2 hL hB1 hs2 hLe hrr
  go_wp2_with fail
  have hpl := lplace_any 40 t _ 0 0 g w2 w.heap.size L [] (.slice none 0 0) (Nat.le_refl _) hsz HAL.out (HT0.out.move (Still.of_below HB2.out fun b hb => hb)) HAC.out (by simp; omega)
  unfold sV sC at hpl
  refine hpl.mono ?_
  clear hpl
  rintro e3 w3 ⟨rfl, v3, hA3, hC3, hO3⟩
  rw [List.nil_append] at hA3
  obtain ⟨P, hPe⟩ : ∃ P, P = placeT t 0 0 g := ⟨_, rfl⟩
  rw [← hPe] at HS hA3 ⊢
  have hPl : P.length ≤ 500 := by rw [hPe]; have := placeT_len t 0 0 g; omega
  obtain ⟨h1, h2, h3, h4⟩ := hA3
  obtain ⟨A5, c5, rfl⟩ := own_form h3
  have z0 : w3.cell? ⟨L, 0, none⟩ = some (.slice A5 P.length c5) := h2.cell 0
  have HES := Lib.hid (show Es w3 w3.heap.size A5 P.length P from (RdS.of_own (cv := cvE) (sz := 5) (d := en0) (fun _ _ => rfl) h3 rfl).rd fun b h => h.2)
  have HB3 := Lib.hid (show Below w.heap.size w w3 from HB2.out.trans (hC3.below HB2.out.size fun i hi => by
    rcases hi with hi | hi
    · simp [Value.ownBlock] at hi
    · rw [hi]; exact HAC.out.1))
  have HPE := Lib.hid hPe
  clear h1 h2 h3 h4 hC3 hO3 hPe x0 x1 x2 x3 x4 x5 x6 x7
  go_wp2_with fail
  refine (snapOf_any A5 P.length c5 P w3 HES.out hPl HS.out).mono ?_
  rintro e4 w4 ⟨A6, c6, rfl, hown, hb⟩
  have HF := Lib.hid (show w4.ownsRow w.heap.size 79 5 (.slice A6 P.length c6) P.length (P.flatMap cvE) ∧ Below w.heap.size w w4 from ⟨own_low hown HB3.out.size, HB3.out.trans (hb.mono HB3.out.size)⟩)
  clear hown hb z0
  go_wp2_with fail
  go_ret
  rw [← HPE.out]
  exact ⟨A6, c6, rfl, HF.out.1, HF.out.2⟩

end Go.Proofs.YtaalhglooipnaaaGreat
namespace Go.Proofs.YtaalhglooipnaaaGreat
open Go.RowKit RT

/-- Entries with numbers from n on, below m, that rise. -/
def RisE (l : List En) (n m : Nat) : Prop := l.Pairwise (fun a b => a.1 < b.1) ∧ ∀ a ∈ l, (n : Int) ≤ a.1 ∧ a.1 < (m : Int)
theorem RisE.nil (n m : Nat) : RisE [] n m := ⟨List.Pairwise.nil, fun _ h => by cases h⟩
theorem RisE.app {a b : List En} {n m k : Nat} (h1 : RisE a n m) (h2 : RisE b m k) (h3 : n ≤ m) (h4 : m ≤ k) : RisE (a ++ b) n k := by
  refine ⟨List.pairwise_append.2 ⟨h1.1, h2.1, fun x hx y hy => ?_⟩, fun x hx => ?_⟩
  · have := (h1.2 x hx).2
    have := (h2.2 y hy).1
    omega
  · rcases List.mem_append.1 hx with h | h
    · have := h1.2 x h; omega
    · have := h2.2 x h; omega
theorem RisE.srt {l : List En} {n m : Nat} (h : RisE l n m) : SrtE l := fun i j hij hj => by
  have := List.pairwise_iff_getElem.1 h.1 i j (by omega) hj hij
  simpa [List.getD, hj, show i < l.length by omega] using this
mutual
theorem placeT_rise : ∀ (t : STr) (n : Nat) (x y g : Int), RisE (placeT (numT t n) x y g) n (n + t.size)
  | .mk d ks, n, x, y, g => by
    rw [numT, placeT, RT.size]
    have h1 : RisE [((n : Int), x, y, (sizeT (.mk { d with id := n } (numTs ks (n + 1))) g).1, (sizeT (.mk { d with id := n } (numTs ks (n + 1))) g).2)] n (n + 1) := by
      refine ⟨List.pairwise_singleton _ _, fun a ha => ?_⟩
      rw [List.mem_singleton.1 ha]
      show (n : Int) ≤ n ∧ (n : Int) < _
      omega
    have h2 : RisE (if ({ d with id := n } : SD).kind = 1 then [] else placesT { d with id := n } (insV { d with id := n } g) x y (numTs ks (n + 1)) (putT { d with id := n } (insV { d with id := n } g) (numTs ks (n + 1))).out) (n + 1) (n + (1 + sizes ks)) := by
      split
      · exact RisE.nil _ _
      · rw [← Nat.add_assoc]; exact placesT_rise _ _ _ _ ks (n + 1) _
    exact RisE.app h1 h2 (by omega) (by omega)
theorem placesT_rise (d : SD) (m x y : Int) : ∀ (ts : List STr) (n : Nat) (ps : List (Int × Int)), RisE (placesT d m x y (numTs ts n) ps) n (n + sizes ts)
  | [], n, ps => by rw [numTs]; unfold placesT; exact RisE.nil _ _
  | t :: ts, n, [] => by rw [numTs]; unfold placesT; exact RisE.nil _ _
  | t :: ts, n, p :: ps => by
    rw [numTs, placesT, sizes, ← Nat.add_assoc]
    exact RisE.app (placeT_rise t n _ _ _) (placesT_rise d m x y ts (n + t.size) ps) (by omega) (by omega)
end

end Go.Proofs.YtaalhglooipnaaaGreat
namespace Go.Proofs.YtaalhglooipnaaaGreat
open Go.RowKit RT
attribute [local go_sem ↓] Go.wp_at_zero Go.wp_at_succ

mutual
/-- Alike but for the numbers. -/
def Alk : STr → STr → Prop
  | .mk d ks, .mk e ls => ({ d with id := 0 } : SD) = { e with id := 0 } ∧ Alks ks ls
def Alks : List STr → List STr → Prop
  | [], [] => True
  | t :: ts, u :: us => Alk t u ∧ Alks ts us
  | _, _ => False
end
theorem Alks.len : ∀ {ts us : List STr}, Alks ts us → us.length = ts.length
  | [], [], _ => rfl
  | t :: ts, u :: us, h => by rw [Alks] at h; rw [List.length_cons, List.length_cons, Alks.len h.2]
  | [], _ :: _, h => by simp [Alks] at h
  | _ :: _, [], h => by simp [Alks] at h
theorem Alks.at_ : ∀ {ts us : List STr}, Alks ts us → ∀ (k : Nat) (a b : STr), ts[k]? = some a → us[k]? = some b → Alk a b
  | [], _, _, k, a, b, h, _ => by simp at h
  | _ :: _, [], h, _, _, _, _, _ => by simp [Alks] at h
  | t :: ts, u :: us, h, 0, a, b, h1, h2 => by
    rw [Alks] at h
    obtain rfl : t = a := by simpa using h1
    obtain rfl : u = b := by simpa using h2
    exact h.1
  | t :: ts, u :: us, h, k + 1, a, b, h1, h2 => by
    rw [Alks] at h
    exact h.2.at_ k a b (by simpa using h1) (by simpa using h2)
/-- Few classes, attributes, styles. -/
def sfew (d : SD) : Prop := d.cl.length ≤ 500 ∧ d.at_.length ≤ 500 ∧ d.st.length ≤ 500
def SmPost (w : World) (e : Ending) (w' : World) : Prop := e = .returned (.bool true) ∧ Below w.heap.size w w'
set_option maxRecDepth 100000 in
set_option maxHeartbeats 8000000 in
theorem eqf_any (m : Nat) (hS : ∀ (a b : STr) (va vb : Value) (w : World), a.size ≤ m → Alk a b → All sfew a → All sfew b → IsT sK w (Old w) a va → IsT sK w (Old w) b vb → Calls Tryz.prog 17 #[va, vb] w (SmPost w))
    (ks ls : List STr) (A B : Option Addr) (c c' : Nat) (vs us : List Value) (w : World) (hk : ∀ k (h : k < ks.length), ks[k].size ≤ m) (hl : ks.length ≤ 1000) (hal : Alks ks ls) (hf1 : Alls sfew ks) (hf2 : Alls sfew ls)
    (h1 : Vs 8 w (Old w) A ks.length vs) (h2 : IsTs sK w (Old w) ks vs) (h3 : Vs 8 w (Old w) B ks.length us) (h4 : IsTs sK w (Old w) ls us) :
    Calls Tryz.prog 44 #[.slice A ks.length c, .slice B ks.length c', .func (.func 17) #[] #[]] w (SmPost w) := by
  have HK := Lib.hid (And.intro h1 (And.intro h2 (And.intro h3 h4)))
  have HLL := Lib.hid hal.len
  have HAL := Lib.hid hal
  clear h1 h2 h3 h4 hal
  go_enter Tryz.func44, Tryz.ntmps44
  go_wp2_with fail
  go_loopw [17] (fun i wx => ∃ k, k ≤ ks.length ∧ i = .int .i64 (k : Nat) ∧ Below w.heap.size w wx) (fun i _ => ks.length - (intOf i).toNat)
  case atStart => exact ⟨0, Nat.zero_le _, rfl, Below.refl _ _⟩
  case round =>
    obtain ⟨k, hkk, rfl, hb⟩ := hrel
    by_cases hlt : k < ks.length
    · have hlt2 : k < ls.length := by rw [HLL.out]; exact hlt
      obtain ⟨a, ha⟩ : ∃ a : STr, a = ks[k]'hlt := ⟨_, rfl⟩
      obtain ⟨b, hb'⟩ : ∃ b : STr, b = ls[k]'hlt2 := ⟨_, rfl⟩
      have ha1 : a.size ≤ m := by rw [ha]; exact hk k hlt
      have hfa : All sfew a := by rw [ha]; exact hf1.at_ k hlt
      have hfb : All sfew b := by rw [hb']; exact hf2.at_ k hlt2
      have hab : Alk a b := HAL.out.at_ k a b (by rw [ha]; simp) (by rw [hb']; simp)
      have hTa : IsT sK w (Old w) a (vs.getD k agg0) := by rw [ha]; exact HK.out.2.1.at_ k hlt
      have hTb : IsT sK w (Old w) b (us.getD k agg0) := by rw [hb']; exact HK.out.2.2.2.at_ k hlt2
      clear ha hb'
      obtain ⟨A', c1', vs', ⟨k1, k2, k3, hv, B1, b1, B2, b2, B3, b3, rfl, rfl, rfl, _⟩, _, _⟩ := IsT.eq.1 hTa
      obtain ⟨E', g1', vs2', ⟨l1, l2, l3, hu, C1, e1, C2, e2, C3, e3, rfl, rfl, rfl, _⟩, _, _⟩ := IsT.eq.1 hTb
      obtain ⟨e, he⟩ : ∃ e, e = a.dat := ⟨_, rfl⟩
      obtain ⟨m1, hm1⟩ : ∃ v, v = a.kids.length := ⟨_, rfl⟩
      obtain ⟨f, hf⟩ : ∃ f, f = b.dat := ⟨_, rfl⟩
      obtain ⟨m2, hm2⟩ : ∃ v, v = b.kids.length := ⟨_, rfl⟩
      rw [← he, ← hm1] at hv
      rw [← hf, ← hm2] at hu
      obtain ⟨pb, po, rfl, hpB, d0, d1, d2, d3, d4, d5, d6, d7⟩ := Vs.shown HK.out.1 k hlt hv (Still.of_below hb fun _ h => h)
      obtain ⟨qb, qo, rfl, hqB, f0, f1, f2, f3, f4, f5, f6, f7⟩ := Vs.shown HK.out.2.2.1 k hlt hu (Still.of_below hb fun _ h => h)
      rw [hv] at hTa
      rw [hu] at hTb
      have i1 : (0 : Int) ≤ (k : Int) := by omega
      have i3 : (k : Int) < (ks.length : Int) := by omega
      obtain ⟨wk, hwk, hK7, hBk, hsk⟩ := one_new wr (sC e (.slice B1 e.cl.length b1) (.slice B2 e.at_.length b2) (.slice B3 e.st.length b3) (.slice A' m1 c1')).toArray 40
      unfold sC at hwk hK7
      have hwf : ∀ j, wk.cell? ⟨qb, j, none⟩ = wr.cell? ⟨qb, j, none⟩ := fun j => hBk.cell (p := ⟨qb, j, none⟩) (Nat.lt_of_lt_of_le hqB hb.size)
      rw [← hwf] at f0 f1 f2 f3 f4 f5 f6 f7
      clear hv hu he hm1 hf hm2 hwf
      go_upto_region 6 with fail
      rw [← hwk]
      obtain ⟨K7, hK7e⟩ : ∃ K7, K7 = wr.heap.size := ⟨_, rfl⟩
      rw [← hK7e] at hK7 ⊢
      clear hwk hK7e d0 d1 d2 d3 d4 d5 d6 d7 hsk
      obtain ⟨wq, hwq, hK9, hBq, hsq⟩ := one_new wk (sC f (.slice C1 f.cl.length e1) (.slice C2 f.at_.length e2) (.slice C3 f.st.length e3) (.slice E' m2 g1')).toArray 40
      unfold sC at hwq hK9
      go_upto_region 7 with fail
      rw [← hwq]
      obtain ⟨K9, hK9e⟩ : ∃ K9, K9 = wk.heap.size := ⟨_, rfl⟩
      rw [← hK9e] at hK9 ⊢
      have hbq : Below w.heap.size w wq := (hb.trans (hBk.mono hb.size)).trans (hBq.mono (Nat.le_trans hb.size hBk.size))
      have hcall := hS a b _ _ wq ha1 hab hfa hfb (hTa.keep hbq) (hTb.keep hbq)
      unfold sV sC at hcall
      have HC := Lib.hid hcall
      have HBQ := Lib.hid hbq
      obtain ⟨z0, z1, z2, z3, z4, z5, z6, z7⟩ := scells (a1 := .slice B1 e.cl.length b1) (a2 := .slice B2 e.at_.length b2) (a3 := .slice B3 e.st.length b3) (k := .slice A' m1 c1') (hK7.below hBq hK7.lt)
      obtain ⟨y0, y1, y2, y3, y4, y5, y6, y7⟩ := scells (a1 := .slice C1 f.cl.length e1) (a2 := .slice C2 f.at_.length e2) (a3 := .slice C3 f.st.length e3) (k := .slice E' m2 g1') hK9
      clear hcall hbq hwq hK9e hsq hK9 hK7 hBk hBq hb f0 f1 f2 f3 f4 f5 f6 f7 hTa hTb
      go_wp2_with fail
      refine HC.out.mono ?_
      rintro e9 w9 ⟨rfl, hb9⟩
      have HB9 := Lib.hid (HBQ.out.trans (hb9.mono HBQ.out.size))
      clear hb9 z0 z1 z2 z3 z4 z5 z6 z7 y0 y1 y2 y3 y4 y5 y6 y7
      go_wp2_with fail
      go_roundw
      case rel => exact ⟨k + 1, by omega, by go_num, HB9.out⟩
      case measure => simp [intOf]; omega
    · have i3 : ¬ (k : Int) < (ks.length : Int) := by omega
      have HB := Lib.hid hb
      clear hlt hkk hb
      go_wp2_with fail
      go_ret
      exact ⟨rfl, HB.out⟩

end Go.Proofs.YtaalhglooipnaaaGreat
