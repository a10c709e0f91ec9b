/-
  The walks over both Gones.
-/
import Derived.Test.YtgopokoghnfgiaaMatchPair
import Derived.Test.YtgopokoghnfgiaaMatchRPair
namespace Go.Proofs.Ytgopokoghnfgiaa
open Go.RowKit
attribute [local go_sem ↓] Go.wp_at_zero Go.wp_at_succ

theorem bool_info : (Try.prog.info? 4).map (fun i => (i.zero, i.size, i.bytes)) = some (some (.bool false), 1, 1) := by kernel_rfl
def bls (l : List Bool) : List Value := l.map .bool
def hadL (l : List Int) (n r : Nat) : List Bool := (List.range n).map fun j => hadTo l j r
theorem hadL_len (l : List Int) (n r : Nat) : (hadL l n r).length = n := by simp [hadL]
theorem hadL_zero (l : List Int) (n : Nat) : hadL l n 0 = List.replicate n false := by
  rw [hadL]
  refine List.ext_getElem (by simp) fun i h1 h2 => ?_
  simp [hadTo_zero]
theorem hadL_at (l : List Int) (n r j : Nat) (h : j < n) : (bls (hadL l n r))[j]? = some (.bool (hadTo l j r)) := by simp [bls, hadL, h]
theorem hadL_neg (l : List Int) (n r : Nat) (h : r < l.length) (hz : l.getD r 0 = -1) : hadL l n (r + 1) = hadL l n r := by
  rw [hadL, hadL]
  refine List.map_congr_left fun j _ => ?_
  rw [hadTo_succ l j r h, hz]
  have : ((j : Int) == -1) = false := by simp
  rw [this, Bool.or_false]
theorem hadL_set (l : List Int) (n r i : Nat) (h : r < l.length) (hz : l.getD r 0 = (i : Int)) : bls (hadL l n (r + 1)) = (bls (hadL l n r)).set i (.bool true) := by
  refine List.ext_getElem (by simp [bls, hadL]) fun j h1 h2 => ?_
  simp only [bls, hadL, List.getElem_map, List.getElem_range, List.getElem_set]
  rw [hadTo_succ l j r h, hz]
  by_cases e : i = j
  · subst e; simp
  · have : ((j : Int) == (i : Int)) = false := by simp; omega
    rw [this, Bool.or_false, if_neg e]

/-- Who is gone. -/
def goneTo (l : List Int) (k : Nat) : List Int := ((List.range k).filter fun (j : Nat) => !(l.contains (j : Int))).map fun (j : Nat) => (j : Int)
def goneS (old fresh : List Kid) : List Int := goneTo (pairS old fresh) old.length
theorem goneTo_succ (l : List Int) (k : Nat) : goneTo l (k + 1) = if l.contains (k : Int) = true then goneTo l k else goneTo l k ++ [(k : Int)] := by
  rw [goneTo, List.range_succ, List.filter_append, List.map_append]
  cases h : l.contains (k : Int)
  · rw [List.filter_cons_of_pos (by rw [h]; rfl)]; rfl
  · rw [List.filter_cons_of_neg (by rw [h]; decide), List.filter_nil, List.map_nil, List.append_nil]; rfl
theorem goneTo_len (l : List Int) (k : Nat) : (goneTo l k).length ≤ k := by
  rw [goneTo, List.length_map]
  exact Nat.le_trans (List.length_filter_le _ _) (by simp)
theorem pairS_low (old fresh : List Kid) (i : Nat) (h : i < fresh.length) : (pairS old fresh).getD i 0 = -1 ∨ ∃ j : Nat, (pairS old fresh).getD i 0 = (j : Nat) ∧ j < old.length := by
  rw [pairS, pairTo_pre _ _ _ _ h]
  rcases pick_cases old fresh i with h1 | ⟨j, h1, h2, _⟩
  · exact .inl h1
  · exact .inr ⟨j, h2, h1⟩

/-- What they leave. -/
def GonePost (w : World) (l : List Int) (e : Ending) (w' : World) : Prop :=
  ∃ A c, e = .returned (.slice A l.length c) ∧ w'.ownsRow w.heap.size 3 1 (.slice A l.length c) l.length (nums l) ∧ Below w.heap.size w w'

set_option maxRecDepth 100000 in
set_option maxHeartbeats 16000000 in
theorem gone_any (A B : Option Addr) (n c n' c' : Nat) (ks ls : List Kid) (w : World) (hz : Kids w w.heap.size A n ks) (hz' : Kids w w.heap.size B n' ls) (hn : n ≤ 100) (hn' : n' ≤ 100) (hk : OkK ks) (hk' : OkK ls) :
    Calls Try.prog 14 #[.slice A n c, .slice B n' c'] w (GonePost w (goneS ks ls)) := by
  obtain ⟨tr, hi, hz0, hz1, hz2⟩ := info_parts int_info
  obtain ⟨tb, hib, hb0, hb1, hb2⟩ := info_parts bool_info
  have HZ := Lib.hid (And.intro hz (And.intro hz' (And.intro hk hk')))
  clear hz hz' hk hk'
  go_enter Try.func14, Try.ntmps14
  go_wp2_with (first
    | (at_make; refine wpList_make_full _ rfl _ _ 35 rfl w.heap.size 4 tb _ 1 Try.underlying35 hib hb0 hb1 _ _ _ _ n rfl rfl rfl rfl (by rw [hb2]; omega) (by unfold maxLen; omega) (Nat.le_refl _) ?_; intro w1 hown hg1))
  have e : (madeCells (Value.bool false).cells (n * 1)).toList = bls (hadL (pairS ks ls) n 0) := by
    rw [Nat.mul_one, hadL_zero]
    exact (toList_madeCells_one _ _).trans (by simp [bls])
  rw [e] at hown
  obtain ⟨g, hg⟩ : ∃ g, g = w.heap.size := ⟨_, rfl⟩
  have HG := Lib.hid hg
  have HO := Lib.hid hown
  have HB1 := Lib.hid (below_of_only hg1 (Nat.le_refl w.heap.size))
  rw [← hg] at HO ⊢
  clear e hown hg hg1
  refine (pair_any A B n c n' c' ks ls _ (HZ.out.1.keep HB1.out) (HZ.out.2.1.keep HB1.out) hn hn' HZ.out.2.2.1 HZ.out.2.2.2).mono ?_
  rintro e w2 ⟨A2, c2, rfl, ho2, hb2'⟩
  obtain ⟨l, hl⟩ : ∃ l, l = pairS ks ls := ⟨_, rfl⟩
  rw [← hl] at ho2 HO
  have hll : l.length = n' := by rw [hl, pairS_len]; exact HZ.out.2.1.1
  have HL := Lib.hid (And.intro hl hll)
  have H2 := Lib.hid (And.intro (own_keep HO.out hb2') (And.intro (own_base ho2 HB1.out.size) (HB1.out.trans (hb2'.mono HB1.out.size))))
  clear hl hll ho2 hb2' HO HB1
  go_wp2_with fail
  go_loopw [18] (fun i wx => ∃ r : Nat, r ≤ n' ∧ i = .int .i64 r ∧ wx.ownsRow g 4 1 (.slice (some ⟨g, 0, none⟩) n n) n (bls (hadL l n r)) ∧ wx.ownsRow w.heap.size 3 1 (.slice A2 n' c2) n' (nums l) ∧ Below w.heap.size w wx) (fun i _ => n' - (intOf i).toNat)
  case atStart => exact ⟨0, Nat.zero_le _, rfl, H2.out.1, H2.out.2.1, H2.out.2.2⟩
  case round =>
    obtain ⟨r, hr, rfl, hown, hp, hb⟩ := hrel
    by_cases hlt : r < n'
    · obtain ⟨b, off, rfl, hbB, d0⟩ := (Nums.of_own hp HL.out.2).2 r hlt
      obtain ⟨z, hz⟩ : ∃ z, z = l.getD r 0 := ⟨_, rfl⟩
      rw [← hz] at d0
      have hlow := pairS_low ks ls r (by have := HZ.out.2.1.1; omega)
      rw [← HL.out.1, ← hz] at hlow
      have i1 : (0 : Int) ≤ (r : Int) := by omega
      have i2 : (r : Int) < (n' : Int) := by omega
      rcases hlow with h | ⟨j, h, hj⟩
      · have HH := Lib.hid (hadL_neg l n r (by have := HL.out.2; omega) (by rw [← hz, h]))
        have HI := Lib.hid (And.intro hown (And.intro hp hb))
        subst h
        clear hz hown hp hb H2
        go_wp2
        go_roundw
        case rel => exact ⟨r + 1, by omega, by go_num, by rw [HH.out]; exact HI.out.1, HI.out.2.1, HI.out.2.2⟩
        case measure => simp [intOf]; omega
      · have hjn : j < n := by have := HZ.out.1.1; omega
        have HH := Lib.hid (hadL_set l n r j (by have := HL.out.2; omega) (by rw [← hz, h]))
        have y0 := hown.cells (g := g) rfl j _ (hadL_at l n r j hjn)
        have y1 := hown.frozenAt (g := g) j
        rw [Addr.add_lit, Nat.zero_add] at y0
        have hst := hown.stored j (.bool true)
        have HI := Lib.hid (And.intro hst.1 (And.intro (hp.kept hst.2 (.inr (by
          have := own_own_ne hp hown (by decide)
          rcases this with h | h
          · rw [h]; simp
          · exact h))) (hb.setCell (p := ⟨g, j, none⟩) (by have := HG.out; show w.heap.size ≤ g; omega) (.bool true))))
        have j0 : ((j : Int) != -1) = true := by simp
        have j1 : (0 : Int) ≤ (j : Int) := by omega
        have j2 : (j : Int) < (n : Int) := by omega
        subst h
        clear hz hown hp hb H2 hst
        go_wp2
        go_roundw
        case rel => exact ⟨r + 1, by omega, by go_num, by rw [HH.out]; exact HI.out.1, HI.out.2.1, HI.out.2.2⟩
        case measure => simp [intOf]; omega
    · obtain rfl : r = n' := by omega
      have HW := Lib.hid (And.intro hown hb)
      clear hown hp hb H2 hlt
      obtain ⟨wh, hwh⟩ : ∃ wh : World, wh = wr := ⟨_, rfl⟩
      rw [← hwh] at HW ⊢
      clear hwh
      go_wp2_with fail
      go_loopw [8, 30] (fun vo i wx => ∃ k : Nat, k ≤ n ∧ i = .int .i64 k ∧ wx.ownsRow wh.heap.size 3 1 vo (goneTo l k).length (nums (goneTo l k)) ∧ Below wh.heap.size wh wx) (fun _ i _ => n - (intOf i).toNat)
      case atStart => exact ⟨0, Nat.zero_le _, rfl, World.ownsRow_nil _ _ _ _, Below.refl _ _⟩
      case round =>
        obtain ⟨k, hk, rfl, hown, hb⟩ := hrel
        obtain ⟨vo, hvo⟩ : ∃ vo, vo = u8 := ⟨_, rfl⟩
        rw [← hvo] at hown ⊢
        clear hvo
        by_cases hlt : k < n
        · have y0 := (own_keep HW.out.1 hb).cells (g := g) rfl k _ (hadL_at l n r k hlt)
          rw [Addr.add_lit, Nat.zero_add] at y0
          have HGT := Lib.hid (goneTo_succ l k)
          rw [← hadTo_end l k r (by have := HL.out.2; omega)] at HGT
          obtain ⟨q, hq⟩ : ∃ q, q = hadTo l k r := ⟨_, rfl⟩
          rw [← hq] at y0 HGT
          obtain ⟨o, ho⟩ : ∃ o, o = goneTo l k := ⟨_, rfl⟩
          have hol : o.length ≤ k := by rw [ho]; exact goneTo_len l k
          rw [← ho] at hown HGT
          have i1 : (0 : Int) ≤ (k : Int) := by omega
          have i2 : (k : Int) < (n : Int) := by omega
          have HO := Lib.hid (And.intro hown hb)
          clear hown hb hq ho
          cases q
          · have HGT2 := Lib.hid (show goneTo l (k + 1) = o ++ [(k : Int)] by rw [HGT.out]; rfl)
            go_wp2_with (first
              | (at_builtin; refine wpList_append_lies _ rfl _ _ _ rfl wh.heap.size 3 tr _ 1 8 Try.underlying30 hi hz0 hz1 hz2 rfl (by decide) _ o.length (nums o) rfl (HO.out.1.alloc _) _ 1 1 [.int .i64 (k : Int)] rfl rfl (World.news_of_block (heap_alloc_new _ _)) (by intro u hu; simp at hu; subst hu; rfl) (by omega) (by unfold maxLen; omega) (by omega) (by have := HO.out.2.size; simp; omega) _ rfl ?_; intro g2 cap2 w4 hown2 hg2 hat2 hlt2; have HX := Lib.hid (And.intro hown2 ((HO.out.2.alloc HO.out.2.size _).grown hg2 (HO.out.2.alloc HO.out.2.size _).size (fun j hj => (HO.out.1.lt j hj).1))); clear hown2 hg2 hat2 hlt2))
            go_roundw
            case rel => exact ⟨k + 1, by omega, by go_num, by rw [HGT2.out, nums_snoc, List.length_append]; exact HX.out.1, HX.out.2⟩
            case measure => simp [intOf]; omega
          · have HGT2 := Lib.hid (show goneTo l (k + 1) = o by rw [HGT.out]; rfl)
            go_wp2
            go_roundw
            case rel => exact ⟨k + 1, by omega, by go_num, by rw [HGT2.out]; exact HO.out.1, HO.out.2⟩
            case measure => simp [intOf]; omega
        · obtain rfl : k = n := by omega
          obtain ⟨A5, c5, hv⟩ := own_form hown
          subst hv
          have HE := Lib.hid (show goneS ks ls = goneTo l k by rw [goneS, ← HL.out.1, HZ.out.1.1])
          have HO := Lib.hid (And.intro (own_base hown HW.out.2.size) (HW.out.2.trans (hb.mono HW.out.2.size)))
          clear hown hb
          go_wp2
          go_ret
          rw [HE.out]
          exact ⟨A5, c5, rfl, HO.out.1, HO.out.2⟩

set_option maxRecDepth 100000 in
set_option maxHeartbeats 16000000 in
theorem rgone_any (A B : Option Addr) (n c n' c' : Nat) (ks ls : List Kid) (w : World) (hz : Kids w w.heap.size A n ks) (hz' : Kids w w.heap.size B n' ls) (hn : n ≤ 100) (hn' : n' ≤ 100) (hc : n ≤ c) (hc' : n' ≤ c') :
    Calls Try.prog 15 #[.slice A n c, .slice B n' c'] w (GonePost w (goneS ks ls)) := by
  obtain ⟨tr, hi, hz0, hz1, hz2⟩ := info_parts int_info
  have HZ := Lib.hid (And.intro hz (And.intro hz' (And.intro hc hc')))
  clear hz hz' hc hc'
  go_enter Try.func15, Try.ntmps15
  go_wp2_with fail
  refine (rpair_any A B n c n' c' ks ls _ HZ.out.1 HZ.out.2.1 hn hn' HZ.out.2.2.1 HZ.out.2.2.2).mono ?_
  rintro e w2 ⟨A2, c2, rfl, ho2, hb2⟩
  obtain ⟨l, hl⟩ : ∃ l, l = pairS ks ls := ⟨_, rfl⟩
  rw [← hl] at ho2
  have hll : l.length = n' := by rw [hl, pairS_len]; exact HZ.out.2.1.1
  have HL := Lib.hid (And.intro hl hll)
  have h0 : (w2.alloc (.cells #[] 3)).ownsRow w2.heap.size 3 1 (.slice (some ⟨w2.heap.size, 0, none⟩) 0 0) 0 [] := World.ownsRow_made w2 #[] 0 (Nat.le_refl _) (Nat.zero_le _) rfl
  have H2 := Lib.hid (And.intro ho2 hb2)
  clear hl hll ho2 hb2
  go_upto_region 4 with fail
  obtain ⟨v0, hv0⟩ : ∃ v0, v0 = Value.slice (some ⟨w2.heap.size, 0, none⟩) 0 0 := ⟨_, rfl⟩
  rw [← hv0] at h0 ⊢
  have H0 := Lib.hid h0
  clear h0 hv0
  go_loopw [6, 17] (fun vo i wx => ∃ k : Nat, k ≤ n ∧ i = .int .i64 k ∧ wx.ownsRow w2.heap.size 3 1 vo (goneTo l k).length (nums (goneTo l k)) ∧ Below w2.heap.size w2 wx) (fun _ i _ => n - (intOf i).toNat)
  case atStart => exact ⟨0, Nat.zero_le _, rfl, H0.out, (Below.refl _ _).alloc (Nat.le_refl _) _⟩
  case round =>
    obtain ⟨k, hk, rfl, hown, hb⟩ := hrel
    obtain ⟨vo, hvo⟩ : ∃ vo, vo = u6 := ⟨_, rfl⟩
    rw [← hvo] at hown ⊢
    clear hvo
    by_cases hlt : k < n
    · have HGT := Lib.hid (goneTo_succ l k)
      obtain ⟨o, ho⟩ : ∃ o, o = goneTo l k := ⟨_, rfl⟩
      have hol : o.length ≤ k := by rw [ho]; exact goneTo_len l k
      rw [← ho] at hown HGT
      have i1 : (0 : Int) ≤ (k : Int) := by omega
      have i2 : (k : Int) < (n : Int) := by omega
      have HN := Lib.hid (Nums.of_own (own_keep H2.out.1 hb) HL.out.2)
      have HO := Lib.hid (And.intro hown hb)
      clear hown hb ho
      obtain ⟨wq, hwq⟩ : ∃ wq : World, wq = wr := ⟨_, rfl⟩
      rw [← hwq] at HN HO ⊢
      clear hwq
      go_wp2_with fail
      go_loopw [8, 22] (fun sm i wx => ∃ r : Nat, r ≤ n' ∧ i = .int .i64 r ∧ sm = .bool (hadTo l k r) ∧ wx = wq) (fun _ i _ => n' - (intOf i).toNat)
      case atStart => exact ⟨0, Nat.zero_le _, rfl, rfl, rfl⟩
      case round =>
        obtain ⟨r, hr, rfl, rfl, hw⟩ := hrel
        subst hw
        obtain ⟨q, hq⟩ : ∃ q, q = hadTo l k r := ⟨_, rfl⟩
        rw [← hq]
        by_cases hlr : r < n'
        · obtain ⟨b3, off3, rfl, _, d0⟩ := HN.out.2 r hlr
          have HHT := Lib.hid (hadTo_succ l k r (by have := HL.out.2; omega))
          obtain ⟨y, hy⟩ : ∃ y, y = l.getD r 0 := ⟨_, rfl⟩
          rw [← hy] at d0 HHT
          rw [← hq] at HHT
          have r1 : (0 : Int) ≤ (r : Int) := by omega
          have r2 : (r : Int) < (n' : Int) := by omega
          clear hy hq
          cases q
          · have HT := Lib.hid (show hadTo l k (r + 1) = (y == (k : Int)) by rw [HHT.out]; simp [BEq.comm])
            go_wp2
            go_roundw
            case rel => exact ⟨r + 1, by omega, by go_num, by rw [HT.out], trivial⟩
            case measure => simp [intOf]; omega
          · have HT := Lib.hid (show hadTo l k (r + 1) = true by rw [HHT.out]; rfl)
            go_wp2
            go_roundw
            case rel => exact ⟨r + 1, by omega, by go_num, by rw [HT.out], trivial⟩
            case measure => simp [intOf]; omega
        · obtain rfl : r = n' := by omega
          rw [← hadTo_end l k r (by have := HL.out.2; omega), ← hq] at HGT
          clear hq
          cases q
          · have HGT2 := Lib.hid (show goneTo l (k + 1) = o ++ [(k : Int)] by rw [HGT.out]; rfl)
            go_wp2_with (first
              | (at_builtin; refine wpList_append_lies _ rfl _ _ _ rfl w2.heap.size 3 tr _ 1 8 Try.underlying30 hi hz0 hz1 hz2 rfl (by decide) _ o.length (nums o) rfl (HO.out.1.alloc _) _ 1 1 [.int .i64 (k : Int)] rfl rfl (World.news_of_block (heap_alloc_new _ _)) (by intro u hu; simp at hu; subst hu; rfl) (by omega) (by unfold maxLen; omega) (by omega) (by have := HO.out.2.size; simp; omega) _ rfl ?_; intro g2 cap2 w4 hown2 hg2 hat2 hlt2; have HX := Lib.hid (And.intro hown2 ((HO.out.2.alloc HO.out.2.size _).grown hg2 (HO.out.2.alloc HO.out.2.size _).size (fun j hj => (HO.out.1.lt j hj).1))); clear hown2 hg2 hat2 hlt2))
            go_roundw
            case rel => exact ⟨k + 1, by omega, by go_num, by rw [HGT2.out, nums_snoc, List.length_append]; exact HX.out.1, HX.out.2⟩
            case measure => simp [intOf]; omega
          · have HGT2 := Lib.hid (show goneTo l (k + 1) = o by rw [HGT.out]; rfl)
            go_wp2
            go_roundw
            case rel => exact ⟨k + 1, by omega, by go_num, by rw [HGT2.out]; exact HO.out.1, HO.out.2⟩
            case measure => simp [intOf]; omega
    · obtain rfl : k = n := by omega
      obtain ⟨A5, c5, hv⟩ := own_form hown
      subst hv
      have HE := Lib.hid (show goneS ks ls = goneTo l k by rw [goneS, ← HL.out.1, HZ.out.1.1])
      have HO := Lib.hid (And.intro (own_base hown H2.out.2.size) (H2.out.2.trans (hb.mono H2.out.2.size)))
      clear hown hb
      go_wp2
      go_ret
      rw [HE.out]
      exact ⟨A5, c5, rfl, HO.out.1, HO.out.2⟩

end Go.Proofs.Ytgopokoghnfgiaa
