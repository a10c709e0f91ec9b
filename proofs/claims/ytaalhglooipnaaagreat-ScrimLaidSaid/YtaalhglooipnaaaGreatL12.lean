/-
  Snaps: SnapOf, Get, Hit at entries whose numbers rise.
  Rows that a call has made, read alone; append onto a slice that has no room.
-/
import Derived.Test.YtaalhglooipnaaaGreatL11
import Derived.Test.YtaalhglooipnaaaGreatL07
import Derived.Test.YtaalhglooipnaaaGreatL09
namespace Go.Proofs.YtaalhglooipnaaaGreat
open Go.RowKit
attribute [local go_sem ↓] Go.wp_at_zero Go.wp_at_succ

/-- What hands back a row of entries leaves. -/
def EnPost (w : World) (l : List En) (e : Ending) (w' : World) : Prop :=
  ∃ A c, e = .returned (.slice A l.length c) ∧ w'.ownsRow w.heap.size 79 5 (.slice A l.length c) l.length (l.flatMap cvE) ∧ Below w.heap.size w w'
theorem SrtE.take {l : List En} (h : SrtE l) (k : Nat) : SrtE (l.take k) := fun i j hij hj => by
  rw [List.length_take] at hj
  have e1 : (l.take k).getD i en0 = l.getD i en0 := by simp [List.getD, show i < k by omega]
  have e2 : (l.take k).getD j en0 = l.getD j en0 := by simp [List.getD, show j < k by omega]
  rw [e1, e2]
  exact h i j hij (by omega)
theorem AtN.end_ {l : List En} (hs : SrtE l) {k r : Nat} (hk : k < l.length) (h : AtN (l.take k) (l.getD k en0).1 r) : r = k ∧ isAtE (l.take k) (l.getD k en0).1 r = false := by
  have hl : (l.take k).length = k := by rw [List.length_take]; omega
  have h1 := h.le
  rw [hl] at h1
  have : r = k := by
    by_cases e : r < k
    · have h2 := h.high r (Nat.le_refl _) (by omega)
      have e1 : (l.take k).getD r en0 = l.getD r en0 := by simp [List.getD, e]
      rw [e1] at h2
      have := hs r k e hk
      omega
    · omega
  refine ⟨this, ?_⟩
  rw [isAtE, hl, this]
  simp

set_option maxRecDepth 100000 in
set_option maxHeartbeats 8000000 in
theorem snapOf_any (A : Option Addr) (n c : Nat) (l : List En) (w : World) (hz : Es w w.heap.size A n l) (hn : n ≤ 500) (hs : SrtE l) :
    Calls Tryz.prog 45 #[.slice A n c] w (EnPost w l) := by
  have HZ := Lib.hid (And.intro hz hs)
  clear hz hs
  go_enter Tryz.func45, Tryz.ntmps45
  go_wp2_with fail
  go_loopw [3, 10] (fun vo i wx => ∃ k : Nat, k ≤ n ∧ i = .int .i64 k ∧ wx.ownsRow w.heap.size 79 5 vo k ((l.take k).flatMap cvE) ∧ Below w.heap.size w wx) (fun _ i _ => n - (intOf i).toNat)
  case atStart => exact ⟨0, Nat.zero_le _, rfl, World.ownsRow_nil _ _ _ _, Below.refl _ _⟩
  case round =>
    obtain ⟨k, hk, rfl, hown, hb⟩ := hrel
    obtain ⟨Ao, co, hv⟩ := own_form hown
    obtain ⟨vo, hvo⟩ : ∃ vo, vo = u3 := ⟨_, rfl⟩
    rw [← hvo] at hown hv ⊢
    clear hvo
    subst hv
    by_cases hlt : k < n
    · obtain ⟨b, off, rfl, hbB, d0, d1, d2, d3, d4⟩ := rd_en HZ.out.1 k hlt
      replace d0 := (hb.cell (p := ⟨b, off + k * 5, none⟩) hbB).trans d0
      replace d1 := (hb.cell (p := ⟨b, off + k * 5 + 1, none⟩) hbB).trans d1
      replace d2 := (hb.cell (p := ⟨b, off + k * 5 + 2, none⟩) hbB).trans d2
      replace d3 := (hb.cell (p := ⟨b, off + k * 5 + 3, none⟩) hbB).trans d3
      replace d4 := (hb.cell (p := ⟨b, off + k * 5 + 4, none⟩) hbB).trans d4
      have hkl : k < l.length := by have := HZ.out.1.1; omega
      have HTO := Lib.hid (take_snoc l en0 k hkl)
      have HAT := Lib.hid (fun r => AtN.end_ HZ.out.2 (r := r) hkl)
      obtain ⟨⟨t, v1, v2, v3, v4⟩, ht⟩ : ∃ t, t = l.getD k en0 := ⟨_, rfl⟩
      rw [← ht] at d0 d1 d2 d3 d4 HTO HAT
      simp only at d0 d1 d2 d3 d4
      have i1 : (0 : Int) ≤ (k : Int) := by omega
      have i2 : (k : Int) < (n : Int) := by omega
      have hll : (l.take k).length = k := by rw [List.length_take]; omega
      have HLL := Lib.hid hll
      have HO := Lib.hid (And.intro (hown.alloc (.cells #[.int .i64 t, .int .i64 v1, .int .i64 v2, .int .i64 v3, .int .i64 v4] 79)) (hb.alloc hb.size (.cells #[.int .i64 t, .int .i64 v1, .int .i64 v2, .int .i64 v3, .int .i64 v4] 79)))
      have hX := Blk.new wr 79 #[.int .i64 t, .int .i64 v1, .int .i64 v2, .int .i64 v3, .int .i64 v4]
      have HX := Lib.hid hX
      have y0 := hX.cell 0
      clear ht hown hb hX hbB hkl hll
      go_upto_region 5 with fail
      obtain ⟨w1, hw1⟩ : ∃ w1, w1 = wr.alloc (.cells #[.int .i64 t, .int .i64 v1, .int .i64 v2, .int .i64 v3, .int .i64 v4] 79) := ⟨_, rfl⟩
      obtain ⟨X, hXe⟩ : ∃ X, X = wr.heap.size := ⟨_, rfl⟩
      rw [← hw1] at HO HX y0 ⊢
      rw [← hXe] at HX y0 ⊢
      clear hw1 hXe d0 d1 d2 d3 d4
      go_wp2_with fail
      refine (whereE_any Ao k co _ (l.take k) t _ (Rd.of_own (cv := cvE) (d := en0) (fun _ => rfl) HO.out.1 HLL.out) (Nat.le_refl _) (by omega) (HZ.out.2.take k)).mono ?_
      rintro e w2 ⟨r, rfl, hr, hb2⟩
      obtain ⟨rfl, hq⟩ := HAT.out r hr
      rw [hq]
      have HX2 := Lib.hid (HX.out.below hb2 HX.out.lt)
      have HO2 := Lib.hid (And.intro (own_keep HO.out.1 hb2) (HO.out.2.trans (hb2.mono HO.out.2.size)))
      have y0 := HX2.out.cell 0
      have y1 := HX2.out.cell 1
      have y2 := HX2.out.cell 2
      have y3 := HX2.out.cell 3
      have y4 := HX2.out.cell 4
      clear hr hb2 hq HAT
      go_wp2_with fail
      refine (append_end _ w.heap.size r (l.take r) w2.heap.size (t, v1, v2, v3, v4) _ (HO2.out.1.alloc _) (by have := HO2.out.2.size; simp; omega) HLL.out (by omega) (Blk.new _ _ _)).mono ?_
      rintro e w3 ⟨A3, c3, rfl, hown, hg⟩
      have HY := Lib.hid (And.intro hown ((HO2.out.2.alloc HO2.out.2.size _).grown hg (HO2.out.2.alloc HO2.out.2.size _).size (fun j hj => (HO2.out.1.lt j hj).1)))
      clear hown hg
      go_wp2_with fail
      go_roundw
      case rel => exact ⟨r + 1, by omega, by go_num, by rw [HTO.out]; exact HY.out.1, HY.out.2⟩
      case measure => simp [intOf]; omega
    · obtain rfl : n = k := by omega
      have HE := Lib.hid (show l.take n = l ∧ l.length = n from ⟨List.take_of_length_le (by rw [HZ.out.1.1]; exact Nat.le_refl _), HZ.out.1.1⟩)
      rw [HE.out.1] at hown
      have HO := Lib.hid (And.intro hown hb)
      clear hown hb
      go_wp2
      go_ret
      rw [EnPost, HE.out.2]
      exact ⟨Ao, co, rfl, HO.out.1, HO.out.2⟩

theorem AtN.here {l : List En} (hs : SrtE l) {j r : Nat} (hj : j < l.length) (h : AtN l (l.getD j en0).1 r) : r = j ∧ isAtE l (l.getD j en0).1 r = true := by
  have h1 := h.le
  have : r = j := by
    rcases Nat.lt_trichotomy r j with e | e | e
    · have h2 := h.high r (Nat.le_refl _) (by omega)
      have := hs r j e hj
      omega
    · exact e
    · have := h.low j e
      omega
  refine ⟨this, ?_⟩
  rw [isAtE, this]
  simp [hj]

set_option maxRecDepth 100000 in
set_option maxHeartbeats 8000000 in
theorem getE_any (A : Option Addr) (n c : Nat) (l : List En) (j : Nat) (w : World) (hz : Es w w.heap.size A n l) (hn : n ≤ 500) (hs : SrtE l) (hj : j < n) :
    Calls Tryz.prog 19 #[.slice A n c, .int .i64 (l.getD j en0).1] w fun e w' => e = .returned (.tuple #[rcV (l.getD j en0).2, .bool true]) ∧ Below w.heap.size w w' := by
  have HZ := Lib.hid (And.intro hz hs)
  have HAT := Lib.hid (fun r => AtN.here hs (r := r) (show j < l.length by rw [hz.1]; exact hj))
  clear hz hs
  obtain ⟨⟨t, v1, v2, v3, v4⟩, ht⟩ : ∃ t, t = l.getD j en0 := ⟨_, rfl⟩
  rw [← ht] at HAT ⊢
  have HTT := Lib.hid ht
  clear ht
  have hX := Blk.new w 74 #[.int .i64 0, .int .i64 0, .int .i64 0, .int .i64 0]
  have hB0 := (Below.refl w.heap.size w).alloc (Nat.le_refl _) (.cells #[.int .i64 0, .int .i64 0, .int .i64 0, .int .i64 0] 74)
  go_enter Tryz.func19, Tryz.ntmps19
  go_upto_region 1 with fail
  obtain ⟨w1, hw1⟩ : ∃ w1, w1 = w.alloc (.cells #[.int .i64 0, .int .i64 0, .int .i64 0, .int .i64 0] 74) := ⟨_, rfl⟩
  obtain ⟨X, hXe⟩ : ∃ X, X = w.heap.size := ⟨_, rfl⟩
  rw [← hw1] at hX hB0 ⊢
  rw [← hXe] at hX ⊢
  have HX := Lib.hid (And.intro hX (And.intro hB0 hXe))
  clear hw1 hXe hX hB0
  go_wp2_with fail
  refine (snapOf_any A n c l _ (HZ.out.1.keep HX.out.2.1) hn HZ.out.2).mono ?_
  rintro e w2 ⟨A2, c2, he, ho, hb⟩
  rw [HZ.out.1.1] at he ho
  subst he
  have HY := Lib.hid (And.intro (Rd.of_own (cv := cvE) (d := en0) (fun _ => rfl) ho HZ.out.1.1) (And.intro (HX.out.1.below hb HX.out.1.lt) (HX.out.2.1.trans (hb.mono HX.out.2.1.size))))
  clear ho hb
  go_wp2_with fail
  refine (whereE_any A2 n c2 _ l t _ HY.out.1 (Nat.le_refl _) (by omega) HZ.out.2).mono ?_
  rintro e w3 ⟨r, rfl, hr, hb⟩
  obtain ⟨rfl, hq⟩ := HAT.out r hr
  rw [hq]
  have HY2 := Lib.hid (And.intro (HY.out.1.keep hb) (And.intro (HY.out.2.1.below hb HY.out.2.1.lt) (HY.out.2.2.trans (hb.mono HY.out.2.2.size))))
  clear hr hb hq HAT
  obtain ⟨b, off, rfl, hbB, d0, d1, d2, d3, d4⟩ := rd_en HY2.out.1 r hj
  rw [← HTT.out] at d0 d1 d2 d3 d4
  simp only at d0 d1 d2 d3 d4
  have i1 : (0 : Int) ≤ (r : Int) := by omega
  have i2 : (r : Int) < (n : Int) := by omega
  have y0 := HY2.out.2.1.cell 0
  have y1 := HY2.out.2.1.cell 1
  have y2 := HY2.out.2.1.cell 2
  have y3 := HY2.out.2.1.cell 3
  have z0 := HY2.out.2.1.frozen 0
  have z1 := HY2.out.2.1.frozen 1
  have z2 := HY2.out.2.1.frozen 2
  have z3 := HY2.out.2.1.frozen 3
  clear hbB
  go_wp2_with fail
  have hE := (((HY2.out.2.1.set_ 0 (.int .i64 v1)).set_ 1 (.int .i64 v2)).set_ 2 (.int .i64 v3)).set_ 3 (.int .i64 v4)
  have hb := (((HY2.out.2.2.setCell (p := ⟨X, 0, none⟩) (by rw [HX.out.2.2]; exact Nat.le_refl _) (.int .i64 v1)).setCell (p := ⟨X, 1, none⟩) (by rw [HX.out.2.2]; exact Nat.le_refl _) (.int .i64 v2)).setCell (p := ⟨X, 2, none⟩) (by rw [HX.out.2.2]; exact Nat.le_refl _) (.int .i64 v3)).setCell (p := ⟨X, 3, none⟩) (by rw [HX.out.2.2]; exact Nat.le_refl _) (.int .i64 v4)
  generalize (((w3.setCell ⟨X, 0, none⟩ (Value.int IntKind.i64 v1)).setCell ⟨X, 1, none⟩ (Value.int IntKind.i64 v2)).setCell ⟨X, 2, none⟩ (Value.int IntKind.i64 v3)).setCell ⟨X, 3, none⟩ (Value.int IntKind.i64 v4) = w4 at hE hb ⊢
  have q0 := hE.cell 0
  have q1 := hE.cell 1
  have q2 := hE.cell 2
  have q3 := hE.cell 3
  exact bodyPost_ret (v := .tuple #[.agg #[.int .i64 v1, .int .i64 v2, .int .i64 v3, .int .i64 v4], .bool true]) (by simp [results, Tryz.results19, go_sem, q0, q1, q2, q3]) rfl ⟨rfl, hb⟩

/-! ### Who has a point -/
def hitTo (l : List En) (x y : Int) : Nat → List Int
  | 0 => []
  | k + 1 => if hasR (l.getD k en0).2 x y = true then hitTo l x y k ++ [(l.getD k en0).1] else hitTo l x y k
theorem hitTo_len (l : List En) (x y : Int) (k : Nat) : (hitTo l x y k).length ≤ k := by
  induction k with
  | zero => exact Nat.le_refl _
  | succ k ih => rw [hitTo]; split <;> (try rw [List.length_append]) <;> (try simp only [List.length_cons, List.length_nil]) <;> omega
/-- What hands back a row of numbers leaves. -/
def RowPost (w : World) (l : List Int) (e : Ending) (w' : World) : Prop :=
  ∃ A c, e = .returned (.slice A l.length c) ∧ w'.ownsRow w.heap.size 3 1 (.slice A l.length c) l.length (nums l) ∧ Below w.heap.size w w'

set_option maxRecDepth 100000 in
set_option maxHeartbeats 8000000 in
theorem hit_any (A : Option Addr) (n c : Nat) (l : List En) (x y : Int) (w : World) (hz : Es w w.heap.size A n l) (hn : n ≤ 500) (hs : SrtE l) :
    Calls Tryz.prog 18 #[.slice A n c, .int .i64 x, .int .i64 y] w (RowPost w (hitTo l x y l.length)) := by
  obtain ⟨tr, hti, hz0, hz1, hz2⟩ := info_parts Ii.winfo
  have HZ := Lib.hid (And.intro hz hs)
  clear hz hs
  go_enter Tryz.func18, Tryz.ntmps18
  go_wp2_with fail
  refine (snapOf_any A n c l _ HZ.out.1 hn HZ.out.2).mono ?_
  rintro e w2 ⟨A2, c2, he, ho, hb⟩
  rw [HZ.out.1.1] at he ho
  subst he
  have HY := Lib.hid (And.intro (Rd.of_own (cv := cvE) (d := en0) (fun _ => rfl) ho HZ.out.1.1) hb)
  clear ho hb
  go_wp2_with fail
  go_loopw [7, 13] (fun vo i wx => ∃ k : Nat, k ≤ n ∧ i = .int .i64 k ∧ wx.ownsRow w2.heap.size 3 1 vo (hitTo l x y k).length (nums (hitTo l x y k)) ∧ Below w2.heap.size w2 wx) (fun _ i _ => n - (intOf i).toNat)
  case atStart => exact ⟨0, Nat.zero_le _, rfl, World.ownsRow_nil _ _ _ _, Below.refl _ _⟩
  case round =>
    obtain ⟨k, hk, rfl, hown, hb⟩ := hrel
    obtain ⟨vo, hvo⟩ : ∃ vo, vo = u7 := ⟨_, rfl⟩
    rw [← hvo] at hown ⊢
    clear hvo
    by_cases hlt : k < n
    · obtain ⟨b, off, rfl, hbB, d0, d1, d2, d3, d4⟩ := rd_en HY.out.1 k hlt
      replace d0 := (hb.cell (p := ⟨b, off + k * 5, none⟩) hbB).trans d0
      replace d1 := (hb.cell (p := ⟨b, off + k * 5 + 1, none⟩) hbB).trans d1
      replace d2 := (hb.cell (p := ⟨b, off + k * 5 + 2, none⟩) hbB).trans d2
      replace d3 := (hb.cell (p := ⟨b, off + k * 5 + 3, none⟩) hbB).trans d3
      replace d4 := (hb.cell (p := ⟨b, off + k * 5 + 4, none⟩) hbB).trans d4
      have HT := Lib.hid (show hitTo l x y (k + 1) = if hasR (l.getD k en0).2 x y = true then hitTo l x y k ++ [(l.getD k en0).1] else hitTo l x y k from rfl)
      have hol := hitTo_len l x y k
      obtain ⟨⟨t, v1, v2, v3, v4⟩, ht⟩ : ∃ t, t = l.getD k en0 := ⟨_, rfl⟩
      rw [← ht] at d0 d1 d2 d3 d4 HT
      simp only at d0 d1 d2 d3 d4
      obtain ⟨o, ho⟩ : ∃ o, o = hitTo l x y k := ⟨_, rfl⟩
      rw [← ho] at hown HT hol
      have i1 : (0 : Int) ≤ (k : Int) := by omega
      have i2 : (k : Int) < (n : Int) := by omega
      have HO := Lib.hid (And.intro (hown.alloc (.cells #[.int .i64 t, .int .i64 v1, .int .i64 v2, .int .i64 v3, .int .i64 v4] 79)) (hb.alloc hb.size (.cells #[.int .i64 t, .int .i64 v1, .int .i64 v2, .int .i64 v3, .int .i64 v4] 79)))
      have hX := Blk.new wr 79 #[.int .i64 t, .int .i64 v1, .int .i64 v2, .int .i64 v3, .int .i64 v4]
      have HX := Lib.hid hX
      have y0 := hX.cell 0
      have y1 := hX.cell 1
      have y2 := hX.cell 2
      have y3 := hX.cell 3
      have y4 := hX.cell 4
      clear ht ho hown hb hX hbB
      go_upto_region 5 with fail
      obtain ⟨w1, hw1⟩ : ∃ w1, w1 = wr.alloc (.cells #[.int .i64 t, .int .i64 v1, .int .i64 v2, .int .i64 v3, .int .i64 v4] 79) := ⟨_, rfl⟩
      obtain ⟨X, hXe⟩ : ∃ X, X = wr.heap.size := ⟨_, rfl⟩
      rw [← hw1] at HO HX y0 y1 y2 y3 y4 ⊢
      rw [← hXe] at HX y0 y1 y2 y3 y4 ⊢
      clear hw1 hXe d0 d1 d2 d3 d4
      go_wp2_with fail
      refine (hasr_any v1 v2 v3 v4 x y _).mono ?_
      obtain ⟨q, hq⟩ : ∃ q, q = hasR (v1, v2, v3, v4) x y := ⟨_, rfl⟩
      rw [← hq] at HT ⊢
      rintro e w5 ⟨rfl, hb5⟩
      have HO2 := Lib.hid (And.intro (own_keep HO.out.1 hb5) (HO.out.2.trans (hb5.mono HO.out.2.size)))
      have y0 := (HX.out.below hb5 HX.out.lt).cell 0
      clear hq hb5 HO
      cases q
      · have HT2 := Lib.hid (show hitTo l x y (k + 1) = o by rw [HT.out]; rfl)
        go_wp2
        go_roundw
        case rel => exact ⟨k + 1, by omega, by go_num, by rw [HT2.out]; exact HO2.out.1, HO2.out.2⟩
        case measure => simp [intOf]; omega
      · have HT2 := Lib.hid (show hitTo l x y (k + 1) = o ++ [t] by rw [HT.out]; rfl)
        go_wp2_with (first
          | (at_builtin; refine wpList_append_lies _ rfl _ _ _ rfl w2.heap.size 3 tr _ 1 8 Tryz.underlying71 hti hz0 hz1 hz2 rfl (by decide) _ o.length (nums o) rfl (HO2.out.1.alloc _) _ 1 1 [.int .i64 t] rfl rfl (World.news_of_block (heap_alloc_new _ _)) (by intro u hu; simp at hu; subst hu; rfl) (by omega) (by unfold maxLen; omega) (by omega) (by have := HO2.out.2.size; simp; omega) _ rfl ?_; intro g2 cap2 w4 hown2 hg2 hat2 hlt2; have HZ2 := Lib.hid (And.intro hown2 ((HO2.out.2.alloc HO2.out.2.size _).grown hg2 (HO2.out.2.alloc HO2.out.2.size _).size (fun j hj => (HO2.out.1.lt j hj).1))); clear hown2 hg2 hat2 hlt2))
        go_roundw
        case rel => exact ⟨k + 1, by omega, by go_num, by rw [HT2.out, nums_snoc, List.length_append]; exact HZ2.out.1, HZ2.out.2⟩
        case measure => simp [intOf]; omega
    · obtain rfl : n = k := by omega
      obtain ⟨A5, c5, hv⟩ := own_form hown
      subst hv
      have HE := Lib.hid HZ.out.1.1
      have HO := Lib.hid (And.intro (own_base hown HY.out.2.size) (HY.out.2.trans (hb.mono HY.out.2.size)))
      clear hown hb
      go_wp2
      go_ret
      rw [HE.out]
      exact ⟨A5, c5, rfl, HO.out.1, HO.out.2⟩

end Go.Proofs.YtaalhglooipnaaaGreat
namespace Go.Proofs.YtaalhglooipnaaaGreat
open Go.RowKit

/-- The blocks of a type that are there, from a number on. -/
def FreshT (e : TypeId) (B : Nat) (w : World) : Nat → Prop := fun b => B ≤ b ∧ ∃ cs, Blk w b e cs
/-- A slice's value that reads as a list, in blocks of elements of type e from B on. -/
def Row {α : Type} (cv : α → List Value) (d : α) (sz : Nat) (e : TypeId) (B : Nat) (l : List α) (v : Value) (w : World) : Prop := ∃ A c, v = .slice A l.length c ∧ RdS cv d sz w (FreshT e B w) A l.length l
theorem Fresh.still {B : Nat} {w w' : World} (hb : Below w.heap.size w w') : Still (Fresh B w) w w' := .of_below hb fun _ h => h.2
theorem Fresh.mono {B : Nat} {w w' : World} (hs : w.heap.size ≤ w'.heap.size) : ∀ b, Fresh B w b → Fresh B w' b := fun _ h => ⟨h.1, Nat.lt_of_lt_of_le h.2 hs⟩
theorem Fresh.low {B B' : Nat} {w : World} (hs : B' ≤ B) : ∀ b, Fresh B w b → Fresh B' w b := fun _ h => ⟨Nat.le_trans hs h.1, h.2⟩
theorem FreshT.fresh {e : TypeId} {B : Nat} {w : World} : ∀ b, FreshT e B w b → Fresh B w b := fun _ h => ⟨h.1, h.2.elim fun _ h => h.lt⟩
theorem RdS.keep {α : Type} {cv : α → List Value} {d : α} {sz B n : Nat} {l : List α} {A : Option Addr} {w w' : World} (h : RdS cv d sz w (Fresh B w) A n l) (hb : Below w.heap.size w w') : RdS cv d sz w' (Fresh B w') A n l := (h.move (Fresh.still hb)).weak (Fresh.mono hb.size)

/-- Blocks beside those of T are as they were. -/
structure Chg (T : Nat → Prop) (w w' : World) : Prop where
  os : w'.os = w.os
  tape : w'.tape = w.tape
  output : w'.output = w.output
  size : w.heap.size ≤ w'.heap.size
  block : ∀ i, i < w.heap.size → ¬ T i → w'.heap[i]? = w.heap[i]?
section
variable {T T' : Nat → Prop} {w w' w2 : World}
theorem Chg.refl (T : Nat → Prop) (w : World) : Chg T w w := ⟨rfl, rfl, rfl, Nat.le_refl _, fun _ _ _ => rfl⟩
theorem Chg.trans (h : Chg T w w') (h' : Chg T w' w2) : Chg T w w2 := ⟨h'.os.trans h.os, h'.tape.trans h.tape, h'.output.trans h.output, Nat.le_trans h.size h'.size, fun i hi ht => (h'.block i (Nat.lt_of_lt_of_le hi h.size) ht).trans (h.block i hi ht)⟩
theorem Chg.mono (h : Chg T w w') (hT : ∀ i, T i → T' i) : Chg T' w w' := ⟨h.os, h.tape, h.output, h.size, fun i hi ht => h.block i hi fun h => ht (hT i h)⟩
theorem Chg.of_below {B : Nat} (h : Below B w w') (hT : ∀ i, i < w.heap.size → ¬ T i → i < B) : Chg T w w' := ⟨h.os, h.tape, h.output, h.size, fun i hi ht => h.block i (hT i hi ht)⟩
theorem Chg.of_grown {row : Option Nat} (h : w.grownBy w' row) (hT : ∀ i, row = some i → T i) : Chg T w w' := ⟨h.os, h.tape, h.output, h.size, fun i hi ht => h.block i hi fun e => ht (hT i e.symm)⟩
theorem Chg.alloc (T : Nat → Prop) (w : World) (o : Obj) : Chg T w (w.alloc o) := .of_below (B := w.heap.size) ((Below.refl _ _).alloc (Nat.le_refl _) o) fun _ h _ => h
theorem Chg.set {g : Nat} (hT : T g) (w : World) (i : Nat) (v : Value) : Chg T w (w.setCell ⟨g, i, none⟩ v) := ⟨rfl, rfl, rfl, by simp [World.setCell], fun j _ ht => Below.heap_setCell w ⟨g, i, none⟩ v j (by rintro rfl; exact ht hT)⟩
theorem Chg.below {B : Nat} (h : Chg T w w') (hB : B ≤ w.heap.size) (hT : ∀ i, T i → B ≤ i) : Below B w w' := ⟨h.os, h.tape, h.output, h.size, fun i hi => h.block i (Nat.lt_of_lt_of_le hi hB) fun h => by have := hT i h; omega⟩
theorem Chg.still {S : Nat → Prop} (h : Chg T w w') (hS : ∀ b, S b → b < w.heap.size ∧ ¬ T b) : Still S w w' := fun b hb => h.block b (hS b hb).1 (hS b hb).2
theorem Chg.blk (h : Chg T w w') {g : Nat} {t : TypeId} {cs : Array Value} (hg : Blk w g t cs) (hT : ¬ T g) : Blk w' g t cs := (h.block g hg.lt hT).trans hg
theorem Chg.own (h : Chg T w w') {base n size : Nat} {e : TypeId} {v : Value} {xs : List Value} (ho : w.ownsRow base e size v n xs) (hT : ∀ g, v.ownBlock = some g → ¬ T g) : w'.ownsRow base e size v n xs := by
  refine ⟨ho.1, ?_⟩
  rcases ho.2 with h0 | ⟨g, cap, cur, rfl, h1, h2, h3⟩
  · exact .inl h0
  · exact .inr ⟨g, cap, cur, rfl, h1, (h.block g (Array.getElem?_eq_some_iff.1 h2).1 (hT g rfl)).trans h2, h3⟩
end
section
variable {α : Type} {cv : α → List Value} {d : α} {sz B : Nat} {e : TypeId} {l : List α} {v : Value} {w w' : World} {T : Nat → Prop}
theorem Row.chg (h : Row cv d sz e B l v w) (hc : Chg T w w') (hT : ∀ b cs, B ≤ b → Blk w b e cs → ¬ T b) : Row cv d sz e B l v w' := by
  obtain ⟨A, c, hv, h1⟩ := h
  refine ⟨A, c, hv, (h1.move fun b hb => hc.block b (hb.2.elim fun cs h => h.lt) (hb.2.elim fun cs h => hT b cs hb.1 h)).weak fun b hb => ⟨hb.1, hb.2.elim fun cs h => ⟨cs, hc.blk h (hT b cs hb.1 h)⟩⟩⟩
theorem Row.keep (h : Row cv d sz e B l v w) (hb : Below w.heap.size w w') : Row cv d sz e B l v w' := h.chg (T := fun _ => False) (.of_below hb fun _ h _ => h) fun _ _ _ _ h => h
theorem Row.low {B' : Nat} (h : Row cv d sz e B l v w) (hB : B' ≤ B) : Row cv d sz e B' l v w := by
  obtain ⟨A, c, hv, h1⟩ := h
  exact ⟨A, c, hv, h1.weak fun b hb => ⟨Nat.le_trans hB hb.1, hb.2⟩⟩
theorem Row.of_own {base n : Nat} {A : Option Addr} {c : Nat} (hcv : ∀ a ∈ l, (cv a).length = sz) (h : w.ownsRow base e sz (.slice A n c) n (l.flatMap cv)) (hl : l.length = n) (hB : B ≤ base) : Row cv d sz e B l (.slice A n c) w := by
  refine ⟨A, c, by rw [hl], ?_⟩
  rw [hl]
  refine ⟨hl, fun k hk => ?_⟩
  obtain ⟨b, off, hA, hb, h0⟩ := (RdS.of_own (d := d) hcv h hl).2 k hk
  refine ⟨b, off, hA, ⟨Nat.le_trans hB hb.1, ?_⟩, h0⟩
  subst hA
  rcases h.2 with ⟨hv, _⟩ | ⟨g, cap, cur, hv, _, hh, _⟩
  · simp at hv
  · simp only [Value.slice.injEq, Option.some.injEq, Addr.mk.injEq] at hv
    obtain ⟨⟨rfl, _⟩, _⟩ := hv
    exact ⟨cur, hh⟩
theorem Row.nil (B : Nat) (A : Option Addr) (c : Nat) (w : World) : Row cv d sz e B [] (.slice A 0 c) w := ⟨A, c, rfl, .nil _ _ _⟩
theorem Row.rd (h : Row cv d sz e B l v w) : ∃ A c, v = .slice A l.length c ∧ RdS cv d sz w (Fresh B w) A l.length l := by
  obtain ⟨A, c, hv, h1⟩ := h
  exact ⟨A, c, hv, h1.weak FreshT.fresh⟩
end

section
variable {P : Program} {α : Type} {cv : α → List Value} {d : α} {sz : Nat}
theorem flatS_len (l : List α) (hcv : ∀ a ∈ l, (cv a).length = sz) : (l.flatMap cv).length = l.length * sz := by
  induction l with
  | nil => simp
  | cons a l ih => rw [List.flatMap_cons, List.length_append, ih (fun b hb => hcv b (by simp [hb])), hcv a (by simp), List.length_cons, Nat.succ_mul]; omega
theorem flatS_at (l : List α) (hcv : ∀ a ∈ l, (cv a).length = sz) (k j : Nat) (hk : k < l.length) (hj : j < sz) : (l.flatMap cv)[k * sz + j]? = (cv (l.getD k d))[j]? := by
  induction l generalizing k with
  | nil => simp at hk
  | cons a l ih =>
    cases k with
    | zero =>
      rw [Nat.zero_mul, Nat.zero_add, List.flatMap_cons, List.getElem?_append_left (by rw [hcv a (by simp)]; exact hj)]
      rfl
    | succ k =>
      rw [List.flatMap_cons, List.getElem?_append_right (by rw [hcv a (by simp), Nat.succ_mul]; omega), hcv a (by simp), show (k + 1) * sz + j - sz = k * sz + j by rw [Nat.succ_mul]; omega]
      exact ih (fun b hb => hcv b (by simp [hb])) k (by simpa using hk)
theorem RdS.cells {w : World} {S : Nat → Prop} {a : Addr} {n : Nat} {l : List α} (h : RdS cv d sz w S (some a) n l) (hcv : ∀ a ∈ l, (cv a).length = sz) (hsz : 0 < sz) : ∀ j v, (l.flatMap cv)[j]? = some v → w.cell? (a.add j) = some v := by
  intro j v hj
  have hfl := flatS_len l hcv
  have hjl : j < l.length * sz := by rw [← hfl]; exact (List.getElem?_eq_some_iff.1 hj).1
  obtain ⟨k, i, hi, rfl⟩ : ∃ k i, i < sz ∧ j = k * sz + i := ⟨j / sz, j % sz, Nat.mod_lt _ hsz, by rw [Nat.mul_comm]; exact (Nat.div_add_mod j sz).symm⟩
  have hk : k < n := by
    rw [h.1] at hjl
    rcases Nat.lt_or_ge k n with hk | hk
    · exact hk
    · have := Nat.mul_le_mul_right sz hk; omega
  obtain ⟨b, off, hA, hB, h0⟩ := h.2 k hk
  injection hA with hA
  subst hA
  rw [Addr.add_lit, ← Nat.add_assoc, h0 i hi, ← flatS_at l hcv k i (by rw [h.1]; exact hk) hi]
  exact hj
/-- append onto a slice without room: a row of its own. -/
theorem run_append_fresh (w : World) (t ty e : TypeId) (i : TypeInfo) (z : Value) (bytes : Nat) (ht : P.underlying t = some (.slice e)) (hi : P.info? e = some i) (hz : i.zero = some z) (hsize : i.size = sz) (hby : i.bytes = bytes) (hzs : z.cells.size = sz) (hsz : 0 < sz)
    (B A : Option Addr) (n c : Nat) (l : List α) (S : Nat → Prop) (hr : RdS cv d sz w S A n l) (hcv : ∀ a ∈ l, (cv a).length = sz) (hone : ∀ u ∈ l.flatMap cv, u.oneCell' = true) (h63 : n ≤ 1000000) (hbytes : bytes ≤ 1000) :
    ∃ v w', (Builtin.append_ #[t, t] ty #[.slice B 0 0, .slice A n c]).run P w = .ok v w' ∧ Row cv d sz e w.heap.size l v w' ∧ Below w.heap.size w w' := by
  have hl := hr.1
  by_cases h0 : n = 0
  · subst h0
    obtain rfl := List.length_eq_zero_iff.1 hl
    refine ⟨.slice B 0 0, w, ?_, Row.nil _ _ _ _, Below.refl _ _⟩
    cases A <;> cases B <;> simp [Builtin.append_, run_underlying ht, sizeOf, typeInfo, hi, Builtin.lenOf, Builtin.firstCells, loadCells, loadCellsFrom, storeCells]
  · obtain ⟨b, off, hA, hB, _⟩ := hr.2 0 (by omega)
    subst hA
    have hnews := hr.cells hcv hsz
    have hfl : (l.flatMap cv).length = n * i.size := by rw [hsize, ← hl]; exact flatS_len l hcv
    have hmax : n ≤ maxLen := by unfold maxLen; omega
    have hb1 : n * bytes ≤ 1000000000 := Nat.mul_le_mul h63 hbytes
    have mk : ∀ (G : Nat) (row : Array Value), n ≤ G → G ≤ maxLen → row.size = G * sz → row.toList.take (n * sz) = l.flatMap cv → Row cv d sz e w.heap.size l (.slice (some ⟨w.heap.size, 0, none⟩) n G) (w.drew.alloc (.cells row e)) ∧ Below w.heap.size w (w.drew.alloc (.cells row e)) := by
      intro G row hG1 hG2 hs ht
      have ho : (w.drew.alloc (.cells row e)).ownsRow w.heap.size e sz (.slice (some ⟨w.heap.size, 0, none⟩) n G) n (l.flatMap cv) := by
        have := row_own (w := w.drew.alloc (.cells row e)) (g := w.heap.size) (n := n) (cap := G) (e := e) (k := sz) (cur := row) (Nat.le_refl _) (heap_alloc_new w.drew _) hG1 hG2 hs
        rw [ht] at this
        exact this
      exact ⟨Row.of_own hcv ho hl (Nat.le_refl _), ((below_drewN (Below.refl _ _) 1).alloc (Nat.le_refl _) _)⟩
    have hrow : ∀ G, n ≤ G → ((l.flatMap cv).toArray ++ Builtin.zeroCells z.cells (G - n)).size = G * sz ∧ ((l.flatMap cv).toArray ++ Builtin.zeroCells z.cells (G - n)).toList.take (n * sz) = l.flatMap cv := by
      intro G hG
      refine ⟨?_, ?_⟩
      · rw [Array.size_append, List.size_toArray, size_zeroCells, hzs, hfl, hsize, ← Nat.add_mul]
        congr 1; omega
      · rw [Array.toList_append, List.toList_toArray]
        exact List.take_left' (by rw [hfl, hsize])
    cases B with
    | none =>
      have hrun := run_append_nil (P := P) w t ty e i z ht hi hz ⟨b, off, none⟩ n c _ hfl hnews (by omega) (by omega) (by rw [hby]; omega)
      have hge := grownCap_ge w n 0 e
      have hcm : grownCap w n 0 e ≤ maxLen := grownCap_le_maxLen w n 0 e hmax
      obtain ⟨h1, h2⟩ := hrow _ hge
      obtain ⟨h3, h4⟩ := mk _ _ hge hcm h1 h2
      exact ⟨_, _, hrun, h3, h4⟩
    | some p =>
      have hrun := run_append_grow (P := P) w t ty e i z ht hi hz p 0 0 [] (by simp) (by intro j v h; simp at h) ⟨b, off, none⟩ n c _ hfl hnews (by omega) (by omega) (by
        exact growslice_fits (by omega) (by rw [Nat.zero_add, hby]; omega))
      simp only [Nat.zero_add, Array.empty_append] at hrun
      have hge := grownCap_ge w n 0 e
      have hcm : grownCap w n 0 e ≤ maxLen := grownCap_le_maxLen w n 0 e hmax
      obtain ⟨h1, h2⟩ := hrow _ hge
      obtain ⟨h3, h4⟩ := mk _ _ hge hcm h1 h2
      exact ⟨_, _, hrun, h3, h4⟩
end

theorem ex_app {ρ : Operand → Value} {o : Oper} {w w' : World} {x y : Operand} {t : TypeId} {u v r : Value} (ho : o.op = .call { callee := .builtin .append, args := #[x, y], argTypes := #[t, t] }) (h : ρ x = u) (h' : ρ y = v)
    (hf : (Builtin.append_ #[t, t] o.type #[u, v]).run Tryz.prog w = .ok r w') : (execOp ρ o).run Tryz.prog w = .ok (.value r) w' := by
  unfold execOp
  simp only [ho, resolve, invoke, builtin, Sem.run_bind, Sem.run_pure, Result.andThen_ok, List.map_toArray, List.map_cons, List.map_nil, h, h', hf]
abbrev RowS (B : Nat) (l : List ByteArray) (v : Value) (w : World) : Prop := Row cvS ByteArray.empty 1 9 B l v w
abbrev RowA (e : TypeId) (B : Nat) (l : List St.Pr) (v : Value) (w : World) : Prop := Row St.cvP St.pr0 2 e B l v w
abbrev RowP (e : TypeId) (B : Nat) (l : List Pr) (v : Value) (w : World) : Prop := Row cvP pr0 2 e B l v w

theorem two_new (w : World) (cs cs' : Array Value) (t t' : TypeId) : ∃ w1, w1 = (w.alloc (.cells cs t)).alloc (.cells cs' t') ∧ Blk w1 w.heap.size t cs ∧ Blk w1 (w.heap.size + 1) t' cs' ∧ Below w.heap.size w w1 ∧ w1.heap.size = w.heap.size + 2 :=
  ⟨_, rfl, (Blk.new w t cs).alloc _, by have := Blk.new (w.alloc (.cells cs t)) t' cs'; simpa using this, ((Below.refl _ _).alloc (Nat.le_refl _) _).alloc (by simp) _, by simp⟩
theorem one_new (w : World) (cs : Array Value) (t : TypeId) : ∃ w1, w1 = w.alloc (.cells cs t) ∧ Blk w1 w.heap.size t cs ∧ Below w.heap.size w w1 ∧ w1.heap.size = w.heap.size + 1 :=
  ⟨_, rfl, Blk.new w t cs, (Below.refl _ _).alloc (Nat.le_refl _) _, by simp⟩
theorem bsl0_S (w : World) : (Instr.buildSlice 25 0 #[]).run Tryz.prog w = .ok (.slice (some ⟨w.heap.size, 0, none⟩) 0 0) (w.alloc (.cells #[] 9)) := by go_simp
/-- append([]string{}, l...), and the like. -/
theorem app_S (w : World) (ty : TypeId) (B A : Option Addr) (n c : Nat) (l : List ByteArray) (S : Nat → Prop) (hr : RdS cvS ByteArray.empty 1 w S A n l) (hn : n ≤ 1000000) :
    ∃ v w', (Builtin.append_ #[25, 25] ty #[.slice B 0 0, .slice A n c]).run Tryz.prog w = .ok v w' ∧ RowS w.heap.size l v w' ∧ Below w.heap.size w w' := by
  obtain ⟨tr, hi, hz0, hz1, hz2⟩ := info_parts str_info
  exact run_append_fresh w _ ty 9 tr _ 16 Tryz.underlying25 hi hz0 hz1 hz2 rfl (by decide) B A n c l S hr (fun _ _ => rfl) (cvS_oneCell l) hn (by decide)

/-- A new row of one tree. -/
def NewT {α : Type} (K : NK α) (e : TypeId) (B : Nat) (t : RT α) (v : Value) (w : World) : Prop := ∃ g v', v = .slice (some ⟨g, 0, none⟩) 1 1 ∧ B ≤ g ∧ Blk w g e (cvK K.sz v').toArray ∧ IsT K w (Fresh B w) t v'
theorem IsT.fresh {α : Type} {K : NK α} {B : Nat} {t : RT α} {v : Value} {w w' : World} (h : IsT K w (Fresh B w) t v) (hb : Below w.heap.size w w') : IsT K w' (Fresh B w') t v := (h.move (Fresh.still hb)).weak (Fresh.mono hb.size)
theorem NewT.keep {α : Type} {K : NK α} {e : TypeId} {B : Nat} {t : RT α} {v : Value} {w w' : World} (h : NewT K e B t v w) (hb : Below w.heap.size w w') : NewT K e B t v w' := by
  obtain ⟨g, v', hv, hB, hg, hT⟩ := h
  exact ⟨g, v', hv, hB, hg.below hb hg.lt, hT.fresh hb⟩
theorem NewT.new {α : Type} {K : NK α} {e : TypeId} {B : Nat} {t : RT α} {v : Value} {w : World} (hT : IsT K w (Fresh B w) t v) (hB : B ≤ w.heap.size) : NewT K e B t (.slice (some ⟨w.heap.size, 0, none⟩) 1 1) (w.alloc (.cells (cvK K.sz v).toArray e)) :=
  ⟨_, v, rfl, hB, Blk.new _ _ _, hT.fresh (below_alloc _ _)⟩
theorem Rows3.forms {w : World} {S : Nat → Prop} {cl : List ByteArray} {at_ : List St.Pr} {st : List Pr} {a1 a2 a3 : Value} (h : Rows3 w S cl at_ st a1 a2 a3) : a1.oneCell' = true ∧ a2.oneCell' = true ∧ a3.oneCell' = true := by
  obtain ⟨A1, c1, A2, c2, A3, c3, rfl, rfl, rfl, _⟩ := h
  exact ⟨rfl, rfl, rfl⟩
theorem IsT.one_v {w : World} {S : Nat → Prop} {t : VT} {v : Value} (h : IsT vK w S t v) : ∀ u ∈ cvK 14 v, u.oneCell' = true := by
  obtain ⟨A, c, vs, ⟨a1, a2, a3, rfl, hr⟩, _, _⟩ := IsT.eq.1 h
  obtain ⟨h1, h2, h3⟩ := hr.forms
  rw [vV_cells]
  intro u hu
  simp only [vC, List.mem_cons, List.not_mem_nil, or_false] at hu
  rcases hu with rfl | rfl | rfl | rfl | rfl | rfl | rfl | rfl | rfl | rfl | rfl | rfl | rfl | rfl <;> first | assumption | rfl
theorem IsT.one_s {w : World} {S : Nat → Prop} {t : STr} {v : Value} (h : IsT sK w S t v) : ∀ u ∈ cvK 8 v, u.oneCell' = true := by
  obtain ⟨A, c, vs, ⟨a1, a2, a3, rfl, hr⟩, _, _⟩ := IsT.eq.1 h
  obtain ⟨h1, h2, h3⟩ := hr.forms
  rw [sV_cells]
  intro u hu
  simp only [sC, List.mem_cons, List.not_mem_nil, or_false] at hu
  rcases hu with rfl | rfl | rfl | rfl | rfl | rfl | rfl | rfl <;> first | assumption | rfl
/-- An operation that yields a value. -/
theorem wpList_val {P : Program} {ops : Array Oper} {rest : List Oper} {o : Oper} {a : Act} {w w' : World} {Q : Exit → Act → World → Prop} {v : Value} (hgd : o.guard = none) (hr : (execOp a.eval o).run P w = .ok (.value v) w') (h : wpList P ops Q rest (a.put o.dst v) w') : wpList P ops Q (o :: rest) a w := by
  refine wpList_plain hgd fun _ hK => ?_
  unfold Oper.wp
  rw [hr]
  exact hK _ _ h
theorem wpList_call {P : Program} {ops : Array Oper} {rest : List Oper} {o : Oper} {a : Act} {w : World} {Q : Exit → Act → World → Prop} {f : FuncId} {args : Array Value} (hgd : o.guard = none) (hr : (execOp a.eval o).run P w = .ok (.enter f args) w)
    (hc : Calls P f args w (fun e w' => ∃ v, e = .returned v ∧ wpList P ops Q rest (a.put o.dst v) w')) : wpList P ops Q (o :: rest) a w := by
  refine wpList_plain hgd fun _ hK => ?_
  unfold Oper.wp
  rw [hr, Oper.upon_enter]
  refine hc.mono ?_
  rintro e w' ⟨v, rfl, h⟩
  exact hK _ _ h
/-- A cell of a row is set. -/
theorem own_setAt {w : World} {base g c n sz : Nat} {e : TypeId} {xs : List Value} (h : w.ownsRow base e sz (.slice (some ⟨g, 0, none⟩) n c) n xs) (i : Nat) (u : Value) : (w.setCell ⟨g, i, none⟩ u).ownsRow base e sz (.slice (some ⟨g, 0, none⟩) n c) n (xs.set i u) := by
  obtain ⟨cur, hb, hg, hnc, hcm, hcs, ht⟩ := own_row h
  have h2 := Blk.set_ (w := w) (g := g) (t := e) (cs := cur) hg i u
  have h3 := row_own (w := w.setCell ⟨g, i, none⟩ u) hb h2 hnc hcm (by simpa using hcs)
  have e1 : (cur.setIfInBounds i u).toList.take (n * sz) = xs.set i u := by rw [Array.toList_setIfInBounds, List.take_set, ht]
  rw [e1] at h3
  exact h3
theorem IsTs.unsnoc {α : Type} {K : NK α} {w : World} {S : Nat → Prop} : ∀ {ts : List (RT α)} {t : RT α} {us : List Value}, IsTs K w S (ts ++ [t]) us → ∃ vs v, us = vs ++ [v] ∧ IsTs K w S ts vs ∧ IsT K w S t v
  | [], t, us, h => by
    rw [List.nil_append, IsTs] at h
    obtain ⟨v, vs, rfl, h1, h2⟩ := h
    rw [IsTs] at h2
    subst h2
    exact ⟨[], v, rfl, IsTs.nil, h1⟩
  | a :: ts, t, us, h => by
    rw [List.cons_append, IsTs] at h
    obtain ⟨v, vs, rfl, h1, h2⟩ := h
    obtain ⟨vs', v', rfl, h3, h4⟩ := h2.unsnoc
    exact ⟨v :: vs', v', rfl, by rw [IsTs]; exact ⟨v, vs', rfl, h1, h3⟩, h4⟩
theorem vC_all {d : VD} {a1 a2 a3 k : Value} (h1 : a1.oneCell' = true) (h2 : a2.oneCell' = true) (h3 : a3.oneCell' = true) (h4 : k.oneCell' = true) : (vC d a1 a2 a3 k).toArray.all (·.oneCell') = true := by
  refine all_oneCell_toArray fun u hu => ?_
  simp only [vC, List.mem_cons, List.not_mem_nil, or_false] at hu
  rcases hu with rfl | rfl | rfl | rfl | rfl | rfl | rfl | rfl | rfl | rfl | rfl | rfl | rfl | rfl <;> first | assumption | rfl
theorem sC_all {d : SD} {a1 a2 a3 k : Value} (h1 : a1.oneCell' = true) (h2 : a2.oneCell' = true) (h3 : a3.oneCell' = true) (h4 : k.oneCell' = true) : (sC d a1 a2 a3 k).toArray.all (·.oneCell') = true := by
  refine all_oneCell_toArray fun u hu => ?_
  simp only [sC, List.mem_cons, List.not_mem_nil, or_false] at hu
  rcases hu with rfl | rfl | rfl | rfl | rfl | rfl | rfl | rfl <;> first | assumption | rfl
theorem Row.one {α : Type} {cv : α → List Value} {d : α} {sz B : Nat} {e : TypeId} {l : List α} {v : Value} {w : World} (h : Row cv d sz e B l v w) : v.oneCell' = true := by
  obtain ⟨A, c, rfl, _⟩ := h; rfl
theorem news_at {w : World} {g : Nat} {e : TypeId} {l : List Value} (h : Blk w g e l.toArray) : ∀ j v, l[j]? = some v → w.cell? ((⟨g, 0, none⟩ : Addr).add j) = some v := by
  intro j v hj
  rw [Addr.add_lit, Nat.zero_add, h.cell]
  simpa using hj
theorem Vs.view {w : World} {S : Nat → Prop} {A : Option Addr} {n : Nat} {vs : List Value} (h : Vs 14 w S A n vs) (k : Nat) (hk : k < n) {d : VD} {a1 a2 a3 kv : Value} (hv : vs.getD k agg0 = vV d a1 a2 a3 kv) {w' : World} (hw : Still S w w') :
    ∃ b off, A = some ⟨b, off, none⟩ ∧ S b ∧ w'.cell? ⟨b, off + k * 14, none⟩ = some (.int .i64 d.kind) ∧ w'.cell? ⟨b, off + k * 14 + 1, none⟩ = some (.string d.tag) ∧ w'.cell? ⟨b, off + k * 14 + 2, none⟩ = some (.string d.key) ∧ w'.cell? ⟨b, off + k * 14 + 3, none⟩ = some (.string d.text) ∧
      w'.cell? ⟨b, off + k * 14 + 4, none⟩ = some a1 ∧ w'.cell? ⟨b, off + k * 14 + 5, none⟩ = some a2 ∧ w'.cell? ⟨b, off + k * 14 + 6, none⟩ = some a3 ∧ w'.cell? ⟨b, off + k * 14 + 7, none⟩ = some (.int .i64 d.op.1) ∧ w'.cell? ⟨b, off + k * 14 + 8, none⟩ = some (.int .i64 d.op.2.1) ∧
      w'.cell? ⟨b, off + k * 14 + 9, none⟩ = some (.int .i64 d.op.2.2.1) ∧ w'.cell? ⟨b, off + k * 14 + 10, none⟩ = some (.int .i64 d.op.2.2.2.1) ∧ w'.cell? ⟨b, off + k * 14 + 11, none⟩ = some (.bool d.op.2.2.2.2.1) ∧ w'.cell? ⟨b, off + k * 14 + 12, none⟩ = some (.bool d.op.2.2.2.2.2) ∧ w'.cell? ⟨b, off + k * 14 + 13, none⟩ = some kv := by
  obtain ⟨b, off, hA, hB, h0⟩ := h.2 k hk
  rw [hv] at h0
  have h1 : ∀ j, j < 14 → w'.cell? ⟨b, off + k * 14 + j, none⟩ = (cvK 14 (vV d a1 a2 a3 kv))[j]? := fun j hj => (hw.cell hB _).trans (h0 j hj)
  exact ⟨b, off, hA, hB, h1 0 (by omega), h1 1 (by omega), h1 2 (by omega), h1 3 (by omega), h1 4 (by omega), h1 5 (by omega), h1 6 (by omega), h1 7 (by omega), h1 8 (by omega), h1 9 (by omega), h1 10 (by omega), h1 11 (by omega), h1 12 (by omega), h1 13 (by omega)⟩
theorem Vs.shown {w : World} {S : Nat → Prop} {A : Option Addr} {n : Nat} {vs : List Value} (h : Vs 8 w S A n vs) (k : Nat) (hk : k < n) {d : SD} {a1 a2 a3 kv : Value} (hv : vs.getD k agg0 = sV d a1 a2 a3 kv) {w' : World} (hw : Still S w w') :
    ∃ b off, A = some ⟨b, off, none⟩ ∧ S b ∧ w'.cell? ⟨b, off + k * 8, none⟩ = some (.int .i64 d.id) ∧ w'.cell? ⟨b, off + k * 8 + 1, none⟩ = some (.int .i64 d.kind) ∧ w'.cell? ⟨b, off + k * 8 + 2, none⟩ = some (.string d.tag) ∧ w'.cell? ⟨b, off + k * 8 + 3, none⟩ = some (.string d.text) ∧
      w'.cell? ⟨b, off + k * 8 + 4, none⟩ = some a1 ∧ w'.cell? ⟨b, off + k * 8 + 5, none⟩ = some a2 ∧ w'.cell? ⟨b, off + k * 8 + 6, none⟩ = some a3 ∧ w'.cell? ⟨b, off + k * 8 + 7, none⟩ = some kv := by
  obtain ⟨b, off, hA, hB, h0⟩ := h.2 k hk
  rw [hv] at h0
  have h1 : ∀ j, j < 8 → w'.cell? ⟨b, off + k * 8 + j, none⟩ = (cvK 8 (sV d a1 a2 a3 kv))[j]? := fun j hj => (hw.cell hB _).trans (h0 j hj)
  exact ⟨b, off, hA, hB, h1 0 (by omega), h1 1 (by omega), h1 2 (by omega), h1 3 (by omega), h1 4 (by omega), h1 5 (by omega), h1 6 (by omega), h1 7 (by omega)⟩

/-- append to a row that a cell of a block holds, the cell being set: what is then. -/
theorem app_field {w w2 : World} {N B off n sz m : Nat} {T e : TypeId} {cs : Array Value} {u v : Value} {xs news : List Value} {g cap : Nat} (hN : Blk w N T cs) (hu : cs[off]? = some u) (hown : w.ownsRow B e sz u n xs) (hne : u.ownBlock ≠ some N) (hv : v = .slice (some ⟨g, 0, none⟩) m cap)
    (hown2 : w2.ownsRow B e sz v m (xs ++ news)) (hg : w.grownBy w2 u.ownBlock) (hat : u.ownBlock = some g ∨ g = w.heap.size) :
    w2.cell? ⟨N, off, none⟩ = some u ∧ w2.frozen? ⟨N, off, none⟩ = false ∧
    Chg (fun i => u.ownBlock = some i ∨ i = N) w (w2.setCell ⟨N, off, none⟩ v) ∧ Blk (w2.setCell ⟨N, off, none⟩ v) N T (cs.setIfInBounds off v) ∧ (w2.setCell ⟨N, off, none⟩ v).ownsRow B e sz v m (xs ++ news) ∧ v.ownBlock ≠ some N ∧ (v.ownBlock = u.ownBlock ∨ v.ownBlock = some w.heap.size) := by
  have hN2 : Blk w2 N T cs := hN.grown hg (fun e => hne e.symm)
  have hvN : v.ownBlock ≠ some N := by
    rw [hv]
    rcases hat with h | h
    · rw [h] at hne; simpa [Value.ownBlock] using hne
    · have := hN.lt
      simp only [Value.ownBlock, ne_eq, Option.some.injEq]; omega
  refine ⟨by rw [hN2.cell]; exact hu, hN2.frozen _, ?_, hN2.set_ _ _, ?_, hvN, ?_⟩
  · exact (Chg.of_grown hg fun i hi => .inl hi).trans (Chg.set (.inr rfl) _ _ _)
  · exact (Chg.set (T := fun i => i = N) rfl _ _ _).own hown2 fun g' h1 h2 => hvN (by rw [h1, h2])
  · rw [hv]
    rcases hat with h | h
    · exact .inl h.symm
    · right; rw [h]; rfl

end Go.Proofs.YtaalhglooipnaaaGreat
