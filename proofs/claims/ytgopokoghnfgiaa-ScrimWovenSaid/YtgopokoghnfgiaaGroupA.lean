/-
  Rows of whatever elements; the walks over Few, Has, Clean; Index, Contains, At.
-/
import Derived.Test.YtgopokoghnfgiaaWeaveN
import Derived.Test.YtgopokoghnfgiaaMatchEq
namespace Go.Proofs.Ytgopokoghnfgiaa
open Go.RowKit
attribute [local go_sem ↓] Go.wp_at_zero Go.wp_at_succ

/-- A slice that reads as a list, each element sz cells, below block B. -/
def Rd {α : Type} (cv : α → List Value) (d : α) (sz : Nat) (w : World) (B : Nat) (A : Option Addr) (n : Nat) (l : List α) : Prop :=
  l.length = n ∧ ∀ k, k < n → ∃ b off, A = some ⟨b, off, none⟩ ∧ b < B ∧ ∀ j, j < sz → w.cell? ⟨b, off + k * sz + j, none⟩ = (cv (l.getD k d))[j]?
section
variable {α : Type} {cv : α → List Value} {d : α} {sz : Nat} {w w' : World} {B : Nat} {A : Option Addr} {n : Nat} {l : List α}
theorem Rd.below (h : Rd cv d sz w B A n l) (hb : Below B w w') : Rd cv d sz w' B A n l :=
  ⟨h.1, fun k hk => by
    obtain ⟨b, off, hA, hB, h0⟩ := h.2 k hk
    exact ⟨b, off, hA, hB, fun j hj => (hb.cell (p := ⟨b, _, none⟩) hB).trans (h0 j hj)⟩⟩
theorem Rd.more (h : Rd cv d sz w B A n l) {B' : Nat} (hB : B ≤ B') : Rd cv d sz w B' A n l :=
  ⟨h.1, fun k hk => by
    obtain ⟨b, off, hA, hb, h0⟩ := h.2 k hk
    exact ⟨b, off, hA, by omega, h0⟩⟩
theorem Rd.keep (h : Rd cv d sz w w.heap.size A n l) (hb : Below w.heap.size w w') : Rd cv d sz w' w'.heap.size A n l := (h.below hb).more hb.size
theorem Rd.take (h : Rd cv d sz w B A n l) (k : Nat) (hk : k ≤ n) : Rd cv d sz w B A k (l.take k) := by
  refine ⟨by rw [List.length_take, h.1]; omega, fun j hj => ?_⟩
  obtain ⟨b, off, hA, hB, h0⟩ := h.2 j (by omega)
  have e : (l.take k).getD j d = l.getD j d := by simp [List.getD, hj]
  rw [e]
  exact ⟨b, off, hA, hB, h0⟩
theorem Rd.nil (w : World) (B : Nat) (A : Option Addr) : Rd cv d sz w B A 0 [] := ⟨rfl, fun k hk => by omega⟩
theorem flat_len (hcv : ∀ a, (cv a).length = sz) (l : List α) : (l.flatMap cv).length = l.length * sz := by
  induction l with
  | nil => simp
  | cons a l ih => rw [List.flatMap_cons, List.length_append, ih, hcv, List.length_cons, Nat.succ_mul]; omega
theorem flat_at (hcv : ∀ a, (cv a).length = sz) (l : List α) (k j : Nat) (hk : k < l.length) (hj : j < sz) : (l.flatMap cv)[k * sz + j]? = (cv (l.getD k d))[j]? := by
  induction l generalizing k with
  | nil => simp at hk
  | cons a l ih =>
    cases k with
    | zero =>
      rw [Nat.zero_mul, Nat.zero_add, List.flatMap_cons, List.getElem?_append_left (by rw [hcv]; exact hj)]
      rfl
    | succ k =>
      rw [List.flatMap_cons, List.getElem?_append_right (by rw [hcv, Nat.succ_mul]; omega), hcv, show (k + 1) * sz + j - sz = k * sz + j by rw [Nat.succ_mul]; omega]
      exact ih k (by simpa using hk)
theorem Rd.of_own {base c : Nat} {e : TypeId} (hcv : ∀ a, (cv a).length = sz) (h : w.ownsRow base e sz (.slice A n c) n (l.flatMap cv)) (hl : l.length = n) : Rd cv d sz w w.heap.size A n l := by
  refine ⟨hl, fun k hk => ?_⟩
  obtain ⟨g, cap, hv, _, hlt⟩ := h.form (by omega)
  injection hv with h1 _ _
  subst h1
  refine ⟨g, 0, rfl, hlt, fun j hj => ?_⟩
  have e1 := flat_at (d := d) hcv l k j (by omega) hj
  obtain ⟨u, hu⟩ : ∃ u, (cv (l.getD k d))[j]? = some u := ⟨_, List.getElem?_eq_getElem (by rw [hcv]; exact hj)⟩
  rw [hu] at e1 ⊢
  have := h.cells (g := g) rfl _ _ e1
  rw [Addr.add_lit] at this
  rw [show 0 + k * sz + j = 0 + (k * sz + j) by omega]
  exact this
end

/-! ### Strings -/
def cvS (s : ByteArray) : List Value := [.string s]
abbrev Ss (w : World) (B : Nat) (A : Option Addr) (n : Nat) (l : List ByteArray) : Prop := Rd cvS ByteArray.empty 1 w B A n l
theorem Rd.str {w : World} {B : Nat} {A : Option Addr} {n : Nat} {l : List ByteArray} (h : Ss w B A n l) (k : Nat) (hk : k < n) : ∃ b off, A = some ⟨b, off, none⟩ ∧ b < B ∧ w.cell? ⟨b, off + k, none⟩ = some (.string (l.getD k ByteArray.empty)) := by
  obtain ⟨b, off, hA, hB, h0⟩ := h.2 k hk
  have := h0 0 (by omega)
  rw [Nat.mul_one, Nat.add_zero] at this
  exact ⟨b, off, hA, hB, this⟩
theorem str_info : (Try.prog.info? 9).map (fun i => (i.zero, i.size, i.bytes)) = some (some (.string ByteArray.empty), 1, 16) := by kernel_rfl
theorem cvS_snoc (l : List ByteArray) (s : ByteArray) : (l ++ [s]).flatMap cvS = l.flatMap cvS ++ [.string s] := by simp [cvS]
/-- What hands back a row of strings leaves. -/
def StrPost (w : World) (l : List ByteArray) (e : Ending) (w' : World) : Prop :=
  ∃ A c, e = .returned (.slice A l.length c) ∧ w'.ownsRow w.heap.size 9 1 (.slice A l.length c) l.length (l.flatMap cvS) ∧ Below w.heap.size w w'

def fewS (M : Nat) (l : List ByteArray) : List ByteArray := (l.take M).map cut20
theorem fewS_len (M : Nat) (l : List ByteArray) : (fewS M l).length = min M l.length := by simp [fewS]
theorem fewS_succ (l : List ByteArray) (k : Nat) (h : k < l.length) : fewS (k + 1) l = fewS k l ++ [cut20 (l.getD k ByteArray.empty)] := by
  rw [fewS, take_snoc l ByteArray.empty k h, List.map_append]; rfl

set_option maxRecDepth 100000 in
set_option maxHeartbeats 8000000 in
theorem few_any (A : Option Addr) (n c M : Nat) (hM : M ≤ 100) (l : List ByteArray) (w : World) (hz : Ss w w.heap.size A n l) :
    Calls Try.prog 29 #[.slice A n c, .int .i64 (M : Nat)] w (StrPost w (fewS M l)) := by
  obtain ⟨tr, hi, hz0, hz1, hz2⟩ := info_parts str_info
  have HZ := Lib.hid hz
  clear hz
  go_enter Try.func29, Try.ntmps29
  go_wp2_with fail
  go_loopw [5, 6] (fun vo i wx => ∃ k : Nat, k ≤ n ∧ k ≤ M ∧ i = .int .i64 k ∧ wx.ownsRow w.heap.size 9 1 vo k ((fewS k l).flatMap cvS) ∧ Below w.heap.size w wx) (fun _ i _ => M - (intOf i).toNat)
  case atStart => exact ⟨0, Nat.zero_le _, Nat.zero_le _, rfl, World.ownsRow_nil _ _ _ _, Below.refl _ _⟩
  case round =>
    obtain ⟨k, hk, hkM, rfl, hown, hb⟩ := hrel
    obtain ⟨vo, hvo⟩ : ∃ vo, vo = u5 := ⟨_, rfl⟩
    rw [← hvo] at hown ⊢
    clear hvo
    by_cases hlt : k < n ∧ k < M
    · obtain ⟨h1, h2⟩ := hlt
      obtain ⟨b, off, rfl, hbB, d0⟩ := HZ.out.str k h1
      replace d0 := (hb.cell (p := ⟨b, off + k, none⟩) hbB).trans d0
      have HS := Lib.hid (fewS_succ l k (by have := HZ.out.1; omega))
      obtain ⟨s, hs⟩ : ∃ s, s = l.getD k ByteArray.empty := ⟨_, rfl⟩
      rw [← hs] at d0 HS
      have i1 : (0 : Int) ≤ (k : Int) := by omega
      have i2 : (k : Int) < (n : Int) := by omega
      have i3 : (k : Int) < (M : Nat) := by omega
      have HO := Lib.hid (And.intro hown hb)
      clear hs hown hb
      go_wp2_with (first
        | (go_at_call 34; ((with_reducible refine (cut_any _ _).mono ?_); rintro e w' ⟨rfl, rfl⟩))
        | (at_builtin; refine wpList_append_lies _ rfl _ _ _ rfl w.heap.size 9 tr _ 1 16 Try.underlying55 hi hz0 hz1 hz2 rfl (by decide) _ k ((fewS k l).flatMap cvS) rfl (HO.out.1.alloc _) _ 1 1 [.string (cut20 s)] rfl rfl (World.news_of_block (heap_alloc_new _ _)) (by intro u hu; simp at hu; subst hu; rfl) (by omega) (by unfold maxLen; omega) (by omega) (by have := HO.out.2.size; simp; omega) _ rfl ?_; intro g2 cap2 w4 hown2 hg2 hat2 hlt2; have HX := Lib.hid (And.intro hown2 ((HO.out.2.alloc HO.out.2.size _).grown hg2 (HO.out.2.alloc HO.out.2.size _).size (fun j hj => (HO.out.1.lt j hj).1))); clear hown2 hg2 hat2 hlt2))
      go_roundw
      case rel => exact ⟨k + 1, by omega, by omega, by go_num, by rw [HS.out, cvS_snoc]; exact HX.out.1, HX.out.2⟩
      case measure => simp [intOf]; omega
    · have HE := Lib.hid (show fewS k l = fewS M l ∧ (fewS M l).length = k by
        have hl := HZ.out.1
        have e : fewS k l = fewS M l := by
          rw [fewS, fewS]
          by_cases h : k = M
          · rw [h]
          · rw [List.take_of_length_le (by omega), List.take_of_length_le (by omega)]
        exact ⟨e, by rw [← e, fewS_len]; omega⟩)
      rw [HE.out.1] at hown
      obtain ⟨A5, c5, hv⟩ := own_form hown
      subst hv
      have HO := Lib.hid (And.intro hown hb)
      clear hown hb
      by_cases h1 : k < n
      · have i1 : (k : Int) < (n : Int) := by omega
        have i3 : decide ((k : Int) < (M : Nat)) = false := by simp; omega
        have i4 : decide (k < M) = false := by simp; omega
        clear hlt
        go_wp2
        go_ret
        exact ⟨A5, c5, by rw [HE.out.2]; rfl, by rw [HE.out.2]; exact HO.out.1, HO.out.2⟩
      · have i3 : decide ((k : Int) < (n : Int)) = false := by simp; omega
        have i4 : decide (k < n) = false := by simp; omega
        clear hlt
        go_wp2
        go_ret
        exact ⟨A5, c5, by rw [HE.out.2]; rfl, by rw [HE.out.2]; exact HO.out.1, HO.out.2⟩

set_option maxHeartbeats 4000000 in
theorem has_any (A : Option Addr) (n c B : Nat) (l : List ByteArray) (s : ByteArray) (w : World) (hz : Ss w B A n l) (hn : n ≤ 1000) :
    Calls Try.prog 50 #[.slice A n c, .string s] w fun e w' => ∃ q, e = .returned (.bool q) ∧ (q = true ↔ s ∈ l) ∧ w' = w := by
  have HZ := Lib.hid hz
  clear hz
  go_enter Try.func50, Try.ntmps50
  go_wp2_with fail
  go_loopw [9] (fun i wx => ∃ k : Nat, k ≤ n ∧ i = .int .i64 k ∧ wx = w ∧ Hid (∀ j, j < k → l.getD j ByteArray.empty ≠ s)) (fun i _ => n - (intOf i).toNat)
  case atStart => exact ⟨0, Nat.zero_le _, rfl, rfl, fun j hj => by omega⟩
  case round =>
    obtain ⟨k, hk, rfl, hw, hH⟩ := hrel
    subst hw
    by_cases hlt : k < n
    · obtain ⟨b, off, rfl, hbB, d0⟩ := HZ.out.str k hlt
      obtain ⟨t, ht⟩ : ∃ t, t = l.getD k ByteArray.empty := ⟨_, rfl⟩
      rw [← ht] at d0
      have HT := Lib.hid ht
      have i1 : (0 : Int) ≤ (k : Int) := by omega
      have i2 : (k : Int) < (n : Int) := by omega
      clear ht
      by_cases h : t.toList = s.toList
      · have h2 := toList_inj h
        have HM := Lib.hid (show s ∈ l by
          have hk2 : k < l.length := by have := HZ.out.1; omega
          have e : l.getD k ByteArray.empty = l[k] := by simp [List.getD, hk2]
          rw [← h2, HT.out, e]; exact List.getElem_mem hk2)
        subst h2
        clear h
        go_wp2
        go_ret
        exact ⟨true, by simp, ⟨fun _ => HM.out, fun _ => rfl⟩, rfl⟩
      · have h2 : (t.toList == s.toList) = false := by simpa using h
        have HN := Lib.hid (show t ≠ s from fun e => h (by rw [e]))
        clear h
        go_wp2
        go_roundw
        case rel => exact ⟨k + 1, by omega, by go_num, trivial, fun j hj => by
          by_cases e : j = k
          · rw [e, ← HT.out]; exact HN.out
          · exact hH.out j (by omega)⟩
        case measure => simp [intOf]; omega
    · obtain rfl : k = n := by omega
      have HN := Lib.hid (show s ∉ l from fun h => by
        obtain ⟨i, h1, h2⟩ := List.mem_iff_getElem.1 h
        exact hH.out i (by have := HZ.out.1; omega) (by simp [List.getD, h1, h2]))
      go_wp2
      go_ret
      exact ⟨false, by first | rfl | simp, ⟨fun h => (by cases h), fun h => absurd h HN.out⟩, rfl⟩

open Classical in
/-- Each once. -/
noncomputable def cleanTo (l : List ByteArray) : Nat → List ByteArray
  | 0 => []
  | k + 1 => if l.getD k ByteArray.empty ∈ l.take k then cleanTo l k else cleanTo l k ++ [l.getD k ByteArray.empty]
noncomputable def cleanS (l : List ByteArray) : List ByteArray := cleanTo l l.length
theorem cleanTo_succ (l : List ByteArray) (k : Nat) : (l.getD k ByteArray.empty ∈ l.take k → cleanTo l (k + 1) = cleanTo l k) ∧ (l.getD k ByteArray.empty ∉ l.take k → cleanTo l (k + 1) = cleanTo l k ++ [l.getD k ByteArray.empty]) :=
  ⟨fun h => by rw [cleanTo, if_pos h], fun h => by rw [cleanTo, if_neg h]⟩
theorem cleanTo_len (l : List ByteArray) (k : Nat) : (cleanTo l k).length ≤ k := by
  induction k with
  | zero => exact Nat.zero_le _
  | succ k ih =>
    rw [cleanTo]
    split
    · omega
    · simp; exact ih

set_option maxRecDepth 100000 in
set_option maxHeartbeats 8000000 in
theorem clean_any (A : Option Addr) (n c : Nat) (l : List ByteArray) (w : World) (hz : Ss w w.heap.size A n l) (hn : n ≤ 100) (hc : n ≤ c) :
    Calls Try.prog 28 #[.slice A n c] w (StrPost w (cleanS l)) := by
  obtain ⟨tr, hi, hz0, hz1, hz2⟩ := info_parts str_info
  have HZ := Lib.hid hz
  clear hz
  go_enter Try.func28, Try.ntmps28
  go_upto_region 3 with fail
  have h0 : (w.alloc (.cells #[] 9)).ownsRow w.heap.size 9 1 (.slice (some ⟨w.heap.size, 0, none⟩) 0 0) 0 [] := World.ownsRow_made w #[] 0 (Nat.le_refl _) (Nat.zero_le _) rfl
  obtain ⟨v0, hv0⟩ : ∃ v0, v0 = Value.slice (some ⟨w.heap.size, 0, none⟩) 0 0 := ⟨_, rfl⟩
  rw [← hv0] at h0 ⊢
  have H0 := Lib.hid h0
  clear h0 hv0
  go_loopw [3, 9] (fun vo i wx => ∃ k : Nat, k ≤ n ∧ i = .int .i64 k ∧ wx.ownsRow w.heap.size 9 1 vo (cleanTo l k).length ((cleanTo l k).flatMap cvS) ∧ Below w.heap.size w wx) (fun _ i _ => n - (intOf i).toNat)
  case atStart => exact ⟨0, Nat.zero_le _, rfl, H0.out, (Below.refl _ _).alloc (Nat.le_refl _) _⟩
  case round =>
    obtain ⟨k, hk, rfl, hown, hb⟩ := hrel
    obtain ⟨vo, hvo⟩ : ∃ vo, vo = u3 := ⟨_, rfl⟩
    rw [← hvo] at hown ⊢
    clear hvo
    by_cases hlt : k < n
    · obtain ⟨b, off, rfl, hbB, d0⟩ := HZ.out.str k hlt
      replace d0 := (hb.cell (p := ⟨b, off + k, none⟩) hbB).trans d0
      have HC := Lib.hid (cleanTo_succ l k)
      obtain ⟨s, hs⟩ : ∃ s, s = l.getD k ByteArray.empty := ⟨_, rfl⟩
      obtain ⟨o, ho⟩ : ∃ o, o = cleanTo l k := ⟨_, rfl⟩
      have hol : o.length ≤ k := by rw [ho]; exact cleanTo_len l k
      rw [← hs] at d0 HC
      rw [← ho] at hown HC
      have HT := Lib.hid ((HZ.out.below hb).take k hk)
      have i1 : (0 : Int) ≤ (k : Int) := by omega
      have i2 : (k : Int) < (n : Int) := by omega
      have i3 : (k : Int) ≤ (c : Int) := by omega
      have HO := Lib.hid (And.intro hown hb)
      clear hs ho hown hb
      go_wp2_with fail
      refine (has_any _ k c _ (l.take k) s _ HT.out (by omega)).mono ?_
      rintro e w4 ⟨q, rfl, hq, rfl⟩
      have HQ := Lib.hid hq
      clear hq
      cases q
      · have HC2 := Lib.hid (show cleanTo l (k + 1) = o ++ [s] from HC.out.2 (fun h => by have := HQ.out.2 h; cases this))
        go_wp2_with (first
          | (at_builtin; refine wpList_append_lies _ rfl _ _ _ rfl w.heap.size 9 tr _ 1 16 Try.underlying55 hi hz0 hz1 hz2 rfl (by decide) _ o.length (o.flatMap cvS) rfl (HO.out.1.alloc _) _ 1 1 [.string s] rfl rfl (World.news_of_block (heap_alloc_new _ _)) (by intro u hu; simp at hu; subst hu; rfl) (by omega) (by unfold maxLen; omega) (by omega) (by have := HO.out.2.size; simp; omega) _ rfl ?_; intro g2 cap2 w4 hown2 hg2 hat2 hlt2; have HX := Lib.hid (And.intro hown2 ((HO.out.2.alloc HO.out.2.size _).grown hg2 (HO.out.2.alloc HO.out.2.size _).size (fun j hj => (HO.out.1.lt j hj).1))); clear hown2 hg2 hat2 hlt2))
        go_roundw
        case rel => exact ⟨k + 1, by omega, by go_num, by rw [HC2.out, cvS_snoc, List.length_append]; exact HX.out.1, HX.out.2⟩
        case measure => simp [intOf]; omega
      · have HC2 := Lib.hid (show cleanTo l (k + 1) = o from HC.out.1 (HQ.out.1 rfl))
        go_wp2
        go_roundw
        case rel => exact ⟨k + 1, by omega, by go_num, by rw [HC2.out]; exact HO.out.1, HO.out.2⟩
        case measure => simp [intOf]; omega
    · obtain rfl : k = n := by omega
      obtain ⟨A5, c5, hv⟩ := own_form hown
      subst hv
      have HE := Lib.hid (show cleanS l = cleanTo l k by rw [cleanS, HZ.out.1])
      have HO := Lib.hid (And.intro hown hb)
      clear hown hb
      go_wp2
      go_ret
      rw [HE.out]
      exact ⟨A5, c5, rfl, HO.out.1, HO.out.2⟩

end Go.Proofs.Ytgopokoghnfgiaa
