/-
  The walks over Lens, Len of the document's layer 10; Moves of layer 12; behind.
-/
import Derived.Test.YtgopokoghnfgiaaWovD
import Derived.Test.YtgopokoghnfgiaaGroupB
namespace Go.Proofs.Ytgopokoghnfgiaa
open Go.RowKit
attribute [local go_sem ↓] Go.wp_at_zero Go.wp_at_succ

def bst (l : List Int) (k : Nat) (x : Int) (j : Nat) : Nat := bestTo l (fun j => (lensL l k).getD j 0) x j
theorem bst_succ (l : List Int) (k : Nat) (x : Int) (j : Nat) : bst l k x (j + 1) = if l.getD j 0 < x ∧ bst l k x j ≤ (lensL l k).getD j 0 then (lensL l k).getD j 0 + 1 else bst l k x j := rfl
theorem bst_le (l : List Int) (k : Nat) (x : Int) (j : Nat) (h : ∀ i, (lensL l k).getD i 0 ≤ 1000) : bst l k x j ≤ 1001 := by
  induction j with
  | zero => exact (by decide : 1 ≤ 1001)
  | succ j ih => rw [bst_succ]; have := h j; split <;> omega
theorem lensL_le (l : List Int) (k i : Nat) : (lensL l k).getD i 0 ≤ k := by
  by_cases h : i < k
  · rw [lensL_at l k i h]
    have h1 := maxTo_ge l k i h
    have h2 := maxTo_len l k
    omega
  · rw [List.getD, List.getElem?_eq_none (by rw [lensL_len]; omega)]
    exact Nat.zero_le _
theorem own_zero (w : World) : (w.alloc (.cells #[] 3)).ownsRow w.heap.size 3 1 (.slice (some ⟨w.heap.size, 0, none⟩) 0 0) 0 (nums []) := World.ownsRow_made w #[] 0 (Nat.le_refl _) (Nat.zero_le _) rfl

set_option maxRecDepth 100000 in
set_option maxHeartbeats 8000000 in
theorem lensr_any (A : Option Addr) (n c : Nat) (l : List Int) (w : World) (hz : Nums w w.heap.size A n l) (hn : n ≤ 1000) :
    Calls Try.prog 47 #[.slice A n c] w fun e w' => ∃ A' c', e = .returned (.slice A' n c') ∧ w'.ownsRow w.heap.size 3 1 (.slice A' n c') n (nums (ints (lensL l n))) ∧ Below w.heap.size w w' := by
  obtain ⟨tr, hi, hz0, hz1, hz2⟩ := info_parts winfo
  have HZ := Lib.hid hz
  clear hz
  go_enter Try.func47, Try.ntmps47
  go_upto_region 2 with fail
  have h0 := own_zero w
  obtain ⟨v0, hv0⟩ : ∃ v0, v0 = Value.slice (some ⟨w.heap.size, 0, none⟩) 0 0 := ⟨_, rfl⟩
  rw [← hv0] at h0 ⊢
  have H0 := Lib.hid (And.intro h0 ((Below.refl w.heap.size w).alloc (Nat.le_refl _) (.cells #[] 3)))
  clear h0 hv0
  go_wp2_with fail
  go_loopw [3, 11] (fun vo vi wx => ∃ k : Nat, k ≤ n ∧ vi = .int .i64 k ∧ wx.ownsRow w.heap.size 3 1 vo k (nums (ints (lensL l k))) ∧ Below w.heap.size w wx) (fun _ i _ => n - (intOf i).toNat)
  case atStart => exact ⟨0, Nat.zero_le _, rfl, H0.out.1, H0.out.2⟩
  case round =>
    obtain ⟨k, hk, rfl, hown, hb⟩ := hrel
    obtain ⟨Ao, co, hv⟩ := own_form hown
    obtain ⟨vo, hvo⟩ : ∃ vo, vo = u3 := ⟨_, rfl⟩
    rw [← hvo] at hown hv ⊢
    clear hvo
    subst hv
    by_cases hlt : k < n
    · obtain ⟨b, off, rfl, hbB, d0⟩ := HZ.out.2 k hlt
      replace d0 := (hb.cell (p := ⟨b, off + k, none⟩) hbB).trans d0
      obtain ⟨x, hx⟩ : ∃ x, x = l.getD k 0 := ⟨_, rfl⟩
      rw [← hx] at d0
      have HX := Lib.hid hx
      have i1 : (0 : Int) ≤ (k : Int) := by omega
      have i2 : (k : Int) < (n : Int) := by omega
      have HC := Lib.hid (And.intro hown hb)
      have HN := Lib.hid (Nums.of_own hown (by rw [ints_len, lensL_len]))
      clear hx hown hb H0
      go_wp2_with fail
      obtain ⟨wo, rfl⟩ : ∃ wo : World, wo = wr := ⟨_, rfl⟩
      go_loopw [6, 7] (fun vn vj wx => ∃ j : Nat, j ≤ k ∧ vj = .int .i64 j ∧ vn = .int .i64 (bst l k x j : Nat) ∧ wx = wo) (fun _ j _ => k - (intOf j).toNat)
      case atStart => exact ⟨0, Nat.zero_le _, rfl, rfl, rfl⟩
      case round =>
        obtain ⟨j, hj, rfl, rfl, hw⟩ := hrel
        subst hw
        by_cases hjk : j < k
        · obtain ⟨b', off', hA', hbB', e0⟩ := (HZ.out.below HC.out.2).2 j (by omega)
          injection hA' with hA'
          injection hA' with hA1 hA2
          subst hA1 hA2
          obtain ⟨bo, oo, hAo, hbo, e1⟩ := HN.out.2 j hjk
          rw [ints_at] at e1
          have hv1 := bst_le l k x j (fun i => Nat.le_trans (lensL_le l k i) (by omega))
          have hq1 := lensL_le l k j
          have HS := Lib.hid (bst_succ l k x j)
          obtain ⟨y, hy⟩ : ∃ y, y = l.getD j 0 := ⟨_, rfl⟩
          obtain ⟨q, hq⟩ : ∃ q, q = (lensL l k).getD j 0 := ⟨_, rfl⟩
          obtain ⟨v, hv⟩ : ∃ v, v = bst l k x j := ⟨_, rfl⟩
          rw [← hy] at e0 HS
          rw [← hq] at e1 HS hq1
          rw [← hv] at hv1 HS ⊢
          have j1 : (0 : Int) ≤ (j : Int) := by omega
          have j2 : (j : Int) < (k : Int) := by omega
          have j3 : (j : Int) < (n : Int) := by omega
          clear hy hq hv
          subst hAo
          by_cases c1 : y < x
          · by_cases c2 : (v : Int) ≤ (q : Int)
            · have HS2 := Lib.hid (show bst l k x (j + 1) = q + 1 by rw [HS.out, if_pos ⟨c1, by omega⟩])
              go_wp2
              go_roundw
              case rel => exact ⟨j + 1, by omega, by go_num, by rw [HS2.out]; go_num, trivial⟩
              case measure => simp [intOf]; omega
            · have HS2 := Lib.hid (show bst l k x (j + 1) = v by rw [HS.out, if_neg (fun h => c2 (by omega))])
              have c3 : (q : Int) < (v : Int) := by omega
              clear c2
              go_wp2
              go_roundw
              case rel => exact ⟨j + 1, by omega, by go_num, by rw [HS2.out], trivial⟩
              case measure => simp [intOf]; omega
          · have HS2 := Lib.hid (show bst l k x (j + 1) = v by rw [HS.out, if_neg (fun h => c1 h.1)])
            have c3 : x ≤ y := by omega
            clear c1
            go_wp2
            go_roundw
            case rel => exact ⟨j + 1, by omega, by go_num, by rw [HS2.out], trivial⟩
            case measure => simp [intOf]; omega
        · obtain rfl : j = k := by omega
          have hd : decide ((j : Int) < (j : Int)) = false := by simp
          have HL := Lib.hid (show lensL l (j + 1) = lensL l j ++ [bst l j x j] by rw [HX.out]; rfl)
          obtain ⟨v, hv⟩ : ∃ v, v = bst l j x j := ⟨_, rfl⟩
          rw [← hv] at HL ⊢
          clear hv hd
          go_wp2_with (first
            | (at_builtin; refine wpList_append_lies _ rfl _ _ _ rfl w.heap.size 3 tr _ 1 8 Try.underlying30 hi hz0 hz1 hz2 rfl (by decide) (.slice Ao j co) j (nums (ints (lensL l j))) rfl (HC.out.1.alloc _) _ 1 1 [.int .i64 v] rfl rfl (World.news_of_block (heap_alloc_new _ _)) (by intro u hu; simp at hu; subst hu; rfl) (by omega) (by unfold maxLen; omega) (by omega) (by have := HC.out.2.size; simp; omega) _ rfl ?_; intro g2 cap2 w4 hown2 hg2 hat2 hlt2; have HR := Lib.hid (And.intro hown2 ((HC.out.2.alloc HC.out.2.size _).grown hg2 (HC.out.2.alloc HC.out.2.size _).size (fun j hj => (HC.out.1.lt j hj).1))); clear hown2 hg2 hat2 hlt2))
          go_roundw
          case rel => exact ⟨j + 1, by omega, by go_num, by rw [HL.out, ints_snoc, nums_snoc]; exact HR.out.1, HR.out.2⟩
          case measure => simp [intOf]; omega
    · obtain rfl : k = n := by omega
      have HX := Lib.hid (And.intro hown hb)
      clear hown hb H0
      go_wp2
      go_ret
      exact ⟨Ao, co, rfl, HX.out.1, HX.out.2⟩

set_option maxHeartbeats 8000000 in
theorem lenr_any (A : Option Addr) (n c : Nat) (l : List Int) (w : World) (hz : Nums w w.heap.size A n l) (hn : n ≤ 1000) :
    Calls Try.prog 25 #[.slice A n c] w fun e w' => e = .returned (.int .i64 (lenS l : Nat)) ∧ Below w.heap.size w w' := by
  have HZ := Lib.hid hz
  clear hz
  go_enter Try.func25, Try.ntmps25
  go_wp2_with fail
  refine (lensr_any A n c l _ HZ.out hn).mono ?_
  rintro e w2 ⟨A2, c2, rfl, hown, hb⟩
  have HN := Lib.hid (Nums.of_own hown (by rw [ints_len, lensL_len]))
  have HB := Lib.hid hb
  clear hown hb
  go_wp2_with fail
  go_loopw [3, 9] (fun vn vi wx => ∃ k : Nat, k ≤ n ∧ vi = .int .i64 k ∧ vn = .int .i64 (maxTo l k : Nat) ∧ wx = w2) (fun _ i _ => n - (intOf i).toNat)
  case atStart => exact ⟨0, Nat.zero_le _, rfl, rfl, rfl⟩
  case round =>
    obtain ⟨k, hk, rfl, rfl, hw⟩ := hrel
    subst hw
    by_cases hlt : k < n
    · obtain ⟨b, off, hA, hbB, d0⟩ := HN.out.2 k hlt
      subst hA
      rw [ints_at, lensL_at l n k hlt] at d0
      have HS := Lib.hid (show maxTo l (k + 1) = max (maxTo l k) (lens l k) from rfl)
      obtain ⟨q, hq⟩ : ∃ q, q = lens l k := ⟨_, rfl⟩
      obtain ⟨v, hv⟩ : ∃ v, v = maxTo l k := ⟨_, rfl⟩
      rw [← hq] at d0 HS
      rw [← hv] at HS ⊢
      have i1 : (0 : Int) ≤ (k : Int) := by omega
      have i2 : (k : Int) < (n : Int) := by omega
      clear hq hv
      go_wp2
      go_roundw
      case rel =>
        have h1 : max (v : Int) (q : Int) = ((max v q : Nat) : Int) := by omega
        exact ⟨k + 1, by omega, by go_num, by rw [h1, HS.out], trivial⟩
      case measure => simp [intOf]; omega
    · obtain rfl : k = n := by omega
      have HE := Lib.hid (show lenS l = maxTo l k by rw [lenS, HZ.out.1])
      go_wp2
      go_ret
      exact ⟨by rw [HE.out]; rfl, HB.out⟩

/-! ### Steps -/
/-- A step of layer 12: kind, number, place. -/
abbrev Wst := Int × Int × Int
def wst0 : Wst := (0, 0, 0)
def cvW (p : Wst) : List Value := [.int .i64 p.1, .int .i64 p.2.1, .int .i64 p.2.2]
theorem cvW_snoc (l : List Wst) (p : Wst) : (l ++ [p]).flatMap cvW = l.flatMap cvW ++ [.int .i64 p.1, .int .i64 p.2.1, .int .i64 p.2.2] := by simp [cvW]
theorem wst_info : (Try.prog.info? 82).map (fun i => (i.zero, i.size, i.bytes)) = some (some (.agg #[.int .i64 0, .int .i64 0, .int .i64 0]), 3, 24) := by kernel_rfl
abbrev Ws (w : World) (B : Nat) (A : Option Addr) (n : Nat) (l : List Wst) : Prop := Rd cvW wst0 3 w B A n l
theorem Rd.wst {w : World} {B : Nat} {A : Option Addr} {n : Nat} {l : List Wst} (h : Ws w B A n l) (k : Nat) (hk : k < n) : ∃ b off, A = some ⟨b, off, none⟩ ∧ b < B ∧ w.cell? ⟨b, off + k * 3, none⟩ = some (.int .i64 (l.getD k wst0).1) ∧ w.cell? ⟨b, off + k * 3 + 1, none⟩ = some (.int .i64 (l.getD k wst0).2.1) ∧ w.cell? ⟨b, off + k * 3 + 2, none⟩ = some (.int .i64 (l.getD k wst0).2.2) := by
  obtain ⟨b, off, hA, hB, h0⟩ := h.2 k hk
  exact ⟨b, off, hA, hB, h0 0 (by omega), h0 1 (by omega), h0 2 (by omega)⟩
def movesTo (l : List Wst) : Nat → Nat
  | 0 => 0
  | k + 1 => if (l.getD k wst0).1 = 3 then movesTo l k + 1 else movesTo l k
def movesS (l : List Wst) : Nat := movesTo l l.length
theorem movesTo_le (l : List Wst) (k : Nat) : movesTo l k ≤ k := by
  induction k with
  | zero => exact Nat.le_refl _
  | succ k ih => rw [movesTo]; split <;> omega

set_option maxHeartbeats 8000000 in
theorem moves_any (A : Option Addr) (n c : Nat) (l : List Wst) (w : World) (hz : Ws w w.heap.size A n l) (hn : n ≤ 1000) :
    Calls Try.prog 24 #[.slice A n c] w fun e w' => e = .returned (.int .i64 (movesS l : Nat)) ∧ Below w.heap.size w w' := by
  have HZ := Lib.hid hz
  clear hz
  go_enter Try.func24, Try.ntmps24
  go_wp2_with fail
  go_loopw [3, 8] (fun vn vi wx => ∃ k : Nat, k ≤ n ∧ vi = .int .i64 k ∧ vn = .int .i64 (movesTo l k : Nat) ∧ Below w.heap.size w wx) (fun _ i _ => n - (intOf i).toNat)
  case atStart => exact ⟨0, Nat.zero_le _, rfl, rfl, Below.refl _ _⟩
  case round =>
    obtain ⟨k, hk, rfl, rfl, hb⟩ := hrel
    by_cases hlt : k < n
    · obtain ⟨b, off, rfl, hbB, d0, d1, d2⟩ := HZ.out.wst k hlt
      replace d0 := (hb.cell (p := ⟨b, off + k * 3, none⟩) hbB).trans d0
      replace d1 := (hb.cell (p := ⟨b, off + k * 3 + 1, none⟩) hbB).trans d1
      replace d2 := (hb.cell (p := ⟨b, off + k * 3 + 2, none⟩) hbB).trans d2
      have HS := Lib.hid (show movesTo l (k + 1) = if (l.getD k wst0).1 = 3 then movesTo l k + 1 else movesTo l k from rfl)
      obtain ⟨⟨a, id, at_⟩, hs⟩ : ∃ s, s = l.getD k wst0 := ⟨_, rfl⟩
      have hv := movesTo_le l k
      obtain ⟨v, hv2⟩ : ∃ v, v = movesTo l k := ⟨_, rfl⟩
      rw [← hs] at d0 d1 d2 HS
      rw [← hv2] at HS hv ⊢
      simp only at d0 d1 d2 HS
      have i1 : (0 : Int) ≤ (k : Int) := by omega
      have i2 : (k : Int) < (n : Int) := by omega
      have HO := Lib.hid (hb.alloc hb.size (.cells #[.int .i64 a, .int .i64 id, .int .i64 at_] 82))
      have hX := Blk.new wr 82 #[.int .i64 a, .int .i64 id, .int .i64 at_]
      have y0 := hX.cell 0
      clear hs hb hX hv2
      by_cases h3 : a = 3
      · have HS2 := Lib.hid (show movesTo l (k + 1) = v + 1 by rw [HS.out, if_pos h3])
        subst h3
        go_wp2
        go_roundw
        case rel => exact ⟨k + 1, by omega, by go_num, by rw [HS2.out]; go_num, HO.out⟩
        case measure => simp [intOf]; omega
      · have HS2 := Lib.hid (show movesTo l (k + 1) = v by rw [HS.out, if_neg h3])
        have h4 : (a == 3) = false := by simpa using h3
        go_wp2
        go_roundw
        case rel => exact ⟨k + 1, by omega, by go_num, by rw [HS2.out], HO.out⟩
        case measure => simp [intOf]; omega
    · obtain rfl : k = n := by omega
      have HE := Lib.hid (show movesS l = movesTo l k by rw [movesS, HZ.out.1])
      have HB := Lib.hid hb
      clear hb
      go_wp2
      go_ret
      exact ⟨by rw [HE.out]; rfl, HB.out⟩

/-- Where a number stands behind another one, with others that go between. -/
structure Bhd (l : List Int) (id near : Int) (gone : List Int) (q p : Nat) : Prop where
  lt : q < l.length
  at_ : l.getD q 0 = id
  nd : l.Nodup
  le : p ≤ q
  mid : ∀ j, p ≤ j → j < q → l.getD j 0 ∈ gone ∧ l.getD j 0 ≤ id
  stop : (p = 0 ∧ near < 0) ∨ (0 < p ∧ l.getD (p - 1) 0 ∉ gone ∧ l.getD (p - 1) 0 = near)
theorem isAt_in {l : List Int} {x r : Int} (h : IsAt l x r) : (x ∈ l → 0 ≤ r) ∧ (x ∉ l → r = -1) := by
  rcases h with ⟨rfl, h⟩ | ⟨k, rfl, h1, h2⟩
  · exact ⟨fun h' => absurd h' h, fun _ => rfl⟩
  · exact ⟨fun _ => by omega, fun h' => absurd ((mem_getD l x).2 ⟨k, h1, h2⟩) h'⟩

set_option maxRecDepth 100000 in
set_option maxHeartbeats 8000000 in
theorem behind_any (A A' : Option Addr) (n c m c' : Nat) (l gone : List Int) (id near : Int) (q p : Nat) (w : World) (hz : Nums w w.heap.size A n l) (hz' : Nums w w.heap.size A' m gone) (hn : n ≤ 1000) (hm : m ≤ 1000) (hB : Bhd l id near gone q p) :
    Calls Try.prog 23 #[.slice A n c, .int .i64 id, .int .i64 near, .slice A' m c'] w fun e w' => e = .returned (.bool true) ∧ w' = w := by
  have HZ := Lib.hid (And.intro hz (And.intro hz' hB))
  clear hz hz' hB
  go_enter Try.func23, Try.ntmps23
  go_wp2_with fail
  refine (at_any A n c _ l id _ HZ.out.1 (by omega)).mono ?_
  rintro e w2 ⟨r, rfl, hr, rfl⟩
  have hrq : r = (q : Int) := by
    rcases hr with ⟨_, h⟩ | ⟨k, rfl, h1, h2⟩
    · exact absurd ((mem_getD l id).2 ⟨q, HZ.out.2.2.lt, HZ.out.2.2.at_⟩) h
    · by_cases h : k = q
      · rw [h]
      · exact absurd (h2.trans HZ.out.2.2.at_.symm) (getD_ne HZ.out.2.2.nd h1 HZ.out.2.2.lt h)
  subst hrq
  clear hr
  go_wp2_with fail
  go_loopw [9] (fun va wx => ∃ j : Nat, p ≤ j ∧ j ≤ q ∧ va = .int .i64 j ∧ wx = w2) (fun a _ => (intOf a).toNat)
  case atStart => exact ⟨q, HZ.out.2.2.le, Nat.le_refl _, rfl, rfl⟩
  case round =>
    obtain ⟨j, hpj, hjq, rfl, hw⟩ := hrel
    subst hw
    have hqn : q < n := by have := HZ.out.2.2.lt; have := HZ.out.1.1; omega
    by_cases h0 : j = 0
    · subst h0
      have hp0 : p = 0 := by omega
      have hne : near < 0 := by
        rcases HZ.out.2.2.stop with h | h
        · exact h.2
        · omega
      clear hp0
      go_wp2
      go_ret
      exact ⟨by first | rfl | simp, rfl⟩
    · have hj0 : (0 : Int) < (j : Int) := by omega
      have hjI : (j : Int) - 1 = ((j - 1 : Nat) : Int) := by omega
      obtain ⟨b, off, hA, hbB, d0⟩ := HZ.out.1.2 (j - 1) (by omega)
      have hmid := HZ.out.2.2.mid (j - 1)
      have hstop := HZ.out.2.2.stop
      obtain ⟨i, hi⟩ : ∃ i, i = j - 1 := ⟨_, rfl⟩
      rw [← hi] at hjI d0 hmid
      have i1 : (0 : Int) ≤ (i : Int) := by omega
      have i2 : (i : Int) < (n : Int) := by omega
      subst hA
      have hjz : ((j : Int) == 0) = false := by rw [beq_eq_false_iff_ne]; omega
      by_cases hjp : j = p
      · have hst : l.getD i 0 ∉ gone ∧ l.getD i 0 = near := by
          rcases hstop with h | h
          · omega
          · rw [← hjp, ← hi] at h; exact h.2
        have HG := Lib.hid hst.1
        rw [hst.2] at d0 HG
        have HJ := Lib.hid (And.intro hi hjp)
        clear hst hstop hmid hi hjp h0
        go_wp2_with (go_at_call 30; refine (at_any A' m c' _ gone near _ HZ.out.2.1 (by omega)).mono ?_; rintro e w5 ⟨r, rfl, hr, hw5⟩; subst hw5; obtain rfl := (isAt_in hr).2 HG.out; clear hr)
        go_ret
        exact ⟨by first | rfl | simp, rfl⟩
      · obtain ⟨hin, hle⟩ := hmid (by omega) (by omega)
        obtain ⟨y, hy⟩ : ∃ y, y = l.getD i 0 := ⟨_, rfl⟩
        rw [← hy] at d0 hin hle
        have HIN := Lib.hid hin
        have HJ := Lib.hid (And.intro hi hjp)
        clear hstop hmid hi hy hin hjp h0
        go_wp2_with (go_at_call 30; refine (at_any A' m c' _ gone y _ HZ.out.2.1 (by omega)).mono ?_; rintro e w5 ⟨r, rfl, hr, hw5⟩; subst hw5; have hr0 := (isAt_in hr).1 HIN.out; clear hr)
        go_roundw
        case rel => exact ⟨i, by have := HJ.out; omega, by have := HJ.out; omega, rfl, trivial⟩
        case measure => have := HJ.out; simp [intOf]; omega

end Go.Proofs.Ytgopokoghnfgiaa
