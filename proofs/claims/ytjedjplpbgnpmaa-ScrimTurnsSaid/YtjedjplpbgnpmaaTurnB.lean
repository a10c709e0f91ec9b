/-
  The walks over Add, Clean, kept, Turn, Equal, Same of layer 3.
-/
import Derived.Test.YtjedjplpbgnpmaaTurnL
namespace Go.Proofs.Ytjedjplpbgnpmaa
open Go.RowKit
attribute [local go_sem ↓] Go.wp_at_zero Go.wp_at_succ

open Classical in
noncomputable def addS (l : List ByteArray) (c : ByteArray) : List ByteArray := if c ∈ l then l else l ++ [c]
theorem addS_len (l : List ByteArray) (c : ByteArray) : (addS l c).length ≤ l.length + 1 := by unfold addS; split <;> simp

set_option maxRecDepth 100000 in
set_option maxHeartbeats 8000000 in
theorem add_any (v : Value) (base n : Nat) (l : List ByteArray) (s : ByteArray) (w : World) (h : w.ownsRow base 9 1 v n (l.flatMap cvS)) (hln : l.length = n) (hn : n ≤ 500) :
    Calls Try.prog 22 #[v, .string s] w (StrPost w (addS l s)) := by
  obtain ⟨tr, hi, hz0, hz1, hz2⟩ := info_parts str_info
  have HZ := Lib.hid (And.intro h hln)
  clear h hln
  go_enter Try.func22, Try.ntmps22
  go_wp2_with fail
  refine (clone_any v base n l _ HZ.out.1 HZ.out.2 (by omega)).mono ?_
  rintro e w1 ⟨A, c, rfl, hown, hb⟩
  rw [HZ.out.2] at hown ⊢
  have HO := Lib.hid (And.intro hown hb)
  have HR := Lib.hid (Rd.of_own (cv := cvS) (d := ByteArray.empty) (fun _ => rfl) hown HZ.out.2)
  clear hown hb
  go_wp2_with fail
  refine (has_any A n c _ l s _ HR.out (by omega)).mono ?_
  rintro e w2 ⟨q, rfl, hq, rfl⟩
  have HQ := Lib.hid hq
  clear hq
  cases q
  · have HA := Lib.hid (show addS l s = l ++ [s] from if_neg (fun h => by have := HQ.out.2 h; cases this))
    have HL := Lib.hid (show (l ++ [s]).length = n + 1 by rw [List.length_append, HZ.out.2]; rfl)
    go_wp2_with (first
      | (at_builtin; refine wpList_append_lies _ rfl _ _ _ rfl w.heap.size 9 tr _ 1 16 Try.underlying22 hi hz0 hz1 hz2 rfl (by decide) _ n (l.flatMap cvS) rfl (HO.out.1.alloc _) _ 1 1 [.string s] rfl rfl (World.news_of_block (heap_alloc_new _ _)) (by intro u hu; simp at hu; subst hu; rfl) (by omega) (by unfold maxLen; omega) (by omega) (by have := HO.out.2.size; simp; omega) _ rfl ?_; intro g2 cap2 w4 hown2 hg2 hat2 hlt2; have HX := Lib.hid (And.intro hown2 ((HO.out.2.alloc HO.out.2.size _).grown hg2 (HO.out.2.alloc HO.out.2.size _).size (fun j hj => (HO.out.1.lt j hj).1))); clear hown2 hg2 hat2 hlt2))
    go_ret
    rw [HA.out]
    exact ⟨some ⟨g2, 0, none⟩, cap2, by rw [HL.out]; rfl, by rw [HL.out, cvS_snoc]; exact HX.out.1, HX.out.2⟩
  · have HA := Lib.hid (show addS l s = l from if_pos (HQ.out.1 rfl))
    go_wp2
    go_ret
    rw [HA.out]
    exact ⟨A, c, by rw [HZ.out.2]; rfl, by rw [HZ.out.2]; exact HO.out.1, HO.out.2⟩

noncomputable def cleanTo (l : List ByteArray) : Nat → List ByteArray
  | 0 => []
  | k + 1 => addS (cleanTo l k) (l.getD k ByteArray.empty)
noncomputable def cleanS (l : List ByteArray) : List ByteArray := cleanTo l l.length
theorem cleanTo_len (l : List ByteArray) (k : Nat) : (cleanTo l k).length ≤ k := by
  induction k with
  | zero => exact Nat.le_refl _
  | succ k ih => have := addS_len (cleanTo l k) (l.getD k ByteArray.empty); rw [cleanTo]; omega

set_option maxRecDepth 100000 in
set_option maxHeartbeats 8000000 in
theorem clean_any (A : Option Addr) (n c : Nat) (l : List ByteArray) (w : World) (hz : Ss w w.heap.size A n l) (hn : n ≤ 100) :
    Calls Try.prog 12 #[.slice A n c] w (StrPost w (cleanS l)) := by
  have HZ := Lib.hid hz
  clear hz
  go_enter Try.func12, Try.ntmps12
  go_wp2_with fail
  go_loopw [3, 8] (fun vo i wx => ∃ k : Nat, k ≤ n ∧ i = .int .i64 k ∧ wx.ownsRow w.heap.size 9 1 vo (cleanTo l k).length ((cleanTo l k).flatMap cvS) ∧ Below w.heap.size w wx) (fun _ i _ => n - (intOf i).toNat)
  case atStart => exact ⟨0, Nat.zero_le _, rfl, World.ownsRow_nil _ _ _ _, Below.refl _ _⟩
  case round =>
    obtain ⟨k, hk, rfl, hown, hb⟩ := hrel
    obtain ⟨vo, hvo⟩ : ∃ vo, vo = u3 := ⟨_, rfl⟩
    rw [← hvo] at hown ⊢
    clear hvo
    by_cases hlt : k < n
    · obtain ⟨b, off, rfl, hbB, d0⟩ := HZ.out.str k hlt
      replace d0 := (hb.cell (p := ⟨b, off + k, none⟩) hbB).trans d0
      have HC := Lib.hid (show cleanTo l (k + 1) = addS (cleanTo l k) (l.getD k ByteArray.empty) from rfl)
      obtain ⟨s, hs⟩ : ∃ s, s = l.getD k ByteArray.empty := ⟨_, rfl⟩
      obtain ⟨o, ho⟩ : ∃ o, o = cleanTo l k := ⟨_, rfl⟩
      have hol : o.length ≤ k := by rw [ho]; exact cleanTo_len l k
      rw [← hs] at d0 HC
      rw [← ho] at hown HC
      have i1 : (0 : Int) ≤ (k : Int) := by omega
      have i2 : (k : Int) < (n : Int) := by omega
      have HO := Lib.hid (And.intro hown hb)
      clear hs ho hown hb
      go_wp2_with fail
      refine (add_any vo _ o.length o s _ HO.out.1 rfl (by omega)).mono ?_
      rintro e w4 ⟨A2, c2, rfl, hown2, hb2⟩
      have HX := Lib.hid (And.intro (own_base hown2 HO.out.2.size) (HO.out.2.trans (hb2.mono HO.out.2.size)))
      clear hown2 hb2
      go_wp2_with fail
      go_roundw
      case rel => exact ⟨k + 1, by omega, by go_num, by rw [HC.out]; exact HX.out.1, HX.out.2⟩
      case measure => simp [intOf]; omega
    · obtain rfl : k = n := by omega
      obtain ⟨A5, c5, hv⟩ := own_form hown
      subst hv
      have HE := Lib.hid (show cleanS l = cleanTo l k by rw [cleanS, HZ.out.1])
      have HO := Lib.hid (And.intro hown hb)
      clear hown hb
      go_wp2
      go_ret
      rw [HE.out]
      exact ⟨A5, c5, rfl, HO.out.1, HO.out.2⟩

/-- How many of the first of b stand in a, one behind the other. -/
def keptTo (a b : List ByteArray) : Nat → Nat
  | 0 => 0
  | k + 1 => if keptTo a b k < b.length ∧ b.getD (keptTo a b k) ByteArray.empty = a.getD k ByteArray.empty then keptTo a b k + 1 else keptTo a b k
def keptS (a b : List ByteArray) : Nat := keptTo a b a.length
theorem keptTo_le (a b : List ByteArray) (k : Nat) : keptTo a b k ≤ b.length ∧ keptTo a b k ≤ k := by
  induction k with
  | zero => exact ⟨Nat.zero_le _, Nat.le_refl _⟩
  | succ k ih => rw [keptTo]; split <;> omega

set_option maxRecDepth 100000 in
set_option maxHeartbeats 8000000 in
theorem kept_any (A B : Option Addr) (n c m c' : Nat) (a b : List ByteArray) (w : World) (hz : Ss w w.heap.size A n a) (hz' : Ss w w.heap.size B m b) (hn : n ≤ 1000) (hm : m ≤ 1000) :
    Calls Try.prog 15 #[.slice A n c, .slice B m c'] w fun e w' => e = .returned (.int .i64 (keptS a b)) ∧ w' = w := by
  have HZ := Lib.hid (And.intro hz hz')
  clear hz hz'
  go_enter Try.func15, Try.ntmps15
  go_wp2_with fail
  go_loopw [5, 10] (fun vo i wx => ∃ k : Nat, k ≤ n ∧ i = .int .i64 k ∧ vo = .int .i64 (keptTo a b k : Nat) ∧ wx = w) (fun _ i _ => n - (intOf i).toNat)
  case atStart => exact ⟨0, Nat.zero_le _, rfl, rfl, rfl⟩
  case round =>
    obtain ⟨k, hk, rfl, rfl, hw⟩ := hrel
    subst hw
    have hle := keptTo_le a b k
    have HK := Lib.hid (show keptTo a b (k + 1) = if keptTo a b k < b.length ∧ b.getD (keptTo a b k) ByteArray.empty = a.getD k ByteArray.empty then keptTo a b k + 1 else keptTo a b k from rfl)
    have HE := Lib.hid (show keptS a b = keptTo a b n by rw [keptS, HZ.out.1.1])
    obtain ⟨q, hq⟩ : ∃ q, q = keptTo a b k := ⟨_, rfl⟩
    rw [← hq] at hle HK ⊢
    have HQE := Lib.hid hq
    have hbl := HZ.out.2.1
    rw [hbl] at hle HK
    clear hq hbl
    by_cases hlt : k < n
    · obtain ⟨b1, off1, rfl, hbB, d0⟩ := HZ.out.1.str k hlt
      obtain ⟨s, hs⟩ : ∃ s, s = a.getD k ByteArray.empty := ⟨_, rfl⟩
      rw [← hs] at d0 HK
      have i1 : (0 : Int) ≤ (k : Int) := by omega
      have i2 : (k : Int) < (n : Int) := by omega
      have i3 : (0 : Int) ≤ (q : Int) := by omega
      clear hs
      by_cases hqm : q < m
      · obtain ⟨b2, off2, rfl, hbB2, d1⟩ := HZ.out.2.str q hqm
        obtain ⟨t, ht⟩ : ∃ t, t = b.getD q ByteArray.empty := ⟨_, rfl⟩
        rw [← ht] at d1 HK
        have i4 : (q : Int) < (m : Int) := by omega
        clear ht
        by_cases h : t.toList = s.toList
        · have h2 := toList_inj h
          have HN := Lib.hid (show keptTo a b (k + 1) = q + 1 by rw [HK.out, if_pos ⟨hqm, h2⟩])
          subst h2
          clear h hle
          go_wp2
          go_roundw
          case rel => exact ⟨k + 1, by omega, by go_num, by rw [HN.out]; go_num, trivial⟩
          case measure => simp [intOf]; omega
        · have h2 : (t.toList == s.toList) = false := by simpa using h
          have HN := Lib.hid (show keptTo a b (k + 1) = q by rw [HK.out, if_neg (fun e => h (by rw [e.2]))])
          clear h hle
          go_wp2
          go_roundw
          case rel => exact ⟨k + 1, by omega, by go_num, by rw [HN.out], trivial⟩
          case measure => simp [intOf]; omega
      · have i4 : decide ((q : Int) < (m : Int)) = false := by simp; omega
        have HN := Lib.hid (show keptTo a b (k + 1) = q by rw [HK.out, if_neg (fun e => hqm e.1)])
        clear hle
        go_wp2
        go_roundw
        case rel => exact ⟨k + 1, by omega, by go_num, by rw [HN.out], trivial⟩
        case measure => simp [intOf]; omega
    · obtain rfl : k = n := by omega
      have HF := Lib.hid (show keptS a b = q by rw [HE.out, HQE.out])
      clear hle
      go_wp2
      go_ret
      exact ⟨by rw [HF.out]; rfl, rfl⟩

end Go.Proofs.Ytjedjplpbgnpmaa
