/-
  The walks over Index, Contains, At; over near, stand, once of the statement.
-/
import Derived.Test.YtgopokoghnfgiaaGroupA
import Derived.Test.YtgopokoghnfgiaaOwnB
namespace Go.Proofs.Ytgopokoghnfgiaa
open Go.RowKit
attribute [local go_sem ↓] Go.wp_at_zero Go.wp_at_succ

/-- Where a number stands first, or -1. -/
def IsAt (l : List Int) (x r : Int) : Prop := (r = -1 ∧ x ∉ l) ∨ ∃ k : Nat, r = (k : Nat) ∧ k < l.length ∧ l.getD k 0 = x
theorem IsAt.mem {l : List Int} {x r : Int} (h : IsAt l x r) : 0 ≤ r ↔ x ∈ l := by
  rcases h with ⟨rfl, h⟩ | ⟨k, rfl, h1, h2⟩
  · exact ⟨fun h2 => by omega, fun h2 => absurd h2 h⟩
  · refine ⟨fun _ => ?_, fun _ => by omega⟩
    have e : l.getD k 0 = l[k] := by simp [List.getD, h1]
    rw [← h2, e]; exact List.getElem_mem h1

set_option maxHeartbeats 4000000 in
theorem index_any (A : Option Addr) (n c B : Nat) (l : List Int) (x : Int) (w : World) (hz : Nums w B A n l) (hn : n ≤ 100000) :
    Calls Try.prog 44 #[.slice A n c, .int .i64 x] w fun e w' => ∃ r : Int, e = .returned (.int .i64 r) ∧ IsAt l x r ∧ w' = w := by
  have HZ := Lib.hid hz
  clear hz
  go_enter Try.func44, Try.ntmps44
  go_wp2_with fail
  go_loopw [8] (fun i wx => ∃ k : Nat, k ≤ n ∧ i = .int .i64 k ∧ wx = w ∧ Hid (∀ j, j < k → l.getD j 0 ≠ x)) (fun i _ => n - (intOf i).toNat)
  case atStart => exact ⟨0, Nat.zero_le _, rfl, rfl, fun j hj => by omega⟩
  case round =>
    obtain ⟨k, hk, rfl, hw, hH⟩ := hrel
    subst hw
    by_cases hlt : k < n
    · obtain ⟨b, off, rfl, hbB, d0⟩ := HZ.out.2 k hlt
      obtain ⟨t, ht⟩ : ∃ t, t = l.getD k 0 := ⟨_, rfl⟩
      rw [← ht] at d0
      have HT := Lib.hid ht
      have i1 : (0 : Int) ≤ (k : Int) := by omega
      have i2 : (k : Int) < (n : Int) := by omega
      clear ht
      by_cases h : t = x
      · have HM := Lib.hid (show IsAt l x k from .inr ⟨k, rfl, by have := HZ.out.1; omega, by rw [← HT.out]; exact h⟩)
        subst h
        go_wp2
        go_ret
        exact ⟨k, rfl, HM.out, rfl⟩
      · have h2 : (t == x) = false := by simpa using h
        have h3 : (x == t) = false := by simpa using fun e => h (Eq.symm e)
        have HN := Lib.hid h
        clear h
        go_wp2
        go_roundw
        case rel => exact ⟨k + 1, by omega, by go_num, trivial, fun j hj => by
          by_cases e : j = k
          · rw [e, ← HT.out]; exact HN.out
          · exact hH.out j (by omega)⟩
        case measure => simp [intOf]; omega
    · obtain rfl : k = n := by omega
      have HN := Lib.hid (show x ∉ l from fun h => by
        obtain ⟨i, h1, h2⟩ := List.mem_iff_getElem.1 h
        exact hH.out i (by have := HZ.out.1; omega) (by simp [List.getD, h1, h2]))
      go_wp2
      go_ret
      exact ⟨-1, by first | rfl | simp, .inl ⟨rfl, HN.out⟩, rfl⟩

set_option maxHeartbeats 4000000 in
theorem at_any (A : Option Addr) (n c B : Nat) (l : List Int) (x : Int) (w : World) (hz : Nums w B A n l) (hn : n ≤ 100000) :
    Calls Try.prog 30 #[.slice A n c, .int .i64 x] w fun e w' => ∃ r : Int, e = .returned (.int .i64 r) ∧ IsAt l x r ∧ w' = w := by
  have HZ := Lib.hid hz
  clear hz
  go_enter Try.func30, Try.ntmps30
  go_wp2_with fail
  go_loopw [9] (fun i wx => ∃ k : Nat, k ≤ n ∧ i = .int .i64 k ∧ wx = w ∧ Hid (∀ j, j < k → l.getD j 0 ≠ x)) (fun i _ => n - (intOf i).toNat)
  case atStart => exact ⟨0, Nat.zero_le _, rfl, rfl, fun j hj => by omega⟩
  case round =>
    obtain ⟨k, hk, rfl, hw, hH⟩ := hrel
    subst hw
    by_cases hlt : k < n
    · obtain ⟨b, off, rfl, hbB, d0⟩ := HZ.out.2 k hlt
      obtain ⟨t, ht⟩ : ∃ t, t = l.getD k 0 := ⟨_, rfl⟩
      rw [← ht] at d0
      have HT := Lib.hid ht
      have i1 : (0 : Int) ≤ (k : Int) := by omega
      have i2 : (k : Int) < (n : Int) := by omega
      clear ht
      by_cases h : t = x
      · have HM := Lib.hid (show IsAt l x k from .inr ⟨k, rfl, by have := HZ.out.1; omega, by rw [← HT.out]; exact h⟩)
        subst h
        go_wp2
        go_ret
        exact ⟨k, rfl, HM.out, rfl⟩
      · have h2 : (t == x) = false := by simpa using h
        have h3 : (x == t) = false := by simpa using fun e => h (Eq.symm e)
        have HN := Lib.hid h
        clear h
        go_wp2
        go_roundw
        case rel => exact ⟨k + 1, by omega, by go_num, trivial, fun j hj => by
          by_cases e : j = k
          · rw [e, ← HT.out]; exact HN.out
          · exact hH.out j (by omega)⟩
        case measure => simp [intOf]; omega
    · obtain rfl : k = n := by omega
      have HN := Lib.hid (show x ∉ l from fun h => by
        obtain ⟨i, h1, h2⟩ := List.mem_iff_getElem.1 h
        exact hH.out i (by have := HZ.out.1; omega) (by simp [List.getD, h1, h2]))
      go_wp2
      go_ret
      exact ⟨-1, by first | rfl | simp, .inl ⟨rfl, HN.out⟩, rfl⟩

set_option maxHeartbeats 4000000 in
theorem contains_any (A : Option Addr) (n c B : Nat) (l : List Int) (x : Int) (w : World) (hz : Nums w B A n l) (hn : n ≤ 100000) :
    Calls Try.prog 46 #[.slice A n c, .int .i64 x] w fun e w' => ∃ q, e = .returned (.bool q) ∧ (q = true ↔ x ∈ l) ∧ w' = w := by
  have HZ := Lib.hid hz
  clear hz
  go_enter Try.func46, Try.ntmps46
  go_wp2_with fail
  refine (index_any A n c B l x _ HZ.out hn).mono ?_
  rintro e w1 ⟨r, rfl, hr, rfl⟩
  have HR := Lib.hid hr.mem
  clear hr
  by_cases h : 0 ≤ r
  · go_wp2
    go_ret
    exact ⟨true, by first | rfl | simp [h], ⟨fun _ => HR.out.1 h, fun _ => rfl⟩, rfl⟩
  · have h2 : decide (0 ≤ r) = false := by simpa using h
    have HN := Lib.hid h
    clear h
    go_wp2
    go_ret
    exact ⟨false, by first | rfl | simp [h2], ⟨fun h => (by cases h), fun h => by have := HR.out.2 h; have := HN.out; omega⟩, rfl⟩

/-! ### Members -/
abbrev Mb := Int × ByteArray × Bool
def mb0 : Mb := (0, ByteArray.empty, false)
def cvM (m : Mb) : List Value := [.int .i64 m.1, .string m.2.1, .bool m.2.2]
theorem cvM_len (m : Mb) : (cvM m).length = 3 := rfl
abbrev Ms (w : World) (B : Nat) (A : Option Addr) (n : Nat) (l : List Mb) : Prop := Rd cvM mb0 3 w B A n l
theorem Rd.mb {w : World} {B : Nat} {A : Option Addr} {n : Nat} {l : List Mb} (h : Ms w B A n l) (k : Nat) (hk : k < n) : ∃ b off, A = some ⟨b, off, none⟩ ∧ b < B ∧ w.cell? ⟨b, off + k * 3, none⟩ = some (.int .i64 (l.getD k mb0).1) ∧
    w.cell? ⟨b, off + k * 3 + 1, none⟩ = some (.string (l.getD k mb0).2.1) ∧ w.cell? ⟨b, off + k * 3 + 2, none⟩ = some (.bool (l.getD k mb0).2.2) := by
  obtain ⟨b, off, hA, hB, h0⟩ := h.2 k hk
  exact ⟨b, off, hA, hB, h0 0 (by omega), h0 1 (by omega), h0 2 (by omega)⟩

/-- The nearest one ahead that is among some. -/
def nearTo (ids alive : List Int) : Nat → Int
  | 0 => -1
  | k + 1 => if alive.contains (ids.getD k 0) = true then ids.getD k 0 else nearTo ids alive k
def ids (l : List Mb) : List Int := l.map (·.1)
theorem ids_at (l : List Mb) (k : Nat) (h : k < l.length) : (ids l).getD k 0 = (l.getD k mb0).1 := by simp [ids, List.getD, h]
def IsNear (l alive : List Int) (id r : Int) : Prop := (∃ k, k < l.length ∧ l.getD k 0 = id ∧ (∀ j, j < k → l.getD j 0 ≠ id) ∧ r = nearTo l alive k) ∨ ((∀ j, j < l.length → l.getD j 0 ≠ id) ∧ r = nearTo l alive l.length)

set_option maxRecDepth 100000 in
set_option maxHeartbeats 8000000 in
theorem near_any (A B : Option Addr) (n c m c' : Nat) (l : List Mb) (alive : List Int) (id : Int) (w : World) (hz : Ms w w.heap.size A n l) (hz' : Nums w w.heap.size B m alive) (hn : n ≤ 1000) (hm : m ≤ 1000) :
    Calls Try.prog 51 #[.slice A n c, .slice B m c', .int .i64 id] w fun e w' => ∃ r : Int, e = .returned (.int .i64 r) ∧ IsNear (ids l) alive id r ∧ Below w.heap.size w w' := by
  have HZ := Lib.hid (And.intro hz hz')
  clear hz hz'
  go_enter Try.func51, Try.ntmps51
  go_wp2_with fail
  go_loopw [7, 12] (fun vo i wx => ∃ k : Nat, k ≤ n ∧ i = .int .i64 k ∧ vo = .int .i64 (nearTo (ids l) alive k) ∧ Below w.heap.size w wx ∧ Hid (∀ j, j < k → (ids l).getD j 0 ≠ id)) (fun _ i _ => n - (intOf i).toNat)
  case atStart => exact ⟨0, Nat.zero_le _, rfl, rfl, Below.refl _ _, fun j hj => by omega⟩
  case round =>
    obtain ⟨k, hk, rfl, rfl, hb, hH⟩ := hrel
    have HLN := Lib.hid (show (ids l).length = n by rw [ids, List.length_map]; exact HZ.out.1.1)
    have HNT := Lib.hid (show nearTo (ids l) alive (k + 1) = if alive.contains ((ids l).getD k 0) = true then (ids l).getD k 0 else nearTo (ids l) alive k from rfl)
    obtain ⟨o, ho⟩ : ∃ o, o = nearTo (ids l) alive k := ⟨_, rfl⟩
    rw [← ho] at HNT ⊢
    have HOO := Lib.hid ho
    clear ho
    by_cases hlt : k < n
    · obtain ⟨b, off, rfl, hbB, d0, d1, d2⟩ := HZ.out.1.mb k hlt
      replace d0 := (hb.cell (p := ⟨b, off + k * 3, none⟩) hbB).trans d0
      replace d1 := (hb.cell (p := ⟨b, off + k * 3 + 1, none⟩) hbB).trans d1
      replace d2 := (hb.cell (p := ⟨b, off + k * 3 + 2, none⟩) hbB).trans d2
      have hidk := ids_at l k (by have := HZ.out.1.1; omega)
      obtain ⟨⟨a, s, gh⟩, hm0⟩ : ∃ z, z = l.getD k mb0 := ⟨_, rfl⟩
      rw [← hm0] at d0 d1 d2 hidk
      simp only at d0 d1 d2 hidk
      rw [hidk] at HNT
      have HID := Lib.hid hidk
      have i1 : (0 : Int) ≤ (k : Int) := by omega
      have i2 : (k : Int) < (n : Int) := by omega
      have hbX := Blk.new wr 59 #[.int .i64 a, .string s, .bool gh]
      have hb1 := hb.alloc hb.size (.cells #[.int .i64 a, .string s, .bool gh] 59)
      clear hm0 hidk hb
      go_upto_region 5 with fail
      obtain ⟨wo, hwo⟩ : ∃ wo, wo = wr.alloc (.cells #[.int .i64 a, .string s, .bool gh] 59) := ⟨_, rfl⟩
      obtain ⟨X, hX⟩ : ∃ X, X = wr.heap.size := ⟨_, rfl⟩
      rw [← hwo] at hbX hb1 ⊢
      rw [← hX] at hbX ⊢
      have y0 : wo.cell? ⟨X, 0, none⟩ = some (.int .i64 a) := hbX.cell 0
      have HB := Lib.hid hb1
      clear hwo hX hbX hb1 d0 d1 d2
      by_cases h : a = id
      · have HN := Lib.hid (show IsNear (ids l) alive id o from .inl ⟨k, by have := HLN.out; omega, by rw [HID.out]; exact h, hH.out, HOO.out⟩)
        subst h
        go_wp2
        go_ret
        exact ⟨o, rfl, HN.out, HB.out⟩
      · have h2 : (a == id) = false := by simpa using h
        have HN := Lib.hid h
        clear h
        go_wp2_with fail
        refine (at_any B m c' w.heap.size alive a _ (HZ.out.2.below HB.out) (by omega)).mono ?_
        rintro e w3 ⟨r, rfl, hr, rfl⟩
        have HR := Lib.hid hr.mem
        clear hr
        by_cases hr0 : 0 ≤ r
        · have HNT2 := Lib.hid (show nearTo (ids l) alive (k + 1) = a by rw [HNT.out, if_pos (by simpa using HR.out.1 hr0)])
          go_wp2
          go_roundw
          case rel => exact ⟨k + 1, by omega, by go_num, by rw [HNT2.out], HB.out, fun j hj => by
            by_cases e : j = k
            · rw [e, HID.out]; exact HN.out
            · exact hH.out j (by omega)⟩
          case measure => simp [intOf]; omega
        · have HNT2 := Lib.hid (show nearTo (ids l) alive (k + 1) = o by rw [HNT.out, if_neg (by simpa using fun h => hr0 (HR.out.2 h))])
          have hr1 : decide (0 ≤ r) = false := by simpa using hr0
          clear hr0
          go_wp2
          go_roundw
          case rel => exact ⟨k + 1, by omega, by go_num, by rw [HNT2.out], HB.out, fun j hj => by
            by_cases e : j = k
            · rw [e, HID.out]; exact HN.out
            · exact hH.out j (by omega)⟩
          case measure => simp [intOf]; omega
    · obtain rfl : k = n := by omega
      have HN := Lib.hid (show IsNear (ids l) alive id o from .inr ⟨fun j hj => hH.out j (by have := HLN.out; omega), by rw [HLN.out]; exact HOO.out⟩)
      have HB := Lib.hid hb
      clear hb
      go_wp2
      go_ret
      exact ⟨o, rfl, HN.out, HB.out⟩

end Go.Proofs.Ytgopokoghnfgiaa
