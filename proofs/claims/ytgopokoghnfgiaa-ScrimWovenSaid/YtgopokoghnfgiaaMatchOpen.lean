/-
  Arguments that are opened: lists of kids; the walk over the fixed facts of layer 11; what Both leaves.
-/
import Derived.Test.YtgopokoghnfgiaaMatchGone
import Derived.Test.YtgopokoghnfgiaaNumbers
namespace Go.Proofs.Ytgopokoghnfgiaa
open Go.Joins Go.ChangeShapes Go.WideShapes Go.RowKit Go.Deep
attribute [local go_sem ↓] Go.wp_at_zero Go.wp_at_succ

theorem cut20_le (s : ByteArray) : (cut20 s).size ≤ 20 := by
  unfold cut20
  split
  · rw [ByteArray.size_extract]; omega
  · omega
/-- Kinds are numbers of 64 bits. -/
def OkI (l : List Kid) : Prop := ∀ p ∈ l, (Lit.int .i64 p.2).wf = true
theorem okK_cut {l : List Kid} (h : OkI l) (m : Nat) (hm : m ≤ 1000) : OkK (cutK m l) := by
  refine ⟨by rw [cutK_len]; omega, fun p hp => ?_⟩
  obtain ⟨p', h1, rfl⟩ := List.mem_map.1 hp
  exact ⟨cut20_le _, h p' (List.mem_of_mem_take h1)⟩

theorem own_kids {w wx : World} {ks : List Kid} {A B : Option Addr} {a b : Nat} (h : Ow w wx (.slice A ks.length a) (.slice B ks.length b) ks.length (flatK ks)) : Kids wx wx.heap.size A ks.length ks ∧ Kids wx wx.heap.size B ks.length ks :=
  ⟨Kids.of_own h.a rfl, Kids.of_own h.b rfl⟩

section
variable {H : Type} {enc : TypeId × Value → H} {W : World}
theorem kids_arg2 {v : Value} {x : DataW H × List MemPlace} {fuel : Nat}
    (hf : DataW.trod enc Try.prog W 0 (fun _ => true) true fuel 22 [v] = some x) : ∃ A n c ks, v = .slice A n c ∧ n ≤ c ∧ c ≤ maxLen ∧ Kids W W.heap.size A n ks ∧ OkI ks := by
  rcases open_slice_pairs Try.underlying22 Try.underlying29 (by kernel_rfl) rfl rfl (by kernel_rfl) (by kernel_rfl) hf with ⟨hcs, _⟩ | ⟨a, len, cap, m, k, V0, V1, D0, D1, P0, P1, hcs, _, hl, hm, hmm, _, hel⟩
  · simp at hcs
    subst hcs
    exact ⟨_, _, _, [], rfl, Nat.le_refl _, Nat.zero_le _, Kids.nil _ _ _, fun p hp => by cases hp⟩
  · simp at hcs
    subst hcs
    have hmc : m = cap := by simpa using hmm
    subst hmc
    refine ⟨_, _, _, (List.range len).map fun i => (strOf (V1 i), intOf (V0 i)), rfl, hl, hm, ⟨by simp, fun i hi => ?_⟩, fun p hp => ?_⟩
    · obtain ⟨h0, h1, t0, t1⟩ := hel i (by omega)
      obtain ⟨a1, e1⟩ := int_cell t0
      obtain ⟨s0, e0, _, _⟩ := DataW.trod_string Try.underlying9 t1
      simp at e0
      have e : ((List.range len).map fun i => (strOf (V1 i), intOf (V0 i))).getD i kid0 = (s0, a1) := by
        simp [List.getD, hi, e0, e1, intOf, strOf]
      obtain ⟨b, off, spot⟩ := a
      have hspot : spot = none := by simpa [Addr.add] using World.cell?_spot (hel 0 (by omega)).1
      subst hspot
      rw [Addr.add_lit] at h0 h1
      rw [e]
      refine ⟨b, off, rfl, World.block_lt_of_cell? W _ h0, ?_, ?_⟩
      · rw [h0]; first | exact congrArg some e0 | exact congrArg some e1
      · rw [show off + i * 2 + 1 = off + (i * 2 + 1) by omega, h1]; first | exact congrArg some e1 | exact congrArg some e0
    · obtain ⟨i, hi, rfl⟩ := List.mem_map.1 hp
      obtain ⟨_, _, t0, _⟩ := hel i (by have := List.mem_range.1 hi; omega)
      obtain ⟨a1, e1, _, hw⟩ := DataW.trod_int Try.underlying3 t0
      simp at e1
      simp only [e1, intOf]
      exact hw
end
set_option maxRecDepth 100000 in
/-- A list of kids that came in. -/
theorem kids_open {H : Type} {enc : TypeId × Value → H} {W : World} {base : Nat} {v : Value} {d : DataW H} {p : List MemPlace} (hv : Value.okWide Try.prog W .any base 22 v)
    (h : DataW.Trod enc Try.prog W 0 (fun _ => true) true 22 v d p) : ∃ A n c ks, v = .slice A n c ∧ n ≤ c ∧ c ≤ maxLen ∧ Kids W W.heap.size A n ks ∧ OkI ks := by
  obtain ⟨a0, len, cap, rfl⟩ := okWide_slice Try.underlying22 hv
  obtain ⟨fuel, hf⟩ := h
  exact kids_arg2 hf

set_option maxRecDepth 100000 in
/-- Three kids in a block that was made just now. -/
theorem kids_lit3 (w : World) (t : TypeId) (a b c : Kid) : Kids (w.alloc (.cells #[.int .i64 a.2, .string a.1, .int .i64 b.2, .string b.1, .int .i64 c.2, .string c.1] t)) (w.heap.size + 1) (some ⟨w.heap.size, 0, none⟩) 3 [a, b, c] := by
  refine ⟨rfl, fun k hk => ?_⟩
  have h := Blk.new w t #[.int .i64 a.2, .string a.1, .int .i64 b.2, .string b.1, .int .i64 c.2, .string c.1]
  refine ⟨w.heap.size, 0, rfl, by omega, ?_⟩
  match k, hk with
  | 0, _ => exact ⟨h.cell 0, h.cell 1⟩
  | 1, _ => exact ⟨h.cell 2, h.cell 3⟩
  | 2, _ => exact ⟨h.cell 4, h.cell 5⟩
theorem nums_lit3 (w : World) (a b c : Int) : Nums (w.alloc (.cells #[.int .i64 a, .int .i64 b, .int .i64 c] 3)) (w.heap.size + 1) (some ⟨w.heap.size, 0, none⟩) 3 [a, b, c] := by
  refine ⟨rfl, fun k hk => ?_⟩
  have h := Blk.new w 3 #[.int .i64 a, .int .i64 b, .int .i64 c]
  refine ⟨w.heap.size, 0, rfl, by omega, ?_⟩
  match k, hk with
  | 0, _ => exact h.cell 0
  | 1, _ => exact h.cell 1
  | 2, _ => exact h.cell 2
abbrev strA : ByteArray := { data := #[97] }
abbrev strB : ByteArray := { data := #[98] }
abbrev strC : ByteArray := { data := #[99] }
abbrev strE : ByteArray := { data := #[] }
def old3 : List Kid := [(strA, 2), (strE, 1), (strB, 2)]
def new3 : List Kid := [(strE, 1), (strB, 2), (strC, 2)]
theorem aw3 : pairS old3 new3 = [1, 2, -1] := by kernel_rfl
theorem old3_ok : OkK old3 := ⟨by decide, by decide⟩
theorem new3_ok : OkK new3 := ⟨by decide, by decide⟩

set_option maxRecDepth 100000 in
set_option maxHeartbeats 8000000 in
theorem awake_any (w : World) : Calls Try.prog 9 #[] w fun e w' => e = .returned (.bool true) ∧ Below w.heap.size w w' := by
  go_enter Try.func9, Try.ntmps9
  go_upto_region 2 with fail
  generalize hw1 : w.alloc _ = w1
  have hk1 : Kids w1 w1.heap.size (some ⟨w.heap.size, 0, none⟩) 3 old3 := by rw [← hw1]; exact (kids_lit3 w 38 (strA, 2) (strE, 1) (strB, 2)).more (by simp)
  have hb : Below w.heap.size w w1 := by rw [← hw1]; exact (Below.refl w.heap.size w).alloc (Nat.le_refl _) _
  have H1 := Lib.hid (And.intro hk1 hb)
  obtain ⟨g, hg⟩ : ∃ g, g = w.heap.size := ⟨_, rfl⟩
  have HG := Lib.hid hg
  rw [← hg] at H1 ⊢
  clear hk1 hb hw1 hg
  go_wp2_with fail
  generalize hw2 : w1.alloc _ = w2
  have hk2 : Kids w2 w2.heap.size (some ⟨w1.heap.size, 0, none⟩) 3 new3 := by rw [← hw2]; exact (kids_lit3 w1 38 (strE, 1) (strB, 2) (strC, 2)).more (by simp)
  have hb2 : Below w1.heap.size w1 w2 := by rw [← hw2]; exact (Below.refl w1.heap.size w1).alloc (Nat.le_refl _) _
  have hk1 := H1.out.1.keep hb2
  have HB2 := Lib.hid (H1.out.2.trans (hb2.mono (by rw [HG.out]; rw [HG.out] at H1; exact H1.out.2.size)))
  clear hw2 hb2
  refine (pair_any (some ⟨g, 0, none⟩) (some ⟨w1.heap.size, 0, none⟩) 3 3 3 3 old3 new3 w2 hk1 hk2 (by omega) (by omega) old3_ok new3_ok).mono ?_
  rintro e w3 ⟨A, c, rfl, ho, hb⟩
  have hcap := own_cap ho
  have hb2 := HB2.out.trans (hb.mono (by rw [HG.out]; rw [HG.out] at HB2; exact HB2.out.size))
  have H2 := Lib.hid (And.intro (Nums.of_own ho (pairS_len _ _)) hb2)
  rw [aw3] at H2
  clear ho hb hb2 hk1 hk2
  go_wp2_with fail
  refine (numbers_any _ _ _ _ _ _ [1, 2, -1] [1, 2, -1] _ _ _ (H2.out.1.below ((Below.refl _ _).alloc (Nat.le_refl _) _)) ((nums_lit3 w3 1 2 (-1))) (by unfold maxLen; omega) (by unfold maxLen; omega)).mono ?_
  rintro e w4 ⟨rfl, n3, rfl⟩
  go_wp2
  go_ret
  exact ⟨rfl, by rw [← HG.out]; exact below_drewN (H2.out.2.alloc (by rw [HG.out]; rw [HG.out] at H2; exact H2.out.2.size) _) _⟩

end Go.Proofs.Ytgopokoghnfgiaa
