/-
  The walk over named, and over the document's ahead.
-/
import Derived.Test.YtgopokoghnfgiaaMatchPlain
namespace Go.Proofs.Ytgopokoghnfgiaa
open Go.RowKit
attribute [local go_sem ↓] Go.wp_at_zero Go.wp_at_succ

theorem nm_info : (Try.prog.info? 71).map (fun i => (i.zero, i.size, i.bytes)) = some (some (.agg #[.int .i64 0, .string ByteArray.empty, .int .i64 0]), 3, 32) := by kernel_rfl
def flatN (l : List Nm) : List Value := l.flatMap fun x => [.int .i64 x.1.2, .string x.1.1, .int .i64 (x.2 : Nat)]
theorem flatN_snoc (l : List Nm) (x : Nm) : flatN (l ++ [x]) = flatN l ++ [.int .i64 x.1.2, .string x.1.1, .int .i64 (x.2 : Nat)] := by simp [flatN]
theorem flatN_at (l : List Nm) (k : Nat) (h : k < l.length) : (flatN l)[k * 3]? = some (.int .i64 (l.getD k nm0).1.2) ∧ (flatN l)[k * 3 + 1]? = some (.string (l.getD k nm0).1.1) ∧ (flatN l)[k * 3 + 2]? = some (.int .i64 ((l.getD k nm0).2 : Nat)) := by
  induction l generalizing k with
  | nil => simp at h
  | cons a l ih =>
    cases k with
    | zero => exact ⟨rfl, rfl, rfl⟩
    | succ k =>
      have := ih k (by simpa using h)
      have e1 : (k + 1) * 3 = k * 3 + 1 + 1 + 1 := by omega
      simp only [flatN, List.flatMap_cons, List.cons_append, List.nil_append] at this ⊢
      rw [e1]
      simpa using this
/-- The cells of one name in a row that the call itself made. -/
theorem own_names {w : World} {base g n c : Nat} {l : List Nm} (h : w.ownsRow base 71 3 (.slice (some ⟨g, 0, none⟩) n c) n (flatN l)) (k : Nat) (hk : k < l.length) :
    w.cell? ⟨g, k * 3, none⟩ = some (.int .i64 (l.getD k nm0).1.2) ∧ w.cell? ⟨g, k * 3 + 1, none⟩ = some (.string (l.getD k nm0).1.1) ∧ w.cell? ⟨g, k * 3 + 2, none⟩ = some (.int .i64 ((l.getD k nm0).2 : Nat)) := by
  obtain ⟨f0, f1, f2⟩ := flatN_at l k hk
  have c0 := h.cells (g := g) rfl _ _ f0
  have c1 := h.cells (g := g) rfl _ _ f1
  have c2 := h.cells (g := g) rfl _ _ f2
  rw [Addr.add_lit] at c0 c1 c2
  rw [Nat.zero_add] at c0 c1 c2
  exact ⟨c0, c1, c2⟩

theorem blk_new3 (w : World) (o o' : Obj) (t : TypeId) (cs : Array Value) : Blk (((w.alloc o).alloc o').alloc (.cells cs t)) (w.heap.size + 1 + 1) t cs := by
  have h := Blk.new ((w.alloc o).alloc o') t cs
  rw [World.size_alloc, World.size_alloc] at h
  exact h
/-- What named leaves. -/
def NamedPost (w : World) (n : Nat) (ks : List Kid) (e : Ending) (w' : World) : Prop :=
  ∃ A c, e = .returned (.slice A n c) ∧ w'.ownsRow w.heap.size 71 3 (.slice A n c) n (flatN (namesTo ks n)) ∧ Below w.heap.size w w'

set_option maxRecDepth 100000 in
set_option maxHeartbeats 8000000 in
theorem named_any (A : Option Addr) (n c : Nat) (ks : List Kid) (w : World) (hz : Kids w w.heap.size A n ks) (hn : n ≤ 1000) :
    Calls Try.prog 35 #[.slice A n c] w (NamedPost w n ks) := by
  obtain ⟨tr, hi, hz0, hz1, hz2⟩ := info_parts nm_info
  have HZ := Lib.hid hz
  clear hz
  go_enter Try.func35, Try.ntmps35
  go_upto_region 3 with (first
    | (at_make; refine wpList_make_own _ rfl _ _ 68 rfl w.heap.size 71 tr _ 3 Try.underlying68 hi hz0 hz1 _ _ _ n rfl rfl rfl (by rw [hz2]; omega) (by unfold maxLen; omega) (Nat.le_refl _) ?_; intro w1 hown hg1))
  obtain ⟨v, hv⟩ : ∃ v, v = Value.slice (some ⟨w.heap.size, 0, none⟩) 0 n := ⟨_, rfl⟩
  have H1 := Lib.hid (And.intro hown (below_of_only hg1 (Nat.le_refl _)))
  rw [← hv] at H1 ⊢
  clear hown hg1 hv
  go_wp2_with fail
  go_loopw [3, 4, 13] (fun va vn i wr => ∃ k : Nat, k ≤ n ∧ i = .int .i64 k ∧ vn = .int .i64 (aheadN ks k : Nat) ∧ wr.ownsRow w.heap.size 71 3 va k (flatN (namesTo ks k)) ∧ Below w.heap.size w wr) (fun _ _ i _ => n - (intOf i).toNat)
  case atStart => exact ⟨0, Nat.zero_le _, rfl, rfl, H1.out.1, H1.out.2⟩
  case round =>
    obtain ⟨k, hk, rfl, rfl, hown, hb⟩ := hrel
    obtain ⟨va, hva⟩ : ∃ va, va = u3 := ⟨_, rfl⟩
    rw [← hva] at hown ⊢
    clear hva
    obtain ⟨a, ha⟩ : ∃ a, a = aheadN ks k := ⟨_, rfl⟩
    have hak : a ≤ k := by rw [ha]; exact aheadN_le ks k
    rw [← ha]
    by_cases hlt : k < n
    · obtain ⟨b, off, rfl, hbB, e0, e1⟩ := HZ.out.2 k hlt
      replace e0 := (hb.cell (p := ⟨b, off + k * 2, none⟩) hbB).trans e0
      replace e1 := (hb.cell (p := ⟨b, off + k * 2 + 1, none⟩) hbB).trans e1
      have HN := Lib.hid (namesTo_succ ks k)
      have HA := Lib.hid (aheadN_succ ks k (by have := HZ.out.1; omega))
      obtain ⟨⟨s, t⟩, hst⟩ : ∃ p, p = ks.getD k kid0 := ⟨_, rfl⟩
      rw [nm, ← ha, ← hst] at HN
      rw [← ha, ← hst] at HA
      rw [← hst] at e0 e1
      simp only [k0, k1] at e0 e1
      have i1 : (0 : Int) ≤ (k : Int) := by omega
      have i2 : (k : Int) < (n : Int) := by omega
      have HO := Lib.hid (And.intro hown hb)
      clear hst hown hb ha
      cases he : isEmp (s, t)
      · have HN1 := Lib.hid (show namesTo ks (k + 1) = namesTo ks k ++ [((s, t), 0)] by rw [HN.out, nmAt, he]; rfl)
        have HA1 := Lib.hid (show aheadN ks (k + 1) = a by rw [HA.out, he]; rfl)
        have hs : s.toList.isEmpty = false := he
        have hs2 : ¬ s.toList = [] := by simpa using hs
        clear he HN HA
        go_wp2_with (first
          | (at_builtin; refine wpList_append_lies _ rfl _ _ _ rfl w.heap.size 71 tr _ 3 32 Try.underlying68 hi hz0 hz1 hz2 rfl (by decide) _ k (flatN (namesTo ks k)) rfl (((HO.out.1.alloc _).alloc _).alloc _) _ 1 1 [.int .i64 t, .string s, .int .i64 0] rfl rfl (World.news_of_block (blk_new3 _ _ _ _ _)) (by intro u hu; simp at hu; rcases hu with rfl | rfl | rfl <;> rfl) (by omega) (by unfold maxLen; omega) (by omega) (by have := HO.out.2.size; simp; omega) _ rfl ?_; intro g2 cap2 w2 hown2 hg2 hat2 hlt2; have HW := Lib.hid (And.intro hown2 ((((HO.out.2.alloc HO.out.2.size _).alloc (by have := HO.out.2.size; simp; omega) _).alloc (by have := HO.out.2.size; simp; omega) _).grown hg2 (by have := HO.out.2.size; simp; omega) (fun j hj => (HO.out.1.lt j hj).1))); clear hown2 hg2 hat2 hlt2))
        go_roundw
        case rel => exact ⟨k + 1, by omega, by go_num, by rw [HA1.out], by rw [HN1.out, flatN_snoc]; exact HW.out.1, HW.out.2⟩
        case measure => simp [intOf]; omega
      · have HN1 := Lib.hid (show namesTo ks (k + 1) = namesTo ks k ++ [((s, t), a)] by rw [HN.out, nmAt, he]; rfl)
        have HA1 := Lib.hid (show aheadN ks (k + 1) = a + 1 by rw [HA.out, he]; rfl)
        have hs : s.toList.isEmpty = true := he
        have hs2 : s.toList = [] := by simpa using hs
        clear he HN HA
        go_wp2_with (first
          | (at_builtin; refine wpList_append_lies _ rfl _ _ _ rfl w.heap.size 71 tr _ 3 32 Try.underlying68 hi hz0 hz1 hz2 rfl (by decide) _ k (flatN (namesTo ks k)) rfl (((HO.out.1.alloc _).alloc _).alloc _) _ 1 1 [.int .i64 t, .string s, .int .i64 (a : Nat)] rfl rfl (World.news_of_block (blk_new3 _ _ _ _ _)) (by intro u hu; simp at hu; rcases hu with rfl | rfl | rfl <;> rfl) (by omega) (by unfold maxLen; omega) (by omega) (by have := HO.out.2.size; simp; omega) _ rfl ?_; intro g2 cap2 w2 hown2 hg2 hat2 hlt2; have HW := Lib.hid (And.intro hown2 ((((HO.out.2.alloc HO.out.2.size _).alloc (by have := HO.out.2.size; simp; omega) _).alloc (by have := HO.out.2.size; simp; omega) _).grown hg2 (by have := HO.out.2.size; simp; omega) (fun j hj => (HO.out.1.lt j hj).1))); clear hown2 hg2 hat2 hlt2))
        go_roundw
        case rel => exact ⟨k + 1, by omega, by go_num, by rw [HA1.out]; go_num, by rw [HN1.out, flatN_snoc]; exact HW.out.1, HW.out.2⟩
        case measure => simp [intOf]; omega
    · obtain rfl : k = n := by omega
      obtain ⟨A1, c1, hv⟩ := own_form hown
      subst hv
      have HO := Lib.hid (And.intro hown hb)
      clear hown hb ha
      go_wp2
      go_ret
      exact ⟨A1, c1, rfl, HO.out.1, HO.out.2⟩

end Go.Proofs.Ytgopokoghnfgiaa
