/-
  The walk over Ghosts, of layer 25.
-/
import Derived.Test.YtgopokoghnfgiaaGroupE
namespace Go.Proofs.Ytgopokoghnfgiaa
open Go.RowKit
attribute [local go_sem ↓] Go.wp_at_zero Go.wp_at_succ

def ghTo (ks : List Gk) (L T : List Int) : Nat → List Int
  | 0 => []
  | k + 1 => if (L.contains (k : Int) || ((ks.getD k gk0).2 && !(T.contains (k : Int)))) = true then ghTo ks L T k ++ [(k : Int)] else ghTo ks L T k
theorem ghTo_len (ks : List Gk) (L T : List Int) (k : Nat) : (ghTo ks L T k).length ≤ k := by
  induction k with
  | zero => exact Nat.zero_le _
  | succ k ih =>
    rw [ghTo]
    split
    · simp; exact ih
    · omega

set_option maxRecDepth 100000 in
set_option maxHeartbeats 16000000 in
theorem ghosts_any (A A1 A2 : Option Addr) (n c n1 c1 n2 c2 : Nat) (ks : List Gk) (L T : List Int) (w : World) (hz : Gs w w.heap.size A n ks) (hL : Nums w w.heap.size A1 n1 L) (hT : Nums w w.heap.size A2 n2 T) (hn : n ≤ 900) (hn1 : n1 ≤ 1000) (hn2 : n2 ≤ 1000) :
    Calls Try.prog 31 #[.agg #[.slice A1 n1 c1, .slice A2 n2 c2], .slice A n c] w (RowPost w (ghTo ks L T n)) := by
  obtain ⟨tr, hi, hz0, hz1, hz2⟩ := info_parts winfo
  have HZ := Lib.hid (And.intro hz (And.intro hL hT))
  clear hz hL hT
  go_enter Try.func31, Try.ntmps31
  go_upto_region 3 with fail
  have hP := Blk.new w 49 #[.slice A1 n1 c1, .slice A2 n2 c2]
  have hb0 := (Below.refl w.heap.size w).alloc (Nat.le_refl _) (.cells #[.slice A1 n1 c1, .slice A2 n2 c2] 49)
  obtain ⟨w0, hw0⟩ : ∃ w0, w0 = w.alloc (.cells #[.slice A1 n1 c1, .slice A2 n2 c2] 49) := ⟨_, rfl⟩
  obtain ⟨P, hPe⟩ : ∃ P, P = w.heap.size := ⟨_, rfl⟩
  rw [← hw0] at hP hb0 ⊢
  rw [← hPe] at hP ⊢
  have H0 := Lib.hid (And.intro hP hb0)
  clear hP hb0 hw0 hPe
  go_loopw [5, 10] (fun vo i wx => ∃ k : Nat, k ≤ n ∧ i = .int .i64 k ∧ wx.ownsRow w0.heap.size 3 1 vo (ghTo ks L T k).length (nums (ghTo ks L T k)) ∧ Below w0.heap.size w0 wx) (fun _ i _ => n - (intOf i).toNat)
  case atStart => exact ⟨0, Nat.zero_le _, rfl, World.ownsRow_nil _ _ _ _, Below.refl _ _⟩
  case round =>
    obtain ⟨k, hk, rfl, hown, hb⟩ := hrel
    obtain ⟨vo, hvo⟩ : ∃ vo, vo = u5 := ⟨_, rfl⟩
    rw [← hvo] at hown ⊢
    clear hvo
    by_cases hlt : k < n
    · obtain ⟨b, off, rfl, hbB, d0, d1⟩ := HZ.out.1.gk k hlt
      have hbw := H0.out.2.trans (hb.mono H0.out.2.size)
      replace d0 := (hbw.cell (p := ⟨b, off + k * 2, none⟩) hbB).trans d0
      replace d1 := (hbw.cell (p := ⟨b, off + k * 2 + 1, none⟩) hbB).trans d1
      have HGT := Lib.hid (show ghTo ks L T (k + 1) = if (L.contains (k : Int) || ((ks.getD k gk0).2 && !(T.contains (k : Int)))) = true then ghTo ks L T k ++ [(k : Int)] else ghTo ks L T k from rfl)
      obtain ⟨⟨s, gh⟩, hst⟩ : ∃ p, p = ks.getD k gk0 := ⟨_, rfl⟩
      obtain ⟨o, ho⟩ : ∃ o, o = ghTo ks L T k := ⟨_, rfl⟩
      have hol : o.length ≤ k := by rw [ho]; exact ghTo_len ks L T k
      rw [← hst] at d0 d1 HGT
      rw [← ho] at HGT hown
      simp only at d0 d1 HGT
      have i1 : (0 : Int) ≤ (k : Int) := by omega
      have i2 : (k : Int) < (n : Int) := by omega
      have hbX := Blk.new wr 52 #[.string s, .bool gh]
      have hP1 := (H0.out.1.below hb H0.out.1.lt).alloc (.cells #[.string s, .bool gh] 52)
      have hown1 := hown.alloc (.cells #[.string s, .bool gh] 52)
      have hb1 := hb.alloc hb.size (.cells #[.string s, .bool gh] 52)
      clear hst ho hown hb hbw
      go_upto_region 5 with fail
      obtain ⟨wo, hwo⟩ : ∃ wo, wo = wr.alloc (.cells #[.string s, .bool gh] 52) := ⟨_, rfl⟩
      obtain ⟨X, hX⟩ : ∃ X, X = wr.heap.size := ⟨_, rfl⟩
      rw [← hwo] at hbX hP1 hown1 hb1 ⊢
      rw [← hX] at hbX ⊢
      have x1 : wo.cell? ⟨X, 1, none⟩ = some (.bool gh) := hbX.cell 1
      have p0 : wo.cell? ⟨P, 0, none⟩ = some (.slice A1 n1 c1) := hP1.cell 0
      have p1 : wo.cell? ⟨P, 1, none⟩ = some (.slice A2 n2 c2) := hP1.cell 1
      have HO := Lib.hid (And.intro hown1 hb1)
      have HBW := Lib.hid (H0.out.2.trans (hb1.mono H0.out.2.size))
      clear hwo hX hbX hP1 hown1 hb1 d0 d1
      obtain ⟨q, hq⟩ : ∃ q, q = (L.contains (k : Int) || (gh && !(T.contains (k : Int)))) := ⟨_, rfl⟩
      have HQ := Lib.hid hq
      rw [← hq] at HGT
      clear hq
      go_cut [29] (fun s wx => s = .bool q ∧ wx = wo)
      case first =>
        go_wp2_with fail
        refine (contains_any A1 n1 c1 w.heap.size L (k : Nat) _ (HZ.out.2.1.below HBW.out) (by omega)).mono ?_
        rintro e w4 ⟨q1, rfl, hq1, rfl⟩
        obtain rfl : q1 = L.contains (k : Int) := by rw [Bool.eq_iff_iff, hq1]; simp
        obtain ⟨q1, hq1e⟩ : ∃ q1, q1 = L.contains (k : Int) := ⟨_, rfl⟩
        rw [← hq1e]
        have HQ1 := Lib.hid hq1e
        clear hq1e hq1
        cases q1
        · cases gh
          · have HQ2 := Lib.hid (show q = false by rw [HQ.out, ← HQ1.out]; rfl)
            go_wp2
            go_meet
            exact ⟨by rw [HQ2.out], rfl⟩
          · go_wp2_with fail
            refine (contains_any A2 n2 c2 w.heap.size T (k : Nat) _ (HZ.out.2.2.below HBW.out) (by omega)).mono ?_
            rintro e w4 ⟨q2, rfl, hq2, rfl⟩
            have HQ2 := Lib.hid (show q = !q2 by
              have : q2 = T.contains (k : Int) := by rw [Bool.eq_iff_iff, hq2]; simp
              rw [HQ.out, ← HQ1.out, this]; rfl)
            clear hq2
            go_wp2
            go_meet
            exact ⟨by rw [HQ2.out], rfl⟩
        · have HQ2 := Lib.hid (show q = true by rw [HQ.out, ← HQ1.out]; rfl)
          go_wp2
          go_meet
          exact ⟨by rw [HQ2.out], rfl⟩
      case rest =>
        obtain ⟨rfl, hw⟩ := hcut
        subst hw
        clear x1 p0 p1
        cases q
        · have HGT2 := Lib.hid (show ghTo ks L T (k + 1) = o by rw [HGT.out]; rfl)
          go_wp2
          go_roundw
          case rel => exact ⟨k + 1, by omega, by go_num, by rw [HGT2.out]; exact HO.out.1, HO.out.2⟩
          case measure => simp [intOf]; omega
        · have HGT2 := Lib.hid (show ghTo ks L T (k + 1) = o ++ [(k : Int)] by rw [HGT.out]; rfl)
          go_wp2_with (first
            | (at_builtin; refine wpList_append_lies _ rfl _ _ _ rfl w0.heap.size 3 tr _ 1 8 Try.underlying30 hi hz0 hz1 hz2 rfl (by decide) _ o.length (nums o) rfl (HO.out.1.alloc _) _ 1 1 [.int .i64 (k : Nat)] rfl rfl (World.news_of_block (heap_alloc_new _ _)) (by intro u hu; simp at hu; subst hu; rfl) (by omega) (by unfold maxLen; omega) (by omega) (by have := HO.out.2.size; simp; omega) _ rfl ?_; intro g2 cap2 w4 hown2 hg2 hat2 hlt2; have HX := Lib.hid (And.intro hown2 ((HO.out.2.alloc HO.out.2.size _).grown hg2 (HO.out.2.alloc HO.out.2.size _).size (fun j hj => (HO.out.1.lt j hj).1))); clear hown2 hg2 hat2 hlt2))
          go_roundw
          case rel => exact ⟨k + 1, by omega, by go_num, by rw [HGT2.out, nums_snoc, List.length_append]; exact HX.out.1, HX.out.2⟩
          case measure => simp [intOf]; omega
    · obtain rfl : k = n := by omega
      obtain ⟨A5, c5, hv⟩ := own_form hown
      subst hv
      have HF := Lib.hid (And.intro (own_base hown H0.out.2.size) (H0.out.2.trans (hb.mono H0.out.2.size)))
      clear hown hb
      go_wp2
      go_ret
      exact ⟨A5, c5, rfl, HF.out.1, HF.out.2⟩

end Go.Proofs.Ytgopokoghnfgiaa
