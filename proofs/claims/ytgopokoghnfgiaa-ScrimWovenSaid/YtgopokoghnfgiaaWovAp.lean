/-
  The walk over Apply of layer 12, at steps that fit.
-/
import Derived.Test.YtgopokoghnfgiaaWovKe
namespace Go.Proofs.Ytgopokoghnfgiaa
open Go.RowKit
attribute [local go_sem ↓] Go.wp_at_zero Go.wp_at_succ

def insI (l : List Int) (a : Nat) (x : Int) : List Int := l.take a ++ x :: l.drop a
def baseW (l : List Int) (s : Wst) : List Int := if s.1 = 3 then offI s.2.1 l else l
def stepW (l : List Int) (s : Wst) : List Int := insI (baseW l s) s.2.2.toNat s.2.1
def stateTo (l : List Int) (st : List Wst) : Nat → List Int
  | 0 => l
  | k + 1 => stepW (stateTo l st k) (st.getD k wst0)
/-- A step that fits: a new number in, or one that is there moved. -/
structure OkW (l : List Int) (s : Wst) : Prop where
  kind : (s.1 = 2 ∧ s.2.1 ∉ l) ∨ (s.1 = 3 ∧ s.2.1 ∈ l)
  at_ : 0 ≤ s.2.2 ∧ s.2.2.toNat ≤ (baseW l s).length
theorem insI_len (l : List Int) (a : Nat) (x : Int) : (insI l a x).length = l.length + 1 := by
  simp [insI]; omega
theorem stateTo_len (l : List Int) (st : List Wst) (k : Nat) : (stateTo l st k).length ≤ l.length + k := by
  induction k with
  | zero => exact Nat.le_refl _
  | succ k ih =>
    rw [stateTo, stepW, insI_len, baseW]
    split
    · have : (offI (st.getD k wst0).2.1 (stateTo l st k)).length ≤ (stateTo l st k).length := List.length_filter_le _ _
      omega
    · omega

set_option maxRecDepth 100000 in
set_option maxHeartbeats 16000000 in
theorem wapply_any (A B : Option Addr) (n c m c' : Nat) (l : List Int) (st : List Wst) (w : World) (hz : Nums w w.heap.size A n l) (hz' : Ws w w.heap.size B m st) (hn : n ≤ 200) (hm : m ≤ 200) (hw : Wfs l) (hd : l.Nodup) (hst : ∀ k, k < st.length → OkW (stateTo l st k) (st.getD k wst0)) :
    Calls Try.prog 22 #[.slice A n c, .slice B m c'] w fun e w' =>
      ∃ A' c'', e = .returned (.tuple #[.slice A' (stateTo l st m).length c'', .bool true]) ∧ w'.ownsRow w.heap.size 3 1 (.slice A' (stateTo l st m).length c'') (stateTo l st m).length (nums (stateTo l st m)) ∧ Below w.heap.size w w' := by
  have HZ := Lib.hid (And.intro hz (And.intro hz' (And.intro hw (And.intro hd hst))))
  clear hz hz' hw hd hst
  go_enter Try.func22, Try.ntmps22
  go_wp2_with fail
  refine (wonce_any A n c l _ HZ.out.1 (by omega) HZ.out.2.2.1 HZ.out.2.2.2.1).mono ?_
  rintro e w1 ⟨A1, c1, rfl, hown1, hb1⟩
  have H1 := Lib.hid (And.intro hown1 hb1)
  clear hown1 hb1
  go_wp2_with fail
  go_loopw [0, 13] (fun vl vi wx => ∃ k : Nat, k ≤ m ∧ vi = .int .i64 k ∧ wx.ownsRow w.heap.size 3 1 vl (stateTo l st k).length (nums (stateTo l st k)) ∧ Below w.heap.size w wx) (fun _ i _ => m - (intOf i).toNat)
  case atStart => exact ⟨0, Nat.zero_le _, rfl, H1.out.1, H1.out.2⟩
  case round =>
    obtain ⟨k, hk, rfl, hown, hb⟩ := hrel
    obtain ⟨Al, cl, hv⟩ := own_form hown
    obtain ⟨vl, hvl⟩ : ∃ vl, vl = u0 := ⟨_, rfl⟩
    rw [← hvl] at hown hv ⊢
    clear hvl
    subst hv
    by_cases hlt : k < m
    · obtain ⟨b, off, rfl, hbB, d0, d1, d2⟩ := HZ.out.2.1.wst k hlt
      replace d0 := (hb.cell (p := ⟨b, off + k * 3, none⟩) hbB).trans d0
      replace d1 := (hb.cell (p := ⟨b, off + k * 3 + 1, none⟩) hbB).trans d1
      replace d2 := (hb.cell (p := ⟨b, off + k * 3 + 2, none⟩) hbB).trans d2
      have hok := HZ.out.2.2.2.2 k (by have := HZ.out.2.1.1; omega)
      have HS := Lib.hid (show stateTo l st (k + 1) = stepW (stateTo l st k) (st.getD k wst0) from rfl)
      have hsl := stateTo_len l st k
      rw [HZ.out.1.1] at hsl
      obtain ⟨⟨kd, id, at_⟩, hs⟩ : ∃ s, s = st.getD k wst0 := ⟨_, rfl⟩
      obtain ⟨q, hq⟩ : ∃ q, q = stateTo l st k := ⟨_, rfl⟩
      rw [← hs] at d0 d1 d2 HS hok
      rw [← hq] at hown HS hok hsl ⊢
      simp only at d0 d1 d2
      have i1 : (0 : Int) ≤ (k : Int) := by omega
      have i2 : (k : Int) < (m : Int) := by omega
      have HO := Lib.hid (And.intro (hown.alloc (.cells #[.int .i64 kd, .int .i64 id, .int .i64 at_] 82)) (hb.alloc hb.size (.cells #[.int .i64 kd, .int .i64 id, .int .i64 at_] 82)))
      have hX := Blk.new wr 82 #[.int .i64 kd, .int .i64 id, .int .i64 at_]
      have y0 := hX.cell 0
      have y1 := hX.cell 1
      have y2 := hX.cell 2
      have HX := Lib.hid hX
      obtain ⟨a, ha⟩ : ∃ a : Nat, at_ = (a : Int) := ⟨at_.toNat, by have := hok.at_.1; simp only at this; omega⟩
      subst ha
      have hat2 := hok.at_.2
      simp only [Int.toNat_natCast] at hat2
      have hal : (0 : Int) ≤ (a : Int) := by omega
      clear hs hq hown hb hX
      rcases hok.kind with ⟨h2, hnin⟩ | ⟨h3, hin⟩
      · simp only at h2 hnin
        subst h2
        have HB := Lib.hid (show baseW q (2, id, (a : Int)) = q from if_neg (show ¬ ((2 : Int) = 3) by decide))
        have HIN := Lib.hid (show decide (id ∈ q) = false from decide_eq_false hnin)
        have HS2 := Lib.hid (show stateTo l st (k + 1) = q.take a ++ id :: q.drop a by rw [HS.out]; rfl)
        rw [HB.out] at hat2
        have hal2 : (a : Int) ≤ (q.length : Int) := by omega
        have HL2 := Lib.hid (show (stateTo l st (k + 1)).length = q.length + 1 by rw [HS2.out]; exact insI_len q a id)
        clear hok hnin
        go_wp2_with (first
          | (go_at_call 46; refine (icontains_any Al q.length cl _ q id _ (Nums.of_own HO.out.1 rfl) (by omega)).mono ?_; rintro e w2 ⟨rfl, rfl⟩; rw [HIN.out])
          | (go_at_call 45; refine (put_any _ w.heap.size q.length q a id _ HO.out.1 HO.out.2.size rfl (by omega) hat2).mono ?_; rintro e w3 ⟨A3, c3, rfl, hown3, hg3⟩; have HR := Lib.hid (And.intro hown3 (HO.out.2.grown hg3 HO.out.2.size (fun j hj => (HO.out.1.lt j hj).1))); clear hown3 hg3))
        go_roundw
        case rel => exact ⟨k + 1, by omega, by go_num, by rw [HL2.out, HS2.out]; exact HR.out.1, HR.out.2⟩
        case measure => simp [intOf]; omega
      · simp only at h3 hin
        subst h3
        have HB := Lib.hid (show baseW q (3, id, (a : Int)) = offI id q from if_pos rfl)
        have HIN := Lib.hid (show decide (id ∈ q) = true from decide_eq_true hin)
        obtain ⟨q', hq'⟩ : ∃ q', q' = offI id q := ⟨_, rfl⟩
        have hql : q'.length ≤ q.length := by rw [hq']; exact List.length_filter_le _ _
        have HS2 := Lib.hid (show stateTo l st (k + 1) = q'.take a ++ id :: q'.drop a by rw [HS.out, hq']; rfl)
        rw [HB.out, ← hq'] at hat2
        have hal2 : (a : Int) ≤ (q'.length : Int) := by omega
        have HL2 := Lib.hid (show (stateTo l st (k + 1)).length = q'.length + 1 by rw [HS2.out]; exact insI_len q' a id)
        have HQ' := Lib.hid hq'
        clear hok hin hq'
        go_wp2_with (first
          | (go_at_call 46; refine (icontains_any Al q.length cl _ q id _ (Nums.of_own HO.out.1 rfl) (by omega)).mono ?_; rintro e w2 ⟨rfl, rfl⟩; rw [HIN.out])
          | (go_at_call 43; refine (out_any _ w.heap.size q.length q id _ HO.out.1 rfl (by omega)).mono ?_; rintro e w3 ⟨A3, c3, rfl, hown3, hg3⟩; rw [← HQ'.out] at hown3 ⊢; have HX3 := HX.out.grown hg3 (fun e => own_blk_ne HO.out.1 HX.out (by decide) e.symm); have x0 := HX3.cell 0; have x1 := HX3.cell 1; have x2 := HX3.cell 2; have HR := Lib.hid (And.intro hown3 (HO.out.2.grown hg3 HO.out.2.size (fun j hj => (HO.out.1.lt j hj).1))); clear hown3 hg3 HX3)
          | (go_at_call 45; refine (put_any _ w.heap.size q'.length q' a id _ HR.out.1 HR.out.2.size rfl (by omega) hat2).mono ?_; rintro e w4 ⟨A4, c4, rfl, hown4, hg4⟩; have HR2 := Lib.hid (And.intro hown4 (HR.out.2.grown hg4 HR.out.2.size (fun j hj => (HR.out.1.lt j hj).1))); clear hown4 hg4))
        go_roundw
        case rel => exact ⟨k + 1, by omega, by go_num, by rw [HL2.out, HS2.out]; exact HR2.out.1, HR2.out.2⟩
        case measure => simp [intOf]; omega
    · obtain rfl : k = m := by omega
      have hd : decide ((k : Int) < (k : Int)) = false := by simp
      have HR := Lib.hid (And.intro hown hb)
      clear hown hb
      go_wp2_with fail
      exact bodyPost_ret (v := .tuple #[.slice Al (stateTo l st k).length cl, .bool true]) (by simp [results, Try.results22, go_sem]) rfl ⟨Al, cl, rfl, HR.out.1, HR.out.2⟩

end Go.Proofs.Ytgopokoghnfgiaa
