/-
  Maps of strings to places and ghosts; the walk over best, of layer 25.
-/
import Derived.Test.YtgopokoghnfgiaaGroupC
namespace Go.Proofs.Ytgopokoghnfgiaa
open Go.RowKit Go.Maps Go.WideMaps
attribute [local go_sem ↓] Go.wp_at_zero Go.wp_at_succ

theorem MapKit.Own.delete {κ V : Type} [DecidableEq κ] {K : MapKit κ V} {w : World} {M n : Nat} {f : κ → V} (h : K.Own w M n f) (x : κ) (hx : K.okk x) (ty : TypeId) :
    ∃ w', (Builtin.delete_ #[K.t, K.k] ty #[.map (some M), K.kv x]).run Try.prog w = .ok (.tuple #[]) w' ∧ K.Own w' M n (setF f x K.z) ∧ w.grownBy w' (some M) := by
  obtain ⟨D, ⟨es, clock, hb, F, hs, rfl⟩, h2⟩ := h
  obtain ⟨es', hrun, F', hs', hdel, _⟩ := Maps.fit_drop (ty := ty) K.law K.und hb F (K.hkey x hx)
  refine ⟨_, hrun, ⟨_, ⟨es', clock, ChangeMaps.heap_setBlock_same hb _, F', Nat.le_trans hs' hs, rfl⟩, fun y hy => ?_⟩, ⟨rfl, rfl, rfl, by simp [ChangeMaps.setBlock], fun i _ hi => ChangeMaps.heap_setBlock_other hb _ (fun e => hi (by rw [e]))⟩⟩
  rw [hdel, ← DataW.del_eq]
  by_cases e : y = x
  · subst e
    rw [setF_same, atKey_del_same]
    exact ⟨K.okz, rfl⟩
  · rw [setF_other _ _ e, atKey_del_other (fun e2 => e (K.inj y x hy hx e2))]
    exact h2 y hy

theorem data_inj {s s' : ByteArray} (h : s.data.toList = s'.data.toList) : s = s' := by
  obtain ⟨⟨x⟩⟩ := s
  obtain ⟨⟨y⟩⟩ := s'
  simp at h
  rw [h]
def foundL : List Value → Option (DataW Unit × List MemPlace)
  | [.int .i64 a, .bool b] => some (.agg [.lit (.int .i64 a), .lit (.bool b)], [])
  | _ => none
def foundR (v : Value) : Option (DataW Unit × List MemPlace) := match v with
  | .agg xs => foundL xs.toList
  | _ => none
theorem foundR_inv {v : Value} {n : Nat} {g : Bool} {ps : List MemPlace} (h : foundR v = some (.agg [.lit (.int .i64 (n : Nat)), .lit (.bool g)], ps)) : v = .agg #[.int .i64 (n : Nat), .bool g] := by
  unfold foundR at h
  split at h
  · rename_i xs
    unfold foundL at h
    split at h
    · rename_i a b hx
      simp only [Option.some.injEq, Prod.mk.injEq, DataW.agg.injEq, List.cons.injEq, DataW.lit.injEq, Lit.int.injEq, Lit.bool.injEq, true_and, and_true] at h
      obtain ⟨⟨h1, h2⟩, _⟩ := h
      obtain ⟨l⟩ := xs
      simp only at hx
      rw [hx, h1, h2]
    · cases h
  · cases h
noncomputable def foundKit : MapKit ByteArray (Nat × Bool) where
  k := 9
  e := 93
  t := 90
  und := Try.underlying90
  law := string_keyed Try.underlying9
  kv s := .string s
  kl s := .string s.data.toList
  okk s := s.size ≤ 20
  hkey s h := keyOf_string_mk Try.underlying9 (by unfold maxLen; omega)
  inj x y _ _ h := data_inj (by injection h)
  R := foundR
  code p := .agg [.lit (.int .i64 (p.1 : Nat)), .lit (.bool p.2)]
  vv p := .agg #[.int .i64 (p.1 : Nat), .bool p.2]
  okv _ := True
  hR v _ := rfl
  hinv v u ps _ h := foundR_inv h
  z := (0, false)
  okz := trivial
  zero w := by kernel_rfl

/-! ### Kids of a group -/
abbrev Gk := ByteArray × Bool
def gk0 : Gk := (ByteArray.empty, false)
def cvG (g : Gk) : List Value := [.string g.1, .bool g.2]
theorem cvG_len (g : Gk) : (cvG g).length = 2 := rfl
abbrev Gs (w : World) (B : Nat) (A : Option Addr) (n : Nat) (l : List Gk) : Prop := Rd cvG gk0 2 w B A n l
theorem Rd.gk {w : World} {B : Nat} {A : Option Addr} {n : Nat} {l : List Gk} (h : Gs w B A n l) (k : Nat) (hk : k < n) : ∃ b off, A = some ⟨b, off, none⟩ ∧ b < B ∧ w.cell? ⟨b, off + k * 2, none⟩ = some (.string (l.getD k gk0).1) ∧
    w.cell? ⟨b, off + k * 2 + 1, none⟩ = some (.bool (l.getD k gk0).2) := by
  obtain ⟨b, off, hA, hB, h0⟩ := h.2 k hk
  exact ⟨b, off, hA, hB, h0 0 (by omega), h0 1 (by omega)⟩
/-- Keys that stand once, and are short. -/
structure KD (ks : List Gk) : Prop where
  apart : ∀ i, i < ks.length → ∀ j, j < i → (ks.getD j gk0).1 ≠ (ks.getD i gk0).1
  short : ∀ i, (ks.getD i gk0).1.size ≤ 20
def bestTo (ks : List Gk) : Nat → ByteArray → Nat × Bool
  | 0 => fun _ => (0, false)
  | k + 1 => setF (bestTo ks k) (ks.getD k gk0).1 (k + 1, (ks.getD k gk0).2)
theorem bestTo_new {ks : List Gk} (h : KD ks) : ∀ k i, k ≤ i → i < ks.length → bestTo ks k (ks.getD i gk0).1 = (0, false) := by
  intro k
  induction k with
  | zero => intro i _ _; rfl
  | succ k ih =>
    intro i h1 h2
    rw [bestTo, setF_other _ _ (fun e => h.apart i h2 k (by omega) e.symm)]
    exact ih i (by omega) h2
theorem bestTo_old {ks : List Gk} (h : KD ks) : ∀ k i, i < k → k ≤ ks.length → bestTo ks k (ks.getD i gk0).1 = (i + 1, (ks.getD i gk0).2) := by
  intro k
  induction k with
  | zero => intro i h1; omega
  | succ k ih =>
    intro i h1 h2
    rw [bestTo]
    by_cases e : i = k
    · subst e; rw [setF_same]
    · rw [setF_other _ _ (h.apart k (by omega) i (by omega))]
      exact ih i (by omega) (by omega)
theorem bestTo_none {ks : List Gk} (s : ByteArray) : ∀ k, (∀ i, i < k → (ks.getD i gk0).1 ≠ s) → bestTo ks k s = (0, false) := by
  intro k
  induction k with
  | zero => intro _; rfl
  | succ k ih =>
    intro h
    rw [bestTo, setF_other _ _ (fun e => h k (by omega) e.symm)]
    exact ih fun i hi => h i (by omega)

set_option maxRecDepth 100000 in
set_option maxHeartbeats 8000000 in
theorem best_any (A : Option Addr) (n c : Nat) (ks : List Gk) (w : World) (hz : Gs w w.heap.size A n ks) (hn : n ≤ 900) (hk : KD ks) :
    Calls Try.prog 49 #[.slice A n c] w fun e w' => ∃ M, e = .returned (.map (some M)) ∧ w.heap.size ≤ M ∧ foundKit.Own w' M n (bestTo ks n) ∧ Below w.heap.size w w' := by
  have HZ := Lib.hid (And.intro hz hk)
  clear hz hk
  have hmm := @run_makeMap Try.prog
  go_enter Try.func49, Try.ntmps49
  go_wp2_with fail
  have HM := Lib.hid (And.intro (foundKit.made w) ((Below.refl w.heap.size w).alloc (Nat.le_refl _) (.map #[] 0)))
  obtain ⟨M, hM⟩ : ∃ M, M = w.heap.size := ⟨_, rfl⟩
  have HMe := Lib.hid hM
  rw [← hM] at HM ⊢
  clear hM hmm
  go_loopw [10] (fun i wx => ∃ k : Nat, k ≤ n ∧ i = .int .i64 k ∧ foundKit.Own wx M k (bestTo ks k) ∧ Below M w wx) (fun i _ => n - (intOf i).toNat)
  case atStart => exact ⟨0, Nat.zero_le _, rfl, HM.out.1, HM.out.2⟩
  case round =>
    obtain ⟨k, hk, rfl, hO, hb⟩ := hrel
    by_cases hlt : k < n
    · obtain ⟨b, off, rfl, hbB, d0, d1⟩ := HZ.out.1.gk k hlt
      rw [← HMe.out] at hbB
      replace d0 := (hb.cell (p := ⟨b, off + k * 2, none⟩) hbB).trans d0
      replace d1 := (hb.cell (p := ⟨b, off + k * 2 + 1, none⟩) hbB).trans d1
      have hsz := HZ.out.2.short k
      have hnew := bestTo_new HZ.out.2 k k (Nat.le_refl _) (by have := HZ.out.1.1; omega)
      have HBT := Lib.hid (show bestTo ks (k + 1) = setF (bestTo ks k) (ks.getD k gk0).1 (k + 1, (ks.getD k gk0).2) from rfl)
      obtain ⟨⟨s, gh⟩, hst⟩ : ∃ p, p = ks.getD k gk0 := ⟨_, rfl⟩
      rw [← hst] at d0 d1 hsz hnew HBT
      simp only at d0 d1 hsz hnew HBT
      have i1 : (0 : Int) ≤ (k : Int) := by omega
      have i2 : (k : Int) < (n : Int) := by omega
      have hbX := Blk.new wr 52 #[.string s, .bool gh]
      have hO1 := hO.keep ((Below.refl wr.heap.size wr).alloc (Nat.le_refl _) (.cells #[.string s, .bool gh] 52))
      have hb1 := hb.alloc (Nat.le_of_lt (Nat.lt_of_lt_of_le hO.lt (Nat.le_refl _))) (.cells #[.string s, .bool gh] 52)
      clear hst hO hb HM
      go_upto_region 5 with fail
      obtain ⟨wo, hwo⟩ : ∃ wo, wo = wr.alloc (.cells #[.string s, .bool gh] 52) := ⟨_, rfl⟩
      obtain ⟨X, hX⟩ : ∃ X, X = wr.heap.size := ⟨_, rfl⟩
      rw [← hwo] at hbX hO1 hb1 ⊢
      rw [← hX] at hbX ⊢
      clear hwo hX d0 d1
      have y0 : wo.cell? ⟨X, 0, none⟩ = some (.string s) := hbX.cell 0
      have hlk := hO1.look s hsz
      rw [hnew] at hlk
      simp only [foundKit] at hlk
      have hlk2 : (Instr.lookup 90 (.map (some M)) (.string s) false).run Try.prog wo = .ok (.agg #[.int .i64 0, .bool false]) wo := hlk
      have hbX1 := hbX.alloc (.cells #[.int .i64 0, .bool false] 93)
      have hO2 := hO1.keep ((Below.refl wo.heap.size wo).alloc (Nat.le_refl _) (.cells #[.int .i64 0, .bool false] 93))
      have hb2 := hb1.alloc (Nat.le_of_lt hO1.lt) (.cells #[.int .i64 0, .bool false] 93)
      have hbF := Blk.new wo 93 #[.int .i64 0, .bool false]
      clear hlk hO1 hb1 hbX
      go_upto_region 6 with fail
      obtain ⟨wv, hwv⟩ : ∃ wv, wv = wo.alloc (.cells #[.int .i64 0, .bool false] 93) := ⟨_, rfl⟩
      obtain ⟨F, hF⟩ : ∃ F, F = wo.heap.size := ⟨_, rfl⟩
      rw [← hwv] at hbX1 hO2 hb2 hbF ⊢
      rw [← hF] at hbF ⊢
      clear hwv hF y0 hlk2
      have y0 : wv.cell? ⟨X, 0, none⟩ = some (.string s) := hbX1.cell 0
      have y1 : wv.cell? ⟨X, 1, none⟩ = some (.bool gh) := hbX1.cell 1
      have z0 : wv.cell? ⟨F, 0, none⟩ = some (.int .i64 0) := hbF.cell 0
      obtain ⟨w', hup, hO', hg⟩ := hO2.update s hsz (by unfold maxLen; omega) (k + 1, gh) trivial
      rw [← HBT.out] at hO'
      simp only [foundKit] at hup
      have hup2 : (Instr.mapUpdate 90 (.map (some M)) (.string s) (.agg #[.int .i64 ((k : Int) + 1), .bool gh])).run Try.prog wv = .ok () w' := hup
      have HO := Lib.hid (And.intro hO' (hb2.grown hg (by have := hO2.lt; omega) (fun j hj => by cases hj; exact Nat.le_refl _)))
      clear hup hO2 hb2 hbF hbX1 hO' hg hnew
      go_wp2
      go_roundw
      case rel => exact ⟨k + 1, by omega, by go_num, HO.out.1, HO.out.2⟩
      case measure => simp [intOf]; omega
    · obtain rfl : k = n := by omega
      have HO := Lib.hid (And.intro hO hb)
      clear hO hb HM
      go_wp2
      go_ret
      exact ⟨M, rfl, by rw [HMe.out]; omega, HO.out.1, by rw [← HMe.out]; exact HO.out.2⟩

end Go.Proofs.Ytgopokoghnfgiaa
