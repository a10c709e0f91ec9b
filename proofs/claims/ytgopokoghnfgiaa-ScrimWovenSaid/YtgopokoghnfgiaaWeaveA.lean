/-
  The walks over places and once, of layer 12.
-/
import Derived.Test.YtgopokoghnfgiaaMapKit
import Derived.Test.YtgopokoghnfgiaaLists
import Derived.Deep.AppendLies
import Derived.WalkSpells
import Derived.Deep.QuietTactic
import Derived.BigQuiet
import Derived.Deep.DrawnRows
import Derived.Deep.DeepCutAuto
namespace Go.Proofs.Ytgopokoghnfgiaa
open Go.RowKit
attribute [local go_sem ↓] Go.wp_at_zero Go.wp_at_succ

theorem Nums.keep {w w' : World} {A : Option Addr} {n : Nat} {l : List Int} (h : Nums w w.heap.size A n l) (hb : Below w.heap.size w w') : Nums w' w'.heap.size A n l := (h.below hb).more hb.size
/-- The first place of a number among the first k, from 1 on. -/
def placeTo (l : List Int) : Nat → Int → Nat
  | 0, _ => 0
  | k + 1, x => if placeTo l k x = 0 ∧ l.getD k 0 = x then k + 1 else placeTo l k x
def placeF (l : List Int) : Int → Nat := placeTo l l.length
def Wfs (l : List Int) : Prop := ∀ x ∈ l, (Lit.int .i64 x).wf = true
theorem Wfs.at {l : List Int} (h : Wfs l) (i : Nat) : (Lit.int .i64 (l.getD i 0)).wf = true := by
  by_cases hi : i < l.length
  · have e : l.getD i 0 = l[i] := by simp [List.getD, hi]
    rw [e]; exact h _ (List.getElem_mem hi)
  · have e : l.getD i 0 = 0 := by simp [List.getD, Nat.not_lt.1 hi]
    rw [e]; decide
theorem placeTo_le (l : List Int) (k : Nat) (x : Int) : placeTo l k x ≤ k := by
  induction k with
  | zero => exact Nat.le_refl _
  | succ k ih =>
    rw [placeTo]
    split <;> omega
theorem placeTo_step (l : List Int) (k : Nat) (h : placeTo l k (l.getD k 0) = 0) : placeTo l (k + 1) = setF (placeTo l k) (l.getD k 0) (k + 1) := by
  funext y
  rw [placeTo, setF]
  by_cases e : y = l.getD k 0
  · subst e; rw [if_pos ⟨h, rfl⟩, if_pos rfl]
  · rw [if_neg (fun h2 => e h2.2.symm), if_neg e]
theorem placeTo_stay (l : List Int) (k : Nat) (h : ¬ placeTo l k (l.getD k 0) = 0) : placeTo l (k + 1) = placeTo l k := by
  funext y
  rw [placeTo]
  by_cases e : l.getD k 0 = y
  · subst e; rw [if_neg (fun h2 => h h2.1)]
  · rw [if_neg (fun h2 => e h2.2)]

/-- What places leaves. -/
def PlacesPost (w : World) (l : List Int) (e : Ending) (w' : World) : Prop :=
  ∃ M, e = .returned (.map (some M)) ∧ w.heap.size ≤ M ∧ intKit.Own w' M l.length (placeF l) ∧ Below w.heap.size w w'

set_option maxRecDepth 100000 in
set_option maxHeartbeats 8000000 in
theorem places_any (A : Option Addr) (n c : Nat) (l : List Int) (w : World) (hz : Nums w w.heap.size A n l) (hn : n ≤ 1000) (hw : Wfs l) :
    Calls Try.prog 39 #[.slice A n c] w (PlacesPost w l) := by
  have HZ := Lib.hid (And.intro hz hw)
  clear hz hw
  have hmm := run_makeMap_hint
  go_enter Try.func39, Try.ntmps39
  go_wp2_with fail
  have HM := Lib.hid (And.intro (intKit.made w) ((Below.refl w.heap.size w).alloc (Nat.le_refl _) (.map #[] 0)))
  obtain ⟨M, hM⟩ : ∃ M, M = w.heap.size := ⟨_, rfl⟩
  have HMe := Lib.hid hM
  rw [← hM] at HM ⊢
  clear hM hmm
  go_loopw [11] (fun i wx => ∃ k : Nat, k ≤ n ∧ i = .int .i64 k ∧ intKit.Own wx M k (placeTo l k) ∧ Below M w wx) (fun i _ => n - (intOf i).toNat)
  case atStart => exact ⟨0, Nat.zero_le _, rfl, HM.out.1, HM.out.2⟩
  case round =>
    obtain ⟨k, hk, rfl, hO, hb⟩ := hrel
    by_cases hlt : k < n
    · obtain ⟨b, off, rfl, hbB, d0⟩ := HZ.out.1.2 k hlt
      rw [← HMe.out] at hbB
      replace d0 := (hb.cell (p := ⟨b, off + k, none⟩) hbB).trans d0
      have hx := HZ.out.2.at k
      have HS := Lib.hid (placeTo_step l k)
      have HT := Lib.hid (placeTo_stay l k)
      obtain ⟨x, hxx⟩ : ∃ x, x = l.getD k 0 := ⟨_, rfl⟩
      rw [← hxx] at d0 hx HS HT
      have i1 : (0 : Int) ≤ (k : Int) := by omega
      have i2 : (k : Int) < (n : Int) := by omega
      have hlk := hO.look x hx
      by_cases h0 : placeTo l k x = 0
      · obtain ⟨w', hup, hO', hg⟩ := hO.update x hx (by unfold maxLen; omega) (k + 1) (show k + 1 ≤ 1000 by omega)
        rw [← HS.out h0] at hO'
        have HO := Lib.hid (And.intro hO' (hb.grown hg (by have := hb.size; have := hO.lt; omega) (fun j hj => by cases hj; exact Nat.le_refl _)))
        rw [h0] at hlk
        simp only [intKit] at hlk hup
        have hup2 : (Instr.mapUpdate 78 (.map (some M)) (.int .i64 x) (.int .i64 ((k : Int) + 1))).run Try.prog wr = .ok () w' := hup
        have hlk2 : (Instr.lookup 78 (.map (some M)) (.int .i64 x) false).run Try.prog wr = .ok (.int .i64 0) wr := hlk
        clear hxx hO hb hO' hg hlk hup h0 HM
        go_wp2
        go_roundw
        case rel => exact ⟨k + 1, by omega, by go_num, HO.out.1, HO.out.2⟩
        case measure => simp [intOf]; omega
      · have HO := Lib.hid (And.intro hO hb)
        rw [← HT.out h0] at HO
        have h1 : (((placeTo l k x : Nat) : Int) == 0) = false := by simp; omega
        simp only [intKit] at hlk
        clear hxx hO hb HM
        obtain ⟨p, hp⟩ : ∃ p, p = placeTo l k x := ⟨_, rfl⟩
        rw [← hp] at hlk h1 h0
        clear hp
        go_wp2
        go_roundw
        case rel => exact ⟨k + 1, by omega, by go_num, HO.out.1.mono (by omega), HO.out.2⟩
        case measure => simp [intOf]; omega
    · obtain rfl : k = n := by omega
      have HO := Lib.hid (And.intro hO hb)
      have HL := Lib.hid HZ.out.1.1
      clear hO hb HM
      go_wp2
      go_ret
      exact ⟨M, rfl, by rw [HMe.out]; omega, by rw [placeF, HL.out]; exact HO.out.1, by rw [← HMe.out]; exact HO.out.2⟩

theorem getD_ne {l : List Int} (h : l.Nodup) {i j : Nat} (hi : i < l.length) (hj : j < l.length) (hne : i ≠ j) : l.getD i 0 ≠ l.getD j 0 := by
  intro e
  have e2 : l[i] = l[j] := by simpa [List.getD, hi, hj] using e
  exact hne ((List.getElem_inj h).1 e2)
theorem placeTo_nodup {l : List Int} (h : l.Nodup) : ∀ k, k ≤ l.length → (∀ i, i < k → placeTo l k (l.getD i 0) = i + 1) ∧ (∀ i, k ≤ i → i < l.length → placeTo l k (l.getD i 0) = 0) := by
  intro k
  induction k with
  | zero => intro _; exact ⟨fun i hi => by omega, fun i _ _ => rfl⟩
  | succ k ih =>
    intro hk
    obtain ⟨h1, h2⟩ := ih (by omega)
    refine ⟨fun i hi => ?_, fun i hi hil => ?_⟩
    · rw [placeTo]
      by_cases e : i = k
      · subst e; rw [if_pos ⟨h2 i (Nat.le_refl _) (by omega), rfl⟩]
      · rw [if_neg (fun h3 => by rw [h1 i (by omega)] at h3; omega)]
        exact h1 i (by omega)
    · rw [placeTo, if_neg (fun h3 => getD_ne h (by omega) hil (by omega) h3.2)]
      exact h2 i (by omega) hil
theorem placeF_nodup {l : List Int} (h : l.Nodup) {i : Nat} (hi : i < l.length) : placeF l (l.getD i 0) = i + 1 := (placeTo_nodup h _ (Nat.le_refl _)).1 i hi
theorem placeTo_pos {l : List Int} (x : Int) : ∀ k, k ≤ l.length → (placeTo l k x ≠ 0 → ∃ i, placeTo l k x = i + 1 ∧ i < k ∧ l.getD i 0 = x) := by
  intro k
  induction k with
  | zero => intro _ h; exact absurd rfl h
  | succ k ih =>
    intro hk h
    rw [placeTo] at h ⊢
    split
    · rename_i h3; exact ⟨k, rfl, by omega, h3.2⟩
    · rename_i h3
      rw [if_neg h3] at h
      obtain ⟨i, h4, h5, h6⟩ := ih (by omega) h
      exact ⟨i, h4, by omega, h6⟩
theorem placeF_pos {l : List Int} {x : Int} (h : placeF l x ≠ 0) : ∃ i, placeF l x = i + 1 ∧ i < l.length ∧ l.getD i 0 = x := placeTo_pos x _ (Nat.le_refl _) h
theorem placeF_mem {l : List Int} (hn : l.Nodup) {x : Int} : placeF l x ≠ 0 ↔ x ∈ l := by
  constructor
  · intro h
    obtain ⟨i, _, h2, h3⟩ := placeF_pos h
    have e : l.getD i 0 = l[i] := by simp [List.getD, h2]
    rw [← h3, e]; exact List.getElem_mem h2
  · intro h
    obtain ⟨i, h1, h2⟩ := List.mem_iff_getElem.1 h
    have e : l.getD i 0 = x := by simp [List.getD, h1, h2]
    rw [← e, placeF_nodup hn h1]; omega

theorem winfo : (Try.prog.info? 3).map (fun i => (i.zero, i.size, i.bytes)) = some (some (.int .i64 0), 1, 8) := by kernel_rfl
/-- What hands back a row of numbers leaves. -/
def RowPost (w : World) (l : List Int) (e : Ending) (w' : World) : Prop :=
  ∃ A c, e = .returned (.slice A l.length c) ∧ w'.ownsRow w.heap.size 3 1 (.slice A l.length c) l.length (nums l) ∧ Below w.heap.size w w'

set_option maxRecDepth 100000 in
set_option maxHeartbeats 8000000 in
/-- Each number at its first place: where none stands twice, the list itself. -/
theorem wonce_any (A : Option Addr) (n c : Nat) (l : List Int) (w : World) (hz : Nums w w.heap.size A n l) (hn : n ≤ 900) (hw : Wfs l) (hd : l.Nodup) :
    Calls Try.prog 38 #[.slice A n c] w (RowPost w l) := by
  obtain ⟨tr, hi, hz0, hz1, hz2⟩ := info_parts winfo
  have HZ := Lib.hid (And.intro hz (And.intro hw hd))
  clear hz hw hd
  go_enter Try.func38, Try.ntmps38
  go_wp2_with fail
  refine (places_any A n c l _ HZ.out.1 (by omega) HZ.out.2.1).mono ?_
  rintro e w1 ⟨M, rfl, hM, hO, hb⟩
  have H1 := Lib.hid (And.intro hO hb)
  clear hO hb hM
  go_wp2_with fail
  go_loopw [4, 11] (fun vo i wx => ∃ k : Nat, k ≤ n ∧ i = .int .i64 k ∧ wx.ownsRow w1.heap.size 3 1 vo k (nums (l.take k)) ∧ Below w1.heap.size w1 wx) (fun _ i _ => n - (intOf i).toNat)
  case atStart => exact ⟨0, Nat.zero_le _, rfl, World.ownsRow_nil _ _ _ _, Below.refl _ _⟩
  case round =>
    obtain ⟨k, hk, rfl, hown, hb⟩ := hrel
    obtain ⟨vo, hvo⟩ : ∃ vo, vo = u4 := ⟨_, rfl⟩
    rw [← hvo] at hown ⊢
    clear hvo
    by_cases hlt : k < n
    · obtain ⟨b, off, rfl, hbB, d0⟩ := HZ.out.1.2 k hlt
      replace d0 := ((H1.out.2.trans (hb.mono H1.out.2.size)).cell (p := ⟨b, off + k, none⟩) hbB).trans d0
      have hx := HZ.out.2.1.at k
      have hlk := (H1.out.1.keep hb).look _ hx
      rw [placeF_nodup HZ.out.2.2 (by have := HZ.out.1.1; omega)] at hlk
      have HT := Lib.hid (take_snoc l 0 k (by have := HZ.out.1.1; omega))
      obtain ⟨x, hxx⟩ : ∃ x, x = l.getD k 0 := ⟨_, rfl⟩
      rw [← hxx] at d0 hx hlk HT
      simp only [intKit] at hlk
      have hlk2 : (Instr.lookup 78 (.map (some M)) (.int .i64 x) false).run Try.prog wr = .ok (.int .i64 ((k : Int) + 1)) wr := hlk
      have i1 : (0 : Int) ≤ (k : Int) := by omega
      have i2 : (k : Int) < (n : Int) := by omega
      have HO := Lib.hid (And.intro hown hb)
      clear hxx hlk hown hb
      go_wp2_with (first
        | (at_builtin; refine wpList_append_lies _ rfl _ _ _ rfl w1.heap.size 3 tr _ 1 8 Try.underlying30 hi hz0 hz1 hz2 rfl (by decide) _ k (nums (l.take k)) rfl (HO.out.1.alloc _) _ 1 1 [.int .i64 x] rfl rfl (World.news_of_block (heap_alloc_new _ _)) (by intro u hu; simp at hu; subst hu; rfl) (by omega) (by unfold maxLen; omega) (by omega) (by have := HO.out.2.size; simp; omega) _ rfl ?_; intro g2 cap2 w4 hown2 hg2 hat2 hlt2; have HX := Lib.hid (And.intro hown2 ((HO.out.2.alloc HO.out.2.size _).grown hg2 (HO.out.2.alloc HO.out.2.size _).size (fun j hj => (HO.out.1.lt j hj).1))); clear hown2 hg2 hat2 hlt2))
      go_roundw
      case rel => exact ⟨k + 1, by omega, by go_num, by rw [HT.out, nums_snoc]; exact HX.out.1, HX.out.2⟩
      case measure => simp [intOf]; omega
    · obtain rfl : k = n := by omega
      have HE := Lib.hid (show l.take k = l from List.take_of_length_le (by have := HZ.out.1.1; omega))
      rw [HE.out] at hown
      have HL := Lib.hid HZ.out.1.1
      obtain ⟨A5, c5, hv⟩ := own_form hown
      subst hv
      have HO := Lib.hid (And.intro (own_base hown H1.out.2.size) (H1.out.2.trans (hb.mono H1.out.2.size)))
      clear hown hb
      go_wp2
      go_ret
      exact ⟨A5, c5, by rw [HL.out]; rfl, by rw [HL.out]; exact HO.out.1, HO.out.2⟩

end Go.Proofs.Ytgopokoghnfgiaa
