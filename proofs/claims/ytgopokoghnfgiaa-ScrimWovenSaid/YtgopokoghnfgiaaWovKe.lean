/-
  The walk over kept, of layer 12 (second part).
-/
import Derived.Test.YtgopokoghnfgiaaWovK
namespace Go.Proofs.Ytgopokoghnfgiaa
open Go.RowKit
attribute [local go_sem ↓] Go.wp_at_zero Go.wp_at_succ

theorem mix_plain {P : Program} {Q : Exit → Act → World → Prop} {o : Oper} {y : Nat → Option Bool} {a : Act} {w : World} {V : Value → World → Prop} {A : Value → World → Prop} {b : Bool} (hg : o.guard = none) (hb : b = false)
    (h : ∃ v w', (execOp a.eval o).run P w = .ok (.value v) w' ∧ V v w' ∧ Below w.heap.size w w') :
    Region.wanted o y = true ∧ StepTo P Q o a w fun v w' => V v w' ∧ (if b = true then A v w' else Below w.heap.size w w') := by
  subst hb
  obtain ⟨v, w', h1, h2, h3⟩ := h
  exact ⟨by simp [Region.wanted, hg], StepTo.val h1 ⟨h2, by rw [if_neg (by decide)]; exact h3⟩⟩
theorem mix_call {P : Program} {Q : Exit → Act → World → Prop} {o : Oper} {y : Nat → Option Bool} {a : Act} {w : World} {V : Value → World → Prop} {A : Value → World → Prop} {b : Bool} (hg : o.guard = none) (hb : b = false)
    (h : ∃ f args, (execOp a.eval o).run P w = .ok (.enter f args) w ∧ Calls P f args w (fun e w' => ∃ v, e = .returned v ∧ V v w' ∧ Below w.heap.size w w')) :
    Region.wanted o y = true ∧ StepTo P Q o a w fun v w' => V v w' ∧ (if b = true then A v w' else Below w.heap.size w w') := by
  subst hb
  obtain ⟨f, args, h1, h2⟩ := h
  refine ⟨by simp [Region.wanted, hg], StepTo.call h1 (h2.mono ?_)⟩
  rintro e w' ⟨v, h3, h4, h5⟩
  exact ⟨v, h3, h4, by rw [if_neg (by decide)]; exact h5⟩
theorem mix_sp {P : Program} {Q : Exit → Act → World → Prop} {o : Oper} {y : Nat → Option Bool} {a : Act} {w : World} {V : Value → World → Prop} {A : Value → World → Prop} {b : Bool} (hg : o.guard = none) (hb : b = true)
    (h : ∃ v w', (execOp a.eval o).run P w = .ok (.value v) w' ∧ V v w' ∧ A v w') :
    Region.wanted o y = true ∧ StepTo P Q o a w fun v w' => V v w' ∧ (if b = true then A v w' else Below w.heap.size w w') := by
  subst hb
  obtain ⟨v, w', h1, h2, h3⟩ := h
  exact ⟨by simp [Region.wanted, hg], StepTo.val h1 ⟨h2, by rw [if_pos rfl]; exact h3⟩⟩
theorem mix_store {P : Program} {Q : Exit → Act → World → Prop} {o : Oper} {y : Nat → Option Bool} {a : Act} {w : World} {V : Value → World → Prop} {A : Value → World → Prop} {b : Bool} (hg : o.guard = none) (hb : b = true)
    (h : ∃ w', (execOp a.eval o).run P w = .ok .skip w' ∧ V undef w' ∧ A undef w') :
    Region.wanted o y = true ∧ StepTo P Q o a w fun v w' => V v w' ∧ (if b = true then A v w' else Below w.heap.size w w') := by
  subst hb
  obtain ⟨w', h1, h2, h3⟩ := h
  exact ⟨by simp [Region.wanted, hg], StepTo.skip h1 ⟨h2, by rw [if_pos rfl]; exact h3⟩⟩

def idsTo (fr : Int → Nat) (tt : List Int) (k : Nat) : List Int := (tt.take k).filter fun x => decide (0 < fr x)
def oldTo (fr : Int → Nat) (tt : List Int) (k : Nat) : List Int := (idsTo fr tt k).map fun x => (fr x : Int)
theorem idsTo_succ (fr : Int → Nat) (tt : List Int) (k : Nat) (h : k < tt.length) : idsTo fr tt (k + 1) = if 0 < fr (tt.getD k 0) then idsTo fr tt k ++ [tt.getD k 0] else idsTo fr tt k := by
  rw [idsTo, take_snoc tt 0 k h, List.filter_append, idsTo]
  generalize tt.getD k 0 = x
  by_cases hx : 0 < fr x
  · rw [if_pos hx]; simp [hx]
  · rw [if_neg hx]; simp [hx]
theorem oldTo_succ (fr : Int → Nat) (tt : List Int) (k : Nat) (h : k < tt.length) : oldTo fr tt (k + 1) = if 0 < fr (tt.getD k 0) then oldTo fr tt k ++ [(fr (tt.getD k 0) : Int)] else oldTo fr tt k := by
  rw [oldTo, idsTo_succ fr tt k h, oldTo]
  split <;> simp
theorem idsTo_len (fr : Int → Nat) (tt : List Int) (k : Nat) : (idsTo fr tt k).length ≤ k := Nat.le_trans (List.length_filter_le _ _) (by simp; omega)
theorem oldTo_len (fr : Int → Nat) (tt : List Int) (k : Nat) : (oldTo fr tt k).length = (idsTo fr tt k).length := by simp [oldTo]
def sp6 (i : Nat) : Bool := i == 3 || i == 9 || i == 10 || i == 11
def V6 (W0 M : Nat) (vi vo : Value) (x p : Int) : Nat → Value → World → Prop
  | 0, v, _ => v = vi
  | 1, v, _ => v = .int .i64 x
  | 2, v, w => ∃ g, v = .slice (some ⟨g, 0, none⟩) 1 1 ∧ W0 ≤ g ∧ Blk w g 3 #[.int .i64 x]
  | 4, v, _ => v = vo
  | 5, v, _ => v = .map (some M)
  | 6, v, _ => v = .int .i64 x
  | 7, v, _ => v = .int .i64 p
  | 8, v, w => ∃ g, v = .slice (some ⟨g, 0, none⟩) 1 1 ∧ W0 ≤ g ∧ Blk w g 3 #[.int .i64 p]
  | _, _, _ => True
theorem V6_keep (W0 M : Nat) (vi vo : Value) (x p : Int) (j : Nat) (v : Value) (w w' : World) (h : V6 W0 M vi vo x p j v w) (hr : RelK W0 w w') : V6 W0 M vi vo x p j v w' := by
  match j with
  | 0 => exact h
  | 1 => exact h
  | 2 => obtain ⟨g, h1, h2, h3⟩ := h; exact ⟨g, h1, h2, RelK.blk h3 h2 hr⟩
  | 3 => trivial
  | 4 => exact h
  | 5 => exact h
  | 6 => exact h
  | 7 => exact h
  | 8 => obtain ⟨g, h1, h2, h3⟩ := h; exact ⟨g, h1, h2, RelK.blk h3 h2 hr⟩
  | _ + 9 => trivial

/-- The numbers that stay. -/
def staysL (ids : List Int) (R : List Nat) : List Int := R.map fun r => ids.getD r 0
def stayF (S : List Int) (y : Int) : Nat := if y ∈ S then 1 else 0
theorem stay_step (ids : List Int) (R : List Nat) (k : Nat) (h : k < R.length) : stayF (staysL ids (R.take (k + 1))) = setF (stayF (staysL ids (R.take k))) (ids.getD (R.getD k 0) 0) 1 := by
  funext y
  rw [take_snoc R 0 k h, stayF, setF, stayF, staysL, List.map_append]
  by_cases e : y = ids.getD (R.getD k 0) 0
  · rw [if_pos e, if_pos (by simp [e])]
  · rw [if_neg e]
    have : (y ∈ List.map (fun r => ids.getD r 0) (R.take k) ++ List.map (fun r => ids.getD r 0) [R.getD k 0]) ↔ y ∈ staysL ids (R.take k) := by
      rw [List.mem_append, staysL]
      constructor
      · rintro (h | h)
        · exact h
        · simp at h; exact absurd (by simpa using h) e
      · exact .inl
    simp only [this]
theorem run_makeMap_none (w : World) : (Instr.makeMap 78 none).run Try.prog w = .ok (.map (some w.heap.size)) (w.alloc (.map #[] 0)) := by
  simp [Instr.makeMap]
theorem idsTo_wf {fr : Int → Nat} {tt : List Int} (h : Wfs tt) (k : Nat) : Wfs (idsTo fr tt k) := fun x hx => h x (List.mem_of_mem_take (List.mem_filter.1 hx).1)
def KeptPost (w : World) (fr : Int → Nat) (tt : List Int) (e : Ending) (w' : World) : Prop :=
  ∃ (R : List Nat) (M m : Nat), IsLis (oldTo fr tt tt.length) R ∧ e = .returned (.map (some M)) ∧ w.heap.size ≤ M ∧ intKit.Own w' M m (stayF (staysL (idsTo fr tt tt.length) R)) ∧ Below w.heap.size w w'

set_option maxRecDepth 100000 in
set_option maxHeartbeats 16000000 in
theorem kept_any (M m : Nat) (fr : Int → Nat) (A : Option Addr) (n c : Nat) (tt : List Int) (w : World) (hM : intKit.Own w M m fr) (hz : Nums w w.heap.size A n tt) (hn : n ≤ 900) (hw : Wfs tt) :
    Calls Try.prog 41 #[.map (some M), .slice A n c] w (KeptPost w fr tt) := by
  have HZ := Lib.hid (And.intro hz (And.intro hM hw))
  clear hz hM hw
  go_enter Try.func41, Try.ntmps41
  go_wp2_with fail
  go_loopw [5, 6, 14] (fun va vb i wx => ∃ k : Nat, k ≤ n ∧ i = .int .i64 k ∧ wx.ownsRow w.heap.size 3 1 va (idsTo fr tt k).length (nums (idsTo fr tt k)) ∧ wx.ownsRow w.heap.size 3 1 vb (oldTo fr tt k).length (nums (oldTo fr tt k)) ∧ Hid (Aprt va vb) ∧ Below w.heap.size w wx) (fun _ _ i _ => n - (intOf i).toNat)
  case atStart => exact ⟨0, Nat.zero_le _, rfl, World.ownsRow_nil _ _ _ _, World.ownsRow_nil _ _ _ _, .inl rfl, Below.refl _ _⟩
  case round =>
    obtain ⟨k, hk, rfl, ha, hbb, hap, hb⟩ := hrel
    obtain ⟨va, hva⟩ : ∃ va, va = u5 := ⟨_, rfl⟩
    obtain ⟨vb, hvb⟩ : ∃ vb, vb = u6 := ⟨_, rfl⟩
    rw [← hva] at ha hap ⊢
    rw [← hvb] at hbb hap ⊢
    clear hva hvb
    by_cases hlt : k < n
    · obtain ⟨b, off, rfl, hbB, d0⟩ := HZ.out.1.2 k hlt
      replace d0 := (hb.cell (p := ⟨b, off + k, none⟩) hbB).trans d0
      have HI := Lib.hid (idsTo_succ fr tt k (by have := HZ.out.1.1; omega))
      have HO := Lib.hid (oldTo_succ fr tt k (by have := HZ.out.1.1; omega))
      have hx := HZ.out.2.2.at k
      obtain ⟨x, hxx⟩ : ∃ x, x = tt.getD k 0 := ⟨_, rfl⟩
      rw [← hxx] at d0 hx HI HO
      have HXW := Lib.hid hx
      have hM2 : intKit.Own wr M m fr := by
        have h1 := HZ.out.2.1.lt
        obtain ⟨D, h2, h3⟩ := HZ.out.2.1
        exact ⟨D, World.ownsMap.kept h2 (only_of_below hb none) (by simp), h3⟩
      have hlk := hM2.look x hx
      simp only [intKit] at hlk
      have hp := hM2.okv x hx
      have hlk2 : (Instr.lookup 78 (.map (some M)) (.int .i64 x) false).run Try.prog wr = .ok (.int .i64 (fr x : Nat)) wr := hlk
      have hp2 : fr x ≤ 1000 := hp
      have HM2 := Lib.hid hM2
      obtain ⟨p, hpp⟩ : ∃ p, p = fr x := ⟨_, rfl⟩
      rw [← hpp] at hlk2 hp2 HI HO
      have HPP := Lib.hid hpp
      have hil := idsTo_len fr tt k
      have hol := oldTo_len fr tt k
      obtain ⟨ids, hids⟩ : ∃ ids, ids = idsTo fr tt k := ⟨_, rfl⟩
      obtain ⟨old, hold⟩ : ∃ old, old = oldTo fr tt k := ⟨_, rfl⟩
      rw [← hids] at ha HI hil hol
      rw [← hold] at hbb HO hol
      have i1 : (0 : Int) ≤ (k : Int) := by omega
      have i2 : (k : Int) < (n : Int) := by omega
      have HC := Lib.hid (And.intro ha (And.intro hbb (And.intro hap hb)))
      have hol2 : old.length ≤ k := by omega
      clear ha hbb hb hxx hx hlk hp hM2 hpp hids hold hap hol
      by_cases h0 : 0 < p
      · have hp0 : (0 : Int) < (p : Int) := by omega
        have HI2 := Lib.hid (show idsTo fr tt (k + 1) = ids ++ [x] by rw [HI.out, if_pos h0])
        have HO2 := Lib.hid (show oldTo fr tt (k + 1) = old ++ [(p : Int)] by rw [HO.out, if_pos h0])
        clear h0
        go_upto_region 6 with fail
        refine wp_region_mix wr ?_ ?_ ?_ (V6 wr.heap.size M va vb x p) (RelK wr.heap.size) ?_ ?_ (fun L s w' => Two w va vb ids old x p (L 3) (L 9) (L 10) (L 11) (s 3) (s 9) (s 10) (s 11) w' ∧ intKit.Own w' M m fr ∧ wr.heap.size ≤ w'.heap.size ∧ (L 3 = true → L 0 = true) ∧ (L 9 = true → L 4 = true) ∧ (L 10 = false → s 10 = va) ∧ (L 11 = false → s 11 = vb)) ?_ sp6 ?_ ?_ ?_
        · kernel_rfl
        · kernel_rfl
        · kernel_rfl
        · exact fun _ _ h => RelK.of_below h
        · exact fun j v w1 w2 h hr => V6_keep _ _ _ _ _ _ j v w1 w2 h hr
        · exact ⟨⟨HC.out.1, HC.out.2.1, HC.out.2.2.1.out, (fun h => by cases h), (fun h => by cases h), HC.out.2.2.2.drew⟩, HM2.out, Nat.le_refl _, (fun h => by cases h), (fun h => by cases h), fun _ => by kernel_rfl, fun _ => by kernel_rfl⟩
        · intro L s w1 i v w2 hi _ hJ hbw
          have hne : ¬ 3 = i ∧ ¬ 9 = i ∧ ¬ 10 = i ∧ ¬ 11 = i := by
            refine ⟨?_, ?_, ?_, ?_⟩ <;> (rintro rfl; cases hi)
          simp only [setL, upd, if_neg hne.1, if_neg hne.2.1, if_neg hne.2.2.1, if_neg hne.2.2.2]
          refine ⟨hJ.1.keep hbw, hJ.2.1.keep hbw, Nat.le_trans hJ.2.2.1 hbw.size, fun h => ?_, fun h => ?_, hJ.2.2.2.2.2.1, hJ.2.2.2.2.2.2⟩
          · by_cases e : 0 = i
            · rw [if_pos e]
            · rw [if_neg e]; exact hJ.2.2.2.1 h
          · by_cases e : 4 = i
            · rw [if_pos e]
            · rw [if_neg e]; exact hJ.2.2.2.2.1 h
        · refine ⟨fun L s wx hL hJ hd => mix_plain rfl rfl ⟨_, _, ex_move rfl ((lit_at 10 5 (by kernel_rfl) (by kernel_rfl) (by kernel_rfl)).trans (hJ.2.2.2.2.2.1 (by cases h : L 10 with | false => rfl | true => have := hJ.2.2.2.1 (hJ.1.ai h).1; rw [hL] at this; cases this))), rfl, Below.refl _ _⟩, ?_⟩
          refine ⟨fun L s wx hL hJ hd => mix_plain rfl rfl ⟨_, _, ex_move rfl (lit_out 8 (by kernel_rfl)), rfl, Below.refl _ _⟩, ?_⟩
          refine ⟨fun L s wx hL hJ hd => mix_plain rfl rfl ⟨_, _, ex_lit1 rfl ((lit_at 1 23 (by kernel_rfl) (by kernel_rfl) (by kernel_rfl)).trans (hd 1 (by kernel_rfl)).2), ⟨_, rfl, hJ.2.2.1, Blk.new _ _ _⟩, (Below.refl _ _).alloc (Nat.le_refl _) _⟩, ?_⟩
          refine ⟨fun L s wx hL hJ hd => mix_sp rfl rfl ?_, ?_⟩
          · have hT := hJ.1
            rw [hL] at hT
            obtain ⟨g, hs2, hg, hblk⟩ := (hd 2 (by kernel_rfl)).2
            have hi0 := hT.i
            simp only [Bool.false_eq_true, if_false] at hi0
            obtain ⟨v, w', hr, hrel, hgr, hT'⟩ := hT.addI (by omega) (fun b hb => (HC.out.1.lt b hb).2) hblk rfl
            exact ⟨v, w', ex_app rfl ((lit_at 0 22 (by kernel_rfl) (by kernel_rfl) (by kernel_rfl)).trans (hd 0 (by kernel_rfl)).2) ((lit_at 2 24 (by kernel_rfl) (by kernel_rfl) (by kernel_rfl)).trans hs2) hr, trivial, hrel, hT', hJ.2.1.kept hgr (fun e => MapKit.own_ne hi0 hJ.2.1 e.symm), Nat.le_trans hJ.2.2.1 hgr.size, (fun _ => (hd 0 (by kernel_rfl)).1), hJ.2.2.2.2.1, hJ.2.2.2.2.2.1, hJ.2.2.2.2.2.2⟩
          refine ⟨fun L s wx hL hJ hd => mix_plain rfl rfl ⟨_, _, ex_move rfl ((lit_at 11 6 (by kernel_rfl) (by kernel_rfl) (by kernel_rfl)).trans (hJ.2.2.2.2.2.2 (by cases h : L 11 with | false => rfl | true => have := hJ.2.2.2.2.1 (hJ.1.ao h).1; rw [hL] at this; cases this))), rfl, Below.refl _ _⟩, ?_⟩
          refine ⟨fun L s wx hL hJ hd => mix_plain rfl rfl ⟨_, _, ex_move rfl (lit_out 0 (by kernel_rfl)), rfl, Below.refl _ _⟩, ?_⟩
          refine ⟨fun L s wx hL hJ hd => mix_plain rfl rfl ⟨_, _, ex_move rfl (lit_out 8 (by kernel_rfl)), rfl, Below.refl _ _⟩, ?_⟩
          refine ⟨fun L s wx hL hJ hd => mix_plain rfl rfl ⟨.int .i64 p, wx, ex_look rfl ((lit_at 5 27 (by kernel_rfl) (by kernel_rfl) (by kernel_rfl)).trans (hd 5 (by kernel_rfl)).2) ((lit_at 6 28 (by kernel_rfl) (by kernel_rfl) (by kernel_rfl)).trans (hd 6 (by kernel_rfl)).2) (by have := hJ.2.1.look x HXW.out; rw [← HPP.out] at this; exact this), rfl, Below.refl _ _⟩, ?_⟩
          refine ⟨fun L s wx hL hJ hd => mix_plain rfl rfl ⟨_, _, ex_lit1 rfl ((lit_at 7 29 (by kernel_rfl) (by kernel_rfl) (by kernel_rfl)).trans (hd 7 (by kernel_rfl)).2), ⟨_, rfl, hJ.2.2.1, Blk.new _ _ _⟩, (Below.refl _ _).alloc (Nat.le_refl _) _⟩, ?_⟩
          refine ⟨fun L s wx hL hJ hd => mix_sp rfl rfl ?_, ?_⟩
          · have hT := hJ.1
            rw [hL] at hT
            obtain ⟨g, hs2, hg, hblk⟩ := (hd 8 (by kernel_rfl)).2
            have hi0 := hT.o
            simp only [Bool.false_eq_true, if_false] at hi0
            obtain ⟨v, w', hr, hrel, hgr, hT'⟩ := hT.addO (by omega) (fun b hb => (HC.out.2.1.lt b hb).2) hblk rfl
            exact ⟨v, w', ex_app rfl ((lit_at 4 26 (by kernel_rfl) (by kernel_rfl) (by kernel_rfl)).trans (hd 4 (by kernel_rfl)).2) ((lit_at 8 30 (by kernel_rfl) (by kernel_rfl) (by kernel_rfl)).trans hs2) hr, trivial, hrel, hT', hJ.2.1.kept hgr (fun e => MapKit.own_ne hi0 hJ.2.1 e.symm), Nat.le_trans hJ.2.2.1 hgr.size, hJ.2.2.2.1, (fun _ => (hd 4 (by kernel_rfl)).1), hJ.2.2.2.2.2.1, hJ.2.2.2.2.2.2⟩
          refine ⟨fun L s wx hL hJ hd => mix_sp rfl rfl ⟨s 3, wx, ex_assign rfl (lit_at 3 25 (by kernel_rfl) (by kernel_rfl) (by kernel_rfl)), trivial, RelK.of_below (Below.refl _ _), ⟨hJ.1.i, hJ.1.o, hJ.1.ap, fun _ => ⟨(hd 3 (by kernel_rfl)).1, rfl⟩, hJ.1.ao, hJ.1.be⟩, hJ.2.1, hJ.2.2.1, hJ.2.2.2.1, hJ.2.2.2.2.1, (fun h => by cases h), hJ.2.2.2.2.2.2⟩, ?_⟩
          refine ⟨fun L s wx hL hJ hd => mix_sp rfl rfl ⟨s 9, wx, ex_assign rfl (lit_at 9 31 (by kernel_rfl) (by kernel_rfl) (by kernel_rfl)), trivial, RelK.of_below (Below.refl _ _), ⟨hJ.1.i, hJ.1.o, hJ.1.ap, hJ.1.ai, fun _ => ⟨(hd 9 (by kernel_rfl)).1, rfl⟩, hJ.1.be⟩, hJ.2.1, hJ.2.2.1, hJ.2.2.2.1, hJ.2.2.2.2.1, hJ.2.2.2.2.2.1, (fun h => by cases h)⟩, ?_⟩
          trivial
        · intro L s w5 hL hJ _
          have hT := hJ.1
          rw [hL 3 (by decide), hL 9 (by decide), hL 10 (by decide), hL 11 (by decide)] at hT
          have h10 := (hT.ai rfl).2
          have h11 := (hT.ao rfl).2
          have t1 := hT.i
          have t2 := hT.o
          have t3 := hT.ap
          have t4 := hT.be
          simp only [if_true] at t1 t2 t3
          rw [← h10] at t1 t3
          rw [← h11] at t2 t3
          have HT := Lib.hid (And.intro t1 (And.intro t2 (And.intro t3 t4)))
          clear hL hJ hT h10 h11 t1 t2 t3 t4
          simp only [litOf, List.map_cons, List.map_nil, Nat.zero_add, Nat.reduceAdd, Act.put, List.setIfInBounds_toArray, List.set_cons_succ, List.set_cons_zero]
          go_wp2_with fail
          go_roundw
          case rel => exact ⟨k + 1, by omega, by go_num, by rw [HI2.out]; exact HT.out.1, by rw [HO2.out]; exact HT.out.2.1, HT.out.2.2.1, HT.out.2.2.2⟩
          case measure => simp [intOf]; omega
      · have hp0 : ((p : Int) ≤ 0) := by omega
        have HI2 := Lib.hid (show idsTo fr tt (k + 1) = ids by rw [HI.out, if_neg h0])
        have HO2 := Lib.hid (show oldTo fr tt (k + 1) = old by rw [HO.out, if_neg h0])
        obtain rfl : p = 0 := by omega
        clear h0 hp0
        go_wp2_with fail
        go_roundw
        case rel => exact ⟨k + 1, by omega, by go_num, by rw [HI2.out]; exact HC.out.1, by rw [HO2.out]; exact HC.out.2.1, HC.out.2.2.1.out, HC.out.2.2.2⟩
        case measure => simp [intOf]; omega
    · obtain rfl : k = n := by omega
      have hd : decide ((k : Int) < (k : Int)) = false := by simp
      have HNL := Lib.hid (show tt.length = k from HZ.out.1.1)
      have HW := Lib.hid (idsTo_wf (fr := fr) HZ.out.2.2 k)
      have hil := idsTo_len fr tt k
      have hol := oldTo_len fr tt k
      have HID := Lib.hid (show idsTo fr tt tt.length = idsTo fr tt k ∧ oldTo fr tt tt.length = oldTo fr tt k by rw [HZ.out.1.1]; exact ⟨rfl, rfl⟩)
      obtain ⟨ids, hids⟩ : ∃ ids, ids = idsTo fr tt k := ⟨_, rfl⟩
      obtain ⟨old, hold⟩ : ∃ old, old = oldTo fr tt k := ⟨_, rfl⟩
      rw [← hids] at ha HW hil hol HID
      rw [← hold] at hbb hol HID
      obtain ⟨Aa, ca, hv⟩ := own_form ha
      subst hv
      obtain ⟨Ab, cb, hv⟩ := own_form hbb
      subst hv
      have HMD := Lib.hid (And.intro (intKit.made wr) ((Below.refl wr.heap.size wr).alloc (Nat.le_refl _) (.map #[] 0)))
      have HC := Lib.hid (And.intro (ha.alloc (.map #[] 0)) (And.intro (hbb.alloc (.map #[] 0)) (And.intro (hb.alloc hb.size (.map #[] 0)) hb.size)))
      have hmm := run_makeMap_none
      have hol2 : old.length ≤ 1000 := by omega
      have HOL := Lib.hid hol
      clear ha hbb hb hap hids hold hlt HZ hol
      go_upto_region 9 with fail
      obtain ⟨M2, hM2⟩ : ∃ M2, M2 = wr.heap.size := ⟨_, rfl⟩
      have HM2 := Lib.hid hM2
      rw [← hM2] at HMD HC ⊢
      obtain ⟨wa, hwa⟩ : ∃ wa, wa = wr.alloc (.map #[] 0) := ⟨_, rfl⟩
      obtain ⟨wq, rfl⟩ : ∃ wq : World, wq = wr := ⟨_, rfl⟩
      rw [← hwa] at HMD HC ⊢
      clear hmm hM2 hwa
      go_wp2_with fail
      refine (lof_any Ab old.length cb old _ (Nums.of_own HC.out.2.1 rfl) hol2).mono ?_
      rintro e w2 ⟨R, AR, cR, hR, rfl, hRo, hRb⟩
      have hRn : R.length ≤ 1000 := by
        have h1 := hR.len
        have h2 := maxTo_len old old.length
        rw [lenS] at h1
        omega
      have HR := Lib.hid (And.intro hR (And.intro hRo (And.intro (own_keep HC.out.1 hRb) (And.intro (HMD.out.1.keep hRb) (HC.out.2.2.1.trans (hRb.mono HC.out.2.2.1.size))))))
      clear hR hRo hRb
      go_wp2_with fail
      go_loopw [37] (fun i wx => ∃ r : Nat, r ≤ R.length ∧ i = .int .i64 r ∧ intKit.Own wx M2 r (stayF (staysL ids (R.take r))) ∧ w2.grownBy wx (some M2)) (fun i _ => R.length - (intOf i).toNat)
      case atStart => exact ⟨0, Nat.zero_le _, rfl, HR.out.2.2.2.1, World.grownBy.refl _ _⟩
      case round =>
        obtain ⟨r, hr, rfl, hO, hg⟩ := hrel
        have hMe1 := MapKit.own_ne HR.out.2.1 HR.out.2.2.2.1
        have hMe2 := MapKit.own_ne HR.out.2.2.1 HR.out.2.2.2.1
        have k1 := HR.out.2.1.kept hg (.inr hMe1)
        have k2 := HR.out.2.2.1.kept hg (.inr hMe2)
        by_cases hrl : r < R.length
        · obtain ⟨b, off, hA, hbB, d0⟩ := (Nums.of_own k1 (ints_len R)).2 r hrl
          subst hA
          rw [ints_at] at d0
          have hq : R.getD r 0 < ids.length := by
            have h1 : R.getD r 0 ∈ R := by
              have e : R.getD r 0 = R[r] := by simp [List.getD, hrl]
              rw [e]; exact List.getElem_mem hrl
            have := HR.out.1.lt _ h1
            have := HOL.out
            omega
          obtain ⟨q, hqq⟩ : ∃ q, q = R.getD r 0 := ⟨_, rfl⟩
          have HST := Lib.hid (stay_step ids R r hrl)
          rw [← hqq] at d0 hq HST
          obtain ⟨b', off', hA', hbB', d1⟩ := (Nums.of_own k2 rfl).2 q hq
          subst hA'
          have hwf := HW.out.at q
          obtain ⟨x, hx⟩ : ∃ x, x = ids.getD q 0 := ⟨_, rfl⟩
          rw [← hx] at d1 hwf HST
          obtain ⟨w', hup, hO', hg'⟩ := hO.update x hwf (by unfold maxLen; omega) 1 (show 1 ≤ 1000 by omega)
          rw [← HST.out] at hO'
          have HX := Lib.hid (And.intro hO' (only_trans hg hg'))
          simp only [intKit] at hup
          have hup2 : (Instr.mapUpdate 78 (.map (some M2)) (.int .i64 x) (.int .i64 1)).run Try.prog wr = .ok () w' := hup
          have i1 : (0 : Int) ≤ (r : Int) := by omega
          have i2 : (r : Int) < (R.length : Int) := by omega
          have i3 : (0 : Int) ≤ (q : Int) := by omega
          have i4 : (q : Int) < (ids.length : Int) := by omega
          clear hqq hx hup hO' hg' hO hg k1 k2 hMe1 hMe2
          go_wp2_with fail
          go_roundw
          case rel => exact ⟨r + 1, by omega, by go_num, HX.out.1, HX.out.2⟩
          case measure => simp [intOf]; omega
        · obtain rfl : r = R.length := by omega
          rw [List.take_length] at hO
          have hd2 : decide ((R.length : Int) < (R.length : Int)) = false := by simp
          have HX := Lib.hid (And.intro hO (HR.out.2.2.2.2.grown hg HR.out.2.2.2.2.size (fun j hj => by cases hj; exact HC.out.2.2.2)))
          clear hO hg k1 k2 hMe1 hMe2
          go_wp2_with fail
          go_ret
          exact ⟨R, M2, _, by rw [HID.out.2]; exact HR.out.1, rfl, HC.out.2.2.2, by rw [HID.out.1]; exact HX.out.1, HX.out.2⟩

end Go.Proofs.Ytgopokoghnfgiaa
