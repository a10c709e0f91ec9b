/-
  The walk over slot.Of: the plan for the key that there is to be.
-/
import Derived.Test.YtkiaaaehakjhjaaSlotRel
import Derived.OwnWalk
namespace Go.Proofs.Ytkiaaaehakjhjaa
open Go.RowKit
attribute [local go_sem ↓] Go.wp_at_zero Go.wp_at_succ

/-- Is one to be there? -/
def more (key : ByteArray) : Bool := !(key.toList == [])
def planA (n : Nat) : PlanS := ⟨List.replicate n 0, -2, 0, []⟩
def planB (ks : List Kid) (key : ByteArray) (mode : Int) : PlanS :=
  if 0 ≤ cur ks then { planA ks.length with each := (planA ks.length).each.set (cur ks).toNat (goesS (ks.getD (cur ks).toNat kid0).2 (more key) mode) } else planA ks.length
def planC (ks : List Kid) (key : ByteArray) (mode : Int) : PlanS := if more key = true then comeS ks key mode (planB ks key mode) else planB ks key mode
def hereS (ks : List Kid) (key : ByteArray) : Bool := decide (0 ≤ cur ks) && (more key && ((ks.getD (cur ks).toNat kid0).1.toList == key.toList))
def ofS (ks : List Kid) (key : ByteArray) (mode : Int) : PlanS :=
  releaseS ks (if hereS ks key = true then { planA ks.length with take := cur ks } else planC ks key mode)

theorem comeS_facts (ks : List Kid) (key : ByteArray) (mode : Int) (p : PlanS) : (comeS ks key mode p).each.length = p.each.length ∧ (comeS ks key mode p).rel = p.rel ∧ (comeS ks key mode p).take < (ks.length : Int) := by
  unfold comeS
  split
  · exact ⟨rfl, rfl, by show (-1 : Int) < _; omega⟩
  · rename_i h0
    have ht : firstAt (same key) ks < (ks.length : Int) := by
      rcases firstAt_cases (same key) ks with ⟨h1, _⟩ | ⟨k, h1, h2, _⟩
      · omega
      · omega
    split
    · exact ⟨by simp, rfl, ht⟩
    · exact ⟨by simp, rfl, ht⟩
theorem cur_lt (ks : List Kid) : cur ks < (ks.length : Int) := by
  unfold cur
  rcases firstAt_cases live ks with ⟨h1, _⟩ | ⟨k, h1, h2, _⟩
  · rw [h1]; simp; omega
  · rw [h2]; split <;> omega
theorem planB_facts (ks : List Kid) (key : ByteArray) (mode : Int) : (planB ks key mode).each.length = ks.length ∧ (planB ks key mode).rel = [] ∧ (planB ks key mode).take = -2 ∧ (planB ks key mode).start = 0 := by
  unfold planB
  split
  · exact ⟨by simp [planA], rfl, rfl, rfl⟩
  · exact ⟨by simp [planA], rfl, rfl, rfl⟩
theorem planC_facts (ks : List Kid) (key : ByteArray) (mode : Int) : (planC ks key mode).each.length = ks.length ∧ (planC ks key mode).rel = [] ∧ (planC ks key mode).take < (ks.length : Int) := by
  obtain ⟨h1, h2, h3, _⟩ := planB_facts ks key mode
  unfold planC
  split
  · obtain ⟨g1, g2, g3⟩ := comeS_facts ks key mode (planB ks key mode)
    exact ⟨g1.trans h1, g2.trans h2, g3⟩
  · exact ⟨h1, h2, by rw [h3]; omega⟩
theorem Pn.froz {t : TypeId} {w wx : World} {P : Nat} {vE vR : Value} {p : PlanS} (h : Pn t w wx P vE vR p) {g n c : Nat} (k : Nat) (hv : vE = .slice (some ⟨g, 0, none⟩) n c) (hn : p.each.length = n) : wx.frozen? ⟨g, k, none⟩ = false := by
  have he := h.e
  rw [hv, hn] at he
  exact he.frozenAt k

theorem Pn.elem {t : TypeId} {w wx : World} {P : Nat} {vE vR : Value} {p : PlanS} (h : Pn t w wx P vE vR p) {g n c : Nat} (k : Nat) (hv : vE = .slice (some ⟨g, 0, none⟩) n c) (hn : p.each.length = n) (hk : k < n) : wx.cell? ⟨g, k, none⟩ = some (.int .i64 (p.each.getD k 0)) := by
  obtain ⟨g', c', hv', y0, _⟩ := h.eachAt k (by omega)
  rw [hv] at hv'
  obtain rfl := slice_block hv'
  exact y0

theorem nums_zeros (n : Nat) : nums (List.replicate n 0) = List.replicate n (.int .i64 0) := by simp [nums]

/-- A plan as a result. -/
def PlanPost (w : World) (p : PlanS) (e : Ending) (w' : World) : Prop :=
  ∃ A1 c1 A2 c2, e = .returned (.agg #[.slice A1 p.each.length c1, .int .i64 p.take, .int .i64 p.start, .slice A2 p.rel.length c2]) ∧
    w'.ownsRow w.heap.size 3 1 (.slice A1 p.each.length c1) p.each.length (nums p.each) ∧ w'.ownsRow w.heap.size 3 1 (.slice A2 p.rel.length c2) p.rel.length (nums p.rel) ∧ Below w.heap.size w w'

set_option maxRecDepth 100000 in
set_option maxHeartbeats 8000000 in
theorem of_any (w : World) (A : Option Addr) (n c : Nat) (ks : List Kid) (key : ByteArray) (mode : Int) (hz : Kids w w.heap.size A n ks) (hm : n ≤ 15) :
    Calls Try.prog 10 #[.slice A n c, .string key, .int .i64 mode] w (PlanPost w (ofS ks key mode)) := by
  obtain ⟨tr, hi, hz0, hz1, hz2⟩ := info_parts int_info
  obtain ⟨w0, hw0⟩ : ∃ w0, w0 = w.alloc (.cells #[.slice none 0 0, .int .i64 0, .int .i64 0, .slice none 0 0] 30) := ⟨_, rfl⟩
  have hb0 : Below w.heap.size w w0 := by rw [hw0]; exact (Below.refl _ _).alloc (Nat.le_refl _) _
  have hR : Blk w0 w.heap.size 30 #[.slice none 0 0, .int .i64 0, .int .i64 0, .slice none 0 0] := by rw [hw0]; exact Blk.new _ _ _
  have HZ := Lib.hid (kids_at hz hb0)
  have HB0 := Lib.hid hb0
  have HR := Lib.hid hR
  have HL := Lib.hid hz.1
  clear hz hb0 hR
  go_enter Try.func10, Try.ntmps10
  go_upto_region 1 with fail
  rw [← hw0]
  clear hw0
  go_cut [7] (fun s wx => ∃ P vE, s = .pointer (some ⟨P, 0, none⟩) ∧ Pn 30 w0 wx P vE (.slice none 0 0) (planA n))
  case first =>
    go_wp2_with (first
      | (at_make; refine wpList_make_full _ rfl _ _ 28 rfl w0.heap.size 3 tr _ 1 Try.underlying28 hi hz0 hz1 _ _ _ _ n rfl rfl rfl rfl (by rw [hz2]; omega) (by unfold maxLen; omega) (Nat.le_refl _) ?_; intro w1 hown hg1))
    go_meet
    exact ⟨_, _, rfl, Blk.new _ _ _, by
      have h := hown.alloc (.cells #[.slice (some ⟨w0.heap.size, 0, none⟩) n n, .int .i64 (-2), .int .i64 0, .slice none 0 0] 30)
      show World.ownsRow _ _ _ _ _ (List.replicate n (0 : Int)).length (nums (List.replicate n 0))
      rw [List.length_replicate, nums_zeros]
      have e : (madeCells (Value.int IntKind.i64 0).cells (n * 1)).toList = List.replicate n (.int .i64 0) := by rw [Nat.mul_one]; exact toList_madeCells_one _ _
      rw [e] at h
      exact h, World.ownsRow_nil _ _ _ _, .inl rfl, (below_of_only hg1 (Nat.le_refl _)).alloc hg1.size _, hg1.size, by decide⟩
  case rest =>
    obtain ⟨P, vE, rfl, hp⟩ := hcut
    obtain ⟨p0, hp0⟩ : ∃ p0, p0 = planA n := ⟨_, rfl⟩
    rw [← hp0] at hp
    have HP0 := Lib.hid hp0
    have HP := Lib.hid hp
    clear hp hp0
    go_wp2_with fail
    refine (cur_any _ _ _ ks _ (HZ.out.keep HP.out.below) (by unfold maxLen; omega)).mono ?_
    rintro e w1 ⟨rfl, hb1⟩
    have hp1 := HP.out.keep hb1
    have HP1 := Lib.hid hp1
    obtain ⟨x0, x1, x2, x3⟩ := hp1.cells
    obtain ⟨f0, f1, f2, f3⟩ := hp1.free
    clear hb1 HP hp1
    obtain ⟨q, hq⟩ : ∃ q, q = hereS ks key := ⟨_, rfl⟩
    obtain ⟨cu, hcu⟩ : ∃ cu, cu = cur ks := ⟨_, rfl⟩
    have HK := Lib.hid (show 0 ≤ cu → cu.toNat < n by
      intro h
      rw [hcu, cur] at h ⊢
      rcases firstAt_cases live ks with ⟨h1, _⟩ | ⟨k, h0, h1, _⟩
      · rw [h1] at h; simp at h
      · rw [h1, if_neg (by omega)]; have := HL.out; omega)
    rw [← hcu]
    have HQ := Lib.hid (show q = (decide (0 ≤ cu) && (more key && ((ks.getD cu.toNat kid0).1.toList == key.toList))) by rw [hq, hcu]; rfl)
    have HCU := Lib.hid (And.intro hcu hq)
    clear hcu hq
    go_upto_region 3 with fail
    go_cut [30] (fun s wx => s = .bool q ∧ wx = w1)
    case first =>
      by_cases h0 : 0 ≤ cu
      · obtain ⟨k, rfl⟩ : ∃ k : Nat, cu = k := ⟨cu.toNat, by omega⟩
        have hkn : k < n := by have := HK.out h0; omega
        have i2 : (k : Int) < (n : Int) := by omega
        obtain ⟨b, off, rfl, hbB, e0, e1⟩ := HZ.out.2 k hkn
        replace e0 := (HP1.out.below.cell (p := ⟨b, off + k * 2, none⟩) hbB).trans e0
        replace e1 := (HP1.out.below.cell (p := ⟨b, off + k * 2 + 1, none⟩) hbB).trans e1
        obtain ⟨s, t, hst⟩ : ∃ s t, ks.getD k kid0 = (s, t) := ⟨_, _, rfl⟩
        rw [hst] at e0 e1
        simp only [k0, k1] at e0 e1
        have HQ1 := Lib.hid (show q = (more key && (s.toList == key.toList)) by
          have e : ks.getD ((k : Nat) : Int).toNat kid0 = (s, t) := hst
          rw [HQ.out, e]; simp)
        clear hst
        by_cases hk : key.toList = []
        · have HQ2 := Lib.hid (show q = false by rw [HQ1.out, more, hk]; rfl)
          go_wp2
          go_meet
          exact ⟨by rw [HQ2.out], rfl⟩
        · have HQ2 := Lib.hid (show q = (s.toList == key.toList) by rw [HQ1.out, more]; simp [hk])
          go_wp2
          go_meet
          exact ⟨by rw [HQ2.out]; simp [hk], rfl⟩
      · have hd : decide (0 ≤ cu) = false := by simpa using h0
        have HQ1 := Lib.hid (show q = false by rw [HQ.out, hd]; rfl)
        clear h0
        go_wp2
        go_meet
        exact ⟨by rw [HQ1.out], rfl⟩
    case rest =>
      obtain ⟨rfl, hw⟩ := hcut
      subst hw
      obtain ⟨p2, hp2⟩ : ∃ p2, p2 = (if q = true then { p0 with take := cu } else planC ks key mode) := ⟨_, rfl⟩
      have HP2 := Lib.hid (And.intro hp2 (show ofS ks key mode = releaseS ks p2 by rw [ofS, ← HCU.out.2, ← HCU.out.1, HL.out, hp2, ← HP0.out]))
      clear hp2
      go_upto_if 30 with fail
      go_cut [] (fun wx => Pn 30 w0 wx P vE (.slice none 0 0) p2)
      case first =>
        cases q
        · have HC2 := Lib.hid (show p2 = planC ks key mode by rw [HP2.out.1]; rfl)
          obtain ⟨p1, hp1⟩ : ∃ p1, p1 = planB ks key mode := ⟨_, rfl⟩
          have HP3 := Lib.hid hp1
          clear hp1
          go_upto_region 5 with fail
          obtain ⟨q2, hq2⟩ : ∃ q2, q2 = decide (0 ≤ cu) := ⟨_, rfl⟩
          have HQ2 := Lib.hid hq2
          clear hq2
          go_cut [36] (fun s wx => s = .bool q2 ∧ wx = wc)
          case first =>
            go_wp2
            go_meet
            exact ⟨by rw [HQ2.out], rfl⟩
          case rest =>
            obtain ⟨rfl, hw⟩ := hcut
            subst hw
            go_upto_if 36 with fail
            go_cut [] (fun wx => Pn 30 w0 wx P vE (.slice none 0 0) p1)
            case first =>
              cases q2
              rotate_left
              · have h0 : 0 ≤ cu := by simpa using HQ2.out.symm
                obtain ⟨k, rfl⟩ : ∃ k : Nat, cu = k := ⟨cu.toNat, by omega⟩
                have hkn : k < n := by have := HK.out h0; omega
                have i2 : (k : Int) < (n : Int) := by omega
                obtain ⟨b, off, rfl, hbB, e0, e1⟩ := HZ.out.2 k hkn
                replace e0 := (HP1.out.below.cell (p := ⟨b, off + k * 2, none⟩) hbB).trans e0
                replace e1 := (HP1.out.below.cell (p := ⟨b, off + k * 2 + 1, none⟩) hbB).trans e1
                obtain ⟨s, t, hst⟩ : ∃ s t, ks.getD k kid0 = (s, t) := ⟨_, _, rfl⟩
                rw [hst] at e0 e1
                simp only [k0, k1] at e0 e1
                have HP5 := Lib.hid (show p1 = { p0 with each := p0.each.set k (goesS t (more key) mode) } by
                  have e : (ks.getD ((k : Nat) : Int).toNat kid0) = (s, t) := hst
                  rw [HP3.out, planB, ← HCU.out.1, if_pos h0, e, HL.out, ← HP0.out]; rfl)
                have hl0 : p0.each.length = n := by rw [HP0.out]; simp [planA]
                obtain ⟨g, cE, hv, y0, y1⟩ := HP1.out.eachAt k (by omega)
                rw [hl0] at hv
                rw [hv] at x0
                have HPl := Lib.hid HP1.out.lt
                have Hb := Lib.hid (World.block_lt_of_cell? wc _ e0)
                have HV := Lib.hid (And.intro hv hl0)
                have n1 : ¬ P = g := fun e => HP1.out.neE (by rw [hv, ← e]; rfl)
                have n2 : ¬ b = g := fun e => by have := (HP1.out.e.lt g (by rw [hv]; rfl)).1; omega
                have n3 : ¬ g = P := fun e => n1 e.symm
                have n4 : ¬ g = b := fun e => n2 e.symm
                clear hst hv hl0 y0
                by_cases hk : key.toList = []
                all_goals (
                  first
                  | (have HM := Lib.hid (show false = more key by rw [more, hk]; rfl); rw [← HM.out] at HP5)
                  | (have HM := Lib.hid (show true = more key by rw [more]; simp [hk]); rw [← HM.out] at HP5; have hk' : key.toList.isEmpty = false := by simpa using hk)
                  go_upto_region 6 with fail
                  go_region_held3 (fun w' => w'.cell? ⟨P, 0, none⟩ = some (.slice (some ⟨g, 0, none⟩) n cE) ∧ w'.cell? ⟨b, off + k * 2, none⟩ = some (.string s) ∧ w'.cell? ⟨b, off + k * 2 + 1, none⟩ = some (.int .i64 t)) (go_keep)
                    (first
                      | (go_at_call 19; ((with_reducible refine (goes_any _ _ _ _ _).mono ?_); rintro e w3 ⟨rfl, hb3⟩; have hb3 := (below_drewN (Below.refl wc.heap.size wc) 1).trans hb3; have z0 := (hb3.cell (p := ⟨P, 0, none⟩) HPl.out).trans x0; have z1 := (hb3.cell (p := ⟨b, off + k * 2, none⟩) Hb.out).trans e0; have z2 := (hb3.cell (p := ⟨b, off + k * 2 + 1, none⟩) Hb.out).trans e1; have HP6 := Lib.hid (HP1.out.keep hb3); have z3 := HP6.out.froz k HV.out.1 HV.out.2; have z4 := HP6.out.elem k HV.out.1 HV.out.2 hkn; clear hb3)))
                  all_goals (go_wp2_with fail; go_meet)
                  all_goals (rw [HP5.out]; exact HP6.out.setEach g cE k _ (by rw [HV.out.2]; exact HV.out.1)))
              · have HP5 := Lib.hid (show p1 = p0 by rw [HP3.out, planB, ← HCU.out.1, if_neg (by simpa using HQ2.out.symm), HL.out, ← HP0.out])
                go_wp2
                go_meet
                rw [HP5.out]; exact HP1.out
            case rest =>
              have hp4 := hcut
              clear hcut x0 x1 x2 x3 f0 f1 f2 f3 HP1
              have HP4 := Lib.hid hp4
              clear hp4
              by_cases hk : key.toList = []
              · have HM := Lib.hid (show p2 = p1 by rw [HC2.out, planC, HP3.out, if_neg (by rw [more, hk]; simp)])
                go_wp2
                go_meet
                rw [HM.out]; exact HP4.out
              · have HM := Lib.hid (show p2 = comeS ks key mode p1 by rw [HC2.out, planC, HP3.out, if_pos (by rw [more]; simp [hk])])
                have hk' : key.toList.isEmpty = false := by simpa using hk
                go_wp2_with fail
                refine (come_any w0 _ P vE _ p1 A n c ks key mode HP4.out HZ.out (by rw [HP3.out, (planB_facts ks key mode).1, HL.out]) hm).mono ?_
                rintro e w3 ⟨rfl, hp3⟩
                go_wp2
                go_meet
                rw [HM.out]; exact hp3
        · have HC2 := Lib.hid (show p2 = { p0 with take := cu } by rw [HP2.out.1]; rfl)
          go_wp2
          go_meet
          rw [HC2.out]
          exact HP1.out.setTake cu
      case rest =>
        clear x0 x1 x2 x3 f0 f1 f2 f3 HP1
        have HP1 := Lib.hid hcut
        clear hcut
        have HF := Lib.hid (show p2.each.length = n ∧ p2.rel = [] ∧ p2.take < n by
          rw [HP2.out.1]
          split
          · refine ⟨by rw [HP0.out]; simp [planA], by rw [HP0.out]; rfl, ?_⟩
            show cu < n
            rw [HCU.out.1, ← HL.out]; exact cur_lt ks
          · have := planC_facts ks key mode
            rw [HL.out] at this
            exact this)
        go_wp2_with fail
        refine (release_any w0 _ P vE _ p2 A n c ks HP1.out HZ.out HF.out.1 hm HF.out.2.2 HF.out.2.1).mono ?_
        rintro e w3 ⟨rfl, vR, hp3⟩
        obtain ⟨p3, hp3'⟩ : ∃ p3, p3 = releaseS ks p2 := ⟨_, rfl⟩
        rw [← hp3'] at hp3
        have HP3 := Lib.hid (HP2.out.2.trans hp3'.symm)
        obtain ⟨A1, c1, hv1⟩ := own_form hp3.e
        obtain ⟨A2, c2, hv2⟩ := own_form hp3.r
        subst hv1 hv2
        obtain ⟨x0, x1, x2, x3⟩ := hp3.cells
        obtain ⟨f0, f1, f2, f3⟩ := hp3.free
        have hR3 := Blk.below HR.out hp3.below HR.out.lt
        have r0 : w3.cell? ⟨w.heap.size, 0, none⟩ = some (.slice none 0 0) := hR3.cell 0
        have r1 : w3.cell? ⟨w.heap.size, 1, none⟩ = some (.int .i64 0) := hR3.cell 1
        have r2 : w3.cell? ⟨w.heap.size, 2, none⟩ = some (.int .i64 0) := hR3.cell 2
        have r3 : w3.cell? ⟨w.heap.size, 3, none⟩ = some (.slice none 0 0) := hR3.cell 3
        have s0 := hR3.frozen 0
        have s1 := hR3.frozen 1
        have s2 := hR3.frozen 2
        have s3 := hR3.frozen 3
        have HP4 := Lib.hid hp3
        have HR4 := Lib.hid hR3
        clear hp3' hp3 hR3
        go_wp2
        refine bodyPost_ret (v := .agg #[.slice A1 p3.each.length c1, .int .i64 p3.take, .int .i64 p3.start, .slice A2 p3.rel.length c2]) (by simp [results, Try.results10, go_sem, r0, r1, r2, r3]) rfl ?_
        rw [HP3.out]
        have hB := (HB0.out.trans (HP4.out.below.mono HB0.out.size))
        have hs := HR.out.lt
        have gr := fun (a b c d : Nat) (va vb vc vd : Value) => only_set (only_set (only_set (only_set (World.grownBy.refl w3 (some w.heap.size)) a va) b vb) c vc) d vd
        exact ⟨A1, c1, A2, c2, rfl, own_base (HP4.out.e.kept (gr _ _ _ _ _ _ _ _) (.inr (own_nil_or HP4.out.e _ hs))) HB0.out.size, own_base (HP4.out.r.kept (gr _ _ _ _ _ _ _ _) (.inr (own_nil_or HP4.out.r _ hs))) HB0.out.size,
          (((hB.setCell (p := ⟨w.heap.size, _, none⟩) (Nat.le_refl _) _).setCell (p := ⟨w.heap.size, _, none⟩) (Nat.le_refl _) _).setCell (p := ⟨w.heap.size, _, none⟩) (Nat.le_refl _) _).setCell (p := ⟨w.heap.size, _, none⟩) (Nat.le_refl _) _⟩

end Go.Proofs.Ytkiaaaehakjhjaa
