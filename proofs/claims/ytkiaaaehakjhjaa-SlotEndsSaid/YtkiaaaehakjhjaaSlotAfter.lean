/-
  The walk over after: the kids behind a plan.
-/
import Derived.Test.YtkiaaaehakjhjaaSlotOf
import Derived.Maps.Own
import Derived.Maps.OwnOps
import Derived.Maps.Views
namespace Go.Proofs.Ytkiaaaehakjhjaa
open Go.RowKit Go.Maps
attribute [local go_sem ↓] Go.wp_at_zero Go.wp_at_succ

/-- How one that starts is then. -/
def startK (s : Int) : Int := if s = 1 then 2 else if s = 2 then 1 else 0
def kind1 (p : PlanS) (i : Nat) (t : Int) : Int := if p.each.getD i 0 = 1 then 5 else if p.each.getD i 0 = 2 then 4 else if p.each.getD i 0 = 4 then startK p.start else t
def relAny (p : PlanS) (i j : Nat) : Bool := (p.rel.take j).any fun r => r == (i : Int)
def inRel (p : PlanS) (i : Nat) : Bool := p.rel.any fun r => r == (i : Int)
def kindOf (p : PlanS) (i : Nat) (t : Int) : Int := if inRel p i = true then 6 else kind1 p i t
def keptB (p : PlanS) (i : Nat) : Bool := !(p.each.getD i 0 == 3)
def kidTo (ks : List Kid) (p : PlanS) (i : Nat) : Kid := ((ks.getD i kid0).1, kindOf p i (ks.getD i kid0).2)
def afterTo (ks : List Kid) (p : PlanS) (k : Nat) : List Kid := ((List.range k).filter (keptB p)).map (kidTo ks p)
def afterS (ks : List Kid) (key : ByteArray) (p : PlanS) : List Kid := if p.take = -1 then afterTo ks p ks.length ++ [(key, startK p.start)] else afterTo ks p ks.length
theorem afterTo_succ (ks : List Kid) (p : PlanS) (k : Nat) : afterTo ks p (k + 1) = if keptB p k = true then afterTo ks p k ++ [kidTo ks p k] else afterTo ks p k := by
  rw [afterTo, afterTo, List.range_succ, List.filter_append]
  cases h : keptB p k <;> simp [List.filter, h]
theorem afterTo_len (ks : List Kid) (p : PlanS) (k : Nat) : (afterTo ks p k).length ≤ k := by
  rw [afterTo, List.length_map]
  exact Nat.le_trans (List.length_filter_le _ _) (by simp)
theorem relAny_succ (p : PlanS) (i j : Nat) (hj : j < p.rel.length) : relAny p i (j + 1) = (relAny p i j || p.rel.getD j 0 == (i : Int)) := by
  rw [relAny, relAny, take_snoc p.rel 0 j hj, List.any_append]
  simp
theorem relAny_end (p : PlanS) (i j : Nat) (hj : p.rel.length ≤ j) : relAny p i j = inRel p i := by
  rw [relAny, inRel, List.take_of_length_le hj]

theorem law_int : Keyed Try.prog 3 := int_keyed Try.underlying3
theorem zero_int (w : World) : (zeroValue 3).run Try.prog w = .ok (.int .i64 0) w := by kernel_rfl
/-- The map of starts. -/
def startM : DataW Unit := ((DataW.map []).put (.int .i64 1) (.lit (.int .i64 2))).put (.int .i64 2) (.lit (.int .i64 1))
theorem startM_at (s : Int) (h : s = 0 ∨ s = 1 ∨ s = 2) : startM.atKey (.int .i64 s) (.lit (.int .i64 0)) = .lit (.int .i64 (startK s)) := by
  rcases h with rfl | rfl | rfl <;> rfl
def OwnStarts (w : World) (M : Nat) : Prop := w.ownsMap Try.prog 3 (plainElem (H := Unit) Try.prog 3) M 2 startM
theorem OwnStarts.below {w w' : World} {M : Nat} (h : OwnStarts w M) (hb : Below w.heap.size w w') : OwnStarts w' M := World.ownsMap.kept h (only_of_below hb none) (by simp)
theorem OwnStarts.look {w : World} {M : Nat} (h : OwnStarts w M) (s : Int) (hs : s = 0 ∨ s = 1 ∨ s = 2) : (Instr.lookup 54 (.map (some M)) (.int .i64 s) false).run Try.prog w = .ok (.int .i64 (startK s)) w := by
  obtain ⟨c, hrun, hat, _⟩ := World.ownsMap.lookup_int h law_int Try.underlying54 Try.underlying3 (zero_int w) (key := .int .i64 s) (keyOf_int_mk Try.underlying3 (by rcases hs with rfl | rfl | rfl <;> rfl))
  rw [startM_at s hs] at hat
  injection hat with hat
  injection hat with _ hat
  rw [hrun, ← hat]

def AfterPost (w : World) (l : List Kid) (e : Ending) (w' : World) : Prop :=
  ∃ A c, e = .returned (.tuple #[.slice A l.length c, .bool true]) ∧ w'.ownsRow w.heap.size 41 2 (.slice A l.length c) l.length (flatK l) ∧ Below w.heap.size w w'

set_option maxRecDepth 100000 in
set_option maxHeartbeats 16000000 in
theorem after_any (A A1 A2 : Option Addr) (n c c1 m c2 : Nat) (ks : List Kid) (key : ByteArray) (p : PlanS) (w : World) (hz : Kids w w.heap.size A n ks) (hE : Nums w w.heap.size A1 n p.each) (hR : Nums w w.heap.size A2 m p.rel) (hn : n ≤ 15) (hm : m ≤ 15) (hs : p.start = 0 ∨ p.start = 1 ∨ p.start = 2) :
    Calls Try.prog 13 #[.slice A n c, .string key, .agg #[.slice A1 n c1, .int .i64 p.take, .int .i64 p.start, .slice A2 m c2]] w (AfterPost w (afterS ks key p)) := by
  have HZ := Lib.hid (And.intro hz (And.intro hE hR))
  clear hz hE hR
  obtain ⟨tr, hi, hz0, hz1, hz2⟩ := info_parts ref_info
  obtain ⟨tk, htk⟩ : ∃ tk, tk = p.take := ⟨_, rfl⟩
  obtain ⟨st, hst⟩ : ∃ st, st = p.start := ⟨_, rfl⟩
  rw [← htk, ← hst]
  have HT := Lib.hid (And.intro htk (And.intro hst hs))
  clear htk hst hs
  have hmm := @run_makeMap Try.prog
  go_enter Try.func13, Try.ntmps13
  go_upto_region 4 with fail
  have hbx := Blk.new w 30 #[.slice A1 n c1, .int .i64 tk, .int .i64 st, .slice A2 m c2]
  have hb0 := (Below.refl w.heap.size w).alloc (Nat.le_refl _) (.cells #[.slice A1 n c1, .int .i64 tk, .int .i64 st, .slice A2 m c2] 30)
  obtain ⟨w0, hw0⟩ : ∃ w0, w0 = w.alloc (.cells #[.slice A1 n c1, .int .i64 tk, .int .i64 st, .slice A2 m c2] 30) := ⟨_, rfl⟩
  rw [← hw0] at hbx hb0 ⊢
  obtain ⟨P, hP⟩ : ∃ P, P = w.heap.size := ⟨_, rfl⟩
  have HPs := Lib.hid hP
  rw [← hP] at hbx ⊢
  have H0 := Lib.hid (And.intro hbx hb0)
  clear hw0 hP hbx hb0
  go_cut [9] (fun s wx => ∃ M, s = .map (some M) ∧ OwnStarts wx M ∧ Below w0.heap.size w0 wx)
  case first =>
    have hM := World.ownsMap_made (H := Unit) w0 Try.prog 3 (plainElem Try.prog 3)
    obtain ⟨wB, hrun1, hM1, hg1⟩ := hM.update law_int Try.underlying54 (by unfold maxLen; omega) (key := .int .i64 1) (val := .int .i64 2) (kl := .int .i64 1) (keyOf_int_mk Try.underlying3 rfl) (plainElem_int Try.underlying3 rfl)
    obtain ⟨wC, hrun2, hM2, hg2⟩ := hM1.update law_int Try.underlying54 (by unfold maxLen; omega) (key := .int .i64 2) (val := .int .i64 1) (kl := .int .i64 2) (keyOf_int_mk Try.underlying3 rfl) (plainElem_int Try.underlying3 rfl)
    have hbC := (((Below.refl w0.heap.size w0).alloc (Nat.le_refl _) (.map #[] 0)).grown hg1 (by simp) (fun k hk => by cases hk; exact Nat.le_refl _)).grown hg2 (Nat.le_trans (by simp) hg1.size) (fun k hk => by cases hk; exact Nat.le_refl _)
    have HM := Lib.hid (And.intro (show OwnStarts wC w0.heap.size from hM2) hbC)
    clear hM hM1 hM2 hg1 hg2 hbC
    go_wp2
    go_meet
    exact ⟨_, rfl, HM.out.1, HM.out.2⟩
  case rest =>
    obtain ⟨M, rfl, hM, hbm⟩ := hcut
    obtain ⟨wm, hwm⟩ : ∃ wm, wm = wc := ⟨_, rfl⟩
    rw [← hwm] at hM hbm ⊢
    clear hwm hmm
    have hbx := H0.out.1.below hbm H0.out.1.lt
    have HX := Lib.hid (And.intro hbx (And.intro hM (H0.out.2.trans (hbm.mono H0.out.2.size))))
    clear hbx hM hbm
    go_wp2_with fail
    go_loopw [8, 24] (fun vo i wr => ∃ k : Nat, k ≤ n ∧ i = .int .i64 k ∧ wr.ownsRow wm.heap.size 41 2 vo (afterTo ks p k).length (flatK (afterTo ks p k)) ∧ Below wm.heap.size wm wr) (fun _ i _ => n - (intOf i).toNat)
    case atStart => exact ⟨0, Nat.zero_le _, rfl, World.ownsRow_nil _ _ _ _, Below.refl _ _⟩
    case round =>
      obtain ⟨k, hk, rfl, hown, hb⟩ := hrel
      obtain ⟨vo, hvo⟩ : ∃ vo, vo = u8 := ⟨_, rfl⟩
      rw [← hvo] at hown ⊢
      clear hvo
      obtain ⟨l, hl⟩ : ∃ l, l = afterTo ks p k := ⟨_, rfl⟩
      rw [← hl] at hown
      have hll : l.length ≤ k := by rw [hl]; exact afterTo_len ks p k
      have hbx := HX.out.1.below hb HX.out.1.lt
      have hMw := HX.out.2.1.below hb
      have hbw := HX.out.2.2.trans (hb.mono HX.out.2.2.size)
      by_cases hlt : k < n
      · obtain ⟨b, off, rfl, hbB, e0, e1⟩ := HZ.out.1.2 k hlt
        obtain ⟨b2, off2, rfl, hbB2, d0⟩ := HZ.out.2.1.2 k hlt
        replace e0 := (hbw.cell (p := ⟨b, off + k * 2, none⟩) hbB).trans e0
        replace e1 := (hbw.cell (p := ⟨b, off + k * 2 + 1, none⟩) hbB).trans e1
        replace d0 := (hbw.cell (p := ⟨b2, off2 + k, none⟩) hbB2).trans d0
        obtain ⟨s, t, hst⟩ : ∃ s t, ks.getD k kid0 = (s, t) := ⟨_, _, rfl⟩
        rw [hst] at e0 e1
        simp only [k0, k1] at e0 e1
        obtain ⟨x, hx⟩ : ∃ x, x = p.each.getD k 0 := ⟨_, rfl⟩
        rw [← hx] at d0
        have i1 : (0 : Int) ≤ (k : Int) := by omega
        have i2 : (k : Int) < (n : Int) := by omega
        have HA := Lib.hid (afterTo_succ ks p k)
        rw [← hl] at HA
        have HKT := Lib.hid (show keptB p k = !(x == 3) by rw [keptB, hx])
        have HKD := Lib.hid (show kidTo ks p k = (s, kindOf p k t) by rw [kidTo, hst])
        have HK1 := Lib.hid (show kind1 p k t = if x = 1 then 5 else if x = 2 then 4 else if x = 4 then startK st else t by rw [kind1, ← hx, HT.out.2.1])
        have x0 : wr.cell? ⟨P, 0, none⟩ = some (.slice (some ⟨b2, off2, none⟩) n c1) := hbx.cell 0
        have x2 : wr.cell? ⟨P, 2, none⟩ = some (.int .i64 st) := hbx.cell 2
        have x3 : wr.cell? ⟨P, 3, none⟩ = some (.slice A2 m c2) := hbx.cell 3
        have HO := Lib.hid (And.intro hown (And.intro hb hbw))
        have hlk := hMw.look st (by rw [HT.out.2.1]; exact HT.out.2.2)
        have HM := Lib.hid hMw
        have HBX := Lib.hid hbx
        clear hst hx hl hown hb hbw hMw hbx hlk
        go_upto_region 8 with fail
        have hbw2 := HO.out.2.1.alloc HO.out.2.1.size (.cells #[.string s, .int .i64 t] 41)
        have hblB := Blk.new wr 41 #[.string s, .int .i64 t]
        have hown2 := HO.out.1.alloc (.cells #[.string s, .int .i64 t] 41)
        have hMw2 := HM.out.below ((Below.refl _ _).alloc (Nat.le_refl _) (.cells #[.string s, .int .i64 t] 41))
        have hbx2 := HBX.out.alloc (.cells #[.string s, .int .i64 t] 41)
        have hd2 := ((Below.refl wr.heap.size wr).alloc (Nat.le_refl _) (.cells #[.string s, .int .i64 t] 41)).cell (p := ⟨b2, off2 + k, none⟩) (World.block_lt_of_cell? wr _ d0)
        obtain ⟨wo, hwo⟩ : ∃ wo, wo = wr.alloc (.cells #[.string s, .int .i64 t] 41) := ⟨_, rfl⟩
        obtain ⟨B, hB⟩ : ∃ B, B = wr.heap.size := ⟨_, rfl⟩
        have hne : vo.ownBlock ≠ some B := fun e => by have := (HO.out.1.lt B e).2; omega
        have hPB : ¬ P = B := by have := HBX.out.lt; omega
        have hBw : wm.heap.size ≤ B := by rw [hB]; exact HO.out.2.1.size
        rw [← hwo] at hbw2 hblB hown2 hMw2 hbx2 hd2 ⊢
        rw [← hB] at hblB ⊢
        replace d0 := hd2.trans d0
        have HN := Lib.hid (And.intro hne (And.intro hPB hBw))
        clear e0 e1 hwo hB HM HBX HO hne hPB hBw hd2 x0 x2 x3
        have x0 : wo.cell? ⟨P, 0, none⟩ = some (.slice (some ⟨b2, off2, none⟩) n c1) := hbx2.cell 0
        have x2 : wo.cell? ⟨P, 2, none⟩ = some (.int .i64 st) := hbx2.cell 2
        have x3 : wo.cell? ⟨P, 3, none⟩ = some (.slice A2 m c2) := hbx2.cell 3
        have y0 : wo.cell? ⟨B, 0, none⟩ = some (.string s) := hblB.cell 0
        have y1 : wo.cell? ⟨B, 1, none⟩ = some (.int .i64 t) := hblB.cell 1
        have y2 : wo.frozen? ⟨B, 1, none⟩ = false := hblB.frozen 1
        have hlk := hMw2.look st (by rw [HT.out.2.1]; exact HT.out.2.2)
        have HO := Lib.hid (And.intro hown2 (And.intro hbw2 (And.intro hblB (And.intro hMw2 hbx2))))
        clear hown2 hbw2 hblB hMw2 hbx2
        by_cases h3 : x = 3
        · have HA1 := Lib.hid (show afterTo ks p (k + 1) = l by rw [HA.out, HKT.out, h3]; rfl)
          subst h3
          go_wp2
          go_roundw
          case rel => exact ⟨k + 1, by omega, by go_num, by rw [HA1.out]; exact HO.out.1, HO.out.2.1⟩
          case measure => simp [intOf]; omega
        · have g3 := beq_no h3
          have HA1 := Lib.hid (show afterTo ks p (k + 1) = l ++ [(s, kindOf p k t)] by rw [HA.out, HKT.out, g3, HKD.out]; rfl)
          obtain ⟨t1, ht1⟩ : ∃ t1, t1 = kind1 p k t := ⟨_, rfl⟩
          rw [← ht1] at HK1
          have HT1 := Lib.hid ht1
          clear h3 ht1 HA HKT HKD
          go_cut [33] (fun s wx => s = .int .i64 x ∧ wx = wo)
          case first =>
            go_wp2
            go_meet
            exact ⟨rfl, rfl⟩
          case rest =>
          obtain ⟨rfl, hw⟩ := hcut
          subst hw
          go_step
          go_cut [] (fun wx => wx.cell? ⟨P, 3, none⟩ = some (.slice A2 m c2) ∧ wx.ownsRow wm.heap.size 41 2 vo l.length (flatK l) ∧ Below wm.heap.size wm wx ∧ Blk wx B 41 #[.string s, .int .i64 t1])
          case first =>
            have HSET := Lib.hid (show ∀ v : Int, (wc.setCell ⟨B, 1, none⟩ (.int .i64 v)).cell? ⟨P, 3, none⟩ = some (.slice A2 m c2) ∧ (wc.setCell ⟨B, 1, none⟩ (.int .i64 v)).ownsRow wm.heap.size 41 2 vo l.length (flatK l) ∧ Below wm.heap.size wm (wc.setCell ⟨B, 1, none⟩ (.int .i64 v)) ∧ Blk (wc.setCell ⟨B, 1, none⟩ (.int .i64 v)) B 41 #[.string s, .int .i64 v] from fun v =>
              ⟨(HO.out.2.2.2.2.far (p := ⟨B, 1, none⟩) HN.out.2.1 _).cell 3, HO.out.1.kept (row := some B) (only_set (World.grownBy.refl wc _) 1 _) (.inr HN.out.1), HO.out.2.1.setCell (p := ⟨B, 1, none⟩) HN.out.2.2 _, HO.out.2.2.1.set_ 1 _⟩)
            by_cases h1 : x = 1
            · have HK2 := Lib.hid (show t1 = 5 by rw [HK1.out, if_pos h1])
              subst h1
              go_wp2
              go_meet
              rw [HK2.out]; exact HSET.out 5
            · have g1 := beq_no h1
              by_cases h2 : x = 2
              · have HK2 := Lib.hid (show t1 = 4 by rw [HK1.out, if_neg h1, if_pos h2])
                subst h2
                clear h1 g1
                go_wp2
                go_meet
                rw [HK2.out]; exact HSET.out 4
              · have g2 := beq_no h2
                by_cases h4 : x = 4
                · have HK2 := Lib.hid (show t1 = startK st by rw [HK1.out, if_neg h1, if_neg h2, if_pos h4])
                  subst h4
                  clear h1 g1 h2 g2
                  go_wp2
                  go_meet
                  rw [HK2.out]; exact HSET.out _
                · have g4 := beq_no h4
                  have HK2 := Lib.hid (show t1 = t by rw [HK1.out, if_neg h1, if_neg h2, if_neg h4])
                  clear h1 h2 h4
                  go_wp2
                  go_meet
                  rw [HK2.out]; exact ⟨x3, HO.out.1, HO.out.2.1, HO.out.2.2.1⟩
          case rest =>
            obtain ⟨z3, hown, hb, hblk⟩ := hcut
            obtain ⟨wo, rfl⟩ : ∃ wo : World, wo = wc := ⟨_, rfl⟩
            have HI := Lib.hid (And.intro hown (And.intro hb hblk))
            clear x0 x2 x3 y0 y1 y2 hlk d0 hown hb hblk HO
            go_wp2_with fail
            go_loopw [52] (fun i wr => ∃ j : Nat, j ≤ m ∧ i = .int .i64 j ∧ wr.ownsRow wm.heap.size 41 2 vo l.length (flatK l) ∧ Below wm.heap.size wm wr ∧ Blk wr B 41 #[.string s, .int .i64 (if relAny p k j = true then 6 else t1)]) (fun i _ => m - (intOf i).toNat)
            case atStart => exact ⟨0, Nat.zero_le _, rfl, HI.out.1, HI.out.2.1, HI.out.2.2⟩
            case round =>
              obtain ⟨j, hj, rfl, hown, hb, hblk⟩ := hrel
              by_cases hlt2 : j < m
              · obtain ⟨b3, off3, rfl, hbB3, d3⟩ := HZ.out.2.2.2 j hlt2
                replace d3 := ((HX.out.2.2.trans (hb.mono HX.out.2.2.size)).cell (p := ⟨b3, off3 + j, none⟩) hbB3).trans d3
                obtain ⟨r, hr⟩ : ∃ r, r = p.rel.getD j 0 := ⟨_, rfl⟩
                rw [← hr] at d3
                have HRA := Lib.hid (show relAny p k (j + 1) = (relAny p k j || r == (k : Int)) by rw [relAny_succ p k j (by have := HZ.out.2.2.1; omega), hr])
                have j1 : (0 : Int) ≤ (j : Int) := by omega
                have j2 : (j : Int) < (m : Int) := by omega
                have y1 := hblk.cell 1
                have y2 := hblk.frozen 1
                have HJ := Lib.hid (And.intro hown (And.intro hb hblk))
                clear hr hown hb hblk
                by_cases hrk : r = (k : Int)
                · have HRB := Lib.hid (show relAny p k (j + 1) = true by rw [HRA.out, hrk]; simp)
                  subst hrk
                  go_wp2
                  go_roundw
                  case rel => exact ⟨j + 1, by omega, by go_num, HJ.out.1.kept (row := some B) (only_set (World.grownBy.refl wr _) 1 _) (.inr HN.out.1), HJ.out.2.1.setCell (p := ⟨B, 1, none⟩) HN.out.2.2 _, by rw [HRB.out, if_pos rfl]; exact HJ.out.2.2.set_ 1 _⟩
                  case measure => simp [intOf]; omega
                · have HRB := Lib.hid (show relAny p k (j + 1) = relAny p k j by rw [HRA.out]; simp [hrk])
                  have grk := beq_no hrk
                  clear hrk
                  go_wp2
                  go_roundw
                  case rel => exact ⟨j + 1, by omega, by go_num, HJ.out.1, HJ.out.2.1, by rw [HRB.out]; exact HJ.out.2.2⟩
                  case measure => simp [intOf]; omega
              · obtain rfl : j = m := by omega
                have HKF := Lib.hid (show (if relAny p k j = true then 6 else t1) = kindOf p k t by rw [relAny_end p k j (by have := HZ.out.2.2.1; omega), kindOf, HT1.out])
                obtain ⟨t2, ht2⟩ : ∃ t2, t2 = kindOf p k t := ⟨_, rfl⟩
                rw [HKF.out, ← ht2] at hblk
                rw [← ht2] at HA1
                clear ht2
                have y0 : wr.cell? ⟨B, 0, none⟩ = some (.string s) := hblk.cell 0
                have y1 : wr.cell? ⟨B, 1, none⟩ = some (.int .i64 t2) := hblk.cell 1
                have HJ := Lib.hid (And.intro hown hb)
                clear hown hb hblk z3
                go_wp2_with (first
                  | (at_builtin; refine wpList_append_lies _ rfl _ _ _ rfl wm.heap.size 41 tr _ 2 24 Try.underlying22 hi hz0 hz1 hz2 rfl (by decide) _ l.length (flatK l) rfl (HJ.out.1.alloc _) _ 1 1 [.string s, .int .i64 t2] rfl rfl (World.news_of_block (heap_alloc_new _ _)) (by intro u hu; simp at hu; rcases hu with rfl | rfl <;> rfl) (by omega) (by unfold maxLen; omega) (by omega) (by have := HJ.out.2.size; simp; omega) _ rfl ?_; intro g2 cap2 w2 hown2 hg2 hat2 hlt2; have HW := Lib.hid (And.intro hown2 ((HJ.out.2.alloc HJ.out.2.size _).grown hg2 (HJ.out.2.alloc HJ.out.2.size _).size (fun j hj => (HJ.out.1.lt j hj).1))); clear hown2 hg2 hat2 hlt2))
                go_roundw
                case rel => exact ⟨k + 1, by omega, by go_num, by rw [HA1.out, flatK_snoc, List.length_append]; exact HW.out.1, HW.out.2⟩
                case measure => simp [intOf]; omega
      · obtain rfl : k = n := by omega
        have HE := Lib.hid (show afterS ks key p = if tk = -1 then l ++ [(key, startK st)] else l by rw [afterS, HZ.out.1.1, ← hl, HT.out.1, HT.out.2.1])
        have x1 : wr.cell? ⟨P, 1, none⟩ = some (.int .i64 tk) := hbx.cell 1
        have x2 : wr.cell? ⟨P, 2, none⟩ = some (.int .i64 st) := hbx.cell 2
        have hlk := hMw.look st (by rw [HT.out.2.1]; exact HT.out.2.2)
        have HO := Lib.hid (And.intro hown (And.intro hb hbw))
        have hMl := HX.out.2.2.size
        have hsz := hb.size
        obtain ⟨A3, c3, hv⟩ := own_form hown
        subst hv
        clear hl hown hb hbw hMw hbx
        by_cases h1 : tk = -1
        · have HE1 := Lib.hid (show afterS ks key p = l ++ [(key, startK st)] by rw [HE.out, if_pos h1])
          subst h1
          go_wp2_with (first
            | (at_builtin; refine wpList_append_lies _ rfl _ _ _ rfl wm.heap.size 41 tr _ 2 24 Try.underlying22 hi hz0 hz1 hz2 rfl (by decide) _ l.length (flatK l) rfl (HO.out.1.alloc _) _ 1 1 [.string key, .int .i64 (startK st)] rfl rfl (World.news_of_block (heap_alloc_new _ _)) (by intro u hu; simp at hu; rcases hu with rfl | rfl <;> rfl) (by omega) (by unfold maxLen; omega) (by omega) (by simp; omega) _ rfl ?_; intro g2 cap2 w2 hown2 hg2 hat2 hlt2; have HW := Lib.hid (And.intro hown2 ((HO.out.2.1.alloc HO.out.2.1.size _).grown hg2 (HO.out.2.1.alloc HO.out.2.1.size _).size (fun j hj => (HO.out.1.lt j hj).1))); clear hown2 hg2 hat2 hlt2))
          refine bodyPost_ret (v := .tuple #[.slice (some ⟨g2, 0, none⟩) (l.length + 1) cap2, .bool true]) (by simp [results, Try.results13, go_sem]) rfl ?_
          rw [HE1.out]
          refine ⟨some ⟨g2, 0, none⟩, cap2, by simp, ?_, HX.out.2.2.trans (HW.out.2.mono hMl)⟩
          rw [flatK_snoc, List.length_append]
          exact own_base HW.out.1 hMl
        · have HE1 := Lib.hid (show afterS ks key p = l by rw [HE.out, if_neg h1])
          have g1 := beq_no h1
          clear h1
          go_wp2
          refine bodyPost_ret (v := .tuple #[.slice A3 l.length c3, .bool true]) (by simp [results, Try.results13, go_sem]) rfl ?_
          rw [HE1.out]
          exact ⟨A3, c3, rfl, own_base HO.out.1 hMl, HO.out.2.2⟩

end Go.Proofs.Ytkiaaaehakjhjaa
