/-
  The walks over slot's plan: others, come.
-/
import Derived.Test.YtkiaaaehakjhjaaSlotPlan
import Derived.Deep.RegionHeld
namespace Go.Proofs.Ytkiaaaehakjhjaa
open Go.RowKit
attribute [local go_sem ↓] Go.wp_at_zero Go.wp_at_succ

/-- Is that one another? -/
def otherB (each : List Int) (ks : List Kid) (i : Nat) : Bool := each.getD i 0 == 1 || (ghostB (ks.getD i kid0).2 && each.getD i 0 == 0)
def othersS (each : List Int) (ks : List Kid) : Bool := (List.range ks.length).any (otherB each ks)
theorem othersS_yes {each : List Int} {ks : List Kid} (k : Nat) (hk : k < ks.length) (h : otherB each ks k = true) : othersS each ks = true := by
  rw [othersS, List.any_eq_true]
  exact ⟨k, List.mem_range.2 hk, h⟩
theorem othersS_no {each : List Int} {ks : List Kid} (h : ∀ k, k < ks.length → otherB each ks k = false) : othersS each ks = false := by
  rw [othersS, List.any_eq_false]
  intro k hk
  simp [h k (List.mem_range.1 hk)]

set_option maxHeartbeats 4000000 in
theorem others_any (w wx : World) (P : Nat) (vE vR : Value) (p : PlanS) (A : Option Addr) (n c : Nat) (ks : List Kid) (hp : Pn 30 w wx P vE vR p) (hz : Kids wx wx.heap.size A n ks) (hn : p.each.length = n) (hm : n ≤ 15) :
    Calls Try.prog 29 #[.pointer (some ⟨P, 0, none⟩), .slice A n c] wx fun e w' => e = .returned (.bool (othersS p.each ks)) ∧ Below wx.heap.size wx w' := by
  obtain ⟨r, hr⟩ : ∃ r, r = othersS p.each ks := ⟨_, rfl⟩
  rw [← hr]
  have HZ := Lib.hid (And.intro hz (And.intro hr (And.intro hn hp)))
  clear hz hr hn hp
  go_enter Try.func29, Try.ntmps29
  go_wp2_with fail
  go_loopw [9] (fun i wr => ∃ k : Nat, k ≤ n ∧ i = .int .i64 k ∧ Hid (∀ j, j < k → otherB p.each ks j = false) ∧ Below wx.heap.size wx wr) (fun i _ => n - (intOf i).toNat)
  case atStart => exact ⟨0, Nat.zero_le _, rfl, fun j hj => by omega, Below.refl _ _⟩
  case round =>
    obtain ⟨k, hk, rfl, hH, hb⟩ := hrel
    by_cases hlt : k < n
    · obtain ⟨b, off, rfl, hbB, e0, e1⟩ := HZ.out.1.2 k hlt
      replace e0 := (hb.cell (p := ⟨b, off + k * 2, none⟩) hbB).trans e0
      replace e1 := (hb.cell (p := ⟨b, off + k * 2 + 1, none⟩) hbB).trans e1
      obtain ⟨s, t, hst⟩ : ∃ s t, ks.getD k kid0 = (s, t) := ⟨_, _, rfl⟩
      rw [hst] at e0 e1
      simp only [k0, k1] at e0 e1
      have i1 : (0 : Int) ≤ (k : Int) := by omega
      have i2 : (k : Int) < (n : Int) := by omega
      have hpw := HZ.out.2.2.2.keep hb
      obtain ⟨x0, x1, x2, x3⟩ := hpw.cells
      obtain ⟨g, cE, hv, y0, _⟩ := hpw.eachAt k (by have := HZ.out.2.2.1; omega)
      rw [HZ.out.2.2.1] at hv
      rw [hv] at x0
      obtain ⟨x, hx⟩ : ∃ x, x = p.each.getD k 0 := ⟨_, rfl⟩
      rw [← hx] at y0
      have x0' := (World.cell?_alloc_some wr ⟨P, 0, none⟩ (.cells #[.string s, .int .i64 t] 47) (by simp [x0])).trans x0
      have y0' := (World.cell?_alloc_some wr ⟨g, k, none⟩ (.cells #[.string s, .int .i64 t] 47) (by simp [y0])).trans y0
      have HB := Lib.hid (hb.alloc hb.size (.cells #[.string s, .int .i64 t] 47))
      have HP1 := Lib.hid (hpw.alloc (.cells #[.string s, .int .i64 t] 47))
      have HK := Lib.hid (show otherB p.each ks k = (x == 1 || (ghostB t && x == 0)) by rw [otherB, hst, hx])
      have HV := Lib.hid (And.intro hx hv)
      clear hb hst hpw hx x1 x2 x3
      by_cases h1 : x = 1
      · have HR := Lib.hid (show r = true by rw [HZ.out.2.1]; exact othersS_yes k (by have := HZ.out.1.1; omega) (by rw [HK.out, h1]; rfl))
        subst h1
        go_wp2
        go_ret
        exact ⟨by rw [HR.out]; rfl, HB.out⟩
      · have g1 := beq_no h1
        have HK1 := Lib.hid (show otherB p.each ks k = (ghostB t && x == 0) by rw [HK.out, g1]; rfl)
        clear h1
        go_wp2_with fail
        refine (kghost_any _ _ _).mono ?_
        rintro e w1 ⟨rfl, hb1⟩
        have hp1 := HP1.out.keep hb1
        obtain ⟨x0, x1, x2, x3⟩ := hp1.cells
        obtain ⟨g', cE', hv', y0, _⟩ := hp1.eachAt k (by have := HZ.out.2.2.1; omega)
        rw [HV.out.2] at hv' x0
        obtain rfl := slice_block hv'
        clear hv'
        rw [← HV.out.1] at y0
        have HB1 := Lib.hid (HB.out.trans (hb1.mono HB.out.size))
        clear hb1 hp1 x0' y0' x1 x2 x3
        obtain ⟨q, hq⟩ : ∃ q, q = ghostB t := ⟨_, rfl⟩
        rw [← hq]
        have HQ := Lib.hid (show otherB p.each ks k = (q && x == 0) by rw [HK1.out, hq])
        clear hq
        cases q
        · go_wp2
          go_roundw
          case rel => exact ⟨k + 1, by omega, by go_num, fun j hj => by
            by_cases h : j = k
            · rw [h]; exact HQ.out
            · exact hH.out j (by omega), HB1.out⟩
          case measure => simp [intOf]; omega
        · by_cases h0 : x = 0
          · have HR := Lib.hid (show r = true by rw [HZ.out.2.1]; exact othersS_yes k (by have := HZ.out.1.1; omega) (by rw [HQ.out, h0]; rfl))
            subst h0
            go_wp2
            go_ret
            exact ⟨by rw [HR.out]; rfl, HB1.out⟩
          · have g0 := beq_no h0
            have HQ1 := Lib.hid (show otherB p.each ks k = false by rw [HQ.out, g0]; rfl)
            clear h0
            go_wp2
            go_roundw
            case rel => exact ⟨k + 1, by omega, by go_num, fun j hj => by
              by_cases h : j = k
              · rw [h]; exact HQ1.out
              · exact hH.out j (by omega), HB1.out⟩
            case measure => simp [intOf]; omega
    · have HR := Lib.hid (show r = false by rw [HZ.out.2.1]; exact othersS_no (fun j hj => hH.out j (by have := HZ.out.1.1; omega)))
      have HB := Lib.hid hb
      clear hb
      go_wp2
      go_ret
      exact ⟨by rw [HR.out]; rfl, HB.out⟩

end Go.Proofs.Ytkiaaaehakjhjaa
