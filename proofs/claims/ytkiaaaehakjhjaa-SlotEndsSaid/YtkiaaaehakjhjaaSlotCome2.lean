/-
  The walk over slot's come. (Written by gen_come.py.)
-/
import Derived.Test.YtkiaaaehakjhjaaSlotCome
namespace Go.Proofs.Ytkiaaaehakjhjaa
open Go.RowKit
attribute [local go_sem ↓] Go.wp_at_zero Go.wp_at_succ

theorem kids_at {w wx : World} {A : Option Addr} {n : Nat} {ks : List Kid} (hz : Kids w w.heap.size A n ks) (hb : Below w.heap.size w wx) : Kids wx wx.heap.size A n ks := (hz.below hb).more hb.size

/-- How one starts that comes. -/
def startS (mode : Int) (each : List Int) (ks : List Kid) : Int := if mode = 1 ∧ othersS each ks = true then 2 else 1
/-- What come makes of a plan. -/
def comeS (ks : List Kid) (key : ByteArray) (mode : Int) (p : PlanS) : PlanS :=
  if firstAt (same key) ks < 0 then { p with take := -1, start := startS mode p.each ks }
  else if (ks.getD (firstAt (same key) ks).toNat kid0).2 = 4 then { p with take := firstAt (same key) ks, each := p.each.set (firstAt (same key) ks).toNat 4 }
  else { p with take := firstAt (same key) ks, each := p.each.set (firstAt (same key) ks).toNat 4, start := startS mode (p.each.set (firstAt (same key) ks).toNat 4) ks }

set_option maxHeartbeats 4000000 in
theorem come_any (w wx : World) (P : Nat) (vE vR : Value) (p : PlanS) (A : Option Addr) (n c : Nat) (ks : List Kid) (key : ByteArray) (mode : Int) (hp : Pn 30 w wx P vE vR p) (hz : Kids w w.heap.size A n ks) (hn : p.each.length = n) (hm : n ≤ 15) :
    Calls Try.prog 20 #[.pointer (some ⟨P, 0, none⟩), .slice A n c, .string key, .int .i64 mode] wx fun e w' => e = .returned (.tuple #[]) ∧ Pn 30 w w' P vE vR (comeS ks key mode p) := by
  obtain ⟨cs, hcs⟩ : ∃ cs, cs = comeS ks key mode p := ⟨_, rfl⟩
  rw [← hcs]
  have hp0 := hp.alloc (.cells #[.string key] 9)
  have hb0 := Blk.new wx 9 #[.string key]
  obtain ⟨x0, x1, x2, x3⟩ := hp0.cells
  obtain ⟨f0, f1, f2, f3⟩ := hp0.free
  have hPl := hp0.lt
  have hbl := hb0.far (p := ⟨P, 1, none⟩) (by have := hp.lt; simp; omega) (.int .i64 (-1))
  have HP0 := Lib.hid (And.intro (hp0.setTake (-1)) hbl)
  have HZ := Lib.hid (And.intro hz (And.intro hn hcs))
  have hbk := hbl.lt
  have hck := hbl.cell 0
  clear hp hz hn hcs hp0 hb0 hbl
  go_enter Try.func20, Try.ntmps20
  go_wp2_with fail
  refine (idxSame_any A n c ks _ key _ (kids_at HZ.out.1 HP0.out.1.below) (by unfold maxLen; omega) hbk hck).mono ?_
  rintro e w1 ⟨rfl, hb1⟩
  have hp1 := HP0.out.1.keep hb1
  have HP1 := Lib.hid hp1
  clear x0 x1 x2 x3 f0 f1 f2 f3 hbk hck hPl hb1 HP0
  obtain ⟨x0, x1, x2, x3⟩ := hp1.cells
  obtain ⟨f0, f1, f2, f3⟩ := hp1.free
  clear hp1
  rcases firstAt_cases (same key) ks with ⟨hat, _⟩ | ⟨k, hk, hat, hsame, _⟩
  · rw [hat]
    obtain ⟨p1, hp1⟩ : ∃ p1, p1 = { p with take := -1 } := ⟨_, rfl⟩
    have HCS := Lib.hid (show cs = { p1 with start := startS mode p1.each ks } by rw [HZ.out.2.2, comeS, hat, if_pos (by omega), hp1])
    have HL := Lib.hid (show p1.each.length = n by rw [hp1]; exact HZ.out.2.1)
    have HP1 := Lib.hid (show Pn 30 w w1 P vE vR p1 by rw [hp1]; exact HP1.out)
    clear hat hp1
    by_cases hm1 : mode = 1
    · have g1 : (mode == 1) = true := by simpa using hm1
      obtain ⟨q, hq⟩ : ∃ q, q = othersS p1.each ks := ⟨_, rfl⟩
      have HC1 := Lib.hid (show cs = { p1 with start := if q = true then 2 else 1 } by rw [HCS.out, startS, hm1, ← hq]; simp)
      have HQ := Lib.hid hq
      clear hm1 hq
      go_wp2_with fail
      refine (others_any w _ P vE vR _ _ n c ks (HP1.out.setStart 1) (kids_at HZ.out.1 (HP1.out.setStart 1).below) HL.out hm).mono ?_
      rintro e w3 ⟨he, hb3⟩
      obtain rfl : e = Ending.returned (.bool q) := he.trans (by rw [HQ.out])
      have hp3 := (HP1.out.setStart 1).keep hb3
      obtain ⟨x0, x1, x2, x3⟩ := hp3.cells
      obtain ⟨f0, f1, f2, f3⟩ := hp3.free
      have HP3 := Lib.hid hp3
      clear he hb3 hp3
      cases q
      · go_wp2
        go_end0
        exact ⟨rfl, by rw [HC1.out]; exact HP3.out⟩
      · go_wp2
        go_end0
        exact ⟨rfl, by rw [HC1.out]; exact HP3.out.setStart 2⟩
    · have g1 : (mode == 1) = false := by simpa using hm1
      have HC1 := Lib.hid (show cs = { p1 with start := 1 } by rw [HCS.out, startS, if_neg (fun h => hm1 h.1)])
      clear hm1
      go_wp2
      go_end0
      exact ⟨rfl, by rw [HC1.out]; exact HP1.out.setStart 1⟩
  · rw [hat]
    have hkn : k < n := by have := HZ.out.1.1; omega
    have i1 : (0 : Int) ≤ (k : Int) := by omega
    have i2 : (k : Int) < (n : Int) := by omega
    obtain ⟨g, cE, hv, y0, y1⟩ := HP1.out.eachAt k (by show k < p.each.length; have := HZ.out.2.1; omega)
    have hv' : vE = .slice (some ⟨g, 0, none⟩) n cE := by rw [hv]; have := HZ.out.2.1; exact congrArg (fun m => Value.slice (some ⟨g, 0, none⟩) m cE) this
    obtain ⟨p1, hp1⟩ : ∃ p1, p1 = { p with take := (k : Int), each := p.each.set k 4 } := ⟨_, rfl⟩
    have HP2 := Lib.hid (show Pn 30 w ((w1.setCell ⟨P, 1, none⟩ (.int .i64 k)).setCell ⟨g, k, none⟩ (.int .i64 4)) P vE vR p1 by rw [hp1]; exact (HP1.out.setTake k).setEach g cE k 4 hv)
    have HL := Lib.hid (show p1.each.length = n by rw [hp1]; simpa using HZ.out.2.1)
    have HD := Lib.hid (show cs = if (ks.getD k kid0).2 = 4 then p1 else { p1 with start := startS mode p1.each ks } by rw [HZ.out.2.2, comeS, hat, if_neg (by omega), hp1]; rfl)
    have hgP : g ≠ P := fun e => HP1.out.neE (by rw [hv, e]; rfl)
    rw [hv'] at x0
    clear hat hv hv' hp1 hsame
    obtain ⟨b, off, rfl, hbB, e0, e1⟩ := HZ.out.1.2 k hkn
    replace e1 := (HP2.out.below.cell (p := ⟨b, off + k * 2 + 1, none⟩) hbB).trans e1
    obtain ⟨s, t, hst⟩ : ∃ s t, ks.getD k kid0 = (s, t) := ⟨_, _, rfl⟩
    rw [hst] at e1 HD
    simp only [k1] at e1
    clear hst e0
    go_upto_region 4 with fail
    go_cut [] (fun wx => wx = ((w1.setCell ⟨P, 1, none⟩ (.int .i64 k)).setCell ⟨g, k, none⟩ (.int .i64 4)))
    case first =>
      go_wp2
      go_meet
      exact rfl
    case rest =>
      rw [← hcut] at HP2 e1
      have hp2 := HP2.out
      clear x0 x1 x2 x3 f0 f1 f2 f3 y0 y1 hcut
      obtain ⟨x0, x1, x2, x3⟩ := hp2.cells
      obtain ⟨f0, f1, f2, f3⟩ := hp2.free
      clear hp2 HP1
      have HP1 := Lib.hid HP2.out
      clear HP2
      by_cases h4 : t = 4
      · have HC1 := Lib.hid (show cs = p1 by rw [HD.out, if_pos h4])
        subst h4
        go_wp2
        exact bodyPost_ret (v := .tuple #[]) (by simp [results, Try.results20, go_sem]) rfl ⟨rfl, by rw [HC1.out]; exact HP1.out⟩
      · have g4 := beq_no h4
        have HCS := Lib.hid (show cs = { p1 with start := startS mode p1.each ks } by rw [HD.out, if_neg h4])
        clear h4
        by_cases hm1 : mode = 1
        · have g1 : (mode == 1) = true := by simpa using hm1
          obtain ⟨q, hq⟩ : ∃ q, q = othersS p1.each ks := ⟨_, rfl⟩
          have HC1 := Lib.hid (show cs = { p1 with start := if q = true then 2 else 1 } by rw [HCS.out, startS, hm1, ← hq]; simp)
          have HQ := Lib.hid hq
          clear hm1 hq
          go_wp2_with fail
          refine (others_any w _ P vE vR _ _ n c ks (HP1.out.setStart 1) (kids_at HZ.out.1 (HP1.out.setStart 1).below) HL.out hm).mono ?_
          rintro e w3 ⟨he, hb3⟩
          obtain rfl : e = Ending.returned (.bool q) := he.trans (by rw [HQ.out])
          have hp3 := (HP1.out.setStart 1).keep hb3
          obtain ⟨x0, x1, x2, x3⟩ := hp3.cells
          obtain ⟨f0, f1, f2, f3⟩ := hp3.free
          have HP3 := Lib.hid hp3
          clear he hb3 hp3
          cases q
          · go_wp2
            go_end0
            exact ⟨rfl, by rw [HC1.out]; exact HP3.out⟩
          · go_wp2
            go_end0
            exact ⟨rfl, by rw [HC1.out]; exact HP3.out.setStart 2⟩
        · have g1 : (mode == 1) = false := by simpa using hm1
          have HC1 := Lib.hid (show cs = { p1 with start := 1 } by rw [HCS.out, startS, if_neg (fun h => hm1 h.1)])
          clear hm1
          go_wp2
          go_end0
          exact ⟨rfl, by rw [HC1.out]; exact HP1.out.setStart 1⟩

end Go.Proofs.Ytkiaaaehakjhjaa
