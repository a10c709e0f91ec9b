/-
  The walks over Turn, Apply of layer 3.
-/
import Derived.Test.YtjedjplpbgnpmaaTurnC
namespace Go.Proofs.Ytjedjplpbgnpmaa
open Go.RowKit
attribute [local go_sem ↓] Go.wp_at_zero Go.wp_at_succ

/-- A step of layer 3. -/
abbrev Cst := Bool × ByteArray
def cst0 : Cst := (false, ByteArray.empty)
def cvT (p : Cst) : List Value := [.bool p.1, .string p.2]
theorem cvT_snoc (l : List Cst) (p : Cst) : (l ++ [p]).flatMap cvT = l.flatMap cvT ++ [.bool p.1, .string p.2] := by simp [cvT]
theorem st_info : (Try.prog.info? 49).map (fun i => (i.zero, i.size, i.bytes)) = some (some (.agg #[.bool false, .string ByteArray.empty]), 2, 24) := by kernel_rfl
abbrev Ts (w : World) (B : Nat) (A : Option Addr) (n : Nat) (l : List Cst) : Prop := Rd cvT cst0 2 w B A n l
theorem Rd.cst {w : World} {B : Nat} {A : Option Addr} {n : Nat} {l : List Cst} (h : Ts w B A n l) (k : Nat) (hk : k < n) : ∃ b off, A = some ⟨b, off, none⟩ ∧ b < B ∧ w.cell? ⟨b, off + k * 2, none⟩ = some (.bool (l.getD k cst0).1) ∧ w.cell? ⟨b, off + k * 2 + 1, none⟩ = some (.string (l.getD k cst0).2) := by
  obtain ⟨b, off, hA, hB, h0⟩ := h.2 k hk
  exact ⟨b, off, hA, hB, h0 0 (by omega), h0 1 (by omega)⟩
def StPost (w : World) (l : List Cst) (e : Ending) (w' : World) : Prop :=
  ∃ A c, e = .returned (.slice A l.length c) ∧ w'.ownsRow w.heap.size 49 2 (.slice A l.length c) l.length (l.flatMap cvT) ∧ Below w.heap.size w w'

open Classical in
noncomputable def dropsTo (bq l : List ByteArray) : Nat → List Cst
  | 0 => []
  | k + 1 => if l.getD k ByteArray.empty ∈ bq then dropsTo bq l k else dropsTo bq l k ++ [(true, l.getD k ByteArray.empty)]
def addsTo (o : List Cst) (l : List ByteArray) (k : Nat) : List Cst := o ++ (l.take k).map fun x => (false, x)
noncomputable def turnC (ca cb : List ByteArray) : List Cst := addsTo (dropsTo (cb.take (keptS ca cb)) ca ca.length) (cb.drop (keptS ca cb)) (cb.length - keptS ca cb)
noncomputable def turnS (a b : List ByteArray) : List Cst := turnC (cleanS a) (cleanS b)
theorem dropsTo_len (bq l : List ByteArray) (k : Nat) : (dropsTo bq l k).length ≤ k := by
  induction k with
  | zero => exact Nat.le_refl _
  | succ k ih => rw [dropsTo]; split <;> (try rw [List.length_append]) <;> (try simp only [List.length_cons, List.length_nil]) <;> omega
theorem addsTo_succ (o : List Cst) (l : List ByteArray) (k : Nat) (h : k < l.length) : addsTo o l (k + 1) = addsTo o l k ++ [(false, l.getD k ByteArray.empty)] := by
  rw [addsTo, addsTo, take_snoc l ByteArray.empty k h, List.map_append, ← List.append_assoc]; rfl
theorem addsTo_len (o : List Cst) (l : List ByteArray) (k : Nat) : (addsTo o l k).length ≤ o.length + k := by
  rw [addsTo, List.length_append, List.length_map, List.length_take]; omega
theorem cleanS_len (l : List ByteArray) : (cleanS l).length ≤ l.length := cleanTo_len l _
theorem keptS_le (a b : List ByteArray) : keptS a b ≤ b.length := (keptTo_le a b _).1
theorem Rd.drop {α : Type} {cv : α → List Value} {d : α} {w : World} {B b off n : Nat} {l : List α} (h : Rd cv d 1 w B (some ⟨b, off, none⟩) n l) (q : Nat) : Rd cv d 1 w B (some ⟨b, off + q, none⟩) (n - q) (l.drop q) := by
  refine ⟨by rw [List.length_drop, h.1], fun k hk => ?_⟩
  obtain ⟨b', off', hA, hB, h0⟩ := h.2 (q + k) (by omega)
  injection hA with hA
  injection hA with hA1 hA2
  subst hA1 hA2
  have e : (l.drop q).getD k d = l.getD (q + k) d := by simp [List.getD]
  rw [e]
  refine ⟨b, off + q, rfl, hB, fun j hj => ?_⟩
  have := h0 j hj
  rw [Nat.mul_one, ← Nat.add_assoc] at this
  rw [Nat.mul_one]
  exact this

theorem own_nil {w : World} {base : Nat} {e : TypeId} {size : Nat} {A : Option Addr} {n c : Nat} {xs : List Value} (h : w.ownsRow base e size (.slice A n c) n xs) : ∀ g, A = some g → g.spot = none := by
  rcases h.2 with ⟨hv, h0⟩ | ⟨g, cap, cur, hv, _⟩
  · injection hv with hv1
    subst hv1
    intro g h
    cases h
  · injection hv with hv1
    subst hv1
    intro g h
    injection h with h
    rw [← h]
/-- 's[q:]' of a row that is known. -/
theorem slice_from {P : Program} (t e : TypeId) (ht : P.underlying t = some (.slice e)) (hsz : (P.info? e).map (·.size) = some 1) {α : Type} (cv : α → List Value) (d : α) (A : Option Addr) (n c q : Nat) (wx : World) (B : Nat) (l : List α) (h : Rd cv d 1 wx B A n l) (hq : q ≤ n) (hc : n ≤ c)
    (hA : ∀ g, A = some g → g.spot = none) :
    ∃ A3 c3, (∀ w, (Instr.slice t (.slice A n c) (some (.int .i64 (q : Nat))) none none).run P w = .ok (.slice A3 (n - q) c3) w) ∧ (∀ w, (Instr.sliceAt t (.slice A n c) (some (.int .i64 (q : Nat))) none none).run P w = .ok (.slice A3 (n - q) c3) w) ∧ Rd cv d 1 wx B A3 (n - q) (l.drop q) := by
  have hs : ∀ w, (sizeOf e).run P w = .ok 1 w := fun w => by
    cases hq : P.info? e with
    | none => simp [hq] at hsz
    | some i =>
      have hi : i.size = 1 := by simpa [hq] using hsz
      simp [sizeOf, typeInfo, hq, hi]
  have hrun : ∀ w, (Instr.slice t (.slice A n c) (some (.int .i64 (q : Nat))) none none).run P w = .ok (.slice (if c = q then A else A.map (·.add (q * 1))) (n - q) (c - q)) w := fun w => by
    have h0 : (0 : Int) ≤ (q : Nat) := by omega
    have h1 : ((q : Nat) : Int) ≤ (n : Nat) := by omega
    simp [Instr.slice, run_underlying ht, Instr.sliceBounds, run_sliceBound, hs, hq]
  refine ⟨_, _, hrun, fun w => ?_, ?_⟩
  · simp only [Instr.sliceAt, Sem.run_bind, run_underlying ht, Result.andThen_ok]
    exact hrun w
  · by_cases hcq : c = q
    · rw [if_pos hcq]
      refine ⟨by rw [List.length_drop, h.1], fun k hk => by omega⟩
    · rw [if_neg hcq]
      cases A with
      | none =>
        refine ⟨by rw [List.length_drop, h.1], fun k hk => ?_⟩
        obtain ⟨b, off, hA, _⟩ := h.2 0 (by omega)
        cases hA
      | some g =>
        obtain ⟨g1, g2, g3⟩ := g
        have hg3 : g3 = none := hA _ rfl
        subst hg3
        rw [Nat.mul_one, Option.map_some, Addr.add_lit]
        exact h.drop q

set_option maxRecDepth 100000 in
set_option maxHeartbeats 8000000 in
theorem turn_any (A B : Option Addr) (n c m c' : Nat) (a b : List ByteArray) (w : World) (hz : Ss w w.heap.size A n a) (hz' : Ss w w.heap.size B m b) (hn : n ≤ 100) (hm : m ≤ 100) :
    Calls Try.prog 4 #[.slice A n c, .slice B m c'] w (StPost w (turnS a b)) := by
  obtain ⟨tr, hi, hz0, hz1, hz2⟩ := info_parts st_info
  have HZ := Lib.hid (And.intro hz hz')
  clear hz hz'
  go_enter Try.func4, Try.ntmps4
  go_wp2_with fail
  refine (clean_any A n c a _ HZ.out.1 hn).mono ?_
  rintro e w1 ⟨A1, c1, rfl, hown1, hb1⟩
  have H1 := Lib.hid (And.intro hown1 hb1)
  clear hown1 hb1
  go_wp2_with fail
  refine (clean_any B m c' b _ ((HZ.out.2.below H1.out.2).more H1.out.2.size) hm).mono ?_
  rintro e w2 ⟨A2, c2, rfl, hown2, hb2⟩
  have HTS := Lib.hid (show turnS a b = turnC (cleanS a) (cleanS b) from rfl)
  have hla : (cleanS a).length ≤ 100 := Nat.le_trans (cleanS_len a) (by rw [HZ.out.1.1]; exact hn)
  have hlb : (cleanS b).length ≤ 100 := Nat.le_trans (cleanS_len b) (by rw [HZ.out.2.1]; exact hm)
  have HB := Lib.hid (H1.out.2.trans (hb2.mono H1.out.2.size))
  have HOA := Lib.hid (own_keep H1.out.1 hb2)
  obtain ⟨ca, hca⟩ : ∃ ca, ca = cleanS a := ⟨_, rfl⟩
  obtain ⟨cb, hcb⟩ : ∃ cb, cb = cleanS b := ⟨_, rfl⟩
  rw [← hca] at HOA HTS hla ⊢
  rw [← hcb] at hown2 HTS hlb ⊢
  obtain ⟨na, hna⟩ : ∃ na, na = ca.length := ⟨_, rfl⟩
  obtain ⟨nb, hnb⟩ : ∃ nb, nb = cb.length := ⟨_, rfl⟩
  rw [← hna] at HOA hla ⊢
  rw [← hnb] at hown2 hlb ⊢
  have HNA := Lib.hid hna
  have HNB := Lib.hid hnb
  have HOB := Lib.hid hown2
  have HRA := Lib.hid (Rd.of_own (cv := cvS) (d := ByteArray.empty) (fun _ => rfl) HOA.out hna.symm)
  have HRB := Lib.hid (Rd.of_own (cv := cvS) (d := ByteArray.empty) (fun _ => rfl) hown2 hnb.symm)
  have hcap := own_cap hown2
  have hcapA := own_cap HOA.out
  clear hca hcb hna hnb hown2 hb2 H1
  go_wp2_with fail
  refine (kept_any A1 A2 na c1 nb c2 ca cb _ HRA.out HRB.out (by omega) (by omega)).mono ?_
  rintro e w3 ⟨rfl, rfl⟩
  have hq := keptS_le ca cb
  obtain ⟨q, hqq⟩ : ∃ q, q = keptS ca cb := ⟨_, rfl⟩
  rw [← hqq] at hq ⊢
  rw [← HNB.out] at hq
  have HQ := Lib.hid hqq
  clear hqq
  obtain ⟨wo, rfl⟩ : ∃ wo : World, wo = w3 := ⟨_, rfl⟩
  have j1 : (0 : Int) ≤ (q : Int) := by omega
  have j2 : (q : Int) ≤ (c2 : Int) := by omega
  have j3 : (q : Int) ≤ (nb : Int) := by omega
  go_wp2_with fail
  go_loopw [6, 20] (fun vo i wx => ∃ k : Nat, k ≤ na ∧ i = .int .i64 k ∧ wx.ownsRow wo.heap.size 49 2 vo (dropsTo (cb.take q) ca k).length ((dropsTo (cb.take q) ca k).flatMap cvT) ∧ Below wo.heap.size wo wx) (fun _ i _ => na - (intOf i).toNat)
  case atStart => exact ⟨0, Nat.zero_le _, rfl, World.ownsRow_nil _ _ _ _, Below.refl _ _⟩
  case round =>
    obtain ⟨k, hk, rfl, hown, hb⟩ := hrel
    obtain ⟨vo, hvo⟩ : ∃ vo, vo = u6 := ⟨_, rfl⟩
    rw [← hvo] at hown ⊢
    clear hvo
    by_cases hlt : k < na
    · obtain ⟨b1, off1, rfl, hbB, d0⟩ := HRA.out.str k hlt
      replace d0 := (hb.cell (p := ⟨b1, off1 + k, none⟩) hbB).trans d0
      have HD := Lib.hid (show (ca.getD k ByteArray.empty ∈ cb.take q → dropsTo (cb.take q) ca (k + 1) = dropsTo (cb.take q) ca k) ∧ (ca.getD k ByteArray.empty ∉ cb.take q → dropsTo (cb.take q) ca (k + 1) = dropsTo (cb.take q) ca k ++ [(true, ca.getD k ByteArray.empty)]) from ⟨fun h => by rw [dropsTo, if_pos h], fun h => by rw [dropsTo, if_neg h]⟩)
      obtain ⟨s, hs⟩ : ∃ s, s = ca.getD k ByteArray.empty := ⟨_, rfl⟩
      obtain ⟨o, ho⟩ : ∃ o, o = dropsTo (cb.take q) ca k := ⟨_, rfl⟩
      have hol : o.length ≤ k := by rw [ho]; exact dropsTo_len _ _ k
      rw [← hs] at d0 HD
      rw [← ho] at hown HD
      have i1 : (0 : Int) ≤ (k : Int) := by omega
      have i2 : (k : Int) < (na : Int) := by omega
      have HO := Lib.hid (And.intro hown hb)
      have HT := Lib.hid ((HRB.out.below hb).take q (by omega))
      clear hs ho hown hb
      go_wp2_with fail
      refine (has_any A2 q c2 _ (cb.take q) s _ HT.out (by omega)).mono ?_
      rintro e w4 ⟨r, rfl, hr, rfl⟩
      have HR := Lib.hid hr
      clear hr
      cases r
      · have HD2 := Lib.hid (HD.out.2 (fun h => by have := HR.out.2 h; cases this))
        go_wp2_with (first
          | (at_builtin; refine wpList_append_lies _ rfl _ _ _ rfl wo.heap.size 49 tr _ 2 24 Try.underlying26 hi hz0 hz1 hz2 rfl (by decide) _ o.length (o.flatMap cvT) rfl (HO.out.1.alloc _) _ 1 1 [.bool true, .string s] rfl rfl (World.news_of_block (heap_alloc_new _ _)) (by intro u hu; simp at hu; rcases hu with rfl | rfl <;> rfl) (by omega) (by unfold maxLen; omega) (by omega) (by have := HO.out.2.size; simp; omega) _ rfl ?_; intro g2 cap2 w4 hown2 hg2 hat2 hlt2; have HX := Lib.hid (And.intro hown2 ((HO.out.2.alloc HO.out.2.size _).grown hg2 (HO.out.2.alloc HO.out.2.size _).size (fun j hj => (HO.out.1.lt j hj).1))); clear hown2 hg2 hat2 hlt2))
        go_roundw
        case rel => exact ⟨k + 1, by omega, by go_num, by rw [HD2.out, cvT_snoc, List.length_append]; exact HX.out.1, HX.out.2⟩
        case measure => simp [intOf]; omega
      · have HD2 := Lib.hid (HD.out.1 (HR.out.1 rfl))
        go_wp2
        go_roundw
        case rel => exact ⟨k + 1, by omega, by go_num, by rw [HD2.out]; exact HO.out.1, HO.out.2⟩
        case measure => simp [intOf]; omega
    · obtain rfl : k = na := by omega
      obtain ⟨o, ho⟩ : ∃ o, o = dropsTo (cb.take q) ca k := ⟨_, rfl⟩
      have hol : o.length ≤ k := by rw [ho]; exact dropsTo_len _ _ k
      have HTU := Lib.hid (show turnS a b = addsTo o (cb.drop q) (nb - q) by rw [HTS.out, turnC, ← HQ.out, ← HNA.out, ← HNB.out, ho])
      rw [← ho] at hown
      have HO := Lib.hid (And.intro hown hb)
      obtain ⟨w5, rfl⟩ : ∃ w5 : World, w5 = wr := ⟨_, rfl⟩
      clear ho hown hb HTS
      obtain ⟨r, hr⟩ : ∃ r, r = nb - q := ⟨_, rfl⟩
      have HRR := Lib.hid hr
      have HRD := Lib.hid (HRB.out.below HO.out.2)
      have hcq : nb ≤ c2 := hcap.1
      obtain ⟨A3, c3, hsl, hsl2, hS3⟩ := slice_from (P := Try.prog) 22 9 Try.underlying22 (by rfl) cvS ByteArray.empty A2 nb c2 q w5 _ cb HRD.out hq hcap.1 (own_nil HOB.out)
      rw [← hr] at hsl hsl2 hS3
      have HS3 := Lib.hid hS3
      clear hS3 hr
      go_upto_region 10 with fail
      go_cut [38, 39, 40] (fun s38 s39 s40 wx => s38 = .slice A3 r c3 ∧ s39 = .int .i64 r ∧ s40 = .int .i64 0 ∧ wx = w5 ∧ Hid (Ss wx wo.heap.size A3 r (cb.drop q)))
      case first =>
        go_wp2_with fail
        go_meet
        exact ⟨rfl, rfl, rfl, rfl, HS3.out⟩
      case rest =>
        obtain ⟨rfl, rfl, rfl, rfl, hS⟩ := hcut
        have hrn : r ≤ 100 := by have := HRR.out; omega
        clear hsl hsl2
        go_wp2_with fail
        go_loopw [6, 40] (fun vo i wx => ∃ k : Nat, k ≤ r ∧ i = .int .i64 k ∧ wx.ownsRow wo.heap.size 49 2 vo (addsTo o (cb.drop q) k).length ((addsTo o (cb.drop q) k).flatMap cvT) ∧ Below wo.heap.size wo wx ∧ Hid (Ss wx wo.heap.size A3 r (cb.drop q))) (fun _ i _ => r - (intOf i).toNat)
        case atStart => exact ⟨0, Nat.zero_le _, rfl, by rw [addsTo]; simpa using HO.out.1, HO.out.2, hS.out⟩
        case round =>
          obtain ⟨k, hk, rfl, hown, hb, hS⟩ := hrel
          obtain ⟨vo, hvo⟩ : ∃ vo, vo = u6 := ⟨_, rfl⟩
          rw [← hvo] at hown ⊢
          clear hvo
          by_cases hlt : k < r
          · obtain ⟨b1, off1, rfl, hbB, d0⟩ := hS.out.str k hlt
            have HD := Lib.hid (addsTo_succ o (cb.drop q) k (by rw [hS.out.1]; exact hlt))
            obtain ⟨s, hs⟩ : ∃ s, s = (cb.drop q).getD k ByteArray.empty := ⟨_, rfl⟩
            obtain ⟨o2, ho2⟩ : ∃ o2, o2 = addsTo o (cb.drop q) k := ⟨_, rfl⟩
            have hol2 : o2.length ≤ 300 := by have := addsTo_len o (cb.drop q) k; rw [ho2]; omega
            rw [← hs] at d0 HD
            rw [← ho2] at hown HD
            have i1 : (0 : Int) ≤ (k : Int) := by omega
            have i2 : (k : Int) < (r : Int) := by omega
            have HP := Lib.hid (And.intro hown hb)
            have HSS := Lib.hid hS.out
            clear hs ho2 hown hb
            go_wp2_with (first
              | (at_builtin; refine wpList_append_lies _ rfl _ _ _ rfl wo.heap.size 49 tr _ 2 24 Try.underlying26 hi hz0 hz1 hz2 rfl (by decide) _ o2.length (o2.flatMap cvT) rfl (HP.out.1.alloc _) _ 1 1 [.bool false, .string s] rfl rfl (World.news_of_block (heap_alloc_new _ _)) (by intro u hu; simp at hu; rcases hu with rfl | rfl <;> rfl) (by omega) (by unfold maxLen; omega) (by omega) (by have := HP.out.2.size; simp; omega) _ rfl ?_; intro g2 cap2 w4 hown2 hg2 hat2 hlt2; have HX := Lib.hid (And.intro hown2 (And.intro ((HP.out.2.alloc HP.out.2.size _).grown hg2 (HP.out.2.alloc HP.out.2.size _).size (fun j hj => (HP.out.1.lt j hj).1)) (HSS.out.below (((Below.refl _ _).alloc HP.out.2.size _).grown hg2 (HP.out.2.alloc HP.out.2.size _).size (fun j hj => (HP.out.1.lt j hj).1))))); clear hown2 hg2 hat2 hlt2))
            go_roundw
            case rel => exact ⟨k + 1, by omega, by go_num, by rw [HD.out, cvT_snoc, List.length_append]; exact HX.out.1, HX.out.2.1, HX.out.2.2⟩
            case measure => simp [intOf]; omega
          · obtain rfl : k = r := by omega
            have HTV := Lib.hid (show turnS a b = addsTo o (cb.drop q) k by rw [HTU.out, HRR.out])
            obtain ⟨A9, c9, hv⟩ := own_form hown
            subst hv
            have HP := Lib.hid (And.intro hown hb)
            clear hown hb
            go_wp2
            go_ret
            rw [HTV.out]
            exact ⟨A9, c9, rfl, own_base HP.out.1 HB.out.size, HB.out.trans (HP.out.2.mono HB.out.size)⟩

end Go.Proofs.Ytjedjplpbgnpmaa
