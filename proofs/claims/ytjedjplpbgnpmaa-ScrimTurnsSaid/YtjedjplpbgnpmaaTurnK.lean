/-
  The walks over Equal at pairs, Same, Turn of layer 4.
-/
import Derived.Test.YtjedjplpbgnpmaaTurnJ
namespace Go.Proofs.Ytjedjplpbgnpmaa
open Go.RowKit
attribute [local go_sem ↓] Go.wp_at_zero Go.wp_at_succ

theorem neq_pr (t s : ByteArray) (x y : Int) (w : World) : (binOp .neq 34 (.agg #[.string t, .int .i64 x]) (.agg #[.string s, .int .i64 y])).run Try.prog w = .ok (.bool !(decide (((t, x) : Pr) = (s, y)))) w := by
  have u3 := Try.underlying3
  have u9 := Try.underlying9
  have hS : Try.prog.underlying 34 = some (.struct (Try.prog.fieldsOf 34)) := by kernel_rfl
  have hp : Try.prog.stoodInHeld 34 = false := by kernel_rfl
  have he : (Op.equalIn 10000 34 (.agg #[.string t, .int .i64 x]) (.agg #[.string s, .int .i64 y])).run Try.prog w = .ok (decide (((t, x) : Pr) = (s, y))) w := by
    rw [show (10000 : Nat) = 9999 + 1 from rfl, run_equalIn_agg w 9999 34 _ _ hS hp]
    simp only [Program.fieldsOf, Try.underlying34]
    go_simp
    by_cases h2 : t.toList = s.toList
    · have h3 := toList_inj h2
      by_cases h1 : x = y
      · simp [h1, h3]
      · simp [h1, h3]
    · have h3 : ¬ t = s := fun e => h2 (by rw [e])
      simp [h2, h3]
  simp only [binOp]
  simp [Op.equal, Op.maxDepth, he]

set_option maxHeartbeats 4000000 in
theorem equalP_any (A B : Option Addr) (n c c' B1 B2 : Nat) (l : List Pr) (w : World) (hz : Ps w B1 A n l) (hz' : Ps w B2 B n l) (hn : n ≤ 1000) :
    Calls Try.prog 25 #[.slice A n c, .slice B n c'] w fun e w' => e = .returned (.bool true) ∧ Below w.heap.size w w' := by
  have HZ := Lib.hid (And.intro hz hz')
  clear hz hz'
  go_enter Try.func25, Try.ntmps25
  go_wp2_with fail
  go_loopw [13] (fun i wx => ∃ k : Nat, k ≤ n ∧ i = .int .i64 k ∧ Below w.heap.size w wx ∧ Hid (Ps wx B1 A n l ∧ Ps wx B2 B n l)) (fun i _ => n - (intOf i).toNat)
  case atStart => exact ⟨0, Nat.zero_le _, rfl, Below.refl _ _, HZ.out⟩
  case round =>
    obtain ⟨k, hk, rfl, hb, hS⟩ := hrel
    by_cases hlt : k < n
    · obtain ⟨b, off, rfl, hbB, d0, d0'⟩ := hS.out.1.pr k hlt
      obtain ⟨b2, off2, rfl, hbB2, d1, d1'⟩ := hS.out.2.pr k hlt
      obtain ⟨⟨t, x⟩, ht⟩ : ∃ t, t = l.getD k pr0 := ⟨_, rfl⟩
      rw [← ht] at d0 d1 d0' d1'
      simp only at d0 d1 d0' d1'
      have i1 : (0 : Int) ≤ (k : Int) := by omega
      have i2 : (k : Int) < (n : Int) := by omega
      have hq : ∀ w, (binOp .neq 34 (.agg #[.string t, .int .i64 x]) (.agg #[.string t, .int .i64 x])).run Try.prog w = .ok (.bool false) w := fun w => by rw [neq_pr]; simp
      have HB := Lib.hid hb
      clear ht hb
      go_upto_region 6 with fail
      go_region
      all_goals (
        go_wp2_with fail
        go_roundw)
      all_goals first
        | exact ⟨k + 1, by omega, by go_num, HB.out.drew, Lib.hid ⟨hS.out.1, hS.out.2⟩⟩
        | (simp [intOf]; omega)
    · obtain rfl : k = n := by omega
      have HB := Lib.hid hb
      clear hb
      go_wp2
      go_ret
      exact ⟨by first | rfl | simp, HB.out⟩

set_option maxHeartbeats 4000000 in
theorem sameP_any (A B : Option Addr) (n c m c' : Nat) (l l' : List Pr) (w : World) (hz : Ps w w.heap.size A n l) (hz' : Ps w w.heap.size B m l') (he : ofS l = ofS l') (hn : n ≤ 500) (hm : m ≤ 500) :
    Calls Try.prog 14 #[.slice A n c, .slice B m c'] w fun e w' => e = .returned (.bool true) ∧ Below w.heap.size w w' := by
  have HZ := Lib.hid (And.intro hz (And.intro hz' he))
  clear hz hz' he
  go_enter Try.func14, Try.ntmps14
  go_wp2_with fail
  refine (of_any A n c l _ HZ.out.1 hn).mono ?_
  rintro e w1 ⟨A1, c1, rfl, hown1, hb1⟩
  have H1 := Lib.hid (And.intro hown1 hb1)
  clear hown1 hb1
  go_wp2_with fail
  refine (of_any B m c' l' _ ((HZ.out.2.1.below H1.out.2).more H1.out.2.size) hm).mono ?_
  rintro e w2 ⟨A2, c2, rfl, hown2, hb2⟩
  have hl := ofS_len l
  rw [HZ.out.1.1] at hl
  rw [← HZ.out.2.2] at hown2 ⊢
  have H2 := Lib.hid (And.intro hown2 hb2)
  clear hown2 hb2
  go_wp2_with fail
  refine (equalP_any A1 A2 (ofS l).length c1 c2 _ _ (ofS l) _ (Rd.of_own (cv := cvP) (d := pr0) (fun _ => rfl) (own_keep H1.out.1 H2.out.2) rfl) (Rd.of_own (cv := cvP) (d := pr0) (fun _ => rfl) H2.out.1 rfl) (by omega)).mono ?_
  rintro e w3 ⟨rfl, hb3⟩
  have HB := Lib.hid (H1.out.2.trans ((H2.out.2.trans (hb3.mono H2.out.2.size)).mono H1.out.2.size))
  clear hb3
  go_wp2
  go_ret
  exact ⟨rfl, HB.out⟩

/-! ### Turn -/
def hasN (l : List Pr) (s : ByteArray) : Bool := l.any fun q => decide (q.1 = s)
def memP (l : List Pr) (p : Pr) : Bool := l.any fun q => decide (q = p)
theorem hasN_iff (l : List Pr) (s : ByteArray) : hasN l s = true ↔ ∃ q ∈ l, q.1 = s := by simp [hasN]
theorem memP_iff (l : List Pr) (p : Pr) : memP l p = true ↔ p ∈ l := by simp [memP]
theorem getD_mem {l : List Pr} {r : Nat} (h : r < l.length) : l.getD r pr0 ∈ l := by
  have e : l.getD r pr0 = l[r] := by simp [List.getD, h]
  rw [e]; exact List.getElem_mem h
theorem Rise.uniq {l : List Pr} (h : Rise l) {i j : Nat} (hi : i < l.length) (hj : j < l.length) (he : (l.getD i pr0).1 = (l.getD j pr0).1) : i = j := by
  rcases Nat.lt_trichotomy i j with h1 | h1 | h1
  · exact absurd he (lt_ne (h.srt i j h1 hj))
  · exact h1
  · exact absurd he.symm (lt_ne (h.srt j i h1 hi))
theorem at_hasN {l : List Pr} {s : ByteArray} {r : Nat} (h : At l s r) (hr : Rise l) : isAt l s r = hasN l s := by
  apply Bool.eq_iff_iff.2
  rw [hasN_iff, isAt, Bool.and_eq_true, decide_eq_true_eq, decide_eq_true_eq]
  constructor
  · rintro ⟨h1, h2⟩
    exact ⟨_, getD_mem h1, h2⟩
  · rintro ⟨q, hq, rfl⟩
    obtain ⟨i, hi, he⟩ := List.mem_iff_getElem.1 hq
    have hg : l.getD i pr0 = q := by simp [List.getD, hi, he]
    by_cases hir : i < r
    · have := h.low i hir
      rw [hg, lt_irrefl] at this
      cases this
    · by_cases e : i = r
      · subst e; exact ⟨hi, by rw [hg]⟩
      · have h1 := h.high r (Nat.le_refl _) (by omega)
        have h2 := hr.srt r i (by omega) hi
        rw [hg] at h2
        rw [h2] at h1
        cases h1
theorem at_memP {l : List Pr} {p : Pr} {r : Nat} (hr : Rise l) (hi : isAt l p.1 r = true) : memP l p = decide (l.getD r pr0 = p) := by
  rw [isAt, Bool.and_eq_true, decide_eq_true_eq, decide_eq_true_eq] at hi
  apply Bool.eq_iff_iff.2
  rw [memP_iff, decide_eq_true_eq]
  constructor
  · intro h
    obtain ⟨i, hi', he⟩ := List.mem_iff_getElem.1 h
    have hg : l.getD i pr0 = p := by simp [List.getD, hi', he]
    have := hr.uniq hi' hi.1 (by rw [hg, hi.2])
    subst this
    exact hg
  · intro h
    rw [← h]
    exact getD_mem hi.1
theorem not_memP {l : List Pr} {p : Pr} (h : hasN l p.1 = false) : memP l p = false := by
  cases hq : memP l p with
  | false => rfl
  | true =>
    have := (hasN_iff l p.1).2 ⟨p, (memP_iff l p).1 hq, rfl⟩
    rw [h] at this
    cases this

/-- A step of layer 4. -/
abbrev Pst := Bool × ByteArray × Int
def pst0 : Pst := (false, ByteArray.empty, 0)
def cvU (p : Pst) : List Value := [.bool p.1, .string p.2.1, .int .i64 p.2.2]
theorem cvU_snoc (l : List Pst) (p : Pst) : (l ++ [p]).flatMap cvU = l.flatMap cvU ++ [.bool p.1, .string p.2.1, .int .i64 p.2.2] := by simp [cvU]
theorem pst_info : (Try.prog.info? 53).map (fun i => (i.zero, i.size, i.bytes)) = some (some (.agg #[.bool false, .string ByteArray.empty, .int .i64 0]), 3, 32) := by kernel_rfl
abbrev Us (w : World) (B : Nat) (A : Option Addr) (n : Nat) (l : List Pst) : Prop := Rd cvU pst0 3 w B A n l
theorem Rd.pst {w : World} {B : Nat} {A : Option Addr} {n : Nat} {l : List Pst} (h : Us w B A n l) (k : Nat) (hk : k < n) : ∃ b off, A = some ⟨b, off, none⟩ ∧ b < B ∧ w.cell? ⟨b, off + k * 3, none⟩ = some (.bool (l.getD k pst0).1) ∧ w.cell? ⟨b, off + k * 3 + 1, none⟩ = some (.string (l.getD k pst0).2.1) ∧ w.cell? ⟨b, off + k * 3 + 2, none⟩ = some (.int .i64 (l.getD k pst0).2.2) := by
  obtain ⟨b, off, hA, hB, h0⟩ := h.2 k hk
  exact ⟨b, off, hA, hB, h0 0 (by omega), h0 1 (by omega), h0 2 (by omega)⟩
def UPost (w : World) (l : List Pst) (e : Ending) (w' : World) : Prop :=
  ∃ A c, e = .returned (.slice A l.length c) ∧ w'.ownsRow w.heap.size 53 3 (.slice A l.length c) l.length (l.flatMap cvU) ∧ Below w.heap.size w w'

def dropsU (cb ca : List Pr) : Nat → List Pst
  | 0 => []
  | k + 1 => if hasN cb (ca.getD k pr0).1 = true then dropsU cb ca k else dropsU cb ca k ++ [(true, (ca.getD k pr0).1, 0)]
def setsU (o : List Pst) (ca cb : List Pr) : Nat → List Pst
  | 0 => o
  | k + 1 => if memP ca (cb.getD k pr0) = true then setsU o ca cb k else setsU o ca cb k ++ [(false, (cb.getD k pr0).1, (cb.getD k pr0).2)]
def turnU (ca cb : List Pr) : List Pst := setsU (dropsU cb ca ca.length) ca cb cb.length
def turnP (a b : List Pr) : List Pst := turnU (ofS a) (ofS b)
theorem dropsU_len (cb ca : List Pr) (k : Nat) : (dropsU cb ca k).length ≤ k := by
  induction k with
  | zero => exact Nat.le_refl _
  | succ k ih => rw [dropsU]; split <;> (try rw [List.length_append]) <;> (try simp only [List.length_cons, List.length_nil]) <;> omega
theorem setsU_len (o : List Pst) (ca cb : List Pr) (k : Nat) : (setsU o ca cb k).length ≤ o.length + k := by
  induction k with
  | zero => exact Nat.le_refl _
  | succ k ih => rw [setsU]; split <;> (try rw [List.length_append]) <;> (try simp only [List.length_cons, List.length_nil]) <;> omega

end Go.Proofs.Ytjedjplpbgnpmaa
