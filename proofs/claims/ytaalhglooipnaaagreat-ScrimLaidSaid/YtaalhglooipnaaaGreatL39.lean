/-
  may of the document's layer 7: may a node be, by itself?
-/
import Derived.Test.YtaalhglooipnaaaGreatL33
import Derived.Test.YtaalhglooipnaaaGreatL38
import Derived.Laws.StructEq
namespace Go.Proofs.YtaalhglooipnaaaGreat
open Go.RowKit RT
attribute [local go_sem ↓] Go.wp_at_zero Go.wp_at_succ

def MyPost (d : VD) (w : World) (e : Ending) (w' : World) : Prop := ∃ q, e = .returned (.bool q) ∧ (q = true → okV d) ∧ Below w.heap.size w w'
theorem vcells {w : World} {X : Nat} {d : VD} {a1 a2 a3 k : Value} (h : Blk w X 32 (vC d a1 a2 a3 k).toArray) : w.cell? ⟨X, 0, none⟩ = some (.int .i64 d.kind) ∧ w.cell? ⟨X, 1, none⟩ = some (.string d.tag) ∧ w.cell? ⟨X, 2, none⟩ = some (.string d.key) ∧ w.cell? ⟨X, 3, none⟩ = some (.string d.text) ∧ w.cell? ⟨X, 4, none⟩ = some (a1) ∧ w.cell? ⟨X, 5, none⟩ = some (a2) ∧ w.cell? ⟨X, 6, none⟩ = some (a3) ∧ w.cell? ⟨X, 7, none⟩ = some (.int .i64 d.op.1) ∧ w.cell? ⟨X, 8, none⟩ = some (.int .i64 d.op.2.1) ∧ w.cell? ⟨X, 9, none⟩ = some (.int .i64 d.op.2.2.1) ∧ w.cell? ⟨X, 10, none⟩ = some (.int .i64 d.op.2.2.2.1) ∧ w.cell? ⟨X, 11, none⟩ = some (.bool d.op.2.2.2.2.1) ∧ w.cell? ⟨X, 12, none⟩ = some (.bool d.op.2.2.2.2.2) ∧ w.cell? ⟨X, 13, none⟩ = some (k) :=
  ⟨h.cell 0, h.cell 1, h.cell 2, h.cell 3, h.cell 4, h.cell 5, h.cell 6, h.cell 7, h.cell 8, h.cell 9, h.cell 10, h.cell 11, h.cell 12, h.cell 13⟩
theorem ncells {w : World} {X : Nat} (h : Blk w X 29 #[.int .i64 0, .int .i64 0, .int .i64 0, .int .i64 0, .bool false, .bool false]) : w.cell? ⟨X, 0, none⟩ = some (.int .i64 0) ∧ w.cell? ⟨X, 1, none⟩ = some (.int .i64 0) ∧ w.cell? ⟨X, 2, none⟩ = some (.int .i64 0) ∧ w.cell? ⟨X, 3, none⟩ = some (.int .i64 0) ∧ w.cell? ⟨X, 4, none⟩ = some (.bool false) ∧ w.cell? ⟨X, 5, none⟩ = some (.bool false) :=
  ⟨h.cell 0, h.cell 1, h.cell 2, h.cell 3, h.cell 4, h.cell 5⟩
/-- Options are compared. -/
theorem eq_op (a a' b b' c c' m m' : Int) (p p' q q' : Bool) : ∃ r, ∀ w, (binOp .eql 29 (.agg #[.int .i64 a, .int .i64 b, .int .i64 c, .int .i64 m, .bool p, .bool q]) (.agg #[.int .i64 a', .int .i64 b', .int .i64 c', .int .i64 m', .bool p', .bool q'])).run Tryz.prog w = .ok (.bool r) w := by
  have u3 := Tryz.underlying3
  have u4 := Tryz.underlying4
  have hS : Tryz.prog.underlying 29 = some (.struct (Tryz.prog.fieldsOf 29)) := by kernel_rfl
  have hp : Tryz.prog.stoodInHeld 29 = false := by kernel_rfl
  refine ⟨decide (a = a') && (decide (b = b') && (decide (c = c') && (decide (m = m') && (decide (p = p') && decide (q = q'))))), fun w => ?_⟩
  have he : (Op.equalIn 10000 29 (.agg #[.int .i64 a, .int .i64 b, .int .i64 c, .int .i64 m, .bool p, .bool q]) (.agg #[.int .i64 a', .int .i64 b', .int .i64 c', .int .i64 m', .bool p', .bool q'])).run Tryz.prog w = .ok (decide (a = a') && (decide (b = b') && (decide (c = c') && (decide (m = m') && (decide (p = p') && decide (q = q')))))) w := by
    rw [show (10000 : Nat) = 9999 + 1 from rfl, run_equalIn_agg w 9999 29 _ _ hS hp]
    simp only [Program.fieldsOf, Tryz.underlying29]
    go_simp
    by_cases h1 : a = a'
    · by_cases h2 : b = b'
      · by_cases h3 : c = c'
        · by_cases h4 : m = m'
          · by_cases h5 : p = p'
            · by_cases h6 : q = q'
              · simp [h1, h2, h3, h4, h5, h6]
              · simp [h1, h2, h3, h4, h5, h6]
            · simp [h1, h2, h3, h4, h5]
          · simp [h1, h2, h3, h4]
        · simp [h1, h2, h3]
      · simp [h1, h2]
    · simp [h1]
  simp only [binOp]
  simp [Op.equal, Op.maxDepth, he]
theorem neq_op (a a' b b' c c' m m' : Int) (p p' q q' : Bool) : ∃ r, ∀ w, (binOp .neq 29 (.agg #[.int .i64 a, .int .i64 b, .int .i64 c, .int .i64 m, .bool p, .bool q]) (.agg #[.int .i64 a', .int .i64 b', .int .i64 c', .int .i64 m', .bool p', .bool q'])).run Tryz.prog w = .ok (.bool r) w := by
  have u3 := Tryz.underlying3
  have u4 := Tryz.underlying4
  have hS : Tryz.prog.underlying 29 = some (.struct (Tryz.prog.fieldsOf 29)) := by kernel_rfl
  have hp : Tryz.prog.stoodInHeld 29 = false := by kernel_rfl
  refine ⟨!(decide (a = a') && (decide (b = b') && (decide (c = c') && (decide (m = m') && (decide (p = p') && decide (q = q')))))), fun w => ?_⟩
  have he : (Op.equalIn 10000 29 (.agg #[.int .i64 a, .int .i64 b, .int .i64 c, .int .i64 m, .bool p, .bool q]) (.agg #[.int .i64 a', .int .i64 b', .int .i64 c', .int .i64 m', .bool p', .bool q'])).run Tryz.prog w = .ok (decide (a = a') && (decide (b = b') && (decide (c = c') && (decide (m = m') && (decide (p = p') && decide (q = q')))))) w := by
    rw [show (10000 : Nat) = 9999 + 1 from rfl, run_equalIn_agg w 9999 29 _ _ hS hp]
    simp only [Program.fieldsOf, Tryz.underlying29]
    go_simp
    by_cases h1 : a = a'
    · by_cases h2 : b = b'
      · by_cases h3 : c = c'
        · by_cases h4 : m = m'
          · by_cases h5 : p = p'
            · by_cases h6 : q = q'
              · simp [h1, h2, h3, h4, h5, h6]
              · simp [h1, h2, h3, h4, h5, h6]
            · simp [h1, h2, h3, h4, h5]
          · simp [h1, h2, h3, h4]
        · simp [h1, h2, h3]
      · simp [h1, h2]
    · simp [h1]
  simp only [binOp]
  simp only [Op.equal, Op.maxDepth, Sem.run_bind, he, Result.andThen_ok, Sem.run_pure]
set_option maxRecDepth 100000 in
set_option maxHeartbeats 8000000 in
theorem may1_any (t : VT) (v : Value) (w : World) (hsz : t.size ≤ 20) (hvb : txb t.dat) (hT : IsT vK w (Old w) t v) (hk0 : Hid (t.dat.kind = 1)) : Calls Tryz.prog 59 #[v] w (MyPost t.dat w) := by
  obtain ⟨A4, c4, vs, ⟨a1, a2, a3, rfl, hrows⟩, hvs, hks⟩ := IsT.eq.1 hT
  obtain ⟨A1, c1, A2, c2, A3, c3, rfl, rfl, rfl, r1, r2, r3⟩ := hrows
  have hkl : t.kids.length ≤ 19 := kids_len hsz
  obtain ⟨d, hd⟩ : ∃ d, d = t.dat := ⟨_, rfl⟩
  obtain ⟨ks, hkse⟩ : ∃ ks, ks = t.kids := ⟨_, rfl⟩
  rw [← hd] at r1 r2 r3 hvb hk0 ⊢
  rw [← hkse] at hvs hks hkl ⊢
  obtain ⟨w1, hw1, hX, hN, hB0, hs1⟩ := two_new w (vC d (.slice A1 d.cl.length c1) (.slice A2 d.at_.length c2) (.slice A3 d.st.length c3) (.slice A4 ks.length c4)).toArray #[.int .i64 0, .int .i64 0, .int .i64 0, .int .i64 0, .bool false, .bool false] 32 29
  unfold vV vC
  unfold vC at hX hw1
  clear hT hd hkse hsz
  go_enter Tryz.func59, Tryz.ntmps59
  go_upto_region 2 with fail
  rw [← hw1]
  obtain ⟨X, hXe⟩ : ∃ X, X = w.heap.size := ⟨_, rfl⟩
  rw [← hXe] at hX hN hs1 ⊢
  have HX := Lib.hid (And.intro hX (And.intro hN (And.intro hB0 (And.intro hXe hs1))))
  obtain ⟨x0, x1, x2, x3, x4, x5, x6, x7, x8, x9, x10, x11, x12, x13⟩ := vcells (a1 := .slice A1 d.cl.length c1) (a2 := .slice A2 d.at_.length c2) (a3 := .slice A3 d.st.length c3) (k := .slice A4 ks.length c4) hX
  have HR := Lib.hid (And.intro (r1.move (w' := w1) (.of_below hB0 fun _ h => h)) (And.intro (r2.move (w' := w1) (.of_below hB0 fun _ h => h)) (And.intro (r3.move (w' := w1) (.of_below hB0 fun _ h => h)) (And.intro (fun b (h : Old w b) => show b < w1.heap.size from Nat.lt_of_lt_of_le h hB0.size) hvb))))
  have HKS := Lib.hid (And.intro (show Vs 14 w1 (Old w) A4 ks.length vs from hvs.move (.of_below hB0 fun _ h => h)) (hks.move (w' := w1) (.of_below hB0 fun _ h => h)))
  clear hw1 hXe hs1 hX hN hB0 r1 r2 r3 hvs hks hvb
  have hk1 := hk0.out
  have HOK := Lib.hid (show okV d from fun h => absurd hk1 h)
  have hk1' : (d.kind == 1) = true := by simp [hk1]
  go_wp2_with fail
  refine (rtext_any d.text (by have := HR.out.2.2.2.2.2.1; omega) w1).mono ?_
  rintro e5 w5 ⟨q5, rfl, rfl⟩
  cases q5
  · go_wp2_with fail
    go_ret
    exact ⟨_, rfl, fun _ => HOK.out, HX.out.2.2.1⟩
  · by_cases ht : d.tag.toList = []
    · by_cases hk : d.key.toList = []
      · go_wp2_with fail
        have q1 : RdS cvS ByteArray.empty 1 w5 (Old w5) A1 d.cl.length d.cl := HR.out.1.weak HR.out.2.2.2.1
        have q2 : RdS St.cvP St.pr0 2 w5 (Old w5) A2 d.at_.length d.at_ := HR.out.2.1.weak HR.out.2.2.2.1
        have q3 : RdS cvP pr0 2 w5 (Old w5) A3 d.st.length d.st := HR.out.2.2.1.weak HR.out.2.2.2.1
        have q4 : vb d := HR.out.2.2.2.2.1
        have hnm := names_any d A1 A2 A3 c1 c2 c3 (.slice A4 ks.length c4) w5 q4 q1 q2 q3
        unfold vV vC at hnm
        rw [hk1] at hnm
        refine hnm.mono ?_
        clear hnm
        rintro e6 w6 ⟨v6, rfl, hown, hb6⟩
        obtain ⟨A6, c6, rfl⟩ := own_form hown
        clear x0 x1 x2 x3 x4 x5 x6 x7 x8 x9 x10 x11 x12 x13
        have HX2 := Lib.hid (HX.out.1.below hb6 HX.out.1.lt)
        have HB := Lib.hid (HX.out.2.2.1.trans (hb6.mono HX.out.2.2.1.size))
        obtain ⟨x0, x1, x2, x3, x4, x5, x6, x7, x8, x9, x10, x11, x12, x13⟩ := vcells (a1 := .slice A1 d.cl.length c1) (a2 := .slice A2 d.at_.length c2) (a3 := .slice A3 d.st.length c3) (k := .slice A4 ks.length c4) HX2.out
        obtain ⟨n0, n1, n2, n3, n4, n5⟩ := ncells (HX.out.2.1.below hb6 HX.out.2.1.lt)
        obtain ⟨m6, hm6⟩ : ∃ m, m = (namesL d).length := ⟨_, rfl⟩
        rw [← hm6]
        clear hown hb6 hm6
        obtain ⟨kl, hkle⟩ : ∃ kl, kl = ks.length := ⟨_, rfl⟩
        rw [← hkle] at x13 ⊢
        clear hkle HX2 q1 q2 q3 q4 HX HR HKS
        go_wp2_with fail
        all_goals
          go_ret
          exact ⟨_, rfl, fun _ => HOK.out, HB.out⟩
      · go_wp2_with fail
        go_ret
        exact ⟨_, rfl, fun _ => HOK.out, HX.out.2.2.1⟩
    · go_wp2_with fail
      go_ret
      exact ⟨_, rfl, fun _ => HOK.out, HX.out.2.2.1⟩

end Go.Proofs.YtaalhglooipnaaaGreat
