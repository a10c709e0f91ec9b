/-
  slices.Clone at four types, of slices that are read alone (written by gen_cln.py).
  Views: Own of layer 7 (the same view, as the program's).
-/
import Derived.Test.YtaalhglooipnaaaGreatL12
import Derived.Test.YtaalhglooipnaaaGreatL04
namespace Go.Proofs.YtaalhglooipnaaaGreat
open Go.RowKit
attribute [local go_sem ↓] Go.wp_at_zero Go.wp_at_succ

theorem wpList_append_of_run {P : Program} {ops : Array Oper} {rest : List Oper} {o : Oper} {a : Act} {w w' : World} {Q : Exit → Act → World → Prop} (hgd : o.guard = none) (s x : Operand) (t : TypeId) (ho : o.op = .call { callee := .builtin .append, args := #[s, x], argTypes := #[t, t] }) (u v r : Value) (hs : a.eval s = u) (hx : a.eval x = v)
    (hf : (Builtin.append_ #[t, t] o.type #[u, v]).run P w = .ok r w') (h : wpList P ops Q rest (a.put o.dst r) w') : wpList P ops Q (o :: rest) a w := by
  refine wpList_plain hgd fun _ hK => ?_
  unfold Oper.wp execOp
  simp only [ho, resolve, invoke, builtin, Sem.run_bind, Sem.run_pure, Result.andThen_ok, List.map_toArray, List.map_cons, List.map_nil, hs, hx, hf]
  exact hK _ _ h
theorem cvN_one (l : List Int) : ∀ u ∈ l.flatMap (fun i => [Value.int .i64 i]), u.oneCell' = true := by
  intro u hu
  simp only [List.mem_flatMap, List.mem_singleton] at hu
  obtain ⟨z, _, rfl⟩ := hu
  rfl
def cvN (i : Int) : List Value := [.int .i64 i]
abbrev RowN (B : Nat) (l : List Int) (v : Value) (w : World) : Prop := Row cvN 0 1 3 B l v w
theorem int_info : (Tryz.prog.info? 3).map (fun i => (i.zero, i.size, i.bytes)) = some (some (.int .i64 0), 1, 8) := by kernel_rfl


theorem bs0_S (w : World) : (Instr.buildSlice 25 0 #[]).run Tryz.prog w = .ok (.slice (some ⟨w.heap.size, 0, none⟩) 0 0) (w.alloc (.cells #[] 9)) := by go_simp
theorem app0_S (w : World) (ty : TypeId) (B A : Option Addr) (n c : Nat) (l : List ByteArray) (S : Nat → Prop) (hr : RdS cvS ByteArray.empty 1 w S A n l) (hn : n ≤ 1000000) :
    ∃ v w', (Builtin.append_ #[25, 25] ty #[.slice B 0 0, .slice A n c]).run Tryz.prog w = .ok v w' ∧ RowS w.heap.size l v w' ∧ Below w.heap.size w w' := by
  obtain ⟨tr, hi, hz0, hz1, hz2⟩ := info_parts str_info
  exact run_append_fresh w _ ty 9 tr _ 16 Tryz.underlying25 hi hz0 hz1 hz2 rfl (by decide) B A n c l S hr (fun _ _ => rfl) (cvS_oneCell l) hn (by decide)
theorem nilq_S (n c : Nat) (w : World) : (binOp .eql 25 (.slice none n c) (.slice none 0 0)).run Tryz.prog w = .ok (.bool true) w := Lib.run_eql_slice_nil_nil w _ _ Tryz.underlying25
theorem someq_S (g : Addr) (n c : Nat) (w : World) : (binOp .eql 25 (.slice (some g) n c) (.slice none 0 0)).run Tryz.prog w = .ok (.bool false) w := Lib.run_eql_slice_some_nil w _ _ _ Tryz.underlying25
attribute [local go_sem] nilq_S someq_S
set_option maxRecDepth 100000 in
set_option maxHeartbeats 4000000 in
theorem cln_S (A : Option Addr) (n c : Nat) (l : List ByteArray) (S : Nat → Prop) (w : World) (hS : ∀ b, S b → b < w.heap.size) (hr : RdS cvS ByteArray.empty 1 w S A n l) (hn : n ≤ 1000000) :
    Calls Tryz.prog 53 #[.slice A n c] w (Hands (RowS w.heap.size l) w) := by
  cases A with
  | none =>
    have h0 : n = 0 := by
      rcases Nat.eq_zero_or_pos n with h | h
      · exact h
      · obtain ⟨b, off, h1, _⟩ := hr.2 0 h; cases h1
    subst h0
    obtain rfl := List.length_eq_zero_iff.1 hr.1
    clear hr
    go_enter Tryz.func53, Tryz.ntmps53
    go_wp2
    go_ret
    exact ⟨_, rfl, Row.nil _ _ _ _, Below.refl _ _⟩
  | some g =>
    have hb1 := below_alloc w (.cells #[] 9)
    obtain ⟨v', w', hrun, hrow, hb'⟩ := app0_S (w.alloc (.cells #[] 9)) 25 (some ⟨w.heap.size, 0, none⟩) (some g) n c l S (hr.move (.of_below hb1 hS)) hn
    have HH := Lib.hid (And.intro hrun (And.intro (hrow.low hb1.size) (hb1.trans (hb'.mono hb1.size))))
    clear hr hrun hrow hb' hb1 hS
    go_enter Tryz.func53, Tryz.ntmps53
    go_wp2_with (first | (at_builtin; refine wpList_append_of_run rfl _ _ _ rfl _ _ _ rfl rfl HH.out.1 ?_))
    go_ret
    exact ⟨v', rfl, HH.out.2.1, HH.out.2.2⟩

theorem bs0_A (w : World) : (Instr.buildSlice 35 0 #[]).run Tryz.prog w = .ok (.slice (some ⟨w.heap.size, 0, none⟩) 0 0) (w.alloc (.cells #[] 90)) := by go_simp
theorem app0_A (w : World) (ty : TypeId) (B A : Option Addr) (n c : Nat) (l : List St.Pr) (S : Nat → Prop) (hr : RdS St.cvP St.pr0 2 w S A n l) (hn : n ≤ 1000000) :
    ∃ v w', (Builtin.append_ #[35, 35] ty #[.slice B 0 0, .slice A n c]).run Tryz.prog w = .ok v w' ∧ RowA 90 w.heap.size l v w' ∧ Below w.heap.size w w' := by
  obtain ⟨tr, hi, hz0, hz1, hz2⟩ := info_parts St.pr_info
  exact run_append_fresh w _ ty 90 tr _ 32 Tryz.underlying35 hi hz0 hz1 hz2 rfl (by decide) B A n c l S hr (fun _ _ => rfl) (St.cvP_oneCell l) hn (by decide)
theorem nilq_A (n c : Nat) (w : World) : (binOp .eql 35 (.slice none n c) (.slice none 0 0)).run Tryz.prog w = .ok (.bool true) w := Lib.run_eql_slice_nil_nil w _ _ Tryz.underlying35
theorem someq_A (g : Addr) (n c : Nat) (w : World) : (binOp .eql 35 (.slice (some g) n c) (.slice none 0 0)).run Tryz.prog w = .ok (.bool false) w := Lib.run_eql_slice_some_nil w _ _ _ Tryz.underlying35
attribute [local go_sem] nilq_A someq_A
set_option maxRecDepth 100000 in
set_option maxHeartbeats 4000000 in
theorem cln_A (A : Option Addr) (n c : Nat) (l : List St.Pr) (S : Nat → Prop) (w : World) (hS : ∀ b, S b → b < w.heap.size) (hr : RdS St.cvP St.pr0 2 w S A n l) (hn : n ≤ 1000000) :
    Calls Tryz.prog 54 #[.slice A n c] w (Hands (RowA 90 w.heap.size l) w) := by
  cases A with
  | none =>
    have h0 : n = 0 := by
      rcases Nat.eq_zero_or_pos n with h | h
      · exact h
      · obtain ⟨b, off, h1, _⟩ := hr.2 0 h; cases h1
    subst h0
    obtain rfl := List.length_eq_zero_iff.1 hr.1
    clear hr
    go_enter Tryz.func54, Tryz.ntmps54
    go_wp2
    go_ret
    exact ⟨_, rfl, Row.nil _ _ _ _, Below.refl _ _⟩
  | some g =>
    have hb1 := below_alloc w (.cells #[] 90)
    obtain ⟨v', w', hrun, hrow, hb'⟩ := app0_A (w.alloc (.cells #[] 90)) 35 (some ⟨w.heap.size, 0, none⟩) (some g) n c l S (hr.move (.of_below hb1 hS)) hn
    have HH := Lib.hid (And.intro hrun (And.intro (hrow.low hb1.size) (hb1.trans (hb'.mono hb1.size))))
    clear hr hrun hrow hb' hb1 hS
    go_enter Tryz.func54, Tryz.ntmps54
    go_wp2_with (first | (at_builtin; refine wpList_append_of_run rfl _ _ _ rfl _ _ _ rfl rfl HH.out.1 ?_))
    go_ret
    exact ⟨v', rfl, HH.out.2.1, HH.out.2.2⟩

theorem bs0_P (w : World) : (Instr.buildSlice 37 0 #[]).run Tryz.prog w = .ok (.slice (some ⟨w.heap.size, 0, none⟩) 0 0) (w.alloc (.cells #[] 105)) := by go_simp
theorem app0_P (w : World) (ty : TypeId) (B A : Option Addr) (n c : Nat) (l : List Pr) (S : Nat → Prop) (hr : RdS cvP pr0 2 w S A n l) (hn : n ≤ 1000000) :
    ∃ v w', (Builtin.append_ #[37, 37] ty #[.slice B 0 0, .slice A n c]).run Tryz.prog w = .ok v w' ∧ RowP 105 w.heap.size l v w' ∧ Below w.heap.size w w' := by
  obtain ⟨tr, hi, hz0, hz1, hz2⟩ := info_parts pr_info
  exact run_append_fresh w _ ty 105 tr _ 24 Tryz.underlying37 hi hz0 hz1 hz2 rfl (by decide) B A n c l S hr (fun _ _ => rfl) (cvP_oneCell l) hn (by decide)
theorem nilq_P (n c : Nat) (w : World) : (binOp .eql 37 (.slice none n c) (.slice none 0 0)).run Tryz.prog w = .ok (.bool true) w := Lib.run_eql_slice_nil_nil w _ _ Tryz.underlying37
theorem someq_P (g : Addr) (n c : Nat) (w : World) : (binOp .eql 37 (.slice (some g) n c) (.slice none 0 0)).run Tryz.prog w = .ok (.bool false) w := Lib.run_eql_slice_some_nil w _ _ _ Tryz.underlying37
attribute [local go_sem] nilq_P someq_P
set_option maxRecDepth 100000 in
set_option maxHeartbeats 4000000 in
theorem cln_P (A : Option Addr) (n c : Nat) (l : List Pr) (S : Nat → Prop) (w : World) (hS : ∀ b, S b → b < w.heap.size) (hr : RdS cvP pr0 2 w S A n l) (hn : n ≤ 1000000) :
    Calls Tryz.prog 55 #[.slice A n c] w (Hands (RowP 105 w.heap.size l) w) := by
  cases A with
  | none =>
    have h0 : n = 0 := by
      rcases Nat.eq_zero_or_pos n with h | h
      · exact h
      · obtain ⟨b, off, h1, _⟩ := hr.2 0 h; cases h1
    subst h0
    obtain rfl := List.length_eq_zero_iff.1 hr.1
    clear hr
    go_enter Tryz.func55, Tryz.ntmps55
    go_wp2
    go_ret
    exact ⟨_, rfl, Row.nil _ _ _ _, Below.refl _ _⟩
  | some g =>
    have hb1 := below_alloc w (.cells #[] 105)
    obtain ⟨v', w', hrun, hrow, hb'⟩ := app0_P (w.alloc (.cells #[] 105)) 37 (some ⟨w.heap.size, 0, none⟩) (some g) n c l S (hr.move (.of_below hb1 hS)) hn
    have HH := Lib.hid (And.intro hrun (And.intro (hrow.low hb1.size) (hb1.trans (hb'.mono hb1.size))))
    clear hr hrun hrow hb' hb1 hS
    go_enter Tryz.func55, Tryz.ntmps55
    go_wp2_with (first | (at_builtin; refine wpList_append_of_run rfl _ _ _ rfl _ _ _ rfl rfl HH.out.1 ?_))
    go_ret
    exact ⟨v', rfl, HH.out.2.1, HH.out.2.2⟩

theorem bs0_N (w : World) : (Instr.buildSlice 71 0 #[]).run Tryz.prog w = .ok (.slice (some ⟨w.heap.size, 0, none⟩) 0 0) (w.alloc (.cells #[] 3)) := by go_simp
theorem app0_N (w : World) (ty : TypeId) (B A : Option Addr) (n c : Nat) (l : List Int) (S : Nat → Prop) (hr : RdS cvN 0 1 w S A n l) (hn : n ≤ 1000000) :
    ∃ v w', (Builtin.append_ #[71, 71] ty #[.slice B 0 0, .slice A n c]).run Tryz.prog w = .ok v w' ∧ RowN w.heap.size l v w' ∧ Below w.heap.size w w' := by
  obtain ⟨tr, hi, hz0, hz1, hz2⟩ := info_parts int_info
  exact run_append_fresh w _ ty 3 tr _ 8 Tryz.underlying71 hi hz0 hz1 hz2 rfl (by decide) B A n c l S hr (fun _ _ => rfl) (cvN_one l) hn (by decide)
theorem nilq_N (n c : Nat) (w : World) : (binOp .eql 71 (.slice none n c) (.slice none 0 0)).run Tryz.prog w = .ok (.bool true) w := Lib.run_eql_slice_nil_nil w _ _ Tryz.underlying71
theorem someq_N (g : Addr) (n c : Nat) (w : World) : (binOp .eql 71 (.slice (some g) n c) (.slice none 0 0)).run Tryz.prog w = .ok (.bool false) w := Lib.run_eql_slice_some_nil w _ _ _ Tryz.underlying71
attribute [local go_sem] nilq_N someq_N
set_option maxRecDepth 100000 in
set_option maxHeartbeats 4000000 in
theorem cln_N (A : Option Addr) (n c : Nat) (l : List Int) (S : Nat → Prop) (w : World) (hS : ∀ b, S b → b < w.heap.size) (hr : RdS cvN 0 1 w S A n l) (hn : n ≤ 1000000) :
    Calls Tryz.prog 115 #[.slice A n c] w (Hands (RowN w.heap.size l) w) := by
  cases A with
  | none =>
    have h0 : n = 0 := by
      rcases Nat.eq_zero_or_pos n with h | h
      · exact h
      · obtain ⟨b, off, h1, _⟩ := hr.2 0 h; cases h1
    subst h0
    obtain rfl := List.length_eq_zero_iff.1 hr.1
    clear hr
    go_enter Tryz.func115, Tryz.ntmps115
    go_wp2
    go_ret
    exact ⟨_, rfl, Row.nil _ _ _ _, Below.refl _ _⟩
  | some g =>
    have hb1 := below_alloc w (.cells #[] 3)
    obtain ⟨v', w', hrun, hrow, hb'⟩ := app0_N (w.alloc (.cells #[] 3)) 71 (some ⟨w.heap.size, 0, none⟩) (some g) n c l S (hr.move (.of_below hb1 hS)) hn
    have HH := Lib.hid (And.intro hrun (And.intro (hrow.low hb1.size) (hb1.trans (hb'.mono hb1.size))))
    clear hr hrun hrow hb' hb1 hS
    go_enter Tryz.func115, Tryz.ntmps115
    go_wp2_with (first | (at_builtin; refine wpList_append_of_run rfl _ _ _ rfl _ _ _ rfl rfl HH.out.1 ?_))
    go_ret
    exact ⟨v', rfl, HH.out.2.1, HH.out.2.2⟩

end Go.Proofs.YtaalhglooipnaaaGreat
namespace Go.Proofs.YtaalhglooipnaaaGreat
open Go.RowKit RT
attribute [local go_sem ↓] Go.wp_at_zero Go.wp_at_succ

theorem ld_opR {b : Nat} {w : World} {v7 v8 v9 v10 v11 v12 : Value} (h7 : w.cell? ⟨b, 7, none⟩ = some v7) (h8 : w.cell? ⟨b, 8, none⟩ = some v8) (h9 : w.cell? ⟨b, 9, none⟩ = some v9) (h10 : w.cell? ⟨b, 10, none⟩ = some v10) (h11 : w.cell? ⟨b, 11, none⟩ = some v11) (h12 : w.cell? ⟨b, 12, none⟩ = some v12) :
    (Instr.loadAt 29 (.pointer (some ⟨b, 7, none⟩))).run Tryz.prog w = .ok (.agg #[v7, v8, v9, v10, v11, v12]) w := by go_simp
theorem bld_vn (d : VD) (A4 A6 : Option Addr) (n4 c4 n6 c6 : Nat) (w : World) :
    (Instr.build 45 #[(0, .int .i64 d.kind), (1, .string d.tag), (2, .string d.key), (3, .string d.text), (4, .slice A4 n4 c4), (6, .slice A6 n6 c6), (7, .agg #[.int .i64 d.op.1, .int .i64 d.op.2.1, .int .i64 d.op.2.2.1, .int .i64 d.op.2.2.2.1, .bool d.op.2.2.2.2.1, .bool d.op.2.2.2.2.2])]).run Tryz.prog w =
      .ok (vV d (.slice A4 n4 c4) (.slice none 0 0) (.slice A6 n6 c6) (.slice none 0 0)) w := by
  unfold vV vC
  go_simp
theorem ownR_any (A : Option Addr) (n c : Nat) (l : List Pr) (w : World) (S : Nat → Prop) (hS : ∀ b, S b → b < w.heap.size) (hz : RdS cvP pr0 2 w S A n l) (hn : n ≤ 500) :
    Calls Tryz.prog 26 #[.slice A n c] w (Hands (RowP 105 w.heap.size l) w) := by
  refine (own_any A n c l w (hz.rd hS) hn).mono ?_
  rintro e w' ⟨A', c', rfl, h, hb⟩
  exact ⟨_, rfl, Row.of_own (fun _ _ => rfl) h rfl (Nat.le_refl _), hb⟩

def OwnR1 (W : World) (X : Nat) (d : VD) (A1 A2 A3 : Option Addr) (c1 c2 c3 : Nat) (kv : Value) : Nat → Value → World → Prop
  | 0, v, _ => v = .pointer (some ⟨X, 0, none⟩)
  | 1, v, _ => v = .int .i64 d.kind
  | 2, v, _ => v = .pointer (some ⟨X, 1, none⟩)
  | 3, v, _ => v = .string d.tag
  | 4, v, _ => v = .pointer (some ⟨X, 2, none⟩)
  | 5, v, _ => v = .string d.key
  | 6, v, _ => v = .pointer (some ⟨X, 3, none⟩)
  | 7, v, _ => v = .string d.text
  | 8, v, _ => ∃ B0, v = .slice B0 0 0
  | 9, v, _ => v = .pointer (some ⟨X, 4, none⟩)
  | 10, v, _ => v = .slice A1 d.cl.length c1
  | 11, v, w => RowS W.heap.size d.cl v w
  | 12, v, _ => v = .pointer (some ⟨X, 6, none⟩)
  | 13, v, _ => v = .slice A3 d.st.length c3
  | 14, v, w => RowP 105 W.heap.size d.st v w
  | 15, v, _ => v = .pointer (some ⟨X, 7, none⟩)
  | 16, v, _ => v = .agg #[.int .i64 d.op.1, .int .i64 d.op.2.1, .int .i64 d.op.2.2.1, .int .i64 d.op.2.2.2.1, .bool d.op.2.2.2.2.1, .bool d.op.2.2.2.2.2]
  | 17, v, w => ∃ u4 u6, v = vV d u4 (.slice none 0 0) u6 (.slice none 0 0) ∧ RowS W.heap.size d.cl u4 w ∧ RowP 105 W.heap.size d.st u6 w
  | 18, v, w => NewAt W.heap.size 45 zs_vn v w
  | _, _, _ => True
theorem OwnR1_keep (W : World) (X : Nat) (d : VD) (A1 A2 A3 : Option Addr) (c1 c2 c3 : Nat) (kv : Value) (j : Nat) (v : Value) (w w' : World) (h : OwnR1 W X d A1 A2 A3 c1 c2 c3 kv j v w) (hb : Below w.heap.size w w') : OwnR1 W X d A1 A2 A3 c1 c2 c3 kv j v w' := by
  match j with
  | 0 => exact h
  | 1 => exact h
  | 2 => exact h
  | 3 => exact h
  | 4 => exact h
  | 5 => exact h
  | 6 => exact h
  | 7 => exact h
  | 8 => exact h
  | 9 => exact h
  | 10 => exact h
  | 11 => exact Row.keep h hb
  | 12 => exact h
  | 13 => exact h
  | 14 => exact Row.keep h hb
  | 15 => exact h
  | 16 => exact h
  | 17 => exact (by obtain ⟨u4, u6, e, h1, h2⟩ := h; exact ⟨u4, u6, e, h1.keep hb, h2.keep hb⟩)
  | 18 => exact NewAt.keep h hb
  | _ + 19 => trivial
def OwnR10 (W : World) (N K7 : Nat) (d : VD) (u4 u5 u6 u13 : Value) (e : VD) (k1 k2 k3 k4 : Value) (t : VT) : Nat → Value → World → Prop
  | 0, v, _ => v = .pointer (some ⟨N, 13, none⟩)
  | 1, v, _ => v = u13
  | 2, v, _ => v = .agg #[.int .i64 e.kind, .string e.tag, .string e.key, .string e.text, k1, k2, k3, .int .i64 e.op.1, .int .i64 e.op.2.1, .int .i64 e.op.2.2.1, .int .i64 e.op.2.2.2.1, .bool e.op.2.2.2.2.1, .bool e.op.2.2.2.2.2, k4]
  | 3, v, w => IsT vK w (Fresh W.heap.size w) t v
  | 4, v, w => NewT vK 45 W.heap.size t v w
  | _, _, _ => True
theorem OwnR10_keep (W : World) (N K7 : Nat) (d : VD) (u4 u5 u6 u13 : Value) (e : VD) (k1 k2 k3 k4 : Value) (t : VT) (j : Nat) (v : Value) (w w' : World) (h : OwnR10 W N K7 d u4 u5 u6 u13 e k1 k2 k3 k4 t j v w) (hb : Below w.heap.size w w') : OwnR10 W N K7 d u4 u5 u6 u13 e k1 k2 k3 k4 t j v w' := by
  match j with
  | 0 => exact h
  | 1 => exact h
  | 2 => exact h
  | 3 => exact (h.move (Fresh.still hb)).weak (Fresh.mono hb.size)
  | 4 => exact NewT.keep h hb
  | _ + 5 => trivial

/-- Few classes, attributes, styles. -/
def vb (d : VD) : Prop := d.cl.length ≤ 100 ∧ d.at_.length ≤ 100 ∧ d.st.length ≤ 100

theorem vn_info : (Tryz.prog.info? 45).map (fun i => (i.zero, i.size, i.bytes)) = some (some (.agg zs_vn), 14, 192) := by kernel_rfl
/-- What is known of a view that is made. -/
def OwI (w1 : World) (N : Nat) (d : VD) (k : Nat) (ts : List VT) (u4 u5 u6 u13 : Value) (vs : List Value) (wx : World) : Prop :=
  Below w1.heap.size w1 wx ∧ w1.heap.size ≤ N ∧ Blk wx N 45 (vC d u4 u5 u6 u13).toArray ∧ RowS w1.heap.size d.cl u4 wx ∧ RowP 105 w1.heap.size d.st u6 wx ∧
  wx.ownsRow w1.heap.size 90 2 u5 k ((d.at_.take k).flatMap St.cvP) ∧ wx.ownsRow w1.heap.size 45 14 u13 ts.length (vs.flatMap (cvK 14)) ∧ u13.ownBlock ≠ some N ∧
  IsTs vK wx (fun b => w1.heap.size ≤ b ∧ b < wx.heap.size ∧ b ≠ N ∧ u13.ownBlock ≠ some b) ts vs

section
variable {w1 wr wz w5 : World} {N k : Nat} {d : VD} {ts : List VT} {u4 u5 u6 u13 v : Value} {vs : List Value}
theorem OwI.attr (h : OwI w1 N d k [] u4 u5 u6 u13 [] wr) (hb : Below wr.heap.size wr wz) (hk : k < d.at_.length) (hc : Chg (fun i => u5.ownBlock = some i ∨ i = N) wz w5) (hN : Blk w5 N 45 ((vC d u4 u5 u6 u13).toArray.setIfInBounds 5 v))
    (hown : w5.ownsRow w1.heap.size 90 2 v (k + 1) ((d.at_.take k).flatMap St.cvP ++ [.string (d.at_.getD k St.pr0).1, .string (d.at_.getD k St.pr0).2])) : OwI w1 N d (k + 1) [] u4 v u6 u13 [] w5 := by
  obtain ⟨h1, h2, h3, h4, h5, h6, h7, h8, h9⟩ := h
  have h3z := h3.below hb h3.lt
  have h6z := own_keep h6 hb
  have h7z := own_keep h7 hb
  have hT : ∀ i, (u5.ownBlock = some i ∨ i = N) → w1.heap.size ≤ i := by
    rintro i (hi | rfl)
    · exact (h6.lt i hi).1
    · exact h2
  refine ⟨(h1.trans (hb.mono h1.size)).trans (hc.below (Nat.le_trans h1.size hb.size) hT), h2, hN, (h4.keep hb).chg hc ?_, (h5.keep hb).chg hc ?_, ?_, hc.own h7z ?_, h8, ?_⟩
  · rintro b cs _ hb' (e | rfl)
    · exact own_blk_ne h6z hb' (by decide) e
    · exact Blk.ne_ hb' h3z (by decide) rfl
  · rintro b cs _ hb' (e | rfl)
    · exact own_blk_ne h6z hb' (by decide) e
    · exact Blk.ne_ hb' h3z (by decide) rfl
  · rw [take_snoc d.at_ St.pr0 k hk, St.cvP_snoc]
    exact hown
  · rintro g hg (e | rfl)
    · rcases own_own_ne h7z h6z (by decide) with h | h
      · rw [hg] at h; cases h
      · exact h (by rw [hg, e])
    · exact h8 hg
  · rw [IsTs]
theorem OwI.kid {t : VT} {v' : Value} (h : OwI w1 N d k ts u4 u5 u6 u13 vs wr) (hb : Below wr.heap.size wr wz) (ht : IsT vK wz (Fresh wr.heap.size wz) t v') (hc : Chg (fun i => u13.ownBlock = some i ∨ i = N) wz w5) (hN : Blk w5 N 45 ((vC d u4 u5 u6 u13).toArray.setIfInBounds 13 v))
    (hown : w5.ownsRow w1.heap.size 45 14 v (ts.length + 1) (vs.flatMap (cvK 14) ++ cvK 14 v')) (hvN : v.ownBlock ≠ some N) (hat : v.ownBlock = u13.ownBlock ∨ v.ownBlock = some wz.heap.size) : OwI w1 N d k (ts ++ [t]) u4 u5 u6 v (vs ++ [v']) w5 := by
  obtain ⟨h1, h2, h3, h4, h5, h6, h7, h8, h9⟩ := h
  have h3z := h3.below hb h3.lt
  have h6z := own_keep h6 hb
  have h7z := own_keep h7 hb
  have hT : ∀ i, (u13.ownBlock = some i ∨ i = N) → w1.heap.size ≤ i := by
    rintro i (hi | rfl)
    · exact (h7.lt i hi).1
    · exact h2
  have hNlt := h3.lt
  refine ⟨(h1.trans (hb.mono h1.size)).trans (hc.below (Nat.le_trans h1.size hb.size) hT), h2, hN, (h4.keep hb).chg hc ?_, (h5.keep hb).chg hc ?_, hc.own h6z ?_, ?_, hvN, ?_⟩
  · rintro b cs _ hb' (e | rfl)
    · exact own_blk_ne h7z hb' (by decide) e
    · exact Blk.ne_ hb' h3z (by decide) rfl
  · rintro b cs _ hb' (e | rfl)
    · exact own_blk_ne h7z hb' (by decide) e
    · exact Blk.ne_ hb' h3z (by decide) rfl
  · rintro g hg (e | rfl)
    · rcases own_own_ne h6z h7z (by decide) with h | h
      · rw [hg] at h; cases h
      · exact h (by rw [hg, e])
    · exact own_blk_ne h6z h3z (by decide) hg
  · rw [List.length_append, List.flatMap_append]
    simpa using hown
  · have hold : IsTs vK w5 (fun b => w1.heap.size ≤ b ∧ b < w5.heap.size ∧ b ≠ N ∧ v.ownBlock ≠ some b) ts vs := by
      refine ((h9.move (.of_below hb fun b hb => hb.2.1)).move (hc.still fun b hb' => ⟨Nat.lt_of_lt_of_le hb'.2.1 hb.size, ?_⟩)).weak fun b hb' => ⟨hb'.1, Nat.lt_of_lt_of_le hb'.2.1 (Nat.le_trans hb.size hc.size), hb'.2.2.1, ?_⟩
      · rintro (e | e)
        · exact hb'.2.2.2 e
        · exact hb'.2.2.1 e
      · rcases hat with e | e
        · rw [e]; exact hb'.2.2.2
        · rw [e]; have := hb'.2.1; have := hb.size; simp only [ne_eq, Option.some.injEq]; omega
    refine hold.snoc ((ht.move (hc.still fun b hb' => ⟨hb'.2, ?_⟩)).weak fun b hb' => ⟨Nat.le_trans h1.size hb'.1, Nat.lt_of_lt_of_le hb'.2 hc.size, by have := hb'.1; omega, ?_⟩)
    · rintro (e | e)
      · have := (h7.lt b e).2; have := hb'.1; omega
      · have := hb'.1; omega
    · rcases hat with e | e
      · rw [e]; intro e2; have := (h7.lt b e2).2; have := hb'.1; omega
      · rw [e]; have := hb'.2; simp only [ne_eq, Option.some.injEq]; omega
end

theorem OwI.done {w1 wr : World} {N : Nat} {d : VD} {ts : List VT} {u4 u5 u6 u13 : Value} {vs : List Value} (h : OwI w1 N d d.at_.length ts u4 u5 u6 u13 vs wr) : IsT vK wr (fun b => w1.heap.size ≤ b ∧ b < wr.heap.size) (.mk d ts) (vV d u4 u5 u6 u13) := by
  obtain ⟨h1, h2, h3, h4, h5, h6, h7, h8, h9⟩ := h
  obtain ⟨A4, c4, rfl, r4⟩ := h4.rd
  obtain ⟨A5, c5, rfl⟩ := own_form h6
  obtain ⟨A6, c6, rfl, r6⟩ := h5.rd
  obtain ⟨A13, c13, rfl⟩ := own_form h7
  rw [List.take_length] at h6
  rw [IsT.eq]
  exact ⟨A13, c13, vs, ⟨_, _, _, rfl, A4, c4, A5, c5, A6, c6, rfl, rfl, rfl, r4, RdS.of_own (fun _ _ => rfl) h6 rfl, r6⟩, RdS.of_own (fun _ _ => cvK_len 14 _) h7 h9.len, h9.weak fun b hb => ⟨hb.1, hb.2.1⟩⟩
theorem vV_one {w : World} {S : Nat → Prop} {t : VT} {v : Value} (h : IsT vK w S t v) : v.cells.all (·.oneCell') = true := by
  have h1 := h.one_v
  obtain ⟨A, c, vs, ⟨a1, a2, a3, rfl, hr⟩, _, _⟩ := IsT.eq.1 h
  rw [vV_cells] at h1
  exact all_oneCell_toArray h1

set_option maxRecDepth 100000 in
set_option maxHeartbeats 8000000 in
theorem ownV_any (m : Nat) : ∀ (t : VT) (v : Value) (w : World), t.size ≤ m → m ≤ 1000 → All vb t → IsT vK w (Old w) t v →
    Calls Tryz.prog 6 #[v] w (Hands (fun v' w' => IsT vK w' (Fresh w.heap.size w') t v') w) := by
  induction m with
  | zero => intro t v w h; have := size_pos t; omega
  | succ m ih =>
    intro t v w hsz hm hvb hT
    obtain ⟨A4, c4, vs, ⟨a1, a2, a3, rfl, hrows⟩, hvs, hks⟩ := IsT.eq.1 hT
    obtain ⟨A1, c1, A2, c2, A3, c3, rfl, rfl, rfl, r1, r2, r3⟩ := hrows
    obtain ⟨hv1, hv2⟩ := All.eq.1 hvb
    obtain ⟨hb1, hb2, hb3⟩ := hv1
    have hkl := kids_len hsz
    have hks1 := fun k hk => kid_size hsz k hk
    obtain ⟨d, hd⟩ : ∃ d, d = t.dat := ⟨_, rfl⟩
    obtain ⟨ks, hkse⟩ : ∃ ks, ks = t.kids := ⟨_, rfl⟩
    have HT := Lib.hid (show t = RT.mk d ks by rw [hd, hkse]; cases t; rfl)
    rw [← hd] at r1 r2 r3 hb1 hb2 hb3 ⊢
    rw [← hkse] at hvs hks hv2 hkl hks1 ⊢
    clear hT hvb hd hkse hsz
    obtain ⟨w1, hw1, hX, hR, hB0, hs1⟩ := two_new w (vC d (.slice A1 d.cl.length c1) (.slice A2 d.at_.length c2) (.slice A3 d.st.length c3) (.slice A4 ks.length c4)).toArray zs_vn 32 45
    unfold vV vC
    unfold vC zs_vn at hw1
    unfold vC at hX
    go_enter Tryz.func6, Tryz.ntmps6
    go_upto_region 1 with fail
    rw [← hw1]
    obtain ⟨X, hXe⟩ : ∃ X, X = w.heap.size := ⟨_, rfl⟩
    rw [← hXe] at hX hR hs1 ⊢
    have HX := Lib.hid (And.intro hX (And.intro (r1.move (.of_below hB0 fun _ h => h)) (And.intro (r3.move (.of_below hB0 fun _ h => h)) (fun b (h : Old w b) => show b < w1.heap.size from Nat.lt_of_lt_of_le h hB0.size))))
    have HK := Lib.hid (And.intro hR (And.intro hB0 (And.intro (r2.move (.of_below hB0 fun _ h => h)) (And.intro (show Vs 14 w1 (Old w) A4 ks.length vs from hvs.move (.of_below hB0 fun _ h => h)) (hks.move (.of_below hB0 fun _ h => h))))))
    have HXE := Lib.hid (And.intro hXe hs1)
    clear hX hR hB0 hw1 hXe hs1 r1 r2 r3 hvs hks
    refine wp_region_tail 19 _ ?_ ?_ ?_ ?_ (OwnR1 w1 X d A1 A2 A3 c1 c2 c3 (.slice A4 ks.length c4)) (fun j v wx wy => OwnR1_keep _ _ _ _ _ _ _ _ _ _ j v wx wy) ?_ ?_ ?_
    · kernel_rfl
    · kernel_rfl
    · kernel_rfl
    · kernel_rfl
    · refine ⟨opV rfl fun s wx hb hd => ⟨_, ex_fld rfl (lit_out 1 (by kernel_rfl)) (fa_rn_0 _ wx), rfl⟩, ?_⟩
      refine ⟨opV rfl fun s wx hb hd => ⟨_, ex_ld rfl ((lit_at 0 8 (by kernel_rfl) (by kernel_rfl) (by kernel_rfl)).trans (hd 0 (by kernel_rfl))) (ld_int (((HX.out.1).below hb (HX.out.1).lt).cell 0)), rfl⟩, ?_⟩
      refine ⟨opV rfl fun s wx hb hd => ⟨_, ex_fld rfl (lit_out 1 (by kernel_rfl)) (fa_rn_1 _ wx), rfl⟩, ?_⟩
      refine ⟨opV rfl fun s wx hb hd => ⟨_, ex_ld rfl ((lit_at 2 10 (by kernel_rfl) (by kernel_rfl) (by kernel_rfl)).trans (hd 2 (by kernel_rfl))) (ld_string (((HX.out.1).below hb (HX.out.1).lt).cell 1)), rfl⟩, ?_⟩
      refine ⟨opV rfl fun s wx hb hd => ⟨_, ex_fld rfl (lit_out 1 (by kernel_rfl)) (fa_rn_2 _ wx), rfl⟩, ?_⟩
      refine ⟨opV rfl fun s wx hb hd => ⟨_, ex_ld rfl ((lit_at 4 12 (by kernel_rfl) (by kernel_rfl) (by kernel_rfl)).trans (hd 4 (by kernel_rfl))) (ld_string (((HX.out.1).below hb (HX.out.1).lt).cell 2)), rfl⟩, ?_⟩
      refine ⟨opV rfl fun s wx hb hd => ⟨_, ex_fld rfl (lit_out 1 (by kernel_rfl)) (fa_rn_3 _ wx), rfl⟩, ?_⟩
      refine ⟨opV rfl fun s wx hb hd => ⟨_, ex_ld rfl ((lit_at 6 14 (by kernel_rfl) (by kernel_rfl) (by kernel_rfl)).trans (hd 6 (by kernel_rfl))) (ld_string (((HX.out.1).below hb (HX.out.1).lt).cell 3)), rfl⟩, ?_⟩
      refine ⟨opN rfl fun s wx hb hd => ⟨_, _, ex_bsl0 rfl (bsl0_S wx), ⟨_, rfl⟩, below_alloc _ _⟩, ?_⟩
      refine ⟨opV rfl fun s wx hb hd => ⟨_, ex_fld rfl (lit_out 1 (by kernel_rfl)) (fa_rn_4 _ wx), rfl⟩, ?_⟩
      refine ⟨opV rfl fun s wx hb hd => ⟨_, ex_ld rfl ((lit_at 9 17 (by kernel_rfl) (by kernel_rfl) (by kernel_rfl)).trans (hd 9 (by kernel_rfl))) (ld_Lstring (((HX.out.1).below hb (HX.out.1).lt).cell 4)), rfl⟩, ?_⟩
      refine ⟨opN rfl fun s wx hb hd => ?_, ?_⟩
      · obtain ⟨B0, h0⟩ := (hd 8 (by kernel_rfl))
        obtain ⟨v', w', hr, hrow, hb'⟩ := app_S wx 25 B0 A1 _ c1 d.cl _ (HX.out.2.1.move (.of_below hb HX.out.2.2.2)) (by omega)
        exact ⟨v', w', ex_app rfl ((lit_at 8 16 (by kernel_rfl) (by kernel_rfl) (by kernel_rfl)).trans h0) ((lit_at 10 18 (by kernel_rfl) (by kernel_rfl) (by kernel_rfl)).trans (hd 10 (by kernel_rfl))) hr, hrow.low hb.size, hb'⟩
      refine ⟨opV rfl fun s wx hb hd => ⟨_, ex_fld rfl (lit_out 1 (by kernel_rfl)) (fa_rn_6 _ wx), rfl⟩, ?_⟩
      refine ⟨opV rfl fun s wx hb hd => ⟨_, ex_ld rfl ((lit_at 12 20 (by kernel_rfl) (by kernel_rfl) (by kernel_rfl)).trans (hd 12 (by kernel_rfl))) (ld_Lscrimref04_Pair (((HX.out.1).below hb (HX.out.1).lt).cell 6)), rfl⟩, ?_⟩
      refine ⟨opC rfl fun s wx hb hd => ⟨_, _, ex_c1 rfl rfl (enters Tryz.func26 (by kernel_rfl) rfl _ _) ((lit_at 13 21 (by kernel_rfl) (by kernel_rfl) (by kernel_rfl)).trans (hd 13 (by kernel_rfl))), ?_⟩, ?_⟩
      · refine (ownR_any A3 _ c3 d.st wx _ (fun b h => Nat.lt_of_lt_of_le (HX.out.2.2.2 b h) hb.size) (HX.out.2.2.1.move (.of_below hb HX.out.2.2.2)) (by omega)).mono ?_
        rintro e w' ⟨v', rfl, hrow, hb'⟩
        exact ⟨v', rfl, hrow.low hb.size, hb'⟩
      refine ⟨opV rfl fun s wx hb hd => ⟨_, ex_fld rfl (lit_out 1 (by kernel_rfl)) (fa_rn_7 _ wx), rfl⟩, ?_⟩
      refine ⟨opV rfl fun s wx hb hd => ⟨_, ex_ld rfl ((lit_at 15 23 (by kernel_rfl) (by kernel_rfl) (by kernel_rfl)).trans (hd 15 (by kernel_rfl))) (ld_opR (((HX.out.1).below hb (HX.out.1).lt).cell 7) (((HX.out.1).below hb (HX.out.1).lt).cell 8) (((HX.out.1).below hb (HX.out.1).lt).cell 9) (((HX.out.1).below hb (HX.out.1).lt).cell 10) (((HX.out.1).below hb (HX.out.1).lt).cell 11) (((HX.out.1).below hb (HX.out.1).lt).cell 12)), rfl⟩, ?_⟩
      refine ⟨opV rfl fun s wx hb hd => ?_, ?_⟩
      · obtain ⟨A4, c4, e4, h4⟩ := (hd 11 (by kernel_rfl))
        obtain ⟨A6, c6, e6, h6⟩ := (hd 14 (by kernel_rfl))
        exact ⟨_, ex_bld7 rfl ((lit_at 1 9 (by kernel_rfl) (by kernel_rfl) (by kernel_rfl)).trans (hd 1 (by kernel_rfl))) ((lit_at 3 11 (by kernel_rfl) (by kernel_rfl) (by kernel_rfl)).trans (hd 3 (by kernel_rfl))) ((lit_at 5 13 (by kernel_rfl) (by kernel_rfl) (by kernel_rfl)).trans (hd 5 (by kernel_rfl))) ((lit_at 7 15 (by kernel_rfl) (by kernel_rfl) (by kernel_rfl)).trans (hd 7 (by kernel_rfl))) ((lit_at 11 19 (by kernel_rfl) (by kernel_rfl) (by kernel_rfl)).trans e4) ((lit_at 14 22 (by kernel_rfl) (by kernel_rfl) (by kernel_rfl)).trans e6) ((lit_at 16 24 (by kernel_rfl) (by kernel_rfl) (by kernel_rfl)).trans (hd 16 (by kernel_rfl))) (bld_vn d A4 A6 _ c4 _ c6 wx), _, _, rfl, ⟨A4, c4, rfl, h4⟩, ⟨A6, c6, rfl, h6⟩⟩
      refine ⟨opN rfl fun s wx hb hd => ⟨_, _, ex_alc rfl (al_vn wx), NewAt.new hb.size, below_alloc _ _⟩, ?_⟩
      trivial
    rotate_left
    · kernel_rfl
    intro s wz hbz hV
    obtain ⟨u4, u6, e17, h4, h6⟩ := hV 17 (by omega)
    obtain ⟨N, e18, hN1, hN2⟩ := hV 18 (by omega)
    clear hV
    simp only [List.take_succ_cons, List.take_zero, List.drop_succ_cons, List.drop_zero, litOf, List.map_cons, List.map_nil, Nat.zero_add, Nat.reduceAdd, Act.put, List.setIfInBounds_toArray, List.set_cons_succ, List.set_cons_zero]
    refine wpList_store_blk rfl 45 _ _ rfl N _ e18 e17 45 zs_vn hN2 rfl (by kernel_rfl) ?_ ?_
    · exact vC_all h4.one rfl h6.one rfl
    intro wa hNa hga hsa
    have hX := HX.out.1
    have hB1 : Below w1.heap.size w1 wa := hbz.grown hga hbz.size (fun j hj => by cases hj; exact hN1)
    have hI : OwI w1 N d 0 [] u4 (.slice none 0 0) u6 (.slice none 0 0) [] wa := by
      have hc : Chg (· = N) wz wa := .of_grown hga fun i h => by cases h; rfl
      refine ⟨hB1, hN1, hNa, h4.chg hc (fun b cs _ hb e => by subst e; exact Blk.ne_ hb hN2 (by decide) rfl), h6.chg hc (fun b cs _ hb e => by subst e; exact Blk.ne_ hb hN2 (by decide) rfl), World.ownsRow_nil _ _ _ _, World.ownsRow_nil _ _ _ _, by simp [Value.ownBlock], IsTs.nil⟩
    have HI := Lib.hid hI
    have x5 := (hX.below hB1 hX.lt).cell 5
    have HQ := Lib.hid (And.intro hbz (And.intro e17 e18))
    clear hI hB1 hNa hga hsa h4 h6 hN1 hN2 hX hbz e17
    obtain ⟨tra, hti, hz0, hz1, hz2⟩ := info_parts St.pr_info
    go_wp2_with fail
    go_loopw [29] (fun i wx => ∃ k u5, k ≤ d.at_.length ∧ i = .int .i64 k ∧ OwI w1 N d k [] u4 u5 u6 (.slice none 0 0) [] wx) (fun i _ => d.at_.length - (intOf i).toNat)
    case atStart => exact ⟨0, .slice none 0 0, Nat.zero_le _, rfl, HI.out⟩
    case round =>
      obtain ⟨k, u5, hk, rfl, hI⟩ := hrel
      by_cases hlt : k < d.at_.length
      · obtain ⟨b, off, rfl, hbB, d0⟩ := HK.out.2.2.1.2 k hlt
        have d1 := d0 1 (by omega)
        replace d0 := d0 0 (by omega)
        have hbb := HX.out.2.2.2 b hbB
        replace d0 := (hI.1.cell (p := ⟨b, off + k * 2 + 0, none⟩) hbb).trans d0
        replace d1 := (hI.1.cell (p := ⟨b, off + k * 2 + 1, none⟩) hbb).trans d1
        obtain ⟨x, hx⟩ : ∃ x, x = d.at_.getD k St.pr0 := ⟨_, rfl⟩
        rw [← hx] at d0 d1
        replace d0 : wr.cell? ⟨b, off + k * 2, none⟩ = some (.string x.1) := d0
        replace d1 : wr.cell? ⟨b, off + k * 2 + 1, none⟩ = some (.string x.2) := d1
        have HXX := Lib.hid hx
        have i1 : (0 : Int) ≤ (k : Int) := by omega
        have i2 : (k : Int) < (d.at_.length : Int) := by omega
        obtain ⟨wk, hwk, hK5, hBk, hsk⟩ := one_new wr #[.string x.1, .string x.2] 89
        clear hx
        go_upto_region 5 with fail
        rw [← hwk]
        obtain ⟨K5, hK5e⟩ : ∃ K5, K5 = wr.heap.size := ⟨_, rfl⟩
        rw [← hK5e] at hK5 ⊢
        have HN := Lib.hid (hI.2.2.1.below hBk hI.2.2.1.lt)
        have HK5 := Lib.hid hK5
        have HI := Lib.hid (And.intro hI hBk)
        clear hwk hK5 hBk hsk hI hK5e d0 d1 hbb hbB
        have y5 : wk.cell? ⟨N, 5, none⟩ = some u5 := HN.out.cell 5
        have z0 : wk.cell? ⟨K5, 0, none⟩ = some (.string x.1) := HK5.out.cell 0
        have z1 : wk.cell? ⟨K5, 1, none⟩ = some (.string x.2) := HK5.out.cell 1
        have HO := Lib.hid (And.intro (own_keep HI.out.1.2.2.2.2.2.1 HI.out.2) (below_alloc wk (.cells #[.string x.1, .string x.2] 90)))
        go_wp2_with (first
          | (at_builtin; refine wpList_append_lies _ rfl _ _ _ rfl w1.heap.size 90 tra _ 2 32 Tryz.underlying35 hti hz0 hz1 hz2 rfl (by decide) u5 k _ rfl (HO.out.1.alloc _) _ 1 1 [.string x.1, .string x.2] rfl rfl (World.news_of_block (heap_alloc_new _ _)) (by intro u hu; simp at hu; rcases hu with rfl | rfl <;> rfl) (by omega) (by unfold maxLen; omega) (by omega) (by have := HI.out.1.1.size; have := HI.out.2.size; simp; omega) _ rfl ?_; intro g cap w4 hown hg hat hlt4; obtain ⟨c1, c2, hc, hN4, ho4, _, _⟩ := app_field (off := 5) (HN.out.alloc _) rfl (HO.out.1.alloc _) (own_blk_ne HO.out.1 HN.out (by decide)) rfl hown hg hat; have HS := Lib.hid (HI.out.1.attr (HI.out.2.trans (HO.out.2.mono HI.out.2.size)) hlt hc hN4 (by rw [← HXX.out]; exact ho4)); clear hc hN4 ho4 hown hg hat hlt4))
        go_roundw
        case rel => exact ⟨k + 1, _, by omega, by go_num, HS.out⟩
        case measure => simp [intOf]; omega
      · obtain rfl : k = d.at_.length := by omega
        have x13 : wr.cell? ⟨X, 13, none⟩ = some (.slice A4 ks.length c4) := (HX.out.1.below hI.1 HX.out.1.lt).cell 13
        have HI2 := Lib.hid hI
        clear hI hlt hk HI
        obtain ⟨trv, htiv, hzv0, hzv1, hzv2⟩ := info_parts vn_info
        go_wp2_with fail
        go_loopw [43] (fun i wx => ∃ k u13 us, k ≤ ks.length ∧ i = .int .i64 k ∧ OwI w1 N d d.at_.length (ks.take k) u4 u5 u6 u13 us wx) (fun i _ => ks.length - (intOf i).toNat)
        case atStart => exact ⟨0, .slice none 0 0, [], Nat.zero_le _, rfl, HI2.out⟩
        case round =>
          obtain ⟨k, u13, us, hk, rfl, hI⟩ := hrel
          by_cases hlt : k < ks.length
          · have hT := HK.out.2.2.2.2.at_ k hlt
            obtain ⟨A', c', vs', ⟨k1, k2, k3, hv, B1, b1, B2, b2, B3, b3, rfl, rfl, rfl, _⟩, _, _⟩ := IsT.eq.1 hT
            obtain ⟨e, he⟩ : ∃ e, e = (ks[k]).dat := ⟨_, rfl⟩
            obtain ⟨m', hm'⟩ : ∃ v, v = (ks[k]).kids.length := ⟨_, rfl⟩
            rw [← he, ← hm'] at hv
            obtain ⟨b, off, rfl, hbB, d0, d1, d2, d3, d4, d5, d6, d7, d8, d9, d10, d11, d12, d13⟩ := Vs.view HK.out.2.2.2.1 k hlt hv (Still.of_below hI.1 HX.out.2.2.2)
            rw [hv] at hT
            have i1 : (0 : Int) ≤ (k : Int) := by omega
            have i2 : (k : Int) < (ks.length : Int) := by omega
            obtain ⟨wk, hwk, hK7, hBk, hsk⟩ := one_new wr (vC e (.slice B1 e.cl.length b1) (.slice B2 e.at_.length b2) (.slice B3 e.st.length b3) (.slice A' m' c')).toArray 32
            unfold vC at hwk hK7
            have HTK := Lib.hid (show IsT vK wk (Old wk) ks[k] (vV e (.slice B1 e.cl.length b1) (.slice B2 e.at_.length b2) (.slice B3 e.st.length b3) (.slice A' m' c')) from (hT.move (.of_below (hI.1.trans (hBk.mono hI.1.size)) HX.out.2.2.2)).weak fun b hb => Nat.lt_of_lt_of_le (HX.out.2.2.2 b hb) (Nat.le_trans hI.1.size hBk.size))
            have HIH := Lib.hid (fun v w => ih ks[k] v w (hks1 k hlt) (by omega) (hv2.at_ k hlt))
            have HTS := Lib.hid (show ks.take (k + 1) = ks.take k ++ [ks[k]] by simp)
            have HTL := Lib.hid (show (ks.take k).length = k by rw [List.length_take]; omega)
            clear hT hv he hm'
            go_upto_region 10 with fail
            rw [← hwk]
            obtain ⟨K7, hK7e⟩ : ∃ K7, K7 = wr.heap.size := ⟨_, rfl⟩
            rw [← hK7e] at hK7 ⊢
            have HN := Lib.hid (hI.2.2.1.below hBk hI.2.2.1.lt)
            have HK7 := Lib.hid hK7
            have HI := Lib.hid (And.intro hI hBk)
            clear hwk hK7 hBk hsk hI hK7e d0 d1 d2 d3 d4 d5 d6 d7 d8 d9 d10 d11 d12 d13 hbB
            refine wp_region_tail 5 _ ?_ ?_ ?_ ?_ (OwnR10 wk N K7 d u4 u5 u6 u13 e (.slice B1 e.cl.length b1) (.slice B2 e.at_.length b2) (.slice B3 e.st.length b3) (.slice A' m' c') ks[k]) (fun j v wx wy => OwnR10_keep _ _ _ _ _ _ _ _ _ _ _ _ _ _ j v wx wy) ?_ ?_ ?_
            · kernel_rfl
            · kernel_rfl
            · kernel_rfl
            · kernel_rfl
            · refine ⟨opV rfl fun s wx hb hd => ⟨_, ex_fld rfl (lit_out 3 (by kernel_rfl)) (fa_vn_8 _ wx), rfl⟩, ?_⟩
              refine ⟨opV rfl fun s wx hb hd => ⟨_, ex_ld rfl ((lit_at 0 47 (by kernel_rfl) (by kernel_rfl) (by kernel_rfl)).trans (hd 0 (by kernel_rfl))) (ld_Lview_Node (((HN.out).below hb (HN.out).lt).cell 13)), rfl⟩, ?_⟩
              refine ⟨opV rfl fun s wx hb hd => ⟨_, ex_ld rfl (lit_out 7 (by kernel_rfl)) (ld_row ((HK7.out).below hb (HK7.out).lt) Tryz.underlying32 sz_rn), rfl⟩, ?_⟩
              refine ⟨opC rfl fun s wx hb hd => ⟨_, _, ex_c1 rfl rfl (enters Tryz.func6 (by kernel_rfl) rfl _ _) ((lit_at 2 49 (by kernel_rfl) (by kernel_rfl) (by kernel_rfl)).trans (hd 2 (by kernel_rfl))), ?_⟩, ?_⟩
              · refine (HIH.out _ wx (HTK.out.keep hb)).mono ?_
                rintro e w' ⟨v', rfl, hT', hb'⟩
                exact ⟨v', rfl, hT'.weak (Fresh.low hb.size), hb'⟩
              refine ⟨opN rfl fun s wx hb hd => ?_, ?_⟩
              · have hT := (hd 3 (by kernel_rfl))
                obtain ⟨_, _, _, ⟨b1, b2, b3, hv, _⟩, _, _⟩ := IsT.eq.1 hT
                rw [hv] at hT
                exact ⟨_, _, ex_bsl1 rfl ((lit_at 3 50 (by kernel_rfl) (by kernel_rfl) (by kernel_rfl)).trans hv) (bs_vn _ _ _ _ _ _ _ _ _ _ _ _ _ _ wx), NewT.new (K := vK) hT hb.size, below_alloc _ _⟩
              trivial
            rotate_left
            · kernel_rfl
            intro s2 wz hbz hV
            have e1 := hV 1 (by omega)
            obtain ⟨g3, v3, e3, hg3, hB3, hT3⟩ := hV 4 (by omega)
            clear hV
            simp only [List.take_succ_cons, List.take_zero, List.drop_succ_cons, List.drop_zero, litOf, List.map_cons, List.map_nil, Nat.zero_add, Nat.reduceAdd, Act.put, List.setIfInBounds_toArray, List.set_cons_succ, List.set_cons_zero]
            have hbw : Below wr.heap.size wr wz := HI.out.2.trans (hbz.mono HI.out.2.size)
            have ho := own_keep HI.out.1.2.2.2.2.2.2.1 hbw
            rw [HTL.out] at ho
            have HA := Lib.hid (And.intro ho (And.intro hB3 (And.intro hT3 (And.intro hbw hbz))))
            have hHI := HI.out.1.1.size
            have hbs := hbw.size
            clear ho hB3 hT3 hbw hbz
            refine wpList_append_lies _ rfl _ _ _ rfl w1.heap.size 45 trv _ 14 192 Tryz.underlying43 htiv hzv0 hzv1 hzv2 rfl (by decide) u13 k _ e1 HA.out.1 ⟨g3, 0, none⟩ 1 1 (cvK 14 v3) e3 (cvK_len 14 v3) (news_at HA.out.2.1) (IsT.one_v HA.out.2.2.1) (by omega) (by unfold maxLen; omega) (by omega) (by omega) _ rfl ?_
            intro g cap w4 hown hg hat hlt4
            obtain ⟨q1, q2, hc, hN4, ho4, hvN, hat4⟩ := app_field (off := 13) (HN.out.below HA.out.2.2.2.2 HN.out.lt) rfl HA.out.1 HI.out.1.2.2.2.2.2.2.2.1 rfl hown hg hat
            have HS := Lib.hid (HI.out.1.kid HA.out.2.2.2.1 (HA.out.2.2.1.weak (Fresh.low HI.out.2.size)) hc hN4 (by rw [HTL.out]; exact ho4) hvN hat4)
            clear hc hN4 ho4 hown hg hat hlt4 e1 e3 hg3 htiv hzv0 hzv1 hzv2 hHI hbs hti hz0 hz1 hz2 hvN hat4
            go_wp2_with fail
            go_roundw
            case rel => exact ⟨k + 1, _, _, by omega, by go_num, by rw [HTS.out]; exact HS.out⟩
            case measure => simp [intOf]; omega
          · obtain rfl : k = ks.length := by omega
            have hR := HK.out.1.below hI.1 HK.out.1.lt
            have HI := Lib.hid hI
            clear hI hlt hk
            go_upto_region 12 with fail
            refine _root_.Go.wp_region_lit ?_
            refine wpList_load_row rfl 45 _ rfl N rfl 45 _ (0, 0) _ HI.out.2.2.1 Tryz.underlying45 rfl sz_vn ?_
            refine wpList_store_blk rfl 45 _ _ rfl (X + 1) _ rfl rfl 45 _ hR rfl sz_vn ?_ ?_
            · exact vV_one HI.out.done
            intro wf hRf hgf hsf
            refine wpList_nil ?_
            have hks : ks.take ks.length = ks := List.take_length
            have hT := HI.out.done
            rw [hks, ← HT.out] at hT
            have hT2 := (hT.move (.of_grown hgf fun b hb => ⟨hb.2, fun e => by cases e; have := hb.1; have := HXE.out.2; omega⟩)).weak (S' := Fresh w.heap.size wf) fun b hb => ⟨by have := hb.1; have := HXE.out; omega, by rw [hsf]; exact hb.2⟩
            have hB2 : Below w.heap.size w wf := (HK.out.2.1.trans (HI.out.1.mono HK.out.2.1.size)).grown hgf (by have := HI.out.1.size; have := HK.out.2.1.size; omega) (fun j hj => by cases hj; have := HXE.out; omega)
            have HF := Lib.hid (And.intro hT2 hB2)
            have HRf := Lib.hid hRf
            clear hks hT hT2 hB2 hgf hsf hR hRf
            go_wp2_with fail
            exact bodyPost_ret (v := vV d u4 u5 u6 u13) (results_cell_row rfl _ _ (X + 1) 45 _ (0, 0) _ rfl HRf.out Tryz.underlying45 rfl sz_vn) rfl ⟨_, rfl, HF.out.1, HF.out.2⟩

end Go.Proofs.YtaalhglooipnaaaGreat
