/-
  Trees out of rows of flats (layer 7's law): Cut, node.
-/
import Derived.Test.YtaalhglooipnaaaGreatL36
import Derived.Test.YtaalhglooipnaaaGreatL21
namespace Go.Proofs.YtaalhglooipnaaaGreat
open Go.RowKit RT
attribute [local go_sem ↓] Go.wp_at_zero Go.wp_at_succ

set_option maxHeartbeats 400000 in
theorem cut_le (s : ByteArray) (m : Nat) (hm : m ≤ 1000) (w : World) : Calls Tryz.prog 50 #[.string s, .int .i64 (m : Nat)] w fun e w' => ∃ s' : ByteArray, e = .returned (.string s') ∧ s'.size ≤ m ∧ w' = w := by
  by_cases h : m < s.size
  · have hi : (m : Int) < (s.size : Int) := by omega
    have hc : (s.extract 0 m).size ≤ m := by rw [ByteArray.size_extract]; omega
    have HC := Lib.hid hc
    clear hc
    go_enter Tryz.func50, Tryz.ntmps50
    go_wp2
    go_ret
    exact ⟨_, rfl, HC.out, rfl⟩
  · have hi : decide ((m : Int) < (s.size : Int)) = false := by simp; omega
    have hi2 : decide (m < s.size) = false := by simp; omega
    have HC := Lib.hid (show s.size ≤ m by omega)
    clear h
    go_enter Tryz.func50, Tryz.ntmps50
    go_wp2
    go_ret
    exact ⟨_, rfl, HC.out, rfl⟩
theorem ld_opF {b : Nat} {w : World} {v7 v8 v9 v10 v11 v12 : Value} (h7 : w.cell? ⟨b, 8, none⟩ = some v7) (h8 : w.cell? ⟨b, 9, none⟩ = some v8) (h9 : w.cell? ⟨b, 10, none⟩ = some v9) (h10 : w.cell? ⟨b, 11, none⟩ = some v10) (h11 : w.cell? ⟨b, 12, none⟩ = some v11) (h12 : w.cell? ⟨b, 13, none⟩ = some v12) :
    (Instr.loadAt 29 (.pointer (some ⟨b, 8, none⟩))).run Tryz.prog w = .ok (.agg #[v7, v8, v9, v10, v11, v12]) w := by go_simp
theorem bld_rn (d : VD) (A4 A6 : Option Addr) (n4 c4 n6 c6 : Nat) (w : World) :
    (Instr.build 32 #[(0, .int .i64 d.kind), (1, .string d.tag), (2, .string d.key), (3, .string d.text), (4, .slice A4 n4 c4), (6, .slice A6 n6 c6), (7, .agg #[.int .i64 d.op.1, .int .i64 d.op.2.1, .int .i64 d.op.2.2.1, .int .i64 d.op.2.2.2.1, .bool d.op.2.2.2.2.1, .bool d.op.2.2.2.2.2])]).run Tryz.prog w =
      .ok (vV d (.slice A4 n4 c4) (.slice none 0 0) (.slice A6 n6 c6) (.slice none 0 0)) w := by
  unfold vV vC
  go_simp
def a100 (p : St.Pr) : Prop := p.1.size ≤ 100 ∧ p.2.size ≤ 100
def ss100 (l : List ByteArray) : Prop := ∀ s ∈ l, s.size ≤ 100
def sp100 (l : List Pr) : Prop := ∀ p ∈ l, p.1.size ≤ 100
/-- Short texts. -/
def shV (d : VD) : Prop := d.text.size ≤ 70 ∧ d.tag.size ≤ 100 ∧ d.key.size ≤ 100 ∧ ss100 d.cl ∧ sp100 d.st ∧ ∀ p ∈ d.at_, a100 p
theorem cut20_le (s : ByteArray) : (cut20 s).size ≤ 100 := by
  unfold cut20
  split
  · rw [ByteArray.size_extract]; omega
  · omega
theorem fewS_100 (M : Nat) (l : List ByteArray) : ss100 (fewS M l) := fun s hs => by
  obtain ⟨a, _, rfl⟩ := List.mem_map.1 hs
  exact cut20_le a
theorem fewP_100 (M : Nat) (l : List Pr) : sp100 (fewP M l) := fun s hs => by
  obtain ⟨a, _, rfl⟩ := List.mem_map.1 hs
  exact cut20_le a.1
def FlV (W : World) (v : Value) (w : World) : Prop := ∃ (d : VD) (u4 u6 : Value), v = vV d u4 (.slice none 0 0) u6 (.slice none 0 0) ∧ d.at_ = [] ∧ shV d ∧ d.cl.length ≤ 4 ∧ d.st.length ≤ 4 ∧ RowS W.heap.size d.cl u4 w ∧ RowP 120 W.heap.size d.st u6 w
theorem FlV.keep {W : World} {v : Value} {w w' : World} (h : FlV W v w) (hb : Below w.heap.size w w') : FlV W v w' := by
  obtain ⟨d, u4, u6, h1, h2, h3, h4, h5, h6, h7⟩ := h
  exact ⟨d, u4, u6, h1, h2, h3, h4, h5, h6.keep hb, h7.keep hb⟩
def NodeR1 (W : World) (X : Nat) (dp : Int) (d : VD) (A1 A2 A3 : Option Addr) (c1 c2 c3 : Nat) : Nat → Value → World → Prop
  | 0, v, _ => v = .pointer (some ⟨X, 1, none⟩)
  | 1, v, _ => v = .int .i64 d.kind
  | 2, v, _ => v = .pointer (some ⟨X, 2, none⟩)
  | 3, v, _ => v = .string d.tag
  | 4, v, _ => ∃ s : ByteArray, v = .string s ∧ s.size ≤ 20
  | 5, v, _ => v = .pointer (some ⟨X, 3, none⟩)
  | 6, v, _ => v = .string d.key
  | 7, v, _ => ∃ s : ByteArray, v = .string s ∧ s.size ≤ 20
  | 8, v, _ => v = .pointer (some ⟨X, 4, none⟩)
  | 9, v, _ => v = .string d.text
  | 10, v, _ => ∃ s : ByteArray, v = .string s ∧ s.size ≤ 70
  | 11, v, _ => v = .pointer (some ⟨X, 5, none⟩)
  | 12, v, _ => v = .slice A1 d.cl.length c1
  | 13, v, w => ∃ l, (l.length ≤ 4 ∧ ss100 l) ∧ RowS W.heap.size l v w
  | 14, v, _ => v = .pointer (some ⟨X, 7, none⟩)
  | 15, v, _ => v = .slice A3 d.st.length c3
  | 16, v, w => ∃ l, (l.length ≤ 4 ∧ sp100 l) ∧ RowP 120 W.heap.size l v w
  | 17, v, _ => v = .pointer (some ⟨X, 8, none⟩)
  | 18, v, _ => v = .agg #[.int .i64 d.op.1, .int .i64 d.op.2.1, .int .i64 d.op.2.2.1, .int .i64 d.op.2.2.2.1, .bool d.op.2.2.2.2.1, .bool d.op.2.2.2.2.2]
  | 19, v, w => FlV W v w
  | 20, v, w => NewAt W.heap.size 32 zs_rn v w
  | _, _, _ => True
theorem NodeR1_keep (W : World) (X : Nat) (dp : Int) (d : VD) (A1 A2 A3 : Option Addr) (c1 c2 c3 : Nat) (j : Nat) (v : Value) (w w' : World) (h : NodeR1 W X dp d A1 A2 A3 c1 c2 c3 j v w) (hb : Below w.heap.size w w') : NodeR1 W X dp d A1 A2 A3 c1 c2 c3 j v w' := by
  match j with
  | 0 => exact h
  | 1 => exact h
  | 2 => exact h
  | 3 => exact h
  | 4 => exact h
  | 5 => exact h
  | 6 => exact h
  | 7 => exact h
  | 8 => exact h
  | 9 => exact h
  | 10 => exact h
  | 11 => exact h
  | 12 => exact h
  | 13 => exact (by obtain ⟨l, h1, h2⟩ := h; exact ⟨l, h1, h2.keep hb⟩)
  | 14 => exact h
  | 15 => exact h
  | 16 => exact (by obtain ⟨l, h1, h2⟩ := h; exact ⟨l, h1, h2.keep hb⟩)
  | 17 => exact h
  | 18 => exact h
  | 19 => exact FlV.keep h hb
  | 20 => exact NewAt.keep h hb
  | _ + 21 => trivial
theorem ix_at {b off k n c : Nat} (h : k < n) (w : World) : (Instr.indexAt 26 (.slice (some ⟨b, off, none⟩) n c) (.int .i64 (k : Nat))).run Tryz.prog w = .ok (.pointer (some ⟨b, off + k * 2, none⟩)) w := by
  have h0 : (0 : Int) ≤ (k : Int) := by omega
  have h1 : (k : Int) < (n : Int) := by omega
  go_simp
theorem fai_at_0 (b i : Nat) (w : World) : (Instr.fieldAt 89 (.pointer (some ⟨b, i, none⟩)) 0).run Tryz.prog w = .ok (.pointer (some ⟨b, i, none⟩)) w := by go_simp
theorem fai_at_1 (b i : Nat) (w : World) : (Instr.fieldAt 89 (.pointer (some ⟨b, i, none⟩)) 1).run Tryz.prog w = .ok (.pointer (some ⟨b, i + 1, none⟩)) w := by go_simp
theorem bld_at (s1 s2 : ByteArray) (w : World) : (Instr.build 89 #[(0, .string s1), (1, .string s2)]).run Tryz.prog w = .ok (.agg #[.string s1, .string s2]) w := by go_simp
theorem at_info : (Tryz.prog.info? 89).map (fun i => (i.zero, i.size, i.bytes)) = some (some (.agg #[.string ByteArray.empty, .string ByteArray.empty]), 2, 32) := by kernel_rfl
def NodeR5 (W : World) (X N b off k : Nat) (dp : Int) (d d2 : VD) (A1 A3 : Option Addr) (c1 c2 c3 : Nat) (u4 u5 u6 : Value) (x : St.Pr) : Nat → Value → World → Prop
  | 0, v, _ => v = .pointer (some ⟨N, 5, none⟩)
  | 1, v, _ => v = u5
  | 2, v, _ => v = .pointer (some ⟨X, 6, none⟩)
  | 3, v, _ => v = .slice (some ⟨b, off, none⟩) d.at_.length c2
  | 4, v, _ => v = (.int .i64 (k : Nat))
  | 5, v, _ => v = .pointer (some ⟨b, off + k * 2, none⟩)
  | 6, v, _ => v = .pointer (some ⟨b, off + k * 2, none⟩)
  | 7, v, _ => v = .string x.1
  | 8, v, _ => ∃ s : ByteArray, v = .string s ∧ s.size ≤ 100
  | 9, v, _ => v = .pointer (some ⟨X, 6, none⟩)
  | 10, v, _ => v = .slice (some ⟨b, off, none⟩) d.at_.length c2
  | 11, v, _ => v = (.int .i64 (k : Nat))
  | 12, v, _ => v = .pointer (some ⟨b, off + k * 2, none⟩)
  | 13, v, _ => v = .pointer (some ⟨b, off + k * 2 + 1, none⟩)
  | 14, v, _ => v = .string x.2
  | 15, v, _ => ∃ s : ByteArray, v = .string s ∧ s.size ≤ 100
  | 16, v, _ => ∃ y : St.Pr, v = .agg #[.string y.1, .string y.2] ∧ a100 y
  | 17, v, w => ∃ y : St.Pr, a100 y ∧ NewSl W.heap.size 89 #[.string y.1, .string y.2] v w
  | _, _, _ => True
theorem NodeR5_keep (W : World) (X N b off k : Nat) (dp : Int) (d d2 : VD) (A1 A3 : Option Addr) (c1 c2 c3 : Nat) (u4 u5 u6 : Value) (x : St.Pr) (j : Nat) (v : Value) (w w' : World) (h : NodeR5 W X N b off k dp d d2 A1 A3 c1 c2 c3 u4 u5 u6 x j v w) (hb : Below w.heap.size w w') : NodeR5 W X N b off k dp d d2 A1 A3 c1 c2 c3 u4 u5 u6 x j v w' := by
  match j with
  | 0 => exact h
  | 1 => exact h
  | 2 => exact h
  | 3 => exact h
  | 4 => exact h
  | 5 => exact h
  | 6 => exact h
  | 7 => exact h
  | 8 => exact h
  | 9 => exact h
  | 10 => exact h
  | 11 => exact h
  | 12 => exact h
  | 13 => exact h
  | 14 => exact h
  | 15 => exact h
  | 16 => exact h
  | 17 => exact (by obtain ⟨y, hy, h⟩ := h; exact ⟨y, hy, h.keep hb⟩)
  | _ + 18 => trivial
theorem own_one {w : World} {B n sz : Nat} {e : TypeId} {v : Value} {xs : List Value} (h : w.ownsRow B e sz v n xs) : v.oneCell' = true := by
  obtain ⟨A, c, rfl⟩ := own_form h
  rfl
/-- As vK; the slices of kids have no more than they may. -/
def vK2 : NK VD where
  sz := 14
  D := fun w S d k v => DV w S d k v ∧ ∃ A n c, k = .slice A n c ∧ n ≤ c
  move := fun h hb => ⟨vK.move h.1 hb, h.2⟩
  weak := fun h hb => ⟨vK.weak h.1 hb, h.2⟩
mutual
theorem IsT.vk {w : World} {S : Nat → Prop} : ∀ {t : VT} {v : Value}, IsT vK2 w S t v → IsT vK w S t v
  | .mk d ks, v, h => by
    rw [IsT] at h ⊢
    obtain ⟨A, c, vs, h1, h2, h3⟩ := h
    exact ⟨A, c, vs, h1.1, h2, IsTs.vk h3⟩
theorem IsTs.vk {w : World} {S : Nat → Prop} : ∀ {ts : List VT} {vs : List Value}, IsTs vK2 w S ts vs → IsTs vK w S ts vs
  | [], vs, h => by rw [IsTs] at h ⊢; exact h
  | t :: ts, vs, h => by
    rw [IsTs] at h ⊢
    obtain ⟨v, us, h1, h2, h3⟩ := h
    exact ⟨v, us, h1, IsT.vk h2, IsTs.vk h3⟩
end
theorem own_capn {w : World} {base : Nat} {e : TypeId} {size : Nat} {A : Option Addr} {n c : Nat} {xs : List Value} (h : w.ownsRow base e size (.slice A n c) n xs) : n ≤ c := by
  rcases h.2 with ⟨hv, h0⟩ | ⟨g, cap, cur, hv, _, _, h1, _⟩
  · omega
  · simp only [Value.slice.injEq] at hv
    omega
/-- What is known of a node that is made. -/
def OwF (w1 : World) (N : Nat) (d : VD) (al : List St.Pr) (u4 u5 u6 : Value) (wx : World) : Prop :=
  Below w1.heap.size w1 wx ∧ w1.heap.size ≤ N ∧ Blk wx N 32 (vC d u4 u5 u6 (.slice none 0 0)).toArray ∧ RowS w1.heap.size d.cl u4 wx ∧ RowP 120 w1.heap.size d.st u6 wx ∧ wx.ownsRow w1.heap.size 89 2 u5 al.length (al.flatMap St.cvP)
theorem OwF.put {w1 wr wz w5 : World} {N : Nat} {d : VD} {al : List St.Pr} {u4 u5 u6 v : Value} (y : St.Pr) (h : OwF w1 N d al u4 u5 u6 wr) (hb : Below wr.heap.size wr wz) (hc : Chg (fun i => u5.ownBlock = some i ∨ i = N) wz w5) (hN : Blk w5 N 32 ((vC d u4 u5 u6 (.slice none 0 0)).toArray.setIfInBounds 5 v))
    (hown : w5.ownsRow w1.heap.size 89 2 v (al.length + 1) (al.flatMap St.cvP ++ [.string y.1, .string y.2])) : OwF w1 N d (al ++ [y]) u4 v u6 w5 := by
  obtain ⟨h1, h2, h3, h4, h5, h6⟩ := h
  have h3z := h3.below hb h3.lt
  have h6z := own_keep h6 hb
  have hT : ∀ i, (u5.ownBlock = some i ∨ i = N) → w1.heap.size ≤ i := by
    rintro i (hi | rfl)
    · exact (h6.lt i hi).1
    · exact h2
  refine ⟨(h1.trans (hb.mono h1.size)).trans (hc.below (Nat.le_trans h1.size hb.size) hT), h2, hN, (h4.keep hb).chg hc ?_, (h5.keep hb).chg hc ?_, ?_⟩
  · rintro b cs _ hb' (e | rfl)
    · exact own_blk_ne h6z hb' (by decide) e
    · exact Blk.ne_ hb' h3z (by decide) rfl
  · rintro b cs _ hb' (e | rfl)
    · exact own_blk_ne h6z hb' (by decide) e
    · exact Blk.ne_ hb' h3z (by decide) rfl
  · rw [St.cvP_snoc, List.length_append]
    exact hown
theorem OwF.done {w1 wr : World} {N : Nat} {d : VD} {al : List St.Pr} {u4 u5 u6 : Value} (h : OwF w1 N d al u4 u5 u6 wr) : IsT vK2 wr (fun b => w1.heap.size ≤ b ∧ b < wr.heap.size) (.mk { d with at_ := al } []) (vV d u4 u5 u6 (.slice none 0 0)) := by
  obtain ⟨h1, h2, h3, h4, h5, h6⟩ := h
  obtain ⟨A4, c4, rfl, r4⟩ := h4.rd
  obtain ⟨A5, c5, rfl⟩ := own_form h6
  obtain ⟨A6, c6, rfl, r6⟩ := h5.rd
  rw [IsT.eq]
  exact ⟨none, 0, [], ⟨⟨_, _, _, rfl, A4, c4, A5, c5, A6, c6, rfl, rfl, rfl, r4, RdS.of_own (fun _ _ => rfl) h6 rfl, r6⟩, none, 0, 0, rfl, Nat.le_refl _⟩, .nil _ _ _, IsTs.nil⟩
/-- A Flat's cells. -/
def fC (dp : Int) (d : VD) (a1 a2 a3 : Value) : List Value :=
  [.int .i64 dp, .int .i64 d.kind, .string d.tag, .string d.key, .string d.text, a1, a2, a3, .int .i64 d.op.1, .int .i64 d.op.2.1, .int .i64 d.op.2.2.1, .int .i64 d.op.2.2.2.1, .bool d.op.2.2.2.2.1, .bool d.op.2.2.2.2.2]
def fV (dp : Int) (d : VD) (a1 a2 a3 : Value) : Value := .agg (fC dp d a1 a2 a3).toArray
def NdPost (w : World) (v' : Value) (w' : World) : Prop := ∃ d' : VD, vb d' ∧ shV d' ∧ IsT vK2 w' (Fresh w.heap.size w') (.mk d' []) v'
set_option maxRecDepth 100000 in
set_option maxHeartbeats 8000000 in
theorem node_any (dp : Int) (d : VD) (A1 A2 A3 : Option Addr) (c1 c2 c3 : Nat) (w : World) (r1 : RdS cvS ByteArray.empty 1 w (Old w) A1 d.cl.length d.cl) (r2 : RdS St.cvP St.pr0 2 w (Old w) A2 d.at_.length d.at_) (r3 : RdS cvP pr0 2 w (Old w) A3 d.st.length d.st) :
    Calls Tryz.prog 22 #[fV dp d (.slice A1 d.cl.length c1) (.slice A2 d.at_.length c2) (.slice A3 d.st.length c3)] w (Hands (NdPost w) w) := by
  obtain ⟨w1, hw1, hX, hR, hB0, hs1⟩ := two_new w (fC dp d (.slice A1 d.cl.length c1) (.slice A2 d.at_.length c2) (.slice A3 d.st.length c3)).toArray zs_rn 82 32
  unfold fV fC
  unfold fC zs_rn at hw1
  unfold fC at hX
  go_enter Tryz.func22, Tryz.ntmps22
  go_upto_region 1 with fail
  rw [← hw1]
  obtain ⟨X, hXe⟩ : ∃ X, X = w.heap.size := ⟨_, rfl⟩
  rw [← hXe] at hX hR hs1 ⊢
  have HX := Lib.hid (And.intro hX (And.intro (r1.move (.of_below hB0 fun _ h => h)) (And.intro (r3.move (.of_below hB0 fun _ h => h)) (fun b (h : Old w b) => show b < w1.heap.size from Nat.lt_of_lt_of_le h hB0.size))))
  have HK := Lib.hid (And.intro hR (And.intro hB0 (r2.move (.of_below hB0 fun _ h => h))))
  have HXE := Lib.hid (And.intro hXe hs1)
  clear hX hR hB0 hw1 hXe hs1 r1 r2 r3
  refine wp_region_tail 21 _ ?_ ?_ ?_ ?_ (NodeR1 w1 X dp d A1 A2 A3 c1 c2 c3) (fun j v wx wy => NodeR1_keep _ _ _ _ _ _ _ _ _ _ j v wx wy) ?_ ?_ ?_
  · kernel_rfl
  · kernel_rfl
  · kernel_rfl
  · kernel_rfl
  · refine ⟨opV rfl fun s wx hb hd => ⟨_, ex_fld rfl (lit_out 1 (by kernel_rfl)) (fa_fl_1 _ wx), rfl⟩, ?_⟩
    refine ⟨opV rfl fun s wx hb hd => ⟨_, ex_ld rfl ((lit_at 0 5 (by kernel_rfl) (by kernel_rfl) (by kernel_rfl)).trans (hd 0 (by kernel_rfl))) (ld_int (((HX.out.1).below hb (HX.out.1).lt).cell 1)), rfl⟩, ?_⟩
    refine ⟨opV rfl fun s wx hb hd => ⟨_, ex_fld rfl (lit_out 1 (by kernel_rfl)) (fa_fl_2 _ wx), rfl⟩, ?_⟩
    refine ⟨opV rfl fun s wx hb hd => ⟨_, ex_ld rfl ((lit_at 2 7 (by kernel_rfl) (by kernel_rfl) (by kernel_rfl)).trans (hd 2 (by kernel_rfl))) (ld_string (((HX.out.1).below hb (HX.out.1).lt).cell 2)), rfl⟩, ?_⟩
    refine ⟨opC rfl fun s wx hb hd => ⟨_, _, ex_c2 rfl rfl (enters Tryz.func50 (by kernel_rfl) rfl _ _) ((lit_at 3 8 (by kernel_rfl) (by kernel_rfl) (by kernel_rfl)).trans (hd 3 (by kernel_rfl))) rfl, ?_⟩, ?_⟩
    · refine (cut_le _ 20 (by omega) wx).mono ?_
      rintro e w1 ⟨s', rfl, hs', rfl⟩
      exact ⟨_, rfl, ⟨s', rfl, hs'⟩, Below.refl _ _⟩
    refine ⟨opV rfl fun s wx hb hd => ⟨_, ex_fld rfl (lit_out 1 (by kernel_rfl)) (fa_fl_3 _ wx), rfl⟩, ?_⟩
    refine ⟨opV rfl fun s wx hb hd => ⟨_, ex_ld rfl ((lit_at 5 10 (by kernel_rfl) (by kernel_rfl) (by kernel_rfl)).trans (hd 5 (by kernel_rfl))) (ld_string (((HX.out.1).below hb (HX.out.1).lt).cell 3)), rfl⟩, ?_⟩
    refine ⟨opC rfl fun s wx hb hd => ⟨_, _, ex_c2 rfl rfl (enters Tryz.func50 (by kernel_rfl) rfl _ _) ((lit_at 6 11 (by kernel_rfl) (by kernel_rfl) (by kernel_rfl)).trans (hd 6 (by kernel_rfl))) rfl, ?_⟩, ?_⟩
    · refine (cut_le _ 20 (by omega) wx).mono ?_
      rintro e w1 ⟨s', rfl, hs', rfl⟩
      exact ⟨_, rfl, ⟨s', rfl, hs'⟩, Below.refl _ _⟩
    refine ⟨opV rfl fun s wx hb hd => ⟨_, ex_fld rfl (lit_out 1 (by kernel_rfl)) (fa_fl_4 _ wx), rfl⟩, ?_⟩
    refine ⟨opV rfl fun s wx hb hd => ⟨_, ex_ld rfl ((lit_at 8 13 (by kernel_rfl) (by kernel_rfl) (by kernel_rfl)).trans (hd 8 (by kernel_rfl))) (ld_string (((HX.out.1).below hb (HX.out.1).lt).cell 4)), rfl⟩, ?_⟩
    refine ⟨opC rfl fun s wx hb hd => ⟨_, _, ex_c2 rfl rfl (enters Tryz.func50 (by kernel_rfl) rfl _ _) ((lit_at 9 14 (by kernel_rfl) (by kernel_rfl) (by kernel_rfl)).trans (hd 9 (by kernel_rfl))) rfl, ?_⟩, ?_⟩
    · refine (cut_le _ 70 (by omega) wx).mono ?_
      rintro e w1 ⟨s', rfl, hs', rfl⟩
      exact ⟨_, rfl, ⟨s', rfl, hs'⟩, Below.refl _ _⟩
    refine ⟨opV rfl fun s wx hb hd => ⟨_, ex_fld rfl (lit_out 1 (by kernel_rfl)) (fa_fl_5 _ wx), rfl⟩, ?_⟩
    refine ⟨opV rfl fun s wx hb hd => ⟨_, ex_ld rfl ((lit_at 11 16 (by kernel_rfl) (by kernel_rfl) (by kernel_rfl)).trans (hd 11 (by kernel_rfl))) (ld_Lstring (((HX.out.1).below hb (HX.out.1).lt).cell 5)), rfl⟩, ?_⟩
    refine ⟨opC rfl fun s wx hb hd => ⟨_, _, ex_c2 rfl rfl (enters Tryz.func51 (by kernel_rfl) rfl _ _) ((lit_at 12 17 (by kernel_rfl) (by kernel_rfl) (by kernel_rfl)).trans (hd 12 (by kernel_rfl))) rfl, ?_⟩, ?_⟩
    · refine (few_any A1 _ c1 4 (by omega) d.cl wx ((HX.out.2.1.move (.of_below hb HX.out.2.2.2)).rd fun b h => Nat.lt_of_lt_of_le (HX.out.2.2.2 b h) hb.size)).mono ?_
      rintro e w1 ⟨A', c', rfl, hown, hb'⟩
      exact ⟨_, rfl, ⟨_, ⟨by rw [fewS_len]; omega, fewS_100 _ _⟩, Row.of_own (fun _ _ => rfl) hown rfl hb.size⟩, hb'⟩
    refine ⟨opV rfl fun s wx hb hd => ⟨_, ex_fld rfl (lit_out 1 (by kernel_rfl)) (fa_fl_7 _ wx), rfl⟩, ?_⟩
    refine ⟨opV rfl fun s wx hb hd => ⟨_, ex_ld rfl ((lit_at 14 19 (by kernel_rfl) (by kernel_rfl) (by kernel_rfl)).trans (hd 14 (by kernel_rfl))) (ld_Lscrimref04_Pair (((HX.out.1).below hb (HX.out.1).lt).cell 7)), rfl⟩, ?_⟩
    refine ⟨opC rfl fun s wx hb hd => ⟨_, _, ex_c2 rfl rfl (enters Tryz.func52 (by kernel_rfl) rfl _ _) ((lit_at 15 20 (by kernel_rfl) (by kernel_rfl) (by kernel_rfl)).trans (hd 15 (by kernel_rfl))) rfl, ?_⟩, ?_⟩
    · refine (fewP_any A3 _ c3 4 (by omega) d.st wx ((HX.out.2.2.1.move (.of_below hb HX.out.2.2.2)).rd fun b h => Nat.lt_of_lt_of_le (HX.out.2.2.2 b h) hb.size)).mono ?_
      rintro e w1 ⟨A', c', rfl, hown, hb'⟩
      exact ⟨_, rfl, ⟨_, ⟨by rw [fewP_len]; omega, fewP_100 _ _⟩, Row.of_own (fun _ _ => rfl) hown rfl hb.size⟩, hb'⟩
    refine ⟨opV rfl fun s wx hb hd => ⟨_, ex_fld rfl (lit_out 1 (by kernel_rfl)) (fa_fl_8 _ wx), rfl⟩, ?_⟩
    refine ⟨opV rfl fun s wx hb hd => ⟨_, ex_ld rfl ((lit_at 17 22 (by kernel_rfl) (by kernel_rfl) (by kernel_rfl)).trans (hd 17 (by kernel_rfl))) (ld_opF (((HX.out.1).below hb (HX.out.1).lt).cell 8) (((HX.out.1).below hb (HX.out.1).lt).cell 9) (((HX.out.1).below hb (HX.out.1).lt).cell 10) (((HX.out.1).below hb (HX.out.1).lt).cell 11) (((HX.out.1).below hb (HX.out.1).lt).cell 12) (((HX.out.1).below hb (HX.out.1).lt).cell 13)), rfl⟩, ?_⟩
    refine ⟨opV rfl fun s wx hb hd => ?_, ?_⟩
    · obtain ⟨s9, e9, b9⟩ := (hd 4 (by kernel_rfl))
      obtain ⟨s12, e12, b12⟩ := (hd 7 (by kernel_rfl))
      obtain ⟨s15, e15, b15⟩ := (hd 10 (by kernel_rfl))
      obtain ⟨l4, k4, ⟨A4, c4, e4, h4⟩⟩ := (hd 13 (by kernel_rfl))
      obtain ⟨l6, k6, ⟨A6, c6, e6, h6⟩⟩ := (hd 16 (by kernel_rfl))
      exact ⟨_, ex_bld7 rfl ((lit_at 1 6 (by kernel_rfl) (by kernel_rfl) (by kernel_rfl)).trans (hd 1 (by kernel_rfl))) ((lit_at 4 9 (by kernel_rfl) (by kernel_rfl) (by kernel_rfl)).trans e9) ((lit_at 7 12 (by kernel_rfl) (by kernel_rfl) (by kernel_rfl)).trans e12) ((lit_at 10 15 (by kernel_rfl) (by kernel_rfl) (by kernel_rfl)).trans e15) ((lit_at 13 18 (by kernel_rfl) (by kernel_rfl) (by kernel_rfl)).trans e4) ((lit_at 16 21 (by kernel_rfl) (by kernel_rfl) (by kernel_rfl)).trans e6) ((lit_at 18 23 (by kernel_rfl) (by kernel_rfl) (by kernel_rfl)).trans (hd 18 (by kernel_rfl))) (bld_rn ⟨d.kind, s9, s12, s15, l4, [], l6, d.op⟩ A4 A6 _ c4 _ c6 wx), ⟨⟨d.kind, s9, s12, s15, l4, [], l6, d.op⟩, _, _, rfl, rfl, ⟨b15, Nat.le_trans b9 (by decide), Nat.le_trans b12 (by decide), k4.2, k6.2, fun _ h => by cases h⟩, k4.1, k6.1, ⟨A4, c4, rfl, h4⟩, ⟨A6, c6, rfl, h6⟩⟩⟩
    refine ⟨opN rfl fun s wx hb hd => ⟨_, _, ex_alc rfl (al_rn wx), NewAt.new hb.size, below_alloc _ _⟩, ?_⟩
    trivial
  rotate_left
  · kernel_rfl
  intro s wz hbz hV
  obtain ⟨d2, p4, p6, e24, hat, htx, hcl, hst, h4, h6⟩ := hV 19 (by omega)
  obtain ⟨N, e3, hN1, hN2⟩ := hV 20 (by omega)
  clear hV
  simp only [List.take_succ_cons, List.take_zero, List.drop_succ_cons, List.drop_zero, litOf, List.map_cons, List.map_nil, Nat.zero_add, Nat.reduceAdd, Act.put, List.setIfInBounds_toArray, List.set_cons_succ, List.set_cons_zero]
  refine wpList_store_blk rfl 32 _ _ rfl N _ e3 e24 32 zs_rn hN2 rfl (by kernel_rfl) ?_ ?_
  · exact vC_all h4.one rfl h6.one rfl
  intro wa hNa hga hsa
  have hX := HX.out.1
  have hB1 : Below w1.heap.size w1 wa := hbz.grown hga hbz.size (fun j hj => by cases hj; exact hN1)
  have hI : OwF w1 N d2 [] p4 (.slice none 0 0) p6 wa := by
    have hc : Chg (· = N) wz wa := .of_grown hga fun i h => by cases h; rfl
    exact ⟨hB1, hN1, hNa, h4.chg hc (fun b cs _ hb e => by subst e; exact Blk.ne_ hb hN2 (by decide) rfl), h6.chg hc (fun b cs _ hb e => by subst e; exact Blk.ne_ hb hN2 (by decide) rfl), World.ownsRow_nil _ _ _ _⟩
  have HI := Lib.hid hI
  have HQ := Lib.hid (And.intro hcl (And.intro hst htx))
  rw [e3]
  clear hI hB1 hNa hga hsa h4 h6 hN1 hN2 hX hbz e24 e3 hat hcl hst htx
  obtain ⟨tra, hti, hz0, hz1, hz2⟩ := info_parts at_info
  go_wp2_with fail
  go_loopw [4] (fun i wx => ∃ k p5 al, k ≤ d.at_.length ∧ k ≤ 4 ∧ i = .int .i64 k ∧ al.length = k ∧ (∀ p ∈ al, a100 p) ∧ OwF w1 N d2 al p4 p5 p6 wx) (fun i _ => 4 - (intOf i).toNat)
  case atStart => exact ⟨0, .slice none 0 0, [], Nat.zero_le _, Nat.zero_le _, rfl, rfl, (fun _ h => by cases h), HI.out⟩
  case round =>
    obtain ⟨k, p5, al, hk, hk4, rfl, hal, hsh, hI⟩ := hrel
    have HSH := Lib.hid hsh
    clear hsh
    have hXr := HX.out.1.below hI.1 HX.out.1.lt
    have x6 : wr.cell? ⟨X, 6, none⟩ = some (.slice A2 d.at_.length c2) := hXr.cell 6
    by_cases hlt : k < d.at_.length ∧ k < 4
    · obtain ⟨hlt, hl4⟩ := hlt
      obtain ⟨b, off, rfl, hbB, d0⟩ := HK.out.2.2.2 k hlt
      have d1 := d0 1 (by omega)
      replace d0 := d0 0 (by omega)
      have hbb := HX.out.2.2.2 b hbB
      replace d0 := (hI.1.cell (p := ⟨b, off + k * 2 + 0, none⟩) hbb).trans d0
      replace d1 := (hI.1.cell (p := ⟨b, off + k * 2 + 1, none⟩) hbb).trans d1
      obtain ⟨x, hx⟩ : ∃ x, x = d.at_.getD k St.pr0 := ⟨_, rfl⟩
      rw [← hx] at d0 d1
      replace d0 : wr.cell? ⟨b, off + k * 2, none⟩ = some (.string x.1) := d0
      replace d1 : wr.cell? ⟨b, off + k * 2 + 1, none⟩ = some (.string x.2) := d1
      have HC := Lib.hid (And.intro d0 (And.intro d1 (Nat.lt_of_lt_of_le hbb hI.1.size)))
      have HXB := Lib.hid hXr
      have HN := Lib.hid hI.2.2.1
      have HI := Lib.hid (And.intro hI hal)
      have i1 : (0 : Int) ≤ (k : Int) := by omega
      have i2 : (k : Int) < (d.at_.length : Int) := by omega
      have i3 : (k : Int) < 4 := by omega
      clear hx d0 d1 hbb hbB hI hXr hal
      unfold fC at HXB
      unfold vC at HN
      go_upto_region 5 with fail
      refine wp_region_tail3 18 _ ?_ ?_ ?_ ?_ (NodeR5 wr X N b off k dp d d2 A1 A3 c1 c2 c3 p4 p5 p6 x) (fun j v wx wy => NodeR5_keep _ _ _ _ _ _ _ _ _ _ _ _ _ _ _ _ _ _ j v wx wy) ?_ ?_ ?_
      · kernel_rfl
      · kernel_rfl
      · kernel_rfl
      · kernel_rfl
      · refine ⟨opV rfl fun s wx hb hd => ⟨_, ex_fld rfl (lit_out 3 (by kernel_rfl)) (fa_rn_5 _ wx), rfl⟩, ?_⟩
        refine ⟨opV rfl fun s wx hb hd => ⟨_, ex_ld rfl ((lit_at 0 36 (by kernel_rfl) (by kernel_rfl) (by kernel_rfl)).trans (hd 0 (by kernel_rfl))) (ld_Lscrimref05_Attr (((HN.out).below hb (HN.out).lt).cell 5)), rfl⟩, ?_⟩
        refine ⟨opV rfl fun s wx hb hd => ⟨_, ex_fld rfl (lit_out 1 (by kernel_rfl)) (fa_fl_6 _ wx), rfl⟩, ?_⟩
        refine ⟨opV rfl fun s wx hb hd => ⟨_, ex_ld rfl ((lit_at 2 38 (by kernel_rfl) (by kernel_rfl) (by kernel_rfl)).trans (hd 2 (by kernel_rfl))) (ld_Lscrimref05_Attr (((HXB.out).below hb (HXB.out).lt).cell 6)), rfl⟩, ?_⟩
        refine ⟨opV rfl fun s wx hb hd => ⟨_, ex_mv rfl (lit_out 4 (by kernel_rfl)), rfl⟩, ?_⟩
        refine ⟨opV rfl fun s wx hb hd => ⟨_, ex_idx rfl ((lit_at 3 39 (by kernel_rfl) (by kernel_rfl) (by kernel_rfl)).trans (hd 3 (by kernel_rfl))) ((lit_at 4 40 (by kernel_rfl) (by kernel_rfl) (by kernel_rfl)).trans (hd 4 (by kernel_rfl))) (ix_at hlt wx), rfl⟩, ?_⟩
        refine ⟨opV rfl fun s wx hb hd => ⟨_, ex_fld rfl ((lit_at 5 41 (by kernel_rfl) (by kernel_rfl) (by kernel_rfl)).trans (hd 5 (by kernel_rfl))) (fai_at_0 _ _ wx), rfl⟩, ?_⟩
        refine ⟨opV rfl fun s wx hb hd => ⟨_, ex_ld rfl ((lit_at 6 42 (by kernel_rfl) (by kernel_rfl) (by kernel_rfl)).trans (hd 6 (by kernel_rfl))) (ld_string ((hb.cell HC.out.2.2).trans HC.out.1)), rfl⟩, ?_⟩
        refine ⟨opC rfl fun s wx hb hd => ⟨_, _, ex_c2 rfl rfl (enters Tryz.func50 (by kernel_rfl) rfl _ _) ((lit_at 7 43 (by kernel_rfl) (by kernel_rfl) (by kernel_rfl)).trans (hd 7 (by kernel_rfl))) rfl, ?_⟩, ?_⟩
        · refine (cut_le _ 20 (by omega) wx).mono ?_
          rintro e w1 ⟨s', rfl, hs', rfl⟩
          exact ⟨_, rfl, ⟨s', rfl, by omega⟩, Below.refl _ _⟩
        refine ⟨opV rfl fun s wx hb hd => ⟨_, ex_fld rfl (lit_out 1 (by kernel_rfl)) (fa_fl_6 _ wx), rfl⟩, ?_⟩
        refine ⟨opV rfl fun s wx hb hd => ⟨_, ex_ld rfl ((lit_at 9 45 (by kernel_rfl) (by kernel_rfl) (by kernel_rfl)).trans (hd 9 (by kernel_rfl))) (ld_Lscrimref05_Attr (((HXB.out).below hb (HXB.out).lt).cell 6)), rfl⟩, ?_⟩
        refine ⟨opV rfl fun s wx hb hd => ⟨_, ex_mv rfl (lit_out 4 (by kernel_rfl)), rfl⟩, ?_⟩
        refine ⟨opV rfl fun s wx hb hd => ⟨_, ex_idx rfl ((lit_at 10 46 (by kernel_rfl) (by kernel_rfl) (by kernel_rfl)).trans (hd 10 (by kernel_rfl))) ((lit_at 11 47 (by kernel_rfl) (by kernel_rfl) (by kernel_rfl)).trans (hd 11 (by kernel_rfl))) (ix_at hlt wx), rfl⟩, ?_⟩
        refine ⟨opV rfl fun s wx hb hd => ⟨_, ex_fld rfl ((lit_at 12 48 (by kernel_rfl) (by kernel_rfl) (by kernel_rfl)).trans (hd 12 (by kernel_rfl))) (fai_at_1 _ _ wx), rfl⟩, ?_⟩
        refine ⟨opV rfl fun s wx hb hd => ⟨_, ex_ld rfl ((lit_at 13 49 (by kernel_rfl) (by kernel_rfl) (by kernel_rfl)).trans (hd 13 (by kernel_rfl))) (ld_string ((hb.cell HC.out.2.2).trans HC.out.2.1)), rfl⟩, ?_⟩
        refine ⟨opC rfl fun s wx hb hd => ⟨_, _, ex_c2 rfl rfl (enters Tryz.func50 (by kernel_rfl) rfl _ _) ((lit_at 14 50 (by kernel_rfl) (by kernel_rfl) (by kernel_rfl)).trans (hd 14 (by kernel_rfl))) rfl, ?_⟩, ?_⟩
        · refine (cut_le _ 40 (by omega) wx).mono ?_
          rintro e w1 ⟨s', rfl, hs', rfl⟩
          exact ⟨_, rfl, ⟨s', rfl, by omega⟩, Below.refl _ _⟩
        refine ⟨opV rfl fun s wx hb hd => ?_, ?_⟩
        · obtain ⟨s1, e1, z1⟩ := (hd 8 (by kernel_rfl))
          obtain ⟨s2, e2, z2⟩ := (hd 15 (by kernel_rfl))
          exact ⟨_, ex_bld2 rfl ((lit_at 8 44 (by kernel_rfl) (by kernel_rfl) (by kernel_rfl)).trans e1) ((lit_at 15 51 (by kernel_rfl) (by kernel_rfl) (by kernel_rfl)).trans e2) (bld_at s1 s2 wx), ⟨(s1, s2), rfl, z1, z2⟩⟩
        refine ⟨opN rfl fun s wx hb hd => ?_, ?_⟩
        · obtain ⟨y, e, hy⟩ := (hd 16 (by kernel_rfl))
          exact ⟨_, _, ex_bsl1 rfl ((lit_at 16 52 (by kernel_rfl) (by kernel_rfl) (by kernel_rfl)).trans e) (bs_at _ _ wx), ⟨y, hy, NewSl.new hb.size⟩, below_alloc _ _⟩
        trivial
      rotate_left
      · kernel_rfl
      intro s2 wy hby hV
      have e1 : s2 1 = p5 := hV 1 (by omega)
      obtain ⟨y, hy, g3, e17, hg3, hB3⟩ := hV 17 (by omega)
      clear hV
      simp only [List.take_succ_cons, List.take_zero, List.drop_succ_cons, List.drop_zero, litOf, List.map_cons, List.map_nil, Nat.zero_add, Nat.reduceAdd, Act.put, List.setIfInBounds_toArray, List.set_cons_succ, List.set_cons_zero]
      have ho := own_keep HI.out.1.2.2.2.2.2 hby
      rw [HI.out.2] at ho
      have HA := Lib.hid (And.intro ho (And.intro hB3 hby))
      have hHI := HI.out.1.1.size
      have hbs := hby.size
      clear ho hB3 hby
      refine wpList_append_lies _ rfl _ _ _ rfl w1.heap.size 89 tra _ 2 32 Tryz.underlying26 hti hz0 hz1 hz2 rfl (by decide) p5 k _ e1 HA.out.1 ⟨g3, 0, none⟩ 1 1 [.string y.1, .string y.2] e17 rfl (news_at HA.out.2.1) (by intro u hu; simp at hu; rcases hu with rfl | rfl <;> rfl) (by omega) (by unfold maxLen; omega) (by omega) (by omega) _ rfl ?_
      intro g cap wA hown hg hat hltA
      obtain ⟨q1, q2, hc, hN4, ho4, hvN, hat4⟩ := app_field (off := 5) (HN.out.below HA.out.2.2 HN.out.lt) rfl HA.out.1 (own_blk_ne HA.out.1 (HN.out.below HA.out.2.2 HN.out.lt) (by decide)) rfl hown hg hat
      have HS := Lib.hid (HI.out.1.put y HA.out.2.2 hc hN4 (by rw [HI.out.2]; exact ho4))
      have HLL := Lib.hid (And.intro (show (al ++ [y]).length = k + 1 by rw [List.length_append, HI.out.2]; rfl) (show ∀ p ∈ al ++ [y], a100 p from fun p hp => by
        rcases List.mem_append.1 hp with h | h
        · exact HSH.out p h
        · rw [List.mem_singleton.1 h]; exact hy))
      clear hy
      clear hc hN4 ho4 hown hg hat hltA hti hz0 hz1 hz2 hHI hbs hvN hat4 e1 e17 hg3
      go_wp2_with fail
      go_roundw
      case rel => exact ⟨k + 1, _, _, by omega, by omega, by go_num, HLL.out.1, HLL.out.2, HS.out⟩
      case measure => simp [intOf]; omega
    · have HR := Lib.hid (HK.out.1.below hI.1 HK.out.1.lt)
      have HI2 := Lib.hid (And.intro hI (show al.length ≤ 4 by omega))
      clear hI hXr hal HI
      by_cases h1 : k < d.at_.length
      · have i1 : (k : Int) < (d.at_.length : Int) := by omega
        have i3 : decide ((k : Int) < 4) = false := by simp; omega
        have i4 : decide (k < 4) = false := by simp; omega
        clear hlt hk hk4
        go_upto_region 6 with fail
        refine _root_.Go.wp_region_lit ?_
        refine wpList_load_row rfl 32 _ rfl N rfl 32 _ (0, 0) _ HI2.out.1.2.2.1 Tryz.underlying32 rfl sz_rn ?_
        simp only [Act.put, List.setIfInBounds_toArray, List.set_cons_succ, List.set_cons_zero]
        refine wpList_store_blk rfl 32 _ _ rfl (X + 1) _ rfl rfl 32 zs_rn HR.out rfl (by kernel_rfl) ?_ ?_
        · exact vC_all HI2.out.1.2.2.2.1.one (own_one HI2.out.1.2.2.2.2.2) HI2.out.1.2.2.2.2.1.one rfl
        intro wf hRf hgf hsf
        refine wpList_nil ?_
        have hX1 := HXE.out.1
        have hX2 := HXE.out.2
        have hT := HI2.out.1.done
        have hT2 := (hT.move (.of_grown hgf fun b hb => ⟨hb.2, fun e => by cases e; have := hb.1; omega⟩)).weak (S' := Fresh w.heap.size wf) fun b hb => ⟨by have := hb.1; omega, by rw [hsf]; exact hb.2⟩
        have hB1 := HK.out.2.1
        have hB2 : Below w.heap.size w wf := (hB1.trans (HI2.out.1.1.mono hB1.size)).grown hgf (by have := HI2.out.1.1.size; have := hB1.size; omega) (fun j hj => by cases hj; omega)
        have hvb : vb { d2 with at_ := al } := ⟨by show d2.cl.length ≤ 100; have := HQ.out.1; omega, by show al.length ≤ 100; have := HI2.out.2; omega, by show d2.st.length ≤ 100; have := HQ.out.2.1; omega⟩
        have HF := Lib.hid (And.intro hRf (And.intro hT2 (And.intro hB2 hvb)))
        clear hT hT2 hB1 hB2 hgf hsf hRf hX1 hX2 hvb
        go_wp2_with fail
        exact bodyPost_ret (v := vV d2 p4 p5 p6 (.slice none 0 0)) (results_cell_row rfl _ _ (X + 1) 32 _ (0, 0) _ rfl HF.out.1 Tryz.underlying32 rfl sz_rn) rfl ⟨_, rfl, ⟨_, HF.out.2.2.2, ⟨HQ.out.2.2.1, HQ.out.2.2.2.1, HQ.out.2.2.2.2.1, HQ.out.2.2.2.2.2.1, HQ.out.2.2.2.2.2.2.1, HSH.out⟩, HF.out.2.1⟩, HF.out.2.2.1⟩
      · have i3 : decide ((k : Int) < (d.at_.length : Int)) = false := by simp; omega
        have i4 : decide (k < d.at_.length) = false := by simp; omega
        clear hlt hk hk4 h1
        go_upto_region 6 with fail
        refine _root_.Go.wp_region_lit ?_
        refine wpList_load_row rfl 32 _ rfl N rfl 32 _ (0, 0) _ HI2.out.1.2.2.1 Tryz.underlying32 rfl sz_rn ?_
        simp only [Act.put, List.setIfInBounds_toArray, List.set_cons_succ, List.set_cons_zero]
        refine wpList_store_blk rfl 32 _ _ rfl (X + 1) _ rfl rfl 32 zs_rn HR.out rfl (by kernel_rfl) ?_ ?_
        · exact vC_all HI2.out.1.2.2.2.1.one (own_one HI2.out.1.2.2.2.2.2) HI2.out.1.2.2.2.2.1.one rfl
        intro wf hRf hgf hsf
        refine wpList_nil ?_
        have hX1 := HXE.out.1
        have hX2 := HXE.out.2
        have hT := HI2.out.1.done
        have hT2 := (hT.move (.of_grown hgf fun b hb => ⟨hb.2, fun e => by cases e; have := hb.1; omega⟩)).weak (S' := Fresh w.heap.size wf) fun b hb => ⟨by have := hb.1; omega, by rw [hsf]; exact hb.2⟩
        have hB1 := HK.out.2.1
        have hB2 : Below w.heap.size w wf := (hB1.trans (HI2.out.1.1.mono hB1.size)).grown hgf (by have := HI2.out.1.1.size; have := hB1.size; omega) (fun j hj => by cases hj; omega)
        have hvb : vb { d2 with at_ := al } := ⟨by show d2.cl.length ≤ 100; have := HQ.out.1; omega, by show al.length ≤ 100; have := HI2.out.2; omega, by show d2.st.length ≤ 100; have := HQ.out.2.1; omega⟩
        have HF := Lib.hid (And.intro hRf (And.intro hT2 (And.intro hB2 hvb)))
        clear hT hT2 hB1 hB2 hgf hsf hRf hX1 hX2 hvb
        go_wp2_with fail
        exact bodyPost_ret (v := vV d2 p4 p5 p6 (.slice none 0 0)) (results_cell_row rfl _ _ (X + 1) 32 _ (0, 0) _ rfl HF.out.1 Tryz.underlying32 rfl sz_rn) rfl ⟨_, rfl, ⟨_, HF.out.2.2.2, ⟨HQ.out.2.2.1, HQ.out.2.2.2.1, HQ.out.2.2.2.2.1, HQ.out.2.2.2.2.2.1, HQ.out.2.2.2.2.2.2.1, HSH.out⟩, HF.out.2.1⟩, HF.out.2.2.1⟩

end Go.Proofs.YtaalhglooipnaaaGreat
