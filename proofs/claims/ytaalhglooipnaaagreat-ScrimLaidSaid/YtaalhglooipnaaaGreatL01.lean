/-
  Words for memory: a block that is known whole; what only one block, and what is new, may have turned. (Turned to this claim after the guide's pages of lemmas to copy.)
  What each statement's row is lifted by: closed facts of the program, and lemmas that read arguments.
  Words for lists in memory: lists of numbers; rows that the call itself made; draws.
  Rows of whatever elements; rows of strings: Few, Clone, Index, Contains, Has.
-/
import Derived.Test.YtaalhglooipnaaaGreatProg
import Derived.WalkKit
import Derived.WalkSpells
import Derived.Below
import Derived.Laws.OwnMore
import Derived.Deep.Draws
import Derived.Laws.Rows
import Derived.OwnWalk
import Derived.Test.YtaalhglooipnaaaGreatRows
import Derived.ProofKit
import Derived.OpenShut
import Derived.ShutString
import Derived.ChangeOld
import Derived.Carry
import Derived.Deep.AppendLies
import Derived.Lib.Hide
import Derived.Lib.MinMax
import Derived.Deep.QuietTactic
import Derived.BigQuiet
import Derived.Deep.DrawnRows
import Derived.Deep.DeepCutAuto
import Derived.Deep.RegionHeld3
import Derived.Laws.AppendOwnNone
import Derived.Lib.BufferMore
import Derived.Lib.SmallJoins
import Derived.Deep.Strs
namespace Go.Proofs.YtaalhglooipnaaaGreat
open Go.RowKit

theorem below_drewN {B : Nat} {a w : World} (h : Below B a w) (n : Nat) : Below B a (w.drewN n) := ⟨h.os, h.tape, h.output, h.size, h.block⟩

/-- Block g is just the cells cs of element type t, none frozen. -/
def Blk (w : World) (g : Nat) (t : TypeId) (cs : Array Value) : Prop := w.heap[g]? = some (.cells cs t (0, 0))

section
variable {w w' : World} {g : Nat} {t : TypeId} {cs : Array Value}
theorem Blk.lt (h : Blk w g t cs) : g < w.heap.size := by
  rcases Nat.lt_or_ge g w.heap.size with hlt | hge
  · exact hlt
  · unfold Blk at h; rw [Array.getElem?_eq_none hge] at h; cases h
theorem Blk.cell (h : Blk w g t cs) (i : Nat) : w.cell? ⟨g, i, none⟩ = cs[i]? := cell_of_row w g i cs t (0, 0) h
theorem Blk.frozen (h : Blk w g t cs) (i : Nat) : w.frozen? ⟨g, i, none⟩ = false := by
  unfold Blk at h
  simp [World.frozen?, h]
theorem Blk.new (w : World) (t : TypeId) (cs : Array Value) : Blk (w.alloc (.cells cs t)) w.heap.size t cs := heap_alloc_new w _
theorem Blk.drew (h : Blk w g t cs) : Blk w.drew g t cs := h
theorem Blk.drewN (h : Blk w g t cs) (n : Nat) : Blk (w.drewN n) g t cs := h
theorem Blk.alloc (h : Blk w g t cs) (o : Obj) : Blk (w.alloc o) g t cs := (Below.heap_alloc w o g h.lt).trans h
theorem Blk.set_ (h : Blk w g t cs) (i : Nat) (u : Value) : Blk (w.setCell ⟨g, i, none⟩ u) g t (cs.setIfInBounds i u) := by
  unfold Blk at h ⊢
  simp [World.setCell, Array.getElem?_modify, h]
theorem Blk.far (h : Blk w g t cs) {p : Addr} (hp : g ≠ p.block) (u : Value) : Blk (w.setCell p u) g t cs := (Below.heap_setCell w p u g hp).trans h
theorem Blk.below {B : Nat} (h : Blk w g t cs) (hb : Below B w w') (hg : g < B) : Blk w' g t cs := (hb.block g hg).trans h
theorem Blk.grown {row : Option Nat} (h : Blk w g t cs) (hb : w.grownBy w' row) (hg : some g ≠ row) : Blk w' g t cs := (hb.block g h.lt hg).trans h
theorem Blk.ne_ {g' : Nat} {t' : TypeId} {cs' : Array Value} (h : Blk w g t cs) (h' : Blk w g' t' cs') (hne : t ≠ t') : g ≠ g' := by
  rintro rfl
  unfold Blk at h h'
  rw [h] at h'
  injection h' with h'
  injection h' with _ ht
  exact hne ht
end

theorem only_drewN {a w : World} {row : Option Nat} (h : a.grownBy w row) (n : Nat) : a.grownBy (w.drewN n) row := ⟨h.os, h.tape, h.output, h.size, h.block⟩
theorem only_drew {a w : World} {row : Option Nat} (h : a.grownBy w row) : a.grownBy w.drew row := ⟨h.os, h.tape, h.output, h.size, h.block⟩
theorem only_alloc {a w : World} {row : Option Nat} (h : a.grownBy w row) (o : Obj) : a.grownBy (w.alloc o) row :=
  ⟨h.os, h.tape, h.output, Nat.le_trans h.size (by simp), fun i hi hne => (Below.heap_alloc w o i (Nat.lt_of_lt_of_le hi h.size)).trans (h.block i hi hne)⟩
theorem only_setCell {a w : World} {row : Option Nat} (h : a.grownBy w row) {p : Addr} (hp : row = some p.block ∨ a.heap.size ≤ p.block) (u : Value) : a.grownBy (w.setCell p u) row :=
  ⟨h.os, h.tape, h.output, by simpa [World.setCell] using h.size, fun i hi hne => (Below.heap_setCell w p u i (by
    rintro rfl
    rcases hp with hp | hp
    · exact hne hp.symm
    · omega)).trans (h.block i hi hne)⟩
theorem only_set {a w : World} {g : Nat} (h : a.grownBy w (some g)) (i : Nat) (u : Value) : a.grownBy (w.setCell ⟨g, i, none⟩ u) (some g) := only_setCell (p := ⟨g, i, none⟩) h (.inl rfl) u
theorem only_trans {a b c : World} {row : Option Nat} (h : a.grownBy b row) (k : b.grownBy c row) : a.grownBy c row :=
  ⟨k.os.trans h.os, k.tape.trans h.tape, k.output.trans h.output, Nat.le_trans h.size k.size, fun i hi hne => (k.block i (Nat.lt_of_lt_of_le hi h.size) hne).trans (h.block i hi hne)⟩
theorem only_row {a w : World} {row : Option Nat} (h : a.grownBy w none) : a.grownBy w row := ⟨h.os, h.tape, h.output, h.size, fun i hi _ => h.block i hi (by simp)⟩
theorem only_of_below {a w : World} (h : Below a.heap.size a w) (row : Option Nat) : a.grownBy w row := ⟨h.os, h.tape, h.output, h.size, fun i hi _ => h.block i hi⟩
theorem below_of_only {a w : World} {B : Nat} (h : a.grownBy w none) (hB : B ≤ a.heap.size) : Below B a w := ⟨h.os, h.tape, h.output, h.size, fun i hi => h.block i (by omega) (by simp)⟩

end Go.Proofs.YtaalhglooipnaaaGreat
namespace Go.Proofs.YtaalhglooipnaaaGreat
open Go.ChangeShapes Go.WideShapes Go.ChangeAt Go.RowKit

theorem own : ownKnob Tryz.prog.godebug = none := by kernel_rfl
theorem laid_out : laidOutB Tryz.prog = true := by kernel_rfl

end Go.Proofs.YtaalhglooipnaaaGreat
namespace Go.Proofs.YtaalhglooipnaaaGreat
open Go.RowKit

/-- Nothing but draws. -/
def Drew (w w' : World) : Prop := ∃ n, w.drewN n = w'
theorem Drew.refl (w : World) : Drew w w := ⟨0, rfl⟩
theorem Drew.below {w w' : World} (h : Drew w w') (B : Nat) : Below B w w' := by
  obtain ⟨n, rfl⟩ := h
  exact below_drewN (Below.refl _ _) n

theorem take_snoc {α : Type} (zs : List α) (d : α) (k : Nat) (h : k < zs.length) : zs.take (k + 1) = zs.take k ++ [zs.getD k d] := by
  rw [List.take_succ_eq_append_getElem h]
  simp [List.getD, h]

theorem own_blk_ne {w : World} {g : Nat} {t : TypeId} {cs : Array Value} {base : Nat} {e : TypeId} {size n : Nat} {v : Value} {xs : List Value} (h : w.ownsRow base e size v n xs) (hg : Blk w g t cs) (hne : e ≠ t) : v.ownBlock ≠ some g := by
  rcases h.2 with ⟨rfl, _⟩ | ⟨g', cap, cur, rfl, _, hh, _⟩
  · simp [Value.ownBlock]
  · intro he
    have : g' = g := by simpa [Value.ownBlock] using he
    subst this
    exact Blk.ne_ (t := e) hh hg hne rfl
theorem own_form {w : World} {base : Nat} {e : TypeId} {size n : Nat} {v : Value} {xs : List Value} (h : w.ownsRow base e size v n xs) : ∃ A c, v = .slice A n c := by
  rcases h.2 with ⟨rfl, rfl⟩ | ⟨g, cap, cur, rfl, _⟩
  · exact ⟨_, _, rfl⟩
  · exact ⟨_, _, rfl⟩
theorem own_base {w : World} {base base' : Nat} {e : TypeId} {size n : Nat} {v : Value} {xs : List Value} (h : w.ownsRow base e size v n xs) (hb : base' ≤ base) : w.ownsRow base' e size v n xs := by
  refine ⟨h.1, ?_⟩
  rcases h.2 with h0 | ⟨g, cap, cur, hv, hg, rest⟩
  · exact .inl h0
  · exact .inr ⟨g, cap, cur, hv, Nat.le_trans hb hg, rest⟩
theorem own_cap {w : World} {base : Nat} {e : TypeId} {size : Nat} {A : Option Addr} {n c : Nat} {xs : List Value} (h : w.ownsRow base e size (.slice A n c) n xs) : n ≤ c ∧ c ≤ maxLen := by
  rcases h.2 with ⟨hv, h0⟩ | ⟨g, cap, cur, hv, _, _, hc, hm, _⟩
  · injection hv; subst_vars; exact ⟨Nat.le_refl _, Nat.zero_le _⟩
  · injection hv; subst_vars; exact ⟨hc, hm⟩
theorem own_own_ne {w : World} {b1 b2 : Nat} {e1 e2 : TypeId} {s1 s2 n1 n2 : Nat} {v1 v2 : Value} {x1 x2 : List Value} (h1 : w.ownsRow b1 e1 s1 v1 n1 x1) (h2 : w.ownsRow b2 e2 s2 v2 n2 x2) (hne : e1 ≠ e2) : v1.ownBlock = none ∨ v1.ownBlock ≠ v2.ownBlock := by
  rcases h2.2 with ⟨rfl, _⟩ | ⟨g, cap, cur, rfl, _, hh, _⟩
  · cases hv : v1.ownBlock
    · exact .inl rfl
    · right; simp [Value.ownBlock]
  · exact .inr (own_blk_ne (g := g) h1 hh hne)
theorem own_keep {w w' : World} {base : Nat} {e : TypeId} {size n : Nat} {v : Value} {xs : List Value} (h : w.ownsRow base e size v n xs) (hb : Below w.heap.size w w') : w'.ownsRow base e size v n xs :=
  h.kept (only_of_below hb none) (by simp [Classical.em])
/-- A row that lies above what a step may turn. -/
theorem own_nil_or {w : World} {base : Nat} {e : TypeId} {size n : Nat} {v : Value} {xs : List Value} (h : w.ownsRow base e size v n xs) (g : Nat) (hg : g < base) : v.ownBlock ≠ some g := by
  intro he
  have := (h.lt g he).1
  omega

/-- Numbers as cells. -/
def nums (l : List Int) : List Value := l.map fun i => .int .i64 i
theorem nums_snoc (l : List Int) (a : Int) : nums (l ++ [a]) = nums l ++ [.int .i64 a] := by simp [nums]
theorem nums_len (l : List Int) : (nums l).length = l.length := by simp [nums]

/-- A slice of ints that reads as a list, below block B. -/
def Nums (w : World) (B : Nat) (A : Option Addr) (n : Nat) (l : List Int) : Prop :=
  l.length = n ∧ ∀ k, k < n → ∃ b off, A = some ⟨b, off, none⟩ ∧ b < B ∧ w.cell? ⟨b, off + k, none⟩ = some (.int .i64 (l.getD k 0))
theorem Nums.below {w w' : World} {B : Nat} {A : Option Addr} {n : Nat} {l : List Int} (h : Nums w B A n l) (hb : Below B w w') : Nums w' B A n l :=
  ⟨h.1, fun k hk => by
    obtain ⟨b, off, hA, hB, h0⟩ := h.2 k hk
    exact ⟨b, off, hA, hB, (hb.cell (p := ⟨b, _, none⟩) hB).trans h0⟩⟩
theorem Nums.more {w : World} {B B' : Nat} {A : Option Addr} {n : Nat} {l : List Int} (h : Nums w B A n l) (hB : B ≤ B') : Nums w B' A n l :=
  ⟨h.1, fun k hk => by
    obtain ⟨b, off, hA, hb, h0⟩ := h.2 k hk
    exact ⟨b, off, hA, by omega, h0⟩⟩
theorem Nums.of_own {w : World} {base : Nat} {A : Option Addr} {n c : Nat} {l : List Int} (h : w.ownsRow base 3 1 (.slice A n c) n (nums l)) (hl : l.length = n) : Nums w w.heap.size A n l := by
  refine ⟨hl, fun k hk => ?_⟩
  obtain ⟨g, cap, hv, _, hlt⟩ := h.form (by omega)
  obtain ⟨rfl, rfl⟩ : A = some ⟨g, 0, none⟩ ∧ c = cap := by injection hv; exact ⟨by assumption, by assumption⟩
  have c0 := h.cells (g := g) rfl k (.int .i64 (l.getD k 0)) (by simp [nums, List.getD, show k < l.length by omega])
  rw [Addr.add_lit] at c0
  exact ⟨g, 0, rfl, hlt, c0⟩
theorem Nums.nil (w : World) (B : Nat) (A : Option Addr) : Nums w B A 0 [] := ⟨rfl, fun k hk => by omega⟩

end Go.Proofs.YtaalhglooipnaaaGreat
namespace Go.Proofs.YtaalhglooipnaaaGreat
open Go.RowKit
attribute [local go_sem ↓] Go.wp_at_zero Go.wp_at_succ

theorem toList_inj {s s' : ByteArray} (h : s.toList = s'.toList) : s = s' := by
  rw [ByteArray.toList_eq, ByteArray.toList_eq] at h
  obtain ⟨⟨x⟩⟩ := s
  obtain ⟨⟨y⟩⟩ := s'
  simp at h
  rw [h]
/-- A slice that reads as a list, each element sz cells, below block B. -/
def Rd {α : Type} (cv : α → List Value) (d : α) (sz : Nat) (w : World) (B : Nat) (A : Option Addr) (n : Nat) (l : List α) : Prop :=
  l.length = n ∧ ∀ k, k < n → ∃ b off, A = some ⟨b, off, none⟩ ∧ b < B ∧ ∀ j, j < sz → w.cell? ⟨b, off + k * sz + j, none⟩ = (cv (l.getD k d))[j]?
section
variable {α : Type} {cv : α → List Value} {d : α} {sz : Nat} {w w' : World} {B : Nat} {A : Option Addr} {n : Nat} {l : List α}
theorem Rd.below (h : Rd cv d sz w B A n l) (hb : Below B w w') : Rd cv d sz w' B A n l :=
  ⟨h.1, fun k hk => by
    obtain ⟨b, off, hA, hB, h0⟩ := h.2 k hk
    exact ⟨b, off, hA, hB, fun j hj => (hb.cell (p := ⟨b, _, none⟩) hB).trans (h0 j hj)⟩⟩
theorem Rd.more (h : Rd cv d sz w B A n l) {B' : Nat} (hB : B ≤ B') : Rd cv d sz w B' A n l :=
  ⟨h.1, fun k hk => by
    obtain ⟨b, off, hA, hb, h0⟩ := h.2 k hk
    exact ⟨b, off, hA, by omega, h0⟩⟩
theorem Rd.keep (h : Rd cv d sz w w.heap.size A n l) (hb : Below w.heap.size w w') : Rd cv d sz w' w'.heap.size A n l := (h.below hb).more hb.size
theorem Rd.take (h : Rd cv d sz w B A n l) (k : Nat) (hk : k ≤ n) : Rd cv d sz w B A k (l.take k) := by
  refine ⟨by rw [List.length_take, h.1]; omega, fun j hj => ?_⟩
  obtain ⟨b, off, hA, hB, h0⟩ := h.2 j (by omega)
  have e : (l.take k).getD j d = l.getD j d := by simp [List.getD, hj]
  rw [e]
  exact ⟨b, off, hA, hB, h0⟩
theorem Rd.nil (w : World) (B : Nat) (A : Option Addr) : Rd cv d sz w B A 0 [] := ⟨rfl, fun k hk => by omega⟩
theorem flat_len (hcv : ∀ a, (cv a).length = sz) (l : List α) : (l.flatMap cv).length = l.length * sz := by
  induction l with
  | nil => simp
  | cons a l ih => rw [List.flatMap_cons, List.length_append, ih, hcv, List.length_cons, Nat.succ_mul]; omega
theorem flat_at (hcv : ∀ a, (cv a).length = sz) (l : List α) (k j : Nat) (hk : k < l.length) (hj : j < sz) : (l.flatMap cv)[k * sz + j]? = (cv (l.getD k d))[j]? := by
  induction l generalizing k with
  | nil => simp at hk
  | cons a l ih =>
    cases k with
    | zero =>
      rw [Nat.zero_mul, Nat.zero_add, List.flatMap_cons, List.getElem?_append_left (by rw [hcv]; exact hj)]
      rfl
    | succ k =>
      rw [List.flatMap_cons, List.getElem?_append_right (by rw [hcv, Nat.succ_mul]; omega), hcv, show (k + 1) * sz + j - sz = k * sz + j by rw [Nat.succ_mul]; omega]
      exact ih k (by simpa using hk)
theorem Rd.of_own {base c : Nat} {e : TypeId} (hcv : ∀ a, (cv a).length = sz) (h : w.ownsRow base e sz (.slice A n c) n (l.flatMap cv)) (hl : l.length = n) : Rd cv d sz w w.heap.size A n l := by
  refine ⟨hl, fun k hk => ?_⟩
  obtain ⟨g, cap, hv, _, hlt⟩ := h.form (by omega)
  injection hv with h1 _ _
  subst h1
  refine ⟨g, 0, rfl, hlt, fun j hj => ?_⟩
  have e1 := flat_at (d := d) hcv l k j (by omega) hj
  obtain ⟨u, hu⟩ : ∃ u, (cv (l.getD k d))[j]? = some u := ⟨_, List.getElem?_eq_getElem (by rw [hcv]; exact hj)⟩
  rw [hu] at e1 ⊢
  have := h.cells (g := g) rfl _ _ e1
  rw [Addr.add_lit] at this
  rw [show 0 + k * sz + j = 0 + (k * sz + j) by omega]
  exact this
end

/-! ### Strings -/
def cvS (s : ByteArray) : List Value := [.string s]
abbrev Ss (w : World) (B : Nat) (A : Option Addr) (n : Nat) (l : List ByteArray) : Prop := Rd cvS ByteArray.empty 1 w B A n l
theorem Rd.str {w : World} {B : Nat} {A : Option Addr} {n : Nat} {l : List ByteArray} (h : Ss w B A n l) (k : Nat) (hk : k < n) : ∃ b off, A = some ⟨b, off, none⟩ ∧ b < B ∧ w.cell? ⟨b, off + k, none⟩ = some (.string (l.getD k ByteArray.empty)) := by
  obtain ⟨b, off, hA, hB, h0⟩ := h.2 k hk
  have := h0 0 (by omega)
  rw [Nat.mul_one, Nat.add_zero] at this
  exact ⟨b, off, hA, hB, this⟩
theorem str_info : (Tryz.prog.info? 9).map (fun i => (i.zero, i.size, i.bytes)) = some (some (.string ByteArray.empty), 1, 16) := by kernel_rfl
theorem cvS_snoc (l : List ByteArray) (s : ByteArray) : (l ++ [s]).flatMap cvS = l.flatMap cvS ++ [.string s] := by simp [cvS]
/-- What hands back a row of strings leaves. -/
def StrPost (w : World) (l : List ByteArray) (e : Ending) (w' : World) : Prop :=
  ∃ A c, e = .returned (.slice A l.length c) ∧ w'.ownsRow w.heap.size 9 1 (.slice A l.length c) l.length (l.flatMap cvS) ∧ Below w.heap.size w w'

def cut20 (s : ByteArray) : ByteArray := if 20 < s.size then s.extract 0 20 else s
set_option maxHeartbeats 400000 in
theorem cut_any (s : ByteArray) (w : World) : Calls Tryz.prog 50 #[.string s, .int .i64 20] w fun e w' => e = .returned (.string (cut20 s)) ∧ w' = w := by
  by_cases h : 20 < s.size
  · have hi : (20 : Int) < (s.size : Int) := by omega
    have hc : cut20 s = s.extract 0 20 := if_pos h
    have HC := Lib.hid hc
    clear hc
    go_enter Tryz.func50, Tryz.ntmps50
    go_wp2
    go_ret
    exact ⟨by rw [HC.out]; rfl, rfl⟩
  · have hi : decide ((20 : Int) < (s.size : Int)) = false := by simp; omega
    have hc : cut20 s = s := if_neg h
    have HC := Lib.hid hc
    clear hc h
    go_enter Tryz.func50, Tryz.ntmps50
    go_wp2
    go_ret
    exact ⟨by rw [HC.out]; rfl, rfl⟩

def fewS (M : Nat) (l : List ByteArray) : List ByteArray := (l.take M).map cut20
theorem fewS_len (M : Nat) (l : List ByteArray) : (fewS M l).length = min M l.length := by simp [fewS]
theorem fewS_succ (l : List ByteArray) (k : Nat) (h : k < l.length) : fewS (k + 1) l = fewS k l ++ [cut20 (l.getD k ByteArray.empty)] := by
  rw [fewS, take_snoc l ByteArray.empty k h, List.map_append]; rfl

set_option maxRecDepth 100000 in
set_option maxHeartbeats 8000000 in
theorem few_any (A : Option Addr) (n c M : Nat) (hM : M ≤ 100) (l : List ByteArray) (w : World) (hz : Ss w w.heap.size A n l) :
    Calls Tryz.prog 51 #[.slice A n c, .int .i64 (M : Nat)] w (StrPost w (fewS M l)) := by
  obtain ⟨tr, hi, hz0, hz1, hz2⟩ := info_parts str_info
  have HZ := Lib.hid hz
  clear hz
  go_enter Tryz.func51, Tryz.ntmps51
  go_wp2_with fail
  go_loopw [5, 6] (fun vo i wx => ∃ k : Nat, k ≤ n ∧ k ≤ M ∧ i = .int .i64 k ∧ wx.ownsRow w.heap.size 9 1 vo k ((fewS k l).flatMap cvS) ∧ Below w.heap.size w wx) (fun _ i _ => M - (intOf i).toNat)
  case atStart => exact ⟨0, Nat.zero_le _, Nat.zero_le _, rfl, World.ownsRow_nil _ _ _ _, Below.refl _ _⟩
  case round =>
    obtain ⟨k, hk, hkM, rfl, hown, hb⟩ := hrel
    obtain ⟨vo, hvo⟩ : ∃ vo, vo = u5 := ⟨_, rfl⟩
    rw [← hvo] at hown ⊢
    clear hvo
    by_cases hlt : k < n ∧ k < M
    · obtain ⟨h1, h2⟩ := hlt
      obtain ⟨b, off, rfl, hbB, d0⟩ := HZ.out.str k h1
      replace d0 := (hb.cell (p := ⟨b, off + k, none⟩) hbB).trans d0
      have HS := Lib.hid (fewS_succ l k (by have := HZ.out.1; omega))
      obtain ⟨s, hs⟩ : ∃ s, s = l.getD k ByteArray.empty := ⟨_, rfl⟩
      rw [← hs] at d0 HS
      have i1 : (0 : Int) ≤ (k : Int) := by omega
      have i2 : (k : Int) < (n : Int) := by omega
      have i3 : (k : Int) < (M : Nat) := by omega
      have HO := Lib.hid (And.intro hown hb)
      clear hs hown hb
      go_wp2_with (first
        | (go_at_call 50; ((with_reducible refine (cut_any _ _).mono ?_); rintro e w' ⟨rfl, rfl⟩))
        | (at_builtin; refine wpList_append_lies _ rfl _ _ _ rfl w.heap.size 9 tr _ 1 16 Tryz.underlying25 hi hz0 hz1 hz2 rfl (by decide) _ k ((fewS k l).flatMap cvS) rfl (HO.out.1.alloc _) _ 1 1 [.string (cut20 s)] rfl rfl (World.news_of_block (heap_alloc_new _ _)) (by intro u hu; simp at hu; subst hu; rfl) (by omega) (by unfold maxLen; omega) (by omega) (by have := HO.out.2.size; simp; omega) _ rfl ?_; intro g2 cap2 w4 hown2 hg2 hat2 hlt2; have HX := Lib.hid (And.intro hown2 ((HO.out.2.alloc HO.out.2.size _).grown hg2 (HO.out.2.alloc HO.out.2.size _).size (fun j hj => (HO.out.1.lt j hj).1))); clear hown2 hg2 hat2 hlt2))
      go_roundw
      case rel => exact ⟨k + 1, by omega, by omega, by go_num, by rw [HS.out, cvS_snoc]; exact HX.out.1, HX.out.2⟩
      case measure => simp [intOf]; omega
    · have HE := Lib.hid (show fewS k l = fewS M l ∧ (fewS M l).length = k by
        have hl := HZ.out.1
        have e : fewS k l = fewS M l := by
          rw [fewS, fewS]
          by_cases h : k = M
          · rw [h]
          · rw [List.take_of_length_le (by omega), List.take_of_length_le (by omega)]
        exact ⟨e, by rw [← e, fewS_len]; omega⟩)
      rw [HE.out.1] at hown
      obtain ⟨A5, c5, hv⟩ := own_form hown
      subst hv
      have HO := Lib.hid (And.intro hown hb)
      clear hown hb
      by_cases h1 : k < n
      · have i1 : (k : Int) < (n : Int) := by omega
        have i3 : decide ((k : Int) < (M : Nat)) = false := by simp; omega
        have i4 : decide (k < M) = false := by simp; omega
        clear hlt
        go_wp2
        go_ret
        exact ⟨A5, c5, by rw [HE.out.2]; rfl, by rw [HE.out.2]; exact HO.out.1, HO.out.2⟩
      · have i3 : decide ((k : Int) < (n : Int)) = false := by simp; omega
        have i4 : decide (k < n) = false := by simp; omega
        clear hlt
        go_wp2
        go_ret
        exact ⟨A5, c5, by rw [HE.out.2]; rfl, by rw [HE.out.2]; exact HO.out.1, HO.out.2⟩


theorem nil_eq (w : World) : (binOp .eql 25 (.slice none 0 0) (.slice none 0 0)).run Tryz.prog w = .ok (.bool true) w := Lib.run_eql_slice_nil_nil w _ _ Tryz.underlying25
theorem some_eq (g : Addr) (n c : Nat) (w : World) : (binOp .eql 25 (.slice (some g) n c) (.slice none 0 0)).run Tryz.prog w = .ok (.bool false) w := Lib.run_eql_slice_some_nil w _ _ _ Tryz.underlying25
attribute [local go_sem] nil_eq some_eq

theorem cvS_oneCell (l : List ByteArray) : ∀ u ∈ l.flatMap cvS, u.oneCell' = true := by
  intro u hu
  simp only [cvS, List.mem_flatMap, List.mem_singleton] at hu
  obtain ⟨z, _, rfl⟩ := hu
  rfl
theorem cvS_len (l : List ByteArray) : (l.flatMap cvS).length = l.length := by rw [flat_len (sz := 1) (fun _ => rfl), Nat.mul_one]

set_option maxRecDepth 100000 in
set_option maxHeartbeats 4000000 in
theorem clone_any (v : Value) (base n : Nat) (l : List ByteArray) (w : World) (h : w.ownsRow base 9 1 v n (l.flatMap cvS)) (hln : l.length = n) (hl : n ≤ 1000000) :
    Calls Tryz.prog 53 #[v] w (StrPost w l) := by
  obtain ⟨tr, hi, hz0, hz1, hz2⟩ := info_parts str_info
  rcases h.2 with ⟨hv, h0⟩ | ⟨g, cap, cur, hv, _⟩
  · subst hv h0
    obtain rfl := List.length_eq_zero_iff.1 hln
    clear h
    go_enter Tryz.func53, Tryz.ntmps53
    go_wp2
    go_ret
    exact ⟨none, 0, rfl, World.ownsRow_nil _ _ _ _, Below.refl _ _⟩
  · subst hv
    have HO := Lib.hid (And.intro (h.alloc (.cells #[] 9)) (World.ownsRow_made w #[] 0 (e := 9) (size := 1) (base := w.heap.size) (Nat.le_refl _) (Nat.zero_le _) rfl))
    have HM := Lib.hid hln
    clear h hln
    go_enter Tryz.func53, Tryz.ntmps53
    go_wp2_with (first
      | (at_builtin; refine wpList_append_own _ rfl _ _ _ rfl w.heap.size 9 tr _ 1 16 Tryz.underlying25 hi hz0 hz1 hz2 rfl (by decide) _ 0 [] rfl HO.out.2 _ n cap (l.flatMap cvS) rfl (by rw [cvS_len, Nat.mul_one]; exact HM.out) (HO.out.1.cells rfl) (cvS_oneCell l) (by unfold maxLen; omega) (by omega) (by simp) ?_; intro v2 w4 hown2 hg2 hat2; have HX := Lib.hid (And.intro hown2 (((Below.refl w.heap.size w).alloc (Nat.le_refl _) (.cells #[] 9)).grown hg2 (by simp) (fun j hj => (HO.out.2.lt j hj).1))); clear hown2 hg2 hat2))
    go_ret
    have := HX.out.1
    rw [Nat.zero_add, List.nil_append] at this
    obtain ⟨A5, c5, rfl⟩ := own_form this
    refine ⟨A5, c5, by rw [HM.out]; rfl, ?_, HX.out.2⟩
    rw [HM.out]
    exact this

set_option maxHeartbeats 4000000 in
theorem index_any (A : Option Addr) (n c B : Nat) (l : List ByteArray) (s : ByteArray) (w : World) (hz : Ss w B A n l) (hn : n ≤ 1000) :
    Calls Tryz.prog 152 #[.slice A n c, .string s] w fun e w' => ∃ r : Int, e = .returned (.int .i64 r) ∧ (0 ≤ r ↔ s ∈ l) ∧ w' = w := by
  have HZ := Lib.hid hz
  clear hz
  go_enter Tryz.func152, Tryz.ntmps152
  go_wp2_with fail
  go_loopw [8] (fun i wx => ∃ k : Nat, k ≤ n ∧ i = .int .i64 k ∧ wx = w ∧ Hid (∀ j, j < k → l.getD j ByteArray.empty ≠ s)) (fun i _ => n - (intOf i).toNat)
  case atStart => exact ⟨0, Nat.zero_le _, rfl, rfl, fun j hj => by omega⟩
  case round =>
    obtain ⟨k, hk, rfl, hw, hH⟩ := hrel
    subst hw
    by_cases hlt : k < n
    · obtain ⟨b, off, rfl, hbB, d0⟩ := HZ.out.str k hlt
      obtain ⟨t, ht⟩ : ∃ t, t = l.getD k ByteArray.empty := ⟨_, rfl⟩
      rw [← ht] at d0
      have HT := Lib.hid ht
      have i1 : (0 : Int) ≤ (k : Int) := by omega
      have i2 : (k : Int) < (n : Int) := by omega
      clear ht
      by_cases h : s.toList = t.toList
      · have h2 := toList_inj h
        have HM := Lib.hid (show s ∈ l by
          have hk2 : k < l.length := by have := HZ.out.1; omega
          have e : l.getD k ByteArray.empty = l[k] := by simp [List.getD, hk2]
          rw [h2, HT.out, e]; exact List.getElem_mem hk2)
        subst h2
        clear h
        go_wp2
        go_ret
        exact ⟨k, by first | rfl | simp, ⟨fun _ => HM.out, fun _ => by omega⟩, rfl⟩
      · have h2 : (s.toList == t.toList) = false := by simpa using h
        have HN := Lib.hid (show t ≠ s from fun e => h (by rw [e]))
        clear h
        go_wp2
        go_roundw
        case rel => exact ⟨k + 1, by omega, by go_num, trivial, fun j hj => by
          by_cases e : j = k
          · rw [e, ← HT.out]; exact HN.out
          · exact hH.out j (by omega)⟩
        case measure => simp [intOf]; omega
    · obtain rfl : k = n := by omega
      have HN := Lib.hid (show s ∉ l from fun h => by
        obtain ⟨i, h1, h2⟩ := List.mem_iff_getElem.1 h
        exact hH.out i (by have := HZ.out.1; omega) (by simp [List.getD, h1, h2]))
      go_wp2
      go_ret
      exact ⟨-1, by first | rfl | simp, ⟨fun h => absurd h (by decide), fun h => absurd h HN.out⟩, rfl⟩

set_option maxHeartbeats 4000000 in
theorem contains_any (A : Option Addr) (n c B : Nat) (l : List ByteArray) (x : ByteArray) (w : World) (hz : Ss w B A n l) (hn : n ≤ 1000) :
    Calls Tryz.prog 127 #[.slice A n c, .string x] w fun e w' => ∃ q, e = .returned (.bool q) ∧ (q = true ↔ x ∈ l) ∧ w' = w := by
  have HZ := Lib.hid hz
  clear hz
  go_enter Tryz.func127, Tryz.ntmps127
  go_wp2_with fail
  refine (index_any A n c B l x _ HZ.out hn).mono ?_
  rintro e w1 ⟨r, rfl, hr, rfl⟩
  have HR := Lib.hid hr
  clear hr
  by_cases h : 0 ≤ r
  · go_wp2
    go_ret
    exact ⟨true, by first | rfl | simp [h], ⟨fun _ => HR.out.1 h, fun _ => rfl⟩, rfl⟩
  · have h2 : decide (0 ≤ r) = false := by simpa using h
    have HN := Lib.hid h
    clear h
    go_wp2
    go_ret
    exact ⟨false, by first | rfl | simp [h2], ⟨fun h => (by cases h), fun h => by have := HR.out.2 h; have := HN.out; omega⟩, rfl⟩
set_option maxHeartbeats 4000000 in
theorem has_any (A : Option Addr) (n c B : Nat) (l : List ByteArray) (x : ByteArray) (w : World) (hz : Ss w B A n l) (hn : n ≤ 1000) :
    Calls Tryz.prog 103 #[.slice A n c, .string x] w fun e w' => ∃ q, e = .returned (.bool q) ∧ (q = true ↔ x ∈ l) ∧ w' = w := by
  have HZ := Lib.hid hz
  clear hz
  go_enter Tryz.func103, Tryz.ntmps103
  go_wp2_with fail
  refine (contains_any A n c B l x _ HZ.out hn).mono ?_
  rintro e w1 ⟨q, rfl, hr, rfl⟩
  have HR := Lib.hid hr
  clear hr
  go_wp2
  go_ret
  exact ⟨q, rfl, HR.out, rfl⟩

end Go.Proofs.YtaalhglooipnaaaGreat
