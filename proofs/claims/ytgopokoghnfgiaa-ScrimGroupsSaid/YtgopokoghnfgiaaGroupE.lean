/-
  The walk over Of, of layer 25.
-/
import Derived.Test.YtgopokoghnfgiaaGroupD
import Derived.Test.YtgopokoghnfgiaaMatchGone
namespace Go.Proofs.Ytgopokoghnfgiaa
open Go.RowKit
attribute [local go_sem ↓] Go.wp_at_zero Go.wp_at_succ

/-- In the midst of Of. -/
structure Omid (base : Nat) (w wx : World) (R P M n g : Nat) (vL vT : Value) (nl nt : Nat) (xl xt : List Value) (f : ByteArray → Nat × Bool) (bs : List Value) : Prop where
  r : Blk wx R 49 #[.slice none 0 0, .slice none 0 0]
  p : Blk wx P 49 #[vL, vT]
  ne : R ≠ P
  rB : base ≤ R
  pB : base ≤ P
  mB : base ≤ M
  vl : wx.ownsRow base 3 1 vL nl xl
  vt : wx.ownsRow base 3 1 vT nt xt
  lt : vL.ownBlock = none ∨ vL.ownBlock ≠ vT.ownBlock
  tl : vT.ownBlock = none ∨ vT.ownBlock ≠ vL.ownBlock
  map : foundKit.Own wx M n f
  bl : wx.ownsRow base 4 1 (.slice (some ⟨g, 0, none⟩) n n) n bs
  wB : base ≤ w.heap.size
  below : Below base w wx
section
variable {base : Nat} {w wx wy wz : World} {R P M n g : Nat} {vL vT v' : Value} {nl nt : Nat} {xl xt : List Value} {f : ByteArray → Nat × Bool} {bs : List Value}
theorem Omid.keep (o : Omid base w wx R P M n g vL vT nl nt xl xt f bs) (hb : Below wx.heap.size wx wy) : Omid base w wy R P M n g vL vT nl nt xl xt f bs :=
  ⟨o.r.below hb o.r.lt, o.p.below hb o.p.lt, o.ne, o.rB, o.pB, o.mB, own_keep o.vl hb, own_keep o.vt hb, o.lt, o.tl, o.map.keep hb, own_keep o.bl hb, o.wB, o.below.trans (hb.mono (Nat.le_trans o.wB o.below.size))⟩
theorem Omid.alloc (o : Omid base w wx R P M n g vL vT nl nt xl xt f bs) (ob : Obj) : Omid base w (wx.alloc ob) R P M n g vL vT nl nt xl xt f bs := o.keep ((Below.refl _ _).alloc (Nat.le_refl _) ob)
theorem Omid.size (o : Omid base w wx R P M n g vL vT nl nt xl xt f bs) : base ≤ wx.heap.size := Nat.le_trans o.wB o.below.size
theorem Omid.turned {f' : ByteArray → Nat × Bool} (o : Omid base w wx R P M n g vL vT nl nt xl xt f bs) (hm : foundKit.Own wy M n f') (hg : wx.grownBy wy (some M)) : Omid base w wy R P M n g vL vT nl nt xl xt f' bs :=
  ⟨o.r.grown hg (by have := MapKit.blk_ne o.r o.map; simpa using this), o.p.grown hg (by have := MapKit.blk_ne o.p o.map; simpa using this), o.ne, o.rB, o.pB, o.mB,
    o.vl.kept hg (.inr (MapKit.own_ne o.vl o.map)), o.vt.kept hg (.inr (MapKit.own_ne o.vt o.map)), o.lt, o.tl, hm, o.bl.kept hg (.inr (MapKit.own_ne o.bl o.map)), o.wB, o.below.grown hg o.size (fun j hj => by cases hj; exact o.mB)⟩
theorem Omid.marked (o : Omid base w wx R P M n g vL vT nl nt xl xt f bs) (j : Nat) : Omid base w (wx.setCell ⟨g, j, none⟩ (.bool true)) R P M n g vL vT nl nt xl xt f (bs.set j (.bool true)) := by
  have hst := o.bl.stored j (.bool true)
  have hne : ∀ {t : TypeId} {cs : Array Value} {b : Nat}, 4 ≠ t → Blk wx b t cs → b ≠ g := fun ht hb e => own_blk_ne o.bl hb ht (by rw [e]; rfl)
  have hgB : base ≤ g := (o.bl.lt g rfl).1
  exact ⟨o.r.grown hst.2 (by have := hne (by decide) o.r; simpa using this), o.p.grown hst.2 (by have := hne (by decide) o.p; simpa using this), o.ne, o.rB, o.pB, o.mB,
    o.vl.kept hst.2 (own_own_ne o.vl o.bl (by decide)), o.vt.kept hst.2 (own_own_ne o.vt o.bl (by decide)), o.lt, o.tl, o.map.kept hst.2 (fun e => MapKit.own_ne o.bl o.map e.symm), hst.1, o.wB, o.below.setCell hgB _⟩
/-- One more is taken. -/
theorem Omid.took {x : Value} (o : Omid base w wx R P M n g vL vT nl nt xl xt f bs) (hown : wz.ownsRow base 3 1 v' (nt + 1) (xt ++ [x])) (hg : wx.grownBy wz vT.ownBlock) (hat : v'.ownBlock = vT.ownBlock ∨ ∀ b, v'.ownBlock = some b → wx.heap.size ≤ b) :
    wz.cell? ⟨P, 1, none⟩ = some vT ∧ wz.frozen? ⟨P, 1, none⟩ = false ∧ Omid base w (wz.setCell ⟨P, 1, none⟩ v') R P M n g vL v' nl (nt + 1) xl (xt ++ [x]) f bs := by
  have hP : Blk wz P 49 #[vL, vT] := o.p.grown hg (fun e => own_blk_ne o.vt o.p (by decide) e.symm)
  have hR : Blk wz R 49 #[.slice none 0 0, .slice none 0 0] := o.r.grown hg (fun e => own_blk_ne o.vt o.r (by decide) e.symm)
  have hL := o.vl.kept hg o.lt
  have hB := o.bl.kept hg (own_own_ne o.bl o.vt (by decide))
  have hM := o.map.kept hg (fun e => MapKit.own_ne o.vt o.map e.symm)
  have h2 : wz.grownBy (wz.setCell ⟨P, 1, none⟩ v') (some P) := only_set (World.grownBy.refl wz _) 1 _
  have hfar : (vL.ownBlock = none ∨ vL.ownBlock ≠ v'.ownBlock) ∧ (v'.ownBlock = none ∨ v'.ownBlock ≠ vL.ownBlock) := by
    rcases hat with hat | hat
    · rw [hat]; exact ⟨o.lt, o.tl⟩
    · have hlt := o.vl.lt
      constructor
      · cases hv : vL.ownBlock with
        | none => exact .inl rfl
        | some b => exact .inr fun e => by have := hat b e.symm; have := (hlt b hv).2; omega
      · cases hv : v'.ownBlock with
        | none => exact .inl rfl
        | some b => exact .inr fun e => by have := hat b hv; have := (hlt b e.symm).2; omega
  refine ⟨hP.cell 1, hP.frozen 1, hR.far (p := ⟨P, 1, none⟩) o.ne _, hP.set_ 1 _, o.ne, o.rB, o.pB, o.mB, hL.kept h2 (.inr (own_blk_ne hL hP (by decide))), hown.kept h2 (.inr (own_blk_ne hown hP (by decide))), hfar.1, hfar.2,
    hM.kept h2 (by have := MapKit.blk_ne hP hM; simp; omega), hB.kept h2 (.inr (own_blk_ne hB hP (by decide))), o.wB, (o.below.grown hg o.size (fun j hj => (o.vt.lt j hj).1)).setCell (p := ⟨P, 1, none⟩) o.pB _⟩
/-- One more is to leave. -/
theorem Omid.left {x : Value} (o : Omid base w wx R P M n g vL vT nl nt xl xt f bs) (hown : wz.ownsRow base 3 1 v' (nl + 1) (xl ++ [x])) (hg : wx.grownBy wz vL.ownBlock) (hat : v'.ownBlock = vL.ownBlock ∨ ∀ b, v'.ownBlock = some b → wx.heap.size ≤ b) :
    wz.cell? ⟨P, 0, none⟩ = some vL ∧ wz.frozen? ⟨P, 0, none⟩ = false ∧ Omid base w (wz.setCell ⟨P, 0, none⟩ v') R P M n g v' vT (nl + 1) nt (xl ++ [x]) xt f bs := by
  have hP : Blk wz P 49 #[vL, vT] := o.p.grown hg (fun e => own_blk_ne o.vl o.p (by decide) e.symm)
  have hR : Blk wz R 49 #[.slice none 0 0, .slice none 0 0] := o.r.grown hg (fun e => own_blk_ne o.vl o.r (by decide) e.symm)
  have hT := o.vt.kept hg o.tl
  have hB := o.bl.kept hg (own_own_ne o.bl o.vl (by decide))
  have hM := o.map.kept hg (fun e => MapKit.own_ne o.vl o.map e.symm)
  have h2 : wz.grownBy (wz.setCell ⟨P, 0, none⟩ v') (some P) := only_set (World.grownBy.refl wz _) 0 _
  have hfar : (v'.ownBlock = none ∨ v'.ownBlock ≠ vT.ownBlock) ∧ (vT.ownBlock = none ∨ vT.ownBlock ≠ v'.ownBlock) := by
    rcases hat with hat | hat
    · rw [hat]; exact ⟨o.lt, o.tl⟩
    · have hlt := o.vt.lt
      constructor
      · cases hv : v'.ownBlock with
        | none => exact .inl rfl
        | some b => exact .inr fun e => by have := hat b hv; have := (hlt b e.symm).2; omega
      · cases hv : vT.ownBlock with
        | none => exact .inl rfl
        | some b => exact .inr fun e => by have := hat b e.symm; have := (hlt b hv).2; omega
  refine ⟨hP.cell 0, hP.frozen 0, hR.far (p := ⟨P, 0, none⟩) o.ne _, hP.set_ 0 _, o.ne, o.rB, o.pB, o.mB, hown.kept h2 (.inr (own_blk_ne hown hP (by decide))), hT.kept h2 (.inr (own_blk_ne hT hP (by decide))), hfar.1, hfar.2,
    hM.kept h2 (by have := MapKit.blk_ne hP hM; simp; omega), hB.kept h2 (.inr (own_blk_ne hB hP (by decide))), o.wB, (o.below.grown hg o.size (fun j hj => (o.vl.lt j hj).1)).setCell (p := ⟨P, 0, none⟩) o.pB _⟩
/-- The plan as a result. -/
theorem Omid.fin (o : Omid base w wx R P M n g vL vT nl nt xl xt f bs) (hy : wy = (wx.setCell ⟨R, 0, none⟩ vL).setCell ⟨R, 1, none⟩ vT) :
    wy.cell? ⟨R, 0, none⟩ = some vL ∧ wy.cell? ⟨R, 1, none⟩ = some vT ∧ wy.ownsRow base 3 1 vL nl xl ∧ wy.ownsRow base 3 1 vT nt xt ∧ Below base w wy := by
  subst hy
  have h1 : wx.grownBy (wx.setCell ⟨R, 0, none⟩ vL) (some R) := only_set (World.grownBy.refl wx _) 0 _
  have h2 : wx.grownBy ((wx.setCell ⟨R, 0, none⟩ vL).setCell ⟨R, 1, none⟩ vT) (some R) := only_set h1 1 _
  have hb := (o.r.set_ 0 vL).set_ 1 vT
  exact ⟨hb.cell 0, hb.cell 1, o.vl.kept h2 (.inr (own_blk_ne o.vl o.r (by decide))), o.vt.kept h2 (.inr (own_blk_ne o.vt o.r (by decide))), (o.below.setCell (p := ⟨R, 0, none⟩) o.rB _).setCell (p := ⟨R, 1, none⟩) o.rB _⟩
end

/-- Keys that are to be there: each once, and short. -/
structure KS (keys : List ByteArray) : Prop where
  apart : ∀ i, i < keys.length → ∀ j, j < i → keys.getD j ByteArray.empty ≠ keys.getD i ByteArray.empty
  short : ∀ i, (keys.getD i ByteArray.empty).size ≤ 20
/-- Who is taken, key by key. -/
def takeL (ks : List Gk) (keys : List ByteArray) : List Int := keys.map fun s => ((bestTo ks ks.length s).1 : Nat) - 1
theorem takeL_len (ks : List Gk) (keys : List ByteArray) : (takeL ks keys).length = keys.length := by simp [takeL]
theorem takeL_at (ks : List Gk) (keys : List ByteArray) (k : Nat) (h : k < keys.length) : (takeL ks keys).getD k 0 = ((bestTo ks ks.length (keys.getD k ByteArray.empty)).1 : Nat) - 1 := by
  simp [takeL, List.getD, h]
def freeM (ks : List Gk) (keys : List ByteArray) : Nat → ByteArray → Nat × Bool
  | 0 => bestTo ks ks.length
  | k + 1 => if (bestTo ks ks.length (keys.getD k ByteArray.empty)).1 = 0 then freeM ks keys k else setF (freeM ks keys k) (keys.getD k ByteArray.empty) (0, false)
theorem freeM_new {ks : List Gk} {keys : List ByteArray} (h : KS keys) : ∀ k i, k ≤ i → i < keys.length → freeM ks keys k (keys.getD i ByteArray.empty) = bestTo ks ks.length (keys.getD i ByteArray.empty) := by
  intro k
  induction k with
  | zero => intro i _ _; rfl
  | succ k ih =>
    intro i h1 h2
    rw [freeM]
    split
    · exact ih i (by omega) h2
    · rw [setF_other _ _ (fun e => h.apart i h2 k (by omega) e.symm)]
      exact ih i (by omega) h2
theorem bestTo_le (ks : List Gk) (s : ByteArray) : ∀ k, (bestTo ks k s).1 ≤ k := by
  intro k
  induction k with
  | zero => exact Nat.le_refl _
  | succ k ih =>
    rw [bestTo, setF]
    split
    · exact Nat.le_refl _
    · omega
/-- Who leaves. -/
def leaveTo (ks : List Gk) (keys : List ByteArray) : Nat → List Int
  | 0 => []
  | k + 1 => if (!(ks.getD k gk0).2 && !(hadTo (takeL ks keys) k keys.length)) = true then leaveTo ks keys k ++ [(k : Int)] else leaveTo ks keys k
theorem leaveTo_len (ks : List Gk) (keys : List ByteArray) (k : Nat) : (leaveTo ks keys k).length ≤ k := by
  induction k with
  | zero => exact Nat.zero_le _
  | succ k ih =>
    rw [leaveTo]
    split
    · simp; exact ih
    · omega

theorem field_found (p : Int) (gh : Bool) (w : World) : (Instr.field 93 (.agg #[.int .i64 p, .bool gh]) 0).run Try.prog w = .ok (.int .i64 p) w := by kernel_rfl
attribute [local go_sem] field_found
/-- What Of leaves. -/
def OfPost (w : World) (ks : List Gk) (keys : List ByteArray) (e : Ending) (w' : World) : Prop :=
  ∃ A1 c1 A2 c2, e = .returned (.agg #[.slice A1 (leaveTo ks keys ks.length).length c1, .slice A2 keys.length c2]) ∧
    w'.ownsRow w.heap.size 3 1 (.slice A1 (leaveTo ks keys ks.length).length c1) (leaveTo ks keys ks.length).length (nums (leaveTo ks keys ks.length)) ∧
    w'.ownsRow w.heap.size 3 1 (.slice A2 keys.length c2) keys.length (nums (takeL ks keys)) ∧ Below w.heap.size w w'

set_option maxRecDepth 100000 in
set_option maxHeartbeats 16000000 in
theorem gof_any (A B : Option Addr) (n c m c' : Nat) (ks : List Gk) (keys : List ByteArray) (w : World) (hz : Gs w w.heap.size A n ks) (hz' : Ss w w.heap.size B m keys) (hn : n ≤ 800) (hm : m ≤ 800) (hk : KD ks) (hk' : KS keys) :
    Calls Try.prog 27 #[.slice A n c, .slice B m c'] w (OfPost w ks keys) := by
  obtain ⟨tr, hi, hz0, hz1, hz2⟩ := info_parts winfo
  obtain ⟨tb, hib, hb0, hb1, hb2⟩ := info_parts bool_info
  have HZ := Lib.hid (And.intro hz (And.intro hz' (And.intro hk hk')))
  clear hz hz' hk hk'
  go_enter Try.func27, Try.ntmps27
  go_upto_region 2 with fail
  have hR := (Blk.new w 49 #[.slice none 0 0, .slice none 0 0]).alloc (.cells #[.slice none 0 0, .slice none 0 0] 49)
  have hP := blk_new2 w (.cells #[.slice none 0 0, .slice none 0 0] 49) 49 #[.slice none 0 0, .slice none 0 0]
  have hb := ((Below.refl w.heap.size w).alloc (Nat.le_refl _) (.cells #[.slice none 0 0, .slice none 0 0] 49)).alloc (by simp) (.cells #[.slice none 0 0, .slice none 0 0] 49)
  obtain ⟨w0, hw0⟩ : ∃ w0, w0 = (w.alloc (.cells #[.slice none 0 0, .slice none 0 0] 49)).alloc (.cells #[.slice none 0 0, .slice none 0 0] 49) := ⟨_, rfl⟩
  obtain ⟨R, hRe⟩ : ∃ R, R = w.heap.size := ⟨_, rfl⟩
  obtain ⟨P, hPe⟩ : ∃ P, P = w.heap.size + 1 := ⟨_, rfl⟩
  rw [← hw0, ← hRe] at hR
  rw [← hw0, ← hPe] at hP
  rw [← hw0] at hb ⊢
  rw [← hPe, ← hRe]
  have HRP := Lib.hid (And.intro hRe hPe)
  have H0 := Lib.hid (And.intro hR (And.intro hP hb))
  clear hR hP hb hw0 hRe hPe
  go_wp2_with fail
  refine (best_any A n c ks _ (HZ.out.1.keep (by
    have := H0.out.2.2
    exact this)) (by omega) HZ.out.2.2.1).mono ?_
  rintro e w1 ⟨M, rfl, hM, hO, hb1'⟩
  have H1 := Lib.hid (And.intro (H0.out.1.below hb1' H0.out.1.lt) (And.intro (H0.out.2.1.below hb1' H0.out.2.1.lt) (And.intro hO (And.intro (H0.out.2.2.trans (hb1'.mono H0.out.2.2.size)) (show w.heap.size ≤ M from Nat.le_trans H0.out.2.2.size hM)))))
  clear hM hO hb1' H0
  go_wp2_with (first
    | (at_make; refine wpList_make_full _ rfl _ _ 35 rfl w1.heap.size 4 tb _ 1 Try.underlying35 hib hb0 hb1 _ _ _ _ n rfl rfl rfl rfl (by rw [hb2]; omega) (by unfold maxLen; omega) (Nat.le_refl _) ?_; intro w2 hown hg1))
  have e : (madeCells (Value.bool false).cells (n * 1)).toList = bls (hadL (takeL ks keys) n 0) := by
    rw [Nat.mul_one, hadL_zero]
    exact (toList_madeCells_one _ _).trans (by simp [bls])
  rw [e] at hown
  obtain ⟨g, hg⟩ : ∃ g, g = w1.heap.size := ⟨_, rfl⟩
  have hbm := below_of_only hg1 (Nat.le_refl w1.heap.size)
  rw [← hg] at hown ⊢
  have hOs : Omid w.heap.size w w2 R P M n g (.slice none 0 0) (.slice none 0 0) 0 0 [] (nums ((takeL ks keys).take 0)) (freeM ks keys 0) (bls (hadL (takeL ks keys) n 0)) :=
    ⟨H1.out.1.below hbm H1.out.1.lt, H1.out.2.1.below hbm H1.out.2.1.lt, by rw [HRP.out.1, HRP.out.2]; omega, by rw [HRP.out.1]; omega, by rw [HRP.out.2]; omega, H1.out.2.2.2.2, World.ownsRow_nil _ _ _ _, World.ownsRow_nil _ _ _ _, .inl rfl, .inl rfl,
      (by have h := H1.out.2.2.1.keep hbm; rw [← HZ.out.1.1] at h; rw [freeM, ← HZ.out.1.1]; exact h), own_base hown (by rw [hg]; exact H1.out.2.2.2.1.size), Nat.le_refl _, H1.out.2.2.2.1.trans (hbm.mono H1.out.2.2.2.1.size)⟩
  have HO := Lib.hid hOs
  clear e hown hg hg1 hbm hOs H1
  obtain ⟨T, hT⟩ : ∃ T, T = takeL ks keys := ⟨_, rfl⟩
  have hTl : T.length = m := by rw [hT, takeL_len]; exact HZ.out.2.1.1
  have HT := Lib.hid (And.intro hT hTl)
  rw [← hT] at HO
  clear hT hTl
  go_wp2_with fail
  go_loopw [20] (fun i wx => ∃ (k : Nat) (vT : Value), k ≤ m ∧ i = .int .i64 k ∧ Omid w.heap.size w wx R P M n g (.slice none 0 0) vT 0 k [] (nums (T.take k)) (freeM ks keys k) (bls (hadL T n k))) (fun i _ => m - (intOf i).toNat)
  case atStart => exact ⟨0, _, Nat.zero_le _, rfl, HO.out⟩
  case round =>
    obtain ⟨k, vT, hk, rfl, hO⟩ := hrel
    by_cases hlt : k < m
    · obtain ⟨b, off, rfl, hbB, d0⟩ := HZ.out.2.1.str k hlt
      replace d0 := (hO.below.cell (p := ⟨b, off + k, none⟩) hbB).trans d0
      have hsz := HZ.out.2.2.2.short k
      have hlk := hO.map.look (keys.getD k ByteArray.empty) hsz
      rw [freeM_new HZ.out.2.2.2 k k (Nat.le_refl _) (by have := HZ.out.2.1.1; omega)] at hlk
      have HTK := Lib.hid (take_snoc T 0 k (by have := HT.out.2; omega))
      have HTA := Lib.hid (show T.getD k 0 = _ by rw [HT.out.1, takeL_at ks keys k (by have := HZ.out.2.1.1; omega)])
      have HFM := Lib.hid (show freeM ks keys (k + 1) = if (bestTo ks ks.length (keys.getD k ByteArray.empty)).1 = 0 then freeM ks keys k else setF (freeM ks keys k) (keys.getD k ByteArray.empty) (0, false) from rfl)
      have hle := bestTo_le ks (keys.getD k ByteArray.empty) ks.length
      rw [HZ.out.1.1] at hle hlk HTA HFM
      obtain ⟨s, hs⟩ : ∃ s, s = keys.getD k ByteArray.empty := ⟨_, rfl⟩
      rw [← hs] at d0 hsz hlk HTA HFM hle
      obtain ⟨⟨p, gh⟩, hp⟩ : ∃ z, z = bestTo ks n s := ⟨_, rfl⟩
      rw [← hp] at hlk HTA HFM hle
      simp only [foundKit] at hlk
      simp only at HTA HFM hle
      have hlk2 : (Instr.lookup 90 (.map (some M)) (.string s) false).run Try.prog wr = .ok (.agg #[.int .i64 (p : Nat), .bool gh]) wr := hlk
      have i1 : (0 : Int) ≤ (k : Int) := by omega
      have i2 : (k : Int) < (m : Int) := by omega
      have HOO := Lib.hid hO
      have HSZ := Lib.hid hsz
      clear hs hp hlk hO HO hsz
      by_cases h0 : p = 0
      · have HTK2 := Lib.hid (show nums (T.take (k + 1)) = nums (T.take k) ++ [.int .i64 (-1)] by rw [HTK.out, HTA.out, h0]; simp [nums])
        have HHL := Lib.hid (hadL_neg T n k (by have := HT.out.2; omega) (by rw [HTA.out, h0]; rfl))
        have HFM2 := Lib.hid (show freeM ks keys (k + 1) = freeM ks keys k by rw [HFM.out, if_pos h0])
        have p1 : wr.cell? ⟨P, 1, none⟩ = some vT := HOO.out.p.cell 1
        subst h0
        go_wp2_with (first
          | (at_builtin; refine wpList_append_lies _ rfl _ _ _ rfl w.heap.size 3 tr _ 1 8 Try.underlying30 hi hz0 hz1 hz2 rfl (by decide) vT k (nums (T.take k)) rfl (HOO.out.alloc _).vt _ 1 1 [.int .i64 (-1)] rfl rfl (World.news_of_block (heap_alloc_new _ _)) (by intro u hu; simp at hu; subst hu; rfl) (by omega) (by unfold maxLen; omega) (by omega) (by have := HOO.out.size; simp; omega) _ rfl ?_; intro g2 cap2 w4 hown2 hg2 hat2 hlt2; obtain ⟨z0, z1, hO4⟩ := (HOO.out.alloc (.cells #[.int .i64 (-1)] 3)).took hown2 hg2 (by rcases hat2 with h | h; exact .inl (by rw [h]; rfl); exact .inr (fun b hb => by injection hb with hb; rw [← hb, h]; simp)); have HX := Lib.hid hO4; clear hown2 hg2 hat2 hlt2 hO4))
        go_roundw
        case rel => exact ⟨k + 1, _, by omega, by go_num, by rw [HTK2.out, HHL.out, HFM2.out]; exact HX.out⟩
        case measure => simp [intOf]; omega
      · obtain ⟨j, rfl⟩ : ∃ j, p = j + 1 := ⟨p - 1, by omega⟩
        have HTK2 := Lib.hid (show nums (T.take (k + 1)) = nums (T.take k) ++ [.int .i64 (j : Nat)] by rw [HTK.out, HTA.out]; simp [nums])
        have HHL := Lib.hid (hadL_set T n k j (by have := HT.out.2; omega) (by rw [HTA.out]; omega))
        have HFM2 := Lib.hid (show freeM ks keys (k + 1) = setF (freeM ks keys k) s (0, false) by rw [HFM.out, if_neg h0])
        have y0 := HOO.out.bl.cells (g := g) rfl j _ (hadL_at T n k j (by omega))
        have y1 := HOO.out.bl.frozenAt (g := g) j
        rw [Addr.add_lit, Nat.zero_add] at y0
        have hmk := HOO.out.marked j
        obtain ⟨wx, hwx⟩ : ∃ wx, wx = wr.setCell ⟨g, j, none⟩ (.bool true) := ⟨_, rfl⟩
        rw [← hwx] at hmk
        obtain ⟨wy, hdel, hmap, hgd⟩ := hmk.map.delete s HSZ.out 0
        have hO3 := hmk.turned hmap hgd
        simp only [foundKit] at hdel
        rw [hwx] at hdel
        have hdel2 : (Builtin.delete_ #[90, 9] 0 #[.map (some M), .string s]).run Try.prog (wr.setCell ⟨g, j, none⟩ (.bool true)) = .ok (.tuple #[]) wy := hdel
        rw [← HHL.out] at hO3
        have j0 : (((j + 1 : Nat) : Int) - 1 != -1) = true := by simp
        have j1 : ((j + 1 : Nat) : Int) - 1 = (j : Int) := by omega
        have j2 : (0 : Int) ≤ (j : Int) := by omega
        have j3 : (j : Int) < (n : Int) := by omega
        have HPrev := HOO
        replace HOO := Lib.hid hO3
        have p1 : wy.cell? ⟨P, 1, none⟩ = some vT := hO3.p.cell 1
        clear hmk hwx hdel hmap hgd hO3 h0
        go_wp2_with (first
          | (at_builtin; refine wpList_append_lies _ rfl _ _ _ rfl w.heap.size 3 tr _ 1 8 Try.underlying30 hi hz0 hz1 hz2 rfl (by decide) vT k (nums (T.take k)) rfl (HOO.out.alloc _).vt _ 1 1 [.int .i64 (j : Nat)] rfl rfl (World.news_of_block (heap_alloc_new _ _)) (by intro u hu; simp at hu; subst hu; rfl) (by omega) (by unfold maxLen; omega) (by omega) (by have := HOO.out.size; simp; omega) _ rfl ?_; intro g2 cap2 w4 hown2 hg2 hat2 hlt2; obtain ⟨z0, z1, hO4⟩ := (HOO.out.alloc (.cells #[.int .i64 (j : Nat)] 3)).took hown2 hg2 (by rcases hat2 with h | h; exact .inl (by rw [h]; rfl); exact .inr (fun b hb => by injection hb with hb; rw [← hb, h]; simp)); have HX := Lib.hid hO4; clear hown2 hg2 hat2 hlt2 hO4))
        go_roundw
        case rel => exact ⟨k + 1, _, by omega, by go_num, by rw [HTK2.out, HFM2.out]; exact HX.out⟩
        case measure => simp [intOf]; omega
    · obtain rfl : k = m := by omega
      have HTE := Lib.hid (show T.take k = T from List.take_of_length_le (by have := HT.out.2; omega))
      rw [HTE.out] at hO
      obtain ⟨A2, c2, hv⟩ := own_form hO.vt
      subst hv
      have HP0 := Lib.hid hO
      clear hO HO hlt
      go_wp2_with fail
      go_loopw [45] (fun i wx => ∃ (r : Nat) (vL : Value), r ≤ n ∧ i = .int .i64 r ∧ Omid w.heap.size w wx R P M n g vL (.slice A2 k c2) (leaveTo ks keys r).length k (nums (leaveTo ks keys r)) (nums T) (freeM ks keys k) (bls (hadL T n k))) (fun i _ => n - (intOf i).toNat)
      case atStart => exact ⟨0, _, Nat.zero_le _, rfl, HP0.out⟩
      case round =>
        obtain ⟨r, vL, hr, rfl, hO⟩ := hrel
        by_cases hlr : r < n
        · obtain ⟨b, off, rfl, hbB, d0, d1⟩ := HZ.out.1.gk r hlr
          replace d0 := (hO.below.cell (p := ⟨b, off + r * 2, none⟩) hbB).trans d0
          replace d1 := (hO.below.cell (p := ⟨b, off + r * 2 + 1, none⟩) hbB).trans d1
          have HLT := Lib.hid (show leaveTo ks keys (r + 1) = if (!(ks.getD r gk0).2 && !(hadTo (takeL ks keys) r keys.length)) = true then leaveTo ks keys r ++ [(r : Int)] else leaveTo ks keys r from rfl)
          rw [← HT.out.1, HZ.out.2.1.1] at HLT
          obtain ⟨⟨s, gh⟩, hst⟩ : ∃ p, p = ks.getD r gk0 := ⟨_, rfl⟩
          obtain ⟨q, hq⟩ : ∃ q, q = hadTo T r k := ⟨_, rfl⟩
          obtain ⟨o, ho⟩ : ∃ o, o = leaveTo ks keys r := ⟨_, rfl⟩
          have hol : o.length ≤ r := by rw [ho]; exact leaveTo_len ks keys r
          have y0 := hO.bl.cells (g := g) rfl r _ (hadL_at T n k r hlr)
          rw [Addr.add_lit, Nat.zero_add, ← hq] at y0
          rw [← hst] at d0 d1 HLT
          rw [← hq, ← ho] at HLT
          rw [← ho] at hO
          simp only at d0 d1 HLT
          have i1 : (0 : Int) ≤ (r : Int) := by omega
          have i2 : (r : Int) < (n : Int) := by omega
          have hbX := Blk.new wr 52 #[.string s, .bool gh]
          have hO1 := hO.alloc (.cells #[.string s, .bool gh] 52)
          have y2 := ((Below.refl wr.heap.size wr).alloc (Nat.le_refl _) (.cells #[.string s, .bool gh] 52)).cell (p := ⟨g, r, none⟩) (World.block_lt_of_cell? _ _ y0) |>.trans y0
          clear hst hq ho hO HP0
          go_upto_region 16 with fail
          obtain ⟨wo, hwo⟩ : ∃ wo, wo = wr.alloc (.cells #[.string s, .bool gh] 52) := ⟨_, rfl⟩
          obtain ⟨X, hX⟩ : ∃ X, X = wr.heap.size := ⟨_, rfl⟩
          rw [← hwo] at hbX hO1 y2 ⊢
          rw [← hX] at hbX ⊢
          have x1 : wo.cell? ⟨X, 1, none⟩ = some (.bool gh) := hbX.cell 1
          have p0 : wo.cell? ⟨P, 0, none⟩ = some vL := hO1.p.cell 0
          have HOO := Lib.hid hO1
          clear hwo hX hbX hO1 d0 d1 y0
          cases gh
          · cases q
            · have HLT2 := Lib.hid (show leaveTo ks keys (r + 1) = o ++ [(r : Int)] by rw [HLT.out]; rfl)
              go_wp2_with (first
                | (at_builtin; refine wpList_append_lies _ rfl _ _ _ rfl w.heap.size 3 tr _ 1 8 Try.underlying30 hi hz0 hz1 hz2 rfl (by decide) vL o.length (nums o) rfl (HOO.out.alloc _).vl _ 1 1 [.int .i64 (r : Nat)] rfl rfl (World.news_of_block (heap_alloc_new _ _)) (by intro u hu; simp at hu; subst hu; rfl) (by omega) (by unfold maxLen; omega) (by omega) (by have := HOO.out.size; simp; omega) _ rfl ?_; intro g2 cap2 w4 hown2 hg2 hat2 hlt2; obtain ⟨z0, z1, hO4⟩ := (HOO.out.alloc (.cells #[.int .i64 (r : Nat)] 3)).left hown2 hg2 (by rcases hat2 with h | h; exact .inl (by rw [h]; rfl); exact .inr (fun b hb => by injection hb with hb; rw [← hb, h]; simp)); have HX := Lib.hid hO4; clear hown2 hg2 hat2 hlt2 hO4))
              go_roundw
              case rel => exact ⟨r + 1, _, by omega, by go_num, by rw [HLT2.out, nums_snoc, List.length_append]; exact HX.out⟩
              case measure => simp [intOf]; omega
            · have HLT2 := Lib.hid (show leaveTo ks keys (r + 1) = o by rw [HLT.out]; rfl)
              go_wp2
              go_roundw
              case rel => exact ⟨r + 1, _, by omega, by go_num, by rw [HLT2.out]; exact HOO.out⟩
              case measure => simp [intOf]; omega
          · have HLT2 := Lib.hid (show leaveTo ks keys (r + 1) = o by rw [HLT.out]; rfl)
            go_wp2
            go_roundw
            case rel => exact ⟨r + 1, _, by omega, by go_num, by rw [HLT2.out]; exact HOO.out⟩
            case measure => simp [intOf]; omega
        · obtain rfl : r = n := by omega
          have HE := Lib.hid (And.intro HZ.out.1.1 HZ.out.2.1.1)
          obtain ⟨A1, c1, hv⟩ := own_form hO.vl
          subst hv
          have p0 : wr.cell? ⟨P, 0, none⟩ = _ := hO.p.cell 0
          have p1 : wr.cell? ⟨P, 1, none⟩ = _ := hO.p.cell 1
          have r0 : wr.cell? ⟨R, 0, none⟩ = _ := hO.r.cell 0
          have r1 : wr.cell? ⟨R, 1, none⟩ = _ := hO.r.cell 1
          have f0 : wr.frozen? ⟨R, 0, none⟩ = false := hO.r.frozen 0
          have f1 : wr.frozen? ⟨R, 1, none⟩ = false := hO.r.frozen 1
          have HOO := Lib.hid hO
          clear hO HP0
          go_wp2
          generalize hwy : (wr.setCell ⟨R, 0, none⟩ _).setCell ⟨R, 1, none⟩ _ = wy
          obtain ⟨q0, q1, q2, q3, q4⟩ := HOO.out.fin hwy.symm
          clear hwy p0 p1 r0 r1 f0 f1
          refine bodyPost_ret (v := .agg #[.slice A1 (leaveTo ks keys r).length c1, .slice A2 k c2]) (by simp [results, Try.results27, go_sem, q0, q1]) rfl ?_
          refine ⟨A1, c1, A2, c2, by rw [HE.out.1, HE.out.2], by rw [HE.out.1]; exact q2, by rw [HE.out.2, ← HT.out.1]; exact q3, q4⟩

end Go.Proofs.Ytgopokoghnfgiaa
