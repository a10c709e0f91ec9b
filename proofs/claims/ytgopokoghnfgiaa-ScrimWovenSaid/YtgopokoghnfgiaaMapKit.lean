/-
  Maps that a call itself makes, of whatever keys and elements: one bundle.
-/
import Derived.Test.YtgopokoghnfgiaaLists
import Derived.Maps.Own
import Derived.Maps.OwnOps
import Derived.Maps.Views
import Derived.DeepKeys4
namespace Go.Proofs.Ytgopokoghnfgiaa
open Go.RowKit Go.Maps Go.WideMaps

/-- What is to be known of a map's type, its keys, its elements. -/
structure MapKit (κ V : Type) where
  k : TypeId
  e : TypeId
  t : TypeId
  und : Try.prog.underlying t = some (.map k e)
  law : Keyed Try.prog k
  kv : κ → Value
  kl : κ → Lit
  okk : κ → Prop
  hkey : ∀ x, okk x → keyOf Try.prog k (kv x) = some (kl x)
  inj : ∀ x y, okk x → okk y → kl x = kl y → x = y
  R : Value → Option (DataW Unit × List MemPlace)
  code : V → DataW Unit
  vv : V → Value
  okv : V → Prop
  hR : ∀ v, okv v → R (vv v) = some (code v, [])
  hinv : ∀ v u ps, okv u → R v = some (code u, ps) → v = vv u
  z : V
  okz : okv z
  zero : ∀ w, (zeroValue e).run Try.prog w = .ok (vv z) w

section
variable {κ V : Type} (K : MapKit κ V)
/-- Block M is a map that reads as f. -/
def MapKit.Own (w : World) (M n : Nat) (f : κ → V) : Prop :=
  ∃ D : DataW Unit, w.ownsMap Try.prog K.k K.R M n D ∧ ∀ x, K.okk x → K.okv (f x) ∧ D.atKey (K.kl x) (K.code K.z) = K.code (f x)
variable {K} {w w' : World} {M n : Nat} {f : κ → V}
theorem MapKit.isMap {D : DataW Unit} {k : TypeId} {R : Value → Option (DataW Unit × List MemPlace)} (h : w.ownsMap Try.prog k R M n D) : IsMap D := by
  obtain ⟨es, c, _, _, _, rfl⟩ := h
  exact ⟨_, rfl⟩
theorem MapKit.Own.lt (h : K.Own w M n f) : M < w.heap.size := by
  obtain ⟨D, h, _⟩ := h
  exact World.ownsMap.lt h
theorem MapKit.made (K : MapKit κ V) (w : World) : K.Own (w.alloc (.map #[] 0)) w.heap.size 0 fun _ => K.z :=
  ⟨.map [], World.ownsMap_made w _ _ _, fun x _ => ⟨K.okz, atKey_of_not_has (by rfl) _⟩⟩
theorem MapKit.Own.kept {row : Option Nat} (h : K.Own w M n f) (hg : w.grownBy w' row) (hne : some M ≠ row) : K.Own w' M n f := by
  obtain ⟨D, h1, h2⟩ := h
  exact ⟨D, World.ownsMap.kept h1 hg hne, h2⟩
theorem MapKit.Own.keep (h : K.Own w M n f) (hb : Below w.heap.size w w') : K.Own w' M n f := h.kept (only_of_below hb none) (by simp)
theorem MapKit.Own.mono (h : K.Own w M n f) {m : Nat} (hm : n ≤ m) : K.Own w M m f := by
  obtain ⟨D, h1, h2⟩ := h
  exact ⟨D, World.ownsMap.mono h1 hm, h2⟩
theorem MapKit.Own.okv (h : K.Own w M n f) (x : κ) (hx : K.okk x) : K.okv (f x) := by
  obtain ⟨D, h1, h2⟩ := h
  exact (h2 x hx).1
theorem MapKit.Own.look (h : K.Own w M n f) (x : κ) (hx : K.okk x) : (Instr.lookup K.t (.map (some M)) (K.kv x) false).run Try.prog w = .ok (K.vv (f x)) w := by
  obtain ⟨D, h1, h2⟩ := h
  obtain ⟨v, ps, hrun, hv⟩ := World.ownsMap.lookup h1 K.law K.und (K.zero w) (K.hR K.z K.okz) (K.hkey x hx)
  rw [(h2 x hx).2] at hv
  rw [hrun, K.hinv _ _ _ (h2 x hx).1 hv]
/-- At one key another element. -/
def setF [DecidableEq κ] (f : κ → V) (x : κ) (v : V) : κ → V := fun y => if y = x then v else f y
theorem setF_same [DecidableEq κ] (f : κ → V) (x : κ) (v : V) : setF f x v x = v := if_pos rfl
theorem setF_other [DecidableEq κ] (f : κ → V) {x y : κ} (v : V) (h : y ≠ x) : setF f x v y = f y := if_neg h
theorem MapKit.Own.update [DecidableEq κ] (h : K.Own w M n f) (x : κ) (hx : K.okk x) (hn : n < maxLen) (v : V) (hv : K.okv v) :
    ∃ w', (Instr.mapUpdate K.t (.map (some M)) (K.kv x) (K.vv v)).run Try.prog w = .ok () w' ∧ K.Own w' M (n + 1) (setF f x v) ∧ w.grownBy w' (some M) := by
  obtain ⟨D, h1, h2⟩ := h
  obtain ⟨w', hrun, h3, h4⟩ := World.ownsMap.update h1 K.law K.und hn (K.hkey x hx) (K.hR v hv)
  refine ⟨w', hrun, ⟨_, h3, fun y hy => ?_⟩, h4⟩
  by_cases e : y = x
  · subst e
    rw [setF_same, atKey_put_same (MapKit.isMap h1) (K.law.key (K.hkey y hy))]
    exact ⟨hv, rfl⟩
  · rw [setF_other _ _ e, atKey_put_other (fun e2 => e (K.inj y x hy hx e2))]
    exact h2 y hy
theorem MapKit.blk_ne {t : TypeId} {cs : Array Value} {g : Nat} (h : Blk w g t cs) (hM : K.Own w M n f) : g ≠ M := by
  rintro rfl
  obtain ⟨D, ⟨es, c, h1, _⟩, _⟩ := hM
  unfold Blk at h
  rw [h] at h1
  cases h1
theorem MapKit.own_ne {base : Nat} {e : TypeId} {size m : Nat} {v : Value} {xs : List Value} (h : w.ownsRow base e size v m xs) (hM : K.Own w M n f) : v.ownBlock ≠ some M := by
  rcases h.2 with ⟨rfl, _⟩ | ⟨g', cap, cur, rfl, _, hh, _⟩
  · simp [Value.ownBlock]
  · intro he
    have : g' = M := by simpa [Value.ownBlock] using he
    subst this
    obtain ⟨D, ⟨es, c, h1, _⟩, _⟩ := hM
    rw [hh] at h1
    cases h1
end

/-! ### map[int]int -/
theorem kl_int_inj (x y : Int) (h : Lit.int .i64 x = Lit.int .i64 y) : x = y := by injection h
theorem wf_small0 (n : Nat) (h : n ≤ 1000) : (Lit.int .i64 (n : Nat)).wf = true := by
  simp only [Lit.wf, Bool.and_eq_true, decide_eq_true_eq]
  exact ⟨by simp [IntKind.min, IntKind.bits, IntKind.signed], by simp [IntKind.max, IntKind.bits, IntKind.signed]; omega⟩
noncomputable def intKit : MapKit Int Nat where
  k := 3
  e := 3
  t := 78
  und := Try.underlying78
  law := int_keyed Try.underlying3
  kv x := .int .i64 x
  kl x := .int .i64 x
  okk x := (Lit.int .i64 x).wf = true
  hkey x h := keyOf_int_mk Try.underlying3 h
  inj x y _ _ h := kl_int_inj x y h
  R := plainElem Try.prog 3
  code v := .lit (.int .i64 (v : Nat))
  vv v := .int .i64 (v : Nat)
  okv v := v ≤ 1000
  hR v h := plainElem_int Try.underlying3 (wf_small0 v h)
  hinv v u ps _ h := by
    obtain ⟨a, h1, h2, _⟩ := plainElem_int_inv Try.underlying3 h
    simp only [Prod.mk.injEq, DataW.lit.injEq, Lit.int.injEq, true_and] at h2
    rw [h1, ← h2.1]
  z := 0
  okz := by omega
  zero w := by kernel_rfl

theorem run_makeMap_hint (n : Int) (w : World) : (Instr.makeMap 78 (some (.int .i64 n))).run Try.prog w = .ok (.map (some w.heap.size)) (w.alloc (.map #[] 0)) := by
  simp [Instr.makeMap, run_underlying Try.underlying78]
  rfl

end Go.Proofs.Ytgopokoghnfgiaa
