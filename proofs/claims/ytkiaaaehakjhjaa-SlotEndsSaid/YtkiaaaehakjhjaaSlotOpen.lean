/-
  Arguments that are opened: lists of kids.
-/
import Derived.Test.YtkiaaaehakjhjaaOwnC
namespace Go.Proofs.Ytkiaaaehakjhjaa
open Go.ChangeShapes Go.WideShapes Go.ChangeAt Go.RowKit

theorem own_kids {w wx : World} {ks : List Kid} {A B : Option Addr} {a b : Nat} (h : Ow w wx (.slice A ks.length a) (.slice B ks.length b) ks.length (flatK ks)) : Kids wx wx.heap.size A ks.length ks ∧ Kids wx wx.heap.size B ks.length ks :=
  ⟨Kids.of_own h.a rfl, Kids.of_own h.b rfl⟩

/-- A list of kids that came in. -/
theorem kids_open {H : Type} {enc : TypeId × Value → H} {W : World} {base : Nat} {v : Value} {d : DataW H} {p : List MemPlace} (hv : Value.okWide Try.prog W .any base 22 v)
    (h : DataW.Trod enc Try.prog W 0 (fun _ => true) true 22 v d p) : ∃ A n c ks, v = .slice A n c ∧ n ≤ c ∧ c ≤ maxLen ∧ Kids W W.heap.size A n ks := by
  obtain ⟨a0, len, cap, rfl⟩ := okWide_slice Try.underlying22 hv
  obtain ⟨fuel, hf⟩ := h
  exact kids_arg hf

end Go.Proofs.Ytkiaaaehakjhjaa
