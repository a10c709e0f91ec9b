/-
  The walk over ScrimTurns (written by gen_turnq.py).
-/
import Derived.Test.YtjedjplpbgnpmaaTurnT
namespace Go.Proofs.Ytjedjplpbgnpmaa
open Go.ChangeShapes Go.WideShapes Go.ChangeAt Go.RowKit
attribute [local go_sem ↓] Go.wp_at_zero Go.wp_at_succ

theorem rd_one {α : Type} (cv : α → List Value) (d : α) (sz : Nat) (w : World) (t : TypeId) (x : α) (_h : (cv x).length = sz) : Rd cv d sz (w.alloc (.cells (cv x).toArray t)) (w.alloc (.cells (cv x).toArray t)).heap.size (some ⟨w.heap.size, 0, none⟩) 1 [x] := by
  refine ⟨rfl, fun k hk => ?_⟩
  obtain rfl : k = 0 := by omega
  refine ⟨_, 0, rfl, by simp, fun j hj => ?_⟩
  have := (Blk.new w t (cv x).toArray).cell j
  rw [show 0 + 0 * sz + j = j by omega, this]
  simp

def V3 (B : Nat) (A0 A1 A2 : Option Addr) (n0 n1 n2 c0 c1 c2 : Nat) (l0 l1 l2 : List ByteArray) : Nat → Value → World → Prop
  | 0, v, _ => v = .pointer (some ⟨B, 0, none⟩)
  | 1, v, _ => v = .slice A0 n0 c0
  | 2, v, w => OwnS B (fewS 8 l0) v w
  | 3, v, _ => v = .pointer (some ⟨B + 1, 0, none⟩)
  | 4, v, _ => v = .slice A1 n1 c1
  | 5, v, w => OwnS B (fewS 8 l1) v w
  | 6, v, _ => v = .pointer (some ⟨B + 1 + 1, 0, none⟩)
  | 7, v, _ => v = .slice A2 n2 c2
  | 8, v, w => OwnS B (fewS 8 l2) v w
  | 9, v, w => Row3 B 22 (fun j => OwnS B (fewS 8 (match j with | 0 => l0 | 1 => l1 | _ => l2))) v w
  | 10, v, w => Row3 B 22 (fun j => OwnS B (fewS 8 (match j with | 0 => l0 | 1 => l1 | _ => l2))) v w
  | _, _, _ => True
theorem V3_keep (B : Nat) (A0 A1 A2 : Option Addr) (n0 n1 n2 c0 c1 c2 : Nat) (l0 l1 l2 : List ByteArray) (j : Nat) (v : Value) (w w' : World) (h : V3 B A0 A1 A2 n0 n1 n2 c0 c1 c2 l0 l1 l2 j v w) (hb : Below w.heap.size w w') : V3 B A0 A1 A2 n0 n1 n2 c0 c1 c2 l0 l1 l2 j v w' := by
  match j with
  | 0 => exact h
  | 1 => exact h
  | 2 => exact OwnS.keep h hb
  | 3 => exact h
  | 4 => exact h
  | 5 => exact OwnS.keep h hb
  | 6 => exact h
  | 7 => exact h
  | 8 => exact OwnS.keep h hb
  | 9 => exact Row3.keep (O := (fun j => OwnS B (fewS 8 (match j with | 0 => l0 | 1 => l1 | _ => l2)))) (fun _ _ _ _ h hb => OwnS.keep h hb) h hb
  | 10 => exact Row3.keep (O := (fun j => OwnS B (fewS 8 (match j with | 0 => l0 | 1 => l1 | _ => l2)))) (fun _ _ _ _ h hb => OwnS.keep h hb) h hb
  | _ + 11 => trivial
def V4 (B : Nat) (D0 D1 D2 : Option Addr) (m0 m1 m2 e0 e1 e2 : Nat) (p0 p1 p2 : List Pr) : Nat → Value → World → Prop
  | 0, v, _ => v = .pointer (some ⟨B, 1, none⟩)
  | 1, v, _ => v = .slice D0 m0 e0
  | 2, v, w => OwnR B (fewP 8 p0) v w
  | 3, v, w => OwnP B (fewP 8 p0) v w
  | 4, v, w => OwnP B (ofS (fewP 8 p0)) v w
  | 5, v, _ => v = .pointer (some ⟨B + 1, 1, none⟩)
  | 6, v, _ => v = .slice D1 m1 e1
  | 7, v, w => OwnR B (fewP 8 p1) v w
  | 8, v, w => OwnP B (fewP 8 p1) v w
  | 9, v, w => OwnP B (ofS (fewP 8 p1)) v w
  | 10, v, _ => v = .pointer (some ⟨B + 1 + 1, 1, none⟩)
  | 11, v, _ => v = .slice D2 m2 e2
  | 12, v, w => OwnR B (fewP 8 p2) v w
  | 13, v, w => OwnP B (fewP 8 p2) v w
  | 14, v, w => OwnP B (ofS (fewP 8 p2)) v w
  | 15, v, w => Row3 B 31 (fun j => OwnP B (ofS (fewP 8 (match j with | 0 => p0 | 1 => p1 | _ => p2)))) v w
  | 16, v, w => Row3 B 31 (fun j => OwnP B (ofS (fewP 8 (match j with | 0 => p0 | 1 => p1 | _ => p2)))) v w
  | _, _, _ => True
theorem V4_keep (B : Nat) (D0 D1 D2 : Option Addr) (m0 m1 m2 e0 e1 e2 : Nat) (p0 p1 p2 : List Pr) (j : Nat) (v : Value) (w w' : World) (h : V4 B D0 D1 D2 m0 m1 m2 e0 e1 e2 p0 p1 p2 j v w) (hb : Below w.heap.size w w') : V4 B D0 D1 D2 m0 m1 m2 e0 e1 e2 p0 p1 p2 j v w' := by
  match j with
  | 0 => exact h
  | 1 => exact h
  | 2 => exact OwnR.keep h hb
  | 3 => exact OwnP.keep h hb
  | 4 => exact OwnP.keep h hb
  | 5 => exact h
  | 6 => exact h
  | 7 => exact OwnR.keep h hb
  | 8 => exact OwnP.keep h hb
  | 9 => exact OwnP.keep h hb
  | 10 => exact h
  | 11 => exact h
  | 12 => exact OwnR.keep h hb
  | 13 => exact OwnP.keep h hb
  | 14 => exact OwnP.keep h hb
  | 15 => exact Row3.keep (O := (fun j => OwnP B (ofS (fewP 8 (match j with | 0 => p0 | 1 => p1 | _ => p2))))) (fun _ _ _ _ h hb => OwnP.keep h hb) h hb
  | 16 => exact Row3.keep (O := (fun j => OwnP B (ofS (fewP 8 (match j with | 0 => p0 | 1 => p1 | _ => p2))))) (fun _ _ _ _ h hb => OwnP.keep h hb) h hb
  | _ + 17 => trivial
def V5 (B g : Nat) (f0 f1 : List ByteArray) : Nat → Value → World → Prop
  | 0, v, _ => v = .slice (some ⟨g, 0, none⟩) 3 3
  | 1, v, _ => v = .pointer (some ⟨g, 0, none⟩)
  | 2, v, w => OwnS B f0 v w
  | 3, v, _ => v = .slice (some ⟨g, 0, none⟩) 3 3
  | 4, v, _ => v = .pointer (some ⟨g, 1, none⟩)
  | 5, v, w => OwnS B f1 v w
  | 6, v, w => OwnT B (turnS f0 f1) v w
  | 7, v, _ => v = .slice (some ⟨g, 0, none⟩) 3 3
  | 8, v, _ => v = .pointer (some ⟨g, 1, none⟩)
  | 9, v, w => OwnS B f1 v w
  | 10, v, _ => v = .slice (some ⟨g, 0, none⟩) 3 3
  | 11, v, _ => v = .pointer (some ⟨g, 0, none⟩)
  | 12, v, w => OwnS B f0 v w
  | 13, v, w => OwnT B (turnS f1 f0) v w
  | 14, v, w => OwnT B (turnS f0 f1) v w
  | 15, v, w => OwnT B (turnS f1 f0) v w
  | _, _, _ => True
theorem V5_keep (B g : Nat) (f0 f1 : List ByteArray) (j : Nat) (v : Value) (w w' : World) (h : V5 B g f0 f1 j v w) (hb : Below w.heap.size w w') : V5 B g f0 f1 j v w' := by
  match j with
  | 0 => exact h
  | 1 => exact h
  | 2 => exact OwnS.keep h hb
  | 3 => exact h
  | 4 => exact h
  | 5 => exact OwnS.keep h hb
  | 6 => exact OwnT.keep h hb
  | 7 => exact h
  | 8 => exact h
  | 9 => exact OwnS.keep h hb
  | 10 => exact h
  | 11 => exact h
  | 12 => exact OwnS.keep h hb
  | 13 => exact OwnT.keep h hb
  | 14 => exact OwnT.keep h hb
  | 15 => exact OwnT.keep h hb
  | _ + 16 => trivial
def V6 (B g : Nat) (f0 f1 : List ByteArray) : Nat → Value → World → Prop
  | 0, v, _ => v = .slice (some ⟨g, 0, none⟩) 3 3
  | 1, v, _ => v = .pointer (some ⟨g, 0, none⟩)
  | 2, v, w => OwnS B f0 v w
  | 3, v, w => OwnT B (turnS f0 f1) v w
  | 4, v, w => OwnS B (applyS f0 (turnS f0 f1)) v w
  | 5, v, w => OwnT B (turnS f1 f0) v w
  | 6, v, w => OwnS B (applyS (applyS f0 (turnS f0 f1)) (turnS f1 f0)) v w
  | 7, v, _ => v = .slice (some ⟨g, 0, none⟩) 3 3
  | 8, v, _ => v = .pointer (some ⟨g, 0, none⟩)
  | 9, v, w => OwnS B f0 v w
  | 10, v, w => OwnS B (cleanS f0) v w
  | 11, v, _ => v = .bool true
  | 12, v, _ => v = .bool false
  | _, _, _ => True
theorem V6_keep (B g : Nat) (f0 f1 : List ByteArray) (j : Nat) (v : Value) (w w' : World) (h : V6 B g f0 f1 j v w) (hb : Below w.heap.size w w') : V6 B g f0 f1 j v w' := by
  match j with
  | 0 => exact h
  | 1 => exact h
  | 2 => exact OwnS.keep h hb
  | 3 => exact OwnT.keep h hb
  | 4 => exact OwnS.keep h hb
  | 5 => exact OwnT.keep h hb
  | 6 => exact OwnS.keep h hb
  | 7 => exact h
  | 8 => exact h
  | 9 => exact OwnS.keep h hb
  | 10 => exact OwnS.keep h hb
  | 11 => exact h
  | 12 => exact h
  | _ + 13 => trivial
def V8 (B r : Nat) (m0 m1 : List Pr) : Nat → Value → World → Prop
  | 0, v, _ => v = .slice (some ⟨r, 0, none⟩) 3 3
  | 1, v, _ => v = .pointer (some ⟨r, 0, none⟩)
  | 2, v, w => OwnP B m0 v w
  | 3, v, _ => v = .slice (some ⟨r, 0, none⟩) 3 3
  | 4, v, _ => v = .pointer (some ⟨r, 1, none⟩)
  | 5, v, w => OwnP B m1 v w
  | 6, v, w => OwnU B (turnP m0 m1) v w
  | 7, v, _ => v = .slice (some ⟨r, 0, none⟩) 3 3
  | 8, v, _ => v = .pointer (some ⟨r, 1, none⟩)
  | 9, v, w => OwnP B m1 v w
  | 10, v, _ => v = .slice (some ⟨r, 0, none⟩) 3 3
  | 11, v, _ => v = .pointer (some ⟨r, 0, none⟩)
  | 12, v, w => OwnP B m0 v w
  | 13, v, w => OwnU B (turnP m1 m0) v w
  | 14, v, w => OwnU B (turnP m0 m1) v w
  | 15, v, w => OwnU B (turnP m1 m0) v w
  | _, _, _ => True
theorem V8_keep (B r : Nat) (m0 m1 : List Pr) (j : Nat) (v : Value) (w w' : World) (h : V8 B r m0 m1 j v w) (hb : Below w.heap.size w w') : V8 B r m0 m1 j v w' := by
  match j with
  | 0 => exact h
  | 1 => exact h
  | 2 => exact OwnP.keep h hb
  | 3 => exact h
  | 4 => exact h
  | 5 => exact OwnP.keep h hb
  | 6 => exact OwnU.keep h hb
  | 7 => exact h
  | 8 => exact h
  | 9 => exact OwnP.keep h hb
  | 10 => exact h
  | 11 => exact h
  | 12 => exact OwnP.keep h hb
  | 13 => exact OwnU.keep h hb
  | 14 => exact OwnU.keep h hb
  | 15 => exact OwnU.keep h hb
  | _ + 16 => trivial
def V9 (B r : Nat) (m0 m1 : List Pr) : Nat → Value → World → Prop
  | 0, v, _ => v = .slice (some ⟨r, 0, none⟩) 3 3
  | 1, v, _ => v = .pointer (some ⟨r, 0, none⟩)
  | 2, v, w => OwnP B m0 v w
  | 3, v, w => OwnU B (turnP m0 m1) v w
  | 4, v, w => OwnP B (applyU m0 (turnP m0 m1)) v w
  | 5, v, w => OwnU B (turnP m1 m0) v w
  | 6, v, w => OwnP B (applyU (applyU m0 (turnP m0 m1)) (turnP m1 m0)) v w
  | 7, v, _ => v = .slice (some ⟨r, 0, none⟩) 3 3
  | 8, v, _ => v = .pointer (some ⟨r, 0, none⟩)
  | 9, v, w => OwnP B m0 v w
  | 10, v, _ => v = .bool true
  | 11, v, _ => v = .bool false
  | 12, v, _ => v = .bool false
  | 13, v, w => OwnU B (turnP m0 m1) v w
  | 14, v, _ => v = .int .i64 ((turnP m0 m1).length : Nat)
  | 15, v, w => OwnU B (turnP m1 m0) v w
  | 16, v, _ => v = .int .i64 ((turnP m1 m0).length : Nat)
  | 17, v, _ => v = .bool false
  | 18, v, _ => v = .bool false
  | _, _, _ => True
theorem V9_keep (B r : Nat) (m0 m1 : List Pr) (j : Nat) (v : Value) (w w' : World) (h : V9 B r m0 m1 j v w) (hb : Below w.heap.size w w') : V9 B r m0 m1 j v w' := by
  match j with
  | 0 => exact h
  | 1 => exact h
  | 2 => exact OwnP.keep h hb
  | 3 => exact OwnU.keep h hb
  | 4 => exact OwnP.keep h hb
  | 5 => exact OwnU.keep h hb
  | 6 => exact OwnP.keep h hb
  | 7 => exact h
  | 8 => exact h
  | 9 => exact OwnP.keep h hb
  | 10 => exact h
  | 11 => exact h
  | 12 => exact h
  | 13 => exact OwnU.keep h hb
  | 14 => exact h
  | 15 => exact OwnU.keep h hb
  | 16 => exact h
  | 17 => exact h
  | 18 => exact h
  | _ + 19 => trivial
def VB (B g r : Nat) (f0 f1 : List ByteArray) (m0 m1 m2 : List Pr) : Nat → Value → World → Prop
  | 0, v, w => OwnU B (turnP m0 m1) v w
  | 1, v, _ => v = .int .i64 ((turnP m0 m1).length : Nat)
  | 2, v, _ => v = .slice (some ⟨r, 0, none⟩) 3 3
  | 3, v, _ => v = .pointer (some ⟨r, 0, none⟩)
  | 4, v, w => OwnP B m0 v w
  | 5, v, _ => v = .slice (some ⟨r, 0, none⟩) 3 3
  | 6, v, _ => v = .pointer (some ⟨r, 2, none⟩)
  | 7, v, w => OwnP B m2 v w
  | 8, v, w => OwnU B (turnP m0 m2) v w
  | 9, v, _ => v = .int .i64 ((turnP m0 m2).length : Nat)
  | 10, v, _ => v = .slice (some ⟨r, 0, none⟩) 3 3
  | 11, v, _ => v = .pointer (some ⟨r, 2, none⟩)
  | 12, v, w => OwnP B m2 v w
  | 13, v, _ => v = .slice (some ⟨r, 0, none⟩) 3 3
  | 14, v, _ => v = .pointer (some ⟨r, 1, none⟩)
  | 15, v, w => OwnP B m1 v w
  | 16, v, w => OwnU B (turnP m2 m1) v w
  | 17, v, _ => v = .int .i64 ((turnP m2 m1).length : Nat)
  | 18, v, _ => v = .int .i64 (((turnP m0 m2).length : Int) + ((turnP m2 m1).length : Int))
  | 19, v, _ => v = .bool true
  | 20, v, _ => v = .bool true
  | 21, v, _ => v = .slice (some ⟨g, 0, none⟩) 3 3
  | 22, v, _ => v = .pointer (some ⟨g, 0, none⟩)
  | 23, v, w => OwnS B f0 v w
  | 24, v, _ => v = .slice (some ⟨g, 0, none⟩) 3 3
  | 25, v, _ => v = .pointer (some ⟨g, 0, none⟩)
  | 26, v, w => OwnS B f0 v w
  | 27, v, w => OwnT B (turnS f0 f0) v w
  | 28, v, _ => v = .int .i64 ((turnS f0 f0).length : Nat)
  | 29, v, _ => v = .bool true
  | 30, v, _ => v = .bool true
  | 31, v, _ => v = .bool true
  | 32, v, w => OwnT B (turnS f0 f1) v w
  | 33, v, _ => v = .int .i64 ((turnS f0 f1).length : Nat)
  | 34, v, _ => v = .slice (some ⟨g, 0, none⟩) 3 3
  | 35, v, _ => v = .pointer (some ⟨g, 0, none⟩)
  | 36, v, w => OwnS B f0 v w
  | 37, v, w => OwnS B (cleanS f0) v w
  | 38, v, _ => v = .int .i64 ((cleanS f0).length : Nat)
  | 39, v, _ => v = .slice (some ⟨g, 0, none⟩) 3 3
  | 40, v, _ => v = .pointer (some ⟨g, 1, none⟩)
  | 41, v, w => OwnS B f1 v w
  | 42, v, w => OwnS B (cleanS f1) v w
  | 43, v, _ => v = .int .i64 ((cleanS f1).length : Nat)
  | 44, v, _ => v = .int .i64 (((cleanS f0).length : Int) + ((cleanS f1).length : Int))
  | 45, v, _ => v = .bool true
  | 46, v, _ => v = .bool true
  | 47, v, _ => v = .bool true
  | _, _, _ => True
theorem VB_keep (B g r : Nat) (f0 f1 : List ByteArray) (m0 m1 m2 : List Pr) (j : Nat) (v : Value) (w w' : World) (h : VB B g r f0 f1 m0 m1 m2 j v w) (hb : Below w.heap.size w w') : VB B g r f0 f1 m0 m1 m2 j v w' := by
  match j with
  | 0 => exact OwnU.keep h hb
  | 1 => exact h
  | 2 => exact h
  | 3 => exact h
  | 4 => exact OwnP.keep h hb
  | 5 => exact h
  | 6 => exact h
  | 7 => exact OwnP.keep h hb
  | 8 => exact OwnU.keep h hb
  | 9 => exact h
  | 10 => exact h
  | 11 => exact h
  | 12 => exact OwnP.keep h hb
  | 13 => exact h
  | 14 => exact h
  | 15 => exact OwnP.keep h hb
  | 16 => exact OwnU.keep h hb
  | 17 => exact h
  | 18 => exact h
  | 19 => exact h
  | 20 => exact h
  | 21 => exact h
  | 22 => exact h
  | 23 => exact OwnS.keep h hb
  | 24 => exact h
  | 25 => exact h
  | 26 => exact OwnS.keep h hb
  | 27 => exact OwnT.keep h hb
  | 28 => exact h
  | 29 => exact h
  | 30 => exact h
  | 31 => exact h
  | 32 => exact OwnT.keep h hb
  | 33 => exact h
  | 34 => exact h
  | 35 => exact h
  | 36 => exact OwnS.keep h hb
  | 37 => exact OwnS.keep h hb
  | 38 => exact h
  | 39 => exact h
  | 40 => exact h
  | 41 => exact OwnS.keep h hb
  | 42 => exact OwnS.keep h hb
  | 43 => exact h
  | 44 => exact h
  | 45 => exact h
  | 46 => exact h
  | 47 => exact h
  | _ + 48 => trivial

set_option maxRecDepth 100000 in
set_option maxHeartbeats 32000000 in
theorem scrimTurns_walk (A0 A1 A2 D0 D1 D2 : Option Addr) (n0 n1 n2 c0 c1 c2 m0 m1 m2 e0 e1 e2 : Nat) (l0 l1 l2 : List ByteArray) (p0 p1 p2 : List Pr) (w : World)
    (h0 : Ss w w.heap.size A0 n0 l0) (h1 : Ss w w.heap.size A1 n1 l1) (h2 : Ss w w.heap.size A2 n2 l2) (g0 : Ps w w.heap.size D0 m0 p0) (g1 : Ps w w.heap.size D1 m1 p1) (g2 : Ps w w.heap.size D2 m2 p2) :
    Calls Try.prog 3 #[.agg #[.slice A0 n0 c0, .slice D0 m0 e0], .agg #[.slice A1 n1 c1, .slice D1 m1 e1], .agg #[.slice A2 n2 c2, .slice D2 m2 e2]] w fun e w' => e = .returned (.bool true) ∧ Below w.heap.size w w' := by
  have HS := Lib.hid (And.intro h0 (And.intro h1 h2))
  have HP := Lib.hid (And.intro g0 (And.intro g1 g2))
  clear h0 h1 h2 g0 g1 g2
  go_enter Try.func3, Try.ntmps3
  go_upto_region 1 with fail
  obtain ⟨wa, hwa⟩ : ∃ wa, wa = (((w.alloc (Obj.cells #[Value.slice A0 n0 c0, Value.slice D0 m0 e0] 25)).alloc (Obj.cells #[Value.slice A1 n1 c1, Value.slice D1 m1 e1] 25)).alloc (Obj.cells #[Value.slice A2 n2 c2, Value.slice D2 m2 e2] 25)) := ⟨_, rfl⟩
  have HX := Lib.hid (show Blk wa w.heap.size 25 #[Value.slice A0 n0 c0, Value.slice D0 m0 e0] ∧ Blk wa (w.heap.size + 1) 25 #[Value.slice A1 n1 c1, Value.slice D1 m1 e1] ∧ Blk wa (w.heap.size + 1 + 1) 25 #[Value.slice A2 n2 c2, Value.slice D2 m2 e2] ∧ w.heap.size + 1 + 1 < wa.heap.size ∧ Below w.heap.size w wa by
    subst hwa
    refine ⟨((Blk.new _ _ _).alloc _).alloc _, ?_, ?_, ?_, ?_⟩
    · have := (Blk.new (w.alloc (Obj.cells #[Value.slice A0 n0 c0, Value.slice D0 m0 e0] 25)) 25 #[Value.slice A1 n1 c1, Value.slice D1 m1 e1]).alloc (Obj.cells #[Value.slice A2 n2 c2, Value.slice D2 m2 e2] 25)
      simpa using this
    · have := Blk.new ((w.alloc (Obj.cells #[Value.slice A0 n0 c0, Value.slice D0 m0 e0] 25)).alloc (Obj.cells #[Value.slice A1 n1 c1, Value.slice D1 m1 e1] 25)) 25 #[Value.slice A2 n2 c2, Value.slice D2 m2 e2]
      simpa using this
    · simp
    · have h1 := (Below.refl w.heap.size w).alloc (Nat.le_refl _) (.cells #[Value.slice A0 n0 c0, Value.slice D0 m0 e0] 25)
      have h2 := h1.alloc h1.size (.cells #[Value.slice A1 n1 c1, Value.slice D1 m1 e1] 25)
      exact h2.alloc h2.size _)
  rw [← hwa]
  clear hwa
  go_upto_region 3 with (first
    | (go_at_call 4; refine (turn_any none (some ⟨wa.heap.size, 0, none⟩) 0 0 1 1 [] [(({ data := #[120] } : ByteArray))] _ (Rd.nil _ _ _) (rd_one cvS ByteArray.empty 1 wa 9 _ rfl) (by omega) (by omega)).mono ?_; rintro e w1 ⟨A, c, he, -, hb1⟩; rw [turnS_one] at he; subst he; have HB1 := Lib.hid (((Below.refl wa.heap.size wa).alloc (Nat.le_refl _) (.cells (cvS (({ data := #[120] } : ByteArray))).toArray 9)).trans (hb1.mono (by simp))); clear hb1)
    | (go_at_call 6; refine (of_any (some ⟨w1.heap.size, 0, none⟩) 1 1 [((({ data := #[119] } : ByteArray)), (0 : Int))] _ (rd_one cvP pr0 2 w1 34 _ rfl) (by omega)).mono ?_; rintro e w2 ⟨A', c', he, hown2, hb2⟩; have he' : e = .returned (.slice A' 1 c') := he; clear he; subst he'; have HB2 := Lib.hid (And.intro (Rd.of_own (cv := cvP) (d := pr0) (fun _ => rfl) hown2 rfl) (HB1.out.trans (((Below.refl w1.heap.size w1).alloc (Nat.le_refl _) (.cells (cvP ((({ data := #[119] } : ByteArray)), (0 : Int))).toArray 34)).trans (hb2.mono (by simp)) |>.mono HB1.out.size))); clear hown2 hb2 HB1)
    | (go_at_call 5; refine (turnP_any none A' 0 0 1 c' [] (ofS [((({ data := #[119] } : ByteArray)), (0 : Int))]) _ (Rd.nil _ _ _) HB2.out.1 (by omega) (by omega)).mono ?_; rintro e w3 ⟨A3, c3, he, -, hb3⟩; rw [turnP_one] at he; subst he; have HB3 := Lib.hid (HB2.out.2.trans (hb3.mono HB2.out.2.size)); clear hb3 HB2))
  have HI := Lib.hid (show In3 w.heap.size A0 A1 A2 D0 D1 D2 n0 n1 n2 c0 c1 c2 m0 m1 m2 e0 e1 e2 l0 l1 l2 p0 p1 p2 w3 ∧ Below w.heap.size w w3 from by
    obtain ⟨x0, x1, x2, x3, x4⟩ := HX.out
    have k := HB3.out
    have k2 : Below w.heap.size w w3 := x4.trans (k.mono x4.size)
    exact ⟨⟨Nat.lt_of_lt_of_le x3 k.size, ⟨HS.out.1.below k2, HS.out.2.1.below k2, HS.out.2.2.below k2⟩, ⟨HP.out.1.below k2, HP.out.2.1.below k2, HP.out.2.2.below k2⟩, x0.below k x0.lt, x1.below k x1.lt, x2.below k x2.lt⟩, k2⟩)
  clear HX HB3 HS HP
  go_cut [7] (fun s wx => Row3 w.heap.size 22 (fun j => OwnS w.heap.size (fewS 8 (match j with | 0 => l0 | 1 => l1 | _ => l2))) s wx ∧ In3 w.heap.size A0 A1 A2 D0 D1 D2 n0 n1 n2 c0 c1 c2 m0 m1 m2 e0 e1 e2 l0 l1 l2 p0 p1 p2 wx ∧ Below w.heap.size w wx)
  case first =>
    have hI : ∀ wx, Below w3.heap.size w3 wx → In3 w.heap.size A0 A1 A2 D0 D1 D2 n0 n1 n2 c0 c1 c2 m0 m1 m2 e0 e1 e2 l0 l1 l2 p0 p1 p2 wx := fun wx hb => HI.out.1.keep hb
    have hB : ∀ wx, Below w3.heap.size w3 wx → w.heap.size ≤ wx.heap.size := fun wx hb => by have h1 := (hI wx hb).1; omega
    refine wp_region_lit w3 ?_ ?_ ?_ (V3 (w.heap.size) (A0) (A1) (A2) (n0) (n1) (n2) (c0) (c1) (c2) (l0) (l1) (l2)) ?_ ?_ ?_
    · kernel_rfl
    · kernel_rfl
    · kernel_rfl
    · intro j v wx wy
      exact V3_keep _ _ _ _ _ _ _ _ _ _ _ _ _ j v wx wy
    · refine ⟨op_val rfl fun s wx hb hd => ⟨_, ex_field0 rfl (lit_out 3 (by kernel_rfl)), rfl⟩, ?_⟩
      refine ⟨op_val rfl fun s wx hb hd => ⟨_, ex_loadS rfl ((lit_at 0 25 (by kernel_rfl) (by kernel_rfl) (by kernel_rfl)).trans (hd 0 (by kernel_rfl))) ((hI wx hb).2.2.2.1.cell 0), rfl⟩, ?_⟩
      refine ⟨op_call rfl fun s wx hb hd => ⟨_, _, ex_call2 rfl rfl (enters Try.func7 (by kernel_rfl) rfl _ _) (lit_at 1 26 (by kernel_rfl) (by kernel_rfl) (by kernel_rfl)) rfl, cFew ((hI wx hb).2.1.1.more (hB wx hb)) (hB wx hb) (hd 1 (by kernel_rfl))⟩, ?_⟩
      refine ⟨op_val rfl fun s wx hb hd => ⟨_, ex_field0 rfl (lit_out 4 (by kernel_rfl)), rfl⟩, ?_⟩
      refine ⟨op_val rfl fun s wx hb hd => ⟨_, ex_loadS rfl ((lit_at 3 28 (by kernel_rfl) (by kernel_rfl) (by kernel_rfl)).trans (hd 3 (by kernel_rfl))) ((hI wx hb).2.2.2.2.1.cell 0), rfl⟩, ?_⟩
      refine ⟨op_call rfl fun s wx hb hd => ⟨_, _, ex_call2 rfl rfl (enters Try.func7 (by kernel_rfl) rfl _ _) (lit_at 4 29 (by kernel_rfl) (by kernel_rfl) (by kernel_rfl)) rfl, cFew ((hI wx hb).2.1.2.1.more (hB wx hb)) (hB wx hb) (hd 4 (by kernel_rfl))⟩, ?_⟩
      refine ⟨op_val rfl fun s wx hb hd => ⟨_, ex_field0 rfl (lit_out 5 (by kernel_rfl)), rfl⟩, ?_⟩
      refine ⟨op_val rfl fun s wx hb hd => ⟨_, ex_loadS rfl ((lit_at 6 31 (by kernel_rfl) (by kernel_rfl) (by kernel_rfl)).trans (hd 6 (by kernel_rfl))) ((hI wx hb).2.2.2.2.2.cell 0), rfl⟩, ?_⟩
      refine ⟨op_call rfl fun s wx hb hd => ⟨_, _, ex_call2 rfl rfl (enters Try.func7 (by kernel_rfl) rfl _ _) (lit_at 7 32 (by kernel_rfl) (by kernel_rfl) (by kernel_rfl)) rfl, cFew ((hI wx hb).2.1.2.2.more (hB wx hb)) (hB wx hb) (hd 7 (by kernel_rfl))⟩, ?_⟩
      refine ⟨op_build3 (fun j => OwnS w.heap.size (fewS 8 (match j with | 0 => l0 | 1 => l1 | _ => l2))) (fun _ _ _ _ h hb => OwnS.keep h hb) rfl (fun _ _ h => h) fun s wx hb hd => ⟨_, _, _, ex_build3 (.inl ⟨rfl, rfl⟩) rfl (lit_at 2 27 (by kernel_rfl) (by kernel_rfl) (by kernel_rfl)) (lit_at 5 30 (by kernel_rfl) (by kernel_rfl) (by kernel_rfl)) (lit_at 8 33 (by kernel_rfl) (by kernel_rfl) (by kernel_rfl)) (OwnS.sl (hd 2 (by kernel_rfl))) (OwnS.sl (hd 5 (by kernel_rfl))) (OwnS.sl (hd 8 (by kernel_rfl))), hB wx hb, (hd 2 (by kernel_rfl)), (hd 5 (by kernel_rfl)), (hd 8 (by kernel_rfl))⟩, ?_⟩
      refine ⟨op_val rfl fun s wx hb hd => (assign_it (O := (V3 (w.heap.size) (A0) (A1) (A2) (n0) (n1) (n2) (c0) (c1) (c2) (l0) (l1) (l2)) 10) rfl (lit_at 9 34 (by kernel_rfl) (by kernel_rfl) (by kernel_rfl)) (hd 9 (by kernel_rfl))), ?_⟩
      trivial
    intro s wx hb hV
    have h : Row3 w.heap.size 22 (fun j => OwnS w.heap.size (fewS 8 (match j with | 0 => l0 | 1 => l1 | _ => l2))) (s 10) wx := hV 10 (by decide)
    have hy := hI wx hb
    have hz := HI.out.2.trans (hb.mono HI.out.2.size)
    have HZ := Lib.hid (And.intro h (And.intro hy hz))
    clear hV hI hB hb h hy hz
    simp only [litOf, List.map_cons, List.map_nil, Nat.zero_add, Nat.reduceAdd, Act.put, List.setIfInBounds_toArray, List.set_cons_succ, List.set_cons_zero]
    go_wp2_with fail
    go_meet
    case rel => exact HZ.out
  case rest =>
    clear HI
    obtain ⟨⟨g, a0, a1, a2, rfl, hg, hB, o0, o1, -⟩, hI, hbc⟩ := hcut
    obtain ⟨wd, rfl⟩ : ∃ x : World, x = wc := ⟨_, rfl⟩
    have HG := Lib.hid (show Blk wd g 22 #[a0, a1, a2] ∧ OwnS w.heap.size (fewS 8 l0) a0 wd ∧ OwnS w.heap.size (fewS 8 l1) a1 wd from ⟨hB, o0, o1⟩)
    have HI := Lib.hid (And.intro hI hbc)
    clear hg hB o0 o1 hI hbc
    go_upto_region 4 with fail
    go_cut [8] (fun s wx => Row3 w.heap.size 31 (fun j => OwnP w.heap.size (ofS (fewP 8 (match j with | 0 => p0 | 1 => p1 | _ => p2)))) s wx ∧ Below wd.heap.size wd wx)
    case first =>
      have hI : ∀ wx, Below wd.heap.size wd wx → In3 w.heap.size A0 A1 A2 D0 D1 D2 n0 n1 n2 c0 c1 c2 m0 m1 m2 e0 e1 e2 l0 l1 l2 p0 p1 p2 wx := fun wx hb => HI.out.1.keep hb
      have hB : ∀ wx, Below wd.heap.size wd wx → w.heap.size ≤ wx.heap.size := fun wx hb => by have h1 := (hI wx hb).1; omega
      refine wp_region_lit wd ?_ ?_ ?_ (V4 (w.heap.size) (D0) (D1) (D2) (m0) (m1) (m2) (e0) (e1) (e2) (p0) (p1) (p2)) ?_ ?_ ?_
      · kernel_rfl
      · kernel_rfl
      · kernel_rfl
      · intro j v wx wy
        exact V4_keep _ _ _ _ _ _ _ _ _ _ _ _ _ j v wx wy
      · refine ⟨op_val rfl fun s wx hb hd => ⟨_, ex_field1 rfl (lit_out 3 (by kernel_rfl)), rfl⟩, ?_⟩
        refine ⟨op_val rfl fun s wx hb hd => ⟨_, ex_loadR rfl ((lit_at 0 35 (by kernel_rfl) (by kernel_rfl) (by kernel_rfl)).trans (hd 0 (by kernel_rfl))) ((hI wx hb).2.2.2.1.cell 1), rfl⟩, ?_⟩
        refine ⟨op_call rfl fun s wx hb hd => ⟨_, _, ex_call2 rfl rfl (enters Try.func9 (by kernel_rfl) rfl _ _) (lit_at 1 36 (by kernel_rfl) (by kernel_rfl) (by kernel_rfl)) rfl, cFewP ((hI wx hb).2.2.1.1.more (hB wx hb)) (hB wx hb) (hd 1 (by kernel_rfl))⟩, ?_⟩
        refine ⟨op_call rfl fun s wx hb hd => ⟨_, _, ex_call1 rfl rfl (enters Try.func8 (by kernel_rfl) rfl _ _) (lit_at 2 37 (by kernel_rfl) (by kernel_rfl) (by kernel_rfl)), cOwn (hd 2 (by kernel_rfl)) (by rw [fewP_len]; omega)⟩, ?_⟩
        refine ⟨op_call rfl fun s wx hb hd => ⟨_, _, ex_call1 rfl rfl (enters Try.func6 (by kernel_rfl) rfl _ _) (lit_at 3 38 (by kernel_rfl) (by kernel_rfl) (by kernel_rfl)), cOf (hd 3 (by kernel_rfl)) (by rw [fewP_len]; omega)⟩, ?_⟩
        refine ⟨op_val rfl fun s wx hb hd => ⟨_, ex_field1 rfl (lit_out 4 (by kernel_rfl)), rfl⟩, ?_⟩
        refine ⟨op_val rfl fun s wx hb hd => ⟨_, ex_loadR rfl ((lit_at 5 40 (by kernel_rfl) (by kernel_rfl) (by kernel_rfl)).trans (hd 5 (by kernel_rfl))) ((hI wx hb).2.2.2.2.1.cell 1), rfl⟩, ?_⟩
        refine ⟨op_call rfl fun s wx hb hd => ⟨_, _, ex_call2 rfl rfl (enters Try.func9 (by kernel_rfl) rfl _ _) (lit_at 6 41 (by kernel_rfl) (by kernel_rfl) (by kernel_rfl)) rfl, cFewP ((hI wx hb).2.2.1.2.1.more (hB wx hb)) (hB wx hb) (hd 6 (by kernel_rfl))⟩, ?_⟩
        refine ⟨op_call rfl fun s wx hb hd => ⟨_, _, ex_call1 rfl rfl (enters Try.func8 (by kernel_rfl) rfl _ _) (lit_at 7 42 (by kernel_rfl) (by kernel_rfl) (by kernel_rfl)), cOwn (hd 7 (by kernel_rfl)) (by rw [fewP_len]; omega)⟩, ?_⟩
        refine ⟨op_call rfl fun s wx hb hd => ⟨_, _, ex_call1 rfl rfl (enters Try.func6 (by kernel_rfl) rfl _ _) (lit_at 8 43 (by kernel_rfl) (by kernel_rfl) (by kernel_rfl)), cOf (hd 8 (by kernel_rfl)) (by rw [fewP_len]; omega)⟩, ?_⟩
        refine ⟨op_val rfl fun s wx hb hd => ⟨_, ex_field1 rfl (lit_out 5 (by kernel_rfl)), rfl⟩, ?_⟩
        refine ⟨op_val rfl fun s wx hb hd => ⟨_, ex_loadR rfl ((lit_at 10 45 (by kernel_rfl) (by kernel_rfl) (by kernel_rfl)).trans (hd 10 (by kernel_rfl))) ((hI wx hb).2.2.2.2.2.cell 1), rfl⟩, ?_⟩
        refine ⟨op_call rfl fun s wx hb hd => ⟨_, _, ex_call2 rfl rfl (enters Try.func9 (by kernel_rfl) rfl _ _) (lit_at 11 46 (by kernel_rfl) (by kernel_rfl) (by kernel_rfl)) rfl, cFewP ((hI wx hb).2.2.1.2.2.more (hB wx hb)) (hB wx hb) (hd 11 (by kernel_rfl))⟩, ?_⟩
        refine ⟨op_call rfl fun s wx hb hd => ⟨_, _, ex_call1 rfl rfl (enters Try.func8 (by kernel_rfl) rfl _ _) (lit_at 12 47 (by kernel_rfl) (by kernel_rfl) (by kernel_rfl)), cOwn (hd 12 (by kernel_rfl)) (by rw [fewP_len]; omega)⟩, ?_⟩
        refine ⟨op_call rfl fun s wx hb hd => ⟨_, _, ex_call1 rfl rfl (enters Try.func6 (by kernel_rfl) rfl _ _) (lit_at 13 48 (by kernel_rfl) (by kernel_rfl) (by kernel_rfl)), cOf (hd 13 (by kernel_rfl)) (by rw [fewP_len]; omega)⟩, ?_⟩
        refine ⟨op_build3 (fun j => OwnP w.heap.size (ofS (fewP 8 (match j with | 0 => p0 | 1 => p1 | _ => p2)))) (fun _ _ _ _ h hb => OwnP.keep h hb) rfl (fun _ _ h => h) fun s wx hb hd => ⟨_, _, _, ex_build3 (.inr ⟨rfl, rfl⟩) rfl (lit_at 4 39 (by kernel_rfl) (by kernel_rfl) (by kernel_rfl)) (lit_at 9 44 (by kernel_rfl) (by kernel_rfl) (by kernel_rfl)) (lit_at 14 49 (by kernel_rfl) (by kernel_rfl) (by kernel_rfl)) (OwnP.sl (hd 4 (by kernel_rfl))) (OwnP.sl (hd 9 (by kernel_rfl))) (OwnP.sl (hd 14 (by kernel_rfl))), hB wx hb, (hd 4 (by kernel_rfl)), (hd 9 (by kernel_rfl)), (hd 14 (by kernel_rfl))⟩, ?_⟩
        refine ⟨op_val rfl fun s wx hb hd => (assign_it (O := (V4 (w.heap.size) (D0) (D1) (D2) (m0) (m1) (m2) (e0) (e1) (e2) (p0) (p1) (p2)) 16) rfl (lit_at 15 50 (by kernel_rfl) (by kernel_rfl) (by kernel_rfl)) (hd 15 (by kernel_rfl))), ?_⟩
        trivial
      intro s wx hb hV
      have HZ := Lib.hid (show Row3 w.heap.size 31 (fun j => OwnP w.heap.size (ofS (fewP 8 (match j with | 0 => p0 | 1 => p1 | _ => p2)))) (s 16) wx ∧ Below wd.heap.size wd wx from ⟨hV 16 (by decide), hb⟩)
      clear hV hI hB hb
      simp only [litOf, List.map_cons, List.map_nil, Nat.zero_add, Nat.reduceAdd, Act.put, List.setIfInBounds_toArray, List.set_cons_succ, List.set_cons_zero]
      go_wp2_with fail
      go_meet
      case rel => exact HZ.out
    case rest =>
      obtain ⟨⟨r, b0, b1, b2, rfl, hg, hB, o0, o1, o2⟩, hbc⟩ := hcut
      obtain ⟨we, rfl⟩ : ∃ x : World, x = wc := ⟨_, rfl⟩
      obtain ⟨f0, f1, q0, q1, q2, hF⟩ : ∃ f0 f1 q0 q1 q2, (f0.length ≤ 8 ∧ f1.length ≤ 8 ∧ q0.length ≤ 8 ∧ q1.length ≤ 8 ∧ q2.length ≤ 8) ∧ (Rise q0 ∧ Rise q1 ∧ Rise q2) ∧ Held w.heap.size g r f0 f1 q0 q1 q2 we ∧ Below w.heap.size w we := by
        have k1 := HG.out.1.below hbc HG.out.1.lt
        have k2 := HG.out.2.1.keep hbc
        have k3 := HG.out.2.2.keep hbc
        have k4 := HI.out.2.trans (hbc.mono HI.out.2.size)
        refine ⟨fewS 8 l0, fewS 8 l1, ofS (fewP 8 p0), ofS (fewP 8 p1), ofS (fewP 8 p2), ⟨by rw [fewS_len]; omega, by rw [fewS_len]; omega, Nat.le_trans (ofS_len _) (by rw [fewP_len]; omega), Nat.le_trans (ofS_len _) (by rw [fewP_len]; omega), Nat.le_trans (ofS_len _) (by rw [fewP_len]; omega)⟩, ⟨ofS_rise _, ofS_rise _, ofS_rise _⟩, ⟨k4.size, ⟨a0, a1, a2, k1, k2, k3⟩, b0, b1, b2, hB, o0, o1, o2⟩, k4⟩
      have HF := Lib.hid hF.1
      have HR := Lib.hid hF.2.1
      have HH := Lib.hid hF.2.2
      clear hg hB o0 o1 o2 hbc hF HG HI
      go_upto_region 5 with fail
      go_cut [9, 10] (fun s t wx => OwnT w.heap.size (turnS f0 f1) s wx ∧ OwnT w.heap.size (turnS f1 f0) t wx ∧ Held w.heap.size g r f0 f1 q0 q1 q2 wx ∧ Below w.heap.size w wx)
      case first =>
        have hH : ∀ wx, Below we.heap.size we wx → Held w.heap.size g r f0 f1 q0 q1 q2 wx := fun wx hb => HH.out.1.keep hb
        obtain ⟨y0, y1, y2, y3, y4⟩ := HF.out
        refine wp_region_lit we ?_ ?_ ?_ (V5 (w.heap.size) (g) (f0) (f1)) ?_ ?_ ?_
        · kernel_rfl
        · kernel_rfl
        · kernel_rfl
        · intro j v wx wy
          exact V5_keep _ _ _ _ j v wx wy
        · refine ⟨op_val rfl fun s wx hb hd => ⟨_, ex_move rfl (lit_out 7 (by kernel_rfl)), rfl⟩, ?_⟩
          refine ⟨op_val rfl fun s wx hb hd => ⟨_, ex_index (k := 0) (.inl rfl) rfl ((lit_at 0 51 (by kernel_rfl) (by kernel_rfl) (by kernel_rfl)).trans (hd 0 (by kernel_rfl))) rfl (by omega), rfl⟩, ?_⟩
          refine ⟨op_val rfl fun s wx hb hd => (load_S rfl ((lit_at 1 52 (by kernel_rfl) (by kernel_rfl) (by kernel_rfl)).trans (hd 1 (by kernel_rfl))) (hH wx hb).s0), ?_⟩
          refine ⟨op_val rfl fun s wx hb hd => ⟨_, ex_move rfl (lit_out 7 (by kernel_rfl)), rfl⟩, ?_⟩
          refine ⟨op_val rfl fun s wx hb hd => ⟨_, ex_index (k := 1) (.inl rfl) rfl ((lit_at 3 54 (by kernel_rfl) (by kernel_rfl) (by kernel_rfl)).trans (hd 3 (by kernel_rfl))) rfl (by omega), rfl⟩, ?_⟩
          refine ⟨op_val rfl fun s wx hb hd => (load_S rfl ((lit_at 4 55 (by kernel_rfl) (by kernel_rfl) (by kernel_rfl)).trans (hd 4 (by kernel_rfl))) (hH wx hb).s1), ?_⟩
          refine ⟨op_call rfl fun s wx hb hd => ⟨_, _, ex_call2 rfl rfl (enters Try.func4 (by kernel_rfl) rfl _ _) (lit_at 2 53 (by kernel_rfl) (by kernel_rfl) (by kernel_rfl)) (lit_at 5 56 (by kernel_rfl) (by kernel_rfl) (by kernel_rfl)), cTurn (hd 2 (by kernel_rfl)) (hd 5 (by kernel_rfl)) (by omega) (by omega)⟩, ?_⟩
          refine ⟨op_val rfl fun s wx hb hd => ⟨_, ex_move rfl (lit_out 7 (by kernel_rfl)), rfl⟩, ?_⟩
          refine ⟨op_val rfl fun s wx hb hd => ⟨_, ex_index (k := 1) (.inl rfl) rfl ((lit_at 7 58 (by kernel_rfl) (by kernel_rfl) (by kernel_rfl)).trans (hd 7 (by kernel_rfl))) rfl (by omega), rfl⟩, ?_⟩
          refine ⟨op_val rfl fun s wx hb hd => (load_S rfl ((lit_at 8 59 (by kernel_rfl) (by kernel_rfl) (by kernel_rfl)).trans (hd 8 (by kernel_rfl))) (hH wx hb).s1), ?_⟩
          refine ⟨op_val rfl fun s wx hb hd => ⟨_, ex_move rfl (lit_out 7 (by kernel_rfl)), rfl⟩, ?_⟩
          refine ⟨op_val rfl fun s wx hb hd => ⟨_, ex_index (k := 0) (.inl rfl) rfl ((lit_at 10 61 (by kernel_rfl) (by kernel_rfl) (by kernel_rfl)).trans (hd 10 (by kernel_rfl))) rfl (by omega), rfl⟩, ?_⟩
          refine ⟨op_val rfl fun s wx hb hd => (load_S rfl ((lit_at 11 62 (by kernel_rfl) (by kernel_rfl) (by kernel_rfl)).trans (hd 11 (by kernel_rfl))) (hH wx hb).s0), ?_⟩
          refine ⟨op_call rfl fun s wx hb hd => ⟨_, _, ex_call2 rfl rfl (enters Try.func4 (by kernel_rfl) rfl _ _) (lit_at 9 60 (by kernel_rfl) (by kernel_rfl) (by kernel_rfl)) (lit_at 12 63 (by kernel_rfl) (by kernel_rfl) (by kernel_rfl)), cTurn (hd 9 (by kernel_rfl)) (hd 12 (by kernel_rfl)) (by omega) (by omega)⟩, ?_⟩
          refine ⟨op_val rfl fun s wx hb hd => (assign_it (O := (V5 (w.heap.size) (g) (f0) (f1)) 14) rfl (lit_at 6 57 (by kernel_rfl) (by kernel_rfl) (by kernel_rfl)) (hd 6 (by kernel_rfl))), ?_⟩
          refine ⟨op_val rfl fun s wx hb hd => (assign_it (O := (V5 (w.heap.size) (g) (f0) (f1)) 15) rfl (lit_at 13 64 (by kernel_rfl) (by kernel_rfl) (by kernel_rfl)) (hd 13 (by kernel_rfl))), ?_⟩
          trivial
        intro s wx hb hV
        have HZ := Lib.hid (show OwnT w.heap.size (turnS f0 f1) (s 14) wx ∧ OwnT w.heap.size (turnS f1 f0) (s 15) wx ∧ Held w.heap.size g r f0 f1 q0 q1 q2 wx ∧ Below w.heap.size w wx from ⟨hV 14 (by decide), hV 15 (by decide), hH wx hb, HH.out.2.trans (hb.mono HH.out.2.size)⟩)
        clear hV hH hb y0 y1 y2 y3 y4
        simp only [litOf, List.map_cons, List.map_nil, Nat.zero_add, Nat.reduceAdd, Act.put, List.setIfInBounds_toArray, List.set_cons_succ, List.set_cons_zero]
        go_wp2_with fail
        go_meet
        case rel => exact HZ.out
      case rest =>
        clear HH
        obtain ⟨wf, rfl⟩ : ∃ x : World, x = wc := ⟨_, rfl⟩
        obtain ⟨v9, rfl⟩ : ∃ x : Value, x = u9 := ⟨_, rfl⟩
        obtain ⟨v10, rfl⟩ : ∃ x : Value, x = u10 := ⟨_, rfl⟩
        have HC := Lib.hid hcut
        clear hcut
        go_upto_region 6 with fail
        go_cut [77] (fun s wx => s = .bool false ∧ OwnT w.heap.size (turnS f0 f1) v9 wx ∧ OwnT w.heap.size (turnS f1 f0) v10 wx ∧ Held w.heap.size g r f0 f1 q0 q1 q2 wx ∧ Below w.heap.size w wx)
        case first =>
          have hH : ∀ wx, Below wf.heap.size wf wx → Held w.heap.size g r f0 f1 q0 q1 q2 wx := fun wx hb => HC.out.2.2.1.keep hb
          have h9 : ∀ wx, Below wf.heap.size wf wx → OwnT w.heap.size (turnS f0 f1) v9 wx := fun wx hb => HC.out.1.keep hb
          have h10 : ∀ wx, Below wf.heap.size wf wx → OwnT w.heap.size (turnS f1 f0) v10 wx := fun wx hb => HC.out.2.1.keep hb
          obtain ⟨y0, y1, y2, y3, y4⟩ := HF.out
          have t1 := turnS_len f0 f1
          have t2 := turnS_len f1 f0
          have t3 := cleanS_len f0
          have t4 := cleanS_len f1
          have t5 : (applyS f0 (turnS f0 f1)).length ≤ f0.length + (turnS f0 f1).length := applyTo_len _ _ _
          refine wp_region_lit wf ?_ ?_ ?_ (V6 (w.heap.size) (g) (f0) (f1)) ?_ ?_ ?_
          · kernel_rfl
          · kernel_rfl
          · kernel_rfl
          · intro j v wx wy
            exact V6_keep _ _ _ _ j v wx wy
          · refine ⟨op_val rfl fun s wx hb hd => ⟨_, ex_move rfl (lit_out 7 (by kernel_rfl)), rfl⟩, ?_⟩
            refine ⟨op_val rfl fun s wx hb hd => ⟨_, ex_index (k := 0) (.inl rfl) rfl ((lit_at 0 65 (by kernel_rfl) (by kernel_rfl) (by kernel_rfl)).trans (hd 0 (by kernel_rfl))) rfl (by omega), rfl⟩, ?_⟩
            refine ⟨op_val rfl fun s wx hb hd => (load_S rfl ((lit_at 1 66 (by kernel_rfl) (by kernel_rfl) (by kernel_rfl)).trans (hd 1 (by kernel_rfl))) (hH wx hb).s0), ?_⟩
            refine ⟨op_val rfl fun s wx hb hd => (move_it rfl (lit_out 9 (by kernel_rfl)) (h9 wx hb)), ?_⟩
            refine ⟨op_call rfl fun s wx hb hd => ⟨_, _, ex_call2 rfl rfl (enters Try.func11 (by kernel_rfl) rfl _ _) (lit_at 2 67 (by kernel_rfl) (by kernel_rfl) (by kernel_rfl)) (lit_at 3 68 (by kernel_rfl) (by kernel_rfl) (by kernel_rfl)), cApply (hd 2 (by kernel_rfl)) (hd 3 (by kernel_rfl)) (by omega) (by omega)⟩, ?_⟩
            refine ⟨op_val rfl fun s wx hb hd => (move_it rfl (lit_out 10 (by kernel_rfl)) (h10 wx hb)), ?_⟩
            refine ⟨op_call rfl fun s wx hb hd => ⟨_, _, ex_call2 rfl rfl (enters Try.func11 (by kernel_rfl) rfl _ _) (lit_at 4 69 (by kernel_rfl) (by kernel_rfl) (by kernel_rfl)) (lit_at 5 70 (by kernel_rfl) (by kernel_rfl) (by kernel_rfl)), cApply (hd 4 (by kernel_rfl)) (hd 5 (by kernel_rfl)) (by omega) (by omega)⟩, ?_⟩
            refine ⟨op_val rfl fun s wx hb hd => ⟨_, ex_move rfl (lit_out 7 (by kernel_rfl)), rfl⟩, ?_⟩
            refine ⟨op_val rfl fun s wx hb hd => ⟨_, ex_index (k := 0) (.inl rfl) rfl ((lit_at 7 72 (by kernel_rfl) (by kernel_rfl) (by kernel_rfl)).trans (hd 7 (by kernel_rfl))) rfl (by omega), rfl⟩, ?_⟩
            refine ⟨op_val rfl fun s wx hb hd => (load_S rfl ((lit_at 8 73 (by kernel_rfl) (by kernel_rfl) (by kernel_rfl)).trans (hd 8 (by kernel_rfl))) (hH wx hb).s0), ?_⟩
            refine ⟨op_call rfl fun s wx hb hd => ⟨_, _, ex_call1 rfl rfl (enters Try.func12 (by kernel_rfl) rfl _ _) (lit_at 9 74 (by kernel_rfl) (by kernel_rfl) (by kernel_rfl)), cClean (hd 9 (by kernel_rfl)) (by omega)⟩, ?_⟩
            refine ⟨op_call rfl fun s wx hb hd => ⟨_, _, ex_call2 rfl rfl (enters Try.func10 (by kernel_rfl) rfl _ _) (lit_at 6 71 (by kernel_rfl) (by kernel_rfl) (by kernel_rfl)) (lit_at 10 75 (by kernel_rfl) (by kernel_rfl) (by kernel_rfl)), cSame (hd 6 (by kernel_rfl)) (hd 10 (by kernel_rfl)) (turn_back f0 f1) (by rw [turn_back]; omega)⟩, ?_⟩
            refine ⟨op_val rfl fun s wx hb hd => ⟨_, ex_not rfl ((lit_at 11 76 (by kernel_rfl) (by kernel_rfl) (by kernel_rfl)).trans (hd 11 (by kernel_rfl))), rfl⟩, ?_⟩
            trivial
          intro s wx hb hV
          have HZ := Lib.hid (show s 12 = .bool false ∧ OwnT w.heap.size (turnS f0 f1) v9 wx ∧ OwnT w.heap.size (turnS f1 f0) v10 wx ∧ Held w.heap.size g r f0 f1 q0 q1 q2 wx ∧ Below w.heap.size w wx from ⟨hV 12 (by decide), h9 wx hb, h10 wx hb, hH wx hb, HC.out.2.2.2.trans (hb.mono HC.out.2.2.2.size)⟩)
          clear hV hH hb h9 h10 y0 y1 y2 y3 y4 t1 t2 t3 t4 t5
          simp only [litOf, List.map_cons, List.map_nil, Nat.zero_add, Nat.reduceAdd, Act.put, List.setIfInBounds_toArray, List.set_cons_succ, List.set_cons_zero]
          go_wp2_with fail
          go_meet
          case rel => exact HZ.out
        case rest =>
          clear HC
          obtain ⟨rfl, hcut⟩ := hcut
          obtain ⟨wg, rfl⟩ : ∃ x : World, x = wc := ⟨_, rfl⟩
          have HC := Lib.hid hcut
          clear hcut
          go_upto_region 8 with fail
          go_cut [11, 12] (fun s t wx => OwnU w.heap.size (turnP q0 q1) s wx ∧ OwnU w.heap.size (turnP q1 q0) t wx ∧ OwnT w.heap.size (turnS f0 f1) v9 wx ∧ Held w.heap.size g r f0 f1 q0 q1 q2 wx ∧ Below w.heap.size w wx)
          case first =>
            have hH : ∀ wx, Below wg.heap.size wg wx → Held w.heap.size g r f0 f1 q0 q1 q2 wx := fun wx hb => HC.out.2.2.1.keep hb
            have h9 : ∀ wx, Below wg.heap.size wg wx → OwnT w.heap.size (turnS f0 f1) v9 wx := fun wx hb => HC.out.1.keep hb
            obtain ⟨y0, y1, y2, y3, y4⟩ := HF.out
            refine wp_region_lit wg ?_ ?_ ?_ (V8 (w.heap.size) (r) (q0) (q1)) ?_ ?_ ?_
            · kernel_rfl
            · kernel_rfl
            · kernel_rfl
            · intro j v wx wy
              exact V8_keep _ _ _ _ j v wx wy
            · refine ⟨op_val rfl fun s wx hb hd => ⟨_, ex_move rfl (lit_out 8 (by kernel_rfl)), rfl⟩, ?_⟩
              refine ⟨op_val rfl fun s wx hb hd => ⟨_, ex_index (k := 0) (.inr rfl) rfl ((lit_at 0 78 (by kernel_rfl) (by kernel_rfl) (by kernel_rfl)).trans (hd 0 (by kernel_rfl))) rfl (by omega), rfl⟩, ?_⟩
              refine ⟨op_val rfl fun s wx hb hd => (load_P rfl ((lit_at 1 79 (by kernel_rfl) (by kernel_rfl) (by kernel_rfl)).trans (hd 1 (by kernel_rfl))) (hH wx hb).p0), ?_⟩
              refine ⟨op_val rfl fun s wx hb hd => ⟨_, ex_move rfl (lit_out 8 (by kernel_rfl)), rfl⟩, ?_⟩
              refine ⟨op_val rfl fun s wx hb hd => ⟨_, ex_index (k := 1) (.inr rfl) rfl ((lit_at 3 81 (by kernel_rfl) (by kernel_rfl) (by kernel_rfl)).trans (hd 3 (by kernel_rfl))) rfl (by omega), rfl⟩, ?_⟩
              refine ⟨op_val rfl fun s wx hb hd => (load_P rfl ((lit_at 4 82 (by kernel_rfl) (by kernel_rfl) (by kernel_rfl)).trans (hd 4 (by kernel_rfl))) (hH wx hb).p1), ?_⟩
              refine ⟨op_call rfl fun s wx hb hd => ⟨_, _, ex_call2 rfl rfl (enters Try.func5 (by kernel_rfl) rfl _ _) (lit_at 2 80 (by kernel_rfl) (by kernel_rfl) (by kernel_rfl)) (lit_at 5 83 (by kernel_rfl) (by kernel_rfl) (by kernel_rfl)), cTurnP (hd 2 (by kernel_rfl)) (hd 5 (by kernel_rfl)) (by omega) (by omega)⟩, ?_⟩
              refine ⟨op_val rfl fun s wx hb hd => ⟨_, ex_move rfl (lit_out 8 (by kernel_rfl)), rfl⟩, ?_⟩
              refine ⟨op_val rfl fun s wx hb hd => ⟨_, ex_index (k := 1) (.inr rfl) rfl ((lit_at 7 85 (by kernel_rfl) (by kernel_rfl) (by kernel_rfl)).trans (hd 7 (by kernel_rfl))) rfl (by omega), rfl⟩, ?_⟩
              refine ⟨op_val rfl fun s wx hb hd => (load_P rfl ((lit_at 8 86 (by kernel_rfl) (by kernel_rfl) (by kernel_rfl)).trans (hd 8 (by kernel_rfl))) (hH wx hb).p1), ?_⟩
              refine ⟨op_val rfl fun s wx hb hd => ⟨_, ex_move rfl (lit_out 8 (by kernel_rfl)), rfl⟩, ?_⟩
              refine ⟨op_val rfl fun s wx hb hd => ⟨_, ex_index (k := 0) (.inr rfl) rfl ((lit_at 10 88 (by kernel_rfl) (by kernel_rfl) (by kernel_rfl)).trans (hd 10 (by kernel_rfl))) rfl (by omega), rfl⟩, ?_⟩
              refine ⟨op_val rfl fun s wx hb hd => (load_P rfl ((lit_at 11 89 (by kernel_rfl) (by kernel_rfl) (by kernel_rfl)).trans (hd 11 (by kernel_rfl))) (hH wx hb).p0), ?_⟩
              refine ⟨op_call rfl fun s wx hb hd => ⟨_, _, ex_call2 rfl rfl (enters Try.func5 (by kernel_rfl) rfl _ _) (lit_at 9 87 (by kernel_rfl) (by kernel_rfl) (by kernel_rfl)) (lit_at 12 90 (by kernel_rfl) (by kernel_rfl) (by kernel_rfl)), cTurnP (hd 9 (by kernel_rfl)) (hd 12 (by kernel_rfl)) (by omega) (by omega)⟩, ?_⟩
              refine ⟨op_val rfl fun s wx hb hd => (assign_it (O := (V8 (w.heap.size) (r) (q0) (q1)) 14) rfl (lit_at 6 84 (by kernel_rfl) (by kernel_rfl) (by kernel_rfl)) (hd 6 (by kernel_rfl))), ?_⟩
              refine ⟨op_val rfl fun s wx hb hd => (assign_it (O := (V8 (w.heap.size) (r) (q0) (q1)) 15) rfl (lit_at 13 91 (by kernel_rfl) (by kernel_rfl) (by kernel_rfl)) (hd 13 (by kernel_rfl))), ?_⟩
              trivial
            intro s wx hb hV
            have HZ := Lib.hid (show OwnU w.heap.size (turnP q0 q1) (s 14) wx ∧ OwnU w.heap.size (turnP q1 q0) (s 15) wx ∧ OwnT w.heap.size (turnS f0 f1) v9 wx ∧ Held w.heap.size g r f0 f1 q0 q1 q2 wx ∧ Below w.heap.size w wx from ⟨hV 14 (by decide), hV 15 (by decide), h9 wx hb, hH wx hb, HC.out.2.2.2.trans (hb.mono HC.out.2.2.2.size)⟩)
            clear hV hH hb h9 y0 y1 y2 y3 y4
            simp only [litOf, List.map_cons, List.map_nil, Nat.zero_add, Nat.reduceAdd, Act.put, List.setIfInBounds_toArray, List.set_cons_succ, List.set_cons_zero]
            go_wp2_with fail
            go_meet
            case rel => exact HZ.out
          case rest =>
            clear HC
            obtain ⟨wh, rfl⟩ : ∃ x : World, x = wc := ⟨_, rfl⟩
            obtain ⟨v11, rfl⟩ : ∃ x : Value, x = u11 := ⟨_, rfl⟩
            obtain ⟨v12, rfl⟩ : ∃ x : Value, x = u12 := ⟨_, rfl⟩
            have HC := Lib.hid hcut
            clear hcut
            go_upto_region 9 with fail
            go_cut [110] (fun s wx => s = .bool false ∧ OwnU w.heap.size (turnP q0 q1) v11 wx ∧ OwnT w.heap.size (turnS f0 f1) v9 wx ∧ Held w.heap.size g r f0 f1 q0 q1 q2 wx ∧ Below w.heap.size w wx)
            case first =>
              have hH : ∀ wx, Below wh.heap.size wh wx → Held w.heap.size g r f0 f1 q0 q1 q2 wx := fun wx hb => HC.out.2.2.2.1.keep hb
              have h9 : ∀ wx, Below wh.heap.size wh wx → OwnT w.heap.size (turnS f0 f1) v9 wx := fun wx hb => HC.out.2.2.1.keep hb
              have h11 : ∀ wx, Below wh.heap.size wh wx → OwnU w.heap.size (turnP q0 q1) v11 wx := fun wx hb => HC.out.1.keep hb
              have h12 : ∀ wx, Below wh.heap.size wh wx → OwnU w.heap.size (turnP q1 q0) v12 wx := fun wx hb => HC.out.2.1.keep hb
              have hR := HR.out
              obtain ⟨y0, y1, y2, y3, y4⟩ := HF.out
              have t1 := turnP_len q0 q1
              have t2 := turnP_len q1 q0
              have t3 : (applyU q0 (turnP q0 q1)).length ≤ q0.length + (turnP q0 q1).length := applyUTo_len _ _ _
              refine wp_region_lit wh ?_ ?_ ?_ (V9 (w.heap.size) (r) (q0) (q1)) ?_ ?_ ?_
              · kernel_rfl
              · kernel_rfl
              · kernel_rfl
              · intro j v wx wy
                exact V9_keep _ _ _ _ j v wx wy
              · refine ⟨op_val rfl fun s wx hb hd => ⟨_, ex_move rfl (lit_out 8 (by kernel_rfl)), rfl⟩, ?_⟩
                refine ⟨op_val rfl fun s wx hb hd => ⟨_, ex_index (k := 0) (.inr rfl) rfl ((lit_at 0 92 (by kernel_rfl) (by kernel_rfl) (by kernel_rfl)).trans (hd 0 (by kernel_rfl))) rfl (by omega), rfl⟩, ?_⟩
                refine ⟨op_val rfl fun s wx hb hd => (load_P rfl ((lit_at 1 93 (by kernel_rfl) (by kernel_rfl) (by kernel_rfl)).trans (hd 1 (by kernel_rfl))) (hH wx hb).p0), ?_⟩
                refine ⟨op_val rfl fun s wx hb hd => (move_it rfl (lit_out 11 (by kernel_rfl)) (h11 wx hb)), ?_⟩
                refine ⟨op_call rfl fun s wx hb hd => ⟨_, _, ex_call2 rfl rfl (enters Try.func13 (by kernel_rfl) rfl _ _) (lit_at 2 94 (by kernel_rfl) (by kernel_rfl) (by kernel_rfl)) (lit_at 3 95 (by kernel_rfl) (by kernel_rfl) (by kernel_rfl)), cApplyP (hd 2 (by kernel_rfl)) (hd 3 (by kernel_rfl)) (by omega) (by omega)⟩, ?_⟩
                refine ⟨op_val rfl fun s wx hb hd => (move_it rfl (lit_out 12 (by kernel_rfl)) (h12 wx hb)), ?_⟩
                refine ⟨op_call rfl fun s wx hb hd => ⟨_, _, ex_call2 rfl rfl (enters Try.func13 (by kernel_rfl) rfl _ _) (lit_at 4 96 (by kernel_rfl) (by kernel_rfl) (by kernel_rfl)) (lit_at 5 97 (by kernel_rfl) (by kernel_rfl) (by kernel_rfl)), cApplyP (hd 4 (by kernel_rfl)) (hd 5 (by kernel_rfl)) (by omega) (by omega)⟩, ?_⟩
                refine ⟨op_val rfl fun s wx hb hd => ⟨_, ex_move rfl (lit_out 8 (by kernel_rfl)), rfl⟩, ?_⟩
                refine ⟨op_val rfl fun s wx hb hd => ⟨_, ex_index (k := 0) (.inr rfl) rfl ((lit_at 7 99 (by kernel_rfl) (by kernel_rfl) (by kernel_rfl)).trans (hd 7 (by kernel_rfl))) rfl (by omega), rfl⟩, ?_⟩
                refine ⟨op_val rfl fun s wx hb hd => (load_P rfl ((lit_at 8 100 (by kernel_rfl) (by kernel_rfl) (by kernel_rfl)).trans (hd 8 (by kernel_rfl))) (hH wx hb).p0), ?_⟩
                refine ⟨op_call rfl fun s wx hb hd => ⟨_, _, ex_call2 rfl rfl (enters Try.func14 (by kernel_rfl) rfl _ _) (lit_at 6 98 (by kernel_rfl) (by kernel_rfl) (by kernel_rfl)) (lit_at 9 101 (by kernel_rfl) (by kernel_rfl) (by kernel_rfl)), cSameP (hd 6 (by kernel_rfl)) (hd 9 (by kernel_rfl)) (turnP_back hR.1 hR.2.1) (by rw [turnP_back hR.1 hR.2.1]; omega)⟩, ?_⟩
                refine ⟨op_val rfl fun s wx hb hd => ⟨_, ex_not rfl ((lit_at 10 102 (by kernel_rfl) (by kernel_rfl) (by kernel_rfl)).trans (hd 10 (by kernel_rfl))), rfl⟩, ?_⟩
                refine ⟨op_val rfl fun s wx hb hd => ⟨_, ex_move rfl ((lit_at 11 103 (by kernel_rfl) (by kernel_rfl) (by kernel_rfl)).trans (hd 11 (by kernel_rfl))), rfl⟩, ?_⟩
                refine ⟨op_guarded 12 false 104 ?_ ?_ ?_ ?_ ?_ ?_, ?_⟩
                · kernel_rfl
                · kernel_rfl
                · kernel_rfl
                · exact fun s => lit_at 12 104 (by kernel_rfl) (by kernel_rfl) (by kernel_rfl)
                · exact fun _ _ h => h
                · exact fun s wx hb hd => .inl (move_it rfl (lit_out 11 (by kernel_rfl)) (h11 wx hb))
                refine ⟨op_guarded 12 false 104 ?_ ?_ ?_ ?_ ?_ ?_, ?_⟩
                · kernel_rfl
                · kernel_rfl
                · kernel_rfl
                · exact fun s => lit_at 12 104 (by kernel_rfl) (by kernel_rfl) (by kernel_rfl)
                · exact fun _ _ h => h
                · exact fun s wx hb hd => .inl ⟨_, len_U rfl rfl (lit_at 13 105 (by kernel_rfl) (by kernel_rfl) (by kernel_rfl)) (hd 13 (by kernel_rfl)), rfl⟩
                refine ⟨op_guarded 12 false 104 ?_ ?_ ?_ ?_ ?_ ?_, ?_⟩
                · kernel_rfl
                · kernel_rfl
                · kernel_rfl
                · exact fun s => lit_at 12 104 (by kernel_rfl) (by kernel_rfl) (by kernel_rfl)
                · exact fun _ _ h => h
                · exact fun s wx hb hd => .inl (move_it rfl (lit_out 12 (by kernel_rfl)) (h12 wx hb))
                refine ⟨op_guarded 12 false 104 ?_ ?_ ?_ ?_ ?_ ?_, ?_⟩
                · kernel_rfl
                · kernel_rfl
                · kernel_rfl
                · exact fun s => lit_at 12 104 (by kernel_rfl) (by kernel_rfl) (by kernel_rfl)
                · exact fun _ _ h => h
                · exact fun s wx hb hd => .inl ⟨_, len_U rfl rfl (lit_at 15 107 (by kernel_rfl) (by kernel_rfl) (by kernel_rfl)) (hd 15 (by kernel_rfl)), rfl⟩
                refine ⟨op_guarded 12 false 104 ?_ ?_ ?_ ?_ ?_ ?_, ?_⟩
                · kernel_rfl
                · kernel_rfl
                · kernel_rfl
                · exact fun s => lit_at 12 104 (by kernel_rfl) (by kernel_rfl) (by kernel_rfl)
                · exact fun _ _ h => h
                · exact fun s wx hb hd => .inl ⟨_, ex_neq rfl ((lit_at 14 106 (by kernel_rfl) (by kernel_rfl) (by kernel_rfl)).trans (hd 14 (by kernel_rfl))) (((lit_at 16 108 (by kernel_rfl) (by kernel_rfl) (by kernel_rfl)).trans (hd 16 (by kernel_rfl))).trans (congrArg (fun n : Nat => Value.int .i64 n) (turnP_sym hR.1 hR.2.1).symm)), rfl⟩
                refine ⟨op_val rfl fun s wx hb hd => ⟨_, ex_pickF rfl ((lit_at 12 104 (by kernel_rfl) (by kernel_rfl) (by kernel_rfl)).trans (hd 12 (by kernel_rfl))) ((lit_at 17 109 (by kernel_rfl) (by kernel_rfl) (by kernel_rfl)).trans (hd 17 (by kernel_rfl))), rfl⟩, ?_⟩
                trivial
              intro s wx hb hV
              have HZ := Lib.hid (show s 18 = .bool false ∧ OwnU w.heap.size (turnP q0 q1) v11 wx ∧ OwnT w.heap.size (turnS f0 f1) v9 wx ∧ Held w.heap.size g r f0 f1 q0 q1 q2 wx ∧ Below w.heap.size w wx from ⟨hV 18 (by decide), h11 wx hb, h9 wx hb, hH wx hb, HC.out.2.2.2.2.trans (hb.mono HC.out.2.2.2.2.size)⟩)
              clear hV hH hb h9 h11 h12 hR y0 y1 y2 y3 y4 t1 t2 t3
              simp only [litOf, List.map_cons, List.map_nil, Nat.zero_add, Nat.reduceAdd, Act.put, List.setIfInBounds_toArray, List.set_cons_succ, List.set_cons_zero]
              go_wp2_with fail
              go_meet
              case rel => exact HZ.out
            case rest =>
              clear HC
              obtain ⟨rfl, hcut⟩ := hcut
              obtain ⟨wi, rfl⟩ : ∃ x : World, x = wc := ⟨_, rfl⟩
              have HC := Lib.hid hcut
              clear hcut
              go_upto_region 11 with fail
              go_cut [6] (fun s wx => s = .bool true ∧ Below w.heap.size w wx)
              case first =>
                have hH : ∀ wx, Below wi.heap.size wi wx → Held w.heap.size g r f0 f1 q0 q1 q2 wx := fun wx hb => HC.out.2.2.1.keep hb
                have h9 : ∀ wx, Below wi.heap.size wi wx → OwnT w.heap.size (turnS f0 f1) v9 wx := fun wx hb => HC.out.2.1.keep hb
                have h11 : ∀ wx, Below wi.heap.size wi wx → OwnU w.heap.size (turnP q0 q1) v11 wx := fun wx hb => HC.out.1.keep hb
                have hR := HR.out
                obtain ⟨y0, y1, y2, y3, y4⟩ := HF.out
                have t1 := turnP_len q0 q1
                have t2 := turnP_len q0 q2
                have t3 := turnP_len q2 q1
                have t4 := cleanS_len f0
                have t5 := cleanS_len f1
                refine wp_region_lit wi ?_ ?_ ?_ (VB (w.heap.size) (g) (r) (f0) (f1) (q0) (q1) (q2)) ?_ ?_ ?_
                · kernel_rfl
                · kernel_rfl
                · kernel_rfl
                · intro j v wx wy
                  exact VB_keep _ _ _ _ _ _ _ _ j v wx wy
                · refine ⟨op_val rfl fun s wx hb hd => (move_it rfl (lit_out 11 (by kernel_rfl)) (h11 wx hb)), ?_⟩
                  refine ⟨op_val rfl fun s wx hb hd => ⟨_, len_U rfl rfl (lit_at 0 111 (by kernel_rfl) (by kernel_rfl) (by kernel_rfl)) (hd 0 (by kernel_rfl)), rfl⟩, ?_⟩
                  refine ⟨op_val rfl fun s wx hb hd => ⟨_, ex_move rfl (lit_out 8 (by kernel_rfl)), rfl⟩, ?_⟩
                  refine ⟨op_val rfl fun s wx hb hd => ⟨_, ex_index (k := 0) (.inr rfl) rfl ((lit_at 2 113 (by kernel_rfl) (by kernel_rfl) (by kernel_rfl)).trans (hd 2 (by kernel_rfl))) rfl (by omega), rfl⟩, ?_⟩
                  refine ⟨op_val rfl fun s wx hb hd => (load_P rfl ((lit_at 3 114 (by kernel_rfl) (by kernel_rfl) (by kernel_rfl)).trans (hd 3 (by kernel_rfl))) (hH wx hb).p0), ?_⟩
                  refine ⟨op_val rfl fun s wx hb hd => ⟨_, ex_move rfl (lit_out 8 (by kernel_rfl)), rfl⟩, ?_⟩
                  refine ⟨op_val rfl fun s wx hb hd => ⟨_, ex_index (k := 2) (.inr rfl) rfl ((lit_at 5 116 (by kernel_rfl) (by kernel_rfl) (by kernel_rfl)).trans (hd 5 (by kernel_rfl))) rfl (by omega), rfl⟩, ?_⟩
                  refine ⟨op_val rfl fun s wx hb hd => (load_P rfl ((lit_at 6 117 (by kernel_rfl) (by kernel_rfl) (by kernel_rfl)).trans (hd 6 (by kernel_rfl))) (hH wx hb).p2), ?_⟩
                  refine ⟨op_call rfl fun s wx hb hd => ⟨_, _, ex_call2 rfl rfl (enters Try.func5 (by kernel_rfl) rfl _ _) (lit_at 4 115 (by kernel_rfl) (by kernel_rfl) (by kernel_rfl)) (lit_at 7 118 (by kernel_rfl) (by kernel_rfl) (by kernel_rfl)), cTurnP (hd 4 (by kernel_rfl)) (hd 7 (by kernel_rfl)) (by omega) (by omega)⟩, ?_⟩
                  refine ⟨op_val rfl fun s wx hb hd => ⟨_, len_U rfl rfl (lit_at 8 119 (by kernel_rfl) (by kernel_rfl) (by kernel_rfl)) (hd 8 (by kernel_rfl)), rfl⟩, ?_⟩
                  refine ⟨op_val rfl fun s wx hb hd => ⟨_, ex_move rfl (lit_out 8 (by kernel_rfl)), rfl⟩, ?_⟩
                  refine ⟨op_val rfl fun s wx hb hd => ⟨_, ex_index (k := 2) (.inr rfl) rfl ((lit_at 10 121 (by kernel_rfl) (by kernel_rfl) (by kernel_rfl)).trans (hd 10 (by kernel_rfl))) rfl (by omega), rfl⟩, ?_⟩
                  refine ⟨op_val rfl fun s wx hb hd => (load_P rfl ((lit_at 11 122 (by kernel_rfl) (by kernel_rfl) (by kernel_rfl)).trans (hd 11 (by kernel_rfl))) (hH wx hb).p2), ?_⟩
                  refine ⟨op_val rfl fun s wx hb hd => ⟨_, ex_move rfl (lit_out 8 (by kernel_rfl)), rfl⟩, ?_⟩
                  refine ⟨op_val rfl fun s wx hb hd => ⟨_, ex_index (k := 1) (.inr rfl) rfl ((lit_at 13 124 (by kernel_rfl) (by kernel_rfl) (by kernel_rfl)).trans (hd 13 (by kernel_rfl))) rfl (by omega), rfl⟩, ?_⟩
                  refine ⟨op_val rfl fun s wx hb hd => (load_P rfl ((lit_at 14 125 (by kernel_rfl) (by kernel_rfl) (by kernel_rfl)).trans (hd 14 (by kernel_rfl))) (hH wx hb).p1), ?_⟩
                  refine ⟨op_call rfl fun s wx hb hd => ⟨_, _, ex_call2 rfl rfl (enters Try.func5 (by kernel_rfl) rfl _ _) (lit_at 12 123 (by kernel_rfl) (by kernel_rfl) (by kernel_rfl)) (lit_at 15 126 (by kernel_rfl) (by kernel_rfl) (by kernel_rfl)), cTurnP (hd 12 (by kernel_rfl)) (hd 15 (by kernel_rfl)) (by omega) (by omega)⟩, ?_⟩
                  refine ⟨op_val rfl fun s wx hb hd => ⟨_, len_U rfl rfl (lit_at 16 127 (by kernel_rfl) (by kernel_rfl) (by kernel_rfl)) (hd 16 (by kernel_rfl)), rfl⟩, ?_⟩
                  refine ⟨op_val rfl fun s wx hb hd => ⟨_, ex_add rfl ((lit_at 9 120 (by kernel_rfl) (by kernel_rfl) (by kernel_rfl)).trans (hd 9 (by kernel_rfl))) ((lit_at 17 128 (by kernel_rfl) (by kernel_rfl) (by kernel_rfl)).trans (hd 17 (by kernel_rfl))) (by omega) (by omega), rfl⟩, ?_⟩
                  refine ⟨op_val rfl fun s wx hb hd => ⟨_, ex_leq rfl ((lit_at 1 112 (by kernel_rfl) (by kernel_rfl) (by kernel_rfl)).trans (hd 1 (by kernel_rfl))) ((lit_at 18 129 (by kernel_rfl) (by kernel_rfl) (by kernel_rfl)).trans (hd 18 (by kernel_rfl))) (by have := turnP_via hR.1 hR.2.1 hR.2.2; omega), rfl⟩, ?_⟩
                  refine ⟨op_val rfl fun s wx hb hd => ⟨_, ex_move rfl ((lit_at 19 130 (by kernel_rfl) (by kernel_rfl) (by kernel_rfl)).trans (hd 19 (by kernel_rfl))), rfl⟩, ?_⟩
                  refine ⟨op_guarded 20 true 131 ?_ ?_ ?_ ?_ ?_ ?_, ?_⟩
                  · kernel_rfl
                  · kernel_rfl
                  · kernel_rfl
                  · exact fun s => lit_at 20 131 (by kernel_rfl) (by kernel_rfl) (by kernel_rfl)
                  · exact fun _ _ h => h
                  · exact fun s wx hb hd => .inl ⟨_, ex_move rfl (lit_out 7 (by kernel_rfl)), rfl⟩
                  refine ⟨op_guarded 20 true 131 ?_ ?_ ?_ ?_ ?_ ?_, ?_⟩
                  · kernel_rfl
                  · kernel_rfl
                  · kernel_rfl
                  · exact fun s => lit_at 20 131 (by kernel_rfl) (by kernel_rfl) (by kernel_rfl)
                  · exact fun _ _ h => h
                  · exact fun s wx hb hd => .inl ⟨_, ex_index (k := 0) (.inl rfl) rfl ((lit_at 21 132 (by kernel_rfl) (by kernel_rfl) (by kernel_rfl)).trans (hd 21 (by kernel_rfl))) rfl (by omega), rfl⟩
                  refine ⟨op_guarded 20 true 131 ?_ ?_ ?_ ?_ ?_ ?_, ?_⟩
                  · kernel_rfl
                  · kernel_rfl
                  · kernel_rfl
                  · exact fun s => lit_at 20 131 (by kernel_rfl) (by kernel_rfl) (by kernel_rfl)
                  · exact fun _ _ h => h
                  · exact fun s wx hb hd => .inl (load_S rfl ((lit_at 22 133 (by kernel_rfl) (by kernel_rfl) (by kernel_rfl)).trans (hd 22 (by kernel_rfl))) (hH wx hb).s0)
                  refine ⟨op_guarded 20 true 131 ?_ ?_ ?_ ?_ ?_ ?_, ?_⟩
                  · kernel_rfl
                  · kernel_rfl
                  · kernel_rfl
                  · exact fun s => lit_at 20 131 (by kernel_rfl) (by kernel_rfl) (by kernel_rfl)
                  · exact fun _ _ h => h
                  · exact fun s wx hb hd => .inl ⟨_, ex_move rfl (lit_out 7 (by kernel_rfl)), rfl⟩
                  refine ⟨op_guarded 20 true 131 ?_ ?_ ?_ ?_ ?_ ?_, ?_⟩
                  · kernel_rfl
                  · kernel_rfl
                  · kernel_rfl
                  · exact fun s => lit_at 20 131 (by kernel_rfl) (by kernel_rfl) (by kernel_rfl)
                  · exact fun _ _ h => h
                  · exact fun s wx hb hd => .inl ⟨_, ex_index (k := 0) (.inl rfl) rfl ((lit_at 24 135 (by kernel_rfl) (by kernel_rfl) (by kernel_rfl)).trans (hd 24 (by kernel_rfl))) rfl (by omega), rfl⟩
                  refine ⟨op_guarded 20 true 131 ?_ ?_ ?_ ?_ ?_ ?_, ?_⟩
                  · kernel_rfl
                  · kernel_rfl
                  · kernel_rfl
                  · exact fun s => lit_at 20 131 (by kernel_rfl) (by kernel_rfl) (by kernel_rfl)
                  · exact fun _ _ h => h
                  · exact fun s wx hb hd => .inl (load_S rfl ((lit_at 25 136 (by kernel_rfl) (by kernel_rfl) (by kernel_rfl)).trans (hd 25 (by kernel_rfl))) (hH wx hb).s0)
                  refine ⟨op_guarded 20 true 131 ?_ ?_ ?_ ?_ ?_ ?_, ?_⟩
                  · kernel_rfl
                  · kernel_rfl
                  · kernel_rfl
                  · exact fun s => lit_at 20 131 (by kernel_rfl) (by kernel_rfl) (by kernel_rfl)
                  · exact fun _ _ h => h
                  · exact fun s wx hb hd => .inr ⟨_, _, ex_call2 rfl rfl (enters Try.func4 (by kernel_rfl) rfl _ _) (lit_at 23 134 (by kernel_rfl) (by kernel_rfl) (by kernel_rfl)) (lit_at 26 137 (by kernel_rfl) (by kernel_rfl) (by kernel_rfl)), cTurn (hd 23 (by kernel_rfl)) (hd 26 (by kernel_rfl)) (by omega) (by omega)⟩
                  refine ⟨op_guarded 20 true 131 ?_ ?_ ?_ ?_ ?_ ?_, ?_⟩
                  · kernel_rfl
                  · kernel_rfl
                  · kernel_rfl
                  · exact fun s => lit_at 20 131 (by kernel_rfl) (by kernel_rfl) (by kernel_rfl)
                  · exact fun _ _ h => h
                  · exact fun s wx hb hd => .inl ⟨_, len_T rfl rfl (lit_at 27 138 (by kernel_rfl) (by kernel_rfl) (by kernel_rfl)) (hd 27 (by kernel_rfl)), rfl⟩
                  refine ⟨op_guarded 20 true 131 ?_ ?_ ?_ ?_ ?_ ?_, ?_⟩
                  · kernel_rfl
                  · kernel_rfl
                  · kernel_rfl
                  · exact fun s => lit_at 20 131 (by kernel_rfl) (by kernel_rfl) (by kernel_rfl)
                  · exact fun _ _ h => h
                  · exact fun s wx hb hd => .inl ⟨_, ex_eql rfl (((lit_at 28 139 (by kernel_rfl) (by kernel_rfl) (by kernel_rfl)).trans (hd 28 (by kernel_rfl))).trans (show Value.int .i64 ((turnS f0 f0).length : Nat) = Value.int .i64 ((0 : Nat) : Int) by rw [turnS_self])) rfl, rfl⟩
                  refine ⟨op_val rfl fun s wx hb hd => ⟨_, ex_pickT rfl ((lit_at 20 131 (by kernel_rfl) (by kernel_rfl) (by kernel_rfl)).trans (hd 20 (by kernel_rfl))) ((lit_at 29 140 (by kernel_rfl) (by kernel_rfl) (by kernel_rfl)).trans (hd 29 (by kernel_rfl))), rfl⟩, ?_⟩
                  refine ⟨op_val rfl fun s wx hb hd => ⟨_, ex_move rfl ((lit_at 30 141 (by kernel_rfl) (by kernel_rfl) (by kernel_rfl)).trans (hd 30 (by kernel_rfl))), rfl⟩, ?_⟩
                  refine ⟨op_guarded 31 true 142 ?_ ?_ ?_ ?_ ?_ ?_, ?_⟩
                  · kernel_rfl
                  · kernel_rfl
                  · kernel_rfl
                  · exact fun s => lit_at 31 142 (by kernel_rfl) (by kernel_rfl) (by kernel_rfl)
                  · exact fun _ _ h => h
                  · exact fun s wx hb hd => .inl (move_it rfl (lit_out 9 (by kernel_rfl)) (h9 wx hb))
                  refine ⟨op_guarded 31 true 142 ?_ ?_ ?_ ?_ ?_ ?_, ?_⟩
                  · kernel_rfl
                  · kernel_rfl
                  · kernel_rfl
                  · exact fun s => lit_at 31 142 (by kernel_rfl) (by kernel_rfl) (by kernel_rfl)
                  · exact fun _ _ h => h
                  · exact fun s wx hb hd => .inl ⟨_, len_T rfl rfl (lit_at 32 143 (by kernel_rfl) (by kernel_rfl) (by kernel_rfl)) (hd 32 (by kernel_rfl)), rfl⟩
                  refine ⟨op_guarded 31 true 142 ?_ ?_ ?_ ?_ ?_ ?_, ?_⟩
                  · kernel_rfl
                  · kernel_rfl
                  · kernel_rfl
                  · exact fun s => lit_at 31 142 (by kernel_rfl) (by kernel_rfl) (by kernel_rfl)
                  · exact fun _ _ h => h
                  · exact fun s wx hb hd => .inl ⟨_, ex_move rfl (lit_out 7 (by kernel_rfl)), rfl⟩
                  refine ⟨op_guarded 31 true 142 ?_ ?_ ?_ ?_ ?_ ?_, ?_⟩
                  · kernel_rfl
                  · kernel_rfl
                  · kernel_rfl
                  · exact fun s => lit_at 31 142 (by kernel_rfl) (by kernel_rfl) (by kernel_rfl)
                  · exact fun _ _ h => h
                  · exact fun s wx hb hd => .inl ⟨_, ex_index (k := 0) (.inl rfl) rfl ((lit_at 34 145 (by kernel_rfl) (by kernel_rfl) (by kernel_rfl)).trans (hd 34 (by kernel_rfl))) rfl (by omega), rfl⟩
                  refine ⟨op_guarded 31 true 142 ?_ ?_ ?_ ?_ ?_ ?_, ?_⟩
                  · kernel_rfl
                  · kernel_rfl
                  · kernel_rfl
                  · exact fun s => lit_at 31 142 (by kernel_rfl) (by kernel_rfl) (by kernel_rfl)
                  · exact fun _ _ h => h
                  · exact fun s wx hb hd => .inl (load_S rfl ((lit_at 35 146 (by kernel_rfl) (by kernel_rfl) (by kernel_rfl)).trans (hd 35 (by kernel_rfl))) (hH wx hb).s0)
                  refine ⟨op_guarded 31 true 142 ?_ ?_ ?_ ?_ ?_ ?_, ?_⟩
                  · kernel_rfl
                  · kernel_rfl
                  · kernel_rfl
                  · exact fun s => lit_at 31 142 (by kernel_rfl) (by kernel_rfl) (by kernel_rfl)
                  · exact fun _ _ h => h
                  · exact fun s wx hb hd => .inr ⟨_, _, ex_call1 rfl rfl (enters Try.func12 (by kernel_rfl) rfl _ _) (lit_at 36 147 (by kernel_rfl) (by kernel_rfl) (by kernel_rfl)), cClean (hd 36 (by kernel_rfl)) (by omega)⟩
                  refine ⟨op_guarded 31 true 142 ?_ ?_ ?_ ?_ ?_ ?_, ?_⟩
                  · kernel_rfl
                  · kernel_rfl
                  · kernel_rfl
                  · exact fun s => lit_at 31 142 (by kernel_rfl) (by kernel_rfl) (by kernel_rfl)
                  · exact fun _ _ h => h
                  · exact fun s wx hb hd => .inl ⟨_, len_S rfl rfl (lit_at 37 148 (by kernel_rfl) (by kernel_rfl) (by kernel_rfl)) (hd 37 (by kernel_rfl)), rfl⟩
                  refine ⟨op_guarded 31 true 142 ?_ ?_ ?_ ?_ ?_ ?_, ?_⟩
                  · kernel_rfl
                  · kernel_rfl
                  · kernel_rfl
                  · exact fun s => lit_at 31 142 (by kernel_rfl) (by kernel_rfl) (by kernel_rfl)
                  · exact fun _ _ h => h
                  · exact fun s wx hb hd => .inl ⟨_, ex_move rfl (lit_out 7 (by kernel_rfl)), rfl⟩
                  refine ⟨op_guarded 31 true 142 ?_ ?_ ?_ ?_ ?_ ?_, ?_⟩
                  · kernel_rfl
                  · kernel_rfl
                  · kernel_rfl
                  · exact fun s => lit_at 31 142 (by kernel_rfl) (by kernel_rfl) (by kernel_rfl)
                  · exact fun _ _ h => h
                  · exact fun s wx hb hd => .inl ⟨_, ex_index (k := 1) (.inl rfl) rfl ((lit_at 39 150 (by kernel_rfl) (by kernel_rfl) (by kernel_rfl)).trans (hd 39 (by kernel_rfl))) rfl (by omega), rfl⟩
                  refine ⟨op_guarded 31 true 142 ?_ ?_ ?_ ?_ ?_ ?_, ?_⟩
                  · kernel_rfl
                  · kernel_rfl
                  · kernel_rfl
                  · exact fun s => lit_at 31 142 (by kernel_rfl) (by kernel_rfl) (by kernel_rfl)
                  · exact fun _ _ h => h
                  · exact fun s wx hb hd => .inl (load_S rfl ((lit_at 40 151 (by kernel_rfl) (by kernel_rfl) (by kernel_rfl)).trans (hd 40 (by kernel_rfl))) (hH wx hb).s1)
                  refine ⟨op_guarded 31 true 142 ?_ ?_ ?_ ?_ ?_ ?_, ?_⟩
                  · kernel_rfl
                  · kernel_rfl
                  · kernel_rfl
                  · exact fun s => lit_at 31 142 (by kernel_rfl) (by kernel_rfl) (by kernel_rfl)
                  · exact fun _ _ h => h
                  · exact fun s wx hb hd => .inr ⟨_, _, ex_call1 rfl rfl (enters Try.func12 (by kernel_rfl) rfl _ _) (lit_at 41 152 (by kernel_rfl) (by kernel_rfl) (by kernel_rfl)), cClean (hd 41 (by kernel_rfl)) (by omega)⟩
                  refine ⟨op_guarded 31 true 142 ?_ ?_ ?_ ?_ ?_ ?_, ?_⟩
                  · kernel_rfl
                  · kernel_rfl
                  · kernel_rfl
                  · exact fun s => lit_at 31 142 (by kernel_rfl) (by kernel_rfl) (by kernel_rfl)
                  · exact fun _ _ h => h
                  · exact fun s wx hb hd => .inl ⟨_, len_S rfl rfl (lit_at 42 153 (by kernel_rfl) (by kernel_rfl) (by kernel_rfl)) (hd 42 (by kernel_rfl)), rfl⟩
                  refine ⟨op_guarded 31 true 142 ?_ ?_ ?_ ?_ ?_ ?_, ?_⟩
                  · kernel_rfl
                  · kernel_rfl
                  · kernel_rfl
                  · exact fun s => lit_at 31 142 (by kernel_rfl) (by kernel_rfl) (by kernel_rfl)
                  · exact fun _ _ h => h
                  · exact fun s wx hb hd => .inl ⟨_, ex_add rfl ((lit_at 38 149 (by kernel_rfl) (by kernel_rfl) (by kernel_rfl)).trans (hd 38 (by kernel_rfl))) ((lit_at 43 154 (by kernel_rfl) (by kernel_rfl) (by kernel_rfl)).trans (hd 43 (by kernel_rfl))) (by omega) (by omega), rfl⟩
                  refine ⟨op_guarded 31 true 142 ?_ ?_ ?_ ?_ ?_ ?_, ?_⟩
                  · kernel_rfl
                  · kernel_rfl
                  · kernel_rfl
                  · exact fun s => lit_at 31 142 (by kernel_rfl) (by kernel_rfl) (by kernel_rfl)
                  · exact fun _ _ h => h
                  · exact fun s wx hb hd => .inl ⟨_, ex_leq rfl ((lit_at 33 144 (by kernel_rfl) (by kernel_rfl) (by kernel_rfl)).trans (hd 33 (by kernel_rfl))) ((lit_at 44 155 (by kernel_rfl) (by kernel_rfl) (by kernel_rfl)).trans (hd 44 (by kernel_rfl))) (by have := turnS_len f0 f1; omega), rfl⟩
                  refine ⟨op_val rfl fun s wx hb hd => ⟨_, ex_pickT rfl ((lit_at 31 142 (by kernel_rfl) (by kernel_rfl) (by kernel_rfl)).trans (hd 31 (by kernel_rfl))) ((lit_at 45 156 (by kernel_rfl) (by kernel_rfl) (by kernel_rfl)).trans (hd 45 (by kernel_rfl))), rfl⟩, ?_⟩
                  refine ⟨op_val rfl fun s wx hb hd => (assign_it (O := (VB (w.heap.size) (g) (r) (f0) (f1) (q0) (q1) (q2)) 47) rfl (lit_at 46 157 (by kernel_rfl) (by kernel_rfl) (by kernel_rfl)) (hd 46 (by kernel_rfl))), ?_⟩
                  trivial
                intro s wx hb hV
                have HZ := Lib.hid (show s 47 = .bool true ∧ Below w.heap.size w wx from ⟨hV 47 (by decide), HC.out.2.2.2.trans (hb.mono HC.out.2.2.2.size)⟩)
                clear hV hH hb h9 h11 hR y0 y1 y2 y3 y4 t1 t2 t3 t4 t5
                simp only [litOf, List.map_cons, List.map_nil, Nat.zero_add, Nat.reduceAdd, Act.put, List.setIfInBounds_toArray, List.set_cons_succ, List.set_cons_zero]
                go_wp2_with fail
                go_meet
                case rel => exact HZ.out
              case rest =>
                obtain ⟨rfl, hcut⟩ := hcut
                have HE := Lib.hid hcut
                clear hcut HC
                go_wp2
                go_ret
                exact ⟨rfl, HE.out⟩

end Go.Proofs.Ytjedjplpbgnpmaa
