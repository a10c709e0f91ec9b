/-
  The walks over stand and once of the statement.
-/
import Derived.Test.YtgopokoghnfgiaaGroupB
import Derived.Deep.RegionHeld3
namespace Go.Proofs.Ytgopokoghnfgiaa
open Go.RowKit
attribute [local go_sem ↓] Go.wp_at_zero Go.wp_at_succ

/-- Who is alive. -/
def aliveTo (l : List Mb) : Nat → List Int
  | 0 => []
  | k + 1 => if (l.getD k mb0).2.2 = true then aliveTo l k else aliveTo l k ++ [(l.getD k mb0).1]
def aliveS (l : List Mb) : List Int := aliveTo l l.length
theorem aliveTo_len (l : List Mb) (k : Nat) : (aliveTo l k).length ≤ k := by
  induction k with
  | zero => exact Nat.zero_le _
  | succ k ih =>
    rw [aliveTo]
    split
    · omega
    · simp; exact ih
/-- Do ghosts stand as they did? -/
def Stands (was now : List Mb) : Prop := ∀ k, k < now.length → (now.getD k mb0).2.2 = true → ∀ r r', IsNear (ids was) (aliveS now) (now.getD k mb0).1 r → IsNear (ids now) (aliveS now) (now.getD k mb0).1 r' → r = r'

set_option maxRecDepth 100000 in
set_option maxHeartbeats 16000000 in
theorem stand_any (A B : Option Addr) (n c m c' : Nat) (was now : List Mb) (w : World) (hz : Ms w w.heap.size A n was) (hz' : Ms w w.heap.size B m now) (hn : n ≤ 1000) (hm : m ≤ 1000) (hs : Stands was now) :
    Calls Try.prog 32 #[.slice A n c, .slice B m c'] w fun e w' => e = .returned (.bool true) ∧ Below w.heap.size w w' := by
  obtain ⟨tr, hi, hz0, hz1, hz2⟩ := info_parts winfo
  have HZ := Lib.hid (And.intro hz (And.intro hz' hs))
  clear hz hz' hs
  go_enter Try.func32, Try.ntmps32
  go_upto_region 3 with fail
  have h0 : (w.alloc (.cells #[] 3)).ownsRow w.heap.size 3 1 (.slice (some ⟨w.heap.size, 0, none⟩) 0 0) 0 [] := World.ownsRow_made w #[] 0 (Nat.le_refl _) (Nat.zero_le _) rfl
  obtain ⟨v0, hv0⟩ : ∃ v0, v0 = Value.slice (some ⟨w.heap.size, 0, none⟩) 0 0 := ⟨_, rfl⟩
  rw [← hv0] at h0 ⊢
  have H0 := Lib.hid h0
  clear h0 hv0
  go_loopw [5, 13] (fun vo i wx => ∃ k : Nat, k ≤ m ∧ i = .int .i64 k ∧ wx.ownsRow w.heap.size 3 1 vo (aliveTo now k).length (nums (aliveTo now k)) ∧ Below w.heap.size w wx) (fun _ i _ => m - (intOf i).toNat)
  case atStart => exact ⟨0, Nat.zero_le _, rfl, H0.out, (Below.refl _ _).alloc (Nat.le_refl _) _⟩
  case round =>
    obtain ⟨k, hk, rfl, hown, hb⟩ := hrel
    obtain ⟨vo, hvo⟩ : ∃ vo, vo = u5 := ⟨_, rfl⟩
    rw [← hvo] at hown ⊢
    clear hvo
    by_cases hlt : k < m
    · as_aux_lemma =>
      obtain ⟨b, off, rfl, hbB, d0, d1, d2⟩ := HZ.out.2.1.mb k hlt
      replace d0 := (hb.cell (p := ⟨b, off + k * 3, none⟩) hbB).trans d0
      replace d1 := (hb.cell (p := ⟨b, off + k * 3 + 1, none⟩) hbB).trans d1
      replace d2 := (hb.cell (p := ⟨b, off + k * 3 + 2, none⟩) hbB).trans d2
      have HAT := Lib.hid (show aliveTo now (k + 1) = if (now.getD k mb0).2.2 = true then aliveTo now k else aliveTo now k ++ [(now.getD k mb0).1] from rfl)
      obtain ⟨⟨a, s, gh⟩, hm0⟩ : ∃ z, z = now.getD k mb0 := ⟨_, rfl⟩
      obtain ⟨o, ho⟩ : ∃ o, o = aliveTo now k := ⟨_, rfl⟩
      have hol : o.length ≤ k := by rw [ho]; exact aliveTo_len now k
      rw [← hm0] at d0 d1 d2 HAT
      rw [← ho] at hown HAT
      simp only at d0 d1 d2 HAT
      have i1 : (0 : Int) ≤ (k : Int) := by omega
      have i2 : (k : Int) < (m : Int) := by omega
      have hown1 := hown.alloc (.cells #[.int .i64 a, .string s, .bool gh] 59)
      have hb1 := hb.alloc hb.size (.cells #[.int .i64 a, .string s, .bool gh] 59)
      have HO := Lib.hid (And.intro hown1 hb1)
      clear hm0 ho hown hb hown1 hb1
      cases gh
      · have HAT2 := Lib.hid (show aliveTo now (k + 1) = o ++ [a] by rw [HAT.out]; rfl)
        go_wp2_with (first
          | (at_builtin; refine wpList_append_lies _ rfl _ _ _ rfl w.heap.size 3 tr _ 1 8 Try.underlying30 hi hz0 hz1 hz2 rfl (by decide) _ o.length (nums o) rfl (HO.out.1.alloc _) _ 1 1 [.int .i64 a] rfl rfl (World.news_of_block (blk_new2 _ _ _ _)) (by intro u hu; simp at hu; subst hu; rfl) (by omega) (by unfold maxLen; omega) (by omega) (by have := HO.out.2.size; simp at this; simp; omega) _ rfl ?_; intro g2 cap2 w4 hown2 hg2 hat2 hlt2; have HX := Lib.hid (And.intro hown2 ((HO.out.2.alloc HO.out.2.size _).grown hg2 (HO.out.2.alloc HO.out.2.size _).size (fun j hj => (HO.out.1.lt j hj).1))); clear hown2 hg2 hat2 hlt2))
        go_roundw
        case rel => exact ⟨k + 1, by omega, by go_num, by rw [HAT2.out, nums_snoc, List.length_append]; exact HX.out.1, HX.out.2⟩
        case measure => simp [intOf]; omega
      · have HAT2 := Lib.hid (show aliveTo now (k + 1) = o by rw [HAT.out]; rfl)
        go_wp2
        go_roundw
        case rel => exact ⟨k + 1, by omega, by go_num, by rw [HAT2.out]; exact HO.out.1, HO.out.2⟩
        case measure => simp [intOf]; omega
    · obtain rfl : k = m := by omega
      have HAS := Lib.hid (show aliveTo now k = aliveS now by rw [aliveS, HZ.out.2.1.1])
      rw [HAS.out] at hown
      obtain ⟨al, hal⟩ : ∃ al, al = aliveS now := ⟨_, rfl⟩
      have hal1 : al.length ≤ k := by rw [hal, ← HAS.out]; exact aliveTo_len now k
      rw [← hal] at hown
      obtain ⟨A1, c1, hv⟩ := own_form hown
      subst hv
      obtain ⟨na, hna⟩ : ∃ na, na = al.length := ⟨_, rfl⟩
      have HAL := Lib.hid (And.intro hal hna)
      have HW := Lib.hid (And.intro (Nums.of_own hown rfl) (And.intro ((HZ.out.1.below hb).more hb.size) (And.intro ((HZ.out.2.1.below hb).more hb.size) hb)))
      rw [← hna] at HW hal1 ⊢
      clear hown hb H0 hal hna
      obtain ⟨wq, hwq⟩ : ∃ wq : World, wq = wr := ⟨_, rfl⟩
      rw [← hwq] at HW ⊢
      clear hwq
      go_wp2_with fail
      go_loopw [28] (fun i wx => ∃ r : Nat, r ≤ k ∧ i = .int .i64 r ∧ Below wq.heap.size wq wx) (fun i _ => k - (intOf i).toNat)
      case atStart => exact ⟨0, Nat.zero_le _, rfl, Below.refl _ _⟩
      case round =>
        obtain ⟨r, hr, rfl, hb⟩ := hrel
        by_cases hlr : r < k
        · as_aux_lemma =>
          obtain ⟨b, off, rfl, hbB, d0, d1, d2⟩ := HW.out.2.2.1.mb r hlr
          replace d0 := (hb.cell (p := ⟨b, off + r * 3, none⟩) hbB).trans d0
          replace d1 := (hb.cell (p := ⟨b, off + r * 3 + 1, none⟩) hbB).trans d1
          replace d2 := (hb.cell (p := ⟨b, off + r * 3 + 2, none⟩) hbB).trans d2
          have HST := Lib.hid (HZ.out.2.2 r (by have := HZ.out.2.1.1; omega))
          obtain ⟨⟨a, s, gh⟩, hm0⟩ : ∃ z, z = now.getD r mb0 := ⟨_, rfl⟩
          rw [← hm0] at d0 d1 d2 HST
          rw [← HAL.out.1] at HST
          simp only at d0 d1 d2 HST
          have i1 : (0 : Int) ≤ (r : Int) := by omega
          have i2 : (r : Int) < (k : Int) := by omega
          have hbX := Blk.new wr 59 #[.int .i64 a, .string s, .bool gh]
          have hb1 := hb.alloc hb.size (.cells #[.int .i64 a, .string s, .bool gh] 59)
          clear hm0 hb
          go_upto_region 11 with fail
          obtain ⟨wo, hwo⟩ : ∃ wo, wo = wr.alloc (.cells #[.int .i64 a, .string s, .bool gh] 59) := ⟨_, rfl⟩
          obtain ⟨X, hX⟩ : ∃ X, X = wr.heap.size := ⟨_, rfl⟩
          rw [← hwo] at hbX hb1 ⊢
          rw [← hX] at hbX ⊢
          have y0 : wo.cell? ⟨X, 0, none⟩ = some (.int .i64 a) := hbX.cell 0
          have y2 : wo.cell? ⟨X, 2, none⟩ = some (.bool gh) := hbX.cell 2
          have HB := Lib.hid hb1
          clear hwo hX hbX hb1 d0 d1 d2
          go_cut [54] (fun s wx => s = .bool false ∧ Below wo.heap.size wo wx)
          case first =>
            cases gh
            · go_quiet (fail)
              go_wp2
              go_meet
              exact ⟨rfl, below_drewN (Below.refl _ _) _⟩
            · -- REGION11
              have z0 : wo.drew.cell? ⟨X, 0, none⟩ = some (.int .i64 a) := y0
              have z2 : wo.drew.cell? ⟨X, 2, none⟩ = some (.bool true) := y2
              have HXl := Lib.hid (World.block_lt_of_cell? _ _ z0)
              have HZ0 := Lib.hid (And.intro z0 z2)
              have HD := Lib.hid (HB.out.drew)
              clear y0 y2 z0 z2
              refine wp_region_held_drew (S := fun w' => w'.cell? ⟨X, 0, none⟩ = some (.int .i64 a) ∧ w'.cell? ⟨X, 2, none⟩ = some (.bool true)) (by kernel_rfl) HZ0.out (fun hHeld => ?_)
              refine wpAnyH_take (i := 0) (oi := { dst := some 32, op := Op.fieldAddr 59 (Operand.tmp 9) 2, type := 0, pos := "top13.go:85", after := #[], guard := none }) (v := .pointer (some ⟨X, 2, none⟩)) rfl (by kernel_rfl) (by kernel_rfl) (by kernel_rfl) (fun _ _ _ h => h) (Or.inl ⟨by rfl, by intro w hSw; (try dsimp only at hSw); go_simp⟩) hHeld ?_
              simp only [Act.put, List.setIfInBounds_toArray, List.set_cons_zero, List.set_cons_succ]
              refine wpAnyH_take (i := 1) (oi := { dst := some 33, op := Op.load 4 (Operand.tmp 32), type := 4, pos := "top13.go:85", after := #[{ on := 0, ground := Ground.data }], guard := none }) (v := .bool true) rfl (by kernel_rfl) (by kernel_rfl) (by kernel_rfl) (fun _ _ _ h => h) (Or.inl ⟨by rfl, by intro w hSw; (try dsimp only at hSw); go_simp⟩) hHeld ?_
              simp only [Act.put, List.setIfInBounds_toArray, List.set_cons_zero, List.set_cons_succ]
              refine wpAnyH_take (i := 2) (oi := { dst := some 34, op := Op.move (Operand.tmp 33), type := 4, pos := "top13.go:85", after := #[{ on := 1, ground := Ground.data }], guard := none }) (v := .bool true) rfl (by kernel_rfl) (by kernel_rfl) (by kernel_rfl) (fun _ _ _ h => h) (Or.inl ⟨by rfl, by intro w hSw; (try dsimp only at hSw); go_simp⟩) hHeld ?_
              simp only [Act.put, List.setIfInBounds_toArray, List.set_cons_zero, List.set_cons_succ]
              refine wpAnyH_take (i := 3) (oi := { dst := some 35, op := Op.move (Operand.tmp 0), type := 54, pos := "top13.go:85", after := #[{ on := 2, ground := Ground.guard }], guard := some (2, true) }) (v := .slice A n c) rfl (by kernel_rfl) (by kernel_rfl) (by kernel_rfl) (fun _ _ _ h => h) (Or.inl ⟨by rfl, by intro w hSw; (try dsimp only at hSw); go_simp⟩) hHeld ?_
              simp only [Act.put, List.setIfInBounds_toArray, List.set_cons_zero, List.set_cons_succ]
              refine wpAnyH_take (i := 4) (oi := { dst := some 36, op := Op.move (Operand.tmp 5), type := 30, pos := "top13.go:85", after := #[{ on := 2, ground := Ground.guard }], guard := some (2, true) }) (v := .slice A1 na c1) rfl (by kernel_rfl) (by kernel_rfl) (by kernel_rfl) (fun _ _ _ h => h) (Or.inl ⟨by rfl, by intro w hSw; (try dsimp only at hSw); go_simp⟩) hHeld ?_
              simp only [Act.put, List.setIfInBounds_toArray, List.set_cons_zero, List.set_cons_succ]
              refine wpAnyH_take (i := 5) (oi := { dst := some 37, op := Op.fieldAddr 59 (Operand.tmp 9) 0, type := 0, pos := "top13.go:85", after := #[{ on := 2, ground := Ground.guard }], guard := some (2, true) }) (v := .pointer (some ⟨X, 0, none⟩)) rfl (by kernel_rfl) (by kernel_rfl) (by kernel_rfl) (fun _ _ _ h => h) (Or.inl ⟨by rfl, by intro w hSw; (try dsimp only at hSw); go_simp⟩) hHeld ?_
              simp only [Act.put, List.setIfInBounds_toArray, List.set_cons_zero, List.set_cons_succ]
              refine wpAnyH_take (i := 6) (oi := { dst := some 38, op := Op.load 3 (Operand.tmp 37), type := 3, pos := "top13.go:85", after := #[{ on := 5, ground := Ground.data }, { on := 2, ground := Ground.guard }], guard := some (2, true) }) (v := .int .i64 a) rfl (by kernel_rfl) (by kernel_rfl) (by kernel_rfl) (fun _ _ _ h => h) (Or.inl ⟨by rfl, by intro w hSw; (try dsimp only at hSw); go_simp⟩) hHeld ?_
              simp only [Act.put, List.setIfInBounds_toArray, List.set_cons_zero, List.set_cons_succ]
              refine wpAnyH_take (i := 8) (oi := { dst := some 40, op := Op.move (Operand.tmp 1), type := 54, pos := "top13.go:85", after := #[{ on := 2, ground := Ground.guard }], guard := some (2, true) }) (v := .slice (some ⟨b, off, none⟩) k c') rfl (by kernel_rfl) (by kernel_rfl) (by kernel_rfl) (fun _ _ _ h => h) (Or.inl ⟨by rfl, by intro w hSw; (try dsimp only at hSw); go_simp⟩) hHeld ?_
              simp only [Act.put, List.setIfInBounds_toArray, List.set_cons_zero, List.set_cons_succ]
              refine wpAnyH_take (i := 9) (oi := { dst := some 41, op := Op.move (Operand.tmp 5), type := 30, pos := "top13.go:85", after := #[{ on := 2, ground := Ground.guard }], guard := some (2, true) }) (v := .slice A1 na c1) rfl (by kernel_rfl) (by kernel_rfl) (by kernel_rfl) (fun _ _ _ h => h) (Or.inl ⟨by rfl, by intro w hSw; (try dsimp only at hSw); go_simp⟩) hHeld ?_
              simp only [Act.put, List.setIfInBounds_toArray, List.set_cons_zero, List.set_cons_succ]
              refine wpAnyH_take (i := 10) (oi := { dst := some 42, op := Op.fieldAddr 59 (Operand.tmp 9) 0, type := 0, pos := "top13.go:85", after := #[{ on := 2, ground := Ground.guard }], guard := some (2, true) }) (v := .pointer (some ⟨X, 0, none⟩)) rfl (by kernel_rfl) (by kernel_rfl) (by kernel_rfl) (fun _ _ _ h => h) (Or.inl ⟨by rfl, by intro w hSw; (try dsimp only at hSw); go_simp⟩) hHeld ?_
              simp only [Act.put, List.setIfInBounds_toArray, List.set_cons_zero, List.set_cons_succ]
              refine wpAnyH_take (i := 11) (oi := { dst := some 43, op := Op.load 3 (Operand.tmp 42), type := 3, pos := "top13.go:85", after := #[{ on := 10, ground := Ground.data }, { on := 2, ground := Ground.guard }], guard := some (2, true) }) (v := .int .i64 a) rfl (by kernel_rfl) (by kernel_rfl) (by kernel_rfl) (fun _ _ _ h => h) (Or.inl ⟨by rfl, by intro w hSw; (try dsimp only at hSw); go_simp⟩) hHeld ?_
              simp only [Act.put, List.setIfInBounds_toArray, List.set_cons_zero, List.set_cons_succ]
              refine wpAnyH_ready (rs := [7]) (by kernel_rfl) (by simp) ?_
              refine AllReadyH.cons (o := { dst := some 39, op := Op.call { callee := Callee.value (Operand.func 51), args := #[Operand.tmp 35, Operand.tmp 36, Operand.tmp 38], argTypes := #[54, 30, 3] }, type := 3, pos := "top13.go:85", after := #[{ on := 3, ground := Ground.data }, { on := 4, ground := Ground.data }, { on := 6, ground := Ground.data }, { on := 2, ground := Ground.chain }, { on := 2, ground := Ground.guard }], guard := some (2, true) }) rfl (fun K hK => ?_) AllReadyH.nil
              go_simp
              refine (near_any A A1 n c na c1 was al a _ ((HW.out.2.1.below HD.out).more HD.out.size) ((HW.out.1.below HD.out).more HD.out.size) hn (by omega)).mono ?_
              rintro e w5 ⟨r1, rfl, hr1, hb5⟩
              have HR1 := Lib.hid hr1
              have HD2 := Lib.hid (HD.out.trans (hb5.mono HD.out.size))
              have HZ1 := Lib.hid (And.intro ((hb5.cell (p := ⟨X, 0, none⟩) HXl.out).trans HZ0.out.1) ((hb5.cell (p := ⟨X, 2, none⟩) HXl.out).trans HZ0.out.2))
              have HBZ := Lib.hid hb5
              clear hb5 hr1
              go_wp2_with fail
              refine hK.out _ _ HZ1.out (fun hHeld => ?_)
              clear hK K
              try simp only [Act.put, List.setIfInBounds_toArray, List.set_cons_zero, List.set_cons_succ]
              refine wpAnyH_ready (rs := [12]) (by kernel_rfl) (by simp) ?_
              refine AllReadyH.cons (o := { dst := some 44, op := Op.call { callee := Callee.value (Operand.func 51), args := #[Operand.tmp 40, Operand.tmp 41, Operand.tmp 43], argTypes := #[54, 30, 3] }, type := 3, pos := "top13.go:85", after := #[{ on := 8, ground := Ground.data }, { on := 9, ground := Ground.data }, { on := 11, ground := Ground.data }, { on := 7, ground := Ground.chain }, { on := 2, ground := Ground.guard }], guard := some (2, true) }) rfl (fun K hK => ?_) AllReadyH.nil
              go_simp
              refine (near_any (some ⟨b, off, none⟩) A1 k c' na c1 now al a _ ((HW.out.2.2.1.below HD2.out).more HD2.out.size) ((HW.out.1.below HD2.out).more HD2.out.size) hm (by omega)).mono ?_
              rintro e w6 ⟨r2, rfl, hr2, hb6⟩
              obtain rfl : r1 = r2 := HST.out trivial _ _ HR1.out hr2
              have HZ2 := Lib.hid (And.intro ((hb6.cell (p := ⟨X, 0, none⟩) (Nat.lt_of_lt_of_le HXl.out HBZ.out.size)).trans HZ1.out.1) ((hb6.cell (p := ⟨X, 2, none⟩) (Nat.lt_of_lt_of_le HXl.out HBZ.out.size)).trans HZ1.out.2))
              have HE := Lib.hid (((Below.refl wo.heap.size wo).drew).trans ((HBZ.out.trans (hb6.mono HBZ.out.size)).mono (Nat.le_refl _)))
              clear hb6 hr2
              go_wp2_with fail
              refine hK.out _ _ HZ2.out (fun hHeld => ?_)
              clear hK K
              try simp only [Act.put, List.setIfInBounds_toArray, List.set_cons_zero, List.set_cons_succ]
              refine wpAnyH_take (i := 13) (oi := { dst := some 45, op := Op.binOp BinOp.neq 3 (Operand.tmp 39) (Operand.tmp 44) 3, type := 4, pos := "top13.go:85", after := #[{ on := 7, ground := Ground.data }, { on := 12, ground := Ground.data }, { on := 2, ground := Ground.guard }], guard := some (2, true) }) (v := .bool false) rfl (by kernel_rfl) (by kernel_rfl) (by kernel_rfl) (fun _ _ _ h => h) (Or.inl ⟨by rfl, by intro w hSw; (try dsimp only at hSw); go_simp⟩) hHeld ?_
              simp only [Act.put, List.setIfInBounds_toArray, List.set_cons_zero, List.set_cons_succ]
              refine wpAnyH_take (i := 14) (oi := { dst := some 46, op := Op.pick (Operand.tmp 34) (Operand.tmp 45) (Operand.const (Value.bool false)), type := 4, pos := "top13.go:85", after := #[{ on := 2, ground := Ground.data }, { on := 13, ground := Ground.data }], guard := none }) (v := .bool false) rfl (by kernel_rfl) (by kernel_rfl) (by kernel_rfl) (fun _ _ _ h => h) (Or.inl ⟨by rfl, by intro w hSw; (try dsimp only at hSw); go_simp⟩) hHeld ?_
              simp only [Act.put, List.setIfInBounds_toArray, List.set_cons_zero, List.set_cons_succ]
              refine wpAnyH_take (i := 15) (oi := { dst := some 47, op := Op.move (Operand.tmp 46), type := 4, pos := "top13.go:85", after := #[{ on := 14, ground := Ground.data }, { on := 12, ground := Ground.chain }], guard := none }) (v := .bool false) rfl (by kernel_rfl) (by kernel_rfl) (by kernel_rfl) (fun _ _ _ h => h) (Or.inl ⟨by rfl, by intro w hSw; (try dsimp only at hSw); go_simp⟩) hHeld ?_
              simp only [Act.put, List.setIfInBounds_toArray, List.set_cons_zero, List.set_cons_succ]
              refine wpAnyH_take (i := 16) (oi := { dst := some 48, op := Op.move (Operand.tmp 0), type := 54, pos := "top13.go:85", after := #[{ on := 15, ground := Ground.guard }], guard := some (15, true) }) (v := undef) rfl (by kernel_rfl) (by kernel_rfl) (by kernel_rfl) (fun _ _ _ h => h) (Or.inr ⟨by rfl, rfl⟩) hHeld ?_
              simp only [Act.put, List.setIfInBounds_toArray, List.set_cons_zero, List.set_cons_succ]
              refine wpAnyH_take (i := 17) (oi := { dst := some 49, op := Op.move (Operand.tmp 5), type := 30, pos := "top13.go:85", after := #[{ on := 15, ground := Ground.guard }], guard := some (15, true) }) (v := undef) rfl (by kernel_rfl) (by kernel_rfl) (by kernel_rfl) (fun _ _ _ h => h) (Or.inr ⟨by rfl, rfl⟩) hHeld ?_
              simp only [Act.put, List.setIfInBounds_toArray, List.set_cons_zero, List.set_cons_succ]
              refine wpAnyH_take (i := 18) (oi := { dst := some 50, op := Op.fieldAddr 59 (Operand.tmp 9) 0, type := 0, pos := "top13.go:85", after := #[{ on := 15, ground := Ground.guard }], guard := some (15, true) }) (v := undef) rfl (by kernel_rfl) (by kernel_rfl) (by kernel_rfl) (fun _ _ _ h => h) (Or.inr ⟨by rfl, rfl⟩) hHeld ?_
              simp only [Act.put, List.setIfInBounds_toArray, List.set_cons_zero, List.set_cons_succ]
              refine wpAnyH_take (i := 19) (oi := { dst := some 51, op := Op.load 3 (Operand.tmp 50), type := 3, pos := "top13.go:85", after := #[{ on := 18, ground := Ground.data }, { on := 15, ground := Ground.guard }], guard := some (15, true) }) (v := undef) rfl (by kernel_rfl) (by kernel_rfl) (by kernel_rfl) (fun _ _ _ h => h) (Or.inr ⟨by rfl, rfl⟩) hHeld ?_
              simp only [Act.put, List.setIfInBounds_toArray, List.set_cons_zero, List.set_cons_succ]
              refine wpAnyH_take (i := 20) (oi := { dst := some 52, op := Op.call { callee := Callee.value (Operand.func 51), args := #[Operand.tmp 48, Operand.tmp 49, Operand.tmp 51], argTypes := #[54, 30, 3] }, type := 3, pos := "top13.go:85", after := #[{ on := 16, ground := Ground.data }, { on := 17, ground := Ground.data }, { on := 19, ground := Ground.data }, { on := 15, ground := Ground.chain }, { on := 15, ground := Ground.guard }], guard := some (15, true) }) (v := undef) rfl (by kernel_rfl) (by kernel_rfl) (by kernel_rfl) (fun _ _ _ h => h) (Or.inr ⟨by rfl, rfl⟩) hHeld ?_
              simp only [Act.put, List.setIfInBounds_toArray, List.set_cons_zero, List.set_cons_succ]
              refine wpAnyH_take (i := 21) (oi := { dst := some 53, op := Op.binOp BinOp.geq 3 (Operand.tmp 52) (Operand.const (Value.int IntKind.i64 0)) 3, type := 4, pos := "top13.go:85", after := #[{ on := 20, ground := Ground.data }, { on := 15, ground := Ground.guard }], guard := some (15, true) }) (v := undef) rfl (by kernel_rfl) (by kernel_rfl) (by kernel_rfl) (fun _ _ _ h => h) (Or.inr ⟨by rfl, rfl⟩) hHeld ?_
              simp only [Act.put, List.setIfInBounds_toArray, List.set_cons_zero, List.set_cons_succ]
              refine wpAnyH_take (i := 22) (oi := { dst := some 54, op := Op.pick (Operand.tmp 47) (Operand.tmp 53) (Operand.const (Value.bool false)), type := 4, pos := "top13.go:85", after := #[{ on := 15, ground := Ground.data }, { on := 21, ground := Ground.data }], guard := none }) (v := .bool false) rfl (by kernel_rfl) (by kernel_rfl) (by kernel_rfl) (fun _ _ _ h => h) (Or.inl ⟨by rfl, by intro w hSw; (try dsimp only at hSw); go_simp⟩) hHeld ?_
              simp only [Act.put, List.setIfInBounds_toArray, List.set_cons_zero, List.set_cons_succ]
              refine wpAnyH_done (by kernel_rfl) ?_ _
              go_wp2_with fail
              go_meet
              exact ⟨rfl, HE.out⟩
              -- REGION11 END
          case rest =>
            obtain ⟨rfl, hbq⟩ := hcut
            have HB2 := Lib.hid (HB.out.trans (hbq.mono HB.out.size))
            clear hbq y0 y2
            go_wp2
            go_roundw
            case rel => exact ⟨r + 1, by omega, by go_num, HB2.out⟩
            case measure => simp [intOf]; omega
        · obtain rfl : r = k := by omega
          have HB2 := Lib.hid (HW.out.2.2.2.trans (hb.mono HW.out.2.2.2.size))
          clear hb
          go_wp2
          go_ret
          exact ⟨rfl, HB2.out⟩

/-- No key stands twice. -/
def OnceK (l : List Mb) : Prop := ∀ i, i < l.length → ∀ j, j < i → ¬ (l.getD j mb0).2.1 = (l.getD i mb0).2.1

set_option maxRecDepth 100000 in
set_option maxHeartbeats 8000000 in
theorem monce_any (A : Option Addr) (n c : Nat) (l : List Mb) (w : World) (hz : Ms w w.heap.size A n l) (hn : n ≤ 1000) (hc : n ≤ c) (ho : OnceK l) :
    Calls Try.prog 33 #[.slice A n c] w fun e w' => e = .returned (.bool true) ∧ Below w.heap.size w w' := by
  have HZ := Lib.hid (And.intro hz ho)
  clear hz ho
  go_enter Try.func33, Try.ntmps33
  go_wp2_with fail
  go_loopw [9] (fun i wx => ∃ k : Nat, k ≤ n ∧ i = .int .i64 k ∧ Below w.heap.size w wx) (fun i _ => n - (intOf i).toNat)
  case atStart => exact ⟨0, Nat.zero_le _, rfl, Below.refl _ _⟩
  case round =>
    obtain ⟨k, hk, rfl, hb⟩ := hrel
    by_cases hlt : k < n
    · obtain ⟨b, off, rfl, hbB, d0, d1, d2⟩ := HZ.out.1.mb k hlt
      replace d0 := (hb.cell (p := ⟨b, off + k * 3, none⟩) hbB).trans d0
      replace d1 := (hb.cell (p := ⟨b, off + k * 3 + 1, none⟩) hbB).trans d1
      replace d2 := (hb.cell (p := ⟨b, off + k * 3 + 2, none⟩) hbB).trans d2
      have HON := Lib.hid (HZ.out.2 k (by have := HZ.out.1.1; omega))
      obtain ⟨⟨a, s, gh⟩, hm0⟩ : ∃ z, z = l.getD k mb0 := ⟨_, rfl⟩
      rw [← hm0] at d0 d1 d2 HON
      simp only at d0 d1 d2 HON
      have i1 : (0 : Int) ≤ (k : Int) := by omega
      have i2 : (k : Int) < (n : Int) := by omega
      have i3 : (k : Int) ≤ (c : Int) := by omega
      have hbX := Blk.new wr 59 #[.int .i64 a, .string s, .bool gh]
      have hb1 := hb.alloc hb.size (.cells #[.int .i64 a, .string s, .bool gh] 59)
      clear hm0 hb
      go_upto_region 4 with fail
      obtain ⟨wo, hwo⟩ : ∃ wo, wo = wr.alloc (.cells #[.int .i64 a, .string s, .bool gh] 59) := ⟨_, rfl⟩
      obtain ⟨X, hX⟩ : ∃ X, X = wr.heap.size := ⟨_, rfl⟩
      rw [← hwo] at hbX hb1 ⊢
      rw [← hX] at hbX ⊢
      have HX := Lib.hid hbX
      have HB := Lib.hid hb1
      clear hwo hX hbX hb1 d0 d1 d2
      go_wp2_with fail
      go_loopw [18] (fun i wx => ∃ r : Nat, r ≤ k ∧ i = .int .i64 r ∧ Below wo.heap.size wo wx) (fun i _ => k - (intOf i).toNat)
      case atStart => exact ⟨0, Nat.zero_le _, rfl, Below.refl _ _⟩
      case round =>
        obtain ⟨r, hr, rfl, hb⟩ := hrel
        by_cases hlr : r < k
        · obtain ⟨b', off', hA, hbB', d0, d1, d2⟩ := HZ.out.1.mb r (by omega)
          injection hA with hA
          injection hA with hA1 hA2
          subst hA1 hA2
          have hbw := HB.out.trans (hb.mono HB.out.size)
          replace d0 := (hbw.cell (p := ⟨b, off + r * 3, none⟩) hbB').trans d0
          replace d1 := (hbw.cell (p := ⟨b, off + r * 3 + 1, none⟩) hbB').trans d1
          replace d2 := (hbw.cell (p := ⟨b, off + r * 3 + 2, none⟩) hbB').trans d2
          have hne := HON.out r hlr
          obtain ⟨⟨a', s', gh'⟩, hm0⟩ : ∃ z, z = l.getD r mb0 := ⟨_, rfl⟩
          rw [← hm0] at d0 d1 d2 hne
          simp only at d0 d1 d2 hne
          have j1 : (0 : Int) ≤ (r : Int) := by omega
          have j2 : (r : Int) < (k : Int) := by omega
          have j3 : (s'.toList == s.toList) = false := by simpa using fun e => hne (toList_inj e)
          have hX2 := HX.out.below hb HX.out.lt
          have hX3 := hX2.alloc (.cells #[.int .i64 a', .string s', .bool gh'] 59)
          have hb1 := hb.alloc hb.size (.cells #[.int .i64 a', .string s', .bool gh'] 59)
          have hY := Blk.new wr 59 #[.int .i64 a', .string s', .bool gh']
          clear hm0 hb hbw hne hX2
          go_upto_region 7 with fail
          obtain ⟨wv, hwv⟩ : ∃ wv, wv = wr.alloc (.cells #[.int .i64 a', .string s', .bool gh'] 59) := ⟨_, rfl⟩
          obtain ⟨Y, hYe⟩ : ∃ Y, Y = wr.heap.size := ⟨_, rfl⟩
          rw [← hwv] at hX3 hb1 hY ⊢
          rw [← hYe] at hY ⊢
          have x1 : wv.cell? ⟨X, 1, none⟩ = some (.string s) := hX3.cell 1
          have y1 : wv.cell? ⟨Y, 1, none⟩ = some (.string s') := hY.cell 1
          have HB3 := Lib.hid hb1
          clear hwv hYe hX3 hb1 hY d0 d1 d2
          go_wp2
          go_roundw
          case rel => exact ⟨r + 1, by omega, by go_num, HB3.out⟩
          case measure => simp [intOf]; omega
        · obtain rfl : r = k := by omega
          have HB2 := Lib.hid (HB.out.trans (hb.mono HB.out.size))
          clear hb
          go_wp2
          go_roundw
          case rel => exact ⟨r + 1, by omega, by go_num, HB2.out⟩
          case measure => simp [intOf]; omega
    · obtain rfl : k = n := by omega
      have HB := Lib.hid hb
      clear hb
      go_wp2
      go_ret
      exact ⟨rfl, HB.out⟩

end Go.Proofs.Ytgopokoghnfgiaa
