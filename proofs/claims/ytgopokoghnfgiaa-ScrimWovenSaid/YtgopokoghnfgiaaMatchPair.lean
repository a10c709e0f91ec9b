/-
  The walk over Pair, first loop: who is free.
-/
import Derived.Test.YtgopokoghnfgiaaMatchSc
import Derived.Deep.RegionHeld3
import Derived.Deep.AppendLies
namespace Go.Proofs.Ytgopokoghnfgiaa
open Go.RowKit Go.Maps
attribute [local go_sem ↓] Go.wp_at_zero Go.wp_at_succ

set_option maxRecDepth 100000 in
set_option maxHeartbeats 16000000 in
theorem pair_any (A B : Option Addr) (n c n' c' : Nat) (ks ls : List Kid) (w : World) (hz : Kids w w.heap.size A n ks) (hz' : Kids w w.heap.size B n' ls) (hn : n ≤ 100) (hn' : n' ≤ 100) (hk : OkK ks) (hk' : OkK ls) :
    Calls Try.prog 11 #[.slice A n c, .slice B n' c'] w (PairPost w n' (pairS ks ls)) := by
  obtain ⟨tr, hi, hz0, hz1, hz2⟩ := info_parts int_info
  have HZ := Lib.hid (And.intro hz (And.intro hz' (And.intro hk hk')))
  clear hz hz' hk hk'
  have hmm := @run_makeMap Try.prog
  go_enter Try.func11, Try.ntmps11
  go_wp2_with fail
  refine (named_any A n c ks _ ((HZ.out.1.below ((Below.refl w.heap.size w).alloc (Nat.le_refl _) (.map #[] 0))).more (by simp)) (by omega)).mono ?_
  rintro e w1 ⟨A1, c1, rfl, hown, hb1⟩
  obtain ⟨M, hM⟩ : ∃ M, M = w.heap.size := ⟨_, rfl⟩
  have hFr := Fr.init hb1 hown ks
  have HF := Lib.hid hFr
  clear hown hb1 hFr hmm
  rw [← hM] at HF ⊢
  have HM := Lib.hid hM
  clear hM
  go_wp2_with fail
  go_loopw [15] (fun i wr => ∃ (k : Nat) (q : Qm), k ≤ n ∧ i = .int .i64 k ∧ Fr M w wr M q (free ks k) k (.slice A1 n c1) n (flatN (namesTo ks n))) (fun i _ => n - (intOf i).toNat)
  case atStart => exact ⟨0, _, Nat.zero_le _, rfl, HF.out⟩
  case round =>
    obtain ⟨k, q, hk, rfl, hF⟩ := hrel
    by_cases hlt : k < n
    · as_aux_lemma =>
      obtain ⟨g, cap, hv, hgB, hgl⟩ := hF.names.form (by omega)
      injection hv with hA1 hA2 hA3
      subst hA1
      clear hA2 hA3
      obtain ⟨e0, e1, e2⟩ := own_names hF.names k (by rw [namesTo_len]; exact hlt)
      rw [namesTo_at ks n k hlt] at e0 e1 e2
      obtain ⟨x, hx⟩ : ∃ x, x = nm ks k := ⟨_, rfl⟩
      have hok : okN x := by rw [hx]; exact HZ.out.2.2.1.nm k (by have := HZ.out.1.1; omega)
      have HX := Lib.hid (And.intro hx hok)
      rw [← hx] at e0 e1 e2
      obtain ⟨⟨s, t⟩, a⟩ := x
      simp only at e0 e1 e2
      have i1 : (0 : Int) ≤ (k : Int) := by omega
      have i2 : (k : Int) < (n : Int) := by omega
      have HF1 := Lib.hid (hF.alloc (.cells #[.int .i64 t, .string s, .int .i64 (a : Nat)] 71))
      have HB1 := Lib.hid (Blk.new wr 71 #[.int .i64 t, .string s, .int .i64 (a : Nat)])
      clear hx hok hF HF
      go_upto_region 5 with fail
      obtain ⟨wo, hwo⟩ : ∃ wo, wo = wr.alloc (.cells #[.int .i64 t, .string s, .int .i64 (a : Nat)] 71) := ⟨_, rfl⟩
      obtain ⟨X, hX⟩ : ∃ X, X = wr.heap.size := ⟨_, rfl⟩
      rw [← hwo] at HF1 HB1 ⊢
      rw [← hX] at HB1 ⊢
      clear hwo hX e0 e1 e2
      have y0 : wo.cell? ⟨X, 0, none⟩ = some (.int .i64 t) := HB1.out.cell 0
      have y1 : wo.cell? ⟨X, 1, none⟩ = some (.string s) := HB1.out.cell 1
      have y2 : wo.cell? ⟨X, 2, none⟩ = some (.int .i64 (a : Nat)) := HB1.out.cell 2
      obtain ⟨b, hb⟩ : ∃ b, b = (q ((s, t), a)).isNone := ⟨_, rfl⟩
      have HB := Lib.hid hb
      clear hb
      go_cut [23] (fun s wx => s = .bool b ∧ wx = wo)
      case first =>
        have hlk := HF1.out.map.look ((s, t), a) HX.out.2
        cases hq : q ((s, t), a) with
        | none =>
          have HB2 := Lib.hid (show b = true by rw [HB.out, hq]; rfl)
          rw [show qP q ((s, t), a) = none by simp [qP, hq]] at hlk
          simp only [nmV, ptrV, Option.map_none] at hlk
          clear hq
          go_wp2
          go_meet
          exact ⟨by rw [HB2.out], rfl⟩
        | some pv =>
          obtain ⟨P, v⟩ := pv
          have HB2 := Lib.hid (show b = false by rw [HB.out, hq]; rfl)
          rw [show qP q ((s, t), a) = some P by simp [qP, hq]] at hlk
          simp only [nmV, ptrV, Option.map_some] at hlk
          clear hq
          go_wp2
          go_meet
          exact ⟨by rw [HB2.out], rfl⟩
      case rest =>
        obtain ⟨rfl, hw⟩ := hcut
        subst hw
        go_upto_if 23 with fail
        obtain ⟨wo, hwo⟩ : ∃ wo, wo = wc := ⟨_, rfl⟩
        rw [← hwo] at HF1 HB1 y0 y1 y2 ⊢
        clear hwo
        go_cut [] (fun wx => ∃ q P v, q ((s, t), a) = some (P, v) ∧ Fr M w wx M q (free ks k) (k + 1) (.slice (some ⟨g, 0, none⟩) n c1) n (flatN (namesTo ks n)) ∧ Blk wx X 71 #[.int .i64 t, .string s, .int .i64 (a : Nat)])
        case first =>
          cases b
          · have hq : ∃ P v, q ((s, t), a) = some (P, v) := by
              cases hq : q ((s, t), a) with
              | none => have := HB.out; rw [hq] at this; cases this
              | some pv => exact ⟨pv.1, pv.2, rfl⟩
            obtain ⟨P, v, hq⟩ := hq
            have HQ := Lib.hid hq
            clear hq
            go_wp2
            go_meet
            exact ⟨q, P, v, HQ.out, HF1.out.mono, HB1.out⟩
          · have hq : q ((s, t), a) = none := by
              cases hq : q ((s, t), a) with
              | none => rfl
              | some pv => have := HB.out; rw [hq] at this; cases this
            have HQ := Lib.hid hq
            clear hq
            obtain ⟨w2, hup, hp2, hg2⟩ := (HF1.out.alloc (.cells #[.slice none 0 0] 74)).map.update ((s, t), a) HX.out.2 (by unfold maxLen; omega) wo.heap.size
            have hN := HF1.out.new _ HQ.out hp2 hg2
            have HN := Lib.hid (And.intro hN ((HB1.out.alloc (.cells #[.slice none 0 0] 74)).grown hg2 (by have := blk_not_map HB1.out HF1.out.map; simpa using this)))
            simp only [nmV] at hup
            clear hp2 hg2 hN
            go_wp2
            go_meet
            exact ⟨_, _, _, setQ_same _ _ _ _, HN.out.1, HN.out.2⟩
        case rest =>
          obtain ⟨q, P, v, hq, hF, hX⟩ := hcut
          clear y0 y1 y2 HF1 HB1 HB
          go_upto_region 7 with fail
          -- REGION7
          have HQP := Lib.hid (show qP q ((s, t), a) = some P by simp [qP, hq])
          have hlk := hF.drew.map.look ((s, t), a) HX.out.2
          rw [HQP.out] at hlk
          have y0 : wc.drew.cell? ⟨X, 0, none⟩ = some (.int .i64 t) := hX.drew.cell 0
          have y1 : wc.drew.cell? ⟨X, 1, none⟩ = some (.string s) := hX.drew.cell 1
          have y2 : wc.drew.cell? ⟨X, 2, none⟩ = some (.int .i64 (a : Nat)) := hX.drew.cell 2
          have hlkA := (hF.drew.alloc (.cells #[.int .i64 (k : Nat)] 3)).map.look ((s, t), a) HX.out.2
          rw [HQP.out] at hlkA
          have HA := Lib.hid (And.intro ((hX.drew.alloc (.cells #[.int .i64 (k : Nat)] 3)).cell 0) (And.intro ((hX.drew.alloc (.cells #[.int .i64 (k : Nat)] 3)).cell 1) (And.intro ((hX.drew.alloc (.cells #[.int .i64 (k : Nat)] 3)).cell 2) hlkA)))
          have p0 := (hF.drew.cells hq).1
          have p1 : (wc.alloc (.cells #[.int .i64 (k : Nat)] 3)).drew.cell? ⟨P, 0, none⟩ = some v := ((hF.drew.alloc (.cells #[.int .i64 (k : Nat)] 3)).cells hq).1
          have H7 := Lib.hid (And.intro hq (And.intro hF hX))
          have HY := Lib.hid (And.intro y0 (And.intro y1 (And.intro y2 hlk)))
          clear hq hF hX hlkA y0 y1 y2 hlk
          refine wp_region_held_drew (S := fun w' => w'.cell? ⟨X, 0, none⟩ = some (.int .i64 t) ∧ w'.cell? ⟨X, 1, none⟩ = some (.string s) ∧ w'.cell? ⟨X, 2, none⟩ = some (.int .i64 (a : Nat)) ∧ (Instr.lookup 67 (.map (some M)) (.agg #[.int .i64 t, .string s, .int .i64 (a : Nat)]) false).run Try.prog w' = .ok (.pointer (some ⟨P, 0, none⟩)) w') (by kernel_rfl) HY.out (fun hHeld => ?_)
          refine wpAnyH_take (i := 0) (oi := { dst := some 28, op := Op.move (Operand.tmp 5), type := 67, pos := "match.go:53", after := #[], guard := none }) (v := .map (some M)) rfl (by kernel_rfl) (by kernel_rfl) (by kernel_rfl) (fun _ _ _ h => h) (Or.inl ⟨by rfl, by intro w hSw; (try dsimp only at hSw); go_simp⟩) hHeld ?_
          simp only [Act.put, List.setIfInBounds_toArray, List.set_cons_zero, List.set_cons_succ]
          refine wpAnyH_take (i := 1) (oi := { dst := some 29, op := Op.load 71 (Operand.tmp 7), type := 71, pos := "match.go:53", after := #[], guard := none }) (v := .agg #[.int .i64 t, .string s, .int .i64 (a : Nat)]) rfl (by kernel_rfl) (by kernel_rfl) (by kernel_rfl) (fun _ _ _ h => h) (Or.inl ⟨by rfl, by intro w hSw; (try dsimp only at hSw); go_simp⟩) hHeld ?_
          simp only [Act.put, List.setIfInBounds_toArray, List.set_cons_zero, List.set_cons_succ]
          refine wpAnyH_take (i := 2) (oi := { dst := some 30, op := Op.lookup 67 (Operand.tmp 28) (Operand.tmp 29) false, type := 72, pos := "match.go:53", after := #[{ on := 0, ground := Ground.data }, { on := 1, ground := Ground.data }], guard := none }) (v := .pointer (some ⟨P, 0, none⟩)) rfl (by kernel_rfl) (by kernel_rfl) (by kernel_rfl) (fun _ _ _ h => h) (Or.inl ⟨by rfl, by intro w hSw; (try dsimp only at hSw); go_simp⟩) hHeld ?_
          simp only [Act.put, List.setIfInBounds_toArray, List.set_cons_zero, List.set_cons_succ]
          refine wpAnyH_take (i := 3) (oi := { dst := some 31, op := Op.move (Operand.tmp 5), type := 67, pos := "match.go:53", after := #[], guard := none }) (v := .map (some M)) rfl (by kernel_rfl) (by kernel_rfl) (by kernel_rfl) (fun _ _ _ h => h) (Or.inl ⟨by rfl, by intro w hSw; (try dsimp only at hSw); go_simp⟩) hHeld ?_
          simp only [Act.put, List.setIfInBounds_toArray, List.set_cons_zero, List.set_cons_succ]
          refine wpAnyH_take (i := 4) (oi := { dst := some 32, op := Op.load 71 (Operand.tmp 7), type := 71, pos := "match.go:53", after := #[], guard := none }) (v := .agg #[.int .i64 t, .string s, .int .i64 (a : Nat)]) rfl (by kernel_rfl) (by kernel_rfl) (by kernel_rfl) (fun _ _ _ h => h) (Or.inl ⟨by rfl, by intro w hSw; (try dsimp only at hSw); go_simp⟩) hHeld ?_
          simp only [Act.put, List.setIfInBounds_toArray, List.set_cons_zero, List.set_cons_succ]
          refine wpAnyH_take (i := 5) (oi := { dst := some 33, op := Op.lookup 67 (Operand.tmp 31) (Operand.tmp 32) false, type := 72, pos := "match.go:53", after := #[{ on := 3, ground := Ground.data }, { on := 4, ground := Ground.data }], guard := none }) (v := .pointer (some ⟨P, 0, none⟩)) rfl (by kernel_rfl) (by kernel_rfl) (by kernel_rfl) (fun _ _ _ h => h) (Or.inl ⟨by rfl, by intro w hSw; (try dsimp only at hSw); go_simp⟩) hHeld ?_
          simp only [Act.put, List.setIfInBounds_toArray, List.set_cons_zero, List.set_cons_succ]
          refine wpAnyH_take (i := 6) (oi := { dst := some 34, op := Op.nilCheck (Operand.tmp 33), type := 0, pos := "match.go:53", after := #[{ on := 5, ground := Ground.data }], guard := none }) (v := .pointer (some ⟨P, 0, none⟩)) rfl (by kernel_rfl) (by kernel_rfl) (by kernel_rfl) (fun _ _ _ h => h) (Or.inl ⟨by rfl, by intro w hSw; (try dsimp only at hSw); go_simp⟩) hHeld ?_
          simp only [Act.put, List.setIfInBounds_toArray, List.set_cons_zero, List.set_cons_succ]
          refine wpAnyH_take (i := 7) (oi := { dst := some 35, op := Op.fieldAddr 74 (Operand.tmp 34) 0, type := 0, pos := "match.go:53", after := #[{ on := 6, ground := Ground.data }], guard := none }) (v := .pointer (some ⟨P, 0, none⟩)) rfl (by kernel_rfl) (by kernel_rfl) (by kernel_rfl) (fun _ _ _ h => h) (Or.inl ⟨by rfl, by intro w hSw; (try dsimp only at hSw); go_simp⟩) hHeld ?_
          simp only [Act.put, List.setIfInBounds_toArray, List.set_cons_zero, List.set_cons_succ]
          refine wpAnyH_take (i := 9) (oi := { dst := some 37, op := Op.move (Operand.tmp 6), type := 3, pos := "match.go:53", after := #[], guard := none }) (v := .int .i64 k) rfl (by kernel_rfl) (by kernel_rfl) (by kernel_rfl) (fun _ _ _ h => h) (Or.inl ⟨by rfl, by intro w hSw; (try dsimp only at hSw); go_simp⟩) hHeld ?_
          simp only [Act.put, List.setIfInBounds_toArray, List.set_cons_zero, List.set_cons_succ]
          refine wpAnyH_ready (rs := [8, 10]) (by kernel_rfl) (by simp) ?_
          refine AllReadyH.cons (o := { dst := some 36, op := Op.load 30 (Operand.tmp 35), type := 30, pos := "match.go:53", after := #[{ on := 7, ground := Ground.data }], guard := none }) rfl (fun K hK => ?_) (AllReadyH.cons (o := { dst := some 38, op := Op.buildSlice 30 1 #[(0, Operand.tmp 37)], type := 30, pos := "match.go:53", after := #[{ on := 9, ground := Ground.data }], guard := none }) rfl (fun K hK => ?_) AllReadyH.nil)
          · go_simp
            go_wp2_with fail
            refine hK.out _ _ HY.out (fun hHeld => ?_)
            clear hK K
            try simp only [Act.put, List.setIfInBounds_toArray, List.set_cons_zero, List.set_cons_succ]
            refine wpAnyH_ready (rs := [10]) (by kernel_rfl) (by simp) ?_
            refine AllReadyH.cons (o := { dst := some 38, op := Op.buildSlice 30 1 #[(0, Operand.tmp 37)], type := 30, pos := "match.go:53", after := #[{ on := 9, ground := Ground.data }], guard := none }) rfl (fun K hK => ?_) AllReadyH.nil
            go_simp
            go_wp2_with fail
            refine hK.out _ _ HA.out (fun hHeld => ?_)
            clear hK K
            try simp only [Act.put, List.setIfInBounds_toArray, List.set_cons_zero, List.set_cons_succ]
            refine wpAnyH_ready (rs := [11]) (by kernel_rfl) (by simp) ?_
            refine AllReadyH.cons (o := { dst := some 39, op := Op.call { callee := Callee.builtin Builtin.append, args := #[Operand.tmp 36, Operand.tmp 38], argTypes := #[30, 30] }, type := 30, pos := "match.go:53", after := #[{ on := 8, ground := Ground.data }, { on := 10, ground := Ground.data }], guard := none }) rfl (fun K hK => ?_) AllReadyH.nil
            refine step_append_lies _ (by rfl) _ _ _ (by rfl) M 3 tr _ 1 8 Try.underlying30 hi hz0 hz1 hz2 (by rfl) (by decide) v (free ks k ((s, t), a)).length (nums (nI (free ks k ((s, t), a)))) (by rfl) (H7.out.2.1.drew.alloc _ |>.blk _ _ _ H7.out.1).2.2 _ 1 1 [.int .i64 (k : Nat)] (by rfl) (by rfl) (by exact World.news_of_block (Blk.new _ _ _)) (by intro u hu; simp at hu; subst hu; rfl) (by omega) (by unfold maxLen; have := free_len ks k ((s, t), a); omega) (by have := free_len ks k ((s, t), a); omega) (H7.out.2.1.drew.alloc _).wsize _ rfl ?_
            intro g4 cap4 w4 hown4 hg4 hat4 hlt4
            have hG := Fr.grown (H7.out.2.1.drew.alloc (.cells #[.int .i64 (k : Nat)] 3)) H7.out.1 hg4 hown4 (by rcases hat4 with h | h; exact .inl (by rw [h]; rfl); exact .inr (fun b hb => by injection hb with hb; rw [← hb, h]; simp))
            have hX4 := (H7.out.2.2.drew.alloc (.cells #[.int .i64 (k : Nat)] 3)).grown hg4 (fun e => own_blk_ne (H7.out.2.1.drew.alloc (.cells #[.int .i64 (k : Nat)] 3) |>.blk _ _ _ H7.out.1).2.2 (H7.out.2.2.drew.alloc (.cells #[.int .i64 (k : Nat)] 3)) (by decide) e.symm)
            have hlk4 := hG.map.look ((s, t), a) HX.out.2
            rw [HQP.out] at hlk4
            have z0 := hG.cell.1
            have z1 := hG.cell.2
            have HG := Lib.hid (And.intro hG hX4)
            clear hown4 hg4 hat4 hlt4
            refine hK.out _ _ ⟨hX4.cell 0, hX4.cell 1, hX4.cell 2, hlk4⟩ (fun hHeld => ?_)
            clear hK K
            try simp only [Act.put, List.setIfInBounds_toArray, List.set_cons_zero, List.set_cons_succ]
            clear hG hX4 hlk4
            refine wpAnyH_take (i := 12) (oi := { dst := some 40, op := Op.nilCheck (Operand.tmp 30), type := 0, pos := "match.go:53", after := #[{ on := 2, ground := Ground.data }, { on := 0, ground := Ground.phase }, { on := 1, ground := Ground.phase }, { on := 2, ground := Ground.phase }, { on := 3, ground := Ground.phase }, { on := 4, ground := Ground.phase }, { on := 5, ground := Ground.phase }, { on := 6, ground := Ground.phase }, { on := 7, ground := Ground.phase }, { on := 8, ground := Ground.phase }, { on := 9, ground := Ground.phase }, { on := 10, ground := Ground.phase }, { on := 11, ground := Ground.phase }], guard := none }) (v := .pointer (some ⟨P, 0, none⟩)) rfl (by kernel_rfl) (by kernel_rfl) (by kernel_rfl) (fun _ _ _ h => h) (Or.inl ⟨by rfl, by intro w hSw; (try dsimp only at hSw); go_simp⟩) hHeld ?_
            simp only [Act.put, List.setIfInBounds_toArray, List.set_cons_zero, List.set_cons_succ]
            refine wpAnyH_take (i := 13) (oi := { dst := some 41, op := Op.fieldAddr 74 (Operand.tmp 40) 0, type := 0, pos := "match.go:53", after := #[{ on := 12, ground := Ground.data }, { on := 0, ground := Ground.phase }, { on := 1, ground := Ground.phase }, { on := 2, ground := Ground.phase }, { on := 3, ground := Ground.phase }, { on := 4, ground := Ground.phase }, { on := 5, ground := Ground.phase }, { on := 6, ground := Ground.phase }, { on := 7, ground := Ground.phase }, { on := 8, ground := Ground.phase }, { on := 9, ground := Ground.phase }, { on := 10, ground := Ground.phase }, { on := 11, ground := Ground.phase }], guard := none }) (v := .pointer (some ⟨P, 0, none⟩)) rfl (by kernel_rfl) (by kernel_rfl) (by kernel_rfl) (fun _ _ _ h => h) (Or.inl ⟨by rfl, by intro w hSw; (try dsimp only at hSw); go_simp⟩) hHeld ?_
            simp only [Act.put, List.setIfInBounds_toArray, List.set_cons_zero, List.set_cons_succ]
            refine wpAnyH_ready (rs := [14]) (by kernel_rfl) (by simp) ?_
            refine AllReadyH.cons (o := { dst := none, op := Op.store 30 (Operand.tmp 41) (Operand.tmp 39), type := 0, pos := "match.go:53", after := #[{ on := 13, ground := Ground.data }, { on := 11, ground := Ground.data }, { on := 11, ground := Ground.chain }, { on := 0, ground := Ground.phase }, { on := 1, ground := Ground.phase }, { on := 2, ground := Ground.phase }, { on := 3, ground := Ground.phase }, { on := 4, ground := Ground.phase }, { on := 5, ground := Ground.phase }, { on := 6, ground := Ground.phase }, { on := 7, ground := Ground.phase }, { on := 8, ground := Ground.phase }, { on := 9, ground := Ground.phase }, { on := 10, ground := Ground.phase }, { on := 11, ground := Ground.phase }], guard := none }) rfl (fun K hK => ?_) AllReadyH.nil
            go_simp
            go_wp2_with fail
            have hF5 := HG.out.1.back H7.out.1 (L' := free ks (k + 1)) (i := k) (by rw [free_succ, if_pos HX.out.1.symm]) (fun y hy => by rw [free_succ, if_neg (fun e => hy (e.symm.trans HX.out.1.symm))])
            have hX5 := HG.out.2.far (p := ⟨P, 0, none⟩) (Blk.ne_ HG.out.2 HG.out.1.blkX (by decide)) (.slice (some ⟨g4, 0, none⟩) ((free ks k ((s, t), a)).length + 1) cap4)
            have hlk5 := hF5.map.look ((s, t), a) HX.out.2
            rw [qP_set_same H7.out.1, HQP.out] at hlk5
            have HF5 := Lib.hid hF5
            clear hF5
            refine hK.out _ _ ⟨hX5.cell 0, hX5.cell 1, hX5.cell 2, hlk5⟩ (fun hHeld => ?_)
            clear hK K
            try simp only [Act.put, List.setIfInBounds_toArray, List.set_cons_zero, List.set_cons_succ]
            clear hX5 hlk5
            refine wpAnyH_done (by kernel_rfl) ?_ _
            go_wp2_with fail
            go_roundw
            case rel => exact ⟨k + 1, _, by omega, by go_num, HF5.out⟩
            case measure => simp [intOf]; omega
          · go_simp
            go_wp2_with fail
            refine hK.out _ _ HA.out (fun hHeld => ?_)
            clear hK K
            try simp only [Act.put, List.setIfInBounds_toArray, List.set_cons_zero, List.set_cons_succ]
            refine wpAnyH_ready (rs := [8]) (by kernel_rfl) (by simp) ?_
            refine AllReadyH.cons (o := { dst := some 36, op := Op.load 30 (Operand.tmp 35), type := 30, pos := "match.go:53", after := #[{ on := 7, ground := Ground.data }], guard := none }) rfl (fun K hK => ?_) AllReadyH.nil
            go_simp
            go_wp2_with fail
            refine hK.out _ _ HA.out (fun hHeld => ?_)
            clear hK K
            try simp only [Act.put, List.setIfInBounds_toArray, List.set_cons_zero, List.set_cons_succ]
            refine wpAnyH_ready (rs := [11]) (by kernel_rfl) (by simp) ?_
            refine AllReadyH.cons (o := { dst := some 39, op := Op.call { callee := Callee.builtin Builtin.append, args := #[Operand.tmp 36, Operand.tmp 38], argTypes := #[30, 30] }, type := 30, pos := "match.go:53", after := #[{ on := 8, ground := Ground.data }, { on := 10, ground := Ground.data }], guard := none }) rfl (fun K hK => ?_) AllReadyH.nil
            refine step_append_lies _ (by rfl) _ _ _ (by rfl) M 3 tr _ 1 8 Try.underlying30 hi hz0 hz1 hz2 (by rfl) (by decide) v (free ks k ((s, t), a)).length (nums (nI (free ks k ((s, t), a)))) (by rfl) (H7.out.2.1.drew.alloc _ |>.blk _ _ _ H7.out.1).2.2 _ 1 1 [.int .i64 (k : Nat)] (by rfl) (by rfl) (by exact World.news_of_block (Blk.new _ _ _)) (by intro u hu; simp at hu; subst hu; rfl) (by omega) (by unfold maxLen; have := free_len ks k ((s, t), a); omega) (by have := free_len ks k ((s, t), a); omega) (H7.out.2.1.drew.alloc _).wsize _ rfl ?_
            intro g4 cap4 w4 hown4 hg4 hat4 hlt4
            have hG := Fr.grown (H7.out.2.1.drew.alloc (.cells #[.int .i64 (k : Nat)] 3)) H7.out.1 hg4 hown4 (by rcases hat4 with h | h; exact .inl (by rw [h]; rfl); exact .inr (fun b hb => by injection hb with hb; rw [← hb, h]; simp))
            have hX4 := (H7.out.2.2.drew.alloc (.cells #[.int .i64 (k : Nat)] 3)).grown hg4 (fun e => own_blk_ne (H7.out.2.1.drew.alloc (.cells #[.int .i64 (k : Nat)] 3) |>.blk _ _ _ H7.out.1).2.2 (H7.out.2.2.drew.alloc (.cells #[.int .i64 (k : Nat)] 3)) (by decide) e.symm)
            have hlk4 := hG.map.look ((s, t), a) HX.out.2
            rw [HQP.out] at hlk4
            have z0 := hG.cell.1
            have z1 := hG.cell.2
            have HG := Lib.hid (And.intro hG hX4)
            clear hown4 hg4 hat4 hlt4
            refine hK.out _ _ ⟨hX4.cell 0, hX4.cell 1, hX4.cell 2, hlk4⟩ (fun hHeld => ?_)
            clear hK K
            try simp only [Act.put, List.setIfInBounds_toArray, List.set_cons_zero, List.set_cons_succ]
            clear hG hX4 hlk4
            refine wpAnyH_take (i := 12) (oi := { dst := some 40, op := Op.nilCheck (Operand.tmp 30), type := 0, pos := "match.go:53", after := #[{ on := 2, ground := Ground.data }, { on := 0, ground := Ground.phase }, { on := 1, ground := Ground.phase }, { on := 2, ground := Ground.phase }, { on := 3, ground := Ground.phase }, { on := 4, ground := Ground.phase }, { on := 5, ground := Ground.phase }, { on := 6, ground := Ground.phase }, { on := 7, ground := Ground.phase }, { on := 8, ground := Ground.phase }, { on := 9, ground := Ground.phase }, { on := 10, ground := Ground.phase }, { on := 11, ground := Ground.phase }], guard := none }) (v := .pointer (some ⟨P, 0, none⟩)) rfl (by kernel_rfl) (by kernel_rfl) (by kernel_rfl) (fun _ _ _ h => h) (Or.inl ⟨by rfl, by intro w hSw; (try dsimp only at hSw); go_simp⟩) hHeld ?_
            simp only [Act.put, List.setIfInBounds_toArray, List.set_cons_zero, List.set_cons_succ]
            refine wpAnyH_take (i := 13) (oi := { dst := some 41, op := Op.fieldAddr 74 (Operand.tmp 40) 0, type := 0, pos := "match.go:53", after := #[{ on := 12, ground := Ground.data }, { on := 0, ground := Ground.phase }, { on := 1, ground := Ground.phase }, { on := 2, ground := Ground.phase }, { on := 3, ground := Ground.phase }, { on := 4, ground := Ground.phase }, { on := 5, ground := Ground.phase }, { on := 6, ground := Ground.phase }, { on := 7, ground := Ground.phase }, { on := 8, ground := Ground.phase }, { on := 9, ground := Ground.phase }, { on := 10, ground := Ground.phase }, { on := 11, ground := Ground.phase }], guard := none }) (v := .pointer (some ⟨P, 0, none⟩)) rfl (by kernel_rfl) (by kernel_rfl) (by kernel_rfl) (fun _ _ _ h => h) (Or.inl ⟨by rfl, by intro w hSw; (try dsimp only at hSw); go_simp⟩) hHeld ?_
            simp only [Act.put, List.setIfInBounds_toArray, List.set_cons_zero, List.set_cons_succ]
            refine wpAnyH_ready (rs := [14]) (by kernel_rfl) (by simp) ?_
            refine AllReadyH.cons (o := { dst := none, op := Op.store 30 (Operand.tmp 41) (Operand.tmp 39), type := 0, pos := "match.go:53", after := #[{ on := 13, ground := Ground.data }, { on := 11, ground := Ground.data }, { on := 11, ground := Ground.chain }, { on := 0, ground := Ground.phase }, { on := 1, ground := Ground.phase }, { on := 2, ground := Ground.phase }, { on := 3, ground := Ground.phase }, { on := 4, ground := Ground.phase }, { on := 5, ground := Ground.phase }, { on := 6, ground := Ground.phase }, { on := 7, ground := Ground.phase }, { on := 8, ground := Ground.phase }, { on := 9, ground := Ground.phase }, { on := 10, ground := Ground.phase }, { on := 11, ground := Ground.phase }], guard := none }) rfl (fun K hK => ?_) AllReadyH.nil
            go_simp
            go_wp2_with fail
            have hF5 := HG.out.1.back H7.out.1 (L' := free ks (k + 1)) (i := k) (by rw [free_succ, if_pos HX.out.1.symm]) (fun y hy => by rw [free_succ, if_neg (fun e => hy (e.symm.trans HX.out.1.symm))])
            have hX5 := HG.out.2.far (p := ⟨P, 0, none⟩) (Blk.ne_ HG.out.2 HG.out.1.blkX (by decide)) (.slice (some ⟨g4, 0, none⟩) ((free ks k ((s, t), a)).length + 1) cap4)
            have hlk5 := hF5.map.look ((s, t), a) HX.out.2
            rw [qP_set_same H7.out.1, HQP.out] at hlk5
            have HF5 := Lib.hid hF5
            clear hF5
            refine hK.out _ _ ⟨hX5.cell 0, hX5.cell 1, hX5.cell 2, hlk5⟩ (fun hHeld => ?_)
            clear hK K
            try simp only [Act.put, List.setIfInBounds_toArray, List.set_cons_zero, List.set_cons_succ]
            clear hX5 hlk5
            refine wpAnyH_done (by kernel_rfl) ?_ _
            go_wp2_with fail
            go_roundw
            case rel => exact ⟨k + 1, _, by omega, by go_num, HF5.out⟩
            case measure => simp [intOf]; omega
          -- REGION7 END
    · obtain rfl : k = n := by omega
      have hks := HZ.out.1.1
      have hF' : Fr M w wr M q (free ks ks.length) k (.slice A1 k c1) k (flatN (namesTo ks k)) := by rw [hks]; exact hF
      have hSc := hF'.turn
      obtain ⟨B2, hB2⟩ : ∃ B2, B2 = wr.heap.size := ⟨_, rfl⟩
      obtain ⟨q, hq⟩ : ∃ q', q' = qP q := ⟨_, rfl⟩
      rw [← hB2, ← hq] at hSc
      have HS := Lib.hid hSc
      have HKF := Lib.hid (((show Kids w M B n' ls by rw [HM.out]; exact HZ.out.2.1).below hSc.below).more hF.wsize)
      have HB2 := Lib.hid hB2
      clear hF hF' hSc hq HF hlt hB2 hks
      go_wp2_with (first
        | (at_make; refine wpList_make_own _ rfl _ _ 30 rfl wr.heap.size 3 tr _ 1 Try.underlying30 hi hz0 hz1 _ _ _ n' rfl rfl rfl (by rw [hz2]; omega) (by unfold maxLen; omega) (Nat.le_refl _) ?_; intro w2 hown hg1))
      refine (named_any B n' c' ls _ (HKF.out.keep (below_of_only hg1 (Nat.le_refl _))) (by omega)).mono ?_
      rintro e w3 ⟨A2, c2, rfl, hownN, hb3⟩
      obtain ⟨v0, hv0⟩ : ∃ v0, v0 = Value.slice (some ⟨wr.heap.size, 0, none⟩) 0 n' := ⟨_, rfl⟩
      rw [← hv0] at hown ⊢
      rw [← HB2.out] at hown
      have HI := Lib.hid (And.intro (own_keep hown hb3) (And.intro ((HS.out.kept hg1 (fun j h => by cases h)).keep hb3) (own_base hownN (show B2 ≤ _ by rw [HB2.out]; exact hg1.size))))
      clear hown hg1 hownN hb3 hv0 HS
      go_wp2_with fail
      go_loopw [8, 49] (fun vo i wx => ∃ m : Nat, m ≤ n' ∧ i = .int .i64 m ∧ wx.ownsRow B2 3 1 vo m (nums (pairTo ks ls m)) ∧ Sc M B2 w wx M k q ks (pairTo ks ls m) ∧ wx.ownsRow B2 71 3 (.slice A2 n' c2) n' (flatN (namesTo ls n'))) (fun _ i _ => n' - (intOf i).toNat)
      case atStart => exact ⟨0, Nat.zero_le _, rfl, HI.out.1, HI.out.2.1, HI.out.2.2⟩
      case round =>
        obtain ⟨m, hm, rfl, hown, hSc, hN⟩ := hrel
        obtain ⟨vo, hvo⟩ : ∃ vo, vo = u8 := ⟨_, rfl⟩
        rw [← hvo] at hown ⊢
        clear hvo
        by_cases hlt : m < n'
        · as_aux_lemma =>
          obtain ⟨n, hn⟩ : ∃ n, n = k := ⟨_, rfl⟩
          rw [← hn] at hSc hk ⊢
          clear hn
          obtain ⟨k, hk2⟩ : ∃ k, k = m := ⟨_, rfl⟩
          rw [← hk2] at hown hSc hm hlt ⊢
          clear hk2
          obtain ⟨g, cap, hv, hgB, hgl⟩ := hN.form (by omega)
          injection hv with hA1 hA2 hA3
          subst hA1
          clear hA2 hA3
          obtain ⟨e0, e1, e2⟩ := own_names hN k (by rw [namesTo_len]; exact hlt)
          rw [namesTo_at ls n' k hlt] at e0 e1 e2
          have HPT := Lib.hid (show pairTo ks ls (k + 1) = pairTo ks ls k ++ [pick (freeOf ks (pairTo ks ls k) (nm ls k))] from rfl)
          obtain ⟨x, hx⟩ : ∃ x, x = nm ls k := ⟨_, rfl⟩
          have hok : okN x := by rw [hx]; exact HZ.out.2.2.2.nm k (by have := HZ.out.2.1.1; omega)
          have HX := Lib.hid hok
          rw [← hx] at e0 e1 e2 HPT
          obtain ⟨⟨s, t⟩, a⟩ := x
          simp only at e0 e1 e2
          have i1 : (0 : Int) ≤ (k : Int) := by omega
          have i2 : (k : Int) < (n' : Int) := by omega
          have HO := Lib.hid (And.intro (hown.alloc (.cells #[.int .i64 t, .string s, .int .i64 (a : Nat)] 71)) (And.intro (hSc.alloc (.cells #[.int .i64 t, .string s, .int .i64 (a : Nat)] 71)) (hN.alloc (.cells #[.int .i64 t, .string s, .int .i64 (a : Nat)] 71))))
          have hblX := Blk.new wr 71 #[.int .i64 t, .string s, .int .i64 (a : Nat)]
          clear hx hok hSc hown hN HI
          go_upto_region 13 with fail
          obtain ⟨wo, hwo⟩ : ∃ wo, wo = wr.alloc (.cells #[.int .i64 t, .string s, .int .i64 (a : Nat)] 71) := ⟨_, rfl⟩
          obtain ⟨X, hX⟩ : ∃ X, X = wr.heap.size := ⟨_, rfl⟩
          rw [← hwo] at HO hblX ⊢
          rw [← hX] at hblX ⊢
          clear hwo hX e0 e1 e2
          have y0 : wo.cell? ⟨X, 0, none⟩ = some (.int .i64 t) := hblX.cell 0
          have y1 : wo.cell? ⟨X, 1, none⟩ = some (.string s) := hblX.cell 1
          have y2 : wo.cell? ⟨X, 2, none⟩ = some (.int .i64 (a : Nat)) := hblX.cell 2
          have hlk := HO.out.2.1.map.look ((s, t), a) HX.out
          clear hblX
          cases hq : q ((s, t), a) with
          | none =>
            have hf := HO.out.2.1.none_ _ hq
            rw [hf] at HPT
            rw [hq] at hlk
            simp only [nmV, ptrV, Option.map_none, pick] at hlk HPT
            replace HO := Lib.hid (And.intro HO.out.1 (And.intro HO.out.2.1.nobody HO.out.2.2))
            clear hq hf
            go_wp2_with fail
            refine (take_nil _).mono ?_
            rintro e w5 ⟨rfl, rfl⟩
            clear hlk y0 y1 y2
            go_wp2_with (first
              | (at_builtin; refine wpList_append_lies _ rfl _ _ _ rfl B2 3 tr _ 1 8 Try.underlying30 hi hz0 hz1 hz2 rfl (by decide) _ k (nums (pairTo ks ls k)) rfl (HO.out.1.alloc _) _ 1 1 [.int .i64 (-1)] rfl rfl (World.news_of_block (heap_alloc_new _ _)) (by intro u hu; simp at hu; subst hu; rfl) (by omega) (by unfold maxLen; omega) (by omega) (by have := HO.out.2.1.size; simp; omega) _ rfl ?_; intro g2 cap2 w4 hown2 hg2 hat2 hlt2; have HW := Lib.hid (And.intro hown2 (And.intro ((HO.out.2.1.alloc _).kept hg2 (fun j hj => (HO.out.1.lt j hj).1)) ((HO.out.2.2.alloc _).kept hg2 (own_own_ne HO.out.2.2 HO.out.1 (by decide))))); clear hown2 hg2 hat2 hlt2))
            go_roundw
            case rel => exact ⟨k + 1, by omega, by go_num, by rw [HPT.out, nums_snoc]; exact HW.out.1, by rw [HPT.out]; exact HW.out.2.1, HW.out.2.2⟩
            case measure => simp [intOf]; omega
          | some P =>
            rw [hq] at hlk
            simp only [nmV, ptrV, Option.map_some] at hlk
            obtain ⟨p1, p2, A3, c3, p3, p4, p5, p6⟩ := HO.out.2.1.blk _ _ hq
            cases hf : freeOf ks (pairTo ks ls k) ((s, t), a) with
            | nil =>
              rw [hf] at HPT p3
              simp only [pick] at HPT
              have p7 : wo.cell? ⟨P, 0, none⟩ = some (.slice A3 0 c3) := p3.cell 0
              replace HO := Lib.hid (And.intro HO.out.1 (And.intro HO.out.2.1.nobody HO.out.2.2))
              clear hq hf p1 p2 p3 p4 p5 p6
              go_wp2_with fail
              refine (take_none P A3 c3 _ p7).mono ?_
              rintro e w5 ⟨rfl, rfl⟩
              clear hlk y0 y1 y2 p7
              go_wp2_with (first
                | (at_builtin; refine wpList_append_lies _ rfl _ _ _ rfl B2 3 tr _ 1 8 Try.underlying30 hi hz0 hz1 hz2 rfl (by decide) _ k (nums (pairTo ks ls k)) rfl (HO.out.1.alloc _) _ 1 1 [.int .i64 (-1)] rfl rfl (World.news_of_block (heap_alloc_new _ _)) (by intro u hu; simp at hu; subst hu; rfl) (by omega) (by unfold maxLen; omega) (by omega) (by have := HO.out.2.1.size; simp; omega) _ rfl ?_; intro g2 cap2 w4 hown2 hg2 hat2 hlt2; have HW := Lib.hid (And.intro hown2 (And.intro ((HO.out.2.1.alloc _).kept hg2 (fun j hj => (HO.out.1.lt j hj).1)) ((HO.out.2.2.alloc _).kept hg2 (own_own_ne HO.out.2.2 HO.out.1 (by decide))))); clear hown2 hg2 hat2 hlt2))
              go_roundw
              case rel => exact ⟨k + 1, by omega, by go_num, by rw [HPT.out, nums_snoc]; exact HW.out.1, by rw [HPT.out]; exact HW.out.2.1, HW.out.2.2⟩
              case measure => simp [intOf]; omega
            | cons j rest =>
              rw [hf] at HPT p3 p4 p6
              simp only [pick] at HPT
              rw [List.length_cons] at p3 p4 p6
              have p7 : wo.cell? ⟨P, 0, none⟩ = some (.slice A3 (rest.length + 1) c3) := p3.cell 0
              have H8 := Lib.hid (And.intro hq (And.intro hf (And.intro p3 (And.intro p4 (And.intro p5 (And.intro p6 p2))))))
              clear hq hf p1 p2 p3 p4 p5 p6
              go_wp2_with fail
              refine (take_some P A3 c3 j rest B2 _ p7 (H8.out.2.2.1.frozen 0) H8.out.2.2.2.2.2.1.1 H8.out.2.2.2.1 H8.out.2.2.2.2.1).mono ?_
              rintro e w5 ⟨rfl, A4, c4, h1, h2, h3, h4, rfl⟩
              have hT := HO.out.2.1.took H8.out.1 H8.out.2.1 H8.out.2.2.1 H8.out.2.2.2.2.2.1 h1 h2 h3 h4
              have hgP : wo.grownBy (wo.setCell ⟨P, 0, none⟩ (.slice A4 rest.length c4)) (some P) := only_set (World.grownBy.refl wo _) 0 _
              replace HO := Lib.hid (And.intro (HO.out.1.kept hgP (.inr (own_nil_or HO.out.1 P H8.out.2.2.2.2.2.2))) (And.intro hT (HO.out.2.2.kept hgP (.inr (own_nil_or HO.out.2.2 P H8.out.2.2.2.2.2.2)))))
              obtain ⟨wp, hwp⟩ : ∃ wp, wp = wo.setCell ⟨P, 0, none⟩ (.slice A4 rest.length c4) := ⟨_, rfl⟩
              rw [← hwp] at HO ⊢
              clear hlk y0 y1 y2 p7 hT hgP h1 h2 h3 h4 hwp
              go_wp2_with (first
                | (at_builtin; refine wpList_append_lies _ rfl _ _ _ rfl B2 3 tr _ 1 8 Try.underlying30 hi hz0 hz1 hz2 rfl (by decide) _ k (nums (pairTo ks ls k)) rfl (HO.out.1.alloc _) _ 1 1 [.int .i64 (j : Nat)] rfl rfl (World.news_of_block (heap_alloc_new _ _)) (by intro u hu; simp at hu; subst hu; rfl) (by omega) (by unfold maxLen; omega) (by omega) (by have := HO.out.2.1.size; simp; omega) _ rfl ?_; intro g2 cap2 w4 hown2 hg2 hat2 hlt2; have HW := Lib.hid (And.intro hown2 (And.intro ((HO.out.2.1.alloc _).kept hg2 (fun j hj => (HO.out.1.lt j hj).1)) ((HO.out.2.2.alloc _).kept hg2 (own_own_ne HO.out.2.2 HO.out.1 (by decide))))); clear hown2 hg2 hat2 hlt2))
              go_roundw
              case rel => exact ⟨k + 1, by omega, by go_num, by rw [HPT.out, nums_snoc]; exact HW.out.1, by rw [HPT.out]; exact HW.out.2.1, HW.out.2.2⟩
              case measure => simp [intOf]; omega
        · obtain rfl : m = n' := by omega
          obtain ⟨A5, c5, hv⟩ := own_form hown
          subst hv
          have HO := Lib.hid (And.intro (own_base hown hSc.bB) hSc.below)
          have HE := Lib.hid (show pairTo ks ls m = pairS ks ls by rw [pairS, HZ.out.2.1.1])
          clear hown hSc hN
          go_wp2
          go_ret
          exact ⟨A5, c5, rfl, by rw [← HE.out, ← HM.out]; exact HO.out.1, by rw [← HM.out]; exact HO.out.2⟩

end Go.Proofs.Ytgopokoghnfgiaa
