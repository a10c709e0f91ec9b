/-
  The walk over Merge.
-/
import Derived.Test.YtgopokoghnfgiaaWeaveM
namespace Go.Proofs.Ytgopokoghnfgiaa
open Go.RowKit
attribute [local go_sem ↓] Go.wp_at_zero Go.wp_at_succ

theorem behTo_add {was live : List Int} {k : Nat} (h : placeF live (was.getD k 0) = 0) : behTo was live (k + 1) (lastTo was live k) = behTo was live k (lastTo was live k) ++ [was.getD k 0] := by
  rw [behTo, if_pos ⟨h, rfl⟩]
theorem behTo_else {was live : List Int} {k j : Nat} (hj : j ≠ lastTo was live k) : behTo was live (k + 1) j = behTo was live k j := by
  rw [behTo, if_neg (fun h => hj h.2.symm)]
theorem behTo_live {was live : List Int} {k : Nat} (h : placeF live (was.getD k 0) ≠ 0) : behTo was live (k + 1) = behTo was live k := by
  funext j
  rw [behTo, if_neg (fun h2 => h h2.1)]

theorem rep_at {n j : Nat} {a v : Value} (h : (List.replicate n a)[j]? = some v) : v = a := List.eq_of_mem_replicate (List.mem_of_getElem? h)
theorem nums_app (l m : List Int) : nums (l ++ m) = nums l ++ nums m := by simp [nums]

set_option maxRecDepth 100000 in
set_option maxHeartbeats 16000000 in
theorem merge_any (A B : Option Addr) (n c m c' : Nat) (was live : List Int) (w : World) (hz : Nums w w.heap.size A n was) (hz' : Nums w w.heap.size B m live) (hn : n ≤ 900) (hm : m ≤ 900) (hw : Wfs was) (hw' : Wfs live) (hd : was.Nodup) (hd' : live.Nodup) :
    Calls Try.prog 20 #[.slice A n c, .slice B m c'] w (RowPost w (mergeS was live)) := by
  obtain ⟨tr, hi, hz0, hz1, hz2⟩ := info_parts winfo
  obtain ⟨ts, hsi, hs0, hs1, hs2⟩ := info_parts sl_info
  have HZ := Lib.hid (And.intro hz (And.intro hz' (And.intro hw (And.intro hw' (And.intro hd hd')))))
  clear hz hz' hw hw' hd hd'
  go_enter Try.func20, Try.ntmps20
  go_wp2_with fail
  refine (wonce_any A n c was _ HZ.out.1 (by omega) HZ.out.2.2.1 HZ.out.2.2.2.2.1).mono ?_
  rintro e w1 ⟨A1, c1, rfl, ho1, hb1⟩
  have H1 := Lib.hid (And.intro ho1 hb1)
  rw [HZ.out.1.1] at H1 ⊢
  clear ho1 hb1
  go_wp2_with fail
  refine (wonce_any B m c' live _ (HZ.out.2.1.keep H1.out.2) (by omega) HZ.out.2.2.2.1 HZ.out.2.2.2.2.2).mono ?_
  rintro e w2 ⟨A2, c2, rfl, ho2, hb2⟩
  have H2 := Lib.hid (And.intro (Nums.of_own (own_keep H1.out.1 hb2) HZ.out.1.1) (And.intro (Nums.of_own ho2 rfl) (H1.out.2.trans (hb2.mono H1.out.2.size))))
  rw [HZ.out.2.1.1] at H2 ⊢
  clear ho2 hb2 H1
  go_wp2_with fail
  refine (places_any A2 m c2 live _ H2.out.2.1 (by omega) HZ.out.2.2.2.1).mono ?_
  rintro e w3 ⟨M, rfl, hM, hO, hb3⟩
  have H3 := Lib.hid (And.intro (H2.out.1.keep hb3) (And.intro (H2.out.2.1.keep hb3) (And.intro (H2.out.2.2.trans (hb3.mono H2.out.2.2.size)) hO)))
  clear hM hO hb3 H2
  go_upto_region 3 with fail
  go_cut [6] (fun s wx => s = .slice (some ⟨w3.heap.size, 0, none⟩) (m + 1) (m + 1) ∧ Bh w3.heap.size wx w3.heap.size (m + 1) (List.replicate (m + 1) (.slice none 0 0)) (behTo was live 0) ∧ Below w3.heap.size w3 wx)
  case first =>
    go_wp2_with (first
      | (at_make; refine wpList_make_full _ rfl _ _ 80 rfl w3.heap.size 30 ts _ 1 Try.underlying80 hsi hs0 hs1 _ _ _ _ (m + 1) rfl rfl (by omega) (by omega) (by rw [hs2]; omega) (by unfold maxLen; omega) (Nat.le_refl _) ?_; intro w4 hown hg1))
    go_meet
    refine ⟨rfl, ⟨by simp, ?_, ?_, ?_⟩, below_of_only hg1 (Nat.le_refl _)⟩
    · have e : (madeCells (Value.slice none 0 0).cells ((m + 1) * 1)).toList = List.replicate (m + 1) (.slice none 0 0) := by rw [Nat.mul_one]; exact toList_madeCells_one _ _
      rw [e] at hown
      exact hown
    · intro j v h
      obtain rfl := rep_at h
      exact ⟨World.ownsRow_nil _ _ _ _, fun _ => rfl⟩
    · intro i j u v h h' _
      obtain rfl := rep_at h
      exact .inl rfl
  case rest =>
    obtain ⟨rfl, hB, hb⟩ := hcut
    obtain ⟨g, hg⟩ : ∃ g, g = w3.heap.size := ⟨_, rfl⟩
    have HG := Lib.hid hg
    rw [← hg] at hB ⊢
    have HB := Lib.hid (And.intro hB hb)
    clear hB hb hg
    go_wp2_with fail
    go_loopw [7, 25] (fun vl i wx => ∃ (k : Nat) (vs : List Value), k ≤ n ∧ i = .int .i64 k ∧ vl = .int .i64 (lastTo was live k : Nat) ∧ Bh g wx g (m + 1) vs (behTo was live k) ∧ Below w3.heap.size w3 wx) (fun _ i _ => n - (intOf i).toNat)
    case atStart => exact ⟨0, _, Nat.zero_le _, rfl, rfl, HB.out.1, HB.out.2⟩
    case round =>
      obtain ⟨k, vs, hk, rfl, rfl, hB, hb⟩ := hrel
      by_cases hlt : k < n
      · obtain ⟨b, off, rfl, hbB, d0⟩ := H3.out.1.2 k hlt
        replace d0 := (hb.cell (p := ⟨b, off + k, none⟩) hbB).trans d0
        have hx := HZ.out.2.2.1.at k
        have hlk := (H3.out.2.2.2.keep hb).look _ hx
        have hlast := lastTo_le was live k
        rw [HZ.out.2.1.1] at hlast
        have HLS := Lib.hid (show lastTo was live (k + 1) = if placeF live (was.getD k 0) = 0 then lastTo was live k else placeF live (was.getD k 0) from rfl)
        have HBA := Lib.hid (behTo_add (was := was) (live := live) (k := k))
        have HBL := Lib.hid (behTo_live (was := was) (live := live) (k := k))
        have HPL := Lib.hid (placeF_le live (was.getD k 0))
        obtain ⟨x, hxx⟩ : ∃ x, x = was.getD k 0 := ⟨_, rfl⟩
        obtain ⟨p, hp⟩ : ∃ p, p = placeF live x := ⟨_, rfl⟩
        rw [← hxx] at d0 hx hlk HLS HBA HBL HPL
        rw [← hp] at hlk HLS HBA HBL HPL
        obtain ⟨la, hla⟩ : ∃ la, la = lastTo was live k := ⟨_, rfl⟩
        have HLA := Lib.hid hla
        rw [← hla] at hlast HLS HBA ⊢
        simp only [intKit] at hlk
        have hlk2 : (Instr.lookup 78 (.map (some M)) (.int .i64 x) false).run Try.prog wr = .ok (.int .i64 (p : Nat)) wr := hlk
        have i1 : (0 : Int) ≤ (k : Int) := by omega
        have i2 : (k : Int) < (n : Int) := by omega
        have HO := Lib.hid (And.intro hB hb)
        clear hxx hlk hla hp hB hb HB
        by_cases h0 : p = 0
        · have HLS2 := Lib.hid (show lastTo was live (k + 1) = la by rw [HLS.out, if_pos h0])
          have HBA2 := Lib.hid (HBA.out h0)
          subst h0
          obtain ⟨v, hv⟩ : ∃ v, vs[la]? = some v := ⟨_, List.getElem?_eq_getElem (by have := HO.out.1.len; omega)⟩
          have HV := Lib.hid hv
          have y0 := HO.out.1.cell hv
          have hev := (HO.out.1.each la v hv).1
          have l1 : (0 : Int) ≤ (la : Int) := by omega
          have l2 : (la : Int) < ((m + 1 : Nat) : Int) := by omega
          have l3 : (la : Int) < (m : Int) + 1 := by omega
          have HE := Lib.hid hev
          have hbl := behTo_len was live k la
          clear hv hev
          go_wp2_with (first
            | (at_builtin; refine wpList_append_lies _ rfl _ _ _ rfl g 3 tr _ 1 8 Try.underlying30 hi hz0 hz1 hz2 rfl (by decide) v (behTo was live k la).length (nums (behTo was live k la)) rfl (HE.out.alloc _) _ 1 1 [.int .i64 x] rfl rfl (World.news_of_block (heap_alloc_new _ _)) (by intro u hu; simp at hu; subst hu; rfl) (by omega) (by unfold maxLen; omega) (by omega) (by have := (HO.out.1.row.lt g rfl).2; have := HG.out; have := HO.out.2.size; simp; omega) _ rfl ?_; intro g2 cap2 w4 hown2 hg2 hat2 hlt2; obtain ⟨z0, z1, hB4⟩ := (HO.out.1.alloc (.cells #[.int .i64 x] 3)).store (G' := behTo was live (k + 1)) HV.out hown2 hg2 (by rcases hat2 with h | h; exact .inl (by rw [h]; rfl); exact .inr (fun b hb => by injection hb with hb; rw [← hb, h]; simp)) HBA2.out (fun i hi2 => behTo_else (by rw [← HLA.out]; exact hi2)); have HX := Lib.hid (And.intro hB4 (((HO.out.2.alloc HO.out.2.size _).grown hg2 (by have := HO.out.2.size; simp; omega) (fun j hj => by have := (HE.out.lt j hj).1; have := HG.out; omega)).setCell (p := ⟨g, la, none⟩) (by show w3.heap.size ≤ g; have := HG.out; omega) (.slice (some ⟨g2, 0, none⟩) ((behTo was live k la).length + 1) cap2))); clear hown2 hg2 hat2 hlt2 hB4))
          go_roundw
          case rel => exact ⟨k + 1, _, by omega, by go_num, by rw [HLS2.out], HX.out.1, HX.out.2⟩
          case measure => simp [intOf]; omega
        · have HLS2 := Lib.hid (show lastTo was live (k + 1) = p by rw [HLS.out, if_neg h0])
          have HBL2 := Lib.hid (HBL.out h0)
          have h1 : (0 : Int) < (p : Int) := by omega
          go_wp2
          go_roundw
          case rel => exact ⟨k + 1, vs, by omega, by go_num, by rw [HLS2.out], by rw [HBL2.out]; exact HO.out.1, HO.out.2⟩
          case measure => simp [intOf]; omega
      · obtain rfl : k = n := by omega
        have HBF := Lib.hid (show behTo was live k = behF was live by rw [behF, HZ.out.1.1])
        rw [HBF.out] at hB
        obtain ⟨v0, hv0⟩ : ∃ v, vs[0]? = some v := ⟨_, List.getElem?_eq_getElem (by have := hB.len; omega)⟩
        have y0 := hB.cell hv0
        have hev := hB.each 0 v0 hv0
        have HO := Lib.hid (And.intro hB (And.intro hb hev))
        have hbl : (behF was live 0).length ≤ k := by rw [← HBF.out]; exact behTo_len was live k 0
        obtain ⟨wc, hwc⟩ : ∃ wc : World, wc = wr := ⟨_, rfl⟩
        rw [← hwc] at HO y0 ⊢
        clear hB hb hev hv0 hwc HB
        go_wp2_with fail
        refine (clone_any v0 g (behF was live 0) _ HO.out.2.2.1 HO.out.2.2.2 (by omega)).mono ?_
        rintro e w5 ⟨A5, c5, rfl, ho5, hb5⟩
        have HC := Lib.hid (And.intro (show w5.ownsRow wc.heap.size 3 1 (.slice A5 (mergeTo was live 0).length c5) (mergeTo was live 0).length (nums (mergeTo was live 0)) from ho5) hb5)
        obtain ⟨vi, hvi⟩ : ∃ vi, vi = Value.slice A5 (behF was live 0).length c5 := ⟨_, rfl⟩
        have hvi2 : vi = Value.slice A5 (mergeTo was live 0).length c5 := hvi
        rw [← hvi]
        rw [← hvi2] at HC
        clear ho5 hb5 hvi hvi2 y0
        go_wp2_with fail
        go_loopw [10, 53] (fun vo i wx => ∃ r : Nat, r ≤ m ∧ i = .int .i64 r ∧ wx.ownsRow wc.heap.size 3 1 vo (mergeTo was live r).length (nums (mergeTo was live r)) ∧ Below wc.heap.size wc wx) (fun _ i _ => m - (intOf i).toNat)
        case atStart => exact ⟨0, Nat.zero_le _, rfl, HC.out.1, HC.out.2⟩
        case round =>
          obtain ⟨r, hr, rfl, hown, hb⟩ := hrel
          obtain ⟨vo, hvo⟩ : ∃ vo, vo = u10 := ⟨_, rfl⟩
          rw [← hvo] at hown ⊢
          clear hvo
          by_cases hlr : r < m
          · obtain ⟨b, off, rfl, hbB, d0⟩ := H3.out.2.1.2 r hlr
            replace d0 := ((HO.out.2.1.trans (hb.mono HO.out.2.1.size)).cell (p := ⟨b, off + r, none⟩) hbB).trans d0
            have HMT := Lib.hid (show mergeTo was live (r + 1) = mergeTo was live r ++ [live.getD r 0] ++ behF was live (r + 1) from rfl)
            have hml := mergeTo_len was live r (by have := HZ.out.1.1; omega)
            obtain ⟨x, hxx⟩ : ∃ x, x = live.getD r 0 := ⟨_, rfl⟩
            obtain ⟨o, ho⟩ : ∃ o, o = mergeTo was live r := ⟨_, rfl⟩
            rw [← hxx] at d0 HMT
            rw [← ho] at hown HMT hml
            obtain ⟨v, hv⟩ : ∃ v, vs[r + 1]? = some v := ⟨_, List.getElem?_eq_getElem (by have := HO.out.1.len; omega)⟩
            have hev := HO.out.1.each _ v hv
            have hyc := (hb.cell (p := ⟨g, r + 1, none⟩) (HO.out.1.row.lt g rfl).2).trans (HO.out.1.cell hv)
            have hbl2 : (behF was live (r + 1)).length ≤ k := by rw [← HBF.out]; exact behTo_len was live k (r + 1)
            obtain ⟨gs, hgs⟩ : ∃ gs, gs = behF was live (r + 1) := ⟨_, rfl⟩
            rw [← hgs] at hev HMT hbl2
            have HR := Lib.hid (And.intro hown (And.intro hb (And.intro hev.1 hev.2)))
            have i1 : (0 : Int) ≤ (r : Int) := by omega
            have i2 : (r : Int) < (m : Int) := by omega
            have i3 : (0 : Int) ≤ (r : Int) + 1 := by omega
            have i4 : (r : Int) + 1 < ((m + 1 : Nat) : Int) := by omega
            have i5 : (r : Int) + 1 < (m : Int) + 1 := by omega
            have HV := Lib.hid (HO.out.1.cell hv)
            clear hxx ho hv hev hgs hown hb HC
            go_upto_region 16 with fail
            -- REGION16
            have y1 : wr.drew.cell? ⟨g, r + 1, none⟩ = some v := hyc
            have y2 : (wr.drew.alloc (.cells #[.int .i64 x] 3)).cell? ⟨g, r + 1, none⟩ = some v := by
              exact ((Below.refl wr.drew.heap.size wr.drew).alloc (Nat.le_refl _) (.cells #[.int .i64 x] 3)).cell (p := ⟨g, r + 1, none⟩) (World.block_lt_of_cell? _ _ y1) |>.trans y1
            have HY := Lib.hid (And.intro y1 y2)
            clear y1 y2 hyc
            refine wp_region_held_drew (S := fun w' => w'.cell? ⟨g, r + 1, none⟩ = some v) (by kernel_rfl) HY.out.1 (fun hHeld => ?_)
            refine wpAnyH_take (i := 0) (oi := { dst := some 58, op := Op.move (Operand.tmp 10), type := 30, pos := "weave.go:59", after := #[], guard := none }) (v := vo) rfl (by kernel_rfl) (by kernel_rfl) (by kernel_rfl) (fun _ _ _ h => h) (Or.inl ⟨by rfl, by intro w hSw; (try dsimp only at hSw); go_simp⟩) hHeld ?_
            simp only [Act.put, List.setIfInBounds_toArray, List.set_cons_zero, List.set_cons_succ]
            refine wpAnyH_take (i := 1) (oi := { dst := some 59, op := Op.move (Operand.tmp 12), type := 3, pos := "weave.go:59", after := #[], guard := none }) (v := .int .i64 x) rfl (by kernel_rfl) (by kernel_rfl) (by kernel_rfl) (fun _ _ _ h => h) (Or.inl ⟨by rfl, by intro w hSw; (try dsimp only at hSw); go_simp⟩) hHeld ?_
            simp only [Act.put, List.setIfInBounds_toArray, List.set_cons_zero, List.set_cons_succ]
            refine wpAnyH_take (i := 4) (oi := { dst := some 62, op := Op.move (Operand.tmp 6), type := 80, pos := "weave.go:59", after := #[], guard := none }) (v := .slice (some ⟨g, 0, none⟩) (m + 1) (m + 1)) rfl (by kernel_rfl) (by kernel_rfl) (by kernel_rfl) (fun _ _ _ h => h) (Or.inl ⟨by rfl, by intro w hSw; (try dsimp only at hSw); go_simp⟩) hHeld ?_
            simp only [Act.put, List.setIfInBounds_toArray, List.set_cons_zero, List.set_cons_succ]
            refine wpAnyH_take (i := 5) (oi := { dst := some 63, op := Op.move (Operand.tmp 11), type := 3, pos := "weave.go:59", after := #[], guard := none }) (v := .int .i64 r) rfl (by kernel_rfl) (by kernel_rfl) (by kernel_rfl) (fun _ _ _ h => h) (Or.inl ⟨by rfl, by intro w hSw; (try dsimp only at hSw); go_simp⟩) hHeld ?_
            simp only [Act.put, List.setIfInBounds_toArray, List.set_cons_zero, List.set_cons_succ]
            refine wpAnyH_take (i := 6) (oi := { dst := some 64, op := Op.binOp BinOp.add 3 (Operand.tmp 63) (Operand.const (Value.int IntKind.i64 1)) 3, type := 3, pos := "weave.go:59", after := #[{ on := 5, ground := Ground.data }], guard := none }) (v := .int .i64 ((r : Int) + 1)) rfl (by kernel_rfl) (by kernel_rfl) (by kernel_rfl) (fun _ _ _ h => h) (Or.inl ⟨by rfl, by intro w hSw; (try dsimp only at hSw); go_simp; exact (wrap_nat r (by omega)).trans (by omega)⟩) hHeld ?_
            simp only [Act.put, List.setIfInBounds_toArray, List.set_cons_zero, List.set_cons_succ]
            refine wpAnyH_take (i := 7) (oi := { dst := some 65, op := Op.indexAddr 80 (Operand.tmp 62) (Operand.tmp 64), type := 0, pos := "weave.go:59", after := #[{ on := 4, ground := Ground.data }, { on := 6, ground := Ground.data }], guard := none }) (v := .pointer (some ⟨g, r + 1, none⟩)) rfl (by kernel_rfl) (by kernel_rfl) (by kernel_rfl) (fun _ _ _ h => h) (Or.inl ⟨by rfl, by intro w hSw; (try dsimp only at hSw); go_simp⟩) hHeld ?_
            simp only [Act.put, List.setIfInBounds_toArray, List.set_cons_zero, List.set_cons_succ]
            refine wpAnyH_take (i := 8) (oi := { dst := some 66, op := Op.load 30 (Operand.tmp 65), type := 30, pos := "weave.go:59", after := #[{ on := 7, ground := Ground.data }], guard := none }) (v := v) rfl (by kernel_rfl) (by kernel_rfl) (by kernel_rfl) (fun _ _ _ h => h) (Or.inl ⟨by rfl, by intro w hSw; (try dsimp only at hSw); go_simp⟩) hHeld ?_
            simp only [Act.put, List.setIfInBounds_toArray, List.set_cons_zero, List.set_cons_succ]
            refine wpAnyH_ready (rs := [2]) (by kernel_rfl) (by simp) ?_
            refine AllReadyH.cons (o := { dst := some 60, op := Op.buildSlice 30 1 #[(0, Operand.tmp 59)], type := 30, pos := "weave.go:59", after := #[{ on := 1, ground := Ground.data }], guard := none }) rfl (fun K hK => ?_) AllReadyH.nil
            go_simp
            go_wp2_with fail
            refine hK.out _ _ HY.out.2 (fun hHeld => ?_)
            clear hK K
            try simp only [Act.put, List.setIfInBounds_toArray, List.set_cons_zero, List.set_cons_succ]
            refine wpAnyH_ready (rs := [3]) (by kernel_rfl) (by simp) ?_
            refine AllReadyH.cons (o := { dst := some 61, op := Op.call { callee := Callee.builtin Builtin.append, args := #[Operand.tmp 58, Operand.tmp 60], argTypes := #[30, 30] }, type := 30, pos := "weave.go:59", after := #[{ on := 0, ground := Ground.data }, { on := 2, ground := Ground.data }], guard := none }) rfl (fun K hK => ?_) AllReadyH.nil
            refine step_append_lies _ (by rfl) _ _ _ (by rfl) wc.heap.size 3 tr _ 1 8 Try.underlying30 hi hz0 hz1 hz2 (by rfl) (by decide) vo o.length (nums o) (by rfl) (HR.out.1.drew.alloc _) _ 1 1 [.int .i64 x] (by rfl) (by rfl) (by exact World.news_of_block (Blk.new _ _ _)) (by intro u hu; simp at hu; subst hu; rfl) (by omega) (by unfold maxLen; omega) (by omega) (by have := HR.out.2.1.size; simp; omega) _ rfl ?_
            intro g4 cap4 w4 hown4 hg4 hat4 hlt4
            have hb4 := ((HR.out.2.1.drew).alloc (by have := HR.out.2.1.size; exact this) (.cells #[.int .i64 x] 3)).grown hg4 (by have := HR.out.2.1.size; simp; omega) (fun j hj => (HR.out.1.lt j hj).1)
            have y4 : w4.cell? ⟨g, r + 1, none⟩ = some v := (hb4.cell (p := ⟨g, r + 1, none⟩) (HO.out.1.row.lt g rfl).2).trans HV.out
            have h4 := own_keep HR.out.2.2.1 hb4
            have H4 := Lib.hid (And.intro hown4 (And.intro hb4 (And.intro h4 y4)))
            clear hown4 hg4 hat4 hlt4 hb4 h4 y4
            refine hK.out _ _ H4.out.2.2.2 (fun hHeld => ?_)
            clear hK K
            try simp only [Act.put, List.setIfInBounds_toArray, List.set_cons_zero, List.set_cons_succ]
            refine wpAnyH_ready (rs := [9]) (by kernel_rfl) (by simp) ?_
            refine AllReadyH.cons (o := { dst := some 67, op := Op.call { callee := Callee.builtin Builtin.append, args := #[Operand.tmp 61, Operand.tmp 66], argTypes := #[30, 30] }, type := 30, pos := "weave.go:59", after := #[{ on := 3, ground := Ground.data }, { on := 8, ground := Ground.data }, { on := 3, ground := Ground.chain }], guard := none }) rfl (fun K hK => ?_) AllReadyH.nil
            by_cases hgs : gs = []
            · have hv := HR.out.2.2.2 hgs
              subst hgs hv
              refine step_append_none (by rfl) _ _ _ (by rfl) wc.heap.size 3 tr 1 Try.underlying30 hi _ (o.length + 1) (nums o ++ [.int .i64 x]) (by rfl) H4.out.1 (by rfl) ?_
              refine hK.out _ _ H4.out.2.2.2 (fun hHeld => ?_)
              clear hK K
              try simp only [Act.put, List.setIfInBounds_toArray, List.set_cons_zero, List.set_cons_succ]
              refine wpAnyH_take (i := 10) (oi := { dst := some 10, op := Op.assign (Operand.tmp 67), type := 30, pos := "weave.go:59", after := #[{ on := 9, ground := Ground.data }, { on := 9, ground := Ground.chain }, { on := 0, ground := Ground.phase }, { on := 1, ground := Ground.phase }, { on := 2, ground := Ground.phase }, { on := 3, ground := Ground.phase }, { on := 4, ground := Ground.phase }, { on := 5, ground := Ground.phase }, { on := 6, ground := Ground.phase }, { on := 7, ground := Ground.phase }, { on := 8, ground := Ground.phase }, { on := 9, ground := Ground.phase }], guard := none }) (v := .slice (some ⟨g4, 0, none⟩) (o.length + 1) cap4) rfl (by kernel_rfl) (by kernel_rfl) (by kernel_rfl) (fun _ _ _ h => h) (Or.inl ⟨by rfl, by intro w hSw; (try dsimp only at hSw); go_simp⟩) hHeld ?_
              simp only [Act.put, List.setIfInBounds_toArray, List.set_cons_zero, List.set_cons_succ]
              refine wpAnyH_done (by kernel_rfl) ?_ _
              go_wp2_with fail
              go_roundw
              case rel => exact ⟨r + 1, by omega, by go_num, by rw [HMT.out, List.append_nil, nums_snoc, List.length_append]; exact H4.out.1, H4.out.2.1⟩
              case measure => simp [intOf]; omega
            · obtain ⟨g6, cap6, hv, hg6, hg6l⟩ := HR.out.2.2.1.form (List.length_pos_iff.2 hgs)
              subst hv
              have HGP := Lib.hid (List.length_pos_iff.2 hgs)
              clear hgs
              refine step_append_lies _ (by rfl) _ _ _ (by rfl) wc.heap.size 3 tr _ 1 8 Try.underlying30 hi hz0 hz1 hz2 (by rfl) (by decide) _ (o.length + 1) (nums o ++ [.int .i64 x]) (by rfl) H4.out.1 _ gs.length cap6 (nums gs) (by rfl) (by rw [nums_len, Nat.mul_one]) (H4.out.2.2.1.cells rfl) (by intro u hu; simp only [nums, List.mem_map] at hu; obtain ⟨z, _, rfl⟩ := hu; rfl) HGP.out (by unfold maxLen; omega) (by omega) H4.out.2.1.size _ rfl ?_
              intro g5 cap5 w5' hown5 hg5 hat5 hlt5
              have hb5 := H4.out.2.1.grown hg5 H4.out.2.1.size (fun j hj => (H4.out.1.lt j hj).1)
              have y5 : w5'.cell? ⟨g, r + 1, none⟩ = some (.slice (some ⟨g6, 0, none⟩) gs.length cap6) := (hb5.cell (p := ⟨g, r + 1, none⟩) (HO.out.1.row.lt g rfl).2).trans HV.out
              have H5 := Lib.hid (And.intro hown5 hb5)
              clear hown5 hg5 hat5 hlt5 hb5
              refine hK.out _ _ y5 (fun hHeld => ?_)
              clear hK K
              try simp only [Act.put, List.setIfInBounds_toArray, List.set_cons_zero, List.set_cons_succ]
              clear y5
              refine wpAnyH_take (i := 10) (oi := { dst := some 10, op := Op.assign (Operand.tmp 67), type := 30, pos := "weave.go:59", after := #[{ on := 9, ground := Ground.data }, { on := 9, ground := Ground.chain }, { on := 0, ground := Ground.phase }, { on := 1, ground := Ground.phase }, { on := 2, ground := Ground.phase }, { on := 3, ground := Ground.phase }, { on := 4, ground := Ground.phase }, { on := 5, ground := Ground.phase }, { on := 6, ground := Ground.phase }, { on := 7, ground := Ground.phase }, { on := 8, ground := Ground.phase }, { on := 9, ground := Ground.phase }], guard := none }) (v := .slice (some ⟨g5, 0, none⟩) (o.length + 1 + gs.length) cap5) rfl (by kernel_rfl) (by kernel_rfl) (by kernel_rfl) (fun _ _ _ h => h) (Or.inl ⟨by rfl, by intro w hSw; (try dsimp only at hSw); go_simp⟩) hHeld ?_
              simp only [Act.put, List.setIfInBounds_toArray, List.set_cons_zero, List.set_cons_succ]
              refine wpAnyH_done (by kernel_rfl) ?_ _
              go_wp2_with fail
              go_roundw
              case rel => exact ⟨r + 1, by omega, by go_num, by rw [HMT.out, nums_app, nums_snoc, List.length_append, List.length_append]; exact H5.out.1, H5.out.2⟩
              case measure => simp [intOf]; omega
            -- REGION16 END
          · obtain rfl : r = m := by omega
            obtain ⟨A6, c6, hv⟩ := own_form hown
            subst hv
            have HE := Lib.hid (show mergeS was live = mergeTo was live r by rw [mergeS, HZ.out.2.1.1])
            have hbw := H3.out.2.2.1.trans (HO.out.2.1.mono H3.out.2.2.1.size)
            have HF := Lib.hid (And.intro (own_base hown hbw.size) (hbw.trans (hb.mono hbw.size)))
            clear hown hb hbw HC
            go_wp2
            go_ret
            rw [HE.out]
            exact ⟨A6, c6, rfl, HF.out.1, HF.out.2⟩

end Go.Proofs.Ytgopokoghnfgiaa
