/-
  ScrimGroups: whoever leaves stands, as a ghost, where it stood; whoever comes back, or stays, is the one that it was. For every input; no condition.
-/
import Derived.Test.YtgopokoghnfgiaaGroupK
namespace Go.Proofs.Ytgopokoghnfgiaa
open Go.ChangeShapes Go.WideShapes Go.ChangeAt Go.RowKit
attribute [local go_sem ↓] Go.wp_at_zero Go.wp_at_succ

theorem wfs_of {l : List Int} (h : ∀ x ∈ l, 1 ≤ x ∧ x < 1000) : Wfs l := fun x hx => by
  have h1 := h x hx
  rw [show x = ((x.toNat : Nat) : Int) by omega]
  exact wf_small0 _ (by omega)
theorem woven_wf {r : Nat} {kids : List Mb} {next : Nat} {keys : List ByteArray} (h : Inv r kids next) (hs : KS keys) (hr : r ≤ 8) (hk : keys.length ≤ 6) :
    Wfs (ids kids) ∧ Wfs (liveS kids next keys) ∧ Wfs (wovenS kids next keys) := by
  have h1 : ∀ x ∈ ids kids, 1 ≤ x ∧ x < 1000 := fun x hx => by
    obtain ⟨i, h2, h3⟩ := List.mem_iff_getElem.1 hx
    have hi : i < kids.length := by rwa [ids_len] at h2
    have h4 : (kids.getD i mb0).1 = x := by rw [← ids_at _ _ hi]; simp [List.getD, h2, h3]
    have := h.lo i hi
    have := h.nx
    omega
  have h2 : ∀ x ∈ liveS kids next keys, 1 ≤ x ∧ x < 1000 := fun x hx => by
    obtain ⟨k, hk2, rfl⟩ := (live_mem x).1 hx
    have := lv_lo h hk2 h.pos
    have := nxTo_le kids next keys (k + 1)
    have := h.nx
    omega
  exact ⟨wfs_of h1, wfs_of h2, wfs_of fun x hx => ((woven_mem h hs x).1 hx).elim (h2 x) (h1 x)⟩
def seenTo (kids : List Mb) (next : Nat) (keys : List ByteArray) (p : Nat) : List Int := ((wovenS kids next keys).take p).filter fun x => !(allF kids next keys x).2.2
theorem seenTo_succ (kids : List Mb) (next : Nat) (keys : List ByteArray) (p : Nat) (hp : p < (wovenS kids next keys).length) :
    seenTo kids next keys (p + 1) = if (allF kids next keys ((wovenS kids next keys).getD p 0)).2.2 = true then seenTo kids next keys p else seenTo kids next keys p ++ [(wovenS kids next keys).getD p 0] := by
  rw [seenTo, take_snoc _ 0 p hp, List.filter_append, seenTo]
  generalize (wovenS kids next keys).getD p 0 = x
  cases h : (allF kids next keys x).2.2
  · rw [List.filter_cons_of_pos (by rw [h]; rfl)]; rfl
  · rw [List.filter_cons_of_neg (by rw [h]; decide)]; simp
theorem seenTo_len (kids : List Mb) (next : Nat) (keys : List ByteArray) (p : Nat) : (seenTo kids next keys p).length ≤ p := by
  rw [seenTo]
  exact Nat.le_trans (List.length_filter_le _ _) (by simp; omega)
theorem toS_take (kids : List Mb) (next : Nat) (keys : List ByteArray) (p : Nat) (hp : p < (wovenS kids next keys).length) : (toS kids next keys).take (p + 1) = (toS kids next keys).take p ++ [allF kids next keys ((wovenS kids next keys).getD p 0)] := by
  rw [take_snoc _ mb0 p (by rw [to_len]; exact hp), to_at hp]

theorem own_sep {w1 w2 : World} {b1 b2 : Nat} {e1 e2 : TypeId} {s1 s2 n1 n2 : Nat} {v1 v2 : Value} {x1 x2 : List Value} (h1 : w1.ownsRow b1 e1 s1 v1 n1 x1) (h2 : w2.ownsRow b2 e2 s2 v2 n2 x2) (hb : w2.heap.size ≤ b1) : v1.ownBlock = none ∨ v1.ownBlock ≠ v2.ownBlock := by
  cases h : v1.ownBlock with
  | none => exact .inl rfl
  | some b =>
    refine .inr fun e => ?_
    have h3 := (h1.lt b h).1
    have h4 := (h2.lt b e.symm).2
    omega
theorem own_next {w : World} {base : Nat} {e : TypeId} {sz n H : Nat} {v u u' : Value} {xs : List Value} (h : w.ownsRow base e sz v n xs) (hd : v.ownBlock = none ∨ v.ownBlock ≠ u.ownBlock) (hat : u'.ownBlock = u.ownBlock ∨ u'.ownBlock = some H) (hH : w.heap.size ≤ H) : v.ownBlock = none ∨ v.ownBlock ≠ u'.ownBlock := by
  rcases hat with h1 | h1
  · rw [h1]; exact hd
  · cases hv : v.ownBlock with
    | none => exact .inl rfl
    | some b =>
      refine .inr fun e => ?_
      rw [h1] at e
      injection e with e
      have := (h.lt b hv).2
      omega
theorem head_leave : (leaveTo [(({ data := #[97] } : ByteArray), false)] [] 1).length = 1 := by rfl

set_option maxRecDepth 100000 in
set_option maxHeartbeats 32000000 in
theorem scrimGroups_walk (A : Option Addr) (n c : Nat) (w : World) (hz : Lss w w.heap.size A n) :
    Calls Try.prog 8 #[.slice A n c] w fun e w' => e = .returned (.bool true) ∧ Below w.heap.size w w' := by
  obtain ⟨tr, hi, hz0, hz1, hz2⟩ := info_parts winfo
  obtain ⟨tm, hmi, hm0, hm1, hm2⟩ := info_parts mb_info
  obtain ⟨tg, hgi, hg0, hg1, hg2⟩ := info_parts gk_info
  have HZ := Lib.hid hz
  clear hz
  go_enter Try.func8, Try.ntmps8
  go_upto_region 2 with (first
    | (go_at_call 27; refine (gof_any (some ⟨w.heap.size, 0, none⟩) none 1 1 0 0 [(({ data := #[97] } : ByteArray), false)] [] _ ⟨rfl, fun k hk => by
        obtain rfl : k = 0 := by omega
        have h := Blk.new w 52 #[.string { data := #[97] }, .bool false]
        refine ⟨w.heap.size, 0, rfl, by simp, fun j hj => ?_⟩
        match j, hj with
        | 0, _ => exact h.cell 0
        | 1, _ => exact h.cell 1⟩ (Rd.nil _ _ _) (by omega) (by omega) ⟨fun i hi j hj => by simp at hi; omega, fun i => by
          by_cases h : i = 0
          · subst h; decide
          · have : ([(({ data := #[97] } : ByteArray), false)] : List Gk).getD i gk0 = gk0 := by simp [List.getD, show ¬ i = 0 from h]
            rw [this]; decide⟩ ⟨fun i hi => absurd hi (Nat.not_lt_zero _), fun i => by simp [List.getD]⟩).mono ?_; rintro e w1 ⟨A1, c1, A2, c2, he, -, -, hb1⟩; have he' : e = .returned (.agg #[.slice A1 1 c1, .slice A2 0 c2]) := he; clear he; subst he'; have HB1 := Lib.hid (((Below.refl w.heap.size w).alloc (Nat.le_refl _) (.cells #[.string { data := #[97] }, .bool false] 52)).trans (hb1.mono (by simp))); clear hb1))
  have HB2 := Lib.hid (HB1.out.alloc HB1.out.size (.cells #[.slice A1 1 c1, .slice A2 0 c2] 49))
  clear HB1
  go_wp2_with fail
  go_loopw [4, 5, 6] (fun vk vn vi wx => ∃ (r : Nat) (kids : List Mb) (next : Nat), r ≤ n ∧ r ≤ 8 ∧ vi = .int .i64 r ∧ vn = .int .i64 (next : Nat) ∧ wx.ownsRow w.heap.size 59 3 vk kids.length (kids.flatMap cvM) ∧ Inv r kids next ∧ Below w.heap.size w wx) (fun _ _ i _ => 8 - (intOf i).toNat)
  case atStart => exact ⟨0, [], 1, by omega, by omega, rfl, rfl, World.ownsRow_nil _ _ _ _, inv_zero, HB2.out⟩
  case round =>
    obtain ⟨r, kids, next, hr, hr8, rfl, rfl, hown, hInv, hb⟩ := hrel
    obtain ⟨vk, hvk⟩ : ∃ vk, vk = u4 := ⟨_, rfl⟩
    rw [← hvk] at hown ⊢
    clear hvk
    by_cases hlt : r < n ∧ r < 8
    · obtain ⟨h1, h2⟩ := hlt
      obtain ⟨b, off, rfl, hbB, A', n', c', l, e0, hnc, hS⟩ := HZ.out r h1
      replace e0 := (hb.cell (p := ⟨b, off + r, none⟩) hbB).trans e0
      have i1 : (0 : Int) ≤ (r : Int) := by omega
      have i2 : (r : Int) < (n : Int) := by omega
      have i3 : (r : Int) < 8 := by omega
      obtain ⟨Ak, ck, hv⟩ := own_form hown
      subst hv
      have hkl : kids.length ≤ 48 := by have := hInv.len; omega
      have hnx : next ≤ 49 := by have := hInv.nx; omega
      have HK := Lib.hid (And.intro (Rd.of_own (d := mb0) cvM_len hown rfl) (And.intro ((hS.below hb).more hb.size) (And.intro hb hInv)))
      obtain ⟨nk, hnk⟩ : ∃ nk, nk = kids.length := ⟨_, rfl⟩
      rw [← hnk] at HK hkl ⊢
      have HNK := Lib.hid hnk
      clear hown hInv hb hS hnk HB2
      go_wp2_with fail
      refine (few_any A' n' c' 6 (by omega) l _ HK.out.2.1).mono ?_
      rintro e w2 ⟨A3, c3, rfl, ho3, hb3⟩
      have hc3 := own_cap ho3
      have hf6 : (fewS 6 l).length ≤ 6 := by rw [fewS_len]; omega
      have H3 := Lib.hid (And.intro (Rd.of_own (cv := cvS) (d := ByteArray.empty) (fun _ => rfl) ho3 rfl) (And.intro (HK.out.1.keep hb3) (HK.out.2.2.1.trans (hb3.mono HK.out.2.2.1.size))))
      obtain ⟨f, hf⟩ : ∃ f, f = (fewS 6 l).length := ⟨_, rfl⟩
      rw [← hf] at H3 hc3 hf6 ⊢
      clear ho3 hb3 hf
      go_wp2_with fail
      refine (clean_any A3 f c3 (fewS 6 l) _ H3.out.1 (by omega) hc3.1).mono ?_
      obtain ⟨hks, hk6⟩ := keys_ks l
      obtain ⟨keys, hkeys⟩ : ∃ keys, keys = cleanS (fewS 6 l) := ⟨_, rfl⟩
      rw [← hkeys] at hks hk6 ⊢
      rintro e w3 ⟨A4, c4, rfl, ho4, hb4⟩
      have H4 := Lib.hid (And.intro (Rd.of_own (cv := cvS) (d := ByteArray.empty) (fun _ => rfl) ho4 rfl) (And.intro (H3.out.2.1.keep hb4) (And.intro (H3.out.2.2.trans (hb4.mono H3.out.2.2.size)) hks)))
      obtain ⟨m, hm⟩ : ∃ m, m = keys.length := ⟨_, rfl⟩
      rw [← hm] at H4 hk6 ⊢
      have HM := Lib.hid hm
      clear ho4 hb4 hm hkeys hks H3 e0
      have HI := Lib.hid HK.out.2.2.2
      clear HK
      go_upto_region 12 with fail
      have hw0 : (w3.alloc (.cells #[] 3)).ownsRow w3.heap.size 3 1 (.slice (some ⟨w3.heap.size, 0, none⟩) 0 0) 0 [] := World.ownsRow_made w3 #[] 0 (Nat.le_refl _) (Nat.zero_le _) rfl
      obtain ⟨v0, hv0⟩ : ∃ v0, v0 = Value.slice (some ⟨w3.heap.size, 0, none⟩) 0 0 := ⟨_, rfl⟩
      rw [← hv0] at hw0 ⊢
      have HW0 := Lib.hid hw0
      clear hw0 hv0
      go_wp2_with fail
      go_loopw [8, 9, 50] (fun vo vw i wx => ∃ k : Nat, k ≤ nk ∧ i = .int .i64 k ∧ wx.ownsRow w3.heap.size 52 2 vo k (((oldG kids).take k).flatMap cvG) ∧ wx.ownsRow w3.heap.size 3 1 vw k (nums ((ids kids).take k)) ∧ Below w3.heap.size w3 wx) (fun _ _ i _ => nk - (intOf i).toNat)
      case atStart => exact ⟨0, Nat.zero_le _, rfl, World.ownsRow_nil _ _ _ _, HW0.out, (Below.refl _ _).alloc (Nat.le_refl _) _⟩
      case round =>
        obtain ⟨k, hk, rfl, hown, hown2, hb⟩ := hrel
        obtain ⟨vo, hvo⟩ : ∃ vo, vo = u8 := ⟨_, rfl⟩
        obtain ⟨vw, hvw⟩ : ∃ vw, vw = u9 := ⟨_, rfl⟩
        rw [← hvo] at hown ⊢
        rw [← hvw] at hown2 ⊢
        clear hvo hvw
        by_cases hlk : k < nk
        · as_aux_lemma =>
          obtain ⟨b5, off5, rfl, hbB5, d0, d1, d2⟩ := H4.out.2.1.mb k hlk
          replace d0 := (hb.cell (p := ⟨b5, off5 + k * 3, none⟩) hbB5).trans d0
          replace d1 := (hb.cell (p := ⟨b5, off5 + k * 3 + 1, none⟩) hbB5).trans d1
          replace d2 := (hb.cell (p := ⟨b5, off5 + k * 3 + 2, none⟩) hbB5).trans d2
          have HTO := Lib.hid (take_snoc (oldG kids) gk0 k (by rw [oldG_len, ← HNK.out]; exact hlk))
          have HTI := Lib.hid (take_snoc (ids kids) 0 k (by rw [ids_len, ← HNK.out]; exact hlk))
          rw [oldG_at] at HTO
          rw [ids_at _ _ (by rw [← HNK.out]; exact hlk)] at HTI
          obtain ⟨⟨a, s, gh⟩, hm0⟩ : ∃ z, z = kids.getD k mb0 := ⟨_, rfl⟩
          rw [← hm0] at d0 d1 d2 HTO HTI
          simp only at d0 d1 d2 HTO HTI
          have j1 : (0 : Int) ≤ (k : Int) := by omega
          have j2 : (k : Int) < (nk : Int) := by omega
          have HO := Lib.hid (And.intro (hown.alloc (.cells #[.int .i64 a, .string s, .bool gh] 59)) (And.intro (hown2.alloc (.cells #[.int .i64 a, .string s, .bool gh] 59)) (hb.alloc hb.size (.cells #[.int .i64 a, .string s, .bool gh] 59))))
          have HX := Lib.hid (Blk.new wr 59 #[.int .i64 a, .string s, .bool gh])
          clear hm0 hown hown2 hb HW0
          go_upto_region 15 with fail
          obtain ⟨wo, hwo⟩ : ∃ wo, wo = wr.alloc (.cells #[.int .i64 a, .string s, .bool gh] 59) := ⟨_, rfl⟩
          obtain ⟨X, hX⟩ : ∃ X, X = wr.heap.size := ⟨_, rfl⟩
          rw [← hwo] at HO HX ⊢
          rw [← hX] at HX ⊢
          have x1 : wo.cell? ⟨X, 1, none⟩ = some (.string s) := HX.out.cell 1
          have x2 : wo.cell? ⟨X, 2, none⟩ = some (.bool gh) := HX.out.cell 2
          clear hwo hX d0 d1 d2
          go_upto_region 16 with (first
            | (at_builtin; refine wpList_append_lies _ rfl _ _ _ rfl w3.heap.size 52 tg _ 2 24 Try.underlying53 hgi hg0 hg1 hg2 rfl (by decide) vo k (((oldG kids).take k).flatMap cvG) rfl (HO.out.1.alloc _) _ 1 1 [.string s, .bool gh] rfl rfl (World.news_of_block (heap_alloc_new _ _)) (by intro u hu; simp at hu; rcases hu with rfl | rfl <;> rfl) (by omega) (by unfold maxLen; omega) (by omega) (by have := HO.out.2.2.size; simp; omega) _ rfl ?_; intro g2 cap2 w5 hown5 hg5 hat5 hlt5; have HO2 := Lib.hid (And.intro hown5 (And.intro ((HO.out.2.1.alloc _).kept hg5 (own_own_ne HO.out.2.1 HO.out.1 (by decide))) ((HO.out.2.2.alloc HO.out.2.2.size _).grown hg5 (HO.out.2.2.alloc HO.out.2.2.size _).size (fun j hj => (HO.out.1.lt j hj).1)))); have x0 : w5.cell? ⟨X, 0, none⟩ = some (.int .i64 a) := ((HX.out.alloc _).grown hg5 (fun e => own_blk_ne HO.out.1 HX.out (by decide) e.symm)).cell 0; clear hown5 hg5 hat5 hlt5))
          go_wp2_with (first
            | (at_builtin; refine wpList_append_lies _ rfl _ _ _ rfl w3.heap.size 3 tr _ 1 8 Try.underlying30 hi hz0 hz1 hz2 rfl (by decide) vw k (nums ((ids kids).take k)) rfl (HO2.out.2.1.alloc _) _ 1 1 [.int .i64 a] rfl rfl (World.news_of_block (heap_alloc_new _ _)) (by intro u hu; simp at hu; subst hu; rfl) (by omega) (by unfold maxLen; omega) (by omega) (by have := HO2.out.2.2.size; simp; omega) _ rfl ?_; intro g3 cap3 w6 hown6 hg6 hat6 hlt6; have HO3 := Lib.hid (And.intro ((HO2.out.1.alloc _).kept hg6 (own_own_ne HO2.out.1 HO2.out.2.1 (by decide))) (And.intro hown6 ((HO2.out.2.2.alloc HO2.out.2.2.size _).grown hg6 (HO2.out.2.2.alloc HO2.out.2.2.size _).size (fun j hj => (HO2.out.2.1.lt j hj).1)))); clear hown6 hg6 hat6 hlt6))
          go_roundw
          case rel => exact ⟨k + 1, by omega, by go_num, by rw [HTO.out, cvG_snoc]; exact HO3.out.1, by rw [HTI.out, nums_snoc]; exact HO3.out.2.1, HO3.out.2.2⟩
          case measure => simp [intOf]; omega
        · obtain rfl : k = nk := by omega
          rw [List.take_of_length_le (by rw [oldG_len, ← HNK.out]; exact Nat.le_refl _)] at hown
          rw [List.take_of_length_le (by rw [ids_len, ← HNK.out]; exact Nat.le_refl _)] at hown2
          obtain ⟨Ao, co, hv⟩ := own_form hown
          subst hv
          obtain ⟨Aw, cw, hv⟩ := own_form hown2
          subst hv
          have H5 := Lib.hid (And.intro (Rd.of_own (cv := cvG) (d := gk0) cvG_len hown (by rw [oldG_len]; exact HNK.out.symm)) (And.intro (Nums.of_own hown2 (by rw [ids_len]; exact HNK.out.symm)) (And.intro ((H4.out.1.below hb).more hb.size) (And.intro ((H4.out.2.1.below hb).more hb.size) (And.intro (H4.out.2.2.1.trans (hb.mono H4.out.2.2.1.size)) H4.out.2.2.2)))))
          clear hown hown2 hb H4 HW0 hlk hc3
          obtain ⟨ws, hws⟩ : ∃ ws : World, ws = wr := ⟨_, rfl⟩
          rw [← hws] at H5 ⊢
          clear hws
          go_wp2_with fail
          refine (gof_any Ao A4 k co m c4 (oldG kids) keys _ H5.out.1 H5.out.2.2.1 (by omega) (by omega) HI.out.kd H5.out.2.2.2.2.2).mono ?_
          rintro e w5 ⟨A7, c7, A8, c8, he, hoL, hoT, hb5⟩
          obtain ⟨L, hL⟩ : ∃ L, L = leaveTo (oldG kids) keys (oldG kids).length := ⟨_, rfl⟩
          rw [← hL, ← HM.out] at he
          rw [← hL] at hoL
          rw [← HM.out] at hoT
          obtain ⟨nl, hnl⟩ : ∃ nl, nl = L.length := ⟨_, rfl⟩
          rw [← hnl] at he hoL
          have hnl48 : nl ≤ 48 := by have := leaveTo_len (oldG kids) keys (oldG kids).length; rw [← hL, oldG_len, ← HNK.out] at this; omega
          subst he
          have HLL := Lib.hid hL
          have H6 := Lib.hid (And.intro (H5.out.1.keep hb5) (And.intro (H5.out.2.1.keep hb5) (And.intro (H5.out.2.2.1.keep hb5) (And.intro (H5.out.2.2.2.1.keep hb5) (And.intro (H5.out.2.2.2.2.1.trans (hb5.mono H5.out.2.2.2.2.1.size)) (And.intro (Nums.of_own hoL hnl.symm) (Nums.of_own hoT (by rw [takeL_len]; exact HM.out.symm))))))))
          have HKS := Lib.hid H5.out.2.2.2.2.2
          clear hL hnl hoL hoT hb5 H5
          have hmm := @run_makeMap Try.prog
          go_upto_region 21 with fail
          have hP := Blk.new w5 49 #[.slice A7 nl c7, .slice A8 m c8]
          have hbp := (Below.refl w5.heap.size w5).alloc (Nat.le_refl _) (.cells #[.slice A7 nl c7, .slice A8 m c8] 49)
          obtain ⟨wb, hwb⟩ : ∃ wb, wb = w5.alloc (.cells #[.slice A7 nl c7, .slice A8 m c8] 49) := ⟨_, rfl⟩
          obtain ⟨P, hPe⟩ : ∃ P, P = w5.heap.size := ⟨_, rfl⟩
          rw [← hwb] at hP hbp ⊢
          rw [← hPe] at hP ⊢
          have H7 := Lib.hid (And.intro (H6.out.1.keep hbp) (And.intro (H6.out.2.1.keep hbp) (And.intro (H6.out.2.2.1.keep hbp) (And.intro (H6.out.2.2.2.1.keep hbp) (And.intro (H6.out.2.2.2.2.1.trans (hbp.mono H6.out.2.2.2.2.1.size)) (And.intro (H6.out.2.2.2.2.2.1.keep hbp) (And.intro (H6.out.2.2.2.2.2.2.keep hbp) hP)))))))
          clear hwb hPe hP hbp H6
          go_upto_region 24 with fail
          have hl0 : (wb.alloc (.cells #[] 3)).ownsRow wb.heap.size 3 1 (.slice (some ⟨wb.heap.size, 0, none⟩) 0 0) 0 [] := World.ownsRow_made wb #[] 0 (Nat.le_refl _) (Nat.zero_le _) rfl
          have hM0 := memKit.made (wb.alloc (.cells #[] 3))
          rw [World.size_alloc] at hM0
          have hb0 := ((Below.refl wb.heap.size wb).alloc (Nat.le_refl _) (.cells #[] 3)).alloc (by simp) (.map #[] 0)
          have H8 := Lib.hid (And.intro (hl0.alloc (.map #[] 0)) (And.intro hM0 hb0))
          obtain ⟨vl, hvl⟩ : ∃ vl, vl = Value.slice (some ⟨wb.heap.size, 0, none⟩) 0 0 := ⟨_, rfl⟩
          obtain ⟨M, hMe⟩ : ∃ M, M = wb.heap.size + 1 := ⟨_, rfl⟩
          have HMB := Lib.hid (show wb.heap.size ≤ M by omega)
          rw [← hvl, ← hMe] at H8
          rw [← hvl, ← hMe]
          clear hl0 hM0 hb0 hvl hMe hmm
          go_loopw [81] (fun i wx => ∃ q : Nat, q ≤ k ∧ i = .int .i64 q ∧ memKit.Own wx M q (allA kids keys q) ∧ wx.ownsRow wb.heap.size 3 1 vl 0 [] ∧ Below wb.heap.size wb wx) (fun i _ => k - (intOf i).toNat)
          case atStart => exact ⟨0, Nat.zero_le _, rfl, H8.out.2.1, H8.out.1, H8.out.2.2⟩
          case round =>
            obtain ⟨q, hq, rfl, hO, hown, hb⟩ := hrel
            by_cases hlq : q < k
            · as_aux_lemma =>
              obtain ⟨b5, off5, hA5, hbB5, d0, d1, d2⟩ := H7.out.2.2.2.1.mb q hlq
              replace d0 := (hb.cell (p := ⟨b5, off5 + q * 3, none⟩) hbB5).trans d0
              replace d1 := (hb.cell (p := ⟨b5, off5 + q * 3 + 1, none⟩) hbB5).trans d1
              replace d2 := (hb.cell (p := ⟨b5, off5 + q * 3 + 2, none⟩) hbB5).trans d2
              have hwf : (Lit.int .i64 (kids.getD q mb0).1).wf = true := by
                have h1 := HI.out.lo q (by rw [← HNK.out]; exact hlq)
                have h2 : (kids.getD q mb0).1 = (((kids.getD q mb0).1.toNat : Nat) : Int) := by omega
                rw [h2]; exact wf_small0 _ (by omega)
              have HAL := Lib.hid (show allA kids keys (q + 1) = setF (allA kids keys q) (kids.getD q mb0).1 ((kids.getD q mb0).1, (kids.getD q mb0).2.1, goneB kids keys q) from rfl)
              obtain ⟨⟨a, s, gh⟩, hm0⟩ : ∃ z, z = kids.getD q mb0 := ⟨_, rfl⟩
              rw [← hm0] at d0 d1 d2 hwf HAL
              simp only at d0 d1 d2 hwf HAL
              have j1 : (0 : Int) ≤ (q : Int) := by omega
              have j2 : (q : Int) < (k : Int) := by omega
              have HO := Lib.hid (And.intro (hO.keep ((Below.refl wr.heap.size wr).alloc (Nat.le_refl _) (.cells #[.int .i64 a, .string s, .bool gh] 59))) (And.intro (hown.alloc (.cells #[.int .i64 a, .string s, .bool gh] 59)) (hb.alloc hb.size (.cells #[.int .i64 a, .string s, .bool gh] 59))))
              have HX := Lib.hid (Blk.new wr 59 #[.int .i64 a, .string s, .bool gh])
              have hPw := (H7.out.2.2.2.2.2.2.2.below hb H7.out.2.2.2.2.2.2.2.lt).alloc (.cells #[.int .i64 a, .string s, .bool gh] 59)
              have hxb := hb.size
              clear hm0 hO hown hb H8
              subst hA5
              go_upto_region 26 with fail
              obtain ⟨wo, hwo⟩ : ∃ wo, wo = wr.alloc (.cells #[.int .i64 a, .string s, .bool gh] 59) := ⟨_, rfl⟩
              obtain ⟨X, hX⟩ : ∃ X, X = wr.heap.size := ⟨_, rfl⟩
              rw [← hwo] at HO HX hPw ⊢
              rw [← hX] at HX hxb ⊢
              have p0 : wo.cell? ⟨P, 0, none⟩ = some (.slice A7 nl c7) := hPw.cell 0
              have p1 : wo.cell? ⟨P, 1, none⟩ = some (.slice A8 m c8) := hPw.cell 1
              clear hwo hX d0 d1 d2 hPw
              go_wp2_with fail
              refine (ghosts_any Ao A7 A8 k co nl c7 m c8 (oldG kids) L (takeL (oldG kids) keys) _ ((H7.out.1.below HO.out.2.2).more HO.out.2.2.size) ((H7.out.2.2.2.2.2.1.below HO.out.2.2).more HO.out.2.2.size) ((H7.out.2.2.2.2.2.2.1.below HO.out.2.2).more HO.out.2.2.size) (by omega) (by omega) (by omega)).mono ?_
              rintro e w6 ⟨A9, c9, rfl, ho9, hb9⟩
              have HGB := Lib.hid (show goneB kids keys q = (ghTo (oldG kids) L (takeL (oldG kids) keys) k).contains (q : Int) by rw [goneB, HLL.out, ← HNK.out])
              have hgl := ghTo_len (oldG kids) L (takeL (oldG kids) keys) k
              obtain ⟨gs, hgs⟩ : ∃ gs, gs = ghTo (oldG kids) L (takeL (oldG kids) keys) k := ⟨_, rfl⟩
              rw [← hgs] at ho9 HGB hgl ⊢
              obtain ⟨ng, hng⟩ : ∃ ng, ng = gs.length := ⟨_, rfl⟩
              have HG := Lib.hid (Nums.of_own ho9 rfl)
              rw [← hng] at HG hgl ⊢
              have HO2 := Lib.hid (And.intro (HO.out.1.keep hb9) (And.intro (own_keep HO.out.2.1 hb9) (And.intro (HO.out.2.2.trans (hb9.mono HO.out.2.2.size)) (HX.out.below hb9 HX.out.lt))))
              clear hgs ho9 hng hb9 p0 p1 HO HX
              go_wp2_with fail
              refine (at_any A9 ng c9 _ gs (q : Nat) _ HG.out (by omega)).mono ?_
              rintro e w7 ⟨rr, rfl, hrr, rfl⟩
              have x2 : w7.cell? ⟨X, 2, none⟩ = some (.bool gh) := HO2.out.2.2.2.cell 2
              have xf : w7.frozen? ⟨X, 2, none⟩ = false := HO2.out.2.2.2.frozen 2
              by_cases h0 : 0 ≤ rr
              · have hd : decide (0 ≤ rr) = true := by simpa using h0
                have HGT := Lib.hid (show goneB kids keys q = true by rw [HGB.out, Bool.eq_iff_iff, List.contains_iff_mem]; exact ⟨fun _ => rfl, fun _ => hrr.mem.1 h0⟩)
                rw [HGT.out] at HAL
                have hXs := HO2.out.2.2.2.set_ 2 (.bool true)
                have hMs := HO2.out.1.kept (only_set (g := X) (World.grownBy.refl w7 _) 2 (.bool true)) (by have := MapKit.blk_ne HO2.out.2.2.2 HO2.out.1; simp; omega)
                have hOs := HO2.out.2.1.kept (only_set (g := X) (World.grownBy.refl w7 _) 2 (.bool true)) (.inr (own_blk_ne HO2.out.2.1 HO2.out.2.2.2 (by decide)))
                have hbs := HO2.out.2.2.1.setCell (p := ⟨X, 2, none⟩) hxb (.bool true)
                obtain ⟨w', hup, hO', hg⟩ := hMs.update a hwf (by unfold maxLen; omega) (a, s, true) trivial
                rw [← HAL.out] at hO'
                simp only [memKit, memV] at hup
                have y0 : (w7.setCell ⟨X, 2, none⟩ (.bool true)).cell? ⟨X, 0, none⟩ = some (.int .i64 a) := hXs.cell 0
                have y1 : (w7.setCell ⟨X, 2, none⟩ (.bool true)).cell? ⟨X, 1, none⟩ = some (.string s) := hXs.cell 1
                have y2 : (w7.setCell ⟨X, 2, none⟩ (.bool true)).cell? ⟨X, 2, none⟩ = some (.bool true) := hXs.cell 2
                have hup2 : (Instr.mapUpdate 60 (.map (some M)) (.int .i64 a) (.agg #[.int .i64 a, .string s, .bool true])).run Try.prog (w7.setCell ⟨X, 2, none⟩ (.bool true)) = .ok () w' := hup
                have HF := Lib.hid (And.intro hO' (And.intro (hOs.kept hg (.inr (MapKit.own_ne hOs hMs))) (hbs.grown hg hbs.size (fun j hj => by cases hj; exact HMB.out))))
                clear hXs hMs hOs hbs hup hO' hg hrr HAL
                go_wp2
                go_roundw
                case rel => exact ⟨q + 1, by omega, by go_num, HF.out.1, HF.out.2.1, HF.out.2.2⟩
                case measure => simp [intOf]; omega
              · have hd : decide (0 ≤ rr) = false := by simpa using h0
                have HGT := Lib.hid (show goneB kids keys q = false by rw [HGB.out, Bool.eq_iff_iff, List.contains_iff_mem]; exact ⟨fun h => absurd (hrr.mem.2 h) h0, fun h => (by cases h)⟩)
                rw [HGT.out] at HAL
                have hXs := HO2.out.2.2.2.set_ 2 (.bool false)
                have hMs := HO2.out.1.kept (only_set (g := X) (World.grownBy.refl w7 _) 2 (.bool false)) (by have := MapKit.blk_ne HO2.out.2.2.2 HO2.out.1; simp; omega)
                have hOs := HO2.out.2.1.kept (only_set (g := X) (World.grownBy.refl w7 _) 2 (.bool false)) (.inr (own_blk_ne HO2.out.2.1 HO2.out.2.2.2 (by decide)))
                have hbs := HO2.out.2.2.1.setCell (p := ⟨X, 2, none⟩) hxb (.bool false)
                obtain ⟨w', hup, hO', hg⟩ := hMs.update a hwf (by unfold maxLen; omega) (a, s, false) trivial
                rw [← HAL.out] at hO'
                simp only [memKit, memV] at hup
                have y0 : (w7.setCell ⟨X, 2, none⟩ (.bool false)).cell? ⟨X, 0, none⟩ = some (.int .i64 a) := hXs.cell 0
                have y1 : (w7.setCell ⟨X, 2, none⟩ (.bool false)).cell? ⟨X, 1, none⟩ = some (.string s) := hXs.cell 1
                have y2 : (w7.setCell ⟨X, 2, none⟩ (.bool false)).cell? ⟨X, 2, none⟩ = some (.bool false) := hXs.cell 2
                have hup2 : (Instr.mapUpdate 60 (.map (some M)) (.int .i64 a) (.agg #[.int .i64 a, .string s, .bool false])).run Try.prog (w7.setCell ⟨X, 2, none⟩ (.bool false)) = .ok () w' := hup
                have HF := Lib.hid (And.intro hO' (And.intro (hOs.kept hg (.inr (MapKit.own_ne hOs hMs))) (hbs.grown hg hbs.size (fun j hj => by cases hj; exact HMB.out))))
                clear hXs hMs hOs hbs hup hO' hg hrr HAL
                go_wp2
                go_roundw
                case rel => exact ⟨q + 1, by omega, by go_num, HF.out.1, HF.out.2.1, HF.out.2.2⟩
                case measure => simp [intOf]; omega
            · obtain rfl : q = k := by omega
              have hPw := H7.out.2.2.2.2.2.2.2.below hb H7.out.2.2.2.2.2.2.2.lt
              have p1 : wr.cell? ⟨P, 1, none⟩ = some (.slice A8 m c8) := hPw.cell 1
              have H9 := Lib.hid (And.intro hO (And.intro hown hb))
              clear hO hown hb hPw H8 hlq
              go_wp2_with fail
              go_loopw [5, 13, 101] (fun vn vl i wx => ∃ j : Nat, j ≤ m ∧ i = .int .i64 j ∧ vn = .int .i64 (nxTo kids next keys j : Nat) ∧ wx.ownsRow wb.heap.size 3 1 vl j (nums (liveTo kids next keys j)) ∧ memKit.Own wx M (q + j) (allTo kids next keys j) ∧ Below wb.heap.size wb wx) (fun _ _ i _ => m - (intOf i).toNat)
              case atStart => exact ⟨0, Nat.zero_le _, rfl, rfl, H9.out.2.1, by rw [allTo, ← HNK.out]; exact H9.out.1, H9.out.2.2⟩
              case round =>
                obtain ⟨j, hj, rfl, rfl, hown, hO, hb⟩ := hrel
                obtain ⟨vj, hvj⟩ : ∃ vj, vj = u13 := ⟨_, rfl⟩
                rw [← hvj] at hown ⊢
                clear hvj
                obtain ⟨nx, hnx1⟩ : ∃ nx, nx = nxTo kids next keys j := ⟨_, rfl⟩
                have hnxl : nx ≤ 60 := by have := nxTo_le kids next keys j; omega
                rw [← hnx1]
                by_cases hlj : j < m
                · as_aux_lemma =>
                  obtain ⟨b6, off6, rfl, hb6, t0⟩ := H7.out.2.2.2.2.2.2.1.2 j hlj
                  replace t0 := (hb.cell (p := ⟨b6, off6 + j, none⟩) hb6).trans t0
                  obtain ⟨b7, off7, rfl, hb7, s0⟩ := H7.out.2.2.1.str j hlj
                  replace s0 := (hb.cell (p := ⟨b7, off7 + j, none⟩) hb7).trans s0
                  have hjk : j < keys.length := by rw [← HM.out]; exact hlj
                  have HTC := Lib.hid (tk_cases HI.out hjk)
                  have HNX := Lib.hid (show nxTo kids next keys (j + 1) = if tk kids keys j = -1 then nxTo kids next keys j + 1 else nxTo kids next keys j from rfl)
                  have HLV := Lib.hid (show lv kids next keys j = if tk kids keys j = -1 then ((nxTo kids next keys j : Nat) : Int) else (kids.getD (tk kids keys j).toNat mb0).1 from rfl)
                  have HNEW := Lib.hid (allTo_new HI.out HKS.out j (by omega) j (Nat.le_refl _) hjk)
                  have HLLO := Lib.hid (lv_lo HI.out hjk HI.out.pos)
                  have HNLE := Lib.hid (nxTo_le kids next keys (j + 1))
                  rw [← hnx1] at HNX HLV
                  obtain ⟨t, ht⟩ : ∃ t, t = tk kids keys j := ⟨_, rfl⟩
                  obtain ⟨key, hkey⟩ : ∃ key, key = keys.getD j ByteArray.empty := ⟨_, rfl⟩
                  rw [show (takeL (oldG kids) keys).getD j 0 = tk kids keys j from rfl, ← ht] at t0
                  rw [← hkey] at s0 HTC
                  rw [← ht] at HTC HNX HLV
                  have HKEY := Lib.hid hkey
                  have j1 : (0 : Int) ≤ (j : Int) := by omega
                  have j2 : (j : Int) < (m : Int) := by omega
                  have HO := Lib.hid (And.intro (hown.alloc (.cells #[.int .i64 (nx : Nat), .string key, .bool false] 59)) (And.intro (hO.keep ((Below.refl wr.heap.size wr).alloc (Nat.le_refl _) (.cells #[.int .i64 (nx : Nat), .string key, .bool false] 59))) (hb.alloc hb.size (.cells #[.int .i64 (nx : Nat), .string key, .bool false] 59))))
                  have HX := Lib.hid (Blk.new wr 59 #[.int .i64 (nx : Nat), .string key, .bool false])
                  have hs1 := ((Below.refl wr.heap.size wr).alloc (Nat.le_refl _) (.cells #[.int .i64 (nx : Nat), .string key, .bool false] 59)).cell (p := ⟨b7, off7 + j, none⟩) (World.block_lt_of_cell? _ _ s0) |>.trans s0
                  have hxb := hb.size
                  clear ht hkey hown hO hb hnx1 H9 p1
                  go_upto_region 33 with fail
                  obtain ⟨wo, hwo⟩ : ∃ wo, wo = wr.alloc (.cells #[.int .i64 (nx : Nat), .string key, .bool false] 59) := ⟨_, rfl⟩
                  obtain ⟨X, hX⟩ : ∃ X, X = wr.heap.size := ⟨_, rfl⟩
                  rw [← hwo] at HO HX hs1 ⊢
                  rw [← hX] at HX hxb ⊢
                  clear hwo hX t0 s0
                  have hge : decide ((q : Int) ≤ t) = false := by
                    rcases HTC.out with ⟨h, _⟩ | ⟨i, h1, h2, _⟩
                    · simp; omega
                    · rw [← HNK.out] at h1; simp; omega
                  go_upto_if 117 with fail
                  go_cut [5] (fun s wx => s = .int .i64 (nxTo kids next keys (j + 1) : Nat) ∧ Blk wx X 59 #[.int .i64 (lv kids next keys j), .string key, .bool false] ∧ memKit.Own wx M (q + j) (allTo kids next keys j) ∧ wx.ownsRow wb.heap.size 3 1 vj j (nums (liveTo kids next keys j)) ∧ Below wb.heap.size wb wx)
                  case first =>
                    rcases HTC.out with ⟨h, _⟩ | ⟨i, h1, h2, h3⟩
                    · have HN1 := Lib.hid (show nxTo kids next keys (j + 1) = nx + 1 by rw [HNX.out, if_pos h])
                      have HL1 := Lib.hid (show lv kids next keys j = (nx : Nat) by rw [HLV.out, if_pos h])
                      subst h
                      clear hs1
                      go_wp2
                      go_meet
                      exact ⟨by rw [HN1.out]; go_num, by rw [HL1.out]; exact HX.out, HO.out.2.1, HO.out.1, HO.out.2.2⟩
                    · have hne : ¬ t = -1 := by omega
                      have HN1 := Lib.hid (show nxTo kids next keys (j + 1) = nx by rw [HNX.out, if_neg hne])
                      have hlv : lv kids next keys j = (kids.getD i mb0).1 := by rw [HLV.out, if_neg hne, h2]; simp
                      have hik : i < q := by rw [HNK.out]; exact h1
                      obtain ⟨b8, off8, hA8, hb8, d0, d1, d2⟩ := H7.out.2.2.2.1.mb i hik
                      subst hA8
                      replace d0 := (HO.out.2.2.cell (p := ⟨b8, off8 + i * 3, none⟩) hb8).trans d0
                      have hwf : (Lit.int .i64 (lv kids next keys j)).wf = true := by
                        have h4 := HLLO.out
                        have h5 : lv kids next keys j = (((lv kids next keys j).toNat : Nat) : Int) := by omega
                        rw [h5]; exact wf_small0 _ (by have := HNLE.out; omega)
                      have hlk := HO.out.2.1.look _ hwf
                      have hval : allTo kids next keys j (lv kids next keys j) = (lv kids next keys j, key, false) := by
                        rw [HNEW.out, hlv, allA_at HI.out _ i h1 (Nat.le_refl _), h3, goneB_eq i h1]
                        have : (takeL (oldG kids) keys).contains (i : Int) = true := (tk_mem i).2 ⟨j, hjk, (lv_kid HI.out hjk h1).1 hlv⟩
                        rw [this]; rfl
                      rw [hval] at hlk
                      rw [← hlv] at d0
                      obtain ⟨id, hid⟩ : ∃ id, id = lv kids next keys j := ⟨_, rfl⟩
                      rw [← hid] at hlk d0
                      have HID := Lib.hid hid
                      simp only [memKit, memV] at hlk
                      have hlk2 : (Instr.lookup 60 (.map (some M)) (.int .i64 id) false).run Try.prog wo = .ok (.agg #[.int .i64 id, .string key, .bool false]) wo := hlk
                      have i1 : (0 : Int) ≤ (i : Int) := by omega
                      have i2 : (i : Int) < (q : Int) := by omega
                      have x0 : wo.cell? ⟨X, 0, none⟩ = some (.int .i64 (nx : Nat)) := HX.out.cell 0
                      have x1 : wo.cell? ⟨X, 1, none⟩ = some (.string key) := HX.out.cell 1
                      have x2 : wo.cell? ⟨X, 2, none⟩ = some (.bool false) := HX.out.cell 2
                      have f0 : wo.frozen? ⟨X, 0, none⟩ = false := HX.out.frozen 0
                      have f1 : wo.frozen? ⟨X, 1, none⟩ = false := HX.out.frozen 1
                      have f2 : wo.frozen? ⟨X, 2, none⟩ = false := HX.out.frozen 2
                      have HS1 := Lib.hid hs1
                      clear hlk hid hwf hval hlv hne hs1 h3
                      subst h2
                      go_upto_region 37 with fail
                      generalize hwx : ((wo.setCell ⟨X, 0, none⟩ _).setCell ⟨X, 1, none⟩ _).setCell ⟨X, 2, none⟩ _ = wx
                      have hX3 : Blk wx X 59 #[.int .i64 id, .string key, .bool false] := by rw [← hwx]; exact ((HX.out.set_ 0 _).set_ 1 _).set_ 2 _
                      have hg3 : wo.grownBy wx (some X) := by rw [← hwx]; exact only_set (only_set (only_set (World.grownBy.refl wo _) 0 _) 1 _) 2 _
                      have hb3 : Below wb.heap.size wb wx := HO.out.2.2.grown hg3 HO.out.2.2.size (fun j hj => by cases hj; exact hxb)
                      have hM3 := HO.out.2.1.kept hg3 (by have := MapKit.blk_ne HX.out HO.out.2.1; simp; omega)
                      have hO3 := HO.out.1.kept hg3 (.inr (own_blk_ne HO.out.1 HX.out (by decide)))
                      have s3 : wx.cell? ⟨b7, off7 + j, none⟩ = some (.string key) := (hb3.cell (p := ⟨b7, off7 + j, none⟩) hb7).trans ((HO.out.2.2.cell (p := ⟨b7, off7 + j, none⟩) hb7).symm.trans HS1.out)
                      have z1 : wx.cell? ⟨X, 1, none⟩ = some (.string key) := hX3.cell 1
                      have z2 : wx.cell? ⟨X, 2, none⟩ = some (.bool false) := hX3.cell 2
                      have HF := Lib.hid (And.intro hX3 (And.intro hM3 (And.intro hO3 hb3)))
                      clear hwx hX3 hg3 hb3 hM3 hO3 x0 x1 x2 f0 f1 f2 hlk2 d0 d1 d2
                      go_quiet (fail)
                      go_wp2
                      go_meet
                      have hbd := below_drewN (Below.refl wx.heap.size wx) nq
                      exact ⟨by rw [HN1.out], by rw [← HID.out]; exact HF.out.1.below hbd HF.out.1.lt, HF.out.2.1.keep hbd, own_keep HF.out.2.2.1 hbd, HF.out.2.2.2.trans (hbd.mono HF.out.2.2.2.size)⟩
                  case rest =>
                    obtain ⟨rfl, hX, hO, hown, hb⟩ := hcut
                    have hwf : (Lit.int .i64 (lv kids next keys j)).wf = true := by
                      have h4 := HLLO.out
                      have h5 : lv kids next keys j = (((lv kids next keys j).toNat : Nat) : Int) := by omega
                      rw [h5]; exact wf_small0 _ (by have := HNLE.out; omega)
                    have HLT := Lib.hid (liveTo_succ kids next keys j)
                    have HAT := Lib.hid (show allTo kids next keys (j + 1) = setF (allTo kids next keys j) (lv kids next keys j) (lv kids next keys j, key, false) by rw [HKEY.out]; rfl)
                    have hj1 : (nxTo kids next keys (j + 1) : Nat) ≤ 60 := by have := HNLE.out; omega
                    obtain ⟨w', hup, hO', hg⟩ := hO.update (lv kids next keys j) hwf (by unfold maxLen; omega) (lv kids next keys j, key, false) trivial
                    rw [← HAT.out] at hO'
                    simp only [memKit, memV] at hup
                    obtain ⟨id, hid⟩ : ∃ id, id = lv kids next keys j := ⟨_, rfl⟩
                    rw [← hid] at hup hX HLT
                    have hup2 : (Instr.mapUpdate 60 (.map (some M)) (.int .i64 id) (.agg #[.int .i64 id, .string key, .bool false])).run Try.prog wc = .ok () w' := hup
                    have x0 : wc.cell? ⟨X, 0, none⟩ = some (.int .i64 id) := hX.cell 0
                    have x1 : wc.cell? ⟨X, 1, none⟩ = some (.string key) := hX.cell 1
                    have x2 : wc.cell? ⟨X, 2, none⟩ = some (.bool false) := hX.cell 2
                    have y0 : w'.cell? ⟨X, 0, none⟩ = some (.int .i64 id) := (hX.grown hg (by have := MapKit.blk_ne hX hO; simpa using this)).cell 0
                    have HF := Lib.hid (And.intro hO' (And.intro (hown.kept hg (.inr (MapKit.own_ne hown hO))) (hb.grown hg hb.size (fun j hj => by cases hj; exact HMB.out))))
                    obtain ⟨nx1, hnx2⟩ : ∃ nx1, nx1 = nxTo kids next keys (j + 1) := ⟨_, rfl⟩
                    have HNX2 := Lib.hid hnx2
                    rw [← hnx2]
                    clear hup hO' hg hX hO hown hb hid hnx2 hs1 hwf
                    go_wp2_with (first
                      | (at_builtin; refine wpList_append_lies _ rfl _ _ _ rfl wb.heap.size 3 tr _ 1 8 Try.underlying30 hi hz0 hz1 hz2 rfl (by decide) vj j (nums (liveTo kids next keys j)) rfl (HF.out.2.1.alloc _) _ 1 1 [.int .i64 id] rfl rfl (World.news_of_block (heap_alloc_new _ _)) (by intro u hu; simp at hu; subst hu; rfl) (by omega) (by unfold maxLen; omega) (by omega) (by have := HF.out.2.2.size; simp; omega) _ rfl ?_; intro g2 cap2 w8 hown8 hg8 hat8 hlt8; have HW := Lib.hid (And.intro hown8 (And.intro (MapKit.Own.kept (HF.out.1.keep ((Below.refl w'.heap.size w').alloc (Nat.le_refl _) (.cells #[.int .i64 id] 3))) hg8 (fun e => MapKit.own_ne HF.out.2.1 HF.out.1 e.symm)) ((HF.out.2.2.alloc HF.out.2.2.size _).grown hg8 (HF.out.2.2.alloc HF.out.2.2.size _).size (fun j hj => (HF.out.2.1.lt j hj).1)))); clear hown8 hg8 hat8 hlt8))
                    go_roundw
                    case rel => exact ⟨j + 1, by omega, by go_num, by rw [HNX2.out], by rw [HLT.out, nums_snoc]; exact HW.out.1, HW.out.2.1, HW.out.2.2⟩
                    case measure => simp [intOf]; omega
                · obtain rfl : j = m := by omega
                  obtain ⟨Al, cl, hv⟩ := own_form hown
                  subst hv
                  have HLE := Lib.hid (show liveTo kids next keys j = liveS kids next keys by rw [liveS, HM.out])
                  have HNE := Lib.hid (show nx = nxS kids next keys by rw [hnx1, nxS, HM.out])
                  have HAE := Lib.hid (show allTo kids next keys j = allF kids next keys by rw [allF, HM.out])
                  rw [HLE.out] at hown
                  rw [HAE.out] at hO
                  have HWF := Lib.hid (woven_wf HI.out HKS.out (by omega) (by rw [← HM.out]; exact hk6))
                  have HLL2 := Lib.hid (show (liveS kids next keys).length = j by rw [live_len]; exact HM.out.symm)
                  have H10 := Lib.hid (And.intro hown (And.intro hO hb))
                  obtain ⟨w9, hw9⟩ : ∃ w9 : World, w9 = wr := ⟨_, rfl⟩
                  rw [← hw9] at H10 ⊢
                  clear hown hO hb hnx1 hw9 H9 p1 hlj
                  go_upto_region 45 with fail
                  have hs0 : (w9.alloc (.cells #[] 3)).ownsRow w9.heap.size 3 1 (.slice (some ⟨w9.heap.size, 0, none⟩) 0 0) 0 [] := World.ownsRow_made w9 #[] 0 (Nat.le_refl _) (Nat.zero_le _) rfl
                  have hbs := (Below.refl w9.heap.size w9).alloc (Nat.le_refl _) (.cells #[] 3)
                  obtain ⟨wd, hwd⟩ : ∃ wd, wd = w9.alloc (.cells #[] 3) := ⟨_, rfl⟩
                  obtain ⟨v21, hv21⟩ : ∃ v21, v21 = Value.slice (some ⟨w9.heap.size, 0, none⟩) 0 0 := ⟨_, rfl⟩
                  rw [← hwd, ← hv21] at hs0
                  rw [← hwd] at hbs
                  have H11 := Lib.hid (And.intro hs0 hbs)
                  rw [← hwd, ← hv21]
                  clear hs0 hbs hwd hv21
                  go_wp2_with fail
                  refine (merge_any Aw Al q cw j cl (ids kids) (liveS kids next keys) _ ((H7.out.2.1.below (H10.out.2.2.trans (H11.out.2.mono H10.out.2.2.size))).more (Nat.le_trans H10.out.2.2.size H11.out.2.size)) (Nums.of_own (own_keep H10.out.1 H11.out.2) HLL2.out) (by omega) (by omega) HWF.out.1 HWF.out.2.1 (was_nodup HI.out) (live_nodup HI.out HKS.out)).mono ?_
                  obtain ⟨G, hG⟩ : ∃ G, G = mergeS (ids kids) (liveS kids next keys) := ⟨_, rfl⟩
                  have HGE := Lib.hid (show G = wovenS kids next keys from hG)
                  have hgl : G.length ≤ 54 := by
                    have := mergeS_len (was := ids kids) (live := liveS kids next keys)
                    rw [ids_len, HLL2.out, ← HNK.out, ← hG] at this
                    omega
                  rw [← hG]
                  rintro e w10 ⟨A10, c10, rfl, ho10, hb10⟩
                  obtain ⟨gg, hgg⟩ : ∃ gg, gg = G.length := ⟨_, rfl⟩
                  rw [← hgg] at ho10 hgl ⊢
                  have HGG := Lib.hid hgg
                  have hb11 := H11.out.2.trans (hb10.mono H11.out.2.size)
                  have H12 := Lib.hid (And.intro (own_keep H11.out.1 hb10) (And.intro (own_base ho10 H11.out.2.size) (And.intro (H10.out.2.1.keep hb11) (And.intro hb11 (show (Value.slice A10 gg c10).ownBlock = none ∨ (Value.slice A10 gg c10).ownBlock ≠ v21.ownBlock from own_sep ho10 H11.out.1 (Nat.le_refl _))))))
                  clear hG hgg ho10 hb10 hb11
                  go_wp2_with fail
                  go_loopw [20, 21, 153] (fun vt vs i wx => ∃ p : Nat, p ≤ gg ∧ i = .int .i64 p ∧ wx.ownsRow w9.heap.size 59 3 vt p (((toS kids next keys).take p).flatMap cvM) ∧ wx.ownsRow w9.heap.size 3 1 vs (seenTo kids next keys p).length (nums (seenTo kids next keys p)) ∧
                    wx.ownsRow w9.heap.size 3 1 (.slice A10 gg c10) gg (nums G) ∧ memKit.Own wx M (q + j) (allF kids next keys) ∧ Below w9.heap.size w9 wx ∧ ((Value.slice A10 gg c10).ownBlock = none ∨ (Value.slice A10 gg c10).ownBlock ≠ vs.ownBlock)) (fun _ _ i _ => gg - (intOf i).toNat)
                  case atStart => exact ⟨0, Nat.zero_le _, rfl, World.ownsRow_nil _ _ _ _, H12.out.1, H12.out.2.1, H12.out.2.2.1, H12.out.2.2.2.1, H12.out.2.2.2.2⟩
                  case round =>
                    obtain ⟨p, hp, rfl, hot, hos, hog, hO, hb, hdis⟩ := hrel
                    obtain ⟨vt, hvt⟩ : ∃ vt, vt = u20 := ⟨_, rfl⟩
                    obtain ⟨vs, hvs⟩ : ∃ vs, vs = u21 := ⟨_, rfl⟩
                    rw [← hvt] at hot ⊢
                    rw [← hvs] at hos hdis ⊢
                    clear hvt hvs
                    by_cases hlp : p < gg
                    · as_aux_lemma =>
                      obtain ⟨b9, off9, hA9, hb9, t0⟩ := (Nums.of_own hog HGG.out.symm).2 p hlp
                      subst hA9
                      have hpw : p < (wovenS kids next keys).length := by rw [← HGE.out, ← HGG.out]; exact hlp
                      have hwf := HWF.out.2.2.at p
                      have HST := Lib.hid (seenTo_succ kids next keys p hpw)
                      have HTT := Lib.hid (toS_take kids next keys p hpw)
                      have hsl := seenTo_len kids next keys p
                      rw [← HGE.out] at hwf HST HTT
                      obtain ⟨x, hx⟩ : ∃ x, x = G.getD p 0 := ⟨_, rfl⟩
                      rw [← hx] at t0 hwf HST HTT
                      have hlk := hO.look x hwf
                      obtain ⟨⟨a, s, gh⟩, hF⟩ : ∃ z, z = allF kids next keys x := ⟨_, rfl⟩
                      rw [← hF] at hlk HST HTT
                      simp only at HST HTT
                      simp only [memKit, memV] at hlk
                      have hlk2 : (Instr.lookup 60 (.map (some M)) (.int .i64 x) false).run Try.prog wr = .ok (.agg #[.int .i64 a, .string s, .bool gh]) wr := hlk
                      obtain ⟨o, ho⟩ : ∃ o, o = seenTo kids next keys p := ⟨_, rfl⟩
                      rw [← ho] at hos HST hsl
                      have HF2 := Lib.hid hF
                      have j1 : (0 : Int) ≤ (p : Int) := by omega
                      have j2 : (p : Int) < (gg : Int) := by omega
                      have HO := Lib.hid (And.intro hot (And.intro hos (And.intro hog (And.intro hO (And.intro hb hdis)))))
                      have HWX := Lib.hid hwf
                      clear hx hlk hF ho hot hos hog hO hb hdis hwf H12
                      go_upto_region 49 with (first
                        | (at_builtin; refine wpList_append_lies _ rfl _ _ _ rfl w9.heap.size 59 tm _ 3 32 Try.underlying54 hmi hm0 hm1 hm2 rfl (by decide) vt p (((toS kids next keys).take p).flatMap cvM) rfl (HO.out.1.alloc _) _ 1 1 [.int .i64 a, .string s, .bool gh] rfl rfl (World.news_of_block (heap_alloc_new _ _)) (by intro u hu; simp at hu; rcases hu with rfl | rfl | rfl <;> rfl) (by omega) (by unfold maxLen; omega) (by omega) (by have := HO.out.2.2.2.2.1.size; simp; omega) _ rfl ?_; intro g2 cap2 w8 hown8 hg8 hat8 hlt8; have HO2 := Lib.hid (And.intro hown8 (And.intro ((HO.out.2.1.alloc _).kept hg8 (own_own_ne HO.out.2.1 HO.out.1 (by decide))) (And.intro ((HO.out.2.2.1.alloc _).kept hg8 (own_own_ne HO.out.2.2.1 HO.out.1 (by decide))) (And.intro (MapKit.Own.kept (HO.out.2.2.2.1.keep ((Below.refl wr.heap.size wr).alloc (Nat.le_refl _) (.cells #[.int .i64 a, .string s, .bool gh] 59))) hg8 (fun e => MapKit.own_ne HO.out.1 HO.out.2.2.2.1 e.symm)) (And.intro ((HO.out.2.2.2.2.1.alloc HO.out.2.2.2.2.1.size _).grown hg8 (HO.out.2.2.2.2.1.alloc HO.out.2.2.2.2.1.size _).size (fun j hj => (HO.out.1.lt j hj).1)) HO.out.2.2.2.2.2))))); clear hown8 hg8 hat8 hlt8))
                      have hlk8 := HO2.out.2.2.2.1.look x HWX.out
                      rw [← HF2.out] at hlk8
                      simp only [memKit, memV] at hlk8
                      have hlk9 : (Instr.lookup 60 (.map (some M)) (.int .i64 x) false).run Try.prog w8 = .ok (.agg #[.int .i64 a, .string s, .bool gh]) w8 := hlk8
                      have hfd := fun w => field_mem a s gh w
                      clear hlk2 hlk8 t0
                      cases gh
                      · have HST2 := Lib.hid (show seenTo kids next keys (p + 1) = o ++ [x] by rw [HST.out]; rfl)
                        go_wp2_with (first
                          | (at_builtin; refine wpList_append_lies _ rfl _ _ _ rfl w9.heap.size 3 tr _ 1 8 Try.underlying30 hi hz0 hz1 hz2 rfl (by decide) vs o.length (nums o) rfl (HO2.out.2.1.alloc _) _ 1 1 [.int .i64 x] rfl rfl (World.news_of_block (heap_alloc_new _ _)) (by intro u hu; simp at hu; subst hu; rfl) (by omega) (by unfold maxLen; omega) (by omega) (by have := HO2.out.2.2.2.2.1.size; simp; omega) _ rfl ?_; intro g3 cap3 w11 hown9 hg9 hat9 hlt9; have HO3 := Lib.hid (And.intro ((HO2.out.1.alloc _).kept hg9 (own_own_ne HO2.out.1 HO2.out.2.1 (by decide))) (And.intro hown9 (And.intro ((HO2.out.2.2.1.alloc _).kept hg9 HO2.out.2.2.2.2.2) (And.intro (MapKit.Own.kept (HO2.out.2.2.2.1.keep ((Below.refl w8.heap.size w8).alloc (Nat.le_refl _) (.cells #[.int .i64 x] 3))) hg9 (fun e => MapKit.own_ne HO2.out.2.1 HO2.out.2.2.2.1 e.symm)) (And.intro ((HO2.out.2.2.2.2.1.alloc HO2.out.2.2.2.2.1.size _).grown hg9 (HO2.out.2.2.2.2.1.alloc HO2.out.2.2.2.2.1.size _).size (fun j hj => (HO2.out.2.1.lt j hj).1)) (own_next HO2.out.2.2.1 HO2.out.2.2.2.2.2 (show (Value.slice (some ⟨g3, 0, none⟩) (o.length + 1) cap3).ownBlock = vs.ownBlock ∨ (Value.slice (some ⟨g3, 0, none⟩) (o.length + 1) cap3).ownBlock = some (w8.alloc (.cells #[.int .i64 x] 3)).heap.size by rcases hat9 with h | h; exact .inl (by rw [h]; rfl); exact .inr (by rw [h]; rfl)) (by simp))))))); clear hown9 hg9 hat9 hlt9))
                        go_roundw
                        case rel => exact ⟨p + 1, by omega, by go_num, by rw [HTT.out, cvM_snoc]; exact HO3.out.1, by rw [HST2.out, nums_snoc, List.length_append]; exact HO3.out.2.1, HO3.out.2.2.1, HO3.out.2.2.2.1, HO3.out.2.2.2.2.1, HO3.out.2.2.2.2.2⟩
                        case measure => simp [intOf]; omega
                      · have HST2 := Lib.hid (show seenTo kids next keys (p + 1) = o by rw [HST.out]; rfl)
                        go_wp2
                        go_roundw
                        case rel => exact ⟨p + 1, by omega, by go_num, by rw [HTT.out, cvM_snoc]; exact HO2.out.1, by rw [HST2.out]; exact HO2.out.2.1, HO2.out.2.2.1, HO2.out.2.2.2.1, HO2.out.2.2.2.2.1, HO2.out.2.2.2.2.2⟩
                        case measure => simp [intOf]; omega
                    · obtain rfl : p = gg := by omega
                      have hgw : (wovenS kids next keys).length = p := by rw [← HGE.out]; exact HGG.out.symm
                      rw [List.take_of_length_le (by rw [to_len, hgw]; exact Nat.le_refl _)] at hot
                      have hse : seenTo kids next keys p = liveS kids next keys := by
                        rw [seenTo, List.take_of_length_le (by rw [hgw]; exact Nat.le_refl _)]
                        exact seen_eq HI.out HKS.out
                      rw [hse, HLL2.out] at hos
                      obtain ⟨At, ct, hv⟩ := own_form hot
                      subst hv
                      obtain ⟨As, cs, hv⟩ := own_form hos
                      subst hv
                      have hcs := own_cap hos
                      have hcl := own_cap H10.out.1
                      have hct := own_cap hot
                      have htl : (toS kids next keys).length = p := by rw [to_len]; exact hgw
                      have hbw : Below wb.heap.size wb wr := H10.out.2.2.trans (hb.mono H10.out.2.2.size)
                      have H13 := Lib.hid (And.intro (Nums.of_own hos HLL2.out) (And.intro (Nums.of_own (own_keep H10.out.1 hb) HLL2.out) (And.intro hot (And.intro ((H7.out.2.2.2.1.below hbw).more hbw.size) (And.intro htl (H7.out.2.2.2.2.1.trans (hbw.mono H7.out.2.2.2.2.1.size)))))))
                      have H14 := Lib.hid (And.intro (Rd.of_own (d := mb0) cvM_len hot htl) (show w.heap.size ≤ w9.heap.size from Nat.le_trans H7.out.2.2.2.2.1.size H10.out.2.2.size))
                      have HFIN := Lib.hid (And.intro (to_stands HI.out HKS.out) (And.intro (to_once HI.out HKS.out) (to_inv HI.out HKS.out (by rw [← HM.out]; exact hk6))))
                      clear hot hos hog hO hb hdis hgw hse htl hbw H12 H11 H10 H7
                      go_wp2_with fail
                      refine (numbers_any As Al j j cs cl _ _ _ _ _ H13.out.1 H13.out.2.1 (by omega) (by omega)).mono ?_
                      rintro e w11 ⟨he, nd, rfl⟩
                      obtain rfl : e = .returned (.bool true) := by rw [he]; simp
                      clear he
                      have hbd := below_drewN (Below.refl wr.heap.size wr) nd
                      have H15 := Lib.hid (And.intro (H13.out.2.2.2.1.keep hbd) (And.intro (H14.out.1.keep hbd) (And.intro (own_keep H13.out.2.2.1 hbd) (H13.out.2.2.2.2.2.trans (hbd.mono H13.out.2.2.2.2.2.size)))))
                      generalize wr.drewN nd = w11 at H15 ⊢
                      clear hbd
                      go_wp2_with fail
                      refine (stand_any _ At q ck p ct kids (toS kids next keys) _ H15.out.1 H15.out.2.1 (by omega) (by omega) HFIN.out.1).mono ?_
                      rintro e w12 ⟨rfl, hb12⟩
                      have H16 := Lib.hid (And.intro (H15.out.2.1.keep hb12) (And.intro (own_keep H15.out.2.2.1 hb12) (H15.out.2.2.2.trans (hb12.mono H15.out.2.2.2.size))))
                      clear hb12
                      go_wp2_with fail
                      refine (monce_any At p ct (toS kids next keys) _ H16.out.1 (by omega) hct.1 HFIN.out.2.1).mono ?_
                      rintro e w13 ⟨rfl, hb13⟩
                      have H17 := Lib.hid (And.intro (own_keep H16.out.2.1 hb13) (H16.out.2.2.trans (hb13.mono H16.out.2.2.size)))
                      clear hb13
                      go_wp2
                      go_roundw
                      case rel => exact ⟨r + 1, toS kids next keys, nxS kids next keys, by omega, by omega, by go_num, by rw [HNE.out], by rw [H13.out.2.2.2.2.1]; exact own_base H17.out.1 H14.out.2, HFIN.out.2.2, H17.out.2⟩
                      case measure => simp [intOf]; omega
    · have HB3 := Lib.hid hb
      clear hown hInv hb HB2
      by_cases h1 : r < n
      · have i1 : (r : Int) < (n : Int) := by omega
        have i3 : decide ((r : Int) < 8) = false := by simp; omega
        have i4 : decide (r < 8) = false := by simp; omega
        clear hlt
        go_wp2
        go_ret
        exact ⟨rfl, HB3.out⟩
      · have i3 : decide ((r : Int) < (n : Int)) = false := by simp; omega
        have i4 : decide (r < n) = false := by simp; omega
        clear hlt
        go_wp2
        go_ret
        exact ⟨rfl, HB3.out⟩

set_option maxRecDepth 100000 in
set_option maxHeartbeats 1000000 in
theorem scrimGroups_lifted (os : Os) (started : os.Started) (H : Type) (enc : TypeId × Value → H) :
    ReturnsInHanded {} Try.checked os 8 .any (Rows.scrimGroupsSpec.pre6 enc Try.prog Try.f8 Rows.scrimGroupsRow.domain false) (Rows.scrimGroupsSpec.post enc Try.prog Try.f8 false true false false) := by
  refine returnsInHanded_of_change (C := Try.checked) own started (by kernel_rfl) Try.func8
    (ChangeSpec.witness6 (enc := enc) (C := Try.checked) false ⟨#[], #[.slice none 0 0], []⟩ 8 (by kernel_rfl) (by kernel_rfl) (by kernel_rfl) (by kernel_rfl)) ?_
  intro W base args ds gs before hval0 hW hcnd _
  have hval : ∀ (j : Nat) t v, Try.f8.params[j]? = some t → args[j]? = some v → Value.okWide Try.prog W .any base t v := hval0
  have hW' := hW
  obtain ⟨p, q, hA0, hV, rfl, hfz, hnd⟩ := hW
  have hA : DataW.TrodAll enc Try.prog W 0 (fun _ => true) true Try.f8.params.toList args.toList ds p := hA0
  rw [Try.params8] at hA hval
  obtain ⟨v0, vs0, d0, ds0, p0, q0, hargs, rfl, rfl, h0, r0⟩ := trodAll_cons hA
  obtain ⟨rfl, rfl, rfl⟩ := trodAll_nil r0
  obtain rfl : args = #[v0] := by cases args; simp_all
  obtain ⟨rfl, rfl⟩ := trodVars_none hV
  have k0 := h0
  have lt0 : ∀ x ∈ p0, x.block < W.heap.size := by obtain ⟨m, hm⟩ := k0; exact DataW.trod_lt m _ _ _ hm
  obtain ⟨A, n, c, rfl, hz⟩ := lss_open (hval 0 47 v0 rfl rfl) h0
  clear hA0 hval0
  refine (scrimGroups_walk A n c W hz).mono fun e W' ⟨he, bel⟩ => ?_
  subst he
  exact ⟨_, rfl, _, _, _, [], _, [], hW', trodAll_mk1 (shut_bool Try.underlying4 _), (trodAll_cons_mk (Below.trod laid_out (by kernel_rfl) (of_decide_eq_true (by kernel_rfl)) k0 bel lt0) trodAll_mk0), rfl, bel.frame _, fun h => by cases h⟩

/-- The statement. -/
theorem scrimGroups_holds : Rows.ScrimGroupsSaid :=
  OpenClaim.holds_of_wide 8 Try.f8 rfl rfl rfl rfl rfl rfl rfl ⟨rfl, rfl, rfl, rfl, rfl⟩ rfl rfl rfl rfl rfl (by kernel_rfl) Try.func8 (by kernel_rfl)
    (of_decide_eq_true (by kernel_rfl)) (by unfold Func.isWrapper; first | (rw [if_pos (by decide +kernel)]; kernel_rfl) | (rw [if_neg (by decide +kernel)]; exact ⟨rfl, rfl⟩))
    (fun os started H enc _ => scrimGroups_lifted os started H enc)
#print axioms scrimGroups_holds
end Go.Proofs.Ytgopokoghnfgiaa
