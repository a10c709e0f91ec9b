/-
  MatchAll: where no key stands twice all that are there in both are paired. For every input; no condition.
-/
import Derived.Test.YtgopokoghnfgiaaMatchOpen
import Derived.BigQuiet
import Derived.Laws.StructEq
namespace Go.Proofs.Ytgopokoghnfgiaa
open Go.ChangeShapes Go.WideShapes Go.ChangeAt Go.RowKit
attribute [local go_sem ↓] Go.wp_at_zero Go.wp_at_succ

/-- No key stands twice. -/
def NoTwice (l : List Kid) : Prop := ∀ i, i < l.length → ∀ j, j < i → isEmp (l.getD i kid0) = false → ¬ (l.getD i kid0).1 = (l.getD j kid0).1
theorem NoTwice.one {l : List Kid} (h : NoTwice l) {i j : Nat} (hi : i < l.length) (hj : j < l.length) (he : isEmp (l.getD i kid0) = false) (hk : l.getD i kid0 = l.getD j kid0) : i = j := by
  rcases Nat.lt_trichotomy i j with hlt | e | hlt
  · exact absurd (by rw [hk]) (h j hj i hlt (by rw [← hk]; exact he))
  · exact e
  · exact absurd (by rw [hk]) (h i hi j hlt he)
theorem all_law {xs ys : List Kid} (hx : NoTwice xs) (hy : NoTwice ys) {i j : Nat} (hi : i < ys.length) (hj : j < xs.length) (he : isEmp (ys.getD i kid0) = false) (hk : xs.getD j kid0 = ys.getD i kid0) : (pairS xs ys).getD i 0 = (j : Int) := by
  rw [pairS, pairTo_pre _ _ _ _ hi]
  have hn : nm xs j = nm ys i := by
    rw [nm, nm, nmAt, nmAt, hk, he]; rfl
  have hout : (j : Int) ∉ pairTo xs ys i := by
    intro hm
    obtain ⟨i', h1, h2⟩ := List.mem_iff_getElem.1 hm
    rw [pairTo_len] at h1
    have h3 : (pairTo xs ys i).getD i' 0 = (j : Int) := by rw [← h2]; simp [List.getD, pairTo_len, h1]
    rw [pairTo_pre _ _ _ _ h1] at h3
    rcases pick_cases xs ys i' with h4 | ⟨j', _, h5, h6, _⟩
    · omega
    · obtain rfl : j' = j := by omega
      have h7 : ys.getD i kid0 = ys.getD i' kid0 := hk.symm.trans (congrArg Prod.fst h6)
      have := hy.one hi (by omega) he h7
      omega
  have hmem := freeOf_mem.2 ⟨hj, hn, hout⟩
  cases h : freeOf xs (pairTo xs ys i) (nm ys i) with
  | nil => rw [h] at hmem; cases hmem
  | cons a rest =>
    obtain ⟨a1, a2, _⟩ := freeOf_mem.1 (show a ∈ freeOf xs (pairTo xs ys i) (nm ys i) by rw [h]; simp)
    have h8 : xs.getD j kid0 = xs.getD a kid0 := hk.trans (congrArg Prod.fst a2).symm
    have := hx.one hj a1 (by rw [hk]; exact he) h8
    rw [pick, this]

set_option maxRecDepth 100000 in
set_option maxHeartbeats 16000000 in
theorem matchAll_walk (A B : Option Addr) (n c n' c' : Nat) (ks ls : List Kid) (w : World) (hz : Kids w w.heap.size A n ks) (hz' : Kids w w.heap.size B n' ls) (hi : OkI ks) (hi' : OkI ls) :
    Calls Try.prog 3 #[.slice A n c, .slice B n' c'] w fun e w' => e = .returned (.bool true) ∧ Below w.heap.size w w' := by
  have HZ := Lib.hid (And.intro hz (And.intro hz' (And.intro (okK_cut hi 20 (by omega)) (okK_cut hi' 20 (by omega)))))
  clear hz hz' hi hi'
  go_enter Try.func3, Try.ntmps3
  go_wp2_with fail
  refine (awake_any _).mono ?_
  rintro e w1 ⟨rfl, hb1⟩
  have HB1 := Lib.hid hb1
  clear hb1
  obtain ⟨xs, hxs⟩ : ∃ l, l = cutK 20 ks := ⟨_, rfl⟩
  obtain ⟨ys, hys⟩ : ∃ l, l = cutK 20 ls := ⟨_, rfl⟩
  have hx20 : xs.length ≤ 20 := by rw [hxs, cutK_len]; omega
  have hy20 : ys.length ≤ 20 := by rw [hys, cutK_len]; omega
  have HOK := Lib.hid (show OkK xs ∧ OkK ys by rw [hxs, hys]; exact ⟨HZ.out.2.2.1, HZ.out.2.2.2⟩)
  have HX := Lib.hid (And.intro hxs hys)
  clear hxs hys
  go_wp2_with fail
  refine (own_any A n c 20 (by omega) ks _ ((HZ.out.1.below HB1.out).more HB1.out.size)).mono ?_
  rintro e w2 ⟨A1, c1, A2, c2, he, hO⟩
  rw [← HX.out.1] at he hO
  have hcapx := own_cap hO.b
  obtain ⟨z1, z2⟩ := own_kids hO
  have HO := Lib.hid (And.intro z1 (And.intro z2 (HB1.out.trans (hO.below.mono HB1.out.size))))
  obtain ⟨m, hm⟩ : ∃ m, m = xs.length := ⟨_, rfl⟩
  rw [← hm] at he HO hcapx hx20
  subst he
  have HM := Lib.hid hm
  clear hO z1 z2 HB1 hm
  go_wp2_with fail
  refine (own_any B n' c' 20 (by omega) ls _ ((HZ.out.2.1.below HO.out.2.2).more HO.out.2.2.size)).mono ?_
  rintro e w3 ⟨A3, c3, A4, c4, he, hO⟩
  rw [← HX.out.2] at he hO
  have hcapy := own_cap hO.b
  obtain ⟨z1, z2⟩ := own_kids hO
  have HO2 := Lib.hid (And.intro (HO.out.1.keep hO.below) (And.intro (HO.out.2.1.keep hO.below) (And.intro z1 (And.intro z2 (HO.out.2.2.trans (hO.below.mono HO.out.2.2.size))))))
  obtain ⟨m', hm'⟩ : ∃ m, m = ys.length := ⟨_, rfl⟩
  rw [← hm'] at he HO2 hcapy hy20
  subst he
  have HM' := Lib.hid hm'
  clear hO z1 z2 HO hm'
  go_upto_region 6 with fail
  have hblZ := Blk.new w3 22 #[.slice A2 m c2, .slice A4 m' c4]
  have hbz := (Below.refl w3.heap.size w3).alloc (Nat.le_refl _) (.cells #[.slice A2 m c2, .slice A4 m' c4] 22)
  have HO3 := Lib.hid (And.intro (HO2.out.1.keep hbz) (And.intro (HO2.out.2.1.keep hbz) (And.intro (HO2.out.2.2.1.keep hbz) (And.intro (HO2.out.2.2.2.1.keep hbz) (HO2.out.2.2.2.2.trans (hbz.mono HO2.out.2.2.2.2.size))))))
  obtain ⟨wq, hwq⟩ : ∃ wq, wq = w3.alloc (.cells #[.slice A2 m c2, .slice A4 m' c4] 22) := ⟨_, rfl⟩
  obtain ⟨Z, hZ⟩ : ∃ Z, Z = w3.heap.size := ⟨_, rfl⟩
  rw [← hwq] at hblZ HO3 ⊢
  rw [← hZ] at hblZ ⊢
  have HBZ := Lib.hid hblZ
  clear hblZ hbz HO2 hwq hZ
  go_loopw [34] (fun i wx => ∃ r : Nat, r ≤ 2 ∧ i = .int .i64 r ∧ Below wq.heap.size wq wx ∧ Hid ((0 < r → NoTwice xs) ∧ (1 < r → NoTwice ys))) (fun i _ => 2 - (intOf i).toNat)
  case atStart => exact ⟨0, by omega, rfl, Below.refl _ _, fun h => by omega, fun h => by omega⟩
  case round =>
    obtain ⟨r, hr, rfl, hb, hH⟩ := hrel
    by_cases hlt : r < 2
    · obtain ⟨Az, mz, cz, zs, hcell, hkz, hmz, hzx, hzy⟩ : ∃ Az mz cz zs, wq.cell? ⟨Z, r, none⟩ = some (.slice Az mz cz) ∧ Kids wq wq.heap.size Az mz zs ∧ mz ≤ 20 ∧ (r = 0 → zs = xs) ∧ (r = 1 → zs = ys) := by
        by_cases h0 : r = 0
        · subst h0; exact ⟨A2, m, c2, xs, HBZ.out.cell 0, HO3.out.2.1, hx20, fun _ => rfl, fun h => by omega⟩
        · obtain rfl : r = 1 := by omega
          exact ⟨A4, m', c4, ys, HBZ.out.cell 1, HO3.out.2.2.2.1, hy20, fun h => by omega, fun _ => rfl⟩
      have d0 := (hb.cell (p := ⟨Z, r, none⟩) HBZ.out.lt).trans hcell
      have i1 : (0 : Int) ≤ (r : Int) := by omega
      have i2 : (r : Int) < 2 := by omega
      have HKZ := Lib.hid hkz
      have HZX := Lib.hid (And.intro hzx hzy)
      have HB := Lib.hid hb
      clear hcell hkz hzx hzy hb
      go_wp2_with fail
      go_loopw [40] (fun i wx => ∃ a : Nat, a ≤ mz ∧ i = .int .i64 a ∧ Below wq.heap.size wq wx ∧ Hid (∀ i, i < a → ∀ j, j < i → isEmp (zs.getD i kid0) = false → ¬ (zs.getD i kid0).1 = (zs.getD j kid0).1)) (fun i _ => mz - (intOf i).toNat)
      case atStart => exact ⟨0, by omega, rfl, HB.out, fun i h => by omega⟩
      case round =>
        obtain ⟨a, ha, rfl, hb, hD⟩ := hrel
        by_cases hla : a < mz
        · have a1 : (0 : Int) ≤ (a : Int) := by omega
          have a2 : (a : Int) < (mz : Int) := by omega
          have HB2 := Lib.hid hb
          clear hb d0 HB
          go_wp2_with fail
          go_loopw [44] (fun i wx => ∃ b : Nat, b ≤ a ∧ i = .int .i64 b ∧ Below wq.heap.size wq wx ∧ Hid (∀ j, j < b → isEmp (zs.getD a kid0) = false → ¬ (zs.getD a kid0).1 = (zs.getD j kid0).1)) (fun i _ => a - (intOf i).toNat)
          case atStart => exact ⟨0, by omega, rfl, HB2.out, fun i h => by omega⟩
          case round =>
            obtain ⟨b, hb, rfl, hbl, hE⟩ := hrel
            by_cases hlb : b < a
            · obtain ⟨g, off, rfl, hgB, e0, e1⟩ := HKZ.out.2 a hla
              obtain ⟨g', off', hg, hgB', e2, e3⟩ := HKZ.out.2 b (by omega)
              injection hg with hg
              injection hg with hg1 hg2
              subst hg1 hg2
              replace e1 := (hbl.cell (p := ⟨g, off + a * 2 + 1, none⟩) hgB).trans e1
              replace e3 := (hbl.cell (p := ⟨g, off + b * 2 + 1, none⟩) hgB).trans e3
              obtain ⟨⟨s, t⟩, hst⟩ : ∃ p, p = zs.getD a kid0 := ⟨_, rfl⟩
              obtain ⟨⟨s', t'⟩, hst'⟩ : ∃ p, p = zs.getD b kid0 := ⟨_, rfl⟩
              rw [← hst] at e1
              rw [← hst'] at e3
              simp only [k1] at e1 e3
              have HS := Lib.hid (And.intro hst hst')
              have b1 : (0 : Int) ≤ (b : Int) := by omega
              have b2 : (b : Int) < (a : Int) := by omega
              have b3 : (b : Int) < (mz : Int) := by omega
              obtain ⟨q, hq⟩ : ∃ q, q = (!(s.toList.isEmpty) && decide (s.toList = s'.toList)) := ⟨_, rfl⟩
              have HQ := Lib.hid hq
              have HBL := Lib.hid hbl
              clear e0 e2 hst hst' hq hbl hgB'
              obtain ⟨wo, hwo⟩ : ∃ wo : World, wo = wr := ⟨_, rfl⟩
              rw [← hwo] at HBL e1 e3 ⊢
              clear hwo
              go_upto_region 14 with fail
              go_cut [65] (fun s wx => s = .bool q ∧ Below wo.heap.size wo wx)
              case first =>
                cases hs : s.toList.isEmpty
                · have hs2 : ¬ s.toList = [] := by simpa using hs
                  by_cases hss : s.toList = s'.toList
                  · have HQ2 := Lib.hid (show q = true by rw [HQ.out, hs]; simp [hss])
                    have h4 := toList_inj hss
                    subst h4
                    clear hss
                    go_quiet (fail)
                    go_wp2
                    go_meet
                    exact ⟨by rw [HQ2.out], below_drewN (Below.refl _ _) _⟩
                  · have HQ2 := Lib.hid (show q = false by rw [HQ.out, hs]; simp [hss])
                    have h1 : (s.toList == s'.toList) = false := by simpa using hss
                    go_quiet (fail)
                    go_wp2
                    go_meet
                    exact ⟨by rw [HQ2.out], below_drewN (Below.refl _ _) _⟩
                · have HQ2 := Lib.hid (show q = false by rw [HQ.out, hs]; rfl)
                  have hs2 : s.toList = [] := by simpa using hs
                  go_quiet (fail)
                  go_wp2
                  go_meet
                  exact ⟨by rw [HQ2.out], below_drewN (Below.refl _ _) _⟩
              case rest =>
                obtain ⟨rfl, hbq⟩ := hcut
                have HB4 := Lib.hid (HBL.out.trans (hbq.mono HBL.out.size))
                clear hbq e1 e3
                cases q
                · have HE2 := Lib.hid (show ∀ j, j < b + 1 → isEmp (zs.getD a kid0) = false → ¬ (zs.getD a kid0).1 = (zs.getD j kid0).1 from fun j hj he => by
                    by_cases e : j = b
                    · subst e
                      intro e2
                      rw [← HS.out.1, ← HS.out.2] at e2
                      rw [← HS.out.1] at he
                      have hqq := HQ.out
                      have he2 : s.toList.isEmpty = false := he
                      rw [he2, show s = s' from e2] at hqq
                      simp at hqq
                    · exact hE.out j (by omega) he)
                  go_wp2
                  go_roundw
                  case rel => exact ⟨b + 1, by omega, by go_num, HB4.out, HE2.out⟩
                  case measure => simp [intOf]; omega
                · have HE := Lib.hid (HO3.out.2.2.2.2.trans (HB4.out.mono HO3.out.2.2.2.2.size))
                  go_wp2
                  go_ret
                  exact ⟨rfl, HE.out⟩
            · obtain rfl : b = a := by omega
              have HBL := Lib.hid hbl
              clear hbl
              go_wp2
              go_roundw
              case rel => exact ⟨b + 1, by omega, by go_num, HBL.out, fun i hi j hj he => by
                by_cases e : i = b
                · subst e; exact hE.out j hj he
                · exact hD.out i (by omega) j hj he⟩
              case measure => simp [intOf]; omega
        · obtain rfl : a = mz := by omega
          have HBL := Lib.hid hb
          have HN := Lib.hid (show NoTwice zs from fun i hi j hj he => hD.out i (by have := HKZ.out.1; omega) j hj he)
          clear hb d0
          go_wp2
          go_roundw
          case rel => exact ⟨r + 1, by omega, by go_num, HBL.out, fun h => by
            by_cases h0 : r = 0
            · rw [← HZX.out.1 h0]; exact HN.out
            · exact hH.out.1 (by omega), fun h => by
            rw [← HZX.out.2 (by omega)]; exact HN.out⟩
          case measure => simp [intOf]; omega
    · obtain rfl : r = 2 := by omega
      have hNX := hH.out.1 (by omega)
      have hNY := hH.out.2 (by omega)
      have HN := Lib.hid (And.intro hNX hNY)
      have HO4 := Lib.hid (And.intro (HO3.out.1.keep hb) (And.intro (HO3.out.2.1.keep hb) (And.intro (HO3.out.2.2.1.keep hb) (And.intro (HO3.out.2.2.2.1.keep hb) (HO3.out.2.2.2.2.trans (hb.mono HO3.out.2.2.2.2.size))))))
      clear hNX hNY hb HO3 hH
      go_wp2_with fail
      refine (pair_any A1 A3 m c1 m' c3 xs ys _ HO4.out.1 HO4.out.2.2.1 (by omega) (by omega) HOK.out.1 HOK.out.2).mono ?_
      rintro e w5 ⟨A5, c5, rfl, ho5, hb5⟩
      obtain ⟨l, hl⟩ : ∃ l, l = pairS xs ys := ⟨_, rfl⟩
      rw [← hl] at ho5
      have hll : l.length = m' := by rw [hl, pairS_len]; exact HM'.out.symm
      have HO5 := Lib.hid (And.intro (HO4.out.2.1.keep hb5) (And.intro (HO4.out.2.2.2.1.keep hb5) (And.intro (Nums.of_own ho5 hll) (HO4.out.2.2.2.2.trans (hb5.mono HO4.out.2.2.2.2.size)))))
      have HL := Lib.hid hl
      clear HO4 ho5 hb5 hl hll
      obtain ⟨wp, hwp⟩ : ∃ wp : World, wp = w5 := ⟨_, rfl⟩
      rw [← hwp] at HO5 ⊢
      clear hwp
      go_wp2_with fail
      go_loopw [79] (fun i wx => ∃ k : Nat, k ≤ m' ∧ i = .int .i64 k ∧ Below wp.heap.size wp wx) (fun i _ => m' - (intOf i).toNat)
      case atStart => exact ⟨0, by omega, rfl, Below.refl _ _⟩
      case round =>
        obtain ⟨k, hk, rfl, hb⟩ := hrel
        by_cases hlk : k < m'
        · obtain ⟨g, off, rfl, hgB, e0, e1⟩ := HO5.out.2.1.2 k hlk
          replace e0 := (hb.cell (p := ⟨g, off + k * 2, none⟩) hgB).trans e0
          replace e1 := (hb.cell (p := ⟨g, off + k * 2 + 1, none⟩) hgB).trans e1
          obtain ⟨⟨s, t⟩, hst⟩ : ∃ p, p = ys.getD k kid0 := ⟨_, rfl⟩
          rw [← hst] at e0 e1
          simp only [k0, k1] at e0 e1
          have HS := Lib.hid hst
          have i1 : (0 : Int) ≤ (k : Int) := by omega
          have i2 : (k : Int) < (m' : Int) := by omega
          have HBX := Lib.hid (And.intro (Blk.new wr 29 #[.int .i64 t, .string s]) (hb.alloc hb.size (.cells #[.int .i64 t, .string s] 29)))
          clear hst hb
          go_upto_region 25 with fail
          obtain ⟨wo, hwo⟩ : ∃ wo, wo = wr.alloc (.cells #[.int .i64 t, .string s] 29) := ⟨_, rfl⟩
          obtain ⟨X, hX⟩ : ∃ X, X = wr.heap.size := ⟨_, rfl⟩
          rw [← hwo] at HBX ⊢
          rw [← hX] at HBX ⊢
          clear hwo hX e0 e1
          go_wp2_with fail
          go_loopw [86] (fun i wx => ∃ j : Nat, j ≤ m ∧ i = .int .i64 j ∧ Below wo.heap.size wo wx) (fun i _ => m - (intOf i).toNat)
          case atStart => exact ⟨0, by omega, rfl, Below.refl _ _⟩
          case round =>
            obtain ⟨j, hj, rfl, hb⟩ := hrel
            by_cases hlj : j < m
            · obtain ⟨g2, off2, rfl, hgB2, d0, d1⟩ := HO5.out.1.2 j hlj
              have hbw := HBX.out.2.trans (hb.mono HBX.out.2.size)
              replace d0 := (hbw.cell (p := ⟨g2, off2 + j * 2, none⟩) hgB2).trans d0
              replace d1 := (hbw.cell (p := ⟨g2, off2 + j * 2 + 1, none⟩) hgB2).trans d1
              obtain ⟨⟨s', t'⟩, hst'⟩ : ∃ p, p = xs.getD j kid0 := ⟨_, rfl⟩
              rw [← hst'] at d0 d1
              simp only [k0, k1] at d0 d1
              have hbX := HBX.out.1.below hb HBX.out.1.lt
              obtain ⟨g3, off3, rfl, hgB3, z0⟩ := HO5.out.2.2.1.2 k hlk
              replace z0 := (hbw.cell (p := ⟨g3, off3 + k, none⟩) hgB3).trans z0
              have HKK := Lib.hid (fun (h1 : s.toList.isEmpty = false) (h2 : t' = t) (h3 : s'.toList = s.toList) => show l.getD k 0 = (j : Int) by
                have h4 := toList_inj h3
                rw [HL.out]
                refine all_law HN.out.1 HN.out.2 (by have := HM'.out; omega) (by have := HM.out; omega) (by rw [← HS.out]; exact h1) ?_
                rw [← hst', ← HS.out, h2, h4])
              obtain ⟨y, hy⟩ : ∃ y, y = l.getD k 0 := ⟨_, rfl⟩
              rw [← hy] at z0 HKK
              have j1 : (0 : Int) ≤ (j : Int) := by omega
              have j2 : (j : Int) < (m : Int) := by omega
              have hb1 := hb.alloc hb.size (.cells #[.int .i64 t', .string s'] 29)
              have hbY := Blk.new wr 29 #[.int .i64 t', .string s']
              have hbX1 := hbX.alloc (.cells #[.int .i64 t', .string s'] 29)
              have z1 := (((Below.refl wr.heap.size wr).alloc (Nat.le_refl _) (.cells #[.int .i64 t', .string s'] 29)).cell (p := ⟨g3, off3 + k, none⟩) (World.block_lt_of_cell? _ _ z0)).trans z0
              clear hst' hy hb hbw hbX z0
              go_upto_region 28 with fail
              obtain ⟨wv, hwv⟩ : ∃ wv, wv = wr.alloc (.cells #[.int .i64 t', .string s'] 29) := ⟨_, rfl⟩
              obtain ⟨Y, hY⟩ : ∃ Y, Y = wr.heap.size := ⟨_, rfl⟩
              rw [← hwv] at hb1 hbY hbX1 z1 ⊢
              rw [← hY] at hbY ⊢
              have x0 : wv.cell? ⟨X, 0, none⟩ = some (.int .i64 t) := hbX1.cell 0
              have x1 : wv.cell? ⟨X, 1, none⟩ = some (.string s) := hbX1.cell 1
              have y0 : wv.cell? ⟨Y, 0, none⟩ = some (.int .i64 t') := hbY.cell 0
              have y1 : wv.cell? ⟨Y, 1, none⟩ = some (.string s') := hbY.cell 1
              have HB1 := Lib.hid hb1
              clear hwv hY hb1 hbY hbX1 d0 d1
              go_cut [106] (fun s wx => s = .bool false ∧ wx = wv)
              case first =>
                cases hs : s.toList.isEmpty
                · have hs2 : ¬ s.toList = [] := by simpa using hs
                  by_cases h2 : t' = t
                  · by_cases h3 : s'.toList = s.toList
                    · have hyj := HKK.out hs h2 h3
                      have h4 := toList_inj h3
                      subst h2 h4 hyj
                      clear h3
                      go_wp2
                      go_meet
                      exact ⟨rfl, rfl⟩
                    · subst h2
                      go_wp2
                      go_meet
                      exact ⟨rfl, rfl⟩
                  · go_wp2
                    go_meet
                    exact ⟨rfl, rfl⟩
                · have hs2 : s.toList = [] := by simpa using hs
                  go_wp2
                  go_meet
                  exact ⟨rfl, rfl⟩
              case rest =>
                obtain ⟨rfl, hw⟩ := hcut
                subst hw
                clear x0 x1 y0 y1 z1
                go_wp2
                go_roundw
                case rel => exact ⟨j + 1, by omega, by go_num, HB1.out⟩
                case measure => simp [intOf]; omega
            · obtain rfl : j = m := by omega
              have HB1 := Lib.hid (HBX.out.2.trans (hb.mono HBX.out.2.size))
              clear hb
              go_wp2
              go_roundw
              case rel => exact ⟨k + 1, by omega, by go_num, HB1.out⟩
              case measure => simp [intOf]; omega
        · obtain rfl : k = m' := by omega
          have HE := Lib.hid (HO5.out.2.2.2.trans (hb.mono HO5.out.2.2.2.size))
          clear hb
          go_wp2
          go_ret
          exact ⟨rfl, HE.out⟩

set_option maxRecDepth 100000 in
set_option maxHeartbeats 1000000 in
theorem matchAll_lifted (os : Os) (started : os.Started) (H : Type) (enc : TypeId × Value → H) :
    ReturnsInHanded {} Try.checked os 3 .any (Rows.matchAllSpec.pre6 enc Try.prog Try.f3 Rows.matchAllRow.domain false) (Rows.matchAllSpec.post enc Try.prog Try.f3 false true false false) := by
  refine returnsInHanded_of_change (C := Try.checked) own started (by kernel_rfl) Try.func3
    (ChangeSpec.witness6 (enc := enc) (C := Try.checked) false ⟨#[], #[.slice none 0 0, .slice none 0 0], []⟩ 8 (by kernel_rfl) (by kernel_rfl) (by kernel_rfl) (by kernel_rfl)) ?_
  intro W base args ds gs before hval0 hW hcnd _
  have hval : ∀ (j : Nat) t v, Try.f3.params[j]? = some t → args[j]? = some v → Value.okWide Try.prog W .any base t v := hval0
  have hW' := hW
  obtain ⟨p, q, hA0, hV, rfl, hfz, hnd⟩ := hW
  have hA : DataW.TrodAll enc Try.prog W 0 (fun _ => true) true Try.f3.params.toList args.toList ds p := hA0
  rw [Try.params3] at hA hval
  obtain ⟨v0, vs0, d0, ds0, p0, q0, hargs, rfl, rfl, h0, r0⟩ := trodAll_cons hA
  obtain ⟨v1, vs1, d1, ds1, p1, q1, rfl, rfl, rfl, h1, r1⟩ := trodAll_cons r0
  obtain ⟨rfl, rfl, rfl⟩ := trodAll_nil r1
  obtain rfl : args = #[v0, v1] := by cases args; simp_all
  obtain ⟨rfl, rfl⟩ := trodVars_none hV
  have k0 := h0
  have lt0 : ∀ x ∈ p0, x.block < W.heap.size := by obtain ⟨m, hm⟩ := k0; exact DataW.trod_lt m _ _ _ hm
  have k1 := h1
  have lt1 : ∀ x ∈ p1, x.block < W.heap.size := by obtain ⟨m, hm⟩ := k1; exact DataW.trod_lt m _ _ _ hm
  obtain ⟨A, n, c, ks, rfl, _, _, hz, hi⟩ := kids_open (hval 0 22 v0 rfl rfl) h0
  obtain ⟨B, n', c', ls, rfl, _, _, hz', hi'⟩ := kids_open (hval 1 22 v1 rfl rfl) h1
  clear hA0 hval0
  refine (matchAll_walk A B n c n' c' ks ls W hz hz' hi hi').mono fun e W' ⟨he, bel⟩ => ?_
  subst he
  exact ⟨_, rfl, _, _, _, [], _, [], hW', trodAll_mk1 (shut_bool Try.underlying4 _), (trodAll_cons_mk (Below.trod laid_out (by kernel_rfl) (of_decide_eq_true (by kernel_rfl)) k0 bel lt0) (trodAll_cons_mk (Below.trod laid_out (by kernel_rfl) (of_decide_eq_true (by kernel_rfl)) k1 bel lt1) trodAll_mk0)), rfl, bel.frame _, fun h => by cases h⟩

/-- The statement. -/
theorem matchAll_holds : Rows.MatchAllSaid :=
  OpenClaim.holds_of_wide 3 Try.f3 rfl rfl rfl rfl rfl rfl rfl ⟨rfl, rfl, rfl, rfl, rfl⟩ rfl rfl rfl rfl rfl (by kernel_rfl) Try.func3 (by kernel_rfl)
    (of_decide_eq_true (by kernel_rfl)) (by unfold Func.isWrapper; first | (rw [if_pos (by decide +kernel)]; kernel_rfl) | (rw [if_neg (by decide +kernel)]; exact ⟨rfl, rfl⟩))
    (fun os started H enc _ => matchAll_lifted os started H enc)
#print axioms matchAll_holds
end Go.Proofs.Ytgopokoghnfgiaa
