/-
  may of the document's layer 7, of nodes that are no texts.
-/
import Derived.Test.YtaalhglooipnaaaGreatL39
namespace Go.Proofs.YtaalhglooipnaaaGreat
open Go.RowKit RT
attribute [local go_sem ↓] Go.wp_at_zero Go.wp_at_succ

theorem namesL_len (d : VD) : (namesL d).length = d.cl.length + d.at_.length + d.st.length := by simp [namesL]; omega
theorem namesL_100 {d : VD} (h : shV d) (k : Nat) : ((namesL d).getD k ByteArray.empty).size ≤ 100 := by
  have key : ∀ s ∈ namesL d, s.size ≤ 100 := by
    intro s hs
    obtain ⟨_, _, _, h4, h5, h6⟩ := h
    simp only [namesL, List.mem_append, List.mem_map] at hs
    rcases hs with (hs | ⟨p, hp, rfl⟩) | ⟨p, hp, rfl⟩
    · exact h4 s hs
    · exact (h6 p hp).1
    · exact h5 p hp
  by_cases hk : k < (namesL d).length
  · have e : (namesL d).getD k ByteArray.empty = (namesL d)[k] := by simp [List.getD, hk]
    rw [e]
    exact key _ (List.getElem_mem hk)
  · have e : (namesL d).getD k ByteArray.empty = ByteArray.empty := by simp [List.getD, show (namesL d).length ≤ k by omega]
    rw [e]
    decide
theorem okV_of {d : VD} (h : ∀ j, j < (namesL d).length → NameOk ((namesL d).getD j ByteArray.empty)) (ht : NameOk d.tag) (hs : ∀ j, j < d.st.length → -2147483648 ≤ (d.st.getD j pr0).2 ∧ (d.st.getD j pr0).2 ≤ 2147483647) : okV d := by
  have key : ∀ s ∈ namesL d, NameOk s := by
    intro s hs
    obtain ⟨k, hk, rfl⟩ := List.getElem_of_mem hs
    have := h k hk
    simpa [List.getD, hk] using this
  refine fun _ => ⟨ht, fun c hc => key c ?_, fun p hp => key p.1 ?_, fun p hp => ⟨key p.1 ?_, ?_⟩⟩
  · simp [namesL, hc]
  · simp only [namesL, List.mem_append, List.mem_map]
    exact .inl (.inr ⟨p, hp, rfl⟩)
  · simp only [namesL, List.mem_append, List.mem_map]
    exact .inr ⟨p, hp, rfl⟩
  · obtain ⟨k, hk, rfl⟩ := List.getElem_of_mem hp
    have := hs k hk
    simpa [List.getD, hk] using this
/-- What the kids' loop needs of the world at its start. -/
structure HidA (wx w : World) (X : Nat) (d : VD) (A1 A2 A3 : Option Addr) (c1 c2 c3 : Nat) (A4 : Option Addr) (c4 : Nat) (ks : List VT) (vs : List Value) : Prop where
  blk : Blk wx X 32 #[.int .i64 d.kind, .string d.tag, .string d.key, .string d.text, .slice A1 d.cl.length c1, .slice A2 d.at_.length c2, .slice A3 d.st.length c3, .int .i64 d.op.1, .int .i64 d.op.2.1, .int .i64 d.op.2.2.1, .int .i64 d.op.2.2.2.1, .bool d.op.2.2.2.2.1, .bool d.op.2.2.2.2.2, .slice A4 ks.length c4]
  row : Vs 14 wx (Old w) A4 ks.length vs
  kids : IsTs vK wx (Old w) ks vs
  old : ∀ b, Old w b → b < wx.heap.size
theorem HidA.at_ {wx w wr : World} {X : Nat} {d : VD} {A1 A2 A3 : Option Addr} {c1 c2 c3 : Nat} {A4 : Option Addr} {c4 : Nat} {ks : List VT} {vs : List Value} (h : HidA wx w X d A1 A2 A3 c1 c2 c3 A4 c4 ks vs) (hb : Below wx.heap.size wx wr) (k : Nat) (hk : k < ks.length) :
    ∃ b off, ∃ e : VD, ∃ B1 b1 B2 b2 B3 b3 A' m' c', A4 = some ⟨b, off, none⟩ ∧ Old w b ∧ wr.cell? ⟨b, off + k * 14, none⟩ = some (.int .i64 e.kind) ∧ wr.cell? ⟨b, off + k * 14 + 1, none⟩ = some (.string e.tag) ∧ wr.cell? ⟨b, off + k * 14 + 2, none⟩ = some (.string e.key) ∧ wr.cell? ⟨b, off + k * 14 + 3, none⟩ = some (.string e.text) ∧ wr.cell? ⟨b, off + k * 14 + 4, none⟩ = some (.slice B1 e.cl.length b1) ∧ wr.cell? ⟨b, off + k * 14 + 5, none⟩ = some (.slice B2 e.at_.length b2) ∧ wr.cell? ⟨b, off + k * 14 + 6, none⟩ = some (.slice B3 e.st.length b3) ∧ wr.cell? ⟨b, off + k * 14 + 7, none⟩ = some (.int .i64 e.op.1) ∧ wr.cell? ⟨b, off + k * 14 + 8, none⟩ = some (.int .i64 e.op.2.1) ∧ wr.cell? ⟨b, off + k * 14 + 9, none⟩ = some (.int .i64 e.op.2.2.1) ∧ wr.cell? ⟨b, off + k * 14 + 10, none⟩ = some (.int .i64 e.op.2.2.2.1) ∧ wr.cell? ⟨b, off + k * 14 + 11, none⟩ = some (.bool e.op.2.2.2.2.1) ∧ wr.cell? ⟨b, off + k * 14 + 12, none⟩ = some (.bool e.op.2.2.2.2.2) ∧ wr.cell? ⟨b, off + k * 14 + 13, none⟩ = some ((.slice A' m' c')) := by
  have hT := h.kids.at_ k hk
  obtain ⟨A', c', vs', ⟨k1, k2, k3, hv, B1, b1, B2, b2, B3, b3, rfl, rfl, rfl, _⟩, _, _⟩ := IsT.eq.1 hT
  obtain ⟨b, off, rfl, hbB, hd⟩ := Vs.view h.row k hk hv (Still.of_below hb h.old)
  exact ⟨b, off, _, B1, b1, B2, b2, B3, b3, A', _, c', rfl, hbB, hd⟩
set_option maxRecDepth 100000 in
set_option maxHeartbeats 8000000 in
theorem may2_any (t : VT) (v : Value) (w : World) (hsz : t.size ≤ 20) (hvb : txb t.dat) (hT : IsT vK w (Old w) t v) (hk0 : Hid (¬ t.dat.kind = 1)) : Calls Tryz.prog 59 #[v] w (MyPost t.dat w) := by
  obtain ⟨A4, c4, vs, ⟨a1, a2, a3, rfl, hrows⟩, hvs, hks⟩ := IsT.eq.1 hT
  obtain ⟨A1, c1, A2, c2, A3, c3, rfl, rfl, rfl, r1, r2, r3⟩ := hrows
  have hkl : t.kids.length ≤ 19 := kids_len hsz
  obtain ⟨d, hd⟩ : ∃ d, d = t.dat := ⟨_, rfl⟩
  obtain ⟨ks, hkse⟩ : ∃ ks, ks = t.kids := ⟨_, rfl⟩
  rw [← hd] at r1 r2 r3 hvb hk0 ⊢
  rw [← hkse] at hvs hks hkl ⊢
  obtain ⟨w1, hw1, hX, hN, hB0, hs1⟩ := two_new w (vC d (.slice A1 d.cl.length c1) (.slice A2 d.at_.length c2) (.slice A3 d.st.length c3) (.slice A4 ks.length c4)).toArray #[.int .i64 0, .int .i64 0, .int .i64 0, .int .i64 0, .bool false, .bool false] 32 29
  unfold vV vC
  unfold vC at hX hw1
  clear hT hd hkse hsz
  go_enter Tryz.func59, Tryz.ntmps59
  go_upto_region 2 with fail
  rw [← hw1]
  obtain ⟨X, hXe⟩ : ∃ X, X = w.heap.size := ⟨_, rfl⟩
  rw [← hXe] at hX hN hs1 ⊢
  have HX := Lib.hid (And.intro hX (And.intro hN (And.intro hB0 (And.intro hXe hs1))))
  obtain ⟨x0, x1, x2, x3, x4, x5, x6, x7, x8, x9, x10, x11, x12, x13⟩ := vcells (a1 := .slice A1 d.cl.length c1) (a2 := .slice A2 d.at_.length c2) (a3 := .slice A3 d.st.length c3) (k := .slice A4 ks.length c4) hX
  have HR := Lib.hid (And.intro (r1.move (w' := w1) (.of_below hB0 fun _ h => h)) (And.intro (r2.move (w' := w1) (.of_below hB0 fun _ h => h)) (And.intro (r3.move (w' := w1) (.of_below hB0 fun _ h => h)) (And.intro (fun b (h : Old w b) => show b < w1.heap.size from Nat.lt_of_lt_of_le h hB0.size) hvb))))
  have HKS := Lib.hid (And.intro (show Vs 14 w1 (Old w) A4 ks.length vs from hvs.move (.of_below hB0 fun _ h => h)) (hks.move (w' := w1) (.of_below hB0 fun _ h => h)))
  clear hw1 hXe hs1 hX hN hB0 r1 r2 r3 hvs hks hvb
  have hk1 := hk0.out
  have hk1' : (d.kind == 1) = false := by simp [hk1]
  go_upto_region 4 with fail
  clear hk1 hk1'
  go_cut [79] (fun s79 wx => ∃ q, s79 = .bool q ∧ (q = false → NameOk d.tag) ∧ wx = w1)
  case first =>
    as_aux_lemma =>
    by_cases hA : (2 ≤ d.kind ∧ d.kind ≤ 4) ∧ d.text.toList = []
    · obtain ⟨⟨hA1, hA2⟩, hA3⟩ := hA
      go_wp2_with fail
      refine (rname_any d.tag (by have := HR.out.2.2.2.2.2.2.1; omega) w1).mono ?_
      rintro e5 w5 ⟨q5, rfl, hq5, rfl⟩
      cases q5
      · clear hq5
        go_wp2_with fail
        go_meet
        exact ⟨true, rfl, fun h => (by cases h), rfl⟩
      · have HN := Lib.hid (hq5 rfl)
        clear hq5
        by_cases hk : d.key.toList = []
        · go_wp2_with fail
          go_meet
          exact ⟨_, rfl, fun _ => HN.out, rfl⟩
        · go_wp2_with fail
          refine (rkey_any d.key (by have := HR.out.2.2.2.2.2.2.2.1; omega) w5).mono ?_
          rintro e6 w6 ⟨q6, rfl, hq6, rfl⟩
          clear hq6
          cases q6
          · go_wp2_with fail
            go_meet
            exact ⟨_, rfl, fun _ => HN.out, rfl⟩
          · go_wp2_with fail
            go_meet
            exact ⟨_, rfl, fun _ => HN.out, rfl⟩
    · by_cases h1 : d.kind < 2
      · go_wp2_with fail
        go_meet
        exact ⟨true, rfl, fun h => (by cases h), rfl⟩
      · by_cases h2 : 4 < d.kind
        · go_wp2_with fail
          go_meet
          exact ⟨true, rfl, fun h => (by cases h), rfl⟩
        · have h3 : ¬ d.text.toList = [] := fun e => hA ⟨⟨by omega, by omega⟩, e⟩
          clear hA
          go_wp2_with fail
          go_meet
          exact ⟨true, rfl, fun h => (by cases h), rfl⟩
  case rest =>
    obtain ⟨q, rfl, hq, rfl⟩ := hcut
    cases q
    · have HN := Lib.hid (hq rfl)
      clear hq
      go_wp2_with fail
      have q1 : RdS cvS ByteArray.empty 1 wc (Old wc) A1 d.cl.length d.cl := HR.out.1.weak HR.out.2.2.2.1
      have q2 : RdS St.cvP St.pr0 2 wc (Old wc) A2 d.at_.length d.at_ := HR.out.2.1.weak HR.out.2.2.2.1
      have q3 : RdS cvP pr0 2 wc (Old wc) A3 d.st.length d.st := HR.out.2.2.1.weak HR.out.2.2.2.1
      have hnm := names_any d A1 A2 A3 c1 c2 c3 (.slice A4 ks.length c4) wc HR.out.2.2.2.2.1 q1 q2 q3
      unfold vV vC at hnm
      refine hnm.mono ?_
      clear hnm q1 q2 q3 x0 x1 x2 x3 x4 x5 x6 x7 x8 x9 x10 x11 x12 x13
      rintro e6 w6 ⟨v6, rfl, hown, hb6⟩
      obtain ⟨A6, c6, rfl⟩ := own_form hown
      have hNL := namesL_100 HR.out.2.2.2.2.2
      obtain ⟨hb1, hb2, hb3⟩ : d.cl.length ≤ 100 ∧ d.at_.length ≤ 100 ∧ d.st.length ≤ 100 := HR.out.2.2.2.2.1
      obtain ⟨L, hL⟩ : ∃ L, L = namesL d := ⟨_, rfl⟩
      rw [← hL] at hown hNL ⊢
      have hLl : L.length ≤ 300 := by rw [hL, namesL_len]; have := HR.out.2.2.2.2.1; unfold vb at this; omega
      have HL := Lib.hid (And.intro hL hNL)
      have HS := Lib.hid (RdS.of_own (cv := cvS) (sz := 1) (d := ByteArray.empty) (fun _ _ => rfl) hown rfl)
      have HB := Lib.hid hb6
      clear hown hb6 hL hNL
      go_wp2_with fail
      go_loopw [83] (fun i wx => ∃ k, k ≤ L.length ∧ i = .int .i64 (k : Nat) ∧ wx = w6 ∧ ∀ j, j < k → NameOk (L.getD j ByteArray.empty)) (fun i _ => L.length - (intOf i).toNat)
      case atStart => exact ⟨0, Nat.zero_le _, rfl, rfl, fun j h => by omega⟩
      case round =>
        obtain ⟨k, hk, rfl, rfl, hok⟩ := hrel
        have HO := Lib.hid hok
        clear hok
        by_cases hlt : k < L.length
        · obtain ⟨b, off, rfl, hbB, d0⟩ := HS.out.2 k hlt
          replace d0 := d0 0 (by omega)
          have i1 : (0 : Int) ≤ (k : Int) := by omega
          have i2 : (k : Int) < (L.length : Int) := by omega
          obtain ⟨x, hx⟩ : ∃ x, x = L.getD k ByteArray.empty := ⟨_, rfl⟩
          rw [← hx] at d0
          replace d0 : wr.cell? ⟨b, off + k * 1, none⟩ = some (.string x) := d0
          rw [Nat.mul_one] at d0
          have hxs : x.size ≤ 1000 := by rw [hx]; have := HL.out.2 k; omega
          have HX1 := Lib.hid hx
          clear hx
          go_wp2_with fail
          refine (rname_any x hxs wr).mono ?_
          rintro e7 w7 ⟨q7, rfl, hq7, rfl⟩
          cases q7
          · clear hq7
            go_wp2_with fail
            go_ret
            exact ⟨false, rfl, fun h => (by cases h), HX.out.2.2.1.trans (HB.out.mono HX.out.2.2.1.size)⟩
          · have HQ := Lib.hid (hq7 rfl)
            clear hq7
            go_wp2_with fail
            go_roundw
            case rel =>
              refine ⟨k + 1, by omega, by go_num, trivial, fun j hj => ?_⟩
              rcases Nat.lt_or_ge j k with h | h
              · exact HO.out j h
              · obtain rfl : j = k := by omega
                rw [← HX1.out]; exact HQ.out
            case measure => simp [intOf]; omega
        · have HN2 := Lib.hid (show ∀ j, j < L.length → NameOk (L.getD j ByteArray.empty) from fun j h => HO.out j (by omega))
          have i2 : ¬ (k : Int) < (L.length : Int) := by omega
          clear hlt hk
          have x5 : wr.cell? ⟨X, 5, none⟩ = some (.slice A2 d.at_.length c2) := (HX.out.1.below HB.out HX.out.1.lt).cell 5
          have HBW := Lib.hid (HX.out.2.2.1.trans (HB.out.mono HX.out.2.2.1.size))
          have HXR := Lib.hid (And.intro (HX.out.1.below HB.out HX.out.1.lt) (And.intro (HX.out.2.1.below HB.out HX.out.2.1.lt) (And.intro (HR.out.2.1.move (w' := wr) (.of_below HB.out HR.out.2.2.2.1)) (And.intro (HR.out.2.2.1.move (w' := wr) (.of_below HB.out HR.out.2.2.2.1)) (fun b (h : Old w b) => show b < wr.heap.size from Nat.lt_of_lt_of_le (HR.out.2.2.2.1 b h) HB.out.size)))))
          have HKR := Lib.hid (And.intro (show Vs 14 wr (Old w) A4 ks.length vs from HKS.out.1.move (.of_below HB.out HR.out.2.2.2.1)) (And.intro (HKS.out.2.move (w' := wr) (.of_below HB.out HR.out.2.2.2.1)) (show shV d from HR.out.2.2.2.2.2)))
          have HLd := Lib.hid HL.out.1
          clear HX HR HKS HB HS HO HL
          obtain ⟨wb, hwb⟩ : ∃ wb, wb = wr := ⟨_, rfl⟩
          rw [← hwb] at HBW HXR HKR x5 ⊢
          clear hwb
          go_wp2_with fail
          go_loopw [94] (fun i wx => ∃ k, k ≤ d.at_.length ∧ i = .int .i64 (k : Nat) ∧ Below wb.heap.size wb wx) (fun i _ => d.at_.length - (intOf i).toNat)
          case atStart => exact ⟨0, Nat.zero_le _, rfl, Below.refl _ _⟩
          case round =>
            obtain ⟨k, hk, rfl, hb⟩ := hrel
            by_cases hlt : k < d.at_.length
            · obtain ⟨b, off, rfl, hbB, d0⟩ := HXR.out.2.2.1.2 k hlt
              have d1 := d0 1 (by omega)
              replace d0 := d0 0 (by omega)
              have hbb := HXR.out.2.2.2.2 b hbB
              replace d0 := (hb.cell (p := ⟨b, off + k * 2 + 0, none⟩) hbb).trans d0
              replace d1 := (hb.cell (p := ⟨b, off + k * 2 + 1, none⟩) hbb).trans d1
              obtain ⟨x, hx⟩ : ∃ x, x = d.at_.getD k St.pr0 := ⟨_, rfl⟩
              have hxs : x.2.size ≤ 1000 := by
                have hm : x ∈ d.at_ := by
                  rw [hx]
                  have e : d.at_.getD k St.pr0 = d.at_[k] := by simp [List.getD, hlt]
                  rw [e]; exact List.getElem_mem hlt
                have := (HKR.out.2.2.2.2.2.2.2 x hm).2; omega
              rw [← hx] at d0 d1
              replace d0 : wr.cell? ⟨b, off + k * 2, none⟩ = some (.string x.1) := d0
              replace d1 : wr.cell? ⟨b, off + k * 2 + 1, none⟩ = some (.string x.2) := d1
              have i1 : (0 : Int) ≤ (k : Int) := by omega
              have i2 : (k : Int) < (d.at_.length : Int) := by omega
              obtain ⟨wk, hwk, hK5, hBk, hsk⟩ := one_new wr #[.string x.1, .string x.2] 89
              clear hx
              go_upto_region 15 with fail
              rw [← hwk]
              obtain ⟨K5, hK5e⟩ : ∃ K5, K5 = wr.heap.size := ⟨_, rfl⟩
              rw [← hK5e] at hK5 ⊢
              have z1 : wk.cell? ⟨K5, 1, none⟩ = some (.string x.2) := hK5.cell 1
              have HO := Lib.hid (hb.trans (hBk.mono hb.size))
              clear hwk hK5 hBk hsk hK5e d0 d1 hbb hbB hb
              go_wp2_with fail
              refine (rvalue_any x.2 hxs wk).mono ?_
              rintro e7 w7 ⟨q7, rfl, rfl⟩
              cases q7
              · go_wp2_with fail
                go_ret
                exact ⟨false, rfl, fun h => (by cases h), HBW.out.trans (HO.out.mono HBW.out.size)⟩
              · go_wp2_with fail
                go_roundw
                case rel => exact ⟨k + 1, by omega, by go_num, HO.out⟩
                case measure => simp [intOf]; omega
            · obtain rfl : k = d.at_.length := by omega
              have HBR := Lib.hid (HBW.out.trans (hb.mono HBW.out.size))
              have HXQ := Lib.hid (And.intro (HXR.out.1.below hb HXR.out.1.lt) (And.intro (HXR.out.2.1.below hb HXR.out.2.1.lt) (And.intro (HXR.out.2.2.2.1.move (w' := wr) (.of_below hb HXR.out.2.2.2.2)) (fun b (h : Old w b) => show b < wr.heap.size from Nat.lt_of_lt_of_le (HXR.out.2.2.2.2 b h) hb.size))))
              have HKQ := Lib.hid (And.intro (show Vs 14 wr (Old w) A4 ks.length vs from HKR.out.1.move (.of_below hb HXR.out.2.2.2.2)) (HKR.out.2.1.move (w' := wr) (.of_below hb HXR.out.2.2.2.2)))
              have x6 : wr.cell? ⟨X, 6, none⟩ = some (.slice A3 d.st.length c3) := HXQ.out.1.cell 6
              clear HXR HKR HBW hb hlt hk x5
              obtain ⟨wd, hwd⟩ : ∃ wd, wd = wr := ⟨_, rfl⟩
              rw [← hwd] at HBR HXQ HKQ x6 ⊢
              clear hwd
              go_wp2_with fail
              go_loopw [106] (fun i wx => ∃ k, k ≤ d.st.length ∧ i = .int .i64 (k : Nat) ∧ Below wd.heap.size wd wx ∧ ∀ j, j < k → -2147483648 ≤ (d.st.getD j pr0).2 ∧ (d.st.getD j pr0).2 ≤ 2147483647) (fun i _ => d.st.length - (intOf i).toNat)
              case atStart => exact ⟨0, Nat.zero_le _, rfl, Below.refl _ _, fun j h => by omega⟩
              case round =>
                obtain ⟨k, hk, rfl, hb, hok⟩ := hrel
                have HO := Lib.hid hok
                clear hok
                by_cases hlt : k < d.st.length
                · obtain ⟨b, off, rfl, hbB, d0⟩ := HXQ.out.2.2.1.2 k hlt
                  have d1 := d0 1 (by omega)
                  replace d0 := d0 0 (by omega)
                  have hbb := HXQ.out.2.2.2 b hbB
                  replace d0 := (hb.cell (p := ⟨b, off + k * 2 + 0, none⟩) hbb).trans d0
                  replace d1 := (hb.cell (p := ⟨b, off + k * 2 + 1, none⟩) hbb).trans d1
                  obtain ⟨x, hx⟩ : ∃ x, x = d.st.getD k pr0 := ⟨_, rfl⟩
                  rw [← hx] at d0 d1
                  replace d0 : wr.cell? ⟨b, off + k * 2, none⟩ = some (.string x.1) := d0
                  replace d1 : wr.cell? ⟨b, off + k * 2 + 1, none⟩ = some (.int .i64 x.2) := d1
                  have i1 : (0 : Int) ≤ (k : Int) := by omega
                  have i2 : (k : Int) < (d.st.length : Int) := by omega
                  obtain ⟨wk, hwk, hK5, hBk, hsk⟩ := one_new wr #[.string x.1, .int .i64 x.2] 120
                  have HXX := Lib.hid hx
                  clear hx
                  go_upto_region 21 with fail
                  rw [← hwk]
                  obtain ⟨K5, hK5e⟩ : ∃ K5, K5 = wr.heap.size := ⟨_, rfl⟩
                  rw [← hK5e] at hK5 ⊢
                  have z1 : wk.cell? ⟨K5, 1, none⟩ = some (.int .i64 x.2) := hK5.cell 1
                  have HB2 := Lib.hid (hb.trans (hBk.mono hb.size))
                  clear hwk hK5 hBk hsk hK5e d0 d1 hbb hbB hb
                  by_cases j1 : x.2 < -2147483648
                  · go_wp2_with fail
                    go_ret
                    exact ⟨false, rfl, fun h => (by cases h), HBR.out.trans (HB2.out.mono HBR.out.size)⟩
                  · by_cases j2 : 2147483647 < x.2
                    · go_wp2_with fail
                      go_ret
                      exact ⟨false, rfl, fun h => (by cases h), HBR.out.trans (HB2.out.mono HBR.out.size)⟩
                    · have HJ := Lib.hid (show -2147483648 ≤ x.2 ∧ x.2 ≤ 2147483647 by omega)
                      go_wp2_with fail
                      go_roundw
                      case rel =>
                        refine ⟨k + 1, by omega, by go_num, HB2.out, fun j hj => ?_⟩
                        rcases Nat.lt_or_ge j k with h | h
                        · exact HO.out j h
                        · obtain rfl : j = k := by omega
                          rw [← HXX.out]; exact HJ.out
                      case measure => simp [intOf]; omega
                · obtain rfl : k = d.st.length := by omega
                  have HOK := Lib.hid (okV_of (by rw [HLd.out] at HN2; exact HN2.out) HN.out HO.out)
                  have HBX := Lib.hid (HBR.out.trans (hb.mono HBR.out.size))
                  have HXF := Lib.hid (And.intro (HXQ.out.1.below hb HXQ.out.1.lt) (And.intro (HXQ.out.2.1.below hb HXQ.out.2.1.lt) (fun b (h : Old w b) => show b < wr.heap.size from Nat.lt_of_lt_of_le (HXQ.out.2.2.2 b h) hb.size)))
                  have HKF := Lib.hid (And.intro (show Vs 14 wr (Old w) A4 ks.length vs from HKQ.out.1.move (.of_below hb HXQ.out.2.2.2)) (HKQ.out.2.move (w' := wr) (.of_below hb HXQ.out.2.2.2)))
                  clear HN2 HN HO HLd HBR HXQ HKQ hb x6 hlt hk
                  obtain ⟨x0, x1, x2, x3, x4, x5, x6, x7, x8, x9, x10, x11, x12, x13⟩ := vcells (a1 := .slice A1 d.cl.length c1) (a2 := .slice A2 d.at_.length c2) (a3 := .slice A3 d.st.length c3) (k := .slice A4 ks.length c4) HXF.out.1
                  obtain ⟨n0, n1, n2, n3, n4, n5⟩ := ncells HXF.out.2.1
                  obtain ⟨o1, ho1⟩ : ∃ o, o = d.op.1 := ⟨_, rfl⟩
                  obtain ⟨o2, ho2⟩ : ∃ o, o = d.op.2.1 := ⟨_, rfl⟩
                  obtain ⟨o3, ho3⟩ : ∃ o, o = d.op.2.2.1 := ⟨_, rfl⟩
                  obtain ⟨o4, ho4⟩ : ∃ o, o = d.op.2.2.2.1 := ⟨_, rfl⟩
                  obtain ⟨o5, ho5⟩ : ∃ o, o = d.op.2.2.2.2.1 := ⟨_, rfl⟩
                  obtain ⟨o6, ho6⟩ : ∃ o, o = d.op.2.2.2.2.2 := ⟨_, rfl⟩
                  rw [← ho1] at x7
                  rw [← ho2] at x8
                  rw [← ho3] at x9
                  rw [← ho4] at x10
                  rw [← ho5] at x11
                  rw [← ho6] at x12
                  clear ho1 ho2 ho3 ho4 ho5 ho6
                  obtain ⟨wo, hwo, hO, hBo, hso⟩ := one_new wr #[.int .i64 o1, .int .i64 o2, .int .i64 o3, .int .i64 o4, .bool o5, .bool o6] 29
                  go_upto_region 25 with fail
                  rw [← hwo]
                  obtain ⟨O, hOe⟩ : ∃ O, O = wr.heap.size := ⟨_, rfl⟩
                  rw [← hOe] at hO ⊢
                  have HBO := Lib.hid (HBX.out.trans (hBo.mono HBX.out.size))
                  have HXO := Lib.hid (And.intro (HXF.out.1.below hBo HXF.out.1.lt) (And.intro (HXF.out.2.1.below hBo HXF.out.2.1.lt) (And.intro hO (fun b (h : Old w b) => show b < wo.heap.size from Nat.lt_of_lt_of_le (HXF.out.2.2 b h) hBo.size))))
                  have HKO := Lib.hid (And.intro (show Vs 14 wo (Old w) A4 ks.length vs from HKF.out.1.move (.of_below hBo HXF.out.2.2)) (HKF.out.2.move (w' := wo) (.of_below hBo HXF.out.2.2)))
                  clear hwo hO hBo hso hOe HXF HBX HKF x0 x1 x2 x3 x4 x5 x6 x7 x8 x9 x10 x11 x12 x13 n0 n1 n2 n3 n4 n5
                  obtain ⟨kd, x0⟩ : ∃ kd : Int, wo.cell? ⟨X, 0, none⟩ = some (.int .i64 kd) := ⟨d.kind, HXO.out.1.cell 0⟩
                  have x13 : wo.cell? ⟨X, 13, none⟩ = some (.slice A4 ks.length c4) := HXO.out.1.cell 13
                  obtain ⟨n0, n1, n2, n3, n4, n5⟩ := ncells HXO.out.2.1
                  obtain ⟨p0, y0⟩ : ∃ p : Int, wo.cell? ⟨O, 0, none⟩ = some (.int .i64 p) := ⟨o1, HXO.out.2.2.1.cell 0⟩
                  obtain ⟨p1, y1⟩ : ∃ p : Int, wo.cell? ⟨O, 1, none⟩ = some (.int .i64 p) := ⟨o2, HXO.out.2.2.1.cell 1⟩
                  obtain ⟨p2, y2⟩ : ∃ p : Int, wo.cell? ⟨O, 2, none⟩ = some (.int .i64 p) := ⟨o3, HXO.out.2.2.1.cell 2⟩
                  obtain ⟨p3, y3⟩ : ∃ p : Int, wo.cell? ⟨O, 3, none⟩ = some (.int .i64 p) := ⟨o4, HXO.out.2.2.1.cell 3⟩
                  obtain ⟨p4, y4⟩ : ∃ p : Bool, wo.cell? ⟨O, 4, none⟩ = some (.bool p) := ⟨o5, HXO.out.2.2.1.cell 4⟩
                  obtain ⟨p5, y5⟩ : ∃ p : Bool, wo.cell? ⟨O, 5, none⟩ = some (.bool p) := ⟨o6, HXO.out.2.2.1.cell 5⟩
                  obtain ⟨r0, hop⟩ := neq_op p0 0 p1 0 p2 0 p3 0 p4 false p5 false
                  go_cut [128] (fun s wx => ∃ q, s = .bool q ∧ wx = wo)
                  case first =>
                    as_aux_lemma =>
                    go_wp2_with fail
                    all_goals
                      go_meet
                      exact ⟨_, rfl, rfl⟩
                  case rest =>
                    obtain ⟨q, rfl, rfl⟩ := hcut
                    cases q
                    · clear n0 n1 n2 n3 n4 n5 hop
                      obtain ⟨wp, hwp, hP, hBp, hsp⟩ := one_new wc #[.int .i64 p0, .int .i64 p1, .int .i64 p2] 3
                      go_wp2_with fail
                      rw [← hwp]
                      obtain ⟨P, hPe⟩ : ∃ P, P = wc.heap.size := ⟨_, rfl⟩
                      rw [← hPe] at hP ⊢
                      have HBP := Lib.hid (HBO.out.trans (hBp.mono HBO.out.size))
                      have HXP := Lib.hid (And.intro (HXO.out.1.below hBp HXO.out.1.lt) (And.intro (HXO.out.2.2.1.below hBp HXO.out.2.2.1.lt) (And.intro hP (fun b (h : Old w b) => show b < wp.heap.size from Nat.lt_of_lt_of_le (HXO.out.2.2.2 b h) hBp.size))))
                      have HKP := Lib.hid (And.intro (show Vs 14 wp (Old w) A4 ks.length vs from HKO.out.1.move (.of_below hBp HXO.out.2.2.2)) (HKO.out.2.move (w' := wp) (.of_below hBp HXO.out.2.2.2)))
                      clear hwp hP hBp hsp hPe HXO HBO HKO x0 x13 y0 y1 y2 y3 y4 y5
                      go_loopw [137] (fun i wx => ∃ k, k ≤ 3 ∧ i = .int .i64 (k : Nat) ∧ wx = wp) (fun i _ => 3 - (intOf i).toNat)
                      case atStart => exact ⟨0, Nat.zero_le _, rfl, rfl⟩
                      case round =>
                        obtain ⟨k, hk, rfl, rfl⟩ := hrel
                        by_cases hlt : k < 3
                        · obtain ⟨x, hx⟩ : ∃ x : Int, wr.cell? ⟨P, k, none⟩ = some (.int .i64 x) := by
                            obtain rfl | rfl | rfl : k = 0 ∨ k = 1 ∨ k = 2 := by omega
                            · exact ⟨p0, HXP.out.2.2.1.cell 0⟩
                            · exact ⟨p1, HXP.out.2.2.1.cell 1⟩
                            · exact ⟨p2, HXP.out.2.2.1.cell 2⟩
                          have i1 : (0 : Int) ≤ (k : Int) := by omega
                          have i2 : (k : Int) < 3 := by omega
                          go_upto_region 30 with fail
                          go_cut [146] (fun s wx => ∃ q, s = .bool q ∧ wx = wr)
                          case first =>
                            as_aux_lemma =>
                            go_wp2_with fail
                            all_goals
                              go_meet
                              exact ⟨_, rfl, rfl⟩
                          case rest =>
                            obtain ⟨q, rfl, rfl⟩ := hcut
                            cases q
                            · go_wp2_with fail
                              go_roundw
                              case rel => exact ⟨k + 1, by omega, by go_num, trivial⟩
                              case measure => simp [intOf]; omega
                            · go_wp2_with fail
                              go_ret
                              exact ⟨false, rfl, fun h => (by cases h), HBP.out⟩
                        · have i2 : ¬ (k : Int) < 3 := by omega
                          clear hlt
                          obtain ⟨kd, x0⟩ : ∃ kd : Int, wr.cell? ⟨X, 0, none⟩ = some (.int .i64 kd) := ⟨d.kind, HXP.out.1.cell 0⟩
                          obtain ⟨kl, hkl2⟩ : ∃ kl, kl = ks.length := ⟨_, rfl⟩
                          have x13 : wr.cell? ⟨X, 13, none⟩ = some (.slice A4 kl c4) := by rw [hkl2]; exact HXP.out.1.cell 13
                          have HKL := Lib.hid hkl2
                          clear hkl2
                          obtain ⟨p2, y2⟩ : ∃ p : Int, wr.cell? ⟨O, 2, none⟩ = some (.int .i64 p) := ⟨o3, HXP.out.2.1.cell 2⟩
                          obtain ⟨p3, y3⟩ : ∃ p : Int, wr.cell? ⟨O, 3, none⟩ = some (.int .i64 p) := ⟨o4, HXP.out.2.1.cell 3⟩
                          obtain ⟨p5, y5⟩ : ∃ p : Bool, wr.cell? ⟨O, 5, none⟩ = some (.bool p) := ⟨o6, HXP.out.2.1.cell 5⟩
                          go_upto_region 33 with fail
                          go_cut [155] (fun s wx => ∃ q, s = .bool q ∧ wx = wr)
                          case first =>
                            as_aux_lemma =>
                            go_wp2_with fail
                            all_goals
                              go_meet
                              exact ⟨_, rfl, rfl⟩
                          case rest =>
                            obtain ⟨q, rfl, rfl⟩ := hcut
                            cases q
                            · go_upto_region 35 with fail
                              go_cut [183] (fun s wx => ∃ q, s = .bool q ∧ wx = wc)
                              case first =>
                                as_aux_lemma =>
                                go_wp2_with fail
                                all_goals
                                  go_meet
                                  exact ⟨_, rfl, rfl⟩
                              case rest =>
                                obtain ⟨q, rfl, rfl⟩ := hcut
                                cases q
                                · have HKI := Lib.hid (show HidA wc w X d A1 A2 A3 c1 c2 c3 A4 c4 ks vs from ⟨HXP.out.1, HKP.out.1, HKP.out.2, HXP.out.2.2.2⟩)
                                  have HKL2 := Lib.hid HKL.out
                                  obtain ⟨wk0, hwk0⟩ : ∃ wk0, wk0 = wc := ⟨_, rfl⟩
                                  rw [← hwk0] at HKI HBP x13 ⊢
                                  clear x0 y2 y3 y5 HXP HKP hwk0
                                  have hkl3 : kl ≤ 19 := by rw [HKL.out]; exact hkl
                                  clear hkl
                                  go_wp2_with fail
                                  go_loopw [187] (fun i wx => ∃ k, k ≤ kl ∧ i = .int .i64 (k : Nat) ∧ Below wk0.heap.size wk0 wx) (fun i _ => kl - (intOf i).toNat)
                                  case atStart => exact ⟨0, Nat.zero_le _, rfl, Below.refl _ _⟩
                                  case round =>
                                    obtain ⟨k, hk, rfl, hb⟩ := hrel
                                    by_cases hlt : k < kl
                                    · obtain ⟨b, off, e, B1, b1, B2, b2, B3, b3, A', m', c', rfl, hbB, d0, d1, d2, d3, d4, d5, d6, d7, d8, d9, d10, d11, d12, d13⟩ := HKI.out.at_ hb k (by rw [← HKL.out]; exact hlt)
                                      have i1 : (0 : Int) ≤ (k : Int) := by omega
                                      have i2 : (k : Int) < (kl : Int) := by omega
                                      obtain ⟨wk, hwk, hK7, hBk, hsk⟩ := one_new wr (vC e (.slice B1 e.cl.length b1) (.slice B2 e.at_.length b2) (.slice B3 e.st.length b3) (.slice A' m' c')).toArray 32
                                      unfold vC at hwk
                                      go_upto_region 40 with fail
                                      rw [← hwk]
                                      obtain ⟨K7, hK7e⟩ : ∃ K7, K7 = wr.heap.size := ⟨_, rfl⟩
                                      rw [← hK7e] at hK7 ⊢
                                      obtain ⟨ek, z0⟩ : ∃ ek : Int, wk.cell? ⟨K7, 0, none⟩ = some (.int .i64 ek) := ⟨e.kind, hK7.cell 0⟩
                                      obtain ⟨es, z2⟩ : ∃ es : ByteArray, wk.cell? ⟨K7, 2, none⟩ = some (.string es) := ⟨e.key, hK7.cell 2⟩
                                      have HBK := Lib.hid (hb.trans (hBk.mono hb.size))
                                      obtain ⟨kd, x0⟩ : ∃ kd : Int, wk.cell? ⟨X, 0, none⟩ = some (.int .i64 kd) := ⟨d.kind, (HKI.out.blk.below (hb.trans (hBk.mono hb.size)) HKI.out.blk.lt).cell 0⟩
                                      clear hwk hK7 hBk hsk hK7e hb d0 d1 d2 d3 d4 d5 d6 d7 d8 d9 d10 d11 d12 d13 hbB
                                      go_cut [203] (fun s wx => ∃ q, s = .bool q ∧ wx = wk)
                                      case first =>
                                        as_aux_lemma =>
                                        go_wp2_with fail
                                        all_goals
                                          go_meet
                                          exact ⟨_, rfl, rfl⟩
                                      case rest =>
                                        obtain ⟨q, rfl, rfl⟩ := hcut
                                        clear x0 z0 z2
                                        cases q
                                        · go_wp2_with fail
                                          go_roundw
                                          case rel => exact ⟨k + 1, by omega, by go_num, HBK.out⟩
                                          case measure => simp [intOf]; omega
                                        · go_wp2_with fail
                                          go_ret
                                          exact ⟨false, rfl, fun h => (by cases h), HBP.out.trans (HBK.out.mono HBP.out.size)⟩
                                    · have i2 : ¬ (k : Int) < (kl : Int) := by omega
                                      have HBR := Lib.hid (HBP.out.trans (hb.mono HBP.out.size))
                                      clear hb x13
                                      go_wp2_with fail
                                      go_ret
                                      exact ⟨true, rfl, fun _ => HOK.out, HBR.out⟩
                                · clear x0 x13 y2 y3 y5
                                  go_wp2_with fail
                                  go_ret
                                  exact ⟨false, rfl, fun h => (by cases h), HBP.out⟩
                            · clear x0 x13 y2 y3 y5
                              go_wp2_with fail
                              go_ret
                              exact ⟨false, rfl, fun h => (by cases h), HBP.out⟩
                    · clear x13 n0 n1 n2 n3 n4 n5 y0 y1 y2 y3 y4 y5 x0
                      go_wp2_with fail
                      go_ret
                      exact ⟨false, rfl, fun h => (by cases h), HBO.out⟩
    · clear hq
      go_wp2_with fail
      go_ret
      exact ⟨false, rfl, fun h => (by cases h), HX.out.2.2.1⟩

end Go.Proofs.YtaalhglooipnaaaGreat
