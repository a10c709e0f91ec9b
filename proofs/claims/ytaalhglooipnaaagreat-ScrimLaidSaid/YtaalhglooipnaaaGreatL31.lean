/-
  The walk over lay: a tree becomes the kid of a node, with all that it has.
-/
import Derived.Test.YtaalhglooipnaaaGreatL30
namespace Go.Proofs.YtaalhglooipnaaaGreat
open Go.RowKit RT
attribute [local go_sem ↓] Go.wp_at_zero Go.wp_at_succ

theorem ex_c4 {ρ : Operand → Value} {o : Oper} {w : World} {x y z x4 : Operand} {f : FuncId} {u v t u4 : Value} {ts : Array TypeId} (ho : o.op = .call { callee := .value (.func f), args := #[x, y, z, x4], argTypes := ts }) (hf : ρ (.func f) = .func (.func f) #[] #[]) (hc : (callFunc f #[u, v, t, u4]).run Tryz.prog w = .ok (.enter f #[u, v, t, u4]) w) (h : ρ x = u) (h' : ρ y = v) (h2 : ρ z = t) (h4 : ρ x4 = u4) : (execOp ρ o).run Tryz.prog w = .ok (.enter f #[u, v, t, u4]) w := by
  unfold execOp; rw [ho]; simp only [resolve, hf]
  go_simp
/-- What is known of a Log while lay runs. -/
def LS (B : Nat) (w : World) (L D M n' : Nat) (nd' : Nat → ND) (no : Nat) (wx : World) : Prop := (∃ gs kvs nox, nox ≤ no ∧ LogI B wx L D M n' nd' gs kvs nox) ∧ Below B w wx ∧ KpX w wx
theorem LS.next {B : Nat} {w wx wy : World} {L D M n n' : Nat} {nd nd' : Nat → ND} {gs' : Nat → Nat} {kvs' : Nat → Value} {no no' nox : Nat} (h : LS B w L D M n nd no wx) (hno : nox ≤ no') (hl : LogI B wy L D M n' nd' gs' kvs' nox) (hb : Below B wx wy) (hk : KpX wx wy) : LS B w L D M n' nd' no' wy :=
  ⟨⟨_, _, _, hno, hl⟩, h.2.1.trans hb, h.2.2.trans hk⟩
theorem LS.keep {B : Nat} {w wx wy : World} {L D M n : Nat} {nd : Nat → ND} {no : Nat} (h : LS B w L D M n nd no wx) (hb : Below wx.heap.size wx wy) : LS B w L D M n nd no wy := by
  obtain ⟨⟨gs, kvs, nox, h1, h2⟩, h3, h4⟩ := h
  exact ⟨⟨gs, kvs, nox, h1, h2.keep hb⟩, h3.trans (hb.mono h2.1.bnd), h4.trans (KpX.of_below hb)⟩
theorem LS.more {B : Nat} {w wx : World} {L D M n : Nat} {nd : Nat → ND} {no no' : Nat} (h : LS B w L D M n nd no wx) (hn : no ≤ no') : LS B w L D M n nd no' wx := by
  obtain ⟨⟨gs, kvs, nox, h1, h2⟩, h3⟩ := h
  exact ⟨⟨gs, kvs, nox, by omega, h2⟩, h3⟩
/-- A node that is made, as far as it has come. -/
def lnd (d : SD) (cl : List ByteArray) (at_ : List St.Pr) (st : List Pr) : ND := ⟨d.kind, d.tag, d.text, cl, at_, st, -1, []⟩
def LayPost (B : Nat) (w : World) (L D M n' : Nat) (nd' : Nat → ND) (no' : Nat) (e : Ending) (w' : World) : Prop := e = .returned (.bool true) ∧ LS B w L D M n' nd' no' w'

set_option maxRecDepth 100000 in
set_option maxHeartbeats 16000000 in
theorem lay_any (m : Nat) : ∀ (t : STr) (v : Value) (w : World) (B L D M n : Nat) (nd : Nat → ND) (gs : Nat → Nat) (kvs : Nat → Value) (no p : Nat), t.size ≤ m → GoodT t → IsT sK w (fun b => b < B) t v → LogI B w L D M n nd gs kvs no → Ups n nd → p < n → (nd p).kind = 2 → (nd p).kids.length ≤ 100 → n + t.size ≤ 50 → no + 302 * t.size ≤ 1000000 →
    Calls Tryz.prog 11 #[.pointer (some ⟨L, 0, none⟩), v, .int .i64 (p : Nat), .int .i64 ((nd p).kids.length : Nat)] w (LayPost B w L D M (n + t.size) (layN t p n nd) (no + 302 * t.size)) := by
  induction m with
  | zero => intro t v w B L D M n nd gs kvs no p h; have := size_pos t; omega
  | succ m ih =>
    intro t v w B L D M n nd gs kvs no p hsz hgood hT hlog hups hp hkp hkl hn50 hno
    obtain ⟨A7, c7, vs, ⟨a1, a2, a3, rfl, A1, c1, A2, c2, A3, c3, rfl, rfl, rfl, r1, r2, r3⟩, hvs, hks⟩ := IsT.eq.1 hT
    have hks1 := fun k hk => kid_size hsz k hk
    have hkl2 := kids_len hsz
    obtain ⟨d, hd⟩ : ∃ d, d = t.dat := ⟨_, rfl⟩
    obtain ⟨ks, hkse⟩ : ∃ ks, ks = t.kids := ⟨_, rfl⟩
    have hte : t = RT.mk d ks := by rw [hd, hkse]; cases t; rfl
    rw [← hd] at r1 r2 r3 ⊢
    rw [← hkse] at hvs hks hks1 hkl2 ⊢
    have hts : t.size = 1 + sizes ks := by rw [hte, size]
    rw [hte, GoodT] at hgood
    obtain ⟨hg1, ⟨sb1, sb2, sb3, sb4⟩, hg2, hg3⟩ := hgood
    obtain ⟨mk, hmk⟩ : ∃ k, k = (nd p).kids.length := ⟨_, rfl⟩
    rw [← hmk]
    rw [hts] at hn50 hno ⊢
    have hks50 : ks.length ≤ 50 := by have := sizes_len ks; omega
    have HT := Lib.hid (And.intro hte (And.intro hmk (And.intro hkp hups)))
    obtain ⟨w1, hw1, hX, hb1, hs1⟩ := one_new w (sC d (.slice A1 d.cl.length c1) (.slice A2 d.at_.length c2) (.slice A3 d.st.length c3) (.slice A7 ks.length c7)).toArray 40
    have hBw := hlog.1.bnd
    have hold : Still (fun b => b < B) w w1 := .of_below hb1 fun b hb => by omega
    have HR := Lib.hid (And.intro (r1.move hold) (And.intro (r2.move hold) (And.intro (r3.move hold) (And.intro (show Vs 8 w1 (fun b => b < B) A7 ks.length vs from hvs.move hold) (hks.move hold)))))
    have HL0 := Lib.hid (show LS B w1 L D M n nd no w1 from ⟨⟨gs, kvs, no, Nat.le_refl _, hlog.keep hb1⟩, Below.refl _ _, fun _ _ h => h⟩)
    have HB1 := Lib.hid (And.intro (hb1.mono hBw) (KpX.of_below hb1))
    have HX := Lib.hid hX
    have HG := Lib.hid (And.intro hg1 (And.intro hg2 hg3))
    have hlmk : mk ≤ 100 := by omega
    have hkind := gd_kind hg1
    have x1 : w1.cell? ⟨w.heap.size, 1, none⟩ = some (.int .i64 d.kind) := hX.cell 1
    have x2 : w1.cell? ⟨w.heap.size, 2, none⟩ = some (.string d.tag) := hX.cell 2
    have x3 : w1.cell? ⟨w.heap.size, 3, none⟩ = some (.string d.text) := hX.cell 3
    clear hT hd hkse hte hts hmk hkp hups hg1 hg2 hg3 hold r1 r2 r3 hvs hks hlog hb1 hX hBw hkl
    unfold sV sC
    unfold sC at hw1
    go_enter Tryz.func11, Tryz.ntmps11
    go_upto_region 1 with fail
    rw [← hw1]
    obtain ⟨X, hXe⟩ : ∃ X, X = w.heap.size := ⟨_, rfl⟩
    rw [← hXe] at HX x1 x2 x3 hs1 ⊢
    clear hw1 hXe hs1 hsz
    go_upto_if 20 with fail
    go_cut [9] (fun v9 wx => v9 = .int .i64 (n : Nat) ∧ LS B w1 L D M (n + 1) (setF nd n (lnd d [] [] [])) (no + 1) wx)
    case first =>
      obtain ⟨gs0, kvs0, nox, hnox, hl0⟩ := HL0.out.1
      rcases hkind with hk1 | hk1
      · have q1 : (d.kind == 1) = true := by simpa using hk1
        have HK := Lib.hid hk1
        have HL := Lib.hid hl0
        clear hk1 hl0
        go_wp2_with fail
        refine (textL_any HL.out (by omega) (by omega) d.text).mono ?_
        rintro e w2 ⟨G, rfl, ⟨kvs2, hl2⟩, hb2, hx2⟩
        have hd0 : (⟨1, eb, d.text, [], [], [], -1, []⟩ : ND) = lnd d [] [] [] := by
          rcases HG.out.1 with h | h
          · rw [lnd, h.2.2.2.2, HK.out]
          · exact absurd h.1 (by rw [HK.out]; decide)
        rw [hd0] at hl2
        have HS := Lib.hid (HL0.out.next (show nox + 1 ≤ no + 1 by omega) hl2 hb2 hx2)
        clear hl2 hb2 hx2 hd0
        go_wp2_with fail
        go_meet
        exact ⟨rfl, HS.out⟩
      · have q1 : (d.kind == 1) = false := by rw [hk1]; rfl
        have HK := Lib.hid hk1
        have HL := Lib.hid hl0
        clear hk1 hl0
        have hname : NameOk d.tag := by
          rcases HG.out.1 with h | h
          · exact absurd h.1 (by rw [HK.out]; decide)
          · exact h.2.2.1
        go_wp2_with fail
        refine (elementL_any HL.out (by omega) (by omega) d.tag hname).mono ?_
        rintro e w2 ⟨G, rfl, ⟨kvs2, hl2⟩, hb2, hx2⟩
        have hd0 : (⟨2, d.tag, eb, [], [], [], -1, []⟩ : ND) = lnd d [] [] [] := by
          rcases HG.out.1 with h | h
          · exact absurd h.1 (by rw [HK.out]; decide)
          · rw [lnd, h.2.1, HK.out]
        rw [hd0] at hl2
        have HS := Lib.hid (HL0.out.next (show nox + 1 ≤ no + 1 by omega) hl2 hb2 hx2)
        clear hl2 hb2 hx2 hd0 hname
        go_wp2_with fail
        go_meet
        exact ⟨rfl, HS.out⟩
    case rest =>
      obtain ⟨rfl, hls⟩ := hcut
      have x4 : wc.cell? ⟨X, 4, none⟩ = some (.slice A1 d.cl.length c1) := (hls.2.2 X _ HX.out).cell 4
      have HS1 := Lib.hid hls
      clear hls x1 x2 x3 hkind
      go_wp2_with fail
      go_loopw [38] (fun i wx => ∃ k : Nat, k ≤ d.cl.length ∧ i = .int .i64 k ∧ LS B w1 L D M (n + 1) (setF nd n (lnd d (d.cl.take k) [] [])) (no + 1 + k) wx) (fun i _ => d.cl.length - (intOf i).toNat)
      case atStart => exact ⟨0, Nat.zero_le _, rfl, HS1.out⟩
      case round =>
        obtain ⟨k, hk, rfl, hls⟩ := hrel
        by_cases hlt : k < d.cl.length
        · obtain ⟨b, off, rfl, hbB, d0⟩ := HR.out.1.2 k hlt
          replace d0 := d0 0 (by omega)
          replace d0 : w1.cell? ⟨b, off + k, none⟩ = some (.string (d.cl.getD k ByteArray.empty)) := by rw [Nat.mul_one, Nat.add_zero] at d0; exact d0
          replace d0 := (hls.2.1.cell (p := ⟨b, off + k, none⟩) hbB).trans d0
          obtain ⟨s, hs⟩ : ∃ s, s = d.cl.getD k ByteArray.empty := ⟨_, rfl⟩
          rw [← hs] at d0
          have i1 : (0 : Int) ≤ (k : Int) := by omega
          have i2 : (k : Int) < (d.cl.length : Int) := by omega
          obtain ⟨gs0, kvs0, nox, hnox, hl0⟩ := hls.1
          have hmem : s = d.cl[k] := by rw [hs]; simp [List.getD, hlt]
          have hcl := HG.out.1
          have hk2 : d.kind = 2 ∧ NameOk s ∧ s ∉ d.cl.take k := by
            rcases hcl with h | h
            · rw [h.2.1] at hlt; simp at hlt
            · refine ⟨h.1, h.2.2.2.2.1 s (by rw [hmem]; exact List.getElem_mem hlt), fun hm => ?_⟩
              obtain ⟨i, hi, he⟩ := List.mem_iff_getElem.1 hm
              have hik : i < k := by rw [List.length_take] at hi; omega
              rw [List.getElem_take, hmem] at he
              exact absurd ((List.getElem_inj h.2.2.2.1).1 he) (by omega)
          have hc := addClassL_any hl0 (by omega) (by omega) n (by omega) (by omega) (by rw [setF_same]; exact hk2.1) s hk2.2.1 (by rw [setF_same]; exact hk2.2.2) (by rw [setF_same]; show (d.cl.take k).length ≤ 200; rw [List.length_take]; omega)
          rw [setF_same, setF_set] at hc
          have hnd : ({ lnd d (d.cl.take k) [] [] with cl := (lnd d (d.cl.take k) [] []).cl ++ [s] } : ND) = lnd d (d.cl.take (k + 1)) [] [] := by
            rw [take_snoc d.cl ByteArray.empty k hlt, ← hs]; rfl
          rw [hnd] at hc
          have HC := Lib.hid hc
          have HLS := Lib.hid (And.intro hls hnox)
          clear hc hnd hk2 hcl hmem hl0 hls hs hnox
          go_wp2_with fail
          refine HC.out.mono ?_
          rintro e w2 ⟨rfl, ⟨kvs2, hl2⟩, hb2, hx2⟩
          have HS := Lib.hid (HLS.out.1.next (show nox + 1 ≤ no + 1 + (k + 1) by have := HLS.out.2; omega) hl2 hb2 hx2)
          clear hl2 hb2 hx2 d0 hbB
          go_wp2_with fail
          go_roundw
          case rel => exact ⟨k + 1, by omega, by go_num, HS.out⟩
          case measure => simp [intOf]; omega
        · obtain rfl : k = d.cl.length := by omega
          rw [List.take_length] at hls
          have x5 : wr.cell? ⟨X, 5, none⟩ = some (.slice A2 d.at_.length c2) := (hls.2.2 X _ HX.out).cell 5
          have HS2 := Lib.hid hls
          clear hls hlt hk
          go_wp2_with fail
          go_loopw [50] (fun i wx => ∃ k : Nat, k ≤ d.at_.length ∧ i = .int .i64 k ∧ LS B w1 L D M (n + 1) (setF nd n (lnd d d.cl (d.at_.take k) [])) (no + 101 + k) wx) (fun i _ => d.at_.length - (intOf i).toNat)
          case atStart => exact ⟨0, Nat.zero_le _, rfl, HS2.out.more (by omega)⟩
          case round =>
            obtain ⟨k, hk, rfl, hls⟩ := hrel
            by_cases hlt : k < d.at_.length
            · obtain ⟨b, off, rfl, hbB, d0⟩ := HR.out.2.1.2 k hlt
              have d1 := d0 1 (by omega)
              replace d0 := d0 0 (by omega)
              replace d0 := (hls.2.1.cell (p := ⟨b, off + k * 2 + 0, none⟩) hbB).trans d0
              replace d1 := (hls.2.1.cell (p := ⟨b, off + k * 2 + 1, none⟩) hbB).trans d1
              obtain ⟨x, hx⟩ : ∃ x, x = d.at_.getD k St.pr0 := ⟨_, rfl⟩
              rw [← hx] at d0 d1
              replace d0 : wr.cell? ⟨b, off + k * 2, none⟩ = some (.string x.1) := d0
              replace d1 : wr.cell? ⟨b, off + k * 2 + 1, none⟩ = some (.string x.2) := d1
              have i1 : (0 : Int) ≤ (k : Int) := by omega
              have i2 : (k : Int) < (d.at_.length : Int) := by omega
              obtain ⟨wk, hwk, hK, hbk, _⟩ := one_new wr #[.string x.1, .string x.2] 90
              have hlk := hls.keep hbk
              obtain ⟨gs0, kvs0, nox, hnox, hl0⟩ := hlk.1
              have hmem : x = d.at_[k] := by rw [hx]; simp [List.getD, hlt]
              have hk2 : d.kind = 2 ∧ NameOk x.1 ∧ St.Rise d.at_ := by
                rcases HG.out.1 with h | h
                · rw [h.2.2.1] at hlt; simp at hlt
                · exact ⟨h.1, h.2.2.2.2.2.2.1 x (by rw [hmem]; exact List.getElem_mem hlt), h.2.2.2.2.2.1⟩
              have hc := setAttrL_any hl0 (by omega) (by omega) n (by omega) (by omega) (by rw [setF_same]; exact hk2.1) x.1 x.2 hk2.2.1 (by rw [setF_same]; show (d.at_.take k).length ≤ 200; rw [List.length_take]; omega)
              rw [setF_same, setF_set] at hc
              have hnd : ({ lnd d d.cl (d.at_.take k) [] with at_ := St.putS (St.ofS (lnd d d.cl (d.at_.take k) []).at_) (x.1, x.2) } : ND) = lnd d d.cl (d.at_.take (k + 1)) [] := by
                have := sput_take hk2.2.2 k hlt
                rw [← hx] at this
                rw [← this]; rfl
              rw [hnd] at hc
              have HC := Lib.hid hc
              have HLS := Lib.hid (And.intro hlk hnox)
              have z0 : wk.cell? ⟨wr.heap.size, 0, none⟩ = some (.string x.1) := hK.cell 0
              have z1 : wk.cell? ⟨wr.heap.size, 1, none⟩ = some (.string x.2) := hK.cell 1
              clear hc hnd hk2 hmem hl0 hls hlk hx hnox hK hbk
              go_upto_region 13 with fail
              rw [← hwk]
              obtain ⟨K, hKe⟩ : ∃ K, K = wr.heap.size := ⟨_, rfl⟩
              rw [← hKe] at z0 z1 ⊢
              clear hwk hKe d0 d1 hbB
              go_wp2_with fail
              refine HC.out.mono ?_
              rintro e w2 ⟨rfl, ⟨kvs2, hl2⟩, hb2, hx2⟩
              have HS := Lib.hid (HLS.out.1.next (show nox + 1 ≤ no + 101 + (k + 1) by have := HLS.out.2; omega) hl2 hb2 hx2)
              clear hl2 hb2 hx2 z0 z1
              go_wp2_with fail
              go_roundw
              case rel => exact ⟨k + 1, by omega, by go_num, HS.out⟩
              case measure => simp [intOf]; omega
            · obtain rfl : k = d.at_.length := by omega
              rw [List.take_length] at hls
              have x6 : wr.cell? ⟨X, 6, none⟩ = some (.slice A3 d.st.length c3) := (hls.2.2 X _ HX.out).cell 6
              have HS3 := Lib.hid hls
              clear hls hlt hk
              go_wp2_with fail
              go_loopw [65] (fun i wx => ∃ k : Nat, k ≤ d.st.length ∧ i = .int .i64 k ∧ LS B w1 L D M (n + 1) (setF nd n (lnd d d.cl d.at_ (d.st.take k))) (no + 201 + k) wx) (fun i _ => d.st.length - (intOf i).toNat)
              case atStart => exact ⟨0, Nat.zero_le _, rfl, HS3.out.more (by omega)⟩
              case round =>
                obtain ⟨k, hk, rfl, hls⟩ := hrel
                by_cases hlt : k < d.st.length
                · obtain ⟨b, off, rfl, hbB, d0⟩ := HR.out.2.2.1.2 k hlt
                  have d1 := d0 1 (by omega)
                  replace d0 := d0 0 (by omega)
                  replace d0 := (hls.2.1.cell (p := ⟨b, off + k * 2 + 0, none⟩) hbB).trans d0
                  replace d1 := (hls.2.1.cell (p := ⟨b, off + k * 2 + 1, none⟩) hbB).trans d1
                  obtain ⟨x, hx⟩ : ∃ x, x = d.st.getD k pr0 := ⟨_, rfl⟩
                  rw [← hx] at d0 d1
                  replace d0 : wr.cell? ⟨b, off + k * 2, none⟩ = some (.string x.1) := d0
                  replace d1 : wr.cell? ⟨b, off + k * 2 + 1, none⟩ = some (.int .i64 x.2) := d1
                  have i1 : (0 : Int) ≤ (k : Int) := by omega
                  have i2 : (k : Int) < (d.st.length : Int) := by omega
                  obtain ⟨wk, hwk, hK, hbk, _⟩ := one_new wr #[.string x.1, .int .i64 x.2] 105
                  have hlk := hls.keep hbk
                  obtain ⟨gs0, kvs0, nox, hnox, hl0⟩ := hlk.1
                  have hmem : x = d.st[k] := by rw [hx]; simp [List.getD, hlt]
                  have hk2 : d.kind = 2 ∧ NameOk x.1 ∧ (-2147483648 ≤ x.2 ∧ x.2 ≤ 2147483647) ∧ Rise d.st := by
                    rcases HG.out.1 with h | h
                    · rw [h.2.2.2.1] at hlt; simp at hlt
                    · have hh := h.2.2.2.2.2.2.2.2 x (by rw [hmem]; exact List.getElem_mem hlt)
                      exact ⟨h.1, hh.1, hh.2, h.2.2.2.2.2.2.2.1⟩
                  have hc := setStyleL_any hl0 (by omega) (by omega) n (by omega) (by omega) (by rw [setF_same]; exact hk2.1) x.1 x.2 hk2.2.2.1 hk2.2.1 (by rw [setF_same]; show (d.st.take k).length ≤ 200; rw [List.length_take]; omega)
                  rw [setF_same, setF_set] at hc
                  have hnd : ({ lnd d d.cl d.at_ (d.st.take k) with st := putS (ofS (lnd d d.cl d.at_ (d.st.take k)).st) (x.1, x.2) } : ND) = lnd d d.cl d.at_ (d.st.take (k + 1)) := by
                    have := put_take hk2.2.2.2 k hlt
                    rw [← hx] at this
                    rw [← this]; rfl
                  rw [hnd] at hc
                  have HC := Lib.hid hc
                  have HLS := Lib.hid (And.intro hlk hnox)
                  have z0 : wk.cell? ⟨wr.heap.size, 0, none⟩ = some (.string x.1) := hK.cell 0
                  have z1 : wk.cell? ⟨wr.heap.size, 1, none⟩ = some (.int .i64 x.2) := hK.cell 1
                  clear hc hnd hk2 hmem hl0 hls hlk hx hnox hK hbk
                  go_upto_region 18 with fail
                  rw [← hwk]
                  obtain ⟨K, hKe⟩ : ∃ K, K = wr.heap.size := ⟨_, rfl⟩
                  rw [← hKe] at z0 z1 ⊢
                  clear hwk hKe d0 d1 hbB
                  go_wp2_with fail
                  refine HC.out.mono ?_
                  rintro e w2 ⟨rfl, ⟨kvs2, hl2⟩, hb2, hx2⟩
                  have HS := Lib.hid (HLS.out.1.next (show nox + 1 ≤ no + 201 + (k + 1) by have := HLS.out.2; omega) hl2 hb2 hx2)
                  clear hl2 hb2 hx2 z0 z1
                  go_wp2_with fail
                  go_roundw
                  case rel => exact ⟨k + 1, by omega, by go_num, HS.out⟩
                  case measure => simp [intOf]; omega
                · obtain rfl : k = d.st.length := by omega
                  rw [List.take_length] at hls
                  obtain ⟨gs0, kvs0, nox, hnox, hl0⟩ := hls.1
                  have hpn : p ≠ n := by omega
                  have hup1 : Ups (n + 1) (setF nd n (lnd d d.cl d.at_ d.st)) := fun j hj => by
                    by_cases e : j = n
                    · subst e; rw [setF_same]; exact ⟨by show (-1 : Int) ≤ -1; omega, by show (-1 : Int) < _; omega⟩
                    · rw [setF_other _ _ e]; exact HT.out.2.2.2 j (by omega)
                  have hc := insertL_any hl0 (by omega) (by omega) hup1 p n hp (by omega) (by rw [setF_other _ _ hpn]; exact HT.out.2.2.1) (by rw [setF_same]; rfl) (by rw [setF_other _ _ hpn, ← HT.out.2.1]; omega)
                  rw [setF_same, setF_other _ _ hpn, setF_mid _ hpn, ← HT.out.2.1] at hc
                  have HC := Lib.hid hc
                  have HLS := Lib.hid (And.intro hls hnox)
                  clear hc hls hl0 hnox hlt hk
                  go_wp2_with fail
                  refine HC.out.mono ?_
                  rintro e w2 ⟨rfl, ⟨kvs2, hl2⟩, hb2, hx2⟩
                  have hls2 := HLS.out.1.next (show nox + 1 ≤ no + 302 by have := HLS.out.2; omega) hl2 hb2 hx2
                  have x7 : w2.cell? ⟨X, 7, none⟩ = some (.slice A7 ks.length c7) := (hls2.2.2 X _ HX.out).cell 7
                  have HS4 := Lib.hid hls2
                  clear hl2 hb2 hx2 hls2
                  obtain ⟨nd3, hnd3⟩ : ∃ f, f = setF (setF nd p { nd p with kids := (nd p).kids ++ [(n : Int)] }) n ⟨d.kind, d.tag, d.text, d.cl, d.at_, d.st, p, []⟩ := ⟨_, rfl⟩
                  have HN3 := Lib.hid hnd3
                  have HUP := Lib.hid hup1
                  clear hnd3 hup1
                  go_wp2_with fail
                  have hup3 : Ups (n + 1) nd3 := fun j hj => by
                    rw [HN3.out]
                    by_cases e : j = n
                    · subst e; rw [setF_same]; exact ⟨by show (-1 : Int) ≤ (p : Int); omega, by show (p : Int) < _; omega⟩
                    · rw [setF_other _ _ e]
                      by_cases e2 : j = p
                      · subst e2; rw [setF_same]; exact HT.out.2.2.2 j (by omega)
                      · rw [setF_other _ _ e2]; exact HT.out.2.2.2 j (by omega)
                  have HU3 := Lib.hid hup3
                  clear hup3
                  go_loopw [86] (fun i wx => ∃ k : Nat, k ≤ ks.length ∧ i = .int .i64 k ∧ LS B w1 L D M (n + 1 + sizes (ks.take k)) (layNs (ks.take k) n (n + 1) nd3) (no + 302 + 302 * sizes (ks.take k)) wx) (fun i _ => ks.length - (intOf i).toNat)
                  case atStart => exact ⟨0, Nat.zero_le _, rfl, by rw [List.take_zero, sizes, layNs, HN3.out]; exact HS4.out⟩
                  case round =>
                    obtain ⟨k, hk, rfl, hls⟩ := hrel
                    by_cases hlt : k < ks.length
                    · have hT := HR.out.2.2.2.2.at_ k hlt
                      obtain ⟨A', c', vs', ⟨k1, k2, k3, hv, B1, b1, B2, b2, B3, b3, rfl, rfl, rfl, _⟩, _, _⟩ := IsT.eq.1 hT
                      obtain ⟨e, he⟩ : ∃ e, e = (ks[k]).dat := ⟨_, rfl⟩
                      obtain ⟨m', hm'⟩ : ∃ v, v = (ks[k]).kids.length := ⟨_, rfl⟩
                      rw [← he, ← hm'] at hv
                      obtain ⟨b, off, rfl, hbB, d0, d1, d2, d3, d4, d5, d6, d7⟩ := Vs.shown HR.out.2.2.2.1 k hlt hv (Still.of_below hls.2.1 fun b hb => hb)
                      rw [hv] at hT
                      have i1 : (0 : Int) ≤ (k : Int) := by omega
                      have i2 : (k : Int) < (ks.length : Int) := by omega
                      obtain ⟨wk, hwk, hK, hbk, _⟩ := one_new wr (sC e (.slice B1 e.cl.length b1) (.slice B2 e.at_.length b2) (.slice B3 e.st.length b3) (.slice A' m' c')).toArray 40
                      have hlk := hls.keep hbk
                      obtain ⟨gs0, kvs0, nox, hnox, hl0⟩ := hlk.1
                      have hszk := hks1 k hlt
                      have hpar := layNs_par (ks.take k) n (n + 1) nd3 (by omega)
                      have hn3 : nd3 n = ⟨d.kind, d.tag, d.text, d.cl, d.at_, d.st, p, []⟩ := by rw [HN3.out, setF_same]
                      have hkidsz : sizes (ks.take (k + 1)) = sizes (ks.take k) + (ks[k]).size := by rw [List.take_succ_eq_append_getElem hlt, sizes_app, sizes_one]
                      have hle := sizes_take ks (k + 1)
                      have hlen := sizes_len ks
                      have hkl3 : (layNs (ks.take k) n (n + 1) nd3 n).kids.length = k := by
                        rw [hpar, hn3]
                        show ([] ++ idsL (n + 1) (ks.take k)).length = k
                        rw [List.nil_append, idsL_len, List.length_take]; omega
                      have hc := ih ks[k] (sV e (.slice B1 e.cl.length b1) (.slice B2 e.at_.length b2) (.slice B3 e.st.length b3) (.slice A' m' c')) wk B L D M (n + 1 + sizes (ks.take k)) (layNs (ks.take k) n (n + 1) nd3) gs0 kvs0 nox n hszk (HG.out.2.2.at_ k hlt) (hT.move (.of_below hlk.2.1 fun b hb => hb)) hl0 (layNs_ups (ks.take k) n (n + 1) nd3 (by omega) HU3.out) (by omega) (by
                          rw [hpar, hn3]
                          show d.kind = 2
                          rcases gd_kind HG.out.1 with h | h
                          · rw [HG.out.2.1 h] at hlt; simp at hlt
                          · exact h) (by omega) (by omega) (by omega)
                      rw [hkl3, ← layNs_snoc, ← List.take_succ_eq_append_getElem hlt] at hc
                      have HC := Lib.hid hc
                      have HLS := Lib.hid (And.intro hlk (And.intro hnox hkidsz))
                      have HKK := Lib.hid hK
                      clear hc hlk hl0 hnox hszk hpar hn3 hkidsz hle hlen hkl3 hK hbk hls hT hv he hm'
                      unfold sC at hwk HKK
                      go_upto_region 25 with fail
                      rw [← hwk]
                      obtain ⟨K, hKe⟩ : ∃ K, K = wr.heap.size := ⟨_, rfl⟩
                      rw [← hKe] at HKK ⊢
                      clear hwk hKe d0 d1 d2 d3 d4 d5 d6 d7 hbB
                      refine _root_.Go.wp_region_lit ?_
                      refine wpList_val rfl (ex_mv rfl rfl) ?_
                      refine wpList_load_row rfl 40 _ rfl K rfl 40 _ (0, 0) _ HKK.out Tryz.underlying40 rfl sz_st ?_
                      refine wpList_val rfl (ex_mv rfl rfl) ?_
                      refine wpList_val rfl (ex_mv rfl rfl) ?_
                      refine wpList_call rfl (ex_c4 rfl rfl (enters Tryz.func11 (by kernel_rfl) rfl _ _) rfl rfl rfl rfl) (HC.out.mono ?_)
                      rintro e4 w4 ⟨rfl, hls4⟩
                      refine ⟨_, rfl, ?_⟩
                      obtain ⟨⟨gs4, kvs4, nox4, hnox4, hl4⟩, hb4, hx4⟩ := hls4
                      have HS := Lib.hid (HLS.out.1.next (show nox4 ≤ no + 302 + 302 * sizes (ks.take (k + 1)) by have e1 := HLS.out.2.1; have e2 := HLS.out.2.2; rw [e2]; omega) hl4 hb4 hx4)
                      have HSZ := Lib.hid (show n + 1 + sizes (ks.take k) + (ks[k]).size = n + 1 + sizes (ks.take (k + 1)) by have := HLS.out.2.2; omega)
                      clear hl4 hb4 hx4 hnox4
                      go_wp2_with fail
                      go_roundw
                      case rel => exact ⟨k + 1, by omega, by go_num, by rw [← HSZ.out]; exact HS.out⟩
                      case measure => simp [intOf]; omega
                    · obtain rfl : k = ks.length := by omega
                      rw [List.take_length] at hls
                      have HF := Lib.hid hls
                      clear hls hlt hk
                      go_wp2_with fail
                      go_ret
                      refine ⟨rfl, ?_⟩
                      rw [HT.out.1, layN]
                      have h := HF.out
                      rw [HN3.out] at h
                      obtain ⟨⟨gs', kvs', nox, h1, h2⟩, h3, h4⟩ := h
                      exact ⟨⟨gs', kvs', nox, by omega, by rw [show n + (1 + sizes ks) = n + 1 + sizes ks by omega]; exact h2⟩, HB1.out.1.trans h3, HB1.out.2.trans h4⟩

end Go.Proofs.YtaalhglooipnaaaGreat
