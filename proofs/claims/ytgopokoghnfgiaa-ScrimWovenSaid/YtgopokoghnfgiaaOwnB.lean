/-
  The walk over the statements' own lists of kids: as the program's and as the document's. (Written by gen_kids.py.)
-/
import Derived.Test.YtgopokoghnfgiaaKidsB
import Derived.Deep.RegionHeld3
import Derived.Deep.RegionWith
import Derived.BigRegion
import Derived.Deep.DeepCutAuto
namespace Go.Proofs.Ytgopokoghnfgiaa
open Go.RowKit
attribute [local go_sem ↓] Go.wp_at_zero Go.wp_at_succ

theorem ref_info : (Try.prog.info? 29).map (fun i => (i.zero, i.size, i.bytes)) = some (some (.agg #[.int .i64 0, .string ByteArray.empty]), 2, 24) := by kernel_rfl
theorem pr_info : (Try.prog.info? 38).map (fun i => (i.zero, i.size, i.bytes)) = some (some (.agg #[.int .i64 0, .string ByteArray.empty]), 2, 24) := by kernel_rfl

/-- Kids, cut. -/
def cutK (m : Nat) (l : List Kid) : List Kid := (l.take m).map fun p => (cut20 p.1, p.2)
theorem cutK_len (m : Nat) (l : List Kid) : (cutK m l).length = min m l.length := by simp [cutK]
theorem cutK_snoc (l : List Kid) (k : Nat) (h : k < l.length) : cutK (k + 1) l = cutK k l ++ [(cut20 (l.getD k kid0).1, (l.getD k kid0).2)] := by
  rw [cutK, take_snoc l kid0 k h, List.map_append]; rfl

/-- Both lists in the midst. -/
structure Ow (w wx : World) (va vb : Value) (k : Nat) (xs : List Value) : Prop where
  a : wx.ownsRow w.heap.size 38 2 va k xs
  b : wx.ownsRow w.heap.size 29 2 vb k xs
  below : Below w.heap.size w wx
theorem Ow.keep {w wx wy : World} {va vb : Value} {k : Nat} {xs : List Value} (r : Ow w wx va vb k xs) (hb : Below wx.heap.size wx wy) : Ow w wy va vb k xs :=
  ⟨own_keep r.a hb, own_keep r.b hb, r.below.trans (hb.mono r.below.size)⟩

/-- In the midst of the round's last statement. -/
structure Md (w wx : World) (p : Nat) (cs : Array Value) (va vb : Value) (ka kb : Nat) (xa xb : List Value) : Prop where
  blk : Blk wx p 29 cs
  pB : w.heap.size ≤ p
  a : wx.ownsRow w.heap.size 38 2 va ka xa
  b : wx.ownsRow w.heap.size 29 2 vb kb xb
  below : Below w.heap.size w wx
  ne : vb.ownBlock ≠ some p
section
variable {w wx wy : World} {p : Nat} {cs : Array Value} {va vb : Value} {ka kb : Nat} {xa xb : List Value}
theorem Md.alloc (r : Md w wx p cs va vb ka kb xa xb) (o : Obj) : Md w (wx.alloc o) p cs va vb ka kb xa xb :=
  ⟨r.blk.alloc o, r.pB, r.a.alloc o, r.b.alloc o, r.below.alloc r.below.size o, r.ne⟩
theorem Md.drew (r : Md w wx p cs va vb ka kb xa xb) : Md w wx.drew p cs va vb ka kb xa xb := ⟨r.blk.drew, r.pB, r.a.drew, r.b.drew, r.below.drew, r.ne⟩
theorem Md.cells (r : Md w wx p cs va vb ka kb xa xb) : ∀ i, wx.cell? ⟨p, i, none⟩ = cs[i]? := r.blk.cell
theorem Md.appA {va' : Value} {k' : Nat} {x' : List Value} (r : Md w wx p cs va vb ka kb xa xb) (ho : wy.ownsRow w.heap.size 38 2 va' k' x') (hg : wx.grownBy wy va.ownBlock) : Md w wy p cs va' vb k' kb x' xb :=
  ⟨r.blk.grown hg (fun e => own_blk_ne r.a r.blk (by decide) e.symm), r.pB, ho, r.b.kept hg (own_own_ne r.b r.a (by decide)), r.below.grown hg r.below.size (fun k hk => (r.a.lt k hk).1), r.ne⟩
theorem Md.appB {vb' : Value} {k' : Nat} {x' : List Value} (r : Md w wx p cs va vb ka kb xa xb) (ho : wy.ownsRow w.heap.size 29 2 vb' k' x') (hg : wx.grownBy wy vb.ownBlock) (hne : vb'.ownBlock ≠ some p) : Md w wy p cs va vb' ka k' xa x' :=
  ⟨r.blk.grown hg (fun e => r.ne e.symm), r.pB, r.a.kept hg (own_own_ne r.a r.b (by decide)), ho, r.below.grown hg r.below.size (fun k hk => (r.b.lt k hk).1), hne⟩
theorem Md.farA (r : Md w wx p cs va vb ka kb xa xb) (hg : wx.grownBy wy va.ownBlock) {q : Nat} {ds : Array Value} (hq : Blk wx q 29 ds) : Blk wy q 29 ds := hq.grown hg (fun e => own_blk_ne r.a hq (by decide) e.symm)
theorem Md.farB (r : Md w wx p cs va vb ka kb xa xb) (hg : wx.grownBy wy vb.ownBlock) {q : Nat} {ds : Array Value} (hq : Blk wx q 38 ds) : Blk wy q 38 ds := hq.grown hg (fun e => own_blk_ne r.b hq (by decide) e.symm)
theorem Md.size (r : Md w wx p cs va vb ka kb xa xb) : w.heap.size ≤ wx.heap.size := r.below.size
end
theorem nb_ne {v : Value} {p n g cap H k : Nat} (h : v.ownBlock ≠ some p) (_hp : p < n) (hat : v.ownBlock = some g ∨ g = H) (hH : n ≤ H) : (Value.slice (some ⟨g, 0, none⟩) (k + 1) cap).ownBlock ≠ some p := by
  intro e
  have e : g = p := by simpa [Value.ownBlock] using e
  subst e
  rcases hat with h1 | h1
  · exact h h1
  · omega
theorem blk_new2 (w : World) (o : Obj) (t : TypeId) (cs : Array Value) : Blk ((w.alloc o).alloc (.cells cs t)) (w.heap.size + 1) t cs := by
  have h := Blk.new (w.alloc o) t cs
  rw [World.size_alloc] at h
  exact h

/-- What own leaves. -/
def OwnPost (w : World) (ks : List Kid) (e : Ending) (w' : World) : Prop :=
  ∃ A a B b, e = .returned (.tuple #[.slice A ks.length a, .slice B ks.length b]) ∧ Ow w w' (.slice A ks.length a) (.slice B ks.length b) ks.length (flatK ks)

set_option maxRecDepth 100000 in
set_option maxHeartbeats 8000000 in
theorem own_any (A : Option Addr) (n c : Nat) (M : Nat) (hM : M ≤ 100) (ks : List Kid) (w : World) (hz : Kids w w.heap.size A n ks) :
    Calls Try.prog 10 #[.slice A n c, .int .i64 (M : Nat)] w (OwnPost w (cutK M ks)) := by
  obtain ⟨tr, hi, hz0, hz1, hz2⟩ := info_parts ref_info
  obtain ⟨tp, hi', hz0', hz1', hz2'⟩ := info_parts pr_info
  have HZ := Lib.hid hz
  clear hz
  go_enter Try.func10, Try.ntmps10
  go_wp2_with fail
  go_loopw [6, 7, 8] (fun va vb i wr => ∃ k : Nat, k ≤ n ∧ k ≤ M ∧ i = .int .i64 k ∧ Ow w wr va vb k (flatK (cutK k ks))) (fun _ _ i _ => M - (intOf i).toNat)
  case atStart => exact ⟨0, Nat.zero_le _, Nat.zero_le _, rfl, World.ownsRow_nil _ _ _ _, World.ownsRow_nil _ _ _ _, Below.refl _ _⟩
  case round =>
    obtain ⟨k, hk, hk2, rfl, ho⟩ := hrel
    obtain ⟨va, hva⟩ : ∃ va, va = u6 := ⟨_, rfl⟩
    obtain ⟨vb, hvb⟩ : ∃ vb, vb = u7 := ⟨_, rfl⟩
    rw [← hva, ← hvb] at ho ⊢
    clear hva hvb
    by_cases hlt : k < n ∧ k < M
    · obtain ⟨hlt, hlt2⟩ := hlt
      obtain ⟨b, off, rfl, hbB, hc0, hc1⟩ := HZ.out.2 k hlt
      have e0 := (ho.below.cell (p := ⟨b, off + k * 2, none⟩) hbB).trans hc0
      have e1 := (ho.below.cell (p := ⟨b, off + k * 2 + 1, none⟩) hbB).trans hc1
      have HT := Lib.hid (cutK_snoc ks k (by have := HZ.out.1; omega))
      obtain ⟨za, zb, hzab⟩ : ∃ za zb, ks.getD k kid0 = (za, zb) := ⟨_, _, rfl⟩
      rw [hzab] at e0 e1 HT
      simp only [k0, k1] at e0 e1
      clear hzab hc0 hc1
      have i1 : (0 : Int) ≤ (k : Int) := by omega
      have i2 : (k : Int) < (n : Int) := by omega
      have i3 : (k : Int) < (M : Nat) := by omega
      have hsz := ho.below.size
      have n0 := World.new_ne wr ⟨b, off + k * 2, none⟩ e0
      have n1 := World.new_ne wr ⟨b, off + k * 2 + 1, none⟩ e1
      have HO := Lib.hid ho
      clear ho
      obtain ⟨wo, rfl⟩ : ∃ wo : World, wo = wr := ⟨_, rfl⟩
      go_upto_region 6 with fail
      go_cut [9] (fun s wx => s = .pointer (some ⟨wo.heap.size, 0, none⟩) ∧ Blk wx wo.heap.size 29 #[.int .i64 zb, .string (cut20 za)] ∧ Ow w wx va vb k (flatK (cutK k ks)))
      case first =>
        go_region_held3 (fun w' => w'.cell? ⟨b, off + k * 2, none⟩ = some (.int .i64 zb) ∧ w'.cell? ⟨b, off + k * 2 + 1, none⟩ = some (.string za)) (go_keep)
          (first | (go_at_call 34; ((with_reducible refine (cut_any _ _).mono ?_); rintro e w' ⟨rfl, rfl⟩)))
        all_goals (go_wp2_with fail; go_meet; exact ⟨rfl, Blk.new _ _ _, HO.out.keep (((Below.refl _ _).alloc (Nat.le_refl _) _).drew)⟩)
      case rest =>
        obtain ⟨rfl, hblk, ho⟩ := hcut
        obtain ⟨p, hp⟩ : ∃ p, p = wo.heap.size := ⟨_, rfl⟩
        rw [← hp] at hblk ⊢
        have s0 := hblk.cell 0
        have s1 := hblk.cell 1
        have hpl := hblk.lt
        have HM := Lib.hid (show Md w wc p #[.int .i64 zb, .string (cut20 za)] va vb k k (flatK (cutK k ks)) (flatK (cutK k ks)) from ⟨hblk, by omega, ho.a, ho.b, ho.below, fun e => by have := (HO.out.b.lt p e).2; omega⟩)
        clear hblk ho hp e0 e1 n0 n1 HO
        go_upto_region 7 with fail
        go_region_held3 (fun w' => w'.cell? ⟨p, 0, none⟩ = some (.int .i64 zb) ∧ w'.cell? ⟨p, 1, none⟩ = some (.string (cut20 za))) (go_keep)
          (first
            | (refine step_append_lies _ (by rfl) _ _ _ (by rfl) w.heap.size 38 tp _ 2 24 Try.underlying24 hi' hz0' hz1' hz2' (by rfl) (by decide) _ k (flatK (cutK k ks)) (by rfl) (by first | exact (HMb.out.a.alloc _).drew | exact ((HMb.out.a.alloc _).alloc _).drew | exact HMb.out.a | exact HMb.out.a.alloc _ | exact HMb.out.a.drew) _ 1 1 [.int .i64 zb, .string (cut20 za)] (by rfl) (by rfl) (by exact World.news_of_block (by first | exact heap_alloc_new _ _ | exact (Blk.new _ _ _).alloc _ | exact blk_new2 _ _ _ _ | exact HK3.out _ _ (Blk.new _ _ _) | exact HK3.out _ _ ((Blk.new _ _ _).alloc _) | exact HK3.out _ _ (blk_new2 _ _ _ _))) (by intro u hu; simp at hu; rcases hu with rfl | rfl <;> rfl) (by omega) (by unfold maxLen; omega) (by omega) (by have := HMb.out.size; first | (simp; done) | (simp; omega)) _ rfl ?_; intro g4 cap4 w4 hown4 hg4 hat4 hlt4; have HMc := Lib.hid (Md.appA (by first | exact (HMb.out.alloc _).drew | exact ((HMb.out.alloc _).alloc _).drew | exact HMb.out | exact HMb.out.alloc _ | exact HMb.out.drew) hown4 hg4); have z0 := HMc.out.cells 0; have z1 := HMc.out.cells 1; clear hown4 hg4 hat4 hlt4)
            | (refine step_append_lies _ (by rfl) _ _ _ (by rfl) w.heap.size 29 tr _ 2 24 Try.underlying22 hi hz0 hz1 hz2 (by rfl) (by decide) _ k (flatK (cutK k ks)) (by rfl) (by first | exact (HMa.out.b.alloc _).drew | exact ((HMa.out.b.alloc _).alloc _).drew | exact HMa.out.b | exact HMa.out.b.alloc _ | exact HMa.out.b.drew) _ 1 1 [.int .i64 zb, .string (cut20 za)] (by rfl) (by rfl) (by exact World.news_of_block (by first | exact heap_alloc_new _ _ | exact (Blk.new _ _ _).alloc _ | exact blk_new2 _ _ _ _ | exact HK2.out _ _ (Blk.new _ _ _) | exact HK2.out _ _ ((Blk.new _ _ _).alloc _) | exact HK2.out _ _ (blk_new2 _ _ _ _))) (by intro u hu; simp at hu; rcases hu with rfl | rfl <;> rfl) (by omega) (by unfold maxLen; omega) (by omega) (by have := HMa.out.size; first | (simp; done) | (simp; omega)) _ rfl ?_; intro g5 cap5 w5 hown5 hg5 hat5 hlt5; have HMc := Lib.hid (Md.appB (by first | exact (HMa.out.alloc _).drew | exact ((HMa.out.alloc _).alloc _).drew | exact HMa.out | exact HMa.out.alloc _ | exact HMa.out.drew) hown5 hg5 (nb_ne HMa.out.ne HMa.out.blk.lt hat5 (by first | (simp; done) | (simp; omega)))); have z0 := HMc.out.cells 0; have z1 := HMc.out.cells 1; clear hown5 hg5 hat5 hlt5)
            | (refine step_append_lies _ (by rfl) _ _ _ (by rfl) w.heap.size 38 tp _ 2 24 Try.underlying24 hi' hz0' hz1' hz2' (by rfl) (by decide) _ k (flatK (cutK k ks)) (by rfl) (by first | exact (HM.out.a.alloc _).drew | exact ((HM.out.a.alloc _).alloc _).drew | exact HM.out.a | exact HM.out.a.alloc _ | exact HM.out.a.drew) _ 1 1 [.int .i64 zb, .string (cut20 za)] (by rfl) (by rfl) (by exact World.news_of_block (by first | exact heap_alloc_new _ _ | exact (Blk.new _ _ _).alloc _ | exact blk_new2 _ _ _ _ )) (by intro u hu; simp at hu; rcases hu with rfl | rfl <;> rfl) (by omega) (by unfold maxLen; omega) (by omega) (by have := HM.out.size; first | (simp; done) | (simp; omega)) _ rfl ?_; intro g2 cap2 w2 hown2 hg2 hat2 hlt2; have hr2 := Md.appA (by first | exact (HM.out.alloc _).drew | exact ((HM.out.alloc _).alloc _).drew | exact HM.out | exact HM.out.alloc _ | exact HM.out.drew) hown2 hg2; have HK2 := Lib.hid (fun (q : Nat) (ds : Array Value) => Md.farA (q := q) (ds := ds) (by first | exact (HM.out.alloc _).drew | exact ((HM.out.alloc _).alloc _).drew | exact HM.out | exact HM.out.alloc _ | exact HM.out.drew) hg2); have s0 := hr2.cells 0; have s1 := hr2.cells 1; have HMa := Lib.hid hr2; clear hr2 hown2 hg2 hat2 hlt2)
            | (refine step_append_lies _ (by rfl) _ _ _ (by rfl) w.heap.size 29 tr _ 2 24 Try.underlying22 hi hz0 hz1 hz2 (by rfl) (by decide) _ k (flatK (cutK k ks)) (by rfl) (by first | exact (HM.out.b.alloc _).drew | exact ((HM.out.b.alloc _).alloc _).drew | exact HM.out.b | exact HM.out.b.alloc _ | exact HM.out.b.drew) _ 1 1 [.int .i64 zb, .string (cut20 za)] (by rfl) (by rfl) (by exact World.news_of_block (by first | exact heap_alloc_new _ _ | exact (Blk.new _ _ _).alloc _ | exact blk_new2 _ _ _ _ )) (by intro u hu; simp at hu; rcases hu with rfl | rfl <;> rfl) (by omega) (by unfold maxLen; omega) (by omega) (by have := HM.out.size; first | (simp; done) | (simp; omega)) _ rfl ?_; intro g3 cap3 w3 hown3 hg3 hat3 hlt3; have hr3 := Md.appB (by first | exact (HM.out.alloc _).drew | exact ((HM.out.alloc _).alloc _).drew | exact HM.out | exact HM.out.alloc _ | exact HM.out.drew) hown3 hg3 (nb_ne HM.out.ne HM.out.blk.lt hat3 (by first | (simp; done) | (simp; omega))); have HK3 := Lib.hid (fun (q : Nat) (ds : Array Value) => Md.farB (q := q) (ds := ds) (by first | exact (HM.out.alloc _).drew | exact ((HM.out.alloc _).alloc _).drew | exact HM.out | exact HM.out.alloc _ | exact HM.out.drew) hg3); have s0 := hr3.cells 0; have s1 := hr3.cells 1; have HMb := Lib.hid hr3; clear hr3 hown3 hg3 hat3 hlt3))
        all_goals (
          go_wp2_with fail
          go_roundw)
        all_goals first
          | (refine ⟨k + 1, by omega, by omega, by go_num, ?_⟩; rw [HT.out, flatK_snoc]; first | exact ⟨HMc.out.a, HMc.out.b, HMc.out.below⟩ | exact ⟨HMc.out.a.drew, HMc.out.b.drew, HMc.out.below.drew⟩)
          | (simp [intOf]; omega)
    · have hke : cutK k ks = cutK M ks := by
        have hzl := HZ.out.1
        rw [cutK, cutK]
        by_cases h : k = M
        · rw [h]
        · rw [List.take_of_length_le (by omega), List.take_of_length_le (by omega)]
      have hlk : (cutK M ks).length = k := by
        have := HZ.out.1
        rw [← hke, cutK_len]
        omega
      rw [hke] at ho
      obtain ⟨A1, c1, hv1⟩ := own_form ho.a
      obtain ⟨A2, c2, hv2⟩ := own_form ho.b
      subst hv1 hv2
      have HO := Lib.hid (And.intro hlk ho)
      have hend : k < n → M ≤ k := fun h => by omega
      clear hke hlk ho HZ hlt
      by_cases hlt1 : k < n
      all_goals (
        first
        | (have hk20' : ((M : Nat) : Int) ≤ (k : Int) := by have := hend hlt1; omega)
        | skip
        clear hend
        go_wp2_with fail
        exact bodyPost_ret (v := .tuple #[.slice A1 k c1, .slice A2 k c2]) (by simp [results, Try.results10, go_sem]) rfl ⟨A1, c1, A2, c2, by rw [HO.out.1], by rw [HO.out.1]; exact HO.out.2⟩)

end Go.Proofs.Ytgopokoghnfgiaa
