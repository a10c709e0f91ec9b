/-
  The plain law of a slot: all that is under way ends.
-/
import Derived.Test.YtkiaaaehakjhjaaSlotLaw3
import Derived.Test.YtkiaaaehakjhjaaSlotNext
import Derived.Test.YtkiaaaehakjhjaaOwnC
namespace Go.Proofs.Ytkiaaaehakjhjaa
open Go.RowKit

/-- One kid's kind, where it is held among the first m and nobody enters. -/
def holdAt (q : Bool) (m : Nat) (ks : List Kid) (i : Nat) : Kid := ((ks.getD i kid0).1, if q = false ∧ i < m ∧ (ks.getD i kid0).2 = 4 then 6 else (ks.getD i kid0).2)
def hold (ks : List Kid) : List Kid := (List.range ks.length).map (holdAt (entS (cutK 15 ks)) (cutK 15 ks).length ks)
/-- What one pass makes of a slot. -/
def pass (ks : List Kid) : List Kid := if nextB (cutK 15 ks) = true ∧ 0 ≤ cur (hold ks) then (hold ks).set (cur (hold ks)).toNat (((hold ks).getD (cur (hold ks)).toNat kid0).1, 3) else hold ks
def calm (t : Int) : Int := if t = 2 ∨ t = 3 then 0 else t
def stays (k : Kid) : Bool := !(calm k.2 == 5) && !(calm k.2 == 6)
def calmK (k : Kid) : Kid := (k.1, calm k.2)
def leftS (ks : List Kid) : List Kid := (ks.filter stays).map calmK
def round1 (ks : List Kid) : List Kid := leftS (pass (pass ks))

/-- A slot whose current one, if there is one, is the one of a key. -/
structure Fin1 (key : ByteArray) (x : List Kid) : Prop where
  right : Right x
  keys : ∀ k ∈ x, isLive k → k.1.toList = key.toList
  none : (∀ k ∈ x, ¬ isLive k) → key.toList = []
  len : x.length ≤ 15 ∨ (x.length = 16 ∧ isLive (x.getD 15 kid0))
theorem cutK_get (ks : List Kid) (i : Nat) (hi : i < 15) (hl : i < ks.length) : (cutK 15 ks).getD i kid0 = (cut20 (ks.getD i kid0).1, (ks.getD i kid0).2) := by
  simp [cutK, List.getD, hi, hl]
theorem hold_len (ks : List Kid) : (hold ks).length = ks.length := by simp [hold]
theorem hold_get (ks : List Kid) (i : Nat) (hi : i < ks.length) : (hold ks).getD i kid0 = holdAt (entS (cutK 15 ks)) (cutK 15 ks).length ks i := by
  simp [hold, List.getD, hi]

/-- Lists with the same keys, whose live ones are the same ones, in range. -/
structure Like (x y : List Kid) : Prop where
  len : y.length = x.length
  key : ∀ i, i < x.length → (y.getD i kid0).1 = (x.getD i kid0).1
  live : ∀ i, i < x.length → (isLive (y.getD i kid0) ↔ isLive (x.getD i kid0))
  range : ∀ i, i < x.length → 0 ≤ (y.getD i kid0).2 ∧ (y.getD i kid0).2 ≤ 6
theorem Like.fin {key : ByteArray} {x y : List Kid} (h : Like x y) (hx : Fin1 key x) : Fin1 key y := by
  refine ⟨⟨fun k hk => ?_, pair_of fun i j hij hj => ?_⟩, fun k hk hl => ?_, fun hn => hx.none fun k hk hl => ?_, ?_⟩
  · obtain ⟨i, hi, rfl⟩ := mem_getD hk
    exact h.range i (by rw [← h.len]; exact hi)
  · rw [h.len] at hj
    have := pair_at hx.right.pair hij hj
    refine ⟨by rw [h.key i (by omega), h.key j hj]; exact this.1, fun ⟨a, b⟩ => this.2 ⟨(h.live i (by omega)).1 a, (h.live j hj).1 b⟩⟩
  · obtain ⟨i, hi, rfl⟩ := mem_getD hk
    rw [h.len] at hi
    rw [h.key i hi]
    exact hx.keys _ (getD_mem hi) ((h.live i hi).1 hl)
  · obtain ⟨i, hi, rfl⟩ := mem_getD hk
    exact hn _ (getD_mem (by rw [h.len]; exact hi)) ((h.live i hi).2 hl)
  · rcases hx.len with h1 | ⟨h1, h2⟩
    · exact .inl (by rw [h.len]; exact h1)
    · exact .inr ⟨by rw [h.len]; exact h1, (h.live 15 (by omega)).2 h2⟩
theorem hold_like {x : List Kid} (h : Right x) : Like x (hold x) := by
  refine ⟨hold_len x, fun i hi => by rw [hold_get x i hi]; rfl, fun i hi => ?_, fun i hi => ?_⟩
  · rw [hold_get x i hi, holdAt]
    unfold isLive
    simp only
    split
    · rename_i hc; omega
    · rfl
  · rw [hold_get x i hi, holdAt]
    simp only
    have := h.kind _ (getD_mem hi)
    split
    · omega
    · exact this
theorem pass_like {x : List Kid} (h : Right x) : Like x (pass x) := by
  have hl := hold_like h
  unfold pass
  split
  · rename_i hc
    have hr : Right (hold x) := ⟨fun k hk => by
      obtain ⟨i, hi, rfl⟩ := mem_getD hk
      exact hl.range i (by rw [← hl.len]; exact hi), pair_of fun i j hij hj => by
      rw [hl.len] at hj
      have := pair_at h.pair hij hj
      exact ⟨by rw [hl.key i (by omega), hl.key j hj]; exact this.1, fun ⟨a, b⟩ => this.2 ⟨(hl.live i (by omega)).1 a, (hl.live j hj).1 b⟩⟩⟩
    have hcn := cur_nat' _ hc.2
    have hset : ∀ i, i < x.length → ((hold x).set (cur (hold x)).toNat (((hold x).getD (cur (hold x)).toNat kid0).1, 3)).getD i kid0 = if i = (cur (hold x)).toNat then (((hold x).getD i kid0).1, 3) else (hold x).getD i kid0 := by
      intro i hi
      have hi' : i < (hold x).length := by rw [hl.len]; exact hi
      by_cases he : i = (cur (hold x)).toNat
      · rw [if_pos he, ← he]
        simp [List.getD, hi']
      · rw [if_neg he]
        simp [List.getD, Ne.symm he]
    refine ⟨by rw [List.length_set]; exact hl.len, fun i hi => ?_, fun i hi => ?_, fun i hi => ?_⟩
    · rw [hset i hi]
      split
      · exact hl.key i hi
      · exact hl.key i hi
    · rw [hset i hi]
      split
      · rename_i he
        have hlv : isLive ((hold x).getD i kid0) := (cur_live hr i (by rw [hl.len]; exact hi)).2 (by omega)
        constructor
        · intro _; exact (hl.live i hi).1 hlv
        · intro _; unfold isLive; simp only; omega
      · exact hl.live i hi
    · rw [hset i hi]
      split
      · simp only; omega
      · exact hl.range i hi
  · exact hl

theorem calm_live {k : Kid} (h : 0 ≤ k.2 ∧ k.2 ≤ 6) : isLive (calmK k) ↔ isLive k := by
  unfold isLive calmK calm
  simp only
  split <;> omega
theorem live_stays {k : Kid} (hl : isLive k) : stays k = true := by
  unfold isLive at hl
  unfold stays calm
  split
  · rfl
  · have h5 : (k.2 == 5) = false := by simp; omega
    have h6 : (k.2 == 6) = false := by simp; omega
    rw [h5, h6]; rfl
theorem left_mem {x : List Kid} {k : Kid} (hk : k ∈ leftS x) : ∃ k0 ∈ x, stays k0 = true ∧ k = calmK k0 := by
  rw [leftS, List.mem_map] at hk
  obtain ⟨k0, h0, rfl⟩ := hk
  rw [List.mem_filter] at h0
  exact ⟨k0, h0.1, h0.2, rfl⟩
theorem left_in {x : List Kid} {k : Kid} (hk : k ∈ x) (hs : stays k = true) : calmK k ∈ leftS x := List.mem_map.2 ⟨k, List.mem_filter.2 ⟨hk, hs⟩, rfl⟩
theorem left_len (x : List Kid) : (leftS x).length ≤ x.length := by
  rw [leftS, List.length_map]
  exact List.length_filter_le _ _
theorem left_fin {key : ByteArray} {x : List Kid} (h : Fin1 key x) : Fin1 key (leftS x) := by
  refine ⟨⟨fun k hk => ?_, ?_⟩, fun k hk hl => ?_, fun hn => h.none fun k hk hl => ?_, ?_⟩
  · obtain ⟨k0, h0, _, rfl⟩ := left_mem hk
    have := h.right.kind k0 h0
    unfold calmK calm
    simp only
    split <;> omega
  · rw [leftS, List.pairwise_map]
    refine List.Pairwise.imp_of_mem ?_ (List.Pairwise.filter stays h.right.pair)
    intro a b ha hb hab
    have ha := h.right.kind a (List.mem_filter.1 ha).1
    have hb := h.right.kind b (List.mem_filter.1 hb).1
    exact ⟨hab.1, fun ⟨l1, l2⟩ => hab.2 ⟨(calm_live ha).1 l1, (calm_live hb).1 l2⟩⟩
  · obtain ⟨k0, h0, _, rfl⟩ := left_mem hk
    exact h.keys k0 h0 ((calm_live (h.right.kind k0 h0)).1 hl)
  · exact hn _ (left_in hk (live_stays hl)) ((calm_live (h.right.kind k hk)).2 hl)
  · have hle := left_len x
    rcases h.len with h1 | ⟨h1, h2⟩
    · exact .inl (by omega)
    · by_cases h16 : (leftS x).length = 16
      · right
        refine ⟨h16, ?_⟩
        have hf : x.filter stays = x := by
          rw [leftS, List.length_map] at h16
          exact (List.filter_sublist (p := stays) (l := x)).eq_of_length (by omega)
        have hg : (leftS x).getD 15 kid0 = calmK (x.getD 15 kid0) := by
          rw [leftS, hf]
          simp [List.getD, show 15 < x.length by omega]
        rw [hg]
        exact (calm_live (h.right.kind _ (getD_mem (by omega)))).2 h2
      · exact .inl (by omega)

section
variable {key : ByteArray} {x : List Kid}
theorem cutK_len' (x : List Kid) : (cutK 15 x).length = min 15 x.length := cutK_len 15 x
/-- The first fifteen's current one is live in the whole. -/
theorem cut_cur (h : Right x) (hc : 0 ≤ cur (cutK 15 x)) : ∃ c : Nat, c < 15 ∧ c < x.length ∧ cur (cutK 15 x) = c ∧ ((cutK 15 x).getD c kid0).2 = (x.getD c kid0).2 ∧ isLive (x.getD c kid0) := by
  rcases cur_cases (cutK 15 x) with h1 | ⟨k, hk, h1, hg⟩
  · omega
  · rw [cutK_len'] at hk
    have e := cutK_get x k (by omega) (by omega)
    rw [e] at hg
    exact ⟨k, by omega, by omega, h1, by rw [e], (live_ghost h (getD_mem (by omega))).1 hg⟩
theorem live_one (h : Right x) {i j : Nat} (hi : i < x.length) (hj : j < x.length) (li : isLive (x.getD i kid0)) (lj : isLive (x.getD j kid0)) : i = j := by
  by_cases hij : i = j
  · exact hij
  · exact ((pair_ne h.pair hi hj hij).2 ⟨li, lj⟩).elim
/-- Those that are there leave. -/
def Gone (x : List Kid) : Prop := ∀ k ∈ x, ¬ isLive k → k.2 = 5 ∨ k.2 = 6
def Still0 (x : List Kid) : Prop := ∀ k ∈ x, isLive k → k.2 = 0
theorem pass_ghost (h : Right x) (i : Nat) (hi : i < x.length) (hg : ¬ isLive (x.getD i kid0)) : (pass x).getD i kid0 = holdAt (entS (cutK 15 x)) (cutK 15 x).length x i := by
  rw [← hold_get x i hi]
  unfold pass
  split
  · rename_i hc
    have hl := hold_like h
    have hne : i ≠ (cur (hold x)).toNat := by
      intro he
      rcases cur_cases (hold x) with h1 | ⟨k, hk, h1, hgk⟩
      · omega
      · obtain rfl : i = k := by omega
        have hr := hl.range i hi
        have : ¬ isLive ((hold x).getD i kid0) := fun hh => hg ((hl.live i hi).1 hh)
        apply this
        simp only [ghostB, Bool.or_eq_false_iff, beq_eq_false_iff_ne] at hgk
        unfold isLive
        omega
    simp [List.getD, Ne.symm hne]
  · rfl
theorem gone_pass (h : Fin1 key x) (he : entS (cutK 15 x) = false) : Gone (pass x) := by
  intro k hk hl
  have hlk := pass_like h.right
  obtain ⟨i, hi, rfl⟩ := mem_getD hk
  rw [hlk.len] at hi
  have hg : ¬ isLive (x.getD i kid0) := fun hh => hl ((hlk.live i hi).2 hh)
  have hr := h.right.kind _ (getD_mem hi)
  rw [pass_ghost h.right i hi hg, holdAt, he, cutK_len']
  have h15 : i < 15 := by
    rcases h.len with h1 | ⟨h1, h2⟩
    · omega
    · by_cases h3 : i < 15
      · exact h3
      · obtain rfl : i = 15 := by omega
        exact (hg h2).elim
  unfold isLive at hg
  simp only
  by_cases h4 : (x.getD i kid0).2 = 4
  · rw [if_pos ⟨trivial, by omega, h4⟩]; omega
  · rw [if_neg (fun hh => h4 hh.2.2)]; omega
theorem gone_again (h : Right x) (hg : Gone x) : Gone (pass x) := by
  intro k hk hl
  have hlk := pass_like h
  obtain ⟨i, hi, rfl⟩ := mem_getD hk
  rw [hlk.len] at hi
  have hgi : ¬ isLive (x.getD i kid0) := fun hh => hl ((hlk.live i hi).2 hh)
  have h56 := hg _ (getD_mem hi) hgi
  rw [pass_ghost h i hi hgi, holdAt]
  simp only
  rw [if_neg (fun hh => by omega)]
  exact h56
theorem gone_left (h : Right x) (hg : Gone x) : ∀ k ∈ leftS x, isLive k := by
  intro k hk
  obtain ⟨k0, h0, hs, rfl⟩ := left_mem hk
  rw [calm_live (h.kind k0 h0)]
  by_cases hl : isLive k0
  · exact hl
  · rcases hg k0 h0 hl with h5 | h6
    · rw [stays, calm, h5] at hs; simp at hs
    · rw [stays, calm, h6] at hs; simp at hs
theorem live_len (h : Right x) (hl : ∀ k ∈ x, isLive k) : x.length ≤ 1 := by
  by_cases h1 : x.length ≤ 1
  · exact h1
  · have := live_one h (i := 0) (j := 1) (by omega) (by omega) (hl _ (getD_mem (by omega))) (hl _ (getD_mem (by omega)))
    omega
theorem calm_01 {k : Kid} (h : 0 ≤ k.2) (hl : isLive k) : (calmK k).2 = 0 ∨ (calmK k).2 = 1 := by
  unfold isLive at hl
  unfold calmK calm
  simp only
  split <;> omega

theorem still_ent (h : Right x) (hs : Still0 x) : entS (cutK 15 x) = false ∧ waitS (cutK 15 x) = false := by
  rw [entS, waitS]
  by_cases hc : 0 ≤ cur (cutK 15 x)
  · obtain ⟨c, _, h2, h3, h4, h5⟩ := cut_cur h hc
    have h0 := hs _ (getD_mem h2) h5
    have e : (cur (cutK 15 x)).toNat = c := by omega
    rw [e, h4, h0]
    simp [entB]
  · simp [hc]
theorem still_pass (h : Right x) (hs : Still0 x) : Still0 (pass x) := by
  obtain ⟨h1, h2⟩ := still_ent h hs
  have hn : nextB (cutK 15 x) = false := by rw [nextB, h1, h2]; rfl
  have hp : pass x = hold x := by rw [pass, if_neg (fun hh => by rw [hn] at hh; cases hh.1)]
  rw [hp]
  intro k hk hl
  have hlk := hold_like h
  obtain ⟨i, hi, rfl⟩ := mem_getD hk
  rw [hlk.len] at hi
  have hli := (hlk.live i hi).1 hl
  have h0 := hs _ (getD_mem hi) hli
  rw [hold_get x i hi, holdAt]
  simp only
  rw [if_neg (fun hh => by omega)]
  exact h0

/-- At most one, which stands still. -/
def One0 (x : List Kid) : Prop := x = [] ∨ ∃ s, x = [(s, 0)]
def One1 (x : List Kid) : Prop := x = [] ∨ ∃ s, x = [(s, 0)] ∨ x = [(s, 1)]
theorem one1_of (h : Right x) (hl : ∀ k ∈ x, isLive k ∧ (k.2 = 0 ∨ k.2 = 1)) : One1 x := by
  have := live_len h (fun k hk => (hl k hk).1)
  match x, this with
  | [], _ => exact .inl rfl
  | [(s, t)], _ =>
    right
    refine ⟨s, ?_⟩
    rcases (hl (s, t) (by simp)).2 with h0 | h0
    · left; simp only at h0; rw [h0]
    · right; simp only at h0; rw [h0]
theorem round_nil : round1 [] = [] := rfl
theorem cur_single (u : ByteArray) (t : Int) (h : ghostB t = false) : cur [(u, t)] = 0 := by
  have hf : firstAt live [(u, t)] = ((0 : Nat) : Int) := firstAt_some (k := 0) (by simp) (by show live (u, t) = true; rw [live, h]; rfl) (fun j hj => by omega)
  rw [cur, hf]; rfl
theorem cut_single (s : ByteArray) (t : Int) : ∃ u, cutK 15 [(s, t)] = [(u, t)] := ⟨cut20 s, by simp [cutK]⟩
theorem hold_single (s : ByteArray) (t : Int) (h : ghostB t = false) : hold [(s, t)] = [(s, t)] := by
  have h4 : ¬ t = 4 := by rintro rfl; cases h
  show [holdAt (entS (cutK 15 [(s, t)])) (cutK 15 [(s, t)]).length [(s, t)] 0] = _
  rw [holdAt, if_neg (fun hh => h4 hh.2.2)]
  rfl
theorem next_single (u : ByteArray) (t : Int) (h : ghostB t = false) : nextB [(u, t)] = (t == 1) := by
  have hc := cur_single u t h
  have he : entS [(u, t)] = entB t := by rw [entS, hc]; rfl
  have hw : waitS [(u, t)] = (t == 1) := by rw [waitS, hc]; rfl
  have hg : ghostTo [(u, t)] 1 = false := by
    show (ghostB t || false) = false
    rw [h]; rfl
  rw [nextB, he, hw]
  show (if entB t = true then false else (t == 1) && !ghostTo [(u, t)] 1) = _
  rw [hg]
  split
  · rename_i h2
    have : (t == 1) = false := by
      rw [entB, Bool.or_eq_true] at h2
      rcases h2 with h2 | h2
      · have : t = 2 := by simpa using h2
        rw [this]; rfl
      · have : t = 3 := by simpa using h2
        rw [this]; rfl
    rw [this]
  · simp
theorem pass_single (s : ByteArray) (t : Int) (h : ghostB t = false) : pass [(s, t)] = if t = 1 then [(s, 3)] else [(s, t)] := by
  obtain ⟨u, hu⟩ := cut_single s t
  have hn := next_single u t h
  rw [pass, hold_single s t h, cur_single s t h, hu, hn]
  by_cases h1 : t = 1
  · rw [if_pos ⟨by simpa using h1, by omega⟩, if_pos h1]; rfl
  · rw [if_neg (fun hh => h1 (by simpa using hh.1)), if_neg h1]
theorem round_0 (s : ByteArray) : round1 [(s, 0)] = [(s, 0)] := by
  rw [round1, pass_single s 0 rfl, if_neg (by omega), pass_single s 0 rfl, if_neg (by omega)]; rfl
theorem round_1 (s : ByteArray) : round1 [(s, 1)] = [(s, 0)] := by
  rw [round1, pass_single s 1 rfl, if_pos rfl, pass_single s 3 rfl, if_neg (by omega)]; rfl
theorem round_one (h : One1 x) : One0 (round1 x) := by
  rcases h with rfl | ⟨s, rfl | rfl⟩
  · exact .inl round_nil
  · exact .inr ⟨s, round_0 s⟩
  · exact .inr ⟨s, round_1 s⟩
theorem round_fin (h : Fin1 key x) : Fin1 key (round1 x) :=
  left_fin ((pass_like ((pass_like h.right).fin h).right).fin ((pass_like h.right).fin h))
theorem round_gone (h : Fin1 key x) (he : entS (cutK 15 x) = false) : One1 (round1 x) ∧ (Still0 x → One0 (round1 x)) := by
  have hp := (pass_like h.right).fin h
  have hpp := (pass_like hp.right).fin hp
  have hg := gone_again hp.right (gone_pass h he)
  have hl := gone_left hpp.right hg
  have hf := left_fin hpp
  have h01 : ∀ k ∈ leftS (pass (pass x)), isLive k ∧ (k.2 = 0 ∨ k.2 = 1) := by
    intro k hk
    refine ⟨hl k hk, ?_⟩
    have hlk := hl k hk
    obtain ⟨k0, h0, _, rfl⟩ := left_mem hk
    exact calm_01 (hpp.right.kind k0 h0).1 ((calm_live (hpp.right.kind k0 h0)).1 hlk)
  refine ⟨one1_of hf.right h01, fun hs => ?_⟩
  have hss := still_pass hp.right (still_pass h.right hs)
  rcases one1_of hf.right h01 with h1 | ⟨s, h1 | h1⟩
  · exact .inl h1
  · exact .inr ⟨s, h1⟩
  · exfalso
    have hm : ((s, 1) : Kid) ∈ leftS (pass (pass x)) := by rw [h1]; simp
    have hlk := hl _ hm
    obtain ⟨k0, h0, _, hk⟩ := left_mem hm
    have hl0 : isLive k0 := by rw [hk] at hlk; exact (calm_live (hpp.right.kind k0 h0)).1 hlk
    have := hss k0 h0 hl0
    have h2 : (calmK k0).2 = 1 := by rw [← hk]
    rw [calmK, this] at h2
    simp [calm] at h2
theorem round_ent (h : Fin1 key x) (he : entS (cutK 15 x) = true) : Still0 (round1 x) := by
  have hh : hold x = x := by
    refine List.ext_getElem (hold_len x) fun i h1 h2 => ?_
    have := hold_get x i h2
    rw [holdAt, he, if_neg (fun hh => by cases hh.1), getD_get h1, getD_get h2] at this
    exact this
  have hn : nextB (cutK 15 x) = false := by rw [nextB, he]; rfl
  have hp : pass x = x := by rw [pass, hh, if_neg (fun hh => by rw [hn] at hh; cases hh.1)]
  rw [round1, hp, hp]
  intro k hk hl
  obtain ⟨k0, h0, _, rfl⟩ := left_mem hk
  have hl0 := (calm_live (h.right.kind k0 h0)).1 hl
  obtain ⟨i, hi, rfl⟩ := mem_getD h0
  rw [entS, Bool.and_eq_true, decide_eq_true_iff] at he
  obtain ⟨c, _, h2, h3, h4, h5⟩ := cut_cur h.right he.1
  have hic := live_one h.right hi h2 hl0 h5
  have e : (cur (cutK 15 x)).toNat = c := by omega
  rw [e, h4, ← hic] at he
  have ht : (x.getD i kid0).2 = 2 ∨ (x.getD i kid0).2 = 3 := by
    have := he.2
    rw [entB, Bool.or_eq_true] at this
    simpa using this
  unfold calmK calm
  simp only
  rw [if_pos ht]
theorem rounds_end (h : Fin1 key x) : One0 (round1 (round1 (round1 x))) := by
  have h1 := round_fin h
  have h2 : One0 (round1 (round1 x)) := by
    cases he : entS (cutK 15 x)
    · exact round_one (round_gone h he).1
    · have hs := round_ent h he
      exact (round_gone h1 (still_ent h1.right hs).1).2 hs
  rcases h2 with h2 | ⟨s, h2⟩
  · rw [h2]; exact .inl round_nil
  · rw [h2]; exact .inr ⟨s, round_0 s⟩
theorem rounds_law (h : Fin1 key x) : (round1 (round1 (round1 x)) = [] ∧ key.toList = []) ∨ ∃ s, round1 (round1 (round1 x)) = [(s, 0)] ∧ s.toList = key.toList := by
  have hf := round_fin (round_fin (round_fin h))
  rcases rounds_end h with h1 | ⟨s, h1⟩
  · left
    rw [h1] at hf
    exact ⟨h1, hf.none (fun k hk => by cases hk)⟩
  · right
    rw [h1] at hf
    exact ⟨s, h1, hf.keys (s, 0) (by simp) (by unfold isLive; simp only; omega)⟩
end

end Go.Proofs.Ytkiaaaehakjhjaa
