/-
  The numbers that stay fit to the walk of layer 12.
-/
import Derived.Test.YtgopokoghnfgiaaWovP
namespace Go.Proofs.Ytgopokoghnfgiaa

theorem getD_mem {l : List Int} {i : Nat} (h : i < l.length) : l.getD i 0 ∈ l := (mem_getD l _).2 ⟨i, h, rfl⟩
section
variable {fm tt : List Int} {R : List Nat}
theorem idsTo_all (fr : Int → Nat) (tt : List Int) : idsTo fr tt tt.length = tt.filter fun x => decide (0 < fr x) := by rw [idsTo, List.take_length]
theorem old_getD (fr : Int → Nat) (tt : List Int) {r : Nat} (h : r < (idsTo fr tt tt.length).length) : (oldTo fr tt tt.length).getD r 0 = (fr ((idsTo fr tt tt.length).getD r 0) : Nat) := by
  simp [oldTo, List.getD, h]
theorem stays_sub_tt (h : IsLis (oldTo (placeF fm) tt tt.length) R) : (staysL (idsTo (placeF fm) tt tt.length) R).Sublist (idsTo (placeF fm) tt tt.length) :=
  rise_sub _ R (h.ord.imp fun h => h.1) fun r hr => by rw [← oldTo_len]; exact h.lt r hr
theorem stays_sub_fm (h : IsLis (oldTo (placeF fm) tt tt.length) R) : (staysL (idsTo (placeF fm) tt tt.length) R).Sublist fm := by
  obtain ⟨ids, hids⟩ : ∃ ids, ids = idsTo (placeF fm) tt tt.length := ⟨_, rfl⟩
  have hlt : ∀ r ∈ R, r < ids.length := fun r hr => by rw [hids, ← oldTo_len]; exact h.lt r hr
  have hat : ∀ r ∈ R, placeF fm (ids.getD r 0) - 1 < fm.length ∧ 0 < placeF fm (ids.getD r 0) ∧ fm.getD (placeF fm (ids.getD r 0) - 1) 0 = ids.getD r 0 := fun r hr => by
    have h1 := getD_mem (hlt r hr)
    have h2 : ids.getD r 0 ∈ tt.filter fun x => decide (0 < placeF fm x) := by
      rw [← idsTo_all, ← hids]; exact h1
    have h3 : 0 < placeF fm (ids.getD r 0) := by simpa using (List.mem_filter.1 h2).2
    obtain ⟨i, h4, h5, h6⟩ := placeF_pos (l := fm) (x := ids.getD r 0) (by omega)
    rw [h4]
    exact ⟨h5, by omega, h6⟩
  have e : staysL ids R = (R.map fun r => placeF fm (ids.getD r 0) - 1).map fun r => fm.getD r 0 := by
    rw [staysL, List.map_map]
    refine List.map_congr_left fun r hr => ?_
    exact (hat r hr).2.2.symm
  rw [← hids, e]
  refine rise_sub fm _ ?_ ?_
  · rw [List.pairwise_map]
    refine List.Pairwise.imp_of_mem ?_ h.ord
    intro a b ha hb hab
    have h1 := hab.2
    have la : a < (idsTo (placeF fm) tt tt.length).length := by rw [← hids]; exact hlt a ha
    have lb : b < (idsTo (placeF fm) tt tt.length).length := by rw [← hids]; exact hlt b hb
    rw [old_getD _ _ la, old_getD _ _ lb, ← hids] at h1
    have := (hat a ha).2.1
    omega
  · intro r hr
    obtain ⟨q, hq, rfl⟩ := List.mem_map.1 hr
    exact (hat q hq).1
theorem fit_stays (nf : fm.Nodup) (nt : tt.Nodup) (ft : ∀ x ∈ fm, x ∈ tt) (h : IsLis (oldTo (placeF fm) tt tt.length) R) : Fit fm (staysL (idsTo (placeF fm) tt tt.length) R) tt := by
  have h1 := stays_sub_fm h
  have h2 := stays_sub_tt h
  have h3 : (staysL (idsTo (placeF fm) tt tt.length) R).Sublist tt := by
    refine h2.trans ?_
    rw [idsTo_all]
    exact List.filter_sublist
  refine ⟨nf, nt, ft, fun x hx => h1.subset hx, ?_⟩
  have e1 := sub_filter h1 nf
  have e2 := sub_filter h3 nt
  refine Eq.trans ?_ (Eq.trans (e1.trans e2.symm) ?_)
  · exact List.filter_congr fun x _ => by congr
  · exact List.filter_congr fun x _ => by congr
end

end Go.Proofs.Ytgopokoghnfgiaa
