/- Stripes as wide as there are disks. Plain. -/
import Derived.Test.YtkkfpdjhnffpbaaDoorPlaQ
namespace Go.Proofs.YtkkfpdjhnffpbaaDoor
set_option linter.unusedVariables false
namespace Pl
theorem sel_all (L : List Nat) : sel L L.length = List.range L.length := by
  unfold sel
  rw [List.filter_eq_self]
  intro d hd
  exact decide_eq_true (rank_lt L (List.mem_range.1 hd))
theorem st_all {n k : Nat} : ∀ s ∈ (st n n k).map ci, s = ci (List.range n) := by
  intro s hs
  obtain ⟨r, hr, rfl⟩ := List.mem_map.1 hs
  obtain ⟨j, hj, e⟩ := st_rows hr
  have h := sel_all (ld n n j)
  rw [ld_len] at h
  rw [e, h]
theorem ld_all {n d : Nat} (hd : d < n) : ∀ k, (ld n n k).getD d 0 = k
  | 0 => by rw [ld_0, List.getD_eq_getElem?_getD, List.getElem?_replicate, if_pos hd]; rfl
  | k + 1 => by
    have hl := ld_len n n k
    have hr := rank_lt (ld n n k) (d := d) (by omega)
    rw [ld_succ, add_get _ _ (by omega), ld_all hd k, if_pos (by omega)]
theorem hts_all {n k d : Nat} (hd : d < n) : (hts (d : Int) ((st n n k).map ci) k).length = k := by rw [st_hurt hd, ld_all hd]
theorem hts_none {n k : Nat} {d : Int} (hd : (n : Int) ≤ d) : (hts d ((st n n k).map ci) k).length = 0 := by
  rw [hts_len d (fun s hs => (st_good s hs).1) k (by rw [List.length_map, st_len]; exact Nat.le_refl _), List.count_eq_zero]
  intro h
  obtain ⟨s, hs, hx⟩ := List.mem_flatten.1 h
  have := (st_good s (List.mem_of_mem_take hs)).2 d hx
  omega
theorem mem_all {n d : Nat} (hd : d < n) : (d : Int) ∈ ci (List.range n) := List.mem_map.2 ⟨d, List.mem_range.2 hd, rfl⟩
theorem prs_all {n k d q : Nat} (hd : d < n) (hq : q < n) : ∀ i, i ≤ k → (prs (d : Int) (((st n n k).map ci).take i)).count (q : Int) = if q = d then 0 else i
  | 0, _ => by rw [List.take_zero]; show 0 = _; split <;> rfl
  | i + 1, hi => by
    obtain ⟨s, hs⟩ : ∃ s, ((st n n k).map ci)[i]? = some s := ⟨_, List.getElem?_eq_getElem (by rw [List.length_map, st_len]; omega)⟩
    rw [prs_snoc _ hs, List.count_append, prs_all hd hq i (by omega)]
    obtain rfl := st_all s (List.mem_of_getElem? hs)
    rw [if_pos (List.contains_iff_mem.2 (mem_all hd))]
    by_cases e : q = d
    · subst e
      rw [if_pos rfl, if_pos rfl, Nat.zero_add, List.count_eq_zero]
      intro h
      have := (List.mem_filter.1 h).2
      simp at this
    · rw [if_neg e, if_neg e, List.count_filter (by simp; omega), count_ci List.nodup_range, if_pos (List.mem_range.2 hq)]
theorem peers_all {n k d q : Nat} (hd : d < n) (hq : q < n) : (cts n (prs (d : Int) ((st n n k).map ci)))[q]? = some (if q = d then 0 else k) := by
  have h := prs_all (k := k) hd hq k (Nat.le_refl _)
  rw [List.take_of_length_le (by rw [List.length_map, st_len]; exact Nat.le_refl _)] at h
  rw [cts_get _ hq, h]
end Pl
end Go.Proofs.YtkkfpdjhnffpbaaDoor
