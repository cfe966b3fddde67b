/- What the reference's Place computes, in plain: the least one by one. -/
import Derived.Test.YtkkfpdjhnffpbaaDoorPlaP
namespace Go.Proofs.YtkkfpdjhnffpbaaDoor
set_option linter.unusedVariables false
namespace Pl
theorem rank_ex {L : List Nat} {k : Nat} (hk : k < L.length) : ∃ e, e < L.length ∧ rank L e = k := by
  have hl : (ord L).length = L.length := by have := (ord_perm L).length_eq; rw [List.length_range] at this; exact this
  refine ⟨(ord L)[k]'(by omega), ?_, ranks (ord_perm L) (ord_sorted L) (by omega)⟩
  have := (ord_perm L).mem_iff.1 (List.getElem_mem (l := ord L) (n := k) (by omega))
  exact List.mem_range.1 this
theorem rank_inj {L : List Nat} {a b : Nat} (ha : a < L.length) (hb : b < L.length) (h : rank L a = rank L b) : a = b := by
  apply Classical.byContradiction
  intro hab
  rcases bef_tot L hab with h1 | h1
  · have := rank_mono ha h1; omega
  · have := rank_mono hb h1; omega
/-- which are taken when k are -/
def isB (L : List Nat) (k : Nat) : List Value := (List.range L.length).map (fun d => Value.bool (decide (rank L d < k)))
theorem isB_len (L : List Nat) (k : Nat) : (isB L k).length = L.length := by unfold isB; simp
theorem isB_at {L : List Nat} {d : Nat} (k : Nat) (h : d < L.length) : (isB L k)[d]? = some (.bool (decide (rank L d < k))) := by unfold isB; rw [List.getElem?_map, List.getElem?_range h]; rfl
theorem isB_set {L : List Nat} {b k : Nat} (hb : b < L.length) (h : rank L b = k) : (isB L k).set b (.bool true) = isB L (k + 1) := by
  refine List.ext_getElem? (fun d => ?_)
  by_cases hd : d < L.length
  · rw [isB_at (k + 1) hd, List.getElem?_set, isB_len]
    by_cases e : b = d
    · subst e; rw [if_pos rfl, if_pos hd, decide_eq_true (by omega)]
    · rw [if_neg e, isB_at k hd]
      have : rank L d ≠ k := fun h2 => e (rank_inj hb hd (h.trans h2.symm))
      by_cases h3 : rank L d < k
      · rw [decide_eq_true h3, decide_eq_true (by omega)]
      · rw [decide_eq_false h3, decide_eq_false (by omega)]
  · rw [List.getElem?_eq_none (by rw [List.length_set, isB_len]; omega), List.getElem?_eq_none (by rw [isB_len]; omega)]
/-- the best of the first d that are not taken -/
def Best (L : List Nat) (k d : Nat) (v : Int) : Prop :=
  (v = -1 ∧ ∀ e, e < d → rank L e < k) ∨ ∃ b : Nat, v = b ∧ b < d ∧ k ≤ rank L b ∧ ∀ e, e < d → k ≤ rank L e → e = b ∨ bef L b e = true
theorem best_0 (L : List Nat) (k : Nat) : Best L k 0 (-1) := .inl ⟨rfl, fun e h => by omega⟩
theorem best_skip {L : List Nat} {k d : Nat} {v : Int} (h : Best L k d v) (hr : rank L d < k) : Best L k (d + 1) v := by
  rcases h with ⟨rfl, h⟩ | ⟨b, rfl, h1, h2, h3⟩
  · refine .inl ⟨rfl, fun e he => ?_⟩
    by_cases c : e = d
    · rw [c]; exact hr
    · exact h e (by omega)
  · refine .inr ⟨b, rfl, by omega, h2, fun e he hk => ?_⟩
    by_cases c : e = d
    · rw [c] at hk; omega
    · exact h3 e (by omega) hk
theorem best_first {L : List Nat} {k d : Nat} (h : ∀ e, e < d → rank L e < k) (hr : ¬ rank L d < k) : Best L k (d + 1) d :=
  .inr ⟨d, rfl, by omega, by omega, fun e he hk => by
    by_cases c : e = d
    · exact .inl c
    · have := h e (by omega); omega⟩
theorem best_less {L : List Nat} {k d b : Nat} (h1 : b < d) (h3 : ∀ e, e < d → k ≤ rank L e → e = b ∨ bef L b e = true) (hr : ¬ rank L d < k) (hl : L.getD d 0 < L.getD b 0) : Best L k (d + 1) d :=
  .inr ⟨d, rfl, by omega, by omega, fun e he hk => by
    by_cases c : e = d
    · exact .inl c
    · right
      have hdb : bef L d b = true := bef_iff.2 (.inl hl)
      rcases h3 e (by omega) hk with rfl | h
      · exact hdb
      · exact bef_trans hdb h⟩
theorem best_keep {L : List Nat} {k d b : Nat} (h1 : b < d) (h2 : k ≤ rank L b) (h3 : ∀ e, e < d → k ≤ rank L e → e = b ∨ bef L b e = true) (hl : ¬ L.getD d 0 < L.getD b 0) : Best L k (d + 1) b :=
  .inr ⟨b, rfl, by omega, h2, fun e he hk => by
    by_cases c : e = d
    · right; rw [c]; exact bef_iff.2 (by omega)
    · exact h3 e (by omega) hk⟩
theorem best_full {L : List Nat} {k : Nat} {v : Int} (hk : k < L.length) (h : Best L k L.length v) : ∃ b : Nat, v = b ∧ b < L.length ∧ rank L b = k := by
  obtain ⟨e, he, hr⟩ := rank_ex hk
  rcases h with ⟨_, h⟩ | ⟨b, rfl, h1, h2, h3⟩
  · have := h e he; omega
  · refine ⟨b, rfl, h1, ?_⟩
    rcases h3 e he (by omega) with rfl | h4
    · exact hr
    · have := rank_mono h1 h4; omega
/-- the row while it is written -/
def selT (L : List Nat) (w j : Nat) : List Nat := (List.range j).filter (fun d => decide (rank L d < w))
theorem selT_full (L : List Nat) (w : Nat) : selT L w L.length = sel L w := rfl
theorem selT_yes {L : List Nat} {w j : Nat} (h : rank L j < w) : selT L w (j + 1) = selT L w j ++ [j] := by
  unfold selT; rw [List.range_succ, List.filter_append, List.filter_cons, if_pos (decide_eq_true h)]; rfl
theorem selT_no {L : List Nat} {w j : Nat} (h : ¬ rank L j < w) : selT L w (j + 1) = selT L w j := by
  unfold selT; rw [List.range_succ, List.filter_append, List.filter_cons, if_neg (by rw [decide_eq_false h]; simp)]; simp
theorem selT_le (L : List Nat) (w j : Nat) : (selT L w j).length ≤ j := by
  unfold selT; have := List.length_filter_le (fun d => decide (rank L d < w)) (List.range j); rw [List.length_range] at this; exact this
/-- the loads while the row is written -/
def addT (L : List Nat) (w j : Nat) : List Nat := (List.range L.length).map (fun d => L.getD d 0 + if d < j ∧ rank L d < w then 1 else 0)
theorem addT_len (L : List Nat) (w j : Nat) : (addT L w j).length = L.length := by unfold addT; simp
theorem addT_at {L : List Nat} (w j : Nat) {d : Nat} (h : d < L.length) : (addT L w j)[d]? = some (L.getD d 0 + if d < j ∧ rank L d < w then 1 else 0) := by unfold addT; rw [List.getElem?_map, List.getElem?_range h]; rfl
theorem addT_0 (L : List Nat) (w : Nat) : addT L w 0 = L := by
  refine List.ext_getElem? (fun d => ?_)
  by_cases hd : d < L.length
  · rw [addT_at _ _ hd, if_neg (by omega), Nat.add_zero, List.getD_eq_getElem?_getD, List.getElem?_eq_getElem hd]; rfl
  · rw [List.getElem?_eq_none (by rw [addT_len]; omega), List.getElem?_eq_none (by omega)]
theorem addT_no {L : List Nat} {w j : Nat} (h : ¬ rank L j < w) : addT L w (j + 1) = addT L w j := by
  unfold addT
  refine List.map_congr_left (fun d _ => ?_)
  by_cases c : d < j ∧ rank L d < w
  · rw [if_pos c, if_pos ⟨by omega, c.2⟩]
  · rw [if_neg c, if_neg]
    rintro ⟨h1, h2⟩
    by_cases e : d = j
    · rw [e] at h2; exact h h2
    · exact c ⟨by omega, h2⟩
theorem addT_yes {L : List Nat} {w j : Nat} (hj : j < L.length) (h : rank L j < w) : addT L w (j + 1) = (addT L w j).set j (L.getD j 0 + 1) := by
  refine List.ext_getElem? (fun d => ?_)
  by_cases hd : d < L.length
  · rw [addT_at _ _ hd, List.getElem?_set, addT_len]
    by_cases e : j = d
    · subst e; rw [if_pos rfl, if_pos hd, if_pos ⟨by omega, h⟩]
    · rw [if_neg e, addT_at _ _ hd]
      by_cases c : d < j ∧ rank L d < w
      · rw [if_pos c, if_pos ⟨by omega, c.2⟩]
      · rw [if_neg c, if_neg (fun h2 => c ⟨by omega, h2.2⟩)]
  · rw [List.getElem?_eq_none (by rw [addT_len]; omega), List.getElem?_eq_none (by rw [List.length_set, addT_len]; omega)]
theorem addT_full (L : List Nat) (w : Nat) : addT L w L.length = add L w := by
  unfold addT add
  refine List.map_congr_left (fun d hd => ?_)
  have := List.mem_range.1 hd
  by_cases c : rank L d < w
  · rw [if_pos c, if_pos ⟨this, c⟩]
  · rw [if_neg c, if_neg (fun h => c h.2)]
end Pl
end Go.Proofs.YtkkfpdjhnffpbaaDoor
