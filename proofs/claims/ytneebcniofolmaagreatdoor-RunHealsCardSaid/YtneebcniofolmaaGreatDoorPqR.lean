/- Parts of which two at most are lost: all come back. Plain. -/
import Derived.Test.YtneebcniofolmaaGreatDoorPqP
namespace Go.Proofs.YtneebcniofolmaaGreatDoor
set_option linter.unusedVariables false
namespace Gv
def lo (ls : List Bool) (i : Nat) : Bool := ls.getD i false
/-- how long the last of the first i is that is not lost -/
def lastSz (ps : List ByteArray) (ls : List Bool) : Nat → Nat
  | 0 => 0
  | i + 1 => if lo ls i then lastSz ps ls i else (ps.getD i ⟨#[]⟩).size
/-- with noughts for the first m that are lost -/
def outs (ps : List ByteArray) (ls : List Bool) (sz m : Nat) : List ByteArray := (List.range ps.length).map (fun i => if i < m ∧ lo ls i = true then zer sz else ps.getD i ⟨#[]⟩)
def goneL (ls : List Bool) (k : Nat) : List Nat := (List.range k).filter (fun j => lo ls j)
def heal (ps : List ByteArray) (ls : List Bool) : List ByteArray :=
  let k := ps.length - 2
  let o := outs ps ls (lastSz ps ls ps.length) ps.length
  let d := healed (o.take k) (goneL ls k) (o.getD k ⟨#[]⟩) (o.getD (k + 1) ⟨#[]⟩) (lo ls k) (lo ls (k + 1))
  d ++ [P d, Q d]
theorem outs_len (ps : List ByteArray) (ls : List Bool) (sz m : Nat) : (outs ps ls sz m).length = ps.length := by unfold outs; simp
theorem outs_at (ps : List ByteArray) (ls : List Bool) (sz m : Nat) {i : Nat} (h : i < ps.length) : (outs ps ls sz m).getD i ⟨#[]⟩ = if i < m ∧ lo ls i = true then zer sz else ps.getD i ⟨#[]⟩ := by
  unfold outs
  rw [List.getD_eq_getElem?_getD, List.getElem?_map, List.getElem?_range h]; rfl
theorem outs_zero (ps : List ByteArray) (ls : List Bool) (sz : Nat) : outs ps ls sz 0 = ps :=
  list_ext (outs_len _ _ _ _) (fun i hi => by rw [outs_len] at hi; rw [outs_at _ _ _ _ hi, if_neg (by omega)])
theorem outs_no (ps : List ByteArray) (ls : List Bool) (sz m : Nat) (h : lo ls m = false) : outs ps ls sz (m + 1) = outs ps ls sz m :=
  list_ext (by rw [outs_len, outs_len]) (fun i hi => by
    rw [outs_len] at hi
    rw [outs_at _ _ _ _ hi, outs_at _ _ _ _ hi]
    by_cases e : i = m
    · subst e; rw [if_neg (by rw [h]; simp), if_neg (by rw [h]; simp)]
    · by_cases c : i < m ∧ lo ls i = true
      · rw [if_pos ⟨by omega, c.2⟩, if_pos c]
      · rw [if_neg (fun hc => c ⟨by omega, hc.2⟩), if_neg c])
theorem outs_yes (ps : List ByteArray) (ls : List Bool) (sz m : Nat) (hm : m < ps.length) (h : lo ls m = true) : outs ps ls sz (m + 1) = (outs ps ls sz m).set m (zer sz) :=
  list_ext (by rw [outs_len, List.length_set, outs_len]) (fun i hi => by
    rw [outs_len] at hi
    rw [outs_at _ _ _ _ hi, set_getD (by rw [outs_len]; exact hm), outs_at _ _ _ _ hi]
    by_cases e : i = m
    · subst e; rw [if_pos ⟨by omega, h⟩, if_pos rfl]
    · rw [if_neg e]
      by_cases c : i < m ∧ lo ls i = true
      · rw [if_pos ⟨by omega, c.2⟩, if_pos c]
      · rw [if_neg (fun hc => c ⟨by omega, hc.2⟩), if_neg c])
theorem gone_succ (ls : List Bool) (k : Nat) : goneL ls (k + 1) = if lo ls k then goneL ls k ++ [k] else goneL ls k := by
  unfold goneL
  rw [List.range_succ, List.filter_append]
  by_cases h : lo ls k = true
  · rw [if_pos h]; simp [h]
  · rw [if_neg h]; simp [h]
theorem gone_mem {ls : List Bool} {k j : Nat} : j ∈ goneL ls k ↔ j < k ∧ lo ls j = true := by
  unfold goneL; rw [List.mem_filter, List.mem_range]
theorem gone_nodup (ls : List Bool) (k : Nat) : (goneL ls k).Nodup := List.Pairwise.filter _ List.nodup_range
theorem lastSz_eq {ps : List ByteArray} {ls : List Bool} {n : Nat} : ∀ m, (∀ i, i < m → lo ls i = false → (ps.getD i ⟨#[]⟩).size = n) → (∃ i, i < m ∧ lo ls i = false) → lastSz ps ls m = n
  | 0, _, ⟨i, hi, _⟩ => by omega
  | m + 1, h, ⟨i, hi, h0⟩ => by
    unfold lastSz
    by_cases c : lo ls m = true
    · rw [if_pos c]
      refine lastSz_eq m (fun q hq => h q (by omega)) ⟨i, ?_, h0⟩
      have : i ≠ m := fun e => by rw [e, c] at h0; cases h0
      omega
    · rw [if_neg c]
      exact h m (by omega) (by simpa using c)
theorem all_len3 {k : Nat} {ds : List ByteArray} (h : ds.length = k) : (ds ++ [P ds, Q ds]).length = k + 2 := by rw [List.length_append, h]; rfl
theorem all_at {ds : List ByteArray} {i : Nat} (h : i < ds.length) : (ds ++ [P ds, Q ds]).getD i ⟨#[]⟩ = ds.getD i ⟨#[]⟩ := by
  rw [List.getD_eq_getElem?_getD, List.getElem?_append_left h, List.getD_eq_getElem?_getD]
theorem all_p (ds : List ByteArray) : (ds ++ [P ds, Q ds]).getD ds.length ⟨#[]⟩ = P ds := by
  rw [List.getD_eq_getElem?_getD, List.getElem?_append_right (Nat.le_refl _), Nat.sub_self]; rfl
theorem all_q (ds : List ByteArray) : (ds ++ [P ds, Q ds]).getD (ds.length + 1) ⟨#[]⟩ = Q ds := by
  rw [List.getD_eq_getElem?_getD, List.getElem?_append_right (by omega), show ds.length + 1 - ds.length = 1 by omega]; rfl
theorem heal_right {ds ps : List ByteArray} {ls : List Bool} {n x y : Nat} (hsz : ∀ s ∈ ds, s.size = n) (hpos : 0 < ds.length) (h255 : ds.length ≤ 255) (hlen : ps.length = ds.length + 2)
    (hps : ∀ i, i < ds.length + 2 → lo ls i = false → ps.getD i ⟨#[]⟩ = (ds ++ [P ds, Q ds]).getD i ⟨#[]⟩) (hxy : ∀ i, lo ls i = true → i = x ∨ i = y) : heal ps ls = ds ++ [P ds, Q ds] := by
  have hall : ∀ s ∈ ds ++ [P ds, Q ds], s.size = n := by
    intro s hs
    rcases List.mem_append.1 hs with h | h
    · exact hsz s h
    · simp at h
      rcases h with rfl | rfl
      · rw [P_size, size0_of hsz hpos]
      · rw [Q_size, size0_of hsz hpos]
  have hs : lastSz ps ls ps.length = n := by
    refine lastSz_eq _ (fun i hi h => ?_) ?_
    · rw [hps i (by omega) h]; exact hall _ (getD_mem (by rw [all_len3 rfl]; omega))
    · by_cases c0 : lo ls 0 = false
      · exact ⟨0, by omega, c0⟩
      · by_cases c1 : lo ls 1 = false
        · exact ⟨1, by omega, c1⟩
        · refine ⟨2, by omega, ?_⟩
          cases c2 : lo ls 2 with
          | false => rfl
          | true =>
            exfalso
            have h0 := hxy 0 (by simpa using c0)
            have h1 := hxy 1 (by simpa using c1)
            have h2 := hxy 2 c2
            omega
  have hk : ps.length - 2 = ds.length := by omega
  obtain ⟨o, ho⟩ : ∃ o, o = outs ps ls n ps.length := ⟨_, rfl⟩
  have hol : o.length = ds.length + 2 := by rw [ho, outs_len, hlen]
  have hoa : ∀ i, i < ds.length + 2 → o.getD i ⟨#[]⟩ = if lo ls i = true then zer n else (ds ++ [P ds, Q ds]).getD i ⟨#[]⟩ := by
    intro i hi
    rw [ho, outs_at _ _ _ _ (by omega)]
    by_cases c : lo ls i = true
    · rw [if_pos ⟨by omega, c⟩, if_pos c]
    · rw [if_neg (fun h => c h.2), if_neg c]; exact hps i hi (by simpa using c)
  have hless : Less ds (o.take ds.length) n (goneL ls ds.length) := by
    have hta : ∀ i, i < ds.length → (o.take ds.length).getD i ⟨#[]⟩ = o.getD i ⟨#[]⟩ := by
      intro i hi
      rw [List.getD_eq_getElem?_getD, List.getElem?_take, if_pos hi, List.getD_eq_getElem?_getD]
    refine ⟨by rw [List.length_take, hol]; omega, hpos, hsz, fun i hi hg => ?_, fun i hi hg => ?_, fun i hi => (gone_mem.1 hi).1⟩
    · rw [hta i hi, hoa i (by omega), if_neg (fun h => hg (gone_mem.2 ⟨hi, h⟩)), all_at hi]
    · rw [hta i hi, hoa i (by omega), if_pos (gone_mem.1 hg).2]
  have hp : lo ls ds.length = false → o.getD ds.length ⟨#[]⟩ = P ds := fun h => by rw [hoa _ (by omega), if_neg (by rw [h]; decide), all_p]
  have hq : lo ls (ds.length + 1) = false → o.getD (ds.length + 1) ⟨#[]⟩ = Q ds := fun h => by rw [hoa _ (by omega), if_neg (by rw [h]; decide), all_q]
  have hd : healed (o.take ds.length) (goneL ls ds.length) (o.getD ds.length ⟨#[]⟩) (o.getD (ds.length + 1) ⟨#[]⟩) (lo ls ds.length) (lo ls (ds.length + 1)) = ds := by
    have hnd := gone_nodup ls ds.length
    have hmm : ∀ j ∈ goneL ls ds.length, j < ds.length ∧ lo ls j = true := fun j hj => gone_mem.1 hj
    generalize goneL ls ds.length = g at *
    match g, hnd, hmm, hless with
    | [], _, _, hless => exact healed_none hless _ _ _ _
    | [a], _, hmm, hless =>
      have ha := hmm a (by simp)
      cases cp : lo ls ds.length with
      | false => rw [hp cp]; exact healed_p hless _ _
      | true =>
        have cq : lo ls (ds.length + 1) = false := by
          cases cq : lo ls (ds.length + 1) with
          | false => rfl
          | true =>
            exfalso
            have h1 := hxy _ ha.2; have h2 := hxy _ cp; have h3 := hxy _ cq
            omega
        rw [cq, hq cq]; exact healed_q hless _
    | [a, b], hnd, hmm, hless =>
      have ha := hmm a (by simp)
      have hb := hmm b (by simp)
      have hab : a ≠ b := by simp at hnd; exact hnd
      have cp : lo ls ds.length = false := by
        cases cp : lo ls ds.length with
        | false => rfl
        | true => exfalso; have h1 := hxy _ ha.2; have h2 := hxy _ hb.2; have h3 := hxy _ cp; omega
      have cq : lo ls (ds.length + 1) = false := by
        cases cq : lo ls (ds.length + 1) with
        | false => rfl
        | true => exfalso; have h1 := hxy _ ha.2; have h2 := hxy _ hb.2; have h3 := hxy _ cq; omega
      rw [hp cp, hq cq]
      exact healed_two hless hab h255 _ _
    | a :: b :: c :: t, hnd, hmm, _ =>
      exfalso
      have ha := hxy _ (hmm a (by simp)).2
      have hb := hxy _ (hmm b (by simp)).2
      have hc := hxy _ (hmm c (by simp)).2
      simp at hnd
      omega
  unfold heal
  simp only [hk, hs]
  rw [← ho, hd]
end Gv
end Go.Proofs.YtneebcniofolmaaGreatDoor
