/- Place: the stripes on the disks that have least, plain. -/
import Derived.Test.YtkkfpdjhnffpbaaDoorBase
namespace Go.Proofs.YtkkfpdjhnffpbaaDoor
set_option linter.unusedVariables false
namespace Pl
/-- disk a has less than b, or as much and a lesser number -/
def bef (L : List Nat) (a b : Nat) : Bool := decide (L.getD a 0 < L.getD b 0 ∨ L.getD a 0 = L.getD b 0 ∧ a < b)
theorem bef_iff {L : List Nat} {a b : Nat} : bef L a b = true ↔ L.getD a 0 < L.getD b 0 ∨ L.getD a 0 = L.getD b 0 ∧ a < b := by unfold bef; exact decide_eq_true_iff
theorem bef_irr (L : List Nat) (a : Nat) : bef L a a = false := by rw [← Bool.not_eq_true, bef_iff]; omega
theorem bef_trans {L : List Nat} {a b c : Nat} (h1 : bef L a b = true) (h2 : bef L b c = true) : bef L a c = true := by rw [bef_iff] at *; omega
theorem bef_asym {L : List Nat} {a b : Nat} (h1 : bef L a b = true) : bef L b a = false := by rw [← Bool.not_eq_true, bef_iff]; rw [bef_iff] at h1; omega
theorem bef_tot (L : List Nat) {a b : Nat} (h : a ≠ b) : bef L a b = true ∨ bef L b a = true := by rw [bef_iff, bef_iff]; omega
def rank (L : List Nat) (d : Nat) : Nat := (List.range L.length).countP (fun e => bef L e d)
def sel (L : List Nat) (w : Nat) : List Nat := (List.range L.length).filter (fun d => decide (rank L d < w))
def add (L : List Nat) (w : Nat) : List Nat := (List.range L.length).map (fun d => L.getD d 0 + if rank L d < w then 1 else 0)
def go (n w : Nat) : Nat → List Nat × List (List Nat)
  | 0 => (List.replicate n 0, [])
  | k + 1 => (add (go n w k).1 w, (go n w k).2 ++ [sel (go n w k).1 w])
def ld (n w k : Nat) : List Nat := (go n w k).1
def st (n w k : Nat) : List (List Nat) := (go n w k).2
theorem ld_0 (n w : Nat) : ld n w 0 = List.replicate n 0 := rfl
theorem st_0 (n w : Nat) : st n w 0 = [] := rfl
theorem ld_succ (n w k : Nat) : ld n w (k + 1) = add (ld n w k) w := rfl
theorem st_succ (n w k : Nat) : st n w (k + 1) = st n w k ++ [sel (ld n w k) w] := rfl
theorem add_len (L : List Nat) (w : Nat) : (add L w).length = L.length := by unfold add; simp
theorem ld_len (n w : Nat) : ∀ k, (ld n w k).length = n
  | 0 => by rw [ld_0]; simp
  | k + 1 => by rw [ld_succ, add_len, ld_len n w k]
theorem st_len (n w : Nat) : ∀ k, (st n w k).length = k
  | 0 => rfl
  | k + 1 => by rw [st_succ, List.length_append, st_len n w k]; rfl
theorem add_get (L : List Nat) (w : Nat) {d : Nat} (h : d < L.length) : (add L w).getD d 0 = L.getD d 0 + if rank L d < w then 1 else 0 := by
  unfold add; rw [List.getD_eq_getElem?_getD, List.getElem?_map, List.getElem?_range h]; rfl
theorem mem_sel {L : List Nat} {w d : Nat} : d ∈ sel L w ↔ d < L.length ∧ rank L d < w := by
  unfold sel; rw [List.mem_filter, List.mem_range, decide_eq_true_iff]
theorem sel_sorted (L : List Nat) (w : Nat) : (sel L w).Pairwise (· < ·) := List.Pairwise.filter _ List.pairwise_lt_range
theorem countP_none {α : Type} {l : List α} {p : α → Bool} (h : ∀ x ∈ l, p x = false) : l.countP p = 0 := List.countP_eq_zero.2 (fun x hx => by rw [h x hx]; simp)
theorem countP_all {α : Type} {l : List α} {p : α → Bool} (h : ∀ x ∈ l, p x = true) : l.countP p = l.length := List.countP_eq_length.2 h
/-- in order: the k-th has k ahead -/
theorem ranks {L ys : List Nat} (hp : ys.Perm (List.range L.length)) (hs : ys.Pairwise (fun a b => bef L a b = true)) {k : Nat} (hk : k < ys.length) : rank L ys[k] = k := by
  unfold rank
  rw [← hp.countP_eq]
  rw [List.pairwise_iff_getElem] at hs
  have e : ys = ys.take k ++ ys[k] :: ys.drop (k + 1) := by rw [List.getElem_cons_drop, List.take_append_drop]
  have h1 : (ys.take k).countP (fun e => bef L e ys[k]) = k := by
    rw [countP_all, List.length_take, Nat.min_eq_left (by omega)]
    intro x hx
    obtain ⟨j, hj, rfl⟩ := List.mem_iff_getElem.1 hx
    rw [List.length_take] at hj
    rw [List.getElem_take]
    exact hs j k (by omega) hk (by omega)
  have h2 : (ys.drop (k + 1)).countP (fun e => bef L e ys[k]) = 0 := by
    refine countP_none (fun x hx => ?_)
    obtain ⟨j, hj, rfl⟩ := List.mem_iff_getElem.1 hx
    rw [List.length_drop] at hj
    rw [List.getElem_drop]
    exact bef_asym (hs k (k + 1 + j) hk (by omega) (by omega))
  have h3 : ys.countP (fun e => bef L e ys[k]) = (ys.take k ++ ys[k] :: ys.drop (k + 1)).countP (fun e => bef L e ys[k]) := by rw [← e]
  rw [h3, List.countP_append, List.countP_cons, h1, h2, bef_irr]
  rfl
theorem filter_take {L ys : List Nat} (hp : ys.Perm (List.range L.length)) (hs : ys.Pairwise (fun a b => bef L a b = true)) (w : Nat) : ys.filter (fun d => decide (rank L d < w)) = ys.take w := by
  have e : ys = ys.take w ++ ys.drop w := (List.take_append_drop _ _).symm
  have h1 : (ys.take w).filter (fun d => decide (rank L d < w)) = ys.take w := by
    rw [List.filter_eq_self]
    intro x hx
    obtain ⟨j, hj, rfl⟩ := List.mem_iff_getElem.1 hx
    rw [List.length_take] at hj
    rw [List.getElem_take, ranks hp hs, decide_eq_true_iff]
    omega
  have h2 : (ys.drop w).filter (fun d => decide (rank L d < w)) = [] := by
    rw [List.filter_eq_nil_iff]
    intro x hx
    obtain ⟨j, hj, rfl⟩ := List.mem_iff_getElem.1 hx
    rw [List.length_drop] at hj
    rw [List.getElem_drop, ranks hp hs, decide_eq_true_iff]
    omega
  have h3 : ys.filter (fun d => decide (rank L d < w)) = (ys.take w ++ ys.drop w).filter (fun d => decide (rank L d < w)) := by rw [← e]
  rw [h3, List.filter_append, h1, h2, List.append_nil]
/-- the first w of them, in order of their numbers -/
theorem take_sel {L ys zs : List Nat} (hp : ys.Perm (List.range L.length)) (hs : ys.Pairwise (fun a b => bef L a b = true)) {w : Nat} (hz : zs.Perm (ys.take w)) (hzs : zs.Pairwise (· ≤ ·)) : zs = sel L w := by
  refine List.Perm.eq_of_pairwise (le := (· ≤ ·)) (fun a b _ _ h1 h2 => by omega) hzs ((sel_sorted L w).imp (fun h => Nat.le_of_lt h)) (hz.trans ?_)
  rw [← filter_take hp hs]
  exact hp.filter _
/-- the disks in order: there is such a list -/
def ord (L : List Nat) : List Nat := (List.range L.length).mergeSort (fun a b => bef L a b || a == b)
theorem ord_perm (L : List Nat) : (ord L).Perm (List.range L.length) := List.mergeSort_perm _ _
theorem ord_sorted (L : List Nat) : (ord L).Pairwise (fun a b => bef L a b = true) := by
  have h := List.pairwise_mergeSort (le := fun a b => bef L a b || a == b) (fun a b c h1 h2 => by
    simp only [Bool.or_eq_true, beq_iff_eq] at *
    rcases h1 with h1 | rfl
    · rcases h2 with h2 | rfl
      · exact .inl (bef_trans h1 h2)
      · exact .inl h1
    · exact h2) (fun a b => by
    simp only [Bool.or_eq_true, beq_iff_eq]
    by_cases e : a = b
    · exact .inl (.inr e)
    · rcases bef_tot L e with h | h
      · exact .inl (.inl h)
      · exact .inr (.inl h)) (List.range L.length)
  have hn : (ord L).Nodup := (ord_perm L).nodup_iff.2 List.nodup_range
  refine (List.Pairwise.and h hn).imp ?_
  rintro a b ⟨h1, h2⟩
  simp only [Bool.or_eq_true, beq_iff_eq] at h1
  exact h1.resolve_right h2
theorem sel_len (L : List Nat) {w : Nat} (hw : w ≤ L.length) : (sel L w).length = w := by
  have h := ((ord_perm L).filter (fun d => decide (rank L d < w))).length_eq
  rw [filter_take (ord_perm L) (ord_sorted L), List.length_take, (ord_perm L).length_eq, List.length_range] at h
  unfold sel; omega
theorem rank_lt (L : List Nat) {d : Nat} (hd : d < L.length) : rank L d < L.length := by
  have hm : d ∈ ord L := (ord_perm L).mem_iff.2 (List.mem_range.2 hd)
  obtain ⟨j, hj, rfl⟩ := List.mem_iff_getElem.1 hm
  rw [ranks (ord_perm L) (ord_sorted L) hj]
  have := (ord_perm L).length_eq
  rw [List.length_range] at this; omega
theorem rank_mono {L : List Nat} {a b : Nat} (ha : a < L.length) (h : bef L a b = true) : rank L a < rank L b := by
  unfold rank
  rw [List.countP_eq_length_filter, List.countP_eq_length_filter]
  have h1 : ((List.range L.length).filter (fun e => bef L e a)).length + 1 ≤ ((List.range L.length).filter (fun e => bef L e b)).length := by
    rw [← List.countP_eq_length_filter, ← List.countP_eq_length_filter]
    have hsplit : List.range L.length = List.range a ++ a :: (List.range L.length).drop (a + 1) := by
      have e := (List.take_append_drop a (List.range L.length)).symm
      rw [List.take_range, Nat.min_eq_left (by omega)] at e
      have e2 : (List.range L.length).drop a = a :: (List.range L.length).drop (a + 1) := by rw [List.drop_eq_getElem_cons (by rw [List.length_range]; exact ha), List.getElem_range]
      rw [e2] at e
      exact e
    rw [hsplit, List.countP_append, List.countP_append, List.countP_cons, List.countP_cons, bef_irr, h]
    have m1 : (List.range a).countP (fun e => bef L e a) ≤ (List.range a).countP (fun e => bef L e b) := List.countP_mono_left (fun x _ hx => bef_trans hx h)
    have m2 : ((List.range L.length).drop (a + 1)).countP (fun e => bef L e a) ≤ ((List.range L.length).drop (a + 1)).countP (fun e => bef L e b) := List.countP_mono_left (fun x _ hx => bef_trans hx h)
    simp only [Bool.false_eq_true, if_false, if_true]
    omega
  omega
/-- what sorting stands at: of the row the first i are in order; x stands at j -/
def pos (pre : List Nat) (i n : Nat) : List Nat := (List.range n).map (fun k => if k < i then pre.getD k 0 else k)
def mid (pre : List Nat) (j i n : Nat) : List Nat := (List.range n).map (fun k => if k < j then pre.getD k 0 else if k = j then i else if k ≤ i then pre.getD (k - 1) 0 else k)
def ins (pre : List Nat) (j i : Nat) : List Nat := pre.take j ++ i :: pre.drop j
theorem pos_len (pre : List Nat) (i n : Nat) : (pos pre i n).length = n := by unfold pos; simp
theorem mid_len (pre : List Nat) (j i n : Nat) : (mid pre j i n).length = n := by unfold mid; simp
theorem pos_mid (pre : List Nat) (i n : Nat) : pos pre i n = mid pre i i n := by
  unfold pos mid
  refine List.map_congr_left (fun k _ => ?_)
  by_cases h : k < i
  · rw [if_pos h, if_pos h]
  · rw [if_neg h, if_neg h]
    by_cases e : k = i
    · rw [if_pos e]; omega
    · rw [if_neg e, if_neg (by omega)]
theorem ins_get {pre : List Nat} {j i : Nat} (hl : pre.length = i) (hj : j ≤ i) (k : Nat) (hk : k ≤ i) : (ins pre j i).getD k 0 = if k < j then pre.getD k 0 else if k = j then i else pre.getD (k - 1) 0 := by
  unfold ins
  rw [List.getD_eq_getElem?_getD, List.getElem?_append, List.length_take, hl, Nat.min_eq_left hj]
  by_cases h : k < j
  · rw [if_pos h, if_pos h, List.getElem?_take, if_pos h, List.getD_eq_getElem?_getD]
  · rw [if_neg h, if_neg h]
    by_cases e : k = j
    · subst e; rw [if_pos rfl, Nat.sub_self]; rfl
    · rw [if_neg e, show k - j = (k - j - 1) + 1 by omega, List.getElem?_cons_succ, List.getElem?_drop, show j + (k - j - 1) = k - 1 by omega, List.getD_eq_getElem?_getD]
theorem mid_pos {pre : List Nat} {j i n : Nat} (hl : pre.length = i) (hj : j ≤ i) : mid pre j i n = pos (ins pre j i) (i + 1) n := by
  unfold pos mid
  refine List.map_congr_left (fun k _ => ?_)
  by_cases h : k < i + 1
  · rw [if_pos h, ins_get hl hj k (by omega)]
    by_cases h1 : k < j
    · rw [if_pos h1, if_pos h1]
    · rw [if_neg h1, if_neg h1]
      by_cases e : k = j
      · rw [if_pos e, if_pos e]
      · rw [if_neg e, if_neg e, if_pos (by omega)]
  · rw [if_neg h, if_neg (by omega), if_neg (by omega), if_neg (by omega)]
theorem mid_get {pre : List Nat} {j i n k : Nat} (h : k < n) : (mid pre j i n)[k]? = some (if k < j then pre.getD k 0 else if k = j then i else if k ≤ i then pre.getD (k - 1) 0 else k) := by
  unfold mid; rw [List.getElem?_map, List.getElem?_range h]; rfl
theorem mid_step {pre : List Nat} {j i n : Nat} (hj : j + 1 ≤ i) (hi : i < n) : ((mid pre (j + 1) i n).set (j + 1) (pre.getD j 0)).set j i = mid pre j i n := by
  refine List.ext_getElem? (fun k => ?_)
  by_cases hk : k < n
  · rw [mid_get hk, List.getElem?_set, List.length_set, mid_len, List.getElem?_set, mid_len]
    by_cases e : j = k
    · subst e; rw [if_pos rfl, if_pos (by omega), if_neg (by omega), if_pos rfl]
    · rw [if_neg e]
      by_cases e1 : j + 1 = k
      · subst e1; rw [if_pos rfl, if_pos (by omega), if_neg (by omega), if_neg (by omega), if_pos hj, Nat.add_sub_cancel]
      · rw [if_neg e1, mid_get hk]
        by_cases h : k < j
        · rw [if_pos (by omega), if_pos h]
        · rw [if_neg (show ¬ k < j + 1 by omega), if_neg h, if_neg (show ¬ k = j + 1 by omega), if_neg (show ¬ k = j by omega)]
  · rw [List.getElem?_eq_none (by rw [List.length_set, List.length_set, mid_len]; omega), List.getElem?_eq_none (by rw [mid_len]; omega)]
theorem ins_perm {pre : List Nat} {j i : Nat} (hp : pre.Perm (List.range i)) : (ins pre j i).Perm (List.range (i + 1)) := by
  unfold ins
  refine List.perm_middle.trans ?_
  rw [List.take_append_drop, List.range_succ]
  refine (List.Perm.cons i hp).trans ?_
  exact (List.perm_append_comm (l₁ := List.range i) (l₂ := [i])).symm
theorem ins_sorted {L pre : List Nat} {j i : Nat} (hp : pre.Perm (List.range i)) (hs : pre.Pairwise (fun a b => bef L a b = true)) (hj : j ≤ pre.length)
    (h1 : ∀ e ∈ pre.drop j, L.getD i 0 < L.getD e 0) (h2 : 0 < j → L.getD (pre.getD (j - 1) 0) 0 ≤ L.getD i 0) : (ins pre j i).Pairwise (fun a b => bef L a b = true) := by
  unfold ins
  rw [List.pairwise_append]
  have hlt : ∀ e ∈ pre, e < i := fun e he => List.mem_range.1 (hp.mem_iff.1 he)
  have ha : ∀ e ∈ pre.take j, bef L e i = true := by
    intro e he
    obtain ⟨k, hk, rfl⟩ := List.mem_iff_getElem.1 he
    rw [List.length_take] at hk
    rw [List.getElem_take]
    have h3 := h2 (by omega)
    have hlast : bef L (pre[j - 1]'(by omega)) i = true := by
      have hg : pre.getD (j - 1) 0 = pre[j - 1]'(by omega) := by rw [List.getD_eq_getElem?_getD, List.getElem?_eq_getElem (by omega)]; rfl
      rw [hg] at h3
      have := hlt _ (List.getElem_mem (l := pre) (n := j - 1) (by omega))
      rw [bef_iff]
      have h4 : L.getD (pre[j - 1]'(by omega)) 0 ≤ L.getD i 0 := h3
      omega
    by_cases e : k = j - 1
    · subst e; exact hlast
    · exact bef_trans (List.pairwise_iff_getElem.1 hs k (j - 1) (by omega) (by omega) (by omega)) hlast
  have hb : ∀ e ∈ pre.drop j, bef L i e = true := fun e he => by rw [bef_iff]; exact .inl (h1 e he)
  refine ⟨hs.take, List.pairwise_cons.2 ⟨hb, hs.drop⟩, fun a h3 b h4 => ?_⟩
  rcases List.mem_cons.1 h4 with rfl | h4
  · exact ha a h3
  · exact bef_trans (ha a h3) (hb b h4)
/-- behind the last: the row in order -/
theorem pos_full {pre : List Nat} {n : Nat} (h : pre.length = n) : pos pre n n = pre := by
  refine List.ext_getElem? (fun k => ?_)
  unfold pos
  by_cases hk : k < n
  · rw [List.getElem?_map, List.getElem?_range hk, Option.map_some, if_pos hk, List.getD_eq_getElem?_getD, List.getElem?_eq_getElem (by omega)]; rfl
  · rw [List.getElem?_eq_none (by simp; omega), List.getElem?_eq_none (by omega)]
theorem pos_one (n : Nat) : pos [0] 1 n = List.range n := by
  unfold pos
  refine (List.map_congr_left (g := id) (fun k _ => ?_)).trans (List.map_id _)
  by_cases h : k < 1
  · rw [if_pos h, show k = 0 by omega]; rfl
  · rw [if_neg h]; rfl
end Pl
end Go.Proofs.YtkkfpdjhnffpbaaDoor
