/- What is true of stripes that were placed. Plain. -/
import Derived.Test.YtkkfpdjhnffpbaaPlaY
namespace Go.Proofs.Ytkkfpdjhnffpbaa
set_option linter.unusedVariables false
namespace Od
theorem sF_ok {n : Int} : ∀ {l : List (List Int)}, (∀ s ∈ l, s.Nodup ∧ ∀ d ∈ s, 0 ≤ d ∧ d < n) → sF n l = 0
  | [], _ => rfl
  | s :: l, h => by
    have h1 := sF_ok (l := l) (fun t ht => h t (List.mem_cons_of_mem _ ht))
    obtain ⟨h2, h3⟩ := h s List.mem_cons_self
    have hb : badB n s = false := by
      unfold badB
      rw [List.any_eq_false]
      intro d hd
      have := h3 d hd
      rw [decide_eq_false (by omega), decide_eq_false (by omega)]; simp
    have h4 := sF_at (n := n) (l := s :: l) (i := 0) (s := s) rfl
    rw [List.drop_zero] at h4
    rw [h4, hb, if_pos h2]
    exact h1
theorem chk_ok {n : Int} {l : List (List Int)} (h1 : 1 ≤ n) (h10 : n ≤ 10) (hl : l.length ≤ 40) (h : ∀ s ∈ l, s.Nodup ∧ ∀ d ∈ s, 0 ≤ d ∧ d < n) : chk n l = 0 := by
  unfold chk; rw [if_neg (by omega), if_neg (by omega)]; exact sF_ok h
end Od
namespace Pl
theorem ci_nodup {xs : List Nat} (h : xs.Nodup) : (ci xs).Nodup := by
  unfold ci
  exact List.Pairwise.map _ (fun a b (hab : a ≠ b) => by omega) h
theorem st_rows {n w k : Nat} {r : List Nat} (h : r ∈ st n w k) : ∃ j, j < k ∧ r = sel (ld n w j) w := by
  induction k with
  | zero => cases h
  | succ k ih =>
    rw [st_succ, List.mem_append, List.mem_singleton] at h
    rcases h with h | rfl
    · obtain ⟨j, hj, e⟩ := ih h; exact ⟨j, by omega, e⟩
    · exact ⟨k, by omega, rfl⟩
theorem st_good {n w k : Nat} : ∀ s ∈ (st n w k).map ci, s.Nodup ∧ ∀ d ∈ s, 0 ≤ d ∧ d < (n : Int) := by
  intro s hs
  obtain ⟨r, hr, rfl⟩ := List.mem_map.1 hs
  obtain ⟨j, hj, e⟩ := st_rows hr
  refine ⟨ci_nodup (by rw [e]; exact sel_nodup _ _), fun d hd => ?_⟩
  obtain ⟨x, hx, rfl⟩ := List.mem_map.1 hd
  have := st_lt hr hx
  omega
theorem st_wide {n w k : Nat} (hw : w ≤ n) : ∀ s ∈ (st n w k).map ci, s.length = w := by
  intro s hs
  obtain ⟨r, hr, rfl⟩ := List.mem_map.1 hs
  obtain ⟨j, hj, e⟩ := st_rows hr
  rw [ci_len, e, sel_len _ (by rw [ld_len]; exact hw)]
theorem st_chk {n w k : Nat} (h1 : 1 ≤ n) (h10 : n ≤ 10) (hk : k ≤ 40) : Od.chk n ((st n w k).map ci) = 0 ∧ Od.chk 10 ((st n w k).map ci) = 0 :=
  ⟨Od.chk_ok (by omega) (by omega) (by rw [List.length_map, st_len]; exact hk) st_good, Od.chk_ok (by omega) (by omega) (by rw [List.length_map, st_len]; exact hk) (fun s hs => ⟨(st_good s hs).1, fun d hd => by have := (st_good s hs).2 d hd; omega⟩)⟩
theorem count_ci {s : List Nat} (hs : s.Nodup) (d : Nat) : (ci s).count (d : Int) = if d ∈ s then 1 else 0 := by
  have h1 := count_one (ci_nodup hs) (d : Int)
  by_cases h : d ∈ s
  · have : (d : Int) ∈ ci s := List.mem_map.2 ⟨d, h, rfl⟩
    have := List.count_pos_iff.2 this
    rw [if_pos h]; omega
  · rw [if_neg h, List.count_eq_zero]
    intro hm
    obtain ⟨x, hx, e⟩ := List.mem_map.1 hm
    have : x = d := by omega
    exact h (this ▸ hx)
theorem st_count (n w : Nat) {d : Nat} (hd : d < n) : ∀ k, (fl ((st n w k).map ci)).count (d : Int) = (ld n w k).getD d 0
  | 0 => by
    rw [st_0, ld_0, List.getD_eq_getElem?_getD, List.getElem?_replicate, if_pos hd]; rfl
  | k + 1 => by
    have hL : d < (ld n w k).length := by rw [ld_len]; exact hd
    rw [st_succ, ld_succ, add_get _ _ hL, ← st_count n w hd k, List.map_append]
    unfold fl
    rw [List.flatten_append, List.count_append]
    congr 1
    rw [show (List.map ci [sel (ld n w k) w]).flatten = ci (sel (ld n w k) w) by simp, count_ci (sel_nodup _ _)]
    by_cases h : rank (ld n w k) d < w
    · rw [if_pos h, if_pos (mem_sel.2 ⟨hL, h⟩)]
    · rw [if_neg h, if_neg (fun e => h (mem_sel.1 e).2)]
theorem st_loads (n w k : Nat) : cts n (fl ((st n w k).map ci)) = ld n w k := by
  refine List.ext_getElem? (fun d => ?_)
  by_cases hd : d < n
  · rw [cts_get _ hd, st_count n w hd, List.getD_eq_getElem?_getD, List.getElem?_eq_getElem (by rw [ld_len]; exact hd)]; rfl
  · rw [List.getElem?_eq_none (by rw [cts_len]; omega), List.getElem?_eq_none (by rw [ld_len]; omega)]
theorem even (n w : Nat) : ∀ (k a b : Nat), a < n → b < n → (ld n w k).getD a 0 ≤ (ld n w k).getD b 0 + 1
  | 0, a, b, ha, hb => by
    rw [ld_0, List.getD_eq_getElem?_getD, List.getD_eq_getElem?_getD, List.getElem?_replicate, List.getElem?_replicate, if_pos ha, if_pos hb]; exact Nat.zero_le _
  | k + 1, a, b, ha, hb => by
    have hL := ld_len n w k
    rw [ld_succ, add_get _ _ (by omega), add_get _ _ (by omega)]
    have h := even n w k a b ha hb
    by_cases h1 : rank (ld n w k) a < w
    · by_cases h2 : rank (ld n w k) b < w
      · rw [if_pos h1, if_pos h2]; omega
      · rw [if_pos h1, if_neg h2]
        have hne : a ≠ b := fun e => h2 (e ▸ h1)
        rcases bef_tot (ld n w k) hne with hb' | hb'
        · have := bef_iff.1 hb'; omega
        · have := rank_mono (L := ld n w k) (a := b) (b := a) (by omega) hb'; omega
    · rw [if_neg h1]; omega
theorem sum_add {α : Type} (f g : α → Nat) : ∀ l : List α, (l.map (fun d => f d + g d)).sum = (l.map f).sum + (l.map g).sum
  | [] => rfl
  | a :: l => by simp only [List.map_cons, List.sum_cons, sum_add f g l]; omega
theorem sum_one (x : Nat) : ∀ n, ((List.range n).map (fun d => if x = d then 1 else 0)).sum = if x < n then 1 else 0
  | 0 => rfl
  | n + 1 => by
    rw [List.range_succ, List.map_append, List.sum_append, sum_one x n]
    show _ + ((if x = n then 1 else 0) + 0) = _
    by_cases h : x = n
    · subst h; rw [if_neg (by omega), if_pos rfl, if_pos (by omega)]; rfl
    · by_cases h2 : x < n
      · rw [if_pos h2, if_neg h, if_pos (by omega)]; rfl
      · rw [if_neg h2, if_neg h, if_neg (by omega)]; rfl
theorem cts_sum {n : Nat} : ∀ {xs : List Int}, (∀ x ∈ xs, 0 ≤ x ∧ x < (n : Int)) → (cts n xs).sum = xs.length
  | [], _ => by
    have : ∀ n, (cts n []).sum = 0 := fun n => by
      induction n with
      | zero => rfl
      | succ n ih => unfold cts at *; rw [List.range_succ, List.map_append, List.sum_append, ih]; rfl
    rw [this]; rfl
  | x :: xs, h => by
    have ih := cts_sum (xs := xs) (fun y hy => h y (List.mem_cons_of_mem _ hy))
    have hx := h x List.mem_cons_self
    obtain ⟨y, rfl⟩ : ∃ y : Nat, x = y := ⟨x.toNat, by omega⟩
    have e : cts n ((y : Int) :: xs) = (List.range n).map (fun d : Nat => xs.count (d : Int) + if y = d then 1 else 0) := by
      unfold cts
      refine List.map_congr_left (fun d _ => ?_)
      rw [List.count_cons]
      by_cases c : y = d
      · rw [if_pos c, c]; simp
      · rw [if_neg c]
        have : ((y : Int) == (d : Int)) = false := by rw [beq_eq_false_iff_ne]; omega
        rw [this]; simp
    rw [e, sum_add, sum_one, if_pos (by omega), List.length_cons]
    have : ((List.range n).map (fun d : Nat => xs.count (d : Int))).sum = xs.length := ih
    rw [this]
theorem fl_mem {l : List (List Int)} {n : Nat} (h : ∀ s ∈ l, ∀ d ∈ s, 0 ≤ d ∧ d < (n : Int)) : ∀ x ∈ fl l, 0 ≤ x ∧ x < (n : Int) := by
  intro x hx
  obtain ⟨s, hs, hx⟩ := List.mem_flatten.1 hx
  exact h s hs x hx
theorem fl_len {w : Nat} : ∀ {l : List (List Int)}, (∀ s ∈ l, s.length = w) → (fl l).length = l.length * w
  | [], _ => by rw [List.length_nil, Nat.zero_mul]; rfl
  | s :: l, h => by
    have ih := fl_len (l := l) (fun t ht => h t (List.mem_cons_of_mem _ ht))
    show (s ++ fl l).length = _
    rw [List.length_append, ih, h s List.mem_cons_self, List.length_cons, Nat.succ_mul]; omega
theorem st_sum {n w k : Nat} (hw : w ≤ n) : (ld n w k).sum = k * w := by
  rw [← st_loads, cts_sum (fl_mem (fun s hs => (st_good s hs).2)), fl_len (st_wide hw), List.length_map, st_len]
theorem without {s : List Int} (hs : s.Nodup) {d : Int} (hd : s.contains d = true) : (s.filter (fun k => !(k == d))).length = s.length - 1 := by
  have h1 : s.count d = 1 := by
    have h2 := count_one hs d
    have h3 := List.count_pos_iff.2 (List.contains_iff_mem.1 hd)
    omega
  have h4 : ∀ t : List Int, t.length = t.count d + (t.filter (fun k => !(k == d))).length := by
    intro t
    induction t with
    | nil => rfl
    | cons a t ih =>
      rw [List.count_cons, List.filter_cons, List.length_cons, ih]
      by_cases e : (a == d) = true
      · rw [if_pos e, if_neg (by rw [e]; decide)]; omega
      · rw [if_neg e]
        have e2 : (a == d) = false := by rw [← Bool.not_eq_true]; exact e
        rw [if_pos (by rw [e2]; rfl), List.length_cons]; omega
  have := h4 s
  omega
/-- those that stand with d are what d's stripes have without it -/
theorem prs_len {w : Nat} {l : List (List Int)} (d : Int) (hn : ∀ s ∈ l, s.Nodup) (hw : ∀ s ∈ l, s.length = w) : ∀ k, k ≤ l.length → (prs d (l.take k)).length = (hts d l k).length * (w - 1)
  | 0, _ => by rw [List.take_zero]; show 0 = 0 * _; rw [Nat.zero_mul]
  | k + 1, hk => by
    obtain ⟨s, hs⟩ : ∃ s, l[k]? = some s := ⟨l[k]'(by omega), List.getElem?_eq_getElem _⟩
    have hm := List.mem_of_getElem? hs
    rw [prs_snoc d hs, hts_succ d hs, List.length_append, List.length_append, prs_len d hn hw k (by omega)]
    cases hc : s.contains d with
    | false => simp
    | true =>
      rw [if_pos rfl, if_pos rfl, without (hn s hm) hc, hw s hm, Nat.add_mul]
      show _ + _ = _ + 1 * _
      rw [Nat.one_mul]
theorem prs_mem {l : List (List Int)} {n : Nat} (d : Int) (h : ∀ s ∈ l, ∀ x ∈ s, 0 ≤ x ∧ x < (n : Int)) : ∀ x ∈ prs d l, 0 ≤ x ∧ x < (n : Int) := by
  refine fl_mem (fun s hs x hx => ?_)
  obtain ⟨t, ht, rfl⟩ := List.mem_map.1 hs
  split at hx
  · exact h t ht x ((List.mem_filter.1 hx).1)
  · cases hx
theorem hts_len {l : List (List Int)} (d : Int) (hn : ∀ s ∈ l, s.Nodup) : ∀ k, k ≤ l.length → (hts d l k).length = (fl (l.take k)).count d
  | 0, _ => by rw [List.take_zero]; rfl
  | k + 1, hk => by
    obtain ⟨s, hs⟩ : ∃ s, l[k]? = some s := ⟨l[k]'(by omega), List.getElem?_eq_getElem _⟩
    have hm := List.mem_of_getElem? hs
    rw [fl_snoc hs, hts_succ d hs, List.length_append, List.count_append, hts_len d hn k (by omega)]
    congr 1
    cases hc : s.contains d with
    | false =>
      rw [if_neg (by decide), List.length_nil]
      exact (List.count_eq_zero.2 (fun h => by rw [List.contains_iff_mem.2 h] at hc; cases hc)).symm
    | true =>
      rw [if_pos rfl]
      have h2 := count_one (hn s hm) d
      have h3 := List.count_pos_iff.2 (List.contains_iff_mem.1 hc)
      show 1 = _
      omega
theorem st_peers {n w k : Nat} (hw : w ≤ n) (d : Int) : (cts n (prs d ((st n w k).map ci))).sum = (hts d ((st n w k).map ci) k).length * (w - 1) := by
  rw [cts_sum (prs_mem d (fun s hs => (st_good s hs).2))]
  have h := prs_len d (fun s hs => (st_good s hs).1) (st_wide (n := n) (w := w) (k := k) hw) k (by rw [List.length_map, st_len]; exact Nat.le_refl _)
  rw [List.take_of_length_le (by rw [List.length_map, st_len]; exact Nat.le_refl _)] at h
  exact h
theorem st_hurt {n w k d : Nat} (hd : d < n) : (hts (d : Int) ((st n w k).map ci) k).length = (ld n w k).getD d 0 := by
  have h := hts_len (d : Int) (fun s hs => (st_good (n := n) (w := w) (k := k) s hs).1) k (by rw [List.length_map, st_len]; exact Nat.le_refl _)
  rw [List.take_of_length_le (by rw [List.length_map, st_len]; exact Nat.le_refl _), st_count n w hd] at h
  exact h
theorem sum_take {xs : List Nat} {i x : Nat} (h : xs[i]? = some x) : (xs.take (i + 1)).sum = (xs.take i).sum + x := by rw [List.take_add_one, h, List.sum_append]; simp
theorem sum_take_le (xs : List Nat) : ∀ i, (xs.take i).sum ≤ xs.sum := by
  intro i
  have h : xs.sum = (xs.take i ++ xs.drop i).sum := by rw [List.take_append_drop]
  rw [h, List.sum_append]; omega
end Pl
end Go.Proofs.Ytkkfpdjhnffpbaa
