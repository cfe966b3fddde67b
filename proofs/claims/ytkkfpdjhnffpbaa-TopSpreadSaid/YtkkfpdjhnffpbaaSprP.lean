/- Stripes spread out: which sets are fatal, and how few. Plain. -/
import Derived.Test.YtkkfpdjhnffpbaaPlaQ
import Derived.Test.YtkkfpdjhnffpbaaOrder
namespace Go.Proofs.Ytkkfpdjhnffpbaa
set_option linter.unusedVariables false
namespace Od
theorem pop_and (a b : Nat) : pop (a &&& b) ≤ pop a :=
  List.countP_mono_left (fun i _ h => by simp only [Nat.testBit_and, Bool.and_eq_true] at h; exact h.1)
theorem pop_and2 (a b : Nat) : pop (a &&& b) ≤ pop b :=
  List.countP_mono_left (fun i _ h => by simp only [Nat.testBit_and, Bool.and_eq_true] at h; exact h.2)
theorem cnt_low {n : Nat} {l : List (List Nat)} {p : Int} {f : Nat} (h : (f : Int) ≤ p) : cnt n l p f = 0 := by
  unfold cnt
  refine List.countP_eq_zero.2 (fun set _ hh => ?_)
  simp only [Bool.and_eq_true, beq_iff_eq] at hh
  obtain ⟨s, _, hd⟩ := List.any_eq_true.1 hh.1
  have h1 := of_decide_eq_true hd
  have h2 := pop_and set (mask s)
  omega
theorem worst_range {n : Nat} {l : List (List Nat)} {p : Int} : worst n l p = -1 ∨ p < worst n l p := by
  unfold worst
  cases hw : (List.range (n + 1)).find? (fun f => decide (0 < cnt n l p f)) with
  | none => exact .inl rfl
  | some k =>
    right
    have hk0 := List.find?_some hw
    have hk : 0 < cnt n l p k := of_decide_eq_true hk0
    show p < (k : Int)
    apply Classical.byContradiction
    intro hc
    rw [cnt_low (by omega)] at hk
    omega
theorem countP_or {α : Type} (l : List α) (p q : α → Bool) (h : ∀ x ∈ l, p x = true → q x = true → False) : l.countP (fun x => p x || q x) = l.countP p + l.countP q := by
  induction l with
  | nil => rfl
  | cons a l ih =>
    have h0 := ih (fun x hx => h x (List.mem_cons_of_mem _ hx))
    rw [List.countP_cons, List.countP_cons, List.countP_cons, h0]
    have h1 := h a List.mem_cons_self
    cases hp : p a <;> cases hq : q a
    · simp
    · simp; omega
    · simp; omega
    · exact absurd (h1 hp hq) id
theorem pop_one : ∀ d, d < 10 → (List.range 10).countP (fun i => i == d) = 1 := by decide
theorem pop_mask {s : List Nat} (hn : s.Nodup) (h : ∀ d ∈ s, d < 10) : pop (mask s) = s.length := by
  have e : pop (mask s) = (List.range 10).countP (fun i => s.contains i) := List.countP_congr (fun i _ => by rw [mask_bit])
  rw [e]
  clear e
  induction s with
  | nil => decide
  | cons d s ih =>
    have hn' := List.nodup_cons.1 hn
    have h0 := ih hn'.2 (fun e he => h e (List.mem_cons_of_mem _ he))
    have e : (List.range 10).countP (fun i => (d :: s).contains i) = (List.range 10).countP (fun i => (i == d) || s.contains i) := List.countP_congr (fun i _ => by rw [List.contains_cons])
    rw [e, countP_or _ _ _ (fun x _ h1 h2 => by
      have h3 := eq_of_beq h1
      have h4 := List.contains_iff_mem.1 h2
      rw [h3] at h4
      exact hn'.1 h4), pop_one d (h d List.mem_cons_self), h0, List.length_cons]
    omega
theorem mask_ltn {n : Nat} {s : List Nat} (h : ∀ d ∈ s, d < n) : mask s < 2 ^ n :=
  Nat.lt_pow_two_of_testBit _ (fun i hi => by
    rw [mask_bit]
    cases hc : s.contains i with
    | false => rfl
    | true => have := h i (List.contains_iff_mem.1 hc); omega)
theorem full_one : ∀ n, n ≤ 10 → ∀ x, x < 2 ^ n → pop x = n → x = 2 ^ n - 1 := by decide +kernel
theorem nats_ciS (xs : List Nat) : nats (ci xs) = xs := by
  unfold nats ci
  rw [List.map_map]
  exact (List.map_congr_left (fun x _ => Int.toNat_natCast x)).trans (List.map_id _)
theorem natss_ciS (l : List (List Nat)) : natss (l.map ci) = l := by
  unfold natss
  rw [List.map_map]
  exact (List.map_congr_left (fun x _ => nats_ciS x)).trans (List.map_id _)
theorem and_allS {n set : Nat} (h : set < 2 ^ n) : set &&& mask (List.range n) = set := by
  refine Nat.eq_of_testBit_eq (fun i => ?_)
  rw [Nat.testBit_and, mask_bit]
  by_cases hi : i < n
  · rw [List.contains_iff_mem.2 (List.mem_range.2 hi), Bool.and_true]
  · rw [Nat.testBit_lt_two_pow (Nat.lt_of_lt_of_le h (Nat.pow_le_pow_right (by omega) (by omega))), Bool.false_and]
/-- one stripe on all disks, in whatever order -/
theorem cnt_row {n f : Nat} (hn : n ≤ 10) (hf : f ≤ 10) {p : Int} (hp : p < (f : Int)) {s : List Nat} (hs : s.Nodup) (hl : s.length = n) (hd : ∀ d ∈ s, d < n) : cnt n [s] p f = ch n f := by
  have e1 : mask s = 2 ^ n - 1 := full_one n hn _ (mask_ltn hd) (by rw [pop_mask hs (fun d h => by have := hd d h; omega), hl])
  have e2 : mask (List.range n) = 2 ^ n - 1 := full_one n hn _ (mask_ltn (fun d h => List.mem_range.1 h)) (by rw [pop_mask List.nodup_range (fun d h => by have := List.mem_range.1 h; omega), List.length_range])
  rw [← cnt_all n hn f hf]
  unfold cnt
  refine List.countP_congr (fun set hset => ?_)
  have e3 : fatal set [s] p = decide (p < (pop set : Int)) := by
    unfold fatal
    rw [List.any_cons, List.any_nil, Bool.or_false, e1, ← e2, and_allS (List.mem_range.1 hset)]
  rw [e3]
  by_cases c : pop set = f
  · rw [c, decide_eq_true hp]; simp
  · have : (pop set == f) = false := by rw [beq_eq_false_iff_ne]; exact c
    rw [this, Bool.and_false]
end Od
namespace Pl
theorem st_each {n w k : Nat} (hw : w ≤ n) {s : List Nat} (hs : s ∈ st n w k) : s.Nodup ∧ s.length = w ∧ ∀ d ∈ s, d < n := by
  obtain ⟨j, hj, e⟩ := st_rows hs
  refine ⟨by rw [e]; exact sel_nodup _ _, by rw [e, sel_len _ (by rw [ld_len]; exact hw)], fun d hd => st_lt hs hd⟩
theorem worst_few {n w k : Nat} (h10 : n ≤ 10) (hw : w ≤ n) (h : w < 3 ∨ k = 0) : Od.worst n (st n w k) 2 = -1 := by
  refine Od.worst_miss (fun f _ => ?_)
  unfold Od.cnt
  refine List.countP_eq_zero.2 (fun set _ hh => ?_)
  simp only [Bool.and_eq_true, beq_iff_eq] at hh
  obtain ⟨s, hs, hd⟩ := List.any_eq_true.1 hh.1
  have h1 := of_decide_eq_true hd
  have h2 := Od.pop_and2 set (Od.mask s)
  obtain ⟨a, b, c⟩ := st_each hw hs
  rw [Od.pop_mask a (fun d h => by have := c d h; omega), b] at h2
  rcases h with h | h
  · omega
  · subst h; cases hs
theorem worst_many {n w k : Nat} (h10 : n ≤ 10) (hw : w ≤ n) (h3 : 3 ≤ w) (hk : 0 < k) : 2 < Od.worst n (st n w k) 2 := by
  rcases Od.worst_range (n := n) (l := st n w k) (p := 2) with h | h
  · exfalso
    obtain ⟨s, hs⟩ : ∃ s, s ∈ st n w k := by
      have hl := st_len n w k
      cases hc : st n w k with
      | nil => rw [hc] at hl; simp at hl; omega
      | cons a l => exact ⟨a, List.mem_cons_self⟩
    obtain ⟨a, b, c⟩ := st_each hw hs
    have hp := Od.pop_mask a (fun d h => by have := c d h; omega)
    have h0 := Od.worst_none h (f := w) hw
    unfold Od.cnt at h0
    have h1 := List.countP_eq_zero.1 h0 (Od.mask s) (List.mem_range.2 (Od.mask_ltn c))
    refine h1 ?_
    simp only [Bool.and_eq_true, beq_iff_eq]
    refine ⟨List.any_eq_true.2 ⟨s, hs, decide_eq_true ?_⟩, by rw [hp, b]⟩
    rw [Nat.and_self, hp, b]
    omega
  · exact h
end Pl
namespace Lay
def ords (n : Nat) (row : Int) : List Int := (List.range n).map (fun i : Nat => disk n row i)
theorem ords_iv (n : Nat) (row : Int) : orderL n row n = (ords n row).map iv := by unfold orderL ords; rw [List.map_map]; rfl
theorem ords_good {n : Nat} {row : Int} (h1 : 3 ≤ n) (h2 : n ≤ 10) (h3 : 0 ≤ row) : (ords n row).Nodup ∧ ∀ d ∈ ords n row, 0 ≤ d ∧ d < (n : Int) := by
  refine ⟨?_, fun d hd => ?_⟩
  · refine List.pairwise_map.2 (List.Pairwise.imp_of_mem (fun {a b} ha hb hab e => ?_) List.pairwise_lt_range)
    have h := disk_inj (n := (n : Int)) (row := row) (k := b) (m := a) (by omega) (by omega) h3 (by omega) (by have := List.mem_range.1 hb; omega) (by omega) (by have := List.mem_range.1 ha; omega) e
    omega
  · obtain ⟨i, _, rfl⟩ := List.mem_map.1 hd
    exact disk_bd (by omega)
theorem ords_nats {n : Nat} {row : Int} (h1 : 3 ≤ n) (h2 : n ≤ 10) (h3 : 0 ≤ row) : (Od.nats (ords n row)).Nodup ∧ (Od.nats (ords n row)).length = n ∧ ∀ d ∈ Od.nats (ords n row), d < n := by
  obtain ⟨a, b⟩ := ords_good h1 h2 h3
  refine ⟨?_, by unfold Od.nats ords; simp, fun d hd => ?_⟩
  · unfold Od.nats
    refine List.pairwise_map.2 (List.Pairwise.imp_of_mem (fun {x y} hx hy hxy e => hxy ?_) a)
    have := b x hx; have := b y hy; omega
  · obtain ⟨x, hx, rfl⟩ := List.mem_map.1 hd
    have := b x hx; omega
end Lay
end Go.Proofs.Ytkkfpdjhnffpbaa
