/- Odds: Pascal's numbers, sets of disks as numbers, how many are fatal. Plain. -/
import Derived.Test.YtkkfpdjhnffpbaaDoorBase
namespace Go.Proofs.YtkkfpdjhnffpbaaDoor
set_option linter.unusedVariables false
namespace Od
def ch : Nat → Nat → Nat
  | _, 0 => 1
  | 0, _ + 1 => 0
  | n + 1, k + 1 => ch n k + ch n (k + 1)
theorem ch_zero (n : Nat) : ch n 0 = 1 := by cases n <;> rfl
theorem ch_succ (n k : Nat) : ch (n + 1) (k + 1) = ch n k + ch n (k + 1) := rfl
theorem ch_out : ∀ (n k : Nat), n < k → ch n k = 0
  | 0, k + 1, _ => rfl
  | n + 1, k + 1, h => by rw [ch_succ, ch_out n k (by omega), ch_out n (k + 1) (by omega)]
theorem ch_pull : ∀ (n k : Nat), (k + 1) * ch (n + 1) (k + 1) = (n + 1) * ch n k
  | 0, 0 => rfl
  | 0, k + 1 => by rw [ch_succ, ch_out 0 (k + 1) (by omega), ch_out 0 (k + 2) (by omega)]; simp
  | n + 1, 0 => by
    have h := ch_pull n 0
    rw [ch_zero] at h
    rw [ch_succ, ch_zero]
    omega
  | n + 1, k + 1 => by
    have h1 := ch_pull n k
    have h2 := ch_pull n (k + 1)
    rw [ch_succ (n + 1) (k + 1), Nat.mul_add, h2]
    have e1 : (k + 1 + 1) * ch (n + 1) (k + 1) = (k + 1) * ch (n + 1) (k + 1) + ch (n + 1) (k + 1) := by rw [Nat.add_mul, Nat.one_mul]
    have e2 : (n + 1 + 1) * ch (n + 1) (k + 1) = (n + 1) * ch (n + 1) (k + 1) + ch (n + 1) (k + 1) := by rw [Nat.add_mul, Nat.one_mul]
    rw [e1, h1, e2, ch_succ n k, Nat.mul_add]
    omega
theorem ch_step (n k : Nat) (h : k < n) : ch n k * (n - k) = ch n (k + 1) * (k + 1) := by
  obtain ⟨m, rfl⟩ : ∃ m, n = m + 1 := ⟨n - 1, by omega⟩
  have h1 := ch_pull m k
  cases k with
  | zero =>
    rw [ch_zero] at h1 ⊢
    rw [Nat.mul_comm (ch (m + 1) (0 + 1))]
    omega
  | succ k =>
    have h2 := ch_pull m k
    have e : (m + 1 - (k + 1)) * ch (m + 1) (k + 1) = (m + 1) * ch (m + 1) (k + 1) - (k + 1) * ch (m + 1) (k + 1) := Nat.sub_mul _ _ _
    have e3 : (m + 1) * ch (m + 1) (k + 1) = (m + 1) * ch m k + (m + 1) * ch m (k + 1) := by rw [ch_succ m k, Nat.mul_add]
    rw [Nat.mul_comm, e, e3, h2, Nat.add_sub_cancel_left, Nat.mul_comm (ch (m + 1) (k + 1 + 1)), h1]
theorem ch_le : ∀ (n k : Nat), ch n k ≤ 2 ^ n
  | n, 0 => by rw [ch_zero]; exact Nat.one_le_two_pow
  | 0, k + 1 => Nat.zero_le _
  | n + 1, k + 1 => by
    have h1 := ch_le n k
    have h2 := ch_le n (k + 1)
    rw [ch_succ, Nat.pow_succ]; omega
/-- how many of the ten lowest bits are 1 -/
def pop (x : Nat) : Nat := (List.range 10).countP (fun i => x.testBit i)
theorem pop_le (x : Nat) : pop x ≤ 10 := by
  have := List.countP_le_length (p := fun i => x.testBit i) (l := List.range 10)
  rw [List.length_range] at this; exact this
/-- a stripe as a number -/
def mask (s : List Nat) : Nat := s.foldl (fun x d => x ||| 1 <<< d) 0
theorem mask_bit (s : List Nat) (i : Nat) : (mask s).testBit i = s.contains i := by
  have h : ∀ (s : List Nat) (x : Nat), (s.foldl (fun x d => x ||| 1 <<< d) x).testBit i = (x.testBit i || s.contains i) := by
    intro s
    induction s with
    | nil => intro x; simp
    | cons d s ih =>
      intro x
      rw [List.foldl_cons, ih, Nat.testBit_or, Nat.one_shiftLeft, Nat.testBit_two_pow, List.contains_cons, Bool.or_assoc]
      congr 1
      by_cases e : d = i
      · subst e; simp
      · simp [e, Ne.symm e]
  rw [mask, h]; simp
theorem mask_lt {s : List Nat} (h : ∀ d ∈ s, d < 10) : mask s < 1024 := by
  have h2 : ∀ (s : List Nat) (x : Nat), (∀ d ∈ s, d < 10) → x < 2 ^ 10 → s.foldl (fun x d => x ||| 1 <<< d) x < 2 ^ 10 := by
    intro s
    induction s with
    | nil => intro x _ h; exact h
    | cons d s ih =>
      intro x hs hx
      rw [List.foldl_cons]
      refine ih _ (fun e he => hs e (List.mem_cons_of_mem _ he)) (Nat.or_lt_two_pow hx ?_)
      rw [Nat.one_shiftLeft]
      exact Nat.pow_lt_pow_right (by omega) (hs d (List.mem_cons_self ..))
  exact h2 s 0 h (by decide)
def fatal (set : Nat) (l : List (List Nat)) (p : Int) : Bool := l.any (fun s => decide (p < (pop (set &&& mask s) : Int)))
def cnt (n : Nat) (l : List (List Nat)) (p : Int) (f : Nat) : Nat := (List.range (2 ^ n)).countP (fun set => fatal set l p && pop set == f)
theorem fatal_mono {set : Nat} {l : List (List Nat)} {p q : Int} (h : p ≤ q) (hf : fatal set l q = true) : fatal set l p = true := by
  obtain ⟨s, hs, hd⟩ := List.any_eq_true.1 hf
  have := of_decide_eq_true hd
  exact List.any_eq_true.2 ⟨s, hs, decide_eq_true (by omega)⟩
theorem cnt_mono (n : Nat) (l : List (List Nat)) {p q : Int} (h : p ≤ q) (f : Nat) : cnt n l q f ≤ cnt n l p f := by
  refine List.countP_mono_left (fun set _ hh => ?_)
  simp only [Bool.and_eq_true] at hh ⊢
  exact ⟨fatal_mono h hh.1, hh.2⟩
theorem cnt_all : ∀ n, n ≤ 10 → ∀ f, f ≤ 10 → (List.range (2 ^ n)).countP (fun set => pop set == f) = ch n f := by decide +kernel
theorem cnt_le {n : Nat} (hn : n ≤ 10) (l : List (List Nat)) (p : Int) {f : Nat} (hf : f ≤ 10) : cnt n l p f ≤ ch n f := by
  rw [← cnt_all n hn f hf]
  refine List.countP_mono_left (fun set _ hh => ?_)
  simp only [Bool.and_eq_true] at hh
  exact hh.2
/-- the least number that is fatal; -1: none -/
def worst (n : Nat) (l : List (List Nat)) (p : Int) : Int := match (List.range (n + 1)).find? (fun f => decide (0 < cnt n l p f)) with | some f => (f : Int) | none => -1
theorem worst_none {n : Nat} {l : List (List Nat)} {p : Int} (h : worst n l p = -1) {f : Nat} (hf : f ≤ n) : cnt n l p f = 0 := by
  unfold worst at h
  cases hw : (List.range (n + 1)).find? (fun f => decide (0 < cnt n l p f)) with
  | some k => rw [hw] at h; simp only at h; omega
  | none =>
    have := List.find?_eq_none.1 hw f (List.mem_range.2 (by omega))
    simp at this; exact this
theorem worst_low {n : Nat} {l : List (List Nat)} {p : Int} {f : Nat} (hf : f ≤ n) (h : (f : Int) < worst n l p) : cnt n l p f = 0 := by
  unfold worst at h
  cases hw : (List.range (n + 1)).find? (fun f => decide (0 < cnt n l p f)) with
  | none => rw [hw] at h; simp only at h; omega
  | some k =>
    rw [hw] at h
    simp only at h
    have hk := List.find?_range_eq_some.1 hw
    have := hk.2.2 f (by omega)
    simp at this; exact this
end Od
end Go.Proofs.YtkkfpdjhnffpbaaDoor
