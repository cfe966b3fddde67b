/- The references' product of elements is the field's: plain numbers. -/
import Derived.Test.YtbikmodfmckaeaaDoorGf
namespace Go.Proofs.YtbikmodfmckaeaaDoor.Gf

/-- bit by bit, without taking away -/
def clF : Nat → Nat → Nat → Nat → Nat
  | 0, n, _, _ => n
  | f + 1, n, x, y => clF f (if y % 2 = 1 then n ^^^ x else n) (2 * x) (y / 2)
/-- what is beyond is taken away, from bit k on -/
def redF : Nat → Nat → Nat → Nat → Nat
  | 0, n, _, _ => n
  | f + 1, n, k, r => redF f (if n / k % 2 = 1 then n ^^^ r else n) (k / 2) (r / 2)
def rm (a b : Nat) : Nat := redF 8 (clF 8 0 a b) 32768 36480

theorem clF_xor : ∀ (f n m x x' y : Nat), clF f (n ^^^ m) (x ^^^ x') y = clF f n x y ^^^ clF f m x' y
  | 0, _, _, _, _, _ => rfl
  | f + 1, n, m, x, x', y => by
    unfold clF
    rw [two_xor]
    split
    · rw [show n ^^^ m ^^^ (x ^^^ x') = (n ^^^ x) ^^^ (m ^^^ x') by ac_rfl]; exact clF_xor f _ _ _ _ _
    · exact clF_xor f _ _ _ _ _
theorem bit_xor (n m i : Nat) : (n ^^^ m) / 2 ^ i % 2 = (n / 2 ^ i % 2 + m / 2 ^ i % 2) % 2 := by
  have h : (n ^^^ m).testBit i = (n.testBit i ^^ m.testBit i) := Nat.testBit_xor ..
  simp only [Nat.testBit_eq_decide_div_mod_eq] at h
  have h1 := Nat.mod_two_eq_zero_or_one (n / 2 ^ i)
  have h2 := Nat.mod_two_eq_zero_or_one (m / 2 ^ i)
  have h3 := Nat.mod_two_eq_zero_or_one ((n ^^^ m) / 2 ^ i)
  rcases h1 with h1 | h1 <;> rcases h2 with h2 | h2 <;> rcases h3 with h3 | h3 <;> simp [h1, h2, h3] at h ⊢
theorem redF_xor : ∀ (f i n m r : Nat), f ≤ i + 1 → redF f (n ^^^ m) (2 ^ i) r = redF f n (2 ^ i) r ^^^ redF f m (2 ^ i) r
  | 0, _, _, _, _, _ => rfl
  | f + 1, i, n, m, r, h => by
    unfold redF
    have hb := bit_xor n m i
    have key : ∀ n' m' : Nat, redF f (n' ^^^ m') (2 ^ i / 2) (r / 2) = redF f n' (2 ^ i / 2) (r / 2) ^^^ redF f m' (2 ^ i / 2) (r / 2) := by
      intro n' m'
      cases i with
      | zero =>
        have : f = 0 := by omega
        subst this; rfl
      | succ i =>
        rw [show 2 ^ (i + 1) / 2 = 2 ^ i by rw [Nat.pow_succ]; omega]
        exact redF_xor f i n' m' (r / 2) (by omega)
    have h1 := Nat.mod_two_eq_zero_or_one (n / 2 ^ i)
    have h2 := Nat.mod_two_eq_zero_or_one (m / 2 ^ i)
    rw [← key]
    congr 1
    rw [hb]
    rcases h1 with h1 | h1 <;> rcases h2 with h2 | h2 <;> simp only [h1, h2] <;> simp
    · rw [Nat.xor_assoc]
    · ac_rfl
    · rw [show n ^^^ r ^^^ (m ^^^ r) = n ^^^ m ^^^ (r ^^^ r) by ac_rfl, Nat.xor_self, Nat.xor_zero]
theorem rm_xor (a a' b : Nat) : rm (a ^^^ a') b = rm a b ^^^ rm a' b := by
  unfold rm
  have h := clF_xor 8 0 0 a a' b
  rw [Nat.xor_self] at h
  rw [h]
  exact redF_xor 8 15 _ _ 36480 (by omega)
theorem rm_basis : ∀ b, b < 256 → ∀ k, k < 8 → rm (2 ^ k) b = gm (2 ^ k) b := by decide +kernel
theorem rm_zero : ∀ b, b < 256 → rm 0 b = gm 0 b := by decide +kernel
theorem top_xor {a k : Nat} (h1 : 2 ^ k ≤ a) (h2 : a < 2 ^ (k + 1)) : a = (a - 2 ^ k) ^^^ 2 ^ k := by
  have hlt : a - 2 ^ k < 2 ^ k := by have := Nat.pow_succ 2 k; omega
  have := Nat.two_pow_add_eq_or_of_lt hlt 1
  rw [Nat.mul_one] at this
  apply Nat.eq_of_testBit_eq
  intro i
  rw [Nat.testBit_xor, Nat.testBit_two_pow]
  by_cases hi : k = i
  · subst hi
    have e1 : a.testBit k = true := by
      rw [Nat.testBit_eq_decide_div_mod_eq]
      have : a / 2 ^ k = 1 := by
        apply Nat.div_eq_of_lt_le <;> (have := Nat.pow_succ 2 k; omega)
      rw [this]; rfl
    have e2 : (a - 2 ^ k).testBit k = false := Nat.testBit_lt_two_pow hlt
    rw [e1, e2]; simp
  · rw [decide_eq_false hi, Bool.xor_false]
    have e : a = 2 ^ k + (a - 2 ^ k) := by omega
    conv => lhs; rw [e]
    rcases Nat.lt_or_gt_of_ne hi with h | h
    · have e1 : (2 ^ k + (a - 2 ^ k)).testBit i = false := Nat.testBit_lt_two_pow (Nat.lt_of_lt_of_le (by omega) (Nat.pow_le_pow_right (by omega) (show k + 1 ≤ i by omega)))
      have e2 : (a - 2 ^ k).testBit i = false := Nat.testBit_lt_two_pow (Nat.lt_of_lt_of_le hlt (Nat.pow_le_pow_right (by omega) (by omega)))
      rw [e1, e2]
    · exact Nat.testBit_two_pow_add_gt h _
theorem rm_eq : ∀ k, k ≤ 8 → ∀ a, a < 2 ^ k → ∀ b, b < 256 → rm a b = gm a b
  | 0, _, a, h, b, hb => by
    obtain rfl : a = 0 := by simpa using h
    exact rm_zero b hb
  | k + 1, hk, a, h, b, hb => by
    have ha : a < 256 := Nat.lt_of_lt_of_le h (Nat.pow_le_pow_right (n := 2) (by omega) (show k + 1 ≤ 8 by omega))
    by_cases h1 : a < 2 ^ k
    · exact rm_eq k (by omega) a h1 b hb
    · have e := top_xor (by omega) h
      have hlt : a - 2 ^ k < 2 ^ k := by have := Nat.pow_succ 2 k; omega
      have h2 : 2 ^ k < 256 := Nat.lt_of_le_of_lt (by omega) ha
      rw [e, rm_xor, rm_eq k (by omega) _ hlt b hb, rm_basis b hb k (by omega), gm_xor b (by omega) h2]
theorem rm_gm {a b : Nat} (ha : a < 256) (hb : b < 256) : rm a b = gm a b := rm_eq 8 (by omega) a ha b hb

/-- exclusive or, bit by bit -/
theorem xor_step (a b i : Nat) : (a ^^^ b) % 2 ^ (i + 1) = (a ^^^ b) % 2 ^ i + (if a / 2 ^ i % 2 ≠ b / 2 ^ i % 2 then 2 ^ i else 0) := by
  have h := bit_xor a b i
  have e : (a ^^^ b) % 2 ^ (i + 1) = (a ^^^ b) % 2 ^ i + 2 ^ i * ((a ^^^ b) / 2 ^ i % 2) := by
    rw [Nat.pow_succ, Nat.mod_mul]
  have h1 := Nat.mod_two_eq_zero_or_one (a / 2 ^ i)
  have h2 := Nat.mod_two_eq_zero_or_one (b / 2 ^ i)
  rw [e, h]
  rcases h1 with h1 | h1 <;> rcases h2 with h2 | h2 <;> simp [h1, h2]
end Go.Proofs.YtbikmodfmckaeaaDoor.Gf
