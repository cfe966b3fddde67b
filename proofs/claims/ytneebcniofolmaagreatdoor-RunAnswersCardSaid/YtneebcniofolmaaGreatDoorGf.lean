/- Plain facts of the field of 256 elements: bytes, sum by exclusive or, product modulo x^8 + x^4 + x^3 + x^2 + 1. No program in sight. -/
namespace Go.Proofs.YtneebcniofolmaaGreatDoor.Gf

/-- times x -/
def xt (x : Nat) : Nat := if x < 128 then 2 * x else (2 * x) ^^^ 285

def gmF : Nat → Nat → Nat → Nat → Nat
  | 0, s, _, _ => s
  | f + 1, s, x, b => gmF f (if b % 2 = 1 then s ^^^ x else s) (xt x) (b / 2)
def gm (a b : Nat) : Nat := gmF 8 0 a b

theorem xor_lt {a b : Nat} (ha : a < 256) (hb : b < 256) : a ^^^ b < 256 := Nat.xor_lt_two_pow (n := 8) ha hb

theorem xt_lt {x : Nat} (h : x < 256) : xt x < 256 := by
  unfold xt
  split
  · omega
  · have h1 : (2 * x) ^^^ 285 < 512 := Nat.xor_lt_two_pow (n := 9) (by omega) (by omega)
    have h2 : ((2 * x) ^^^ 285).testBit 8 = false := by
      rw [Nat.testBit_xor]
      have e1 : (2 * x).testBit 8 = true := by
        rw [Nat.testBit_eq_decide_div_mod_eq]; simp; omega
      have e2 : (285 : Nat).testBit 8 = true := by decide
      rw [e1, e2]; rfl
    rw [Nat.testBit_eq_decide_div_mod_eq] at h2
    simp at h2
    omega

theorem hi_xor {x y : Nat} (hx : x < 256) (hy : y < 256) : (x ^^^ y < 128) ↔ ((x < 128) ↔ (y < 128)) := by
  have hxy := xor_lt hx hy
  have h : (x ^^^ y).testBit 7 = (x.testBit 7 ^^ y.testBit 7) := Nat.testBit_xor ..
  simp only [Nat.testBit_eq_decide_div_mod_eq] at h
  by_cases h1 : x < 128 <;> by_cases h2 : y < 128
  · have : x / 2 ^ 7 % 2 = 0 := by omega
    have : y / 2 ^ 7 % 2 = 0 := by omega
    simp [*] at h; simp [h1, h2]; omega
  · have : x / 2 ^ 7 % 2 = 0 := by omega
    have : y / 2 ^ 7 % 2 = 1 := by omega
    simp [*] at h; simp [h1, h2]; omega
  · have : x / 2 ^ 7 % 2 = 1 := by omega
    have : y / 2 ^ 7 % 2 = 0 := by omega
    simp [*] at h; simp [h1, h2]; omega
  · have : x / 2 ^ 7 % 2 = 1 := by omega
    have : y / 2 ^ 7 % 2 = 1 := by omega
    simp [*] at h; simp [h1, h2]; omega

theorem two_xor (x y : Nat) : 2 * (x ^^^ y) = (2 * x) ^^^ (2 * y) := by
  have := Nat.shiftLeft_xor_distrib (a := x) (b := y) (i := 1)
  simp only [Nat.shiftLeft_eq, Nat.pow_one] at this
  rw [Nat.mul_comm 2, this, Nat.mul_comm x, Nat.mul_comm y]

theorem xor_left_comm (a b c : Nat) : a ^^^ (b ^^^ c) = b ^^^ (a ^^^ c) := by
  rw [← Nat.xor_assoc, Nat.xor_comm a b, Nat.xor_assoc]
theorem xor_cancel (a b : Nat) : a ^^^ (a ^^^ b) = b := by rw [← Nat.xor_assoc, Nat.xor_self, Nat.zero_xor]

theorem xt_xor {x y : Nat} (hx : x < 256) (hy : y < 256) : xt (x ^^^ y) = xt x ^^^ xt y := by
  have h := hi_xor hx hy
  unfold xt
  by_cases h1 : x < 128 <;> by_cases h2 : y < 128 <;> simp only [h1, h2, if_true, if_false, iff_true, iff_self, iff_false, not_true] at h ⊢
  · rw [if_pos h, two_xor]
  · rw [if_neg (by simpa using h), two_xor, Nat.xor_assoc]
  · rw [if_neg (by simpa using h), two_xor]; ac_rfl
  · rw [if_pos (by simpa using h), two_xor]
    rw [Nat.xor_assoc, xor_left_comm 285, Nat.xor_self, Nat.xor_zero]

theorem gmF_lt : ∀ (f s x b : Nat), s < 256 → x < 256 → gmF f s x b < 256
  | 0, s, _, _, hs, _ => hs
  | f + 1, s, x, b, hs, hx => by
    unfold gmF
    refine gmF_lt f _ _ _ ?_ (xt_lt hx)
    split
    · exact xor_lt hs hx
    · exact hs
theorem gm_lt {a : Nat} (b : Nat) (ha : a < 256) : gm a b < 256 := gmF_lt 8 0 a b (by omega) ha

theorem gmF_xt : ∀ (f s x b : Nat), s < 256 → x < 256 → gmF f (xt s) (xt x) b = xt (gmF f s x b)
  | 0, _, _, _, _, _ => rfl
  | f + 1, s, x, b, hs, hx => by
    unfold gmF
    split
    · rw [← xt_xor hs hx]; exact gmF_xt f _ _ _ (xor_lt hs hx) (xt_lt hx)
    · exact gmF_xt f _ _ _ hs (xt_lt hx)

theorem gmF_xor : ∀ (f s t x y b : Nat), s < 256 → t < 256 → x < 256 → y < 256 → gmF f (s ^^^ t) (x ^^^ y) b = gmF f s x b ^^^ gmF f t y b
  | 0, _, _, _, _, _, _, _, _, _ => rfl
  | f + 1, s, t, x, y, b, hs, ht, hx, hy => by
    unfold gmF
    rw [xt_xor hx hy]
    split
    · rw [show s ^^^ t ^^^ (x ^^^ y) = (s ^^^ x) ^^^ (t ^^^ y) by ac_rfl]
      exact gmF_xor f _ _ _ _ _ (xor_lt hs hx) (xor_lt ht hy) (xt_lt hx) (xt_lt hy)
    · exact gmF_xor f _ _ _ _ _ hs ht (xt_lt hx) (xt_lt hy)

theorem gm_xor {a a' : Nat} (b : Nat) (ha : a < 256) (ha' : a' < 256) : gm (a ^^^ a') b = gm a b ^^^ gm a' b := by
  have := gmF_xor 8 0 0 a a' b (by omega) (by omega) ha ha'
  simpa [gm] using this
theorem gm_xt {a : Nat} (b : Nat) (ha : a < 256) : gm (xt a) b = xt (gm a b) := gmF_xt 8 0 a b (by omega) ha
theorem gm_zero (b : Nat) : gm 0 b = 0 := by
  have := gm_xor (a := 0) (a' := 0) b (by omega) (by omega)
  simpa using this
theorem gmF_null : ∀ (f s x : Nat), gmF f s x 0 = s
  | 0, _, _ => rfl
  | f + 1, s, x => by unfold gmF; simp; exact gmF_null f s _
theorem gm_null (a : Nat) : gm a 0 = 0 := gmF_null 8 0 a
theorem gm_one {b : Nat} (hb : b < 256) : gm 1 b = b := by
  have : ∀ b, b < 256 → gm 1 b = b := by decide +kernel
  exact this b hb

/-- 2 to the n -/
def pw : Nat → Nat
  | 0 => 1
  | n + 1 => xt (pw n)
theorem pw_lt : ∀ n, pw n < 256
  | 0 => by decide
  | n + 1 => xt_lt (pw_lt n)
theorem gm_pw (j : Nat) : ∀ i, gm (pw i) (pw j) = pw (i + j)
  | 0 => by simp [pw, gm_one (pw_lt j)]
  | i + 1 => by
    rw [show i + 1 + j = (i + j) + 1 by omega]
    show gm (xt (pw i)) (pw j) = xt (pw (i + j))
    rw [gm_xt _ (pw_lt i), gm_pw j i]

/-- which power of 2: a search -/
def lgF : Nat → Nat → Nat → Nat → Nat
  | 0, _, _, n => n
  | f + 1, x, a, n => if x = a then n else lgF f (xt x) a (n + 1)
def lg (a : Nat) : Nat := lgF 255 1 a 0

theorem pw_lg {a : Nat} (h : a < 256) (h0 : a ≠ 0) : pw (lg a) = a ∧ lg a < 255 := by
  have : ∀ a, a < 256 → (a ≠ 0 → pw (lg a) = a ∧ lg a < 255) := by decide +kernel
  exact this a h h0
theorem pw_255 : pw 255 = 1 := by decide +kernel
theorem pw_add_255 : ∀ n, pw (n + 255) = pw n
  | 0 => pw_255
  | n + 1 => by
    rw [show n + 1 + 255 = (n + 255) + 1 by omega]
    show xt (pw (n + 255)) = xt (pw n)
    rw [pw_add_255 n]
theorem pw_add_mul (n : Nat) : ∀ k, pw (n + 255 * k) = pw n
  | 0 => rfl
  | k + 1 => by rw [show n + 255 * (k + 1) = (n + 255 * k) + 255 by omega, pw_add_255, pw_add_mul n k]
theorem pw_mod (n : Nat) : pw (n % 255) = pw n := by
  have h := Nat.mod_add_div n 255
  have := pw_add_mul (n % 255) (n / 255)
  rw [h] at this; exact this.symm
theorem pw_ne (n : Nat) : pw n ≠ 0 := by
  intro h
  have h1 := gm_pw (255 - n % 255) (n % 255)
  rw [pw_mod, h, gm_zero, show n % 255 + (255 - n % 255) = 255 by omega, pw_255] at h1
  omega
theorem pw_small : ∀ k, k < 255 → k ≠ 0 → pw k ≠ 1 := by decide +kernel
theorem pw_inj {i j : Nat} (hi : i < 255) (hj : j < 255) (h : pw i = pw j) : i = j := by
  rcases Nat.lt_trichotomy i j with c | c | c
  · exfalso
    have h1 := gm_pw (255 - j) i
    have h2 := gm_pw (255 - j) j
    rw [h, h2, show j + (255 - j) = 255 by omega, pw_255] at h1
    exact pw_small (i + (255 - j)) (by omega) (by omega) h1.symm
  · exact c
  · exfalso
    have h1 := gm_pw (255 - i) i
    have h2 := gm_pw (255 - i) j
    rw [← h, h1, show i + (255 - i) = 255 by omega, pw_255] at h2
    exact pw_small (j + (255 - i)) (by omega) (by omega) h2.symm

theorem gm_comm {a b : Nat} (ha : a < 256) (hb : b < 256) : gm a b = gm b a := by
  by_cases h1 : a = 0
  · subst h1; rw [gm_zero, gm_null]
  by_cases h2 : b = 0
  · subst h2; rw [gm_zero, gm_null]
  rw [← (pw_lg ha h1).1, ← (pw_lg hb h2).1, gm_pw, gm_pw, Nat.add_comm]
theorem gm_assoc {a b c : Nat} (ha : a < 256) (hb : b < 256) (hc : c < 256) : gm (gm a b) c = gm a (gm b c) := by
  by_cases h1 : a = 0
  · subst h1; rw [gm_zero, gm_zero, gm_zero]
  by_cases h2 : b = 0
  · subst h2; rw [gm_null, gm_zero, gm_null]
  by_cases h3 : c = 0
  · subst h3; rw [gm_null, gm_null, gm_null]
  rw [← (pw_lg ha h1).1, ← (pw_lg hb h2).1, ← (pw_lg hc h3).1, gm_pw, gm_pw, gm_pw, gm_pw, Nat.add_assoc]
theorem gm_ne {a b : Nat} (ha : a < 256) (hb : b < 256) (h1 : a ≠ 0) (h2 : b ≠ 0) : gm a b ≠ 0 := by
  rw [← (pw_lg ha h1).1, ← (pw_lg hb h2).1, gm_pw]; exact pw_ne _

/-! The field on bytes -/
def mul (a b : UInt8) : UInt8 := UInt8.ofNat (gm a.toNat b.toNat)
theorem mul_nat (a b : UInt8) : (mul a b).toNat = gm a.toNat b.toNat := by
  unfold mul; rw [UInt8.toNat_ofNat']; exact Nat.mod_eq_of_lt (gm_lt _ a.toNat_lt)
theorem xor_nat (a b : UInt8) : (a ^^^ b).toNat = a.toNat ^^^ b.toNat := UInt8.toNat_xor ..
theorem byte_ext {a b : UInt8} (h : a.toNat = b.toNat) : a = b := UInt8.toNat_inj.1 h

/-- the sum, under a name of its own, so that a walk leaves it as it is -/
def add (a b : UInt8) : UInt8 := a ^^^ b
theorem add_def (a b : UInt8) : add a b = a ^^^ b := rfl
theorem mul_comm (a b : UInt8) : mul a b = mul b a := byte_ext (by rw [mul_nat, mul_nat]; exact gm_comm a.toNat_lt b.toNat_lt)
theorem mul_assoc (a b c : UInt8) : mul (mul a b) c = mul a (mul b c) :=
  byte_ext (by simp only [mul_nat]; exact gm_assoc a.toNat_lt b.toNat_lt c.toNat_lt)
theorem mul_left_comm (a b c : UInt8) : mul a (mul b c) = mul b (mul a c) := by rw [← mul_assoc, mul_comm a b, mul_assoc]
theorem zero_mul (a : UInt8) : mul 0 a = 0 := byte_ext (by rw [mul_nat]; exact gm_zero _)
theorem mul_zero (a : UInt8) : mul a 0 = 0 := by rw [mul_comm, zero_mul]
theorem one_mul (a : UInt8) : mul 1 a = a := byte_ext (by rw [mul_nat]; exact gm_one a.toNat_lt)
theorem mul_one (a : UInt8) : mul a 1 = a := by rw [mul_comm, one_mul]
theorem add_mul (a b c : UInt8) : mul (a ^^^ b) c = mul a c ^^^ mul b c :=
  byte_ext (by simp only [mul_nat, xor_nat]; exact gm_xor _ a.toNat_lt b.toNat_lt)
theorem mul_add (a b c : UInt8) : mul a (b ^^^ c) = mul a b ^^^ mul a c := by rw [mul_comm, add_mul, mul_comm b, mul_comm c]
theorem add_comm (a b : UInt8) : a ^^^ b = b ^^^ a := UInt8.xor_comm ..
theorem add_assoc (a b c : UInt8) : a ^^^ b ^^^ c = a ^^^ (b ^^^ c) := UInt8.xor_assoc ..
theorem add_left_comm (a b c : UInt8) : a ^^^ (b ^^^ c) = b ^^^ (a ^^^ c) := by rw [← add_assoc, add_comm a b, add_assoc]
theorem add_self (a : UInt8) : a ^^^ a = 0 := UInt8.xor_self
theorem add_zero (a : UInt8) : a ^^^ 0 = a := UInt8.xor_zero
theorem zero_add (a : UInt8) : 0 ^^^ a = a := UInt8.zero_xor
theorem add_cancel (a b : UInt8) : a ^^^ (a ^^^ b) = b := by rw [← add_assoc, add_self, zero_add]
theorem add_eq_zero {a b : UInt8} : a ^^^ b = 0 ↔ a = b := by
  constructor
  · intro h; have := add_cancel a b; rw [h, add_zero] at this; exact this
  · rintro rfl; exact add_self _
theorem mul_ne {a b : UInt8} (h1 : a ≠ 0) (h2 : b ≠ 0) : mul a b ≠ 0 := by
  intro h
  have h' := congrArg UInt8.toNat h
  rw [mul_nat] at h'
  exact gm_ne a.toNat_lt b.toNat_lt (fun e => h1 (byte_ext e)) (fun e => h2 (byte_ext e)) h'
theorem mul_eq_zero {a b : UInt8} : mul a b = 0 ↔ a = 0 ∨ b = 0 := by
  constructor
  · intro h
    by_cases h1 : a = 0
    · exact .inl h1
    by_cases h2 : b = 0
    · exact .inr h2
    exact absurd h (mul_ne h1 h2)
  · rintro (rfl | rfl)
    · exact zero_mul _
    · exact mul_zero _
theorem square_add (a b : UInt8) : mul (a ^^^ b) (a ^^^ b) = mul a a ^^^ mul b b := by
  rw [add_mul, mul_add, mul_add, mul_comm b a, add_assoc, ← add_assoc (mul a b) (mul a b), add_self, zero_add]

/-- power -/
def pow (a : UInt8) : Nat → UInt8
  | 0 => 1
  | n + 1 => mul a (pow a n)
theorem pow_add (a : UInt8) (m : Nat) : ∀ n, pow a (n + m) = mul (pow a n) (pow a m)
  | 0 => by rw [Nat.zero_add]; exact (one_mul _).symm
  | n + 1 => by
    rw [show n + 1 + m = (n + m) + 1 by omega]
    show mul a (pow a (n + m)) = mul (mul a (pow a n)) (pow a m)
    rw [pow_add a m n, mul_assoc]
theorem pow_mul (a : UInt8) (m : Nat) : ∀ n, pow a (m * n) = pow (pow a m) n
  | 0 => rfl
  | n + 1 => by
    rw [Nat.mul_add, Nat.mul_one, Nat.add_comm, pow_add, pow_mul a m n]; rfl
theorem mul_pow (a b : UInt8) : ∀ n, pow (mul a b) n = mul (pow a n) (pow b n)
  | 0 => (one_mul _).symm
  | n + 1 => by
    show mul (mul a b) (pow (mul a b) n) = mul (mul a (pow a n)) (mul b (pow b n))
    rw [mul_pow a b n, mul_assoc, mul_assoc, mul_left_comm b]
theorem one_pow : ∀ n, pow 1 n = 1
  | 0 => rfl
  | n + 1 => by show mul 1 (pow 1 n) = 1; rw [one_pow n, one_mul]
theorem pow_two : ∀ n, (pow 2 n).toNat = pw n
  | 0 => rfl
  | n + 1 => by
    show (mul 2 (pow 2 n)).toNat = xt (pw n)
    rw [mul_nat, pow_two n]
    have h2 : (2 : UInt8).toNat = xt 1 := by decide
    rw [h2, gm_xt _ (by omega), gm_one (pw_lt n)]
theorem pow_two_255 : pow 2 255 = 1 := byte_ext (by rw [pow_two]; exact pw_255)
def log (a : UInt8) : Nat := lg a.toNat
theorem nat_ne {a : UInt8} (h : a ≠ 0) : a.toNat ≠ 0 := fun e => h (byte_ext e)
theorem pow_log {a : UInt8} (h : a ≠ 0) : pow 2 (log a) = a := byte_ext (by rw [pow_two]; exact (pw_lg a.toNat_lt (nat_ne h)).1)
theorem log_lt {a : UInt8} (h : a ≠ 0) : log a < 255 := (pw_lg a.toNat_lt (nat_ne h)).2
theorem pow_two_ne (n : Nat) : pow 2 n ≠ 0 := fun h => pw_ne n (by rw [← pow_two, h]; rfl)
theorem pow_two_inj {i j : Nat} (hi : i < 255) (hj : j < 255) (h : pow 2 i = pow 2 j) : i = j :=
  pw_inj hi hj (by rw [← pow_two, ← pow_two, h])
theorem log_pow {n : Nat} (h : n < 255) : log (pow 2 n) = n :=
  pow_two_inj (log_lt (pow_two_ne n)) h (pow_log (pow_two_ne n))
theorem pow_255 {a : UInt8} (h : a ≠ 0) : pow a 255 = 1 := by
  rw [← pow_log h, ← pow_mul, Nat.mul_comm, pow_mul, pow_two_255, one_pow]
theorem pow_mod {a : UInt8} (h : a ≠ 0) (n : Nat) : pow a (n % 255) = pow a n := by
  have := Nat.mod_add_div n 255
  rw [← this, pow_add, pow_mul, pow_255 h, one_pow, mul_one, Nat.add_mul_mod_self_left, Nat.mod_mod]
theorem zero_pow {n : Nat} (h : n ≠ 0) : pow 0 n = 0 := by
  obtain ⟨k, rfl⟩ := Nat.exists_eq_succ_of_ne_zero h
  exact zero_mul _
theorem pow_ne {a : UInt8} (h : a ≠ 0) : ∀ n, pow a n ≠ 0
  | 0 => show (1 : UInt8) ≠ 0 by decide
  | n + 1 => mul_ne h (pow_ne h n)
/-- inverse -/
def inv (a : UInt8) : UInt8 := pow a 254
theorem mul_inv {a : UInt8} (h : a ≠ 0) : mul a (inv a) = 1 := pow_255 h
theorem inv_mul {a : UInt8} (h : a ≠ 0) : mul (inv a) a = 1 := by rw [mul_comm, mul_inv h]
theorem inv_ne {a : UInt8} (h : a ≠ 0) : inv a ≠ 0 := pow_ne h _
theorem inv_zero : inv 0 = 0 := zero_pow (by decide)
theorem inv_unique {a b : UInt8} (h : mul a b = 1) : b = inv a := by
  have h0 : a ≠ 0 := by rintro rfl; rw [zero_mul] at h; exact absurd h (by decide)
  have := congrArg (mul (inv a)) h
  rw [← mul_assoc, inv_mul h0, one_mul, mul_one] at this; exact this
theorem mul_cancel {a b c : UInt8} (h : a ≠ 0) (e : mul a b = mul a c) : b = c := by
  have := congrArg (mul (inv a)) e
  rwa [← mul_assoc, ← mul_assoc, inv_mul h, one_mul, one_mul] at this
end Go.Proofs.YtneebcniofolmaaGreatDoor.Gf
