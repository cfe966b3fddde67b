/- The references' product of elements is the field's: plain numbers. · The walks of the references' elements: sums, products, inverses, powers. -/
import Derived.Test.YtneebcniofolmaaGreatDoorGf
import Derived.Test.YtneebcniofolmaaGreatDoorQuiD
import Derived.Deep.LoopGhost
import Derived.IntWalk
namespace Go.Proofs.YtneebcniofolmaaGreatDoor.Gf

/-- bit by bit, without taking away -/
def clF : Nat → Nat → Nat → Nat → Nat
  | 0, n, _, _ => n
  | f + 1, n, x, y => clF f (if y % 2 = 1 then n ^^^ x else n) (2 * x) (y / 2)
/-- what is beyond is taken away, from bit k on -/
def redF : Nat → Nat → Nat → Nat → Nat
  | 0, n, _, _ => n
  | f + 1, n, k, r => redF f (if n / k % 2 = 1 then n ^^^ r else n) (k / 2) (r / 2)
def rm (a b : Nat) : Nat := redF 8 (clF 8 0 a b) 32768 36480

theorem clF_xor : ∀ (f n m x x' y : Nat), clF f (n ^^^ m) (x ^^^ x') y = clF f n x y ^^^ clF f m x' y
  | 0, _, _, _, _, _ => rfl
  | f + 1, n, m, x, x', y => by
    unfold clF
    rw [two_xor]
    split
    · rw [show n ^^^ m ^^^ (x ^^^ x') = (n ^^^ x) ^^^ (m ^^^ x') by ac_rfl]; exact clF_xor f _ _ _ _ _
    · exact clF_xor f _ _ _ _ _
theorem bit_xor (n m i : Nat) : (n ^^^ m) / 2 ^ i % 2 = (n / 2 ^ i % 2 + m / 2 ^ i % 2) % 2 := by
  have h : (n ^^^ m).testBit i = (n.testBit i ^^ m.testBit i) := Nat.testBit_xor ..
  simp only [Nat.testBit_eq_decide_div_mod_eq] at h
  have h1 := Nat.mod_two_eq_zero_or_one (n / 2 ^ i)
  have h2 := Nat.mod_two_eq_zero_or_one (m / 2 ^ i)
  have h3 := Nat.mod_two_eq_zero_or_one ((n ^^^ m) / 2 ^ i)
  rcases h1 with h1 | h1 <;> rcases h2 with h2 | h2 <;> rcases h3 with h3 | h3 <;> simp [h1, h2, h3] at h ⊢
theorem redF_xor : ∀ (f i n m r : Nat), f ≤ i + 1 → redF f (n ^^^ m) (2 ^ i) r = redF f n (2 ^ i) r ^^^ redF f m (2 ^ i) r
  | 0, _, _, _, _, _ => rfl
  | f + 1, i, n, m, r, h => by
    unfold redF
    have hb := bit_xor n m i
    have key : ∀ n' m' : Nat, redF f (n' ^^^ m') (2 ^ i / 2) (r / 2) = redF f n' (2 ^ i / 2) (r / 2) ^^^ redF f m' (2 ^ i / 2) (r / 2) := by
      intro n' m'
      cases i with
      | zero =>
        have : f = 0 := by omega
        subst this; rfl
      | succ i =>
        rw [show 2 ^ (i + 1) / 2 = 2 ^ i by rw [Nat.pow_succ]; omega]
        exact redF_xor f i n' m' (r / 2) (by omega)
    have h1 := Nat.mod_two_eq_zero_or_one (n / 2 ^ i)
    have h2 := Nat.mod_two_eq_zero_or_one (m / 2 ^ i)
    rw [← key]
    congr 1
    rw [hb]
    rcases h1 with h1 | h1 <;> rcases h2 with h2 | h2 <;> simp only [h1, h2] <;> simp
    · rw [Nat.xor_assoc]
    · ac_rfl
    · rw [show n ^^^ r ^^^ (m ^^^ r) = n ^^^ m ^^^ (r ^^^ r) by ac_rfl, Nat.xor_self, Nat.xor_zero]
theorem rm_xor (a a' b : Nat) : rm (a ^^^ a') b = rm a b ^^^ rm a' b := by
  unfold rm
  have h := clF_xor 8 0 0 a a' b
  rw [Nat.xor_self] at h
  rw [h]
  exact redF_xor 8 15 _ _ 36480 (by omega)
theorem rm_basis : ∀ b, b < 256 → ∀ k, k < 8 → rm (2 ^ k) b = gm (2 ^ k) b := by decide +kernel
theorem rm_zero : ∀ b, b < 256 → rm 0 b = gm 0 b := by decide +kernel
theorem top_xor {a k : Nat} (h1 : 2 ^ k ≤ a) (h2 : a < 2 ^ (k + 1)) : a = (a - 2 ^ k) ^^^ 2 ^ k := by
  have hlt : a - 2 ^ k < 2 ^ k := by have := Nat.pow_succ 2 k; omega
  have := Nat.two_pow_add_eq_or_of_lt hlt 1
  rw [Nat.mul_one] at this
  apply Nat.eq_of_testBit_eq
  intro i
  rw [Nat.testBit_xor, Nat.testBit_two_pow]
  by_cases hi : k = i
  · subst hi
    have e1 : a.testBit k = true := by
      rw [Nat.testBit_eq_decide_div_mod_eq]
      have : a / 2 ^ k = 1 := by
        apply Nat.div_eq_of_lt_le <;> (have := Nat.pow_succ 2 k; omega)
      rw [this]; rfl
    have e2 : (a - 2 ^ k).testBit k = false := Nat.testBit_lt_two_pow hlt
    rw [e1, e2]; simp
  · rw [decide_eq_false hi, Bool.xor_false]
    have e : a = 2 ^ k + (a - 2 ^ k) := by omega
    conv => lhs; rw [e]
    rcases Nat.lt_or_gt_of_ne hi with h | h
    · have e1 : (2 ^ k + (a - 2 ^ k)).testBit i = false := Nat.testBit_lt_two_pow (Nat.lt_of_lt_of_le (by omega) (Nat.pow_le_pow_right (by omega) (show k + 1 ≤ i by omega)))
      have e2 : (a - 2 ^ k).testBit i = false := Nat.testBit_lt_two_pow (Nat.lt_of_lt_of_le hlt (Nat.pow_le_pow_right (by omega) (by omega)))
      rw [e1, e2]
    · exact Nat.testBit_two_pow_add_gt h _
theorem rm_eq : ∀ k, k ≤ 8 → ∀ a, a < 2 ^ k → ∀ b, b < 256 → rm a b = gm a b
  | 0, _, a, h, b, hb => by
    obtain rfl : a = 0 := by simpa using h
    exact rm_zero b hb
  | k + 1, hk, a, h, b, hb => by
    have ha : a < 256 := Nat.lt_of_lt_of_le h (Nat.pow_le_pow_right (n := 2) (by omega) (show k + 1 ≤ 8 by omega))
    by_cases h1 : a < 2 ^ k
    · exact rm_eq k (by omega) a h1 b hb
    · have e := top_xor (by omega) h
      have hlt : a - 2 ^ k < 2 ^ k := by have := Nat.pow_succ 2 k; omega
      have h2 : 2 ^ k < 256 := Nat.lt_of_le_of_lt (by omega) ha
      rw [e, rm_xor, rm_eq k (by omega) _ hlt b hb, rm_basis b hb k (by omega), gm_xor b (by omega) h2]
theorem rm_gm {a b : Nat} (ha : a < 256) (hb : b < 256) : rm a b = gm a b := rm_eq 8 (by omega) a ha b hb

/-- exclusive or, bit by bit -/
theorem xor_step (a b i : Nat) : (a ^^^ b) % 2 ^ (i + 1) = (a ^^^ b) % 2 ^ i + (if a / 2 ^ i % 2 ≠ b / 2 ^ i % 2 then 2 ^ i else 0) := by
  have h := bit_xor a b i
  have e : (a ^^^ b) % 2 ^ (i + 1) = (a ^^^ b) % 2 ^ i + 2 ^ i * ((a ^^^ b) / 2 ^ i % 2) := by
    rw [Nat.pow_succ, Nat.mod_mul]
  have h1 := Nat.mod_two_eq_zero_or_one (a / 2 ^ i)
  have h2 := Nat.mod_two_eq_zero_or_one (b / 2 ^ i)
  rw [e, h]
  rcases h1 with h1 | h1 <;> rcases h2 with h2 | h2 <;> simp [h1, h2]
end Go.Proofs.YtneebcniofolmaaGreatDoor.Gf
namespace Go.Proofs.YtneebcniofolmaaGreatDoor
open Go.ChangeShapes Go.WideShapes Go.ChangeAt Go.RowKit
set_option linter.unusedVariables false

def XorRel (a b : Nat) (w : World) (gk : Nat) (n k i : Value) (wr : World) : Prop :=
  ∃ (q p s nd : Nat), q + gk = 16 ∧ p = 2 ^ q ∧ s = (a ^^^ b) % 2 ^ q ∧ n = iv s ∧ k = iv p ∧ i = iv q ∧ wr = w.drewN nd
set_option maxRecDepth 100000 in
set_option maxHeartbeats 1000000 in
theorem xor_any (a b : Nat) (ha : a < 65536) (hb : b < 65536) (x y : Int) (hx : x = a) (hy : y = b) (w : World) :
    Calls Tryz.prog 91 #[iv x, iv y] w fun e w' => e = .returned (iv ((a ^^^ b : Nat) : Int)) ∧ ∃ n, w.drewN n = w' := by
  subst hx hy
  go_enter Tryz.func91, Tryz.ntmps91
  go_wp2_with fail
  go_loopg [5, 6, 7] 16 (fun gk n k i wr => XorRel a b w gk n k i wr)
  case atStart => exact ⟨0, 1, 0, 0, rfl, rfl, by simp [Nat.mod_one], rfl, rfl, rfl, rfl⟩
  case round =>
    obtain ⟨q, p, s, nd, hq, hp, hs, rfl, rfl, rfl, rfl⟩ := hrel
    have hst := Gf.xor_step a b q
    rw [← hs, ← hp] at hst
    have hp1 : 1 ≤ p := by rw [hp]; exact Nat.one_le_two_pow
    have hp2 : q ≤ 16 := by omega
    have hp3 : p ≤ 65536 := by rw [hp]; exact Nat.pow_le_pow_right (n := 2) (by omega) hp2
    have hs2 : s < 65536 := by
      rw [hs]; exact Nat.lt_of_lt_of_le (Nat.mod_lt _ Nat.one_le_two_pow) (by rw [← hp]; exact hp3)
    have da1 : 0 ≤ (a : Int) / (p : Int) := Int.ediv_nonneg (by omega) (by omega)
    have db1 : 0 ≤ (b : Int) / (p : Int) := Int.ediv_nonneg (by omega) (by omega)
    have da2 : (a : Int) / (p : Int) ≤ 65535 := by rw [← Int.natCast_ediv]; have := Nat.div_le_self a p; omega
    have db2 : (b : Int) / (p : Int) ≤ 65535 := by rw [← Int.natCast_ediv]; have := Nat.div_le_self b p; omega
    have wa : IntKind.i64.wrap ((a : Int) / (p : Int)) = (a : Int) / (p : Int) := IntWalk.i64_in _ (by omega)
    have wb : IntKind.i64.wrap ((b : Int) / (p : Int)) = (b : Int) / (p : Int) := IntWalk.i64_in _ (by omega)
    have Hq := Lib.hid hq
    have Hp := Lib.hid hp
    have Hs := Lib.hid hs
    by_cases hlt : q < 16
    · have hqi : (q : Int) < 16 := by omega
      by_cases ht : a / p % 2 = b / p % 2
      case' pos =>
        have t1 : ((a : Int) / (p : Int) % 2 != (b : Int) / (p : Int) % 2) = false := bne_f (by rw [← Int.natCast_ediv, ← Int.natCast_ediv]; omega)
        rw [if_neg (by rw [ht]; simp)] at hst
      case' neg =>
        have t1 : ((a : Int) / (p : Int) % 2 != (b : Int) / (p : Int) % 2) = true := bne_t (by rw [← Int.natCast_ediv, ← Int.natCast_ediv]; omega)
        rw [if_pos ht] at hst
      all_goals
        have Hst := Lib.hid hst
        clear hq hp hs hst ht
        go_wp2_with fail
        go_quiet (fail)
        go_wp2_with fail
        go_roundg (gk - 1)
        case measure => have := Hq.out; omega
        case rel => exact ⟨q + 1, 2 * p, _, _, by have := Hq.out; omega, by rw [Hp.out, Nat.pow_succ]; omega, Hst.out.symm, by go_num, by go_num, by go_num, rfl⟩
    · obtain rfl : q = 16 := by omega
      have hfin : s = a ^^^ b := by
        rw [hs]; exact Nat.mod_eq_of_lt (Nat.xor_lt_two_pow (n := 16) ha hb)
      have Hfin := Lib.hid hfin
      clear hq hp hs hst hfin
      go_wp2_with fail
      go_ret
      exact ⟨ret_iv (by rw [Hfin.out]), _, rfl⟩

theorem wrap_u8_small (n : Nat) (h : n < 256) : IntKind.u8.wrap (n : Int) = n := by
  simp [IntKind.wrap, IntKind.bits, IntKind.signed]; omega
theorem rplus_any (a b : UInt8) (x y : Int) (hx : x = a.toNat) (hy : y = b.toNat) (w : World) :
    Calls Tryz.prog 70 #[.int .u8 x, .int .u8 y] w fun e w' => e = .returned (bv (Gf.add a b)) ∧ ∃ n, w.drewN n = w' := by
  subst hx hy
  have h1 := a.toNat_lt
  have h2 := b.toNat_lt
  have hr : a.toNat ^^^ b.toNat = (Gf.add a b).toNat := by rw [Gf.add_def, Gf.xor_nat]
  have h3 := Gf.xor_lt h1 h2
  have hw := wrap_u8_small _ h3
  have hb0 : (0 : Int) ≤ ((a.toNat ^^^ b.toNat : Nat) : Int) := by omega
  have hb1 : ((a.toNat ^^^ b.toNat : Nat) : Int) < 256 := by omega
  have Hr := Lib.hid hr
  clear hr
  go_enter Tryz.func70, Tryz.ntmps70
  go_wp2_with fail
  refine (xor_any a.toNat b.toNat (by omega) (by omega) _ _ rfl rfl _).mono ?_
  rintro e w' ⟨rfl, n, rfl⟩
  generalize a.toNat ^^^ b.toNat = s at *
  go_wp2_with fail
  go_ret
  exact ⟨ret_u8 (by rw [Hr.out]), n, rfl⟩

def RMul1 (a b : Nat) (w : World) (gk : Nat) (n x y i : Value) (wr : World) : Prop :=
  ∃ (q s u v nd : Nat), q + gk = 8 ∧ Gf.clF gk s u v = Gf.clF 8 0 a b ∧ s < 65536 ∧ u = a * 2 ^ q ∧ v < 256 ∧ n = iv s ∧ x = iv u ∧ y = iv v ∧ i = iv q ∧ wr = w.drewN nd
def RMul2 (a b : Nat) (w : World) (gk : Nat) (n k r i : Value) (wr : World) : Prop :=
  ∃ (q s u v nd : Nat), q + gk = 8 ∧ Gf.redF gk s u v = Gf.rm a b ∧ s < 65536 ∧ u = 32768 / 2 ^ q ∧ v ≤ 36480 ∧ n = iv s ∧ k = iv u ∧ r = iv v ∧ i = iv q ∧ wr = w.drewN nd

set_option maxRecDepth 100000 in
set_option maxHeartbeats 2000000 in
theorem rmul_any (a b : UInt8) (x y : Int) (hx : x = a.toNat) (hy : y = b.toNat) (w : World) :
    Calls Tryz.prog 71 #[.int .u8 x, .int .u8 y] w fun e w' => e = .returned (bv (Gf.mul a b)) ∧ ∃ n, w.drewN n = w' := by
  subst hx hy
  have h1 := a.toNat_lt
  have h2 := b.toNat_lt
  have hr : Gf.rm a.toNat b.toNat = (Gf.mul a b).toNat := by rw [Gf.mul_nat, Gf.rm_gm h1 h2]
  have hlt := (Gf.mul a b).toNat_lt
  have Hr := Lib.hid hr
  generalize a.toNat = m at *
  generalize b.toNat = l at *
  clear hr
  go_enter Tryz.func71, Tryz.ntmps71
  go_wp2_with fail
  go_loopg [5, 6, 7, 8] 8 (fun gk n x y i wr => RMul1 m l w gk n x y i wr)
  case atStart => exact ⟨0, 0, m, l, 0, rfl, rfl, by omega, by simp, h2, rfl, rfl, rfl, rfl, rfl⟩
  case round =>
    obtain ⟨q, s, u, v, nd, hq, hcl, hs, hu, hv, rfl, rfl, rfl, rfl, rfl⟩ := hrel
    have hu2 : u ≤ 65280 := by
      rw [hu]
      have : 2 ^ q ≤ 2 ^ 8 := Nat.pow_le_pow_right (by omega) (by omega)
      exact Nat.le_trans (Nat.mul_le_mul (show m ≤ 255 by omega) this) (by decide)
    have Hq := Lib.hid hq
    have Hcl := Lib.hid hcl
    have Hu := Lib.hid hu
    by_cases hlt : q < 8
    · have hu3 : u < 65536 := by omega
      have hg1 : gk = gk - 1 + 1 := by omega
      have hcl2 := hcl
      rw [hg1] at hcl2
      by_cases ho : v % 2 = 1
      · have t1 : ((v : Int) % 2 == 1) = true := beq_t (by omega)
        have t2 : ((v : Int).tmod 2 == 1) = true := beq_t (by rw [Int.tmod_eq_emod_of_nonneg (by omega)]; omega)
        have hcl3 : Gf.clF (gk - 1) (s ^^^ u) (2 * u) (v / 2) = Gf.clF 8 0 m l := by
          rw [← hcl2]; show _ = Gf.clF (gk - 1) (if v % 2 = 1 then s ^^^ u else s) _ _; rw [if_pos ho]
        have hx : s ^^^ u < 65536 := Nat.xor_lt_two_pow (n := 16) hs hu3
        have Hcl3 := Lib.hid hcl3
        have hqi : (q : Int) < 8 := by omega
        clear hq hcl hu hcl2 hcl3 hg1 ho
        go_wp2_with fail
        refine (xor_any s u hs hu3 _ _ rfl rfl _).mono ?_
        rintro e w' ⟨rfl, n, rfl⟩
        generalize s ^^^ u = t at *
        go_wp2_with fail
        go_roundg (gk - 1)
        case measure => have := Hq.out; omega
        case rel => exact ⟨q + 1, t, 2 * u, v / 2, _, by have := Hq.out; omega, Hcl3.out, hx, by rw [Hu.out, Nat.pow_succ]; ac_rfl, by omega, by go_num, by go_num, by go_num, by go_num, rfl⟩
      · have t1 : ((v : Int) % 2 == 1) = false := beq_f (by omega)
        have t2 : ((v : Int).tmod 2 == 1) = false := beq_f (by rw [Int.tmod_eq_emod_of_nonneg (by omega)]; omega)
        have hcl3 : Gf.clF (gk - 1) s (2 * u) (v / 2) = Gf.clF 8 0 m l := by
          rw [← hcl2]; show _ = Gf.clF (gk - 1) (if v % 2 = 1 then s ^^^ u else s) _ _; rw [if_neg ho]
        have Hcl3 := Lib.hid hcl3
        have hqi : (q : Int) < 8 := by omega
        clear hq hcl hu hcl2 hcl3 hg1 ho
        go_wp2_with fail
        go_roundg (gk - 1)
        case measure => have := Hq.out; omega
        case rel => exact ⟨q + 1, s, 2 * u, v / 2, _, by have := Hq.out; omega, Hcl3.out, hs, by rw [Hu.out, Nat.pow_succ]; ac_rfl, by omega, by go_num, by go_num, by go_num, by go_num, rfl⟩
    · have hg0 : gk = 0 := by omega
      have hq8 : q = 8 := by omega
      have hs2 : s = Gf.clF 8 0 m l := by rw [← hcl, hg0]; rfl
      have Hs2 := Lib.hid hs2
      have hqi : ¬ (q : Int) < 8 := by omega
      clear hq hcl hu hs2 hg0 hq8 hlt
      obtain ⟨wo, hwo⟩ : ∃ x : World, x = w.drewN nd := ⟨_, rfl⟩
      have Hwo := Lib.hid (show ∃ n, wo = w.drewN n from ⟨nd, hwo⟩)
      rw [← hwo]
      clear hwo
      go_wp2_with fail
      go_loopg [5, 9, 10, 11] 8 (fun gk n k r i wr => RMul2 m l wo gk n k r i wr)
      case atStart => exact ⟨0, s, 32768, 36480, 0, rfl, by rw [Hs2.out]; rfl, hs, by decide, by omega, rfl, rfl, rfl, rfl, rfl⟩
      case round =>
        obtain ⟨q, s, u, v, nd, hq, hcl, hs, hu, hv, rfl, rfl, rfl, rfl, rfl⟩ := hrel
        have hu2 : u ≤ 32768 := by rw [hu]; exact Nat.div_le_self _ _
        have Hq := Lib.hid hq
        have Hcl := Lib.hid hcl
        have Hu := Lib.hid hu
        by_cases hlt : q < 8
        · have hu1 : 1 ≤ u := by
            rw [hu]
            have h8 : 2 ^ q ≤ 2 ^ 8 := Nat.pow_le_pow_right (by omega) (by omega)
            exact (Nat.le_div_iff_mul_le (Nat.two_pow_pos q)).2 (by omega)
          have hg1 : gk = gk - 1 + 1 := by omega
          have hcl2 := hcl
          rw [hg1] at hcl2
          have da1 : 0 ≤ (s : Int) / (u : Int) := Int.ediv_nonneg (by omega) (by omega)
          have da2 : (s : Int) / (u : Int) ≤ 65535 := by rw [← Int.natCast_ediv]; have := Nat.div_le_self s u; omega
          have hqi : (q : Int) < 8 := by omega
          have hu' : u / 2 = 32768 / 2 ^ (q + 1) := by rw [hu, Nat.div_div_eq_div_mul, Nat.pow_succ]
          have Hu' := Lib.hid hu'
          by_cases ho : s / u % 2 = 1
          · have t1 : ((s : Int) / (u : Int) % 2 == 1) = true := beq_t (by rw [← Int.natCast_ediv]; omega)
            have hcl3 : Gf.redF (gk - 1) (s ^^^ v) (u / 2) (v / 2) = Gf.rm m l := by
              rw [← hcl2]; show _ = Gf.redF (gk - 1) (if s / u % 2 = 1 then s ^^^ v else s) _ _; rw [if_pos ho]
            have hx : s ^^^ v < 65536 := Nat.xor_lt_two_pow (n := 16) hs (show v < 2 ^ 16 by omega)
            have hv3 : v < 65536 := by omega
            have Hcl3 := Lib.hid hcl3
            clear hq hcl hu hcl2 hcl3 hg1 ho hu'
            go_wp2_with fail
            refine (xor_any s v hs hv3 _ _ rfl rfl _).mono ?_
            rintro e w' ⟨rfl, n, rfl⟩
            generalize s ^^^ v = t at *
            go_wp2_with fail
            go_roundg (gk - 1)
            case measure => have := Hq.out; omega
            case rel => exact ⟨q + 1, t, u / 2, v / 2, _, by have := Hq.out; omega, Hcl3.out, hx, Hu'.out, by omega, by go_num, by go_num, by go_num, by go_num, rfl⟩
          · have t1 : ((s : Int) / (u : Int) % 2 == 1) = false := beq_f (by rw [← Int.natCast_ediv]; omega)
            have hcl3 : Gf.redF (gk - 1) s (u / 2) (v / 2) = Gf.rm m l := by
              rw [← hcl2]; show _ = Gf.redF (gk - 1) (if s / u % 2 = 1 then s ^^^ v else s) _ _; rw [if_neg ho]
            have Hcl3 := Lib.hid hcl3
            clear hq hcl hu hcl2 hcl3 hg1 ho hu'
            go_wp2_with fail
            go_roundg (gk - 1)
            case measure => have := Hq.out; omega
            case rel => exact ⟨q + 1, s, u / 2, v / 2, _, by have := Hq.out; omega, Hcl3.out, hs, Hu'.out, by omega, by go_num, by go_num, by go_num, by go_num, rfl⟩
        · have hg0 : gk = 0 := by omega
          have hs2 : s = (Gf.mul a b).toNat := by rw [← Hr.out, ← hcl, hg0]; rfl
          have hs3 : s < 256 := by omega
          have Hs2 := Lib.hid hs2
          have hqi : ¬ (q : Int) < 8 := by omega
          clear hq hcl hu hs2 hg0 hlt
          go_wp2_with fail
          go_ret
          obtain ⟨nn, hnn⟩ := Hwo.out
          exact ⟨ret_u8 (by rw [Hs2.out]), nn + nd, by rw [hnn, World.drewN_drewN]⟩
end Go.Proofs.YtneebcniofolmaaGreatDoor
