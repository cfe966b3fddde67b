/- The walk of the law FieldHolds: it returns true. -/
import Derived.Test.YtloaekdijpcmiaaFieldL
namespace Go.Proofs.Ytloaekdijpcmiaa
open Go.ChangeShapes Go.WideShapes Go.ChangeAt Go.RowKit

theorem bne_of_beq_u8 {x : Int} {y : Int} {b : Bool} (h : (x == y) = b) : (x != y) = !b := by rw [bne, h]

set_option maxRecDepth 100000 in
set_option maxHeartbeats 1000000 in
theorem fieldHolds_zz (a b c : UInt8) (n m : Int) (hn : -9223372036854775808 ≤ n ∧ n ≤ 9223372036854775807) (hm : -9223372036854775808 ≤ m ∧ m ≤ 9223372036854775807) (ha : a = 0) (hb : b = 0) (w : World) :
    Calls Try.prog 6 #[.int .u8 a.toNat, .int .u8 b.toNat, .int .u8 c.toNat, .int .i64 n, .int .i64 m] w fun e w' => e = .returned (.bool true) ∧ Below w.heap.size w w' := by
  have k1 : (((Gf.mul 2 128).toNat : Int) != 29) = false := by decide +kernel
  have k2 : (((Gf.add 5 6).toNat : Int) != 3) = false := by decide +kernel
  have k3 : (((Gf.mul a b).toNat : Int) == (Gf.mul b a).toNat) = true := beq_byte (Gf.mul_comm _ _)
  have k4 : (((Gf.mul (Gf.mul a b) c).toNat : Int) == (Gf.mul a (Gf.mul b c)).toNat) = true := beq_byte (Gf.mul_assoc _ _ _)
  have k5 : (((Gf.mul a (Gf.add b c)).toNat : Int) == (Gf.add (Gf.mul a b) (Gf.mul a c)).toNat) = true := beq_byte (Gf.mul_add _ _ _)
  have k6 : (((Gf.add a a).toNat : Int) == 0) = true := by rw [Gf.add_def, Gf.add_self]; rfl
  have k7 : (((Gf.mul a 1).toNat : Int) == a.toNat) = true := beq_byte (Gf.mul_one _)
  have a1 : ((a.toNat : Int) != 0) = false := by rw [ha]; rfl
  have za := Lib.hid (show (a.toNat : Int) = 0 by rw [ha]; rfl)
  have b1 : ((b.toNat : Int) != 0) = false := by rw [hb]; rfl
  have zb := Lib.hid (show (b.toNat : Int) = 0 by rw [hb]; rfl)
  have p1 : (((Gf.mul a b).toNat : Int) == 0) = true := by rw [Gf.mul_eq_zero.2 (Or.inl ha)]; rfl
  have Ha := Lib.hid ha
  have Hb := Lib.hid hb
  clear ha hb
  go_enter Try.func6, Try.ntmps6
  go_wp2_with fail
  refine (mul_any 2 128 _ _ rfl rfl _).mono ?_
  rintro e w' ⟨rfl, rfl⟩
  go_wp2_with fail
  refine (add_any 5 6 _ _ rfl rfl _).mono ?_
  rintro e w' ⟨rfl, rfl⟩
  go_wp2_with fail
  refine (mul_any a b _ _ rfl rfl _).mono ?_
  rintro e w' ⟨rfl, rfl⟩
  go_wp2_with fail
  refine (mul_any b a _ _ rfl rfl _).mono ?_
  rintro e w' ⟨rfl, rfl⟩
  go_wp2_with fail
  refine (mul_any (Gf.mul a b) c _ _ rfl rfl _).mono ?_
  rintro e w' ⟨rfl, rfl⟩
  go_wp2_with fail
  refine (mul_any b c _ _ rfl rfl _).mono ?_
  rintro e w' ⟨rfl, rfl⟩
  go_wp2_with fail
  refine (mul_any a (Gf.mul b c) _ _ rfl rfl _).mono ?_
  rintro e w' ⟨rfl, rfl⟩
  go_wp2_with fail
  refine (add_any b c _ _ rfl rfl _).mono ?_
  rintro e w' ⟨rfl, rfl⟩
  go_wp2_with fail
  refine (mul_any a (Gf.add b c) _ _ rfl rfl _).mono ?_
  rintro e w' ⟨rfl, rfl⟩
  go_wp2_with fail
  refine (mul_any a c _ _ rfl rfl _).mono ?_
  rintro e w' ⟨rfl, rfl⟩
  go_wp2_with fail
  refine (add_any (Gf.mul a b) (Gf.mul a c) _ _ rfl rfl _).mono ?_
  rintro e w' ⟨rfl, rfl⟩
  go_wp2_with fail
  refine (add_any a a _ _ rfl rfl _).mono ?_
  rintro e w' ⟨rfl, rfl⟩
  go_wp2_with fail
  refine (mul_any a 1 _ _ rfl rfl _).mono ?_
  rintro e w' ⟨rfl, rfl⟩
  go_wp2_with fail
  refine (inv_no _ za.out _).mono ?_
  rintro e w' ⟨rfl, rfl⟩
  go_wp2_with fail
  refine (div_no _ _ zb.out _).mono ?_
  rintro e w' ⟨rfl, rfl⟩
  go_wp2_with fail
  refine (log_no _ za.out _).mono ?_
  rintro e w' ⟨rfl, rfl⟩
  go_wp2_with fail
  refine (pow_yes 2 0 _ _ rfl rfl (by decide) _).mono ?_
  rintro e w' ⟨rfl, rfl⟩
  by_cases c1 : n < 0
  · go_wp2_with fail
    go_ret
    exact ⟨rfl, Below.refl _ _⟩
  by_cases c2 : m < 0
  · go_wp2_with fail
    go_ret
    exact ⟨rfl, Below.refl _ _⟩
  by_cases c3 : 1000000 < n
  · go_wp2_with fail
    go_ret
    exact ⟨rfl, Below.refl _ _⟩
  by_cases c4 : 1000000 < m
  · go_wp2_with fail
    go_ret
    exact ⟨rfl, Below.refl _ _⟩
  obtain ⟨i, hi⟩ : ∃ i : Nat, n = i := ⟨n.toNat, by omega⟩
  obtain ⟨j, hj⟩ : ∃ j : Nat, m = j := ⟨m.toNat, by omega⟩
  have Hi := Lib.hid hi
  have Hj := Lib.hid hj
  have e12 : (((Gf.mul (Gf.pow a i) (Gf.pow a j)).toNat : Int) == (Gf.pow a (i + j)).toNat) = true := beq_byte (Gf.pow_add a j i).symm
  have hi' : i ≤ 1000000 := by omega
  have hj' : j ≤ 1000000 := by omega
  clear hi hj
  go_wp2_with fail
  refine (pow_yes a i _ _ rfl Hi.out (by omega) _).mono ?_
  rintro e w' ⟨rfl, rfl⟩
  go_wp2_with fail
  refine (pow_yes a j _ _ rfl Hj.out (by omega) _).mono ?_
  rintro e w' ⟨rfl, rfl⟩
  go_wp2_with fail
  refine (pow_yes a (i + j) _ _ rfl (by rw [Hi.out, Hj.out]; omega) (by omega) _).mono ?_
  rintro e w' ⟨rfl, rfl⟩
  go_wp2_with fail
  refine (mul_any (Gf.pow a i) (Gf.pow a j) _ _ rfl rfl _).mono ?_
  rintro e w' ⟨rfl, rfl⟩
  go_wp2_with fail
  go_ret
  exact ⟨rfl, Below.refl _ _⟩

set_option maxRecDepth 100000 in
set_option maxHeartbeats 1000000 in
theorem fieldHolds_zn (a b c : UInt8) (n m : Int) (hn : -9223372036854775808 ≤ n ∧ n ≤ 9223372036854775807) (hm : -9223372036854775808 ≤ m ∧ m ≤ 9223372036854775807) (ha : a = 0) (hb : b ≠ 0) (w : World) :
    Calls Try.prog 6 #[.int .u8 a.toNat, .int .u8 b.toNat, .int .u8 c.toNat, .int .i64 n, .int .i64 m] w fun e w' => e = .returned (.bool true) ∧ Below w.heap.size w w' := by
  have k1 : (((Gf.mul 2 128).toNat : Int) != 29) = false := by decide +kernel
  have k2 : (((Gf.add 5 6).toNat : Int) != 3) = false := by decide +kernel
  have k3 : (((Gf.mul a b).toNat : Int) == (Gf.mul b a).toNat) = true := beq_byte (Gf.mul_comm _ _)
  have k4 : (((Gf.mul (Gf.mul a b) c).toNat : Int) == (Gf.mul a (Gf.mul b c)).toNat) = true := beq_byte (Gf.mul_assoc _ _ _)
  have k5 : (((Gf.mul a (Gf.add b c)).toNat : Int) == (Gf.add (Gf.mul a b) (Gf.mul a c)).toNat) = true := beq_byte (Gf.mul_add _ _ _)
  have k6 : (((Gf.add a a).toNat : Int) == 0) = true := by rw [Gf.add_def, Gf.add_self]; rfl
  have k7 : (((Gf.mul a 1).toNat : Int) == a.toNat) = true := beq_byte (Gf.mul_one _)
  have a1 : ((a.toNat : Int) != 0) = false := by rw [ha]; rfl
  have za := Lib.hid (show (a.toNat : Int) = 0 by rw [ha]; rfl)
  have b1 : ((b.toNat : Int) != 0) = true := bne_of_beq_u8 (bv_ne hb)
  have b10 : (((Gf.mul (Gf.mul a b) (Gf.inv b)).toNat : Int) != a.toNat) = false := bne_byte (by rw [Gf.mul_assoc, Gf.mul_inv hb, Gf.mul_one])
  have p1 : (((Gf.mul a b).toNat : Int) == 0) = true := by rw [Gf.mul_eq_zero.2 (Or.inl ha)]; rfl
  have Ha := Lib.hid ha
  have Hb := Lib.hid hb
  clear ha hb
  go_enter Try.func6, Try.ntmps6
  go_wp2_with fail
  refine (mul_any 2 128 _ _ rfl rfl _).mono ?_
  rintro e w' ⟨rfl, rfl⟩
  go_wp2_with fail
  refine (add_any 5 6 _ _ rfl rfl _).mono ?_
  rintro e w' ⟨rfl, rfl⟩
  go_wp2_with fail
  refine (mul_any a b _ _ rfl rfl _).mono ?_
  rintro e w' ⟨rfl, rfl⟩
  go_wp2_with fail
  refine (mul_any b a _ _ rfl rfl _).mono ?_
  rintro e w' ⟨rfl, rfl⟩
  go_wp2_with fail
  refine (mul_any (Gf.mul a b) c _ _ rfl rfl _).mono ?_
  rintro e w' ⟨rfl, rfl⟩
  go_wp2_with fail
  refine (mul_any b c _ _ rfl rfl _).mono ?_
  rintro e w' ⟨rfl, rfl⟩
  go_wp2_with fail
  refine (mul_any a (Gf.mul b c) _ _ rfl rfl _).mono ?_
  rintro e w' ⟨rfl, rfl⟩
  go_wp2_with fail
  refine (add_any b c _ _ rfl rfl _).mono ?_
  rintro e w' ⟨rfl, rfl⟩
  go_wp2_with fail
  refine (mul_any a (Gf.add b c) _ _ rfl rfl _).mono ?_
  rintro e w' ⟨rfl, rfl⟩
  go_wp2_with fail
  refine (mul_any a c _ _ rfl rfl _).mono ?_
  rintro e w' ⟨rfl, rfl⟩
  go_wp2_with fail
  refine (add_any (Gf.mul a b) (Gf.mul a c) _ _ rfl rfl _).mono ?_
  rintro e w' ⟨rfl, rfl⟩
  go_wp2_with fail
  refine (add_any a a _ _ rfl rfl _).mono ?_
  rintro e w' ⟨rfl, rfl⟩
  go_wp2_with fail
  refine (mul_any a 1 _ _ rfl rfl _).mono ?_
  rintro e w' ⟨rfl, rfl⟩
  go_wp2_with fail
  refine (inv_no _ za.out _).mono ?_
  rintro e w' ⟨rfl, rfl⟩
  go_wp2_with fail
  refine (div_yes (Gf.mul a b) b _ _ rfl rfl Hb.out _).mono ?_
  rintro e w' ⟨rfl, rfl⟩
  go_wp2_with fail
  refine (log_no _ za.out _).mono ?_
  rintro e w' ⟨rfl, rfl⟩
  go_wp2_with fail
  refine (pow_yes 2 0 _ _ rfl rfl (by decide) _).mono ?_
  rintro e w' ⟨rfl, rfl⟩
  by_cases c1 : n < 0
  · go_wp2_with fail
    go_ret
    exact ⟨rfl, Below.refl _ _⟩
  by_cases c2 : m < 0
  · go_wp2_with fail
    go_ret
    exact ⟨rfl, Below.refl _ _⟩
  by_cases c3 : 1000000 < n
  · go_wp2_with fail
    go_ret
    exact ⟨rfl, Below.refl _ _⟩
  by_cases c4 : 1000000 < m
  · go_wp2_with fail
    go_ret
    exact ⟨rfl, Below.refl _ _⟩
  obtain ⟨i, hi⟩ : ∃ i : Nat, n = i := ⟨n.toNat, by omega⟩
  obtain ⟨j, hj⟩ : ∃ j : Nat, m = j := ⟨m.toNat, by omega⟩
  have Hi := Lib.hid hi
  have Hj := Lib.hid hj
  have e12 : (((Gf.mul (Gf.pow a i) (Gf.pow a j)).toNat : Int) == (Gf.pow a (i + j)).toNat) = true := beq_byte (Gf.pow_add a j i).symm
  have hi' : i ≤ 1000000 := by omega
  have hj' : j ≤ 1000000 := by omega
  clear hi hj
  go_wp2_with fail
  refine (pow_yes a i _ _ rfl Hi.out (by omega) _).mono ?_
  rintro e w' ⟨rfl, rfl⟩
  go_wp2_with fail
  refine (pow_yes a j _ _ rfl Hj.out (by omega) _).mono ?_
  rintro e w' ⟨rfl, rfl⟩
  go_wp2_with fail
  refine (pow_yes a (i + j) _ _ rfl (by rw [Hi.out, Hj.out]; omega) (by omega) _).mono ?_
  rintro e w' ⟨rfl, rfl⟩
  go_wp2_with fail
  refine (mul_any (Gf.pow a i) (Gf.pow a j) _ _ rfl rfl _).mono ?_
  rintro e w' ⟨rfl, rfl⟩
  go_wp2_with fail
  go_ret
  exact ⟨rfl, Below.refl _ _⟩

set_option maxRecDepth 100000 in
set_option maxHeartbeats 1000000 in
theorem fieldHolds_nz (a b c : UInt8) (n m : Int) (hn : -9223372036854775808 ≤ n ∧ n ≤ 9223372036854775807) (hm : -9223372036854775808 ≤ m ∧ m ≤ 9223372036854775807) (ha : a ≠ 0) (hb : b = 0) (w : World) :
    Calls Try.prog 6 #[.int .u8 a.toNat, .int .u8 b.toNat, .int .u8 c.toNat, .int .i64 n, .int .i64 m] w fun e w' => e = .returned (.bool true) ∧ Below w.heap.size w w' := by
  have k1 : (((Gf.mul 2 128).toNat : Int) != 29) = false := by decide +kernel
  have k2 : (((Gf.add 5 6).toNat : Int) != 3) = false := by decide +kernel
  have k3 : (((Gf.mul a b).toNat : Int) == (Gf.mul b a).toNat) = true := beq_byte (Gf.mul_comm _ _)
  have k4 : (((Gf.mul (Gf.mul a b) c).toNat : Int) == (Gf.mul a (Gf.mul b c)).toNat) = true := beq_byte (Gf.mul_assoc _ _ _)
  have k5 : (((Gf.mul a (Gf.add b c)).toNat : Int) == (Gf.add (Gf.mul a b) (Gf.mul a c)).toNat) = true := beq_byte (Gf.mul_add _ _ _)
  have k6 : (((Gf.add a a).toNat : Int) == 0) = true := by rw [Gf.add_def, Gf.add_self]; rfl
  have k7 : (((Gf.mul a 1).toNat : Int) == a.toNat) = true := beq_byte (Gf.mul_one _)
  have a1 : ((a.toNat : Int) != 0) = true := bne_of_beq_u8 (bv_ne ha)
  have hlg := Gf.log_lt ha
  have a9 : (((Gf.mul a (Gf.inv a)).toNat : Int) != 1) = false := by rw [Gf.mul_inv ha]; rfl
  have a11 : (((Gf.pow 2 (Gf.log a)).toNat : Int) != a.toNat) = false := bne_byte (Gf.pow_log ha)
  have b1 : ((b.toNat : Int) != 0) = false := by rw [hb]; rfl
  have zb := Lib.hid (show (b.toNat : Int) = 0 by rw [hb]; rfl)
  have p1 : (((Gf.mul a b).toNat : Int) == 0) = true := by rw [Gf.mul_eq_zero.2 (Or.inr hb)]; rfl
  have Ha := Lib.hid ha
  have Hb := Lib.hid hb
  clear ha hb
  go_enter Try.func6, Try.ntmps6
  go_wp2_with fail
  refine (mul_any 2 128 _ _ rfl rfl _).mono ?_
  rintro e w' ⟨rfl, rfl⟩
  go_wp2_with fail
  refine (add_any 5 6 _ _ rfl rfl _).mono ?_
  rintro e w' ⟨rfl, rfl⟩
  go_wp2_with fail
  refine (mul_any a b _ _ rfl rfl _).mono ?_
  rintro e w' ⟨rfl, rfl⟩
  go_wp2_with fail
  refine (mul_any b a _ _ rfl rfl _).mono ?_
  rintro e w' ⟨rfl, rfl⟩
  go_wp2_with fail
  refine (mul_any (Gf.mul a b) c _ _ rfl rfl _).mono ?_
  rintro e w' ⟨rfl, rfl⟩
  go_wp2_with fail
  refine (mul_any b c _ _ rfl rfl _).mono ?_
  rintro e w' ⟨rfl, rfl⟩
  go_wp2_with fail
  refine (mul_any a (Gf.mul b c) _ _ rfl rfl _).mono ?_
  rintro e w' ⟨rfl, rfl⟩
  go_wp2_with fail
  refine (add_any b c _ _ rfl rfl _).mono ?_
  rintro e w' ⟨rfl, rfl⟩
  go_wp2_with fail
  refine (mul_any a (Gf.add b c) _ _ rfl rfl _).mono ?_
  rintro e w' ⟨rfl, rfl⟩
  go_wp2_with fail
  refine (mul_any a c _ _ rfl rfl _).mono ?_
  rintro e w' ⟨rfl, rfl⟩
  go_wp2_with fail
  refine (add_any (Gf.mul a b) (Gf.mul a c) _ _ rfl rfl _).mono ?_
  rintro e w' ⟨rfl, rfl⟩
  go_wp2_with fail
  refine (add_any a a _ _ rfl rfl _).mono ?_
  rintro e w' ⟨rfl, rfl⟩
  go_wp2_with fail
  refine (mul_any a 1 _ _ rfl rfl _).mono ?_
  rintro e w' ⟨rfl, rfl⟩
  go_wp2_with fail
  refine (inv_yes a _ rfl Ha.out _).mono ?_
  rintro e w' ⟨rfl, rfl⟩
  go_wp2_with fail
  refine (mul_any a (Gf.inv a) _ _ rfl rfl _).mono ?_
  rintro e w' ⟨rfl, rfl⟩
  go_wp2_with fail
  refine (div_no _ _ zb.out _).mono ?_
  rintro e w' ⟨rfl, rfl⟩
  go_wp2_with fail
  refine (log_yes a _ rfl Ha.out _).mono ?_
  rintro e w' ⟨rfl, rfl⟩
  go_wp2_with fail
  refine (pow_yes 2 (Gf.log a) _ _ rfl rfl (by omega) _).mono ?_
  rintro e w' ⟨rfl, rfl⟩
  by_cases c1 : n < 0
  · go_wp2_with fail
    go_ret
    exact ⟨rfl, Below.refl _ _⟩
  by_cases c2 : m < 0
  · go_wp2_with fail
    go_ret
    exact ⟨rfl, Below.refl _ _⟩
  by_cases c3 : 1000000 < n
  · go_wp2_with fail
    go_ret
    exact ⟨rfl, Below.refl _ _⟩
  by_cases c4 : 1000000 < m
  · go_wp2_with fail
    go_ret
    exact ⟨rfl, Below.refl _ _⟩
  obtain ⟨i, hi⟩ : ∃ i : Nat, n = i := ⟨n.toNat, by omega⟩
  obtain ⟨j, hj⟩ : ∃ j : Nat, m = j := ⟨m.toNat, by omega⟩
  have Hi := Lib.hid hi
  have Hj := Lib.hid hj
  have e12 : (((Gf.mul (Gf.pow a i) (Gf.pow a j)).toNat : Int) == (Gf.pow a (i + j)).toNat) = true := beq_byte (Gf.pow_add a j i).symm
  have hi' : i ≤ 1000000 := by omega
  have hj' : j ≤ 1000000 := by omega
  clear hi hj
  go_wp2_with fail
  refine (pow_yes a i _ _ rfl Hi.out (by omega) _).mono ?_
  rintro e w' ⟨rfl, rfl⟩
  go_wp2_with fail
  refine (pow_yes a j _ _ rfl Hj.out (by omega) _).mono ?_
  rintro e w' ⟨rfl, rfl⟩
  go_wp2_with fail
  refine (pow_yes a (i + j) _ _ rfl (by rw [Hi.out, Hj.out]; omega) (by omega) _).mono ?_
  rintro e w' ⟨rfl, rfl⟩
  go_wp2_with fail
  refine (mul_any (Gf.pow a i) (Gf.pow a j) _ _ rfl rfl _).mono ?_
  rintro e w' ⟨rfl, rfl⟩
  go_wp2_with fail
  go_ret
  exact ⟨rfl, Below.refl _ _⟩

set_option maxRecDepth 100000 in
set_option maxHeartbeats 1000000 in
theorem fieldHolds_nn (a b c : UInt8) (n m : Int) (hn : -9223372036854775808 ≤ n ∧ n ≤ 9223372036854775807) (hm : -9223372036854775808 ≤ m ∧ m ≤ 9223372036854775807) (ha : a ≠ 0) (hb : b ≠ 0) (w : World) :
    Calls Try.prog 6 #[.int .u8 a.toNat, .int .u8 b.toNat, .int .u8 c.toNat, .int .i64 n, .int .i64 m] w fun e w' => e = .returned (.bool true) ∧ Below w.heap.size w w' := by
  have k1 : (((Gf.mul 2 128).toNat : Int) != 29) = false := by decide +kernel
  have k2 : (((Gf.add 5 6).toNat : Int) != 3) = false := by decide +kernel
  have k3 : (((Gf.mul a b).toNat : Int) == (Gf.mul b a).toNat) = true := beq_byte (Gf.mul_comm _ _)
  have k4 : (((Gf.mul (Gf.mul a b) c).toNat : Int) == (Gf.mul a (Gf.mul b c)).toNat) = true := beq_byte (Gf.mul_assoc _ _ _)
  have k5 : (((Gf.mul a (Gf.add b c)).toNat : Int) == (Gf.add (Gf.mul a b) (Gf.mul a c)).toNat) = true := beq_byte (Gf.mul_add _ _ _)
  have k6 : (((Gf.add a a).toNat : Int) == 0) = true := by rw [Gf.add_def, Gf.add_self]; rfl
  have k7 : (((Gf.mul a 1).toNat : Int) == a.toNat) = true := beq_byte (Gf.mul_one _)
  have a1 : ((a.toNat : Int) != 0) = true := bne_of_beq_u8 (bv_ne ha)
  have hlg := Gf.log_lt ha
  have a9 : (((Gf.mul a (Gf.inv a)).toNat : Int) != 1) = false := by rw [Gf.mul_inv ha]; rfl
  have a11 : (((Gf.pow 2 (Gf.log a)).toNat : Int) != a.toNat) = false := bne_byte (Gf.pow_log ha)
  have b1 : ((b.toNat : Int) != 0) = true := bne_of_beq_u8 (bv_ne hb)
  have b10 : (((Gf.mul (Gf.mul a b) (Gf.inv b)).toNat : Int) != a.toNat) = false := bne_byte (by rw [Gf.mul_assoc, Gf.mul_inv hb, Gf.mul_one])
  have p1 : (((Gf.mul a b).toNat : Int) == 0) = false := bv_ne (Gf.mul_ne ha hb)
  have Ha := Lib.hid ha
  have Hb := Lib.hid hb
  clear ha hb
  go_enter Try.func6, Try.ntmps6
  go_wp2_with fail
  refine (mul_any 2 128 _ _ rfl rfl _).mono ?_
  rintro e w' ⟨rfl, rfl⟩
  go_wp2_with fail
  refine (add_any 5 6 _ _ rfl rfl _).mono ?_
  rintro e w' ⟨rfl, rfl⟩
  go_wp2_with fail
  refine (mul_any a b _ _ rfl rfl _).mono ?_
  rintro e w' ⟨rfl, rfl⟩
  go_wp2_with fail
  refine (mul_any b a _ _ rfl rfl _).mono ?_
  rintro e w' ⟨rfl, rfl⟩
  go_wp2_with fail
  refine (mul_any (Gf.mul a b) c _ _ rfl rfl _).mono ?_
  rintro e w' ⟨rfl, rfl⟩
  go_wp2_with fail
  refine (mul_any b c _ _ rfl rfl _).mono ?_
  rintro e w' ⟨rfl, rfl⟩
  go_wp2_with fail
  refine (mul_any a (Gf.mul b c) _ _ rfl rfl _).mono ?_
  rintro e w' ⟨rfl, rfl⟩
  go_wp2_with fail
  refine (add_any b c _ _ rfl rfl _).mono ?_
  rintro e w' ⟨rfl, rfl⟩
  go_wp2_with fail
  refine (mul_any a (Gf.add b c) _ _ rfl rfl _).mono ?_
  rintro e w' ⟨rfl, rfl⟩
  go_wp2_with fail
  refine (mul_any a c _ _ rfl rfl _).mono ?_
  rintro e w' ⟨rfl, rfl⟩
  go_wp2_with fail
  refine (add_any (Gf.mul a b) (Gf.mul a c) _ _ rfl rfl _).mono ?_
  rintro e w' ⟨rfl, rfl⟩
  go_wp2_with fail
  refine (add_any a a _ _ rfl rfl _).mono ?_
  rintro e w' ⟨rfl, rfl⟩
  go_wp2_with fail
  refine (mul_any a 1 _ _ rfl rfl _).mono ?_
  rintro e w' ⟨rfl, rfl⟩
  go_wp2_with fail
  refine (inv_yes a _ rfl Ha.out _).mono ?_
  rintro e w' ⟨rfl, rfl⟩
  go_wp2_with fail
  refine (mul_any a (Gf.inv a) _ _ rfl rfl _).mono ?_
  rintro e w' ⟨rfl, rfl⟩
  go_wp2_with fail
  refine (div_yes (Gf.mul a b) b _ _ rfl rfl Hb.out _).mono ?_
  rintro e w' ⟨rfl, rfl⟩
  go_wp2_with fail
  refine (log_yes a _ rfl Ha.out _).mono ?_
  rintro e w' ⟨rfl, rfl⟩
  go_wp2_with fail
  refine (pow_yes 2 (Gf.log a) _ _ rfl rfl (by omega) _).mono ?_
  rintro e w' ⟨rfl, rfl⟩
  by_cases c1 : n < 0
  · go_wp2_with fail
    go_ret
    exact ⟨rfl, Below.refl _ _⟩
  by_cases c2 : m < 0
  · go_wp2_with fail
    go_ret
    exact ⟨rfl, Below.refl _ _⟩
  by_cases c3 : 1000000 < n
  · go_wp2_with fail
    go_ret
    exact ⟨rfl, Below.refl _ _⟩
  by_cases c4 : 1000000 < m
  · go_wp2_with fail
    go_ret
    exact ⟨rfl, Below.refl _ _⟩
  obtain ⟨i, hi⟩ : ∃ i : Nat, n = i := ⟨n.toNat, by omega⟩
  obtain ⟨j, hj⟩ : ∃ j : Nat, m = j := ⟨m.toNat, by omega⟩
  have Hi := Lib.hid hi
  have Hj := Lib.hid hj
  have e12 : (((Gf.mul (Gf.pow a i) (Gf.pow a j)).toNat : Int) == (Gf.pow a (i + j)).toNat) = true := beq_byte (Gf.pow_add a j i).symm
  have hi' : i ≤ 1000000 := by omega
  have hj' : j ≤ 1000000 := by omega
  clear hi hj
  go_wp2_with fail
  refine (pow_yes a i _ _ rfl Hi.out (by omega) _).mono ?_
  rintro e w' ⟨rfl, rfl⟩
  go_wp2_with fail
  refine (pow_yes a j _ _ rfl Hj.out (by omega) _).mono ?_
  rintro e w' ⟨rfl, rfl⟩
  go_wp2_with fail
  refine (pow_yes a (i + j) _ _ rfl (by rw [Hi.out, Hj.out]; omega) (by omega) _).mono ?_
  rintro e w' ⟨rfl, rfl⟩
  go_wp2_with fail
  refine (mul_any (Gf.pow a i) (Gf.pow a j) _ _ rfl rfl _).mono ?_
  rintro e w' ⟨rfl, rfl⟩
  go_wp2_with fail
  go_ret
  exact ⟨rfl, Below.refl _ _⟩

theorem fieldHolds_walk (x y z n m : Int) (hx : (Lit.int .u8 x).wf = true) (hy : (Lit.int .u8 y).wf = true) (hz : (Lit.int .u8 z).wf = true) (hn : (Lit.int .i64 n).wf = true) (hm : (Lit.int .i64 m).wf = true) (w : World) :
    Calls Try.prog 6 #[.int .u8 x, .int .u8 y, .int .u8 z, .int .i64 n, .int .i64 m] w fun e w' => e = .returned (.bool true) ∧ Below w.heap.size w w' := by
  obtain ⟨a, rfl⟩ := byte_of hx
  obtain ⟨b, rfl⟩ := byte_of hy
  obtain ⟨c, rfl⟩ := byte_of hz
  rcases Decidable.em (a = 0) with ha | ha <;> rcases Decidable.em (b = 0) with hb | hb
  · exact fieldHolds_zz a b c n m (bounds_i64 hn) (bounds_i64 hm) ha hb w
  · exact fieldHolds_zn a b c n m (bounds_i64 hn) (bounds_i64 hm) ha hb w
  · exact fieldHolds_nz a b c n m (bounds_i64 hn) (bounds_i64 hm) ha hb w
  · exact fieldHolds_nn a b c n m (bounds_i64 hn) (bounds_i64 hm) ha hb w
end Go.Proofs.Ytloaekdijpcmiaa
