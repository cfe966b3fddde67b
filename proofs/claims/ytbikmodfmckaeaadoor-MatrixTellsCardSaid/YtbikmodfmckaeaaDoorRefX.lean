/- The walks of the references' inverses and powers of elements. -/
import Derived.Test.YtbikmodfmckaeaaDoorRefW
namespace Go.Proofs.YtbikmodfmckaeaaDoor
open Go.ChangeShapes Go.WideShapes Go.ChangeAt Go.RowKit
set_option linter.unusedVariables false

theorem ofNat_nat {q : Nat} (h : q < 256) : (UInt8.ofNat q).toNat = q := by
  rw [UInt8.toNat_ofNat']; exact Nat.mod_eq_of_lt h
def RInvRel (a : UInt8) (w : World) (gk : Nat) (i : Value) (wr : World) : Prop :=
  ∃ q nd : Nat, q + gk = 256 ∧ 1 ≤ q ∧ i = iv q ∧ q ≤ (Gf.inv a).toNat ∧ wr = w.drewN nd
theorem rinv_test {a : UInt8} (ha : a ≠ 0) {q : Nat} (hq : q < 256) : ((Gf.mul a (UInt8.ofNat q)).toNat = 1) ↔ q = (Gf.inv a).toNat := by
  constructor
  · intro h
    have h2 := Gf.inv_unique (a := a) (b := UInt8.ofNat q) (Gf.byte_ext h)
    rw [← h2, ofNat_nat hq]
  · intro h
    have : UInt8.ofNat q = Gf.inv a := Gf.byte_ext (by rw [ofNat_nat hq, h])
    rw [this, Gf.mul_inv ha]; rfl
set_option maxRecDepth 100000 in
set_option maxHeartbeats 1000000 in
theorem rinv_any (a : UInt8) (ha : a ≠ 0) (x : Int) (hx : x = a.toNat) (w : World) :
    Calls Tryd.prog 34 #[.int .u8 x] w fun e w' => e = .returned (bv (Gf.inv a)) ∧ ∃ n, w.drewN n = w' := by
  subst hx
  have Ha := Lib.hid ha
  have h1 : 1 ≤ (Gf.inv a).toNat := by have := Gf.nat_ne (Gf.inv_ne ha); omega
  have h2 := (Gf.inv a).toNat_lt
  clear ha
  go_enter Tryd.func34, Tryd.ntmps34
  go_wp2_with fail
  go_loopg [3] 255 (fun gk i wr => RInvRel a w gk i wr)
  case atStart => exact ⟨1, 0, rfl, Nat.le_refl _, rfl, h1, rfl⟩
  case round =>
    obtain ⟨q, nd, hq, hq1, rfl, hle, rfl⟩ := hrel
    have hlt : q < 256 := by omega
    have hw := wrap_u8_small q hlt
    have Hq := Lib.hid hq
    have ht := rinv_test Ha.out hlt
    have e1 : (q : Int) = ((UInt8.ofNat q).toNat : Int) := by rw [ofNat_nat hlt]
    have E1 := Lib.hid e1
    generalize hm : Gf.mul a (UInt8.ofNat q) = m at ht
    have Hm := Lib.hid hm
    by_cases he : q = (Gf.inv a).toNat
    · have t1 : ((m.toNat : Int) == 1) = true := beq_t (by have := ht.2 he; omega)
      have He := Lib.hid he
      clear hq ht e1 hm he
      go_wp2_with fail
      refine (rmul_any a (UInt8.ofNat q) _ _ rfl E1.out _).mono ?_
      rintro e w' ⟨rfl, n, rfl⟩
      rw [Hm.out]
      go_wp2_with fail
      go_ret
      exact ⟨ret_u8 (by rw [He.out]), _, rfl⟩
    · have t1 : ((m.toNat : Int) == 1) = false := beq_f (fun h => he (ht.1 (by omega)))
      have hle2 : q + 1 ≤ (Gf.inv a).toNat := by omega
      clear hq ht e1 hm he
      go_wp2_with fail
      refine (rmul_any a (UInt8.ofNat q) _ _ rfl E1.out _).mono ?_
      rintro e w' ⟨rfl, n, rfl⟩
      rw [Hm.out]
      go_wp2_with fail
      go_roundg (gk - 1)
      case measure => have := Hq.out; omega
      case rel => exact ⟨q + 1, _, by have := Hq.out; omega, by omega, by go_num, hle2, rfl⟩

def RPowRel (a : UInt8) (m : Nat) (w : World) (gk : Nat) (o i : Value) (wr : World) : Prop :=
  ∃ q nd : Nat, q + gk = m ∧ o = bv (Gf.pow a q) ∧ i = iv q ∧ wr = w.drewN nd
set_option maxRecDepth 100000 in
set_option maxHeartbeats 1000000 in
theorem rpow_any (a : UInt8) (n : Nat) (x y : Int) (hx : x = a.toNat) (hy : y = n) (hn : n < 9223372036854775808) (w : World) :
    Calls Tryd.prog 53 #[.int .u8 x, .int .i64 y] w fun e w' => e = .returned (bv (Gf.pow a n)) ∧ ∃ n, w.drewN n = w' := by
  subst hx hy
  by_cases hn0 : n = 0
  · subst hn0
    go_enter Tryd.func53, Tryd.ntmps53
    go_wp2
    go_ret
    exact ⟨rfl, 0, rfl⟩
  · have t0 : ((n : Int) == 0) = false := beq_f (by omega)
    by_cases ha : a = 0
    · subst ha
      have Hn := Lib.hid hn0
      clear hn0
      go_enter Tryd.func53, Tryd.ntmps53
      go_wp2
      go_ret
      exact ⟨by rw [Gf.zero_pow Hn.out]; rfl, 0, rfl⟩
    · have t1 := bv_ne ha
      obtain ⟨m, hm⟩ : ∃ m : Nat, m = n % 255 := ⟨_, rfl⟩
      have hmI : (n : Int) % 255 = (m : Int) := by omega
      have hm2 : m < 255 := by omega
      have hp := Gf.pow_mod ha n
      rw [← hm] at hp
      have Hm := Lib.hid hmI
      have Hp := Lib.hid hp
      clear hn0 ha hm hmI hp
      go_enter Tryd.func53, Tryd.ntmps53
      go_wp2_with fail
      rw [Hm.out]
      go_loopg [5, 6] m (fun gk o i wr => RPowRel a m w gk o i wr)
      case atStart => exact ⟨0, 0, by omega, rfl, rfl, rfl⟩
      case round =>
        obtain ⟨q, nd, hq, rfl, rfl, rfl⟩ := hrel
        have Hq := Lib.hid hq
        by_cases hlt : q < m
        · have hs : Gf.mul (Gf.pow a q) a = Gf.pow a (q + 1) := by rw [Gf.mul_comm]; rfl
          have Hs := Lib.hid hs
          generalize Gf.pow a q = p at *
          clear hq hs
          go_wp2_with fail
          refine (rmul_any p a _ _ rfl rfl _).mono ?_
          rintro e w' ⟨rfl, n, rfl⟩
          rw [Hs.out]
          go_wp2_with fail
          go_roundg (gk - 1)
          case measure => have := Hq.out; omega
          case rel => exact ⟨q + 1, _, by have := Hq.out; omega, rfl, by go_num, rfl⟩
        · obtain rfl : q = m := by omega
          rw [Hp.out]
          clear hq
          go_wp2_with fail
          go_ret
          exact ⟨rfl, _, rfl⟩
end Go.Proofs.YtbikmodfmckaeaaDoor
