/- The walk of the law FieldTells: it returns true. -/
import Derived.Test.YtloaekdijpcmiaaDoorSame
import Derived.Test.YtloaekdijpcmiaaDoorRefX
import Derived.Deep.DeepCutAuto
import Derived.Deep.CutBlock
namespace Go.Proofs.YtloaekdijpcmiaaDoor
open Go.ChangeShapes Go.WideShapes Go.ChangeAt Go.RowKit
set_option linter.unusedVariables false

def f5 (a : UInt8) : Int := if a = 0 then 5 else 0
def lg0 (a : UInt8) : Int := if a = 0 then 0 else (Gf.log a : Nat)
def f1 (n : Int) : Int := if n < 0 then 1 else 0
def pwI (a : UInt8) (n : Int) : UInt8 := if n < 0 then 0 else Gf.pow a n.toNat
theorem inv_tot (a : UInt8) (x : Int) (hx : x = a.toNat) (w : World) :
    Calls Tryd.prog 13 #[.int .u8 x] w fun e w' => e = .returned (.tuple #[bv (Gf.inv a), errV (f5 a)]) ∧ w = w' := by
  unfold f5
  by_cases h : a = 0
  · subst h
    exact (inv_no x hx w).mono (by rintro e w' ⟨rfl, rfl⟩; exact ⟨by rw [Gf.inv_zero]; rfl, rfl⟩)
  · rw [if_neg h]; exact inv_yes a x hx h w
theorem div_tot (a b : UInt8) (x y : Int) (hx : x = a.toNat) (hy : y = b.toNat) (w : World) :
    Calls Tryd.prog 16 #[.int .u8 x, .int .u8 y] w fun e w' => e = .returned (.tuple #[bv (Gf.mul a (Gf.inv b)), errV (f5 b)]) ∧ w = w' := by
  unfold f5
  by_cases h : b = 0
  · subst h
    exact (div_no x y hy w).mono (by rintro e w' ⟨rfl, rfl⟩; exact ⟨by rw [Gf.inv_zero, Gf.mul_zero]; rfl, rfl⟩)
  · rw [if_neg h]; exact div_yes a b x y hx hy h w
theorem log_tot (a : UInt8) (x : Int) (hx : x = a.toNat) (w : World) :
    Calls Tryd.prog 15 #[.int .u8 x] w fun e w' => e = .returned (.tuple #[iv (lg0 a), errV (f5 a)]) ∧ w = w' := by
  unfold f5 lg0
  by_cases h : a = 0
  · subst h
    exact log_no x hx w
  · rw [if_neg h, if_neg h]; exact log_yes a x hx h w
theorem pow_tot (a : UInt8) (x y : Int) (hx : x = a.toNat) (hy : y < 9223372036854775808) (w : World) :
    Calls Tryd.prog 17 #[.int .u8 x, .int .i64 y] w fun e w' => e = .returned (.tuple #[bv (pwI a y), errV (f1 y)]) ∧ w = w' := by
  unfold f1 pwI
  by_cases h : y < 0
  · rw [if_pos h, if_pos h]; exact pow_no x y h w
  · rw [if_neg h, if_neg h]; exact pow_yes a y.toNat x y hx (by omega) (by omega) w
theorem same_any (n k : Int) (w : World) (hg : Handle w) : Calls Tryd.prog 14 #[errV n, iv k] w fun e w' => e = .returned (.bool (n == k)) ∧ Below w.heap.size w w' := by
  by_cases h : n = 0
  · subst h; exact same_nil k w
  · rw [errV_ne h]; exact same_ev n k w hg
theorem same_eq (n : Int) (w : World) (hg : Handle w) : Calls Tryd.prog 14 #[errV n, iv n] w fun e w' => e = .returned (.bool true) ∧ Below w.heap.size w w' :=
  (same_any n n w hg).mono (by rintro e w' ⟨rfl, h⟩; exact ⟨by rw [beq_t rfl], h⟩)

def LogRel (a : UInt8) (w0 : World) (gk : Nat) (i : Value) (wr : World) : Prop :=
  ∃ q nd : Nat, q + gk = Gf.log a ∧ i = iv q ∧ wr = w0.drewN nd
set_option maxRecDepth 100000 in
set_option maxHeartbeats 4000000 in
theorem fieldTells_walk (x y n : Int) (hx : (Lit.int .u8 x).wf = true) (hy : (Lit.int .u8 y).wf = true) (hn : (Lit.int .i64 n).wf = true) (w : World) (hg : Handle w) :
    Calls Tryd.prog 3 #[.int .u8 x, .int .u8 y, iv n] w fun e w' => e = .returned (.bool true) ∧ Below w.heap.size w w' := by
  obtain ⟨a, rfl⟩ := byte_of hx
  obtain ⟨b, rfl⟩ := byte_of hy
  have hn2 := bounds_i64 hn
  have Hg := Lib.hid hg
  clear hg hx hy hn
  go_enter Tryd.func3, Tryd.ntmps3
  go_wp2_with fail
  refine (add_any a b _ _ rfl rfl _).mono ?_
  rintro e w' ⟨rfl, rfl⟩
  go_wp2_with fail
  refine (rplus_any a b _ _ rfl rfl _).mono ?_
  rintro e w' ⟨rfl, n1, rfl⟩
  go_wp2_with fail
  refine (mul_any a b _ _ rfl rfl _).mono ?_
  rintro e w' ⟨rfl, rfl⟩
  go_wp2_with fail
  refine (rmul_any a b _ _ rfl rfl _).mono ?_
  rintro e w' ⟨rfl, n2, rfl⟩
  go_upto_if 37 with (fail)
  go_cut [8, 9, 10] (fun e i l wc => e = iv (f5 a) ∧ i = bv (Gf.inv a) ∧ l = iv (lg0 a) ∧ Below w.heap.size w wc)
  case first =>
    by_cases ha : a = 0
    · subst ha
      go_wp2_with fail
      go_meet
      exact ⟨rfl, by rw [Gf.inv_zero]; rfl, rfl, bdrew (Below.refl _ _) _⟩
    · have t0 := bv_ne ha
      have Ha := Lib.hid ha
      have hp := Gf.pow_log ha
      have hlt := Gf.log_lt ha
      have hf : f5 a = 0 := by unfold f5; rw [if_neg ha]
      have hl : lg0 a = (Gf.log a : Nat) := by unfold lg0; rw [if_neg ha]
      generalize hL : Gf.log a = L at *
      have Hp := Lib.hid hp
      have HL := Lib.hid hL
      have Hf := Lib.hid hf
      have Hl := Lib.hid hl
      clear ha hp hL hf hl
      go_wp2_with fail
      refine (rinv_any a Ha.out _ rfl _).mono ?_
      rintro e w' ⟨rfl, n3, rfl⟩
      go_wp2_with fail
      go_loopg [10] L (fun gk i wr => LogRel a w gk i wr)
      case atStart => exact ⟨0, _, by rw [HL.out]; omega, rfl, rfl⟩
      case round =>
        obtain ⟨q, nd, hq, rfl, rfl⟩ := hrel
        rw [HL.out] at hq
        have Hq := Lib.hid hq
        by_cases he : q = L
        · subst he
          have t1 : (((Gf.pow 2 q).toNat : Int) != (a.toNat : Int)) = false := bne_f (by rw [Hp.out])
          clear hq
          go_wp2_with fail
          refine (rpow_any 2 q _ _ rfl rfl (by omega) _).mono ?_
          rintro e w' ⟨rfl, n4, rfl⟩
          generalize Gf.pow 2 q = p at *
          go_wp2_with fail
          go_meet
          exact ⟨by rw [Hf.out], rfl, by rw [Hl.out], bdrew (Below.refl _ _) _⟩
        · have hq2 : q < L := by omega
          have t1 : (((Gf.pow 2 q).toNat : Int) != (a.toNat : Int)) = true := by
            refine bne_t fun h => he ?_
            have h1 : Gf.pow 2 q = a := Gf.byte_ext (by omega)
            have h2 := Gf.log_pow (n := q) (by omega)
            rw [h1, HL.out] at h2; omega
          clear hq he
          go_wp2_with fail
          refine (rpow_any 2 q _ _ rfl rfl (by omega) _).mono ?_
          rintro e w' ⟨rfl, n4, rfl⟩
          generalize Gf.pow 2 q = p at *
          go_wp2_with fail
          go_roundg (gk - 1)
          case measure => have := Hq.out; omega
          case rel => exact ⟨q + 1, _, by have := Hq.out; rw [HL.out]; omega, by go_num, rfl⟩
  case rest =>
    obtain ⟨rfl, rfl, rfl, hb⟩ := hcut
    have Hg1 := Lib.hid (Hg.out.below (Nat.le_refl _) hb)
    have Hb := Lib.hid hb
    clear hb
    go_wp2_with fail
    refine (inv_tot a _ rfl _).mono ?_
    rintro e w' ⟨rfl, rfl⟩
    go_wp2_with fail
    refine (same_eq _ _ Hg1.out).mono ?_
    rintro e w1 ⟨rfl, hb1⟩
    have Hg2 := Lib.hid (Hg1.out.below (Nat.le_refl _) hb1)
    have Hb1 := Lib.hid (Hb.out.trans (hb1.mono Hb.out.size))
    clear hb1
    go_wp2_with fail
    refine (log_tot a _ rfl _).mono ?_
    rintro e w' ⟨rfl, rfl⟩
    go_wp2_with fail
    refine (same_eq _ _ Hg2.out).mono ?_
    rintro e w2 ⟨rfl, hb2⟩
    have Hg3 := Lib.hid (Hg2.out.below (Nat.le_refl _) hb2)
    have Hb2 := Lib.hid (Hb1.out.trans (hb2.mono Hb1.out.size))
    clear hb2 Hg1 Hb Hg2 Hb1
    go_upto_if 73 with (fail)
    go_cut [8, 16] (fun e i wc => e = iv (f5 b) ∧ i = bv (Gf.mul a (Gf.inv b)) ∧ ∃ n, wc = w2.drewN n)
    case first =>
      by_cases ha : b = 0
      · subst ha
        go_wp2_with fail
        go_meet
        exact ⟨rfl, by rw [Gf.inv_zero, Gf.mul_zero]; rfl, 0, rfl⟩
      · have t0 := bv_ne ha
        have Ha := Lib.hid ha
        have hf : f5 b = 0 := by unfold f5; rw [if_neg ha]
        have Hf := Lib.hid hf
        clear ha hf
        go_wp2_with fail
        refine (rinv_any b Ha.out _ rfl _).mono ?_
        rintro e w' ⟨rfl, n3, rfl⟩
        go_wp2_with fail
        refine (rmul_any a (Gf.inv b) _ _ rfl rfl _).mono ?_
        rintro e w' ⟨rfl, n4, rfl⟩
        go_wp2_with fail
        go_meet
        exact ⟨by rw [Hf.out], rfl, _, rfl⟩
    case rest =>
      obtain ⟨rfl, rfl, n5, rfl⟩ := hcut
      go_wp2_with fail
      refine (div_tot a b _ _ rfl rfl _).mono ?_
      rintro e w' ⟨rfl, rfl⟩
      go_wp2_with fail
      refine (same_eq _ _ (Hg3.out.below (Nat.le_refl _) (bdrew (Below.refl _ _) _))).mono ?_
      rintro e w3 ⟨rfl, hb3⟩
      have Hg4 := Lib.hid ((Hg3.out.below (Nat.le_refl _) (bdrew (Below.refl _ _) n5)).below (Nat.le_refl _) hb3)
      have Hb3 := Lib.hid (Hb2.out.trans (((bdrew (Below.refl w2.heap.size w2) n5).trans hb3).mono Hb2.out.size))
      clear hb3 Hg3 Hb2
      go_upto_if 93 with (fail)
      go_cut [8, 18] (fun e i wc => e = iv (f1 n) ∧ i = bv (pwI a n) ∧ ∃ n, wc = w3.drewN n)
      case first =>
        by_cases hn0 : n < 0
        · have hf : f1 n = 1 ∧ pwI a n = 0 := by unfold f1 pwI; rw [if_pos hn0, if_pos hn0]; exact ⟨rfl, rfl⟩
          have Hf := Lib.hid hf
          clear hf
          go_wp2_with fail
          go_meet
          exact ⟨by rw [Hf.out.1], by rw [Hf.out.2]; rfl, 0, rfl⟩
        · have hf : f1 n = 0 ∧ pwI a n = Gf.pow a n.toNat := by unfold f1 pwI; rw [if_neg hn0, if_neg hn0]; exact ⟨rfl, rfl⟩
          have Hf := Lib.hid hf
          clear hf
          go_wp2_with fail
          refine (rpow_any a n.toNat _ _ rfl (by omega) (by omega) _).mono ?_
          rintro e w' ⟨rfl, n4, rfl⟩
          go_wp2_with fail
          go_meet
          exact ⟨by rw [Hf.out.1], by rw [Hf.out.2], _, rfl⟩
      case rest =>
        obtain ⟨rfl, rfl, n6, rfl⟩ := hcut
        go_wp2_with fail
        refine (pow_tot a _ n rfl (by omega) _).mono ?_
        rintro e w' ⟨rfl, rfl⟩
        go_wp2_with fail
        refine (same_eq _ _ (Hg4.out.below (Nat.le_refl _) (bdrew (Below.refl _ _) _))).mono ?_
        rintro e w4 ⟨rfl, hb4⟩
        have Hb4 := Lib.hid (Hb3.out.trans (((bdrew (Below.refl w3.heap.size w3) n6).trans hb4).mono Hb3.out.size))
        clear hb4
        go_wp2_with fail
        go_ret
        exact ⟨rfl, Hb4.out⟩
end Go.Proofs.YtloaekdijpcmiaaDoor
