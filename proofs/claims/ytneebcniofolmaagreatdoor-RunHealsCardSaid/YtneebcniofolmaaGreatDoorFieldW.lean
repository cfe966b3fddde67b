/- The walks of package field: each function returns what the plain field says. -/
import Derived.Test.YtneebcniofolmaaGreatDoorLift
import Derived.Test.YtneebcniofolmaaGreatDoorGf
namespace Go.Proofs.YtneebcniofolmaaGreatDoor
open Go.ChangeShapes Go.WideShapes Go.ChangeAt Go.RowKit


theorem wrap_i64_small (n : Nat) (h : n < 512) : IntKind.i64.wrap (n : Int) = n := by
  simp [IntKind.wrap, IntKind.bits, IntKind.signed]; omega
theorem i64_xor_small (a b : Nat) (ha : a < 512) (hb : b < 512) : bits .xor .i64 (a : Int) (b : Int) = ((a ^^^ b : Nat) : Int) := by
  have hx : a ^^^ b < 512 := Nat.xor_lt_two_pow (n := 9) ha hb
  have h1 : (BitVec.ofInt 64 (a : Int)).toNat = a := by
    rw [BitVec.ofInt_natCast, BitVec.toNat_ofNat]; exact Nat.mod_eq_of_lt (by omega)
  have h2 : (BitVec.ofInt 64 (b : Int)).toNat = b := by
    rw [BitVec.ofInt_natCast, BitVec.toNat_ofNat]; exact Nat.mod_eq_of_lt (by omega)
  show IntKind.i64.wrap ((BitVec.ofInt 64 (a : Int) ^^^ BitVec.ofInt 64 (b : Int)).toNat : Int) = _
  rw [BitVec.toNat_xor, h1, h2, wrap_i64_small _ hx]

/-- what one round of the product does -/
theorem gmF_step {f s x b : Nat} : Gf.gmF (f + 1) s x b = Gf.gmF f (if b % 2 = 1 then s ^^^ x else s) (Gf.xt x) (b / 2) := rfl
theorem odd_yes {b : Nat} (hb : b < 256) (h : (bits .and .u8 (b : Int) 1 == 1) = true) : b % 2 = 1 := by
  have := u8_and_nat b 1 hb (by omega)
  rw [nat_mask1] at this
  have e : bits .and .u8 (b : Int) 1 = ((b % 2 : Nat) : Int) := this
  rw [e] at h; simp at h; omega
theorem odd_no {b : Nat} (hb : b < 256) (h : (bits .and .u8 (b : Int) 1 == 1) = false) : ¬ b % 2 = 1 := by
  have := u8_and_nat b 1 hb (by omega)
  rw [nat_mask1] at this
  have e : bits .and .u8 (b : Int) 1 = ((b % 2 : Nat) : Int) := this
  rw [e] at h; simp at h; omega

theorem xt_hi {x : Nat} (hx : x < 256) (h : 256 ≤ (x : Int) * 2) : Value.int .i64 (bits .xor .i64 ((x : Int) * 2) 285) = .int .i64 (Gf.xt x : Nat) := by
  have e : ((x : Int) * 2) = ((2 * x : Nat) : Int) := by omega
  rw [e]
  have := i64_xor_small (2 * x) 285 (by omega) (by omega)
  refine val_i64 (this.trans ?_)
  unfold Gf.xt; rw [if_neg (by omega)]
theorem xt_lo {x : Nat} (h : (x : Int) * 2 < 256) : Value.int .i64 ((x : Int) * 2) = .int .i64 (Gf.xt x : Nat) := by
  refine val_i64 ?_
  unfold Gf.xt; rw [if_pos (by omega)]; omega
theorem sum_x {s x : Nat} (hs : s < 256) (hx : x < 256) : Value.int .i64 (bits .xor .i64 (s : Int) (x : Int)) = .int .i64 ((s ^^^ x : Nat) : Int) :=
  val_i64 (i64_xor_small s x (by omega) (by omega))

def MulInv (a b : Nat) (bb xx ss : Value) : Prop :=
  ∃ f c x s : Nat, c < 2 ^ f ∧ f ≤ 8 ∧ c < 256 ∧ x < 256 ∧ s < 256 ∧ bb = .int .u8 c ∧ xx = .int .i64 x ∧ ss = .int .i64 s ∧ Gf.gmF f s x c = Gf.gm a b

theorem gmF_nil : ∀ (f s x : Nat), Gf.gmF f s x 0 = s := Gf.gmF_null

set_option maxRecDepth 100000 in
theorem mul_any (a b : UInt8) (x y : Int) (hx : x = a.toNat) (hy : y = b.toNat) (w : World) :
    Calls Tryz.prog 147 #[.int .u8 x, .int .u8 y] w fun e w' => e = .returned (bv (Gf.mul a b)) ∧ w = w' := by
  subst hx hy
  have h1 := a.toNat_lt
  have h2 := b.toNat_lt
  have hr := Lib.hid (Gf.mul_nat a b)
  generalize a.toNat = m at *
  generalize b.toNat = n at *
  generalize Gf.mul a b = p at *
  go_enter Tryz.func147, Tryz.ntmps147
  go_wp2
  go_loop [1, 5, 6] (fun bb xx ss => MulInv m n bb xx ss) (fun bb _ _ => (intOf bb).toNat)
  case atStart => exact ⟨8, n, m, 0, h2, by omega, h2, h1, by omega, rfl, rfl, rfl, rfl⟩
  case round =>
    obtain ⟨f, c, x, s, hcf, hf, hc, hx, hs, rfl, rfl, rfl, hg⟩ := hrel
    by_cases hpos : 0 < c
    · obtain ⟨g, rfl⟩ : ∃ g, f = g + 1 := by
        cases f with
        | zero => simp at hcf; omega
        | succ g => exact ⟨g, rfl⟩
      have hG := Lib.hid hg
      have hcf' : c / 2 < 2 ^ g := by have := Nat.pow_succ 2 g; omega
      clear hg hcf
      go_wp2
      all_goals
        go_round
        case rel =>
          refine ⟨g, c / 2, Gf.xt x, if c % 2 = 1 then s ^^^ x else s, hcf', by omega, by omega, Gf.xt_lt hx, ?_, val_u8 (by omega), ?_, ?_, by rw [← hG.out, gmF_step]⟩
          · split
            · exact Gf.xor_lt hs hx
            · exact hs
          · first | exact xt_hi hx ‹_› | exact xt_lo ‹_›
          · first | (rw [if_pos (odd_yes hc ‹_›)]; exact sum_x hs hx) | rw [if_neg (odd_no hc ‹_›)]
        case measure => simp [intOf]; omega
    · obtain rfl : c = 0 := by omega
      rw [gmF_nil] at hg
      have hG := Lib.hid hg
      clear hg
      go_wp2
      go_ret
      exact ⟨ret_u8 (by rw [hr.out, ← hG.out]), rfl⟩

/-! power: the loop squares -/
def powF : Nat → UInt8 → UInt8 → Nat → UInt8
  | 0, out, _, _ => out
  | f + 1, out, a, n => powF f (if n % 2 = 1 then Gf.mul out a else out) (Gf.mul a a) (n / 2)
theorem powF_eq : ∀ (f : Nat) (out a : UInt8) (n : Nat), n < 2 ^ f → powF f out a n = Gf.mul out (Gf.pow a n)
  | 0, out, a, n, h => by
    obtain rfl : n = 0 := by simpa using h
    exact (Gf.mul_one _).symm
  | f + 1, out, a, n, h => by
    have h' : n / 2 < 2 ^ f := by have := Nat.pow_succ 2 f; omega
    unfold powF
    rw [powF_eq f _ _ _ h']
    have e : Gf.pow (Gf.mul a a) (n / 2) = Gf.pow a (2 * (n / 2)) := by
      rw [Gf.pow_mul]; congr 1; show _ = Gf.mul a (Gf.mul a 1); rw [Gf.mul_one]
    rw [e]
    split
    · rename_i ho
      conv => rhs; rw [show n = 2 * (n / 2) + 1 by omega]
      show _ = Gf.mul out (Gf.mul a (Gf.pow a (2 * (n / 2))))
      rw [Gf.mul_assoc]
    · rename_i ho
      conv => rhs; rw [show n = 2 * (n / 2) by omega]

theorem powF_zero : ∀ f (o a : UInt8), powF f o a 0 = o
  | 0, _, _ => rfl
  | f + 1, o, a => by unfold powF; simpa using powF_zero f o _

theorem i64_and1 (n : Nat) (h : n < 9223372036854775808) : bits .and .i64 (n : Int) 1 = ((n % 2 : Nat) : Int) := by
  have h1 : (BitVec.ofInt 64 (n : Int)).toNat = n := by
    rw [BitVec.ofInt_natCast, BitVec.toNat_ofNat]; exact Nat.mod_eq_of_lt (by omega)
  show IntKind.i64.wrap ((BitVec.ofInt 64 (n : Int) &&& BitVec.ofInt 64 1).toNat : Int) = _
  rw [BitVec.toNat_and, h1]
  have h2 : (BitVec.ofInt 64 1).toNat = 1 := by decide
  rw [h2, nat_mask1, wrap_i64_small _ (by omega)]
theorem oddi_yes {b : Nat} (hb : b < 9223372036854775808) (h : (bits .and .i64 (b : Int) 1 == 1) = true) : b % 2 = 1 := by
  rw [i64_and1 b hb] at h; simp at h; omega
theorem oddi_no {b : Nat} (hb : b < 9223372036854775808) (h : (bits .and .i64 (b : Int) 1 == 1) = false) : ¬ b % 2 = 1 := by
  rw [i64_and1 b hb] at h; simp at h; omega
theorem oddi_yes' {b : Nat} (hb : b < 9223372036854775808) (h : b % 2 = 1) : (bits .and .i64 (b : Int) 1 == 1) = true := by
  rw [i64_and1 b hb, h]; rfl
theorem oddi_no' {b : Nat} (hb : b < 9223372036854775808) (h : ¬ b % 2 = 1) : (bits .and .i64 (b : Int) 1 == 1) = false := by
  rw [i64_and1 b hb, show b % 2 = 0 by omega]; rfl

def PowInv (r : UInt8) (aa nn oo : Value) : Prop :=
  ∃ (f : Nat) (out a : UInt8) (n : Nat), n < 2 ^ f ∧ f ≤ 63 ∧ n < 9223372036854775808 ∧ aa = bv a ∧ nn = .int .i64 n ∧ oo = bv out ∧ powF f out a n = r

set_option maxRecDepth 100000 in
set_option maxHeartbeats 400000 in
theorem power_any (a : UInt8) (n : Nat) (x y : Int) (hx : x = a.toNat) (hy : y = n) (hn : n < 9223372036854775808) (w : World) :
    Calls Tryz.prog 146 #[.int .u8 x, .int .i64 y] w fun e w' => e = .returned (bv (Gf.pow a n)) ∧ w = w' := by
  subst hx hy
  have hr := Lib.hid ((powF_eq 63 1 a n hn).trans (Gf.one_mul _))
  go_enter Tryz.func146, Tryz.ntmps146
  go_wp2
  go_loop [0, 1, 5] (fun aa nn oo => PowInv (Gf.pow a n) aa nn oo) (fun _ nn _ => (intOf nn).toNat)
  case atStart => exact ⟨63, 1, a, n, hn, by omega, hn, rfl, rfl, rfl, hr.out⟩
  case round =>
    obtain ⟨f, out, c, k, hkf, hf, hk, rfl, rfl, rfl, hg⟩ := hrel
    clear hn hr
    have hG := Lib.hid hg
    clear hg
    by_cases hpos : 0 < k
    · obtain ⟨g, rfl⟩ : ∃ g, f = g + 1 := by
        cases f with
        | zero => simp at hkf; omega
        | succ g => exact ⟨g, rfl⟩
      have hcf' : k / 2 < 2 ^ g := by have := Nat.pow_succ 2 g; omega
      clear hkf
      by_cases ho : k % 2 = 1
      · have ht := oddi_yes' hk ho
        have ho' := Lib.hid ho
        clear ho
        go_wp2_with fail
        refine (mul_any out c _ _ rfl rfl _).mono ?_
        rintro e w' ⟨rfl, rfl⟩
        go_wp2_with fail
        refine (mul_any c c _ _ rfl rfl _).mono ?_
        rintro e w' ⟨rfl, rfl⟩
        go_wp2_with fail
        go_round
        case rel =>
          exact ⟨g, _, _, k / 2, hcf', by omega, by omega, rfl, val_i64 (by omega), rfl, by rw [← hG.out]; show _ = powF g (if k % 2 = 1 then _ else _) _ _; rw [if_pos ho'.out]⟩
        case measure => simp [intOf]; omega
      · have ht := oddi_no' hk ho
        have ho' := Lib.hid ho
        clear ho
        go_wp2_with fail
        refine (mul_any c c _ _ rfl rfl _).mono ?_
        rintro e w' ⟨rfl, rfl⟩
        go_wp2_with fail
        go_round
        case rel =>
          exact ⟨g, _, _, k / 2, hcf', by omega, by omega, rfl, val_i64 (by omega), rfl, by rw [← hG.out]; show _ = powF g (if k % 2 = 1 then _ else _) _ _; rw [if_neg ho'.out]⟩
        case measure => simp [intOf]; omega
    · obtain rfl : k = 0 := by omega
      go_wp2
      go_ret
      exact ⟨ret_u8 (by rw [← hG.out, powF_zero]), rfl⟩

theorem inverse_any (a : UInt8) (x : Int) (hx : x = a.toNat) (w : World) :
    Calls Tryz.prog 162 #[.int .u8 x] w fun e w' => e = .returned (bv (Gf.inv a)) ∧ w = w' := by
  subst hx
  go_enter Tryz.func162, Tryz.ntmps162
  go_wp2_with fail
  refine (power_any a 254 _ _ rfl rfl (by decide) _).mono ?_
  rintro e w' ⟨rfl, rfl⟩
  go_wp2_with fail
  go_ret
  exact ⟨rfl, rfl⟩


theorem bv_ne {a : UInt8} (h : a ≠ 0) : ((a.toNat : Int) == 0) = false := by
  have := Gf.nat_ne h
  rw [beq_eq_false_iff_ne]; omega

end Go.Proofs.YtneebcniofolmaaGreatDoor
