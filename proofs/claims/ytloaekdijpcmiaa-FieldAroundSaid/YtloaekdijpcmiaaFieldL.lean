/- The walks of the laws on elements: each returns true. -/
import Derived.Test.YtloaekdijpcmiaaFieldW
import Derived.Carry
import Derived.BigQuiet
import Derived.Deep.QuietTactic
namespace Go.Proofs.Ytloaekdijpcmiaa
open Go.ChangeShapes Go.WideShapes Go.ChangeAt Go.RowKit

/-- a byte that is known as an integer -/
theorem byte_of {x : Int} (h : (Lit.int .u8 x).wf = true) : ∃ a : UInt8, x = a.toNat := by
  have hb := bounds_u8 h
  refine ⟨UInt8.ofNat x.toNat, ?_⟩
  rw [UInt8.toNat_ofNat', Nat.mod_eq_of_lt (by omega)]; omega

theorem fieldSquares_walk (x y : Int) (hx : (Lit.int .u8 x).wf = true) (hy : (Lit.int .u8 y).wf = true) (w : World) :
    Calls Try.prog 3 #[.int .u8 x, .int .u8 y] w fun e w' => e = .returned (.bool true) ∧ Below w.heap.size w w' := by
  obtain ⟨a, rfl⟩ := byte_of hx
  obtain ⟨b, rfl⟩ := byte_of hy
  clear hx hy
  have h1 : (((Gf.mul 2 3).toNat : Int) == 6) = true := by decide +kernel
  have h2 : (((Gf.mul (Gf.add a b) (Gf.add a b)).toNat : Int) == ((Gf.add (Gf.mul a a) (Gf.mul b b)).toNat : Int)) = true := by rw [Gf.add_def, Gf.square_add]; exact beq_self_eq_true _
  go_enter Try.func3, Try.ntmps3
  go_wp2_with fail
  refine (add_any a b _ _ rfl rfl _).mono ?_
  rintro e w' ⟨rfl, rfl⟩
  go_wp2_with fail
  refine (mul_any 2 3 _ _ rfl rfl _).mono ?_
  rintro e w' ⟨rfl, rfl⟩
  go_wp2_with fail
  refine (mul_any (Gf.add a b) (Gf.add a b) _ _ rfl rfl _).mono ?_
  rintro e w' ⟨rfl, rfl⟩
  go_wp2_with fail
  refine (mul_any a a _ _ rfl rfl _).mono ?_
  rintro e w' ⟨rfl, rfl⟩
  go_wp2_with fail
  refine (mul_any b b _ _ rfl rfl _).mono ?_
  rintro e w' ⟨rfl, rfl⟩
  go_wp2_with fail
  refine (add_any _ _ _ _ rfl rfl _).mono ?_
  rintro e w' ⟨rfl, rfl⟩
  go_wp2_with fail
  go_ret
  exact ⟨rfl, Below.refl _ _⟩

theorem beq_byte {a b : UInt8} (h : a = b) : ((a.toNat : Int) == (b.toNat : Int)) = true := by rw [h]; exact beq_self_eq_true _
theorem bne_byte {a b : UInt8} (h : a = b) : ((a.toNat : Int) != (b.toNat : Int)) = false := by rw [h]; simp
end Go.Proofs.Ytloaekdijpcmiaa
