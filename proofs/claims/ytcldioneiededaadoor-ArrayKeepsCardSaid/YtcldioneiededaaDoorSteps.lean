/- The numbers of a step, read into an array of the law's own. -/
import Derived.Test.YtcldioneiededaaDoorBase
namespace Go.Proofs.YtcldioneiededaaDoor
open Go.RowKit
theorem zero_int4 (w : World) : (zeroValue 64).run Tryd.prog w = .ok (.agg #[iv 0, iv 0, iv 0, iv 0]) w := by kernel_rfl
def Step4Rel (w0 : World) (gq : Nat) (j : Value) (wr : World) : Prop :=
  ∃ (q : Nat) (x y z t : Int), q + gq = 4 ∧ j = iv q ∧ wr = w0.alloc (.cells #[iv x, iv y, iv z, iv t] 64)
theorem zero_int3 (w : World) : (zeroValue 51).run Tryd.prog w = .ok (.agg #[iv 0, iv 0, iv 0]) w := by kernel_rfl
def Step3Rel (w0 : World) (gq : Nat) (j : Value) (wr : World) : Prop :=
  ∃ (q : Nat) (x y z : Int), q + gq = 3 ∧ j = iv q ∧ wr = w0.alloc (.cells #[iv x, iv y, iv z] 51)
end Go.Proofs.YtcldioneiededaaDoor
