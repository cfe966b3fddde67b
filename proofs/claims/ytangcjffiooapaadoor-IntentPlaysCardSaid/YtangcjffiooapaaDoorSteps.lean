/- The numbers of a step, read into an array of the law's own. -/
import Derived.Test.YtangcjffiooapaaDoorBase
namespace Go.Proofs.YtangcjffiooapaaDoor
open Go.RowKit
theorem zero_int4 (w : World) : (zeroValue 84).run Tryd.prog w = .ok (.agg #[iv 0, iv 0, iv 0, iv 0]) w := by kernel_rfl
def Step4Rel (w0 : World) (gq : Nat) (j : Value) (wr : World) : Prop :=
  ∃ (q : Nat) (x y z t : Int), q + gq = 4 ∧ j = iv q ∧ wr = w0.alloc (.cells #[iv x, iv y, iv z, iv t] 84)
theorem zero_int2 (w : World) : (zeroValue 33).run Tryd.prog w = .ok (.agg #[iv 0, iv 0]) w := by kernel_rfl
def Step2Rel (w0 : World) (gq : Nat) (j : Value) (wr : World) : Prop :=
  ∃ (q : Nat) (x y : Int), q + gq = 2 ∧ j = iv q ∧ wr = w0.alloc (.cells #[iv x, iv y] 33)
end Go.Proofs.YtangcjffiooapaaDoor
