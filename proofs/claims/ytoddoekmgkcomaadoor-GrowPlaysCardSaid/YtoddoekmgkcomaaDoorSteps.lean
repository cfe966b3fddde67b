/- The numbers of a step, read into an array of the law's own. -/
import Derived.Test.YtoddoekmgkcomaaDoorBase
namespace Go.Proofs.YtoddoekmgkcomaaDoor
open Go.RowKit
theorem zero_int4 (w : World) : (zeroValue 86).run Tryd.prog w = .ok (.agg #[iv 0, iv 0, iv 0, iv 0]) w := by kernel_rfl
def Step4Rel (w0 : World) (gq : Nat) (j : Value) (wr : World) : Prop :=
  ∃ (q : Nat) (x y z t : Int), q + gq = 4 ∧ j = iv q ∧ wr = w0.alloc (.cells #[iv x, iv y, iv z, iv t] 86)
theorem zero_int2 (w : World) : (zeroValue 75).run Tryd.prog w = .ok (.agg #[iv 0, iv 0]) w := by kernel_rfl
def Step2Rel (w0 : World) (gq : Nat) (j : Value) (wr : World) : Prop :=
  ∃ (q : Nat) (x y : Int), q + gq = 2 ∧ j = iv q ∧ wr = w0.alloc (.cells #[iv x, iv y] 75)
end Go.Proofs.YtoddoekmgkcomaaDoor
