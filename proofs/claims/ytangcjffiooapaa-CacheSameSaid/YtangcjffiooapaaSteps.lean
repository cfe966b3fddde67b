/- The numbers of a step, read into an array of the law's own. -/
import Derived.Test.YtangcjffiooapaaBase
namespace Go.Proofs.Ytangcjffiooapaa
open Go.RowKit
theorem zero_int2 (w : World) : (zeroValue 37).run Try.prog w = .ok (.agg #[iv 0, iv 0]) w := by kernel_rfl
def Step2Rel (w0 : World) (gq : Nat) (j : Value) (wr : World) : Prop :=
  ∃ (q : Nat) (x y : Int), q + gq = 2 ∧ j = iv q ∧ wr = w0.alloc (.cells #[iv x, iv y] 37)
end Go.Proofs.Ytangcjffiooapaa
