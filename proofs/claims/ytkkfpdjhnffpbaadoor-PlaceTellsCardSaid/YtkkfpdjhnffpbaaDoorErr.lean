/- An error as a value. -/
import Derived.Test.YtkkfpdjhnffpbaaDoorKept
namespace Go.Proofs.YtkkfpdjhnffpbaaDoor
/-- the value of an error: nil for 0, else the program's own number -/
def errV (n : Int) : Value := if n = 0 then .nilIface else ev n
theorem errV_0 : errV 0 = .nilIface := rfl
theorem errV_ne {n : Int} (h : n ≠ 0) : errV n = ev n := by unfold errV; rw [if_neg h]
end Go.Proofs.YtkkfpdjhnffpbaaDoor
