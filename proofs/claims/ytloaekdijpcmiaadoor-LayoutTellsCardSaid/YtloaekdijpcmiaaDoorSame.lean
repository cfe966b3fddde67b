/- paritysame's questions. -/
import Derived.Test.YtloaekdijpcmiaaDoorAs
namespace Go.Proofs.YtloaekdijpcmiaaDoor
open Go.RowKit
set_option linter.unusedVariables false
/-- the value of an error: nil for 0, else the program's own number -/
def errV (n : Int) : Value := if n = 0 then .nilIface else ev n
theorem errV_0 : errV 0 = .nilIface := rfl
theorem errV_ne {n : Int} (h : n ≠ 0) : errV n = ev n := by unfold errV; rw [if_neg h]
theorem same_nil (k : Int) (w : World) : Calls Tryd.prog 14 #[.nilIface, iv k] w fun e w' => e = .returned (.bool ((0 : Int) == k)) ∧ Below w.heap.size w w' := by
  go_enter Tryd.func14, Tryd.ntmps14
  go_wp2_with fail
  refine (told_nil _).mono ?_
  rintro e w1 ⟨rfl, hb⟩
  go_wp2_with fail
  go_ret
  exact ⟨rfl, hb⟩
theorem same_ev (n k : Int) (w : World) (hg : Handle w) : Calls Tryd.prog 14 #[ev n, iv k] w fun e w' => e = .returned (.bool (n == k)) ∧ Below w.heap.size w w' := by
  have Hg := Lib.hid hg
  clear hg
  go_enter Tryd.func14, Tryd.ntmps14
  go_wp2_with fail
  refine (told_ev n _ Hg.out).mono ?_
  rintro e w1 ⟨rfl, hb⟩
  go_wp2_with fail
  go_ret
  exact ⟨rfl, hb⟩
end Go.Proofs.YtloaekdijpcmiaaDoor
