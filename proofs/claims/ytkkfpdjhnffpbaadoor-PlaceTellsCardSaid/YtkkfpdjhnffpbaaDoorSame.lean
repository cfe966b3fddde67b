/- paritysame's questions. -/
import Derived.Test.YtkkfpdjhnffpbaaDoorAs
import Derived.Test.YtkkfpdjhnffpbaaDoorErr
namespace Go.Proofs.YtkkfpdjhnffpbaaDoor
open Go.RowKit
set_option linter.unusedVariables false
theorem same_nil (k : Int) (w : World) : Calls Tryd.prog 8 #[.nilIface, iv k] w fun e w' => e = .returned (.bool ((0 : Int) == k)) ∧ Below w.heap.size w w' := by
  go_enter Tryd.func8, Tryd.ntmps8
  go_wp2_with fail
  refine (told_nil _).mono ?_
  rintro e w1 ⟨rfl, hb⟩
  go_wp2_with fail
  go_ret
  exact ⟨rfl, hb⟩
theorem same_ev (n k : Int) (w : World) (hg : Handle w) : Calls Tryd.prog 8 #[ev n, iv k] w fun e w' => e = .returned (.bool (n == k)) ∧ Below w.heap.size w w' := by
  have Hg := Lib.hid hg
  clear hg
  go_enter Tryd.func8, Tryd.ntmps8
  go_wp2_with fail
  refine (told_ev n _ Hg.out).mono ?_
  rintro e w1 ⟨rfl, hb⟩
  go_wp2_with fail
  go_ret
  exact ⟨rfl, hb⟩
theorem same_any (n k : Int) (w : World) (hg : Handle w) : Calls Tryd.prog 8 #[errV n, iv k] w fun e w' => e = .returned (.bool (n == k)) ∧ Below w.heap.size w w' := by
  by_cases h : n = 0
  · subst h; exact same_nil k w
  · rw [errV_ne h]; exact same_ev n k w hg
theorem same_eq (n : Int) (w : World) (hg : Handle w) : Calls Tryd.prog 8 #[errV n, iv n] w fun e w' => e = .returned (.bool true) ∧ Below w.heap.size w w' :=
  (same_any n n w hg).mono (by rintro e w' ⟨rfl, h⟩; exact ⟨by rw [beq_t rfl], h⟩)

end Go.Proofs.YtkkfpdjhnffpbaaDoor
