/- An error as a value. · paritysame's questions. · The library's IndexFunc, ContainsFunc and DeleteFunc at lists of one-cell elements, by a function that only looks. -/
import Derived.Test.YtbikmodfmckaeaaDoorSlI
import Derived.Test.YtbikmodfmckaeaaDoorAs
import Derived.Deep.LoopGhost
import Derived.Lib.SliceRun
import Derived.Deep.Upon
namespace Go.Proofs.YtbikmodfmckaeaaDoor
/-- the value of an error: nil for 0, else the program's own number -/
def errV (n : Int) : Value := if n = 0 then .nilIface else ev n
theorem errV_0 : errV 0 = .nilIface := rfl
theorem errV_ne {n : Int} (h : n ≠ 0) : errV n = ev n := by unfold errV; rw [if_neg h]
end Go.Proofs.YtbikmodfmckaeaaDoor
namespace Go.Proofs.YtbikmodfmckaeaaDoor
open Go.RowKit
set_option linter.unusedVariables false
theorem same_nil (k : Int) (w : World) : Calls Tryd.prog 14 #[.nilIface, iv k] w fun e w' => e = .returned (.bool ((0 : Int) == k)) ∧ Below w.heap.size w w' := by
  go_enter Tryd.func14, Tryd.ntmps14
  go_wp2_with fail
  refine (told_nil _).mono ?_
  rintro e w1 ⟨rfl, hb⟩
  go_wp2_with fail
  go_ret
  exact ⟨rfl, hb⟩
theorem same_ev (n k : Int) (w : World) (hg : Handle w) : Calls Tryd.prog 14 #[ev n, iv k] w fun e w' => e = .returned (.bool (n == k)) ∧ Below w.heap.size w w' := by
  have Hg := Lib.hid hg
  clear hg
  go_enter Tryd.func14, Tryd.ntmps14
  go_wp2_with fail
  refine (told_ev n _ Hg.out).mono ?_
  rintro e w1 ⟨rfl, hb⟩
  go_wp2_with fail
  go_ret
  exact ⟨rfl, hb⟩
theorem same_any (n k : Int) (w : World) (hg : Handle w) : Calls Tryd.prog 14 #[errV n, iv k] w fun e w' => e = .returned (.bool (n == k)) ∧ Below w.heap.size w w' := by
  by_cases h : n = 0
  · subst h; exact same_nil k w
  · rw [errV_ne h]; exact same_ev n k w hg
theorem same_eq (n : Int) (w : World) (hg : Handle w) : Calls Tryd.prog 14 #[errV n, iv n] w fun e w' => e = .returned (.bool true) ∧ Below w.heap.size w w' :=
  (same_any n n w hg).mono (by rintro e w' ⟨rfl, h⟩; exact ⟨by rw [beq_t rfl], h⟩)

end Go.Proofs.YtbikmodfmckaeaaDoor
namespace Go.Proofs.YtbikmodfmckaeaaDoor
open Go.ChangeShapes Go.WideShapes Go.ChangeAt Go.RowKit
set_option linter.unusedVariables false
/-- what is asked of a function of an element that says yes or no: that it says so wherever S holds, and leaves all as it was -/
def PredQ {α : Type} (enc : α → Value) (g : Nat) (lb : Array Value) (p : α → Bool) (S : World → Prop) : Prop :=
  ∀ W : World, S W → ∀ x, Calls Tryd.prog g (#[enc x] ++ lb) W fun e w' => e = .returned (.bool (p x)) ∧ W = w'
def firstQ {α : Type} (ls : List α) (p : α → Bool) : Int := if ls.findIdx p < ls.length then (ls.findIdx p : Nat) else -1
theorem firstQ_hit {α : Type} {ls : List α} {p : α → Bool} {k : Nat} {l : α} (hl : ls[k]? = some l) (hp : p l = true) (hno : ∀ j l, j < k → ls[j]? = some l → p l = false) : firstQ ls p = k := by
  have hk := (List.getElem?_eq_some_iff.1 hl)
  have h : ls.findIdx p = k := by
    rw [List.findIdx_eq hk.1]
    refine ⟨by rw [hk.2]; exact hp, fun j hj => hno j _ hj (List.getElem?_eq_getElem _)⟩
  unfold firstQ; rw [h, if_pos hk.1]
theorem firstQ_miss {α : Type} {ls : List α} {p : α → Bool} (hno : ∀ j l, j < ls.length → ls[j]? = some l → p l = false) : firstQ ls p = -1 := by
  unfold firstQ
  rw [if_neg]
  intro h
  have h2 := List.findIdx_getElem (w := h)
  rw [hno _ _ h (List.getElem?_eq_getElem h)] at h2
  cases h2
theorem firstQ_nonneg {α : Type} (ls : List α) (p : α → Bool) : decide (0 ≤ firstQ ls p) = ls.any p := by
  unfold firstQ
  split
  · rename_i h
    rw [List.findIdx_lt_length] at h
    rw [dec_t (by omega)]; symm; rw [List.any_eq_true]; exact h
  · rename_i h
    rw [List.findIdx_lt_length] at h
    rw [dec_f (by omega)]; symm; rw [List.any_eq_false]
    intro x hx hp; exact h ⟨x, hx, hp⟩
theorem firstQ_at {α : Type} {ls : List α} {p : α → Bool} {k : Nat} (h : firstQ ls p = k) : k < ls.length ∧ (∀ j l, j < k → ls[j]? = some l → p l = false) ∧ ∃ l, ls[k]? = some l ∧ p l = true := by
  unfold firstQ at h
  split at h
  · rename_i hlt
    have hk : ls.findIdx p = k := by omega
    subst hk
    refine ⟨hlt, fun j l hj hl => ?_, _, List.getElem?_eq_getElem hlt, List.findIdx_getElem (w := hlt)⟩
    have := List.not_of_lt_findIdx hj
    rw [List.getElem?_eq_getElem (Nat.lt_trans hj hlt)] at hl
    rw [← Option.some.inj hl]; simpa using this
  · omega
theorem firstQ_no {α : Type} {ls : List α} {p : α → Bool} (h : firstQ ls p < 0) : ls.any p = false := by
  have := firstQ_nonneg ls p
  rw [dec_f (by omega)] at this; exact this.symm
def IdxQRel {α : Type} (ls : List α) (p : α → Bool) (w : World) (gk : Nat) (i : Value) (wr : World) : Prop :=
  ∃ k : Nat, k + gk = ls.length ∧ i = iv k ∧ wr = w ∧ ∀ j l, j < k → ls[j]? = some l → p l = false
end Go.Proofs.YtbikmodfmckaeaaDoor
