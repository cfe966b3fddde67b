/- The walk of paritysame.Ints at two lists that are the same. -/
import Derived.Test.YtbikmodfmckaeaaDoorBase
import Derived.Deep.LoopGhost
namespace Go.Proofs.YtbikmodfmckaeaaDoor
open Go.ChangeShapes Go.WideShapes Go.ChangeAt Go.RowKit
set_option linter.unusedVariables false
theorem Row.get {w : World} {v : Value} {xs : List Value} (h : Row w v xs) :
    ∃ p cap, v = .slice p xs.length cap ∧ xs.length ≤ 9223372036854775807 ∧ cap ≤ 9223372036854775807 ∧ ∀ j, j < xs.length → ∃ g off, p = some ⟨g, off, none⟩ ∧ w.cell? ⟨g, off + j, none⟩ = xs[j]? ∧ g < w.heap.size := by
  obtain ⟨p, cap, hv, h1, h2, h3⟩ := h.shape
  unfold maxLen at h2
  refine ⟨p, cap, hv, by omega, by omega, fun j hj => ?_⟩
  obtain ⟨g, off, hp, h4⟩ := h3 (by omega)
  refine ⟨g, off, hp, h4 j hj, ?_⟩
  have h5 := h4 j hj
  rw [List.getElem?_eq_getElem hj] at h5
  exact World.block_lt_of_cell? w _ h5
theorem Row.drewN {w : World} {v : Value} {xs : List Value} (h : Row w v xs) (n : Nat) : Row (w.drewN n) v xs := h.below (bdrew (Below.refl _ _) n)
def SameRel (n : Nat) (w : World) (gk : Nat) (i : Value) (wr : World) : Prop := ∃ k nd : Nat, k + gk = n ∧ i = iv k ∧ wr = w.drewN nd
end Go.Proofs.YtbikmodfmckaeaaDoor
