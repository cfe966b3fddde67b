/- A list of strings in memory (for a seat without wire). -/
import Derived.Test.YtkkfpdjhnffpbaaBase
namespace Go.Proofs.Ytkkfpdjhnffpbaa
open Go.ChangeShapes Go.WideShapes Go.ChangeAt Go.RowKit
/-- a list of strings in memory -/
def Strs (w : World) (v : Value) (ss : List ByteArray) : Prop := Row w v (ss.map Value.string)
theorem Strs.get {w : World} {v : Value} {ss : List ByteArray} (h : Strs w v ss) :
    ∃ p cap, v = .slice p ss.length cap ∧ ss.length ≤ 9223372036854775807 ∧ ∀ (j : Nat) (s : ByteArray), ss[j]? = some s → ∃ g off, p = some ⟨g, off, none⟩ ∧ w.cell? ⟨g, off + j, none⟩ = some (.string s) ∧ g < w.heap.size := by
  obtain ⟨p, cap, hv, h1, h2, h3⟩ := Row.shape h
  rw [List.length_map] at *
  unfold maxLen at h2
  refine ⟨p, cap, hv, by omega, fun j s hj => ?_⟩
  have hjl := (List.getElem?_eq_some_iff.1 hj).1
  obtain ⟨g, off, hp, h4⟩ := h3 (by omega)
  have h5 := h4 j hjl
  rw [List.getElem?_map, hj] at h5
  exact ⟨g, off, hp, h5, World.block_lt_of_cell? w _ h5⟩
theorem Strs.below {w w' : World} {v : Value} {ss : List ByteArray} (h : Strs w v ss) (hb : Below w.heap.size w w') : Strs w' v ss := Row.below h hb
end Go.Proofs.Ytkkfpdjhnffpbaa
