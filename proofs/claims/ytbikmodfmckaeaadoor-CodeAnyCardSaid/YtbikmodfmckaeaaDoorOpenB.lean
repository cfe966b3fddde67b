/- Arguments opened: a slice of bools. -/
import Derived.Test.YtbikmodfmckaeaaDoorOpenR
namespace Go.Proofs.YtbikmodfmckaeaaDoor
open Go.ChangeShapes Go.WideShapes Go.ChangeAt Go.RowKit
set_option linter.unusedVariables false
section
variable {H : Type} {enc : TypeId × Value → H} {P : Program} {W : World} {t e : TypeId} {v : Value} {d : DataW H} {ps : List MemPlace} {base : Nat}
theorem open_bools (ht : P.underlying t = some (.slice e)) (he : P.underlying e = some .bool) (ce : P.cellsOf e = 1)
    (hv : Value.okWide P W .any base t v) (h : DataW.Trod enc P W 0 (fun _ => true) true t v d ps) : ∃ ls : List Bool, Row W v (ls.map Value.bool) := by
  obtain ⟨a0, len0, cap0, rfl⟩ := okWide_slice ht hv
  obtain ⟨fuel, hf⟩ := h
  rcases Go.Deep.open_slice1 ht ce hf with ⟨hcs, _⟩ | ⟨a, len, cap, m, n, V, D, Pl, hcs, _, hl, hm, hmm, _, hx⟩
  · simp only [Value.cells, List.cons.injEq, and_true] at hcs
    rw [hcs]
    exact ⟨[], none, 0, rfl, Nat.le_refl _, Nat.zero_le _, fun _ => rfl, fun h => by simp at h⟩
  · simp only [Value.cells, List.cons.injEq, and_true] at hcs
    rw [hcs]
    have hlm : len ≤ m := by rw [hmm]; split <;> omega
    obtain ⟨xs, hxl, hxs⟩ := list_of len (fun i (x : Bool) => W.cell? (a.add i) = some (.bool x)) (fun i hi => by
      obtain ⟨hc, ht'⟩ := hx i (by omega)
      obtain ⟨b, hc', _⟩ := DataW.trod_bool he ht'
      simp only [List.cons.injEq, and_true] at hc'
      rw [hc'] at hc
      exact ⟨b, hc⟩)
    refine ⟨xs, some a, cap, by rw [List.length_map, hxl], by rw [List.length_map, hxl]; exact hl, hm, (fun h => by cases h), fun h0 => ?_⟩
    rw [List.length_map, hxl] at h0
    have h1 := hxs 0 _ (List.getElem?_eq_getElem (by omega))
    obtain ⟨g, off, spot⟩ := a
    have hspot : spot = none := by simpa [Addr.add] using World.cell?_spot h1
    subst hspot
    refine ⟨g, off, rfl, fun j hj => ?_⟩
    rw [List.length_map, hxl] at hj
    have hj' := List.getElem?_eq_getElem (l := xs) (i := j) (by omega)
    rw [← Go.WideShapes.add_plain, hxs j _ hj', List.getElem?_map, hj']
    rfl
end
end Go.Proofs.YtbikmodfmckaeaaDoor
