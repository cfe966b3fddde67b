/- An argument that is a list of strings, opened. -/
import Derived.Test.YtcldioneiededaaDoorTexts
import Derived.SliceStrings
namespace Go.Proofs.YtcldioneiededaaDoor
open Go.ChangeShapes Go.WideShapes Go.ChangeAt Go.RowKit
theorem open_strs {H : Type} {enc : TypeId × Value → H} {P : Program} {W : World} {t e : TypeId} {v : Value} {d : DataW H} {ps : List MemPlace} {base : Nat}
    (ht : P.underlying t = some (.slice e)) (he : P.underlying e = some .string) (ce : P.cellsOf e = 1)
    (hv : Value.okWide P W .any base t v) (h : DataW.Trod enc P W 0 (fun _ => true) true t v d ps) : ∃ ss, Strs W v ss ∧ ∀ s ∈ ss, s.size ≤ maxLen := by
  obtain ⟨a0, len0, cap0, rfl⟩ := okWide_slice ht hv
  obtain ⟨fuel, hf⟩ := h
  rcases open_strings ht he ce hf with ⟨hcs, _⟩ | ⟨a, len, cap, ss, hcs, _, hl, hm, hz, _, hcell, hws⟩
  · simp only [Value.cells, List.cons.injEq, and_true] at hcs
    rw [hcs]
    exact ⟨[], ⟨none, 0, rfl, Nat.le_refl _, Nat.zero_le _, fun _ => rfl, fun h => by simp at h⟩, by intro s hs; cases hs⟩
  · simp only [Value.cells, List.cons.injEq, and_true] at hcs
    rw [hcs]
    have hlen : len ≤ ss.length := by rw [hz]; split <;> omega
    have ht' : ((ss.take len).map Value.string).length = len := by rw [List.length_map, List.length_take]; omega
    refine ⟨ss.take len, ⟨some a, cap, by rw [ht'], by rw [ht']; exact hl, hm, (fun h => by cases h), fun h0 => ?_⟩, fun s hs => hws s (List.mem_of_mem_take hs)⟩
    rw [ht'] at h0
    have h1 := hcell 0 (by omega)
    obtain ⟨g, off, spot⟩ := a
    have hspot : spot = none := by simpa [Addr.add] using World.cell?_spot h1
    subst hspot
    refine ⟨g, off, rfl, fun j hj => ?_⟩
    rw [ht'] at hj
    rw [← Go.WideShapes.add_plain, hcell j (by omega), List.getElem?_map, List.getElem?_take, if_pos hj, List.getElem?_eq_getElem (by omega)]
    simp [List.getD, List.getElem?_eq_getElem (show j < ss.length by omega)]
end Go.Proofs.YtcldioneiededaaDoor
