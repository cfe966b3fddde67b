/- Arguments opened: a slice of slices of bytes. -/
import Derived.Test.YtbikmodfmckaeaaDoorOpenR
import Derived.Test.YtbikmodfmckaeaaDoorMatK
namespace Go.Proofs.YtbikmodfmckaeaaDoor
open Go.ChangeShapes Go.WideShapes Go.ChangeAt Go.RowKit
set_option linter.unusedVariables false
section
variable {H : Type} {enc : TypeId × Value → H} {P : Program} {W : World} {t e q : TypeId} {v : Value} {d : DataW H} {ps : List MemPlace} {base : Nat}
theorem row_of_trod {fuel : Nat} {x : DataW H × List MemPlace} (he : P.underlying e = some (.slice q)) (hq : P.underlying q = some (.int .u8)) (cq : P.cellsOf q = 1) (h : DataW.trod enc P W 0 (fun _ => true) true fuel e [v] = some x) : ∃ l : List UInt8, RowB W v l := by
  rcases Go.Deep.open_slice1 he cq h with ⟨hcs, _⟩ | ⟨a, len, cap, m, n, V, D, Pl, hcs, _, hl, hm, hmm, _, hx⟩
  · simp only [List.cons.injEq, and_true] at hcs
    rw [hcs]
    exact ⟨[], none, 0, rfl, Nat.le_refl _, Nat.zero_le _, fun _ => rfl, fun h => by simp at h⟩
  · simp only [List.cons.injEq, and_true] at hcs
    rw [hcs]
    have hlm : len ≤ m := by rw [hmm]; split <;> omega
    obtain ⟨xs, hxl, hxs⟩ := list_of len (fun i (x : UInt8) => W.cell? (a.add i) = some (bv x)) (fun i hi => by
      obtain ⟨hc, ht'⟩ := hx i (by omega)
      obtain ⟨y, hc', _, hw⟩ := DataW.trod_int hq ht'
      simp only [List.cons.injEq, and_true] at hc'
      rw [hc'] at hc
      obtain ⟨b, rfl⟩ := byte_of hw
      exact ⟨b, hc⟩)
    refine ⟨xs, some a, cap, by rw [List.length_map, hxl], by rw [List.length_map, hxl]; exact hl, hm, (fun h => by cases h), fun h0 => ?_⟩
    rw [List.length_map, hxl] at h0
    have h1 := hxs 0 _ (List.getElem?_eq_getElem (by omega))
    obtain ⟨g, off, spot⟩ := a
    have hspot : spot = none := by simpa [Addr.add] using World.cell?_spot h1
    subst hspot
    refine ⟨g, off, rfl, fun j hj => ?_⟩
    rw [List.length_map, hxl] at hj
    have hj' := List.getElem?_eq_getElem (l := xs) (i := j) (by omega)
    rw [← Go.WideShapes.add_plain, hxs j _ hj', List.getElem?_map, hj']
    rfl
theorem open_bytes2 (ht : P.underlying t = some (.slice e)) (he : P.underlying e = some (.slice q)) (hq : P.underlying q = some (.int .u8)) (ce : P.cellsOf e = 1) (cq : P.cellsOf q = 1)
    (hv : Value.okWide P W .any base t v) (h : DataW.Trod enc P W 0 (fun _ => true) true t v d ps) : ∃ M, RowsM W v M := by
  obtain ⟨a0, len0, cap0, rfl⟩ := okWide_slice ht hv
  obtain ⟨fuel, hf⟩ := h
  rcases Go.Deep.open_slice1 ht ce hf with ⟨hcs, _⟩ | ⟨a, len, cap, m, n, V, D, Pl, hcs, _, hl, hm, hmm, _, hx⟩
  · simp only [Value.cells, List.cons.injEq, and_true] at hcs
    rw [hcs]
    exact ⟨[], [], ⟨none, 0, rfl, Nat.le_refl _, Nat.zero_le _, fun _ => rfl, fun h => by simp at h⟩, rfl, fun i l hl => by simp at hl⟩
  · simp only [Value.cells, List.cons.injEq, and_true] at hcs
    rw [hcs]
    have hlm : len ≤ m := by rw [hmm]; split <;> omega
    obtain ⟨M, hMl, hM⟩ := list_of len (fun i (l : List UInt8) => RowB W (V i) l) (fun i hi => by
      obtain ⟨hc, ht'⟩ := hx i (by omega)
      exact row_of_trod he hq cq ht')
    refine ⟨M, (List.range len).map V, ⟨some a, cap, by simp, by simpa using hl, hm, (fun h => by cases h), fun h0 => ?_⟩, by simp [hMl], fun i l hl' => ?_⟩
    · rw [List.length_map, List.length_range] at h0
      have h1 := (hx 0 (by omega)).1
      obtain ⟨g, off, spot⟩ := a
      have hspot : spot = none := by simpa [Addr.add] using World.cell?_spot h1
      subst hspot
      refine ⟨g, off, rfl, fun j hj => ?_⟩
      rw [List.length_map, List.length_range] at hj
      rw [← Go.WideShapes.add_plain, (hx j (by omega)).1, List.getElem?_map, List.getElem?_range hj]
      rfl
    · have hi := (List.getElem?_eq_some_iff.1 hl').1
      rw [hMl] at hi
      exact ⟨V i, by rw [List.getElem?_map, List.getElem?_range hi]; rfl, hM i l hl'⟩
end
end Go.Proofs.YtbikmodfmckaeaaDoor
