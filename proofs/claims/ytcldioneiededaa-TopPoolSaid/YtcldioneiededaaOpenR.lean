/- Arguments opened: a slice of numbers; a slice of structs whose fields take a cell each. -/
import Derived.Test.YtcldioneiededaaLift
import Derived.Deep.Slices
import Derived.Deep.Fields
import Derived.ChangeSame
namespace Go.Proofs.Ytcldioneiededaa
open Go.ChangeShapes Go.WideShapes Go.ChangeAt Go.RowKit
set_option linter.unusedVariables false
theorem list_of {α : Type} [Inhabited α] (n : Nat) (P : Nat → α → Prop) (h : ∀ i, i < n → ∃ x, P i x) : ∃ xs : List α, xs.length = n ∧ ∀ i x, xs[i]? = some x → P i x := by
  have h' : ∀ i, ∃ x, i < n → P i x := fun i => by
    by_cases c : i < n
    · obtain ⟨x, hx⟩ := h i c; exact ⟨x, fun _ => hx⟩
    · exact ⟨default, fun e => absurd e c⟩
  refine ⟨(List.range n).map fun i => Classical.choose (h' i), by simp, fun i x hx => ?_⟩
  have hi : i < n := by
    have := (List.getElem?_eq_some_iff.1 hx).1
    simpa using this
  rw [List.getElem?_map, List.getElem?_range hi] at hx
  obtain rfl := Option.some.inj hx
  exact Classical.choose_spec (h' i) hi
section
variable {H : Type} {enc : TypeId × Value → H} {P : Program} {W : World} {t e : TypeId} {v : Value} {d : DataW H} {ps : List MemPlace} {base : Nat}
theorem open_nums {k : IntKind} (ht : P.underlying t = some (.slice e)) (he : P.underlying e = some (.int k)) (ce : P.cellsOf e = 1)
    (hv : Value.okWide P W .any base t v) (h : DataW.Trod enc P W 0 (fun _ => true) true t v d ps) : ∃ xs : List Int, Row W v (xs.map (Value.int k)) ∧ ∀ n ∈ xs, (Lit.int k n).wf = true := by
  obtain ⟨a0, len0, cap0, rfl⟩ := okWide_slice ht hv
  obtain ⟨fuel, hf⟩ := h
  rcases Go.Deep.open_slice ht hf with ⟨hcs, _⟩ | ⟨a, len, cap, m, n, D, Pl, hcs, _, hl, hm, hmm, _, hx⟩
  · simp only [Value.cells, List.cons.injEq, and_true] at hcs
    rw [hcs]
    exact ⟨[], ⟨none, 0, rfl, Nat.le_refl _, Nat.zero_le _, fun _ => rfl, fun h => by simp at h⟩, by intro s hs; cases hs⟩
  · simp only [Value.cells, List.cons.injEq, and_true] at hcs
    rw [hcs]
    have hlm : len ≤ m := by rw [hmm]; split <;> omega
    obtain ⟨xs, hxl, hxs⟩ := list_of len (fun i (x : Int) => W.cell? (a.add i) = some (.int k x) ∧ (Lit.int k x).wf = true) (fun i hi => by
      obtain ⟨cs', hc, ht'⟩ := hx i (by omega)
      obtain ⟨_, hcl, hat⟩ := World.cells?_some hc
      rw [ce] at hc hcl hat
      obtain ⟨x, hc', _, hw⟩ := DataW.trod_int he ht'
      have := hat 0 (by omega)
      rw [hc'] at this
      rw [Nat.mul_one] at this
      exact ⟨x, by simpa [Addr.add] using this, hw⟩)
    refine ⟨xs, ⟨some a, cap, by rw [List.length_map, hxl], by rw [List.length_map, hxl]; exact hl, hm, (fun h => by cases h), fun h0 => ?_⟩, fun x hx => ?_⟩
    · rw [List.length_map, hxl] at h0
      have h1 := (hxs 0 _ (List.getElem?_eq_getElem (by omega))).1
      obtain ⟨g, off, spot⟩ := a
      have hspot : spot = none := by simpa [Addr.add] using World.cell?_spot h1
      subst hspot
      refine ⟨g, off, rfl, fun j hj => ?_⟩
      rw [List.length_map, hxl] at hj
      have hj' := List.getElem?_eq_getElem (l := xs) (i := j) (by omega)
      rw [← Go.WideShapes.add_plain, (hxs j _ hj').1, List.getElem?_map, hj']
      rfl
    · obtain ⟨i, hi⟩ := List.mem_iff_getElem?.1 hx
      exact (hxs i x hi).2
/-- each element's cells, each with its own reading -/
theorem open_cells {fs : Array Field} (ht : P.underlying t = some (.slice e)) (he : P.underlying e = some (.struct fs)) (hone : Go.Deep.oneCellFields P fs = true) (hC : P.cellsOf e = fs.size) (hfs : 0 < fs.size)
    (hv : Value.okWide P W .any base t v) (h : DataW.Trod enc P W 0 (fun _ => true) true t v d ps) :
    ∃ p len cap, v = .slice p len cap ∧ len ≤ cap ∧ cap ≤ maxLen ∧ ∀ i, i < len → ∃ g off, p = some ⟨g, off, none⟩ ∧ g < W.heap.size ∧ ∀ (j : Nat) (f : Field), fs[j]? = some f → ∃ c y n, W.cell? ⟨g, off + i * fs.size + j, none⟩ = some c ∧ DataW.trod enc P W 0 (fun _ => true) true n f.type [c] = some y := by
  obtain ⟨a0, len0, cap0, rfl⟩ := okWide_slice ht hv
  obtain ⟨fuel, hf⟩ := h
  rcases Go.Deep.open_slice ht hf with ⟨hcs, _⟩ | ⟨a, len, cap, m, n, D, Pl, hcs, _, hl, hm, hmm, _, hx⟩
  · simp only [Value.cells, List.cons.injEq, and_true] at hcs
    exact ⟨none, 0, 0, hcs, Nat.le_refl _, Nat.zero_le _, fun i hi => by omega⟩
  · simp only [Value.cells, List.cons.injEq, and_true] at hcs
    have hlm : len ≤ m := by rw [hmm]; split <;> omega
    refine ⟨some a, len, cap, hcs, hl, hm, fun i hi => ?_⟩
    obtain ⟨cs', hc, ht'⟩ := hx i (by omega)
    obtain ⟨_, hcl, hat⟩ := World.cells?_some hc
    rw [hC] at hc hcl hat
    obtain ⟨ys, n', hn', hy, hlen, hyl, hg⟩ := DataW.trod_struct he ht'
    have hspot : a.spot = none := by
      obtain ⟨cs0, hc0, _⟩ := hx 0 (by omega)
      obtain ⟨_, hcl0, hat0⟩ := World.cells?_some hc0
      rw [hC] at hcl0 hat0
      have h9 := hat0 0 hfs
      rw [List.getElem?_eq_getElem (by omega)] at h9
      have := World.cell?_spot h9
      simpa [Addr.add] using this
    have h0 := hat 0 hfs
    rw [List.getElem?_eq_getElem (by omega)] at h0
    obtain ⟨g, off, spot⟩ := a
    simp only at hspot
    subst hspot
    rw [Go.WideShapes.add_plain, Go.WideShapes.add_plain] at h0
    have hb := World.block_lt_of_cell? W _ h0
    refine ⟨g, off, rfl, hb, fun j f hj => ?_⟩
    have hjl : j < fs.size := (Array.getElem?_eq_some_iff.1 hj).1
    obtain ⟨ho, hk⟩   := Go.Deep.hone_of hone j f hj
    have h1 := hg j f hj
    rw [ho, hk, List.drop_eq_getElem_cons (by omega)] at h1
    have h2 := hat j hjl
    rw [List.getElem?_eq_getElem (by omega)] at h2
    have hys : ys[j]? = some (ys[j]'(by omega)) := List.getElem?_eq_getElem (by omega)
    rw [Go.WideShapes.add_plain, Go.WideShapes.add_plain] at h2
    exact ⟨_, _, _, h2, h1.trans hys⟩
end
end Go.Proofs.Ytcldioneiededaa
