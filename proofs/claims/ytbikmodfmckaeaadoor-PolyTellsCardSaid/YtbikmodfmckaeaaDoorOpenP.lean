/- Arguments opened: a list of points. -/
import Derived.Test.YtbikmodfmckaeaaDoorOpenR
import Derived.Test.YtbikmodfmckaeaaDoorPolG
namespace Go.Proofs.YtbikmodfmckaeaaDoor
open Go.ChangeShapes Go.WideShapes Go.ChangeAt Go.RowKit
set_option linter.unusedVariables false
set_option maxRecDepth 100000 in
theorem open_points {H : Type} {enc : TypeId × Value → H} {W : World} {v : Value} {d : DataW H} {ps : List MemPlace} {base : Nat}
    (hv : Value.okWide Tryd.prog W .any base 23 v) (h : DataW.Trod enc Tryd.prog W 0 (fun _ => true) true 23 v d ps) : ∃ ls : List Pl.Pt, RowPt W v ls := by
  obtain ⟨p, len, cap, rfl, hl, hm, hx⟩ := open_cells Tryd.underlying23 Tryd.underlying40 (by kernel_rfl) (by kernel_rfl) (by decide) hv h
  unfold maxLen at hm
  obtain ⟨ls, hll, hls⟩ := list_of len (fun i (l : Pl.Pt) => ∃ g off, p = some ⟨g, off, none⟩ ∧ g < W.heap.size ∧
    W.cell? ⟨g, off + i * 2, none⟩ = some (bv l.1) ∧ W.cell? ⟨g, off + i * 2 + 1, none⟩ = some (bv l.2)) (fun i hi => by
    obtain ⟨g, off, hp, hg, hf⟩ := hx i hi
    obtain ⟨c0, y0, n0, h0, t0⟩ := hf 0 _ rfl
    obtain ⟨c1, y1, n1, h1, t1⟩ := hf 1 _ rfl
    obtain ⟨a0, e0, _, w0⟩ := DataW.trod_int Tryd.underlying5 t0
    obtain ⟨a1, e1, _, w1⟩ := DataW.trod_int Tryd.underlying5 t1
    simp at e0 e1
    subst e0 e1
    obtain ⟨b0, rfl⟩ := byte_of w0
    obtain ⟨b1, rfl⟩ := byte_of w1
    exact ⟨(b0, b1), g, off, hp, hg, h0, h1⟩)
  exact ⟨ls, p, cap, by rw [hll], by omega, by omega, fun j l hj => hls j l hj⟩
end Go.Proofs.YtbikmodfmckaeaaDoor
