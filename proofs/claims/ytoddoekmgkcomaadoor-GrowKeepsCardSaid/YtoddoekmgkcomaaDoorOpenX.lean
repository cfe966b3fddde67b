/- An argument that is a list of writes, opened (for a seat without redo). -/
import Derived.Test.YtoddoekmgkcomaaDoorOpenR
namespace Go.Proofs.YtoddoekmgkcomaaDoor
open Go.ChangeShapes Go.WideShapes Go.ChangeAt Go.RowKit
set_option linter.unusedVariables false
structure WrT where
  pos : Int
  b : ByteArray
/-- a list of writes: two cells each -/
def RowWr (w : World) (v : Value) (ls : List WrT) : Prop :=
  ∃ p cap, v = .slice p ls.length cap ∧ ls.length ≤ 9223372036854775807 ∧ ∀ (j : Nat) (l : WrT), ls[j]? = some l → ∃ g off, p = some ⟨g, off, none⟩ ∧ g < w.heap.size ∧
    w.cell? ⟨g, off + j * 2, none⟩ = some (iv l.pos) ∧ w.cell? ⟨g, off + j * 2 + 1, none⟩ = some (.string l.b)
theorem RowWr.below {w w' : World} {v : Value} {ls : List WrT} (h : RowWr w v ls) (hb : Below w.heap.size w w') : RowWr w' v ls := by
  obtain ⟨p, cap, hv, h1, h2⟩ := h
  refine ⟨p, cap, hv, h1, fun j l hj => ?_⟩
  obtain ⟨g, off, hp, hg, c0, c1⟩ := h2 j l hj
  have k := fun o => hb.cell (p := ⟨g, o, none⟩) hg
  exact ⟨g, off, hp, Nat.lt_of_lt_of_le hg hb.size, (k _).trans c0, (k _).trans c1⟩
instance : Inhabited WrT := ⟨⟨0, ⟨#[]⟩⟩⟩
set_option maxRecDepth 100000 in
theorem open_writes {H : Type} {enc : TypeId × Value → H} {W : World} {v : Value} {d : DataW H} {ps : List MemPlace} {base : Nat}
    (hv : Value.okWide Tryd.prog W .any base 60 v) (h : DataW.Trod enc Tryd.prog W 0 (fun _ => true) true 60 v d ps) : ∃ ls : List WrT, RowWr W v ls ∧ ∀ l ∈ ls, l.b.size ≤ maxLen := by
  obtain ⟨p, len, cap, rfl, hl, hm, hx⟩ := open_cells Tryd.underlying60 Tryd.underlying70 (by kernel_rfl) (by kernel_rfl) (by decide) hv h
  obtain ⟨ls, hll, hls⟩ := list_of len (fun i (l : WrT) => ∃ g off, p = some ⟨g, off, none⟩ ∧ g < W.heap.size ∧
    W.cell? ⟨g, off + i * 2, none⟩ = some (iv l.pos) ∧ W.cell? ⟨g, off + i * 2 + 1, none⟩ = some (.string l.b) ∧ l.b.size ≤ maxLen) (fun i hi => by
    obtain ⟨g, off, hp, hg, hf⟩ := hx i hi
    obtain ⟨c0, y0, n0, h0, t0⟩ := hf 0 _ rfl
    obtain ⟨c1, y1, n1, h1, t1⟩ := hf 1 _ rfl
    obtain ⟨a0, e0, _, _⟩ := DataW.trod_int Tryd.underlying3 t0
    obtain ⟨a1, e1, _, hs⟩ := DataW.trod_string Tryd.underlying9 t1
    simp at e0 e1
    subst e0 e1
    exact ⟨⟨a0, a1⟩, g, off, hp, hg, h0, h1, hs⟩)
  refine ⟨ls, ⟨p, cap, by rw [hll], by unfold maxLen at hm; omega, fun j l hj => ?_⟩, fun l hl => ?_⟩
  · obtain ⟨g, off, h1, h2, h3, h4, _⟩ := hls j l hj
    exact ⟨g, off, h1, h2, h3, h4⟩
  · obtain ⟨j, hj⟩ := List.mem_iff_getElem?.1 hl
    obtain ⟨g, off, _, _, _, _, h5⟩ := hls j l hj
    exact h5
end Go.Proofs.YtoddoekmgkcomaaDoor
