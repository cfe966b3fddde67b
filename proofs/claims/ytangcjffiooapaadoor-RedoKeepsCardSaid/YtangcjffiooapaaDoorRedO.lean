/- Writes: their cells in memory; arguments that are a list of writes, opened. -/
import Derived.Test.YtangcjffiooapaaDoorRedX
import Derived.Test.YtangcjffiooapaaDoorOpenR
namespace Go.Proofs.YtangcjffiooapaaDoor
open Go.ChangeShapes Go.WideShapes Go.ChangeAt Go.RowKit
set_option linter.unusedVariables false
namespace Rd
def cell2 (x : W) : List Value := [iv x.pos, .string x.b]
theorem cells_len (l : List W) : (l.flatMap cell2).length = l.length * 2 := by
  induction l with
  | nil => rfl
  | cons a t ih => rw [List.flatMap_cons, List.length_append, ih, List.length_cons]; show 2 + _ = _; omega
theorem cells_at : ∀ (l : List W) (j : Nat) (x : W), l[j]? = some x → (l.flatMap cell2)[j * 2]? = some (iv x.pos) ∧ (l.flatMap cell2)[j * 2 + 1]? = some (.string x.b)
  | [], j, x, h => by simp at h
  | a :: t, 0, x, h => by
    simp at h; subst h
    rw [List.flatMap_cons]; exact ⟨rfl, rfl⟩
  | a :: t, j + 1, x, h => by
    rw [List.getElem?_cons_succ] at h
    have ih := cells_at t j x h
    rw [List.flatMap_cons, show (j + 1) * 2 = j * 2 + 2 by omega]
    exact ⟨by rw [show j * 2 + 2 = (j * 2) + 1 + 1 by omega]; exact ih.1, by rw [show j * 2 + 2 + 1 = (j * 2 + 1) + 1 + 1 by omega]; exact ih.2⟩
end Rd
theorem rowWr_of {w : World} {base : Nat} {v : Value} {n : Nat} {ls : List Rd.W} (h : w.ownsRow base 69 2 v n (ls.flatMap Rd.cell2)) (hn : ls.length = n) (h1 : n ≤ 1000) : RowWr w v ls := by
  rcases h.2 with ⟨rfl, h0⟩ | ⟨g, cap, cur, rfl, hb, hg, hnc, hcm, hcs, ht⟩
  · have hl := h.1
    have hnil : ls = [] := List.eq_nil_of_length_eq_zero (by omega)
    subst hnil
    exact ⟨none, 0, rfl, by simp, fun j l hj => by simp at hj⟩
  · refine ⟨some ⟨g, 0, none⟩, cap, by rw [hn], by omega, fun j l hj => ?_⟩
    have hjl := (List.getElem?_eq_some_iff.1 hj).1
    have hc := Rd.cells_at ls j l hj
    have hcl := Rd.cells_len ls
    refine ⟨g, 0, rfl, (Array.getElem?_eq_some_iff.1 hg).1, ?_, ?_⟩
    · rw [Nat.zero_add, h.cellAt _ (by rw [hcl] at *; omega)]; exact hc.1
    · rw [Nat.zero_add, h.cellAt _ (by rw [hcl] at *; omega)]; exact hc.2
theorem info_wr : (Tryd.prog.info? 69).map (fun i => (i.zero, i.size, i.bytes)) = some (some (.agg #[.int .i64 0, .string ⟨#[]⟩]), 2, 24) := by kernel_rfl
instance : Inhabited Rd.W := ⟨⟨0, ⟨#[]⟩⟩⟩
theorem RowWr.low {W w' : World} {v : Value} {ls : List Rd.W} (h : RowWr W v ls) (hb : Below W.heap.size W w') : RowWr w' v ls := h.below hb
set_option maxRecDepth 100000 in
theorem open_writes {H : Type} {enc : TypeId × Value → H} {W : World} {v : Value} {d : DataW H} {ps : List MemPlace} {base : Nat}
    (hv : Value.okWide Tryd.prog W .any base 67 v) (h : DataW.Trod enc Tryd.prog W 0 (fun _ => true) true 67 v d ps) : ∃ ls : List Rd.W, RowWr W v ls ∧ ∀ l ∈ ls, l.b.size ≤ maxLen := by
  obtain ⟨p, len, cap, rfl, hl, hm, hx⟩ := open_cells Tryd.underlying67 Tryd.underlying69 (by kernel_rfl) (by kernel_rfl) (by decide) hv h
  obtain ⟨ls, hll, hls⟩ := list_of len (fun i (l : Rd.W) => ∃ g off, p = some ⟨g, off, none⟩ ∧ g < W.heap.size ∧
    W.cell? ⟨g, off + i * 2, none⟩ = some (iv l.pos) ∧ W.cell? ⟨g, off + i * 2 + 1, none⟩ = some (.string l.b) ∧ l.b.size ≤ maxLen) (fun i hi => by
    obtain ⟨g, off, hp, hg, hf⟩ := hx i hi
    obtain ⟨c0, y0, n0, h0, t0⟩ := hf 0 _ rfl
    obtain ⟨c1, y1, n1, h1, t1⟩ := hf 1 _ rfl
    obtain ⟨a0, e0, _, _⟩ := DataW.trod_int Tryd.underlying3 t0
    obtain ⟨a1, e1, _, hs⟩ := DataW.trod_string Tryd.underlying9 t1
    simp at e0 e1
    subst e0 e1
    exact ⟨⟨a0, a1⟩, g, off, hp, hg, h0, h1, hs⟩)
  refine ⟨ls, ⟨p, cap, by rw [hll], by unfold maxLen at hm; omega, fun j l hj => ?_⟩, fun l hl => ?_⟩
  · obtain ⟨g, off, h1, h2, h3, h4, _⟩ := hls j l hj
    exact ⟨g, off, h1, h2, h3, h4⟩
  · obtain ⟨j, hj⟩ := List.mem_iff_getElem?.1 hl
    obtain ⟨g, off, _, _, _, _, h5⟩ := hls j l hj
    exact h5
end Go.Proofs.YtangcjffiooapaaDoor
