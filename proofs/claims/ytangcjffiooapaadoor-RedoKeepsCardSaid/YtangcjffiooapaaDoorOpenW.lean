/- Arguments opened: a list of lists of writes. -/
import Derived.Test.YtangcjffiooapaaDoorRedO
namespace Go.Proofs.YtangcjffiooapaaDoor
open Go.ChangeShapes Go.WideShapes Go.ChangeAt Go.RowKit
set_option linter.unusedVariables false
def RowsW (w : World) (v : Value) (lss : List (List Rd.W)) : Prop :=
  ∃ p cap, v = .slice p lss.length cap ∧ lss.length ≤ 9223372036854775807 ∧ ∀ (j : Nat) (l : List Rd.W), lss[j]? = some l → ∃ g off vj, p = some ⟨g, off, none⟩ ∧ g < w.heap.size ∧
    w.cell? ⟨g, off + j, none⟩ = some vj ∧ RowWr w vj l
section
variable {H : Type} {enc : TypeId × Value → H} {P : Program} {W : World} {t e : TypeId} {v : Value} {d : DataW H} {ps : List MemPlace} {base : Nat}
/-- each element's cells, each with its own reading -/
theorem open_cellsT {fs : Array Field} (ht : P.underlying t = some (.slice e)) (he : P.underlying e = some (.struct fs)) (hone : Go.Deep.oneCellFields P fs = true) (hC : P.cellsOf e = fs.size) (hfs : 0 < fs.size)
    {fuel : Nat} {cs : List Value} {y : DataW H × List MemPlace} (hf : DataW.trod enc P W 0 (fun _ => true) true fuel t cs = some y) :
    ∃ p len cap, cs = [.slice p len cap] ∧ len ≤ cap ∧ cap ≤ maxLen ∧ ∀ i, i < len → ∃ g off, p = some ⟨g, off, none⟩ ∧ g < W.heap.size ∧ ∀ (j : Nat) (f : Field), fs[j]? = some f → ∃ c y n, W.cell? ⟨g, off + i * fs.size + j, none⟩ = some c ∧ DataW.trod enc P W 0 (fun _ => true) true n f.type [c] = some y := by
  rcases Go.Deep.open_slice ht hf with ⟨hcs, _⟩ | ⟨a, len, cap, m, n, D, Pl, hcs, _, hl, hm, hmm, _, hx⟩
  · exact ⟨none, 0, 0, hcs, Nat.le_refl _, Nat.zero_le _, fun i hi => by omega⟩
  · have hlm : len ≤ m := by rw [hmm]; split <;> omega
    refine ⟨some a, len, cap, hcs, hl, hm, fun i hi => ?_⟩
    obtain ⟨cs', hc, ht'⟩ := hx i (by omega)
    obtain ⟨_, hcl, hat⟩ := World.cells?_some hc
    rw [hC] at hc hcl hat
    obtain ⟨ys, n', hn', hy, hlen, hyl, hg⟩ := DataW.trod_struct he ht'
    have hspot : a.spot = none := by
      obtain ⟨cs0, hc0, _⟩ := hx 0 (by omega)
      obtain ⟨_, hcl0, hat0⟩ := World.cells?_some hc0
      rw [hC] at hcl0 hat0
      have h9 := hat0 0 hfs
      rw [List.getElem?_eq_getElem (by omega)] at h9
      have := World.cell?_spot h9
      simpa [Addr.add] using this
    have h0 := hat 0 hfs
    rw [List.getElem?_eq_getElem (by omega)] at h0
    obtain ⟨g, off, spot⟩ := a
    simp only at hspot
    subst hspot
    rw [Go.WideShapes.add_plain, Go.WideShapes.add_plain] at h0
    have hb := World.block_lt_of_cell? W _ h0
    refine ⟨g, off, rfl, hb, fun j f hj => ?_⟩
    have hjl : j < fs.size := (Array.getElem?_eq_some_iff.1 hj).1
    obtain ⟨ho, hk⟩   := Go.Deep.hone_of hone j f hj
    have h1 := hg j f hj
    rw [ho, hk, List.drop_eq_getElem_cons (by omega)] at h1
    have h2 := hat j hjl
    rw [List.getElem?_eq_getElem (by omega)] at h2
    have hys : ys[j]? = some (ys[j]'(by omega)) := List.getElem?_eq_getElem (by omega)
    rw [Go.WideShapes.add_plain, Go.WideShapes.add_plain] at h2
    exact ⟨_, _, _, h2, h1.trans hys⟩
end
instance : Inhabited Value := ⟨.nilIface⟩
set_option maxRecDepth 100000 in
theorem open_writess {H : Type} {enc : TypeId × Value → H} {W : World} {v : Value} {d : DataW H} {ps : List MemPlace} {base : Nat}
    (hv : Value.okWide Tryd.prog W .any base 75 v) (h : DataW.Trod enc Tryd.prog W 0 (fun _ => true) true 75 v d ps) : ∃ lss : List (List Rd.W), RowsW W v lss := by
  obtain ⟨a0, len0, cap0, rfl⟩ := okWide_slice Tryd.underlying75 hv
  obtain ⟨fuel, hf⟩ := h
  rcases Go.Deep.open_slice1 Tryd.underlying75 (by kernel_rfl) hf with ⟨hcs, _⟩ | ⟨a, len, cap, m, n, V, D, Pl, hcs, _, hl, hm, hmm, _, hx⟩
  · simp only [Value.cells, List.cons.injEq, and_true] at hcs
    rw [hcs]
    exact ⟨[], none, 0, rfl, by simp, fun j l hj => by simp at hj⟩
  · simp only [Value.cells, List.cons.injEq, and_true] at hcs
    rw [hcs]
    have hlm : len ≤ m := by rw [hmm]; split <;> omega
    obtain ⟨lss, hll, hls⟩ := list_of len (fun i (l : List Rd.W) => ∃ g off vj, (some a : Option Addr) = some ⟨g, off, none⟩ ∧ g < W.heap.size ∧ W.cell? ⟨g, off + i, none⟩ = some vj ∧ RowWr W vj l) (fun i hi => by
      obtain ⟨h1, h2⟩ := hx i (by omega)
      obtain ⟨g, off, spot⟩ := a
      have hspot : spot = none := by
        have h10 := (hx 0 (by omega)).1
        simpa [Addr.add] using World.cell?_spot h10
      subst hspot
      rw [Go.WideShapes.add_plain] at h1
      obtain ⟨p', len', cap', hcs', hl', hm', hx'⟩ := open_cellsT Tryd.underlying67 Tryd.underlying69 (by kernel_rfl) (by kernel_rfl) (by decide) h2
      obtain ⟨ls, hll', hls'⟩ := list_of len' (fun i (l : Rd.W) => ∃ g off, p' = some ⟨g, off, none⟩ ∧ g < W.heap.size ∧
        W.cell? ⟨g, off + i * 2, none⟩ = some (iv l.pos) ∧ W.cell? ⟨g, off + i * 2 + 1, none⟩ = some (.string l.b)) (fun i hi => by
        obtain ⟨g, off, hp, hg, hf⟩ := hx' i hi
        obtain ⟨c0, y0, n0, h0, t0⟩ := hf 0 _ rfl
        obtain ⟨c1, y1, n1, h1, t1⟩ := hf 1 _ rfl
        obtain ⟨a0, e0, _, _⟩ := DataW.trod_int Tryd.underlying3 t0
        obtain ⟨a1, e1, _, hs⟩ := DataW.trod_string Tryd.underlying9 t1
        simp at e0 e1
        subst e0 e1
        exact ⟨⟨a0, a1⟩, g, off, hp, hg, h0, h1⟩)
      have e : V i = .slice p' len' cap' := by simpa using hcs'
      refine ⟨ls, g, off, V i, rfl, World.block_lt_of_cell? W _ h1, h1, p', cap', by rw [e, hll'], by unfold maxLen at hm'; omega, fun j l hj => hls' j l hj⟩)
    exact ⟨lss, some a, cap, by rw [hll], by unfold maxLen at hm; omega, fun j l hj => hls j l hj⟩
end Go.Proofs.YtangcjffiooapaaDoor
