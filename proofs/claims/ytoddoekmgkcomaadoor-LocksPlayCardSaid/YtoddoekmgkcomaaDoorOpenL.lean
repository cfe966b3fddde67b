/- Arguments opened: a list of locks; a list of ints. -/
import Derived.Test.YtoddoekmgkcomaaDoorOpenR
import Derived.Test.YtoddoekmgkcomaaDoorLockA
namespace Go.Proofs.YtoddoekmgkcomaaDoor
open Go.ChangeShapes Go.WideShapes Go.ChangeAt Go.RowKit
set_option linter.unusedVariables false
instance : Inhabited Lk.L := ⟨⟨0, 0, 0, false⟩⟩
set_option maxRecDepth 100000 in
theorem open_locks {H : Type} {enc : TypeId × Value → H} {W : World} {v : Value} {d : DataW H} {ps : List MemPlace} {base : Nat}
    (hv : Value.okWide Tryd.prog W .any base 39 v) (h : DataW.Trod enc Tryd.prog W 0 (fun _ => true) true 39 v d ps) : ∃ ls : List Lk.L, RowL W v ls := by
  obtain ⟨p, len, cap, rfl, hl, hm, hx⟩ := open_cells Tryd.underlying39 Tryd.underlying52 (by kernel_rfl) (by kernel_rfl) (by decide) hv h
  unfold maxLen at hm
  obtain ⟨ls, hll, hls⟩ := list_of len (fun i (l : Lk.L) => ∃ g off, p = some ⟨g, off, none⟩ ∧ g < W.heap.size ∧
    W.cell? ⟨g, off + i * 4, none⟩ = some (iv l.who) ∧ W.cell? ⟨g, off + i * 4 + 1, none⟩ = some (iv l.fr) ∧ W.cell? ⟨g, off + i * 4 + 2, none⟩ = some (iv l.to) ∧ W.cell? ⟨g, off + i * 4 + 3, none⟩ = some (.bool l.al)) (fun i hi => by
    obtain ⟨g, off, hp, hg, hf⟩ := hx i hi
    obtain ⟨c0, y0, n0, h0, t0⟩ := hf 0 _ rfl
    obtain ⟨c1, y1, n1, h1, t1⟩ := hf 1 _ rfl
    obtain ⟨c2, y2, n2, h2, t2⟩ := hf 2 _ rfl
    obtain ⟨c3, y3, n3, h3, t3⟩ := hf 3 _ rfl
    obtain ⟨a0, e0, _, _⟩ := DataW.trod_int Tryd.underlying3 t0
    obtain ⟨a1, e1, _, _⟩ := DataW.trod_int Tryd.underlying3 t1
    obtain ⟨a2, e2, _, _⟩ := DataW.trod_int Tryd.underlying3 t2
    obtain ⟨a3, e3, _⟩ := DataW.trod_bool Tryd.underlying4 t3
    simp at e0 e1 e2 e3
    subst e0 e1 e2 e3
    exact ⟨⟨a0, a1, a2, a3⟩, g, off, hp, hg, h0, h1, h2, h3⟩)
  exact ⟨ls, p, cap, by rw [hll], by omega, fun j l hj => hls j l hj⟩
set_option maxRecDepth 100000 in
theorem open_ints {H : Type} {enc : TypeId × Value → H} {W : World} {v : Value} {d : DataW H} {ps : List MemPlace} {base : Nat}
    (hv : Value.okWide Tryd.prog W .any base 40 v) (h : DataW.Trod enc Tryd.prog W 0 (fun _ => true) true 40 v d ps) : ∃ xs : List Int, Row W v (xs.map iv) ∧ ∀ n ∈ xs, (Lit.int .i64 n).wf = true :=
  open_nums Tryd.underlying40 Tryd.underlying3 (by kernel_rfl) hv h
end Go.Proofs.YtoddoekmgkcomaaDoor
