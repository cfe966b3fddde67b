/- The last step of a law: below the heap's old size nothing has turned, and true is returned: so the law's post holds. · Arguments opened: a slice of numbers; a slice of structs whose fields take a cell each. -/
import Derived.Test.YtcldioneiededaaDoorBase
import Derived.Deep.Matrix
import Derived.WalkKit
import Derived.ProofKit
import Derived.OpenShut
import Derived.Carry
import Derived.Deep.Slices
import Derived.Deep.Fields
import Derived.ChangeSame
namespace Go.Proofs.YtcldioneiededaaDoor
open Go.ChangeShapes Go.WideShapes Go.ChangeAt Go.RowKit

/-- each of a list of types can be read and is a row of the table -/
def typesRowed (P : Program) (ts : List TypeId) : Bool := ts.all fun t => P.readableRec t && decide (t < P.types.size)

theorem trodAll_below {H : Type} {enc : TypeId × Value → H} {P : Program} (hl : laidOutB P = true) {W W' : World} (hb : Below W.heap.size W W') :
    ∀ {ts : List TypeId} {vs : List Value} {ds : List (DataW H)} {ps : List MemPlace}, typesRowed P ts = true → (∀ x ∈ ps, x.block < W.heap.size) →
      DataW.TrodAll enc P W 0 (fun _ => true) true ts vs ds ps → DataW.TrodAll enc P W' 0 (fun b => decide (b < W.heap.size)) true ts vs ds ps
  | [], vs, ds, ps, _, _, h => by
    obtain ⟨rfl, rfl, rfl⟩ := trodAll_nil h
    exact trodAll_mk0
  | t :: ts, vs, ds, ps, hr, hlt, h => by
    obtain ⟨v, vs', d, ds', p, q, rfl, rfl, rfl, hd, hrest⟩ := trodAll_cons h
    simp only [typesRowed, List.all_cons, Bool.and_eq_true, decide_eq_true_eq] at hr
    exact trodAll_cons_mk (Below.trod hl hr.1.1 hr.1.2 hd hb (fun x hx => hlt x (by simp [hx])))
      (trodAll_below hl hb (by simpa [typesRowed] using hr.2) (fun x hx => hlt x (by simp [hx])) hrest)

theorem post_law {H : Type} {enc : TypeId × Value → H} {P : Program} (hl : laidOutB P = true) {f : Func} {s : ChangeSpec} {W W' : World} {args : Array Value} {ds : List (DataW H)} {before : List MemPlace}
    {T : TypeId} (hT : f.resultTypes = #[T]) (hU : P.underlying T = some .bool) (hv : s.vars = [])
    (hr : typesRowed P f.params.toList = true)
    (hW : DataW.Whole enc P f.params.toList s.vars false W args.toList ds [] before)
    (hs : s.fn H (ds ++ []) = { results := [.lit (.bool true)], args := ds })
    (hb : Below W.heap.size W W') : s.post enc P f false true false false W args (.bool true) W' := by
  obtain ⟨p, q, hA, hV, rfl, hfz, _⟩ := hW
  rw [hv] at hV
  obtain ⟨_, rfl⟩ := trodVars_none hV
  have hlt : ∀ x ∈ p ++ [], x.block < W.heap.size := fun x hx => (show DataW.Whole enc P f.params.toList s.vars false W args.toList ds [] (p ++ []) from ⟨p, [], hA, by rw [hv]; exact hV, rfl, hfz, fun h => by cases h⟩).lt x hx
  refine ⟨ds, [], p ++ [], [], p, [], ⟨p, [], hA, by rw [hv]; exact hV, rfl, hfz, fun h => by cases h⟩, ?_, ?_, ?_, hb.frame _, fun h => by cases h⟩
  · rw [hs, hT]
    exact trodAll_cons_mk (shut_bool hU _) trodAll_mk0
  · rw [hs]
    exact trodAll_below hl hb hr (fun x hx => hlt x (by simpa using hx)) hA
  · rw [hs, hv]
    exact rfl

/-- an argument that is a list of lists of ints, opened -/
theorem open_rows2 {H : Type} {enc : TypeId × Value → H} {P : Program} {W : World} {t e q : TypeId} {v : Value} {d : DataW H} {ps : List MemPlace} {base : Nat}
    (ht : P.underlying t = some (.slice e)) (he : P.underlying e = some (.slice q)) (hq : P.underlying q = some (.int .i64)) (ce : P.cellsOf e = 1) (cq : P.cellsOf q = 1)
    (hv : Value.okWide P W .any base t v) (h : DataW.Trod enc P W 0 (fun _ => true) true t v d ps) : ∃ xss, Rows2 W v xss := by
  obtain ⟨a0, len0, cap0, rfl⟩ := okWide_slice ht hv
  obtain ⟨fuel, hf⟩ := h
  rcases Deep.open_int_rows ht he hq ce cq hf with ⟨hcs, _⟩ | ⟨a, len, cap, A, L, C, Z, hcs, _, hl, hm, _, hx⟩
  · simp only [Value.cells, List.cons.injEq, and_true] at hcs
    rw [hcs]
    exact ⟨[], [], ⟨none, 0, rfl, Nat.le_refl _, Nat.zero_le _, fun _ => rfl, fun h => by simp at h⟩, rfl, fun i xs h => by simp at h⟩
  · simp only [Value.cells, List.cons.injEq, and_true] at hcs
    rw [hcs]
    refine ⟨(List.range len).map fun r => (Z r).take (L r), (List.range len).map fun r => .slice (A r) (L r) (C r), ⟨some a, cap, by simp, by simpa using hl, hm, (fun h => by cases h), fun hp => ?_⟩, by simp, fun i xs hxs => ?_⟩
    · have h0 := (hx 0 (by simp at hp; omega)).1
      obtain ⟨g, off, spot⟩ := a
      have hspot : spot = none := by simpa [Addr.add] using World.cell?_spot h0
      subst hspot
      refine ⟨g, off, rfl, fun j hj => ?_⟩
      have hj' : j < len := by simpa using hj
      rw [← Go.WideShapes.add_plain, (hx j (by omega)).1, List.getElem?_map, List.getElem?_range hj']
      rfl
    · have hi : i < len := by
        have := (List.getElem?_eq_some_iff.1 hxs).1
        simpa using this
      rw [List.getElem?_map, List.getElem?_range hi] at hxs
      obtain rfl := Option.some.inj hxs
      obtain ⟨_, h1, h2, h3, h4, h5, h6⟩ := hx i (by omega)
      refine ⟨.slice (A i) (L i) (C i), by rw [List.getElem?_map, List.getElem?_range hi]; rfl, ⟨A i, C i, ?_, ?_, h2, h5, fun hp => ?_⟩, fun n hn => h4 n (List.mem_of_mem_take hn)⟩
      · rw [List.length_map, List.length_take, h3, Nat.min_eq_left h1]
      · rw [List.length_map, List.length_take, h3, Nat.min_eq_left h1]; exact h1
      · rw [List.length_map, List.length_take, h3, Nat.min_eq_left h1] at hp
        cases hA : A i with
        | none => have := h5 hA; omega
        | some a' =>
          have h7 := (h6 a' hA).2
          have h8 := h7 0 (by omega)
          obtain ⟨g, off, spot⟩ := a'
          have hspot : spot = none := by simpa [Addr.add] using World.cell?_spot h8
          subst hspot
          refine ⟨g, off, rfl, fun j hj => ?_⟩
          rw [List.length_map, List.length_take, h3, Nat.min_eq_left h1] at hj
          rw [← Go.WideShapes.add_plain, h7 j (by omega), List.getElem?_map, List.getElem?_take, if_pos hj, List.getElem?_eq_getElem (by omega)]
          simp [List.getD, List.getElem?_eq_getElem (show j < (Z i).length by omega)]
end Go.Proofs.YtcldioneiededaaDoor
namespace Go.Proofs.YtcldioneiededaaDoor
open Go.ChangeShapes Go.WideShapes Go.ChangeAt Go.RowKit
set_option linter.unusedVariables false
theorem list_of {α : Type} [Inhabited α] (n : Nat) (P : Nat → α → Prop) (h : ∀ i, i < n → ∃ x, P i x) : ∃ xs : List α, xs.length = n ∧ ∀ i x, xs[i]? = some x → P i x := by
  have h' : ∀ i, ∃ x, i < n → P i x := fun i => by
    by_cases c : i < n
    · obtain ⟨x, hx⟩ := h i c; exact ⟨x, fun _ => hx⟩
    · exact ⟨default, fun e => absurd e c⟩
  refine ⟨(List.range n).map fun i => Classical.choose (h' i), by simp, fun i x hx => ?_⟩
  have hi : i < n := by
    have := (List.getElem?_eq_some_iff.1 hx).1
    simpa using this
  rw [List.getElem?_map, List.getElem?_range hi] at hx
  obtain rfl := Option.some.inj hx
  exact Classical.choose_spec (h' i) hi
section
variable {H : Type} {enc : TypeId × Value → H} {P : Program} {W : World} {t e : TypeId} {v : Value} {d : DataW H} {ps : List MemPlace} {base : Nat}
theorem open_nums {k : IntKind} (ht : P.underlying t = some (.slice e)) (he : P.underlying e = some (.int k)) (ce : P.cellsOf e = 1)
    (hv : Value.okWide P W .any base t v) (h : DataW.Trod enc P W 0 (fun _ => true) true t v d ps) : ∃ xs : List Int, Row W v (xs.map (Value.int k)) ∧ ∀ n ∈ xs, (Lit.int k n).wf = true := by
  obtain ⟨a0, len0, cap0, rfl⟩ := okWide_slice ht hv
  obtain ⟨fuel, hf⟩ := h
  rcases Go.Deep.open_slice ht hf with ⟨hcs, _⟩ | ⟨a, len, cap, m, n, D, Pl, hcs, _, hl, hm, hmm, _, hx⟩
  · simp only [Value.cells, List.cons.injEq, and_true] at hcs
    rw [hcs]
    exact ⟨[], ⟨none, 0, rfl, Nat.le_refl _, Nat.zero_le _, fun _ => rfl, fun h => by simp at h⟩, by intro s hs; cases hs⟩
  · simp only [Value.cells, List.cons.injEq, and_true] at hcs
    rw [hcs]
    have hlm : len ≤ m := by rw [hmm]; split <;> omega
    obtain ⟨xs, hxl, hxs⟩ := list_of len (fun i (x : Int) => W.cell? (a.add i) = some (.int k x) ∧ (Lit.int k x).wf = true) (fun i hi => by
      obtain ⟨cs', hc, ht'⟩ := hx i (by omega)
      obtain ⟨_, hcl, hat⟩ := World.cells?_some hc
      rw [ce] at hc hcl hat
      obtain ⟨x, hc', _, hw⟩ := DataW.trod_int he ht'
      have := hat 0 (by omega)
      rw [hc'] at this
      rw [Nat.mul_one] at this
      exact ⟨x, by simpa [Addr.add] using this, hw⟩)
    refine ⟨xs, ⟨some a, cap, by rw [List.length_map, hxl], by rw [List.length_map, hxl]; exact hl, hm, (fun h => by cases h), fun h0 => ?_⟩, fun x hx => ?_⟩
    · rw [List.length_map, hxl] at h0
      have h1 := (hxs 0 _ (List.getElem?_eq_getElem (by omega))).1
      obtain ⟨g, off, spot⟩ := a
      have hspot : spot = none := by simpa [Addr.add] using World.cell?_spot h1
      subst hspot
      refine ⟨g, off, rfl, fun j hj => ?_⟩
      rw [List.length_map, hxl] at hj
      have hj' := List.getElem?_eq_getElem (l := xs) (i := j) (by omega)
      rw [← Go.WideShapes.add_plain, (hxs j _ hj').1, List.getElem?_map, hj']
      rfl
    · obtain ⟨i, hi⟩ := List.mem_iff_getElem?.1 hx
      exact (hxs i x hi).2
/-- each element's cells, each with its own reading -/
theorem open_cells {fs : Array Field} (ht : P.underlying t = some (.slice e)) (he : P.underlying e = some (.struct fs)) (hone : Go.Deep.oneCellFields P fs = true) (hC : P.cellsOf e = fs.size) (hfs : 0 < fs.size)
    (hv : Value.okWide P W .any base t v) (h : DataW.Trod enc P W 0 (fun _ => true) true t v d ps) :
    ∃ p len cap, v = .slice p len cap ∧ len ≤ cap ∧ cap ≤ maxLen ∧ ∀ i, i < len → ∃ g off, p = some ⟨g, off, none⟩ ∧ g < W.heap.size ∧ ∀ (j : Nat) (f : Field), fs[j]? = some f → ∃ c y n, W.cell? ⟨g, off + i * fs.size + j, none⟩ = some c ∧ DataW.trod enc P W 0 (fun _ => true) true n f.type [c] = some y := by
  obtain ⟨a0, len0, cap0, rfl⟩ := okWide_slice ht hv
  obtain ⟨fuel, hf⟩ := h
  rcases Go.Deep.open_slice ht hf with ⟨hcs, _⟩ | ⟨a, len, cap, m, n, D, Pl, hcs, _, hl, hm, hmm, _, hx⟩
  · simp only [Value.cells, List.cons.injEq, and_true] at hcs
    exact ⟨none, 0, 0, hcs, Nat.le_refl _, Nat.zero_le _, fun i hi => by omega⟩
  · simp only [Value.cells, List.cons.injEq, and_true] at hcs
    have hlm : len ≤ m := by rw [hmm]; split <;> omega
    refine ⟨some a, len, cap, hcs, hl, hm, fun i hi => ?_⟩
    obtain ⟨cs', hc, ht'⟩ := hx i (by omega)
    obtain ⟨_, hcl, hat⟩ := World.cells?_some hc
    rw [hC] at hc hcl hat
    obtain ⟨ys, n', hn', hy, hlen, hyl, hg⟩ := DataW.trod_struct he ht'
    have hspot : a.spot = none := by
      obtain ⟨cs0, hc0, _⟩ := hx 0 (by omega)
      obtain ⟨_, hcl0, hat0⟩ := World.cells?_some hc0
      rw [hC] at hcl0 hat0
      have h9 := hat0 0 hfs
      rw [List.getElem?_eq_getElem (by omega)] at h9
      have := World.cell?_spot h9
      simpa [Addr.add] using this
    have h0 := hat 0 hfs
    rw [List.getElem?_eq_getElem (by omega)] at h0
    obtain ⟨g, off, spot⟩ := a
    simp only at hspot
    subst hspot
    rw [Go.WideShapes.add_plain, Go.WideShapes.add_plain] at h0
    have hb := World.block_lt_of_cell? W _ h0
    refine ⟨g, off, rfl, hb, fun j f hj => ?_⟩
    have hjl : j < fs.size := (Array.getElem?_eq_some_iff.1 hj).1
    obtain ⟨ho, hk⟩   := Go.Deep.hone_of hone j f hj
    have h1 := hg j f hj
    rw [ho, hk, List.drop_eq_getElem_cons (by omega)] at h1
    have h2 := hat j hjl
    rw [List.getElem?_eq_getElem (by omega)] at h2
    have hys : ys[j]? = some (ys[j]'(by omega)) := List.getElem?_eq_getElem (by omega)
    rw [Go.WideShapes.add_plain, Go.WideShapes.add_plain] at h2
    exact ⟨_, _, _, h2, h1.trans hys⟩
end
end Go.Proofs.YtcldioneiededaaDoor
