/- The last step of a law: below the heap's old size nothing has turned, and true is returned: so the law's post holds. -/
import Derived.Test.YtkkfpdjhnffpbaaDoorBase
import Derived.Deep.Matrix
import Derived.WalkKit
import Derived.ProofKit
import Derived.OpenShut
import Derived.Carry
namespace Go.Proofs.YtkkfpdjhnffpbaaDoor
open Go.ChangeShapes Go.WideShapes Go.ChangeAt Go.RowKit

/-- each of a list of types can be read and is a row of the table -/
def typesRowed (P : Program) (ts : List TypeId) : Bool := ts.all fun t => P.readableRec t && decide (t < P.types.size)

theorem trodAll_below {H : Type} {enc : TypeId × Value → H} {P : Program} (hl : laidOutB P = true) {W W' : World} (hb : Below W.heap.size W W') :
    ∀ {ts : List TypeId} {vs : List Value} {ds : List (DataW H)} {ps : List MemPlace}, typesRowed P ts = true → (∀ x ∈ ps, x.block < W.heap.size) →
      DataW.TrodAll enc P W 0 (fun _ => true) true ts vs ds ps → DataW.TrodAll enc P W' 0 (fun b => decide (b < W.heap.size)) true ts vs ds ps
  | [], vs, ds, ps, _, _, h => by
    obtain ⟨rfl, rfl, rfl⟩ := trodAll_nil h
    exact trodAll_mk0
  | t :: ts, vs, ds, ps, hr, hlt, h => by
    obtain ⟨v, vs', d, ds', p, q, rfl, rfl, rfl, hd, hrest⟩ := trodAll_cons h
    simp only [typesRowed, List.all_cons, Bool.and_eq_true, decide_eq_true_eq] at hr
    exact trodAll_cons_mk (Below.trod hl hr.1.1 hr.1.2 hd hb (fun x hx => hlt x (by simp [hx])))
      (trodAll_below hl hb (by simpa [typesRowed] using hr.2) (fun x hx => hlt x (by simp [hx])) hrest)

theorem post_law {H : Type} {enc : TypeId × Value → H} {P : Program} (hl : laidOutB P = true) {f : Func} {s : ChangeSpec} {W W' : World} {args : Array Value} {ds : List (DataW H)} {before : List MemPlace}
    {T : TypeId} (hT : f.resultTypes = #[T]) (hU : P.underlying T = some .bool) (hv : s.vars = [])
    (hr : typesRowed P f.params.toList = true)
    (hW : DataW.Whole enc P f.params.toList s.vars false W args.toList ds [] before)
    (hs : s.fn H (ds ++ []) = { results := [.lit (.bool true)], args := ds })
    (hb : Below W.heap.size W W') : s.post enc P f false true false false W args (.bool true) W' := by
  obtain ⟨p, q, hA, hV, rfl, hfz, _⟩ := hW
  rw [hv] at hV
  obtain ⟨_, rfl⟩ := trodVars_none hV
  have hlt : ∀ x ∈ p ++ [], x.block < W.heap.size := fun x hx => (show DataW.Whole enc P f.params.toList s.vars false W args.toList ds [] (p ++ []) from ⟨p, [], hA, by rw [hv]; exact hV, rfl, hfz, fun h => by cases h⟩).lt x hx
  refine ⟨ds, [], p ++ [], [], p, [], ⟨p, [], hA, by rw [hv]; exact hV, rfl, hfz, fun h => by cases h⟩, ?_, ?_, ?_, hb.frame _, fun h => by cases h⟩
  · rw [hs, hT]
    exact trodAll_cons_mk (shut_bool hU _) trodAll_mk0
  · rw [hs]
    exact trodAll_below hl hb hr (fun x hx => hlt x (by simpa using hx)) hA
  · rw [hs, hv]
    exact rfl

/-- an argument that is a list of lists of ints, opened -/
theorem open_rows2 {H : Type} {enc : TypeId × Value → H} {P : Program} {W : World} {t e q : TypeId} {v : Value} {d : DataW H} {ps : List MemPlace} {base : Nat}
    (ht : P.underlying t = some (.slice e)) (he : P.underlying e = some (.slice q)) (hq : P.underlying q = some (.int .i64)) (ce : P.cellsOf e = 1) (cq : P.cellsOf q = 1)
    (hv : Value.okWide P W .any base t v) (h : DataW.Trod enc P W 0 (fun _ => true) true t v d ps) : ∃ xss, Rows2 W v xss := by
  obtain ⟨a0, len0, cap0, rfl⟩ := okWide_slice ht hv
  obtain ⟨fuel, hf⟩ := h
  rcases Deep.open_int_rows ht he hq ce cq hf with ⟨hcs, _⟩ | ⟨a, len, cap, A, L, C, Z, hcs, _, hl, hm, _, hx⟩
  · simp only [Value.cells, List.cons.injEq, and_true] at hcs
    rw [hcs]
    exact ⟨[], [], ⟨none, 0, rfl, Nat.le_refl _, Nat.zero_le _, fun _ => rfl, fun h => by simp at h⟩, rfl, fun i xs h => by simp at h⟩
  · simp only [Value.cells, List.cons.injEq, and_true] at hcs
    rw [hcs]
    refine ⟨(List.range len).map fun r => (Z r).take (L r), (List.range len).map fun r => .slice (A r) (L r) (C r), ⟨some a, cap, by simp, by simpa using hl, hm, (fun h => by cases h), fun hp => ?_⟩, by simp, fun i xs hxs => ?_⟩
    · have h0 := (hx 0 (by simp at hp; omega)).1
      obtain ⟨g, off, spot⟩ := a
      have hspot : spot = none := by simpa [Addr.add] using World.cell?_spot h0
      subst hspot
      refine ⟨g, off, rfl, fun j hj => ?_⟩
      have hj' : j < len := by simpa using hj
      rw [← Go.WideShapes.add_plain, (hx j (by omega)).1, List.getElem?_map, List.getElem?_range hj']
      rfl
    · have hi : i < len := by
        have := (List.getElem?_eq_some_iff.1 hxs).1
        simpa using this
      rw [List.getElem?_map, List.getElem?_range hi] at hxs
      obtain rfl := Option.some.inj hxs
      obtain ⟨_, h1, h2, h3, h4, h5, h6⟩ := hx i (by omega)
      refine ⟨.slice (A i) (L i) (C i), by rw [List.getElem?_map, List.getElem?_range hi]; rfl, ⟨A i, C i, ?_, ?_, h2, h5, fun hp => ?_⟩, fun n hn => h4 n (List.mem_of_mem_take hn)⟩
      · rw [List.length_map, List.length_take, h3, Nat.min_eq_left h1]
      · rw [List.length_map, List.length_take, h3, Nat.min_eq_left h1]; exact h1
      · rw [List.length_map, List.length_take, h3, Nat.min_eq_left h1] at hp
        cases hA : A i with
        | none => have := h5 hA; omega
        | some a' =>
          have h7 := (h6 a' hA).2
          have h8 := h7 0 (by omega)
          obtain ⟨g, off, spot⟩ := a'
          have hspot : spot = none := by simpa [Addr.add] using World.cell?_spot h8
          subst hspot
          refine ⟨g, off, rfl, fun j hj => ?_⟩
          rw [List.length_map, List.length_take, h3, Nat.min_eq_left h1] at hj
          rw [← Go.WideShapes.add_plain, h7 j (by omega), List.getElem?_map, List.getElem?_take, if_pos hj, List.getElem?_eq_getElem (by omega)]
          simp [List.getD, List.getElem?_eq_getElem (show j < (Z i).length by omega)]
end Go.Proofs.YtkkfpdjhnffpbaaDoor
