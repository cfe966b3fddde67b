/- The last step of a law: below the heap's old size nothing has turned, and true is returned: so the law's post holds. -/
import Derived.Test.YtloaekdijpcmiaaRows
import Derived.WalkKit
import Derived.ProofKit
import Derived.OpenShut
import Derived.Carry
namespace Go.Proofs.Ytloaekdijpcmiaa
open Go.ChangeShapes Go.WideShapes Go.ChangeAt Go.RowKit

/-- each of a list of types can be read and is a row of the table -/
def typesRowed (P : Program) (ts : List TypeId) : Bool := ts.all fun t => P.readableRec t && decide (t < P.types.size)

theorem trodAll_below {H : Type} {enc : TypeId × Value → H} {P : Program} (hl : laidOutB P = true) {W W' : World} (hb : Below W.heap.size W W') :
    ∀ {ts : List TypeId} {vs : List Value} {ds : List (DataW H)} {ps : List MemPlace}, typesRowed P ts = true → (∀ x ∈ ps, x.block < W.heap.size) →
      DataW.TrodAll enc P W 0 (fun _ => true) true ts vs ds ps → DataW.TrodAll enc P W' 0 (fun b => decide (b < W.heap.size)) true ts vs ds ps
  | [], vs, ds, ps, _, _, h => by
    obtain ⟨rfl, rfl, rfl⟩ := trodAll_nil h
    exact trodAll_mk0
  | t :: ts, vs, ds, ps, hr, hlt, h => by
    obtain ⟨v, vs', d, ds', p, q, rfl, rfl, rfl, hd, hrest⟩ := trodAll_cons h
    simp only [typesRowed, List.all_cons, Bool.and_eq_true, decide_eq_true_eq] at hr
    exact trodAll_cons_mk (Below.trod hl hr.1.1 hr.1.2 hd hb (fun x hx => hlt x (by simp [hx])))
      (trodAll_below hl hb (by simpa [typesRowed] using hr.2) (fun x hx => hlt x (by simp [hx])) hrest)

theorem post_law {H : Type} {enc : TypeId × Value → H} {P : Program} (hl : laidOutB P = true) {f : Func} {s : ChangeSpec} {W W' : World} {args : Array Value} {ds : List (DataW H)} {before : List MemPlace}
    {T : TypeId} (hT : f.resultTypes = #[T]) (hU : P.underlying T = some .bool) (hv : s.vars = [])
    (hr : typesRowed P f.params.toList = true)
    (hW : DataW.Whole enc P f.params.toList s.vars false W args.toList ds [] before)
    (hs : s.fn H (ds ++ []) = { results := [.lit (.bool true)], args := ds })
    (hb : Below W.heap.size W W') : s.post enc P f false true false false W args (.bool true) W' := by
  obtain ⟨p, q, hA, hV, rfl, hfz, _⟩ := hW
  rw [hv] at hV
  obtain ⟨_, rfl⟩ := trodVars_none hV
  have hlt : ∀ x ∈ p ++ [], x.block < W.heap.size := fun x hx => (show DataW.Whole enc P f.params.toList s.vars false W args.toList ds [] (p ++ []) from ⟨p, [], hA, by rw [hv]; exact hV, rfl, hfz, fun h => by cases h⟩).lt x hx
  refine ⟨ds, [], p ++ [], [], p, [], ⟨p, [], hA, by rw [hv]; exact hV, rfl, hfz, fun h => by cases h⟩, ?_, ?_, ?_, hb.frame _, fun h => by cases h⟩
  · rw [hs, hT]
    exact trodAll_cons_mk (shut_bool hU _) trodAll_mk0
  · rw [hs]
    exact trodAll_below hl hb hr (fun x hx => hlt x (by simpa using hx)) hA
  · rw [hs, hv]
    exact rfl
end Go.Proofs.Ytloaekdijpcmiaa
