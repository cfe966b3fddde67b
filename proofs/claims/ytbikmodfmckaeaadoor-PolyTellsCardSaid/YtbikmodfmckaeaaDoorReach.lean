/- How long a list of bytes that came in may be: the form's own reach. -/
import Derived.Test.YtbikmodfmckaeaaDoorOpenR
import Derived.SizedLaws
namespace Go.Proofs.YtbikmodfmckaeaaDoor
open Go.ChangeShapes Go.WideShapes Go.ChangeAt Go.RowKit
set_option linter.unusedVariables false
theorem reach_slice {H : Type} {enc : TypeId × Value → H} {P : Program} {W : World} {t e : TypeId} {v : Value} {d : DataW H} {ps : List MemPlace} {ts : List TypeId} {ds : List (DataW H)} (ht : P.underlying t = some (.slice e)) (hb : P.bytesOf e = 1)
    (h : DataW.Trod enc P W 0 (fun _ => true) true t v d ps) (hw : (DataW.weightsEach P ts ds).all (· ≤ reachBytes) = true) {j : Nat} (hj : ts[j]? = some t) (hd : ds[j]? = some d) : ∀ p n c, v = .slice p n c → n ≤ 140737488351232 := by
  rintro p n c rfl
  obtain ⟨fuel, hf⟩ := h
  rcases Go.Deep.open_slice ht hf with ⟨hcs, _⟩ | ⟨a, len, cap, m, n', D, Pl, hcs, _, hl, hm, hmm, hx, _⟩
  · simp only [Value.cells, List.cons.injEq, and_true] at hcs
    injection hcs with _ h2 _
    omega
  · simp only [Value.cells, List.cons.injEq, and_true] at hcs
    injection hcs with _ h2 _
    subst h2
    have hdx : d = .slice ((List.range n).map D) ((List.range (m - n)).map fun j => D (n + j)) := congrArg Prod.fst hx
    rw [hdx] at hd
    have h3 := sized_slice hw hj hd ht
    rw [hb] at h3
    simp only [List.length_map, List.length_range, reachBytes, Nat.mul_one] at h3
    omega
end Go.Proofs.YtbikmodfmckaeaaDoor
