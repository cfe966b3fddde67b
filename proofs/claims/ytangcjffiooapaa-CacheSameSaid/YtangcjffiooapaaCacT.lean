/- The law CacheSame at every argument. -/
import Derived.Test.YtangcjffiooapaaCacS
import Derived.Test.YtangcjffiooapaaOpen
namespace Go.Proofs.Ytangcjffiooapaa
open Go.ChangeShapes Go.WideShapes Go.ChangeAt Go.RowKit
theorem cacheSame_walk (va : Value) (x : Int) (vs vl : Value) (hx : (Lit.int .i64 x).wf = true) (w : World) (ha : ∃ ss, Strs w va ss ∧ ∀ s ∈ ss, s.size ≤ maxLen) (hs : ∃ xss, Rows2 w vs xss) (hl : ∃ ss, Strs w vl ss ∧ ∀ s ∈ ss, s.size ≤ maxLen) :
    Calls Try.prog 4 #[va, iv x, vs, vl] w fun e w' => e = .returned (.bool true) ∧ Below w.heap.size w w' := by
  obtain ⟨cells, hc, _⟩ := ha
  obtain ⟨xss, hr⟩ := hs
  obtain ⟨ls, hls, hsz⟩ := hl
  by_cases h0 : cellsF cells = 0
  · by_cases h : 1 ≤ x ∧ x ≤ 12
    · obtain ⟨m, rfl⟩ : ∃ m : Nat, x = m := ⟨x.toNat, by omega⟩
      exact cacheSame_core cells m (by omega) (by omega) h0 ls hsz xss va vs vl w hc hr hls
    · exact cacheSame_bad cells x (.inr ⟨h0, by omega⟩) va vs vl w hc
  · exact cacheSame_bad cells x (.inl h0) va vs vl w hc
end Go.Proofs.Ytangcjffiooapaa
