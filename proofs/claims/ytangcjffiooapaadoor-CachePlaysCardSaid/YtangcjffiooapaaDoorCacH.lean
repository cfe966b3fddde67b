/- The law CachePlays at every argument. -/
import Derived.Test.YtangcjffiooapaaDoorCacG
namespace Go.Proofs.YtangcjffiooapaaDoor
open Go.ChangeShapes Go.WideShapes Go.ChangeAt Go.RowKit
theorem cachePlays_walk (va : Value) (x : Int) (vs vl : Value) (hx : (Lit.int .i64 x).wf = true) (w : World) (hg : Handle w) (ha : ∃ ss, Strs w va ss ∧ ∀ s ∈ ss, s.size ≤ maxLen) (hs : ∃ xss, Rows2 w vs xss) (hl : ∃ ss, Strs w vl ss ∧ ∀ s ∈ ss, s.size ≤ maxLen) :
    Calls Tryd.prog 3 #[va, iv x, vs, vl] w fun e w' => e = .returned (.bool true) ∧ Below w.heap.size w w' := by
  obtain ⟨cells, hc, _⟩ := ha
  obtain ⟨xss, hr⟩ := hs
  obtain ⟨ls, hls, hsz⟩ := hl
  by_cases h0 : cellsF cells = 0
  · by_cases h : 1 ≤ x ∧ x ≤ 12
    · obtain ⟨m, rfl⟩ : ∃ m : Nat, x = m := ⟨x.toNat, by omega⟩
      exact cachePlays_core cells m (by omega) (by omega) h0 ls hsz xss va vs vl w hc hr hls hg
    · exact cachePlays_bad cells x 1 (by omega) (.inr ⟨h0, rfl, by omega⟩) va vs vl w hc hg
  · exact cachePlays_bad cells x (cellsF cells) h0 (.inl rfl) va vs vl w hc hg
end Go.Proofs.YtangcjffiooapaaDoor
