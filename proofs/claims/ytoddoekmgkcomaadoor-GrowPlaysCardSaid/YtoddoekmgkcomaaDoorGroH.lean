/- The law GrowPlays returns true, whatever its arguments are. -/
import Derived.Test.YtoddoekmgkcomaaDoorGroG
import Derived.Test.YtoddoekmgkcomaaDoorOpenR
namespace Go.Proofs.YtoddoekmgkcomaaDoor
open Go.ChangeShapes Go.WideShapes Go.ChangeAt Go.RowKit
set_option linter.unusedVariables false
theorem growPlays_walk (v0 : Value) (n : Int) (v2 v3 : Value) (hn : (Lit.int .i64 n).wf = true) (w : World) (hg : Handle w) (f0 : ∃ ss, Strs w v0 ss ∧ ∀ s ∈ ss, s.size ≤ maxLen) (f2 : ∃ xss, Rows2 w v2 xss) (f3 : ∃ ss, Strs w v3 ss ∧ ∀ s ∈ ss, s.size ≤ maxLen) :
    Calls Tryd.prog 6 #[v0, iv n, v2, v3] w fun e w' => e = .returned (.bool true) ∧ Below w.heap.size w w' := by
  obtain ⟨cells, h0, _⟩ := f0
  obtain ⟨xss, h2⟩ := f2
  obtain ⟨ls, h3, hls⟩ := f3
  by_cases hF : gnF cells n = 0
  · have hcf : cellsF cells = 0 := by
      unfold gnF at hF
      by_cases h : cellsF cells = 0
      · exact h
      · rw [if_pos h] at hF; exact absurd hF h
    have hnr : 1 ≤ n ∧ n < 10 := by
      unfold gnF at hF
      rw [if_neg (by simpa using hcf)] at hF
      by_cases h : n < 1 ∨ 10 ≤ n
      · rw [if_pos h] at hF; cases hF
      · omega
    obtain ⟨K, rfl⟩ : ∃ K : Nat, n = K := ⟨n.toNat, by omega⟩
    exact growPlays_core cells K (by omega) (by omega) hcf ls hls xss v0 v2 v3 w h0 h2 h3 hg
  · exact growPlays_no cells n hF v0 v2 v3 w h0 hg
end Go.Proofs.YtoddoekmgkcomaaDoor
