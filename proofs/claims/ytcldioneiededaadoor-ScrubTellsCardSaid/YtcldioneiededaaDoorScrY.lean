/- The law ScrubTells at its arguments in their order. -/
import Derived.Test.YtcldioneiededaaDoorScrX
namespace Go.Proofs.YtcldioneiededaaDoor
open Go.ChangeShapes Go.WideShapes Go.ChangeAt Go.RowKit
theorem scrubTells_walk2 (n rows size : Int) (v : Value) (m row : Int) (hn : (Lit.int .i64 n).wf = true) (hr : (Lit.int .i64 rows).wf = true) (hs : (Lit.int .i64 size).wf = true) (hm : (Lit.int .i64 m).wf = true) (hrw : (Lit.int .i64 row).wf = true) (w : World) (hg : Handle w) (hx : ∃ xss, Rows2 w v xss) :
    Calls Tryd.prog 9 #[iv n, iv rows, iv size, v, iv m, iv row] w fun e w' => e = .returned (.bool true) ∧ Below w.heap.size w w' :=
  scrubTells_walk n rows size m row v hn hr hs hm hrw w hg hx
end Go.Proofs.YtcldioneiededaaDoor
