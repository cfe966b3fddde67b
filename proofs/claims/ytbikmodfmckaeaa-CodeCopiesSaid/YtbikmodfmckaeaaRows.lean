/-
  No cell of these rows narrows 'for every input' (looked for: loops, veiled, ifaces, maps, wideKeys, modest, calm, conditions, laid).
  DERIVED. THE GIVEN ROWS OF THIS SEAT. 6 by the template 'for every input the law returns true; each argument reads behind the call as it read before'; 0 by the template 'total and deterministic' (their statements: YtbikmodfmckaeaaTotals.lean).
  GIVEN WITH THE SEED: the statements are not yours to turn. If you find one false, say at which input.
  Laid BY PROGRAM, IN A SANDBOX (cutbox-rows.mjs): the forced cells as the released guide's own fill.sh prints them over the translation a794a45ea6befca3… (all of the seat's roots in one cut). By AI agents, Wed Nov 11 2026. No macro, syntax, notation, axiom, sorry.
-/
import Derived.Test.YtbikmodfmckaeaaChecked
import GoSem.Claim
import GoSem.ClaimJoined
import GoSem.ClaimMapViews
import Derived.JoinedTies
import Derived.KernelRfl
namespace Go.Proofs.Ytbikmodfmckaeaa
/- THE CELL 'sum', in the pinned program and in every row, IS THE sha256 OF THE DUMP (.gsa) THAT YtbikmodfmckaeaaProg.lean LOADS. Nothing in Lean hashes anything: it is a label: what it is worth is what the hold of that sum in a sandbox is worth. -/
noncomputable def Try.pinned : Pinned := { name := "ytbikmodfmckaeaa", sum := "a794a45ea6befca31b3315ef01bee47ac7d919a87af39e08866e975e700bf5f7", checked := Try.checked }
namespace Rows
def none {H : Type} : Left H := { results := [], args := [] }

/-- 'paritylaw4.PolyRoots': WHATEVER THE INPUT: true; the input reads as it did. -/
def polyRootsSpec : ChangeSpec := { name := "polyRoots", fn := fun _ => fun
  | [d1, d2] => { results := [.lit (.bool true)], args := [d1, d2] }
  | _ => none }
def polyRootsRow : OpenClaim := { program := "ytbikmodfmckaeaa", sum := "a794a45ea6befca31b3315ef01bee47ac7d919a87af39e08866e975e700bf5f7", func := "paritymill/paritylaw4.PolyRoots", spec := "polyRoots", unfollowed := true, recurses := true, apart := false }
def PolyRootsSaid : Prop := polyRootsRow.holds Try.pinned (OpenSpec.ofChange polyRootsSpec)

/-- ITS FALSE NEIGHBOUR: 'it returns false'. Refute it at one input. -/
def polyRootsWrong : ChangeSpec := { name := "polyRoots", fn := fun _ => fun
  | [d1, d2] => { results := [.lit (.bool false)], args := [d1, d2] }
  | _ => none }
def PolyRootsWrongFalsely : Prop := polyRootsRow.holds Try.pinned (OpenSpec.ofChange polyRootsWrong)

/-- 'paritylaw1.PolyDivides': WHATEVER THE INPUT: true; the input reads as it did. -/
def polyDividesSpec : ChangeSpec := { name := "polyDivides", fn := fun _ => fun
  | [d1, d2, d3, d4] => { results := [.lit (.bool true)], args := [d1, d2, d3, d4] }
  | _ => none }
def polyDividesRow : OpenClaim := { program := "ytbikmodfmckaeaa", sum := "a794a45ea6befca31b3315ef01bee47ac7d919a87af39e08866e975e700bf5f7", func := "paritymill/paritylaw1.PolyDivides", spec := "polyDivides", unfollowed := true, recurses := true, apart := false }
def PolyDividesSaid : Prop := polyDividesRow.holds Try.pinned (OpenSpec.ofChange polyDividesSpec)

/-- ITS FALSE NEIGHBOUR: 'it returns false'. Refute it at one input. -/
def polyDividesWrong : ChangeSpec := { name := "polyDivides", fn := fun _ => fun
  | [d1, d2, d3, d4] => { results := [.lit (.bool false)], args := [d1, d2, d3, d4] }
  | _ => none }
def PolyDividesWrongFalsely : Prop := polyDividesRow.holds Try.pinned (OpenSpec.ofChange polyDividesWrong)

/-- 'paritylaw4.MatrixLast': WHATEVER THE INPUT: true; the input reads as it did. -/
def matrixLastSpec : ChangeSpec := { name := "matrixLast", fn := fun _ => fun
  | [d1, d2] => { results := [.lit (.bool true)], args := [d1, d2] }
  | _ => none }
def matrixLastRow : OpenClaim := { program := "ytbikmodfmckaeaa", sum := "a794a45ea6befca31b3315ef01bee47ac7d919a87af39e08866e975e700bf5f7", func := "paritymill/paritylaw4.MatrixLast", spec := "matrixLast", unfollowed := true, recurses := true, apart := false }
def MatrixLastSaid : Prop := matrixLastRow.holds Try.pinned (OpenSpec.ofChange matrixLastSpec)

/-- ITS FALSE NEIGHBOUR: 'it returns false'. Refute it at one input. -/
def matrixLastWrong : ChangeSpec := { name := "matrixLast", fn := fun _ => fun
  | [d1, d2] => { results := [.lit (.bool false)], args := [d1, d2] }
  | _ => none }
def MatrixLastWrongFalsely : Prop := matrixLastRow.holds Try.pinned (OpenSpec.ofChange matrixLastWrong)

/-- 'paritylaw4.CodeCopies': WHATEVER THE INPUT: true; the input reads as it did. -/
def codeCopiesSpec : ChangeSpec := { name := "codeCopies", fn := fun _ => fun
  | [d1, d2, d3] => { results := [.lit (.bool true)], args := [d1, d2, d3] }
  | _ => none }
def codeCopiesRow : OpenClaim := { program := "ytbikmodfmckaeaa", sum := "a794a45ea6befca31b3315ef01bee47ac7d919a87af39e08866e975e700bf5f7", func := "paritymill/paritylaw4.CodeCopies", spec := "codeCopies", unfollowed := true, recurses := true, apart := false }
def CodeCopiesSaid : Prop := codeCopiesRow.holds Try.pinned (OpenSpec.ofChange codeCopiesSpec)

/-- ITS FALSE NEIGHBOUR: 'it returns false'. Refute it at one input. -/
def codeCopiesWrong : ChangeSpec := { name := "codeCopies", fn := fun _ => fun
  | [d1, d2, d3] => { results := [.lit (.bool false)], args := [d1, d2, d3] }
  | _ => none }
def CodeCopiesWrongFalsely : Prop := codeCopiesRow.holds Try.pinned (OpenSpec.ofChange codeCopiesWrong)

/-- 'paritylaw4.PqAlone': WHATEVER THE INPUT: true; the input reads as it did. -/
def pqAloneSpec : ChangeSpec := { name := "pqAlone", fn := fun _ => fun
  | [d1, d2] => { results := [.lit (.bool true)], args := [d1, d2] }
  | _ => none }
def pqAloneRow : OpenClaim := { program := "ytbikmodfmckaeaa", sum := "a794a45ea6befca31b3315ef01bee47ac7d919a87af39e08866e975e700bf5f7", func := "paritymill/paritylaw4.PqAlone", spec := "pqAlone", apart := false }
def PqAloneSaid : Prop := pqAloneRow.holds Try.pinned (OpenSpec.ofChange pqAloneSpec)

/-- ITS FALSE NEIGHBOUR: 'it returns false'. Refute it at one input. -/
def pqAloneWrong : ChangeSpec := { name := "pqAlone", fn := fun _ => fun
  | [d1, d2] => { results := [.lit (.bool false)], args := [d1, d2] }
  | _ => none }
def PqAloneWrongFalsely : Prop := pqAloneRow.holds Try.pinned (OpenSpec.ofChange pqAloneWrong)

/-- 'paritylaw1.PqHeals': WHATEVER THE INPUT: true; the input reads as it did. -/
def pqHealsSpec : ChangeSpec := { name := "pqHeals", fn := fun _ => fun
  | [d1, d2, d3, d4, d5] => { results := [.lit (.bool true)], args := [d1, d2, d3, d4, d5] }
  | _ => none }
def pqHealsRow : OpenClaim := { program := "ytbikmodfmckaeaa", sum := "a794a45ea6befca31b3315ef01bee47ac7d919a87af39e08866e975e700bf5f7", func := "paritymill/paritylaw1.PqHeals", spec := "pqHeals", apart := false }
def PqHealsSaid : Prop := pqHealsRow.holds Try.pinned (OpenSpec.ofChange pqHealsSpec)

/-- ITS FALSE NEIGHBOUR: 'it returns false'. Refute it at one input. -/
def pqHealsWrong : ChangeSpec := { name := "pqHeals", fn := fun _ => fun
  | [d1, d2, d3, d4, d5] => { results := [.lit (.bool false)], args := [d1, d2, d3, d4, d5] }
  | _ => none }
def PqHealsWrongFalsely : Prop := pqHealsRow.holds Try.pinned (OpenSpec.ofChange pqHealsWrong)

/- THE SECOND FORM. 'bulk': how many values and letters a reading holds, each counted each time it is reached (what is shared counts as often as it is met; a slice's spare places count too). A statement '..UptoSaid' is the law's where the arguments, and the package variables that the reading takes, are together of bulk at most 1048576: NARROWER than '..Said'. Prove '..Said' where nothing that the law and all that it calls make is longer than what came in: it says more and counts as full. Else prove '..UptoSaid'. A law counts once. -/
mutual
def uptoBulk {H : Type} : DataW H → Nat
  | .lit (.string bytes) => bytes.length + 1
  | .lit _ => 1
  | .nil => 1
  | .ptr d => uptoBulk d + 1
  | .slice elems spare => uptoBulkAll elems + uptoBulkAll spare + 1
  | .agg parts => uptoBulkAll parts + 1
  | .iface _ d => uptoBulk d + 1
  | .map entries => uptoBulkEntries entries + 1
  | .held _ => 1
def uptoBulkAll {H : Type} : List (DataW H) → Nat
  | [] => 0
  | d :: r => uptoBulk d + uptoBulkAll r
def uptoBulkEntries {H : Type} : List (Lit × DataW H) → Nat
  | [] => 0
  | x :: r => uptoBulkEntry x + uptoBulkEntries r
def uptoBulkEntry {H : Type} : Lit × DataW H → Nat
  | (.string bytes, d) => bytes.length + uptoBulk d + 1
  | (_, d) => uptoBulk d + 1
 end
def uptoSmall : (H : Type) → List (DataW H) → Bool := fun _ ds => decide (uptoBulkAll ds ≤ 1048576)
def OpenSpec.upto (s : _root_.Go.ChangeSpec) : _root_.Go.OpenSpec := { _root_.Go.OpenSpec.ofChange s with cond := some uptoSmall }

/-- 'paritylaw4.PolyRoots', WHERE WHAT IT READS IS OF BULK AT MOST 1048576: true; the input reads as it did. -/
def polyRootsUptoRow : OpenClaim := { program := "ytbikmodfmckaeaa", sum := "a794a45ea6befca31b3315ef01bee47ac7d919a87af39e08866e975e700bf5f7", func := "paritymill/paritylaw4.PolyRoots", spec := "polyRoots", unfollowed := true, recurses := true, apart := false, narrowed := true }
def PolyRootsUptoSaid : Prop := polyRootsUptoRow.holds Try.pinned (OpenSpec.upto polyRootsSpec)

/-- 'paritylaw1.PolyDivides', WHERE WHAT IT READS IS OF BULK AT MOST 1048576: true; the input reads as it did. -/
def polyDividesUptoRow : OpenClaim := { program := "ytbikmodfmckaeaa", sum := "a794a45ea6befca31b3315ef01bee47ac7d919a87af39e08866e975e700bf5f7", func := "paritymill/paritylaw1.PolyDivides", spec := "polyDivides", unfollowed := true, recurses := true, apart := false, narrowed := true }
def PolyDividesUptoSaid : Prop := polyDividesUptoRow.holds Try.pinned (OpenSpec.upto polyDividesSpec)

/-- 'paritylaw4.MatrixLast', WHERE WHAT IT READS IS OF BULK AT MOST 1048576: true; the input reads as it did. -/
def matrixLastUptoRow : OpenClaim := { program := "ytbikmodfmckaeaa", sum := "a794a45ea6befca31b3315ef01bee47ac7d919a87af39e08866e975e700bf5f7", func := "paritymill/paritylaw4.MatrixLast", spec := "matrixLast", unfollowed := true, recurses := true, apart := false, narrowed := true }
def MatrixLastUptoSaid : Prop := matrixLastUptoRow.holds Try.pinned (OpenSpec.upto matrixLastSpec)

/-- 'paritylaw4.CodeCopies', WHERE WHAT IT READS IS OF BULK AT MOST 1048576: true; the input reads as it did. -/
def codeCopiesUptoRow : OpenClaim := { program := "ytbikmodfmckaeaa", sum := "a794a45ea6befca31b3315ef01bee47ac7d919a87af39e08866e975e700bf5f7", func := "paritymill/paritylaw4.CodeCopies", spec := "codeCopies", unfollowed := true, recurses := true, apart := false, narrowed := true }
def CodeCopiesUptoSaid : Prop := codeCopiesUptoRow.holds Try.pinned (OpenSpec.upto codeCopiesSpec)

/-- 'paritylaw4.PqAlone', WHERE WHAT IT READS IS OF BULK AT MOST 1048576: true; the input reads as it did. -/
def pqAloneUptoRow : OpenClaim := { program := "ytbikmodfmckaeaa", sum := "a794a45ea6befca31b3315ef01bee47ac7d919a87af39e08866e975e700bf5f7", func := "paritymill/paritylaw4.PqAlone", spec := "pqAlone", apart := false, narrowed := true }
def PqAloneUptoSaid : Prop := pqAloneUptoRow.holds Try.pinned (OpenSpec.upto pqAloneSpec)

/-- 'paritylaw1.PqHeals', WHERE WHAT IT READS IS OF BULK AT MOST 1048576: true; the input reads as it did. -/
def pqHealsUptoRow : OpenClaim := { program := "ytbikmodfmckaeaa", sum := "a794a45ea6befca31b3315ef01bee47ac7d919a87af39e08866e975e700bf5f7", func := "paritymill/paritylaw1.PqHeals", spec := "pqHeals", apart := false, narrowed := true }
def PqHealsUptoSaid : Prop := pqHealsUptoRow.holds Try.pinned (OpenSpec.upto pqHealsSpec)

end Rows
end Go.Proofs.Ytbikmodfmckaeaa
