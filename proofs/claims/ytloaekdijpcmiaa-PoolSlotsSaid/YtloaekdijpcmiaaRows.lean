/-
  No cell of these rows narrows 'for every input' (looked for: loops, veiled, ifaces, maps, wideKeys, modest, calm, conditions, laid).
  DERIVED. THE GIVEN ROWS OF THIS SEAT. 7 by the template 'for every input the law returns true; each argument reads behind the call as it read before'; 0 by the template 'total and deterministic' (their statements: YtloaekdijpcmiaaTotals.lean).
  GIVEN WITH THE SEED: the statements are not yours to turn. If you find one false, say at which input.
  Laid BY PROGRAM, IN A SANDBOX (cutbox-rows.mjs): the forced cells as the released guide's own fill.sh prints them over the translation c586d87102ded623… (all of the seat's roots in one cut). By AI agents, Wed Nov 11 2026. No macro, syntax, notation, axiom, sorry.
-/
import Derived.Test.YtloaekdijpcmiaaChecked
import GoSem.Claim
import GoSem.ClaimJoined
import GoSem.ClaimMapViews
import Derived.JoinedTies
import Derived.KernelRfl
namespace Go.Proofs.Ytloaekdijpcmiaa
/- THE CELL 'sum', in the pinned program and in every row, IS THE sha256 OF THE DUMP (.gsa) THAT YtloaekdijpcmiaaProg.lean LOADS. Nothing in Lean hashes anything: it is a label: what it is worth is what the hold of that sum in a sandbox is worth. -/
noncomputable def Try.pinned : Pinned := { name := "ytloaekdijpcmiaa", sum := "c586d87102ded6235d67e39e4fefcd89cede5bc12b5f0bfc3b2025c28324cee0", checked := Try.checked }
namespace Rows
def none {H : Type} : Left H := { results := [], args := [] }

/-- 'paritylaw4.FieldSquares': WHATEVER THE INPUT: true; the input reads as it did. -/
def fieldSquaresSpec : ChangeSpec := { name := "fieldSquares", fn := fun _ => fun
  | [d1, d2] => { results := [.lit (.bool true)], args := [d1, d2] }
  | _ => none }
def fieldSquaresRow : OpenClaim := { program := "ytloaekdijpcmiaa", sum := "c586d87102ded6235d67e39e4fefcd89cede5bc12b5f0bfc3b2025c28324cee0", func := "paritymill/paritylaw4.FieldSquares", spec := "fieldSquares", apart := false }
def FieldSquaresSaid : Prop := fieldSquaresRow.holds Try.pinned (OpenSpec.ofChange fieldSquaresSpec)

/-- ITS FALSE NEIGHBOUR: 'it returns false'. Refute it at one input. -/
def fieldSquaresWrong : ChangeSpec := { name := "fieldSquares", fn := fun _ => fun
  | [d1, d2] => { results := [.lit (.bool false)], args := [d1, d2] }
  | _ => none }
def FieldSquaresWrongFalsely : Prop := fieldSquaresRow.holds Try.pinned (OpenSpec.ofChange fieldSquaresWrong)

/-- 'paritylaw1.Names': WHATEVER THE INPUT: true; the input reads as it did. -/
def namesSpec : ChangeSpec := { name := "names", fn := fun _ => fun
  | [] => { results := [.lit (.bool true)], args := [] }
  | _ => none }
def namesRow : OpenClaim := { program := "ytloaekdijpcmiaa", sum := "c586d87102ded6235d67e39e4fefcd89cede5bc12b5f0bfc3b2025c28324cee0", func := "paritymill/paritylaw1.Names", spec := "names", apart := false }
def NamesSaid : Prop := namesRow.holds Try.pinned (OpenSpec.ofChange namesSpec)

/-- ITS FALSE NEIGHBOUR: 'it returns false'. Refute it at one input. -/
def namesWrong : ChangeSpec := { name := "names", fn := fun _ => fun
  | [] => { results := [.lit (.bool false)], args := [] }
  | _ => none }
def NamesWrongFalsely : Prop := namesRow.holds Try.pinned (OpenSpec.ofChange namesWrong)

/-- 'paritylaw4.FieldAround': WHATEVER THE INPUT: true; the input reads as it did. -/
def fieldAroundSpec : ChangeSpec := { name := "fieldAround", fn := fun _ => fun
  | [] => { results := [.lit (.bool true)], args := [] }
  | _ => none }
def fieldAroundRow : OpenClaim := { program := "ytloaekdijpcmiaa", sum := "c586d87102ded6235d67e39e4fefcd89cede5bc12b5f0bfc3b2025c28324cee0", func := "paritymill/paritylaw4.FieldAround", spec := "fieldAround", apart := false }
def FieldAroundSaid : Prop := fieldAroundRow.holds Try.pinned (OpenSpec.ofChange fieldAroundSpec)

/-- ITS FALSE NEIGHBOUR: 'it returns false'. Refute it at one input. -/
def fieldAroundWrong : ChangeSpec := { name := "fieldAround", fn := fun _ => fun
  | [] => { results := [.lit (.bool false)], args := [] }
  | _ => none }
def FieldAroundWrongFalsely : Prop := fieldAroundRow.holds Try.pinned (OpenSpec.ofChange fieldAroundWrong)

/-- 'paritylaw1.FieldHolds': WHATEVER THE INPUT: true; the input reads as it did. -/
def fieldHoldsSpec : ChangeSpec := { name := "fieldHolds", fn := fun _ => fun
  | [d1, d2, d3, d4, d5] => { results := [.lit (.bool true)], args := [d1, d2, d3, d4, d5] }
  | _ => none }
def fieldHoldsRow : OpenClaim := { program := "ytloaekdijpcmiaa", sum := "c586d87102ded6235d67e39e4fefcd89cede5bc12b5f0bfc3b2025c28324cee0", func := "paritymill/paritylaw1.FieldHolds", spec := "fieldHolds", apart := false }
def FieldHoldsSaid : Prop := fieldHoldsRow.holds Try.pinned (OpenSpec.ofChange fieldHoldsSpec)

/-- ITS FALSE NEIGHBOUR: 'it returns false'. Refute it at one input. -/
def fieldHoldsWrong : ChangeSpec := { name := "fieldHolds", fn := fun _ => fun
  | [d1, d2, d3, d4, d5] => { results := [.lit (.bool false)], args := [d1, d2, d3, d4, d5] }
  | _ => none }
def FieldHoldsWrongFalsely : Prop := fieldHoldsRow.holds Try.pinned (OpenSpec.ofChange fieldHoldsWrong)

/-- 'paritylaw1.LayoutEach': WHATEVER THE INPUT: true; the input reads as it did. -/
def layoutEachSpec : ChangeSpec := { name := "layoutEach", fn := fun _ => fun
  | [d1, d2, d3] => { results := [.lit (.bool true)], args := [d1, d2, d3] }
  | _ => none }
def layoutEachRow : OpenClaim := { program := "ytloaekdijpcmiaa", sum := "c586d87102ded6235d67e39e4fefcd89cede5bc12b5f0bfc3b2025c28324cee0", func := "paritymill/paritylaw1.LayoutEach", spec := "layoutEach", apart := false }
def LayoutEachSaid : Prop := layoutEachRow.holds Try.pinned (OpenSpec.ofChange layoutEachSpec)

/-- ITS FALSE NEIGHBOUR: 'it returns false'. Refute it at one input. -/
def layoutEachWrong : ChangeSpec := { name := "layoutEach", fn := fun _ => fun
  | [d1, d2, d3] => { results := [.lit (.bool false)], args := [d1, d2, d3] }
  | _ => none }
def LayoutEachWrongFalsely : Prop := layoutEachRow.holds Try.pinned (OpenSpec.ofChange layoutEachWrong)

/-- 'paritylaw4.PoolSpares': WHATEVER THE INPUT: true; the input reads as it did. -/
def poolSparesSpec : ChangeSpec := { name := "poolSpares", fn := fun _ => fun
  | [d1, d2] => { results := [.lit (.bool true)], args := [d1, d2] }
  | _ => none }
def poolSparesRow : OpenClaim := { program := "ytloaekdijpcmiaa", sum := "c586d87102ded6235d67e39e4fefcd89cede5bc12b5f0bfc3b2025c28324cee0", func := "paritymill/paritylaw4.PoolSpares", spec := "poolSpares", apart := false }
def PoolSparesSaid : Prop := poolSparesRow.holds Try.pinned (OpenSpec.ofChange poolSparesSpec)

/-- ITS FALSE NEIGHBOUR: 'it returns false'. Refute it at one input. -/
def poolSparesWrong : ChangeSpec := { name := "poolSpares", fn := fun _ => fun
  | [d1, d2] => { results := [.lit (.bool false)], args := [d1, d2] }
  | _ => none }
def PoolSparesWrongFalsely : Prop := poolSparesRow.holds Try.pinned (OpenSpec.ofChange poolSparesWrong)

/-- 'paritylaw2.PoolSlots': WHATEVER THE INPUT: true; the input reads as it did. -/
def poolSlotsSpec : ChangeSpec := { name := "poolSlots", fn := fun _ => fun
  | [d1, d2, d3] => { results := [.lit (.bool true)], args := [d1, d2, d3] }
  | _ => none }
def poolSlotsRow : OpenClaim := { program := "ytloaekdijpcmiaa", sum := "c586d87102ded6235d67e39e4fefcd89cede5bc12b5f0bfc3b2025c28324cee0", func := "paritymill/paritylaw2.PoolSlots", spec := "poolSlots", apart := false }
def PoolSlotsSaid : Prop := poolSlotsRow.holds Try.pinned (OpenSpec.ofChange poolSlotsSpec)

/-- ITS FALSE NEIGHBOUR: 'it returns false'. Refute it at one input. -/
def poolSlotsWrong : ChangeSpec := { name := "poolSlots", fn := fun _ => fun
  | [d1, d2, d3] => { results := [.lit (.bool false)], args := [d1, d2, d3] }
  | _ => none }
def PoolSlotsWrongFalsely : Prop := poolSlotsRow.holds Try.pinned (OpenSpec.ofChange poolSlotsWrong)

/- THE SECOND FORM. 'bulk': how many values and letters a reading holds, each counted each time it is reached (what is shared counts as often as it is met; a slice's spare places count too). A statement '..UptoSaid' is the law's where the arguments, and the package variables that the reading takes, are together of bulk at most 1048576: NARROWER than '..Said'. Prove '..Said' where nothing that the law and all that it calls make is longer than what came in: it says more and counts as full. Else prove '..UptoSaid'. A law counts once. -/
mutual
def uptoBulk {H : Type} : DataW H → Nat
  | .lit (.string bytes) => bytes.length + 1
  | .lit _ => 1
  | .nil => 1
  | .ptr d => uptoBulk d + 1
  | .slice elems spare => uptoBulkAll elems + uptoBulkAll spare + 1
  | .agg parts => uptoBulkAll parts + 1
  | .iface _ d => uptoBulk d + 1
  | .map entries => uptoBulkEntries entries + 1
  | .held _ => 1
def uptoBulkAll {H : Type} : List (DataW H) → Nat
  | [] => 0
  | d :: r => uptoBulk d + uptoBulkAll r
def uptoBulkEntries {H : Type} : List (Lit × DataW H) → Nat
  | [] => 0
  | x :: r => uptoBulkEntry x + uptoBulkEntries r
def uptoBulkEntry {H : Type} : Lit × DataW H → Nat
  | (.string bytes, d) => bytes.length + uptoBulk d + 1
  | (_, d) => uptoBulk d + 1
 end
def uptoSmall : (H : Type) → List (DataW H) → Bool := fun _ ds => decide (uptoBulkAll ds ≤ 1048576)
def OpenSpec.upto (s : _root_.Go.ChangeSpec) : _root_.Go.OpenSpec := { _root_.Go.OpenSpec.ofChange s with cond := some uptoSmall }

/-- 'paritylaw4.FieldSquares', WHERE WHAT IT READS IS OF BULK AT MOST 1048576: true; the input reads as it did. -/
def fieldSquaresUptoRow : OpenClaim := { program := "ytloaekdijpcmiaa", sum := "c586d87102ded6235d67e39e4fefcd89cede5bc12b5f0bfc3b2025c28324cee0", func := "paritymill/paritylaw4.FieldSquares", spec := "fieldSquares", apart := false, narrowed := true }
def FieldSquaresUptoSaid : Prop := fieldSquaresUptoRow.holds Try.pinned (OpenSpec.upto fieldSquaresSpec)

/-- 'paritylaw1.Names', WHERE WHAT IT READS IS OF BULK AT MOST 1048576: true; the input reads as it did. -/
def namesUptoRow : OpenClaim := { program := "ytloaekdijpcmiaa", sum := "c586d87102ded6235d67e39e4fefcd89cede5bc12b5f0bfc3b2025c28324cee0", func := "paritymill/paritylaw1.Names", spec := "names", apart := false, narrowed := true }
def NamesUptoSaid : Prop := namesUptoRow.holds Try.pinned (OpenSpec.upto namesSpec)

/-- 'paritylaw4.FieldAround', WHERE WHAT IT READS IS OF BULK AT MOST 1048576: true; the input reads as it did. -/
def fieldAroundUptoRow : OpenClaim := { program := "ytloaekdijpcmiaa", sum := "c586d87102ded6235d67e39e4fefcd89cede5bc12b5f0bfc3b2025c28324cee0", func := "paritymill/paritylaw4.FieldAround", spec := "fieldAround", apart := false, narrowed := true }
def FieldAroundUptoSaid : Prop := fieldAroundUptoRow.holds Try.pinned (OpenSpec.upto fieldAroundSpec)

/-- 'paritylaw1.FieldHolds', WHERE WHAT IT READS IS OF BULK AT MOST 1048576: true; the input reads as it did. -/
def fieldHoldsUptoRow : OpenClaim := { program := "ytloaekdijpcmiaa", sum := "c586d87102ded6235d67e39e4fefcd89cede5bc12b5f0bfc3b2025c28324cee0", func := "paritymill/paritylaw1.FieldHolds", spec := "fieldHolds", apart := false, narrowed := true }
def FieldHoldsUptoSaid : Prop := fieldHoldsUptoRow.holds Try.pinned (OpenSpec.upto fieldHoldsSpec)

/-- 'paritylaw1.LayoutEach', WHERE WHAT IT READS IS OF BULK AT MOST 1048576: true; the input reads as it did. -/
def layoutEachUptoRow : OpenClaim := { program := "ytloaekdijpcmiaa", sum := "c586d87102ded6235d67e39e4fefcd89cede5bc12b5f0bfc3b2025c28324cee0", func := "paritymill/paritylaw1.LayoutEach", spec := "layoutEach", apart := false, narrowed := true }
def LayoutEachUptoSaid : Prop := layoutEachUptoRow.holds Try.pinned (OpenSpec.upto layoutEachSpec)

/-- 'paritylaw4.PoolSpares', WHERE WHAT IT READS IS OF BULK AT MOST 1048576: true; the input reads as it did. -/
def poolSparesUptoRow : OpenClaim := { program := "ytloaekdijpcmiaa", sum := "c586d87102ded6235d67e39e4fefcd89cede5bc12b5f0bfc3b2025c28324cee0", func := "paritymill/paritylaw4.PoolSpares", spec := "poolSpares", apart := false, narrowed := true }
def PoolSparesUptoSaid : Prop := poolSparesUptoRow.holds Try.pinned (OpenSpec.upto poolSparesSpec)

/-- 'paritylaw2.PoolSlots', WHERE WHAT IT READS IS OF BULK AT MOST 1048576: true; the input reads as it did. -/
def poolSlotsUptoRow : OpenClaim := { program := "ytloaekdijpcmiaa", sum := "c586d87102ded6235d67e39e4fefcd89cede5bc12b5f0bfc3b2025c28324cee0", func := "paritymill/paritylaw2.PoolSlots", spec := "poolSlots", apart := false, narrowed := true }
def PoolSlotsUptoSaid : Prop := poolSlotsUptoRow.holds Try.pinned (OpenSpec.upto poolSlotsSpec)

end Rows
end Go.Proofs.Ytloaekdijpcmiaa
