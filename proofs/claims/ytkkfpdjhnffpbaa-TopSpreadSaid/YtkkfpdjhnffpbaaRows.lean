/-
  No cell of these rows narrows 'for every input' (looked for: loops, veiled, ifaces, maps, wideKeys, modest, calm, conditions, laid).
  DERIVED. THE GIVEN ROWS OF THIS SEAT. 3 by the template 'for every input the law returns true; each argument reads behind the call as it read before'; 0 by the template 'total and deterministic' (their statements: YtkkfpdjhnffpbaaTotals.lean).
  GIVEN WITH THE SEED: the statements are not yours to turn. If you find one false, say at which input.
  Laid BY PROGRAM, IN A SANDBOX (cutbox-rows.mjs): the forced cells as the released guide's own fill.sh prints them over the translation 849d430fdaa4ff79… (all of the seat's roots in one cut). By AI agents, Wed Nov 11 2026. No macro, syntax, notation, axiom, sorry.
-/
import Derived.Test.YtkkfpdjhnffpbaaChecked
import GoSem.Claim
import GoSem.ClaimJoined
import GoSem.ClaimMapViews
import Derived.JoinedTies
import Derived.KernelRfl
namespace Go.Proofs.Ytkkfpdjhnffpbaa
/- THE CELL 'sum', in the pinned program and in every row, IS THE sha256 OF THE DUMP (.gsa) THAT YtkkfpdjhnffpbaaProg.lean LOADS. Nothing in Lean hashes anything: it is a label: what it is worth is what the hold of that sum in a sandbox is worth. -/
noncomputable def Try.pinned : Pinned := { name := "ytkkfpdjhnffpbaa", sum := "849d430fdaa4ff79be67d76633d92ff0d8b53b90390282d04e06fde03eec1226", checked := Try.checked }
namespace Rows
def none {H : Type} : Left H := { results := [], args := [] }

/-- 'paritylaw3.OddsAdd': WHATEVER THE INPUT: true; the input reads as it did. -/
def oddsAddSpec : ChangeSpec := { name := "oddsAdd", fn := fun _ => fun
  | [d1, d2, d3, d4, d5, d6] => { results := [.lit (.bool true)], args := [d1, d2, d3, d4, d5, d6] }
  | _ => none }
def oddsAddRow : OpenClaim := { program := "ytkkfpdjhnffpbaa", sum := "849d430fdaa4ff79be67d76633d92ff0d8b53b90390282d04e06fde03eec1226", func := "paritymill/paritylaw3.OddsAdd", spec := "oddsAdd", unfollowed := true, recurses := true, apart := false }
def OddsAddSaid : Prop := oddsAddRow.holds Try.pinned (OpenSpec.ofChange oddsAddSpec)

/-- ITS FALSE NEIGHBOUR: 'it returns false'. Refute it at one input. -/
def oddsAddWrong : ChangeSpec := { name := "oddsAdd", fn := fun _ => fun
  | [d1, d2, d3, d4, d5, d6] => { results := [.lit (.bool false)], args := [d1, d2, d3, d4, d5, d6] }
  | _ => none }
def OddsAddWrongFalsely : Prop := oddsAddRow.holds Try.pinned (OpenSpec.ofChange oddsAddWrong)

/-- 'paritylaw2.PlaceEven': WHATEVER THE INPUT: true; the input reads as it did. -/
def placeEvenSpec : ChangeSpec := { name := "placeEven", fn := fun _ => fun
  | [d1, d2, d3, d4] => { results := [.lit (.bool true)], args := [d1, d2, d3, d4] }
  | _ => none }
def placeEvenRow : OpenClaim := { program := "ytkkfpdjhnffpbaa", sum := "849d430fdaa4ff79be67d76633d92ff0d8b53b90390282d04e06fde03eec1226", func := "paritymill/paritylaw2.PlaceEven", spec := "placeEven", unfollowed := true, recurses := true, apart := false }
def PlaceEvenSaid : Prop := placeEvenRow.holds Try.pinned (OpenSpec.ofChange placeEvenSpec)

/-- ITS FALSE NEIGHBOUR: 'it returns false'. Refute it at one input. -/
def placeEvenWrong : ChangeSpec := { name := "placeEven", fn := fun _ => fun
  | [d1, d2, d3, d4] => { results := [.lit (.bool false)], args := [d1, d2, d3, d4] }
  | _ => none }
def PlaceEvenWrongFalsely : Prop := placeEvenRow.holds Try.pinned (OpenSpec.ofChange placeEvenWrong)

/-- 'paritytop.TopSpread': WHATEVER THE INPUT: true; the input reads as it did. -/
def topSpreadSpec : ChangeSpec := { name := "topSpread", fn := fun _ => fun
  | [d1, d2, d3, d4] => { results := [.lit (.bool true)], args := [d1, d2, d3, d4] }
  | _ => none }
def topSpreadRow : OpenClaim := { program := "ytkkfpdjhnffpbaa", sum := "849d430fdaa4ff79be67d76633d92ff0d8b53b90390282d04e06fde03eec1226", func := "paritymill/paritytop.TopSpread", spec := "topSpread", unfollowed := true, recurses := true, apart := false }
def TopSpreadSaid : Prop := topSpreadRow.holds Try.pinned (OpenSpec.ofChange topSpreadSpec)

/-- ITS FALSE NEIGHBOUR: 'it returns false'. Refute it at one input. -/
def topSpreadWrong : ChangeSpec := { name := "topSpread", fn := fun _ => fun
  | [d1, d2, d3, d4] => { results := [.lit (.bool false)], args := [d1, d2, d3, d4] }
  | _ => none }
def TopSpreadWrongFalsely : Prop := topSpreadRow.holds Try.pinned (OpenSpec.ofChange topSpreadWrong)

/- THE SECOND FORM. 'bulk': how many values and letters a reading holds, each counted each time it is reached (what is shared counts as often as it is met; a slice's spare places count too). A statement '..UptoSaid' is the law's where the arguments, and the package variables that the reading takes, are together of bulk at most 1048576: NARROWER than '..Said'. Prove '..Said' where nothing that the law and all that it calls make is longer than what came in: it says more and counts as full. Else prove '..UptoSaid'. A law counts once. -/
mutual
def uptoBulk {H : Type} : DataW H → Nat
  | .lit (.string bytes) => bytes.length + 1
  | .lit _ => 1
  | .nil => 1
  | .ptr d => uptoBulk d + 1
  | .slice elems spare => uptoBulkAll elems + uptoBulkAll spare + 1
  | .agg parts => uptoBulkAll parts + 1
  | .iface _ d => uptoBulk d + 1
  | .map entries => uptoBulkEntries entries + 1
  | .held _ => 1
def uptoBulkAll {H : Type} : List (DataW H) → Nat
  | [] => 0
  | d :: r => uptoBulk d + uptoBulkAll r
def uptoBulkEntries {H : Type} : List (Lit × DataW H) → Nat
  | [] => 0
  | x :: r => uptoBulkEntry x + uptoBulkEntries r
def uptoBulkEntry {H : Type} : Lit × DataW H → Nat
  | (.string bytes, d) => bytes.length + uptoBulk d + 1
  | (_, d) => uptoBulk d + 1
 end
def uptoSmall : (H : Type) → List (DataW H) → Bool := fun _ ds => decide (uptoBulkAll ds ≤ 1048576)
def OpenSpec.upto (s : _root_.Go.ChangeSpec) : _root_.Go.OpenSpec := { _root_.Go.OpenSpec.ofChange s with cond := some uptoSmall }

/-- 'paritylaw3.OddsAdd', WHERE WHAT IT READS IS OF BULK AT MOST 1048576: true; the input reads as it did. -/
def oddsAddUptoRow : OpenClaim := { program := "ytkkfpdjhnffpbaa", sum := "849d430fdaa4ff79be67d76633d92ff0d8b53b90390282d04e06fde03eec1226", func := "paritymill/paritylaw3.OddsAdd", spec := "oddsAdd", unfollowed := true, recurses := true, apart := false, narrowed := true }
def OddsAddUptoSaid : Prop := oddsAddUptoRow.holds Try.pinned (OpenSpec.upto oddsAddSpec)

/-- 'paritylaw2.PlaceEven', WHERE WHAT IT READS IS OF BULK AT MOST 1048576: true; the input reads as it did. -/
def placeEvenUptoRow : OpenClaim := { program := "ytkkfpdjhnffpbaa", sum := "849d430fdaa4ff79be67d76633d92ff0d8b53b90390282d04e06fde03eec1226", func := "paritymill/paritylaw2.PlaceEven", spec := "placeEven", unfollowed := true, recurses := true, apart := false, narrowed := true }
def PlaceEvenUptoSaid : Prop := placeEvenUptoRow.holds Try.pinned (OpenSpec.upto placeEvenSpec)

/-- 'paritytop.TopSpread', WHERE WHAT IT READS IS OF BULK AT MOST 1048576: true; the input reads as it did. -/
def topSpreadUptoRow : OpenClaim := { program := "ytkkfpdjhnffpbaa", sum := "849d430fdaa4ff79be67d76633d92ff0d8b53b90390282d04e06fde03eec1226", func := "paritymill/paritytop.TopSpread", spec := "topSpread", unfollowed := true, recurses := true, apart := false, narrowed := true }
def TopSpreadUptoSaid : Prop := topSpreadUptoRow.holds Try.pinned (OpenSpec.upto topSpreadSpec)

end Rows
end Go.Proofs.Ytkkfpdjhnffpbaa
