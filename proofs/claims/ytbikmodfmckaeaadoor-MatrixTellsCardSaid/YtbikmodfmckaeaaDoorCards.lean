/-
  DERIVED. GIVEN WITH THE SEED: THE CARDS: each row of YtbikmodfmckaeaaDoorRows.lean that lists a variable, with what it lists TIED to the program's text (the seventh form; the later family's looks); each row that meets fmt, with fmt's text TOLD by the authors' own Lean function (tested against real Go, not proved from fmt's source: count such statements apart). THE CARD IS WHAT COUNTS. Prove the row's statement (the work); the ties are given (YtbikmodfmckaeaaDoorTie.lean); close each card by the builder's one call (the guide's Derived/Test/ToyasCard.lean, 'card_holds'). Laid BY PROGRAM, IN A SANDBOX (cutbox-door.mjs). By AI agents, Wed Nov 11 2026. No macro, syntax, notation, axiom, sorry.
-/
import Derived.Test.YtbikmodfmckaeaaDoorRows
import GoSem.ClaimSeven
namespace Go.Proofs.YtbikmodfmckaeaaDoor
namespace Rows

/-- THE TIED CARD OF 'paritylaw1.PolyTells'. -/
def polyTellsCard : Claim7 := { stood := { row := polyTellsRow, standIns := [], harness := (true, "e5073823c099e578b79a038c004fdef721f092b2a2db05715b60bdc70d052306"), looks := true }, kinds := [], alts := [], laidByText := true, laidKinds := [.handle], laidTests := true, laidLooks := .later }
def PolyTellsCardSaid : Prop := Claim7.holds Tryd.pinned (.plain (OpenSpec.ofChange polyTellsSpec)) polyTellsCard

/-- THE TIED CARD OF 'paritylaw1.MatrixTells'. -/
def matrixTellsCard : Claim7 := { stood := { row := matrixTellsRow, standIns := [], harness := (true, "e5073823c099e578b79a038c004fdef721f092b2a2db05715b60bdc70d052306"), looks := true }, kinds := [], alts := [], laidByText := true, laidKinds := [.handle], laidTests := true, laidLooks := .later }
def MatrixTellsCardSaid : Prop := Claim7.holds Tryd.pinned (.plain (OpenSpec.ofChange matrixTellsSpec)) matrixTellsCard

/-- THE TIED CARD OF 'paritylaw1.MatrixTurns'. -/
def matrixTurnsCard : Claim7 := { stood := { row := matrixTurnsRow, standIns := [], harness := (true, "e5073823c099e578b79a038c004fdef721f092b2a2db05715b60bdc70d052306"), looks := true }, kinds := [], alts := [], laidByText := true, laidKinds := [.handle], laidTests := true, laidLooks := .later }
def MatrixTurnsCardSaid : Prop := Claim7.holds Tryd.pinned (.plain (OpenSpec.ofChange matrixTurnsSpec)) matrixTurnsCard

/-- THE TIED CARD OF 'paritylaw1.CodeTells'. -/
def codeTellsCard : Claim7 := { stood := { row := codeTellsRow, standIns := [], harness := (true, "e5073823c099e578b79a038c004fdef721f092b2a2db05715b60bdc70d052306"), looks := true }, kinds := [], alts := [], laidByText := true, laidKinds := [.handle], laidTests := true, laidLooks := .later }
def CodeTellsCardSaid : Prop := Claim7.holds Tryd.pinned (.plain (OpenSpec.ofChange codeTellsSpec)) codeTellsCard

/-- THE TIED CARD OF 'paritylaw1.CodeAny'. -/
def codeAnyCard : Claim7 := { stood := { row := codeAnyRow, standIns := [], harness := (true, "e5073823c099e578b79a038c004fdef721f092b2a2db05715b60bdc70d052306"), looks := true }, kinds := [], alts := [], laidByText := true, laidKinds := [.handle], laidTests := true, laidLooks := .later }
def CodeAnyCardSaid : Prop := Claim7.holds Tryd.pinned (.plain (OpenSpec.ofChange codeAnySpec)) codeAnyCard

/-- THE TIED CARD OF 'paritylaw1.PqTells'. -/
def pqTellsCard : Claim7 := { stood := { row := pqTellsRow, standIns := [], harness := (true, "e5073823c099e578b79a038c004fdef721f092b2a2db05715b60bdc70d052306"), looks := true }, kinds := [], alts := [], laidByText := true, laidKinds := [.handle], laidTests := true, laidLooks := .later }
def PqTellsCardSaid : Prop := Claim7.holds Tryd.pinned (.plain (OpenSpec.ofChange pqTellsSpec)) pqTellsCard

/-- THE SECOND FORM's CARD OF 'paritylaw1.PolyTells'. -/
def polyTellsUptoCard : Claim7 := { stood := { row := polyTellsUptoRow, standIns := [], harness := (true, "e5073823c099e578b79a038c004fdef721f092b2a2db05715b60bdc70d052306"), looks := true }, kinds := [], alts := [], laidByText := true, laidKinds := [.handle], laidTests := true, laidLooks := .later }
def PolyTellsUptoCardSaid : Prop := Claim7.holds Tryd.pinned (.plain (OpenSpec.upto polyTellsSpec)) polyTellsUptoCard

/-- THE SECOND FORM's CARD OF 'paritylaw1.MatrixTells'. -/
def matrixTellsUptoCard : Claim7 := { stood := { row := matrixTellsUptoRow, standIns := [], harness := (true, "e5073823c099e578b79a038c004fdef721f092b2a2db05715b60bdc70d052306"), looks := true }, kinds := [], alts := [], laidByText := true, laidKinds := [.handle], laidTests := true, laidLooks := .later }
def MatrixTellsUptoCardSaid : Prop := Claim7.holds Tryd.pinned (.plain (OpenSpec.upto matrixTellsSpec)) matrixTellsUptoCard

/-- THE SECOND FORM's CARD OF 'paritylaw1.MatrixTurns'. -/
def matrixTurnsUptoCard : Claim7 := { stood := { row := matrixTurnsUptoRow, standIns := [], harness := (true, "e5073823c099e578b79a038c004fdef721f092b2a2db05715b60bdc70d052306"), looks := true }, kinds := [], alts := [], laidByText := true, laidKinds := [.handle], laidTests := true, laidLooks := .later }
def MatrixTurnsUptoCardSaid : Prop := Claim7.holds Tryd.pinned (.plain (OpenSpec.upto matrixTurnsSpec)) matrixTurnsUptoCard

/-- THE SECOND FORM's CARD OF 'paritylaw1.CodeTells'. -/
def codeTellsUptoCard : Claim7 := { stood := { row := codeTellsUptoRow, standIns := [], harness := (true, "e5073823c099e578b79a038c004fdef721f092b2a2db05715b60bdc70d052306"), looks := true }, kinds := [], alts := [], laidByText := true, laidKinds := [.handle], laidTests := true, laidLooks := .later }
def CodeTellsUptoCardSaid : Prop := Claim7.holds Tryd.pinned (.plain (OpenSpec.upto codeTellsSpec)) codeTellsUptoCard

/-- THE SECOND FORM's CARD OF 'paritylaw1.CodeAny'. -/
def codeAnyUptoCard : Claim7 := { stood := { row := codeAnyUptoRow, standIns := [], harness := (true, "e5073823c099e578b79a038c004fdef721f092b2a2db05715b60bdc70d052306"), looks := true }, kinds := [], alts := [], laidByText := true, laidKinds := [.handle], laidTests := true, laidLooks := .later }
def CodeAnyUptoCardSaid : Prop := Claim7.holds Tryd.pinned (.plain (OpenSpec.upto codeAnySpec)) codeAnyUptoCard

/-- THE SECOND FORM's CARD OF 'paritylaw1.PqTells'. -/
def pqTellsUptoCard : Claim7 := { stood := { row := pqTellsUptoRow, standIns := [], harness := (true, "e5073823c099e578b79a038c004fdef721f092b2a2db05715b60bdc70d052306"), looks := true }, kinds := [], alts := [], laidByText := true, laidKinds := [.handle], laidTests := true, laidLooks := .later }
def PqTellsUptoCardSaid : Prop := Claim7.holds Tryd.pinned (.plain (OpenSpec.upto pqTellsSpec)) pqTellsUptoCard
end Rows
end Go.Proofs.YtbikmodfmckaeaaDoor
