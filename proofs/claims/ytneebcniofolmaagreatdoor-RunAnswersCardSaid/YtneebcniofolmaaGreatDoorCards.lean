/-
  DERIVED. GIVEN WITH THE SEED: THE CARDS: each row of YtneebcniofolmaaGreatDoorRows.lean that lists a variable, with what it lists TIED to the program's text (the seventh form; the later family's looks); each row that meets fmt, with fmt's text TOLD by the authors' own Lean function (tested against real Go, not proved from fmt's source: count such statements apart). THE CARD IS WHAT COUNTS. Prove the row's statement (the work); the ties are given (YtneebcniofolmaaGreatDoorTie.lean); close each card by the builder's one call (the guide's Derived/Test/ToyasCard.lean, 'card_holds'). Laid BY PROGRAM, IN A SANDBOX (cutbox-door.mjs). By AI agents, Wed Nov 11 2026. No macro, syntax, notation, axiom, sorry.
-/
import Derived.Test.YtneebcniofolmaaGreatDoorRows
import GoSem.ClaimSeven
namespace Go.Proofs.YtneebcniofolmaaGreatDoor
namespace Rows

/-- THE TIED CARD OF 'paritylaw3.RunAnswers'. -/
def runAnswersCard : Claim7 := { stood := { row := runAnswersRow, standIns := [], harness := (true, "abbd2cc2a10d862c42f2cef76489c81c4c8fc347287f25fd716b419edccf2807"), looks := true }, kinds := [], alts := [], laidByText := true, laidKinds := [.data, .data, .data, .data, .handle, .sentinel, .sentinel, .wider, .pinned], laidTests := true, laidLooks := .later }
def RunAnswersCardSaid : Prop := Claim7.holds Tryz.pinned (.plain (OpenSpec.ofChange runAnswersSpec)) runAnswersCard

/-- THE TIED CARD OF 'paritylaw3.RunBegins'. -/
def runBeginsCard : Claim7 := { stood := { row := runBeginsRow, standIns := [], harness := (true, "abbd2cc2a10d862c42f2cef76489c81c4c8fc347287f25fd716b419edccf2807"), looks := true }, kinds := [], alts := [], laidByText := true, laidKinds := [.data, .data, .data, .data, .handle, .sentinel, .sentinel, .wider, .pinned], laidTests := true, laidLooks := .later }
def RunBeginsCardSaid : Prop := Claim7.holds Tryz.pinned (.plain (OpenSpec.ofChange runBeginsSpec)) runBeginsCard

/-- THE TIED CARD OF 'paritylaw3.RunHeals'. -/
def runHealsCard : Claim7 := { stood := { row := runHealsRow, standIns := [], harness := (true, "abbd2cc2a10d862c42f2cef76489c81c4c8fc347287f25fd716b419edccf2807"), looks := true }, kinds := [], alts := [], laidByText := true, laidKinds := [.data, .data, .data, .data, .handle, .sentinel, .sentinel, .wider, .pinned], laidTests := true, laidLooks := .later }
def RunHealsCardSaid : Prop := Claim7.holds Tryz.pinned (.plain (OpenSpec.ofChange runHealsSpec)) runHealsCard

/-- THE SECOND FORM's CARD OF 'paritylaw3.RunAnswers'. -/
def runAnswersUptoCard : Claim7 := { stood := { row := runAnswersUptoRow, standIns := [], harness := (true, "abbd2cc2a10d862c42f2cef76489c81c4c8fc347287f25fd716b419edccf2807"), looks := true }, kinds := [], alts := [], laidByText := true, laidKinds := [.data, .data, .data, .data, .handle, .sentinel, .sentinel, .wider, .pinned], laidTests := true, laidLooks := .later }
def RunAnswersUptoCardSaid : Prop := Claim7.holds Tryz.pinned (.plain (OpenSpec.upto runAnswersSpec)) runAnswersUptoCard

/-- THE SECOND FORM's CARD OF 'paritylaw3.RunBegins'. -/
def runBeginsUptoCard : Claim7 := { stood := { row := runBeginsUptoRow, standIns := [], harness := (true, "abbd2cc2a10d862c42f2cef76489c81c4c8fc347287f25fd716b419edccf2807"), looks := true }, kinds := [], alts := [], laidByText := true, laidKinds := [.data, .data, .data, .data, .handle, .sentinel, .sentinel, .wider, .pinned], laidTests := true, laidLooks := .later }
def RunBeginsUptoCardSaid : Prop := Claim7.holds Tryz.pinned (.plain (OpenSpec.upto runBeginsSpec)) runBeginsUptoCard

/-- THE SECOND FORM's CARD OF 'paritylaw3.RunHeals'. -/
def runHealsUptoCard : Claim7 := { stood := { row := runHealsUptoRow, standIns := [], harness := (true, "abbd2cc2a10d862c42f2cef76489c81c4c8fc347287f25fd716b419edccf2807"), looks := true }, kinds := [], alts := [], laidByText := true, laidKinds := [.data, .data, .data, .data, .handle, .sentinel, .sentinel, .wider, .pinned], laidTests := true, laidLooks := .later }
def RunHealsUptoCardSaid : Prop := Claim7.holds Tryz.pinned (.plain (OpenSpec.upto runHealsSpec)) runHealsUptoCard
end Rows
end Go.Proofs.YtneebcniofolmaaGreatDoor
