/-
  DERIVED. GIVEN WITH THE SEED: THE CARDS: each row of YtoddoekmgkcomaaDoorRows.lean that lists a variable, with what it lists TIED to the program's text (the seventh form; the later family's looks); each row that meets fmt, with fmt's text TOLD by the authors' own Lean function (tested against real Go, not proved from fmt's source: count such statements apart). THE CARD IS WHAT COUNTS. Prove the row's statement (the work); the ties are given (YtoddoekmgkcomaaDoorTie.lean); close each card by the builder's one call (the guide's Derived/Test/ToyasCard.lean, 'card_holds'). Laid BY PROGRAM, IN A SANDBOX (cutbox-door.mjs). By AI agents, Wed Nov 11 2026. No macro, syntax, notation, axiom, sorry.
-/
import Derived.Test.YtoddoekmgkcomaaDoorRows
import GoSem.ClaimSeven
namespace Go.Proofs.YtoddoekmgkcomaaDoor
namespace Rows

/-- THE TIED CARD OF 'paritylaw3.WireTells'. -/
def wireTellsCard : Claim7 := { stood := { row := wireTellsRow, standIns := [], harness := (true, "7e3abb4a35f3aff8ab61e88a4f1a4cec17400930ba055a71d7a48112dead2e58"), looks := true }, kinds := [], alts := [], laidByText := true, laidKinds := [.handle], laidTests := true, laidLooks := .later }
def WireTellsCardSaid : Prop := Claim7.holds Tryd.pinned (.plain (OpenSpec.ofChange wireTellsSpec)) wireTellsCard

/-- THE TIED CARD OF 'paritylaw3.LocksPlay'. -/
def locksPlayCard : Claim7 := { stood := { row := locksPlayRow, standIns := [], harness := (true, "7e3abb4a35f3aff8ab61e88a4f1a4cec17400930ba055a71d7a48112dead2e58"), looks := true }, kinds := [], alts := [], laidByText := true, laidKinds := [.handle], laidTests := true, laidLooks := .later }
def LocksPlayCardSaid : Prop := Claim7.holds Tryd.pinned (.plain (OpenSpec.ofChange locksPlaySpec)) locksPlayCard

/-- THE TIED CARD OF 'paritylaw3.GrowKeeps'. -/
def growKeepsCard : Claim7 := { stood := { row := growKeepsRow, standIns := [], harness := (true, "7e3abb4a35f3aff8ab61e88a4f1a4cec17400930ba055a71d7a48112dead2e58"), looks := true }, kinds := [], alts := [], laidByText := true, laidKinds := [.handle], laidTests := true, laidLooks := .later }
def GrowKeepsCardSaid : Prop := Claim7.holds Tryd.pinned (.plain (OpenSpec.ofChange growKeepsSpec)) growKeepsCard

/-- THE TIED CARD OF 'paritylaw3.GrowPlays'. -/
def growPlaysCard : Claim7 := { stood := { row := growPlaysRow, standIns := [], harness := (true, "7e3abb4a35f3aff8ab61e88a4f1a4cec17400930ba055a71d7a48112dead2e58"), looks := true }, kinds := [], alts := [], laidByText := true, laidKinds := [.handle], laidTests := true, laidLooks := .later }
def GrowPlaysCardSaid : Prop := Claim7.holds Tryd.pinned (.plain (OpenSpec.ofChange growPlaysSpec)) growPlaysCard

/-- THE TIED CARD OF 'paritylaw2.ReservePlays'. -/
def reservePlaysCard : Claim7 := { stood := { row := reservePlaysRow, standIns := [], harness := (true, "7e3abb4a35f3aff8ab61e88a4f1a4cec17400930ba055a71d7a48112dead2e58"), looks := true }, kinds := [], alts := [], laidByText := true, laidKinds := [.handle], laidTests := true, laidLooks := .later }
def ReservePlaysCardSaid : Prop := Claim7.holds Tryd.pinned (.plain (OpenSpec.ofChange reservePlaysSpec)) reservePlaysCard

/-- THE SECOND FORM's CARD OF 'paritylaw3.WireTells'. -/
def wireTellsUptoCard : Claim7 := { stood := { row := wireTellsUptoRow, standIns := [], harness := (true, "7e3abb4a35f3aff8ab61e88a4f1a4cec17400930ba055a71d7a48112dead2e58"), looks := true }, kinds := [], alts := [], laidByText := true, laidKinds := [.handle], laidTests := true, laidLooks := .later }
def WireTellsUptoCardSaid : Prop := Claim7.holds Tryd.pinned (.plain (OpenSpec.upto wireTellsSpec)) wireTellsUptoCard

/-- THE SECOND FORM's CARD OF 'paritylaw3.LocksPlay'. -/
def locksPlayUptoCard : Claim7 := { stood := { row := locksPlayUptoRow, standIns := [], harness := (true, "7e3abb4a35f3aff8ab61e88a4f1a4cec17400930ba055a71d7a48112dead2e58"), looks := true }, kinds := [], alts := [], laidByText := true, laidKinds := [.handle], laidTests := true, laidLooks := .later }
def LocksPlayUptoCardSaid : Prop := Claim7.holds Tryd.pinned (.plain (OpenSpec.upto locksPlaySpec)) locksPlayUptoCard

/-- THE SECOND FORM's CARD OF 'paritylaw3.GrowKeeps'. -/
def growKeepsUptoCard : Claim7 := { stood := { row := growKeepsUptoRow, standIns := [], harness := (true, "7e3abb4a35f3aff8ab61e88a4f1a4cec17400930ba055a71d7a48112dead2e58"), looks := true }, kinds := [], alts := [], laidByText := true, laidKinds := [.handle], laidTests := true, laidLooks := .later }
def GrowKeepsUptoCardSaid : Prop := Claim7.holds Tryd.pinned (.plain (OpenSpec.upto growKeepsSpec)) growKeepsUptoCard

/-- THE SECOND FORM's CARD OF 'paritylaw3.GrowPlays'. -/
def growPlaysUptoCard : Claim7 := { stood := { row := growPlaysUptoRow, standIns := [], harness := (true, "7e3abb4a35f3aff8ab61e88a4f1a4cec17400930ba055a71d7a48112dead2e58"), looks := true }, kinds := [], alts := [], laidByText := true, laidKinds := [.handle], laidTests := true, laidLooks := .later }
def GrowPlaysUptoCardSaid : Prop := Claim7.holds Tryd.pinned (.plain (OpenSpec.upto growPlaysSpec)) growPlaysUptoCard

/-- THE SECOND FORM's CARD OF 'paritylaw2.ReservePlays'. -/
def reservePlaysUptoCard : Claim7 := { stood := { row := reservePlaysUptoRow, standIns := [], harness := (true, "7e3abb4a35f3aff8ab61e88a4f1a4cec17400930ba055a71d7a48112dead2e58"), looks := true }, kinds := [], alts := [], laidByText := true, laidKinds := [.handle], laidTests := true, laidLooks := .later }
def ReservePlaysUptoCardSaid : Prop := Claim7.holds Tryd.pinned (.plain (OpenSpec.upto reservePlaysSpec)) reservePlaysUptoCard
end Rows
end Go.Proofs.YtoddoekmgkcomaaDoor
