/-
  DERIVED. GIVEN WITH THE SEED: THE CARDS: each row of YtkkfpdjhnffpbaaDoorRows.lean that lists a variable, with what it lists TIED to the program's text (the seventh form; the later family's looks); each row that meets fmt, with fmt's text TOLD by the authors' own Lean function (tested against real Go, not proved from fmt's source: count such statements apart). THE CARD IS WHAT COUNTS. Prove the row's statement (the work); the ties are given (YtkkfpdjhnffpbaaDoorTie.lean); close each card by the builder's one call (the guide's Derived/Test/ToyasCard.lean, 'card_holds'). Laid BY PROGRAM, IN A SANDBOX (cutbox-door.mjs). By AI agents, Wed Nov 11 2026. No macro, syntax, notation, axiom, sorry.
-/
import Derived.Test.YtkkfpdjhnffpbaaDoorRows
import GoSem.ClaimSeven
namespace Go.Proofs.YtkkfpdjhnffpbaaDoor
namespace Rows

/-- THE TIED CARD OF 'paritylaw3.OddsTell'. -/
def oddsTellCard : Claim7 := { stood := { row := oddsTellRow, standIns := [], harness := (true, "e12d89396dc910ce6a4157d1999a684aea5fbc9ca71ef1b1a0c3ea671ff1db72"), looks := true }, kinds := [], alts := [], laidByText := true, laidKinds := [.handle], laidTests := true, laidLooks := .later }
def OddsTellCardSaid : Prop := Claim7.holds Tryd.pinned (.plain (OpenSpec.ofChange oddsTellSpec)) oddsTellCard

/-- THE TIED CARD OF 'paritylaw4.OddsAll'. -/
def oddsAllCard : Claim7 := { stood := { row := oddsAllRow, standIns := [], harness := (true, "e12d89396dc910ce6a4157d1999a684aea5fbc9ca71ef1b1a0c3ea671ff1db72"), looks := true }, kinds := [], alts := [], laidByText := true, laidKinds := [.handle], laidTests := true, laidLooks := .later }
def OddsAllCardSaid : Prop := Claim7.holds Tryd.pinned (.plain (OpenSpec.ofChange oddsAllSpec)) oddsAllCard

/-- THE TIED CARD OF 'paritylaw4.PlaceAll'. -/
def placeAllCard : Claim7 := { stood := { row := placeAllRow, standIns := [], harness := (true, "e12d89396dc910ce6a4157d1999a684aea5fbc9ca71ef1b1a0c3ea671ff1db72"), looks := true }, kinds := [], alts := [], laidByText := true, laidKinds := [.handle], laidTests := true, laidLooks := .later }
def PlaceAllCardSaid : Prop := Claim7.holds Tryd.pinned (.plain (OpenSpec.ofChange placeAllSpec)) placeAllCard

/-- THE TIED CARD OF 'paritylaw2.PlaceTells'. -/
def placeTellsCard : Claim7 := { stood := { row := placeTellsRow, standIns := [], harness := (true, "e12d89396dc910ce6a4157d1999a684aea5fbc9ca71ef1b1a0c3ea671ff1db72"), looks := true }, kinds := [], alts := [], laidByText := true, laidKinds := [.handle], laidTests := true, laidLooks := .later }
def PlaceTellsCardSaid : Prop := Claim7.holds Tryd.pinned (.plain (OpenSpec.ofChange placeTellsSpec)) placeTellsCard

/-- THE SECOND FORM's CARD OF 'paritylaw3.OddsTell'. -/
def oddsTellUptoCard : Claim7 := { stood := { row := oddsTellUptoRow, standIns := [], harness := (true, "e12d89396dc910ce6a4157d1999a684aea5fbc9ca71ef1b1a0c3ea671ff1db72"), looks := true }, kinds := [], alts := [], laidByText := true, laidKinds := [.handle], laidTests := true, laidLooks := .later }
def OddsTellUptoCardSaid : Prop := Claim7.holds Tryd.pinned (.plain (OpenSpec.upto oddsTellSpec)) oddsTellUptoCard

/-- THE SECOND FORM's CARD OF 'paritylaw4.OddsAll'. -/
def oddsAllUptoCard : Claim7 := { stood := { row := oddsAllUptoRow, standIns := [], harness := (true, "e12d89396dc910ce6a4157d1999a684aea5fbc9ca71ef1b1a0c3ea671ff1db72"), looks := true }, kinds := [], alts := [], laidByText := true, laidKinds := [.handle], laidTests := true, laidLooks := .later }
def OddsAllUptoCardSaid : Prop := Claim7.holds Tryd.pinned (.plain (OpenSpec.upto oddsAllSpec)) oddsAllUptoCard

/-- THE SECOND FORM's CARD OF 'paritylaw4.PlaceAll'. -/
def placeAllUptoCard : Claim7 := { stood := { row := placeAllUptoRow, standIns := [], harness := (true, "e12d89396dc910ce6a4157d1999a684aea5fbc9ca71ef1b1a0c3ea671ff1db72"), looks := true }, kinds := [], alts := [], laidByText := true, laidKinds := [.handle], laidTests := true, laidLooks := .later }
def PlaceAllUptoCardSaid : Prop := Claim7.holds Tryd.pinned (.plain (OpenSpec.upto placeAllSpec)) placeAllUptoCard

/-- THE SECOND FORM's CARD OF 'paritylaw2.PlaceTells'. -/
def placeTellsUptoCard : Claim7 := { stood := { row := placeTellsUptoRow, standIns := [], harness := (true, "e12d89396dc910ce6a4157d1999a684aea5fbc9ca71ef1b1a0c3ea671ff1db72"), looks := true }, kinds := [], alts := [], laidByText := true, laidKinds := [.handle], laidTests := true, laidLooks := .later }
def PlaceTellsUptoCardSaid : Prop := Claim7.holds Tryd.pinned (.plain (OpenSpec.upto placeTellsSpec)) placeTellsUptoCard
end Rows
end Go.Proofs.YtkkfpdjhnffpbaaDoor
