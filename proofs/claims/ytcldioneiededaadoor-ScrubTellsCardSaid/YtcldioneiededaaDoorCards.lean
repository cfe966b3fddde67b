/-
  DERIVED. GIVEN WITH THE SEED: THE CARDS: each row of YtcldioneiededaaDoorRows.lean that lists a variable, with what it lists TIED to the program's text (the seventh form; the later family's looks); each row that meets fmt, with fmt's text TOLD by the authors' own Lean function (tested against real Go, not proved from fmt's source: count such statements apart). THE CARD IS WHAT COUNTS. Prove the row's statement (the work); the ties are given (YtcldioneiededaaDoorTie.lean); close each card by the builder's one call (the guide's Derived/Test/ToyasCard.lean, 'card_holds'). Laid BY PROGRAM, IN A SANDBOX (cutbox-door.mjs). By AI agents, Wed Nov 11 2026. No macro, syntax, notation, axiom, sorry.
-/
import Derived.Test.YtcldioneiededaaDoorRows
import GoSem.ClaimSeven
namespace Go.Proofs.YtcldioneiededaaDoor
namespace Rows

/-- THE TIED CARD OF 'paritylaw4.ArrayThree'. -/
def arrayThreeCard : Claim7 := { stood := { row := arrayThreeRow, standIns := [], harness := (true, "61765ca226ca65ab4f3a54e7cda130ad0f14b913c6e4feb5226f619932ffd8b5"), looks := true }, kinds := [], alts := [], laidByText := true, laidKinds := [.handle], laidTests := true, laidLooks := .later }
def ArrayThreeCardSaid : Prop := Claim7.holds Tryd.pinned (.plain (OpenSpec.ofChange arrayThreeSpec)) arrayThreeCard

/-- THE TIED CARD OF 'paritylaw4.ScrubTwo'. -/
def scrubTwoCard : Claim7 := { stood := { row := scrubTwoRow, standIns := [], harness := (true, "61765ca226ca65ab4f3a54e7cda130ad0f14b913c6e4feb5226f619932ffd8b5"), looks := true }, kinds := [], alts := [], laidByText := true, laidKinds := [.handle], laidTests := true, laidLooks := .later }
def ScrubTwoCardSaid : Prop := Claim7.holds Tryd.pinned (.plain (OpenSpec.ofChange scrubTwoSpec)) scrubTwoCard

/-- THE TIED CARD OF 'paritylaw4.ArrayRebuilds'. -/
def arrayRebuildsCard : Claim7 := { stood := { row := arrayRebuildsRow, standIns := [], harness := (true, "61765ca226ca65ab4f3a54e7cda130ad0f14b913c6e4feb5226f619932ffd8b5"), looks := true }, kinds := [], alts := [], laidByText := true, laidKinds := [.handle], laidTests := true, laidLooks := .later }
def ArrayRebuildsCardSaid : Prop := Claim7.holds Tryd.pinned (.plain (OpenSpec.ofChange arrayRebuildsSpec)) arrayRebuildsCard

/-- THE TIED CARD OF 'paritylaw1.ArrayKeeps'. -/
def arrayKeepsCard : Claim7 := { stood := { row := arrayKeepsRow, standIns := [], harness := (true, "61765ca226ca65ab4f3a54e7cda130ad0f14b913c6e4feb5226f619932ffd8b5"), looks := true }, kinds := [], alts := [], laidByText := true, laidKinds := [.handle], laidTests := true, laidLooks := .later }
def ArrayKeepsCardSaid : Prop := Claim7.holds Tryd.pinned (.plain (OpenSpec.ofChange arrayKeepsSpec)) arrayKeepsCard

/-- THE TIED CARD OF 'paritylaw1.ScrubMends'. -/
def scrubMendsCard : Claim7 := { stood := { row := scrubMendsRow, standIns := [], harness := (true, "61765ca226ca65ab4f3a54e7cda130ad0f14b913c6e4feb5226f619932ffd8b5"), looks := true }, kinds := [], alts := [], laidByText := true, laidKinds := [.handle], laidTests := true, laidLooks := .later }
def ScrubMendsCardSaid : Prop := Claim7.holds Tryd.pinned (.plain (OpenSpec.ofChange scrubMendsSpec)) scrubMendsCard

/-- THE TIED CARD OF 'paritylaw1.ArrayPlays'. -/
def arrayPlaysCard : Claim7 := { stood := { row := arrayPlaysRow, standIns := [], harness := (true, "61765ca226ca65ab4f3a54e7cda130ad0f14b913c6e4feb5226f619932ffd8b5"), looks := true }, kinds := [], alts := [], laidByText := true, laidKinds := [.handle], laidTests := true, laidLooks := .later }
def ArrayPlaysCardSaid : Prop := Claim7.holds Tryd.pinned (.plain (OpenSpec.ofChange arrayPlaysSpec)) arrayPlaysCard

/-- THE TIED CARD OF 'paritylaw1.ScrubTells'. -/
def scrubTellsCard : Claim7 := { stood := { row := scrubTellsRow, standIns := [], harness := (true, "61765ca226ca65ab4f3a54e7cda130ad0f14b913c6e4feb5226f619932ffd8b5"), looks := true }, kinds := [], alts := [], laidByText := true, laidKinds := [.handle], laidTests := true, laidLooks := .later }
def ScrubTellsCardSaid : Prop := Claim7.holds Tryd.pinned (.plain (OpenSpec.ofChange scrubTellsSpec)) scrubTellsCard

/-- THE TIED CARD OF 'paritytop.TopGrows'. -/
def topGrowsCard : Claim7 := { stood := { row := topGrowsRow, standIns := [], harness := (true, "61765ca226ca65ab4f3a54e7cda130ad0f14b913c6e4feb5226f619932ffd8b5"), looks := true }, kinds := [], alts := [], laidByText := true, laidKinds := [.handle], laidTests := true, laidLooks := .later }
def TopGrowsCardSaid : Prop := Claim7.holds Tryd.pinned (.plain (OpenSpec.ofChange topGrowsSpec)) topGrowsCard

/-- THE SECOND FORM's CARD OF 'paritylaw4.ArrayThree'. -/
def arrayThreeUptoCard : Claim7 := { stood := { row := arrayThreeUptoRow, standIns := [], harness := (true, "61765ca226ca65ab4f3a54e7cda130ad0f14b913c6e4feb5226f619932ffd8b5"), looks := true }, kinds := [], alts := [], laidByText := true, laidKinds := [.handle], laidTests := true, laidLooks := .later }
def ArrayThreeUptoCardSaid : Prop := Claim7.holds Tryd.pinned (.plain (OpenSpec.upto arrayThreeSpec)) arrayThreeUptoCard

/-- THE SECOND FORM's CARD OF 'paritylaw4.ScrubTwo'. -/
def scrubTwoUptoCard : Claim7 := { stood := { row := scrubTwoUptoRow, standIns := [], harness := (true, "61765ca226ca65ab4f3a54e7cda130ad0f14b913c6e4feb5226f619932ffd8b5"), looks := true }, kinds := [], alts := [], laidByText := true, laidKinds := [.handle], laidTests := true, laidLooks := .later }
def ScrubTwoUptoCardSaid : Prop := Claim7.holds Tryd.pinned (.plain (OpenSpec.upto scrubTwoSpec)) scrubTwoUptoCard

/-- THE SECOND FORM's CARD OF 'paritylaw4.ArrayRebuilds'. -/
def arrayRebuildsUptoCard : Claim7 := { stood := { row := arrayRebuildsUptoRow, standIns := [], harness := (true, "61765ca226ca65ab4f3a54e7cda130ad0f14b913c6e4feb5226f619932ffd8b5"), looks := true }, kinds := [], alts := [], laidByText := true, laidKinds := [.handle], laidTests := true, laidLooks := .later }
def ArrayRebuildsUptoCardSaid : Prop := Claim7.holds Tryd.pinned (.plain (OpenSpec.upto arrayRebuildsSpec)) arrayRebuildsUptoCard

/-- THE SECOND FORM's CARD OF 'paritylaw1.ArrayKeeps'. -/
def arrayKeepsUptoCard : Claim7 := { stood := { row := arrayKeepsUptoRow, standIns := [], harness := (true, "61765ca226ca65ab4f3a54e7cda130ad0f14b913c6e4feb5226f619932ffd8b5"), looks := true }, kinds := [], alts := [], laidByText := true, laidKinds := [.handle], laidTests := true, laidLooks := .later }
def ArrayKeepsUptoCardSaid : Prop := Claim7.holds Tryd.pinned (.plain (OpenSpec.upto arrayKeepsSpec)) arrayKeepsUptoCard

/-- THE SECOND FORM's CARD OF 'paritylaw1.ScrubMends'. -/
def scrubMendsUptoCard : Claim7 := { stood := { row := scrubMendsUptoRow, standIns := [], harness := (true, "61765ca226ca65ab4f3a54e7cda130ad0f14b913c6e4feb5226f619932ffd8b5"), looks := true }, kinds := [], alts := [], laidByText := true, laidKinds := [.handle], laidTests := true, laidLooks := .later }
def ScrubMendsUptoCardSaid : Prop := Claim7.holds Tryd.pinned (.plain (OpenSpec.upto scrubMendsSpec)) scrubMendsUptoCard

/-- THE SECOND FORM's CARD OF 'paritylaw1.ArrayPlays'. -/
def arrayPlaysUptoCard : Claim7 := { stood := { row := arrayPlaysUptoRow, standIns := [], harness := (true, "61765ca226ca65ab4f3a54e7cda130ad0f14b913c6e4feb5226f619932ffd8b5"), looks := true }, kinds := [], alts := [], laidByText := true, laidKinds := [.handle], laidTests := true, laidLooks := .later }
def ArrayPlaysUptoCardSaid : Prop := Claim7.holds Tryd.pinned (.plain (OpenSpec.upto arrayPlaysSpec)) arrayPlaysUptoCard

/-- THE SECOND FORM's CARD OF 'paritylaw1.ScrubTells'. -/
def scrubTellsUptoCard : Claim7 := { stood := { row := scrubTellsUptoRow, standIns := [], harness := (true, "61765ca226ca65ab4f3a54e7cda130ad0f14b913c6e4feb5226f619932ffd8b5"), looks := true }, kinds := [], alts := [], laidByText := true, laidKinds := [.handle], laidTests := true, laidLooks := .later }
def ScrubTellsUptoCardSaid : Prop := Claim7.holds Tryd.pinned (.plain (OpenSpec.upto scrubTellsSpec)) scrubTellsUptoCard

/-- THE SECOND FORM's CARD OF 'paritytop.TopGrows'. -/
def topGrowsUptoCard : Claim7 := { stood := { row := topGrowsUptoRow, standIns := [], harness := (true, "61765ca226ca65ab4f3a54e7cda130ad0f14b913c6e4feb5226f619932ffd8b5"), looks := true }, kinds := [], alts := [], laidByText := true, laidKinds := [.handle], laidTests := true, laidLooks := .later }
def TopGrowsUptoCardSaid : Prop := Claim7.holds Tryd.pinned (.plain (OpenSpec.upto topGrowsSpec)) topGrowsUptoCard
end Rows
end Go.Proofs.YtcldioneiededaaDoor
