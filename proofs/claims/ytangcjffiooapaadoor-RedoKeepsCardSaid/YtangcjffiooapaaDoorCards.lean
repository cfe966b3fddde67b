/-
  DERIVED. GIVEN WITH THE SEED: THE CARDS: each row of YtangcjffiooapaaDoorRows.lean that lists a variable, with what it lists TIED to the program's text (the seventh form; the later family's looks); each row that meets fmt, with fmt's text TOLD by the authors' own Lean function (tested against real Go, not proved from fmt's source: count such statements apart). THE CARD IS WHAT COUNTS. Prove the row's statement (the work); the ties are given (YtangcjffiooapaaDoorTie.lean); close each card by the builder's one call (the guide's Derived/Test/ToyasCard.lean, 'card_holds'). Laid BY PROGRAM, IN A SANDBOX (cutbox-door.mjs). By AI agents, Wed Nov 11 2026. No macro, syntax, notation, axiom, sorry.
-/
import Derived.Test.YtangcjffiooapaaDoorRows
import GoSem.ClaimSeven
namespace Go.Proofs.YtangcjffiooapaaDoor
namespace Rows

/-- THE TIED CARD OF 'paritylaw2.CachePlays'. -/
def cachePlaysCard : Claim7 := { stood := { row := cachePlaysRow, standIns := [], harness := (true, "42c7ab8a996805163783995444a2a3108374765311c789226b7698ea04e4ff43"), looks := true }, kinds := [], alts := [], laidByText := true, laidKinds := [.handle], laidTests := true, laidLooks := .later }
def CachePlaysCardSaid : Prop := Claim7.holds Tryd.pinned (.plain (OpenSpec.ofChange cachePlaysSpec)) cachePlaysCard

/-- THE TIED CARD OF 'paritylaw2.IntentPlays'. -/
def intentPlaysCard : Claim7 := { stood := { row := intentPlaysRow, standIns := [], harness := (true, "42c7ab8a996805163783995444a2a3108374765311c789226b7698ea04e4ff43"), looks := true }, kinds := [], alts := [], laidByText := true, laidKinds := [.handle], laidTests := true, laidLooks := .later }
def IntentPlaysCardSaid : Prop := Claim7.holds Tryd.pinned (.plain (OpenSpec.ofChange intentPlaysSpec)) intentPlaysCard

/-- THE TIED CARD OF 'paritylaw4.RedoWhole'. -/
def redoWholeCard : Claim7 := { stood := { row := redoWholeRow, standIns := [], harness := (true, "42c7ab8a996805163783995444a2a3108374765311c789226b7698ea04e4ff43"), looks := true }, kinds := [], alts := [], laidByText := true, laidKinds := [.handle], laidTests := true, laidLooks := .later }
def RedoWholeCardSaid : Prop := Claim7.holds Tryd.pinned (.plain (OpenSpec.ofChange redoWholeSpec)) redoWholeCard

/-- THE TIED CARD OF 'paritylaw2.RedoStops'. -/
def redoStopsCard : Claim7 := { stood := { row := redoStopsRow, standIns := [], harness := (true, "42c7ab8a996805163783995444a2a3108374765311c789226b7698ea04e4ff43"), looks := true }, kinds := [], alts := [], laidByText := true, laidKinds := [.handle], laidTests := true, laidLooks := .later }
def RedoStopsCardSaid : Prop := Claim7.holds Tryd.pinned (.plain (OpenSpec.ofChange redoStopsSpec)) redoStopsCard

/-- THE TIED CARD OF 'paritylaw2.RedoKeeps'. -/
def redoKeepsCard : Claim7 := { stood := { row := redoKeepsRow, standIns := [], harness := (true, "42c7ab8a996805163783995444a2a3108374765311c789226b7698ea04e4ff43"), looks := true }, kinds := [], alts := [], laidByText := true, laidKinds := [.handle], laidTests := true, laidLooks := .later }
def RedoKeepsCardSaid : Prop := Claim7.holds Tryd.pinned (.plain (OpenSpec.ofChange redoKeepsSpec)) redoKeepsCard

/-- THE TIED CARD OF 'paritylaw1.DiskPlays'. -/
def diskPlaysCard : Claim7 := { stood := { row := diskPlaysRow, standIns := [], harness := (true, "42c7ab8a996805163783995444a2a3108374765311c789226b7698ea04e4ff43"), looks := true }, kinds := [], alts := [], laidByText := true, laidKinds := [.handle], laidTests := true, laidLooks := .later }
def DiskPlaysCardSaid : Prop := Claim7.holds Tryd.pinned (.plain (OpenSpec.ofChange diskPlaysSpec)) diskPlaysCard

/-- THE TIED CARD OF 'paritylaw4.DiskBlank'. -/
def diskBlankCard : Claim7 := { stood := { row := diskBlankRow, standIns := [], harness := (true, "42c7ab8a996805163783995444a2a3108374765311c789226b7698ea04e4ff43"), looks := true }, kinds := [], alts := [], laidByText := true, laidKinds := [.handle], laidTests := true, laidLooks := .later }
def DiskBlankCardSaid : Prop := Claim7.holds Tryd.pinned (.plain (OpenSpec.ofChange diskBlankSpec)) diskBlankCard

/-- THE SECOND FORM's CARD OF 'paritylaw2.CachePlays'. -/
def cachePlaysUptoCard : Claim7 := { stood := { row := cachePlaysUptoRow, standIns := [], harness := (true, "42c7ab8a996805163783995444a2a3108374765311c789226b7698ea04e4ff43"), looks := true }, kinds := [], alts := [], laidByText := true, laidKinds := [.handle], laidTests := true, laidLooks := .later }
def CachePlaysUptoCardSaid : Prop := Claim7.holds Tryd.pinned (.plain (OpenSpec.upto cachePlaysSpec)) cachePlaysUptoCard

/-- THE SECOND FORM's CARD OF 'paritylaw2.IntentPlays'. -/
def intentPlaysUptoCard : Claim7 := { stood := { row := intentPlaysUptoRow, standIns := [], harness := (true, "42c7ab8a996805163783995444a2a3108374765311c789226b7698ea04e4ff43"), looks := true }, kinds := [], alts := [], laidByText := true, laidKinds := [.handle], laidTests := true, laidLooks := .later }
def IntentPlaysUptoCardSaid : Prop := Claim7.holds Tryd.pinned (.plain (OpenSpec.upto intentPlaysSpec)) intentPlaysUptoCard

/-- THE SECOND FORM's CARD OF 'paritylaw4.RedoWhole'. -/
def redoWholeUptoCard : Claim7 := { stood := { row := redoWholeUptoRow, standIns := [], harness := (true, "42c7ab8a996805163783995444a2a3108374765311c789226b7698ea04e4ff43"), looks := true }, kinds := [], alts := [], laidByText := true, laidKinds := [.handle], laidTests := true, laidLooks := .later }
def RedoWholeUptoCardSaid : Prop := Claim7.holds Tryd.pinned (.plain (OpenSpec.upto redoWholeSpec)) redoWholeUptoCard

/-- THE SECOND FORM's CARD OF 'paritylaw2.RedoStops'. -/
def redoStopsUptoCard : Claim7 := { stood := { row := redoStopsUptoRow, standIns := [], harness := (true, "42c7ab8a996805163783995444a2a3108374765311c789226b7698ea04e4ff43"), looks := true }, kinds := [], alts := [], laidByText := true, laidKinds := [.handle], laidTests := true, laidLooks := .later }
def RedoStopsUptoCardSaid : Prop := Claim7.holds Tryd.pinned (.plain (OpenSpec.upto redoStopsSpec)) redoStopsUptoCard

/-- THE SECOND FORM's CARD OF 'paritylaw2.RedoKeeps'. -/
def redoKeepsUptoCard : Claim7 := { stood := { row := redoKeepsUptoRow, standIns := [], harness := (true, "42c7ab8a996805163783995444a2a3108374765311c789226b7698ea04e4ff43"), looks := true }, kinds := [], alts := [], laidByText := true, laidKinds := [.handle], laidTests := true, laidLooks := .later }
def RedoKeepsUptoCardSaid : Prop := Claim7.holds Tryd.pinned (.plain (OpenSpec.upto redoKeepsSpec)) redoKeepsUptoCard

/-- THE SECOND FORM's CARD OF 'paritylaw1.DiskPlays'. -/
def diskPlaysUptoCard : Claim7 := { stood := { row := diskPlaysUptoRow, standIns := [], harness := (true, "42c7ab8a996805163783995444a2a3108374765311c789226b7698ea04e4ff43"), looks := true }, kinds := [], alts := [], laidByText := true, laidKinds := [.handle], laidTests := true, laidLooks := .later }
def DiskPlaysUptoCardSaid : Prop := Claim7.holds Tryd.pinned (.plain (OpenSpec.upto diskPlaysSpec)) diskPlaysUptoCard

/-- THE SECOND FORM's CARD OF 'paritylaw4.DiskBlank'. -/
def diskBlankUptoCard : Claim7 := { stood := { row := diskBlankUptoRow, standIns := [], harness := (true, "42c7ab8a996805163783995444a2a3108374765311c789226b7698ea04e4ff43"), looks := true }, kinds := [], alts := [], laidByText := true, laidKinds := [.handle], laidTests := true, laidLooks := .later }
def DiskBlankUptoCardSaid : Prop := Claim7.holds Tryd.pinned (.plain (OpenSpec.upto diskBlankSpec)) diskBlankUptoCard
end Rows
end Go.Proofs.YtangcjffiooapaaDoor
