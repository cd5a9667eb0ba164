/-
  DERIVED. GIVEN WITH THE SEED: THE CARDS: each row of YtpkekfapphbgjaaGreatDoorRows.lean that lists a variable, with what it lists TIED to the program's text (the seventh form; the later family's looks); each row that meets fmt, with fmt's text TOLD by the authors' own Lean function (tested against real Go, not proved from fmt's source: count such statements apart). THE CARD IS WHAT COUNTS. Prove the row's statement (the work); the ties are given (YtpkekfapphbgjaaGreatDoorTie.lean); close each card by the builder's one call (the guide's Derived/Test/ToyasCard.lean, 'card_holds'). Laid BY PROGRAM, IN A SANDBOX (cutbox-door.mjs). By AI agents, Wed Nov 11 2026. No macro, syntax, notation, axiom, sorry.
-/
import Derived.Test.YtpkekfapphbgjaaGreatDoorRows
import GoSem.ClaimSeven
namespace Go.Proofs.YtpkekfapphbgjaaGreatDoor
namespace Rows

/-- THE TIED CARD OF 'offsidelaw15.ModuleHeaders'. -/
def moduleHeadersCard : Claim7 := { stood := { row := moduleHeadersRow, standIns := [], harness := (true, "3d49f3f4a8a044ec6eccff71a80f7523d12d162287bdb81c84426fb4453a061f"), looks := true }, kinds := [], alts := [], laidByText := true, laidKinds := [.pinned, .data, .data, .listed], laidTests := true, laidLooks := .later }
def ModuleHeadersCardSaid : Prop := Claim7.holds Tryz.pinned (.plain (OpenSpec.ofChange moduleHeadersSpec)) moduleHeadersCard

/-- THE TIED CARD OF 'offsidelaw15.ModuleLeaves'. -/
def moduleLeavesCard : Claim7 := { stood := { row := moduleLeavesRow, standIns := [], harness := (true, "3d49f3f4a8a044ec6eccff71a80f7523d12d162287bdb81c84426fb4453a061f"), looks := true }, kinds := [], alts := [], laidByText := true, laidKinds := [.pinned, .data, .data, .listed], laidTests := true, laidLooks := .later }
def ModuleLeavesCardSaid : Prop := Claim7.holds Tryz.pinned (.plain (OpenSpec.ofChange moduleLeavesSpec)) moduleLeavesCard

/-- THE TIED CARD OF 'offsidelaw21.BracesExplicits'. -/
def bracesExplicitsCard : Claim7 := { stood := { row := bracesExplicitsRow, standIns := [], harness := (true, "3d49f3f4a8a044ec6eccff71a80f7523d12d162287bdb81c84426fb4453a061f"), looks := true }, kinds := [], alts := [], laidByText := true, laidKinds := [.pinned, .data, .data, .listed], laidTests := true, laidLooks := .later }
def BracesExplicitsCardSaid : Prop := Claim7.holds Tryz.pinned (.plain (OpenSpec.ofChange bracesExplicitsSpec)) bracesExplicitsCard

/-- THE TIED CARD OF 'offsidelaw21.BracesBraced'. -/
def bracesBracedCard : Claim7 := { stood := { row := bracesBracedRow, standIns := [], harness := (true, "3d49f3f4a8a044ec6eccff71a80f7523d12d162287bdb81c84426fb4453a061f"), looks := true }, kinds := [], alts := [], laidByText := true, laidKinds := [.pinned, .data, .data, .listed], laidTests := true, laidLooks := .later }
def BracesBracedCardSaid : Prop := Claim7.holds Tryz.pinned (.plain (OpenSpec.ofChange bracesBracedSpec)) bracesBracedCard

/-- THE TIED CARD OF 'offsidelaw21.BracesRead'. -/
def bracesReadCard : Claim7 := { stood := { row := bracesReadRow, standIns := [], harness := (true, "3d49f3f4a8a044ec6eccff71a80f7523d12d162287bdb81c84426fb4453a061f"), looks := true }, kinds := [], alts := [], laidByText := true, laidKinds := [.pinned, .data, .data, .listed], laidTests := true, laidLooks := .later }
def BracesReadCardSaid : Prop := Claim7.holds Tryz.pinned (.plain (OpenSpec.ofChange bracesReadSpec)) bracesReadCard

/-- THE TIED CARD OF 'offsidelaw21.BracesAgain'. -/
def bracesAgainCard : Claim7 := { stood := { row := bracesAgainRow, standIns := [], harness := (true, "3d49f3f4a8a044ec6eccff71a80f7523d12d162287bdb81c84426fb4453a061f"), looks := true }, kinds := [], alts := [], laidByText := true, laidKinds := [.pinned, .data, .data, .listed], laidTests := true, laidLooks := .later }
def BracesAgainCardSaid : Prop := Claim7.holds Tryz.pinned (.plain (OpenSpec.ofChange bracesAgainSpec)) bracesAgainCard

/-- THE TIED CARD OF 'offsidelaw21.BracesAlike'. -/
def bracesAlikeCard : Claim7 := { stood := { row := bracesAlikeRow, standIns := [], harness := (true, "3d49f3f4a8a044ec6eccff71a80f7523d12d162287bdb81c84426fb4453a061f"), looks := true }, kinds := [], alts := [], laidByText := true, laidKinds := [.pinned, .data, .data, .listed], laidTests := true, laidLooks := .later }
def BracesAlikeCardSaid : Prop := Claim7.holds Tryz.pinned (.plain (OpenSpec.ofChange bracesAlikeSpec)) bracesAlikeCard

/-- THE TIED CARD OF 'offsidelaw17.ScopeResolves'. -/
def scopeResolvesCard : Claim7 := { stood := { row := scopeResolvesRow, standIns := [], harness := (true, "3d49f3f4a8a044ec6eccff71a80f7523d12d162287bdb81c84426fb4453a061f"), looks := true }, kinds := [], alts := [], laidByText := true, laidKinds := [.pinned, .data, .data, .listed, .handle], laidTests := true, laidLooks := .later }
def ScopeResolvesCardSaid : Prop := Claim7.holds Tryz.pinned (.plain (OpenSpec.ofChange scopeResolvesSpec)) scopeResolvesCard

/-- THE TIED CARD OF 'offsidelaw17.ScopeTexts'. -/
def scopeTextsCard : Claim7 := { stood := { row := scopeTextsRow, standIns := [], harness := (true, "3d49f3f4a8a044ec6eccff71a80f7523d12d162287bdb81c84426fb4453a061f"), looks := true }, kinds := [], alts := [], laidByText := true, laidKinds := [.pinned, .data, .data, .listed, .handle], laidTests := true, laidLooks := .later }
def ScopeTextsCardSaid : Prop := Claim7.holds Tryz.pinned (.plain (OpenSpec.ofChange scopeTextsSpec)) scopeTextsCard

/-- THE TIED CARD OF 'offsidelaw17.ScopeStays'. -/
def scopeStaysCard : Claim7 := { stood := { row := scopeStaysRow, standIns := [], harness := (true, "3d49f3f4a8a044ec6eccff71a80f7523d12d162287bdb81c84426fb4453a061f"), looks := true }, kinds := [], alts := [], laidByText := true, laidKinds := [.pinned, .data, .data, .listed, .handle], laidTests := true, laidLooks := .later }
def ScopeStaysCardSaid : Prop := Claim7.holds Tryz.pinned (.plain (OpenSpec.ofChange scopeStaysSpec)) scopeStaysCard

/-- THE TIED CARD OF 'offsidelaw17.ScopeParts'. -/
def scopePartsCard : Claim7 := { stood := { row := scopePartsRow, standIns := [], harness := (true, "3d49f3f4a8a044ec6eccff71a80f7523d12d162287bdb81c84426fb4453a061f"), looks := true }, kinds := [], alts := [], laidByText := true, laidKinds := [.pinned, .data, .data, .listed, .handle], laidTests := true, laidLooks := .later }
def ScopePartsCardSaid : Prop := Claim7.holds Tryz.pinned (.plain (OpenSpec.ofChange scopePartsSpec)) scopePartsCard

/-- THE TIED CARD OF 'offsidelaw17.ScopeLeaves'. -/
def scopeLeavesCard : Claim7 := { stood := { row := scopeLeavesRow, standIns := [], harness := (true, "3d49f3f4a8a044ec6eccff71a80f7523d12d162287bdb81c84426fb4453a061f"), looks := true }, kinds := [], alts := [], laidByText := true, laidKinds := [.pinned, .data, .data, .listed, .handle], laidTests := true, laidLooks := .later }
def ScopeLeavesCardSaid : Prop := Claim7.holds Tryz.pinned (.plain (OpenSpec.ofChange scopeLeavesSpec)) scopeLeavesCard

/-- THE SECOND FORM's CARD OF 'offsidelaw15.ModuleHeaders'. -/
def moduleHeadersUptoCard : Claim7 := { stood := { row := moduleHeadersUptoRow, standIns := [], harness := (true, "3d49f3f4a8a044ec6eccff71a80f7523d12d162287bdb81c84426fb4453a061f"), looks := true }, kinds := [], alts := [], laidByText := true, laidKinds := [.pinned, .data, .data, .listed], laidTests := true, laidLooks := .later }
def ModuleHeadersUptoCardSaid : Prop := Claim7.holds Tryz.pinned (.plain (OpenSpec.upto moduleHeadersSpec)) moduleHeadersUptoCard

/-- THE SECOND FORM's CARD OF 'offsidelaw15.ModuleLeaves'. -/
def moduleLeavesUptoCard : Claim7 := { stood := { row := moduleLeavesUptoRow, standIns := [], harness := (true, "3d49f3f4a8a044ec6eccff71a80f7523d12d162287bdb81c84426fb4453a061f"), looks := true }, kinds := [], alts := [], laidByText := true, laidKinds := [.pinned, .data, .data, .listed], laidTests := true, laidLooks := .later }
def ModuleLeavesUptoCardSaid : Prop := Claim7.holds Tryz.pinned (.plain (OpenSpec.upto moduleLeavesSpec)) moduleLeavesUptoCard

/-- THE SECOND FORM's CARD OF 'offsidelaw21.BracesExplicits'. -/
def bracesExplicitsUptoCard : Claim7 := { stood := { row := bracesExplicitsUptoRow, standIns := [], harness := (true, "3d49f3f4a8a044ec6eccff71a80f7523d12d162287bdb81c84426fb4453a061f"), looks := true }, kinds := [], alts := [], laidByText := true, laidKinds := [.pinned, .data, .data, .listed], laidTests := true, laidLooks := .later }
def BracesExplicitsUptoCardSaid : Prop := Claim7.holds Tryz.pinned (.plain (OpenSpec.upto bracesExplicitsSpec)) bracesExplicitsUptoCard

/-- THE SECOND FORM's CARD OF 'offsidelaw21.BracesBraced'. -/
def bracesBracedUptoCard : Claim7 := { stood := { row := bracesBracedUptoRow, standIns := [], harness := (true, "3d49f3f4a8a044ec6eccff71a80f7523d12d162287bdb81c84426fb4453a061f"), looks := true }, kinds := [], alts := [], laidByText := true, laidKinds := [.pinned, .data, .data, .listed], laidTests := true, laidLooks := .later }
def BracesBracedUptoCardSaid : Prop := Claim7.holds Tryz.pinned (.plain (OpenSpec.upto bracesBracedSpec)) bracesBracedUptoCard

/-- THE SECOND FORM's CARD OF 'offsidelaw21.BracesRead'. -/
def bracesReadUptoCard : Claim7 := { stood := { row := bracesReadUptoRow, standIns := [], harness := (true, "3d49f3f4a8a044ec6eccff71a80f7523d12d162287bdb81c84426fb4453a061f"), looks := true }, kinds := [], alts := [], laidByText := true, laidKinds := [.pinned, .data, .data, .listed], laidTests := true, laidLooks := .later }
def BracesReadUptoCardSaid : Prop := Claim7.holds Tryz.pinned (.plain (OpenSpec.upto bracesReadSpec)) bracesReadUptoCard

/-- THE SECOND FORM's CARD OF 'offsidelaw21.BracesAgain'. -/
def bracesAgainUptoCard : Claim7 := { stood := { row := bracesAgainUptoRow, standIns := [], harness := (true, "3d49f3f4a8a044ec6eccff71a80f7523d12d162287bdb81c84426fb4453a061f"), looks := true }, kinds := [], alts := [], laidByText := true, laidKinds := [.pinned, .data, .data, .listed], laidTests := true, laidLooks := .later }
def BracesAgainUptoCardSaid : Prop := Claim7.holds Tryz.pinned (.plain (OpenSpec.upto bracesAgainSpec)) bracesAgainUptoCard

/-- THE SECOND FORM's CARD OF 'offsidelaw21.BracesAlike'. -/
def bracesAlikeUptoCard : Claim7 := { stood := { row := bracesAlikeUptoRow, standIns := [], harness := (true, "3d49f3f4a8a044ec6eccff71a80f7523d12d162287bdb81c84426fb4453a061f"), looks := true }, kinds := [], alts := [], laidByText := true, laidKinds := [.pinned, .data, .data, .listed], laidTests := true, laidLooks := .later }
def BracesAlikeUptoCardSaid : Prop := Claim7.holds Tryz.pinned (.plain (OpenSpec.upto bracesAlikeSpec)) bracesAlikeUptoCard

/-- THE SECOND FORM's CARD OF 'offsidelaw17.ScopeResolves'. -/
def scopeResolvesUptoCard : Claim7 := { stood := { row := scopeResolvesUptoRow, standIns := [], harness := (true, "3d49f3f4a8a044ec6eccff71a80f7523d12d162287bdb81c84426fb4453a061f"), looks := true }, kinds := [], alts := [], laidByText := true, laidKinds := [.pinned, .data, .data, .listed, .handle], laidTests := true, laidLooks := .later }
def ScopeResolvesUptoCardSaid : Prop := Claim7.holds Tryz.pinned (.plain (OpenSpec.upto scopeResolvesSpec)) scopeResolvesUptoCard

/-- THE SECOND FORM's CARD OF 'offsidelaw17.ScopeTexts'. -/
def scopeTextsUptoCard : Claim7 := { stood := { row := scopeTextsUptoRow, standIns := [], harness := (true, "3d49f3f4a8a044ec6eccff71a80f7523d12d162287bdb81c84426fb4453a061f"), looks := true }, kinds := [], alts := [], laidByText := true, laidKinds := [.pinned, .data, .data, .listed, .handle], laidTests := true, laidLooks := .later }
def ScopeTextsUptoCardSaid : Prop := Claim7.holds Tryz.pinned (.plain (OpenSpec.upto scopeTextsSpec)) scopeTextsUptoCard

/-- THE SECOND FORM's CARD OF 'offsidelaw17.ScopeStays'. -/
def scopeStaysUptoCard : Claim7 := { stood := { row := scopeStaysUptoRow, standIns := [], harness := (true, "3d49f3f4a8a044ec6eccff71a80f7523d12d162287bdb81c84426fb4453a061f"), looks := true }, kinds := [], alts := [], laidByText := true, laidKinds := [.pinned, .data, .data, .listed, .handle], laidTests := true, laidLooks := .later }
def ScopeStaysUptoCardSaid : Prop := Claim7.holds Tryz.pinned (.plain (OpenSpec.upto scopeStaysSpec)) scopeStaysUptoCard

/-- THE SECOND FORM's CARD OF 'offsidelaw17.ScopeParts'. -/
def scopePartsUptoCard : Claim7 := { stood := { row := scopePartsUptoRow, standIns := [], harness := (true, "3d49f3f4a8a044ec6eccff71a80f7523d12d162287bdb81c84426fb4453a061f"), looks := true }, kinds := [], alts := [], laidByText := true, laidKinds := [.pinned, .data, .data, .listed, .handle], laidTests := true, laidLooks := .later }
def ScopePartsUptoCardSaid : Prop := Claim7.holds Tryz.pinned (.plain (OpenSpec.upto scopePartsSpec)) scopePartsUptoCard

/-- THE SECOND FORM's CARD OF 'offsidelaw17.ScopeLeaves'. -/
def scopeLeavesUptoCard : Claim7 := { stood := { row := scopeLeavesUptoRow, standIns := [], harness := (true, "3d49f3f4a8a044ec6eccff71a80f7523d12d162287bdb81c84426fb4453a061f"), looks := true }, kinds := [], alts := [], laidByText := true, laidKinds := [.pinned, .data, .data, .listed, .handle], laidTests := true, laidLooks := .later }
def ScopeLeavesUptoCardSaid : Prop := Claim7.holds Tryz.pinned (.plain (OpenSpec.upto scopeLeavesSpec)) scopeLeavesUptoCard
end Rows
end Go.Proofs.YtpkekfapphbgjaaGreatDoor
