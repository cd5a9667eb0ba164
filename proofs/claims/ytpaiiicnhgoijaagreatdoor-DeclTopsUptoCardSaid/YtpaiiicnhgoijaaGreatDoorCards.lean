/-
  DERIVED. GIVEN WITH THE SEED: THE CARDS: each row of YtpaiiicnhgoijaaGreatDoorRows.lean that lists a variable, with what it lists TIED to the program's text (the seventh form; the later family's looks); each row that meets fmt, with fmt's text TOLD by the authors' own Lean function (tested against real Go, not proved from fmt's source: count such statements apart). THE CARD IS WHAT COUNTS. Prove the row's statement (the work); the ties are given (YtpaiiicnhgoijaaGreatDoorTie.lean); close each card by the builder's one call (the guide's Derived/Test/ToyasCard.lean, 'card_holds'). Laid BY PROGRAM, IN A SANDBOX (cutbox-door.mjs). By AI agents, Wed Nov 11 2026. No macro, syntax, notation, axiom, sorry.
-/
import Derived.Test.YtpaiiicnhgoijaaGreatDoorRows
import GoSem.ClaimSeven
namespace Go.Proofs.YtpaiiicnhgoijaaGreatDoor
namespace Rows

/-- THE TIED CARD OF 'offsidelaw14.DeclBlocks'. -/
def declBlocksCard : Claim7 := { stood := { row := declBlocksRow, standIns := [], harness := (true, "815e276be736c1ff42937cf9d64d554ae363195612e775f777c524fa8c5cdd00"), looks := true }, kinds := [], alts := [], laidByText := true, laidKinds := [.data, .listed, .data, .pinned], laidTests := true, laidLooks := .later }
def DeclBlocksCardSaid : Prop := Claim7.holds Tryz.pinned (.plain (OpenSpec.ofChange declBlocksSpec)) declBlocksCard

/-- THE TIED CARD OF 'offsidelaw14.DeclTexts'. -/
def declTextsCard : Claim7 := { stood := { row := declTextsRow, standIns := [], harness := (true, "815e276be736c1ff42937cf9d64d554ae363195612e775f777c524fa8c5cdd00"), looks := true }, kinds := [], alts := [], laidByText := true, laidKinds := [.data, .listed, .data, .pinned], laidTests := true, laidLooks := .later }
def DeclTextsCardSaid : Prop := Claim7.holds Tryz.pinned (.plain (OpenSpec.ofChange declTextsSpec)) declTextsCard

/-- THE TIED CARD OF 'offsidelaw14.DeclDeeper'. -/
def declDeeperCard : Claim7 := { stood := { row := declDeeperRow, standIns := [], harness := (true, "815e276be736c1ff42937cf9d64d554ae363195612e775f777c524fa8c5cdd00"), looks := true }, kinds := [], alts := [], laidByText := true, laidKinds := [.data, .listed, .data, .pinned], laidTests := true, laidLooks := .later }
def DeclDeeperCardSaid : Prop := Claim7.holds Tryz.pinned (.plain (OpenSpec.ofChange declDeeperSpec)) declDeeperCard

/-- THE TIED CARD OF 'offsidelaw14.DeclTops'. -/
def declTopsCard : Claim7 := { stood := { row := declTopsRow, standIns := [], harness := (true, "815e276be736c1ff42937cf9d64d554ae363195612e775f777c524fa8c5cdd00"), looks := true }, kinds := [], alts := [], laidByText := true, laidKinds := [.data, .listed, .data, .pinned], laidTests := true, laidLooks := .later }
def DeclTopsCardSaid : Prop := Claim7.holds Tryz.pinned (.plain (OpenSpec.ofChange declTopsSpec)) declTopsCard

/-- THE TIED CARD OF 'offsidelaw14.DeclNames'. -/
def declNamesCard : Claim7 := { stood := { row := declNamesRow, standIns := [], harness := (true, "815e276be736c1ff42937cf9d64d554ae363195612e775f777c524fa8c5cdd00"), looks := true }, kinds := [], alts := [], laidByText := true, laidKinds := [.data, .listed, .data, .pinned], laidTests := true, laidLooks := .later }
def DeclNamesCardSaid : Prop := Claim7.holds Tryz.pinned (.plain (OpenSpec.ofChange declNamesSpec)) declNamesCard

/-- THE TIED CARD OF 'offsidelaw14.DeclJoined'. -/
def declJoinedCard : Claim7 := { stood := { row := declJoinedRow, standIns := [], harness := (true, "815e276be736c1ff42937cf9d64d554ae363195612e775f777c524fa8c5cdd00"), looks := true }, kinds := [], alts := [], laidByText := true, laidKinds := [.data, .listed, .data, .pinned], laidTests := true, laidLooks := .later }
def DeclJoinedCardSaid : Prop := Claim7.holds Tryz.pinned (.plain (OpenSpec.ofChange declJoinedSpec)) declJoinedCard

/-- THE TIED CARD OF 'offsidelaw14.DeclLeaves'. -/
def declLeavesCard : Claim7 := { stood := { row := declLeavesRow, standIns := [], harness := (true, "815e276be736c1ff42937cf9d64d554ae363195612e775f777c524fa8c5cdd00"), looks := true }, kinds := [], alts := [], laidByText := true, laidKinds := [.data, .listed, .data, .pinned], laidTests := true, laidLooks := .later }
def DeclLeavesCardSaid : Prop := Claim7.holds Tryz.pinned (.plain (OpenSpec.ofChange declLeavesSpec)) declLeavesCard

/-- THE SECOND FORM's CARD OF 'offsidelaw14.DeclBlocks'. -/
def declBlocksUptoCard : Claim7 := { stood := { row := declBlocksUptoRow, standIns := [], harness := (true, "815e276be736c1ff42937cf9d64d554ae363195612e775f777c524fa8c5cdd00"), looks := true }, kinds := [], alts := [], laidByText := true, laidKinds := [.data, .listed, .data, .pinned], laidTests := true, laidLooks := .later }
def DeclBlocksUptoCardSaid : Prop := Claim7.holds Tryz.pinned (.plain (OpenSpec.upto declBlocksSpec)) declBlocksUptoCard

/-- THE SECOND FORM's CARD OF 'offsidelaw14.DeclTexts'. -/
def declTextsUptoCard : Claim7 := { stood := { row := declTextsUptoRow, standIns := [], harness := (true, "815e276be736c1ff42937cf9d64d554ae363195612e775f777c524fa8c5cdd00"), looks := true }, kinds := [], alts := [], laidByText := true, laidKinds := [.data, .listed, .data, .pinned], laidTests := true, laidLooks := .later }
def DeclTextsUptoCardSaid : Prop := Claim7.holds Tryz.pinned (.plain (OpenSpec.upto declTextsSpec)) declTextsUptoCard

/-- THE SECOND FORM's CARD OF 'offsidelaw14.DeclDeeper'. -/
def declDeeperUptoCard : Claim7 := { stood := { row := declDeeperUptoRow, standIns := [], harness := (true, "815e276be736c1ff42937cf9d64d554ae363195612e775f777c524fa8c5cdd00"), looks := true }, kinds := [], alts := [], laidByText := true, laidKinds := [.data, .listed, .data, .pinned], laidTests := true, laidLooks := .later }
def DeclDeeperUptoCardSaid : Prop := Claim7.holds Tryz.pinned (.plain (OpenSpec.upto declDeeperSpec)) declDeeperUptoCard

/-- THE SECOND FORM's CARD OF 'offsidelaw14.DeclTops'. -/
def declTopsUptoCard : Claim7 := { stood := { row := declTopsUptoRow, standIns := [], harness := (true, "815e276be736c1ff42937cf9d64d554ae363195612e775f777c524fa8c5cdd00"), looks := true }, kinds := [], alts := [], laidByText := true, laidKinds := [.data, .listed, .data, .pinned], laidTests := true, laidLooks := .later }
def DeclTopsUptoCardSaid : Prop := Claim7.holds Tryz.pinned (.plain (OpenSpec.upto declTopsSpec)) declTopsUptoCard

/-- THE SECOND FORM's CARD OF 'offsidelaw14.DeclNames'. -/
def declNamesUptoCard : Claim7 := { stood := { row := declNamesUptoRow, standIns := [], harness := (true, "815e276be736c1ff42937cf9d64d554ae363195612e775f777c524fa8c5cdd00"), looks := true }, kinds := [], alts := [], laidByText := true, laidKinds := [.data, .listed, .data, .pinned], laidTests := true, laidLooks := .later }
def DeclNamesUptoCardSaid : Prop := Claim7.holds Tryz.pinned (.plain (OpenSpec.upto declNamesSpec)) declNamesUptoCard

/-- THE SECOND FORM's CARD OF 'offsidelaw14.DeclJoined'. -/
def declJoinedUptoCard : Claim7 := { stood := { row := declJoinedUptoRow, standIns := [], harness := (true, "815e276be736c1ff42937cf9d64d554ae363195612e775f777c524fa8c5cdd00"), looks := true }, kinds := [], alts := [], laidByText := true, laidKinds := [.data, .listed, .data, .pinned], laidTests := true, laidLooks := .later }
def DeclJoinedUptoCardSaid : Prop := Claim7.holds Tryz.pinned (.plain (OpenSpec.upto declJoinedSpec)) declJoinedUptoCard

/-- THE SECOND FORM's CARD OF 'offsidelaw14.DeclLeaves'. -/
def declLeavesUptoCard : Claim7 := { stood := { row := declLeavesUptoRow, standIns := [], harness := (true, "815e276be736c1ff42937cf9d64d554ae363195612e775f777c524fa8c5cdd00"), looks := true }, kinds := [], alts := [], laidByText := true, laidKinds := [.data, .listed, .data, .pinned], laidTests := true, laidLooks := .later }
def DeclLeavesUptoCardSaid : Prop := Claim7.holds Tryz.pinned (.plain (OpenSpec.upto declLeavesSpec)) declLeavesUptoCard
end Rows
end Go.Proofs.YtpaiiicnhgoijaaGreatDoor
