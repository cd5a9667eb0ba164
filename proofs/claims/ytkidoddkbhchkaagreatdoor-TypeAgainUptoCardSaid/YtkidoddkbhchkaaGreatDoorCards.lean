/-
  DERIVED. GIVEN WITH THE SEED: THE CARDS: each row of YtkidoddkbhchkaaGreatDoorRows.lean that lists a variable, with what it lists TIED to the program's text (the seventh form; the later family's looks); each row that meets fmt, with fmt's text TOLD by the authors' own Lean function (tested against real Go, not proved from fmt's source: count such statements apart). THE CARD IS WHAT COUNTS. Prove the row's statement (the work); the ties are given (YtkidoddkbhchkaaGreatDoorTie.lean); close each card by the builder's one call (the guide's Derived/Test/ToyasCard.lean, 'card_holds'). Laid BY PROGRAM, IN A SANDBOX (cutbox-door.mjs). By AI agents, Wed Nov 11 2026. No macro, syntax, notation, axiom, sorry.
-/
import Derived.Test.YtkidoddkbhchkaaGreatDoorRows
import GoSem.ClaimSeven
namespace Go.Proofs.YtkidoddkbhchkaaGreatDoor
namespace Rows

/-- THE TIED CARD OF 'offsidelaw11.TypeAgain'. -/
def typeAgainCard : Claim7 := { stood := { row := typeAgainRow, standIns := [], harness := (true, "d3764f82cea23fed2183b6e890d276715a1a1cf234cb53a5b44b124954ef9dd2"), looks := true }, kinds := [], alts := [], laidByText := true, laidKinds := [.data, .listed, .data, .pinned], laidTests := true, laidLooks := .later }
def TypeAgainCardSaid : Prop := Claim7.holds Tryz.pinned (.plain (OpenSpec.ofChange typeAgainSpec)) typeAgainCard

/-- THE TIED CARD OF 'offsidelaw13.ExprTexts'. -/
def exprTextsCard : Claim7 := { stood := { row := exprTextsRow, standIns := [], harness := (true, "d3764f82cea23fed2183b6e890d276715a1a1cf234cb53a5b44b124954ef9dd2"), looks := true }, kinds := [], alts := [], laidByText := true, laidKinds := [.data, .listed, .data, .pinned], laidTests := true, laidLooks := .later }
def ExprTextsCardSaid : Prop := Claim7.holds Tryz.pinned (.plain (OpenSpec.ofChange exprTextsSpec)) exprTextsCard

/-- THE TIED CARD OF 'offsidelaw13.ExprDeeper'. -/
def exprDeeperCard : Claim7 := { stood := { row := exprDeeperRow, standIns := [], harness := (true, "d3764f82cea23fed2183b6e890d276715a1a1cf234cb53a5b44b124954ef9dd2"), looks := true }, kinds := [], alts := [], laidByText := true, laidKinds := [.data, .listed, .data, .pinned], laidTests := true, laidLooks := .later }
def ExprDeeperCardSaid : Prop := Claim7.holds Tryz.pinned (.plain (OpenSpec.ofChange exprDeeperSpec)) exprDeeperCard

/-- THE TIED CARD OF 'offsidelaw13.ExprStmts'. -/
def exprStmtsCard : Claim7 := { stood := { row := exprStmtsRow, standIns := [], harness := (true, "d3764f82cea23fed2183b6e890d276715a1a1cf234cb53a5b44b124954ef9dd2"), looks := true }, kinds := [], alts := [], laidByText := true, laidKinds := [.data, .listed, .data, .pinned], laidTests := true, laidLooks := .later }
def ExprStmtsCardSaid : Prop := Claim7.holds Tryz.pinned (.plain (OpenSpec.ofChange exprStmtsSpec)) exprStmtsCard

/-- THE TIED CARD OF 'offsidelaw13.ExprAlts'. -/
def exprAltsCard : Claim7 := { stood := { row := exprAltsRow, standIns := [], harness := (true, "d3764f82cea23fed2183b6e890d276715a1a1cf234cb53a5b44b124954ef9dd2"), looks := true }, kinds := [], alts := [], laidByText := true, laidKinds := [.data, .listed, .data, .pinned], laidTests := true, laidLooks := .later }
def ExprAltsCardSaid : Prop := Claim7.holds Tryz.pinned (.plain (OpenSpec.ofChange exprAltsSpec)) exprAltsCard

/-- THE TIED CARD OF 'offsidelaw13.ExprDecls'. -/
def exprDeclsCard : Claim7 := { stood := { row := exprDeclsRow, standIns := [], harness := (true, "d3764f82cea23fed2183b6e890d276715a1a1cf234cb53a5b44b124954ef9dd2"), looks := true }, kinds := [], alts := [], laidByText := true, laidKinds := [.data, .listed, .data, .pinned], laidTests := true, laidLooks := .later }
def ExprDeclsCardSaid : Prop := Claim7.holds Tryz.pinned (.plain (OpenSpec.ofChange exprDeclsSpec)) exprDeclsCard

/-- THE TIED CARD OF 'offsidelaw13.ExprBlocks'. -/
def exprBlocksCard : Claim7 := { stood := { row := exprBlocksRow, standIns := [], harness := (true, "d3764f82cea23fed2183b6e890d276715a1a1cf234cb53a5b44b124954ef9dd2"), looks := true }, kinds := [], alts := [], laidByText := true, laidKinds := [.data, .listed, .data, .pinned], laidTests := true, laidLooks := .later }
def ExprBlocksCardSaid : Prop := Claim7.holds Tryz.pinned (.plain (OpenSpec.ofChange exprBlocksSpec)) exprBlocksCard

/-- THE TIED CARD OF 'offsidelaw13.ExprBrackets'. -/
def exprBracketsCard : Claim7 := { stood := { row := exprBracketsRow, standIns := [], harness := (true, "d3764f82cea23fed2183b6e890d276715a1a1cf234cb53a5b44b124954ef9dd2"), looks := true }, kinds := [], alts := [], laidByText := true, laidKinds := [.data, .listed, .data, .pinned], laidTests := true, laidLooks := .later }
def ExprBracketsCardSaid : Prop := Claim7.holds Tryz.pinned (.plain (OpenSpec.ofChange exprBracketsSpec)) exprBracketsCard

/-- THE TIED CARD OF 'offsidelaw13.ExprLeaves'. -/
def exprLeavesCard : Claim7 := { stood := { row := exprLeavesRow, standIns := [], harness := (true, "d3764f82cea23fed2183b6e890d276715a1a1cf234cb53a5b44b124954ef9dd2"), looks := true }, kinds := [], alts := [], laidByText := true, laidKinds := [.data, .listed, .data, .pinned], laidTests := true, laidLooks := .later }
def ExprLeavesCardSaid : Prop := Claim7.holds Tryz.pinned (.plain (OpenSpec.ofChange exprLeavesSpec)) exprLeavesCard

/-- THE SECOND FORM's CARD OF 'offsidelaw11.TypeAgain'. -/
def typeAgainUptoCard : Claim7 := { stood := { row := typeAgainUptoRow, standIns := [], harness := (true, "d3764f82cea23fed2183b6e890d276715a1a1cf234cb53a5b44b124954ef9dd2"), looks := true }, kinds := [], alts := [], laidByText := true, laidKinds := [.data, .listed, .data, .pinned], laidTests := true, laidLooks := .later }
def TypeAgainUptoCardSaid : Prop := Claim7.holds Tryz.pinned (.plain (OpenSpec.upto typeAgainSpec)) typeAgainUptoCard

/-- THE SECOND FORM's CARD OF 'offsidelaw13.ExprTexts'. -/
def exprTextsUptoCard : Claim7 := { stood := { row := exprTextsUptoRow, standIns := [], harness := (true, "d3764f82cea23fed2183b6e890d276715a1a1cf234cb53a5b44b124954ef9dd2"), looks := true }, kinds := [], alts := [], laidByText := true, laidKinds := [.data, .listed, .data, .pinned], laidTests := true, laidLooks := .later }
def ExprTextsUptoCardSaid : Prop := Claim7.holds Tryz.pinned (.plain (OpenSpec.upto exprTextsSpec)) exprTextsUptoCard

/-- THE SECOND FORM's CARD OF 'offsidelaw13.ExprDeeper'. -/
def exprDeeperUptoCard : Claim7 := { stood := { row := exprDeeperUptoRow, standIns := [], harness := (true, "d3764f82cea23fed2183b6e890d276715a1a1cf234cb53a5b44b124954ef9dd2"), looks := true }, kinds := [], alts := [], laidByText := true, laidKinds := [.data, .listed, .data, .pinned], laidTests := true, laidLooks := .later }
def ExprDeeperUptoCardSaid : Prop := Claim7.holds Tryz.pinned (.plain (OpenSpec.upto exprDeeperSpec)) exprDeeperUptoCard

/-- THE SECOND FORM's CARD OF 'offsidelaw13.ExprStmts'. -/
def exprStmtsUptoCard : Claim7 := { stood := { row := exprStmtsUptoRow, standIns := [], harness := (true, "d3764f82cea23fed2183b6e890d276715a1a1cf234cb53a5b44b124954ef9dd2"), looks := true }, kinds := [], alts := [], laidByText := true, laidKinds := [.data, .listed, .data, .pinned], laidTests := true, laidLooks := .later }
def ExprStmtsUptoCardSaid : Prop := Claim7.holds Tryz.pinned (.plain (OpenSpec.upto exprStmtsSpec)) exprStmtsUptoCard

/-- THE SECOND FORM's CARD OF 'offsidelaw13.ExprAlts'. -/
def exprAltsUptoCard : Claim7 := { stood := { row := exprAltsUptoRow, standIns := [], harness := (true, "d3764f82cea23fed2183b6e890d276715a1a1cf234cb53a5b44b124954ef9dd2"), looks := true }, kinds := [], alts := [], laidByText := true, laidKinds := [.data, .listed, .data, .pinned], laidTests := true, laidLooks := .later }
def ExprAltsUptoCardSaid : Prop := Claim7.holds Tryz.pinned (.plain (OpenSpec.upto exprAltsSpec)) exprAltsUptoCard

/-- THE SECOND FORM's CARD OF 'offsidelaw13.ExprDecls'. -/
def exprDeclsUptoCard : Claim7 := { stood := { row := exprDeclsUptoRow, standIns := [], harness := (true, "d3764f82cea23fed2183b6e890d276715a1a1cf234cb53a5b44b124954ef9dd2"), looks := true }, kinds := [], alts := [], laidByText := true, laidKinds := [.data, .listed, .data, .pinned], laidTests := true, laidLooks := .later }
def ExprDeclsUptoCardSaid : Prop := Claim7.holds Tryz.pinned (.plain (OpenSpec.upto exprDeclsSpec)) exprDeclsUptoCard

/-- THE SECOND FORM's CARD OF 'offsidelaw13.ExprBlocks'. -/
def exprBlocksUptoCard : Claim7 := { stood := { row := exprBlocksUptoRow, standIns := [], harness := (true, "d3764f82cea23fed2183b6e890d276715a1a1cf234cb53a5b44b124954ef9dd2"), looks := true }, kinds := [], alts := [], laidByText := true, laidKinds := [.data, .listed, .data, .pinned], laidTests := true, laidLooks := .later }
def ExprBlocksUptoCardSaid : Prop := Claim7.holds Tryz.pinned (.plain (OpenSpec.upto exprBlocksSpec)) exprBlocksUptoCard

/-- THE SECOND FORM's CARD OF 'offsidelaw13.ExprBrackets'. -/
def exprBracketsUptoCard : Claim7 := { stood := { row := exprBracketsUptoRow, standIns := [], harness := (true, "d3764f82cea23fed2183b6e890d276715a1a1cf234cb53a5b44b124954ef9dd2"), looks := true }, kinds := [], alts := [], laidByText := true, laidKinds := [.data, .listed, .data, .pinned], laidTests := true, laidLooks := .later }
def ExprBracketsUptoCardSaid : Prop := Claim7.holds Tryz.pinned (.plain (OpenSpec.upto exprBracketsSpec)) exprBracketsUptoCard

/-- THE SECOND FORM's CARD OF 'offsidelaw13.ExprLeaves'. -/
def exprLeavesUptoCard : Claim7 := { stood := { row := exprLeavesUptoRow, standIns := [], harness := (true, "d3764f82cea23fed2183b6e890d276715a1a1cf234cb53a5b44b124954ef9dd2"), looks := true }, kinds := [], alts := [], laidByText := true, laidKinds := [.data, .listed, .data, .pinned], laidTests := true, laidLooks := .later }
def ExprLeavesUptoCardSaid : Prop := Claim7.holds Tryz.pinned (.plain (OpenSpec.upto exprLeavesSpec)) exprLeavesUptoCard
end Rows
end Go.Proofs.YtkidoddkbhchkaaGreatDoor
