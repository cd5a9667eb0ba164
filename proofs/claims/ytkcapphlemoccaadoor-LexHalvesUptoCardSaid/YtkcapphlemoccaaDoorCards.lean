/-
  DERIVED. GIVEN WITH THE SEED: THE CARDS: each row of YtkcapphlemoccaaDoorRows.lean that lists a variable, with what it lists TIED to the program's text (the seventh form; the later family's looks); each row that meets fmt, with fmt's text TOLD by the authors' own Lean function (tested against real Go, not proved from fmt's source: count such statements apart). THE CARD IS WHAT COUNTS. Prove the row's statement (the work); the ties are given (YtkcapphlemoccaaDoorTie.lean); close each card by the builder's one call (the guide's Derived/Test/ToyasCard.lean, 'card_holds'). Laid BY PROGRAM, IN A SANDBOX (cutbox-door.mjs). By AI agents, Wed Nov 11 2026. No macro, syntax, notation, axiom, sorry.
-/
import Derived.Test.YtkcapphlemoccaaDoorRows
import GoSem.ClaimSeven
namespace Go.Proofs.YtkcapphlemoccaaDoor
namespace Rows

/-- THE TIED CARD OF 'offsidelaw07.LexHalves'. -/
def lexHalvesCard : Claim7 := { stood := { row := lexHalvesRow, standIns := [], harness := (true, "1de2cd9caaf36c494b900aaaa5c2f874bb1030f6d742e28800cee6817f690bd5"), looks := true }, kinds := [], alts := [], laidByText := true, laidKinds := [.data, .listed, .data, .pinned], laidTests := true, laidLooks := .later }
def LexHalvesCardSaid : Prop := Claim7.holds Tryd.pinned (.plain (OpenSpec.ofChange lexHalvesSpec)) lexHalvesCard

/-- THE TIED CARD OF 'offsidelaw07.LexRises'. -/
def lexRisesCard : Claim7 := { stood := { row := lexRisesRow, standIns := [], harness := (true, "1de2cd9caaf36c494b900aaaa5c2f874bb1030f6d742e28800cee6817f690bd5"), looks := true }, kinds := [], alts := [], laidByText := true, laidKinds := [.data, .listed, .data, .pinned], laidTests := true, laidLooks := .later }
def LexRisesCardSaid : Prop := Claim7.holds Tryd.pinned (.plain (OpenSpec.ofChange lexRisesSpec)) lexRisesCard

/-- THE SECOND FORM's CARD OF 'offsidelaw07.LexHalves'. -/
def lexHalvesUptoCard : Claim7 := { stood := { row := lexHalvesUptoRow, standIns := [], harness := (true, "1de2cd9caaf36c494b900aaaa5c2f874bb1030f6d742e28800cee6817f690bd5"), looks := true }, kinds := [], alts := [], laidByText := true, laidKinds := [.data, .listed, .data, .pinned], laidTests := true, laidLooks := .later }
def LexHalvesUptoCardSaid : Prop := Claim7.holds Tryd.pinned (.plain (OpenSpec.upto lexHalvesSpec)) lexHalvesUptoCard

/-- THE SECOND FORM's CARD OF 'offsidelaw07.LexRises'. -/
def lexRisesUptoCard : Claim7 := { stood := { row := lexRisesUptoRow, standIns := [], harness := (true, "1de2cd9caaf36c494b900aaaa5c2f874bb1030f6d742e28800cee6817f690bd5"), looks := true }, kinds := [], alts := [], laidByText := true, laidKinds := [.data, .listed, .data, .pinned], laidTests := true, laidLooks := .later }
def LexRisesUptoCardSaid : Prop := Claim7.holds Tryd.pinned (.plain (OpenSpec.upto lexRisesSpec)) lexRisesUptoCard
end Rows
end Go.Proofs.YtkcapphlemoccaaDoor
