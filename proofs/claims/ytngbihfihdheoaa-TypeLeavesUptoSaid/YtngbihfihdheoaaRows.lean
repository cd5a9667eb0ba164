/-
  No cell of these rows narrows 'for every input' (looked for: loops, veiled, ifaces, maps, wideKeys, modest, calm, conditions, laid).
  DERIVED. THE GIVEN ROWS OF THIS SEAT. 6 by the template 'for every input the law returns true; each argument reads behind the call as it read before'; 0 by the template 'total and deterministic' (their statements: YtngbihfihdheoaaTotals.lean).
  GIVEN WITH THE SEED: the statements are not yours to turn. If you find one false, say at which input.
  Laid BY PROGRAM, IN A SANDBOX (cutbox-rows.mjs): the forced cells as the released guide's own fill.sh prints them over the translation 7d70527d73b669c0… (all of the seat's roots in one cut). By AI agents, Wed Nov 11 2026. No macro, syntax, notation, axiom, sorry.
-/
import Derived.Test.YtngbihfihdheoaaChecked
import GoSem.Claim
import GoSem.ClaimJoined
import GoSem.ClaimMapViews
import Derived.JoinedTies
import Derived.KernelRfl
namespace Go.Proofs.Ytngbihfihdheoaa
/- THE CELL 'sum', in the pinned program and in every row, IS THE sha256 OF THE DUMP (.gsa) THAT YtngbihfihdheoaaProg.lean LOADS. Nothing in Lean hashes anything: it is a label: what it is worth is what the hold of that sum in a sandbox is worth. -/
noncomputable def Try.pinned : Pinned := { name := "ytngbihfihdheoaa", sum := "7d70527d73b669c0e74b53b4afa2b69ebc16357cc2dbeaf402fa0302147bc9c9", checked := Try.checked }
namespace Rows
def none {H : Type} : Left H := { results := [], args := [] }

/-- 'offsidelaw11.TypeTypes': WHATEVER THE INPUT: true; the input reads as it did. -/
def typeTypesSpec : ChangeSpec := { name := "typeTypes", fn := fun _ => fun
  | [d1, d2] => { results := [.lit (.bool true)], args := [d1, d2] }
  | _ => none }
def typeTypesRow : OpenClaim := { program := "ytngbihfihdheoaa", sum := "7d70527d73b669c0e74b53b4afa2b69ebc16357cc2dbeaf402fa0302147bc9c9", func := "offside/offsidelaw11.TypeTypes", spec := "typeTypes", unfollowed := true, recurses := true, apart := false }
def TypeTypesSaid : Prop := typeTypesRow.holds Try.pinned (OpenSpec.ofChange typeTypesSpec)

/-- ITS FALSE NEIGHBOUR: 'it returns false'. Refute it at one input. -/
def typeTypesWrong : ChangeSpec := { name := "typeTypes", fn := fun _ => fun
  | [d1, d2] => { results := [.lit (.bool false)], args := [d1, d2] }
  | _ => none }
def TypeTypesWrongFalsely : Prop := typeTypesRow.holds Try.pinned (OpenSpec.ofChange typeTypesWrong)

/-- 'offsidelaw11.TypeFulls': WHATEVER THE INPUT: true; the input reads as it did. -/
def typeFullsSpec : ChangeSpec := { name := "typeFulls", fn := fun _ => fun
  | [d1, d2] => { results := [.lit (.bool true)], args := [d1, d2] }
  | _ => none }
def typeFullsRow : OpenClaim := { program := "ytngbihfihdheoaa", sum := "7d70527d73b669c0e74b53b4afa2b69ebc16357cc2dbeaf402fa0302147bc9c9", func := "offside/offsidelaw11.TypeFulls", spec := "typeFulls", unfollowed := true, recurses := true, apart := false }
def TypeFullsSaid : Prop := typeFullsRow.holds Try.pinned (OpenSpec.ofChange typeFullsSpec)

/-- ITS FALSE NEIGHBOUR: 'it returns false'. Refute it at one input. -/
def typeFullsWrong : ChangeSpec := { name := "typeFulls", fn := fun _ => fun
  | [d1, d2] => { results := [.lit (.bool false)], args := [d1, d2] }
  | _ => none }
def TypeFullsWrongFalsely : Prop := typeFullsRow.holds Try.pinned (OpenSpec.ofChange typeFullsWrong)

/-- 'offsidelaw11.TypeDeeper': WHATEVER THE INPUT: true; the input reads as it did. -/
def typeDeeperSpec : ChangeSpec := { name := "typeDeeper", fn := fun _ => fun
  | [d1, d2, d3] => { results := [.lit (.bool true)], args := [d1, d2, d3] }
  | _ => none }
def typeDeeperRow : OpenClaim := { program := "ytngbihfihdheoaa", sum := "7d70527d73b669c0e74b53b4afa2b69ebc16357cc2dbeaf402fa0302147bc9c9", func := "offside/offsidelaw11.TypeDeeper", spec := "typeDeeper", unfollowed := true, recurses := true, apart := false }
def TypeDeeperSaid : Prop := typeDeeperRow.holds Try.pinned (OpenSpec.ofChange typeDeeperSpec)

/-- ITS FALSE NEIGHBOUR: 'it returns false'. Refute it at one input. -/
def typeDeeperWrong : ChangeSpec := { name := "typeDeeper", fn := fun _ => fun
  | [d1, d2, d3] => { results := [.lit (.bool false)], args := [d1, d2, d3] }
  | _ => none }
def TypeDeeperWrongFalsely : Prop := typeDeeperRow.holds Try.pinned (OpenSpec.ofChange typeDeeperWrong)

/-- 'offsidelaw11.TypeAtoms': WHATEVER THE INPUT: true; the input reads as it did. -/
def typeAtomsSpec : ChangeSpec := { name := "typeAtoms", fn := fun _ => fun
  | [d1, d2] => { results := [.lit (.bool true)], args := [d1, d2] }
  | _ => none }
def typeAtomsRow : OpenClaim := { program := "ytngbihfihdheoaa", sum := "7d70527d73b669c0e74b53b4afa2b69ebc16357cc2dbeaf402fa0302147bc9c9", func := "offside/offsidelaw11.TypeAtoms", spec := "typeAtoms", unfollowed := true, recurses := true, apart := false }
def TypeAtomsSaid : Prop := typeAtomsRow.holds Try.pinned (OpenSpec.ofChange typeAtomsSpec)

/-- ITS FALSE NEIGHBOUR: 'it returns false'. Refute it at one input. -/
def typeAtomsWrong : ChangeSpec := { name := "typeAtoms", fn := fun _ => fun
  | [d1, d2] => { results := [.lit (.bool false)], args := [d1, d2] }
  | _ => none }
def TypeAtomsWrongFalsely : Prop := typeAtomsRow.holds Try.pinned (OpenSpec.ofChange typeAtomsWrong)

/-- 'offsidelaw11.TypeRows': WHATEVER THE INPUT: true; the input reads as it did. -/
def typeRowsSpec : ChangeSpec := { name := "typeRows", fn := fun _ => fun
  | [d1, d2] => { results := [.lit (.bool true)], args := [d1, d2] }
  | _ => none }
def typeRowsRow : OpenClaim := { program := "ytngbihfihdheoaa", sum := "7d70527d73b669c0e74b53b4afa2b69ebc16357cc2dbeaf402fa0302147bc9c9", func := "offside/offsidelaw11.TypeRows", spec := "typeRows", unfollowed := true, recurses := true, apart := false }
def TypeRowsSaid : Prop := typeRowsRow.holds Try.pinned (OpenSpec.ofChange typeRowsSpec)

/-- ITS FALSE NEIGHBOUR: 'it returns false'. Refute it at one input. -/
def typeRowsWrong : ChangeSpec := { name := "typeRows", fn := fun _ => fun
  | [d1, d2] => { results := [.lit (.bool false)], args := [d1, d2] }
  | _ => none }
def TypeRowsWrongFalsely : Prop := typeRowsRow.holds Try.pinned (OpenSpec.ofChange typeRowsWrong)

/-- 'offsidelaw11.TypeLeaves': WHATEVER THE INPUT: true; the input reads as it did. -/
def typeLeavesSpec : ChangeSpec := { name := "typeLeaves", fn := fun _ => fun
  | [d1, d2] => { results := [.lit (.bool true)], args := [d1, d2] }
  | _ => none }
def typeLeavesRow : OpenClaim := { program := "ytngbihfihdheoaa", sum := "7d70527d73b669c0e74b53b4afa2b69ebc16357cc2dbeaf402fa0302147bc9c9", func := "offside/offsidelaw11.TypeLeaves", spec := "typeLeaves", unfollowed := true, recurses := true, apart := false }
def TypeLeavesSaid : Prop := typeLeavesRow.holds Try.pinned (OpenSpec.ofChange typeLeavesSpec)

/-- ITS FALSE NEIGHBOUR: 'it returns false'. Refute it at one input. -/
def typeLeavesWrong : ChangeSpec := { name := "typeLeaves", fn := fun _ => fun
  | [d1, d2] => { results := [.lit (.bool false)], args := [d1, d2] }
  | _ => none }
def TypeLeavesWrongFalsely : Prop := typeLeavesRow.holds Try.pinned (OpenSpec.ofChange typeLeavesWrong)

/- THE SECOND FORM. 'bulk': how many values and letters a reading holds, each counted each time it is reached (what is shared counts as often as it is met; a slice's spare places count too). A statement '..UptoSaid' is the law's where the arguments, and the package variables that the reading takes, are together of bulk at most 1048576: NARROWER than '..Said'. Prove '..Said' where nothing that the law and all that it calls make is longer than what came in: it says more and counts as full. Else prove '..UptoSaid'. A law counts once. -/
mutual
def uptoBulk {H : Type} : DataW H → Nat
  | .lit (.string bytes) => bytes.length + 1
  | .lit _ => 1
  | .nil => 1
  | .ptr d => uptoBulk d + 1
  | .slice elems spare => uptoBulkAll elems + uptoBulkAll spare + 1
  | .agg parts => uptoBulkAll parts + 1
  | .iface _ d => uptoBulk d + 1
  | .map entries => uptoBulkEntries entries + 1
  | .held _ => 1
def uptoBulkAll {H : Type} : List (DataW H) → Nat
  | [] => 0
  | d :: r => uptoBulk d + uptoBulkAll r
def uptoBulkEntries {H : Type} : List (Lit × DataW H) → Nat
  | [] => 0
  | x :: r => uptoBulkEntry x + uptoBulkEntries r
def uptoBulkEntry {H : Type} : Lit × DataW H → Nat
  | (.string bytes, d) => bytes.length + uptoBulk d + 1
  | (_, d) => uptoBulk d + 1
 end
def uptoSmall : (H : Type) → List (DataW H) → Bool := fun _ ds => decide (uptoBulkAll ds ≤ 1048576)
def OpenSpec.upto (s : _root_.Go.ChangeSpec) : _root_.Go.OpenSpec := { _root_.Go.OpenSpec.ofChange s with cond := some uptoSmall }

/-- 'offsidelaw11.TypeTypes', WHERE WHAT IT READS IS OF BULK AT MOST 1048576: true; the input reads as it did. -/
def typeTypesUptoRow : OpenClaim := { program := "ytngbihfihdheoaa", sum := "7d70527d73b669c0e74b53b4afa2b69ebc16357cc2dbeaf402fa0302147bc9c9", func := "offside/offsidelaw11.TypeTypes", spec := "typeTypes", unfollowed := true, recurses := true, apart := false, narrowed := true }
def TypeTypesUptoSaid : Prop := typeTypesUptoRow.holds Try.pinned (OpenSpec.upto typeTypesSpec)

/-- 'offsidelaw11.TypeFulls', WHERE WHAT IT READS IS OF BULK AT MOST 1048576: true; the input reads as it did. -/
def typeFullsUptoRow : OpenClaim := { program := "ytngbihfihdheoaa", sum := "7d70527d73b669c0e74b53b4afa2b69ebc16357cc2dbeaf402fa0302147bc9c9", func := "offside/offsidelaw11.TypeFulls", spec := "typeFulls", unfollowed := true, recurses := true, apart := false, narrowed := true }
def TypeFullsUptoSaid : Prop := typeFullsUptoRow.holds Try.pinned (OpenSpec.upto typeFullsSpec)

/-- 'offsidelaw11.TypeDeeper', WHERE WHAT IT READS IS OF BULK AT MOST 1048576: true; the input reads as it did. -/
def typeDeeperUptoRow : OpenClaim := { program := "ytngbihfihdheoaa", sum := "7d70527d73b669c0e74b53b4afa2b69ebc16357cc2dbeaf402fa0302147bc9c9", func := "offside/offsidelaw11.TypeDeeper", spec := "typeDeeper", unfollowed := true, recurses := true, apart := false, narrowed := true }
def TypeDeeperUptoSaid : Prop := typeDeeperUptoRow.holds Try.pinned (OpenSpec.upto typeDeeperSpec)

/-- 'offsidelaw11.TypeAtoms', WHERE WHAT IT READS IS OF BULK AT MOST 1048576: true; the input reads as it did. -/
def typeAtomsUptoRow : OpenClaim := { program := "ytngbihfihdheoaa", sum := "7d70527d73b669c0e74b53b4afa2b69ebc16357cc2dbeaf402fa0302147bc9c9", func := "offside/offsidelaw11.TypeAtoms", spec := "typeAtoms", unfollowed := true, recurses := true, apart := false, narrowed := true }
def TypeAtomsUptoSaid : Prop := typeAtomsUptoRow.holds Try.pinned (OpenSpec.upto typeAtomsSpec)

/-- 'offsidelaw11.TypeRows', WHERE WHAT IT READS IS OF BULK AT MOST 1048576: true; the input reads as it did. -/
def typeRowsUptoRow : OpenClaim := { program := "ytngbihfihdheoaa", sum := "7d70527d73b669c0e74b53b4afa2b69ebc16357cc2dbeaf402fa0302147bc9c9", func := "offside/offsidelaw11.TypeRows", spec := "typeRows", unfollowed := true, recurses := true, apart := false, narrowed := true }
def TypeRowsUptoSaid : Prop := typeRowsUptoRow.holds Try.pinned (OpenSpec.upto typeRowsSpec)

/-- 'offsidelaw11.TypeLeaves', WHERE WHAT IT READS IS OF BULK AT MOST 1048576: true; the input reads as it did. -/
def typeLeavesUptoRow : OpenClaim := { program := "ytngbihfihdheoaa", sum := "7d70527d73b669c0e74b53b4afa2b69ebc16357cc2dbeaf402fa0302147bc9c9", func := "offside/offsidelaw11.TypeLeaves", spec := "typeLeaves", unfollowed := true, recurses := true, apart := false, narrowed := true }
def TypeLeavesUptoSaid : Prop := typeLeavesUptoRow.holds Try.pinned (OpenSpec.upto typeLeavesSpec)

end Rows
end Go.Proofs.Ytngbihfihdheoaa
