/-
  NARROWER THAN 'FOR EVERY INPUT', by the rows' own cells (each row's printed sentence says how): PatternChecks: loops · PatternSides: loops · PatternBrackets: loops · PatternTuples: loops · PatternArguments: loops.
  DERIVED. THE GIVEN ROWS OF THIS SEAT. 5 by the template 'for every input the law returns true; each argument reads behind the call as it read before'; 0 by the template 'total and deterministic' (their statements: YtmhmkpiliejmdaaTotals.lean).
  GIVEN WITH THE SEED: the statements are not yours to turn. If you find one false, say at which input.
  Laid BY PROGRAM, IN A SANDBOX (cutbox-rows.mjs): the forced cells as the released guide's own fill.sh prints them over the translation c2836ba8e377983d… (all of the seat's roots in one cut). By AI agents, Wed Nov 11 2026. No macro, syntax, notation, axiom, sorry.
-/
import Derived.Test.YtmhmkpiliejmdaaChecked
import GoSem.Claim
import GoSem.ClaimJoined
import GoSem.ClaimMapViews
import Derived.JoinedTies
import Derived.KernelRfl
namespace Go.Proofs.Ytmhmkpiliejmdaa
/- THE CELL 'sum', in the pinned program and in every row, IS THE sha256 OF THE DUMP (.gsa) THAT YtmhmkpiliejmdaaProg.lean LOADS. Nothing in Lean hashes anything: it is a label: what it is worth is what the hold of that sum in a sandbox is worth. -/
noncomputable def Try.pinned : Pinned := { name := "ytmhmkpiliejmdaa", sum := "c2836ba8e377983d5963fcd61f7156870e51120d1d7b992a3f565d71efbfd5e7", checked := Try.checked }
namespace Rows
def none {H : Type} : Left H := { results := [], args := [] }

/-- 'offsidelaw12.PatternChecks': WHATEVER THE INPUT: true; the input reads as it did. -/
def patternChecksSpec : ChangeSpec := { name := "patternChecks", fn := fun _ => fun
  | [d] => { results := [.lit (.bool true)], args := [d] }
  | _ => none }
def patternChecksRow : OpenClaim := { program := "ytmhmkpiliejmdaa", sum := "c2836ba8e377983d5963fcd61f7156870e51120d1d7b992a3f565d71efbfd5e7", func := "offside/offsidelaw12.PatternChecks", spec := "patternChecks", unfollowed := true, recurses := true, loops := true, apart := false }
def PatternChecksSaid : Prop := patternChecksRow.holds Try.pinned (OpenSpec.ofChange patternChecksSpec)

/-- ITS FALSE NEIGHBOUR: 'it returns false'. Refute it at one input. -/
def patternChecksWrong : ChangeSpec := { name := "patternChecks", fn := fun _ => fun
  | [d] => { results := [.lit (.bool false)], args := [d] }
  | _ => none }
def PatternChecksWrongFalsely : Prop := patternChecksRow.holds Try.pinned (OpenSpec.ofChange patternChecksWrong)

/-- 'offsidelaw12.PatternSides': WHATEVER THE INPUT: true; the input reads as it did. -/
def patternSidesSpec : ChangeSpec := { name := "patternSides", fn := fun _ => fun
  | [d] => { results := [.lit (.bool true)], args := [d] }
  | _ => none }
def patternSidesRow : OpenClaim := { program := "ytmhmkpiliejmdaa", sum := "c2836ba8e377983d5963fcd61f7156870e51120d1d7b992a3f565d71efbfd5e7", func := "offside/offsidelaw12.PatternSides", spec := "patternSides", unfollowed := true, recurses := true, loops := true, apart := false }
def PatternSidesSaid : Prop := patternSidesRow.holds Try.pinned (OpenSpec.ofChange patternSidesSpec)

/-- ITS FALSE NEIGHBOUR: 'it returns false'. Refute it at one input. -/
def patternSidesWrong : ChangeSpec := { name := "patternSides", fn := fun _ => fun
  | [d] => { results := [.lit (.bool false)], args := [d] }
  | _ => none }
def PatternSidesWrongFalsely : Prop := patternSidesRow.holds Try.pinned (OpenSpec.ofChange patternSidesWrong)

/-- 'offsidelaw12.PatternBrackets': WHATEVER THE INPUT: true; the input reads as it did. -/
def patternBracketsSpec : ChangeSpec := { name := "patternBrackets", fn := fun _ => fun
  | [d] => { results := [.lit (.bool true)], args := [d] }
  | _ => none }
def patternBracketsRow : OpenClaim := { program := "ytmhmkpiliejmdaa", sum := "c2836ba8e377983d5963fcd61f7156870e51120d1d7b992a3f565d71efbfd5e7", func := "offside/offsidelaw12.PatternBrackets", spec := "patternBrackets", unfollowed := true, recurses := true, loops := true, apart := false }
def PatternBracketsSaid : Prop := patternBracketsRow.holds Try.pinned (OpenSpec.ofChange patternBracketsSpec)

/-- ITS FALSE NEIGHBOUR: 'it returns false'. Refute it at one input. -/
def patternBracketsWrong : ChangeSpec := { name := "patternBrackets", fn := fun _ => fun
  | [d] => { results := [.lit (.bool false)], args := [d] }
  | _ => none }
def PatternBracketsWrongFalsely : Prop := patternBracketsRow.holds Try.pinned (OpenSpec.ofChange patternBracketsWrong)

/-- 'offsidelaw12.PatternTuples': WHATEVER THE INPUT: true; the input reads as it did. -/
def patternTuplesSpec : ChangeSpec := { name := "patternTuples", fn := fun _ => fun
  | [d] => { results := [.lit (.bool true)], args := [d] }
  | _ => none }
def patternTuplesRow : OpenClaim := { program := "ytmhmkpiliejmdaa", sum := "c2836ba8e377983d5963fcd61f7156870e51120d1d7b992a3f565d71efbfd5e7", func := "offside/offsidelaw12.PatternTuples", spec := "patternTuples", unfollowed := true, recurses := true, loops := true, apart := false }
def PatternTuplesSaid : Prop := patternTuplesRow.holds Try.pinned (OpenSpec.ofChange patternTuplesSpec)

/-- ITS FALSE NEIGHBOUR: 'it returns false'. Refute it at one input. -/
def patternTuplesWrong : ChangeSpec := { name := "patternTuples", fn := fun _ => fun
  | [d] => { results := [.lit (.bool false)], args := [d] }
  | _ => none }
def PatternTuplesWrongFalsely : Prop := patternTuplesRow.holds Try.pinned (OpenSpec.ofChange patternTuplesWrong)

/-- 'offsidelaw12.PatternArguments': WHATEVER THE INPUT: true; the input reads as it did. -/
def patternArgumentsSpec : ChangeSpec := { name := "patternArguments", fn := fun _ => fun
  | [d1, d2] => { results := [.lit (.bool true)], args := [d1, d2] }
  | _ => none }
def patternArgumentsRow : OpenClaim := { program := "ytmhmkpiliejmdaa", sum := "c2836ba8e377983d5963fcd61f7156870e51120d1d7b992a3f565d71efbfd5e7", func := "offside/offsidelaw12.PatternArguments", spec := "patternArguments", unfollowed := true, recurses := true, loops := true, apart := false }
def PatternArgumentsSaid : Prop := patternArgumentsRow.holds Try.pinned (OpenSpec.ofChange patternArgumentsSpec)

/-- ITS FALSE NEIGHBOUR: 'it returns false'. Refute it at one input. -/
def patternArgumentsWrong : ChangeSpec := { name := "patternArguments", fn := fun _ => fun
  | [d1, d2] => { results := [.lit (.bool false)], args := [d1, d2] }
  | _ => none }
def PatternArgumentsWrongFalsely : Prop := patternArgumentsRow.holds Try.pinned (OpenSpec.ofChange patternArgumentsWrong)

/- THE SECOND FORM. 'bulk': how many values and letters a reading holds, each counted each time it is reached (what is shared counts as often as it is met; a slice's spare places count too). A statement '..UptoSaid' is the law's where the arguments, and the package variables that the reading takes, are together of bulk at most 1048576: NARROWER than '..Said'. Prove '..Said' where nothing that the law and all that it calls make is longer than what came in: it says more and counts as full. Else prove '..UptoSaid'. A law counts once. -/
mutual
def uptoBulk {H : Type} : DataW H → Nat
  | .lit (.string bytes) => bytes.length + 1
  | .lit _ => 1
  | .nil => 1
  | .ptr d => uptoBulk d + 1
  | .slice elems spare => uptoBulkAll elems + uptoBulkAll spare + 1
  | .agg parts => uptoBulkAll parts + 1
  | .iface _ d => uptoBulk d + 1
  | .map entries => uptoBulkEntries entries + 1
  | .held _ => 1
def uptoBulkAll {H : Type} : List (DataW H) → Nat
  | [] => 0
  | d :: r => uptoBulk d + uptoBulkAll r
def uptoBulkEntries {H : Type} : List (Lit × DataW H) → Nat
  | [] => 0
  | x :: r => uptoBulkEntry x + uptoBulkEntries r
def uptoBulkEntry {H : Type} : Lit × DataW H → Nat
  | (.string bytes, d) => bytes.length + uptoBulk d + 1
  | (_, d) => uptoBulk d + 1
 end
def uptoSmall : (H : Type) → List (DataW H) → Bool := fun _ ds => decide (uptoBulkAll ds ≤ 1048576)
def OpenSpec.upto (s : _root_.Go.ChangeSpec) : _root_.Go.OpenSpec := { _root_.Go.OpenSpec.ofChange s with cond := some uptoSmall }

/-- 'offsidelaw12.PatternChecks', WHERE WHAT IT READS IS OF BULK AT MOST 1048576: true; the input reads as it did. -/
def patternChecksUptoRow : OpenClaim := { program := "ytmhmkpiliejmdaa", sum := "c2836ba8e377983d5963fcd61f7156870e51120d1d7b992a3f565d71efbfd5e7", func := "offside/offsidelaw12.PatternChecks", spec := "patternChecks", unfollowed := true, recurses := true, loops := true, apart := false, narrowed := true }
def PatternChecksUptoSaid : Prop := patternChecksUptoRow.holds Try.pinned (OpenSpec.upto patternChecksSpec)

/-- 'offsidelaw12.PatternSides', WHERE WHAT IT READS IS OF BULK AT MOST 1048576: true; the input reads as it did. -/
def patternSidesUptoRow : OpenClaim := { program := "ytmhmkpiliejmdaa", sum := "c2836ba8e377983d5963fcd61f7156870e51120d1d7b992a3f565d71efbfd5e7", func := "offside/offsidelaw12.PatternSides", spec := "patternSides", unfollowed := true, recurses := true, loops := true, apart := false, narrowed := true }
def PatternSidesUptoSaid : Prop := patternSidesUptoRow.holds Try.pinned (OpenSpec.upto patternSidesSpec)

/-- 'offsidelaw12.PatternBrackets', WHERE WHAT IT READS IS OF BULK AT MOST 1048576: true; the input reads as it did. -/
def patternBracketsUptoRow : OpenClaim := { program := "ytmhmkpiliejmdaa", sum := "c2836ba8e377983d5963fcd61f7156870e51120d1d7b992a3f565d71efbfd5e7", func := "offside/offsidelaw12.PatternBrackets", spec := "patternBrackets", unfollowed := true, recurses := true, loops := true, apart := false, narrowed := true }
def PatternBracketsUptoSaid : Prop := patternBracketsUptoRow.holds Try.pinned (OpenSpec.upto patternBracketsSpec)

/-- 'offsidelaw12.PatternTuples', WHERE WHAT IT READS IS OF BULK AT MOST 1048576: true; the input reads as it did. -/
def patternTuplesUptoRow : OpenClaim := { program := "ytmhmkpiliejmdaa", sum := "c2836ba8e377983d5963fcd61f7156870e51120d1d7b992a3f565d71efbfd5e7", func := "offside/offsidelaw12.PatternTuples", spec := "patternTuples", unfollowed := true, recurses := true, loops := true, apart := false, narrowed := true }
def PatternTuplesUptoSaid : Prop := patternTuplesUptoRow.holds Try.pinned (OpenSpec.upto patternTuplesSpec)

/-- 'offsidelaw12.PatternArguments', WHERE WHAT IT READS IS OF BULK AT MOST 1048576: true; the input reads as it did. -/
def patternArgumentsUptoRow : OpenClaim := { program := "ytmhmkpiliejmdaa", sum := "c2836ba8e377983d5963fcd61f7156870e51120d1d7b992a3f565d71efbfd5e7", func := "offside/offsidelaw12.PatternArguments", spec := "patternArguments", unfollowed := true, recurses := true, loops := true, apart := false, narrowed := true }
def PatternArgumentsUptoSaid : Prop := patternArgumentsUptoRow.holds Try.pinned (OpenSpec.upto patternArgumentsSpec)

end Rows
end Go.Proofs.Ytmhmkpiliejmdaa
