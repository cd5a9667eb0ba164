/-
  THE ROWS TIED TO THE PROGRAM'S TEXT: small facts.
-/
import Derived.Test.YtpkekfapphbgjaaGreatDoorRows
import Derived.LaidByTextLater
import Derived.SevenTiedAt
import Derived.LaidSub
import Derived.LaidOnce
namespace Go.Proofs.YtpkekfapphbgjaaGreatDoor
open Go
set_option maxRecDepth 100000
noncomputable def tie1l : List (String × DataW Unit) := [("unicode/utf8.acceptRanges", Rows.laid_unicode_utf8_acceptRanges), ("strings.asciiSpace", Rows.laid_strings_asciiSpace), ("unicode.White_Space", Rows.laid_unicode_White_Space)]
theorem tie1lk : tie1l.map (fun x => Tryz.prog.kindOfLater x.1) = ([.data, .data, .listed] : List LaidKind).map some := by kernel_rfl
theorem tie1ln : varsNamedLaterB Tryz.prog (varsId Tryz.prog) tie1l = true := by kernel_rfl
noncomputable def tie2l : List (String × DataW Unit) := [("unicode/utf8.acceptRanges", Rows.laid_unicode_utf8_acceptRanges), ("strings.asciiSpace", Rows.laid_strings_asciiSpace), ("unicode.White_Space", Rows.laid_unicode_White_Space), ("errors.errorType", Rows.laid_errors_errorType)]
theorem tie2lk : tie2l.map (fun x => Tryz.prog.kindOfLater x.1) = ([.data, .data, .listed, .handle] : List LaidKind).map some := by kernel_rfl
theorem tie2ln : varsNamedLaterB Tryz.prog (varsId Tryz.prog) tie2l = true := by kernel_rfl
theorem tieW1 : Tryz.prog.worded (varsWordLater true) = true := by kernel_rfl
theorem tieW2 : Tryz.prog.worded (varsWordLater !true) = false := by kernel_rfl
theorem tieW3 : Tryz.prog.worded rootWordLater = true := by kernel_rfl
theorem tieW5 : (Tryz.prog.funcNamed "gosem.cut.vars").isSome = true := by kernel_rfl
end Go.Proofs.YtpkekfapphbgjaaGreatDoor
