/-
  NARROWER THAN 'FOR EVERY INPUT', by the rows' own cells (each row's printed sentence says how): ModuleHeaders: laid · ModuleLeaves: laid · BracesExplicits: loops, laid · BracesBraced: loops, laid · BracesRead: laid · BracesAgain: laid · BracesAlike: loops, laid · ScopeResolves: loops, laid · ScopeTexts: laid · ScopeStays: loops, laid · ScopeParts: loops, laid · ScopeLeaves: loops, laid.
  DERIVED. THE GIVEN ROWS OF THIS SEAT. 12 by the template 'for every input the law returns true; each argument reads behind the call as it read before'; 0 by the template 'total and deterministic' (their statements: YtpkekfapphbgjaaGreatDoorTotals.lean).
  GIVEN WITH THE SEED: the statements are not yours to turn. If you find one false, say at which input.
  Laid BY PROGRAM, IN A SANDBOX (cutbox-rows.mjs): the forced cells as the released guide's own fill.sh prints them over the translation 724d519ebc66e8b7… (all of the seat's roots in one cut). By AI agents, Wed Nov 11 2026. No macro, syntax, notation, axiom, sorry.
-/
import Derived.Test.YtpkekfapphbgjaaGreatDoorChecked
import GoSem.PinnedTables
import GoSem.Claim
import GoSem.ClaimJoined
import GoSem.ClaimMapViews
import Derived.JoinedTies
import Derived.KernelRfl
namespace Go.Proofs.YtpkekfapphbgjaaGreatDoor
/- THE CELL 'sum', in the pinned program and in every row, IS THE sha256 OF THE DUMP (.gsa) THAT YtpkekfapphbgjaaGreatDoorProg.lean LOADS. Nothing in Lean hashes anything: it is a label: what it is worth is what the hold of that sum in a sandbox is worth. -/
noncomputable def Tryz.pinned : Pinned := { name := "ytpkekfapphbgjaagreatdoor", sum := "724d519ebc66e8b762233c97261c0e59577301148b59f48b9917f8e2c2e68764", checked := Tryz.checked }
namespace Rows
def none {H : Type} : Left H := { results := [], args := [] }

/- WHAT THE LISTED PACKAGE-LEVEL VARIABLES READ AS WHEN THE CALL BEGINS. Each datum BY PROGRAM (the guide's laid-datum.mjs) off the statement by which the dump's own 'gosem.cut.vars' lays the variable. In a bare row this is a premise. The card (YtpkekfapphbgjaaGreatDoorCards.lean) ties it to the program's text. -/
/-- One of Go's own tables, pinned by name: the form's constant. -/
def laid_unicode_utf8_first : DataW Unit := Go.Pinned.utf8First
def laid_unicode_utf8_acceptRanges {H : Type} : DataW H := .agg [.agg [.lit (.int .u8 128), .lit (.int .u8 191)], .agg [.lit (.int .u8 160), .lit (.int .u8 191)], .agg [.lit (.int .u8 128), .lit (.int .u8 159)], .agg [.lit (.int .u8 144), .lit (.int .u8 191)], .agg [.lit (.int .u8 128), .lit (.int .u8 143)], .agg [.lit (.int .u8 0), .lit (.int .u8 0)], .agg [.lit (.int .u8 0), .lit (.int .u8 0)], .agg [.lit (.int .u8 0), .lit (.int .u8 0)], .agg [.lit (.int .u8 0), .lit (.int .u8 0)], .agg [.lit (.int .u8 0), .lit (.int .u8 0)], .agg [.lit (.int .u8 0), .lit (.int .u8 0)], .agg [.lit (.int .u8 0), .lit (.int .u8 0)], .agg [.lit (.int .u8 0), .lit (.int .u8 0)], .agg [.lit (.int .u8 0), .lit (.int .u8 0)], .agg [.lit (.int .u8 0), .lit (.int .u8 0)], .agg [.lit (.int .u8 0), .lit (.int .u8 0)]]
def laid_strings_asciiSpace {H : Type} : DataW H := .agg [.lit (.int .u8 0), .lit (.int .u8 0), .lit (.int .u8 0), .lit (.int .u8 0), .lit (.int .u8 0), .lit (.int .u8 0), .lit (.int .u8 0), .lit (.int .u8 0), .lit (.int .u8 0), .lit (.int .u8 1), .lit (.int .u8 1), .lit (.int .u8 1), .lit (.int .u8 1), .lit (.int .u8 1), .lit (.int .u8 0), .lit (.int .u8 0), .lit (.int .u8 0), .lit (.int .u8 0), .lit (.int .u8 0), .lit (.int .u8 0), .lit (.int .u8 0), .lit (.int .u8 0), .lit (.int .u8 0), .lit (.int .u8 0), .lit (.int .u8 0), .lit (.int .u8 0), .lit (.int .u8 0), .lit (.int .u8 0), .lit (.int .u8 0), .lit (.int .u8 0), .lit (.int .u8 0), .lit (.int .u8 0), .lit (.int .u8 1), .lit (.int .u8 0), .lit (.int .u8 0), .lit (.int .u8 0), .lit (.int .u8 0), .lit (.int .u8 0), .lit (.int .u8 0), .lit (.int .u8 0), .lit (.int .u8 0), .lit (.int .u8 0), .lit (.int .u8 0), .lit (.int .u8 0), .lit (.int .u8 0), .lit (.int .u8 0), .lit (.int .u8 0), .lit (.int .u8 0), .lit (.int .u8 0), .lit (.int .u8 0), .lit (.int .u8 0), .lit (.int .u8 0), .lit (.int .u8 0), .lit (.int .u8 0), .lit (.int .u8 0), .lit (.int .u8 0), .lit (.int .u8 0), .lit (.int .u8 0), .lit (.int .u8 0), .lit (.int .u8 0), .lit (.int .u8 0), .lit (.int .u8 0), .lit (.int .u8 0), .lit (.int .u8 0), .lit (.int .u8 0), .lit (.int .u8 0), .lit (.int .u8 0), .lit (.int .u8 0), .lit (.int .u8 0), .lit (.int .u8 0), .lit (.int .u8 0), .lit (.int .u8 0), .lit (.int .u8 0), .lit (.int .u8 0), .lit (.int .u8 0), .lit (.int .u8 0), .lit (.int .u8 0), .lit (.int .u8 0), .lit (.int .u8 0), .lit (.int .u8 0), .lit (.int .u8 0), .lit (.int .u8 0), .lit (.int .u8 0), .lit (.int .u8 0), .lit (.int .u8 0), .lit (.int .u8 0), .lit (.int .u8 0), .lit (.int .u8 0), .lit (.int .u8 0), .lit (.int .u8 0), .lit (.int .u8 0), .lit (.int .u8 0), .lit (.int .u8 0), .lit (.int .u8 0), .lit (.int .u8 0), .lit (.int .u8 0), .lit (.int .u8 0), .lit (.int .u8 0), .lit (.int .u8 0), .lit (.int .u8 0), .lit (.int .u8 0), .lit (.int .u8 0), .lit (.int .u8 0), .lit (.int .u8 0), .lit (.int .u8 0), .lit (.int .u8 0), .lit (.int .u8 0), .lit (.int .u8 0), .lit (.int .u8 0), .lit (.int .u8 0), .lit (.int .u8 0), .lit (.int .u8 0), .lit (.int .u8 0), .lit (.int .u8 0), .lit (.int .u8 0), .lit (.int .u8 0), .lit (.int .u8 0), .lit (.int .u8 0), .lit (.int .u8 0), .lit (.int .u8 0), .lit (.int .u8 0), .lit (.int .u8 0), .lit (.int .u8 0), .lit (.int .u8 0), .lit (.int .u8 0), .lit (.int .u8 0), .lit (.int .u8 0), .lit (.int .u8 0), .lit (.int .u8 0), .lit (.int .u8 0), .lit (.int .u8 0), .lit (.int .u8 0), .lit (.int .u8 0), .lit (.int .u8 0), .lit (.int .u8 0), .lit (.int .u8 0), .lit (.int .u8 0), .lit (.int .u8 0), .lit (.int .u8 0), .lit (.int .u8 0), .lit (.int .u8 0), .lit (.int .u8 0), .lit (.int .u8 0), .lit (.int .u8 0), .lit (.int .u8 0), .lit (.int .u8 0), .lit (.int .u8 0), .lit (.int .u8 0), .lit (.int .u8 0), .lit (.int .u8 0), .lit (.int .u8 0), .lit (.int .u8 0), .lit (.int .u8 0), .lit (.int .u8 0), .lit (.int .u8 0), .lit (.int .u8 0), .lit (.int .u8 0), .lit (.int .u8 0), .lit (.int .u8 0), .lit (.int .u8 0), .lit (.int .u8 0), .lit (.int .u8 0), .lit (.int .u8 0), .lit (.int .u8 0), .lit (.int .u8 0), .lit (.int .u8 0), .lit (.int .u8 0), .lit (.int .u8 0), .lit (.int .u8 0), .lit (.int .u8 0), .lit (.int .u8 0), .lit (.int .u8 0), .lit (.int .u8 0), .lit (.int .u8 0), .lit (.int .u8 0), .lit (.int .u8 0), .lit (.int .u8 0), .lit (.int .u8 0), .lit (.int .u8 0), .lit (.int .u8 0), .lit (.int .u8 0), .lit (.int .u8 0), .lit (.int .u8 0), .lit (.int .u8 0), .lit (.int .u8 0), .lit (.int .u8 0), .lit (.int .u8 0), .lit (.int .u8 0), .lit (.int .u8 0), .lit (.int .u8 0), .lit (.int .u8 0), .lit (.int .u8 0), .lit (.int .u8 0), .lit (.int .u8 0), .lit (.int .u8 0), .lit (.int .u8 0), .lit (.int .u8 0), .lit (.int .u8 0), .lit (.int .u8 0), .lit (.int .u8 0), .lit (.int .u8 0), .lit (.int .u8 0), .lit (.int .u8 0), .lit (.int .u8 0), .lit (.int .u8 0), .lit (.int .u8 0), .lit (.int .u8 0), .lit (.int .u8 0), .lit (.int .u8 0), .lit (.int .u8 0), .lit (.int .u8 0), .lit (.int .u8 0), .lit (.int .u8 0), .lit (.int .u8 0), .lit (.int .u8 0), .lit (.int .u8 0), .lit (.int .u8 0), .lit (.int .u8 0), .lit (.int .u8 0), .lit (.int .u8 0), .lit (.int .u8 0), .lit (.int .u8 0), .lit (.int .u8 0), .lit (.int .u8 0), .lit (.int .u8 0), .lit (.int .u8 0), .lit (.int .u8 0), .lit (.int .u8 0), .lit (.int .u8 0), .lit (.int .u8 0), .lit (.int .u8 0), .lit (.int .u8 0), .lit (.int .u8 0), .lit (.int .u8 0), .lit (.int .u8 0), .lit (.int .u8 0), .lit (.int .u8 0), .lit (.int .u8 0), .lit (.int .u8 0), .lit (.int .u8 0), .lit (.int .u8 0), .lit (.int .u8 0), .lit (.int .u8 0), .lit (.int .u8 0), .lit (.int .u8 0), .lit (.int .u8 0), .lit (.int .u8 0), .lit (.int .u8 0), .lit (.int .u8 0), .lit (.int .u8 0), .lit (.int .u8 0), .lit (.int .u8 0), .lit (.int .u8 0), .lit (.int .u8 0), .lit (.int .u8 0), .lit (.int .u8 0)]
def laid_unicode_White_Space {H : Type} : DataW H := .ptr (.agg [.slice [.agg [.lit (.int .u16 9), .lit (.int .u16 13), .lit (.int .u16 1)], .agg [.lit (.int .u16 32), .lit (.int .u16 133), .lit (.int .u16 101)], .agg [.lit (.int .u16 160), .lit (.int .u16 5760), .lit (.int .u16 5600)], .agg [.lit (.int .u16 8192), .lit (.int .u16 8202), .lit (.int .u16 1)], .agg [.lit (.int .u16 8232), .lit (.int .u16 8233), .lit (.int .u16 1)], .agg [.lit (.int .u16 8239), .lit (.int .u16 8287), .lit (.int .u16 48)], .agg [.lit (.int .u16 12288), .lit (.int .u16 12288), .lit (.int .u16 1)]] [], .nil, .lit (.int .i64 2)])
def laid_errors_errorType {H : Type} : DataW H := .iface "internal/reflectlite.rtype" (.agg [.ptr (.lit (.string [101, 114, 114, 111, 114]))])

/-- 'offsidelaw15.ModuleHeaders': WHATEVER THE INPUT: true; the input reads as it did. -/
def moduleHeadersSpec : ChangeSpec := { name := "moduleHeaders", fn := fun _ => fun
  | [d] => { results := [.lit (.bool true)], args := [d] }
  | _ => none }
def moduleHeadersRow : OpenClaim := { program := "ytpkekfapphbgjaagreatdoor", sum := "724d519ebc66e8b762233c97261c0e59577301148b59f48b9917f8e2c2e68764", func := "offside/offsidelaw15.ModuleHeaders", spec := "moduleHeaders", inPlace := ["internal/bytealg.IndexByteString", "internal/bytealg.IndexString"], unfollowed := true, recurses := true, named := ["unicode/utf8.first", "unicode/utf8.acceptRanges", "strings.asciiSpace", "unicode.White_Space", "internal/bytealg.MaxLen"], apart := false, laid := [("unicode/utf8.first", laid_unicode_utf8_first), ("unicode/utf8.acceptRanges", laid_unicode_utf8_acceptRanges), ("strings.asciiSpace", laid_strings_asciiSpace), ("unicode.White_Space", laid_unicode_White_Space)] }
def ModuleHeadersSaid : Prop := moduleHeadersRow.holds Tryz.pinned (OpenSpec.ofChange moduleHeadersSpec)

/-- ITS FALSE NEIGHBOUR: 'it returns false'. Refute it at one input. -/
def moduleHeadersWrong : ChangeSpec := { name := "moduleHeaders", fn := fun _ => fun
  | [d] => { results := [.lit (.bool false)], args := [d] }
  | _ => none }
def ModuleHeadersWrongFalsely : Prop := moduleHeadersRow.holds Tryz.pinned (OpenSpec.ofChange moduleHeadersWrong)

/-- 'offsidelaw15.ModuleLeaves': WHATEVER THE INPUT: true; the input reads as it did. -/
def moduleLeavesSpec : ChangeSpec := { name := "moduleLeaves", fn := fun _ => fun
  | [d] => { results := [.lit (.bool true)], args := [d] }
  | _ => none }
def moduleLeavesRow : OpenClaim := { program := "ytpkekfapphbgjaagreatdoor", sum := "724d519ebc66e8b762233c97261c0e59577301148b59f48b9917f8e2c2e68764", func := "offside/offsidelaw15.ModuleLeaves", spec := "moduleLeaves", inPlace := ["internal/bytealg.IndexByteString", "internal/bytealg.IndexString"], unfollowed := true, recurses := true, named := ["unicode/utf8.first", "unicode/utf8.acceptRanges", "strings.asciiSpace", "unicode.White_Space", "internal/bytealg.MaxLen"], apart := false, laid := [("unicode/utf8.first", laid_unicode_utf8_first), ("unicode/utf8.acceptRanges", laid_unicode_utf8_acceptRanges), ("strings.asciiSpace", laid_strings_asciiSpace), ("unicode.White_Space", laid_unicode_White_Space)] }
def ModuleLeavesSaid : Prop := moduleLeavesRow.holds Tryz.pinned (OpenSpec.ofChange moduleLeavesSpec)

/-- ITS FALSE NEIGHBOUR: 'it returns false'. Refute it at one input. -/
def moduleLeavesWrong : ChangeSpec := { name := "moduleLeaves", fn := fun _ => fun
  | [d] => { results := [.lit (.bool false)], args := [d] }
  | _ => none }
def ModuleLeavesWrongFalsely : Prop := moduleLeavesRow.holds Tryz.pinned (OpenSpec.ofChange moduleLeavesWrong)

/-- 'offsidelaw21.BracesExplicits': WHATEVER THE INPUT: true; the input reads as it did. -/
def bracesExplicitsSpec : ChangeSpec := { name := "bracesExplicits", fn := fun _ => fun
  | [d] => { results := [.lit (.bool true)], args := [d] }
  | _ => none }
def bracesExplicitsRow : OpenClaim := { program := "ytpkekfapphbgjaagreatdoor", sum := "724d519ebc66e8b762233c97261c0e59577301148b59f48b9917f8e2c2e68764", func := "offside/offsidelaw21.BracesExplicits", spec := "bracesExplicits", inPlace := ["internal/bytealg.IndexByteString", "internal/bytealg.IndexString", "internal/abi.NoEscape", "internal/bytealg.MakeNoZero"], unfollowed := true, recurses := true, named := ["unicode/utf8.first", "unicode/utf8.acceptRanges", "strings.asciiSpace", "unicode.White_Space", "internal/bytealg.MaxLen"], loops := true, apart := false, laid := [("unicode/utf8.first", laid_unicode_utf8_first), ("unicode/utf8.acceptRanges", laid_unicode_utf8_acceptRanges), ("strings.asciiSpace", laid_strings_asciiSpace), ("unicode.White_Space", laid_unicode_White_Space)] }
def BracesExplicitsSaid : Prop := bracesExplicitsRow.holds Tryz.pinned (OpenSpec.ofChange bracesExplicitsSpec)

/-- ITS FALSE NEIGHBOUR: 'it returns false'. Refute it at one input. -/
def bracesExplicitsWrong : ChangeSpec := { name := "bracesExplicits", fn := fun _ => fun
  | [d] => { results := [.lit (.bool false)], args := [d] }
  | _ => none }
def BracesExplicitsWrongFalsely : Prop := bracesExplicitsRow.holds Tryz.pinned (OpenSpec.ofChange bracesExplicitsWrong)

/-- 'offsidelaw21.BracesBraced': WHATEVER THE INPUT: true; the input reads as it did. -/
def bracesBracedSpec : ChangeSpec := { name := "bracesBraced", fn := fun _ => fun
  | [d1, d2] => { results := [.lit (.bool true)], args := [d1, d2] }
  | _ => none }
def bracesBracedRow : OpenClaim := { program := "ytpkekfapphbgjaagreatdoor", sum := "724d519ebc66e8b762233c97261c0e59577301148b59f48b9917f8e2c2e68764", func := "offside/offsidelaw21.BracesBraced", spec := "bracesBraced", inPlace := ["internal/bytealg.IndexByteString", "internal/bytealg.IndexString", "internal/abi.NoEscape", "internal/bytealg.MakeNoZero"], unfollowed := true, recurses := true, named := ["unicode/utf8.first", "unicode/utf8.acceptRanges", "strings.asciiSpace", "unicode.White_Space", "internal/bytealg.MaxLen"], loops := true, apart := false, laid := [("unicode/utf8.first", laid_unicode_utf8_first), ("unicode/utf8.acceptRanges", laid_unicode_utf8_acceptRanges), ("strings.asciiSpace", laid_strings_asciiSpace), ("unicode.White_Space", laid_unicode_White_Space)] }
def BracesBracedSaid : Prop := bracesBracedRow.holds Tryz.pinned (OpenSpec.ofChange bracesBracedSpec)

/-- ITS FALSE NEIGHBOUR: 'it returns false'. Refute it at one input. -/
def bracesBracedWrong : ChangeSpec := { name := "bracesBraced", fn := fun _ => fun
  | [d1, d2] => { results := [.lit (.bool false)], args := [d1, d2] }
  | _ => none }
def BracesBracedWrongFalsely : Prop := bracesBracedRow.holds Tryz.pinned (OpenSpec.ofChange bracesBracedWrong)

/-- 'offsidelaw21.BracesRead': WHATEVER THE INPUT: true; the input reads as it did. -/
def bracesReadSpec : ChangeSpec := { name := "bracesRead", fn := fun _ => fun
  | [d] => { results := [.lit (.bool true)], args := [d] }
  | _ => none }
def bracesReadRow : OpenClaim := { program := "ytpkekfapphbgjaagreatdoor", sum := "724d519ebc66e8b762233c97261c0e59577301148b59f48b9917f8e2c2e68764", func := "offside/offsidelaw21.BracesRead", spec := "bracesRead", inPlace := ["internal/bytealg.IndexByteString", "internal/bytealg.IndexString", "internal/abi.NoEscape", "internal/bytealg.MakeNoZero"], unfollowed := true, recurses := true, named := ["unicode/utf8.first", "unicode/utf8.acceptRanges", "strings.asciiSpace", "unicode.White_Space", "internal/bytealg.MaxLen"], apart := false, laid := [("unicode/utf8.first", laid_unicode_utf8_first), ("unicode/utf8.acceptRanges", laid_unicode_utf8_acceptRanges), ("strings.asciiSpace", laid_strings_asciiSpace), ("unicode.White_Space", laid_unicode_White_Space)] }
def BracesReadSaid : Prop := bracesReadRow.holds Tryz.pinned (OpenSpec.ofChange bracesReadSpec)

/-- ITS FALSE NEIGHBOUR: 'it returns false'. Refute it at one input. -/
def bracesReadWrong : ChangeSpec := { name := "bracesRead", fn := fun _ => fun
  | [d] => { results := [.lit (.bool false)], args := [d] }
  | _ => none }
def BracesReadWrongFalsely : Prop := bracesReadRow.holds Tryz.pinned (OpenSpec.ofChange bracesReadWrong)

/-- 'offsidelaw21.BracesAgain': WHATEVER THE INPUT: true; the input reads as it did. -/
def bracesAgainSpec : ChangeSpec := { name := "bracesAgain", fn := fun _ => fun
  | [d] => { results := [.lit (.bool true)], args := [d] }
  | _ => none }
def bracesAgainRow : OpenClaim := { program := "ytpkekfapphbgjaagreatdoor", sum := "724d519ebc66e8b762233c97261c0e59577301148b59f48b9917f8e2c2e68764", func := "offside/offsidelaw21.BracesAgain", spec := "bracesAgain", inPlace := ["internal/bytealg.IndexByteString", "internal/bytealg.IndexString", "internal/abi.NoEscape", "internal/bytealg.MakeNoZero"], unfollowed := true, recurses := true, named := ["unicode/utf8.first", "unicode/utf8.acceptRanges", "strings.asciiSpace", "unicode.White_Space", "internal/bytealg.MaxLen"], apart := false, laid := [("unicode/utf8.first", laid_unicode_utf8_first), ("unicode/utf8.acceptRanges", laid_unicode_utf8_acceptRanges), ("strings.asciiSpace", laid_strings_asciiSpace), ("unicode.White_Space", laid_unicode_White_Space)] }
def BracesAgainSaid : Prop := bracesAgainRow.holds Tryz.pinned (OpenSpec.ofChange bracesAgainSpec)

/-- ITS FALSE NEIGHBOUR: 'it returns false'. Refute it at one input. -/
def bracesAgainWrong : ChangeSpec := { name := "bracesAgain", fn := fun _ => fun
  | [d] => { results := [.lit (.bool false)], args := [d] }
  | _ => none }
def BracesAgainWrongFalsely : Prop := bracesAgainRow.holds Tryz.pinned (OpenSpec.ofChange bracesAgainWrong)

/-- 'offsidelaw21.BracesAlike': WHATEVER THE INPUT: true; the input reads as it did. -/
def bracesAlikeSpec : ChangeSpec := { name := "bracesAlike", fn := fun _ => fun
  | [d1, d2] => { results := [.lit (.bool true)], args := [d1, d2] }
  | _ => none }
def bracesAlikeRow : OpenClaim := { program := "ytpkekfapphbgjaagreatdoor", sum := "724d519ebc66e8b762233c97261c0e59577301148b59f48b9917f8e2c2e68764", func := "offside/offsidelaw21.BracesAlike", spec := "bracesAlike", inPlace := ["internal/bytealg.IndexByteString", "internal/bytealg.IndexString", "internal/abi.NoEscape", "internal/bytealg.MakeNoZero"], unfollowed := true, recurses := true, named := ["unicode/utf8.first", "unicode/utf8.acceptRanges", "strings.asciiSpace", "unicode.White_Space", "internal/bytealg.MaxLen"], loops := true, apart := false, laid := [("unicode/utf8.first", laid_unicode_utf8_first), ("unicode/utf8.acceptRanges", laid_unicode_utf8_acceptRanges), ("strings.asciiSpace", laid_strings_asciiSpace), ("unicode.White_Space", laid_unicode_White_Space)] }
def BracesAlikeSaid : Prop := bracesAlikeRow.holds Tryz.pinned (OpenSpec.ofChange bracesAlikeSpec)

/-- ITS FALSE NEIGHBOUR: 'it returns false'. Refute it at one input. -/
def bracesAlikeWrong : ChangeSpec := { name := "bracesAlike", fn := fun _ => fun
  | [d1, d2] => { results := [.lit (.bool false)], args := [d1, d2] }
  | _ => none }
def BracesAlikeWrongFalsely : Prop := bracesAlikeRow.holds Tryz.pinned (OpenSpec.ofChange bracesAlikeWrong)

/-- 'offsidelaw17.ScopeResolves': WHATEVER THE INPUT: true; the input reads as it did. -/
def scopeResolvesSpec : ChangeSpec := { name := "scopeResolves", fn := fun _ => fun
  | [d] => { results := [.lit (.bool true)], args := [d] }
  | _ => none }
def scopeResolvesRow : OpenClaim := { program := "ytpkekfapphbgjaagreatdoor", sum := "724d519ebc66e8b762233c97261c0e59577301148b59f48b9917f8e2c2e68764", func := "offside/offsidelaw17.ScopeResolves", spec := "scopeResolves", inPlace := ["internal/bytealg.IndexByteString", "internal/bytealg.IndexString", "internal/reflectlite.ValueOf", "(internal/reflectlite.Value).Type", "(internal/reflectlite.Value).IsNil", "internal/reflectlite.TypeOf", "(internal/reflectlite.Value).Elem", "(internal/reflectlite.Value).Set"], unfollowed := true, recurses := true, named := ["unicode/utf8.first", "unicode/utf8.acceptRanges", "strings.asciiSpace", "unicode.White_Space", "internal/bytealg.MaxLen", "errors.errorType"], loops := true, apart := false, laid := [("unicode/utf8.first", laid_unicode_utf8_first), ("unicode/utf8.acceptRanges", laid_unicode_utf8_acceptRanges), ("strings.asciiSpace", laid_strings_asciiSpace), ("unicode.White_Space", laid_unicode_White_Space), ("errors.errorType", laid_errors_errorType)] }
def ScopeResolvesSaid : Prop := scopeResolvesRow.holds Tryz.pinned (OpenSpec.ofChange scopeResolvesSpec)

/-- ITS FALSE NEIGHBOUR: 'it returns false'. Refute it at one input. -/
def scopeResolvesWrong : ChangeSpec := { name := "scopeResolves", fn := fun _ => fun
  | [d] => { results := [.lit (.bool false)], args := [d] }
  | _ => none }
def ScopeResolvesWrongFalsely : Prop := scopeResolvesRow.holds Tryz.pinned (OpenSpec.ofChange scopeResolvesWrong)

/-- 'offsidelaw17.ScopeTexts': WHATEVER THE INPUT: true; the input reads as it did. -/
def scopeTextsSpec : ChangeSpec := { name := "scopeTexts", fn := fun _ => fun
  | [d] => { results := [.lit (.bool true)], args := [d] }
  | _ => none }
def scopeTextsRow : OpenClaim := { program := "ytpkekfapphbgjaagreatdoor", sum := "724d519ebc66e8b762233c97261c0e59577301148b59f48b9917f8e2c2e68764", func := "offside/offsidelaw17.ScopeTexts", spec := "scopeTexts", inPlace := ["internal/bytealg.IndexByteString", "internal/bytealg.IndexString", "internal/reflectlite.ValueOf", "(internal/reflectlite.Value).Type", "(internal/reflectlite.Value).IsNil", "internal/reflectlite.TypeOf", "(internal/reflectlite.Value).Elem", "(internal/reflectlite.Value).Set"], unfollowed := true, recurses := true, named := ["unicode/utf8.first", "unicode/utf8.acceptRanges", "strings.asciiSpace", "unicode.White_Space", "internal/bytealg.MaxLen", "errors.errorType"], apart := false, laid := [("unicode/utf8.first", laid_unicode_utf8_first), ("unicode/utf8.acceptRanges", laid_unicode_utf8_acceptRanges), ("strings.asciiSpace", laid_strings_asciiSpace), ("unicode.White_Space", laid_unicode_White_Space), ("errors.errorType", laid_errors_errorType)] }
def ScopeTextsSaid : Prop := scopeTextsRow.holds Tryz.pinned (OpenSpec.ofChange scopeTextsSpec)

/-- ITS FALSE NEIGHBOUR: 'it returns false'. Refute it at one input. -/
def scopeTextsWrong : ChangeSpec := { name := "scopeTexts", fn := fun _ => fun
  | [d] => { results := [.lit (.bool false)], args := [d] }
  | _ => none }
def ScopeTextsWrongFalsely : Prop := scopeTextsRow.holds Tryz.pinned (OpenSpec.ofChange scopeTextsWrong)

/-- 'offsidelaw17.ScopeStays': WHATEVER THE INPUT: true; the input reads as it did. -/
def scopeStaysSpec : ChangeSpec := { name := "scopeStays", fn := fun _ => fun
  | [d] => { results := [.lit (.bool true)], args := [d] }
  | _ => none }
def scopeStaysRow : OpenClaim := { program := "ytpkekfapphbgjaagreatdoor", sum := "724d519ebc66e8b762233c97261c0e59577301148b59f48b9917f8e2c2e68764", func := "offside/offsidelaw17.ScopeStays", spec := "scopeStays", inPlace := ["internal/bytealg.IndexByteString", "internal/bytealg.IndexString", "internal/reflectlite.ValueOf", "(internal/reflectlite.Value).Type", "(internal/reflectlite.Value).IsNil", "internal/reflectlite.TypeOf", "(internal/reflectlite.Value).Elem", "(internal/reflectlite.Value).Set"], unfollowed := true, recurses := true, named := ["unicode/utf8.first", "unicode/utf8.acceptRanges", "strings.asciiSpace", "unicode.White_Space", "internal/bytealg.MaxLen", "errors.errorType"], loops := true, apart := false, laid := [("unicode/utf8.first", laid_unicode_utf8_first), ("unicode/utf8.acceptRanges", laid_unicode_utf8_acceptRanges), ("strings.asciiSpace", laid_strings_asciiSpace), ("unicode.White_Space", laid_unicode_White_Space), ("errors.errorType", laid_errors_errorType)] }
def ScopeStaysSaid : Prop := scopeStaysRow.holds Tryz.pinned (OpenSpec.ofChange scopeStaysSpec)

/-- ITS FALSE NEIGHBOUR: 'it returns false'. Refute it at one input. -/
def scopeStaysWrong : ChangeSpec := { name := "scopeStays", fn := fun _ => fun
  | [d] => { results := [.lit (.bool false)], args := [d] }
  | _ => none }
def ScopeStaysWrongFalsely : Prop := scopeStaysRow.holds Tryz.pinned (OpenSpec.ofChange scopeStaysWrong)

/-- 'offsidelaw17.ScopeParts': WHATEVER THE INPUT: true; the input reads as it did. -/
def scopePartsSpec : ChangeSpec := { name := "scopeParts", fn := fun _ => fun
  | [d1, d2] => { results := [.lit (.bool true)], args := [d1, d2] }
  | _ => none }
def scopePartsRow : OpenClaim := { program := "ytpkekfapphbgjaagreatdoor", sum := "724d519ebc66e8b762233c97261c0e59577301148b59f48b9917f8e2c2e68764", func := "offside/offsidelaw17.ScopeParts", spec := "scopeParts", inPlace := ["internal/bytealg.IndexByteString", "internal/bytealg.IndexString", "internal/reflectlite.ValueOf", "(internal/reflectlite.Value).Type", "(internal/reflectlite.Value).IsNil", "internal/reflectlite.TypeOf", "(internal/reflectlite.Value).Elem", "(internal/reflectlite.Value).Set"], unfollowed := true, recurses := true, named := ["unicode/utf8.first", "unicode/utf8.acceptRanges", "strings.asciiSpace", "unicode.White_Space", "internal/bytealg.MaxLen", "errors.errorType"], loops := true, apart := false, laid := [("unicode/utf8.first", laid_unicode_utf8_first), ("unicode/utf8.acceptRanges", laid_unicode_utf8_acceptRanges), ("strings.asciiSpace", laid_strings_asciiSpace), ("unicode.White_Space", laid_unicode_White_Space), ("errors.errorType", laid_errors_errorType)] }
def ScopePartsSaid : Prop := scopePartsRow.holds Tryz.pinned (OpenSpec.ofChange scopePartsSpec)

/-- ITS FALSE NEIGHBOUR: 'it returns false'. Refute it at one input. -/
def scopePartsWrong : ChangeSpec := { name := "scopeParts", fn := fun _ => fun
  | [d1, d2] => { results := [.lit (.bool false)], args := [d1, d2] }
  | _ => none }
def ScopePartsWrongFalsely : Prop := scopePartsRow.holds Tryz.pinned (OpenSpec.ofChange scopePartsWrong)

/-- 'offsidelaw17.ScopeLeaves': WHATEVER THE INPUT: true; the input reads as it did. -/
def scopeLeavesSpec : ChangeSpec := { name := "scopeLeaves", fn := fun _ => fun
  | [d] => { results := [.lit (.bool true)], args := [d] }
  | _ => none }
def scopeLeavesRow : OpenClaim := { program := "ytpkekfapphbgjaagreatdoor", sum := "724d519ebc66e8b762233c97261c0e59577301148b59f48b9917f8e2c2e68764", func := "offside/offsidelaw17.ScopeLeaves", spec := "scopeLeaves", inPlace := ["internal/bytealg.IndexByteString", "internal/bytealg.IndexString", "internal/reflectlite.ValueOf", "(internal/reflectlite.Value).Type", "(internal/reflectlite.Value).IsNil", "internal/reflectlite.TypeOf", "(internal/reflectlite.Value).Elem", "(internal/reflectlite.Value).Set"], unfollowed := true, recurses := true, named := ["unicode/utf8.first", "unicode/utf8.acceptRanges", "strings.asciiSpace", "unicode.White_Space", "internal/bytealg.MaxLen", "errors.errorType"], loops := true, apart := false, laid := [("unicode/utf8.first", laid_unicode_utf8_first), ("unicode/utf8.acceptRanges", laid_unicode_utf8_acceptRanges), ("strings.asciiSpace", laid_strings_asciiSpace), ("unicode.White_Space", laid_unicode_White_Space), ("errors.errorType", laid_errors_errorType)] }
def ScopeLeavesSaid : Prop := scopeLeavesRow.holds Tryz.pinned (OpenSpec.ofChange scopeLeavesSpec)

/-- ITS FALSE NEIGHBOUR: 'it returns false'. Refute it at one input. -/
def scopeLeavesWrong : ChangeSpec := { name := "scopeLeaves", fn := fun _ => fun
  | [d] => { results := [.lit (.bool false)], args := [d] }
  | _ => none }
def ScopeLeavesWrongFalsely : Prop := scopeLeavesRow.holds Tryz.pinned (OpenSpec.ofChange scopeLeavesWrong)

/- THE SECOND FORM. 'bulk': how many values and letters a reading holds, each counted each time it is reached (what is shared counts as often as it is met; a slice's spare places count too). A statement '..UptoSaid' is the law's where the arguments, and the package variables that the reading takes, are together of bulk at most 1048576: NARROWER than '..Said'. Prove '..Said' where nothing that the law and all that it calls make is longer than what came in: it says more and counts as full. Else prove '..UptoSaid'. A law counts once. -/
mutual
def uptoBulk {H : Type} : DataW H → Nat
  | .lit (.string bytes) => bytes.length + 1
  | .lit _ => 1
  | .nil => 1
  | .ptr d => uptoBulk d + 1
  | .slice elems spare => uptoBulkAll elems + uptoBulkAll spare + 1
  | .agg parts => uptoBulkAll parts + 1
  | .iface _ d => uptoBulk d + 1
  | .map entries => uptoBulkEntries entries + 1
  | .held _ => 1
def uptoBulkAll {H : Type} : List (DataW H) → Nat
  | [] => 0
  | d :: r => uptoBulk d + uptoBulkAll r
def uptoBulkEntries {H : Type} : List (Lit × DataW H) → Nat
  | [] => 0
  | x :: r => uptoBulkEntry x + uptoBulkEntries r
def uptoBulkEntry {H : Type} : Lit × DataW H → Nat
  | (.string bytes, d) => bytes.length + uptoBulk d + 1
  | (_, d) => uptoBulk d + 1
 end
def uptoSmall : (H : Type) → List (DataW H) → Bool := fun _ ds => decide (uptoBulkAll ds ≤ 1048576)
def OpenSpec.upto (s : _root_.Go.ChangeSpec) : _root_.Go.OpenSpec := { _root_.Go.OpenSpec.ofChange s with cond := some uptoSmall }

/-- 'offsidelaw15.ModuleHeaders', WHERE WHAT IT READS IS OF BULK AT MOST 1048576: true; the input reads as it did. -/
def moduleHeadersUptoRow : OpenClaim := { program := "ytpkekfapphbgjaagreatdoor", sum := "724d519ebc66e8b762233c97261c0e59577301148b59f48b9917f8e2c2e68764", func := "offside/offsidelaw15.ModuleHeaders", spec := "moduleHeaders", inPlace := ["internal/bytealg.IndexByteString", "internal/bytealg.IndexString"], unfollowed := true, recurses := true, named := ["unicode/utf8.first", "unicode/utf8.acceptRanges", "strings.asciiSpace", "unicode.White_Space", "internal/bytealg.MaxLen"], apart := false, laid := [("unicode/utf8.first", laid_unicode_utf8_first), ("unicode/utf8.acceptRanges", laid_unicode_utf8_acceptRanges), ("strings.asciiSpace", laid_strings_asciiSpace), ("unicode.White_Space", laid_unicode_White_Space)], narrowed := true }
def ModuleHeadersUptoSaid : Prop := moduleHeadersUptoRow.holds Tryz.pinned (OpenSpec.upto moduleHeadersSpec)

/-- 'offsidelaw15.ModuleLeaves', WHERE WHAT IT READS IS OF BULK AT MOST 1048576: true; the input reads as it did. -/
def moduleLeavesUptoRow : OpenClaim := { program := "ytpkekfapphbgjaagreatdoor", sum := "724d519ebc66e8b762233c97261c0e59577301148b59f48b9917f8e2c2e68764", func := "offside/offsidelaw15.ModuleLeaves", spec := "moduleLeaves", inPlace := ["internal/bytealg.IndexByteString", "internal/bytealg.IndexString"], unfollowed := true, recurses := true, named := ["unicode/utf8.first", "unicode/utf8.acceptRanges", "strings.asciiSpace", "unicode.White_Space", "internal/bytealg.MaxLen"], apart := false, laid := [("unicode/utf8.first", laid_unicode_utf8_first), ("unicode/utf8.acceptRanges", laid_unicode_utf8_acceptRanges), ("strings.asciiSpace", laid_strings_asciiSpace), ("unicode.White_Space", laid_unicode_White_Space)], narrowed := true }
def ModuleLeavesUptoSaid : Prop := moduleLeavesUptoRow.holds Tryz.pinned (OpenSpec.upto moduleLeavesSpec)

/-- 'offsidelaw21.BracesExplicits', WHERE WHAT IT READS IS OF BULK AT MOST 1048576: true; the input reads as it did. -/
def bracesExplicitsUptoRow : OpenClaim := { program := "ytpkekfapphbgjaagreatdoor", sum := "724d519ebc66e8b762233c97261c0e59577301148b59f48b9917f8e2c2e68764", func := "offside/offsidelaw21.BracesExplicits", spec := "bracesExplicits", inPlace := ["internal/bytealg.IndexByteString", "internal/bytealg.IndexString", "internal/abi.NoEscape", "internal/bytealg.MakeNoZero"], unfollowed := true, recurses := true, named := ["unicode/utf8.first", "unicode/utf8.acceptRanges", "strings.asciiSpace", "unicode.White_Space", "internal/bytealg.MaxLen"], loops := true, apart := false, laid := [("unicode/utf8.first", laid_unicode_utf8_first), ("unicode/utf8.acceptRanges", laid_unicode_utf8_acceptRanges), ("strings.asciiSpace", laid_strings_asciiSpace), ("unicode.White_Space", laid_unicode_White_Space)], narrowed := true }
def BracesExplicitsUptoSaid : Prop := bracesExplicitsUptoRow.holds Tryz.pinned (OpenSpec.upto bracesExplicitsSpec)

/-- 'offsidelaw21.BracesBraced', WHERE WHAT IT READS IS OF BULK AT MOST 1048576: true; the input reads as it did. -/
def bracesBracedUptoRow : OpenClaim := { program := "ytpkekfapphbgjaagreatdoor", sum := "724d519ebc66e8b762233c97261c0e59577301148b59f48b9917f8e2c2e68764", func := "offside/offsidelaw21.BracesBraced", spec := "bracesBraced", inPlace := ["internal/bytealg.IndexByteString", "internal/bytealg.IndexString", "internal/abi.NoEscape", "internal/bytealg.MakeNoZero"], unfollowed := true, recurses := true, named := ["unicode/utf8.first", "unicode/utf8.acceptRanges", "strings.asciiSpace", "unicode.White_Space", "internal/bytealg.MaxLen"], loops := true, apart := false, laid := [("unicode/utf8.first", laid_unicode_utf8_first), ("unicode/utf8.acceptRanges", laid_unicode_utf8_acceptRanges), ("strings.asciiSpace", laid_strings_asciiSpace), ("unicode.White_Space", laid_unicode_White_Space)], narrowed := true }
def BracesBracedUptoSaid : Prop := bracesBracedUptoRow.holds Tryz.pinned (OpenSpec.upto bracesBracedSpec)

/-- 'offsidelaw21.BracesRead', WHERE WHAT IT READS IS OF BULK AT MOST 1048576: true; the input reads as it did. -/
def bracesReadUptoRow : OpenClaim := { program := "ytpkekfapphbgjaagreatdoor", sum := "724d519ebc66e8b762233c97261c0e59577301148b59f48b9917f8e2c2e68764", func := "offside/offsidelaw21.BracesRead", spec := "bracesRead", inPlace := ["internal/bytealg.IndexByteString", "internal/bytealg.IndexString", "internal/abi.NoEscape", "internal/bytealg.MakeNoZero"], unfollowed := true, recurses := true, named := ["unicode/utf8.first", "unicode/utf8.acceptRanges", "strings.asciiSpace", "unicode.White_Space", "internal/bytealg.MaxLen"], apart := false, laid := [("unicode/utf8.first", laid_unicode_utf8_first), ("unicode/utf8.acceptRanges", laid_unicode_utf8_acceptRanges), ("strings.asciiSpace", laid_strings_asciiSpace), ("unicode.White_Space", laid_unicode_White_Space)], narrowed := true }
def BracesReadUptoSaid : Prop := bracesReadUptoRow.holds Tryz.pinned (OpenSpec.upto bracesReadSpec)

/-- 'offsidelaw21.BracesAgain', WHERE WHAT IT READS IS OF BULK AT MOST 1048576: true; the input reads as it did. -/
def bracesAgainUptoRow : OpenClaim := { program := "ytpkekfapphbgjaagreatdoor", sum := "724d519ebc66e8b762233c97261c0e59577301148b59f48b9917f8e2c2e68764", func := "offside/offsidelaw21.BracesAgain", spec := "bracesAgain", inPlace := ["internal/bytealg.IndexByteString", "internal/bytealg.IndexString", "internal/abi.NoEscape", "internal/bytealg.MakeNoZero"], unfollowed := true, recurses := true, named := ["unicode/utf8.first", "unicode/utf8.acceptRanges", "strings.asciiSpace", "unicode.White_Space", "internal/bytealg.MaxLen"], apart := false, laid := [("unicode/utf8.first", laid_unicode_utf8_first), ("unicode/utf8.acceptRanges", laid_unicode_utf8_acceptRanges), ("strings.asciiSpace", laid_strings_asciiSpace), ("unicode.White_Space", laid_unicode_White_Space)], narrowed := true }
def BracesAgainUptoSaid : Prop := bracesAgainUptoRow.holds Tryz.pinned (OpenSpec.upto bracesAgainSpec)

/-- 'offsidelaw21.BracesAlike', WHERE WHAT IT READS IS OF BULK AT MOST 1048576: true; the input reads as it did. -/
def bracesAlikeUptoRow : OpenClaim := { program := "ytpkekfapphbgjaagreatdoor", sum := "724d519ebc66e8b762233c97261c0e59577301148b59f48b9917f8e2c2e68764", func := "offside/offsidelaw21.BracesAlike", spec := "bracesAlike", inPlace := ["internal/bytealg.IndexByteString", "internal/bytealg.IndexString", "internal/abi.NoEscape", "internal/bytealg.MakeNoZero"], unfollowed := true, recurses := true, named := ["unicode/utf8.first", "unicode/utf8.acceptRanges", "strings.asciiSpace", "unicode.White_Space", "internal/bytealg.MaxLen"], loops := true, apart := false, laid := [("unicode/utf8.first", laid_unicode_utf8_first), ("unicode/utf8.acceptRanges", laid_unicode_utf8_acceptRanges), ("strings.asciiSpace", laid_strings_asciiSpace), ("unicode.White_Space", laid_unicode_White_Space)], narrowed := true }
def BracesAlikeUptoSaid : Prop := bracesAlikeUptoRow.holds Tryz.pinned (OpenSpec.upto bracesAlikeSpec)

/-- 'offsidelaw17.ScopeResolves', WHERE WHAT IT READS IS OF BULK AT MOST 1048576: true; the input reads as it did. -/
def scopeResolvesUptoRow : OpenClaim := { program := "ytpkekfapphbgjaagreatdoor", sum := "724d519ebc66e8b762233c97261c0e59577301148b59f48b9917f8e2c2e68764", func := "offside/offsidelaw17.ScopeResolves", spec := "scopeResolves", inPlace := ["internal/bytealg.IndexByteString", "internal/bytealg.IndexString", "internal/reflectlite.ValueOf", "(internal/reflectlite.Value).Type", "(internal/reflectlite.Value).IsNil", "internal/reflectlite.TypeOf", "(internal/reflectlite.Value).Elem", "(internal/reflectlite.Value).Set"], unfollowed := true, recurses := true, named := ["unicode/utf8.first", "unicode/utf8.acceptRanges", "strings.asciiSpace", "unicode.White_Space", "internal/bytealg.MaxLen", "errors.errorType"], loops := true, apart := false, laid := [("unicode/utf8.first", laid_unicode_utf8_first), ("unicode/utf8.acceptRanges", laid_unicode_utf8_acceptRanges), ("strings.asciiSpace", laid_strings_asciiSpace), ("unicode.White_Space", laid_unicode_White_Space), ("errors.errorType", laid_errors_errorType)], narrowed := true }
def ScopeResolvesUptoSaid : Prop := scopeResolvesUptoRow.holds Tryz.pinned (OpenSpec.upto scopeResolvesSpec)

/-- 'offsidelaw17.ScopeTexts', WHERE WHAT IT READS IS OF BULK AT MOST 1048576: true; the input reads as it did. -/
def scopeTextsUptoRow : OpenClaim := { program := "ytpkekfapphbgjaagreatdoor", sum := "724d519ebc66e8b762233c97261c0e59577301148b59f48b9917f8e2c2e68764", func := "offside/offsidelaw17.ScopeTexts", spec := "scopeTexts", inPlace := ["internal/bytealg.IndexByteString", "internal/bytealg.IndexString", "internal/reflectlite.ValueOf", "(internal/reflectlite.Value).Type", "(internal/reflectlite.Value).IsNil", "internal/reflectlite.TypeOf", "(internal/reflectlite.Value).Elem", "(internal/reflectlite.Value).Set"], unfollowed := true, recurses := true, named := ["unicode/utf8.first", "unicode/utf8.acceptRanges", "strings.asciiSpace", "unicode.White_Space", "internal/bytealg.MaxLen", "errors.errorType"], apart := false, laid := [("unicode/utf8.first", laid_unicode_utf8_first), ("unicode/utf8.acceptRanges", laid_unicode_utf8_acceptRanges), ("strings.asciiSpace", laid_strings_asciiSpace), ("unicode.White_Space", laid_unicode_White_Space), ("errors.errorType", laid_errors_errorType)], narrowed := true }
def ScopeTextsUptoSaid : Prop := scopeTextsUptoRow.holds Tryz.pinned (OpenSpec.upto scopeTextsSpec)

/-- 'offsidelaw17.ScopeStays', WHERE WHAT IT READS IS OF BULK AT MOST 1048576: true; the input reads as it did. -/
def scopeStaysUptoRow : OpenClaim := { program := "ytpkekfapphbgjaagreatdoor", sum := "724d519ebc66e8b762233c97261c0e59577301148b59f48b9917f8e2c2e68764", func := "offside/offsidelaw17.ScopeStays", spec := "scopeStays", inPlace := ["internal/bytealg.IndexByteString", "internal/bytealg.IndexString", "internal/reflectlite.ValueOf", "(internal/reflectlite.Value).Type", "(internal/reflectlite.Value).IsNil", "internal/reflectlite.TypeOf", "(internal/reflectlite.Value).Elem", "(internal/reflectlite.Value).Set"], unfollowed := true, recurses := true, named := ["unicode/utf8.first", "unicode/utf8.acceptRanges", "strings.asciiSpace", "unicode.White_Space", "internal/bytealg.MaxLen", "errors.errorType"], loops := true, apart := false, laid := [("unicode/utf8.first", laid_unicode_utf8_first), ("unicode/utf8.acceptRanges", laid_unicode_utf8_acceptRanges), ("strings.asciiSpace", laid_strings_asciiSpace), ("unicode.White_Space", laid_unicode_White_Space), ("errors.errorType", laid_errors_errorType)], narrowed := true }
def ScopeStaysUptoSaid : Prop := scopeStaysUptoRow.holds Tryz.pinned (OpenSpec.upto scopeStaysSpec)

/-- 'offsidelaw17.ScopeParts', WHERE WHAT IT READS IS OF BULK AT MOST 1048576: true; the input reads as it did. -/
def scopePartsUptoRow : OpenClaim := { program := "ytpkekfapphbgjaagreatdoor", sum := "724d519ebc66e8b762233c97261c0e59577301148b59f48b9917f8e2c2e68764", func := "offside/offsidelaw17.ScopeParts", spec := "scopeParts", inPlace := ["internal/bytealg.IndexByteString", "internal/bytealg.IndexString", "internal/reflectlite.ValueOf", "(internal/reflectlite.Value).Type", "(internal/reflectlite.Value).IsNil", "internal/reflectlite.TypeOf", "(internal/reflectlite.Value).Elem", "(internal/reflectlite.Value).Set"], unfollowed := true, recurses := true, named := ["unicode/utf8.first", "unicode/utf8.acceptRanges", "strings.asciiSpace", "unicode.White_Space", "internal/bytealg.MaxLen", "errors.errorType"], loops := true, apart := false, laid := [("unicode/utf8.first", laid_unicode_utf8_first), ("unicode/utf8.acceptRanges", laid_unicode_utf8_acceptRanges), ("strings.asciiSpace", laid_strings_asciiSpace), ("unicode.White_Space", laid_unicode_White_Space), ("errors.errorType", laid_errors_errorType)], narrowed := true }
def ScopePartsUptoSaid : Prop := scopePartsUptoRow.holds Tryz.pinned (OpenSpec.upto scopePartsSpec)

/-- 'offsidelaw17.ScopeLeaves', WHERE WHAT IT READS IS OF BULK AT MOST 1048576: true; the input reads as it did. -/
def scopeLeavesUptoRow : OpenClaim := { program := "ytpkekfapphbgjaagreatdoor", sum := "724d519ebc66e8b762233c97261c0e59577301148b59f48b9917f8e2c2e68764", func := "offside/offsidelaw17.ScopeLeaves", spec := "scopeLeaves", inPlace := ["internal/bytealg.IndexByteString", "internal/bytealg.IndexString", "internal/reflectlite.ValueOf", "(internal/reflectlite.Value).Type", "(internal/reflectlite.Value).IsNil", "internal/reflectlite.TypeOf", "(internal/reflectlite.Value).Elem", "(internal/reflectlite.Value).Set"], unfollowed := true, recurses := true, named := ["unicode/utf8.first", "unicode/utf8.acceptRanges", "strings.asciiSpace", "unicode.White_Space", "internal/bytealg.MaxLen", "errors.errorType"], loops := true, apart := false, laid := [("unicode/utf8.first", laid_unicode_utf8_first), ("unicode/utf8.acceptRanges", laid_unicode_utf8_acceptRanges), ("strings.asciiSpace", laid_strings_asciiSpace), ("unicode.White_Space", laid_unicode_White_Space), ("errors.errorType", laid_errors_errorType)], narrowed := true }
def ScopeLeavesUptoSaid : Prop := scopeLeavesUptoRow.holds Tryz.pinned (OpenSpec.upto scopeLeavesSpec)

end Rows
end Go.Proofs.YtpkekfapphbgjaaGreatDoor
