/-
  NARROWER THAN 'FOR EVERY INPUT', by the rows' own cells (each row's printed sentence says how): SyntaxTexts: laid · SyntaxParts: laid · SyntaxBefore: laid · SyntaxChecks: loops, laid · SyntaxExprs: laid · SyntaxWrapped: laid · SyntaxWell: loops, laid · SyntaxSame: loops, laid · SyntaxJoined: laid.
  DERIVED. THE GIVEN ROWS OF THIS SEAT. 9 by the template 'for every input the law returns true; each argument reads behind the call as it read before'; 0 by the template 'total and deterministic' (their statements: YtkodnhngllfemaaGreatDoorTotals.lean).
  GIVEN WITH THE SEED: the statements are not yours to turn. If you find one false, say at which input.
  Laid BY PROGRAM, IN A SANDBOX (cutbox-rows.mjs): the forced cells as the released guide's own fill.sh prints them over the translation f5290ffd7d83000c… (all of the seat's roots in one cut). By AI agents, Wed Nov 11 2026. No macro, syntax, notation, axiom, sorry.
-/
import Derived.Test.YtkodnhngllfemaaGreatDoorChecked
import GoSem.Claim
import GoSem.ClaimJoined
import GoSem.ClaimMapViews
import Derived.JoinedTies
import Derived.KernelRfl
namespace Go.Proofs.YtkodnhngllfemaaGreatDoor
/- THE CELL 'sum', in the pinned program and in every row, IS THE sha256 OF THE DUMP (.gsa) THAT YtkodnhngllfemaaGreatDoorProg.lean LOADS. Nothing in Lean hashes anything: it is a label: what it is worth is what the hold of that sum in a sandbox is worth. -/
noncomputable def Tryz.pinned : Pinned := { name := "ytkodnhngllfemaagreatdoor", sum := "f5290ffd7d83000c22483a5fdc8b5fdf03ed7acbcfd0486f06dfe070f4757823", checked := Tryz.checked }
namespace Rows
def none {H : Type} : Left H := { results := [], args := [] }

/- WHAT THE LISTED PACKAGE-LEVEL VARIABLES READ AS WHEN THE CALL BEGINS. Each datum BY PROGRAM (the guide's laid-datum.mjs) off the statement by which the dump's own 'gosem.cut.vars' lays the variable. In a bare row this is a premise. The card (YtkodnhngllfemaaGreatDoorCards.lean) ties it to the program's text. -/
def laid_math_bits_deBruijn32tab {H : Type} : DataW H := .agg [.lit (.int .u8 0), .lit (.int .u8 1), .lit (.int .u8 28), .lit (.int .u8 2), .lit (.int .u8 29), .lit (.int .u8 14), .lit (.int .u8 24), .lit (.int .u8 3), .lit (.int .u8 30), .lit (.int .u8 22), .lit (.int .u8 20), .lit (.int .u8 15), .lit (.int .u8 25), .lit (.int .u8 17), .lit (.int .u8 4), .lit (.int .u8 8), .lit (.int .u8 31), .lit (.int .u8 27), .lit (.int .u8 13), .lit (.int .u8 23), .lit (.int .u8 21), .lit (.int .u8 19), .lit (.int .u8 16), .lit (.int .u8 7), .lit (.int .u8 26), .lit (.int .u8 12), .lit (.int .u8 18), .lit (.int .u8 6), .lit (.int .u8 11), .lit (.int .u8 5), .lit (.int .u8 10), .lit (.int .u8 9)]
def laid_math_bits_deBruijn64tab {H : Type} : DataW H := .agg [.lit (.int .u8 0), .lit (.int .u8 1), .lit (.int .u8 56), .lit (.int .u8 2), .lit (.int .u8 57), .lit (.int .u8 49), .lit (.int .u8 28), .lit (.int .u8 3), .lit (.int .u8 61), .lit (.int .u8 58), .lit (.int .u8 42), .lit (.int .u8 50), .lit (.int .u8 38), .lit (.int .u8 29), .lit (.int .u8 17), .lit (.int .u8 4), .lit (.int .u8 62), .lit (.int .u8 47), .lit (.int .u8 59), .lit (.int .u8 36), .lit (.int .u8 45), .lit (.int .u8 43), .lit (.int .u8 51), .lit (.int .u8 22), .lit (.int .u8 53), .lit (.int .u8 39), .lit (.int .u8 33), .lit (.int .u8 30), .lit (.int .u8 24), .lit (.int .u8 18), .lit (.int .u8 12), .lit (.int .u8 5), .lit (.int .u8 63), .lit (.int .u8 55), .lit (.int .u8 48), .lit (.int .u8 27), .lit (.int .u8 60), .lit (.int .u8 41), .lit (.int .u8 37), .lit (.int .u8 16), .lit (.int .u8 46), .lit (.int .u8 35), .lit (.int .u8 44), .lit (.int .u8 21), .lit (.int .u8 52), .lit (.int .u8 32), .lit (.int .u8 23), .lit (.int .u8 11), .lit (.int .u8 54), .lit (.int .u8 26), .lit (.int .u8 40), .lit (.int .u8 15), .lit (.int .u8 34), .lit (.int .u8 20), .lit (.int .u8 31), .lit (.int .u8 10), .lit (.int .u8 25), .lit (.int .u8 14), .lit (.int .u8 19), .lit (.int .u8 9), .lit (.int .u8 13), .lit (.int .u8 8), .lit (.int .u8 7), .lit (.int .u8 6)]
def laid_internal_strconv_uint64pow10 {H : Type} : DataW H := .agg [.lit (.int .u64 1), .lit (.int .u64 10), .lit (.int .u64 100), .lit (.int .u64 1000), .lit (.int .u64 10000), .lit (.int .u64 100000), .lit (.int .u64 1000000), .lit (.int .u64 10000000), .lit (.int .u64 100000000), .lit (.int .u64 1000000000), .lit (.int .u64 10000000000), .lit (.int .u64 100000000000), .lit (.int .u64 1000000000000), .lit (.int .u64 10000000000000), .lit (.int .u64 100000000000000), .lit (.int .u64 1000000000000000), .lit (.int .u64 10000000000000000), .lit (.int .u64 100000000000000000), .lit (.int .u64 1000000000000000000), .lit (.int .u64 10000000000000000000)]
def laid_winch_winchref02_signs {H : Type} : DataW H := .agg [.slice [.lit (.string [111, 114])] [], .slice [.lit (.string [120, 111, 114])] [], .slice [.lit (.string [97, 110, 100])] [], .slice [.lit (.string [61]), .lit (.string [60, 62])] [], .slice [.lit (.string [60]), .lit (.string [60, 61]), .lit (.string [62]), .lit (.string [62, 61])] [], .slice [.lit (.string [43]), .lit (.string [45])] [], .slice [.lit (.string [42]), .lit (.string [47]), .lit (.string [109, 111, 100])] []]
def laid_winch_winchref02_ops {H : Type} : DataW H := .agg [.slice [.lit (.int .i64 8)] [], .slice [.lit (.int .i64 9)] [], .slice [.lit (.int .i64 10)] [], .slice [.lit (.int .i64 11), .lit (.int .i64 12)] [], .slice [.lit (.int .i64 13), .lit (.int .i64 14), .lit (.int .i64 15), .lit (.int .i64 16)] [], .slice [.lit (.int .i64 17), .lit (.int .i64 18)] [], .slice [.lit (.int .i64 19), .lit (.int .i64 20), .lit (.int .i64 21)] []]
def laid_strconv_ErrRange {H : Type} : DataW H := .iface "*errors.errorString" (.ptr (.agg [.lit (.string [118, 97, 108, 117, 101, 32, 111, 117, 116, 32, 111, 102, 32, 114, 97, 110, 103, 101])]))
def laid_strconv_ErrSyntax {H : Type} : DataW H := .iface "*errors.errorString" (.ptr (.agg [.lit (.string [105, 110, 118, 97, 108, 105, 100, 32, 115, 121, 110, 116, 97, 120])]))
def laid_winch_ast_shapes {H : Type} : DataW H := .map [(.int .i64 1, .agg [.lit (.bool true), .lit (.int .i64 1), .lit (.int .i64 1), .lit (.bool false), .lit (.bool false)]), (.int .i64 2, .agg [.lit (.bool true), .lit (.int .i64 0), .lit (.int .i64 501), .lit (.bool false), .lit (.bool false)]), (.int .i64 3, .agg [.lit (.bool false), .lit (.int .i64 1), .lit (.int .i64 1), .lit (.bool true), .lit (.bool true)]), (.int .i64 4, .agg [.lit (.bool false), .lit (.int .i64 1), .lit (.int .i64 1), .lit (.bool false), .lit (.bool true)]), (.int .i64 5, .agg [.lit (.bool true), .lit (.int .i64 2), .lit (.int .i64 2), .lit (.bool true), .lit (.bool false)]), (.int .i64 6, .agg [.lit (.bool false), .lit (.int .i64 1), .lit (.int .i64 1), .lit (.bool true), .lit (.bool false)]), (.int .i64 7, .agg [.lit (.bool false), .lit (.int .i64 1), .lit (.int .i64 1), .lit (.bool true), .lit (.bool false)]), (.int .i64 8, .agg [.lit (.bool false), .lit (.int .i64 0), .lit (.int .i64 0), .lit (.bool false), .lit (.bool false)]), (.int .i64 9, .agg [.lit (.bool false), .lit (.int .i64 0), .lit (.int .i64 0), .lit (.bool false), .lit (.bool false)])]

/-- 'winchlaw02.SyntaxTexts': WHATEVER THE INPUT: true; the input reads as it did. -/
def syntaxTextsSpec : ChangeSpec := { name := "syntaxTexts", fn := fun _ => fun
  | [d] => { results := [.lit (.bool true)], args := [d] }
  | _ => none }
def syntaxTextsRow : OpenClaim := { program := "ytkodnhngllfemaagreatdoor", sum := "f5290ffd7d83000c22483a5fdc8b5fdf03ed7acbcfd0486f06dfe070f4757823", func := "winch/winchlaw02.SyntaxTexts", spec := "syntaxTexts", inPlace := ["internal/bytealg.IndexByteString"], unfollowed := true, recurses := true, named := ["strconv.ErrSyntax", "strconv.ErrRange", "internal/strconv.uint64pow10", "math/bits.deBruijn32tab", "math/bits.deBruijn64tab", "winch/ast.shapes", "winch/winchref02.signs", "winch/winchref02.ops"], apart := false, laid := [("math/bits.deBruijn32tab", laid_math_bits_deBruijn32tab), ("math/bits.deBruijn64tab", laid_math_bits_deBruijn64tab), ("internal/strconv.uint64pow10", laid_internal_strconv_uint64pow10), ("winch/winchref02.signs", laid_winch_winchref02_signs), ("winch/winchref02.ops", laid_winch_winchref02_ops), ("strconv.ErrRange", laid_strconv_ErrRange), ("strconv.ErrSyntax", laid_strconv_ErrSyntax), ("winch/ast.shapes", laid_winch_ast_shapes)] }
def SyntaxTextsSaid : Prop := syntaxTextsRow.holds Tryz.pinned (OpenSpec.ofChange syntaxTextsSpec)

/-- ITS FALSE NEIGHBOUR: 'it returns false'. Refute it at one input. -/
def syntaxTextsWrong : ChangeSpec := { name := "syntaxTexts", fn := fun _ => fun
  | [d] => { results := [.lit (.bool false)], args := [d] }
  | _ => none }
def SyntaxTextsWrongFalsely : Prop := syntaxTextsRow.holds Tryz.pinned (OpenSpec.ofChange syntaxTextsWrong)

/-- 'winchlaw02.SyntaxParts': WHATEVER THE INPUT: true; the input reads as it did. -/
def syntaxPartsSpec : ChangeSpec := { name := "syntaxParts", fn := fun _ => fun
  | [d1, d2] => { results := [.lit (.bool true)], args := [d1, d2] }
  | _ => none }
def syntaxPartsRow : OpenClaim := { program := "ytkodnhngllfemaagreatdoor", sum := "f5290ffd7d83000c22483a5fdc8b5fdf03ed7acbcfd0486f06dfe070f4757823", func := "winch/winchlaw02.SyntaxParts", spec := "syntaxParts", inPlace := ["internal/bytealg.IndexByteString"], unfollowed := true, recurses := true, named := ["strconv.ErrSyntax", "strconv.ErrRange", "internal/strconv.uint64pow10", "math/bits.deBruijn32tab", "math/bits.deBruijn64tab", "winch/ast.shapes"], apart := false, laid := [("math/bits.deBruijn32tab", laid_math_bits_deBruijn32tab), ("math/bits.deBruijn64tab", laid_math_bits_deBruijn64tab), ("internal/strconv.uint64pow10", laid_internal_strconv_uint64pow10), ("strconv.ErrRange", laid_strconv_ErrRange), ("strconv.ErrSyntax", laid_strconv_ErrSyntax), ("winch/ast.shapes", laid_winch_ast_shapes)] }
def SyntaxPartsSaid : Prop := syntaxPartsRow.holds Tryz.pinned (OpenSpec.ofChange syntaxPartsSpec)

/-- ITS FALSE NEIGHBOUR: 'it returns false'. Refute it at one input. -/
def syntaxPartsWrong : ChangeSpec := { name := "syntaxParts", fn := fun _ => fun
  | [d1, d2] => { results := [.lit (.bool false)], args := [d1, d2] }
  | _ => none }
def SyntaxPartsWrongFalsely : Prop := syntaxPartsRow.holds Tryz.pinned (OpenSpec.ofChange syntaxPartsWrong)

/-- 'winchlaw02.SyntaxBefore': WHATEVER THE INPUT: true; the input reads as it did. -/
def syntaxBeforeSpec : ChangeSpec := { name := "syntaxBefore", fn := fun _ => fun
  | [d1, d2] => { results := [.lit (.bool true)], args := [d1, d2] }
  | _ => none }
def syntaxBeforeRow : OpenClaim := { program := "ytkodnhngllfemaagreatdoor", sum := "f5290ffd7d83000c22483a5fdc8b5fdf03ed7acbcfd0486f06dfe070f4757823", func := "winch/winchlaw02.SyntaxBefore", spec := "syntaxBefore", inPlace := ["internal/bytealg.IndexByteString"], unfollowed := true, recurses := true, named := ["strconv.ErrSyntax", "strconv.ErrRange", "internal/strconv.uint64pow10", "math/bits.deBruijn32tab", "math/bits.deBruijn64tab", "winch/ast.shapes"], apart := false, laid := [("math/bits.deBruijn32tab", laid_math_bits_deBruijn32tab), ("math/bits.deBruijn64tab", laid_math_bits_deBruijn64tab), ("internal/strconv.uint64pow10", laid_internal_strconv_uint64pow10), ("strconv.ErrRange", laid_strconv_ErrRange), ("strconv.ErrSyntax", laid_strconv_ErrSyntax), ("winch/ast.shapes", laid_winch_ast_shapes)] }
def SyntaxBeforeSaid : Prop := syntaxBeforeRow.holds Tryz.pinned (OpenSpec.ofChange syntaxBeforeSpec)

/-- ITS FALSE NEIGHBOUR: 'it returns false'. Refute it at one input. -/
def syntaxBeforeWrong : ChangeSpec := { name := "syntaxBefore", fn := fun _ => fun
  | [d1, d2] => { results := [.lit (.bool false)], args := [d1, d2] }
  | _ => none }
def SyntaxBeforeWrongFalsely : Prop := syntaxBeforeRow.holds Tryz.pinned (OpenSpec.ofChange syntaxBeforeWrong)

/-- 'winchlaw02.SyntaxChecks': WHATEVER THE INPUT: true; the input reads as it did. -/
def syntaxChecksSpec : ChangeSpec := { name := "syntaxChecks", fn := fun _ => fun
  | [d] => { results := [.lit (.bool true)], args := [d] }
  | _ => none }
def syntaxChecksRow : OpenClaim := { program := "ytkodnhngllfemaagreatdoor", sum := "f5290ffd7d83000c22483a5fdc8b5fdf03ed7acbcfd0486f06dfe070f4757823", func := "winch/winchlaw02.SyntaxChecks", spec := "syntaxChecks", inPlace := ["internal/bytealg.IndexByteString"], unfollowed := true, recurses := true, named := ["strconv.ErrSyntax", "strconv.ErrRange", "internal/strconv.uint64pow10", "math/bits.deBruijn32tab", "math/bits.deBruijn64tab", "winch/ast.shapes"], loops := true, apart := false, laid := [("math/bits.deBruijn32tab", laid_math_bits_deBruijn32tab), ("math/bits.deBruijn64tab", laid_math_bits_deBruijn64tab), ("internal/strconv.uint64pow10", laid_internal_strconv_uint64pow10), ("strconv.ErrRange", laid_strconv_ErrRange), ("strconv.ErrSyntax", laid_strconv_ErrSyntax), ("winch/ast.shapes", laid_winch_ast_shapes)] }
def SyntaxChecksSaid : Prop := syntaxChecksRow.holds Tryz.pinned (OpenSpec.ofChange syntaxChecksSpec)

/-- ITS FALSE NEIGHBOUR: 'it returns false'. Refute it at one input. -/
def syntaxChecksWrong : ChangeSpec := { name := "syntaxChecks", fn := fun _ => fun
  | [d] => { results := [.lit (.bool false)], args := [d] }
  | _ => none }
def SyntaxChecksWrongFalsely : Prop := syntaxChecksRow.holds Tryz.pinned (OpenSpec.ofChange syntaxChecksWrong)

/-- 'winchlaw02.SyntaxExprs': WHATEVER THE INPUT: true; the input reads as it did. -/
def syntaxExprsSpec : ChangeSpec := { name := "syntaxExprs", fn := fun _ => fun
  | [d] => { results := [.lit (.bool true)], args := [d] }
  | _ => none }
def syntaxExprsRow : OpenClaim := { program := "ytkodnhngllfemaagreatdoor", sum := "f5290ffd7d83000c22483a5fdc8b5fdf03ed7acbcfd0486f06dfe070f4757823", func := "winch/winchlaw02.SyntaxExprs", spec := "syntaxExprs", inPlace := ["internal/bytealg.IndexByteString"], unfollowed := true, recurses := true, named := ["strconv.ErrSyntax", "strconv.ErrRange", "internal/strconv.uint64pow10", "math/bits.deBruijn32tab", "math/bits.deBruijn64tab", "winch/winchref02.signs", "winch/winchref02.ops", "winch/ast.shapes"], apart := false, laid := [("math/bits.deBruijn32tab", laid_math_bits_deBruijn32tab), ("math/bits.deBruijn64tab", laid_math_bits_deBruijn64tab), ("internal/strconv.uint64pow10", laid_internal_strconv_uint64pow10), ("winch/winchref02.signs", laid_winch_winchref02_signs), ("winch/winchref02.ops", laid_winch_winchref02_ops), ("strconv.ErrRange", laid_strconv_ErrRange), ("strconv.ErrSyntax", laid_strconv_ErrSyntax), ("winch/ast.shapes", laid_winch_ast_shapes)] }
def SyntaxExprsSaid : Prop := syntaxExprsRow.holds Tryz.pinned (OpenSpec.ofChange syntaxExprsSpec)

/-- ITS FALSE NEIGHBOUR: 'it returns false'. Refute it at one input. -/
def syntaxExprsWrong : ChangeSpec := { name := "syntaxExprs", fn := fun _ => fun
  | [d] => { results := [.lit (.bool false)], args := [d] }
  | _ => none }
def SyntaxExprsWrongFalsely : Prop := syntaxExprsRow.holds Tryz.pinned (OpenSpec.ofChange syntaxExprsWrong)

/-- 'winchlaw02.SyntaxWrapped': WHATEVER THE INPUT: true; the input reads as it did. -/
def syntaxWrappedSpec : ChangeSpec := { name := "syntaxWrapped", fn := fun _ => fun
  | [d] => { results := [.lit (.bool true)], args := [d] }
  | _ => none }
def syntaxWrappedRow : OpenClaim := { program := "ytkodnhngllfemaagreatdoor", sum := "f5290ffd7d83000c22483a5fdc8b5fdf03ed7acbcfd0486f06dfe070f4757823", func := "winch/winchlaw02.SyntaxWrapped", spec := "syntaxWrapped", inPlace := ["internal/bytealg.IndexByteString"], unfollowed := true, recurses := true, named := ["strconv.ErrSyntax", "strconv.ErrRange", "internal/strconv.uint64pow10", "math/bits.deBruijn32tab", "math/bits.deBruijn64tab", "winch/ast.shapes"], apart := false, laid := [("math/bits.deBruijn32tab", laid_math_bits_deBruijn32tab), ("math/bits.deBruijn64tab", laid_math_bits_deBruijn64tab), ("internal/strconv.uint64pow10", laid_internal_strconv_uint64pow10), ("strconv.ErrRange", laid_strconv_ErrRange), ("strconv.ErrSyntax", laid_strconv_ErrSyntax), ("winch/ast.shapes", laid_winch_ast_shapes)] }
def SyntaxWrappedSaid : Prop := syntaxWrappedRow.holds Tryz.pinned (OpenSpec.ofChange syntaxWrappedSpec)

/-- ITS FALSE NEIGHBOUR: 'it returns false'. Refute it at one input. -/
def syntaxWrappedWrong : ChangeSpec := { name := "syntaxWrapped", fn := fun _ => fun
  | [d] => { results := [.lit (.bool false)], args := [d] }
  | _ => none }
def SyntaxWrappedWrongFalsely : Prop := syntaxWrappedRow.holds Tryz.pinned (OpenSpec.ofChange syntaxWrappedWrong)

/-- 'winchlaw02.SyntaxWell': WHATEVER THE INPUT: true; the input reads as it did. -/
def syntaxWellSpec : ChangeSpec := { name := "syntaxWell", fn := fun _ => fun
  | [d] => { results := [.lit (.bool true)], args := [d] }
  | _ => none }
def syntaxWellRow : OpenClaim := { program := "ytkodnhngllfemaagreatdoor", sum := "f5290ffd7d83000c22483a5fdc8b5fdf03ed7acbcfd0486f06dfe070f4757823", func := "winch/winchlaw02.SyntaxWell", spec := "syntaxWell", inPlace := ["internal/bytealg.IndexByteString"], unfollowed := true, recurses := true, named := ["strconv.ErrSyntax", "strconv.ErrRange", "internal/strconv.uint64pow10", "math/bits.deBruijn32tab", "math/bits.deBruijn64tab", "winch/ast.shapes"], loops := true, apart := false, laid := [("math/bits.deBruijn32tab", laid_math_bits_deBruijn32tab), ("math/bits.deBruijn64tab", laid_math_bits_deBruijn64tab), ("internal/strconv.uint64pow10", laid_internal_strconv_uint64pow10), ("strconv.ErrRange", laid_strconv_ErrRange), ("strconv.ErrSyntax", laid_strconv_ErrSyntax), ("winch/ast.shapes", laid_winch_ast_shapes)] }
def SyntaxWellSaid : Prop := syntaxWellRow.holds Tryz.pinned (OpenSpec.ofChange syntaxWellSpec)

/-- ITS FALSE NEIGHBOUR: 'it returns false'. Refute it at one input. -/
def syntaxWellWrong : ChangeSpec := { name := "syntaxWell", fn := fun _ => fun
  | [d] => { results := [.lit (.bool false)], args := [d] }
  | _ => none }
def SyntaxWellWrongFalsely : Prop := syntaxWellRow.holds Tryz.pinned (OpenSpec.ofChange syntaxWellWrong)

/-- 'winchlaw02.SyntaxSame': WHATEVER THE INPUT: true; the input reads as it did. -/
def syntaxSameSpec : ChangeSpec := { name := "syntaxSame", fn := fun _ => fun
  | [d1, d2, d3] => { results := [.lit (.bool true)], args := [d1, d2, d3] }
  | _ => none }
def syntaxSameRow : OpenClaim := { program := "ytkodnhngllfemaagreatdoor", sum := "f5290ffd7d83000c22483a5fdc8b5fdf03ed7acbcfd0486f06dfe070f4757823", func := "winch/winchlaw02.SyntaxSame", spec := "syntaxSame", inPlace := ["internal/bytealg.IndexByteString"], unfollowed := true, recurses := true, named := ["strconv.ErrSyntax", "strconv.ErrRange", "internal/strconv.uint64pow10", "math/bits.deBruijn32tab", "math/bits.deBruijn64tab", "winch/ast.shapes"], loops := true, apart := false, laid := [("math/bits.deBruijn32tab", laid_math_bits_deBruijn32tab), ("math/bits.deBruijn64tab", laid_math_bits_deBruijn64tab), ("internal/strconv.uint64pow10", laid_internal_strconv_uint64pow10), ("strconv.ErrRange", laid_strconv_ErrRange), ("strconv.ErrSyntax", laid_strconv_ErrSyntax), ("winch/ast.shapes", laid_winch_ast_shapes)] }
def SyntaxSameSaid : Prop := syntaxSameRow.holds Tryz.pinned (OpenSpec.ofChange syntaxSameSpec)

/-- ITS FALSE NEIGHBOUR: 'it returns false'. Refute it at one input. -/
def syntaxSameWrong : ChangeSpec := { name := "syntaxSame", fn := fun _ => fun
  | [d1, d2, d3] => { results := [.lit (.bool false)], args := [d1, d2, d3] }
  | _ => none }
def SyntaxSameWrongFalsely : Prop := syntaxSameRow.holds Tryz.pinned (OpenSpec.ofChange syntaxSameWrong)

/-- 'winchlaw02.SyntaxJoined': WHATEVER THE INPUT: true; the input reads as it did. -/
def syntaxJoinedSpec : ChangeSpec := { name := "syntaxJoined", fn := fun _ => fun
  | [d] => { results := [.lit (.bool true)], args := [d] }
  | _ => none }
def syntaxJoinedRow : OpenClaim := { program := "ytkodnhngllfemaagreatdoor", sum := "f5290ffd7d83000c22483a5fdc8b5fdf03ed7acbcfd0486f06dfe070f4757823", func := "winch/winchlaw02.SyntaxJoined", spec := "syntaxJoined", inPlace := ["internal/bytealg.IndexByteString", "internal/abi.NoEscape", "internal/bytealg.MakeNoZero"], unfollowed := true, recurses := true, named := ["strconv.ErrSyntax", "strconv.ErrRange", "internal/strconv.uint64pow10", "math/bits.deBruijn32tab", "math/bits.deBruijn64tab", "winch/ast.shapes"], apart := false, laid := [("math/bits.deBruijn32tab", laid_math_bits_deBruijn32tab), ("math/bits.deBruijn64tab", laid_math_bits_deBruijn64tab), ("internal/strconv.uint64pow10", laid_internal_strconv_uint64pow10), ("strconv.ErrRange", laid_strconv_ErrRange), ("strconv.ErrSyntax", laid_strconv_ErrSyntax), ("winch/ast.shapes", laid_winch_ast_shapes)] }
def SyntaxJoinedSaid : Prop := syntaxJoinedRow.holds Tryz.pinned (OpenSpec.ofChange syntaxJoinedSpec)

/-- ITS FALSE NEIGHBOUR: 'it returns false'. Refute it at one input. -/
def syntaxJoinedWrong : ChangeSpec := { name := "syntaxJoined", fn := fun _ => fun
  | [d] => { results := [.lit (.bool false)], args := [d] }
  | _ => none }
def SyntaxJoinedWrongFalsely : Prop := syntaxJoinedRow.holds Tryz.pinned (OpenSpec.ofChange syntaxJoinedWrong)

/- THE SECOND FORM. 'bulk': how many values and letters a reading holds, each counted each time it is reached (what is shared counts as often as it is met; a slice's spare places count too). A statement '..UptoSaid' is the law's where the arguments, and the package variables that the reading takes, are together of bulk at most 1048576: NARROWER than '..Said'. Prove '..Said' where nothing that the law and all that it calls make is longer than what came in: it says more and counts as full. Else prove '..UptoSaid'. A law counts once. -/
mutual
def uptoBulk {H : Type} : DataW H → Nat
  | .lit (.string bytes) => bytes.length + 1
  | .lit _ => 1
  | .nil => 1
  | .ptr d => uptoBulk d + 1
  | .slice elems spare => uptoBulkAll elems + uptoBulkAll spare + 1
  | .agg parts => uptoBulkAll parts + 1
  | .iface _ d => uptoBulk d + 1
  | .map entries => uptoBulkEntries entries + 1
  | .held _ => 1
def uptoBulkAll {H : Type} : List (DataW H) → Nat
  | [] => 0
  | d :: r => uptoBulk d + uptoBulkAll r
def uptoBulkEntries {H : Type} : List (Lit × DataW H) → Nat
  | [] => 0
  | x :: r => uptoBulkEntry x + uptoBulkEntries r
def uptoBulkEntry {H : Type} : Lit × DataW H → Nat
  | (.string bytes, d) => bytes.length + uptoBulk d + 1
  | (_, d) => uptoBulk d + 1
 end
def uptoSmall : (H : Type) → List (DataW H) → Bool := fun _ ds => decide (uptoBulkAll ds ≤ 1048576)
def OpenSpec.upto (s : _root_.Go.ChangeSpec) : _root_.Go.OpenSpec := { _root_.Go.OpenSpec.ofChange s with cond := some uptoSmall }

/-- 'winchlaw02.SyntaxTexts', WHERE WHAT IT READS IS OF BULK AT MOST 1048576: true; the input reads as it did. -/
def syntaxTextsUptoRow : OpenClaim := { program := "ytkodnhngllfemaagreatdoor", sum := "f5290ffd7d83000c22483a5fdc8b5fdf03ed7acbcfd0486f06dfe070f4757823", func := "winch/winchlaw02.SyntaxTexts", spec := "syntaxTexts", inPlace := ["internal/bytealg.IndexByteString"], unfollowed := true, recurses := true, named := ["strconv.ErrSyntax", "strconv.ErrRange", "internal/strconv.uint64pow10", "math/bits.deBruijn32tab", "math/bits.deBruijn64tab", "winch/ast.shapes", "winch/winchref02.signs", "winch/winchref02.ops"], apart := false, laid := [("math/bits.deBruijn32tab", laid_math_bits_deBruijn32tab), ("math/bits.deBruijn64tab", laid_math_bits_deBruijn64tab), ("internal/strconv.uint64pow10", laid_internal_strconv_uint64pow10), ("winch/winchref02.signs", laid_winch_winchref02_signs), ("winch/winchref02.ops", laid_winch_winchref02_ops), ("strconv.ErrRange", laid_strconv_ErrRange), ("strconv.ErrSyntax", laid_strconv_ErrSyntax), ("winch/ast.shapes", laid_winch_ast_shapes)], narrowed := true }
def SyntaxTextsUptoSaid : Prop := syntaxTextsUptoRow.holds Tryz.pinned (OpenSpec.upto syntaxTextsSpec)

/-- 'winchlaw02.SyntaxParts', WHERE WHAT IT READS IS OF BULK AT MOST 1048576: true; the input reads as it did. -/
def syntaxPartsUptoRow : OpenClaim := { program := "ytkodnhngllfemaagreatdoor", sum := "f5290ffd7d83000c22483a5fdc8b5fdf03ed7acbcfd0486f06dfe070f4757823", func := "winch/winchlaw02.SyntaxParts", spec := "syntaxParts", inPlace := ["internal/bytealg.IndexByteString"], unfollowed := true, recurses := true, named := ["strconv.ErrSyntax", "strconv.ErrRange", "internal/strconv.uint64pow10", "math/bits.deBruijn32tab", "math/bits.deBruijn64tab", "winch/ast.shapes"], apart := false, laid := [("math/bits.deBruijn32tab", laid_math_bits_deBruijn32tab), ("math/bits.deBruijn64tab", laid_math_bits_deBruijn64tab), ("internal/strconv.uint64pow10", laid_internal_strconv_uint64pow10), ("strconv.ErrRange", laid_strconv_ErrRange), ("strconv.ErrSyntax", laid_strconv_ErrSyntax), ("winch/ast.shapes", laid_winch_ast_shapes)], narrowed := true }
def SyntaxPartsUptoSaid : Prop := syntaxPartsUptoRow.holds Tryz.pinned (OpenSpec.upto syntaxPartsSpec)

/-- 'winchlaw02.SyntaxBefore', WHERE WHAT IT READS IS OF BULK AT MOST 1048576: true; the input reads as it did. -/
def syntaxBeforeUptoRow : OpenClaim := { program := "ytkodnhngllfemaagreatdoor", sum := "f5290ffd7d83000c22483a5fdc8b5fdf03ed7acbcfd0486f06dfe070f4757823", func := "winch/winchlaw02.SyntaxBefore", spec := "syntaxBefore", inPlace := ["internal/bytealg.IndexByteString"], unfollowed := true, recurses := true, named := ["strconv.ErrSyntax", "strconv.ErrRange", "internal/strconv.uint64pow10", "math/bits.deBruijn32tab", "math/bits.deBruijn64tab", "winch/ast.shapes"], apart := false, laid := [("math/bits.deBruijn32tab", laid_math_bits_deBruijn32tab), ("math/bits.deBruijn64tab", laid_math_bits_deBruijn64tab), ("internal/strconv.uint64pow10", laid_internal_strconv_uint64pow10), ("strconv.ErrRange", laid_strconv_ErrRange), ("strconv.ErrSyntax", laid_strconv_ErrSyntax), ("winch/ast.shapes", laid_winch_ast_shapes)], narrowed := true }
def SyntaxBeforeUptoSaid : Prop := syntaxBeforeUptoRow.holds Tryz.pinned (OpenSpec.upto syntaxBeforeSpec)

/-- 'winchlaw02.SyntaxChecks', WHERE WHAT IT READS IS OF BULK AT MOST 1048576: true; the input reads as it did. -/
def syntaxChecksUptoRow : OpenClaim := { program := "ytkodnhngllfemaagreatdoor", sum := "f5290ffd7d83000c22483a5fdc8b5fdf03ed7acbcfd0486f06dfe070f4757823", func := "winch/winchlaw02.SyntaxChecks", spec := "syntaxChecks", inPlace := ["internal/bytealg.IndexByteString"], unfollowed := true, recurses := true, named := ["strconv.ErrSyntax", "strconv.ErrRange", "internal/strconv.uint64pow10", "math/bits.deBruijn32tab", "math/bits.deBruijn64tab", "winch/ast.shapes"], loops := true, apart := false, laid := [("math/bits.deBruijn32tab", laid_math_bits_deBruijn32tab), ("math/bits.deBruijn64tab", laid_math_bits_deBruijn64tab), ("internal/strconv.uint64pow10", laid_internal_strconv_uint64pow10), ("strconv.ErrRange", laid_strconv_ErrRange), ("strconv.ErrSyntax", laid_strconv_ErrSyntax), ("winch/ast.shapes", laid_winch_ast_shapes)], narrowed := true }
def SyntaxChecksUptoSaid : Prop := syntaxChecksUptoRow.holds Tryz.pinned (OpenSpec.upto syntaxChecksSpec)

/-- 'winchlaw02.SyntaxExprs', WHERE WHAT IT READS IS OF BULK AT MOST 1048576: true; the input reads as it did. -/
def syntaxExprsUptoRow : OpenClaim := { program := "ytkodnhngllfemaagreatdoor", sum := "f5290ffd7d83000c22483a5fdc8b5fdf03ed7acbcfd0486f06dfe070f4757823", func := "winch/winchlaw02.SyntaxExprs", spec := "syntaxExprs", inPlace := ["internal/bytealg.IndexByteString"], unfollowed := true, recurses := true, named := ["strconv.ErrSyntax", "strconv.ErrRange", "internal/strconv.uint64pow10", "math/bits.deBruijn32tab", "math/bits.deBruijn64tab", "winch/winchref02.signs", "winch/winchref02.ops", "winch/ast.shapes"], apart := false, laid := [("math/bits.deBruijn32tab", laid_math_bits_deBruijn32tab), ("math/bits.deBruijn64tab", laid_math_bits_deBruijn64tab), ("internal/strconv.uint64pow10", laid_internal_strconv_uint64pow10), ("winch/winchref02.signs", laid_winch_winchref02_signs), ("winch/winchref02.ops", laid_winch_winchref02_ops), ("strconv.ErrRange", laid_strconv_ErrRange), ("strconv.ErrSyntax", laid_strconv_ErrSyntax), ("winch/ast.shapes", laid_winch_ast_shapes)], narrowed := true }
def SyntaxExprsUptoSaid : Prop := syntaxExprsUptoRow.holds Tryz.pinned (OpenSpec.upto syntaxExprsSpec)

/-- 'winchlaw02.SyntaxWrapped', WHERE WHAT IT READS IS OF BULK AT MOST 1048576: true; the input reads as it did. -/
def syntaxWrappedUptoRow : OpenClaim := { program := "ytkodnhngllfemaagreatdoor", sum := "f5290ffd7d83000c22483a5fdc8b5fdf03ed7acbcfd0486f06dfe070f4757823", func := "winch/winchlaw02.SyntaxWrapped", spec := "syntaxWrapped", inPlace := ["internal/bytealg.IndexByteString"], unfollowed := true, recurses := true, named := ["strconv.ErrSyntax", "strconv.ErrRange", "internal/strconv.uint64pow10", "math/bits.deBruijn32tab", "math/bits.deBruijn64tab", "winch/ast.shapes"], apart := false, laid := [("math/bits.deBruijn32tab", laid_math_bits_deBruijn32tab), ("math/bits.deBruijn64tab", laid_math_bits_deBruijn64tab), ("internal/strconv.uint64pow10", laid_internal_strconv_uint64pow10), ("strconv.ErrRange", laid_strconv_ErrRange), ("strconv.ErrSyntax", laid_strconv_ErrSyntax), ("winch/ast.shapes", laid_winch_ast_shapes)], narrowed := true }
def SyntaxWrappedUptoSaid : Prop := syntaxWrappedUptoRow.holds Tryz.pinned (OpenSpec.upto syntaxWrappedSpec)

/-- 'winchlaw02.SyntaxWell', WHERE WHAT IT READS IS OF BULK AT MOST 1048576: true; the input reads as it did. -/
def syntaxWellUptoRow : OpenClaim := { program := "ytkodnhngllfemaagreatdoor", sum := "f5290ffd7d83000c22483a5fdc8b5fdf03ed7acbcfd0486f06dfe070f4757823", func := "winch/winchlaw02.SyntaxWell", spec := "syntaxWell", inPlace := ["internal/bytealg.IndexByteString"], unfollowed := true, recurses := true, named := ["strconv.ErrSyntax", "strconv.ErrRange", "internal/strconv.uint64pow10", "math/bits.deBruijn32tab", "math/bits.deBruijn64tab", "winch/ast.shapes"], loops := true, apart := false, laid := [("math/bits.deBruijn32tab", laid_math_bits_deBruijn32tab), ("math/bits.deBruijn64tab", laid_math_bits_deBruijn64tab), ("internal/strconv.uint64pow10", laid_internal_strconv_uint64pow10), ("strconv.ErrRange", laid_strconv_ErrRange), ("strconv.ErrSyntax", laid_strconv_ErrSyntax), ("winch/ast.shapes", laid_winch_ast_shapes)], narrowed := true }
def SyntaxWellUptoSaid : Prop := syntaxWellUptoRow.holds Tryz.pinned (OpenSpec.upto syntaxWellSpec)

/-- 'winchlaw02.SyntaxSame', WHERE WHAT IT READS IS OF BULK AT MOST 1048576: true; the input reads as it did. -/
def syntaxSameUptoRow : OpenClaim := { program := "ytkodnhngllfemaagreatdoor", sum := "f5290ffd7d83000c22483a5fdc8b5fdf03ed7acbcfd0486f06dfe070f4757823", func := "winch/winchlaw02.SyntaxSame", spec := "syntaxSame", inPlace := ["internal/bytealg.IndexByteString"], unfollowed := true, recurses := true, named := ["strconv.ErrSyntax", "strconv.ErrRange", "internal/strconv.uint64pow10", "math/bits.deBruijn32tab", "math/bits.deBruijn64tab", "winch/ast.shapes"], loops := true, apart := false, laid := [("math/bits.deBruijn32tab", laid_math_bits_deBruijn32tab), ("math/bits.deBruijn64tab", laid_math_bits_deBruijn64tab), ("internal/strconv.uint64pow10", laid_internal_strconv_uint64pow10), ("strconv.ErrRange", laid_strconv_ErrRange), ("strconv.ErrSyntax", laid_strconv_ErrSyntax), ("winch/ast.shapes", laid_winch_ast_shapes)], narrowed := true }
def SyntaxSameUptoSaid : Prop := syntaxSameUptoRow.holds Tryz.pinned (OpenSpec.upto syntaxSameSpec)

/-- 'winchlaw02.SyntaxJoined', WHERE WHAT IT READS IS OF BULK AT MOST 1048576: true; the input reads as it did. -/
def syntaxJoinedUptoRow : OpenClaim := { program := "ytkodnhngllfemaagreatdoor", sum := "f5290ffd7d83000c22483a5fdc8b5fdf03ed7acbcfd0486f06dfe070f4757823", func := "winch/winchlaw02.SyntaxJoined", spec := "syntaxJoined", inPlace := ["internal/bytealg.IndexByteString", "internal/abi.NoEscape", "internal/bytealg.MakeNoZero"], unfollowed := true, recurses := true, named := ["strconv.ErrSyntax", "strconv.ErrRange", "internal/strconv.uint64pow10", "math/bits.deBruijn32tab", "math/bits.deBruijn64tab", "winch/ast.shapes"], apart := false, laid := [("math/bits.deBruijn32tab", laid_math_bits_deBruijn32tab), ("math/bits.deBruijn64tab", laid_math_bits_deBruijn64tab), ("internal/strconv.uint64pow10", laid_internal_strconv_uint64pow10), ("strconv.ErrRange", laid_strconv_ErrRange), ("strconv.ErrSyntax", laid_strconv_ErrSyntax), ("winch/ast.shapes", laid_winch_ast_shapes)], narrowed := true }
def SyntaxJoinedUptoSaid : Prop := syntaxJoinedUptoRow.holds Tryz.pinned (OpenSpec.upto syntaxJoinedSpec)

end Rows
end Go.Proofs.YtkodnhngllfemaaGreatDoor
