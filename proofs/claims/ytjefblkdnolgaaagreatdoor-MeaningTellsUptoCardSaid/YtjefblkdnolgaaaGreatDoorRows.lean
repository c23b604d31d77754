/-
  NARROWER THAN 'FOR EVERY INPUT', by the rows' own cells (each row's printed sentence says how): PatternForgets: loops, laid · PatternKeys: loops, laid · PatternOrder: loops, laid · MeaningTells: loops, laid · MeaningLinear: loops, laid · MeaningRows: loops, laid · MeaningBack: loops, laid · PatternTells: loops, laid · PatternBack: loops, laid · JoinSums: loops, laid · PatternSums: loops, laid.
  DERIVED. THE GIVEN ROWS OF THIS SEAT. 11 by the template 'for every input the law returns true; each argument reads behind the call as it read before'; 0 by the template 'total and deterministic' (their statements: YtjefblkdnolgaaaGreatDoorTotals.lean).
  GIVEN WITH THE SEED: the statements are not yours to turn. If you find one false, say at which input.
  Laid BY PROGRAM, IN A SANDBOX (cutbox-rows.mjs): the forced cells as the released guide's own fill.sh prints them over the translation 2f635b48d7b8be3c… (all of the seat's roots in one cut). By AI agents, Wed Nov 11 2026. No macro, syntax, notation, axiom, sorry.
-/
import Derived.Test.YtjefblkdnolgaaaGreatDoorChecked
import GoSem.Claim
import GoSem.ClaimJoined
import GoSem.ClaimMapViews
import Derived.JoinedTies
import Derived.KernelRfl
namespace Go.Proofs.YtjefblkdnolgaaaGreatDoor
/- THE CELL 'sum', in the pinned program and in every row, IS THE sha256 OF THE DUMP (.gsa) THAT YtjefblkdnolgaaaGreatDoorProg.lean LOADS. Nothing in Lean hashes anything: it is a label: what it is worth is what the hold of that sum in a sandbox is worth. -/
noncomputable def Tryz.pinned : Pinned := { name := "ytjefblkdnolgaaagreatdoor", sum := "2f635b48d7b8be3c1c4cefd5ae459ee30fada7654063f493cd4df0d5dbb74c04", checked := Tryz.checked }
namespace Rows
def none {H : Type} : Left H := { results := [], args := [] }

/- WHAT THE LISTED PACKAGE-LEVEL VARIABLES READ AS WHEN THE CALL BEGINS. Each datum BY PROGRAM (the guide's laid-datum.mjs) off the statement by which the dump's own 'gosem.cut.vars' lays the variable. In a bare row this is a premise. The card (YtjefblkdnolgaaaGreatDoorCards.lean) ties it to the program's text. -/
def laid_math_bits_deBruijn32tab {H : Type} : DataW H := .agg [.lit (.int .u8 0), .lit (.int .u8 1), .lit (.int .u8 28), .lit (.int .u8 2), .lit (.int .u8 29), .lit (.int .u8 14), .lit (.int .u8 24), .lit (.int .u8 3), .lit (.int .u8 30), .lit (.int .u8 22), .lit (.int .u8 20), .lit (.int .u8 15), .lit (.int .u8 25), .lit (.int .u8 17), .lit (.int .u8 4), .lit (.int .u8 8), .lit (.int .u8 31), .lit (.int .u8 27), .lit (.int .u8 13), .lit (.int .u8 23), .lit (.int .u8 21), .lit (.int .u8 19), .lit (.int .u8 16), .lit (.int .u8 7), .lit (.int .u8 26), .lit (.int .u8 12), .lit (.int .u8 18), .lit (.int .u8 6), .lit (.int .u8 11), .lit (.int .u8 5), .lit (.int .u8 10), .lit (.int .u8 9)]
def laid_math_bits_deBruijn64tab {H : Type} : DataW H := .agg [.lit (.int .u8 0), .lit (.int .u8 1), .lit (.int .u8 56), .lit (.int .u8 2), .lit (.int .u8 57), .lit (.int .u8 49), .lit (.int .u8 28), .lit (.int .u8 3), .lit (.int .u8 61), .lit (.int .u8 58), .lit (.int .u8 42), .lit (.int .u8 50), .lit (.int .u8 38), .lit (.int .u8 29), .lit (.int .u8 17), .lit (.int .u8 4), .lit (.int .u8 62), .lit (.int .u8 47), .lit (.int .u8 59), .lit (.int .u8 36), .lit (.int .u8 45), .lit (.int .u8 43), .lit (.int .u8 51), .lit (.int .u8 22), .lit (.int .u8 53), .lit (.int .u8 39), .lit (.int .u8 33), .lit (.int .u8 30), .lit (.int .u8 24), .lit (.int .u8 18), .lit (.int .u8 12), .lit (.int .u8 5), .lit (.int .u8 63), .lit (.int .u8 55), .lit (.int .u8 48), .lit (.int .u8 27), .lit (.int .u8 60), .lit (.int .u8 41), .lit (.int .u8 37), .lit (.int .u8 16), .lit (.int .u8 46), .lit (.int .u8 35), .lit (.int .u8 44), .lit (.int .u8 21), .lit (.int .u8 52), .lit (.int .u8 32), .lit (.int .u8 23), .lit (.int .u8 11), .lit (.int .u8 54), .lit (.int .u8 26), .lit (.int .u8 40), .lit (.int .u8 15), .lit (.int .u8 34), .lit (.int .u8 20), .lit (.int .u8 31), .lit (.int .u8 10), .lit (.int .u8 25), .lit (.int .u8 14), .lit (.int .u8 19), .lit (.int .u8 9), .lit (.int .u8 13), .lit (.int .u8 8), .lit (.int .u8 7), .lit (.int .u8 6)]
def laid_internal_strconv_uint64pow10 {H : Type} : DataW H := .agg [.lit (.int .u64 1), .lit (.int .u64 10), .lit (.int .u64 100), .lit (.int .u64 1000), .lit (.int .u64 10000), .lit (.int .u64 100000), .lit (.int .u64 1000000), .lit (.int .u64 10000000), .lit (.int .u64 100000000), .lit (.int .u64 1000000000), .lit (.int .u64 10000000000), .lit (.int .u64 100000000000), .lit (.int .u64 1000000000000), .lit (.int .u64 10000000000000), .lit (.int .u64 100000000000000), .lit (.int .u64 1000000000000000), .lit (.int .u64 10000000000000000), .lit (.int .u64 100000000000000000), .lit (.int .u64 1000000000000000000), .lit (.int .u64 10000000000000000000)]
def laid_strconv_ErrRange {H : Type} : DataW H := .iface "*errors.errorString" (.ptr (.agg [.lit (.string [118, 97, 108, 117, 101, 32, 111, 117, 116, 32, 111, 102, 32, 114, 97, 110, 103, 101])]))
def laid_strconv_ErrSyntax {H : Type} : DataW H := .iface "*errors.errorString" (.ptr (.agg [.lit (.string [105, 110, 118, 97, 108, 105, 100, 32, 115, 121, 110, 116, 97, 120])]))

/-- 'erratalaw33.PatternForgets': WHATEVER THE INPUT: true; the input reads as it did. -/
def patternForgetsSpec : ChangeSpec := { name := "patternForgets", fn := fun _ => fun
  | [d1, d2, d3, d4] => { results := [.lit (.bool true)], args := [d1, d2, d3, d4] }
  | _ => none }
def patternForgetsRow : OpenClaim := { program := "ytjefblkdnolgaaagreatdoor", sum := "2f635b48d7b8be3c1c4cefd5ae459ee30fada7654063f493cd4df0d5dbb74c04", func := "errata/erratalaw33.PatternForgets", spec := "patternForgets", inPlace := ["internal/bytealg.abigen_runtime_cmpstring", "internal/abi.NoEscape"], unfollowed := true, recurses := true, named := ["internal/strconv.uint64pow10", "math/bits.deBruijn32tab", "math/bits.deBruijn64tab"], loops := true, apart := false, laid := [("math/bits.deBruijn32tab", laid_math_bits_deBruijn32tab), ("math/bits.deBruijn64tab", laid_math_bits_deBruijn64tab), ("internal/strconv.uint64pow10", laid_internal_strconv_uint64pow10)] }
def PatternForgetsSaid : Prop := patternForgetsRow.holds Tryz.pinned (OpenSpec.ofChange patternForgetsSpec)

/-- ITS FALSE NEIGHBOUR: 'it returns false'. Refute it at one input. -/
def patternForgetsWrong : ChangeSpec := { name := "patternForgets", fn := fun _ => fun
  | [d1, d2, d3, d4] => { results := [.lit (.bool false)], args := [d1, d2, d3, d4] }
  | _ => none }
def PatternForgetsWrongFalsely : Prop := patternForgetsRow.holds Tryz.pinned (OpenSpec.ofChange patternForgetsWrong)

/-- 'erratalaw33.PatternKeys': WHATEVER THE INPUT: true; the input reads as it did. -/
def patternKeysSpec : ChangeSpec := { name := "patternKeys", fn := fun _ => fun
  | [d1, d2, d3, d4] => { results := [.lit (.bool true)], args := [d1, d2, d3, d4] }
  | _ => none }
def patternKeysRow : OpenClaim := { program := "ytjefblkdnolgaaagreatdoor", sum := "2f635b48d7b8be3c1c4cefd5ae459ee30fada7654063f493cd4df0d5dbb74c04", func := "errata/erratalaw33.PatternKeys", spec := "patternKeys", inPlace := ["internal/bytealg.abigen_runtime_cmpstring", "internal/abi.NoEscape"], unfollowed := true, recurses := true, named := ["internal/strconv.uint64pow10", "math/bits.deBruijn32tab", "math/bits.deBruijn64tab"], loops := true, apart := false, laid := [("math/bits.deBruijn32tab", laid_math_bits_deBruijn32tab), ("math/bits.deBruijn64tab", laid_math_bits_deBruijn64tab), ("internal/strconv.uint64pow10", laid_internal_strconv_uint64pow10)] }
def PatternKeysSaid : Prop := patternKeysRow.holds Tryz.pinned (OpenSpec.ofChange patternKeysSpec)

/-- ITS FALSE NEIGHBOUR: 'it returns false'. Refute it at one input. -/
def patternKeysWrong : ChangeSpec := { name := "patternKeys", fn := fun _ => fun
  | [d1, d2, d3, d4] => { results := [.lit (.bool false)], args := [d1, d2, d3, d4] }
  | _ => none }
def PatternKeysWrongFalsely : Prop := patternKeysRow.holds Tryz.pinned (OpenSpec.ofChange patternKeysWrong)

/-- 'erratalaw33.PatternOrder': WHATEVER THE INPUT: true; the input reads as it did. -/
def patternOrderSpec : ChangeSpec := { name := "patternOrder", fn := fun _ => fun
  | [d1, d2, d3, d4] => { results := [.lit (.bool true)], args := [d1, d2, d3, d4] }
  | _ => none }
def patternOrderRow : OpenClaim := { program := "ytjefblkdnolgaaagreatdoor", sum := "2f635b48d7b8be3c1c4cefd5ae459ee30fada7654063f493cd4df0d5dbb74c04", func := "errata/erratalaw33.PatternOrder", spec := "patternOrder", inPlace := ["internal/bytealg.abigen_runtime_cmpstring", "internal/abi.NoEscape"], unfollowed := true, recurses := true, named := ["internal/strconv.uint64pow10", "math/bits.deBruijn32tab", "math/bits.deBruijn64tab"], loops := true, apart := false, laid := [("math/bits.deBruijn32tab", laid_math_bits_deBruijn32tab), ("math/bits.deBruijn64tab", laid_math_bits_deBruijn64tab), ("internal/strconv.uint64pow10", laid_internal_strconv_uint64pow10)] }
def PatternOrderSaid : Prop := patternOrderRow.holds Tryz.pinned (OpenSpec.ofChange patternOrderSpec)

/-- ITS FALSE NEIGHBOUR: 'it returns false'. Refute it at one input. -/
def patternOrderWrong : ChangeSpec := { name := "patternOrder", fn := fun _ => fun
  | [d1, d2, d3, d4] => { results := [.lit (.bool false)], args := [d1, d2, d3, d4] }
  | _ => none }
def PatternOrderWrongFalsely : Prop := patternOrderRow.holds Tryz.pinned (OpenSpec.ofChange patternOrderWrong)

/-- 'erratalaw21.MeaningTells': WHATEVER THE INPUT: true; the input reads as it did. -/
def meaningTellsSpec : ChangeSpec := { name := "meaningTells", fn := fun _ => fun
  | [d1, d2, d3, d4, d5] => { results := [.lit (.bool true)], args := [d1, d2, d3, d4, d5] }
  | _ => none }
def meaningTellsRow : OpenClaim := { program := "ytjefblkdnolgaaagreatdoor", sum := "2f635b48d7b8be3c1c4cefd5ae459ee30fada7654063f493cd4df0d5dbb74c04", func := "errata/erratalaw21.MeaningTells", spec := "meaningTells", inPlace := ["internal/bytealg.abigen_runtime_cmpstring", "internal/abi.NoEscape"], unfollowed := true, recurses := true, named := ["internal/strconv.uint64pow10", "math/bits.deBruijn32tab", "math/bits.deBruijn64tab"], loops := true, apart := false, laid := [("math/bits.deBruijn32tab", laid_math_bits_deBruijn32tab), ("math/bits.deBruijn64tab", laid_math_bits_deBruijn64tab), ("internal/strconv.uint64pow10", laid_internal_strconv_uint64pow10)] }
def MeaningTellsSaid : Prop := meaningTellsRow.holds Tryz.pinned (OpenSpec.ofChange meaningTellsSpec)

/-- ITS FALSE NEIGHBOUR: 'it returns false'. Refute it at one input. -/
def meaningTellsWrong : ChangeSpec := { name := "meaningTells", fn := fun _ => fun
  | [d1, d2, d3, d4, d5] => { results := [.lit (.bool false)], args := [d1, d2, d3, d4, d5] }
  | _ => none }
def MeaningTellsWrongFalsely : Prop := meaningTellsRow.holds Tryz.pinned (OpenSpec.ofChange meaningTellsWrong)

/-- 'erratalaw21.MeaningLinear': WHATEVER THE INPUT: true; the input reads as it did. -/
def meaningLinearSpec : ChangeSpec := { name := "meaningLinear", fn := fun _ => fun
  | [d1, d2, d3, d4, d5, d6] => { results := [.lit (.bool true)], args := [d1, d2, d3, d4, d5, d6] }
  | _ => none }
def meaningLinearRow : OpenClaim := { program := "ytjefblkdnolgaaagreatdoor", sum := "2f635b48d7b8be3c1c4cefd5ae459ee30fada7654063f493cd4df0d5dbb74c04", func := "errata/erratalaw21.MeaningLinear", spec := "meaningLinear", inPlace := ["internal/bytealg.abigen_runtime_cmpstring", "internal/abi.NoEscape"], unfollowed := true, recurses := true, named := ["internal/strconv.uint64pow10", "math/bits.deBruijn32tab", "math/bits.deBruijn64tab"], loops := true, apart := false, laid := [("math/bits.deBruijn32tab", laid_math_bits_deBruijn32tab), ("math/bits.deBruijn64tab", laid_math_bits_deBruijn64tab), ("internal/strconv.uint64pow10", laid_internal_strconv_uint64pow10)] }
def MeaningLinearSaid : Prop := meaningLinearRow.holds Tryz.pinned (OpenSpec.ofChange meaningLinearSpec)

/-- ITS FALSE NEIGHBOUR: 'it returns false'. Refute it at one input. -/
def meaningLinearWrong : ChangeSpec := { name := "meaningLinear", fn := fun _ => fun
  | [d1, d2, d3, d4, d5, d6] => { results := [.lit (.bool false)], args := [d1, d2, d3, d4, d5, d6] }
  | _ => none }
def MeaningLinearWrongFalsely : Prop := meaningLinearRow.holds Tryz.pinned (OpenSpec.ofChange meaningLinearWrong)

/-- 'erratalaw21.MeaningRows': WHATEVER THE INPUT: true; the input reads as it did. -/
def meaningRowsSpec : ChangeSpec := { name := "meaningRows", fn := fun _ => fun
  | [d1, d2, d3, d4, d5] => { results := [.lit (.bool true)], args := [d1, d2, d3, d4, d5] }
  | _ => none }
def meaningRowsRow : OpenClaim := { program := "ytjefblkdnolgaaagreatdoor", sum := "2f635b48d7b8be3c1c4cefd5ae459ee30fada7654063f493cd4df0d5dbb74c04", func := "errata/erratalaw21.MeaningRows", spec := "meaningRows", inPlace := ["internal/bytealg.abigen_runtime_cmpstring", "internal/abi.NoEscape"], unfollowed := true, recurses := true, named := ["internal/strconv.uint64pow10", "math/bits.deBruijn32tab", "math/bits.deBruijn64tab"], loops := true, apart := false, laid := [("math/bits.deBruijn32tab", laid_math_bits_deBruijn32tab), ("math/bits.deBruijn64tab", laid_math_bits_deBruijn64tab), ("internal/strconv.uint64pow10", laid_internal_strconv_uint64pow10)] }
def MeaningRowsSaid : Prop := meaningRowsRow.holds Tryz.pinned (OpenSpec.ofChange meaningRowsSpec)

/-- ITS FALSE NEIGHBOUR: 'it returns false'. Refute it at one input. -/
def meaningRowsWrong : ChangeSpec := { name := "meaningRows", fn := fun _ => fun
  | [d1, d2, d3, d4, d5] => { results := [.lit (.bool false)], args := [d1, d2, d3, d4, d5] }
  | _ => none }
def MeaningRowsWrongFalsely : Prop := meaningRowsRow.holds Tryz.pinned (OpenSpec.ofChange meaningRowsWrong)

/-- 'erratalaw21.MeaningBack': WHATEVER THE INPUT: true; the input reads as it did. -/
def meaningBackSpec : ChangeSpec := { name := "meaningBack", fn := fun _ => fun
  | [d1, d2, d3, d4, d5, d6] => { results := [.lit (.bool true)], args := [d1, d2, d3, d4, d5, d6] }
  | _ => none }
def meaningBackRow : OpenClaim := { program := "ytjefblkdnolgaaagreatdoor", sum := "2f635b48d7b8be3c1c4cefd5ae459ee30fada7654063f493cd4df0d5dbb74c04", func := "errata/erratalaw21.MeaningBack", spec := "meaningBack", inPlace := ["internal/bytealg.abigen_runtime_cmpstring", "internal/abi.NoEscape"], unfollowed := true, recurses := true, named := ["internal/strconv.uint64pow10", "math/bits.deBruijn32tab", "math/bits.deBruijn64tab"], loops := true, apart := false, laid := [("math/bits.deBruijn32tab", laid_math_bits_deBruijn32tab), ("math/bits.deBruijn64tab", laid_math_bits_deBruijn64tab), ("internal/strconv.uint64pow10", laid_internal_strconv_uint64pow10)] }
def MeaningBackSaid : Prop := meaningBackRow.holds Tryz.pinned (OpenSpec.ofChange meaningBackSpec)

/-- ITS FALSE NEIGHBOUR: 'it returns false'. Refute it at one input. -/
def meaningBackWrong : ChangeSpec := { name := "meaningBack", fn := fun _ => fun
  | [d1, d2, d3, d4, d5, d6] => { results := [.lit (.bool false)], args := [d1, d2, d3, d4, d5, d6] }
  | _ => none }
def MeaningBackWrongFalsely : Prop := meaningBackRow.holds Tryz.pinned (OpenSpec.ofChange meaningBackWrong)

/-- 'erratalaw33.PatternTells': WHATEVER THE INPUT: true; the input reads as it did. -/
def patternTellsSpec : ChangeSpec := { name := "patternTells", fn := fun _ => fun
  | [d1, d2, d3, d4, d5] => { results := [.lit (.bool true)], args := [d1, d2, d3, d4, d5] }
  | _ => none }
def patternTellsRow : OpenClaim := { program := "ytjefblkdnolgaaagreatdoor", sum := "2f635b48d7b8be3c1c4cefd5ae459ee30fada7654063f493cd4df0d5dbb74c04", func := "errata/erratalaw33.PatternTells", spec := "patternTells", inPlace := ["internal/bytealg.abigen_runtime_cmpstring", "internal/abi.NoEscape", "internal/bytealg.IndexByteString"], unfollowed := true, recurses := true, named := ["internal/strconv.uint64pow10", "math/bits.deBruijn32tab", "math/bits.deBruijn64tab", "strconv.ErrSyntax", "strconv.ErrRange"], loops := true, apart := false, laid := [("math/bits.deBruijn32tab", laid_math_bits_deBruijn32tab), ("math/bits.deBruijn64tab", laid_math_bits_deBruijn64tab), ("internal/strconv.uint64pow10", laid_internal_strconv_uint64pow10), ("strconv.ErrRange", laid_strconv_ErrRange), ("strconv.ErrSyntax", laid_strconv_ErrSyntax)] }
def PatternTellsSaid : Prop := patternTellsRow.holds Tryz.pinned (OpenSpec.ofChange patternTellsSpec)

/-- ITS FALSE NEIGHBOUR: 'it returns false'. Refute it at one input. -/
def patternTellsWrong : ChangeSpec := { name := "patternTells", fn := fun _ => fun
  | [d1, d2, d3, d4, d5] => { results := [.lit (.bool false)], args := [d1, d2, d3, d4, d5] }
  | _ => none }
def PatternTellsWrongFalsely : Prop := patternTellsRow.holds Tryz.pinned (OpenSpec.ofChange patternTellsWrong)

/-- 'erratalaw33.PatternBack': WHATEVER THE INPUT: true; the input reads as it did. -/
def patternBackSpec : ChangeSpec := { name := "patternBack", fn := fun _ => fun
  | [d1, d2, d3, d4, d5] => { results := [.lit (.bool true)], args := [d1, d2, d3, d4, d5] }
  | _ => none }
def patternBackRow : OpenClaim := { program := "ytjefblkdnolgaaagreatdoor", sum := "2f635b48d7b8be3c1c4cefd5ae459ee30fada7654063f493cd4df0d5dbb74c04", func := "errata/erratalaw33.PatternBack", spec := "patternBack", inPlace := ["internal/bytealg.abigen_runtime_cmpstring", "internal/abi.NoEscape", "internal/bytealg.IndexByteString"], unfollowed := true, recurses := true, named := ["internal/strconv.uint64pow10", "math/bits.deBruijn32tab", "math/bits.deBruijn64tab", "strconv.ErrSyntax", "strconv.ErrRange"], loops := true, apart := false, laid := [("math/bits.deBruijn32tab", laid_math_bits_deBruijn32tab), ("math/bits.deBruijn64tab", laid_math_bits_deBruijn64tab), ("internal/strconv.uint64pow10", laid_internal_strconv_uint64pow10), ("strconv.ErrRange", laid_strconv_ErrRange), ("strconv.ErrSyntax", laid_strconv_ErrSyntax)] }
def PatternBackSaid : Prop := patternBackRow.holds Tryz.pinned (OpenSpec.ofChange patternBackSpec)

/-- ITS FALSE NEIGHBOUR: 'it returns false'. Refute it at one input. -/
def patternBackWrong : ChangeSpec := { name := "patternBack", fn := fun _ => fun
  | [d1, d2, d3, d4, d5] => { results := [.lit (.bool false)], args := [d1, d2, d3, d4, d5] }
  | _ => none }
def PatternBackWrongFalsely : Prop := patternBackRow.holds Tryz.pinned (OpenSpec.ofChange patternBackWrong)

/-- 'erratalaw32.JoinSums': WHATEVER THE INPUT: true; the input reads as it did. -/
def joinSumsSpec : ChangeSpec := { name := "joinSums", fn := fun _ => fun
  | [d1, d2, d3] => { results := [.lit (.bool true)], args := [d1, d2, d3] }
  | _ => none }
def joinSumsRow : OpenClaim := { program := "ytjefblkdnolgaaagreatdoor", sum := "2f635b48d7b8be3c1c4cefd5ae459ee30fada7654063f493cd4df0d5dbb74c04", func := "errata/erratalaw32.JoinSums", spec := "joinSums", inPlace := ["internal/bytealg.abigen_runtime_cmpstring", "internal/abi.NoEscape"], unfollowed := true, recurses := true, named := ["internal/strconv.uint64pow10", "math/bits.deBruijn32tab", "math/bits.deBruijn64tab"], loops := true, apart := false, laid := [("math/bits.deBruijn32tab", laid_math_bits_deBruijn32tab), ("math/bits.deBruijn64tab", laid_math_bits_deBruijn64tab), ("internal/strconv.uint64pow10", laid_internal_strconv_uint64pow10)] }
def JoinSumsSaid : Prop := joinSumsRow.holds Tryz.pinned (OpenSpec.ofChange joinSumsSpec)

/-- ITS FALSE NEIGHBOUR: 'it returns false'. Refute it at one input. -/
def joinSumsWrong : ChangeSpec := { name := "joinSums", fn := fun _ => fun
  | [d1, d2, d3] => { results := [.lit (.bool false)], args := [d1, d2, d3] }
  | _ => none }
def JoinSumsWrongFalsely : Prop := joinSumsRow.holds Tryz.pinned (OpenSpec.ofChange joinSumsWrong)

/-- 'erratalaw33.PatternSums': WHATEVER THE INPUT: true; the input reads as it did. -/
def patternSumsSpec : ChangeSpec := { name := "patternSums", fn := fun _ => fun
  | [d1, d2, d3, d4] => { results := [.lit (.bool true)], args := [d1, d2, d3, d4] }
  | _ => none }
def patternSumsRow : OpenClaim := { program := "ytjefblkdnolgaaagreatdoor", sum := "2f635b48d7b8be3c1c4cefd5ae459ee30fada7654063f493cd4df0d5dbb74c04", func := "errata/erratalaw33.PatternSums", spec := "patternSums", inPlace := ["internal/bytealg.abigen_runtime_cmpstring", "internal/abi.NoEscape"], unfollowed := true, recurses := true, named := ["internal/strconv.uint64pow10", "math/bits.deBruijn32tab", "math/bits.deBruijn64tab"], loops := true, apart := false, laid := [("math/bits.deBruijn32tab", laid_math_bits_deBruijn32tab), ("math/bits.deBruijn64tab", laid_math_bits_deBruijn64tab), ("internal/strconv.uint64pow10", laid_internal_strconv_uint64pow10)] }
def PatternSumsSaid : Prop := patternSumsRow.holds Tryz.pinned (OpenSpec.ofChange patternSumsSpec)

/-- ITS FALSE NEIGHBOUR: 'it returns false'. Refute it at one input. -/
def patternSumsWrong : ChangeSpec := { name := "patternSums", fn := fun _ => fun
  | [d1, d2, d3, d4] => { results := [.lit (.bool false)], args := [d1, d2, d3, d4] }
  | _ => none }
def PatternSumsWrongFalsely : Prop := patternSumsRow.holds Tryz.pinned (OpenSpec.ofChange patternSumsWrong)

/- THE SECOND FORM. 'bulk': how many values and letters a reading holds, each counted each time it is reached (what is shared counts as often as it is met; a slice's spare places count too). A statement '..UptoSaid' is the law's where the arguments, and the package variables that the reading takes, are together of bulk at most 1048576: NARROWER than '..Said'. Prove '..Said' where nothing that the law and all that it calls make is longer than what came in: it says more and counts as full. Else prove '..UptoSaid'. A law counts once. -/
mutual
def uptoBulk {H : Type} : DataW H → Nat
  | .lit (.string bytes) => bytes.length + 1
  | .lit _ => 1
  | .nil => 1
  | .ptr d => uptoBulk d + 1
  | .slice elems spare => uptoBulkAll elems + uptoBulkAll spare + 1
  | .agg parts => uptoBulkAll parts + 1
  | .iface _ d => uptoBulk d + 1
  | .map entries => uptoBulkEntries entries + 1
  | .held _ => 1
def uptoBulkAll {H : Type} : List (DataW H) → Nat
  | [] => 0
  | d :: r => uptoBulk d + uptoBulkAll r
def uptoBulkEntries {H : Type} : List (Lit × DataW H) → Nat
  | [] => 0
  | x :: r => uptoBulkEntry x + uptoBulkEntries r
def uptoBulkEntry {H : Type} : Lit × DataW H → Nat
  | (.string bytes, d) => bytes.length + uptoBulk d + 1
  | (_, d) => uptoBulk d + 1
 end
def uptoSmall : (H : Type) → List (DataW H) → Bool := fun _ ds => decide (uptoBulkAll ds ≤ 1048576)
def OpenSpec.upto (s : _root_.Go.ChangeSpec) : _root_.Go.OpenSpec := { _root_.Go.OpenSpec.ofChange s with cond := some uptoSmall }

/-- 'erratalaw33.PatternForgets', WHERE WHAT IT READS IS OF BULK AT MOST 1048576: true; the input reads as it did. -/
def patternForgetsUptoRow : OpenClaim := { program := "ytjefblkdnolgaaagreatdoor", sum := "2f635b48d7b8be3c1c4cefd5ae459ee30fada7654063f493cd4df0d5dbb74c04", func := "errata/erratalaw33.PatternForgets", spec := "patternForgets", inPlace := ["internal/bytealg.abigen_runtime_cmpstring", "internal/abi.NoEscape"], unfollowed := true, recurses := true, named := ["internal/strconv.uint64pow10", "math/bits.deBruijn32tab", "math/bits.deBruijn64tab"], loops := true, apart := false, laid := [("math/bits.deBruijn32tab", laid_math_bits_deBruijn32tab), ("math/bits.deBruijn64tab", laid_math_bits_deBruijn64tab), ("internal/strconv.uint64pow10", laid_internal_strconv_uint64pow10)], narrowed := true }
def PatternForgetsUptoSaid : Prop := patternForgetsUptoRow.holds Tryz.pinned (OpenSpec.upto patternForgetsSpec)

/-- 'erratalaw33.PatternKeys', WHERE WHAT IT READS IS OF BULK AT MOST 1048576: true; the input reads as it did. -/
def patternKeysUptoRow : OpenClaim := { program := "ytjefblkdnolgaaagreatdoor", sum := "2f635b48d7b8be3c1c4cefd5ae459ee30fada7654063f493cd4df0d5dbb74c04", func := "errata/erratalaw33.PatternKeys", spec := "patternKeys", inPlace := ["internal/bytealg.abigen_runtime_cmpstring", "internal/abi.NoEscape"], unfollowed := true, recurses := true, named := ["internal/strconv.uint64pow10", "math/bits.deBruijn32tab", "math/bits.deBruijn64tab"], loops := true, apart := false, laid := [("math/bits.deBruijn32tab", laid_math_bits_deBruijn32tab), ("math/bits.deBruijn64tab", laid_math_bits_deBruijn64tab), ("internal/strconv.uint64pow10", laid_internal_strconv_uint64pow10)], narrowed := true }
def PatternKeysUptoSaid : Prop := patternKeysUptoRow.holds Tryz.pinned (OpenSpec.upto patternKeysSpec)

/-- 'erratalaw33.PatternOrder', WHERE WHAT IT READS IS OF BULK AT MOST 1048576: true; the input reads as it did. -/
def patternOrderUptoRow : OpenClaim := { program := "ytjefblkdnolgaaagreatdoor", sum := "2f635b48d7b8be3c1c4cefd5ae459ee30fada7654063f493cd4df0d5dbb74c04", func := "errata/erratalaw33.PatternOrder", spec := "patternOrder", inPlace := ["internal/bytealg.abigen_runtime_cmpstring", "internal/abi.NoEscape"], unfollowed := true, recurses := true, named := ["internal/strconv.uint64pow10", "math/bits.deBruijn32tab", "math/bits.deBruijn64tab"], loops := true, apart := false, laid := [("math/bits.deBruijn32tab", laid_math_bits_deBruijn32tab), ("math/bits.deBruijn64tab", laid_math_bits_deBruijn64tab), ("internal/strconv.uint64pow10", laid_internal_strconv_uint64pow10)], narrowed := true }
def PatternOrderUptoSaid : Prop := patternOrderUptoRow.holds Tryz.pinned (OpenSpec.upto patternOrderSpec)

/-- 'erratalaw21.MeaningTells', WHERE WHAT IT READS IS OF BULK AT MOST 1048576: true; the input reads as it did. -/
def meaningTellsUptoRow : OpenClaim := { program := "ytjefblkdnolgaaagreatdoor", sum := "2f635b48d7b8be3c1c4cefd5ae459ee30fada7654063f493cd4df0d5dbb74c04", func := "errata/erratalaw21.MeaningTells", spec := "meaningTells", inPlace := ["internal/bytealg.abigen_runtime_cmpstring", "internal/abi.NoEscape"], unfollowed := true, recurses := true, named := ["internal/strconv.uint64pow10", "math/bits.deBruijn32tab", "math/bits.deBruijn64tab"], loops := true, apart := false, laid := [("math/bits.deBruijn32tab", laid_math_bits_deBruijn32tab), ("math/bits.deBruijn64tab", laid_math_bits_deBruijn64tab), ("internal/strconv.uint64pow10", laid_internal_strconv_uint64pow10)], narrowed := true }
def MeaningTellsUptoSaid : Prop := meaningTellsUptoRow.holds Tryz.pinned (OpenSpec.upto meaningTellsSpec)

/-- 'erratalaw21.MeaningLinear', WHERE WHAT IT READS IS OF BULK AT MOST 1048576: true; the input reads as it did. -/
def meaningLinearUptoRow : OpenClaim := { program := "ytjefblkdnolgaaagreatdoor", sum := "2f635b48d7b8be3c1c4cefd5ae459ee30fada7654063f493cd4df0d5dbb74c04", func := "errata/erratalaw21.MeaningLinear", spec := "meaningLinear", inPlace := ["internal/bytealg.abigen_runtime_cmpstring", "internal/abi.NoEscape"], unfollowed := true, recurses := true, named := ["internal/strconv.uint64pow10", "math/bits.deBruijn32tab", "math/bits.deBruijn64tab"], loops := true, apart := false, laid := [("math/bits.deBruijn32tab", laid_math_bits_deBruijn32tab), ("math/bits.deBruijn64tab", laid_math_bits_deBruijn64tab), ("internal/strconv.uint64pow10", laid_internal_strconv_uint64pow10)], narrowed := true }
def MeaningLinearUptoSaid : Prop := meaningLinearUptoRow.holds Tryz.pinned (OpenSpec.upto meaningLinearSpec)

/-- 'erratalaw21.MeaningRows', WHERE WHAT IT READS IS OF BULK AT MOST 1048576: true; the input reads as it did. -/
def meaningRowsUptoRow : OpenClaim := { program := "ytjefblkdnolgaaagreatdoor", sum := "2f635b48d7b8be3c1c4cefd5ae459ee30fada7654063f493cd4df0d5dbb74c04", func := "errata/erratalaw21.MeaningRows", spec := "meaningRows", inPlace := ["internal/bytealg.abigen_runtime_cmpstring", "internal/abi.NoEscape"], unfollowed := true, recurses := true, named := ["internal/strconv.uint64pow10", "math/bits.deBruijn32tab", "math/bits.deBruijn64tab"], loops := true, apart := false, laid := [("math/bits.deBruijn32tab", laid_math_bits_deBruijn32tab), ("math/bits.deBruijn64tab", laid_math_bits_deBruijn64tab), ("internal/strconv.uint64pow10", laid_internal_strconv_uint64pow10)], narrowed := true }
def MeaningRowsUptoSaid : Prop := meaningRowsUptoRow.holds Tryz.pinned (OpenSpec.upto meaningRowsSpec)

/-- 'erratalaw21.MeaningBack', WHERE WHAT IT READS IS OF BULK AT MOST 1048576: true; the input reads as it did. -/
def meaningBackUptoRow : OpenClaim := { program := "ytjefblkdnolgaaagreatdoor", sum := "2f635b48d7b8be3c1c4cefd5ae459ee30fada7654063f493cd4df0d5dbb74c04", func := "errata/erratalaw21.MeaningBack", spec := "meaningBack", inPlace := ["internal/bytealg.abigen_runtime_cmpstring", "internal/abi.NoEscape"], unfollowed := true, recurses := true, named := ["internal/strconv.uint64pow10", "math/bits.deBruijn32tab", "math/bits.deBruijn64tab"], loops := true, apart := false, laid := [("math/bits.deBruijn32tab", laid_math_bits_deBruijn32tab), ("math/bits.deBruijn64tab", laid_math_bits_deBruijn64tab), ("internal/strconv.uint64pow10", laid_internal_strconv_uint64pow10)], narrowed := true }
def MeaningBackUptoSaid : Prop := meaningBackUptoRow.holds Tryz.pinned (OpenSpec.upto meaningBackSpec)

/-- 'erratalaw33.PatternTells', WHERE WHAT IT READS IS OF BULK AT MOST 1048576: true; the input reads as it did. -/
def patternTellsUptoRow : OpenClaim := { program := "ytjefblkdnolgaaagreatdoor", sum := "2f635b48d7b8be3c1c4cefd5ae459ee30fada7654063f493cd4df0d5dbb74c04", func := "errata/erratalaw33.PatternTells", spec := "patternTells", inPlace := ["internal/bytealg.abigen_runtime_cmpstring", "internal/abi.NoEscape", "internal/bytealg.IndexByteString"], unfollowed := true, recurses := true, named := ["internal/strconv.uint64pow10", "math/bits.deBruijn32tab", "math/bits.deBruijn64tab", "strconv.ErrSyntax", "strconv.ErrRange"], loops := true, apart := false, laid := [("math/bits.deBruijn32tab", laid_math_bits_deBruijn32tab), ("math/bits.deBruijn64tab", laid_math_bits_deBruijn64tab), ("internal/strconv.uint64pow10", laid_internal_strconv_uint64pow10), ("strconv.ErrRange", laid_strconv_ErrRange), ("strconv.ErrSyntax", laid_strconv_ErrSyntax)], narrowed := true }
def PatternTellsUptoSaid : Prop := patternTellsUptoRow.holds Tryz.pinned (OpenSpec.upto patternTellsSpec)

/-- 'erratalaw33.PatternBack', WHERE WHAT IT READS IS OF BULK AT MOST 1048576: true; the input reads as it did. -/
def patternBackUptoRow : OpenClaim := { program := "ytjefblkdnolgaaagreatdoor", sum := "2f635b48d7b8be3c1c4cefd5ae459ee30fada7654063f493cd4df0d5dbb74c04", func := "errata/erratalaw33.PatternBack", spec := "patternBack", inPlace := ["internal/bytealg.abigen_runtime_cmpstring", "internal/abi.NoEscape", "internal/bytealg.IndexByteString"], unfollowed := true, recurses := true, named := ["internal/strconv.uint64pow10", "math/bits.deBruijn32tab", "math/bits.deBruijn64tab", "strconv.ErrSyntax", "strconv.ErrRange"], loops := true, apart := false, laid := [("math/bits.deBruijn32tab", laid_math_bits_deBruijn32tab), ("math/bits.deBruijn64tab", laid_math_bits_deBruijn64tab), ("internal/strconv.uint64pow10", laid_internal_strconv_uint64pow10), ("strconv.ErrRange", laid_strconv_ErrRange), ("strconv.ErrSyntax", laid_strconv_ErrSyntax)], narrowed := true }
def PatternBackUptoSaid : Prop := patternBackUptoRow.holds Tryz.pinned (OpenSpec.upto patternBackSpec)

/-- 'erratalaw32.JoinSums', WHERE WHAT IT READS IS OF BULK AT MOST 1048576: true; the input reads as it did. -/
def joinSumsUptoRow : OpenClaim := { program := "ytjefblkdnolgaaagreatdoor", sum := "2f635b48d7b8be3c1c4cefd5ae459ee30fada7654063f493cd4df0d5dbb74c04", func := "errata/erratalaw32.JoinSums", spec := "joinSums", inPlace := ["internal/bytealg.abigen_runtime_cmpstring", "internal/abi.NoEscape"], unfollowed := true, recurses := true, named := ["internal/strconv.uint64pow10", "math/bits.deBruijn32tab", "math/bits.deBruijn64tab"], loops := true, apart := false, laid := [("math/bits.deBruijn32tab", laid_math_bits_deBruijn32tab), ("math/bits.deBruijn64tab", laid_math_bits_deBruijn64tab), ("internal/strconv.uint64pow10", laid_internal_strconv_uint64pow10)], narrowed := true }
def JoinSumsUptoSaid : Prop := joinSumsUptoRow.holds Tryz.pinned (OpenSpec.upto joinSumsSpec)

/-- 'erratalaw33.PatternSums', WHERE WHAT IT READS IS OF BULK AT MOST 1048576: true; the input reads as it did. -/
def patternSumsUptoRow : OpenClaim := { program := "ytjefblkdnolgaaagreatdoor", sum := "2f635b48d7b8be3c1c4cefd5ae459ee30fada7654063f493cd4df0d5dbb74c04", func := "errata/erratalaw33.PatternSums", spec := "patternSums", inPlace := ["internal/bytealg.abigen_runtime_cmpstring", "internal/abi.NoEscape"], unfollowed := true, recurses := true, named := ["internal/strconv.uint64pow10", "math/bits.deBruijn32tab", "math/bits.deBruijn64tab"], loops := true, apart := false, laid := [("math/bits.deBruijn32tab", laid_math_bits_deBruijn32tab), ("math/bits.deBruijn64tab", laid_math_bits_deBruijn64tab), ("internal/strconv.uint64pow10", laid_internal_strconv_uint64pow10)], narrowed := true }
def PatternSumsUptoSaid : Prop := patternSumsUptoRow.holds Tryz.pinned (OpenSpec.upto patternSumsSpec)

end Rows
end Go.Proofs.YtjefblkdnolgaaaGreatDoor
