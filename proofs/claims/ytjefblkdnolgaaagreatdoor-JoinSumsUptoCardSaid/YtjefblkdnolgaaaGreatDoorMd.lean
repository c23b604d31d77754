/-
  Parts: The data types of the seat, as the program logic reads them, and its type table. Printed by a program of our own. Functions of Go's library, given to the trees by hand. Own work; two walks are lines of the shelf's, turned to this program. (*strings.Builder).WriteString, exactly. Own work; the walk is lines of the shelf's, turned to this program. Contracts of functions of Go's library, for the trees. Own work. Contracts of functions of Go's library, for the trees: WriteString. Own work. DERIVED: THE SHELF's CONTRACTS AT THIS DUMP, IN PLAIN WORDS (tools/lay-plain.mjs out of 'TryzShelf.lean', which tools/lay-shelf.mjs wrote): THE SAME DECLARATIONS UNDER THE SAME NAMES: 'import', 'namespace', 'open', 'def', 'theorem' AND NOTHING ELSE: no command of the shelf's: FOR A HAND-IN. Each laying: the table of numbers ('.._ren') and one theorem, a field a fact of the dump's own or the kernel's comparison; each contract: ONE APPLICATION. Contracts of functions of Go's library, for the trees: strings.Compare, strconv.Itoa. Own work.
-/
import Derived.Test.YtjefblkdnolgaaaGreatDoorMc
import Derived.Test.YtjefblkdnolgaaaGreatDoorProg
import Derived.Shelf.Strings.Builder1
import Derived.Shelf.Small.Strs
import Derived.Shelf.Strconv.Itoa0
import Derived.Shelf.Strconv.Itoa1
import Derived.Shelf.LaysM
import Derived.Shelf.Strconv.Itoa2
import Derived.Shelf.Strconv.Itoa3
import Derived.Shelf.Strings.Search1
import Derived.Shelf.Bits.Mul64
namespace Go.PL
open Go
def eExpr (x : Expr) : T := .agg (exprCells x)
def cL_cInt (x : List Int) : List T := [eL cInt (x)]
structure GFunc where
 Name : ByteArray
 Params : List Int
 Result : Int
 Body : Expr
 deriving Inhabited
def cGFunc (x : GFunc) : List T := [.str (x.Name)] ++ [eL cInt (x.Params)] ++ [.int .i64 (x.Result)] ++ exprCells (x.Body)
def eGFunc (x : GFunc) : T := .agg (cGFunc x)
def cL_cGFunc (x : List GFunc) : List T := [eL cGFunc (x)]
def cL_exprCells (x : List Expr) : List T := [.lz (.exprs (x))]
structure GAgg where
 Kind : Int
 Col : Int
 Name : ByteArray
 deriving Inhabited
def cGAgg (x : GAgg) : List T := [.int .i64 (x.Kind), .int .i64 (x.Col), .str (x.Name)]
def eGAgg (x : GAgg) : T := .agg (cGAgg x)
def cL_cGAgg (x : List GAgg) : List T := [eL cGAgg (x)]
structure GPat where
 Pred : Expr
 Rep : Int
 deriving Inhabited
def cGPat (x : GPat) : List T := exprCells (x.Pred) ++ [.int .i64 (x.Rep)]
def eGPat (x : GPat) : T := .agg (cGPat x)
def cL_cGPat (x : List GPat) : List T := [eL cGPat (x)]
structure GCol where
 Name : ByteArray
 Type_ : Int
 Unit : ByteArray
 deriving Inhabited
def cGCol (x : GCol) : List T := [.str (x.Name), .int .i64 (x.Type_), .str (x.Unit)]
def eGCol (x : GCol) : T := .agg (cGCol x)
def cL_cGCol (x : List GCol) : List T := [eL cGCol (x)]
structure GNode where
 Op : Int
 In : List Int
 Source : ByteArray
 Schema : Int
 Exprs : List Expr
 Kind : Int
 Size : Int
 Step : Int
 Key : List Int
 Key2 : List Int
 Before : Int
 After : Int
 Keep : Int
 Aggs : List GAgg
 Seq : List GPat
 Cols : List GCol
 deriving Inhabited
def cGNode (x : GNode) : List T := [.int .i64 (x.Op), eL cInt (x.In), .str (x.Source), .int .i64 (x.Schema), .lz (.exprs (x.Exprs)), .int .i64 (x.Kind), .int .i64 (x.Size), .int .i64 (x.Step), eL cInt (x.Key), eL cInt (x.Key2), .int .i64 (x.Before), .int .i64 (x.After), .int .i64 (x.Keep), eL cGAgg (x.Aggs), eL cGPat (x.Seq), eL cGCol (x.Cols)]
def eGNode (x : GNode) : T := .agg (cGNode x)
structure GValue where
 Kind : Int
 N : Int
 S : ByteArray
 deriving Inhabited
def cGValue (x : GValue) : List T := [.int .i64 (x.Kind), .int .i64 (x.N), .str (x.S)]
def eGValue (x : GValue) : T := .agg (cGValue x)
def cL_cGValue (x : List GValue) : List T := [eL cGValue (x)]
structure GDelta where
 Time : Int
 Row : List GValue
 N : Int
 deriving Inhabited
def cGDelta (x : GDelta) : List T := [.int .i64 (x.Time), eL cGValue (x.Row), .int .i64 (x.N)]
def eGDelta (x : GDelta) : T := .agg (cGDelta x)
def cL_cGDelta (x : List GDelta) : List T := [eL cGDelta (x)]
structure GAct_errataref31 where
 Do : Int
 C : Int
 L : List GDelta
 deriving Inhabited
def cGAct_errataref31 (x : GAct_errataref31) : List T := [.int .i64 (x.Do), .int .i64 (x.C), eL cGDelta (x.L)]
def eGAct_errataref31 (x : GAct_errataref31) : T := .agg (cGAct_errataref31 x)
def cL_cGAct_errataref31 (x : List GAct_errataref31) : List T := [eL cGAct_errataref31 (x)]
def cL_cL_cInt (x : List (List Int)) : List T := [eL cL_cInt (x)]
def cL_cL_cGDelta (x : List (List GDelta)) : List T := [eL cL_cGDelta (x)]
structure GOp_errataref33 where
 Funcs : List GFunc
 N : GNode
 L : List GDelta
 Closed : Int
 deriving Inhabited
def cGOp_errataref33 (x : GOp_errataref33) : List T := [eL cGFunc (x.Funcs)] ++ cGNode (x.N) ++ [eL cGDelta (x.L)] ++ [.int .i64 (x.Closed)]
def eGOp_errataref33 (x : GOp_errataref33) : T := .agg (cGOp_errataref33 x)
structure GAct where
 Do : Int
 C : Int
 L : List GDelta
 deriving Inhabited
def cGAct (x : GAct) : List T := [.int .i64 (x.Do), .int .i64 (x.C), eL cGDelta (x.L)]
def eGAct (x : GAct) : T := .agg (cGAct x)
def cL_cGAct (x : List GAct) : List T := [eL cGAct (x)]
structure GPlace where
 time_ : Int
 fits_ : Int
 deriving Inhabited
def cGPlace (x : GPlace) : List T := [.int .i64 (x.time_), .int .i64 (x.fits_)]
def eGPlace (x : GPlace) : T := .agg (cGPlace x)
def cL_cGPlace (x : List GPlace) : List T := [eL cGPlace (x)]
def cL_cU8 (x : List Int) : List T := [eL cU8 (x)]
structure GFrame where
 funcs_ : List GFunc
 time_ : Int
 row_ : List GValue
 params_ : List GValue
 deriving Inhabited
def cGFrame (x : GFrame) : List T := [eL cGFunc (x.funcs_), .int .i64 (x.time_), eL cGValue (x.row_), eL cGValue (x.params_)]
def eGFrame (x : GFrame) : T := .agg (cGFrame x)
structure GWindow where
 begin_ : Int
 end_ : Int
 rows_ : List GDelta
 deriving Inhabited
def cGWindow (x : GWindow) : List T := [.int .i64 (x.begin_), .int .i64 (x.end_), eL cGDelta (x.rows_)]
def eGWindow (x : GWindow) : T := .agg (cGWindow x)
def cL_cGWindow (x : List GWindow) : List T := [eL cGWindow (x)]
def cL_cStr (x : List ByteArray) : List T := [eL cStr (x)]
def cL_cBool (x : List Bool) : List T := [eL cBool (x)]
def cL_cL_cBool (x : List (List Bool)) : List T := [eL cL_cBool (x)]
structure GCount where
 V : GValue
 N : Int
 deriving Inhabited
def cGCount (x : GCount) : List T := cGValue (x.V) ++ [.int .i64 (x.N)]
def eGCount (x : GCount) : T := .agg (cGCount x)
structure GGroup where
 key_ : List GValue
 begin_ : Int
 end_ : Int
 l_ : List GDelta
 deriving Inhabited
def cGGroup (x : GGroup) : List T := [eL cGValue (x.key_), .int .i64 (x.begin_), .int .i64 (x.end_), eL cGDelta (x.l_)]
def eGGroup (x : GGroup) : T := .agg (cGGroup x)
def cL_cGGroup (x : List GGroup) : List T := [eL cGGroup (x)]
structure GReader_errataref01 where
 Rest : ByteArray
 Bad : Bool
 deriving Inhabited
def cGReader_errataref01 (x : GReader_errataref01) : List T := [.str (x.Rest), .bool (x.Bad)]
def eGReader_errataref01 (x : GReader_errataref01) : T := .agg (cGReader_errataref01 x)
structure GReader where
 rest_ : ByteArray
 bad_ : Bool
 deriving Inhabited
def cGReader (x : GReader) : List T := [.str (x.rest_), .bool (x.bad_)]
def eGReader (x : GReader) : T := .agg (cGReader x)
structure A2_ListGDelta where
 e0 : List GDelta
 e1 : List GDelta
 deriving Inhabited
def cA2_ListGDelta (x : A2_ListGDelta) : List T := [eL cGDelta (x.e0), eL cGDelta (x.e1)]
def eA2_ListGDelta (x : A2_ListGDelta) : T := .agg (cA2_ListGDelta x)
structure GSide where
 rows_ : A2_ListGDelta
 deriving Inhabited
def cGSide (x : GSide) : List T := cA2_ListGDelta (x.rows_)
def eGSide (x : GSide) : T := .agg (cGSide x)
structure GPair where
 a_ : GValue
 b_ : GValue
 deriving Inhabited
def cGPair (x : GPair) : List T := cGValue (x.a_) ++ cGValue (x.b_)
def eGPair (x : GPair) : T := .agg (cGPair x)
def cL_cL_cGValue (x : List (List GValue)) : List T := [eL cL_cGValue (x)]
structure A2_ListInt where
 e0 : List Int
 e1 : List Int
 deriving Inhabited
def cA2_ListInt (x : A2_ListInt) : List T := [eL cInt (x.e0), eL cInt (x.e1)]
def eA2_ListInt (x : A2_ListInt) : T := .agg (cA2_ListInt x)
structure GErrorString where
 s_ : ByteArray
 deriving Inhabited
def cGErrorString (x : GErrorString) : List T := [.str (x.s_)]
def eGErrorString (x : GErrorString) : T := .agg (cGErrorString x)
def tiL : List (Nat × TInf) := [
 (2, ⟨1, 8, .int .i64, [.t (.int .i64 0)], 0⟩),
 (3, ⟨1, 8, .int .i64, [.t (.int .i64 0)], 0⟩),
 (4, ⟨1, 1, .bool, [.t (.bool false)], 0⟩),
 (5, ⟨1, 1, .int .u8, [.t (.int .u8 0)], 0⟩),
 (9, ⟨1, 16, .str, [.t (.str ⟨#[]⟩)], 0⟩),
 (12, ⟨1, 8, .int .u64, [.t (.int .u64 0)], 0⟩),
 (15, ⟨1, 8, .ptr 342, [.np], 0⟩),
 (16, ⟨1, 8, .ptr 345, [.np], 0⟩),
 (17, ⟨1, 8, .ptr 352, [.np], 0⟩),
 (21, ⟨1, 4, .int .i32, [.t (.int .i32 0)], 0⟩),
 (22, ⟨1, 24, .sl 150, [.nil], 0⟩),
 (23, ⟨1, 24, .sl 3, [.nil], 0⟩),
 (24, ⟨1, 24, .sl 90, [.nil], 0⟩),
 (25, ⟨1, 24, .sl 122, [.nil], 0⟩),
 (26, ⟨1, 24, .sl 93, [.nil], 0⟩),
 (27, ⟨1, 24, .sl 354, [.nil], 0⟩),
 (29, ⟨16, 248, .st [(0, 3), (1, 23), (2, 9), (3, 3), (4, 24), (5, 3), (6, 3), (7, 3), (8, 23), (9, 23), (10, 3), (11, 3), (12, 3), (13, 25), (14, 26), (15, 27)], [.t (.int .i64 0), .nil, .t (.str ⟨#[]⟩), .t (.int .i64 0), .nil, .t (.int .i64 0), .t (.int .i64 0), .t (.int .i64 0), .nil, .nil, .t (.int .i64 0), .t (.int .i64 0), .t (.int .i64 0), .nil, .nil, .nil], 0⟩),
 (30, ⟨1, 24, .sl 39, [.nil], 0⟩),
 (33, ⟨1, 8, .ptr 102, [.np], 0⟩),
 (36, ⟨1, 8, .other, [.lit .nilFunc], 0⟩),
 (37, ⟨1, 24, .sl 50, [.nil], 0⟩),
 (39, ⟨3, 40, .st [(0, 3), (1, 3), (2, 37)], [.t (.int .i64 0), .t (.int .i64 0), .nil], 0⟩),
 (48, ⟨1, 24, .sl 67, [.nil], 0⟩),
 (50, ⟨3, 40, .st [(0, 3), (1, 48), (2, 3)], [.t (.int .i64 0), .nil, .t (.int .i64 0)], 0⟩),
 (55, ⟨1, 24, .sl 23, [.nil], 0⟩),
 (56, ⟨1, 24, .sl 37, [.nil], 0⟩),
 (67, ⟨3, 32, .st [(0, 3), (1, 3), (2, 9)], [.t (.int .i64 0), .t (.int .i64 0), .t (.str ⟨#[]⟩)], 0⟩),
 (71, ⟨1, 8, .ptr 74, [.np], 0⟩),
 (74, ⟨19, 304, .st [(0, 22), (1, 29), (17, 37), (18, 3)], [.nil, .t (.int .i64 0), .nil, .t (.str ⟨#[]⟩), .t (.int .i64 0), .nil, .t (.int .i64 0), .t (.int .i64 0), .t (.int .i64 0), .nil, .nil, .t (.int .i64 0), .t (.int .i64 0), .t (.int .i64 0), .nil, .nil, .nil, .nil, .t (.int .i64 0)], 0⟩),
 (80, ⟨1, 24, .sl 85, [.nil], 0⟩),
 (82, ⟨1, 8, .ptr 147, [.np], 0⟩),
 (85, ⟨3, 40, .st [(0, 3), (1, 3), (2, 37)], [.t (.int .i64 0), .t (.int .i64 0), .nil], 0⟩),
 (90, ⟨4, 56, .st [(0, 3), (1, 3), (2, 9), (3, 24)], [.t (.int .i64 0), .t (.int .i64 0), .t (.str ⟨#[]⟩), .nil], 0⟩),
 (93, ⟨5, 64, .st [(0, 90), (4, 3)], [.t (.int .i64 0), .t (.int .i64 0), .t (.str ⟨#[]⟩), .nil, .t (.int .i64 0)], 0⟩),
 (100, ⟨1, 8, .mp 9 37, [.lit (.map none)], 0⟩),
 (102, ⟨19, 288, .st [(0, 22), (1, 29), (17, 100), (18, 3)], [.nil, .t (.int .i64 0), .nil, .t (.str ⟨#[]⟩), .t (.int .i64 0), .nil, .t (.int .i64 0), .t (.int .i64 0), .t (.int .i64 0), .nil, .nil, .t (.int .i64 0), .t (.int .i64 0), .t (.int .i64 0), .nil, .nil, .nil, .lit (.map none), .t (.int .i64 0)], 0⟩),
 (103, ⟨1, 8, .other, [.lit .nilFunc], 0⟩),
 (105, ⟨4, 32, .st [(0, 3), (1, 103), (2, 36), (3, 4)], [.t (.int .i64 0), .lit .nilFunc, .lit .nilFunc, .t (.bool false)], 0⟩),
 (110, ⟨1, 8, .other, [.lit .nilFunc], 0⟩),
 (111, ⟨1, 8, .other, [.lit .nilFunc], 0⟩),
 (114, ⟨1, 8, .other, [.lit .nilFunc], 0⟩),
 (117, ⟨1, 8, .other, [.lit .nilFunc], 0⟩),
 (122, ⟨3, 32, .st [(0, 3), (1, 3), (2, 9)], [.t (.int .i64 0), .t (.int .i64 0), .t (.str ⟨#[]⟩)], 0⟩),
 (135, ⟨1, 8, .ptr 214, [.np], 0⟩),
 (139, ⟨1, 8, .ptr 219, [.np], 0⟩),
 (145, ⟨1, 8, .mp 9 222, [.lit (.map none)], 0⟩),
 (147, ⟨18, 264, .st [(0, 29), (16, 145), (17, 3)], [.t (.int .i64 0), .nil, .t (.str ⟨#[]⟩), .t (.int .i64 0), .nil, .t (.int .i64 0), .t (.int .i64 0), .t (.int .i64 0), .nil, .nil, .t (.int .i64 0), .t (.int .i64 0), .t (.int .i64 0), .nil, .nil, .nil, .lit (.map none), .t (.int .i64 0)], 0⟩),
 (150, ⟨7, 104, .st [(0, 9), (1, 23), (2, 3), (3, 90)], [.t (.str ⟨#[]⟩), .nil, .t (.int .i64 0), .t (.int .i64 0), .t (.int .i64 0), .t (.str ⟨#[]⟩), .nil], 0⟩),
 (152, ⟨1, 8, .other, [.lit .nilFunc], 0⟩),
 (158, ⟨36, 288, .arr 9 105, [.t (.int .i64 0), .lit .nilFunc, .lit .nilFunc, .t (.bool false), .t (.int .i64 0), .lit .nilFunc, .lit .nilFunc, .t (.bool false), .t (.int .i64 0), .lit .nilFunc, .lit .nilFunc, .t (.bool false), .t (.int .i64 0), .lit .nilFunc, .lit .nilFunc, .t (.bool false), .t (.int .i64 0), .lit .nilFunc, .lit .nilFunc, .t (.bool false), .t (.int .i64 0), .lit .nilFunc, .lit .nilFunc, .t (.bool false), .t (.int .i64 0), .lit .nilFunc, .lit .nilFunc, .t (.bool false), .t (.int .i64 0), .lit .nilFunc, .lit .nilFunc, .t (.bool false), .t (.int .i64 0), .lit .nilFunc, .lit .nilFunc, .t (.bool false)], 0⟩),
 (164, ⟨1, 24, .sl 171, [.nil], 0⟩),
 (166, ⟨1, 8, .other, [.lit .nilFunc], 0⟩),
 (171, ⟨2, 16, .st [(0, 3), (1, 3)], [.t (.int .i64 0), .t (.int .i64 0)], 2⟩),
 (174, ⟨1, 8, .ptr 177, [.np], 0⟩),
 (175, ⟨1, 24, .sl 5, [.nil], 0⟩),
 (177, ⟨2, 32, .st [(0, 174), (1, 175)], [.np, .nil], 0⟩),
 (179, ⟨1, 16, .other, [.lit .nilIface], 0⟩),
 (184, ⟨4, 80, .st [(0, 22), (1, 3), (2, 48), (3, 48)], [.nil, .t (.int .i64 0), .nil, .nil], 0⟩),
 (186, ⟨1, 24, .sl 190, [.nil], 0⟩),
 (190, ⟨3, 40, .st [(0, 3), (1, 3), (2, 37)], [.t (.int .i64 0), .t (.int .i64 0), .nil], 0⟩),
 (195, ⟨1, 24, .sl 9, [.nil], 0⟩),
 (198, ⟨1, 8, .other, [.lit .nilFunc], 0⟩),
 (200, ⟨1, 24, .sl 201, [.nil], 0⟩),
 (201, ⟨1, 24, .sl 4, [.nil], 0⟩),
 (204, ⟨4, 40, .st [(0, 67), (3, 3)], [.t (.int .i64 0), .t (.int .i64 0), .t (.str ⟨#[]⟩), .t (.int .i64 0)], 0⟩),
 (206, ⟨1, 24, .sl 209, [.nil], 0⟩),
 (209, ⟨4, 64, .st [(0, 48), (1, 3), (2, 3), (3, 37)], [.nil, .t (.int .i64 0), .t (.int .i64 0), .nil], 0⟩),
 (214, ⟨2, 24, .st [(0, 9), (1, 4)], [.t (.str ⟨#[]⟩), .t (.bool false)], 0⟩),
 (219, ⟨2, 24, .st [(0, 9), (1, 4)], [.t (.str ⟨#[]⟩), .t (.bool false)], 0⟩),
 (222, ⟨1, 8, .ptr 225, [.np], 0⟩),
 (223, ⟨2, 48, .arr 2 37, [.nil, .nil], 0⟩),
 (225, ⟨2, 48, .st [(0, 223)], [.nil, .nil], 0⟩),
 (231, ⟨1, 8, .other, [.lit .nilFunc], 0⟩),
 (232, ⟨1, 8, .int .u64, [.t (.int .u64 0)], 0⟩),
 (235, ⟨1, 8, .ptr 5, [.np], 0⟩),
 (236, ⟨1, 8, .other, [.lit .nilFunc], 0⟩),
 (239, ⟨6, 64, .st [(0, 67), (3, 67)], [.t (.int .i64 0), .t (.int .i64 0), .t (.str ⟨#[]⟩), .t (.int .i64 0), .t (.int .i64 0), .t (.str ⟨#[]⟩)], 0⟩),
 (240, ⟨1, 8, .mp 3 236, [.lit (.map none)], 0⟩),
 (241, ⟨1, 8, .mp 3 37, [.lit (.map none)], 0⟩),
 (244, ⟨1, 8, .other, [.lit .nilFunc], 0⟩),
 (250, ⟨1, 8, .other, [.lit .nilFunc], 0⟩),
 (266, ⟨1, 4, .int .u32, [.t (.int .u32 0)], 0⟩),
 (269, ⟨1, 8, .int .u64, [.t (.int .u64 0)], 0⟩),
 (276, ⟨1, 24, .sl 48, [.nil], 0⟩),
 (285, ⟨2, 48, .arr 2 23, [.nil, .nil], 0⟩),
 (287, ⟨1, 8, .other, [.lit .nilFunc], 0⟩),
 (288, ⟨24, 24, .arr 24 5, [.t (.int .u8 0), .t (.int .u8 0), .t (.int .u8 0), .t (.int .u8 0), .t (.int .u8 0), .t (.int .u8 0), .t (.int .u8 0), .t (.int .u8 0), .t (.int .u8 0), .t (.int .u8 0), .t (.int .u8 0), .t (.int .u8 0), .t (.int .u8 0), .t (.int .u8 0), .t (.int .u8 0), .t (.int .u8 0), .t (.int .u8 0), .t (.int .u8 0), .t (.int .u8 0), .t (.int .u8 0), .t (.int .u8 0), .t (.int .u8 0), .t (.int .u8 0), .t (.int .u8 0)], 0⟩),
 (296, ⟨1, 8, .int .i64, [.t (.int .i64 0)], 0⟩),
 (304, ⟨1, 8, .int .i64, [.t (.int .i64 0)], 0⟩),
 (307, ⟨1, 8, .ptr 328, [.np], 0⟩),
 (311, ⟨20, 160, .arr 20 269, [.t (.int .u64 0), .t (.int .u64 0), .t (.int .u64 0), .t (.int .u64 0), .t (.int .u64 0), .t (.int .u64 0), .t (.int .u64 0), .t (.int .u64 0), .t (.int .u64 0), .t (.int .u64 0), .t (.int .u64 0), .t (.int .u64 0), .t (.int .u64 0), .t (.int .u64 0), .t (.int .u64 0), .t (.int .u64 0), .t (.int .u64 0), .t (.int .u64 0), .t (.int .u64 0), .t (.int .u64 0)], 0⟩),
 (312, ⟨65, 65, .arr 65 5, [.t (.int .u8 0), .t (.int .u8 0), .t (.int .u8 0), .t (.int .u8 0), .t (.int .u8 0), .t (.int .u8 0), .t (.int .u8 0), .t (.int .u8 0), .t (.int .u8 0), .t (.int .u8 0), .t (.int .u8 0), .t (.int .u8 0), .t (.int .u8 0), .t (.int .u8 0), .t (.int .u8 0), .t (.int .u8 0), .t (.int .u8 0), .t (.int .u8 0), .t (.int .u8 0), .t (.int .u8 0), .t (.int .u8 0), .t (.int .u8 0), .t (.int .u8 0), .t (.int .u8 0), .t (.int .u8 0), .t (.int .u8 0), .t (.int .u8 0), .t (.int .u8 0), .t (.int .u8 0), .t (.int .u8 0), .t (.int .u8 0), .t (.int .u8 0), .t (.int .u8 0), .t (.int .u8 0), .t (.int .u8 0), .t (.int .u8 0), .t (.int .u8 0), .t (.int .u8 0), .t (.int .u8 0), .t (.int .u8 0), .t (.int .u8 0), .t (.int .u8 0), .t (.int .u8 0), .t (.int .u8 0), .t (.int .u8 0), .t (.int .u8 0), .t (.int .u8 0), .t (.int .u8 0), .t (.int .u8 0), .t (.int .u8 0), .t (.int .u8 0), .t (.int .u8 0), .t (.int .u8 0), .t (.int .u8 0), .t (.int .u8 0), .t (.int .u8 0), .t (.int .u8 0), .t (.int .u8 0), .t (.int .u8 0), .t (.int .u8 0), .t (.int .u8 0), .t (.int .u8 0), .t (.int .u8 0), .t (.int .u8 0), .t (.int .u8 0)], 0⟩),
 (319, ⟨1, 8, .int .u64, [.t (.int .u64 0)], 0⟩),
 (323, ⟨1, 8, .ptr 3, [.np], 0⟩),
 (328, ⟨3, 48, .st [(0, 9), (1, 9), (2, 179)], [.t (.str ⟨#[]⟩), .t (.str ⟨#[]⟩), .lit .nilIface], 0⟩),
 (332, ⟨1, 8, .ptr 319, [.np], 0⟩),
 (335, ⟨1, 8, .ptr 337, [.np], 0⟩),
 (337, ⟨1, 16, .st [(0, 9)], [.t (.str ⟨#[]⟩)], 0⟩),
 (338, ⟨32, 32, .arr 32 5, [.t (.int .u8 0), .t (.int .u8 0), .t (.int .u8 0), .t (.int .u8 0), .t (.int .u8 0), .t (.int .u8 0), .t (.int .u8 0), .t (.int .u8 0), .t (.int .u8 0), .t (.int .u8 0), .t (.int .u8 0), .t (.int .u8 0), .t (.int .u8 0), .t (.int .u8 0), .t (.int .u8 0), .t (.int .u8 0), .t (.int .u8 0), .t (.int .u8 0), .t (.int .u8 0), .t (.int .u8 0), .t (.int .u8 0), .t (.int .u8 0), .t (.int .u8 0), .t (.int .u8 0), .t (.int .u8 0), .t (.int .u8 0), .t (.int .u8 0), .t (.int .u8 0), .t (.int .u8 0), .t (.int .u8 0), .t (.int .u8 0), .t (.int .u8 0)], 0⟩),
 (339, ⟨64, 64, .arr 64 5, [.t (.int .u8 0), .t (.int .u8 0), .t (.int .u8 0), .t (.int .u8 0), .t (.int .u8 0), .t (.int .u8 0), .t (.int .u8 0), .t (.int .u8 0), .t (.int .u8 0), .t (.int .u8 0), .t (.int .u8 0), .t (.int .u8 0), .t (.int .u8 0), .t (.int .u8 0), .t (.int .u8 0), .t (.int .u8 0), .t (.int .u8 0), .t (.int .u8 0), .t (.int .u8 0), .t (.int .u8 0), .t (.int .u8 0), .t (.int .u8 0), .t (.int .u8 0), .t (.int .u8 0), .t (.int .u8 0), .t (.int .u8 0), .t (.int .u8 0), .t (.int .u8 0), .t (.int .u8 0), .t (.int .u8 0), .t (.int .u8 0), .t (.int .u8 0), .t (.int .u8 0), .t (.int .u8 0), .t (.int .u8 0), .t (.int .u8 0), .t (.int .u8 0), .t (.int .u8 0), .t (.int .u8 0), .t (.int .u8 0), .t (.int .u8 0), .t (.int .u8 0), .t (.int .u8 0), .t (.int .u8 0), .t (.int .u8 0), .t (.int .u8 0), .t (.int .u8 0), .t (.int .u8 0), .t (.int .u8 0), .t (.int .u8 0), .t (.int .u8 0), .t (.int .u8 0), .t (.int .u8 0), .t (.int .u8 0), .t (.int .u8 0), .t (.int .u8 0), .t (.int .u8 0), .t (.int .u8 0), .t (.int .u8 0), .t (.int .u8 0), .t (.int .u8 0), .t (.int .u8 0), .t (.int .u8 0), .t (.int .u8 0)], 0⟩),
 (354, ⟨3, 40, .st [(0, 9), (1, 3), (2, 9)], [.t (.str ⟨#[]⟩), .t (.int .i64 0), .t (.str ⟨#[]⟩)], 0⟩)]
set_option maxRecDepth 100000 in
theorem ti_ok : TIok Proofs.Tryz.prog (look tiL) :=
 tiok_of (tiok_cons (tok_of (by kernel_rfl) (by kernel_rfl) (by kernel_rfl)) (tiok_cons (tok_of (by kernel_rfl) (by kernel_rfl) (by kernel_rfl)) (tiok_cons (tok_of (by kernel_rfl) (by kernel_rfl) (by kernel_rfl)) (tiok_cons (tok_of (by kernel_rfl) (by kernel_rfl) (by kernel_rfl)) (tiok_cons (tok_of (by kernel_rfl) (by kernel_rfl) (by kernel_rfl)) (tiok_cons (tok_of (by kernel_rfl) (by kernel_rfl) (by kernel_rfl)) (tiok_cons (tok_of (by kernel_rfl) (by kernel_rfl) (by kernel_rfl)) (tiok_cons (tok_of (by kernel_rfl) (by kernel_rfl) (by kernel_rfl)) (tiok_cons (tok_of (by kernel_rfl) (by kernel_rfl) (by kernel_rfl)) (tiok_cons (tok_of (by kernel_rfl) (by kernel_rfl) (by kernel_rfl)) (tiok_cons (tok_of (by kernel_rfl) (by kernel_rfl) (by kernel_rfl)) (tiok_cons (tok_of (by kernel_rfl) (by kernel_rfl) (by kernel_rfl)) (tiok_cons (tok_of (by kernel_rfl) (by kernel_rfl) (by kernel_rfl)) (tiok_cons (tok_of (by kernel_rfl) (by kernel_rfl) (by kernel_rfl)) (tiok_cons (tok_of (by kernel_rfl) (by kernel_rfl) (by kernel_rfl)) (tiok_cons (tok_of (by kernel_rfl) (by kernel_rfl) (by kernel_rfl)) (tiok_cons (tok_of (by kernel_rfl) (by kernel_rfl) (by kernel_rfl)) (tiok_cons (tok_of (by kernel_rfl) (by kernel_rfl) (by kernel_rfl)) (tiok_cons (tok_of (by kernel_rfl) (by kernel_rfl) (by kernel_rfl)) (tiok_cons (tok_of (by kernel_rfl) (by kernel_rfl) (by kernel_rfl)) (tiok_cons (tok_of (by kernel_rfl) (by kernel_rfl) (by kernel_rfl)) (tiok_cons (tok_of (by kernel_rfl) (by kernel_rfl) (by kernel_rfl)) (tiok_cons (tok_of (by kernel_rfl) (by kernel_rfl) (by kernel_rfl)) (tiok_cons (tok_of (by kernel_rfl) (by kernel_rfl) (by kernel_rfl)) (tiok_cons (tok_of (by kernel_rfl) (by kernel_rfl) (by kernel_rfl)) (tiok_cons (tok_of (by kernel_rfl) (by kernel_rfl) (by kernel_rfl)) (tiok_cons (tok_of (by kernel_rfl) (by kernel_rfl) (by kernel_rfl)) (tiok_cons (tok_of (by kernel_rfl) (by kernel_rfl) (by kernel_rfl)) (tiok_cons (tok_of (by kernel_rfl) (by kernel_rfl) (by kernel_rfl)) (tiok_cons (tok_of (by kernel_rfl) (by kernel_rfl) (by kernel_rfl)) (tiok_cons (tok_of (by kernel_rfl) (by kernel_rfl) (by kernel_rfl)) (tiok_cons (tok_of (by kernel_rfl) (by kernel_rfl) (by kernel_rfl)) (tiok_cons (tok_of (by kernel_rfl) (by kernel_rfl) (by kernel_rfl)) (tiok_cons (tok_of (by kernel_rfl) (by kernel_rfl) (by kernel_rfl)) (tiok_cons (tok_of (by kernel_rfl) (by kernel_rfl) (by kernel_rfl)) (tiok_cons (tok_of (by kernel_rfl) (by kernel_rfl) (by kernel_rfl)) (tiok_cons (tok_of (by kernel_rfl) (by kernel_rfl) (by kernel_rfl)) (tiok_cons (tok_of (by kernel_rfl) (by kernel_rfl) (by kernel_rfl)) (tiok_cons (tok_of (by kernel_rfl) (by kernel_rfl) (by kernel_rfl)) (tiok_cons (tok_of (by kernel_rfl) (by kernel_rfl) (by kernel_rfl)) (tiok_cons (tok_of (by kernel_rfl) (by kernel_rfl) (by kernel_rfl)) (tiok_cons (tok_of (by kernel_rfl) (by kernel_rfl) (by kernel_rfl)) (tiok_cons (tok_of (by kernel_rfl) (by kernel_rfl) (by kernel_rfl)) (tiok_cons (tok_of (by kernel_rfl) (by kernel_rfl) (by kernel_rfl)) (tiok_cons (tok_of (by kernel_rfl) (by kernel_rfl) (by kernel_rfl)) (tiok_cons (tok_of (by kernel_rfl) (by kernel_rfl) (by kernel_rfl)) (tiok_cons (tok_of (by kernel_rfl) (by kernel_rfl) (by kernel_rfl)) (tiok_cons (tok_of (by kernel_rfl) (by kernel_rfl) (by kernel_rfl)) (tiok_cons (tok_of (by kernel_rfl) (by kernel_rfl) (by kernel_rfl)) (tiok_cons (tok_of (by kernel_rfl) (by kernel_rfl) (by kernel_rfl)) (tiok_cons (tok_of (by kernel_rfl) (by kernel_rfl) (by kernel_rfl)) (tiok_cons (tok_of (by kernel_rfl) (by kernel_rfl) (by kernel_rfl)) (tiok_cons (tok_of (by kernel_rfl) (by kernel_rfl) (by kernel_rfl)) (tiok_cons (tok_of (by kernel_rfl) (by kernel_rfl) (by kernel_rfl)) (tiok_cons (tok_of (by kernel_rfl) (by kernel_rfl) (by kernel_rfl)) (tiok_cons (tok_of (by kernel_rfl) (by kernel_rfl) (by kernel_rfl)) (tiok_cons (tok_of (by kernel_rfl) (by kernel_rfl) (by kernel_rfl)) (tiok_cons (tok_of (by kernel_rfl) (by kernel_rfl) (by kernel_rfl)) (tiok_cons (tok_of (by kernel_rfl) (by kernel_rfl) (by kernel_rfl)) (tiok_cons (tok_of (by kernel_rfl) (by kernel_rfl) (by kernel_rfl)) (tiok_cons (tok_of (by kernel_rfl) (by kernel_rfl) (by kernel_rfl)) (tiok_cons (tok_of (by kernel_rfl) (by kernel_rfl) (by kernel_rfl)) (tiok_cons (tok_of (by kernel_rfl) (by kernel_rfl) (by kernel_rfl)) (tiok_cons (tok_of (by kernel_rfl) (by kernel_rfl) (by kernel_rfl)) (tiok_cons (tok_of (by kernel_rfl) (by kernel_rfl) (by kernel_rfl)) (tiok_cons (tok_of (by kernel_rfl) (by kernel_rfl) (by kernel_rfl)) (tiok_cons (tok_of (by kernel_rfl) (by kernel_rfl) (by kernel_rfl)) (tiok_cons (tok_of (by kernel_rfl) (by kernel_rfl) (by kernel_rfl)) (tiok_cons (tok_of (by kernel_rfl) (by kernel_rfl) (by kernel_rfl)) (tiok_cons (tok_of (by kernel_rfl) (by kernel_rfl) (by kernel_rfl)) (tiok_cons (tok_of (by kernel_rfl) (by kernel_rfl) (by kernel_rfl)) (tiok_cons (tok_of (by kernel_rfl) (by kernel_rfl) (by kernel_rfl)) (tiok_cons (tok_of (by kernel_rfl) (by kernel_rfl) (by kernel_rfl)) (tiok_cons (tok_of (by kernel_rfl) (by kernel_rfl) (by kernel_rfl)) (tiok_cons (tok_of (by kernel_rfl) (by kernel_rfl) (by kernel_rfl)) (tiok_cons (tok_of (by kernel_rfl) (by kernel_rfl) (by kernel_rfl)) (tiok_cons (tok_of (by kernel_rfl) (by kernel_rfl) (by kernel_rfl)) (tiok_cons (tok_of (by kernel_rfl) (by kernel_rfl) (by kernel_rfl)) (tiok_cons (tok_of (by kernel_rfl) (by kernel_rfl) (by kernel_rfl)) (tiok_cons (tok_of (by kernel_rfl) (by kernel_rfl) (by kernel_rfl)) (tiok_cons (tok_of (by kernel_rfl) (by kernel_rfl) (by kernel_rfl)) (tiok_cons (tok_of (by kernel_rfl) (by kernel_rfl) (by kernel_rfl)) (tiok_cons (tok_of (by kernel_rfl) (by kernel_rfl) (by kernel_rfl)) (tiok_cons (tok_of (by kernel_rfl) (by kernel_rfl) (by kernel_rfl)) (tiok_cons (tok_of (by kernel_rfl) (by kernel_rfl) (by kernel_rfl)) (tiok_cons (tok_of (by kernel_rfl) (by kernel_rfl) (by kernel_rfl)) (tiok_cons (tok_of (by kernel_rfl) (by kernel_rfl) (by kernel_rfl)) (tiok_cons (tok_of (by kernel_rfl) (by kernel_rfl) (by kernel_rfl)) (tiok_cons (tok_of (by kernel_rfl) (by kernel_rfl) (by kernel_rfl)) (tiok_cons (tok_of (by kernel_rfl) (by kernel_rfl) (by kernel_rfl)) (tiok_cons (tok_of (by kernel_rfl) (by kernel_rfl) (by kernel_rfl)) (tiok_cons (tok_of (by kernel_rfl) (by kernel_rfl) (by kernel_rfl)) (tiok_cons (tok_of (by kernel_rfl) (by kernel_rfl) (by kernel_rfl)) (tiok_cons (tok_of (by kernel_rfl) (by kernel_rfl) (by kernel_rfl)) (tiok_cons (tok_of (by kernel_rfl) (by kernel_rfl) (by kernel_rfl)) (tiok_cons (tok_of (by kernel_rfl) (by kernel_rfl) (by kernel_rfl)) (tiok_cons (tok_of (by kernel_rfl) (by kernel_rfl) (by kernel_rfl)) (tiok_cons (tok_of (by kernel_rfl) (by kernel_rfl) (by kernel_rfl)) (tiok_cons (tok_of (by kernel_rfl) (by kernel_rfl) (by kernel_rfl)) (tiok_cons (tok_of (by kernel_rfl) (by kernel_rfl) (by kernel_rfl)) (tiok_cons (tok_of (by kernel_rfl) (by kernel_rfl) (by kernel_rfl)) tiok_nil)))))))))))))))))))))))))))))))))))))))))))))))))))))))))))))))))))))))))))))))))))))))))))))))))))))
abbrev TP := Tr Proofs.Tryz.prog
end Go.PL
namespace Go.Proofs
open Go.Shelf Go.RowKit
set_option maxHeartbeats 1000000 in
set_option maxRecDepth 100000 in
theorem Tryz.copyCheck_used (b : Nat) (w : World) (h0 : w.cell? ⟨b, 0, none⟩ = some (.pointer (some ⟨b, 0, none⟩))) :
  Calls Tryz.prog 222 #[.pointer (some ⟨b, 0, none⟩)] w fun e w' => e = .returned (.tuple #[]) ∧ w' = w := by
 have hsz : (Tryz.prog.info? 177).map (·.size) = some 2 := by kernel_rfl
 obtain ⟨j, hj, _⟩ := Option.map_eq_some_iff.1 hsz
 have mixed : Tryz.prog.follows .mixedOrders = true := by kernel_rfl
 have t72 := Tryz.underlying177; have a72 := Tryz.isAgg177; have z72 := Tryz.sizeOf177; have v72 := Tryz.zeroValue177; have u72 := run_underlying t72
 have t70 := Tryz.underlying174; have a70 := Tryz.isAgg174; have z70 := Tryz.sizeOf174; have v70 := Tryz.zeroValue174; have u70 := run_underlying t70
 have t4 := Tryz.underlying4; have a4 := Tryz.isAgg4; have z4 := Tryz.sizeOf4; have v4 := Tryz.zeroValue4; have u4 := run_underlying t4
 have t164 := Tryz.underlying273; have a164 := Tryz.isAgg273; have z164 := Tryz.sizeOf273; have v164 := Tryz.zeroValue273; have u164 := run_underlying t164
 go_enter Tryz.func222, Tryz.ntmps222
 go_wp2
 rw [Lib.run_neq_ptr_same w _ t70 hj]
 go_wp2
 go_end0
 exact ⟨rfl, rfl⟩
set_option maxHeartbeats 1000000 in
set_option maxRecDepth 100000 in
theorem Tryz.copyCheck_fresh (b : Nat) (w : World) (h0 : w.cell? ⟨b, 0, none⟩ = some (.pointer none)) (hsh : w.shape? b = some (177, 2)) (hfz : w.frozen? ⟨b, 0, none⟩ = false) :
  Calls Tryz.prog 222 #[.pointer (some ⟨b, 0, none⟩)] w fun e w' => e = .returned (.tuple #[]) ∧ w' = w.setCell ⟨b, 0, none⟩ (.pointer (some ⟨b, 0, none⟩)) := by
 have hsz : (Tryz.prog.info? 177).map (·.size) = some 2 := by kernel_rfl
 obtain ⟨j, hj, hjs⟩ := Option.map_eq_some_iff.1 hsz
 have lies : liesAt Tryz.prog Tryz.prog.depth 177 (2 / Tryz.prog.cellsOf 177) 0 177 1 = true := by kernel_rfl
 have mixed : Tryz.prog.follows .mixedOrders = true := by kernel_rfl
 have t72 := Tryz.underlying177; have a72 := Tryz.isAgg177; have z72 := Tryz.sizeOf177; have v72 := Tryz.zeroValue177; have u72 := run_underlying t72
 have t70 := Tryz.underlying174; have a70 := Tryz.isAgg174; have z70 := Tryz.sizeOf174; have v70 := Tryz.zeroValue174; have u70 := run_underlying t70
 have t4 := Tryz.underlying4; have a4 := Tryz.isAgg4; have z4 := Tryz.sizeOf4; have v4 := Tryz.zeroValue4; have u4 := run_underlying t4
 have t164 := Tryz.underlying273; have a164 := Tryz.isAgg273; have z164 := Tryz.sizeOf273; have v164 := Tryz.zeroValue273; have u164 := run_underlying t164
 go_enter Tryz.func222, Tryz.ntmps222
 go_wp2
 rw [Lib.run_to_unsafe w ⟨b, 0, none⟩ t70 t164 hj (by rw [hjs]; decide) hsh (Nat.zero_lt_succ 1)]
 simp only [Result.andThen]
 rw [Oper.upon_value]
 go_wp2
 rw [run_callFunc_extern Tryz.func276 (by kernel_rfl) (by kernel_rfl) (by kernel_rfl) (e := Extern.AbiNoEscape.same) (by kernel_rfl)]
 rw [Lib.run_noEscape]
 simp only [Result.andThen]
 rw [Oper.upon_value]
 go_wp2
 rw [Lib.run_from_unsafe w ⟨b, 0, none⟩ t164 t70 hj hsh lies]
 simp only [Result.andThen]
 rw [Oper.upon_value]
 go_wp2
 go_end0
 exact ⟨rfl, rfl⟩
set_option maxHeartbeats 2000000 in
set_option maxRecDepth 100000 in
theorem Tryz.String_row (b g cap : Nat) (p : Value) (cur : Array Value) (l : List UInt8) (h0 : l ≠ []) (w : World) (hbk : w.heap[b]? = some (.cells #[p, .slice (some ⟨g, 0, none⟩) l.length cap] 177 (0, 0)))
  (hg : w.heap[g]? = some (.cells cur 5 (0, 0))) (hnc : l.length ≤ cap) (hcm : cap ≤ maxLen) (hcs : cur.size = cap * 1) (hcell : ∀ (j : Nat) (x : UInt8), l[j]? = some x → cur[j]? = some (Value.int .u8 (x.toNat : Int))) :
  Calls Tryz.prog 170 #[.pointer (some ⟨b, 0, none⟩)] w fun e w' => e = .returned (.string ⟨l.toArray⟩) ∧ w' = w.drew.freeze ⟨g, 0, none⟩ l.length := by
 have hl0 : l.length ≠ 0 := by simpa using h0
 have c1 : w.drew.cell? ⟨b, 1, none⟩ = some (.slice (some ⟨g, 0, none⟩) l.length cap) := by
  have : w.drew.heap[b]? = some (.cells #[p, .slice (some ⟨g, 0, none⟩) l.length cap] 177 (0, 0)) := hbk
  rw [Lib.cell_of_heap this]; rfl
 have hSD : (Builtin.unsafeSliceData_ #[175] 235 #[.slice (some ⟨g, 0, none⟩) l.length cap]).run Tryz.prog w.drew = .ok (.pointer (some ⟨g, 0, none⟩)) w.drew :=
  Lib.run_unsafeSliceData_row _ _ _ _ _ _ (by omega)
 have hUS : (Builtin.unsafeString_ #[235, 3] 9 #[.pointer (some ⟨g, 0, none⟩), .int .i64 l.length]).run Tryz.prog w.drew = .ok (.string ⟨l.toArray⟩) (w.drew.freeze ⟨g, 0, none⟩ l.length) := by
  refine Lib.run_unsafeString_row w.drew 235 3 9 5 Tryz.underlying235 (by kernel_rfl) g cur.size (by have hg' : w.drew.heap[g]? = some (.cells cur 5 (0, 0)) := hg; simp [World.shape?, hg']) l h0 (by omega) (by unfold maxLen at hcm; omega) ?_
  intro j x hx
  have hg' : w.drew.heap[g]? = some (.cells cur 5 (0, 0)) := hg
  rw [Go.PL.Addr.add_none, Nat.zero_add, Lib.cell_of_heap hg']
  exact hcell j x hx
 have mixed : Tryz.prog.follows .mixedOrders = true := by kernel_rfl
 have t72 := Tryz.underlying177; have a72 := Tryz.isAgg177; have z72 := Tryz.sizeOf177; have v72 := Tryz.zeroValue177; have u72 := run_underlying t72
 have t70 := Tryz.underlying174; have a70 := Tryz.isAgg174; have z70 := Tryz.sizeOf174; have v70 := Tryz.zeroValue174; have u70 := run_underlying t70
 have t37 := Tryz.underlying175; have a37 := Tryz.isAgg175; have z37 := Tryz.sizeOf175; have v37 := Tryz.zeroValue175; have u37 := run_underlying t37
 have t127 := Tryz.underlying235; have a127 := Tryz.isAgg235; have z127 := Tryz.sizeOf235; have v127 := Tryz.zeroValue235; have u127 := run_underlying t127
 have t3 := Tryz.underlying3; have a3 := Tryz.isAgg3; have z3 := Tryz.sizeOf3; have v3 := Tryz.zeroValue3; have u3 := run_underlying t3
 have t9 := Tryz.underlying9; have a9 := Tryz.isAgg9; have z9 := Tryz.sizeOf9; have v9 := Tryz.zeroValue9; have u9 := run_underlying t9
 have t5 := Tryz.underlying5; have a5 := Tryz.isAgg5; have z5 := Tryz.sizeOf5; have v5 := Tryz.zeroValue5; have u5 := run_underlying t5
 go_enter Tryz.func170, Tryz.ntmps170
 go_wp2
 go_region_o
 all_goals (go_wp2; go_ret; exact ⟨rfl, rfl⟩)
set_option maxHeartbeats 2000000 in
set_option maxRecDepth 100000 in
theorem Tryz.String_nil (b : Nat) (p : Value) (w : World) (hbk : w.heap[b]? = some (.cells #[p, .slice none 0 0] 177 (0, 0))) :
  Calls Tryz.prog 170 #[.pointer (some ⟨b, 0, none⟩)] w fun e w' => e = .returned (.string ⟨#[]⟩) ∧ w' = w.drew := by
 have hUS : ∀ W q, (Builtin.unsafeString_ #[235, 3] 9 #[.pointer q, .int .i64 0]).run Tryz.prog W = .ok (.string .empty) W := fun W q => Lib.run_unsafeString_none W _ _ _ q
 have c1 : w.drew.cell? ⟨b, 1, none⟩ = some (.slice none 0 0) := by
  have : w.drew.heap[b]? = some (.cells #[p, .slice none 0 0] 177 (0, 0)) := hbk
  rw [Lib.cell_of_heap this]; rfl
 have hSD : (Builtin.unsafeSliceData_ #[175] 235 #[.slice none 0 0]).run Tryz.prog w.drew = .ok (.pointer none) w.drew := rfl
 have mixed : Tryz.prog.follows .mixedOrders = true := by kernel_rfl
 have t72 := Tryz.underlying177; have a72 := Tryz.isAgg177; have z72 := Tryz.sizeOf177; have v72 := Tryz.zeroValue177; have u72 := run_underlying t72
 have t70 := Tryz.underlying174; have a70 := Tryz.isAgg174; have z70 := Tryz.sizeOf174; have v70 := Tryz.zeroValue174; have u70 := run_underlying t70
 have t37 := Tryz.underlying175; have a37 := Tryz.isAgg175; have z37 := Tryz.sizeOf175; have v37 := Tryz.zeroValue175; have u37 := run_underlying t37
 have t127 := Tryz.underlying235; have a127 := Tryz.isAgg235; have z127 := Tryz.sizeOf235; have v127 := Tryz.zeroValue235; have u127 := run_underlying t127
 have t3 := Tryz.underlying3; have a3 := Tryz.isAgg3; have z3 := Tryz.sizeOf3; have v3 := Tryz.zeroValue3; have u3 := run_underlying t3
 have t9 := Tryz.underlying9; have a9 := Tryz.isAgg9; have z9 := Tryz.sizeOf9; have v9 := Tryz.zeroValue9; have u9 := run_underlying t9
 have t5 := Tryz.underlying5; have a5 := Tryz.isAgg5; have z5 := Tryz.sizeOf5; have v5 := Tryz.zeroValue5; have u5 := run_underlying t5
 go_enter Tryz.func170, Tryz.ntmps170
 go_wp2
 go_region_o
 all_goals (go_wp2; go_ret; exact ⟨rfl, rfl⟩)
set_option maxHeartbeats 2000000 in
set_option maxRecDepth 100000 in
theorem Tryz.String_noroom (b g : Nat) (p : Value) (cur : Array Value) (w : World) (hlt : b < w.heap.size) (hbk : w.heap[b]? = some (.cells #[p, .slice (some ⟨g, 0, none⟩) 0 0] 177 (0, 0))) (hg : w.heap[g]? = some (.cells cur 5 (0, 0))) :
  Calls Tryz.prog 170 #[.pointer (some ⟨b, 0, none⟩)] w fun e w' => e = .returned (.string ⟨#[]⟩) ∧ w' = w.drew.alloc (.view ⟨g, 0, none⟩ 5) := by
 have hUS : ∀ W q, (Builtin.unsafeString_ #[235, 3] 9 #[.pointer q, .int .i64 0]).run Tryz.prog W = .ok (.string .empty) W := fun W q => Lib.run_unsafeString_none W _ _ _ q
 have c1 : w.drew.cell? ⟨b, 1, none⟩ = some (.slice (some ⟨g, 0, none⟩) 0 0) := by
  have : w.drew.heap[b]? = some (.cells #[p, .slice (some ⟨g, 0, none⟩) 0 0] 177 (0, 0)) := hbk
  rw [Lib.cell_of_heap this]; rfl
 have hSD : (Builtin.unsafeSliceData_ #[175] 235 #[.slice (some ⟨g, 0, none⟩) 0 0]).run Tryz.prog w.drew = .ok (.pointer (some ⟨w.drew.heap.size, 0, none⟩)) (w.drew.alloc (.view ⟨g, 0, none⟩ 5)) :=
  Lib.run_unsafeSliceData_zero w.drew _ _ 5 Tryz.underlying235 ⟨g, 0, none⟩ 0 (5, cur.size) (by have hg' : w.drew.heap[g]? = some (.cells cur 5 (0, 0)) := hg; simp [World.shape?, hg'])
 have c2 : (w.drew.alloc (.view ⟨g, 0, none⟩ 5)).cell? ⟨b, 1, none⟩ = some (.slice (some ⟨g, 0, none⟩) 0 0) := by
  have : (w.drew.alloc (.view ⟨g, 0, none⟩ 5)).heap[b]? = _ := (Lib.alloc_old w.drew _ b hlt).trans hbk
  rw [Lib.cell_of_heap this]; rfl
 have c3 : (w.alloc (.view ⟨g, 0, none⟩ 5)).drew.cell? ⟨b, 1, none⟩ = some (.slice (some ⟨g, 0, none⟩) 0 0) := c2
 have c0 : w.cell? ⟨b, 1, none⟩ = some (.slice (some ⟨g, 0, none⟩) 0 0) := c1
 have mixed : Tryz.prog.follows .mixedOrders = true := by kernel_rfl
 have t72 := Tryz.underlying177; have a72 := Tryz.isAgg177; have z72 := Tryz.sizeOf177; have v72 := Tryz.zeroValue177; have u72 := run_underlying t72
 have t70 := Tryz.underlying174; have a70 := Tryz.isAgg174; have z70 := Tryz.sizeOf174; have v70 := Tryz.zeroValue174; have u70 := run_underlying t70
 have t37 := Tryz.underlying175; have a37 := Tryz.isAgg175; have z37 := Tryz.sizeOf175; have v37 := Tryz.zeroValue175; have u37 := run_underlying t37
 have t127 := Tryz.underlying235; have a127 := Tryz.isAgg235; have z127 := Tryz.sizeOf235; have v127 := Tryz.zeroValue235; have u127 := run_underlying t127
 have t3 := Tryz.underlying3; have a3 := Tryz.isAgg3; have z3 := Tryz.sizeOf3; have v3 := Tryz.zeroValue3; have u3 := run_underlying t3
 have t9 := Tryz.underlying9; have a9 := Tryz.isAgg9; have z9 := Tryz.sizeOf9; have v9 := Tryz.zeroValue9; have u9 := run_underlying t9
 have t5 := Tryz.underlying5; have a5 := Tryz.isAgg5; have z5 := Tryz.sizeOf5; have v5 := Tryz.zeroValue5; have u5 := run_underlying t5
 go_enter Tryz.func170, Tryz.ntmps170
 go_wp2
 go_region_o
 all_goals (go_wp2; go_ret; exact ⟨rfl, rfl⟩)
set_option maxHeartbeats 2000000 in
set_option maxRecDepth 100000 in
theorem Tryz.String_room (b g cap : Nat) (p : Value) (w : World) (hc0 : cap ≠ 0) (hbk : w.heap[b]? = some (.cells #[p, .slice (some ⟨g, 0, none⟩) 0 cap] 177 (0, 0))) :
  Calls Tryz.prog 170 #[.pointer (some ⟨b, 0, none⟩)] w fun e w' => e = .returned (.string ⟨#[]⟩) ∧ w' = w.drew := by
 have hUS : ∀ W q, (Builtin.unsafeString_ #[235, 3] 9 #[.pointer q, .int .i64 0]).run Tryz.prog W = .ok (.string .empty) W := fun W q => Lib.run_unsafeString_none W _ _ _ q
 have c1 : w.drew.cell? ⟨b, 1, none⟩ = some (.slice (some ⟨g, 0, none⟩) 0 cap) := by
  have : w.drew.heap[b]? = some (.cells #[p, .slice (some ⟨g, 0, none⟩) 0 cap] 177 (0, 0)) := hbk
  rw [Lib.cell_of_heap this]; rfl
 have hSD : (Builtin.unsafeSliceData_ #[175] 235 #[.slice (some ⟨g, 0, none⟩) 0 cap]).run Tryz.prog w.drew = .ok (.pointer (some ⟨g, 0, none⟩)) w.drew :=
  Lib.run_unsafeSliceData_row _ _ _ _ _ _ hc0
 clear hc0
 have mixed : Tryz.prog.follows .mixedOrders = true := by kernel_rfl
 have t72 := Tryz.underlying177; have a72 := Tryz.isAgg177; have z72 := Tryz.sizeOf177; have v72 := Tryz.zeroValue177; have u72 := run_underlying t72
 have t70 := Tryz.underlying174; have a70 := Tryz.isAgg174; have z70 := Tryz.sizeOf174; have v70 := Tryz.zeroValue174; have u70 := run_underlying t70
 have t37 := Tryz.underlying175; have a37 := Tryz.isAgg175; have z37 := Tryz.sizeOf175; have v37 := Tryz.zeroValue175; have u37 := run_underlying t37
 have t127 := Tryz.underlying235; have a127 := Tryz.isAgg235; have z127 := Tryz.sizeOf235; have v127 := Tryz.zeroValue235; have u127 := run_underlying t127
 have t3 := Tryz.underlying3; have a3 := Tryz.isAgg3; have z3 := Tryz.sizeOf3; have v3 := Tryz.zeroValue3; have u3 := run_underlying t3
 have t9 := Tryz.underlying9; have a9 := Tryz.isAgg9; have z9 := Tryz.sizeOf9; have v9 := Tryz.zeroValue9; have u9 := run_underlying t9
 have t5 := Tryz.underlying5; have a5 := Tryz.isAgg5; have z5 := Tryz.sizeOf5; have v5 := Tryz.zeroValue5; have u5 := run_underlying t5
 go_enter Tryz.func170, Tryz.ntmps170
 go_wp2
 go_region_o
 all_goals (go_wp2; go_ret; exact ⟨rfl, rfl⟩)
end Go.Proofs
namespace Go.Proofs
open Go.Shelf Go.RowKit
theorem wpList_append_run {P : Program} {w : World} {ops : Array Oper} {rest : List Oper} {o : Oper} {a : Act} {Q : Exit → Act → World → Prop} (hgd : o.guard = none) (sl x : Operand) (t u : TypeId)
  (ho : o.op = .call { callee := .builtin .append, args := #[sl, x], argTypes := #[t, u] }) (ty : TypeId) (hty : o.type = ty) (v : Value) (s : ByteArray) (hs : a.eval sl = v) (hx : a.eval x = .string s) (v' : Value) (w' : World)
  (hr : (Builtin.append_ #[t, u] ty #[v, .string s]).run P w = .ok v' w') (h : wpList P ops Q rest (a.put o.dst v') w') : wpList P ops Q (o :: rest) a w := by
 refine wpList_plain hgd fun K hK => ?_
 unfold Oper.wp execOp
 simp only [ho, hty, resolve, invoke, builtin, Sem.run_bind, Sem.run_pure, Result.andThen_ok, List.map_toArray, List.map_cons, List.map_nil, hs, hx, hr]
 exact hK _ _ h
set_option maxHeartbeats 2000000 in
set_option maxRecDepth 100000 in
theorem Tryz.WriteString_ex (b : Nat) (v : Value) (ao : Option Addr) (n' cap : Nat) (s : ByteArray) (w w1 w2 : World) (hcc : Calls Tryz.prog 222 #[.pointer (some ⟨b, 0, none⟩)] w fun e w' => e = .returned (.tuple #[]) ∧ w' = w1)
  (hbk : w1.heap[b]? = some (.cells #[.pointer (some ⟨b, 0, none⟩), v] 177 (0, 0))) (hap : (Builtin.append_ #[175, 9] 175 #[v, .string s]).run Tryz.prog w1 = .ok (.slice ao n' cap) w2)
  (hb2 : w2.heap[b]? = some (.cells #[.pointer (some ⟨b, 0, none⟩), v] 177 (0, 0))) :
  Calls Tryz.prog 167 #[.pointer (some ⟨b, 0, none⟩), .string s] w fun e w' => e = .returned (.tuple #[.int .i64 s.size, .nilIface]) ∧ w' = w2.setCell ⟨b, 1, none⟩ (.slice ao n' cap) := by
 have mixed : Tryz.prog.follows .mixedOrders = true := by kernel_rfl
 have t72 := Tryz.underlying177; have a72 := Tryz.isAgg177; have z72 := Tryz.sizeOf177; have v72 := Tryz.zeroValue177; have u72 := run_underlying t72
 have t70 := Tryz.underlying174; have a70 := Tryz.isAgg174; have z70 := Tryz.sizeOf174; have v70 := Tryz.zeroValue174; have u70 := run_underlying t70
 have t37 := Tryz.underlying175; have a37 := Tryz.isAgg175; have z37 := Tryz.sizeOf175; have v37 := Tryz.zeroValue175; have u37 := run_underlying t37
 have t3 := Tryz.underlying3; have a3 := Tryz.isAgg3; have z3 := Tryz.sizeOf3; have v3 := Tryz.zeroValue3; have u3 := run_underlying t3
 have t9 := Tryz.underlying9; have a9 := Tryz.isAgg9; have z9 := Tryz.sizeOf9; have v9 := Tryz.zeroValue9; have u9 := run_underlying t9
 have t4 := Tryz.underlying4; have a4 := Tryz.isAgg4; have z4 := Tryz.sizeOf4; have v4 := Tryz.zeroValue4; have u4 := run_underlying t4
 have t5 := Tryz.underlying5; have a5 := Tryz.isAgg5; have z5 := Tryz.sizeOf5; have v5 := Tryz.zeroValue5; have u5 := run_underlying t5
 have e167 : ∀ args w, (callFunc 222 args).run Tryz.prog w = .ok (.enter 222 args) w := enters_of Tryz.func222 (by kernel_rfl) rfl
 go_enter Tryz.func167, Tryz.ntmps167
 go_wp2_with (go_at_fn 222; refine hcc.mono ?_)
 rintro e w' ⟨rfl, rfl⟩
 have c0 : w'.cell? ⟨b, 0, none⟩ = some (.pointer (some ⟨b, 0, none⟩)) := by rw [Lib.cell_of_heap hbk]; rfl
 have c1 : w'.cell? ⟨b, 1, none⟩ = some v := by rw [Lib.cell_of_heap hbk]; rfl
 have d0 : w2.cell? ⟨b, 0, none⟩ = some (.pointer (some ⟨b, 0, none⟩)) := by rw [Lib.cell_of_heap hb2]; rfl
 have d1 : w2.cell? ⟨b, 1, none⟩ = some v := by rw [Lib.cell_of_heap hb2]; rfl
 have f1 : w2.frozen? ⟨b, 1, none⟩ = false := Lib.frozen_of_heap hb2 1
 go_wp2_with (at_builtin; refine wpList_append_run rfl _ _ 175 9 rfl 175 rfl _ s rfl rfl _ _ hap ?_)
 go_wp2
 go_ret2
 exact ⟨rfl, rfl⟩
end Go.Proofs
namespace Go.PL
open Go
theorem bytes_arr (x : ByteArray) : (⟨x.data.toList.toArray⟩ : ByteArray) = x := by cases x; simp
theorem size0 {x : ByteArray} (h : x.size = 0) : x = ⟨#[]⟩ := by
 cases x with
 | mk d => have : d = #[] := Array.eq_empty_of_size_eq_zero h; rw [this]
theorem relw_none {g : Nat → Value} {w w' : World} {F : Nat → Prop} {H : Hp} (hH : HpR F g w (fun _ => True) H) (hF : ∀ b, F b → b < w.heap.size)
  (hos : w'.os = w.os) (htp : w'.tape = w.tape) (hout : w'.output = w.output) (hsz : w.heap.size ≤ w'.heap.size) (hb : ∀ b, b < w.heap.size → ¬ Own g w H b → w'.heap[b]? = w.heap[b]?) :
  RelW { w0 := w, F0 := F, B0 := Own g w H, g0 := g, N := [], nt := 0 } F g [] w' := by
 refine ⟨⟨fun o x h => by simp at h, fun o x b h => by simp at h, fun o x o' y b h => by simp at h⟩, fun b h => h, fun b h => ⟨Nat.lt_of_lt_of_le (hF b h) hsz, .inl h⟩, ⟨hos, htp, hout, hsz, hb⟩, fun o h => by simp at h, ?_⟩
 rintro b ⟨o, x, h1, h2⟩
 exact h2.block (hH.obj o x h1)
theorem con121 (x : ByteArray) : ConH Proofs.Tryz.prog 170 [.ptr 30000 0] [(30000, .bld 177 5 x)] [] (some x) (fun y => .t (.str y)) (fun _ => []) := by
 refine ⟨callable_of Proofs.Tryz.func170 (by kernel_rfl), fun y hy => ?_⟩
 cases hy
 intro F g w vs hs hv hH hF hgl
 obtain ⟨b, p, v, h1, h2, h3, h4⟩ := hH.obj 30000 _ (List.mem_singleton.2 rfl)
 have h0 : 0 < vs.size := by rw [hs]; decide
 have hv0 := hv 0 _ vs[0] rfl (by simp [h0])
 have hvs : vs = #[.pointer (some ⟨b, 0, none⟩)] := by
  have e0 : vs[0] = .pointer (some ⟨b, 0, none⟩) := by
   generalize vs[0] = u at hv0
   cases hv0 with
   | ptr hg => rw [h1] at hg; injection hg with hg; injection hg with hg; injection hg with hg; subst hg; rfl
  apply Array.ext
  ·rw [hs]; rfl
  ·intro q hq _
   have : q = 0 := by rw [hs] at hq; simp at hq; omega
   subst this
   simpa using e0
 subst hvs
 have post : ∀ {w' : World}, w'.os = w.os → w'.tape = w.tape → w'.output = w.output → w.heap.size ≤ w'.heap.size → (∀ q, q < w.heap.size → ¬ Own g w [(30000, .bld 177 5 x)] q → w'.heap[q]? = w.heap[q]?) →
   ∃ v r H' F' g', Ending.returned (.string x) = .returned v ∧ RetH (.t (.str x)) [] r H' ∧ VR F' g' w' r v ∧ RelW { w0 := w, F0 := F, B0 := Own g w [(30000, .bld 177 5 x)], g0 := g, N := [], nt := 0 } F' g' H' w' :=
  fun e1 e2 e3 e4 e5 => ⟨_, _, _, F, g, rfl, ⟨rfl, rfl⟩, .t (.str _), relw_none hH hF e1 e2 e3 e4 e5⟩
 rcases h4 with ⟨rfl, hx0⟩ | ⟨r, cap, cur, rfl, k1, k2, k3, k4, k5, k6⟩
 ·have hx : x = ⟨#[]⟩ := size0 hx0
  refine (Proofs.Tryz.String_nil b p w h2).mono ?_
  rintro e w' ⟨rfl, rfl⟩
  rw [← hx]
  exact post rfl rfl rfl (Nat.le_refl _) (fun _ _ _ => rfl)
 ·have hblt : b < w.heap.size := (Array.getElem?_eq_some_iff.1 h2).1
  by_cases hx0 : x.size = 0
  ·have hx : x = ⟨#[]⟩ := size0 hx0
   rw [hx0] at h2
   by_cases hc : cap = 0
   ·subst hc
    refine (Proofs.Tryz.String_noroom b r p cur w hblt h2 k1).mono ?_
    rintro e w' ⟨rfl, rfl⟩
    rw [← hx]
    exact post rfl rfl rfl (by show w.heap.size ≤ (w.heap.push _).size; rw [Array.size_push]; exact Nat.le_succ _) (fun q hq _ => heap_alloc_old w.drew _ hq)
   ·refine (Proofs.Tryz.String_room b r cap p w hc h2).mono ?_
    rintro e w' ⟨rfl, rfl⟩
    rw [← hx]
    exact post rfl rfl rfl (Nat.le_refl _) (fun _ _ _ => rfl)
  ·have hl : x.data.toList.length = x.size := by simp
   have hne : x.data.toList ≠ [] := by
    intro h
    rw [h] at hl
    exact hx0 hl.symm
   have h2' := h2
   rw [← hl] at h2'
   refine (Proofs.Tryz.String_row b r cap p cur x.data.toList hne w h2' k1 (by omega) k4 (by omega) (fun q u hu => ?_)).mono ?_
   ·have hq : q < x.size := by rw [← hl]; exact (List.getElem?_eq_some_iff.1 hu).1
    have := congrArg (·[q]?) k6
    simp only [List.getElem?_take, if_pos hq, byteCs, List.getElem?_map, hu] at this
    simpa using this
   ·rintro e w' ⟨rfl, rfl⟩
    rw [bytes_arr]
    have hn : x.data.toList.length ≠ 0 := by omega
    refine post ?_ ?_ ?_ ?_ (fun q hq ho => ?_)
    ·simp only [World.freeze, if_neg hn]; rfl
    ·simp only [World.freeze, if_neg hn]; rfl
    ·simp only [World.freeze, if_neg hn]; rfl
    ·simp only [World.freeze, if_neg hn]
     rw [Array.size_modify]
     exact Nat.le_refl _
    ·have hqr : q ≠ r := fun e => ho ⟨30000, _, List.mem_singleton.2 rfl, .bld h1 h2 (by rw [e]; rfl)⟩
     simp only [World.freeze, if_neg hn]
     rw [Array.getElem?_modify, if_neg (fun e => hqr e.symm)]
     rfl
end Go.PL
namespace Go.PL
open Go Go.Lib
theorem heap_setCell (w : World) (b q : Nat) (u c0 c1 : Value) (ty : Nat) (hb : w.heap[b]? = some (.cells #[c0, c1] ty (0, 0))) (_hq : q < 2) :
  (w.setCell ⟨b, q, none⟩ u).heap[b]? = some (.cells (#[c0, c1].setIfInBounds q u) ty (0, 0)) := by
 simp [World.setCell, Array.getElem?_modify, hb]
theorem heap_setCell_other (w : World) (b q k : Nat) (u : Value) (hk : k ≠ b) : (w.setCell ⟨b, q, none⟩ u).heap[k]? = w.heap[k]? := by
 simp [World.setCell, Array.getElem?_modify, Ne.symm hk]
theorem size_setCell (w : World) (b q : Nat) (u : Value) : (w.setCell ⟨b, q, none⟩ u).heap.size = w.heap.size := by
 simp [World.setCell]
def RowB (w : World) (v : Value) (s : ByteArray) : Prop :=
 (v = .slice none 0 0 ∧ s.size = 0) ∨ ∃ r cap cur, v = .slice (some ⟨r, 0, none⟩) s.size cap ∧ w.heap[r]? = some (.cells cur 5 (0, 0)) ∧ s.size ≤ cap ∧ cap ≤ maxLen ∧ cur.size = cap ∧ cur.toList.take s.size = byteCs s
theorem byteCs_app (x s : ByteArray) : byteCs (x ++ s) = byteCs x ++ byteCs s := by
 simp [byteCs, ByteArray.data_append]
theorem byteCs_len (s : ByteArray) : (byteCs s).length = s.size := by simp [byteCs]
theorem append_row (x s : ByteArray) (w : World) (v : Value) (hr : RowB w v x) (hC : x.size + s.size ≤ 140737488355328) :
  ∃ ao n cap w2, (Builtin.append_ #[175, 9] 175 #[v, .string s]).run Proofs.Tryz.prog w = .ok (.slice ao n cap) w2 ∧ RowB w2 (.slice ao n cap) (x ++ s) ∧ (∀ k, k < w.heap.size → blk v ≠ some k → w2.heap[k]? = w.heap[k]?) ∧
   w.heap.size ≤ w2.heap.size ∧ w2.os = w.os ∧ w2.tape = w.tape ∧ w2.output = w.output ∧ (∀ k, blk (.slice ao n cap) = some k → blk v = some k ∨ w.heap.size ≤ k) := by
 have htx : Proofs.Tryz.prog.underlying 9 = some .string := Proofs.Tryz.underlying9
 have ht : Proofs.Tryz.prog.underlying 175 = some (.slice 5) := Proofs.Tryz.underlying175
 have hi0 : (Proofs.Tryz.prog.info? 5).map (fun i => (i.zero, i.size, i.bytes)) = some (some (.int .u8 0), 1, 1) := by kernel_rfl
 obtain ⟨i, hi, hi1⟩ := Option.map_eq_some_iff.1 hi0
 injection hi1 with hz hi2
 injection hi2 with hs hb
 have hsz : (x ++ s).size = x.size + s.size := ByteArray.size_append
 have hsc : strCells s = byteCs s := rfl
 rcases hr with ⟨rfl, hx0⟩ | ⟨r, cap, cur, rfl, h1, h2, h3, h4, h5⟩
 ·have hx : byteCs (x ++ s) = byteCs s := by
   have h0 : byteCs x = [] := List.eq_nil_of_length_eq_zero (by rw [byteCs_len]; exact hx0)
   rw [byteCs_app, h0, List.nil_append]
  by_cases hs0 : s.size = 0
  ·refine ⟨none, 0, 0, w, ?_, .inl ⟨rfl, by omega⟩, fun _ _ _ => rfl, Nat.le_refl _, rfl, rfl, rfl, fun k h => by simp [blk] at h⟩
   simp [Builtin.append_, run_underlying ht, run_underlying htx, sizeOf, typeInfo, hi, Builtin.lenOf, hs0, Builtin.firstCells]
  ·have hrun := run_append_grow_string0 (P := Proofs.Tryz.prog) w 175 9 175 5 i _ ht htx hi hz s (by omega) (by omega) (by rw [hb]; omega)
   refine ⟨_, _, _, _, hrun, .inr ⟨_, _, _, by rw [hsz, hx0, Nat.zero_add]; rfl, heap_alloc_new w.drew _, ?_, ?_, ?_, ?_⟩, fun k hk _ => heap_alloc_old w.drew _ hk, ?_, rfl, rfl, rfl, fun k h => ?_⟩
   ·rw [hsz, hx0, Nat.zero_add]; exact grownCap_ge w s.size 0 5
   ·exact grownCap_le_maxLen w s.size 0 5 (by simp only [maxLen]; omega)
   ·have := grownCap_ge w s.size 0 5
    simp only [Array.size_append, List.size_toArray, strCells_length, size_zeroCells]
    simp [Value.cells]; omega
   ·rw [hx, hsz, hx0, Nat.zero_add]
    simp only [Array.toList_append]
    rw [List.take_append_of_le_length (by simp [strCells_length]), List.take_of_length_le (by simp [strCells_length])]
    simp [hsc]
   ·show w.heap.size ≤ (w.heap.push _).size; rw [Array.size_push]; exact Nat.le_succ _
   ·simp [blk] at h; right; omega
 ·have hrl : r < w.heap.size := (Array.getElem?_eq_some_iff.1 h1).1
  by_cases hroom : x.size + s.size ≤ cap
  ·have hrun := run_append_room_string (P := Proofs.Tryz.prog) w 175 9 175 5 i ht htx hi hs r x.size cap cur h1 s hroom (by omega)
   refine ⟨_, _, _, _, hrun, .inr ⟨r, cap, _, by rw [hsz], setRow_heap w r cur _ 5 _ h1, by omega, h3, ?_, ?_⟩, fun k hk hne => setRow_other w r k _ (fun e => hne (by rw [e]; rfl)), by simp, rfl, rfl, rfl, fun k h => .inl h⟩
   ·simp only [List.size_toArray, List.length_append, List.length_take, List.length_drop, strCells_length, Array.length_toList]; omega
   ·rw [hsz, byteCs_app, hsc, h5]
    have hl1 : (byteCs x ++ byteCs s).length = x.size + s.size := by simp [byteCs_len]
    rw [List.take_append_of_le_length (by omega), List.take_of_length_le (by omega)]
  ·have hol : (cur.toList.take x.size).length = x.size * i.size := by rw [hs]; simp only [List.length_take, Array.length_toList]; omega
   have hrun := run_append_grow_string (P := Proofs.Tryz.prog) w 175 9 175 5 i _ ht htx hi hz ⟨r, 0, none⟩ x.size cap (cur.toList.take x.size) hol (fun k u hu => by
    rw [Addr.add_none, Nat.zero_add]
    rw [List.getElem?_take] at hu
    split at hu
    ·simpa [World.cell?, h1] using hu
    ·cases hu) s (by omega) (by omega) (growslice_fits (by omega) (by rw [hb]; omega))
   refine ⟨_, _, _, _, hrun, .inr ⟨_, _, _, by rw [hsz]; rfl, heap_alloc_new w.drew _, ?_, ?_, ?_, ?_⟩, fun k hk _ => heap_alloc_old w.drew _ hk, ?_, rfl, rfl, rfl, fun k h => ?_⟩
   ·rw [hsz]; exact grownCap_ge w (x.size + s.size) cap 5
   ·exact grownCap_le_maxLen w (x.size + s.size) cap 5 (by simp only [maxLen]; omega)
   ·have := grownCap_ge w (x.size + s.size) cap 5
    rw [hs, Nat.mul_one] at hol
    simp only [Array.size_append, List.size_toArray, hol, strCells_length, size_zeroCells]
    simp [Value.cells]; omega
   ·rw [hsz, byteCs_app, hsc, h5]
    have hl1 : (byteCs x ++ byteCs s).length = x.size + s.size := by simp [byteCs_len]
    simp only [Array.toList_append]
    rw [List.take_append_of_le_length (by simp [byteCs_len]), List.take_of_length_le (by simp [byteCs_len])]
   ·show w.heap.size ≤ (w.heap.push _).size; rw [Array.size_push]; exact Nat.le_succ _
   ·simp [blk] at h; right; omega
theorem con118 (x s : ByteArray) : ConH Proofs.Tryz.prog 167 [.ptr 30000 0, .t (.str s)] [(30000, .bld 177 5 x)] [30000] (if x.size + s.size ≤ 140737488355328 then some () else none)
  (fun _ : Unit => .tup [.t (.int .i64 s.size), .lit .nilIface]) (fun _ => [(30000, .bld 177 5 (x ++ s))]) := by
 refine ⟨callable_of Proofs.Tryz.func167 (by kernel_rfl), fun y hy => ?_⟩
 split at hy
 case isFalse => cases hy
 rename_i hC
 intro F g w vs hs hv hH hF hgl
 have hmem : (30000, PObj.bld 177 5 x) ∈ ([(30000, .bld 177 5 x)] : Hp) := List.mem_singleton.2 rfl
 obtain ⟨b, p, v, h1, h2, h3, h4⟩ := hH.obj 30000 _ hmem
 have hs2 : vs.size = 2 := hs
 have hv0 := hv 0 _ (vs[0]'(by omega)) rfl (by simp [hs2])
 have hv1 := hv 1 _ (vs[1]'(by omega)) rfl (by simp [hs2])
 have hvs : vs = #[.pointer (some ⟨b, 0, none⟩), .string s] := by
  have e0 : vs[0]'(by omega) = .pointer (some ⟨b, 0, none⟩) := by
   generalize vs[0]'(by omega) = u at hv0
   cases hv0 with
   | ptr hg => rw [h1] at hg; injection hg with hg; injection hg with hg; injection hg with hg; subst hg; rfl
  have e1 : vs[1]'(by omega) = .string s := hv1.inv_str
  apply Array.ext
  ·rw [hs2]; rfl
  ·intro q hq _
   match q, hq with
   | 0, _ => simpa using e0
   | 1, _ => simpa using e1
   | q + 2, hq => omega
 subst hvs
 have hblt : b < w.heap.size := (Array.getElem?_eq_some_iff.1 h2).1
 have rowb : RowB w v x := by
  rcases h4 with h4 | ⟨r, cap, cur, k1, k2, k3, k4⟩
  ·exact .inl h4
  ·exact .inr ⟨r, cap, cur, k1, k2, k4⟩
 have hvb : blk v ≠ some b := by
  rcases h4 with ⟨rfl, _⟩ | ⟨r, cap, cur, rfl, k2, k3, k4⟩
  ·simp [blk]
  ·simp [blk]; exact k3
 obtain ⟨w1, c1, c2, c3, c4, c5, c6, c7⟩ : ∃ w1, (Calls Proofs.Tryz.prog 222 #[.pointer (some ⟨b, 0, none⟩)] w fun e w' => e = .returned (.tuple #[]) ∧ w' = w1) ∧ w1.heap[b]? = some (.cells #[.pointer (some ⟨b, 0, none⟩), v] 177 (0, 0)) ∧
   (∀ k, k ≠ b → w1.heap[k]? = w.heap[k]?) ∧ w1.heap.size = w.heap.size ∧ w1.os = w.os ∧ w1.tape = w.tape ∧ w1.output = w.output := by
  rcases h3 with rfl | rfl
  ·refine ⟨_, Proofs.Tryz.copyCheck_fresh b w (by rw [Lib.cell_of_heap h2]; rfl) (by simp [World.shape?, h2]) (Lib.frozen_of_heap h2 0), ?_, fun k hk => heap_setCell_other w b 0 k _ hk, size_setCell .., rfl, rfl, rfl⟩
   rw [heap_setCell w b 0 _ _ _ _ h2 (by decide)]
   rfl
  ·exact ⟨w, Proofs.Tryz.copyCheck_used b w (by rw [Lib.cell_of_heap h2]; rfl), h2, fun _ _ => rfl, rfl, rfl, rfl, rfl⟩
 have rowb1 : RowB w1 v x := by
  rcases rowb with h | ⟨r, cap, cur, k1, k2, k3⟩
  ·exact .inl h
  ·refine .inr ⟨r, cap, cur, k1, ?_, k3⟩
   rw [c3 r (fun e => hvb (by rw [k1, e]; rfl))]; exact k2
 obtain ⟨ao, n', cap', w2, d1, d2, d3, d4, d5, d6, d7, d8⟩ := append_row x s w1 v rowb1 hC
 have hb2 : w2.heap[b]? = some (.cells #[.pointer (some ⟨b, 0, none⟩), v] 177 (0, 0)) := by rw [d3 b (by omega) hvb]; exact c2
 have hv'b : blk (.slice ao n' cap') ≠ some b := fun e => by
  rcases d8 b e with h | h
  ·exact hvb h
  ·omega
 refine (Proofs.Tryz.WriteString_ex b v ao n' cap' s w w1 w2 c1 c2 d1 hb2).mono ?_
 rintro e w' ⟨rfl, rfl⟩
 have hold : ∀ k, k < w.heap.size → k ≠ b → blk v ≠ some k → (w2.setCell ⟨b, 1, none⟩ (.slice ao n' cap')).heap[k]? = w.heap[k]? := fun k hk hkb hkv => by
  rw [heap_setCell_other w2 b 1 k _ hkb, d3 k (by omega) hkv, c3 k hkb]
 have hbld : BldV (w2.setCell ⟨b, 1, none⟩ (.slice ao n' cap')) (g 30000) 177 5 (x ++ s) := by
  refine ⟨b, .pointer (some ⟨b, 0, none⟩), .slice ao n' cap', h1, ?_, .inr rfl, ?_⟩
  ·rw [heap_setCell w2 b 1 _ _ _ _ hb2 (by decide)]; rfl
  ·rcases d2 with h | ⟨r, cap, cur, k1, k2, k3⟩
   ·exact .inl h
   ·have hrb : r ≠ b := fun e => hv'b (by rw [k1, e]; rfl)
    exact .inr ⟨r, cap, cur, k1, by rw [heap_setCell_other w2 b 1 r _ hrb]; exact k2, hrb, k3⟩
 have hfoot : ∀ q, Foot g (w2.setCell ⟨b, 1, none⟩ (.slice ao n' cap')) 30000 (.bld 177 5 (x ++ s)) q → q = b ∨ blk (.slice ao n' cap') = some q := by
  intro q hq
  cases hq with
  | self h => rw [h1] at h; simp [blk] at h; exact .inl h.symm
  | bld k1 k2 k3 =>
   rw [h1] at k1; injection k1 with k1; injection k1 with k1; injection k1 with k1; subst k1
   rw [heap_setCell w2 b 1 _ _ _ _ hb2 (by decide)] at k2
   injection k2 with k2; injection k2 with k2; injection k2 with k2; injection k2 with k2 k4; injection k4 with k4
   subst k4
   exact .inr k3
 have hown : ∀ q, blk v = some q → Foot g w 30000 (.bld 177 5 x) q := fun q hq => .bld h1 h2 hq
 have hself : Foot g w 30000 (.bld 177 5 x) b := .self (by rw [h1]; rfl)
 refine ⟨_, _, _, F, g, rfl, ⟨rfl, rfl⟩, .tup rfl fun j q u hq hu => ?_, ⟨⟨fun o q hq => ?_, fun o q c hq hc => ?_, fun o q o' q' c hq hq' hne => ?_⟩, fun b h => h, fun c hc => ⟨?_, .inl hc⟩, ⟨?_, ?_, ?_, ?_, fun c hc hn => ?_⟩, fun _ _ => rfl, ?_⟩⟩
 ·match j, hq, hu with
  | 0, hq, hu => simp at hq hu; subst hq; subst hu; exact .t (.int _ _)
  | 1, hq, hu => simp at hq hu; subst hq; subst hu; exact .lit rfl
  | j + 2, hq, _ => simp at hq
 ·cases List.mem_singleton.1 hq; exact hbld
 ·cases List.mem_singleton.1 hq
  rcases hfoot c hc with rfl | h
  ·exact ⟨(hH.own _ _ _ hmem hself).1, .inl ⟨_, _, hmem, hself⟩⟩
  ·rcases d8 c h with h | h
   ·exact ⟨(hH.own _ _ _ hmem (hown c h)).1, .inl ⟨_, _, hmem, hown c h⟩⟩
   ·exact ⟨fun hf => by have := hF c hf; omega, .inr (by simpa [c4] using h)⟩
 ·cases List.mem_singleton.1 hq; cases List.mem_singleton.1 hq'; exact absurd rfl hne
 ·rw [size_setCell]; have := hF c hc; omega
 ·show w2.os = w.os; rw [d5, c5]
 ·show w2.tape = w.tape; rw [d6, c6]
 ·show w2.output = w.output; rw [d7, c7]
 ·rw [size_setCell]; show w.heap.size ≤ _; omega
 ·exact hold c hc (fun e => hn ⟨_, _, hmem, e ▸ hself⟩) (fun e => hn ⟨_, _, hmem, hown c e⟩)
 ·rintro c ⟨o, q, k1, k2⟩
  exact k2.block (hH.obj o q k1)
end Go.PL
namespace Go.Proofs
open Go.Shelf
def Tryz.lays169_ren : Go.Shelf.Ren := ⟨fun | 169 => 170 | n => n, fun | 70 => 174 | 9 => 9 | 0 => 0 | 72 => 177 | 37 => 175 | 127 => 235 | 3 => 3 | 5 => 5 | n => n, fun | n => n⟩
theorem Tryz.lays169 : Go.Proofs.Lays.n169 Tryz.prog Tryz.lays169_ren := {
 mixed := by kernel_rfl
 f169 := Tryz.func170.trans (congrArg some (by kernel_rfl))
 t0 := Tryz.underlying0
 a0 := Tryz.isAgg0
 z0 := Tryz.sizeOf0
 v0 := Tryz.zeroValue0
 t3 := Tryz.underlying3
 a3 := Tryz.isAgg3
 z3 := Tryz.sizeOf3
 v3 := Tryz.zeroValue3
 t9 := Tryz.underlying9
 a9 := Tryz.isAgg9
 z9 := Tryz.sizeOf9
 v9 := Tryz.zeroValue9
 t37 := Tryz.underlying175
 a37 := Tryz.isAgg175
 z37 := Tryz.sizeOf175
 v37 := Tryz.zeroValue175
 t70 := Tryz.underlying174
 a70 := Tryz.isAgg174
 z70 := Tryz.sizeOf174
 v70 := Tryz.zeroValue174
 t72 := Tryz.underlying177
 a72 := Tryz.isAgg177
 z72 := Tryz.sizeOf177
 v72 := Tryz.zeroValue177
 t127 := Tryz.underlying235
 a127 := Tryz.isAgg235
 z127 := Tryz.sizeOf235
 v127 := Tryz.zeroValue235 }
theorem Tryz.Builder_Extra_169 : Builder.Extra Tryz.prog Tryz.lays169_ren := {
 sizeBuilder := by kernel_rfl
 liesBuilder := by kernel_rfl
 t5 := Tryz.underlying5
 a5 := Tryz.isAgg5
 z5 := Tryz.sizeOf5
 v5 := Tryz.zeroValue5
 infoByte := by kernel_rfl
 cellsByte := by kernel_rfl
 sizeByte := by kernel_rfl
 neB5 := by decide }
open Go.RowKit in
theorem Tryz.Builder_String (B b : Nat) (l : List UInt8) (w : World) (h : Lib.IsBuilder 177 5 B b (Lib.byteCells l) w) (h0 : l ≠ []) :
  Calls Tryz.prog 170 #[.pointer (some ⟨b, 0, none⟩)] w fun e w' => e = .returned (.string ⟨l.toArray⟩) ∧ Below B w w' := Any.Builder_String Tryz.lays169 Tryz.Builder_Extra_169 B b l w h h0
open Go.RowKit in
theorem Tryz.Builder_String_empty (B b : Nat) (w : World) (h : Lib.IsBuilder 177 5 B b [] w) (hBw : B ≤ w.heap.size) :
  Calls Tryz.prog 170 #[.pointer (some ⟨b, 0, none⟩)] w fun e w' => e = .returned (.string ⟨#[]⟩) ∧ Below B w w' := Any.Builder_String_empty Tryz.lays169 Tryz.Builder_Extra_169 B b w h hBw
open Go.RowKit in
theorem Tryz.Builder_String_any (B b : Nat) (l : List UInt8) (w : World) (h : Lib.IsBuilder 177 5 B b (Lib.byteCells l) w) (hBw : B ≤ w.heap.size) :
  Calls Tryz.prog 170 #[.pointer (some ⟨b, 0, none⟩)] w fun e w' => e = .returned (.string ⟨l.toArray⟩) ∧ Below B w w' := Any.Builder_String_any Tryz.lays169 Tryz.Builder_Extra_169 B b l w h hBw
def Tryz.lays213_ren : Go.Shelf.Ren := ⟨fun | 213 => 280 | 265 => 301 | n => n, fun | 9 => 9 | 3 => 3 | n => n, fun | n => n⟩
theorem Tryz.lays213 : Go.Proofs.Lays.n213 Tryz.prog Tryz.lays213_ren := {
 mixed := by kernel_rfl
 f213 := Tryz.func280.trans (congrArg some (by kernel_rfl))
 f265 := Tryz.func301.trans (congrArg some (by kernel_rfl))
 t3 := Tryz.underlying3
 a3 := Tryz.isAgg3
 z3 := Tryz.sizeOf3
 v3 := Tryz.zeroValue3
 t9 := Tryz.underlying9
 a9 := Tryz.isAgg9
 z9 := Tryz.sizeOf9
 v9 := Tryz.zeroValue9 }
open Go.RowKit in
theorem Tryz.bytealg_CompareString (a b : ByteArray) (w : World) :
  Calls Tryz.prog 280 #[.string a, .string b] w fun e w' => e = .returned (.int .i64 (Lib.compareBytes a.data.toList b.data.toList)) ∧ w' = w := Any.bytealg_CompareString Tryz.lays213 a b w
def Tryz.lays106_ren : Go.Shelf.Ren := ⟨fun | 106 => 240 | 213 => 280 | 265 => 301 | n => n, fun | 9 => 9 | 3 => 3 | n => n, fun | n => n⟩
theorem Tryz.lays106 : Go.Proofs.Lays.n106 Tryz.prog Tryz.lays106_ren := {
 mixed := by kernel_rfl
 f106 := Tryz.func240.trans (congrArg some (by kernel_rfl))
 f213 := Tryz.func280.trans (congrArg some (by kernel_rfl))
 f265 := Tryz.func301.trans (congrArg some (by kernel_rfl))
 t3 := Tryz.underlying3
 a3 := Tryz.isAgg3
 z3 := Tryz.sizeOf3
 v3 := Tryz.zeroValue3
 t9 := Tryz.underlying9
 a9 := Tryz.isAgg9
 z9 := Tryz.sizeOf9
 v9 := Tryz.zeroValue9 }
open Go.RowKit in
theorem Tryz.strings_Compare (a b : ByteArray) (w : World) :
  Calls Tryz.prog 240 #[.string a, .string b] w fun e w' => e = .returned (.int .i64 (Lib.compareBytes a.data.toList b.data.toList)) ∧ w' = w := Any.strings_Compare Tryz.lays106 a b w
def Tryz.lays137_ren : Go.Shelf.Ren := ⟨fun | 137 => 257 | 217 => 287 | 266 => 313 | n => n, fun | 9 => 9 | 5 => 5 | 3 => 3 | n => n, fun | n => n⟩
theorem Tryz.lays137 : Go.Proofs.Lays.n137 Tryz.prog Tryz.lays137_ren := {
 mixed := by kernel_rfl
 f137 := Tryz.func257.trans (congrArg some (by kernel_rfl))
 f217 := Tryz.func287.trans (congrArg some (by kernel_rfl))
 f266 := Tryz.func313.trans (congrArg some (by kernel_rfl))
 t3 := Tryz.underlying3
 a3 := Tryz.isAgg3
 z3 := Tryz.sizeOf3
 v3 := Tryz.zeroValue3
 t5 := Tryz.underlying5
 a5 := Tryz.isAgg5
 z5 := Tryz.sizeOf5
 v5 := Tryz.zeroValue5
 t9 := Tryz.underlying9
 a9 := Tryz.isAgg9
 z9 := Tryz.sizeOf9
 v9 := Tryz.zeroValue9 }
open Go.RowKit in
theorem Tryz.strings_IndexByte (s : ByteArray) (c : Int) (w : World) :
  Calls Tryz.prog 257 #[.string s, .int .u8 c] w fun e w' => e = .returned (.int .i64 (Lib.indexByte s.data.toList c.toNat.toUInt8)) ∧ w' = w := Any.strings_IndexByte Tryz.lays137 s c w
def Tryz.lays129_ren : Go.Shelf.Ren := ⟨fun | 129 => 312 | n => n, fun | 53 => 269 | 3 => 3 | 4 => 4 | 46 => 232 | 5 => 5 | 9 => 9 | n => n, fun | n => n⟩
theorem Tryz.lays129 : Go.Proofs.Lays.n129 Tryz.prog Tryz.lays129_ren := {
 mixed := by kernel_rfl
 f129 := Tryz.func312.trans (congrArg some (by kernel_rfl))
 t3 := Tryz.underlying3
 a3 := Tryz.isAgg3
 z3 := Tryz.sizeOf3
 v3 := Tryz.zeroValue3
 t4 := Tryz.underlying4
 a4 := Tryz.isAgg4
 z4 := Tryz.sizeOf4
 v4 := Tryz.zeroValue4
 t5 := Tryz.underlying5
 a5 := Tryz.isAgg5
 z5 := Tryz.sizeOf5
 v5 := Tryz.zeroValue5
 t9 := Tryz.underlying9
 a9 := Tryz.isAgg9
 z9 := Tryz.sizeOf9
 v9 := Tryz.zeroValue9
 t46 := Tryz.underlying232
 a46 := Tryz.isAgg232
 z46 := Tryz.sizeOf232
 v46 := Tryz.zeroValue232
 t53 := Tryz.underlying269
 a53 := Tryz.isAgg269
 z53 := Tryz.sizeOf269
 v53 := Tryz.zeroValue269 }
theorem Tryz.bits_Len64 (x : Int) (w : World) (h0 : 0 ≤ x) (h1 : x ≤ 18446744073709551615) :
  Calls Tryz.prog 312 #[.int .u64 x] w fun e w' => e = .returned (.int .i64 (Lib.bitLen x.toNat)) ∧ w' = w := Any.bits_Len64 Tryz.lays129 x w h0 h1
def Tryz.lays317_ren : Go.Shelf.Ren := ⟨fun | 317 => 321 | n => n, fun | 3 => 3 | 46 => 232 | n => n, fun | n => n⟩
theorem Tryz.lays317 : Go.Proofs.Lays.n317 Tryz.prog Tryz.lays317_ren := {
 mixed := by kernel_rfl
 f317 := Tryz.func321.trans (congrArg some (by kernel_rfl))
 t3 := Tryz.underlying3
 a3 := Tryz.isAgg3
 z3 := Tryz.sizeOf3
 v3 := Tryz.zeroValue3
 t46 := Tryz.underlying232
 a46 := Tryz.isAgg232
 z46 := Tryz.sizeOf232
 v46 := Tryz.zeroValue232 }
open Go.Lib in
theorem Tryz.internal_strconv_log10Pow2 (x : Nat) (h : x ≤ 64) (w : World) :
  Calls Tryz.prog 321 #[.int .i64 x] w fun e w' => e = .returned (.int .i64 (Lib.l10 x)) ∧ w' = w := Any.internal_strconv_log10Pow2 Tryz.lays317 x h w
def Tryz.lays318_ren : Go.Shelf.Ren := ⟨fun | 318 => 322 | n => n, fun | 3 => 3 | 4 => 4 | n => n, fun | n => n⟩
theorem Tryz.lays318 : Go.Proofs.Lays.n318 Tryz.prog Tryz.lays318_ren := {
 mixed := by kernel_rfl
 f318 := Tryz.func322.trans (congrArg some (by kernel_rfl))
 t3 := Tryz.underlying3
 a3 := Tryz.isAgg3
 z3 := Tryz.sizeOf3
 v3 := Tryz.zeroValue3
 t4 := Tryz.underlying4
 a4 := Tryz.isAgg4
 z4 := Tryz.sizeOf4
 v4 := Tryz.zeroValue4 }
open Go.Lib in
theorem Tryz.internal_strconv_bool2_int (b : Bool) (w : World) :
  Calls Tryz.prog 322 #[.bool b] w fun e w' => e = .returned (.int .i64 (if b then 1 else 0)) ∧ w' = w := Any.internal_strconv_bool2_int Tryz.lays318 b w
def Tryz.lays283_ren : Go.Shelf.Ren := ⟨fun | 283 => 295 | n => n, fun | 3 => 3 | 9 => 9 | 4 => 4 | n => n, fun | n => n⟩
theorem Tryz.lays283 : Go.Proofs.Lays.n283 Tryz.prog Tryz.lays283_ren := {
 mixed := by kernel_rfl
 f283 := Tryz.func295.trans (congrArg some (by kernel_rfl))
 t3 := Tryz.underlying3
 a3 := Tryz.isAgg3
 z3 := Tryz.sizeOf3
 v3 := Tryz.zeroValue3
 t4 := Tryz.underlying4
 a4 := Tryz.isAgg4
 z4 := Tryz.sizeOf4
 v4 := Tryz.zeroValue4
 t9 := Tryz.underlying9
 a9 := Tryz.isAgg9
 z9 := Tryz.sizeOf9
 v9 := Tryz.zeroValue9 }
open Go.Lib in
theorem Tryz.internal_strconv_small (i : Nat) (h : i < 100) (w : World) :
  Calls Tryz.prog 295 #[.int .i64 i] w fun e w' => e = .returned (.string ⟨(Lib.decDigits i).toArray⟩) ∧ w' = w := Any.internal_strconv_small Tryz.lays283 i h w
def Tryz.laysM284_ren : Go.Shelf.Ren := ⟨fun | 284 => 296 | 129 => 312 | 317 => 321 | 318 => 322 | n => n, fun | 53 => 269 | 3 => 3 | 212 => 311 | 0 => 0 | 4 => 4 | 46 => 232 | 5 => 5 | 9 => 9 | n => n, fun | 17 => 1 | n => n⟩
theorem Tryz.laysM284 : Go.Proofs.LaysM.n284 Tryz.prog Tryz.laysM284_ren := {
 mixed := by kernel_rfl
 f129 := Tryz.func312.trans (congrArg some (by kernel_rfl))
 f284 := Tryz.func296.trans (congrArg some (by kernel_rfl))
 f317 := Tryz.func321.trans (congrArg some (by kernel_rfl))
 f318 := Tryz.func322.trans (congrArg some (by kernel_rfl))
 t0 := Tryz.underlying0
 a0 := Tryz.isAgg0
 z0 := Tryz.sizeOf0
 v0 := Tryz.zeroValue0
 t3 := Tryz.underlying3
 a3 := Tryz.isAgg3
 z3 := Tryz.sizeOf3
 v3 := Tryz.zeroValue3
 t4 := Tryz.underlying4
 a4 := Tryz.isAgg4
 z4 := Tryz.sizeOf4
 v4 := Tryz.zeroValue4
 t5 := Tryz.underlying5
 a5 := Tryz.isAgg5
 z5 := Tryz.sizeOf5
 v5 := Tryz.zeroValue5
 t9 := Tryz.underlying9
 a9 := Tryz.isAgg9
 z9 := Tryz.sizeOf9
 v9 := Tryz.zeroValue9
 t46 := Tryz.underlying232
 a46 := Tryz.isAgg232
 z46 := Tryz.sizeOf232
 v46 := Tryz.zeroValue232
 t53 := Tryz.underlying269
 a53 := Tryz.isAgg269
 z53 := Tryz.sizeOf269
 v53 := Tryz.zeroValue269
 t212 := Tryz.underlying311
 a212 := Tryz.isAgg311
 z212 := Tryz.sizeOf311
 v212 := Tryz.zeroValue311
 g17 := by kernel_rfl
 i0 := by kernel_rfl
 i3 := by kernel_rfl
 i4 := by kernel_rfl
 i5 := by kernel_rfl
 i9 := by kernel_rfl
 i46 := by kernel_rfl
 i53 := by kernel_rfl
 i212 := by kernel_rfl
 m17 := by kernel_rfl }
open Go.Lib in
theorem Tryz.internal_strconv_numDigits (u : Nat) (h1 : 1 ≤ u) (h2 : u < 18446744073709551616) (w : World) (htab : Lib.TabIs Tryz.prog w "internal/strconv.uint64pow10" .u64 Lib.pow10Tab) :
  Calls Tryz.prog 296 #[.int .u64 u] w fun e w' => e = .returned (.int .i64 (Lib.nDigits u)) ∧ w' = w := Any.internal_strconv_numDigits Tryz.laysM284 u h1 h2 w htab
def Tryz.lays285_ren : Go.Shelf.Ren := ⟨fun | 285 => 297 | n => n, fun | 37 => 175 | 53 => 269 | 3 => 3 | 4 => 4 | 51 => 266 | 9 => 9 | 5 => 5 | 0 => 0 | n => n, fun | n => n⟩
theorem Tryz.lays285 : Go.Proofs.Lays.n285 Tryz.prog Tryz.lays285_ren := {
 mixed := by kernel_rfl
 f285 := Tryz.func297.trans (congrArg some (by kernel_rfl))
 t0 := Tryz.underlying0
 a0 := Tryz.isAgg0
 z0 := Tryz.sizeOf0
 v0 := Tryz.zeroValue0
 t3 := Tryz.underlying3
 a3 := Tryz.isAgg3
 z3 := Tryz.sizeOf3
 v3 := Tryz.zeroValue3
 t4 := Tryz.underlying4
 a4 := Tryz.isAgg4
 z4 := Tryz.sizeOf4
 v4 := Tryz.zeroValue4
 t5 := Tryz.underlying5
 a5 := Tryz.isAgg5
 z5 := Tryz.sizeOf5
 v5 := Tryz.zeroValue5
 t9 := Tryz.underlying9
 a9 := Tryz.isAgg9
 z9 := Tryz.sizeOf9
 v9 := Tryz.zeroValue9
 t37 := Tryz.underlying175
 a37 := Tryz.isAgg175
 z37 := Tryz.sizeOf175
 v37 := Tryz.zeroValue175
 t51 := Tryz.underlying266
 a51 := Tryz.isAgg266
 z51 := Tryz.sizeOf266
 v51 := Tryz.zeroValue266
 t53 := Tryz.underlying269
 a53 := Tryz.isAgg269
 z53 := Tryz.sizeOf269
 v53 := Tryz.zeroValue269 }
open Go.RowKit Go.Sort Go.Lib in
theorem Tryz.internal_strconv_formatBase10 (blk off cap : Nat) (u : Nat) (d : Array UInt8) (w : World) (hH : Holds (fun (b : UInt8) => Value.int .u8 (b.toNat : Int)) w blk off d) (hu : u < 10 ^ d.size) (hu64 : u < 18446744073709551616) (hsz : d.size < 4611686018427387904) :
  Calls Tryz.prog 297 #[.slice (some ⟨blk, off, none⟩) d.size cap, .int .u64 u] w fun e w' =>
   e = .returned (.tuple #[]) ∧ ∃ (n v' : Nat) (dk : Array UInt8), w' = (putRow (fun (b : UInt8) => Value.int .u8 (b.toNat : Int)) w blk off dk).drewN n ∧ FmtInv d.size u 0 v' dk := Any.internal_strconv_formatBase10 Tryz.lays285 blk off cap u d w hH hu hu64 hsz
def Tryz.laysM246_ren : Go.Shelf.Ren := ⟨fun | 246 => 275 | 283 => 295 | 284 => 296 | 285 => 297 | 286 => 298 | 129 => 312 | 317 => 321 | 318 => 322 | 319 => 323 | 320 => 324 | 337 => 344 | 338 => 345 | n => n, fun | 2 => 2 | 3 => 3 | 9 => 9 | 4 => 4 | 171 => 288 | 0 => 0 | 53 => 269 | 37 => 175 | 5 => 5 | 173 => 291 | 212 => 311 | 51 => 266 | 20 => 20 | 213 => 312 | 46 => 232 | 232 => 338 | 233 => 339 | n => n, fun | 17 => 1 | 18 => 4 | 19 => 5 | n => n⟩
theorem Tryz.laysM246 : Go.Proofs.LaysM.n246 Tryz.prog Tryz.laysM246_ren := {
 mixed := by kernel_rfl
 f129 := Tryz.func312.trans (congrArg some (by kernel_rfl))
 f246 := Tryz.func275.trans (congrArg some (by kernel_rfl))
 f283 := Tryz.func295.trans (congrArg some (by kernel_rfl))
 f284 := Tryz.func296.trans (congrArg some (by kernel_rfl))
 f285 := Tryz.func297.trans (congrArg some (by kernel_rfl))
 f286 := Tryz.func298.trans (congrArg some (by kernel_rfl))
 f317 := Tryz.func321.trans (congrArg some (by kernel_rfl))
 f318 := Tryz.func322.trans (congrArg some (by kernel_rfl))
 f319 := Tryz.func323.trans (congrArg some (by kernel_rfl))
 f320 := Tryz.func324.trans (congrArg some (by kernel_rfl))
 f337 := Tryz.func344.trans (congrArg some (by kernel_rfl))
 f338 := Tryz.func345.trans (congrArg some (by kernel_rfl))
 t0 := Tryz.underlying0
 a0 := Tryz.isAgg0
 z0 := Tryz.sizeOf0
 v0 := Tryz.zeroValue0
 t2 := Tryz.underlying2
 a2 := Tryz.isAgg2
 z2 := Tryz.sizeOf2
 v2 := Tryz.zeroValue2
 t3 := Tryz.underlying3
 a3 := Tryz.isAgg3
 z3 := Tryz.sizeOf3
 v3 := Tryz.zeroValue3
 t4 := Tryz.underlying4
 a4 := Tryz.isAgg4
 z4 := Tryz.sizeOf4
 v4 := Tryz.zeroValue4
 t5 := Tryz.underlying5
 a5 := Tryz.isAgg5
 z5 := Tryz.sizeOf5
 v5 := Tryz.zeroValue5
 t9 := Tryz.underlying9
 a9 := Tryz.isAgg9
 z9 := Tryz.sizeOf9
 v9 := Tryz.zeroValue9
 t20 := Tryz.underlying20
 a20 := Tryz.isAgg20
 z20 := Tryz.sizeOf20
 v20 := Tryz.zeroValue20
 t37 := Tryz.underlying175
 a37 := Tryz.isAgg175
 z37 := Tryz.sizeOf175
 v37 := Tryz.zeroValue175
 t46 := Tryz.underlying232
 a46 := Tryz.isAgg232
 z46 := Tryz.sizeOf232
 v46 := Tryz.zeroValue232
 t51 := Tryz.underlying266
 a51 := Tryz.isAgg266
 z51 := Tryz.sizeOf266
 v51 := Tryz.zeroValue266
 t53 := Tryz.underlying269
 a53 := Tryz.isAgg269
 z53 := Tryz.sizeOf269
 v53 := Tryz.zeroValue269
 t171 := Tryz.underlying288
 a171 := Tryz.isAgg288
 z171 := Tryz.sizeOf288
 v171 := Tryz.zeroValue288
 t173 := Tryz.underlying291
 a173 := Tryz.isAgg291
 z173 := Tryz.sizeOf291
 v173 := Tryz.zeroValue291
 t212 := Tryz.underlying311
 a212 := Tryz.isAgg311
 z212 := Tryz.sizeOf311
 v212 := Tryz.zeroValue311
 t213 := Tryz.underlying312
 a213 := Tryz.isAgg312
 z213 := Tryz.sizeOf312
 t232 := Tryz.underlying338
 a232 := Tryz.isAgg338
 z232 := Tryz.sizeOf338
 v232 := Tryz.zeroValue338
 t233 := Tryz.underlying339
 a233 := Tryz.isAgg339
 z233 := Tryz.sizeOf339
 v233 := Tryz.zeroValue339
 g17 := by kernel_rfl
 g18 := by kernel_rfl
 g19 := by kernel_rfl
 i0 := by kernel_rfl
 i2 := by kernel_rfl
 i3 := by kernel_rfl
 i4 := by kernel_rfl
 i5 := by kernel_rfl
 i9 := by kernel_rfl
 i20 := by kernel_rfl
 i37 := by kernel_rfl
 i46 := by kernel_rfl
 i51 := by kernel_rfl
 i53 := by kernel_rfl
 i171 := by kernel_rfl
 i173 := by kernel_rfl
 i212 := by kernel_rfl
 i232 := by kernel_rfl
 i233 := by kernel_rfl
 m17 := by kernel_rfl
 m18 := by kernel_rfl
 m19 := by kernel_rfl }
open Go.RowKit Go.Sort Go.Lib in
theorem Tryz.internal_strconv_FormatInt_10 (n : Int) (h0 : -9223372036854775808 ≤ n) (h1 : n ≤ 9223372036854775807) (w : World) (htab : Lib.TabIs Tryz.prog w "internal/strconv.uint64pow10" .u64 Lib.pow10Tab) :
  Calls Tryz.prog 275 #[.int .i64 n, .int .i64 10] w fun e w' => e = .returned (.string ⟨(Lib.itoa n).toArray⟩) ∧ ∃ k os, w' = grow (w.drewN k) os := Any.internal_strconv_FormatInt_10 Tryz.laysM246 n h0 h1 w htab
def Tryz.lays246_ren : Go.Shelf.Ren := ⟨fun | 246 => 275 | 283 => 295 | 284 => 296 | 285 => 297 | 286 => 298 | 129 => 312 | 317 => 321 | 318 => 322 | 319 => 323 | 320 => 324 | 337 => 344 | 338 => 345 | n => n, fun | 2 => 2 | 3 => 3 | 9 => 9 | 4 => 4 | 171 => 288 | 0 => 0 | 53 => 269 | 37 => 175 | 5 => 5 | 173 => 291 | 212 => 311 | 51 => 266 | 20 => 20 | 213 => 312 | 46 => 232 | 232 => 338 | 233 => 339 | n => n, fun | 17 => 1 | 18 => 4 | 19 => 5 | n => n⟩
theorem Tryz.lays246 : Go.Proofs.Lays.n246 Tryz.prog Tryz.lays246_ren := {
 mixed := by kernel_rfl
 f129 := Tryz.func312.trans (congrArg some (by kernel_rfl))
 f246 := Tryz.func275.trans (congrArg some (by kernel_rfl))
 f283 := Tryz.func295.trans (congrArg some (by kernel_rfl))
 f284 := Tryz.func296.trans (congrArg some (by kernel_rfl))
 f285 := Tryz.func297.trans (congrArg some (by kernel_rfl))
 f286 := Tryz.func298.trans (congrArg some (by kernel_rfl))
 f317 := Tryz.func321.trans (congrArg some (by kernel_rfl))
 f318 := Tryz.func322.trans (congrArg some (by kernel_rfl))
 f319 := Tryz.func323.trans (congrArg some (by kernel_rfl))
 f320 := Tryz.func324.trans (congrArg some (by kernel_rfl))
 f337 := Tryz.func344.trans (congrArg some (by kernel_rfl))
 f338 := Tryz.func345.trans (congrArg some (by kernel_rfl))
 t0 := Tryz.underlying0
 a0 := Tryz.isAgg0
 z0 := Tryz.sizeOf0
 v0 := Tryz.zeroValue0
 t2 := Tryz.underlying2
 a2 := Tryz.isAgg2
 z2 := Tryz.sizeOf2
 v2 := Tryz.zeroValue2
 t3 := Tryz.underlying3
 a3 := Tryz.isAgg3
 z3 := Tryz.sizeOf3
 v3 := Tryz.zeroValue3
 t4 := Tryz.underlying4
 a4 := Tryz.isAgg4
 z4 := Tryz.sizeOf4
 v4 := Tryz.zeroValue4
 t5 := Tryz.underlying5
 a5 := Tryz.isAgg5
 z5 := Tryz.sizeOf5
 v5 := Tryz.zeroValue5
 t9 := Tryz.underlying9
 a9 := Tryz.isAgg9
 z9 := Tryz.sizeOf9
 v9 := Tryz.zeroValue9
 t20 := Tryz.underlying20
 a20 := Tryz.isAgg20
 z20 := Tryz.sizeOf20
 v20 := Tryz.zeroValue20
 t37 := Tryz.underlying175
 a37 := Tryz.isAgg175
 z37 := Tryz.sizeOf175
 v37 := Tryz.zeroValue175
 t46 := Tryz.underlying232
 a46 := Tryz.isAgg232
 z46 := Tryz.sizeOf232
 v46 := Tryz.zeroValue232
 t51 := Tryz.underlying266
 a51 := Tryz.isAgg266
 z51 := Tryz.sizeOf266
 v51 := Tryz.zeroValue266
 t53 := Tryz.underlying269
 a53 := Tryz.isAgg269
 z53 := Tryz.sizeOf269
 v53 := Tryz.zeroValue269
 t171 := Tryz.underlying288
 a171 := Tryz.isAgg288
 z171 := Tryz.sizeOf288
 v171 := Tryz.zeroValue288
 t173 := Tryz.underlying291
 a173 := Tryz.isAgg291
 z173 := Tryz.sizeOf291
 v173 := Tryz.zeroValue291
 t212 := Tryz.underlying311
 a212 := Tryz.isAgg311
 z212 := Tryz.sizeOf311
 v212 := Tryz.zeroValue311
 t213 := Tryz.underlying312
 a213 := Tryz.isAgg312
 z213 := Tryz.sizeOf312
 t232 := Tryz.underlying338
 a232 := Tryz.isAgg338
 z232 := Tryz.sizeOf338
 v232 := Tryz.zeroValue338
 t233 := Tryz.underlying339
 a233 := Tryz.isAgg339
 z233 := Tryz.sizeOf339
 v233 := Tryz.zeroValue339
 g17 := by kernel_rfl
 g18 := by kernel_rfl
 g19 := by kernel_rfl }
open Go.RowKit Go.Sort Go.Lib in
theorem Tryz.internal_strconv_FormatInt_10_small (i : Nat) (hi : i < 100) (w : World) :
  Calls Tryz.prog 275 #[.int .i64 i, .int .i64 10] w fun e w' => e = .returned (.string ⟨(Lib.decDigits i).toArray⟩) ∧ w' = w := Any.internal_strconv_FormatInt_10_small Tryz.lays246 i hi w
def Tryz.laysM243_ren : Go.Shelf.Ren := ⟨fun | 243 => 221 | 246 => 275 | 283 => 295 | 284 => 296 | 285 => 297 | 286 => 298 | 129 => 312 | 317 => 321 | 318 => 322 | 319 => 323 | 320 => 324 | 337 => 344 | 338 => 345 | n => n, fun | 3 => 3 | 9 => 9 | 2 => 2 | 4 => 4 | 171 => 288 | 0 => 0 | 53 => 269 | 37 => 175 | 5 => 5 | 173 => 291 | 212 => 311 | 51 => 266 | 20 => 20 | 213 => 312 | 46 => 232 | 232 => 338 | 233 => 339 | n => n, fun | 17 => 1 | 18 => 4 | 19 => 5 | n => n⟩
theorem Tryz.laysM243 : Go.Proofs.LaysM.n243 Tryz.prog Tryz.laysM243_ren := {
 mixed := by kernel_rfl
 f129 := Tryz.func312.trans (congrArg some (by kernel_rfl))
 f243 := Tryz.func221.trans (congrArg some (by kernel_rfl))
 f246 := Tryz.func275.trans (congrArg some (by kernel_rfl))
 f283 := Tryz.func295.trans (congrArg some (by kernel_rfl))
 f284 := Tryz.func296.trans (congrArg some (by kernel_rfl))
 f285 := Tryz.func297.trans (congrArg some (by kernel_rfl))
 f286 := Tryz.func298.trans (congrArg some (by kernel_rfl))
 f317 := Tryz.func321.trans (congrArg some (by kernel_rfl))
 f318 := Tryz.func322.trans (congrArg some (by kernel_rfl))
 f319 := Tryz.func323.trans (congrArg some (by kernel_rfl))
 f320 := Tryz.func324.trans (congrArg some (by kernel_rfl))
 f337 := Tryz.func344.trans (congrArg some (by kernel_rfl))
 f338 := Tryz.func345.trans (congrArg some (by kernel_rfl))
 t0 := Tryz.underlying0
 a0 := Tryz.isAgg0
 z0 := Tryz.sizeOf0
 v0 := Tryz.zeroValue0
 t2 := Tryz.underlying2
 a2 := Tryz.isAgg2
 z2 := Tryz.sizeOf2
 v2 := Tryz.zeroValue2
 t3 := Tryz.underlying3
 a3 := Tryz.isAgg3
 z3 := Tryz.sizeOf3
 v3 := Tryz.zeroValue3
 t4 := Tryz.underlying4
 a4 := Tryz.isAgg4
 z4 := Tryz.sizeOf4
 v4 := Tryz.zeroValue4
 t5 := Tryz.underlying5
 a5 := Tryz.isAgg5
 z5 := Tryz.sizeOf5
 v5 := Tryz.zeroValue5
 t9 := Tryz.underlying9
 a9 := Tryz.isAgg9
 z9 := Tryz.sizeOf9
 v9 := Tryz.zeroValue9
 t20 := Tryz.underlying20
 a20 := Tryz.isAgg20
 z20 := Tryz.sizeOf20
 v20 := Tryz.zeroValue20
 t37 := Tryz.underlying175
 a37 := Tryz.isAgg175
 z37 := Tryz.sizeOf175
 v37 := Tryz.zeroValue175
 t46 := Tryz.underlying232
 a46 := Tryz.isAgg232
 z46 := Tryz.sizeOf232
 v46 := Tryz.zeroValue232
 t51 := Tryz.underlying266
 a51 := Tryz.isAgg266
 z51 := Tryz.sizeOf266
 v51 := Tryz.zeroValue266
 t53 := Tryz.underlying269
 a53 := Tryz.isAgg269
 z53 := Tryz.sizeOf269
 v53 := Tryz.zeroValue269
 t171 := Tryz.underlying288
 a171 := Tryz.isAgg288
 z171 := Tryz.sizeOf288
 v171 := Tryz.zeroValue288
 t173 := Tryz.underlying291
 a173 := Tryz.isAgg291
 z173 := Tryz.sizeOf291
 v173 := Tryz.zeroValue291
 t212 := Tryz.underlying311
 a212 := Tryz.isAgg311
 z212 := Tryz.sizeOf311
 v212 := Tryz.zeroValue311
 t213 := Tryz.underlying312
 a213 := Tryz.isAgg312
 z213 := Tryz.sizeOf312
 t232 := Tryz.underlying338
 a232 := Tryz.isAgg338
 z232 := Tryz.sizeOf338
 v232 := Tryz.zeroValue338
 t233 := Tryz.underlying339
 a233 := Tryz.isAgg339
 z233 := Tryz.sizeOf339
 v233 := Tryz.zeroValue339
 g17 := by kernel_rfl
 g18 := by kernel_rfl
 g19 := by kernel_rfl
 i0 := by kernel_rfl
 i2 := by kernel_rfl
 i3 := by kernel_rfl
 i4 := by kernel_rfl
 i5 := by kernel_rfl
 i9 := by kernel_rfl
 i20 := by kernel_rfl
 i37 := by kernel_rfl
 i46 := by kernel_rfl
 i51 := by kernel_rfl
 i53 := by kernel_rfl
 i171 := by kernel_rfl
 i173 := by kernel_rfl
 i212 := by kernel_rfl
 i232 := by kernel_rfl
 i233 := by kernel_rfl
 m17 := by kernel_rfl
 m18 := by kernel_rfl
 m19 := by kernel_rfl }
open Go.RowKit Go.Sort Go.Lib in
theorem Tryz.internal_strconv_Itoa (n : Int) (h0 : -9223372036854775808 ≤ n) (h1 : n ≤ 9223372036854775807) (w : World) (htab : Lib.TabIs Tryz.prog w "internal/strconv.uint64pow10" .u64 Lib.pow10Tab) :
  Calls Tryz.prog 221 #[.int .i64 n] w fun e w' => e = .returned (.string ⟨(Lib.itoa n).toArray⟩) ∧ ∃ k os, w' = grow (w.drewN k) os := Any.internal_strconv_Itoa Tryz.laysM243 n h0 h1 w htab
def Tryz.lays243_ren : Go.Shelf.Ren := ⟨fun | 243 => 221 | 246 => 275 | 283 => 295 | 284 => 296 | 285 => 297 | 286 => 298 | 129 => 312 | 317 => 321 | 318 => 322 | 319 => 323 | 320 => 324 | 337 => 344 | 338 => 345 | n => n, fun | 3 => 3 | 9 => 9 | 2 => 2 | 4 => 4 | 171 => 288 | 0 => 0 | 53 => 269 | 37 => 175 | 5 => 5 | 173 => 291 | 212 => 311 | 51 => 266 | 20 => 20 | 213 => 312 | 46 => 232 | 232 => 338 | 233 => 339 | n => n, fun | 17 => 1 | 18 => 4 | 19 => 5 | n => n⟩
theorem Tryz.lays243 : Go.Proofs.Lays.n243 Tryz.prog Tryz.lays243_ren := {
 mixed := by kernel_rfl
 f129 := Tryz.func312.trans (congrArg some (by kernel_rfl))
 f243 := Tryz.func221.trans (congrArg some (by kernel_rfl))
 f246 := Tryz.func275.trans (congrArg some (by kernel_rfl))
 f283 := Tryz.func295.trans (congrArg some (by kernel_rfl))
 f284 := Tryz.func296.trans (congrArg some (by kernel_rfl))
 f285 := Tryz.func297.trans (congrArg some (by kernel_rfl))
 f286 := Tryz.func298.trans (congrArg some (by kernel_rfl))
 f317 := Tryz.func321.trans (congrArg some (by kernel_rfl))
 f318 := Tryz.func322.trans (congrArg some (by kernel_rfl))
 f319 := Tryz.func323.trans (congrArg some (by kernel_rfl))
 f320 := Tryz.func324.trans (congrArg some (by kernel_rfl))
 f337 := Tryz.func344.trans (congrArg some (by kernel_rfl))
 f338 := Tryz.func345.trans (congrArg some (by kernel_rfl))
 t0 := Tryz.underlying0
 a0 := Tryz.isAgg0
 z0 := Tryz.sizeOf0
 v0 := Tryz.zeroValue0
 t2 := Tryz.underlying2
 a2 := Tryz.isAgg2
 z2 := Tryz.sizeOf2
 v2 := Tryz.zeroValue2
 t3 := Tryz.underlying3
 a3 := Tryz.isAgg3
 z3 := Tryz.sizeOf3
 v3 := Tryz.zeroValue3
 t4 := Tryz.underlying4
 a4 := Tryz.isAgg4
 z4 := Tryz.sizeOf4
 v4 := Tryz.zeroValue4
 t5 := Tryz.underlying5
 a5 := Tryz.isAgg5
 z5 := Tryz.sizeOf5
 v5 := Tryz.zeroValue5
 t9 := Tryz.underlying9
 a9 := Tryz.isAgg9
 z9 := Tryz.sizeOf9
 v9 := Tryz.zeroValue9
 t20 := Tryz.underlying20
 a20 := Tryz.isAgg20
 z20 := Tryz.sizeOf20
 v20 := Tryz.zeroValue20
 t37 := Tryz.underlying175
 a37 := Tryz.isAgg175
 z37 := Tryz.sizeOf175
 v37 := Tryz.zeroValue175
 t46 := Tryz.underlying232
 a46 := Tryz.isAgg232
 z46 := Tryz.sizeOf232
 v46 := Tryz.zeroValue232
 t51 := Tryz.underlying266
 a51 := Tryz.isAgg266
 z51 := Tryz.sizeOf266
 v51 := Tryz.zeroValue266
 t53 := Tryz.underlying269
 a53 := Tryz.isAgg269
 z53 := Tryz.sizeOf269
 v53 := Tryz.zeroValue269
 t171 := Tryz.underlying288
 a171 := Tryz.isAgg288
 z171 := Tryz.sizeOf288
 v171 := Tryz.zeroValue288
 t173 := Tryz.underlying291
 a173 := Tryz.isAgg291
 z173 := Tryz.sizeOf291
 v173 := Tryz.zeroValue291
 t212 := Tryz.underlying311
 a212 := Tryz.isAgg311
 z212 := Tryz.sizeOf311
 v212 := Tryz.zeroValue311
 t213 := Tryz.underlying312
 a213 := Tryz.isAgg312
 z213 := Tryz.sizeOf312
 t232 := Tryz.underlying338
 a232 := Tryz.isAgg338
 z232 := Tryz.sizeOf338
 v232 := Tryz.zeroValue338
 t233 := Tryz.underlying339
 a233 := Tryz.isAgg339
 z233 := Tryz.sizeOf339
 v233 := Tryz.zeroValue339
 g17 := by kernel_rfl
 g18 := by kernel_rfl
 g19 := by kernel_rfl }
open Go.RowKit Go.Sort Go.Lib in
theorem Tryz.internal_strconv_Itoa_small (i : Nat) (hi : i < 100) (w : World) :
  Calls Tryz.prog 221 #[.int .i64 i] w fun e w' => e = .returned (.string ⟨(Lib.decDigits i).toArray⟩) ∧ w' = w := Any.internal_strconv_Itoa_small Tryz.lays243 i hi w
def Tryz.laysM171_ren : Go.Shelf.Ren := ⟨fun | 171 => 166 | 243 => 221 | 246 => 275 | 283 => 295 | 284 => 296 | 285 => 297 | 286 => 298 | 129 => 312 | 317 => 321 | 318 => 322 | 319 => 323 | 320 => 324 | 337 => 344 | 338 => 345 | n => n, fun | 3 => 3 | 9 => 9 | 2 => 2 | 4 => 4 | 171 => 288 | 0 => 0 | 53 => 269 | 37 => 175 | 5 => 5 | 173 => 291 | 212 => 311 | 51 => 266 | 20 => 20 | 213 => 312 | 46 => 232 | 232 => 338 | 233 => 339 | n => n, fun | 17 => 1 | 18 => 4 | 19 => 5 | n => n⟩
theorem Tryz.laysM171 : Go.Proofs.LaysM.n171 Tryz.prog Tryz.laysM171_ren := {
 mixed := by kernel_rfl
 f129 := Tryz.func312.trans (congrArg some (by kernel_rfl))
 f171 := Tryz.func166.trans (congrArg some (by kernel_rfl))
 f243 := Tryz.func221.trans (congrArg some (by kernel_rfl))
 f246 := Tryz.func275.trans (congrArg some (by kernel_rfl))
 f283 := Tryz.func295.trans (congrArg some (by kernel_rfl))
 f284 := Tryz.func296.trans (congrArg some (by kernel_rfl))
 f285 := Tryz.func297.trans (congrArg some (by kernel_rfl))
 f286 := Tryz.func298.trans (congrArg some (by kernel_rfl))
 f317 := Tryz.func321.trans (congrArg some (by kernel_rfl))
 f318 := Tryz.func322.trans (congrArg some (by kernel_rfl))
 f319 := Tryz.func323.trans (congrArg some (by kernel_rfl))
 f320 := Tryz.func324.trans (congrArg some (by kernel_rfl))
 f337 := Tryz.func344.trans (congrArg some (by kernel_rfl))
 f338 := Tryz.func345.trans (congrArg some (by kernel_rfl))
 t0 := Tryz.underlying0
 a0 := Tryz.isAgg0
 z0 := Tryz.sizeOf0
 v0 := Tryz.zeroValue0
 t2 := Tryz.underlying2
 a2 := Tryz.isAgg2
 z2 := Tryz.sizeOf2
 v2 := Tryz.zeroValue2
 t3 := Tryz.underlying3
 a3 := Tryz.isAgg3
 z3 := Tryz.sizeOf3
 v3 := Tryz.zeroValue3
 t4 := Tryz.underlying4
 a4 := Tryz.isAgg4
 z4 := Tryz.sizeOf4
 v4 := Tryz.zeroValue4
 t5 := Tryz.underlying5
 a5 := Tryz.isAgg5
 z5 := Tryz.sizeOf5
 v5 := Tryz.zeroValue5
 t9 := Tryz.underlying9
 a9 := Tryz.isAgg9
 z9 := Tryz.sizeOf9
 v9 := Tryz.zeroValue9
 t20 := Tryz.underlying20
 a20 := Tryz.isAgg20
 z20 := Tryz.sizeOf20
 v20 := Tryz.zeroValue20
 t37 := Tryz.underlying175
 a37 := Tryz.isAgg175
 z37 := Tryz.sizeOf175
 v37 := Tryz.zeroValue175
 t46 := Tryz.underlying232
 a46 := Tryz.isAgg232
 z46 := Tryz.sizeOf232
 v46 := Tryz.zeroValue232
 t51 := Tryz.underlying266
 a51 := Tryz.isAgg266
 z51 := Tryz.sizeOf266
 v51 := Tryz.zeroValue266
 t53 := Tryz.underlying269
 a53 := Tryz.isAgg269
 z53 := Tryz.sizeOf269
 v53 := Tryz.zeroValue269
 t171 := Tryz.underlying288
 a171 := Tryz.isAgg288
 z171 := Tryz.sizeOf288
 v171 := Tryz.zeroValue288
 t173 := Tryz.underlying291
 a173 := Tryz.isAgg291
 z173 := Tryz.sizeOf291
 v173 := Tryz.zeroValue291
 t212 := Tryz.underlying311
 a212 := Tryz.isAgg311
 z212 := Tryz.sizeOf311
 v212 := Tryz.zeroValue311
 t213 := Tryz.underlying312
 a213 := Tryz.isAgg312
 z213 := Tryz.sizeOf312
 t232 := Tryz.underlying338
 a232 := Tryz.isAgg338
 z232 := Tryz.sizeOf338
 v232 := Tryz.zeroValue338
 t233 := Tryz.underlying339
 a233 := Tryz.isAgg339
 z233 := Tryz.sizeOf339
 v233 := Tryz.zeroValue339
 g17 := by kernel_rfl
 g18 := by kernel_rfl
 g19 := by kernel_rfl
 i0 := by kernel_rfl
 i2 := by kernel_rfl
 i3 := by kernel_rfl
 i4 := by kernel_rfl
 i5 := by kernel_rfl
 i9 := by kernel_rfl
 i20 := by kernel_rfl
 i37 := by kernel_rfl
 i46 := by kernel_rfl
 i51 := by kernel_rfl
 i53 := by kernel_rfl
 i171 := by kernel_rfl
 i173 := by kernel_rfl
 i212 := by kernel_rfl
 i232 := by kernel_rfl
 i233 := by kernel_rfl
 m17 := by kernel_rfl
 m18 := by kernel_rfl
 m19 := by kernel_rfl }
open Go.RowKit Go.Sort Go.Lib in
theorem Tryz.strconv_Itoa (n : Int) (h0 : -9223372036854775808 ≤ n) (h1 : n ≤ 9223372036854775807) (w : World) (htab : Lib.TabIs Tryz.prog w "internal/strconv.uint64pow10" .u64 Lib.pow10Tab) :
  Calls Tryz.prog 166 #[.int .i64 n] w fun e w' => e = .returned (.string ⟨(Lib.itoa n).toArray⟩) ∧ ∃ k os, w' = grow (w.drewN k) os := Any.strconv_Itoa Tryz.laysM171 n h0 h1 w htab
def Tryz.lays171_ren : Go.Shelf.Ren := ⟨fun | 171 => 166 | 243 => 221 | 246 => 275 | 283 => 295 | 284 => 296 | 285 => 297 | 286 => 298 | 129 => 312 | 317 => 321 | 318 => 322 | 319 => 323 | 320 => 324 | 337 => 344 | 338 => 345 | n => n, fun | 3 => 3 | 9 => 9 | 2 => 2 | 4 => 4 | 171 => 288 | 0 => 0 | 53 => 269 | 37 => 175 | 5 => 5 | 173 => 291 | 212 => 311 | 51 => 266 | 20 => 20 | 213 => 312 | 46 => 232 | 232 => 338 | 233 => 339 | n => n, fun | 17 => 1 | 18 => 4 | 19 => 5 | n => n⟩
theorem Tryz.lays171 : Go.Proofs.Lays.n171 Tryz.prog Tryz.lays171_ren := {
 mixed := by kernel_rfl
 f129 := Tryz.func312.trans (congrArg some (by kernel_rfl))
 f171 := Tryz.func166.trans (congrArg some (by kernel_rfl))
 f243 := Tryz.func221.trans (congrArg some (by kernel_rfl))
 f246 := Tryz.func275.trans (congrArg some (by kernel_rfl))
 f283 := Tryz.func295.trans (congrArg some (by kernel_rfl))
 f284 := Tryz.func296.trans (congrArg some (by kernel_rfl))
 f285 := Tryz.func297.trans (congrArg some (by kernel_rfl))
 f286 := Tryz.func298.trans (congrArg some (by kernel_rfl))
 f317 := Tryz.func321.trans (congrArg some (by kernel_rfl))
 f318 := Tryz.func322.trans (congrArg some (by kernel_rfl))
 f319 := Tryz.func323.trans (congrArg some (by kernel_rfl))
 f320 := Tryz.func324.trans (congrArg some (by kernel_rfl))
 f337 := Tryz.func344.trans (congrArg some (by kernel_rfl))
 f338 := Tryz.func345.trans (congrArg some (by kernel_rfl))
 t0 := Tryz.underlying0
 a0 := Tryz.isAgg0
 z0 := Tryz.sizeOf0
 v0 := Tryz.zeroValue0
 t2 := Tryz.underlying2
 a2 := Tryz.isAgg2
 z2 := Tryz.sizeOf2
 v2 := Tryz.zeroValue2
 t3 := Tryz.underlying3
 a3 := Tryz.isAgg3
 z3 := Tryz.sizeOf3
 v3 := Tryz.zeroValue3
 t4 := Tryz.underlying4
 a4 := Tryz.isAgg4
 z4 := Tryz.sizeOf4
 v4 := Tryz.zeroValue4
 t5 := Tryz.underlying5
 a5 := Tryz.isAgg5
 z5 := Tryz.sizeOf5
 v5 := Tryz.zeroValue5
 t9 := Tryz.underlying9
 a9 := Tryz.isAgg9
 z9 := Tryz.sizeOf9
 v9 := Tryz.zeroValue9
 t20 := Tryz.underlying20
 a20 := Tryz.isAgg20
 z20 := Tryz.sizeOf20
 v20 := Tryz.zeroValue20
 t37 := Tryz.underlying175
 a37 := Tryz.isAgg175
 z37 := Tryz.sizeOf175
 v37 := Tryz.zeroValue175
 t46 := Tryz.underlying232
 a46 := Tryz.isAgg232
 z46 := Tryz.sizeOf232
 v46 := Tryz.zeroValue232
 t51 := Tryz.underlying266
 a51 := Tryz.isAgg266
 z51 := Tryz.sizeOf266
 v51 := Tryz.zeroValue266
 t53 := Tryz.underlying269
 a53 := Tryz.isAgg269
 z53 := Tryz.sizeOf269
 v53 := Tryz.zeroValue269
 t171 := Tryz.underlying288
 a171 := Tryz.isAgg288
 z171 := Tryz.sizeOf288
 v171 := Tryz.zeroValue288
 t173 := Tryz.underlying291
 a173 := Tryz.isAgg291
 z173 := Tryz.sizeOf291
 v173 := Tryz.zeroValue291
 t212 := Tryz.underlying311
 a212 := Tryz.isAgg311
 z212 := Tryz.sizeOf311
 v212 := Tryz.zeroValue311
 t213 := Tryz.underlying312
 a213 := Tryz.isAgg312
 z213 := Tryz.sizeOf312
 t232 := Tryz.underlying338
 a232 := Tryz.isAgg338
 z232 := Tryz.sizeOf338
 v232 := Tryz.zeroValue338
 t233 := Tryz.underlying339
 a233 := Tryz.isAgg339
 z233 := Tryz.sizeOf339
 v233 := Tryz.zeroValue339
 g17 := by kernel_rfl
 g18 := by kernel_rfl
 g19 := by kernel_rfl }
open Go.RowKit Go.Sort Go.Lib in
theorem Tryz.strconv_Itoa_small (i : Nat) (hi : i < 100) (w : World) :
  Calls Tryz.prog 166 #[.int .i64 i] w fun e w' => e = .returned (.string ⟨(Lib.decDigits i).toArray⟩) ∧ w' = w := Any.strconv_Itoa_small Tryz.lays171 i hi w
def Tryz.lays217_ren : Go.Shelf.Ren := ⟨fun | 217 => 287 | 266 => 313 | n => n, fun | 9 => 9 | 5 => 5 | 3 => 3 | n => n, fun | n => n⟩
theorem Tryz.lays217 : Go.Proofs.Lays.n217 Tryz.prog Tryz.lays217_ren := {
 mixed := by kernel_rfl
 f217 := Tryz.func287.trans (congrArg some (by kernel_rfl))
 f266 := Tryz.func313.trans (congrArg some (by kernel_rfl))
 t3 := Tryz.underlying3
 a3 := Tryz.isAgg3
 z3 := Tryz.sizeOf3
 v3 := Tryz.zeroValue3
 t5 := Tryz.underlying5
 a5 := Tryz.isAgg5
 z5 := Tryz.sizeOf5
 v5 := Tryz.zeroValue5
 t9 := Tryz.underlying9
 a9 := Tryz.isAgg9
 z9 := Tryz.sizeOf9
 v9 := Tryz.zeroValue9 }
open Go.RowKit Go.Lib in
theorem Tryz.stringslite_IndexByte (s : ByteArray) (c : Int) (w : World) :
  Calls Tryz.prog 287 #[.string s, .int .u8 c] w fun e w' => e = .returned (.int .i64 (Lib.indexByte s.data.toList c.toNat.toUInt8)) ∧ w' = w := Any.stringslite_IndexByte Tryz.lays217 s c w
def Tryz.lays264_ren : Go.Shelf.Ren := ⟨fun | 264 => 274 | n => n, fun | 53 => 269 | 46 => 232 | n => n, fun | n => n⟩
theorem Tryz.lays264 : Go.Proofs.Lays.n264 Tryz.prog Tryz.lays264_ren := {
 mixed := by kernel_rfl
 f264 := Tryz.func274.trans (congrArg some (by kernel_rfl))
 t46 := Tryz.underlying232
 a46 := Tryz.isAgg232
 z46 := Tryz.sizeOf232
 v46 := Tryz.zeroValue232
 t53 := Tryz.underlying269
 a53 := Tryz.isAgg269
 z53 := Tryz.sizeOf269
 v53 := Tryz.zeroValue269 }
open Go.RowKit Go.Lib in
theorem Tryz.bits_Mul64 (x y : Nat) (hx : x < 18446744073709551616) (hy : y < 18446744073709551616) (w : World) :
  Calls Tryz.prog 274 #[.int .u64 x, .int .u64 y] w fun e w' => e = .returned (.tuple #[.int .u64 ((x * y / 18446744073709551616 : Nat) : Int), .int .u64 ((x * y % 18446744073709551616 : Nat) : Int)]) ∧ w' = w := Any.bits_Mul64 Tryz.lays264 x y hx hy w
def Tryz.lays212_ren : Go.Shelf.Ren := ⟨fun | 212 => 220 | 263 => 273 | 264 => 274 | n => n, fun | 46 => 232 | 51 => 266 | 146 => 267 | 53 => 269 | 148 => 270 | n => n, fun | n => n⟩
theorem Tryz.lays212 : Go.Proofs.Lays.n212 Tryz.prog Tryz.lays212_ren := {
 mixed := by kernel_rfl
 f212 := Tryz.func220.trans (congrArg some (by kernel_rfl))
 f263 := Tryz.func273.trans (congrArg some (by kernel_rfl))
 f264 := Tryz.func274.trans (congrArg some (by kernel_rfl))
 t46 := Tryz.underlying232
 a46 := Tryz.isAgg232
 z46 := Tryz.sizeOf232
 v46 := Tryz.zeroValue232
 t51 := Tryz.underlying266
 a51 := Tryz.isAgg266
 z51 := Tryz.sizeOf266
 v51 := Tryz.zeroValue266
 t53 := Tryz.underlying269
 a53 := Tryz.isAgg269
 z53 := Tryz.sizeOf269
 v53 := Tryz.zeroValue269
 t146 := Tryz.underlying267
 a146 := Tryz.isAgg267
 z146 := Tryz.sizeOf267
 v146 := Tryz.zeroValue267
 t148 := Tryz.underlying270
 a148 := Tryz.isAgg270
 z148 := Tryz.sizeOf270
 v148 := Tryz.zeroValue270 }
open Go.RowKit Go.Lib in
theorem Tryz.bits_Mul (x y : Nat) (hx : x < 18446744073709551616) (hy : y < 18446744073709551616) (w : World) :
  Calls Tryz.prog 220 #[.int .u64 x, .int .u64 y] w fun e w' => e = .returned (.tuple #[.int .u64 ((x * y / 18446744073709551616 : Nat) : Int), .int .u64 ((x * y % 18446744073709551616 : Nat) : Int)]) ∧ w' = w := Any.bits_Mul Tryz.lays212 x y hx hy w
end Go.Proofs
namespace Go.PL
open Go
theorem hv1 {F : Nat → Prop} {g : Nat → Value} {w : World} {vs : Array Value} {p : PV} {u : Value} (hs : vs.size = [p].length) (hv : ∀ (j : Nat) x v, [p][j]? = some x → vs[j]? = some v → VR F g w x v) (hu : ∀ v, VR F g w p v → v = u) : vs = #[u] := by
 have h1 : vs.size = 1 := hs
 have e0 := hu _ (hv 0 _ (vs[0]'(by omega)) rfl (by simp [h1]))
 apply Array.ext
 ·rw [h1]; rfl
 ·intro q hq _
  have : q = 0 := by omega
  subst this
  simpa using e0
theorem hv2 {F : Nat → Prop} {g : Nat → Value} {w : World} {vs : Array Value} {p p' : PV} {u u' : Value} (hs : vs.size = [p, p'].length) (hv : ∀ (j : Nat) x v, [p, p'][j]? = some x → vs[j]? = some v → VR F g w x v) (hu : ∀ v, VR F g w p v → v = u)
  (hu' : ∀ v, VR F g w p' v → v = u') : vs = #[u, u'] := by
 have h1 : vs.size = 2 := hs
 have e0 := hu _ (hv 0 _ (vs[0]'(by omega)) rfl (by simp [h1]))
 have e1 := hu' _ (hv 1 _ (vs[1]'(by omega)) rfl (by simp [h1]))
 apply Array.ext
 ·rw [h1]; rfl
 ·intro q hq _
  match q, hq with
  | 0, _ => simpa using e0
  | 1, _ => simpa using e1
  | q + 2, hq => omega
def G194 (a0 a1 : ByteArray) : Option Int := some (Lib.compareBytes a0.data.toList a1.data.toList)
theorem G194_ok (a0 a1 : ByteArray) : Con Proofs.Tryz.prog 240 [.t (.str a0), .t (.str a1)] (G194 a0 a1) (fun (y : Int) => .t (.int .i64 y)) := by
 refine ⟨callable_of Proofs.Tryz.func240 (by kernel_rfl), fun y hy => ?_⟩
 cases hy
 intro F g w vs hs hv hH hF hgl
 have hvs := hv2 hs hv (u := .string a0) (u' := .string a1) (fun v h => h.inv_str) (fun v h => h.inv_str)
 subst hvs
 refine (Proofs.Tryz.strings_Compare a0 a1 w).mono ?_
 rintro e w' ⟨rfl, rfl⟩
 exact ⟨_, _, [], F, g, rfl, rfl, .t (.int _ _), relw_none hH hF rfl rfl rfl (Nat.le_refl _) (fun _ _ _ => rfl)⟩
def G117 (a0 : Int) : Option ByteArray := if -9223372036854775808 ≤ a0 ∧ a0 ≤ 9223372036854775807 then some ⟨(Lib.itoa a0).toArray⟩ else none
theorem G117_ok (a0 : Int) : Con Proofs.Tryz.prog 166 [.t (.int .i64 a0)] (G117 a0) (fun (y : ByteArray) => .t (.str y)) := by
 refine ⟨callable_of Proofs.Tryz.func166 (by kernel_rfl), fun y hy => ?_⟩
 unfold G117 at hy
 split at hy
 case isFalse => cases hy
 rename_i hr
 cases hy
 intro F g w vs hs hv hH hF hgl
 have hvs := hv1 hs hv (u := .int .i64 a0) (fun v h => h.inv_int)
 subst hvs
 have hname : ∃ b, Proofs.Tryz.prog.globalNamed glName = some b := Option.isSome_iff_exists.1 (by kernel_rfl)
 obtain ⟨b, hb⟩ := hname
 refine (Proofs.Tryz.strconv_Itoa a0 hr.1 hr.2 w (hgl b hb).1).mono ?_
 rintro e w' ⟨rfl, k, os, rfl⟩
 refine ⟨_, _, [], F, g, rfl, rfl, .t (.str _), relw_none hH hF rfl rfl rfl ?_ (fun q hq _ => ?_)⟩
 ·show w.heap.size ≤ (w.heap ++ os).size
  rw [Array.size_append]; exact Nat.le_add_right _ _
 ·show (w.heap ++ os)[q]? = w.heap[q]?
  exact Array.getElem?_append_left hq
end Go.PL
