/-
  Parts: The data types of the seat, as the program logic reads them, and its type table. Printed by a program of our own. Functions of Go's library, given to the trees by hand. Own work; two walks are lines of the shelf's, turned to this program. (*strings.Builder).WriteString, exactly. Own work; the walk is lines of the shelf's, turned to this program. Contracts of functions of Go's library, for the trees. Own work. Contracts of functions of Go's library, for the trees: WriteString. Own work. DERIVED: THE SHELF's CONTRACTS AT THIS DUMP, IN PLAIN WORDS (tools/lay-plain.mjs out of 'TryzShelf.lean', which tools/lay-shelf.mjs wrote): THE SAME DECLARATIONS UNDER THE SAME NAMES: 'import', 'namespace', 'open', 'def', 'theorem' AND NOTHING ELSE: no command of the shelf's: FOR A HAND-IN. Each laying: the table of numbers ('.._ren') and one theorem, a field a fact of the dump's own or the kernel's comparison; each contract: ONE APPLICATION. Contracts of functions of Go's library, for the trees: strings.Compare, strconv.Itoa. Own work. slices.Repeat of a row of one number, walked by hand. Own work. The contract of slices.Repeat of a row of one number. Own work. Contracts of strings.IndexByte and strconv.Atoi in the form of trees. Own work. Functions of the seat as trees, and that the program computes them. Printed by a program of our own.
-/
import Derived.Test.YtjefblkdnolgaaaGreatDoorMd
import Derived.Test.YtjefblkdnolgaaaGreatDoorProg
import Derived.Shelf.Strings.Builder1
import Derived.Shelf.Small.Strs
import Derived.Shelf.Strconv.Atoi
import Derived.Shelf.Strconv.Itoa0
import Derived.Shelf.Strconv.Itoa1
import Derived.Shelf.LaysM
import Derived.Shelf.Strconv.Itoa2
import Derived.Shelf.Strconv.Itoa3
import Derived.Shelf.Strconv.AtoiErrFast
import Derived.Shelf.Strconv.ParseIntEmpty
import Derived.Shelf.Strconv.AtoiFail
import Derived.Shelf.Strconv.Clone
import Derived.Shelf.Strconv.SyntaxError
import Derived.Shelf.LaysC
import Derived.Shelf.Strconv.ToError
import Derived.Shelf.Strconv.Lower
import Derived.Shelf.Strconv.ParseUint10
import Derived.Shelf.Strconv.ParseUint10Empty
import Derived.Shelf.Strconv.ParseUint10Any
import Derived.Shelf.Strconv.ParseInt10
import Derived.Shelf.Strconv.AtoiLong
import Derived.Shelf.Strconv.AtoiInnerAll
import Derived.Shelf.Strconv.RangeError
import Derived.Shelf.Strconv.ToErrorRange
import Derived.Shelf.Strconv.AtoiAll
import Derived.Shelf.Strings.Search1
import Derived.Shelf.Bits.Mul64
import Derived.Ground.SlgmProg
import Derived.Shelf.SortM.Plain
import Derived.Shelf.SortM.SortNone
import Derived.Laws.IdiomCopy
import Derived.Laws.MakeOwn
import Derived.Lib.AtoiAll
namespace Go.PL
open Go
def eExpr(x:Expr):T:=.agg (exprCells x)
def cL_cInt(x:List Int):List T:=[eL cInt (x)]
structure GFunc where
 Name:ByteArray
 Params:List Int
 Result:Int
 Body:Expr
 deriving Inhabited
def cGFunc(x:GFunc):List T:=[.str (x.Name)]++[eL cInt (x.Params)]++[.int .i64 (x.Result)]++exprCells (x.Body)
structure GAgg where
 Kind:Int
 Col:Int
 Name:ByteArray
 deriving Inhabited
def cGAgg(x:GAgg):List T:=[.int .i64 (x.Kind),.int .i64 (x.Col),.str (x.Name)]
structure GPat where
 Pred:Expr
 Rep:Int
 deriving Inhabited
def cGPat(x:GPat):List T:=exprCells (x.Pred)++[.int .i64 (x.Rep)]
structure GCol where
 Name:ByteArray
 Type_:Int
 Unit:ByteArray
 deriving Inhabited
def cGCol(x:GCol):List T:=[.str (x.Name),.int .i64 (x.Type_),.str (x.Unit)]
structure GNode where
 Op:Int
 In:List Int
 Source:ByteArray
 Schema:Int
 Exprs:List Expr
 Kind:Int
 Size:Int
 Step:Int
 Key:List Int
 Key2:List Int
 Before:Int
 After:Int
 Keep:Int
 Aggs:List GAgg
 Seq:List GPat
 Cols:List GCol
 deriving Inhabited
def cGNode(x:GNode):List T:=[.int .i64 (x.Op),eL cInt (x.In),.str (x.Source),.int .i64 (x.Schema),.lz (.exprs (x.Exprs)),.int .i64 (x.Kind),.int .i64 (x.Size),.int .i64 (x.Step),eL cInt (x.Key),eL cInt (x.Key2),.int .i64 (x.Before),.int .i64 (x.After),.int .i64 (x.Keep),eL cGAgg (x.Aggs),eL cGPat (x.Seq),eL cGCol (x.Cols)]
def eGNode(x:GNode):T:=.agg (cGNode x)
structure GValue where
 Kind:Int
 N:Int
 S:ByteArray
 deriving Inhabited
def cGValue(x:GValue):List T:=[.int .i64 (x.Kind),.int .i64 (x.N),.str (x.S)]
def eGValue(x:GValue):T:=.agg (cGValue x)
structure GDelta where
 Time:Int
 Row:List GValue
 N:Int
 deriving Inhabited
def cGDelta(x:GDelta):List T:=[.int .i64 (x.Time),eL cGValue (x.Row),.int .i64 (x.N)]
def eGDelta(x:GDelta):T:=.agg (cGDelta x)
def cL_cGDelta(x:List GDelta):List T:=[eL cGDelta (x)]
structure GAct_errataref31 where
 Do:Int
 C:Int
 L:List GDelta
 deriving Inhabited
def cGAct_errataref31(x:GAct_errataref31):List T:=[.int .i64 (x.Do),.int .i64 (x.C),eL cGDelta (x.L)]
structure GPlace where
 time_:Int
 fits_:Int
 deriving Inhabited
def cGPlace(x:GPlace):List T:=[.int .i64 (x.time_),.int .i64 (x.fits_)]
def eGPlace(x:GPlace):T:=.agg (cGPlace x)
structure GFrame where
 funcs_:List GFunc
 time_:Int
 row_:List GValue
 params_:List GValue
 deriving Inhabited
def cGFrame(x:GFrame):List T:=[eL cGFunc (x.funcs_),.int .i64 (x.time_),eL cGValue (x.row_),eL cGValue (x.params_)]
def eGFrame(x:GFrame):T:=.agg (cGFrame x)
structure GReader where
 rest_:ByteArray
 bad_:Bool
 deriving Inhabited
def cGReader(x:GReader):List T:=[.str (x.rest_),.bool (x.bad_)]
structure GPair where
 a_:GValue
 b_:GValue
 deriving Inhabited
def cGPair(x:GPair):List T:=cGValue (x.a_)++cGValue (x.b_)
def eGPair(x:GPair):T:=.agg (cGPair x)
def tiL:List (Nat×TInf):=[
 (2,⟨1,8,.int .i64,[.t (.int .i64 0)],0,0⟩),
 (3,⟨1,8,.int .i64,[.t (.int .i64 0)],0,0⟩),
 (4,⟨1,1,.bool,[.t (.bool false)],0,0⟩),
 (5,⟨1,1,.int .u8,[.t (.int .u8 0)],0,0⟩),
 (9,⟨1,16,.str,[.t (.str ⟨#[]⟩)],0,0⟩),
 (12,⟨1,8,.int .u64,[.t (.int .u64 0)],0,0⟩),
 (15,⟨1,8,.ptr 342,[.np],0,0⟩),
 (16,⟨1,8,.ptr 345,[.np],0,0⟩),
 (17,⟨1,8,.ptr 352,[.np],0,0⟩),
 (21,⟨1,4,.int .i32,[.t (.int .i32 0)],0,0⟩),
 (22,⟨1,24,.sl 150,[.nil],0,0⟩),
 (23,⟨1,24,.sl 3,[.nil],0,0⟩),
 (24,⟨1,24,.sl 90,[.nil],0,0⟩),
 (25,⟨1,24,.sl 122,[.nil],0,0⟩),
 (26,⟨1,24,.sl 93,[.nil],0,0⟩),
 (27,⟨1,24,.sl 354,[.nil],0,0⟩),
 (29,⟨16,248,.st [(0,3),(1,23),(2,9),(3,3),(4,24),(5,3),(6,3),(7,3),(8,23),(9,23),(10,3),(11,3),(12,3),(13,25),(14,26),(15,27)],[.t (.int .i64 0),.nil,.t (.str ⟨#[]⟩),.t (.int .i64 0),.nil,.t (.int .i64 0),.t (.int .i64 0),.t (.int .i64 0),.nil,.nil,.t (.int .i64 0),.t (.int .i64 0),.t (.int .i64 0),.nil,.nil,.nil],0,0⟩),
 (30,⟨1,24,.sl 39,[.nil],0,0⟩),
 (33,⟨1,8,.ptr 102,[.np],0,0⟩),
 (36,⟨1,8,.other,[.lit .nilFunc],0,0⟩),
 (37,⟨1,24,.sl 50,[.nil],0,0⟩),
 (39,⟨3,40,.st [(0,3),(1,3),(2,37)],[.t (.int .i64 0),.t (.int .i64 0),.nil],0,0⟩),
 (48,⟨1,24,.sl 67,[.nil],0,0⟩),
 (50,⟨3,40,.st [(0,3),(1,48),(2,3)],[.t (.int .i64 0),.nil,.t (.int .i64 0)],0,0⟩),
 (55,⟨1,24,.sl 23,[.nil],0,0⟩),
 (56,⟨1,24,.sl 37,[.nil],0,0⟩),
 (67,⟨3,32,.st [(0,3),(1,3),(2,9)],[.t (.int .i64 0),.t (.int .i64 0),.t (.str ⟨#[]⟩)],0,37⟩),
 (71,⟨1,8,.ptr 74,[.np],0,0⟩),
 (74,⟨19,304,.st [(0,22),(1,29),(17,37),(18,3)],[.nil,.t (.int .i64 0),.nil,.t (.str ⟨#[]⟩),.t (.int .i64 0),.nil,.t (.int .i64 0),.t (.int .i64 0),.t (.int .i64 0),.nil,.nil,.t (.int .i64 0),.t (.int .i64 0),.t (.int .i64 0),.nil,.nil,.nil,.nil,.t (.int .i64 0)],0,0⟩),
 (80,⟨1,24,.sl 85,[.nil],0,0⟩),
 (82,⟨1,8,.ptr 147,[.np],0,0⟩),
 (85,⟨3,40,.st [(0,3),(1,3),(2,37)],[.t (.int .i64 0),.t (.int .i64 0),.nil],0,0⟩),
 (90,⟨4,56,.st [(0,3),(1,3),(2,9),(3,24)],[.t (.int .i64 0),.t (.int .i64 0),.t (.str ⟨#[]⟩),.nil],0,0⟩),
 (93,⟨5,64,.st [(0,90),(4,3)],[.t (.int .i64 0),.t (.int .i64 0),.t (.str ⟨#[]⟩),.nil,.t (.int .i64 0)],0,0⟩),
 (100,⟨1,8,.mp 9 37,[.lit (.map none)],0,0⟩),
 (102,⟨19,288,.st [(0,22),(1,29),(17,100),(18,3)],[.nil,.t (.int .i64 0),.nil,.t (.str ⟨#[]⟩),.t (.int .i64 0),.nil,.t (.int .i64 0),.t (.int .i64 0),.t (.int .i64 0),.nil,.nil,.t (.int .i64 0),.t (.int .i64 0),.t (.int .i64 0),.nil,.nil,.nil,.lit (.map none),.t (.int .i64 0)],0,0⟩),
 (103,⟨1,8,.other,[.lit .nilFunc],0,0⟩),
 (105,⟨4,32,.st [(0,3),(1,103),(2,36),(3,4)],[.t (.int .i64 0),.lit .nilFunc,.lit .nilFunc,.t (.bool false)],0,0⟩),
 (110,⟨1,8,.other,[.lit .nilFunc],0,0⟩),
 (111,⟨1,8,.other,[.lit .nilFunc],0,0⟩),
 (114,⟨1,8,.other,[.lit .nilFunc],0,0⟩),
 (117,⟨1,8,.other,[.lit .nilFunc],0,0⟩),
 (122,⟨3,32,.st [(0,3),(1,3),(2,9)],[.t (.int .i64 0),.t (.int .i64 0),.t (.str ⟨#[]⟩)],0,37⟩),
 (135,⟨1,8,.ptr 214,[.np],0,0⟩),
 (139,⟨1,8,.ptr 219,[.np],0,0⟩),
 (145,⟨1,8,.mp 9 222,[.lit (.map none)],0,0⟩),
 (147,⟨18,264,.st [(0,29),(16,145),(17,3)],[.t (.int .i64 0),.nil,.t (.str ⟨#[]⟩),.t (.int .i64 0),.nil,.t (.int .i64 0),.t (.int .i64 0),.t (.int .i64 0),.nil,.nil,.t (.int .i64 0),.t (.int .i64 0),.t (.int .i64 0),.nil,.nil,.nil,.lit (.map none),.t (.int .i64 0)],0,0⟩),
 (150,⟨7,104,.st [(0,9),(1,23),(2,3),(3,90)],[.t (.str ⟨#[]⟩),.nil,.t (.int .i64 0),.t (.int .i64 0),.t (.int .i64 0),.t (.str ⟨#[]⟩),.nil],0,0⟩),
 (152,⟨1,8,.other,[.lit .nilFunc],0,0⟩),
 (158,⟨36,288,.arr 9 105,[.t (.int .i64 0),.lit .nilFunc,.lit .nilFunc,.t (.bool false),.t (.int .i64 0),.lit .nilFunc,.lit .nilFunc,.t (.bool false),.t (.int .i64 0),.lit .nilFunc,.lit .nilFunc,.t (.bool false),.t (.int .i64 0),.lit .nilFunc,.lit .nilFunc,.t (.bool false),.t (.int .i64 0),.lit .nilFunc,.lit .nilFunc,.t (.bool false),.t (.int .i64 0),.lit .nilFunc,.lit .nilFunc,.t (.bool false),.t (.int .i64 0),.lit .nilFunc,.lit .nilFunc,.t (.bool false),.t (.int .i64 0),.lit .nilFunc,.lit .nilFunc,.t (.bool false),.t (.int .i64 0),.lit .nilFunc,.lit .nilFunc,.t (.bool false)],0,0⟩),
 (164,⟨1,24,.sl 171,[.nil],0,0⟩),
 (166,⟨1,8,.other,[.lit .nilFunc],0,0⟩),
 (171,⟨2,16,.st [(0,3),(1,3)],[.t (.int .i64 0),.t (.int .i64 0)],2,0⟩),
 (174,⟨1,8,.ptr 177,[.np],0,0⟩),
 (175,⟨1,24,.sl 5,[.nil],0,0⟩),
 (177,⟨2,32,.st [(0,174),(1,175)],[.np,.nil],0,0⟩),
 (179,⟨1,16,.ifc,[.lit .nilIface],0,0⟩),
 (184,⟨4,80,.st [(0,22),(1,3),(2,48),(3,48)],[.nil,.t (.int .i64 0),.nil,.nil],0,0⟩),
 (186,⟨1,24,.sl 190,[.nil],0,0⟩),
 (190,⟨3,40,.st [(0,3),(1,3),(2,37)],[.t (.int .i64 0),.t (.int .i64 0),.nil],0,0⟩),
 (195,⟨1,24,.sl 9,[.nil],0,0⟩),
 (198,⟨1,8,.other,[.lit .nilFunc],0,0⟩),
 (200,⟨1,24,.sl 201,[.nil],0,0⟩),
 (201,⟨1,24,.sl 4,[.nil],0,0⟩),
 (204,⟨4,40,.st [(0,67),(3,3)],[.t (.int .i64 0),.t (.int .i64 0),.t (.str ⟨#[]⟩),.t (.int .i64 0)],0,0⟩),
 (206,⟨1,24,.sl 209,[.nil],0,0⟩),
 (209,⟨4,64,.st [(0,48),(1,3),(2,3),(3,37)],[.nil,.t (.int .i64 0),.t (.int .i64 0),.nil],0,0⟩),
 (214,⟨2,24,.st [(0,9),(1,4)],[.t (.str ⟨#[]⟩),.t (.bool false)],0,14⟩),
 (219,⟨2,24,.st [(0,9),(1,4)],[.t (.str ⟨#[]⟩),.t (.bool false)],0,14⟩),
 (222,⟨1,8,.ptr 225,[.np],0,0⟩),
 (223,⟨2,48,.arr 2 37,[.nil,.nil],0,0⟩),
 (225,⟨2,48,.st [(0,223)],[.nil,.nil],0,0⟩),
 (231,⟨1,8,.other,[.lit .nilFunc],0,0⟩),
 (232,⟨1,8,.int .u64,[.t (.int .u64 0)],0,0⟩),
 (235,⟨1,8,.ptr 5,[.np],0,0⟩),
 (236,⟨1,8,.other,[.lit .nilFunc],0,0⟩),
 (239,⟨6,64,.st [(0,67),(3,67)],[.t (.int .i64 0),.t (.int .i64 0),.t (.str ⟨#[]⟩),.t (.int .i64 0),.t (.int .i64 0),.t (.str ⟨#[]⟩)],0,0⟩),
 (240,⟨1,8,.mp 3 236,[.lit (.map none)],0,0⟩),
 (241,⟨1,8,.mp 3 37,[.lit (.map none)],0,0⟩),
 (244,⟨1,8,.other,[.lit .nilFunc],0,0⟩),
 (250,⟨1,8,.other,[.lit .nilFunc],0,0⟩),
 (266,⟨1,4,.int .u32,[.t (.int .u32 0)],0,0⟩),
 (269,⟨1,8,.int .u64,[.t (.int .u64 0)],0,0⟩),
 (276,⟨1,24,.sl 48,[.nil],0,0⟩),
 (285,⟨2,48,.arr 2 23,[.nil,.nil],0,0⟩),
 (287,⟨1,8,.other,[.lit .nilFunc],0,0⟩),
 (288,⟨24,24,.arr 24 5,[.t (.int .u8 0),.t (.int .u8 0),.t (.int .u8 0),.t (.int .u8 0),.t (.int .u8 0),.t (.int .u8 0),.t (.int .u8 0),.t (.int .u8 0),.t (.int .u8 0),.t (.int .u8 0),.t (.int .u8 0),.t (.int .u8 0),.t (.int .u8 0),.t (.int .u8 0),.t (.int .u8 0),.t (.int .u8 0),.t (.int .u8 0),.t (.int .u8 0),.t (.int .u8 0),.t (.int .u8 0),.t (.int .u8 0),.t (.int .u8 0),.t (.int .u8 0),.t (.int .u8 0)],0,0⟩),
 (296,⟨1,8,.int .i64,[.t (.int .i64 0)],0,0⟩),
 (304,⟨1,8,.int .i64,[.t (.int .i64 0)],0,0⟩),
 (307,⟨1,8,.ptr 328,[.np],0,0⟩),
 (311,⟨20,160,.arr 20 269,[.t (.int .u64 0),.t (.int .u64 0),.t (.int .u64 0),.t (.int .u64 0),.t (.int .u64 0),.t (.int .u64 0),.t (.int .u64 0),.t (.int .u64 0),.t (.int .u64 0),.t (.int .u64 0),.t (.int .u64 0),.t (.int .u64 0),.t (.int .u64 0),.t (.int .u64 0),.t (.int .u64 0),.t (.int .u64 0),.t (.int .u64 0),.t (.int .u64 0),.t (.int .u64 0),.t (.int .u64 0)],0,0⟩),
 (312,⟨65,65,.arr 65 5,[.t (.int .u8 0),.t (.int .u8 0),.t (.int .u8 0),.t (.int .u8 0),.t (.int .u8 0),.t (.int .u8 0),.t (.int .u8 0),.t (.int .u8 0),.t (.int .u8 0),.t (.int .u8 0),.t (.int .u8 0),.t (.int .u8 0),.t (.int .u8 0),.t (.int .u8 0),.t (.int .u8 0),.t (.int .u8 0),.t (.int .u8 0),.t (.int .u8 0),.t (.int .u8 0),.t (.int .u8 0),.t (.int .u8 0),.t (.int .u8 0),.t (.int .u8 0),.t (.int .u8 0),.t (.int .u8 0),.t (.int .u8 0),.t (.int .u8 0),.t (.int .u8 0),.t (.int .u8 0),.t (.int .u8 0),.t (.int .u8 0),.t (.int .u8 0),.t (.int .u8 0),.t (.int .u8 0),.t (.int .u8 0),.t (.int .u8 0),.t (.int .u8 0),.t (.int .u8 0),.t (.int .u8 0),.t (.int .u8 0),.t (.int .u8 0),.t (.int .u8 0),.t (.int .u8 0),.t (.int .u8 0),.t (.int .u8 0),.t (.int .u8 0),.t (.int .u8 0),.t (.int .u8 0),.t (.int .u8 0),.t (.int .u8 0),.t (.int .u8 0),.t (.int .u8 0),.t (.int .u8 0),.t (.int .u8 0),.t (.int .u8 0),.t (.int .u8 0),.t (.int .u8 0),.t (.int .u8 0),.t (.int .u8 0),.t (.int .u8 0),.t (.int .u8 0),.t (.int .u8 0),.t (.int .u8 0),.t (.int .u8 0),.t (.int .u8 0)],0,0⟩),
 (319,⟨1,8,.int .u64,[.t (.int .u64 0)],0,0⟩),
 (323,⟨1,8,.ptr 3,[.np],0,0⟩),
 (328,⟨3,48,.st [(0,9),(1,9),(2,179)],[.t (.str ⟨#[]⟩),.t (.str ⟨#[]⟩),.lit .nilIface],0,0⟩),
 (332,⟨1,8,.ptr 319,[.np],0,0⟩),
 (335,⟨1,8,.ptr 337,[.np],0,0⟩),
 (337,⟨1,16,.st [(0,9)],[.t (.str ⟨#[]⟩)],0,2⟩),
 (338,⟨32,32,.arr 32 5,[.t (.int .u8 0),.t (.int .u8 0),.t (.int .u8 0),.t (.int .u8 0),.t (.int .u8 0),.t (.int .u8 0),.t (.int .u8 0),.t (.int .u8 0),.t (.int .u8 0),.t (.int .u8 0),.t (.int .u8 0),.t (.int .u8 0),.t (.int .u8 0),.t (.int .u8 0),.t (.int .u8 0),.t (.int .u8 0),.t (.int .u8 0),.t (.int .u8 0),.t (.int .u8 0),.t (.int .u8 0),.t (.int .u8 0),.t (.int .u8 0),.t (.int .u8 0),.t (.int .u8 0),.t (.int .u8 0),.t (.int .u8 0),.t (.int .u8 0),.t (.int .u8 0),.t (.int .u8 0),.t (.int .u8 0),.t (.int .u8 0),.t (.int .u8 0)],0,0⟩),
 (339,⟨64,64,.arr 64 5,[.t (.int .u8 0),.t (.int .u8 0),.t (.int .u8 0),.t (.int .u8 0),.t (.int .u8 0),.t (.int .u8 0),.t (.int .u8 0),.t (.int .u8 0),.t (.int .u8 0),.t (.int .u8 0),.t (.int .u8 0),.t (.int .u8 0),.t (.int .u8 0),.t (.int .u8 0),.t (.int .u8 0),.t (.int .u8 0),.t (.int .u8 0),.t (.int .u8 0),.t (.int .u8 0),.t (.int .u8 0),.t (.int .u8 0),.t (.int .u8 0),.t (.int .u8 0),.t (.int .u8 0),.t (.int .u8 0),.t (.int .u8 0),.t (.int .u8 0),.t (.int .u8 0),.t (.int .u8 0),.t (.int .u8 0),.t (.int .u8 0),.t (.int .u8 0),.t (.int .u8 0),.t (.int .u8 0),.t (.int .u8 0),.t (.int .u8 0),.t (.int .u8 0),.t (.int .u8 0),.t (.int .u8 0),.t (.int .u8 0),.t (.int .u8 0),.t (.int .u8 0),.t (.int .u8 0),.t (.int .u8 0),.t (.int .u8 0),.t (.int .u8 0),.t (.int .u8 0),.t (.int .u8 0),.t (.int .u8 0),.t (.int .u8 0),.t (.int .u8 0),.t (.int .u8 0),.t (.int .u8 0),.t (.int .u8 0),.t (.int .u8 0),.t (.int .u8 0),.t (.int .u8 0),.t (.int .u8 0),.t (.int .u8 0),.t (.int .u8 0),.t (.int .u8 0),.t (.int .u8 0),.t (.int .u8 0),.t (.int .u8 0)],0,0⟩),
 (354,⟨3,40,.st [(0,9),(1,3),(2,9)],[.t (.str ⟨#[]⟩),.t (.int .i64 0),.t (.str ⟨#[]⟩)],0,38⟩)]
set_option maxRecDepth 100000 in
theorem ti_ok:TIok Proofs.Tryz.prog (look tiL):=
 tiok_of (tiok_cons (tok_of (by kernel_rfl) (by kernel_rfl) (by kernel_rfl)) (tiok_cons (tok_of (by kernel_rfl) (by kernel_rfl) (by kernel_rfl)) (tiok_cons (tok_of (by kernel_rfl) (by kernel_rfl) (by kernel_rfl)) (tiok_cons (tok_of (by kernel_rfl) (by kernel_rfl) (by kernel_rfl)) (tiok_cons (tok_of (by kernel_rfl) (by kernel_rfl) (by kernel_rfl)) (tiok_cons (tok_of (by kernel_rfl) (by kernel_rfl) (by kernel_rfl)) (tiok_cons (tok_of (by kernel_rfl) (by kernel_rfl) (by kernel_rfl)) (tiok_cons (tok_of (by kernel_rfl) (by kernel_rfl) (by kernel_rfl)) (tiok_cons (tok_of (by kernel_rfl) (by kernel_rfl) (by kernel_rfl)) (tiok_cons (tok_of (by kernel_rfl) (by kernel_rfl) (by kernel_rfl)) (tiok_cons (tok_of (by kernel_rfl) (by kernel_rfl) (by kernel_rfl)) (tiok_cons (tok_of (by kernel_rfl) (by kernel_rfl) (by kernel_rfl)) (tiok_cons (tok_of (by kernel_rfl) (by kernel_rfl) (by kernel_rfl)) (tiok_cons (tok_of (by kernel_rfl) (by kernel_rfl) (by kernel_rfl)) (tiok_cons (tok_of (by kernel_rfl) (by kernel_rfl) (by kernel_rfl)) (tiok_cons (tok_of (by kernel_rfl) (by kernel_rfl) (by kernel_rfl)) (tiok_cons (tok_of (by kernel_rfl) (by kernel_rfl) (by kernel_rfl)) (tiok_cons (tok_of (by kernel_rfl) (by kernel_rfl) (by kernel_rfl)) (tiok_cons (tok_of (by kernel_rfl) (by kernel_rfl) (by kernel_rfl)) (tiok_cons (tok_of (by kernel_rfl) (by kernel_rfl) (by kernel_rfl)) (tiok_cons (tok_of (by kernel_rfl) (by kernel_rfl) (by kernel_rfl)) (tiok_cons (tok_of (by kernel_rfl) (by kernel_rfl) (by kernel_rfl)) (tiok_cons (tok_of (by kernel_rfl) (by kernel_rfl) (by kernel_rfl)) (tiok_cons (tok_of (by kernel_rfl) (by kernel_rfl) (by kernel_rfl)) (tiok_cons (tok_of (by kernel_rfl) (by kernel_rfl) (by kernel_rfl)) (tiok_cons (tok_of (by kernel_rfl) (by kernel_rfl) (by kernel_rfl)) (tiok_cons (tok_of (by kernel_rfl) (by kernel_rfl) (by kernel_rfl)) (tiok_cons (tok_of (by kernel_rfl) (by kernel_rfl) (by kernel_rfl)) (tiok_cons (tok_of (by kernel_rfl) (by kernel_rfl) (by kernel_rfl)) (tiok_cons (tok_of (by kernel_rfl) (by kernel_rfl) (by kernel_rfl)) (tiok_cons (tok_of (by kernel_rfl) (by kernel_rfl) (by kernel_rfl)) (tiok_cons (tok_of (by kernel_rfl) (by kernel_rfl) (by kernel_rfl)) (tiok_cons (tok_of (by kernel_rfl) (by kernel_rfl) (by kernel_rfl)) (tiok_cons (tok_of (by kernel_rfl) (by kernel_rfl) (by kernel_rfl)) (tiok_cons (tok_of (by kernel_rfl) (by kernel_rfl) (by kernel_rfl)) (tiok_cons (tok_of (by kernel_rfl) (by kernel_rfl) (by kernel_rfl)) (tiok_cons (tok_of (by kernel_rfl) (by kernel_rfl) (by kernel_rfl)) (tiok_cons (tok_of (by kernel_rfl) (by kernel_rfl) (by kernel_rfl)) (tiok_cons (tok_of (by kernel_rfl) (by kernel_rfl) (by kernel_rfl)) (tiok_cons (tok_of (by kernel_rfl) (by kernel_rfl) (by kernel_rfl)) (tiok_cons (tok_of (by kernel_rfl) (by kernel_rfl) (by kernel_rfl)) (tiok_cons (tok_of (by kernel_rfl) (by kernel_rfl) (by kernel_rfl)) (tiok_cons (tok_of (by kernel_rfl) (by kernel_rfl) (by kernel_rfl)) (tiok_cons (tok_of (by kernel_rfl) (by kernel_rfl) (by kernel_rfl)) (tiok_cons (tok_of (by kernel_rfl) (by kernel_rfl) (by kernel_rfl)) (tiok_cons (tok_of (by kernel_rfl) (by kernel_rfl) (by kernel_rfl)) (tiok_cons (tok_of (by kernel_rfl) (by kernel_rfl) (by kernel_rfl)) (tiok_cons (tok_of (by kernel_rfl) (by kernel_rfl) (by kernel_rfl)) (tiok_cons (tok_of (by kernel_rfl) (by kernel_rfl) (by kernel_rfl)) (tiok_cons (tok_of (by kernel_rfl) (by kernel_rfl) (by kernel_rfl)) (tiok_cons (tok_of (by kernel_rfl) (by kernel_rfl) (by kernel_rfl)) (tiok_cons (tok_of (by kernel_rfl) (by kernel_rfl) (by kernel_rfl)) (tiok_cons (tok_of (by kernel_rfl) (by kernel_rfl) (by kernel_rfl)) (tiok_cons (tok_of (by kernel_rfl) (by kernel_rfl) (by kernel_rfl)) (tiok_cons (tok_of (by kernel_rfl) (by kernel_rfl) (by kernel_rfl)) (tiok_cons (tok_of (by kernel_rfl) (by kernel_rfl) (by kernel_rfl)) (tiok_cons (tok_of (by kernel_rfl) (by kernel_rfl) (by kernel_rfl)) (tiok_cons (tok_of (by kernel_rfl) (by kernel_rfl) (by kernel_rfl)) (tiok_cons (tok_of (by kernel_rfl) (by kernel_rfl) (by kernel_rfl)) (tiok_cons (tok_of (by kernel_rfl) (by kernel_rfl) (by kernel_rfl)) (tiok_cons (tok_of (by kernel_rfl) (by kernel_rfl) (by kernel_rfl)) (tiok_cons (tok_of (by kernel_rfl) (by kernel_rfl) (by kernel_rfl)) (tiok_cons (tok_of (by kernel_rfl) (by kernel_rfl) (by kernel_rfl)) (tiok_cons (tok_of (by kernel_rfl) (by kernel_rfl) (by kernel_rfl)) (tiok_cons (tok_of (by kernel_rfl) (by kernel_rfl) (by kernel_rfl)) (tiok_cons (tok_of (by kernel_rfl) (by kernel_rfl) (by kernel_rfl)) (tiok_cons (tok_of (by kernel_rfl) (by kernel_rfl) (by kernel_rfl)) (tiok_cons (tok_of (by kernel_rfl) (by kernel_rfl) (by kernel_rfl)) (tiok_cons (tok_of (by kernel_rfl) (by kernel_rfl) (by kernel_rfl)) (tiok_cons (tok_of (by kernel_rfl) (by kernel_rfl) (by kernel_rfl)) (tiok_cons (tok_of (by kernel_rfl) (by kernel_rfl) (by kernel_rfl)) (tiok_cons (tok_of (by kernel_rfl) (by kernel_rfl) (by kernel_rfl)) (tiok_cons (tok_of (by kernel_rfl) (by kernel_rfl) (by kernel_rfl)) (tiok_cons (tok_of (by kernel_rfl) (by kernel_rfl) (by kernel_rfl)) (tiok_cons (tok_of (by kernel_rfl) (by kernel_rfl) (by kernel_rfl)) (tiok_cons (tok_of (by kernel_rfl) (by kernel_rfl) (by kernel_rfl)) (tiok_cons (tok_of (by kernel_rfl) (by kernel_rfl) (by kernel_rfl)) (tiok_cons (tok_of (by kernel_rfl) (by kernel_rfl) (by kernel_rfl)) (tiok_cons (tok_of (by kernel_rfl) (by kernel_rfl) (by kernel_rfl)) (tiok_cons (tok_of (by kernel_rfl) (by kernel_rfl) (by kernel_rfl)) (tiok_cons (tok_of (by kernel_rfl) (by kernel_rfl) (by kernel_rfl)) (tiok_cons (tok_of (by kernel_rfl) (by kernel_rfl) (by kernel_rfl)) (tiok_cons (tok_of (by kernel_rfl) (by kernel_rfl) (by kernel_rfl)) (tiok_cons (tok_of (by kernel_rfl) (by kernel_rfl) (by kernel_rfl)) (tiok_cons (tok_of (by kernel_rfl) (by kernel_rfl) (by kernel_rfl)) (tiok_cons (tok_of (by kernel_rfl) (by kernel_rfl) (by kernel_rfl)) (tiok_cons (tok_of (by kernel_rfl) (by kernel_rfl) (by kernel_rfl)) (tiok_cons (tok_of (by kernel_rfl) (by kernel_rfl) (by kernel_rfl)) (tiok_cons (tok_of (by kernel_rfl) (by kernel_rfl) (by kernel_rfl)) (tiok_cons (tok_of (by kernel_rfl) (by kernel_rfl) (by kernel_rfl)) (tiok_cons (tok_of (by kernel_rfl) (by kernel_rfl) (by kernel_rfl)) (tiok_cons (tok_of (by kernel_rfl) (by kernel_rfl) (by kernel_rfl)) (tiok_cons (tok_of (by kernel_rfl) (by kernel_rfl) (by kernel_rfl)) (tiok_cons (tok_of (by kernel_rfl) (by kernel_rfl) (by kernel_rfl)) (tiok_cons (tok_of (by kernel_rfl) (by kernel_rfl) (by kernel_rfl)) (tiok_cons (tok_of (by kernel_rfl) (by kernel_rfl) (by kernel_rfl)) (tiok_cons (tok_of (by kernel_rfl) (by kernel_rfl) (by kernel_rfl)) (tiok_cons (tok_of (by kernel_rfl) (by kernel_rfl) (by kernel_rfl)) (tiok_cons (tok_of (by kernel_rfl) (by kernel_rfl) (by kernel_rfl)) (tiok_cons (tok_of (by kernel_rfl) (by kernel_rfl) (by kernel_rfl)) (tiok_cons (tok_of (by kernel_rfl) (by kernel_rfl) (by kernel_rfl)) tiok_nil)))))))))))))))))))))))))))))))))))))))))))))))))))))))))))))))))))))))))))))))))))))))))))))))))))))
abbrev TP:=Tr Proofs.Tryz.prog
end Go.PL
namespace Go.Proofs
open Go.Shelf Go.RowKit
set_option maxHeartbeats 1000000 in
set_option maxRecDepth 100000 in
theorem Tryz.copyCheck_used(b:Nat)(w:World)(h0:w.cell? ⟨b,0,none⟩=some (.pointer (some ⟨b,0,none⟩))):
  Calls Tryz.prog 222 #[.pointer (some ⟨b,0,none⟩)] w fun e w'=>e = .returned (.tuple #[])∧w'=w:=by
 have hsz:(Tryz.prog.info? 177).map (·.size)=some 2:=by kernel_rfl
 obtain⟨j,hj,_⟩:=Option.map_eq_some_iff.1 hsz
 have mixed:Tryz.prog.follows .mixedOrders=true:=by kernel_rfl
 have t72:=Tryz.underlying177; have a72:=Tryz.isAgg177; have z72:=Tryz.sizeOf177; have v72:=Tryz.zeroValue177; have u72:=run_underlying t72
 have t70:=Tryz.underlying174; have a70:=Tryz.isAgg174; have z70:=Tryz.sizeOf174; have v70:=Tryz.zeroValue174; have u70:=run_underlying t70
 have t4:=Tryz.underlying4; have a4:=Tryz.isAgg4; have z4:=Tryz.sizeOf4; have v4:=Tryz.zeroValue4; have u4:=run_underlying t4
 have t164:=Tryz.underlying273; have a164:=Tryz.isAgg273; have z164:=Tryz.sizeOf273; have v164:=Tryz.zeroValue273; have u164:=run_underlying t164
 go_enter Tryz.func222,Tryz.ntmps222
 go_wp2
 rw[Lib.run_neq_ptr_same w _ t70 hj]
 go_wp2
 go_end0
 exact⟨rfl,rfl⟩
set_option maxHeartbeats 1000000 in
set_option maxRecDepth 100000 in
theorem Tryz.copyCheck_fresh(b:Nat)(w:World)(h0:w.cell? ⟨b,0,none⟩=some (.pointer none))(hsh:w.shape? b=some (177,2))(hfz:w.frozen? ⟨b,0,none⟩=false):
  Calls Tryz.prog 222 #[.pointer (some ⟨b,0,none⟩)] w fun e w'=>e = .returned (.tuple #[])∧w'=w.setCell ⟨b,0,none⟩ (.pointer (some ⟨b,0,none⟩)):=by
 have hsz:(Tryz.prog.info? 177).map (·.size)=some 2:=by kernel_rfl
 obtain⟨j,hj,hjs⟩:=Option.map_eq_some_iff.1 hsz
 have lies:liesAt Tryz.prog Tryz.prog.depth 177 (2 / Tryz.prog.cellsOf 177) 0 177 1=true:=by kernel_rfl
 have mixed:Tryz.prog.follows .mixedOrders=true:=by kernel_rfl
 have t72:=Tryz.underlying177; have a72:=Tryz.isAgg177; have z72:=Tryz.sizeOf177; have v72:=Tryz.zeroValue177; have u72:=run_underlying t72
 have t70:=Tryz.underlying174; have a70:=Tryz.isAgg174; have z70:=Tryz.sizeOf174; have v70:=Tryz.zeroValue174; have u70:=run_underlying t70
 have t4:=Tryz.underlying4; have a4:=Tryz.isAgg4; have z4:=Tryz.sizeOf4; have v4:=Tryz.zeroValue4; have u4:=run_underlying t4
 have t164:=Tryz.underlying273; have a164:=Tryz.isAgg273; have z164:=Tryz.sizeOf273; have v164:=Tryz.zeroValue273; have u164:=run_underlying t164
 go_enter Tryz.func222,Tryz.ntmps222
 go_wp2
 rw[Lib.run_to_unsafe w ⟨b,0,none⟩ t70 t164 hj (by rw[hjs]; decide) hsh (Nat.zero_lt_succ 1)]
 simp only[Result.andThen]
 rw[Oper.upon_value]
 go_wp2
 rw[run_callFunc_extern Tryz.func276 (by kernel_rfl) (by kernel_rfl) (by kernel_rfl) (e:=Extern.AbiNoEscape.same) (by kernel_rfl)]
 rw[Lib.run_noEscape]
 simp only[Result.andThen]
 rw[Oper.upon_value]
 go_wp2
 rw[Lib.run_from_unsafe w ⟨b,0,none⟩ t164 t70 hj hsh lies]
 simp only[Result.andThen]
 rw[Oper.upon_value]
 go_wp2
 go_end0
 exact⟨rfl,rfl⟩
set_option maxHeartbeats 2000000 in
set_option maxRecDepth 100000 in
theorem Tryz.String_row(b g cap:Nat)(p:Value)(cur:Array Value)(l:List UInt8)(h0:l≠[])(w:World)(hbk:w.heap[b]? = some (.cells #[p,.slice (some ⟨g,0,none⟩) l.length cap] 177 (0,0)))
  (hg:w.heap[g]? = some (.cells cur 5 (0,0)))(hnc:l.length≤cap)(hcm:cap≤maxLen)(hcs:cur.size=cap*1)(hcell:∀ (j:Nat) (x:UInt8),l[j]? = some x→cur[j]? = some (Value.int .u8 (x.toNat:Int))):
  Calls Tryz.prog 170 #[.pointer (some ⟨b,0,none⟩)] w fun e w'=>e = .returned (.string ⟨l.toArray⟩)∧w'=w.drew.freeze ⟨g,0,none⟩ l.length:=by
 have hl0:l.length≠0:=by simpa using h0
 have c1:w.drew.cell? ⟨b,1,none⟩=some (.slice (some ⟨g,0,none⟩) l.length cap):=by
  have:w.drew.heap[b]? = some (.cells #[p,.slice (some ⟨g,0,none⟩) l.length cap] 177 (0,0)):=hbk
  rw[Lib.cell_of_heap this]; rfl
 have hSD:(Builtin.unsafeSliceData_ #[175] 235 #[.slice (some ⟨g,0,none⟩) l.length cap]).run Tryz.prog w.drew = .ok (.pointer (some ⟨g,0,none⟩)) w.drew:=
  Lib.run_unsafeSliceData_row _ _ _ _ _ _ (by omega)
 have hUS:(Builtin.unsafeString_ #[235,3] 9 #[.pointer (some ⟨g,0,none⟩),.int .i64 l.length]).run Tryz.prog w.drew = .ok (.string ⟨l.toArray⟩) (w.drew.freeze ⟨g,0,none⟩ l.length):=by
  refine Lib.run_unsafeString_row w.drew 235 3 9 5 Tryz.underlying235 (by kernel_rfl) g cur.size (by have hg':w.drew.heap[g]? = some (.cells cur 5 (0,0)):=hg; simp[World.shape?,hg']) l h0 (by omega) (by unfold maxLen at hcm; omega) ?_
  intro j x hx
  have hg':w.drew.heap[g]? = some (.cells cur 5 (0,0)):=hg
  rw[Go.PL.Addr.add_none,Nat.zero_add,Lib.cell_of_heap hg']
  exact hcell j x hx
 have mixed:Tryz.prog.follows .mixedOrders=true:=by kernel_rfl
 have t72:=Tryz.underlying177; have a72:=Tryz.isAgg177; have z72:=Tryz.sizeOf177; have v72:=Tryz.zeroValue177; have u72:=run_underlying t72
 have t70:=Tryz.underlying174; have a70:=Tryz.isAgg174; have z70:=Tryz.sizeOf174; have v70:=Tryz.zeroValue174; have u70:=run_underlying t70
 have t37:=Tryz.underlying175; have a37:=Tryz.isAgg175; have z37:=Tryz.sizeOf175; have v37:=Tryz.zeroValue175; have u37:=run_underlying t37
 have t127:=Tryz.underlying235; have a127:=Tryz.isAgg235; have z127:=Tryz.sizeOf235; have v127:=Tryz.zeroValue235; have u127:=run_underlying t127
 have t3:=Tryz.underlying3; have a3:=Tryz.isAgg3; have z3:=Tryz.sizeOf3; have v3:=Tryz.zeroValue3; have u3:=run_underlying t3
 have t9:=Tryz.underlying9; have a9:=Tryz.isAgg9; have z9:=Tryz.sizeOf9; have v9:=Tryz.zeroValue9; have u9:=run_underlying t9
 have t5:=Tryz.underlying5; have a5:=Tryz.isAgg5; have z5:=Tryz.sizeOf5; have v5:=Tryz.zeroValue5; have u5:=run_underlying t5
 go_enter Tryz.func170,Tryz.ntmps170
 go_wp2
 go_region_o
 all_goals (go_wp2; go_ret; exact⟨rfl,rfl⟩)
set_option maxHeartbeats 2000000 in
set_option maxRecDepth 100000 in
theorem Tryz.String_nil(b:Nat)(p:Value)(w:World)(hbk:w.heap[b]? = some (.cells #[p,.slice none 0 0] 177 (0,0))):
  Calls Tryz.prog 170 #[.pointer (some ⟨b,0,none⟩)] w fun e w'=>e = .returned (.string ⟨#[]⟩)∧w'=w.drew:=by
 have hUS:∀ W q,(Builtin.unsafeString_ #[235,3] 9 #[.pointer q,.int .i64 0]).run Tryz.prog W = .ok (.string .empty) W:=fun W q=>Lib.run_unsafeString_none W _ _ _ q
 have c1:w.drew.cell? ⟨b,1,none⟩=some (.slice none 0 0):=by
  have:w.drew.heap[b]? = some (.cells #[p,.slice none 0 0] 177 (0,0)):=hbk
  rw[Lib.cell_of_heap this]; rfl
 have hSD:(Builtin.unsafeSliceData_ #[175] 235 #[.slice none 0 0]).run Tryz.prog w.drew = .ok (.pointer none) w.drew:=rfl
 have mixed:Tryz.prog.follows .mixedOrders=true:=by kernel_rfl
 have t72:=Tryz.underlying177; have a72:=Tryz.isAgg177; have z72:=Tryz.sizeOf177; have v72:=Tryz.zeroValue177; have u72:=run_underlying t72
 have t70:=Tryz.underlying174; have a70:=Tryz.isAgg174; have z70:=Tryz.sizeOf174; have v70:=Tryz.zeroValue174; have u70:=run_underlying t70
 have t37:=Tryz.underlying175; have a37:=Tryz.isAgg175; have z37:=Tryz.sizeOf175; have v37:=Tryz.zeroValue175; have u37:=run_underlying t37
 have t127:=Tryz.underlying235; have a127:=Tryz.isAgg235; have z127:=Tryz.sizeOf235; have v127:=Tryz.zeroValue235; have u127:=run_underlying t127
 have t3:=Tryz.underlying3; have a3:=Tryz.isAgg3; have z3:=Tryz.sizeOf3; have v3:=Tryz.zeroValue3; have u3:=run_underlying t3
 have t9:=Tryz.underlying9; have a9:=Tryz.isAgg9; have z9:=Tryz.sizeOf9; have v9:=Tryz.zeroValue9; have u9:=run_underlying t9
 have t5:=Tryz.underlying5; have a5:=Tryz.isAgg5; have z5:=Tryz.sizeOf5; have v5:=Tryz.zeroValue5; have u5:=run_underlying t5
 go_enter Tryz.func170,Tryz.ntmps170
 go_wp2
 go_region_o
 all_goals (go_wp2; go_ret; exact⟨rfl,rfl⟩)
set_option maxHeartbeats 2000000 in
set_option maxRecDepth 100000 in
theorem Tryz.String_noroom(b g:Nat)(p:Value)(cur:Array Value)(w:World)(hlt:b<w.heap.size)(hbk:w.heap[b]? = some (.cells #[p,.slice (some ⟨g,0,none⟩) 0 0] 177 (0,0)))(hg:w.heap[g]? = some (.cells cur 5 (0,0))):
  Calls Tryz.prog 170 #[.pointer (some ⟨b,0,none⟩)] w fun e w'=>e = .returned (.string ⟨#[]⟩)∧w'=w.drew.alloc (.view ⟨g,0,none⟩ 5):=by
 have hUS:∀ W q,(Builtin.unsafeString_ #[235,3] 9 #[.pointer q,.int .i64 0]).run Tryz.prog W = .ok (.string .empty) W:=fun W q=>Lib.run_unsafeString_none W _ _ _ q
 have c1:w.drew.cell? ⟨b,1,none⟩=some (.slice (some ⟨g,0,none⟩) 0 0):=by
  have:w.drew.heap[b]? = some (.cells #[p,.slice (some ⟨g,0,none⟩) 0 0] 177 (0,0)):=hbk
  rw[Lib.cell_of_heap this]; rfl
 have hSD:(Builtin.unsafeSliceData_ #[175] 235 #[.slice (some ⟨g,0,none⟩) 0 0]).run Tryz.prog w.drew = .ok (.pointer (some ⟨w.drew.heap.size,0,none⟩)) (w.drew.alloc (.view ⟨g,0,none⟩ 5)):=
  Lib.run_unsafeSliceData_zero w.drew _ _ 5 Tryz.underlying235 ⟨g,0,none⟩ 0 (5,cur.size) (by have hg':w.drew.heap[g]? = some (.cells cur 5 (0,0)):=hg; simp[World.shape?,hg'])
 have c2:(w.drew.alloc (.view ⟨g,0,none⟩ 5)).cell? ⟨b,1,none⟩=some (.slice (some ⟨g,0,none⟩) 0 0):=by
  have:(w.drew.alloc (.view ⟨g,0,none⟩ 5)).heap[b]? = _:=(Lib.alloc_old w.drew _ b hlt).trans hbk
  rw[Lib.cell_of_heap this]; rfl
 have c3:(w.alloc (.view ⟨g,0,none⟩ 5)).drew.cell? ⟨b,1,none⟩=some (.slice (some ⟨g,0,none⟩) 0 0):=c2
 have c0:w.cell? ⟨b,1,none⟩=some (.slice (some ⟨g,0,none⟩) 0 0):=c1
 have mixed:Tryz.prog.follows .mixedOrders=true:=by kernel_rfl
 have t72:=Tryz.underlying177; have a72:=Tryz.isAgg177; have z72:=Tryz.sizeOf177; have v72:=Tryz.zeroValue177; have u72:=run_underlying t72
 have t70:=Tryz.underlying174; have a70:=Tryz.isAgg174; have z70:=Tryz.sizeOf174; have v70:=Tryz.zeroValue174; have u70:=run_underlying t70
 have t37:=Tryz.underlying175; have a37:=Tryz.isAgg175; have z37:=Tryz.sizeOf175; have v37:=Tryz.zeroValue175; have u37:=run_underlying t37
 have t127:=Tryz.underlying235; have a127:=Tryz.isAgg235; have z127:=Tryz.sizeOf235; have v127:=Tryz.zeroValue235; have u127:=run_underlying t127
 have t3:=Tryz.underlying3; have a3:=Tryz.isAgg3; have z3:=Tryz.sizeOf3; have v3:=Tryz.zeroValue3; have u3:=run_underlying t3
 have t9:=Tryz.underlying9; have a9:=Tryz.isAgg9; have z9:=Tryz.sizeOf9; have v9:=Tryz.zeroValue9; have u9:=run_underlying t9
 have t5:=Tryz.underlying5; have a5:=Tryz.isAgg5; have z5:=Tryz.sizeOf5; have v5:=Tryz.zeroValue5; have u5:=run_underlying t5
 go_enter Tryz.func170,Tryz.ntmps170
 go_wp2
 go_region_o
 all_goals (go_wp2; go_ret; exact⟨rfl,rfl⟩)
set_option maxHeartbeats 2000000 in
set_option maxRecDepth 100000 in
theorem Tryz.String_room(b g cap:Nat)(p:Value)(w:World)(hc0:cap≠0)(hbk:w.heap[b]? = some (.cells #[p,.slice (some ⟨g,0,none⟩) 0 cap] 177 (0,0))):
  Calls Tryz.prog 170 #[.pointer (some ⟨b,0,none⟩)] w fun e w'=>e = .returned (.string ⟨#[]⟩)∧w'=w.drew:=by
 have hUS:∀ W q,(Builtin.unsafeString_ #[235,3] 9 #[.pointer q,.int .i64 0]).run Tryz.prog W = .ok (.string .empty) W:=fun W q=>Lib.run_unsafeString_none W _ _ _ q
 have c1:w.drew.cell? ⟨b,1,none⟩=some (.slice (some ⟨g,0,none⟩) 0 cap):=by
  have:w.drew.heap[b]? = some (.cells #[p,.slice (some ⟨g,0,none⟩) 0 cap] 177 (0,0)):=hbk
  rw[Lib.cell_of_heap this]; rfl
 have hSD:(Builtin.unsafeSliceData_ #[175] 235 #[.slice (some ⟨g,0,none⟩) 0 cap]).run Tryz.prog w.drew = .ok (.pointer (some ⟨g,0,none⟩)) w.drew:=
  Lib.run_unsafeSliceData_row _ _ _ _ _ _ hc0
 clear hc0
 have mixed:Tryz.prog.follows .mixedOrders=true:=by kernel_rfl
 have t72:=Tryz.underlying177; have a72:=Tryz.isAgg177; have z72:=Tryz.sizeOf177; have v72:=Tryz.zeroValue177; have u72:=run_underlying t72
 have t70:=Tryz.underlying174; have a70:=Tryz.isAgg174; have z70:=Tryz.sizeOf174; have v70:=Tryz.zeroValue174; have u70:=run_underlying t70
 have t37:=Tryz.underlying175; have a37:=Tryz.isAgg175; have z37:=Tryz.sizeOf175; have v37:=Tryz.zeroValue175; have u37:=run_underlying t37
 have t127:=Tryz.underlying235; have a127:=Tryz.isAgg235; have z127:=Tryz.sizeOf235; have v127:=Tryz.zeroValue235; have u127:=run_underlying t127
 have t3:=Tryz.underlying3; have a3:=Tryz.isAgg3; have z3:=Tryz.sizeOf3; have v3:=Tryz.zeroValue3; have u3:=run_underlying t3
 have t9:=Tryz.underlying9; have a9:=Tryz.isAgg9; have z9:=Tryz.sizeOf9; have v9:=Tryz.zeroValue9; have u9:=run_underlying t9
 have t5:=Tryz.underlying5; have a5:=Tryz.isAgg5; have z5:=Tryz.sizeOf5; have v5:=Tryz.zeroValue5; have u5:=run_underlying t5
 go_enter Tryz.func170,Tryz.ntmps170
 go_wp2
 go_region_o
 all_goals (go_wp2; go_ret; exact⟨rfl,rfl⟩)
end Go.Proofs
namespace Go.Proofs
open Go.Shelf Go.RowKit
theorem wpList_append_run{P:Program}{w:World}{ops:Array Oper}{rest:List Oper}{o:Oper}{a:Act}{Q:Exit→Act→World→Prop}(hgd:o.guard=none)(sl x:Operand)(t u:TypeId)
  (ho:o.op = .call { callee:=.builtin .append,args:=#[sl,x],argTypes:=#[t,u] })(ty:TypeId)(hty:o.type=ty)(v:Value)(s:ByteArray)(hs:a.eval sl=v)(hx:a.eval x = .string s)(v':Value)(w':World)
  (hr:(Builtin.append_ #[t,u] ty #[v,.string s]).run P w = .ok v' w')(h:wpList P ops Q rest (a.put o.dst v') w'):wpList P ops Q (o::rest) a w:=by
 refine wpList_plain hgd fun K hK=>?_
 unfold Oper.wp execOp
 simp only[ho,hty,resolve,invoke,builtin,Sem.run_bind,Sem.run_pure,Result.andThen_ok,List.map_toArray,List.map_cons,List.map_nil,hs,hx,hr]
 exact hK _ _ h
set_option maxHeartbeats 2000000 in
set_option maxRecDepth 100000 in
theorem Tryz.WriteString_ex(b:Nat)(v:Value)(ao:Option Addr)(n' cap:Nat)(s:ByteArray)(w w1 w2:World)(hcc:Calls Tryz.prog 222 #[.pointer (some ⟨b,0,none⟩)] w fun e w'=>e = .returned (.tuple #[])∧w'=w1)
  (hbk:w1.heap[b]? = some (.cells #[.pointer (some ⟨b,0,none⟩),v] 177 (0,0)))(hap:(Builtin.append_ #[175,9] 175 #[v,.string s]).run Tryz.prog w1 = .ok (.slice ao n' cap) w2)
  (hb2:w2.heap[b]? = some (.cells #[.pointer (some ⟨b,0,none⟩),v] 177 (0,0))):
  Calls Tryz.prog 167 #[.pointer (some ⟨b,0,none⟩),.string s] w fun e w'=>e = .returned (.tuple #[.int .i64 s.size,.nilIface])∧w'=w2.setCell ⟨b,1,none⟩ (.slice ao n' cap):=by
 have mixed:Tryz.prog.follows .mixedOrders=true:=by kernel_rfl
 have t72:=Tryz.underlying177; have a72:=Tryz.isAgg177; have z72:=Tryz.sizeOf177; have v72:=Tryz.zeroValue177; have u72:=run_underlying t72
 have t70:=Tryz.underlying174; have a70:=Tryz.isAgg174; have z70:=Tryz.sizeOf174; have v70:=Tryz.zeroValue174; have u70:=run_underlying t70
 have t37:=Tryz.underlying175; have a37:=Tryz.isAgg175; have z37:=Tryz.sizeOf175; have v37:=Tryz.zeroValue175; have u37:=run_underlying t37
 have t3:=Tryz.underlying3; have a3:=Tryz.isAgg3; have z3:=Tryz.sizeOf3; have v3:=Tryz.zeroValue3; have u3:=run_underlying t3
 have t9:=Tryz.underlying9; have a9:=Tryz.isAgg9; have z9:=Tryz.sizeOf9; have v9:=Tryz.zeroValue9; have u9:=run_underlying t9
 have t4:=Tryz.underlying4; have a4:=Tryz.isAgg4; have z4:=Tryz.sizeOf4; have v4:=Tryz.zeroValue4; have u4:=run_underlying t4
 have t5:=Tryz.underlying5; have a5:=Tryz.isAgg5; have z5:=Tryz.sizeOf5; have v5:=Tryz.zeroValue5; have u5:=run_underlying t5
 have e167:∀ args w,(callFunc 222 args).run Tryz.prog w = .ok (.enter 222 args) w:=enters_of Tryz.func222 (by kernel_rfl) rfl
 go_enter Tryz.func167,Tryz.ntmps167
 go_wp2_with (go_at_fn 222; refine hcc.mono ?_)
 rintro e w' ⟨rfl,rfl⟩
 have c0:w'.cell? ⟨b,0,none⟩=some (.pointer (some ⟨b,0,none⟩)):=by rw[Lib.cell_of_heap hbk]; rfl
 have c1:w'.cell? ⟨b,1,none⟩=some v:=by rw[Lib.cell_of_heap hbk]; rfl
 have d0:w2.cell? ⟨b,0,none⟩=some (.pointer (some ⟨b,0,none⟩)):=by rw[Lib.cell_of_heap hb2]; rfl
 have d1:w2.cell? ⟨b,1,none⟩=some v:=by rw[Lib.cell_of_heap hb2]; rfl
 have f1:w2.frozen? ⟨b,1,none⟩=false:=Lib.frozen_of_heap hb2 1
 go_wp2_with (at_builtin; refine wpList_append_run rfl _ _ 175 9 rfl 175 rfl _ s rfl rfl _ _ hap ?_)
 go_wp2
 go_ret2
 exact⟨rfl,rfl⟩
end Go.Proofs
namespace Go.PL
open Go
theorem bytes_arr(x:ByteArray):(⟨x.data.toList.toArray⟩:ByteArray)=x:=by cases x; simp
theorem size0{x:ByteArray}(h:x.size=0):x=⟨#[]⟩:=by
 cases x with
 | mk d=>have:d=#[]:=Array.eq_empty_of_size_eq_zero h; rw[this]
theorem relw_none{g:Nat→Value}{w w':World}{F:Nat→Prop}{H:Hp}(hH:HpR F g w (fun _=>True) H)(hF:∀ b,F b→b<w.heap.size)
  (hos:w'.os=w.os)(htp:w'.tape=w.tape)(hout:w'.output=w.output)(hsz:w.heap.size≤w'.heap.size)(hb:∀ b,b<w.heap.size→¬ Own g w H b→w'.heap[b]? = w.heap[b]?):
  RelW { w0:=w,F0:=F,B0:=Own g w H,g0:=g,N:=[],nt:=0 } F g [] w':=by
 refine⟨⟨fun o x h=>by simp at h,fun o x b h=>by simp at h,fun o x o' y b h=>by simp at h⟩,fun b h=>h,fun b h=>⟨Nat.lt_of_lt_of_le (hF b h) hsz,.inl h⟩,⟨hos,htp,hout,hsz,hb⟩,fun o h=>by simp at h,?_⟩
 rintro b ⟨o,x,h1,h2⟩
 exact h2.block (hH.obj o x h1)
theorem con121(x:ByteArray):ConH Proofs.Tryz.prog 170 [.ptr 30000 0] [(30000,.bld 177 5 x)] [] (some x) (fun y=>.t (.str y)) (fun _=>[]):=by
 refine⟨callable_of Proofs.Tryz.func170 (by kernel_rfl),fun y hy=>?_⟩
 cases hy
 intro F g w vs hs hv hH hF hgl
 obtain⟨b,p,v,h1,h2,h3,h4⟩:=hH.obj 30000 _ (List.mem_singleton.2 rfl)
 have h0:0<vs.size:=by rw[hs]; decide
 have hv0:=hv 0 _ vs[0] rfl (by simp[h0])
 have hvs:vs=#[.pointer (some ⟨b,0,none⟩)]:=by
  have e0:vs[0] = .pointer (some ⟨b,0,none⟩):=by
   generalize vs[0]=u at hv0
   cases hv0 with
   | ptr hg=>rw[h1]at hg; injection hg with hg; injection hg with hg; injection hg with hg; subst hg; rfl
  apply Array.ext
  ·rw[hs]; rfl
  ·intro q hq _
   have:q=0:=by rw[hs]at hq; simp at hq; omega
   subst this
   simpa using e0
 subst hvs
 have post:∀ {w':World},w'.os=w.os→w'.tape=w.tape→w'.output=w.output→w.heap.size≤w'.heap.size→(∀ q,q<w.heap.size→¬ Own g w [(30000,.bld 177 5 x)] q→w'.heap[q]? = w.heap[q]?) →
   ∃ v r H' F' g',Ending.returned (.string x) = .returned v∧RetH (.t (.str x)) [] r H'∧VR F' g' w' r v∧RelW { w0:=w,F0:=F,B0:=Own g w [(30000,.bld 177 5 x)],g0:=g,N:=[],nt:=0 } F' g' H' w':=
  fun e1 e2 e3 e4 e5=>⟨_,_,_,F,g,rfl,⟨rfl,rfl⟩,.t (.str _),relw_none hH hF e1 e2 e3 e4 e5⟩
 rcases h4 with⟨rfl,hx0⟩ | ⟨r,cap,cur,rfl,k1,k2,k3,k4,k5,k6⟩
 ·have hx:x=⟨#[]⟩:=size0 hx0
  refine(Proofs.Tryz.String_nil b p w h2).mono ?_
  rintro e w' ⟨rfl,rfl⟩
  rw[←hx]
  exact post rfl rfl rfl (Nat.le_refl _) (fun _ _ _=>rfl)
 ·have hblt:b<w.heap.size:=(Array.getElem?_eq_some_iff.1 h2).1
  by_cases hx0:x.size=0
  ·have hx:x=⟨#[]⟩:=size0 hx0
   rw[hx0]at h2
   by_cases hc:cap=0
   ·subst hc
    refine(Proofs.Tryz.String_noroom b r p cur w hblt h2 k1).mono ?_
    rintro e w' ⟨rfl,rfl⟩
    rw[←hx]
    exact post rfl rfl rfl (by show w.heap.size≤(w.heap.push _).size; rw[Array.size_push]; exact Nat.le_succ _) (fun q hq _=>heap_alloc_old w.drew _ hq)
   ·refine(Proofs.Tryz.String_room b r cap p w hc h2).mono ?_
    rintro e w' ⟨rfl,rfl⟩
    rw[←hx]
    exact post rfl rfl rfl (Nat.le_refl _) (fun _ _ _=>rfl)
  ·have hl:x.data.toList.length=x.size:=by simp
   have hne:x.data.toList≠[]:=by
    intro h
    rw[h]at hl
    exact hx0 hl.symm
   have h2':=h2
   rw[←hl]at h2'
   refine(Proofs.Tryz.String_row b r cap p cur x.data.toList hne w h2' k1 (by omega) k4 (by omega) (fun q u hu=>?_)).mono ?_
   ·have hq:q<x.size:=by rw[←hl]; exact(List.getElem?_eq_some_iff.1 hu).1
    have:=congrArg (·[q]?) k6
    simp only[List.getElem?_take,if_pos hq,byteCs,List.getElem?_map,hu]at this
    simpa using this
   ·rintro e w' ⟨rfl,rfl⟩
    rw[bytes_arr]
    have hn:x.data.toList.length≠0:=by omega
    refine post ?_ ?_ ?_ ?_ (fun q hq ho=>?_)
    ·simp only[World.freeze,if_neg hn]; rfl
    ·simp only[World.freeze,if_neg hn]; rfl
    ·simp only[World.freeze,if_neg hn]; rfl
    ·simp only[World.freeze,if_neg hn]
     rw[Array.size_modify]
     exact Nat.le_refl _
    ·have hqr:q≠r:=fun e=>ho ⟨30000,_,List.mem_singleton.2 rfl,.bld h1 h2 (by rw[e]; rfl)⟩
     simp only[World.freeze,if_neg hn]
     rw[Array.getElem?_modify,if_neg (fun e=>hqr e.symm)]
     rfl
end Go.PL
namespace Go.PL
open Go Go.Lib
theorem heap_setCell(w:World)(b q:Nat)(u c0 c1:Value)(ty:Nat)(hb:w.heap[b]? = some (.cells #[c0,c1] ty (0,0)))(_hq:q<2):
  (w.setCell ⟨b,q,none⟩ u).heap[b]? = some (.cells (#[c0,c1].setIfInBounds q u) ty (0,0)):=by
 simp[World.setCell,Array.getElem?_modify,hb]
theorem heap_setCell_other(w:World)(b q k:Nat)(u:Value)(hk:k≠b):(w.setCell ⟨b,q,none⟩ u).heap[k]? = w.heap[k]?:=by
 simp[World.setCell,Array.getElem?_modify,Ne.symm hk]
theorem size_setCell(w:World)(b q:Nat)(u:Value):(w.setCell ⟨b,q,none⟩ u).heap.size=w.heap.size:=by
 simp[World.setCell]
def RowB(w:World)(v:Value)(s:ByteArray):Prop:=
 (v = .slice none 0 0∧s.size=0)∨∃ r cap cur,v = .slice (some ⟨r,0,none⟩) s.size cap∧w.heap[r]? = some (.cells cur 5 (0,0))∧s.size≤cap∧cap≤maxLen∧cur.size=cap∧cur.toList.take s.size=byteCs s
theorem byteCs_app(x s:ByteArray):byteCs (x++s)=byteCs x++byteCs s:=by
 simp[byteCs,ByteArray.data_append]
theorem byteCs_len(s:ByteArray):(byteCs s).length=s.size:=by simp[byteCs]
theorem append_row(x s:ByteArray)(w:World)(v:Value)(hr:RowB w v x)(hC:x.size+s.size≤140737488355328):
  ∃ ao n cap w2,(Builtin.append_ #[175,9] 175 #[v,.string s]).run Proofs.Tryz.prog w = .ok (.slice ao n cap) w2∧RowB w2 (.slice ao n cap) (x++s)∧(∀ k,k<w.heap.size→blk v≠some k→w2.heap[k]? = w.heap[k]?) ∧
   w.heap.size≤w2.heap.size∧w2.os=w.os∧w2.tape=w.tape∧w2.output=w.output∧(∀ k,blk (.slice ao n cap)=some k→blk v=some k∨w.heap.size≤k):=by
 have htx:Proofs.Tryz.prog.underlying 9=some .string:=Proofs.Tryz.underlying9
 have ht:Proofs.Tryz.prog.underlying 175=some (.slice 5):=Proofs.Tryz.underlying175
 have hi0:(Proofs.Tryz.prog.info? 5).map (fun i=>(i.zero,i.size,i.bytes))=some (some (.int .u8 0),1,1):=by kernel_rfl
 obtain⟨i,hi,hi1⟩:=Option.map_eq_some_iff.1 hi0
 injection hi1 with hz hi2
 injection hi2 with hs hb
 have hsz:(x++s).size=x.size+s.size:=ByteArray.size_append
 have hsc:strCells s=byteCs s:=rfl
 rcases hr with⟨rfl,hx0⟩ | ⟨r,cap,cur,rfl,h1,h2,h3,h4,h5⟩
 ·have hx:byteCs (x++s)=byteCs s:=by
   have h0:byteCs x=[]:=List.eq_nil_of_length_eq_zero (by rw[byteCs_len]; exact hx0)
   rw[byteCs_app,h0,List.nil_append]
  by_cases hs0:s.size=0
  ·refine⟨none,0,0,w,?_,.inl ⟨rfl,by omega⟩,fun _ _ _=>rfl,Nat.le_refl _,rfl,rfl,rfl,fun k h=>by simp[blk]at h⟩
   simp[Builtin.append_,run_underlying ht,run_underlying htx,sizeOf,typeInfo,hi,Builtin.lenOf,hs0,Builtin.firstCells]
  ·have hrun:=run_append_grow_string0 (P:=Proofs.Tryz.prog) w 175 9 175 5 i _ ht htx hi hz s (by omega) (by omega) (by rw[hb]; omega)
   refine⟨_,_,_,_,hrun,.inr ⟨_,_,_,by rw[hsz,hx0,Nat.zero_add]; rfl,heap_alloc_new w.drew _,?_,?_,?_,?_⟩,fun k hk _=>heap_alloc_old w.drew _ hk,?_,rfl,rfl,rfl,fun k h=>?_⟩
   ·rw[hsz,hx0,Nat.zero_add]; exact grownCap_ge w s.size 0 5
   ·exact grownCap_le_maxLen w s.size 0 5 (by simp only[maxLen]; omega)
   ·have:=grownCap_ge w s.size 0 5
    simp only[Array.size_append,List.size_toArray,strCells_length,size_zeroCells]
    simp[Value.cells]; omega
   ·rw[hx,hsz,hx0,Nat.zero_add]
    simp only[Array.toList_append]
    rw[List.take_append_of_le_length (by simp[strCells_length]),List.take_of_length_le (by simp[strCells_length])]
    simp[hsc]
   ·show w.heap.size≤(w.heap.push _).size; rw[Array.size_push]; exact Nat.le_succ _
   ·simp[blk]at h; right; omega
 ·have hrl:r<w.heap.size:=(Array.getElem?_eq_some_iff.1 h1).1
  by_cases hroom:x.size+s.size≤cap
  ·have hrun:=run_append_room_string (P:=Proofs.Tryz.prog) w 175 9 175 5 i ht htx hi hs r x.size cap cur h1 s hroom (by omega)
   refine⟨_,_,_,_,hrun,.inr ⟨r,cap,_,by rw[hsz],setRow_heap w r cur _ 5 _ h1,by omega,h3,?_,?_⟩,fun k hk hne=>setRow_other w r k _ (fun e=>hne (by rw[e]; rfl)),by simp,rfl,rfl,rfl,fun k h=>.inl h⟩
   ·simp only[List.size_toArray,List.length_append,List.length_take,List.length_drop,strCells_length,Array.length_toList]; omega
   ·rw[hsz,byteCs_app,hsc,h5]
    have hl1:(byteCs x++byteCs s).length=x.size+s.size:=by simp[byteCs_len]
    rw[List.take_append_of_le_length (by omega),List.take_of_length_le (by omega)]
  ·have hol:(cur.toList.take x.size).length=x.size*i.size:=by rw[hs]; simp only[List.length_take,Array.length_toList]; omega
   have hrun:=run_append_grow_string (P:=Proofs.Tryz.prog) w 175 9 175 5 i _ ht htx hi hz ⟨r,0,none⟩ x.size cap (cur.toList.take x.size) hol (fun k u hu=>by
    rw[Addr.add_none,Nat.zero_add]
    rw[List.getElem?_take]at hu
    split at hu
    ·simpa[World.cell?,h1] using hu
    ·cases hu) s (by omega) (by omega) (growslice_fits (by omega) (by rw[hb]; omega))
   refine⟨_,_,_,_,hrun,.inr ⟨_,_,_,by rw[hsz]; rfl,heap_alloc_new w.drew _,?_,?_,?_,?_⟩,fun k hk _=>heap_alloc_old w.drew _ hk,?_,rfl,rfl,rfl,fun k h=>?_⟩
   ·rw[hsz]; exact grownCap_ge w (x.size+s.size) cap 5
   ·exact grownCap_le_maxLen w (x.size+s.size) cap 5 (by simp only[maxLen]; omega)
   ·have:=grownCap_ge w (x.size+s.size) cap 5
    rw[hs,Nat.mul_one]at hol
    simp only[Array.size_append,List.size_toArray,hol,strCells_length,size_zeroCells]
    simp[Value.cells]; omega
   ·rw[hsz,byteCs_app,hsc,h5]
    have hl1:(byteCs x++byteCs s).length=x.size+s.size:=by simp[byteCs_len]
    simp only[Array.toList_append]
    rw[List.take_append_of_le_length (by simp[byteCs_len]),List.take_of_length_le (by simp[byteCs_len])]
   ·show w.heap.size≤(w.heap.push _).size; rw[Array.size_push]; exact Nat.le_succ _
   ·simp[blk]at h; right; omega
theorem con118(x s:ByteArray):ConH Proofs.Tryz.prog 167 [.ptr 30000 0,.t (.str s)] [(30000,.bld 177 5 x)] [30000] (if x.size+s.size≤140737488355328 then some () else none)
  (fun _:Unit=>.tup [.t (.int .i64 s.size),.lit .nilIface]) (fun _=>[(30000,.bld 177 5 (x++s))]):=by
 refine⟨callable_of Proofs.Tryz.func167 (by kernel_rfl),fun y hy=>?_⟩
 split at hy
 case isFalse=>cases hy
 rename_i hC
 intro F g w vs hs hv hH hF hgl
 have hmem:(30000,PObj.bld 177 5 x)∈([(30000,.bld 177 5 x)]:Hp):=List.mem_singleton.2 rfl
 obtain⟨b,p,v,h1,h2,h3,h4⟩:=hH.obj 30000 _ hmem
 have hs2:vs.size=2:=hs
 have hv0:=hv 0 _ (vs[0]'(by omega)) rfl (by simp[hs2])
 have hv1:=hv 1 _ (vs[1]'(by omega)) rfl (by simp[hs2])
 have hvs:vs=#[.pointer (some ⟨b,0,none⟩),.string s]:=by
  have e0:vs[0]'(by omega) = .pointer (some ⟨b,0,none⟩):=by
   generalize vs[0]'(by omega)=u at hv0
   cases hv0 with
   | ptr hg=>rw[h1]at hg; injection hg with hg; injection hg with hg; injection hg with hg; subst hg; rfl
  have e1:vs[1]'(by omega) = .string s:=hv1.inv_str
  apply Array.ext
  ·rw[hs2]; rfl
  ·intro q hq _
   match q,hq with
   | 0,_=>simpa using e0
   | 1,_=>simpa using e1
   | q+2,hq=>omega
 subst hvs
 have hblt:b<w.heap.size:=(Array.getElem?_eq_some_iff.1 h2).1
 have rowb:RowB w v x:=by
  rcases h4 with h4 | ⟨r,cap,cur,k1,k2,k3,k4⟩
  ·exact .inl h4
  ·exact .inr ⟨r,cap,cur,k1,k2,k4⟩
 have hvb:blk v≠some b:=by
  rcases h4 with⟨rfl,_⟩ | ⟨r,cap,cur,rfl,k2,k3,k4⟩
  ·simp[blk]
  ·simp[blk]; exact k3
 obtain⟨w1,c1,c2,c3,c4,c5,c6,c7⟩:∃ w1,(Calls Proofs.Tryz.prog 222 #[.pointer (some ⟨b,0,none⟩)] w fun e w'=>e = .returned (.tuple #[])∧w'=w1)∧w1.heap[b]? = some (.cells #[.pointer (some ⟨b,0,none⟩),v] 177 (0,0)) ∧
   (∀ k,k≠b→w1.heap[k]? = w.heap[k]?)∧w1.heap.size=w.heap.size∧w1.os=w.os∧w1.tape=w.tape∧w1.output=w.output:=by
  rcases h3 with rfl | rfl
  ·refine⟨_,Proofs.Tryz.copyCheck_fresh b w (by rw[Lib.cell_of_heap h2]; rfl) (by simp[World.shape?,h2]) (Lib.frozen_of_heap h2 0),?_,fun k hk=>heap_setCell_other w b 0 k _ hk,size_setCell ..,rfl,rfl,rfl⟩
   rw[heap_setCell w b 0 _ _ _ _ h2 (by decide)]
   rfl
  ·exact⟨w,Proofs.Tryz.copyCheck_used b w (by rw[Lib.cell_of_heap h2]; rfl),h2,fun _ _=>rfl,rfl,rfl,rfl,rfl⟩
 have rowb1:RowB w1 v x:=by
  rcases rowb with h | ⟨r,cap,cur,k1,k2,k3⟩
  ·exact .inl h
  ·refine .inr ⟨r,cap,cur,k1,?_,k3⟩
   rw[c3 r (fun e=>hvb (by rw[k1,e]; rfl))]; exact k2
 obtain⟨ao,n',cap',w2,d1,d2,d3,d4,d5,d6,d7,d8⟩:=append_row x s w1 v rowb1 hC
 have hb2:w2.heap[b]? = some (.cells #[.pointer (some ⟨b,0,none⟩),v] 177 (0,0)):=by rw[d3 b (by omega) hvb]; exact c2
 have hv'b:blk (.slice ao n' cap')≠some b:=fun e=>by
  rcases d8 b e with h | h
  ·exact hvb h
  ·omega
 refine(Proofs.Tryz.WriteString_ex b v ao n' cap' s w w1 w2 c1 c2 d1 hb2).mono ?_
 rintro e w' ⟨rfl,rfl⟩
 have hold:∀ k,k<w.heap.size→k≠b→blk v≠some k→(w2.setCell ⟨b,1,none⟩ (.slice ao n' cap')).heap[k]? = w.heap[k]?:=fun k hk hkb hkv=>by
  rw[heap_setCell_other w2 b 1 k _ hkb,d3 k (by omega) hkv,c3 k hkb]
 have hbld:BldV (w2.setCell ⟨b,1,none⟩ (.slice ao n' cap')) (g 30000) 177 5 (x++s):=by
  refine⟨b,.pointer (some ⟨b,0,none⟩),.slice ao n' cap',h1,?_,.inr rfl,?_⟩
  ·rw[heap_setCell w2 b 1 _ _ _ _ hb2 (by decide)]; rfl
  ·rcases d2 with h | ⟨r,cap,cur,k1,k2,k3⟩
   ·exact .inl h
   ·have hrb:r≠b:=fun e=>hv'b (by rw[k1,e]; rfl)
    exact .inr ⟨r,cap,cur,k1,by rw[heap_setCell_other w2 b 1 r _ hrb]; exact k2,hrb,k3⟩
 have hfoot:∀ q,Foot g (w2.setCell ⟨b,1,none⟩ (.slice ao n' cap')) 30000 (.bld 177 5 (x++s)) q→q=b∨blk (.slice ao n' cap')=some q:=by
  intro q hq
  cases hq with
  | self h=>rw[h1]at h; simp[blk]at h; exact .inl h.symm
  | bld k1 k2 k3=>
   rw[h1]at k1; injection k1 with k1; injection k1 with k1; injection k1 with k1; subst k1
   rw[heap_setCell w2 b 1 _ _ _ _ hb2 (by decide)]at k2
   injection k2 with k2; injection k2 with k2; injection k2 with k2; injection k2 with k2 k4; injection k4 with k4
   subst k4
   exact .inr k3
 have hown:∀ q,blk v=some q→Foot g w 30000 (.bld 177 5 x) q:=fun q hq=>.bld h1 h2 hq
 have hself:Foot g w 30000 (.bld 177 5 x) b:=.self (by rw[h1]; rfl)
 refine⟨_,_,_,F,g,rfl,⟨rfl,rfl⟩,.tup rfl fun j q u hq hu=>?_,⟨⟨fun o q hq=>?_,fun o q c hq hc=>?_,fun o q o' q' c hq hq' hne=>?_⟩,fun b h=>h,fun c hc=>⟨?_,.inl hc⟩,⟨?_,?_,?_,?_,fun c hc hn=>?_⟩,fun _ _=>rfl,?_⟩⟩
 ·match j,hq,hu with
  | 0,hq,hu=>simp at hq hu; subst hq; subst hu; exact .t (.int _ _)
  | 1,hq,hu=>simp at hq hu; subst hq; subst hu; exact .lit rfl
  | j+2,hq,_=>simp at hq
 ·cases List.mem_singleton.1 hq; exact hbld
 ·cases List.mem_singleton.1 hq
  rcases hfoot c hc with rfl | h
  ·exact⟨(hH.own _ _ _ hmem hself).1,.inl ⟨_,_,hmem,hself⟩⟩
  ·rcases d8 c h with h | h
   ·exact⟨(hH.own _ _ _ hmem (hown c h)).1,.inl ⟨_,_,hmem,hown c h⟩⟩
   ·exact⟨fun hf=>by have:=hF c hf; omega,.inr (by simpa[c4] using h)⟩
 ·cases List.mem_singleton.1 hq; cases List.mem_singleton.1 hq'; exact absurd rfl hne
 ·rw[size_setCell]; have:=hF c hc; omega
 ·show w2.os=w.os; rw[d5,c5]
 ·show w2.tape=w.tape; rw[d6,c6]
 ·show w2.output=w.output; rw[d7,c7]
 ·rw[size_setCell]; show w.heap.size≤_; omega
 ·exact hold c hc (fun e=>hn ⟨_,_,hmem,e▸hself⟩) (fun e=>hn ⟨_,_,hmem,hown c e⟩)
 ·rintro c ⟨o,q,k1,k2⟩
  exact k2.block (hH.obj o q k1)
end Go.PL
namespace Go.Proofs
open Go.Shelf
def Tryz.lays106_ren:Go.Shelf.Ren:=⟨fun | 106=>240 | 213=>280 | 265=>301 | n=>n,fun | 9=>9 | 3=>3 | n=>n,fun | n=>n⟩
theorem Tryz.lays106:Go.Proofs.Lays.n106 Tryz.prog Tryz.lays106_ren:={
 mixed:=by kernel_rfl
 f106:=Tryz.func240.trans (congrArg some (by kernel_rfl))
 f213:=Tryz.func280.trans (congrArg some (by kernel_rfl))
 f265:=Tryz.func301.trans (congrArg some (by kernel_rfl))
 t3:=Tryz.underlying3
 a3:=Tryz.isAgg3
 z3:=Tryz.sizeOf3
 v3:=Tryz.zeroValue3
 t9:=Tryz.underlying9
 a9:=Tryz.isAgg9
 z9:=Tryz.sizeOf9
 v9:=Tryz.zeroValue9 }
open Go.RowKit in
theorem Tryz.strings_Compare(a b:ByteArray)(w:World):
  Calls Tryz.prog 240 #[.string a,.string b] w fun e w'=>e = .returned (.int .i64 (Lib.compareBytes a.data.toList b.data.toList))∧w'=w:=Any.strings_Compare Tryz.lays106 a b w
def Tryz.lays137_ren:Go.Shelf.Ren:=⟨fun | 137=>257 | 217=>287 | 266=>313 | n=>n,fun | 9=>9 | 5=>5 | 3=>3 | n=>n,fun | n=>n⟩
theorem Tryz.lays137:Go.Proofs.Lays.n137 Tryz.prog Tryz.lays137_ren:={
 mixed:=by kernel_rfl
 f137:=Tryz.func257.trans (congrArg some (by kernel_rfl))
 f217:=Tryz.func287.trans (congrArg some (by kernel_rfl))
 f266:=Tryz.func313.trans (congrArg some (by kernel_rfl))
 t3:=Tryz.underlying3
 a3:=Tryz.isAgg3
 z3:=Tryz.sizeOf3
 v3:=Tryz.zeroValue3
 t5:=Tryz.underlying5
 a5:=Tryz.isAgg5
 z5:=Tryz.sizeOf5
 v5:=Tryz.zeroValue5
 t9:=Tryz.underlying9
 a9:=Tryz.isAgg9
 z9:=Tryz.sizeOf9
 v9:=Tryz.zeroValue9 }
open Go.RowKit in
theorem Tryz.strings_IndexByte(s:ByteArray)(c:Int)(w:World):
  Calls Tryz.prog 257 #[.string s,.int .u8 c] w fun e w'=>e = .returned (.int .i64 (Lib.indexByte s.data.toList c.toNat.toUInt8))∧w'=w:=Any.strings_IndexByte Tryz.lays137 s c w
def Tryz.laysM171_ren:Go.Shelf.Ren:=⟨fun | 171=>166 | 243=>221 | 246=>275 | 283=>295 | 284=>296 | 285=>297 | 286=>298 | 129=>312 | 317=>321 | 318=>322 | 319=>323 | 320=>324 | 337=>344 | 338=>345 | n=>n,fun | 3=>3 | 9=>9 | 2=>2 | 4=>4 | 171=>288 | 0=>0 | 53=>269 | 37=>175 | 5=>5 | 173=>291 | 212=>311 | 51=>266 | 20=>20 | 213=>312 | 46=>232 | 232=>338 | 233=>339 | n=>n,fun | 17=>1 | 18=>4 | 19=>5 | n=>n⟩
theorem Tryz.laysM171:Go.Proofs.LaysM.n171 Tryz.prog Tryz.laysM171_ren:={
 mixed:=by kernel_rfl
 f129:=Tryz.func312.trans (congrArg some (by kernel_rfl))
 f171:=Tryz.func166.trans (congrArg some (by kernel_rfl))
 f243:=Tryz.func221.trans (congrArg some (by kernel_rfl))
 f246:=Tryz.func275.trans (congrArg some (by kernel_rfl))
 f283:=Tryz.func295.trans (congrArg some (by kernel_rfl))
 f284:=Tryz.func296.trans (congrArg some (by kernel_rfl))
 f285:=Tryz.func297.trans (congrArg some (by kernel_rfl))
 f286:=Tryz.func298.trans (congrArg some (by kernel_rfl))
 f317:=Tryz.func321.trans (congrArg some (by kernel_rfl))
 f318:=Tryz.func322.trans (congrArg some (by kernel_rfl))
 f319:=Tryz.func323.trans (congrArg some (by kernel_rfl))
 f320:=Tryz.func324.trans (congrArg some (by kernel_rfl))
 f337:=Tryz.func344.trans (congrArg some (by kernel_rfl))
 f338:=Tryz.func345.trans (congrArg some (by kernel_rfl))
 t0:=Tryz.underlying0
 a0:=Tryz.isAgg0
 z0:=Tryz.sizeOf0
 v0:=Tryz.zeroValue0
 t2:=Tryz.underlying2
 a2:=Tryz.isAgg2
 z2:=Tryz.sizeOf2
 v2:=Tryz.zeroValue2
 t3:=Tryz.underlying3
 a3:=Tryz.isAgg3
 z3:=Tryz.sizeOf3
 v3:=Tryz.zeroValue3
 t4:=Tryz.underlying4
 a4:=Tryz.isAgg4
 z4:=Tryz.sizeOf4
 v4:=Tryz.zeroValue4
 t5:=Tryz.underlying5
 a5:=Tryz.isAgg5
 z5:=Tryz.sizeOf5
 v5:=Tryz.zeroValue5
 t9:=Tryz.underlying9
 a9:=Tryz.isAgg9
 z9:=Tryz.sizeOf9
 v9:=Tryz.zeroValue9
 t20:=Tryz.underlying20
 a20:=Tryz.isAgg20
 z20:=Tryz.sizeOf20
 v20:=Tryz.zeroValue20
 t37:=Tryz.underlying175
 a37:=Tryz.isAgg175
 z37:=Tryz.sizeOf175
 v37:=Tryz.zeroValue175
 t46:=Tryz.underlying232
 a46:=Tryz.isAgg232
 z46:=Tryz.sizeOf232
 v46:=Tryz.zeroValue232
 t51:=Tryz.underlying266
 a51:=Tryz.isAgg266
 z51:=Tryz.sizeOf266
 v51:=Tryz.zeroValue266
 t53:=Tryz.underlying269
 a53:=Tryz.isAgg269
 z53:=Tryz.sizeOf269
 v53:=Tryz.zeroValue269
 t171:=Tryz.underlying288
 a171:=Tryz.isAgg288
 z171:=Tryz.sizeOf288
 v171:=Tryz.zeroValue288
 t173:=Tryz.underlying291
 a173:=Tryz.isAgg291
 z173:=Tryz.sizeOf291
 v173:=Tryz.zeroValue291
 t212:=Tryz.underlying311
 a212:=Tryz.isAgg311
 z212:=Tryz.sizeOf311
 v212:=Tryz.zeroValue311
 t213:=Tryz.underlying312
 a213:=Tryz.isAgg312
 z213:=Tryz.sizeOf312
 t232:=Tryz.underlying338
 a232:=Tryz.isAgg338
 z232:=Tryz.sizeOf338
 v232:=Tryz.zeroValue338
 t233:=Tryz.underlying339
 a233:=Tryz.isAgg339
 z233:=Tryz.sizeOf339
 v233:=Tryz.zeroValue339
 g17:=by kernel_rfl
 g18:=by kernel_rfl
 g19:=by kernel_rfl
 i0:=by kernel_rfl
 i2:=by kernel_rfl
 i3:=by kernel_rfl
 i4:=by kernel_rfl
 i5:=by kernel_rfl
 i9:=by kernel_rfl
 i20:=by kernel_rfl
 i37:=by kernel_rfl
 i46:=by kernel_rfl
 i51:=by kernel_rfl
 i53:=by kernel_rfl
 i171:=by kernel_rfl
 i173:=by kernel_rfl
 i212:=by kernel_rfl
 i232:=by kernel_rfl
 i233:=by kernel_rfl
 m17:=by kernel_rfl
 m18:=by kernel_rfl
 m19:=by kernel_rfl }
open Go.RowKit Go.Sort Go.Lib in
theorem Tryz.strconv_Itoa(n:Int)(h0:-9223372036854775808≤n)(h1:n≤9223372036854775807)(w:World)(htab:Lib.TabIs Tryz.prog w "internal/strconv.uint64pow10" .u64 Lib.pow10Tab):
  Calls Tryz.prog 166 #[.int .i64 n] w fun e w'=>e = .returned (.string ⟨(Lib.itoa n).toArray⟩)∧∃ k os,w'=grow (w.drewN k) os:=Any.strconv_Itoa Tryz.laysM171 n h0 h1 w htab
def Tryz.laysC172_ren:Go.Shelf.Ren:=⟨fun | 172=>259 | 244=>288 | 245=>289 | 247=>314 | 279=>315 | 280=>316 | 281=>317 | 282=>318 | 287=>340 | 316=>341 | 171=>166 | 205=>342 | 321=>350 | 322=>351 | 243=>221 | 246=>275 | 283=>295 | 284=>296 | 285=>297 | 286=>298 | 129=>312 | 317=>321 | 318=>322 | 319=>323 | 320=>324 | 337=>344 | 338=>345 | n=>n,fun | 9=>9 | 3=>3 | 75=>179 | 76=>180 | 4=>4 | 5=>5 | 167=>304 | 37=>175 | 0=>0 | 85=>305 | 2=>2 | 168=>307 | 53=>269 | 175=>325 | 46=>232 | 210=>328 | 127=>235 | 145=>337 | 143=>335 | 21=>21 | 171=>288 | 173=>291 | 212=>311 | 51=>266 | 20=>20 | 213=>312 | 232=>338 | 233=>339 | 80=>54 | n=>n,fun | 15=>2 | 16=>3 | 17=>1 | 18=>4 | 19=>5 | n=>n⟩
theorem Tryz.laysC172:Go.Proofs.LaysC.n172 Tryz.prog Tryz.laysC172_ren:={
 mixed:=by kernel_rfl
 f129:=Tryz.func312.trans (congrArg some (by kernel_rfl))
 f171:=Tryz.func166.trans (congrArg some (by kernel_rfl))
 f172:=Tryz.func259.trans (congrArg some (by kernel_rfl))
 f205:=Tryz.func342.trans (congrArg some (by kernel_rfl))
 f243:=Tryz.func221.trans (congrArg some (by kernel_rfl))
 f244:=Tryz.func288.trans (congrArg some (by kernel_rfl))
 f245:=Tryz.func289.trans (congrArg some (by kernel_rfl))
 f246:=Tryz.func275.trans (congrArg some (by kernel_rfl))
 f247:=Tryz.func314.trans (congrArg some (by kernel_rfl))
 f279:=Tryz.func315.trans (congrArg some (by kernel_rfl))
 f280:=Tryz.func316.trans (congrArg some (by kernel_rfl))
 f281:=Tryz.func317.trans (congrArg some (by kernel_rfl))
 f282:=Tryz.func318.trans (congrArg some (by kernel_rfl))
 f283:=Tryz.func295.trans (congrArg some (by kernel_rfl))
 f284:=Tryz.func296.trans (congrArg some (by kernel_rfl))
 f285:=Tryz.func297.trans (congrArg some (by kernel_rfl))
 f286:=Tryz.func298.trans (congrArg some (by kernel_rfl))
 f287:=Tryz.func340.trans (congrArg some (by kernel_rfl))
 f316:=Tryz.func341.trans (congrArg some (by kernel_rfl))
 f317:=Tryz.func321.trans (congrArg some (by kernel_rfl))
 f318:=Tryz.func322.trans (congrArg some (by kernel_rfl))
 f319:=Tryz.func323.trans (congrArg some (by kernel_rfl))
 f320:=Tryz.func324.trans (congrArg some (by kernel_rfl))
 f321:=Tryz.func350.trans (congrArg some (by kernel_rfl))
 f322:=Tryz.func351.trans (congrArg some (by kernel_rfl))
 f337:=Tryz.func344.trans (congrArg some (by kernel_rfl))
 f338:=Tryz.func345.trans (congrArg some (by kernel_rfl))
 t0:=Tryz.underlying0
 a0:=Tryz.isAgg0
 z0:=Tryz.sizeOf0
 v0:=Tryz.zeroValue0
 t2:=Tryz.underlying2
 a2:=Tryz.isAgg2
 z2:=Tryz.sizeOf2
 v2:=Tryz.zeroValue2
 t3:=Tryz.underlying3
 a3:=Tryz.isAgg3
 z3:=Tryz.sizeOf3
 v3:=Tryz.zeroValue3
 t4:=Tryz.underlying4
 a4:=Tryz.isAgg4
 z4:=Tryz.sizeOf4
 v4:=Tryz.zeroValue4
 t5:=Tryz.underlying5
 a5:=Tryz.isAgg5
 z5:=Tryz.sizeOf5
 v5:=Tryz.zeroValue5
 t9:=Tryz.underlying9
 a9:=Tryz.isAgg9
 z9:=Tryz.sizeOf9
 v9:=Tryz.zeroValue9
 t20:=Tryz.underlying20
 a20:=Tryz.isAgg20
 z20:=Tryz.sizeOf20
 v20:=Tryz.zeroValue20
 t21:=Tryz.underlying21
 a21:=Tryz.isAgg21
 z21:=Tryz.sizeOf21
 v21:=Tryz.zeroValue21
 t37:=Tryz.underlying175
 a37:=Tryz.isAgg175
 z37:=Tryz.sizeOf175
 v37:=Tryz.zeroValue175
 t46:=Tryz.underlying232
 a46:=Tryz.isAgg232
 z46:=Tryz.sizeOf232
 v46:=Tryz.zeroValue232
 t51:=Tryz.underlying266
 a51:=Tryz.isAgg266
 z51:=Tryz.sizeOf266
 v51:=Tryz.zeroValue266
 t53:=Tryz.underlying269
 a53:=Tryz.isAgg269
 z53:=Tryz.sizeOf269
 v53:=Tryz.zeroValue269
 t75:=Tryz.underlying179
 a75:=Tryz.isAgg179
 z75:=Tryz.sizeOf179
 v75:=Tryz.zeroValue179
 t76:=Tryz.underlying180
 a76:=Tryz.isAgg180
 z76:=Tryz.sizeOf180
 v76:=Tryz.zeroValue180
 t85:=Tryz.underlying305
 a85:=Tryz.isAgg305
 z85:=Tryz.sizeOf305
 v85:=Tryz.zeroValue305
 t127:=Tryz.underlying235
 a127:=Tryz.isAgg235
 z127:=Tryz.sizeOf235
 v127:=Tryz.zeroValue235
 t143:=Tryz.underlying335
 a143:=Tryz.isAgg335
 z143:=Tryz.sizeOf335
 v143:=Tryz.zeroValue335
 t145:=Tryz.underlying337
 a145:=Tryz.isAgg337
 z145:=Tryz.sizeOf337
 v145:=Tryz.zeroValue337
 t167:=Tryz.underlying304
 a167:=Tryz.isAgg304
 z167:=Tryz.sizeOf304
 v167:=Tryz.zeroValue304
 t168:=Tryz.underlying307
 a168:=Tryz.isAgg307
 z168:=Tryz.sizeOf307
 v168:=Tryz.zeroValue307
 t171:=Tryz.underlying288
 a171:=Tryz.isAgg288
 z171:=Tryz.sizeOf288
 v171:=Tryz.zeroValue288
 t173:=Tryz.underlying291
 a173:=Tryz.isAgg291
 z173:=Tryz.sizeOf291
 v173:=Tryz.zeroValue291
 t175:=Tryz.underlying325
 a175:=Tryz.isAgg325
 z175:=Tryz.sizeOf325
 v175:=Tryz.zeroValue325
 t210:=Tryz.underlying328
 a210:=Tryz.isAgg328
 z210:=Tryz.sizeOf328
 v210:=Tryz.zeroValue328
 t212:=Tryz.underlying311
 a212:=Tryz.isAgg311
 z212:=Tryz.sizeOf311
 v212:=Tryz.zeroValue311
 t213:=Tryz.underlying312
 a213:=Tryz.isAgg312
 z213:=Tryz.sizeOf312
 t232:=Tryz.underlying338
 a232:=Tryz.isAgg338
 z232:=Tryz.sizeOf338
 v232:=Tryz.zeroValue338
 t233:=Tryz.underlying339
 a233:=Tryz.isAgg339
 z233:=Tryz.sizeOf339
 v233:=Tryz.zeroValue339
 g15:=by kernel_rfl
 g16:=by kernel_rfl
 g17:=by kernel_rfl
 g18:=by kernel_rfl
 g19:=by kernel_rfl
 t80:=Tryz.underlying54
 a80:=Tryz.isAgg54
 z80:=Tryz.sizeOf54
 v80:=Tryz.zeroValue54
 i0:=by kernel_rfl
 i2:=by kernel_rfl
 i3:=by kernel_rfl
 i4:=by kernel_rfl
 i5:=by kernel_rfl
 i9:=by kernel_rfl
 i20:=by kernel_rfl
 i21:=by kernel_rfl
 i37:=by kernel_rfl
 i46:=by kernel_rfl
 i51:=by kernel_rfl
 i53:=by kernel_rfl
 i75:=by kernel_rfl
 i76:=by kernel_rfl
 i80:=by kernel_rfl
 i85:=by kernel_rfl
 i127:=by kernel_rfl
 i143:=by kernel_rfl
 i145:=by kernel_rfl
 i167:=by kernel_rfl
 i168:=by kernel_rfl
 i171:=by kernel_rfl
 i173:=by kernel_rfl
 i175:=by kernel_rfl
 i210:=by kernel_rfl
 i212:=by kernel_rfl
 i232:=by kernel_rfl
 i233:=by kernel_rfl
 m15:=by kernel_rfl
 m16:=by kernel_rfl
 m17:=by kernel_rfl
 m18:=by kernel_rfl
 m19:=by kernel_rfl
 c0:=by kernel_rfl
 c2:=by kernel_rfl
 c3:=by kernel_rfl
 c4:=by kernel_rfl
 c5:=by kernel_rfl
 c9:=by kernel_rfl
 c20:=by kernel_rfl
 c21:=by kernel_rfl
 c37:=by kernel_rfl
 c46:=by kernel_rfl
 c51:=by kernel_rfl
 c53:=by kernel_rfl
 c75:=by kernel_rfl
 c76:=by kernel_rfl
 c80:=by kernel_rfl
 c85:=by kernel_rfl
 c127:=by kernel_rfl
 c143:=by kernel_rfl
 c145:=by kernel_rfl
 c167:=by kernel_rfl
 c168:=by kernel_rfl
 c171:=by kernel_rfl
 c173:=by kernel_rfl
 c175:=by kernel_rfl
 c210:=by kernel_rfl
 c212:=by kernel_rfl
 c213:=by kernel_rfl
 c232:=by kernel_rfl
 c233:=by kernel_rfl }
open Go.RowKit in
theorem Tryz.strconv_Atoi_ok(s:ByteArray)(hmax:s.size≤9223372036854775806)(v:Int)(h:Lib.atoiAll s.data.toList = .ok v)(w:World):
  Calls Tryz.prog 259 #[.string s] w fun e w'=>e = .returned (.tuple #[.int .i64 v,.nilIface])∧(w'=w∨∃ t,w'=Lib.bytesWorld w 5 t):=Any.strconv_Atoi_ok Tryz.laysC172 s hmax v h w
def Tryz.lays212_ren:Go.Shelf.Ren:=⟨fun | 212=>220 | 263=>273 | 264=>274 | n=>n,fun | 46=>232 | 51=>266 | 146=>267 | 53=>269 | 148=>270 | n=>n,fun | n=>n⟩
theorem Tryz.lays212:Go.Proofs.Lays.n212 Tryz.prog Tryz.lays212_ren:={
 mixed:=by kernel_rfl
 f212:=Tryz.func220.trans (congrArg some (by kernel_rfl))
 f263:=Tryz.func273.trans (congrArg some (by kernel_rfl))
 f264:=Tryz.func274.trans (congrArg some (by kernel_rfl))
 t46:=Tryz.underlying232
 a46:=Tryz.isAgg232
 z46:=Tryz.sizeOf232
 v46:=Tryz.zeroValue232
 t51:=Tryz.underlying266
 a51:=Tryz.isAgg266
 z51:=Tryz.sizeOf266
 v51:=Tryz.zeroValue266
 t53:=Tryz.underlying269
 a53:=Tryz.isAgg269
 z53:=Tryz.sizeOf269
 v53:=Tryz.zeroValue269
 t146:=Tryz.underlying267
 a146:=Tryz.isAgg267
 z146:=Tryz.sizeOf267
 v146:=Tryz.zeroValue267
 t148:=Tryz.underlying270
 a148:=Tryz.isAgg270
 z148:=Tryz.sizeOf270
 v148:=Tryz.zeroValue270 }
open Go.RowKit Go.Lib in
theorem Tryz.bits_Mul(x y:Nat)(hx:x<18446744073709551616)(hy:y<18446744073709551616)(w:World):
  Calls Tryz.prog 220 #[.int .u64 x,.int .u64 y] w fun e w'=>e = .returned (.tuple #[.int .u64 ((x*y / 18446744073709551616:Nat):Int),.int .u64 ((x*y % 18446744073709551616:Nat):Int)])∧w'=w:=Any.bits_Mul Tryz.lays212 x y hx hy w
end Go.Proofs
namespace Go.PL
open Go
theorem hv1{F:Nat→Prop}{g:Nat→Value}{w:World}{vs:Array Value}{p:PV}{u:Value}(hs:vs.size=[p].length)(hv:∀ (j:Nat) x v,[p][j]? = some x→vs[j]? = some v→VR F g w x v)(hu:∀ v,VR F g w p v→v=u):vs=#[u]:=by
 have h1:vs.size=1:=hs
 have e0:=hu _ (hv 0 _ (vs[0]'(by omega)) rfl (by simp[h1]))
 apply Array.ext
 ·rw[h1]; rfl
 ·intro q hq _
  have:q=0:=by omega
  subst this
  simpa using e0
theorem hv2{F:Nat→Prop}{g:Nat→Value}{w:World}{vs:Array Value}{p p':PV}{u u':Value}(hs:vs.size=[p,p'].length)(hv:∀ (j:Nat) x v,[p,p'][j]? = some x→vs[j]? = some v→VR F g w x v)(hu:∀ v,VR F g w p v→v=u)
  (hu':∀ v,VR F g w p' v→v=u'):vs=#[u,u']:=by
 have h1:vs.size=2:=hs
 have e0:=hu _ (hv 0 _ (vs[0]'(by omega)) rfl (by simp[h1]))
 have e1:=hu' _ (hv 1 _ (vs[1]'(by omega)) rfl (by simp[h1]))
 apply Array.ext
 ·rw[h1]; rfl
 ·intro q hq _
  match q,hq with
  | 0,_=>simpa using e0
  | 1,_=>simpa using e1
  | q+2,hq=>omega
def G194(a0 a1:ByteArray):Option Int:=some (Lib.compareBytes a0.data.toList a1.data.toList)
theorem G194_ok(a0 a1:ByteArray):Con Proofs.Tryz.prog 240 [.t (.str a0),.t (.str a1)] (G194 a0 a1) (fun (y:Int)=>.t (.int .i64 y)):=by
 refine⟨callable_of Proofs.Tryz.func240 (by kernel_rfl),fun y hy=>?_⟩
 cases hy
 intro F g w vs hs hv hH hF hgl
 have hvs:=hv2 hs hv (u:=.string a0) (u':=.string a1) (fun v h=>h.inv_str) (fun v h=>h.inv_str)
 subst hvs
 refine(Proofs.Tryz.strings_Compare a0 a1 w).mono ?_
 rintro e w' ⟨rfl,rfl⟩
 exact⟨_,_,[],F,g,rfl,rfl,.t (.int _ _),relw_none hH hF rfl rfl rfl (Nat.le_refl _) (fun _ _ _=>rfl)⟩
def G117(a0:Int):Option ByteArray:=if -9223372036854775808≤a0∧a0≤9223372036854775807 then some ⟨(Lib.itoa a0).toArray⟩ else none
theorem G117_ok(a0:Int):Con Proofs.Tryz.prog 166 [.t (.int .i64 a0)] (G117 a0) (fun (y:ByteArray)=>.t (.str y)):=by
 refine⟨callable_of Proofs.Tryz.func166 (by kernel_rfl),fun y hy=>?_⟩
 unfold G117 at hy
 split at hy
 case isFalse=>cases hy
 rename_i hr
 cases hy
 intro F g w vs hs hv hH hF hgl
 have hvs:=hv1 hs hv (u:=.int .i64 a0) (fun v h=>h.inv_int)
 subst hvs
 have hname:∃ b,Proofs.Tryz.prog.globalNamed glName=some b:=Option.isSome_iff_exists.1 (by kernel_rfl)
 obtain⟨b,hb⟩:=hname
 refine(Proofs.Tryz.strconv_Itoa a0 hr.1 hr.2 w (hgl b hb).1).mono ?_
 rintro e w' ⟨rfl,k,os,rfl⟩
 refine⟨_,_,[],F,g,rfl,rfl,.t (.str _),relw_none hH hF rfl rfl rfl ?_ (fun q hq _=>?_)⟩
 ·show w.heap.size≤(w.heap++os).size
  rw[Array.size_append]; exact Nat.le_add_right _ _
 ·show (w.heap++os)[q]? = w.heap[q]?
  exact Array.getElem?_append_left hq
end Go.PL
namespace Go.Proofs
open Go.Shelf Go.RowKit
def repL(v:Int)(n k:Nat):List Value:=List.replicate k (Value.int .i64 v)++List.replicate (n-k) (Value.int .i64 0)
def repRow(v:Int)(n k:Nat):Array Value:=(repL v n k).toArray
theorem repL_len(v:Int){n k:Nat}(h:k≤n):(repL v n k).length=n:=by
 rw[repL,List.length_append,List.length_replicate,List.length_replicate]; omega
theorem repRow_size(v:Int){n k:Nat}(h:k≤n):(repRow v n k).size=n:=by rw[repRow,List.size_toArray,repL_len v h]
theorem repRow_get(v:Int){n k q:Nat}(h:q<k):(repRow v n k)[q]? = some (.int .i64 v):=by
 rw[repRow,List.getElem?_toArray,repL,List.getElem?_append_left (by rw[List.length_replicate]; exact h),List.getElem?_replicate,if_pos h]
theorem repRow_put(v:Int){n k m:Nat}(_h:k+m≤n):((repRow v n k).toList.take k++List.replicate m (Value.int .i64 v)++(repRow v n k).toList.drop (k+m)).toArray=repRow v n (k+m):=by
 have e1:(repRow v n k).toList.take k=List.replicate k (Value.int .i64 v):=by
  show (repL v n k).take k=_
  rw[repL,List.take_append_of_le_length (by rw[List.length_replicate]; exact Nat.le_refl _),List.take_of_length_le (by rw[List.length_replicate]; exact Nat.le_refl _)]
 have e2:(repRow v n k).toList.drop (k+m)=List.replicate (n-(k+m)) (Value.int .i64 0):=by
  show (repL v n k).drop (k+m)=_
  rw[repL,List.drop_append,List.drop_of_length_le (by rw[List.length_replicate]; omega),List.nil_append,List.length_replicate,List.drop_replicate]
  congr 1; omega
 rw[e1,e2,List.replicate_append_replicate]; rfl
theorem repRow_made(v:Int)(n:Nat):madeCells (Value.int .i64 0).cells n=repRow v n 0:=by
 apply Array.ext
 ·rw[size_madeCells,repRow_size v (Nat.zero_le _)]
 ·intro q h1 h2
  have hq:q<n:=by rwa [size_madeCells]at h1
  have:(repRow v n 0)[q]? = some (Value.int .i64 0):=by
   rw[repRow,List.getElem?_toArray,repL,List.replicate_zero,List.nil_append,List.getElem?_replicate,if_pos (by omega)]
  rw[Array.getElem?_eq_getElem h2]at this
  injection this with this
  rw[this]
  simp[madeCells,Value.cells,Nat.mod_one]
set_option maxHeartbeats 4000000 in
set_option maxRecDepth 100000 in
theorem Tryz.Repeat_one(a:Addr)(cap n:Nat)(v:Int)(w:World)(hn:n≤1000000000000)(h0:w.cell? a=some (.int .i64 v))(hb:a.block<w.heap.size)(_hc:1≤cap):
  Calls Tryz.prog 163 #[.slice (some a) 1 cap,.int .i64 n] w fun e w'=>e = .returned (.slice (some ⟨w.heap.size,0,none⟩) n n) ∧
   w'.heap[w.heap.size]? = some (.cells (List.replicate n (.int .i64 v)).toArray 3 (0,0))∧Below w.heap.size w w':=by
 have mixed:Tryz.prog.follows .mixedOrders=true:=by kernel_rfl
 have t3:=Tryz.underlying3; have a3:=Tryz.isAgg3; have z3:=Tryz.sizeOf3; have v3:=Tryz.zeroValue3; have u3:=run_underlying t3
 have t4:=Tryz.underlying4; have a4:=Tryz.isAgg4; have z4:=Tryz.sizeOf4; have v4:=Tryz.zeroValue4; have u4:=run_underlying t4
 have t23:=Tryz.underlying23; have a23:=Tryz.isAgg23; have z23:=Tryz.sizeOf23; have v23:=Tryz.zeroValue23; have u23:=run_underlying t23
 have t232:=Tryz.underlying232; have a232:=Tryz.isAgg232; have z232:=Tryz.sizeOf232; have v232:=Tryz.zeroValue232; have u232:=run_underlying t232
 have t233:=Tryz.underlying233; have a233:=Tryz.isAgg233; have z233:=Tryz.sizeOf233; have v233:=Tryz.zeroValue233; have u233:=run_underlying t233
 have e220:∀ args w,(callFunc 220 args).run Tryz.prog w = .ok (.enter 220 args) w:=enters_of Tryz.func220 (by kernel_rfl) rfl
 have hm:Calls Tryz.prog 220 #[.int .u64 1,.int .u64 n] w fun e w'=>e = .returned (.tuple #[.int .u64 0,.int .u64 n])∧w'=w:=by
  refine(Tryz.bits_Mul 1 n (by omega) (by omega) w).mono ?_
  rintro e w' ⟨rfl,rfl⟩
  refine⟨?_,rfl⟩
  rw[show 1*n / 18446744073709551616=0 by omega,show 1*n % 18446744073709551616=n by omega]; rfl
 have hi0:(Tryz.prog.info? 3).map (fun i=>(i.zero,i.size,i.bytes))=some (some (.int .i64 0),1,8):=by kernel_rfl
 obtain⟨i,hi,hi1⟩:=Option.map_eq_some_iff.1 hi0
 injection hi1 with hz hi2
 injection hi2 with hs hby
 have hsz:(Tryz.prog.info? 3).map (·.size)=some 1:=by rw[hi]; simp[hs]
 have hmk:(Instr.makeSlice 23 (.int .i64 n) (.int .i64 n)).run Tryz.prog w = .ok (.slice (some ⟨w.heap.size,0,none⟩) n n) (w.alloc (.cells (repRow v n 0) 3)):=by
  have:=run_make (P:=Tryz.prog) w 23 3 i _ t23 hi hz .i64 .i64 n n (by omega) (by omega) (by rw[hby]; omega) (by omega)
  rw[this,hs,←repRow_made v n]; simp
 generalize hW1:w.alloc (.cells (repRow v n 0) 3)=W1 at hmk
 have k1:W1.heap[w.heap.size]? = some (.cells (repRow v n 0) 3 (0,0)):=by rw[←hW1]; exact heap_alloc_new w _
 have k2:Below w.heap.size w W1:=by rw[←hW1]; exact⟨rfl,rfl,rfl,by show w.heap.size≤(w.heap.push _).size; rw[Array.size_push]; exact Nat.le_succ _,fun k hk=>Below.heap_alloc w _ k hk⟩
 obtain⟨Wc,hcopy,k3,k4⟩:∃ Wc,(Builtin.copy_ #[23,23] 3 #[.slice (some ⟨w.heap.size,0,none⟩) n n,.slice (some a) 1 cap]).run Tryz.prog W1 = .ok (goInt (min 1 n:Nat)) Wc ∧
   Wc.heap[w.heap.size]? = some (.cells (repRow v n (min 1 n)) 3 (0,0))∧Below w.heap.size w Wc:=by
  by_cases hn0:n=0
  ·subst hn0
   exact⟨W1,run_copy_none W1 23 23 3 3 _ _ 0 0 1 cap t23 hsz (by decide),k1,k2⟩
  ·have hsrc:W1.cell? a=some (.int .i64 v):=by rw[←h0]; exact World.cell?_of_block (k2.block _ hb)
   have h:=run_copy_row (P:=Tryz.prog) W1 23 23 3 3 w.heap.size 0 n n a 1 cap _ 3 [.int .i64 v] t23 hsz k1 (by simp[Nat.min_def]; omega) (fun j u hu=>by
    match j,hu with
    | 0,hu=>simp at hu; subst hu; rw[show a.add 0=a by simp[Addr.add]]; exact hsrc) (by rw[repRow_size v (Nat.zero_le _)]; simp; omega) (by simp[Value.oneCell'])
   have hr:=repRow_put v (n:=n) (k:=0) (m:=1) (by omega)
   simp only[List.length_singleton]at h
   rw[show ([.int .i64 v]:List Value)=List.replicate 1 (.int .i64 v) from rfl,hr]at h
   rw[show min 1 n=1 by omega]
   refine⟨_,h,setRow_heap _ _ _ _ _ _ k1,?_⟩
   exact⟨k2.os,k2.tape,k2.output,by rw[setRow_size]; exact k2.size,fun k hk=>by rw[setRow_other _ _ _ _ (by omega)]; exact k2.block k hk⟩
 go_enter Tryz.func163,Tryz.ntmps163
 go_wp2_with (go_at_fn 220; refine hm.mono ?_)
 rintro e w' ⟨rfl,rfl⟩
 go_wp2
 go_loopw [8] (fun vn wr=>∃ k:Nat,vn = .int .i64 k∧min 1 n≤k∧k≤n∧wr.heap[w'.heap.size]? = some (.cells (repRow v n k) 3 (0,0))∧Below w'.heap.size w' wr)
  (fun vn _=>n-(intOf vn).toNat)
 case atStart=>exact⟨min 1 n,rfl,Nat.le_refl _,by omega,k3,k4⟩
 case round=>
  obtain⟨k,rfl,g1,g2,g3,g4⟩:=hrel
  by_cases hk:k<n
  ·generalize hmn:min k (n-k)=m
   have hm1:1≤m∧m≤k∧k+m≤n:=by omega
   have g3':wr.drew.heap[w'.heap.size]? = some (.cells (repRow v n k) 3 (0,0)):=g3
   have hkn:¬ n=k:=by omega
   have hcp:=run_copy_row (P:=Tryz.prog) wr.drew 23 23 3 3 w'.heap.size k (n-k) (n-k) ⟨w'.heap.size,0,none⟩ k n _ 3 (List.replicate m (Value.int .i64 v)) t23 hsz g3'
    (by rw[List.length_replicate]; exact hmn.symm)
    (fun j u hu=>by
     rw[List.getElem?_replicate]at hu
     split at hu
     ·injection hu with hu
      subst hu
      rw[show (⟨w'.heap.size,0,none⟩:Addr).add j=⟨w'.heap.size,j,none⟩ by simp[Addr.add]; omega]
      rw[Lib.cell_of_heap g3']
      exact repRow_get v (by omega)
     ·cases hu)
    (by rw[repRow_size v g2,List.length_replicate]; omega) (fun u hu=>by rw[(List.mem_replicate.1 hu).2]; rfl)
   rw[List.length_replicate,repRow_put v hm1.2.2]at hcp
   go_wp2
   go_region_o
   go_roundw
   case rel=>
    refine⟨_,_,_,_,_,_,_,_,_,_,_,_,_,_,⟨k+m,?_,?_,?_,setRow_heap _ _ _ _ _ _ g3',?_⟩,rfl⟩
    ·simp
    ·omega
    ·omega
    ·exact⟨g4.os,g4.tape,g4.output,by rw[setRow_size]; exact g4.size,fun q hq=>by rw[setRow_other _ _ _ _ (by omega)]; exact g4.block q hq⟩
   case measure=>simp[intOf]; omega
  ·go_wp2
   go_ret
   have hkn:k=n:=by omega
   subst hkn
   refine⟨rfl,?_,g4⟩
   rw[g3]
   simp[repRow,repL]
end Go.Proofs
namespace Go.PL
open Go
theorem rd_int{F:Nat→Prop}{w:World}{k:IntKind}{n:Int}{u:Value}(h:Rd F w (.int k n) u):u = .int k n:=by
 cases h with
 | int=>rfl
 | nil h=>simp[T.view]at h
 | sl _ _ _ _ h=>simp[T.view]at h
theorem con360(xs:List Int)(n:Int):ConH Proofs.Tryz.prog 163 [.t (eL cInt xs),.t (.int .i64 n)] [] [] (if 0≤n∧n≤1000000000000∧xs.length=1 then some (List.replicate n.toNat (xs.getD 0 default)) else none) (fun (_y:List Int)=>.own 40000) (fun (y:List Int)=>[(40000,.arr 3 1 (y.length) (eF cInt y))]):=by
 refine⟨callable_of Proofs.Tryz.func163 (by kernel_rfl),fun y hy=>?_⟩
 split at hy
 case isFalse=>cases hy
 rename_i hC
 obtain⟨hn0,hn1,hl⟩:=hC
 injection hy with hy
 subst hy
 obtain⟨k,rfl⟩:∃ k:Nat,n=k:=⟨n.toNat,by omega⟩
 intro F g w vs hs hv hH hF hgl
 have hs2:vs.size=2:=hs
 have hv0:=hv 0 _ (vs[0]'(by omega)) rfl (by simp[hs2])
 have hv1:=hv 1 _ (vs[1]'(by omega)) rfl (by simp[hs2])
 obtain⟨a,cap,e0,hc,h0⟩:∃ a cap,vs[0]'(by omega) = .slice (some a) 1 cap∧1≤cap∧w.cell? a=some (.int .i64 (xs.getD 0 default)):=by
  generalize vs[0]'(by omega)=u at hv0
  cases hv0 with
  | t h=>
   generalize hT:eL cInt xs=T at h
   cases h with
   | nil h=>subst hT; simp only[eL,T.view,Option.some.injEq,Prod.mk.injEq]at h; omega
   | sl a cap size us h hc hFa hsz hcell hr=>
    subst hT
    simp only[eL,T.view,Option.some.injEq,Prod.mk.injEq]at h
    obtain⟨rfl,rfl⟩:=h
    rw[hl]at hc ⊢
    have z1:=hsz 0 (by omega)
    have z2:size=1:=by rw[←z1]; rfl
    subst z2
    have z3:=hcell 0 0 (by omega) (by omega)
    have z4:Rd F w (.int .i64 (xs.getD 0 default)) (us 0 0):=hr 0 0 _ (by omega) rfl
    rw[show a.add (0*1+0)=a by simp[Addr.add]]at z3
    refine⟨a,cap,rfl,hc,?_⟩
    rw[z3]
    generalize us 0 0=u0 at z4
    exact congrArg some (rd_int z4)
   | _=>simp[eL]at hT
 have e1:vs[1]'(by omega) = .int .i64 k:=by
  generalize vs[1]'(by omega)=u at hv1
  cases hv1 with
  | t h=>exact rd_int h
 have hvs:vs=#[.slice (some a) 1 cap,.int .i64 k]:=by
  apply Array.ext
  ·rw[hs2]; rfl
  ·intro q hq _
   match q,hq with
   | 0,_=>simpa using e0
   | 1,_=>simpa using e1
   | q+2,hq=>omega
 subst hvs
 have hb:a.block<w.heap.size:=by
  by_cases hb:a.block<w.heap.size
  ·exact hb
  ·have:w.heap[a.block]? = none:=by rw[Array.getElem?_eq_none]; omega
   simp[World.cell?,this]at h0
 refine(Proofs.Tryz.Repeat_one a cap k (xs.getD 0 default) w (by omega) h0 hb hc).mono ?_
 rintro e w' ⟨rfl,q1,q2⟩
 have hlt:w.heap.size<w'.heap.size:=(Array.getElem?_eq_some_iff.1 q1).1
 have hg:∀ u:Value,(fun o=>if o=40000 then u else g o) 40000=u:=fun u=>by simp
 have hblk:∀ q,Foot (fun o=>if o=40000 then .slice (some ⟨w.heap.size,0,none⟩) k k else g o) w' 40000 (.arr 3 1 (List.replicate k (xs.getD 0 default)).length (eF cInt (List.replicate k (xs.getD 0 default)))) q→q=w.heap.size:=by
  intro q hq
  have:=hq.toBlk rfl
  simp[blk]at this
  exact this.symm
 refine⟨_,_,_,F,fun o=>if o=40000 then .slice (some ⟨w.heap.size,0,none⟩) k k else g o,rfl,⟨rfl,rfl⟩,.own (hg _),⟨⟨fun o q hq=>?_,fun o q c hq hc=>?_,fun o q o' q' c hq hq' hne=>?_⟩,fun b h=>h,fun c hc=>⟨?_,.inl hc⟩,⟨q2.os,q2.tape,q2.output,q2.size,fun c hc _=>q2.block c hc⟩,fun o ho=>(by cases ho),?_⟩⟩
 ·cases List.mem_singleton.1 hq
  show ArrV F w' _ 3 1 _ _
  refine .inr ⟨w.heap.size,k,_,?_,q1,?_,?_,?_,fun i hi=>rfl,fun i j x hi hx=>?_⟩
  ·simp
  ·simp
  ·simp only[maxLen]; omega
  ·simp
  ·simp only[Int.toNat_natCast,List.length_replicate]at hi
   match j,hx with
   | 0,hx=>
    simp[eF,cInt]at hx
    subst hx
    refine⟨.int .i64 (xs.getD 0 default),?_,?_⟩
    ·simp[hi]
    ·simp[List.getD,hi]
     exact .int _ _
 ·cases List.mem_singleton.1 hq
  have:=hblk c hc
  subst this
  exact⟨fun hf=>by have:=hF _ hf; omega,.inr (Nat.le_refl _)⟩
 ·cases List.mem_singleton.1 hq; cases List.mem_singleton.1 hq'; exact absurd rfl hne
 ·have:=hF c hc; omega
 ·rintro c ⟨o,q,k1,k2⟩
  simp at k1
end Go.PL
namespace Go.PL
open Go
set_option linter.unusedVariables false
def G178(s:ByteArray)(c:Int):Option Int:=some (Lib.indexByte s.data.toList c.toNat.toUInt8)
theorem G178_ok(s:ByteArray)(c:Int):Con Proofs.Tryz.prog 257 [.t (.str s),.t (.int .u8 c)] (G178 s c) (fun (y:Int)=>.t (.int .i64 y)):=by
 refine⟨callable_of Proofs.Tryz.func257 (by kernel_rfl),fun y hy=>?_⟩
 cases hy
 intro F g w vs hs hv hH hF hgl
 have hvs:=hv2 hs hv (u:=.string s) (u':=.int .u8 c) (fun v h=>h.inv_str) (fun v h=>h.inv_int)
 subst hvs
 refine(Proofs.Tryz.strings_IndexByte s c w).mono ?_
 rintro e w' ⟨rfl,rfl⟩
 exact⟨_,_,[],F,g,rfl,rfl,.t (.int _ _),relw_none hH hF rfl rfl rfl (Nat.le_refl _) (fun _ _ _=>rfl)⟩
def G179(s:ByteArray):Option Int:=match Lib.atoiAll s.data.toList with
 | .ok v=>if s.size≤1000000000000 then some v else none
 | _=>none
theorem con179(s:ByteArray):Con Proofs.Tryz.prog 259 [.t (.str s)] (G179 s) (fun (y:Int)=>.tup [.t (.int .i64 y),.lit .nilIface]):=by
 refine⟨callable_of Proofs.Tryz.func259 (by kernel_rfl),fun y hy=>?_⟩
 unfold G179 at hy
 split at hy
 case h_2=>cases hy
 rename_i v hr
 split at hy
 case isFalse=>cases hy
 rename_i hs0
 cases hy
 intro F g w vs hs hv hH hF hgl
 have hvs:=hv1 hs hv (u:=.string s) (fun v h=>h.inv_str)
 subst hvs
 refine(Proofs.Tryz.strconv_Atoi_ok s (by omega) y hr w).mono ?_
 rintro e w' ⟨rfl,hW⟩
 have hb:RowKit.Below w.heap.size w w':=by
  rcases hW with rfl | ⟨t,rfl⟩
  ·exact RowKit.Below.refl _ _
  ·exact Lib.bytesWorld_below _ _ _
 refine⟨_,_,[],F,g,rfl,rfl,?_,relw_none hH hF hb.os hb.tape hb.output hb.size (fun q hq _=>hb.block q hq)⟩
 refine .tup (by rfl) fun j x v hx hv=>?_
 match j,hx,hv with
 | 0,hx,hv=>simp at hx hv; subst hx hv; exact .t (.int _ _)
 | 1,hx,hv=>simp at hx hv; subst hx hv; exact .lit rfl
 | j+2,hx,hv=>simp at hx
end Go.PL
namespace Go.PL
open Go Go.Proofs IntKind
set_option linter.unusedVariables false
set_option maxRecDepth 20000
abbrev LD:=List GDelta
abbrev tI (x:Int):PV:=.t (.int .i64 x)
abbrev tB (x:Bool):PV:=.t (.bool x)
abbrev tD (x:List GDelta):PV:=.t (eL cGDelta x)
abbrev tV (x:List GValue):PV:=.t (eL cGValue x)
abbrev aD (x:List GDelta):PObj:=.arr 50 3 (x.length) (eF cGDelta x)
abbrev bN (x:GNode):PObj:=.box ((cGNode x).map .t)
def bP(f:List GFunc)(x:GNode)(k:Nat)(c:Int):PObj:=.box [.t (eL cGFunc (f)),tI x.Op,.t (eL cInt (x.In)),.t (.str (x.Source)),tI x.Schema,.t (.lz (.exprs (x.Exprs))),tI x.Kind,tI x.Size,tI x.Step,.t (eL cInt (x.Key)),.t (eL cInt (x.Key2)),tI x.Before,tI x.After,tI x.Keep,.t (eL cGAgg (x.Aggs)),.t (eL cGPat (x.Seq)),.t (eL cGCol (x.Cols)),.map k,tI c]
abbrev LM:=List (ByteArray×LD)
abbrev mD (c:LD):Mem:=Mem.d (eL cGDelta c)
abbrev vD (c:LD):T:=eL cGDelta c
abbrev mR (c:LD):Mem:=Mem.row 50 3 c.length (eF cGDelta c)
abbrev pD (x:LM):PObj:=.mp none (eM mD x) none
abbrev pR (x:LM):PObj:=.mp none (eM mR x) none
abbrev fm1:List (Int×Nat):=mput ([]:List (Int×Nat)) (8:Int) (225:Nat)
abbrev fm2:List (Int×Nat):=mput fm1 (9:Int) (226:Nat)
abbrev fm3:List (Int×Nat):=mput fm2 (10:Int) (227:Nat)
abbrev fm4:List (Int×Nat):=mput fm3 (11:Int) (228:Nat)
abbrev fm5:List (Int×Nat):=mput fm4 (12:Int) (229:Nat)
abbrev fm6:List (Int×Nat):=mput fm5 (13:Int) (230:Nat)
abbrev fm7:List (Int×Nat):=mput fm6 (14:Int) (231:Nat)
abbrev fm8:List (Int×Nat):=mput fm7 (15:Int) (232:Nat)
abbrev fm9:List (Int×Nat):=mput fm8 (16:Int) (233:Nat)
abbrev fm10:List (Int×Nat):=mput fm9 (17:Int) (234:Nat)
abbrev fm11:List (Int×Nat):=mput fm10 (18:Int) (235:Nat)
abbrev fm12:List (Int×Nat):=mput fm11 (19:Int) (236:Nat)
abbrev mF (c:Nat):Mem:=Mem.d (T.fv c)
noncomputable section
def T159(a0:GValue)(a1:GValue):TP Int:=.ite 8 (decide (a0.Kind<a1.Kind)) (.ret 1 (-1)) (.ite 5 (decide (a0.Kind>a1.Kind)) (.ret 1 1) (.ite 5 (decide (a0.N<a1.N)) (.ret 1 (-1)) (.ite 5 (decide (a0.N>a1.N)) (.ret 1 1) (.ite 5 (Op.bytesLess (a0.S:ByteArray).toList (a1.S:ByteArray).toList) (.ret 1 (-1)) (.ite 5 (!(Op.bytesLess (a0.S:ByteArray).toList (a1.S:ByteArray).toList || (a0.S:ByteArray).toList==(a1.S:ByteArray).toList)) (.ret 1 1) (.ret 1 0))))))
def G159(a0:GValue)(a1:GValue):Option Int:=(T159 a0 a1).den
theorem G159_ok(a0:GValue)(a1:GValue):Con Tryz.prog 77 [.t (eGValue a0),.t (eGValue a1)] (G159 a0 a1) tI:=con Tryz.func77 ti_ok (T159 a0 a1)
def T116_L0(a0:List GValue)(a1:List GValue):Int→TP ((Int)⊕((Unit)⊕Int))
 | v1=>.jn 5 0 (fun (j2:Bool)=>⟨[(0,tV a0),(1,tV a1),(5,tI v1),(16,tB j2)],[]⟩) (.ite 0 (decide (v1<(a0.length:Int))) (.ret 5 (decide (v1<(a1.length:Int)))) (.ret 5 false)) fun j2=>.ite 0 j2 (.dg 2 (0≤v1∧v1<(a0.length:Int)) <| .dg 6 (0≤v1∧v1<(a1.length:Int)) <| .dc 8 [.t (eGValue (a0.getD v1.toNat default)),.t (eGValue (a1.getD v1.toNat default))] (G159_ok (a0.getD v1.toNat default) (a1.getD v1.toNat default)) fun r3=>.dr 0 0 [] [0,1,5,16] <| .ite 2 (r3 != 0) (.ret 2 (.inr (.inr r3))) (.ret 3 (.inl (i64.wrap (v1+1))))) (.ret 0 (.inr (.inl ())))
def T116(a0:List GValue)(a1:List GValue):TP Int:=.lp 2 (fun (v1:Int)=>⟨[(0,tV a0),(1,tV a1),(5,tI v1)],[]⟩) (fun (_:Unit)=>⟨[(0,tV a0),(1,tV a1)],[]⟩) 0 0 (T116_L0 a0 a1) fun _=>.ite 5 (decide ((a0.length:Int)<(a1.length:Int))) (.ret 1 (-1)) (.ite 5 (decide ((a0.length:Int)>(a1.length:Int))) (.ret 1 1) (.ret 1 0))
def G116(a0:List GValue)(a1:List GValue):Option Int:=(T116 a0 a1).den
theorem G116_ok(a0:List GValue)(a1:List GValue):Con Tryz.prog 102 [tV a0,tV a1] (G116 a0 a1) tI:=con Tryz.func102 ti_ok (T116 a0 a1)
def T49(a0:GDelta)(a1:GDelta):TP Int:=.ite 8 (decide (a0.Time<a1.Time)) (.ret 1 (-1)) (.ite 5 (decide (a0.Time>a1.Time)) (.ret 1 1) (.ca 4 (G116_ok a0.Row a1.Row) fun r1=>.ret 1 r1))
def G49(a0:GDelta)(a1:GDelta):Option Int:=(T49 a0 a1).den
theorem G49_ok(a0:GDelta)(a1:GDelta):Con Tryz.prog 105 [.t (eGDelta a0),.t (eGDelta a1)] (G49 a0 a1) tI:=con Tryz.func105 ti_ok (T49 a0 a1)
def T20_L0(a0:LD)(a1:LD):Int→TP ((Int)⊕((Unit)⊕Bool))
 | v1=>.ite 4 (decide (v1<(a0.length:Int))) (.jn 0 0 (fun (j2:Bool)=>⟨[(0,tD a0),(1,tD a1),(5,tI v1),(39,tB j2)],[]⟩) (.dg 2 (0≤v1∧v1<(a0.length:Int)) <| .dg 6 (0≤v1∧v1<(a1.length:Int)) <| .dc 8 [.t (eGDelta (a0.getD v1.toNat default)),.t (eGDelta (a1.getD v1.toNat default))] (G49_ok (a0.getD v1.toNat default) (a1.getD v1.toNat default)) fun r3=>.dl 10 (r3 != 0) (.dr 0 0 [] [0,1,5,11,12,13,14] <| .ret 0 true) (.dg 13 (0≤v1∧v1<(a0.length:Int)) <| .dg 18 (0≤v1∧v1<(a1.length:Int)) <| .dr 0 0 [] [0,1,5,11,12,13,14] <| .ret 0 (((a0.getD v1.toNat default).N) != ((a1.getD v1.toNat default).N)))) fun j2=>.ite 0 j2 (.ret 1 (.inr (.inr false))) (.ret 3 (.inl (i64.wrap (v1+1))))) (.ret 0 (.inr (.inl ())))
def T20(a0:LD)(a1:LD):TP Bool:=.ite 6 ((a0.length:Int) != (a1.length:Int)) (.ret 1 false) (.lp 1 (fun (v1:Int)=>⟨[(0,tD a0),(1,tD a1),(5,tI v1)],[]⟩) (fun (_:Unit)=>⟨[],[]⟩) 0 0 (T20_L0 a0 a1) fun _=>.ret 1 true)
def G20(a0:LD)(a1:LD):Option Bool:=(T20 a0 a1).den
theorem G20_ok(a0:LD)(a1:LD):Con Tryz.prog 44 [tD a0,tD a1] (G20 a0 a1) tB:=con Tryz.func44 ti_ok (T20 a0 a1)
def T335(a0:Int):TP Expr:=.bs 4 false exprCells ([(Expr.mk 3 1 (⟨#[]⟩) ([]:List Expr)),(Expr.mk 0 a0 (⟨#[]⟩) ([]:List Expr))]:List Expr) <| .cv 0 [.sl 6 (.lz (.exprs ([(Expr.mk 3 1 (⟨#[]⟩) ([]:List Expr)),(Expr.mk 0 a0 (⟨#[]⟩) ([]:List Expr))]:List Expr)))] <| .ret 2 (Expr.mk 13 0 (⟨#[]⟩) ([(Expr.mk 3 1 (⟨#[]⟩) ([]:List Expr)),(Expr.mk 0 a0 (⟨#[]⟩) ([]:List Expr))]:List Expr))
def G335(a0:Int):Option Expr:=(T335 a0).den
theorem G335_ok(a0:Int):Con Tryz.prog 56 [tI a0] (G335 a0) (fun (y:Expr)=>.t (eExpr y)):=con Tryz.func56 ti_ok (T335 a0)
def T336(a0:Int)(a1:Int)(a2:Int):TP GDelta:=.bs 6 false cGValue ([(GValue.mk 0 a1 (⟨#[]⟩)),(GValue.mk 0 a2 (⟨#[]⟩))]:List GValue) <| .ret 2 (GDelta.mk a0 ([(GValue.mk 0 a1 (⟨#[]⟩)),(GValue.mk 0 a2 (⟨#[]⟩))]:List GValue) 1)
def G336(a0:Int)(a1:Int)(a2:Int):Option GDelta:=(T336 a0 a1 a2).den
theorem G336_ok(a0:Int)(a1:Int)(a2:Int):Con Tryz.prog 57 [tI a0,tI a1,tI a2] (G336 a0 a1 a2) (fun (y:GDelta)=>.t (eGDelta y)):=con Tryz.func57 ti_ok (T336 a0 a1 a2)
def T337(a0:Int)(a1:Int)(a2:Int)(a3:Int):TP GDelta:=.bs 7 false cGValue ([(GValue.mk 0 7 (⟨#[]⟩)),(GValue.mk 0 a1 (⟨#[]⟩)),(GValue.mk 0 a2 (⟨#[]⟩))]:List GValue) <| .ret 3 (GDelta.mk a0 ([(GValue.mk 0 7 (⟨#[]⟩)),(GValue.mk 0 a1 (⟨#[]⟩)),(GValue.mk 0 a2 (⟨#[]⟩))]:List GValue) a3)
def G337(a0:Int)(a1:Int)(a2:Int)(a3:Int):Option GDelta:=(T337 a0 a1 a2 a3).den
theorem G337_ok(a0:Int)(a1:Int)(a2:Int)(a3:Int):Con Tryz.prog 58 [tI a0,tI a1,tI a2,tI a3] (G337 a0 a1 a2 a3) (fun (y:GDelta)=>.t (eGDelta y)):=con Tryz.func58 ti_ok (T337 a0 a1 a2 a3)
def T313s0(a0:List GFunc)(a1:GNode):TP ((List GFunc)×GNode×Int×LM):=.mk (K:=ByteArray) 4 mR <| .cv 3 [.rn 9 40000,.rn 7 41001] <| .ret 0 (a0,a1,(-1),([]:LM))
def G313s0(a0:List GFunc)(a1:GNode):Option ((List GFunc)×GNode×Int×LM):=(T313s0 a0 a1).den
theorem G313s0_ok(a0:List GFunc)(a1:GNode):ConH Tryz.prog 16 [.t (eL cGFunc a0),.t (eGNode a1)] [] [] (G313s0 a0 a1) (fun (y:(List GFunc)×GNode×Int×LM)=>.ptr 40000 0) (fun (y:(List GFunc)×GNode×Int×LM)=>[(40000,bP y.1 y.2.1 41001 y.2.2.1),(41001,.mp none (eM mR (y.2.2.2:LM)) none)]):=conH Tryz.func16 ti_ok (T313s0 a0 a1)
def T103(a0:GNode):TP (Int×Int):=.ret 8 (i64.wrap (a0.Size-1),0)
def G103(a0:GNode):Option (Int×Int):=(T103 a0).den
theorem G103_ok(a0:GNode):Con Tryz.prog 152 [.t (eGNode a0)] (G103 a0) (fun (y:Int×Int)=>.tup [tI y.1,tI y.2]):=con Tryz.func152 ti_ok (T103 a0)
def T97(a0:Int)(a1:Int)(a2:Int):TP Bool:=.jn 5 0 (fun (j1:Bool)=>⟨[(6,tB j1)],[]⟩) (.ite 0 (decide (a0≥a1)) (.ret 5 (decide (a0≤a2))) (.ret 5 false)) fun j1=>.ret 0 j1
def G97(a0:Int)(a1:Int)(a2:Int):Option Bool:=(T97 a0 a1 a2).den
theorem G97_ok(a0:Int)(a1:Int)(a2:Int):Con Tryz.prog 146 [tI a0,tI a1,tI a2] (G97 a0 a1 a2) tB:=con Tryz.func146 ti_ok (T97 a0 a1 a2)
def T96(a0:GNode):TP Bool:=.ca 4 (G97_ok a0.Size 1 10000) fun r1=>.ret 1 r1
def G96(a0:GNode):Option Bool:=(T96 a0).den
theorem G96_ok(a0:GNode):Con Tryz.prog 145 [.t (eGNode a0)] (G96 a0) tB:=con Tryz.func145 ti_ok (T96 a0)
def T102(a0:GNode):TP Bool:=.ca 3 (G96_ok a0) fun r1=>.jn 1 0 (fun (j2:Bool)=>⟨[(2,tB j2)],[]⟩) (.ite 0 r1 (.ca 3 (G97_ok (a0.Seq.length:Int) 1 8) fun r3=>.ret 2 r3) (.ret 6 false)) fun j2=>.ret 0 j2
def G102(a0:GNode):Option Bool:=(T102 a0).den
theorem G102_ok(a0:GNode):Con Tryz.prog 151 [.t (eGNode a0)] (G102 a0) tB:=con Tryz.func151 ti_ok (T102 a0)
def V38:Nat→PV
 | 0=>.tup [.agg [tI 0,.lit (.nilFunc),.lit (.nilFunc),tB false],tB false]
 | 1=>.tup [.agg [tI 0,.fn (.func 140) 0 [],.fn (.func 141) 0 [],tB false],tB true]
 | 2=>.tup [.agg [tI 1,.fn (.func 140) 0 [],.fn (.func 141) 0 [],tB false],tB true]
 | 3=>.tup [.agg [tI 2,.fn (.func 140) 0 [],.fn (.func 141) 0 [],tB false],tB true]
 | 4=>.tup [.agg [tI 1,.fn (.func 142) 0 [],.fn (.func 143) 0 [],tB true],tB true]
 | 5=>.tup [.agg [tI 1,.fn (.func 144) 0 [],.fn (.func 143) 0 [],tB true],tB true]
 | 6=>.tup [.agg [tI 2,.fn (.func 147) 0 [],.fn (.func 148) 0 [],tB true],tB true]
 | 7=>.tup [.agg [tI 2,.fn (.func 149) 0 [],.fn (.func 150) 0 [],tB true],tB true]
 | 8=>.tup [.agg [tI 1,.fn (.func 151) 0 [],.fn (.func 152) 0 [],tB true],tB true]
 | _=>.any
def T38(a0:Int):TP Nat:=.ca 15 (G97_ok a0 0 8) fun r1=>.ite 1 (!r1) (.ret 3 0) (.sp 1 19 a0 0 (.gd 1 (0≤(0:Int)∧(0:Int)<(9:Int)) (by decide) <| .ret 3 1) (.sp 0 19 a0 1 (.gd 1 (0≤(1:Int)∧(1:Int)<(9:Int)) (by decide) <| .ret 3 2) (.sp 0 19 a0 2 (.gd 1 (0≤(2:Int)∧(2:Int)<(9:Int)) (by decide) <| .ret 3 2) (.sp 0 19 a0 3 (.gd 1 (0≤(3:Int)∧(3:Int)<(9:Int)) (by decide) <| .ret 3 3) (.sp 0 19 a0 4 (.gd 1 (0≤(4:Int)∧(4:Int)<(9:Int)) (by decide) <| .ret 3 4) (.sp 0 19 a0 5 (.gd 1 (0≤(5:Int)∧(5:Int)<(9:Int)) (by decide) <| .ret 3 5) (.sp 0 19 a0 6 (.gd 1 (0≤(6:Int)∧(6:Int)<(9:Int)) (by decide) <| .ret 3 6) (.sp 0 19 a0 7 (.gd 1 (0≤(7:Int)∧(7:Int)<(9:Int)) (by decide) <| .ret 3 7) (.sp 0 19 a0 8 (.gd 1 (0≤(8:Int)∧(8:Int)<(9:Int)) (by decide) <| .ret 3 8) (.no))))))))))
def G38(a0:Int):Option Nat:=(T38 a0).den
theorem G38_ok(a0:Int):Con Tryz.prog 64 [tI a0] (G38 a0) (fun (y:Nat)=>V38 y):=con Tryz.func64 ti_ok (T38 a0)
def T37(a0:GNode):TP Bool:=.cas 4 (G38_ok a0.Op) 9 fun r1=>match r1 with | 0=>.ret 14 false | 1=>.no | 2=>.no | 3=>.no | 4=>.no | 5=>.no | 6=>.no | 7=>.no | 8=>.ca 11 (G102_ok a0) fun r2=>.ret 2 r2 | _=>.no
def G37(a0:GNode):Option Bool:=(T37 a0).den
theorem G37_ok(a0:GNode):Con Tryz.prog 63 [.t (eGNode a0)] (G37 a0) tB:=con Tryz.func63 ti_ok (T37 a0)
def T10(a0:GNode):TP (Int×Int):=.ca 4 (G37_ok a0) fun r1=>.ite 1 (!r1) (.ret 2 (0,0)) (.cas 2 (G38_ok a0.Op) 9 fun r2=>match r2 with | 0=>.no | 1=>.no | 2=>.no | 3=>.no | 4=>.no | 5=>.no | 6=>.no | 7=>.no | 8=>.ca 9 (G103_ok a0) fun r3=>.ret 4 (r3.1,r3.2) | _=>.no)
def G10(a0:GNode):Option (Int×Int):=(T10 a0).den
theorem G10_ok(a0:GNode):Con Tryz.prog 17 [.t (eGNode a0)] (G10 a0) (fun (y:Int×Int)=>.tup [tI y.1,tI y.2]):=con Tryz.func17 ti_ok (T10 a0)
def T130_L0(a0:List Int):Int→TP ((Int)⊕((Unit)⊕Int))
 | v1=>.ite 1 (decide (v1<(a0.length:Int))) (.grd 1 (0≤v1∧v1<(a0.length:Int)) <| .ite 5 ((a0.getD v1.toNat default) != 0) (.ret 2 (.inr (.inr (a0.getD v1.toNat default)))) (.ret 2 (.inl (i64.wrap (v1+1))))) (.ret 0 (.inr (.inl ())))
def T130(a0:List Int):TP Int:=.lp 5 (fun (v1:Int)=>⟨[(3,tI 0),(6,.t (eL cInt a0)),(7,tI (a0.length:Int)),(8,tI v1)],[]⟩) (fun (_:Unit)=>⟨[(3,tI 0)],[]⟩) 0 0 (T130_L0 a0) fun _=>.ret 2 0
def G130(a0:List Int):Option Int:=(T130 a0).den
theorem G130_ok(a0:List Int):Con Tryz.prog 156 [.t (eL cInt a0)] (G130 a0) tI:=con Tryz.func156 ti_ok (T130 a0)
def T173(a0:Int):TP Bool:=.ret 5 (a0 != a0)
def G173(a0:Int):Option Bool:=(T173 a0).den
theorem G173_ok(a0:Int):Con Tryz.prog 215 [tI a0] (G173 a0) tB:=con Tryz.func215 ti_ok (T173 a0)
def T131(a0:Int)(a1:Int):TP Int:=.ca 2 (G173_ok a0) fun r1=>.ca 2 (G173_ok a1) fun r2=>.ite 2 r1 (.ite 1 r2 (.ret 1 0) (.ret 1 (-1))) (.ite 1 r2 (.ret 1 1) (.ite 3 (decide (a0<a1)) (.ret 1 (-1)) (.ite 3 (decide (a0>a1)) (.ret 1 1) (.ret 1 0))))
def G131(a0:Int)(a1:Int):Option Int:=(T131 a0 a1).den
theorem G131_ok(a0:Int)(a1:Int):Con Tryz.prog 157 [tI a0,tI a1] (G131 a0 a1) tI:=con Tryz.func157 ti_ok (T131 a0 a1)
def T175(a0:GValue)(a1:GValue):TP Int:=.dc 4 [tI a0.Kind,tI a1.Kind] (G131_ok a0.Kind a1.Kind) fun r1=>.dc 9 [tI a0.N,tI a1.N] (G131_ok a0.N a1.N) fun r2=>.dc 14 [.t (.str (a0.S)),.t (.str (a1.S))] (G194_ok a0.S a1.S) fun r3=>.dc 16 [.t (.sl 3 (arrOf [.int .i64 r1,.int .i64 r2,.int .i64 r3] 1))] (G130_ok ([r1,r2,r3]:List Int)) fun r4=>.dr 3 0 [(2,false,[]),(3,false,[])] [0,1,2,3] <| .ret 0 r4
def G175(a0:GValue)(a1:GValue):Option Int:=(T175 a0 a1).den
theorem G175_ok(a0:GValue)(a1:GValue):Con Tryz.prog 177 [.t (eGValue a0),.t (eGValue a1)] (G175 a0 a1) tI:=con Tryz.func177 ti_ok (T175 a0 a1)
def T174s0_L0(a0:List GValue)(a1:List GValue):Int→TP ((Int)⊕((Unit)⊕Int))
 | v1=>.ite 1 (decide (v1<(a0.length:Int))) (.grd 2 (0≤v1∧v1<(a0.length:Int)) <| .ite 8 (decide (v1≥(a1.length:Int))) (.ret 1 (.inr (.inr 1))) (.grd 3 (0≤v1∧v1<(a1.length:Int)) <| .ca 6 (G175_ok (a0.getD v1.toNat default) (a1.getD v1.toNat default)) fun r2=>.ite 3 (r2 != 0) (.ret 2 (.inr (.inr r2))) (.ret 2 (.inl (i64.wrap (v1+1)))))) (.ret 0 (.inr (.inl ())))
def T174s0(a0:List GValue)(a1:List GValue):TP Int:=.lp 4 (fun (v1:Int)=>⟨[(0,tV a0),(1,tV a1),(2,.fn (.func 177) 0 []),(11,tV a0),(12,tI (a0.length:Int)),(13,tI v1)],[]⟩) (fun (_:Unit)=>⟨[(0,tV a0),(1,tV a1)],[]⟩) 0 0 (T174s0_L0 a0 a1) fun _=>.ite 5 (decide ((a0.length:Int)<(a1.length:Int))) (.ret 1 (-1)) (.ret 1 0)
def G174s0(a0:List GValue)(a1:List GValue):Option Int:=(T174s0 a0 a1).den
theorem G174s0_ok(a0:List GValue)(a1:List GValue):ConH Tryz.prog 216 [tV a0,tV a1,.fn (.func 177) 0 []] [] [] (G174s0 a0 a1) tI (fun (y:Int)=>[]):=conH Tryz.func216 ti_ok (T174s0 a0 a1)
def T132(a0:List GValue)(a1:List GValue):TP Int:=.ch 3 [] (G174s0_ok a0 a1) fun r1=>.ret 1 r1
def G132(a0:List GValue)(a1:List GValue):Option Int:=(T132 a0 a1).den
theorem G132_ok(a0:List GValue)(a1:List GValue):Con Tryz.prog 158 [tV a0,tV a1] (G132 a0 a1) tI:=con Tryz.func158 ti_ok (T132 a0 a1)
def T61(a0:GDelta)(a1:GDelta):TP Int:=.dc 4 [tI a0.Time,tI a1.Time] (G131_ok a0.Time a1.Time) fun r1=>.dc 9 [tV a0.Row,tV a1.Row] (G132_ok a0.Row a1.Row) fun r2=>.dc 11 [.t (.sl 2 (arrOf [.int .i64 r1,.int .i64 r2] 1))] (G130_ok ([r1,r2]:List Int)) fun r3=>.dr 3 0 [(2,false,[]),(3,false,[])] [0,1,2,3] <| .ret 0 r3
def G61(a0:GDelta)(a1:GDelta):Option Int:=(T61 a0 a1).den
theorem G61_ok(a0:GDelta)(a1:GDelta):Con Tryz.prog 69 [.t (eGDelta a0),.t (eGDelta a1)] (G61 a0 a1) tI:=con Tryz.func69 ti_ok (T61 a0 a1)
def T176s1_L1(a1:Int)(a2:Int)(v2:Int):(LD×Int)→TP ((LD×Int)⊕((LD)⊕((LD×Int)⊕((LD)⊕LD))))
 | (v4,v5)=>.jn 0 0 (fun (j7:Bool)=>⟨[(0,.own 30000),(1,tI a1),(2,tI a2),(3,.fn (.func 69) 0 []),(8,tI v2),(9,tI v5),(34,tB j7)],[(30000,aD v4)]⟩) (.dl 3 (decide (v5>a1)) (.dg 7 (0≤v5∧v5<(v4.length:Int)) <| .dg 8 ((v5).toNat<v4.length) <| .dg 12 (0≤(i64.wrap (v5-1))∧(i64.wrap (v5-1))<(v4.length:Int)) <| .dg 13 ((i64.wrap (v5-1)).toNat<v4.length) <| .dc 14 [.t (eGDelta (v4.getD v5.toNat default)),.t (eGDelta (v4.getD (i64.wrap (v5-1)).toNat default))] (G61_ok (v4.getD v5.toNat default) (v4.getD (i64.wrap (v5-1)).toNat default)) fun r8=>.dr 0 0 [(30000,false,[])] [0,1,2,3,8,9] <| .ret 0 (decide (r8<0))) (.dr 0 0 [(30000,false,[])] [0,1,2,3,8,9] <| .ret 0 false)) fun j7=>.ite 0 j7 (.dg 8 (0≤(i64.wrap (v5-1))∧(i64.wrap (v5-1))<(v4.length:Int)) <| .dg 9 ((i64.wrap (v5-1)).toNat<v4.length) <| .dg 12 (0≤v5∧v5<(v4.length:Int)) <| .dg 13 ((v5).toNat<v4.length) <| .dg 14 (0≤v5∧v5<(v4.length:Int)) <| .dg 15 ((v5).toNat<v4.length) <| .dg 16 (0≤(i64.wrap (v5-1))∧(i64.wrap (v5-1))<(v4.length:Int)) <| .dg 17 ((i64.wrap (v5-1)).toNat<v4.length) <| .dr 0 0 [(30000,false,[15,17])] [0,1,2,3,8,9,34] <| .sto 0 30000 cGDelta v4 [((v5).toNat,v4.getD (i64.wrap (v5-1)).toNat default),((i64.wrap (v5-1)).toNat,v4.getD v5.toNat default)] <| .ret 3 (.inl ((v4.set v5.toNat (v4.getD (i64.wrap (v5-1)).toNat default)).set (i64.wrap (v5-1)).toNat (v4.getD v5.toNat default),i64.wrap (v5-1)))) (.ret 0 (.inr (.inl v4)))
def T176s1_L0(a1:Int)(a2:Int):(LD×Int)→TP ((LD×Int)⊕((LD)⊕LD))
 | (v1,v2)=>.ite 3 (decide (v2<a2)) (.lp 2 (fun ((v4,v5):LD×Int)=>⟨[(0,.own 30000),(1,tI a1),(2,tI a2),(3,.fn (.func 69) 0 []),(8,tI v2),(9,tI v5)],[(30000,aD v4)]⟩) (fun (b6:LD)=>⟨[(0,.own 30000),(1,tI a1),(2,tI a2),(3,.fn (.func 69) 0 []),(8,tI v2)],[(30000,aD b6)]⟩) 2 (v1,v2) (T176s1_L1 a1 a2 v2) fun b6=>.ret 3 (.inl (b6,i64.wrap (v2+1)))) (.ret 0 (.inr (.inl v1)))
def T176s1(a1:Int)(a2:Int)(qul:LD):TP LD:=.lp 3 (fun ((v1,v2):LD×Int)=>⟨[(0,.own 30000),(1,tI a1),(2,tI a2),(3,.fn (.func 69) 0 []),(8,tI v2)],[(30000,aD v1)]⟩) (fun (b3:LD)=>⟨[],[(30000,aD b3)]⟩) 0 (qul,i64.wrap (a1+1)) (T176s1_L0 a1 a2) fun b3=>.ret 0 b3
def G176s1(a1:Int)(a2:Int)(qul:LD):Option LD:=(T176s1 a1 a2 qul).den
theorem G176s1_ok(a1:Int)(a2:Int)(qul:LD):ConH Tryz.prog 271 [.own 30000,tI a1,tI a2,.fn (.func 69) 0 []] [(30000,aD qul)] [30000] (G176s1 a1 a2 qul) (fun (y:LD)=>.tup []) (fun (y:LD)=>[(30000,aD y)]):=conH Tryz.func271 ti_ok (T176s1 a1 a2 qul)
def T211s0_L0(a1:Int)(a2:Int)(a3:Int):(LD×Int)→TP ((LD×Int)⊕((LD)⊕LD))
 | (v1,v2)=>.ite 3 (decide (v2<a3)) (.dg 12 (0≤(i64.wrap (a2+v2))∧(i64.wrap (a2+v2))<(v1.length:Int)) <| .dg 13 ((i64.wrap (a2+v2)).toNat<v1.length) <| .dg 18 (0≤(i64.wrap (a1+v2))∧(i64.wrap (a1+v2))<(v1.length:Int)) <| .dg 19 ((i64.wrap (a1+v2)).toNat<v1.length) <| .dg 20 (0≤(i64.wrap (a1+v2))∧(i64.wrap (a1+v2))<(v1.length:Int)) <| .dg 21 ((i64.wrap (a1+v2)).toNat<v1.length) <| .dg 22 (0≤(i64.wrap (a2+v2))∧(i64.wrap (a2+v2))<(v1.length:Int)) <| .dg 23 ((i64.wrap (a2+v2)).toNat<v1.length) <| .dr 0 0 [(30000,false,[21,23])] [0,1,2,3,10,11,12,13] <| .sto 0 30000 cGDelta v1 [((i64.wrap (a1+v2)).toNat,v1.getD (i64.wrap (a2+v2)).toNat default),((i64.wrap (a2+v2)).toNat,v1.getD (i64.wrap (a1+v2)).toNat default)] <| .ret 3 (.inl ((v1.set (i64.wrap (a1+v2)).toNat (v1.getD (i64.wrap (a2+v2)).toNat default)).set (i64.wrap (a2+v2)).toNat (v1.getD (i64.wrap (a1+v2)).toNat default),i64.wrap (v2+1)))) (.ret 0 (.inr (.inl v1)))
def T211s0(a1:Int)(a2:Int)(a3:Int)(qul:LD):TP LD:=.lp 1 (fun ((v1,v2):LD×Int)=>⟨[(0,.own 30000),(1,tI a1),(2,tI a2),(3,tI a3),(10,tI v2)],[(30000,aD v1)]⟩) (fun (b3:LD)=>⟨[],[(30000,aD b3)]⟩) 0 (qul,0) (T211s0_L0 a1 a2 a3) fun b3=>.ret 0 b3
def G211s0(a1:Int)(a2:Int)(a3:Int)(qul:LD):Option LD:=(T211s0 a1 a2 a3 qul).den
theorem G211s0_ok(a1:Int)(a2:Int)(a3:Int)(qul:LD):ConH Tryz.prog 320 [.own 30000,tI a1,tI a2,tI a3,.fn (.func 69) 0 []] [(30000,aD qul)] [30000] (G211s0 a1 a2 a3 qul) (fun (y:LD)=>.tup []) (fun (y:LD)=>[(30000,aD y)]):=conH Tryz.func320 ti_ok (T211s0 a1 a2 a3 qul)
def T195s0_L0(a2:Int):(LD×Int×Int)→TP ((LD×Int×Int)⊕((LD×Int)⊕LD))
 | (v1,v2,v3)=>.ite 3 (v2 != v3) (.jn 3 0 (fun ((j6,j7,j8):LD×Int×Int)=>⟨[(0,.own 30000),(2,tI a2),(4,.fn (.func 69) 0 []),(10,tI j7),(11,tI j8)],[(30000,aD j6)]⟩) (.ite 0 (decide (v2>v3)) (.ch 7 [] (G211s0_ok (i64.wrap (a2-v2)) a2 v3 v1) fun r9=>.ret 4 (r9,i64.wrap (v2-v3),v3)) (.ch 11 [] (G211s0_ok (i64.wrap (a2-v2)) (i64.wrap ((i64.wrap (a2+v3))-v2)) v2 v1) fun r10=>.ret 4 (r10,v2,i64.wrap (v3-v2)))) fun (j6,j7,j8)=>.ret 0 (.inl (j6,j7,j8))) (.ret 0 (.inr (.inl (v1,v2))))
def T195s0(a1:Int)(a2:Int)(a3:Int)(qul:LD):TP LD:=.lp 8 (fun ((v1,v2,v3):LD×Int×Int)=>⟨[(0,.own 30000),(2,tI a2),(4,.fn (.func 69) 0 []),(10,tI v2),(11,tI v3)],[(30000,aD v1)]⟩) (fun ((b4,b5):LD×Int)=>⟨[(0,.own 30000),(2,tI a2),(4,.fn (.func 69) 0 []),(10,tI b5)],[(30000,aD b4)]⟩) 0 (qul,i64.wrap (a2-a1),i64.wrap (a3-a2)) (T195s0_L0 a2) fun (b4,b5)=>.ch 7 [] (G211s0_ok (i64.wrap (a2-b5)) a2 b5 b4) fun r11=>.ret 0 r11
def G195s0(a1:Int)(a2:Int)(a3:Int)(qul:LD):Option LD:=(T195s0 a1 a2 a3 qul).den
theorem G195s0_ok(a1:Int)(a2:Int)(a3:Int)(qul:LD):ConH Tryz.prog 294 [.own 30000,tI a1,tI a2,tI a3,.fn (.func 69) 0 []] [(30000,aD qul)] [30000] (G195s0 a1 a2 a3 qul) (fun (y:LD)=>.tup []) (fun (y:LD)=>[(30000,aD y)]):=conH Tryz.func294 ti_ok (T195s0 a1 a2 a3 qul)
abbrev R177s0:={f:(Int×Int×Int×LD)→Option LD // ∀ a:Int×Int×Int×LD,ConH Tryz.prog 272 [.own 30000,tI a.1,tI a.2.1,tI a.2.2.1,.fn (.func 69) 0 []] [(30000,.arr 50 3 (a.2.2.2.length) (eF cGDelta a.2.2.2))] [30000] (f a) (fun (y:LD)=>.tup []) (fun (y:LD)=>[(30000,aD y)])}
def T177s0_L0(a1:Int)(qul:LD):(Int×Int)→TP ((Int×Int)⊕((Int)⊕LD))
 | (v1,v2)=>.ite 3 (decide (v1<v2)) (.gd 5 (0≤(1:Int)) (by decide) <| .dg 3 (0≤(i64.wrap (shrI .u64 (u64.wrap (i64.wrap (v1+v2))) 1))∧(i64.wrap (shrI .u64 (u64.wrap (i64.wrap (v1+v2))) 1))<(qul.length:Int)) <| .dg 4 ((i64.wrap (shrI .u64 (u64.wrap (i64.wrap (v1+v2))) 1)).toNat<qul.length) <| .dg 7 (0≤a1∧a1<(qul.length:Int)) <| .dg 8 ((a1).toNat<qul.length) <| .dc 9 [.t (eGDelta (qul.getD (i64.wrap (shrI .u64 (u64.wrap (i64.wrap (v1+v2))) 1)).toNat default)),.t (eGDelta (qul.getD a1.toNat default))] (G61_ok (qul.getD (i64.wrap (shrI .u64 (u64.wrap (i64.wrap (v1+v2))) 1)).toNat default) (qul.getD a1.toNat default)) fun r4=>.dr 2 0 [(30000,false,[])] [0,1,4,10,11,12,31,32,33,34,35,36,37,38,39] <| .jn 0 0 (fun ((j5,j6):Int×Int)=>⟨[(0,.own 30000),(1,tI a1),(4,.fn (.func 69) 0 []),(10,tI j5),(11,tI j6)],[(30000,aD qul)]⟩) (.ite 0 (decide (r4<0)) (.ret 3 (i64.wrap ((i64.wrap (shrI .u64 (u64.wrap (i64.wrap (v1+v2))) 1))+1),v2)) (.ret 2 (v1,i64.wrap (shrI .u64 (u64.wrap (i64.wrap (v1+v2))) 1)))) fun (j5,j6)=>.ret 0 (.inl (j5,j6))) (.ret 0 (.inr (.inl v1)))
def T177s0_L1(b3:Int):(LD×Int)→TP ((LD×Int)⊕((LD)⊕LD))
 | (v7,v8)=>.ite 4 (decide (v8<(i64.wrap (b3-1)))) (.dg 8 (0≤(i64.wrap (v8+1))∧(i64.wrap (v8+1))<(v7.length:Int)) <| .dg 9 ((i64.wrap (v8+1)).toNat<v7.length) <| .dg 12 (0≤v8∧v8<(v7.length:Int)) <| .dg 13 ((v8).toNat<v7.length) <| .dg 14 (0≤v8∧v8<(v7.length:Int)) <| .dg 15 ((v8).toNat<v7.length) <| .dg 16 (0≤(i64.wrap (v8+1))∧(i64.wrap (v8+1))<(v7.length:Int)) <| .dg 17 ((i64.wrap (v8+1)).toNat<v7.length) <| .dr 0 0 [(30000,false,[15,17])] [0,10,13,55,56,57,58] <| .sto 0 30000 cGDelta v7 [((v8).toNat,v7.getD (i64.wrap (v8+1)).toNat default),((i64.wrap (v8+1)).toNat,v7.getD v8.toNat default)] <| .ret 3 (.inl ((v7.set v8.toNat (v7.getD (i64.wrap (v8+1)).toNat default)).set (i64.wrap (v8+1)).toNat (v7.getD v8.toNat default),i64.wrap (v8+1)))) (.ret 0 (.inr (.inl v7)))
def T177s0_L2(a2:Int)(qul:LD):(Int×Int)→TP ((Int×Int)⊕((Int)⊕LD))
 | (v10,v11)=>.ite 3 (decide (v10<v11)) (.gd 5 (0≤(1:Int)) (by decide) <| .dg 3 (0≤a2∧a2<(qul.length:Int)) <| .dg 4 ((a2).toNat<qul.length) <| .dg 7 (0≤(i64.wrap (shrI .u64 (u64.wrap (i64.wrap (v10+v11))) 1))∧(i64.wrap (shrI .u64 (u64.wrap (i64.wrap (v10+v11))) 1))<(qul.length:Int)) <| .dg 8 ((i64.wrap (shrI .u64 (u64.wrap (i64.wrap (v10+v11))) 1)).toNat<qul.length) <| .dc 9 [.t (eGDelta (qul.getD a2.toNat default)),.t (eGDelta (qul.getD (i64.wrap (shrI .u64 (u64.wrap (i64.wrap (v10+v11))) 1)).toNat default))] (G61_ok (qul.getD a2.toNat default) (qul.getD (i64.wrap (shrI .u64 (u64.wrap (i64.wrap (v10+v11))) 1)).toNat default)) fun r13=>.dr 2 0 [(30000,false,[])] [0,2,4,14,15,16,83,84,85,86,87,88,89,90,91] <| .jn 0 0 (fun ((j14,j15):Int×Int)=>⟨[(0,.own 30000),(2,tI a2),(4,.fn (.func 69) 0 []),(14,tI j14),(15,tI j15)],[(30000,aD qul)]⟩) (.ite 0 (!(decide (r13<0))) (.ret 3 (i64.wrap ((i64.wrap (shrI .u64 (u64.wrap (i64.wrap (v10+v11))) 1))+1),v11)) (.ret 2 (v10,i64.wrap (shrI .u64 (u64.wrap (i64.wrap (v10+v11))) 1)))) fun (j14,j15)=>.ret 0 (.inl (j14,j15))) (.ret 0 (.inr (.inl v10)))
def T177s0_L3(b12:Int):(LD×Int)→TP ((LD×Int)⊕((LD)⊕LD))
 | (v16,v17)=>.ite 3 (decide (v17>b12)) (.dg 8 (0≤(i64.wrap (v17-1))∧(i64.wrap (v17-1))<(v16.length:Int)) <| .dg 9 ((i64.wrap (v17-1)).toNat<v16.length) <| .dg 12 (0≤v17∧v17<(v16.length:Int)) <| .dg 13 ((v17).toNat<v16.length) <| .dg 14 (0≤v17∧v17<(v16.length:Int)) <| .dg 15 ((v17).toNat<v16.length) <| .dg 16 (0≤(i64.wrap (v17-1))∧(i64.wrap (v17-1))<(v16.length:Int)) <| .dg 17 ((i64.wrap (v17-1)).toNat<v16.length) <| .dr 0 0 [(30000,false,[15,17])] [0,14,17,108,109,110] <| .sto 0 30000 cGDelta v16 [((v17).toNat,v16.getD (i64.wrap (v17-1)).toNat default),((i64.wrap (v17-1)).toNat,v16.getD v17.toNat default)] <| .ret 3 (.inl ((v16.set v17.toNat (v16.getD (i64.wrap (v17-1)).toNat default)).set (i64.wrap (v17-1)).toNat (v16.getD v17.toNat default),i64.wrap (v17-1)))) (.ret 0 (.inr (.inl v16)))
def T177s0_L4(a1:Int)(a2:Int)(a3:Int)(qul:LD):(Int×Int)→TP ((Int×Int)⊕((Int)⊕LD))
 | (v21,v22)=>.ite 3 (decide (v21<v22)) (.gd 5 (0≤(1:Int)) (by decide) <| .dg 5 (0≤(i64.wrap ((i64.wrap ((i64.wrap ((i64.wrap (shrI .u64 (u64.wrap (i64.wrap (a1+a3))) 1))+a2))-1))-(i64.wrap (shrI .u64 (u64.wrap (i64.wrap (v21+v22))) 1))))∧(i64.wrap ((i64.wrap ((i64.wrap ((i64.wrap (shrI .u64 (u64.wrap (i64.wrap (a1+a3))) 1))+a2))-1))-(i64.wrap (shrI .u64 (u64.wrap (i64.wrap (v21+v22))) 1))))<(qul.length:Int)) <| .dg 6 ((i64.wrap ((i64.wrap ((i64.wrap ((i64.wrap (shrI .u64 (u64.wrap (i64.wrap (a1+a3))) 1))+a2))-1))-(i64.wrap (shrI .u64 (u64.wrap (i64.wrap (v21+v22))) 1)))).toNat<qul.length) <| .dg 9 (0≤(i64.wrap (shrI .u64 (u64.wrap (i64.wrap (v21+v22))) 1))∧(i64.wrap (shrI .u64 (u64.wrap (i64.wrap (v21+v22))) 1))<(qul.length:Int)) <| .dg 10 ((i64.wrap (shrI .u64 (u64.wrap (i64.wrap (v21+v22))) 1)).toNat<qul.length) <| .dc 11 [.t (eGDelta (qul.getD (i64.wrap ((i64.wrap ((i64.wrap ((i64.wrap (shrI .u64 (u64.wrap (i64.wrap (a1+a3))) 1))+a2))-1))-(i64.wrap (shrI .u64 (u64.wrap (i64.wrap (v21+v22))) 1)))).toNat default)),.t (eGDelta (qul.getD (i64.wrap (shrI .u64 (u64.wrap (i64.wrap (v21+v22))) 1)).toNat default))] (G61_ok (qul.getD (i64.wrap ((i64.wrap ((i64.wrap ((i64.wrap (shrI .u64 (u64.wrap (i64.wrap (a1+a3))) 1))+a2))-1))-(i64.wrap (shrI .u64 (u64.wrap (i64.wrap (v21+v22))) 1)))).toNat default) (qul.getD (i64.wrap (shrI .u64 (u64.wrap (i64.wrap (v21+v22))) 1)).toNat default)) fun r24=>.dr 2 0 [(30000,false,[])] [0,1,2,3,4,18,19,20,21,22,23,149,150,151,152,153,154,155,156,157] <| .jn 0 0 (fun ((j25,j26):Int×Int)=>⟨[(0,.own 30000),(1,tI a1),(2,tI a2),(3,tI a3),(4,.fn (.func 69) 0 []),(18,tI (i64.wrap (shrI .u64 (u64.wrap (i64.wrap (a1+a3))) 1))),(19,tI (i64.wrap ((i64.wrap (shrI .u64 (u64.wrap (i64.wrap (a1+a3))) 1))+a2))),(20,tI j25),(21,tI j26),(22,tI (i64.wrap ((i64.wrap ((i64.wrap (shrI .u64 (u64.wrap (i64.wrap (a1+a3))) 1))+a2))-1)))],[(30000,aD qul)]⟩) (.ite 0 (!(decide (r24<0))) (.ret 3 (i64.wrap ((i64.wrap (shrI .u64 (u64.wrap (i64.wrap (v21+v22))) 1))+1),v22)) (.ret 2 (v21,i64.wrap (shrI .u64 (u64.wrap (i64.wrap (v21+v22))) 1)))) fun (j25,j26)=>.ret 0 (.inl (j25,j26))) (.ret 0 (.inr (.inl v21)))
def T177s0(rec:R177s0)(a1:Int)(a2:Int)(a3:Int)(qul:LD):TP LD:=.ite 4 ((i64.wrap (a2-a1))==1) (.lp 4 (fun ((v1,v2):Int×Int)=>⟨[(0,.own 30000),(1,tI a1),(4,.fn (.func 69) 0 []),(10,tI v1),(11,tI v2)],[(30000,aD qul)]⟩) (fun (b3:Int)=>⟨[(0,.own 30000),(1,tI a1),(10,tI b3)],[(30000,aD qul)]⟩) 0 (a2,a3) (T177s0_L0 a1 qul) fun b3=>.lp 2 (fun ((v7,v8):LD×Int)=>⟨[(0,.own 30000),(10,tI b3),(13,tI v8)],[(30000,aD v7)]⟩) (fun (b9:LD)=>⟨[],[(30000,aD b9)]⟩) 2 (qul,a1) (T177s0_L1 b3) fun b9=>.ret 0 b9) (.ite 4 ((i64.wrap (a3-a2))==1) (.lp 4 (fun ((v10,v11):Int×Int)=>⟨[(0,.own 30000),(2,tI a2),(4,.fn (.func 69) 0 []),(14,tI v10),(15,tI v11)],[(30000,aD qul)]⟩) (fun (b12:Int)=>⟨[(0,.own 30000),(2,tI a2),(14,tI b12)],[(30000,aD qul)]⟩) 4 (a1,a2) (T177s0_L2 a2 qul) fun b12=>.lp 2 (fun ((v16,v17):LD×Int)=>⟨[(0,.own 30000),(14,tI b12),(17,tI v17)],[(30000,aD v16)]⟩) (fun (b18:LD)=>⟨[],[(30000,aD b18)]⟩) 6 (qul,a2) (T177s0_L3 b12) fun b18=>.ret 0 b18) (.gd 5 (0≤(1:Int)) (by decide) <| .jn 11 0 (fun ((j19,j20):Int×Int)=>⟨[(0,.own 30000),(1,tI a1),(2,tI a2),(3,tI a3),(4,.fn (.func 69) 0 []),(18,tI (i64.wrap (shrI .u64 (u64.wrap (i64.wrap (a1+a3))) 1))),(19,tI (i64.wrap ((i64.wrap (shrI .u64 (u64.wrap (i64.wrap (a1+a3))) 1))+a2))),(20,tI j19),(21,tI j20)],[(30000,aD qul)]⟩) (.ite 0 (decide (a2>(i64.wrap (shrI .u64 (u64.wrap (i64.wrap (a1+a3))) 1)))) (.ret 6 (i64.wrap ((i64.wrap ((i64.wrap (shrI .u64 (u64.wrap (i64.wrap (a1+a3))) 1))+a2))-a3),i64.wrap (shrI .u64 (u64.wrap (i64.wrap (a1+a3))) 1))) (.ret 4 (a1,a2))) fun (j19,j20)=>.lp 3 (fun ((v21,v22):Int×Int)=>⟨[(0,.own 30000),(1,tI a1),(2,tI a2),(3,tI a3),(4,.fn (.func 69) 0 []),(18,tI (i64.wrap (shrI .u64 (u64.wrap (i64.wrap (a1+a3))) 1))),(19,tI (i64.wrap ((i64.wrap (shrI .u64 (u64.wrap (i64.wrap (a1+a3))) 1))+a2))),(20,tI v21),(21,tI v22),(22,tI (i64.wrap ((i64.wrap ((i64.wrap (shrI .u64 (u64.wrap (i64.wrap (a1+a3))) 1))+a2))-1)))],[(30000,aD qul)]⟩) (fun (b23:Int)=>⟨[(0,.own 30000),(1,tI a1),(2,tI a2),(3,tI a3),(4,.fn (.func 69) 0 []),(18,tI (i64.wrap (shrI .u64 (u64.wrap (i64.wrap (a1+a3))) 1))),(19,tI (i64.wrap ((i64.wrap (shrI .u64 (u64.wrap (i64.wrap (a1+a3))) 1))+a2))),(20,tI b23)],[(30000,aD qul)]⟩) 8 (j19,j20) (T177s0_L4 a1 a2 a3 qul) fun b23=>.jn 8 0 (fun (j27:Bool)=>⟨[(0,.own 30000),(1,tI a1),(2,tI a2),(3,tI a3),(4,.fn (.func 69) 0 []),(18,tI (i64.wrap (shrI .u64 (u64.wrap (i64.wrap (a1+a3))) 1))),(20,tI b23),(24,tI (i64.wrap ((i64.wrap ((i64.wrap (shrI .u64 (u64.wrap (i64.wrap (a1+a3))) 1))+a2))-b23))),(185,tB j27)],[(30000,aD qul)]⟩) (.ite 0 (decide (b23<a2)) (.ret 4 (decide (a2<(i64.wrap ((i64.wrap ((i64.wrap (shrI .u64 (u64.wrap (i64.wrap (a1+a3))) 1))+a2))-b23))))) (.ret 4 false)) fun j27=>.jn 0 0 (fun (j28:LD)=>⟨[(0,.own 30000),(1,tI a1),(3,tI a3),(4,.fn (.func 69) 0 []),(18,tI (i64.wrap (shrI .u64 (u64.wrap (i64.wrap (a1+a3))) 1))),(20,tI b23),(24,tI (i64.wrap ((i64.wrap ((i64.wrap (shrI .u64 (u64.wrap (i64.wrap (a1+a3))) 1))+a2))-b23)))],[(30000,aD j28)]⟩) (.ite 0 j27 (.ch 5 [] (G195s0_ok b23 a2 (i64.wrap ((i64.wrap ((i64.wrap (shrI .u64 (u64.wrap (i64.wrap (a1+a3))) 1))+a2))-b23)) qul) fun r29=>.ret 0 r29) (.ret 0 qul)) fun j28=>.jn 4 0 (fun (j30:Bool)=>⟨[(0,.own 30000),(1,tI a1),(3,tI a3),(4,.fn (.func 69) 0 []),(18,tI (i64.wrap (shrI .u64 (u64.wrap (i64.wrap (a1+a3))) 1))),(20,tI b23),(24,tI (i64.wrap ((i64.wrap ((i64.wrap (shrI .u64 (u64.wrap (i64.wrap (a1+a3))) 1))+a2))-b23))),(199,tB j30)],[(30000,aD j28)]⟩) (.ite 0 (decide (a1<b23)) (.ret 4 (decide (b23<(i64.wrap (shrI .u64 (u64.wrap (i64.wrap (a1+a3))) 1))))) (.ret 4 false)) fun j30=>.jn 0 0 (fun (j31:LD)=>⟨[(0,.own 30000),(3,tI a3),(4,.fn (.func 69) 0 []),(18,tI (i64.wrap (shrI .u64 (u64.wrap (i64.wrap (a1+a3))) 1))),(24,tI (i64.wrap ((i64.wrap ((i64.wrap (shrI .u64 (u64.wrap (i64.wrap (a1+a3))) 1))+a2))-b23)))],[(30000,aD j31)]⟩) (.ite 0 j30 (.ch 5 [] (rec.2 (a1,b23,i64.wrap (shrI .u64 (u64.wrap (i64.wrap (a1+a3))) 1),j28)) fun r32=>.ret 0 r32) (.ret 0 j28)) fun j31=>.jn 4 0 (fun (j33:Bool)=>⟨[(0,.own 30000),(3,tI a3),(4,.fn (.func 69) 0 []),(18,tI (i64.wrap (shrI .u64 (u64.wrap (i64.wrap (a1+a3))) 1))),(24,tI (i64.wrap ((i64.wrap ((i64.wrap (shrI .u64 (u64.wrap (i64.wrap (a1+a3))) 1))+a2))-b23))),(213,tB j33)],[(30000,aD j31)]⟩) (.ite 0 (decide ((i64.wrap (shrI .u64 (u64.wrap (i64.wrap (a1+a3))) 1))<(i64.wrap ((i64.wrap ((i64.wrap (shrI .u64 (u64.wrap (i64.wrap (a1+a3))) 1))+a2))-b23)))) (.ret 4 (decide ((i64.wrap ((i64.wrap ((i64.wrap (shrI .u64 (u64.wrap (i64.wrap (a1+a3))) 1))+a2))-b23))<a3))) (.ret 4 false)) fun j33=>.jn 0 0 (fun (j34:LD)=>⟨[],[(30000,aD j34)]⟩) (.ite 0 j33 (.ch 5 [] (rec.2 (i64.wrap (shrI .u64 (u64.wrap (i64.wrap (a1+a3))) 1),i64.wrap ((i64.wrap ((i64.wrap (shrI .u64 (u64.wrap (i64.wrap (a1+a3))) 1))+a2))-b23),a3,j31)) fun r35=>.ret 0 r35) (.ret 0 j31)) fun j34=>.ret 0 j34))
theorem T177s0_ok(rec:R177s0)(a1:Int)(a2:Int)(a3:Int)(qul:LD):ConH Tryz.prog 272 [.own 30000,tI a1,tI a2,tI a3,.fn (.func 69) 0 []] [(30000,aD qul)] [30000] (T177s0 rec a1 a2 a3 qul).den (fun (y:LD)=>.tup []) (fun (y:LD)=>[(30000,aD y)]):=conH Tryz.func272 ti_ok (T177s0 rec a1 a2 a3 qul)
def H177s0(a:Int×Int×Int×LD):Option LD:=fixF (C:=fun (a:Int×Int×Int×LD) (x:Option LD)=>ConH Tryz.prog 272 [.own 30000,tI a.1,tI a.2.1,tI a.2.2.1,.fn (.func 69) 0 []] [(30000,.arr 50 3 (a.2.2.2.length) (eF cGDelta a.2.2.2))] [30000] x (fun (y:LD)=>.tup []) (fun (y:LD)=>[(30000,aD y)])) (fun a=>⟨callable_of Tryz.func272 (by kernel_rfl),fun _ h=>nomatch h⟩) (fun rec a=>T177s0 rec a.1 a.2.1 a.2.2.1 a.2.2.2) (fun rec a=>T177s0_ok rec a.1 a.2.1 a.2.2.1 a.2.2.2) a
theorem H177s0_ok(a:Int×Int×Int×LD):ConH Tryz.prog 272 [.own 30000,tI a.1,tI a.2.1,tI a.2.2.1,.fn (.func 69) 0 []] [(30000,.arr 50 3 (a.2.2.2.length) (eF cGDelta a.2.2.2))] [30000] (H177s0 a) (fun (y:LD)=>.tup []) (fun (y:LD)=>[(30000,aD y)]):=fixF_ok (C:=fun (a:Int×Int×Int×LD) (x:Option LD)=>ConH Tryz.prog 272 [.own 30000,tI a.1,tI a.2.1,tI a.2.2.1,.fn (.func 69) 0 []] [(30000,.arr 50 3 (a.2.2.2.length) (eF cGDelta a.2.2.2))] [30000] x (fun (y:LD)=>.tup []) (fun (y:LD)=>[(30000,aD y)])) _ _ _ a
def G177s0(a1:Int)(a2:Int)(a3:Int)(qul:LD):Option LD:=H177s0 (a1,a2,a3,qul)
theorem G177s0_ok(a1:Int)(a2:Int)(a3:Int)(qul:LD):ConH Tryz.prog 272 [.own 30000,tI a1,tI a2,tI a3,.fn (.func 69) 0 []] [(30000,aD qul)] [30000] (G177s0 a1 a2 a3 qul) (fun (y:LD)=>.tup []) (fun (y:LD)=>[(30000,aD y)]):=H177s0_ok (a1,a2,a3,qul)
def T133s1_L0(a1:Int):(LD×Int×Int)→TP ((LD×Int×Int)⊕((LD×Int)⊕LD))
 | (v1,v2,v3)=>.ite 3 (decide (v3≤a1)) (.ch 4 [] (G176s1_ok v2 v3 v1) fun r6=>.ret 6 (.inl (r6,v3,i64.wrap (v3+20)))) (.ret 0 (.inr (.inl (v1,v2))))
def T133s1_L2(a1:Int)(v9:Int):(LD×Int×Int)→TP ((LD×Int×Int)⊕((LD×Int)⊕((LD×Int)⊕((LD)⊕LD))))
 | (v11,v12,v13)=>.ite 3 (decide (v13≤a1)) (.ch 7 [] (G177s0_ok v12 (i64.wrap (v12+v9)) v13 v11) fun r16=>.ret 7 (.inl (r16,v13,i64.wrap (v13+(i64.wrap (2*v9)))))) (.ret 0 (.inr (.inl (v11,v12))))
def T133s1_L1(a1:Int):(LD×Int)→TP ((LD×Int)⊕((LD)⊕LD))
 | (v8,v9)=>.ite 3 (decide (v9<a1)) (.lp 4 (fun ((v11,v12,v13):LD×Int×Int)=>⟨[(0,.own 30000),(1,tI a1),(2,.fn (.func 69) 0 []),(6,tI v9),(7,tI v12),(8,tI v13)],[(30000,aD v11)]⟩) (fun ((b14,b15):LD×Int)=>⟨[(0,.own 30000),(1,tI a1),(2,.fn (.func 69) 0 []),(6,tI v9),(7,tI b15)],[(30000,aD b14)]⟩) 4 (v8,0,i64.wrap (2*v9)) (T133s1_L2 a1 v9) fun (b14,b15)=>.jn 7 0 (fun (j17:LD)=>⟨[(0,.own 30000),(1,tI a1),(2,.fn (.func 69) 0 []),(6,tI v9)],[(30000,aD j17)]⟩) (.ite 0 (decide ((i64.wrap (b15+v9))<a1)) (.ch 5 [] (G177s0_ok b15 (i64.wrap (b15+v9)) a1 b14) fun r18=>.ret 0 r18) (.ret 0 b14)) fun j17=>.ret 3 (.inl (j17,i64.wrap (v9*2)))) (.ret 0 (.inr (.inl v8)))
def T133s1(a1:Int)(qul:LD):TP LD:=.lp 4 (fun ((v1,v2,v3):LD×Int×Int)=>⟨[(0,.own 30000),(1,tI a1),(2,.fn (.func 69) 0 []),(6,tI 20),(7,tI v2),(8,tI v3)],[(30000,aD v1)]⟩) (fun ((b4,b5):LD×Int)=>⟨[(0,.own 30000),(1,tI a1),(2,.fn (.func 69) 0 []),(6,tI 20),(7,tI b5)],[(30000,aD b4)]⟩) 0 (qul,0,20) (T133s1_L0 a1) fun (b4,b5)=>.ch 4 [] (G176s1_ok b5 a1 b4) fun r7=>.lp 0 (fun ((v8,v9):LD×Int)=>⟨[(0,.own 30000),(1,tI a1),(2,.fn (.func 69) 0 []),(6,tI v9)],[(30000,aD v8)]⟩) (fun (b10:LD)=>⟨[],[(30000,aD b10)]⟩) 2 (r7,20) (T133s1_L1 a1) fun b10=>.ret 0 b10
def G133s1(a1:Int)(qul:LD):Option LD:=(T133s1 a1 qul).den
theorem G133s1_ok(a1:Int)(qul:LD):ConH Tryz.prog 214 [.own 30000,tI a1,.fn (.func 69) 0 []] [(30000,aD qul)] [30000] (G133s1 a1 qul) (fun (y:LD)=>.tup []) (fun (y:LD)=>[(30000,aD y)]):=conH Tryz.func214 ti_ok (T133s1 a1 qul)
def T63s1(qul:LD):TP LD:=.ch 4 [] (G133s1_ok (qul.length:Int) qul) fun r1=>.ret 0 r1
def G63s1(qul:LD):Option LD:=(T63s1 qul).den
theorem G63s1_ok(qul:LD):ConH Tryz.prog 153 [.own 30000,.fn (.func 69) 0 []] [(30000,aD qul)] [30000] (G63s1 qul) (fun (y:LD)=>.tup []) (fun (y:LD)=>[(30000,aD y)]):=conH Tryz.func153 ti_ok (T63s1 qul)
def T64s0(a0:List GValue):TP (List GValue):=.jn 2 0 (fun (j1:Bool)=>⟨[(0,tV a0),(4,tB j1)],[]⟩) (.ndb 0 a0.length (.ret 0 true) (.ret 0 false)) fun j1=>.ite 0 j1 (.cv 1 [.th 2 40000 67 3 (eF cGValue ([]:List GValue))] <| .ret 0 ([]:List GValue)) (.bs 0 true cGValue ([]:List GValue) <| .grd 2 ((([]:List GValue).length+a0.length)*32≤140737488355328) <| .cv 0 [.ap 7 cGValue ([]:List GValue) a0] <| .cv 1 [.rn 7 40000] <| .ret 0 (([]:List GValue)++a0))
def G64s0(a0:List GValue):Option (List GValue):=Det (T64s0 a0)
theorem G64s0_ok(a0:List GValue):ConH Tryz.prog 154 [tV a0] [] [] (G64s0 a0) (fun (y:(List GValue))=>.own 40000) (fun (y:(List GValue))=>[(40000,.arr 67 3 (y.length) (eF cGValue y))]):=conHD Tryz.func154 ti_ok (T64s0 a0)
def T42s0(a0:LD):TP LD:=.jn 2 0 (fun (j1:Bool)=>⟨[(0,tD a0),(4,tB j1)],[]⟩) (.ndb 0 a0.length (.ret 0 true) (.ret 0 false)) fun j1=>.ite 0 j1 (.cv 1 [.th 2 40000 50 3 (eF cGDelta ([]:LD))] <| .ret 0 ([]:LD)) (.bs 0 true cGDelta ([]:LD) <| .grd 2 ((([]:LD).length+a0.length)*40≤140737488355328) <| .cv 0 [.ap 7 cGDelta ([]:LD) a0] <| .cv 1 [.rn 7 40000] <| .ret 0 (([]:LD)++a0))
def G42s0(a0:LD):Option LD:=Det (T42s0 a0)
theorem G42s0_ok(a0:LD):ConH Tryz.prog 75 [tD a0] [] [] (G42s0 a0) (fun (y:LD)=>.own 40000) (fun (y:LD)=>[(40000,aD y)]):=conHD Tryz.func75 ti_ok (T42s0 a0)
def T27s0_L1(v3:LD):(Int×LD×Int)→TP ((Int×LD×Int)⊕((Int×LD×Int)⊕((LD×LD)⊕((LD)⊕LD))))
 | (v6,v7,v8)=>.jn 0 0 (fun ((j12,j13):LD×Bool)=>⟨[(3,tD v3),(4,.own 4),(5,.ptr 5 0),(6,tI v8),(29,tB j13)],[(4,aD j12),(5,.box [tI ((v3.getD (0:Int).toNat default).Time),tV ((v3.getD (0:Int).toNat default).Row),tI v6])]⟩) (.dl 4 (decide (v8<(v3.length:Int))) (.dg 8 (0≤v8∧v8<(v3.length:Int)) <| .dc 10 [.t (eGDelta (GDelta.mk ((v3.getD (0:Int).toNat default).Time) ((v3.getD (0:Int).toNat default).Row) v6)),.t (eGDelta (v3.getD v8.toNat default))] (G61_ok (GDelta.mk ((v3.getD (0:Int).toNat default).Time) ((v3.getD (0:Int).toNat default).Row) v6) (v3.getD v8.toNat default)) fun r14=>.dr 0 0 [(4,false,[]),(5,false,[])] [3,4,5,6] <| .ret 0 (v7,r14==0)) (.dr 0 0 [(4,false,[]),(5,false,[])] [3,4,5,6] <| .ret 0 (v7,false))) fun (j12,j13)=>.ite 0 j13 (.dg 4 (0≤v8∧v8<(v3.length:Int)) <| .dr 0 0 [(4,false,[]),(5,false,[9])] [3,4,5,6,29] <| .ret 3 (.inl (i64.wrap (v6+((v3.getD v8.toNat default).N)),j12,i64.wrap (v8+1)))) (.ret 0 (.inr (.inl (v6,j12,v8))))
def T27s0_L0:(LD×LD)→TP ((LD×LD)⊕((LD)⊕LD))
 | (v3,v4)=>.ite 3 (decide ((v3.length:Int)>0)) (.grd 2 (0≤(0:Int)∧(0:Int)<(v3.length:Int)) <| .lp 4 (fun ((v6,v7,v8):Int×LD×Int)=>⟨[(3,tD v3),(4,.own 4),(5,.ptr 5 0),(6,tI v8)],[(4,aD v7),(5,.box [tI ((v3.getD (0:Int).toNat default).Time),tV ((v3.getD (0:Int).toNat default).Row),tI v6])]⟩) (fun ((b9,b10,b11):Int×LD×Int)=>⟨[(3,tD v3),(4,.own 4),(5,.ptr 5 0),(6,tI b11)],[(4,aD b10),(5,.box [tI ((v3.getD (0:Int).toNat default).Time),tV ((v3.getD (0:Int).toNat default).Row),tI b9])]⟩) 2 ((v3.getD (0:Int).toNat default).N,v4,1) (T27s0_L1 v3) fun (b9,b10,b11)=>.jn 3 0 (fun (j15:LD)=>⟨[(3,tD v3),(4,.own 4),(6,tI b11)],[(4,aD j15)]⟩) (.ite 0 (b9 != 0) (.ch 2 [40000] (G64s0_ok ((v3.getD (0:Int).toNat default).Row)) fun r16=>.cv 0 [.rn 40000 46] <| .cv 3 [.fr 46 (eL cGValue r16)] <| .bs 1 true cGDelta ([(GDelta.mk ((v3.getD (0:Int).toNat default).Time) r16 b9)]:LD) <| .grd 1 ((b10.length+([(GDelta.mk ((v3.getD (0:Int).toNat default).Time) r16 b9)]:LD).length)*40≤140737488355328) <| .cv 0 [.ap 51 cGDelta b10 ([(GDelta.mk ((v3.getD (0:Int).toNat default).Time) r16 b9)]:LD)] <| .cv 1 [.rn 51 4] <| .ret 0 (b10++([(GDelta.mk ((v3.getD (0:Int).toNat default).Time) r16 b9)]:LD))) (.ret 0 b10)) fun j15=>.slc 3 54 cGDelta v3 (b11:Int) (v3.length:Int) <| .ret 1 (.inl ((v3.drop (b11:Int).toNat).take ((v3.length:Int)-(b11:Int)).toNat,j15))) (.ret 0 (.inr (.inl v4)))
def T27s0(a0:LD):TP LD:=.ch 2 [40000] (G42s0_ok a0) fun r1=>.cv 0 [.rn 40000 8] <| .cv 2 [.rn 8 30000] <| .ch 0 [] (G63s1_ok r1) fun r2=>.cv 1 [.fr 30000 (eL cGDelta r2),.th 4 4 50 3 (eF cGDelta ([]:LD))] <| .lp 0 (fun ((v3,v4):LD×LD)=>⟨[(3,tD v3),(4,.own 4)],[(4,aD v4)]⟩) (fun (b5:LD)=>⟨[(4,.own 4)],[(4,aD b5)]⟩) 0 (r2,([]:LD)) T27s0_L0 fun b5=>.cv 2 [.rn 4 40000] <| .ret 0 b5
def G27s0(a0:LD):Option LD:=(T27s0 a0).den
theorem G27s0_ok(a0:LD):ConH Tryz.prog 66 [tD a0] [] [] (G27s0 a0) (fun (y:LD)=>.own 40000) (fun (y:LD)=>[(40000,aD y)]):=conH Tryz.func66 ti_ok (T27s0 a0)
def T40s1(a0:GDelta)(qv0:Int):TP Bool:=.ret 7 (decide (a0.Time≤qv0))
def G40s1(a0:GDelta)(qv0:Int):Option Bool:=(T40s1 a0 qv0).den
theorem G40s1_ok(a0:GDelta)(qv0:Int):ConH Tryz.prog 73 [.t (eGDelta a0),.ptr 30001 0] [(30001,.box (([.int .i64 qv0]).map .t))] [30001] (G40s1 a0 qv0) tB (fun (y:Bool)=>[(30001,.box (([.int .i64 qv0]).map .t))]):=conH Tryz.func73 ti_ok (T40s1 a0 qv0)
def T105s1_L0(qul:LD)(qv0:Int):Int→TP ((Int)⊕((Unit)⊕Int))
 | v1=>.ite 1 (decide (v1<(qul.length:Int))) (.grd 6 (0≤v1∧v1<(qul.length:Int)) <| .grd 1 ((v1).toNat<qul.length) <| .ch 0 [] (G40s1_ok (qul.getD v1.toNat default) qv0) fun r2=>.ite 0 r2 (.ret 2 (.inr (.inr v1))) (.ret 2 (.inl (i64.wrap (v1+1))))) (.ret 0 (.inr (.inl ())))
def T105s1(qul:LD)(qv0:Int):TP Int:=.lp 4 (fun (v1:Int)=>⟨[(0,.own 30000),(1,.fn (.func 73) 0 [.ptr 30001 0]),(7,tI (qul.length:Int)),(8,tI v1)],[(30000,aD qul),(30001,.box (([.int .i64 qv0]).map .t))]⟩) (fun (_:Unit)=>⟨[],[(30000,aD qul),(30001,.box (([.int .i64 qv0]).map .t))]⟩) 0 0 (T105s1_L0 qul qv0) fun _=>.ret 1 (-1)
def G105s1(qul:LD)(qv0:Int):Option Int:=(T105s1 qul qv0).den
theorem G105s1_ok(qul:LD)(qv0:Int):ConH Tryz.prog 165 [.own 30000,.fn (.func 73) 0 [.ptr 30001 0]] [(30000,aD qul),(30001,.box (([.int .i64 qv0]).map .t))] [30000,30001] (G105s1 qul qv0) tI (fun (y:Int)=>[(30000,aD qul),(30001,.box (([.int .i64 qv0]).map .t))]):=conH Tryz.func165 ti_ok (T105s1 qul qv0)
def T41s2_L0(qv0:Int):(LD×Int×Int)→TP ((LD×Int×Int)⊕((LD×Int)⊕LD))
 | (v2,v3,v4)=>.ite 4 (decide (v4<(v2.length:Int))) (.grd 3 (0≤v4∧v4<(v2.length:Int)) <| .grd 1 ((v4).toNat<v2.length) <| .ch 4 [] (G40s1_ok (v2.getD v4.toNat default) qv0) fun r7=>.jn 1 0 (fun ((j8,j9):LD×Int)=>⟨[(0,.own 0),(1,.fn (.func 73) 0 [.ptr 30001 0]),(5,tI j9),(6,tI v4)],[(0,aD j8),(30001,.box (([.int .i64 qv0]).map .t))]⟩) (.ite 0 (!r7) (.grd 4 (0≤v3∧v3<(v2.length:Int)) <| .grd 1 ((v3).toNat<v2.length) <| .sto 0 0 cGDelta v2 [((v3).toNat,v2.getD v4.toNat default)] <| .ret 3 (v2.set v3.toNat (v2.getD v4.toNat default),i64.wrap (v3+1))) (.ret 0 (v2,v3))) fun (j8,j9)=>.ret 3 (.inl (j8,j9,i64.wrap (v4+1)))) (.ret 0 (.inr (.inl (v2,v3))))
def T41s2(qul:LD)(qv0:Int):TP LD:=.ch 3 [] (G105s1_ok qul qv0) fun r1=>.ite 3 (r1==(-1)) (.cv 2 [.fr 30000 (eL cGDelta qul)] <| .ret 0 qul) (.cv 3 [.rn 30000 0] <| .lp 0 (fun ((v2,v3,v4):LD×Int×Int)=>⟨[(0,.own 0),(1,.fn (.func 73) 0 [.ptr 30001 0]),(5,tI v3),(6,tI v4)],[(0,aD v2),(30001,.box (([.int .i64 qv0]).map .t))]⟩) (fun ((b5,b6):LD×Int)=>⟨[(0,.own 0),(5,tI b6)],[(0,aD b5),(30001,.box (([.int .i64 qv0]).map .t))]⟩) 0 (qul,r1,i64.wrap (r1+1)) (T41s2_L0 qv0) fun (b5,b6)=>.clr 2 cGDelta b5 b6 <| .cut 2 cGDelta (b5.take b6.toNat++List.replicate (b5.length-b6.toNat) default) b6 <| .cv 1 [.fr 41 (eL cGDelta ((b5.take b6.toNat++List.replicate (b5.length-b6.toNat) default).take b6.toNat))] <| .ret 0 ((b5.take b6.toNat++List.replicate (b5.length-b6.toNat) default).take b6.toNat))
def G41s2(qul:LD)(qv0:Int):Option LD:=(T41s2 qul qv0).den
theorem G41s2_ok(qul:LD)(qv0:Int):ConH Tryz.prog 74 [.own 30000,.fn (.func 73) 0 [.ptr 30001 0]] [(30000,aD qul),(30001,.box (([.int .i64 qv0]).map .t))] [30001] (G41s2 qul qv0) tD (fun (y:LD)=>[(30001,.box (([.int .i64 qv0]).map .t))]):=conH Tryz.func74 ti_ok (T41s2 qul qv0)
def T14(a0:LD)(a1:Int):TP LD:=.ch 5 [40000] (G42s0_ok a0) fun r1=>.cv 0 [.rn 40000 8] <| .cv 1 [.rn 8 30000] <| .cv 0 [.rn 3 30001] <| .ch 0 [] (G41s2_ok r1 a1) fun r2=>.ch 0 [40000] (G27s0_ok r2) fun r3=>.cv 0 [.rn 40000 11] <| .cv 1 [.fr 11 (eL cGDelta r3)] <| .ret 0 r3
def G14(a0:LD)(a1:Int):Option LD:=(T14 a0 a1).den
theorem G14_ok(a0:LD)(a1:Int):Con Tryz.prog 22 [tD a0,tI a1] (G14 a0 a1) tD:=con Tryz.func22 ti_ok (T14 a0 a1)
def T339s0(a1:ByteArray)(a2:LD)(qu0:List GFunc)(qu1:GNode)(qu2:Int)(qum:LM)(hi30001:List ByteArray):TP LM:=.cv 6 [.gp 30001 mD (qum:LM) a1] <| .upd 0 mD (mdel qum a1:LM) a1 <| .jn 3 0 (fun (j1:LM)=>⟨[],[(30000,bP qu0 qu1 30001 qu2),(30001,.mp (some ⟨30,kTs (hi30001:List ByteArray),none⟩) (eM mD (j1:LM)) none)]⟩) (.ite 0 ((a2.length:Int)==0) (.dlt 5 mD (mdel qum a1:LM) a1 (some (tD a2)) <| .ret 0 (mdel qum a1)) (.cv 0 [.fd 30001 vD (qum:LM) a1 (a2:LD),.nc 30001] <| .ret 0 (mput qum a1 (a2:LD)))) fun j1=>.ret 0 j1
def G339s0(a1:ByteArray)(a2:LD)(qu0:List GFunc)(qu1:GNode)(qu2:Int)(qum:LM)(hi30001:List ByteArray):Option LM:=(T339s0 a1 a2 qu0 qu1 qu2 qum hi30001).den
theorem G339s0_ok(a1:ByteArray)(a2:LD)(qu0:List GFunc)(qu1:GNode)(qu2:Int)(qum:LM)(hi30001:List ByteArray):ConH Tryz.prog 65 [.ptr 30000 0,.t (.str a1),tD a2] [(30000,bP qu0 qu1 30001 qu2),(30001,.mp (some ⟨30,kTs (hi30001:List ByteArray),some (.str a1)⟩) (eM mD (qum:LM)) none)] [30000,30001,30] (G339s0 a1 a2 qu0 qu1 qu2 qum hi30001) (fun (y:LM)=>.tup []) (fun (y:LM)=>[(30000,bP qu0 qu1 30001 qu2),(30001,.mp (some ⟨30,kTs (hi30001:List ByteArray),none⟩) (eM mD (y:LM)) none)]):=conH Tryz.func65 ti_ok (T339s0 a1 a2 qu0 qu1 qu2 qum hi30001)
def T314s0_L0(a1:Int)(qu0:List GFunc)(qu1:GNode)(r1:Int×Int):((List ByteArray)×LM)→TP (((List ByteArray)×LM)⊕(((List ByteArray)×LM)⊕(LM×Int)))
 | (v2,v3)=>.nxd 0 vD (v3:LM) (v2:List ByteArray) (.ret 2 (.inr (.inl (v2,v3)))) fun k6 c7=>.gd 3 ((.str k6:T) = .str k6) rfl <| .ca 10 (G14_ok c7 (i64.wrap (a1-r1.1))) fun r8=>.cv 0 [.fd 30001 vD (v3:LM) k6 (c7:LD)] <| .ch 0 [] (G339s0_ok k6 r8 qu0 qu1 a1 (mput v3 k6 (c7:LD)) (kerase v2 k6)) fun r9=>.ret 0 (.inl (kerase v2 k6,r9))
def T314s0(a1:Int)(qu0:List GFunc)(qu1:GNode)(qu2:Int)(qum:LM):TP (LM×Int):=.ite 6 (decide (a1≤qu2)) (.ret 0 (qum,qu2)) (.ca 9 (G10_ok qu1) fun r1=>.rng 9 mD (qum:LM) <| .lp 0 (fun ((v2,v3):(List ByteArray)×LM)=>⟨[(0,.ptr 30000 0),(1,tI a1),(4,tI r1.1),(30,.ptr 30 0)],[(30000,bP qu0 qu1 30001 a1),(30001,.mp (some ⟨30,kTs (v2:List ByteArray),none⟩) (eM mD (v3:LM)) none)]⟩) (fun ((b4,b5):(List ByteArray)×LM)=>⟨[],[(30000,bP qu0 qu1 30001 a1),(30001,.mp (some ⟨30,kTs (b4:List ByteArray),none⟩) (eM mD (b5:LM)) none)]⟩) 0 (mkeys qum,qum) (T314s0_L0 a1 qu0 qu1 r1) fun (b4,b5)=>.cv 0 [.ni 30001] <| .ret 0 (b5,a1))
def G314s0(a1:Int)(qu0:List GFunc)(qu1:GNode)(qu2:Int)(qum:LM):Option (LM×Int):=Det (T314s0 a1 qu0 qu1 qu2 qum)
theorem G314s0_ok(a1:Int)(qu0:List GFunc)(qu1:GNode)(qu2:Int)(qum:LM):ConH Tryz.prog 18 [.ptr 30000 0,tI a1] [(30000,bP qu0 qu1 30001 qu2),(30001,pD qum)] [30000,30001] (G314s0 a1 qu0 qu1 qu2 qum) (fun (y:LM×Int)=>.tup []) (fun (y:LM×Int)=>[(30000,bP qu0 qu1 30001 y.2),(30001,.mp none (eM mD (y.1:LM)) none)]):=conHD Tryz.func18 ti_ok (T314s0 a1 qu0 qu1 qu2 qum)
def T27_L1(v3:LD):(Int×LD×Int)→TP ((Int×LD×Int)⊕((Int×LD×Int)⊕((LD×LD)⊕((LD)⊕LD))))
 | (v6,v7,v8)=>.jn 0 0 (fun ((j12,j13):LD×Bool)=>⟨[(3,tD v3),(4,.own 4),(5,.ptr 5 0),(6,tI v8),(29,tB j13)],[(4,aD j12),(5,.box [tI ((v3.getD (0:Int).toNat default).Time),tV ((v3.getD (0:Int).toNat default).Row),tI v6])]⟩) (.dl 4 (decide (v8<(v3.length:Int))) (.dg 8 (0≤v8∧v8<(v3.length:Int)) <| .dc 10 [.t (eGDelta (GDelta.mk ((v3.getD (0:Int).toNat default).Time) ((v3.getD (0:Int).toNat default).Row) v6)),.t (eGDelta (v3.getD v8.toNat default))] (G61_ok (GDelta.mk ((v3.getD (0:Int).toNat default).Time) ((v3.getD (0:Int).toNat default).Row) v6) (v3.getD v8.toNat default)) fun r14=>.dr 0 0 [(4,false,[]),(5,false,[])] [3,4,5,6] <| .ret 0 (v7,r14==0)) (.dr 0 0 [(4,false,[]),(5,false,[])] [3,4,5,6] <| .ret 0 (v7,false))) fun (j12,j13)=>.ite 0 j13 (.dg 4 (0≤v8∧v8<(v3.length:Int)) <| .dr 0 0 [(4,false,[]),(5,false,[9])] [3,4,5,6,29] <| .ret 3 (.inl (i64.wrap (v6+((v3.getD v8.toNat default).N)),j12,i64.wrap (v8+1)))) (.ret 0 (.inr (.inl (v6,j12,v8))))
def T27_L0:(LD×LD)→TP ((LD×LD)⊕((LD)⊕LD))
 | (v3,v4)=>.ite 3 (decide ((v3.length:Int)>0)) (.grd 2 (0≤(0:Int)∧(0:Int)<(v3.length:Int)) <| .lp 4 (fun ((v6,v7,v8):Int×LD×Int)=>⟨[(3,tD v3),(4,.own 4),(5,.ptr 5 0),(6,tI v8)],[(4,aD v7),(5,.box [tI ((v3.getD (0:Int).toNat default).Time),tV ((v3.getD (0:Int).toNat default).Row),tI v6])]⟩) (fun ((b9,b10,b11):Int×LD×Int)=>⟨[(3,tD v3),(4,.own 4),(5,.ptr 5 0),(6,tI b11)],[(4,aD b10),(5,.box [tI ((v3.getD (0:Int).toNat default).Time),tV ((v3.getD (0:Int).toNat default).Row),tI b9])]⟩) 2 ((v3.getD (0:Int).toNat default).N,v4,1) (T27_L1 v3) fun (b9,b10,b11)=>.jn 3 0 (fun (j15:LD)=>⟨[(3,tD v3),(4,.own 4),(6,tI b11)],[(4,aD j15)]⟩) (.ite 0 (b9 != 0) (.ch 2 [40000] (G64s0_ok ((v3.getD (0:Int).toNat default).Row)) fun r16=>.cv 0 [.rn 40000 46] <| .cv 3 [.fr 46 (eL cGValue r16)] <| .bs 1 true cGDelta ([(GDelta.mk ((v3.getD (0:Int).toNat default).Time) r16 b9)]:LD) <| .grd 1 ((b10.length+([(GDelta.mk ((v3.getD (0:Int).toNat default).Time) r16 b9)]:LD).length)*40≤140737488355328) <| .cv 0 [.ap 51 cGDelta b10 ([(GDelta.mk ((v3.getD (0:Int).toNat default).Time) r16 b9)]:LD)] <| .cv 1 [.rn 51 4] <| .ret 0 (b10++([(GDelta.mk ((v3.getD (0:Int).toNat default).Time) r16 b9)]:LD))) (.ret 0 b10)) fun j15=>.slc 3 54 cGDelta v3 (b11:Int) (v3.length:Int) <| .ret 1 (.inl ((v3.drop (b11:Int).toNat).take ((v3.length:Int)-(b11:Int)).toNat,j15))) (.ret 0 (.inr (.inl v4)))
def T27(a0:LD):TP LD:=.ch 2 [40000] (G42s0_ok a0) fun r1=>.cv 0 [.rn 40000 8] <| .cv 2 [.rn 8 30000] <| .ch 0 [] (G63s1_ok r1) fun r2=>.cv 1 [.fr 30000 (eL cGDelta r2),.th 4 4 50 3 (eF cGDelta ([]:LD))] <| .lp 0 (fun ((v3,v4):LD×LD)=>⟨[(3,tD v3),(4,.own 4)],[(4,aD v4)]⟩) (fun (b5:LD)=>⟨[(4,.own 4)],[(4,aD b5)]⟩) 0 (r2,([]:LD)) T27_L0 fun b5=>.cv 2 [.fr 4 (eL cGDelta b5)] <| .ret 0 b5
def G27(a0:LD):Option LD:=(T27 a0).den
theorem G27_ok(a0:LD):Con Tryz.prog 66 [tD a0] (G27 a0) tD:=con Tryz.func66 ti_ok (T27 a0)
def T104s0(a1:Int):TP LD:=.ite 3 (decide (a1<0)) (.no) (.jn 10 0 (fun (j1:LD)=>⟨[(0,.own 0)],[(0,aD j1)]⟩) (.ite 0 (decide ((i64.wrap (a1-0))>0)) (.gd 4 (0≤(0:Int)∧(0:Int)≤(0:Int)∧(0:Int)≤0) (by decide) <| .apz 1 cGDelta 40 (i64.wrap (a1-0)) <| .cut 2 cGDelta (List.replicate (i64.wrap (a1-0)).toNat (default:GDelta)) (0:Int) <| .cv 1 [.rn 25 0] <| .ret 0 ((List.replicate (i64.wrap (a1-0)).toNat (default:GDelta)).take (0:Int).toNat)) (.cv 0 [.th 0 0 50 3 (eF cGDelta ([]:LD))] <| .ret 0 ([]:LD))) fun j1=>.cv 2 [.rn 0 40000] <| .ret 0 j1)
def G104s0(a1:Int):Option LD:=(T104s0 a1).den
theorem G104s0_ok(a1:Int):ConH Tryz.prog 155 [.nil,tI a1] [] [] (G104s0 a1) (fun (y:LD)=>.own 40000) (fun (y:LD)=>[(40000,aD y)]):=conH Tryz.func155 ti_ok (T104s0 a1)
def T39_L0(a0:List LD):(Int×Int)→TP ((Int×Int)⊕((Int)⊕LD))
 | (v1,v2)=>.ite 1 (decide (v2<(a0.length:Int))) (.grd 1 (0≤v2∧v2<(a0.length:Int)) <| .ite 9 (decide ((i64.wrap (v1+((a0.getD v2.toNat default).length:Int)))<0)) (.no) (.ret 2 (.inl (i64.wrap (v1+((a0.getD v2.toNat default).length:Int)),i64.wrap (v2+1))))) (.ret 0 (.inr (.inl v1)))
def T39_L1(a0:List LD):(LD×Int)→TP ((LD×Int)⊕((LD)⊕LD))
 | (v5,v6)=>.ite 1 (decide (v6<(a0.length:Int))) (.grd 1 (0≤v6∧v6<(a0.length:Int)) <| .grd 5 ((v5.length+(a0.getD v6.toNat default).length)*40≤140737488355328) <| .cv 0 [.ap 33 cGDelta v5 (a0.getD v6.toNat default)] <| .cv 3 [.rn 33 6] <| .ret 0 (.inl (v5++(a0.getD v6.toNat default),i64.wrap (v6+1)))) (.ret 0 (.inr (.inl v5)))
def T39(a0:List LD):TP LD:=.lp 5 (fun ((v1,v2):Int×Int)=>⟨[(0,.t (eL cL_cGDelta a0)),(3,tI v1),(9,.t (eL cL_cGDelta a0)),(10,tI (a0.length:Int)),(11,tI v2)],[]⟩) (fun (b3:Int)=>⟨[(0,.t (eL cL_cGDelta a0)),(3,tI b3)],[]⟩) 0 (0,0) (T39_L0 a0) fun b3=>.ch 1 [40000] (G104s0_ok b3) fun r4=>.cv 0 [.rn 40000 24] <| .cv 4 [.rn 24 6] <| .lp 0 (fun ((v5,v6):LD×Int)=>⟨[(6,.own 6),(25,.t (eL cL_cGDelta a0)),(26,tI (a0.length:Int)),(27,tI v6)],[(6,aD v5)]⟩) (fun (b7:LD)=>⟨[(6,.own 6)],[(6,aD b7)]⟩) 2 (r4,0) (T39_L1 a0) fun b7=>.cv 2 [.fr 6 (eL cGDelta b7)] <| .ret 0 b7
def G39(a0:List LD):Option LD:=(T39 a0).den
theorem G39_ok(a0:List LD):Con Tryz.prog 67 [.t (eL cL_cGDelta a0)] (G39 a0) tD:=con Tryz.func67 ti_ok (T39 a0)
def T12(a0:LD)(a1:LD):TP LD:=.bs 3 false cL_cGDelta ([a0,a1]:List LD) <| .ca 0 (G39_ok ([a0,a1]:List LD)) fun r1=>.ca 0 (G27_ok r1) fun r2=>.ret 1 r2
def G12(a0:LD)(a1:LD):Option LD:=(T12 a0 a1).den
theorem G12_ok(a0:LD)(a1:LD):Con Tryz.prog 19 [tD a0,tD a1] (G12 a0 a1) tD:=con Tryz.func19 ti_ok (T12 a0 a1)
def T129_L0(a1:LD):(LD×Int)→TP ((LD×Int)⊕((LD)⊕LD))
 | (v2,v3)=>.ite 1 (decide (v3<(a1.length:Int))) (.grd 1 (0≤v3∧v3<(a1.length:Int)) <| .bs 10 true cGDelta ([(GDelta.mk ((a1.getD v3.toNat default).Time) ((a1.getD v3.toNat default).Row) (i64.wrap (0-((a1.getD v3.toNat default).N))))]:LD) <| .grd 1 ((v2.length+([(GDelta.mk ((a1.getD v3.toNat default).Time) ((a1.getD v3.toNat default).Row) (i64.wrap (0-((a1.getD v3.toNat default).N))))]:LD).length)*40≤140737488355328) <| .cv 0 [.ap 23 cGDelta v2 ([(GDelta.mk ((a1.getD v3.toNat default).Time) ((a1.getD v3.toNat default).Row) (i64.wrap (0-((a1.getD v3.toNat default).N))))]:LD)] <| .cv 3 [.rn 23 5] <| .ret 0 (.inl (v2++([(GDelta.mk ((a1.getD v3.toNat default).Time) ((a1.getD v3.toNat default).Row) (i64.wrap (0-((a1.getD v3.toNat default).N))))]:LD),i64.wrap (v3+1)))) (.ret 0 (.inr (.inl v2)))
def T129(a0:LD)(a1:LD):TP LD:=.ch 2 [40000] (G42s0_ok a0) fun r1=>.cv 0 [.rn 40000 9] <| .cv 4 [.rn 9 5] <| .lp 0 (fun ((v2,v3):LD×Int)=>⟨[(5,.own 5),(10,tD a1),(11,tI (a1.length:Int)),(12,tI v3)],[(5,aD v2)]⟩) (fun (b4:LD)=>⟨[(5,.own 5)],[(5,aD b4)]⟩) 0 (r1,0) (T129_L0 a1) fun b4=>.cv 1 [.fr 5 (eL cGDelta b4)] <| .ch 0 [40000] (G27s0_ok b4) fun r5=>.cv 0 [.rn 40000 26] <| .cv 1 [.fr 26 (eL cGDelta r5)] <| .ret 0 r5
def G129(a0:LD)(a1:LD):Option LD:=(T129 a0 a1).den
theorem G129_ok(a0:LD)(a1:LD):Con Tryz.prog 29 [tD a0,tD a1] (G129 a0 a1) tD:=con Tryz.func29 ti_ok (T129 a0 a1)
def T339s1(a1:ByteArray)(a2:LD)(qu0:List GFunc)(qu1:GNode)(qu2:Int)(qum:LM):TP LM:=.cv 6 [.gp 30001 mD (qum:LM) a1] <| .upd 0 mD (mdel qum a1:LM) a1 <| .jn 3 0 (fun (j1:LM)=>⟨[],[(30000,bP qu0 qu1 30001 qu2),(30001,pD j1)]⟩) (.ite 0 ((a2.length:Int)==0) (.dlt 5 mD (mdel qum a1:LM) a1 (some (tD a2)) <| .ret 0 (mdel qum a1)) (.cv 0 [.fd 30001 vD (qum:LM) a1 (a2:LD)] <| .ret 0 (mput qum a1 (a2:LD)))) fun j1=>.ret 0 j1
def G339s1(a1:ByteArray)(a2:LD)(qu0:List GFunc)(qu1:GNode)(qu2:Int)(qum:LM):Option LM:=(T339s1 a1 a2 qu0 qu1 qu2 qum).den
theorem G339s1_ok(a1:ByteArray)(a2:LD)(qu0:List GFunc)(qu1:GNode)(qu2:Int)(qum:LM):ConH Tryz.prog 65 [.ptr 30000 0,.t (.str a1),tD a2] [(30000,bP qu0 qu1 30001 qu2),(30001,pD qum)] [30000,30001] (G339s1 a1 a2 qu0 qu1 qu2 qum) (fun (y:LM)=>.tup []) (fun (y:LM)=>[(30000,bP qu0 qu1 30001 qu2),(30001,pD y)]):=conH Tryz.func65 ti_ok (T339s1 a1 a2 qu0 qu1 qu2 qum)
def T51(a0:Int):TP ByteArray:=.ca 2 (G117_ok a0) fun r1=>.grd 1 (((r1.size+((⟨#[59]⟩):ByteArray).size:Nat):Int)≤9223372036854775807) <| .ret 1 (r1++((⟨#[59]⟩):ByteArray))
def G51(a0:Int):Option ByteArray:=(T51 a0).den
theorem G51_ok(a0:Int):Con Tryz.prog 78 [tI a0] (G51 a0) (fun (y:ByteArray)=>.t (.str y)):=con Tryz.func78 ti_ok (T51 a0)
def T119(a0:Int):TP ByteArray:=.ite 3 (decide (a0<0)) (.ret 1 (⟨#[]⟩)) (.ca 1 (G51_ok a0) fun r1=>.ret 1 r1)
def G119(a0:Int):Option ByteArray:=(T119 a0).den
theorem G119_ok(a0:Int):Con Tryz.prog 168 [tI a0] (G119 a0) (fun (y:ByteArray)=>.t (.str y)):=con Tryz.func168 ti_ok (T119 a0)
def T52(a0:ByteArray):TP ByteArray:=.ca 3 (G117_ok ((a0:ByteArray).size:Int)) fun r1=>.grd 1 (((r1.size+((⟨#[58]⟩):ByteArray).size:Nat):Int)≤9223372036854775807) <| .grd 2 (((((r1++((⟨#[58]⟩):ByteArray)):ByteArray).size+a0.size:Nat):Int)≤9223372036854775807) <| .grd 1 (((((((r1++((⟨#[58]⟩):ByteArray)):ByteArray)++a0):ByteArray).size+((⟨#[44]⟩):ByteArray).size:Nat):Int)≤9223372036854775807) <| .ret 1 (((((r1++((⟨#[58]⟩):ByteArray)):ByteArray)++a0):ByteArray)++((⟨#[44]⟩):ByteArray))
def G52(a0:ByteArray):Option ByteArray:=(T52 a0).den
theorem G52_ok(a0:ByteArray):Con Tryz.prog 169 [.t (.str a0)] (G52 a0) (fun (y:ByteArray)=>.t (.str y)):=con Tryz.func169 ti_ok (T52 a0)
def T168(a0:GValue):TP ByteArray:=.dc 2 [tI a0.Kind] (G51_ok a0.Kind) fun r1=>.dc 5 [tI a0.N] (G51_ok a0.N) fun r2=>.dg 6 (((r1.size+r2.size:Nat):Int)≤9223372036854775807) <| .dc 9 [.t (.str (a0.S))] (G52_ok a0.S) fun r3=>.dg 10 ((((r1++r2).size+r3.size:Nat):Int)≤9223372036854775807) <| .dr 2 0 [(1,false,[])] [0,1] <| .ret 0 ((r1++r2)++r3)
def G168(a0:GValue):Option ByteArray:=(T168 a0).den
theorem G168_ok(a0:GValue):Con Tryz.prog 217 [.t (eGValue a0)] (G168 a0) (fun (y:ByteArray)=>.t (.str y)):=con Tryz.func217 ti_ok (T168 a0)
def T120_L0(a0:List GValue):(ByteArray×Int)→TP ((ByteArray×Int)⊕((ByteArray)⊕ByteArray))
 | (v2,v3)=>.ite 1 (decide (v3<(a0.length:Int))) (.grd 1 (0≤v3∧v3<(a0.length:Int)) <| .ca 4 (G168_ok (a0.getD v3.toNat default)) fun r5=>.ch 0 [] (con118 v2 r5) fun _=>.ret 2 (.inl (v2++r5,i64.wrap (v3+1)))) (.ret 0 (.inr (.inl v2)))
def T120(a0:List GValue):TP ByteArray:=.abl 1 5 <| .ca 2 (G119_ok (a0.length:Int)) fun r1=>.cv 0 [.rn 3 30000] <| .ch 0 [] (con118 (⟨#[]⟩:ByteArray) r1) fun _=>.lp 3 (fun ((v2,v3):ByteArray×Int)=>⟨[(3,.ptr 30000 0),(10,tV a0),(11,tI (a0.length:Int)),(12,tI v3)],[(30000,.bld 177 5 v2)]⟩) (fun (b4:ByteArray)=>⟨[(3,.ptr 30000 0)],[(30000,.bld 177 5 b4)]⟩) 0 ((⟨#[]⟩:ByteArray)++r1,0) (T120_L0 a0) fun b4=>.ch 0 [] (con121 b4) fun r6=>.ret 1 r6
def G120(a0:List GValue):Option ByteArray:=(T120 a0).den
theorem G120_ok(a0:List GValue):Con Tryz.prog 159 [tV a0] (G120 a0) (fun (y:ByteArray)=>.t (.str y)):=con Tryz.func159 ti_ok (T120 a0)
def T357s0_L0(a1:List GValue)(qu1:GNode):((List GValue)×Int)→TP (((List GValue)×Int)⊕((List GValue)⊕(List GValue)))
 | (v1,v2)=>.ite 1 (decide (v2<(qu1.Key.length:Int))) (.grd 1 (0≤v2∧v2<(qu1.Key.length:Int)) <| .grd 6 (0≤(qu1.Key.getD v2.toNat default)∧(qu1.Key.getD v2.toNat default)<(a1.length:Int)) <| .bs 1 false cGValue ([a1.getD (qu1.Key.getD v2.toNat default).toNat default]:List GValue) <| .grd 1 ((v1.length+([a1.getD (qu1.Key.getD v2.toNat default).toNat default]:List GValue).length)*32≤140737488355328) <| .cv 0 [.ap 32 cGValue v1 ([a1.getD (qu1.Key.getD v2.toNat default).toNat default]:List GValue)] <| .cv 3 [.rn 32 5] <| .ret 0 (.inl (v1++([a1.getD (qu1.Key.getD v2.toNat default).toNat default]:List GValue),i64.wrap (v2+1)))) (.ret 0 (.inr (.inl v1)))
def T357s0(a1:List GValue)(qu0:List GFunc)(qu1:GNode)(qu2:Int)(qum:LM):TP (List GValue):=.mks 8 cGValue 32 (0:Int) (i64.wrap ((qu1.Key.length:Int)+2)) <| .cv 8 [.rn 15 5] <| .lp 0 (fun ((v1,v2):(List GValue)×Int)=>⟨[(1,tV a1),(5,.own 5),(20,.t (eL cInt (qu1.Key))),(21,tI (qu1.Key.length:Int)),(22,tI v2)],[(5,.arr 67 3 (v1.length) (eF cGValue v1)),(30000,bP qu0 qu1 30001 qu2),(30001,pD qum)]⟩) (fun (b3:(List GValue))=>⟨[(5,.own 5)],[(5,.arr 67 3 (b3.length) (eF cGValue b3)),(30000,bP qu0 qu1 30001 qu2),(30001,pD qum)]⟩) 0 (([]:List GValue),0) (T357s0_L0 a1 qu1) fun b3=>.cv 2 [.fr 5 (eL cGValue b3)] <| .ret 0 b3
def G357s0(a1:List GValue)(qu0:List GFunc)(qu1:GNode)(qu2:Int)(qum:LM):Option (List GValue):=(T357s0 a1 qu0 qu1 qu2 qum).den
theorem G357s0_ok(a1:List GValue)(qu0:List GFunc)(qu1:GNode)(qu2:Int)(qum:LM):ConH Tryz.prog 160 [.ptr 30000 0,tV a1] [(30000,bP qu0 qu1 30001 qu2),(30001,pD qum)] [30000,30001] (G357s0 a1 qu0 qu1 qu2 qum) (fun (y:(List GValue))=>tV y) (fun (y:(List GValue))=>[(30000,bP qu0 qu1 30001 qu2),(30001,pD qum)]):=conH Tryz.func160 ti_ok (T357s0 a1 qu0 qu1 qu2 qum)
def T340s0_L0(a1:LD)(qu0:List GFunc)(qu1:GNode)(qu2:Int)(qum:LM):(LM×Int)→TP ((LM×Int)⊕((LM)⊕LM))
 | (v1,v2)=>.ite 1 (decide (v2<(a1.length:Int))) (.grd 1 (0≤v2∧v2<(a1.length:Int)) <| .ch 6 [] (G357s0_ok ((a1.getD v2.toNat default).Row) qu0 qu1 qu2 qum) fun r4=>.ca 0 (G120_ok r4) fun r5=>.lkr 5 50 3 (fun c:LD=>c.length) (fun c:LD=>eF cGDelta c) ([]:LD) (v1:LM) r5 <| .bs 1 false cGDelta ([a1.getD v2.toNat default]:LD) <| .grd 1 ((((mlook (v1:LM) r5).getD ([]:LD)).length+([a1.getD v2.toNat default]:LD).length)*40≤140737488355328) <| .cv 0 [.ap 28 cGDelta ((mlook (v1:LM) r5).getD ([]:LD)) ([a1.getD v2.toNat default]:LD)] <| .upd 0 mR (mdel v1 r5:LM) r5 <| .cv 2 [.fw 9 28 50 3 (fun c:LD=>c.length) (fun c:LD=>eF cGDelta c) (v1:LM) r5 (((mlook (v1:LM) r5).getD ([]:LD))++([a1.getD v2.toNat default]:LD):LD)] <| .ret 0 (.inl (mput v1 r5 (((mlook (v1:LM) r5).getD ([]:LD))++([a1.getD v2.toNat default]:LD):LD),i64.wrap (v2+1)))) (.ret 0 (.inr (.inl v1)))
def T340s0(a1:LD)(qu0:List GFunc)(qu1:GNode)(qu2:Int)(qum:LM):TP LM:=.mk (K:=ByteArray) 1 mR <| .lp 4 (fun ((v1,v2):LM×Int)=>⟨[(0,.ptr 30000 0),(5,.map 9),(10,tD a1),(11,tI (a1.length:Int)),(12,tI v2)],[(9,pR v1),(30000,bP qu0 qu1 30001 qu2),(30001,pD qum)]⟩) (fun (b3:LM)=>⟨[(5,.map 9)],[(9,pR b3),(30000,bP qu0 qu1 30001 qu2),(30001,pD qum)]⟩) 0 (([]:LM),0) (T340s0_L0 a1 qu0 qu1 qu2 qum) fun b3=>.cv 2 [.rn 9 40000] <| .ret 0 b3
def G340s0(a1:LD)(qu0:List GFunc)(qu1:GNode)(qu2:Int)(qum:LM):Option LM:=(T340s0 a1 qu0 qu1 qu2 qum).den
theorem G340s0_ok(a1:LD)(qu0:List GFunc)(qu1:GNode)(qu2:Int)(qum:LM):ConH Tryz.prog 71 [.ptr 30000 0,tD a1] [(30000,bP qu0 qu1 30001 qu2),(30001,pD qum)] [30000,30001] (G340s0 a1 qu0 qu1 qu2 qum) (fun (y:LM)=>.map 40000) (fun (y:LM)=>[(30000,bP qu0 qu1 30001 qu2),(30001,pD qum),(40000,pR y)]):=conH Tryz.func71 ti_ok (T340s0 a1 qu0 qu1 qu2 qum)
def T361(a0:Int):TP GValue:=.ret 4 (GValue.mk 0 a0 (⟨#[]⟩))
def G361(a0:Int):Option GValue:=(T361 a0).den
theorem G361_ok(a0:Int):Con Tryz.prog 164 [tI a0] (G361 a0) (fun (y:GValue)=>.t (eGValue y)):=con Tryz.func164 ti_ok (T361 a0)
def T378(a0:Int):TP GValue:=.ret 4 (GValue.mk 0 a0 (⟨#[]⟩))
def G378(a0:Int):Option GValue:=(T378 a0).den
theorem G378_ok(a0:Int):Con Tryz.prog 223 [tI a0] (G378 a0) (fun (y:GValue)=>.t (eGValue y)):=con Tryz.func223 ti_ok (T378 a0)
def T379(a0:Bool):TP GValue:=.ite 2 a0 (.ret 2 (GValue.mk 2 1 (⟨#[]⟩))) (.ret 2 (GValue.mk 2 0 (⟨#[]⟩)))
def G379(a0:Bool):Option GValue:=(T379 a0).den
theorem G379_ok(a0:Bool):Con Tryz.prog 224 [tB a0] (G379 a0) (fun (y:GValue)=>.t (eGValue y)):=con Tryz.func224 ti_ok (T379 a0)
def T380(a0:GPair):TP GValue:=.ca 9 (G378_ok (i64.wrap (a0.a_.N+a0.b_.N))) fun r1=>.ret 1 r1
def G380(a0:GPair):Option GValue:=(T380 a0).den
theorem G380_ok(a0:GPair):Con Tryz.prog 225 [.t (eGPair a0)] (G380 a0) (fun (y:GValue)=>.t (eGValue y)):=con Tryz.func225 ti_ok (T380 a0)
def T381(a0:GPair):TP GValue:=.ca 9 (G378_ok (i64.wrap (a0.a_.N-a0.b_.N))) fun r1=>.ret 1 r1
def G381(a0:GPair):Option GValue:=(T381 a0).den
theorem G381_ok(a0:GPair):Con Tryz.prog 226 [.t (eGPair a0)] (G381 a0) (fun (y:GValue)=>.t (eGValue y)):=con Tryz.func226 ti_ok (T381 a0)
def T382(a0:GPair):TP GValue:=.ca 9 (G378_ok (i64.wrap (a0.a_.N*a0.b_.N))) fun r1=>.ret 1 r1
def G382(a0:GPair):Option GValue:=(T382 a0).den
theorem G382_ok(a0:GPair):Con Tryz.prog 227 [.t (eGPair a0)] (G382 a0) (fun (y:GValue)=>.t (eGValue y)):=con Tryz.func227 ti_ok (T382 a0)
def T383(a0:GPair):TP GValue:=.ite 6 (a0.b_.N==0) (.ca 0 (G378_ok 0) fun r1=>.ret 1 r1) (.grd 7 (a0.b_.N≠0) <| .ca 0 (G378_ok (i64.wrap (Int.tdiv a0.a_.N a0.b_.N))) fun r2=>.ret 1 r2)
def G383(a0:GPair):Option GValue:=(T383 a0).den
theorem G383_ok(a0:GPair):Con Tryz.prog 228 [.t (eGPair a0)] (G383 a0) (fun (y:GValue)=>.t (eGValue y)):=con Tryz.func228 ti_ok (T383 a0)
def T384(a0:GPair):TP GValue:=.ite 6 (a0.b_.N==0) (.ca 0 (G378_ok 0) fun r1=>.ret 1 r1) (.grd 7 (a0.b_.N≠0) <| .ca 0 (G378_ok (Int.tmod a0.a_.N a0.b_.N)) fun r2=>.ret 1 r2)
def G384(a0:GPair):Option GValue:=(T384 a0).den
theorem G384_ok(a0:GPair):Con Tryz.prog 229 [.t (eGPair a0)] (G384 a0) (fun (y:GValue)=>.t (eGValue y)):=con Tryz.func229 ti_ok (T384 a0)
def T385(a0:GPair):TP GValue:=.ca 7 (G379_ok ((a0.a_.Kind==a0.b_.Kind)&&((a0.a_.N==a0.b_.N)&&((a0.a_.S.toList==a0.b_.S.toList)&&true)))) fun r1=>.ret 1 r1
def G385(a0:GPair):Option GValue:=(T385 a0).den
theorem G385_ok(a0:GPair):Con Tryz.prog 230 [.t (eGPair a0)] (G385 a0) (fun (y:GValue)=>.t (eGValue y)):=con Tryz.func230 ti_ok (T385 a0)
def T386(a0:GPair):TP GValue:=.ca 7 (G379_ok (!((a0.a_.Kind==a0.b_.Kind)&&((a0.a_.N==a0.b_.N)&&((a0.a_.S.toList==a0.b_.S.toList)&&true))))) fun r1=>.ret 1 r1
def G386(a0:GPair):Option GValue:=(T386 a0).den
theorem G386_ok(a0:GPair):Con Tryz.prog 231 [.t (eGPair a0)] (G386 a0) (fun (y:GValue)=>.t (eGValue y)):=con Tryz.func231 ti_ok (T386 a0)
def T387(a0:GPair):TP GValue:=.ca 6 (G175_ok a0.a_ a0.b_) fun r1=>.ca 1 (G379_ok (decide (r1<0))) fun r2=>.ret 1 r2
def G387(a0:GPair):Option GValue:=(T387 a0).den
theorem G387_ok(a0:GPair):Con Tryz.prog 232 [.t (eGPair a0)] (G387 a0) (fun (y:GValue)=>.t (eGValue y)):=con Tryz.func232 ti_ok (T387 a0)
def T388(a0:GPair):TP GValue:=.ca 6 (G175_ok a0.a_ a0.b_) fun r1=>.ca 1 (G379_ok (decide (r1≤0))) fun r2=>.ret 1 r2
def G388(a0:GPair):Option GValue:=(T388 a0).den
theorem G388_ok(a0:GPair):Con Tryz.prog 233 [.t (eGPair a0)] (G388 a0) (fun (y:GValue)=>.t (eGValue y)):=con Tryz.func233 ti_ok (T388 a0)
def T389(a0:GPair):TP GValue:=.jn 7 0 (fun ((j1,j2,j3):Int×Int×ByteArray)=>⟨[(2,.ptr 2 0)],[(2,.box [tI j1,tI j2,.t (.str j3)])]⟩) (.ite 0 (a0.a_.N==1) (.ca 5 (G379_ok (a0.b_.N==1)) fun r4=>.ret 1 (r4.Kind,r4.N,r4.S)) (.ca 5 (G379_ok false) fun r5=>.ret 1 (r5.Kind,r5.N,r5.S))) fun (j1,j2,j3)=>.ret 0 (GValue.mk j1 j2 j3)
def G389(a0:GPair):Option GValue:=(T389 a0).den
theorem G389_ok(a0:GPair):Con Tryz.prog 234 [.t (eGPair a0)] (G389 a0) (fun (y:GValue)=>.t (eGValue y)):=con Tryz.func234 ti_ok (T389 a0)
def T390(a0:GPair):TP GValue:=.jn 7 0 (fun ((j1,j2,j3):Int×Int×ByteArray)=>⟨[(2,.ptr 2 0)],[(2,.box [tI j1,tI j2,.t (.str j3)])]⟩) (.ite 0 (a0.a_.N==1) (.ca 5 (G379_ok true) fun r4=>.ret 1 (r4.Kind,r4.N,r4.S)) (.ca 5 (G379_ok (a0.b_.N==1)) fun r5=>.ret 1 (r5.Kind,r5.N,r5.S))) fun (j1,j2,j3)=>.ret 0 (GValue.mk j1 j2 j3)
def G390(a0:GPair):Option GValue:=(T390 a0).den
theorem G390_ok(a0:GPair):Con Tryz.prog 235 [.t (eGPair a0)] (G390 a0) (fun (y:GValue)=>.t (eGValue y)):=con Tryz.func235 ti_ok (T390 a0)
def T391(a0:GPair):TP GValue:=.grd 9 (((a0.a_.S.size+a0.b_.S.size:Nat):Int)≤9223372036854775807) <| .grd 6 (0≤(0:Int)∧(0:Int)≤(if (200:Int)<((a0.a_.S++a0.b_.S:ByteArray).size:Int) then (200:Int) else ((a0.a_.S++a0.b_.S:ByteArray).size:Int))∧(if (200:Int)<((a0.a_.S++a0.b_.S:ByteArray).size:Int) then (200:Int) else ((a0.a_.S++a0.b_.S:ByteArray).size:Int))≤((a0.a_.S++a0.b_.S).size:Int)) <| .ret 2 (GValue.mk 1 0 ((a0.a_.S++a0.b_.S).extract (0:Int).toNat (if (200:Int)<((a0.a_.S++a0.b_.S:ByteArray).size:Int) then (200:Int) else ((a0.a_.S++a0.b_.S:ByteArray).size:Int)).toNat))
def G391(a0:GPair):Option GValue:=(T391 a0).den
theorem G391_ok(a0:GPair):Con Tryz.prog 236 [.t (eGPair a0)] (G391 a0) (fun (y:GValue)=>.t (eGValue y)):=con Tryz.func236 ti_ok (T391 a0)
abbrev R362:={f:(GFrame×Expr)→Option GValue // ∀ a:GFrame×Expr,Con Tryz.prog 171 [.t (eGFrame a.1),.t (eExpr a.2)] (f a) (fun (y:GValue)=>.t (eGValue y))}
def T362_L0(rec:R362)(a0:GFrame)(a1:Expr):((List GValue)×Int)→TP (((List GValue)×Int)⊕((List GValue)⊕GValue))
 | (v4,v5)=>.ite 1 (decide (v5<(a1.Args.length:Int))) (.grd 1 (0≤v5∧v5<(a1.Args.length:Int)) <| .ca 6 (rec.2 (a0,a1.Args.getD v5.toNat default)) fun r7=>.bs 0 false cGValue ([r7]:List GValue) <| .grd 1 ((v4.length+([r7]:List GValue).length)*32≤140737488355328) <| .cv 0 [.ap 44 cGValue v4 ([r7]:List GValue)] <| .cv 3 [.rn 44 5] <| .ret 0 (.inl (v4++([r7]:List GValue),i64.wrap (v5+1)))) (.ret 0 (.inr (.inl v4)))
def T362(rec:R362)(a0:GFrame)(a1:Expr):TP GValue:=.ite 6 (a1.Op==21) (.dg 3 (0≤(0:Int)∧(0:Int)<(a1.Args.length:Int)) <| .dc 5 [.t (eGFrame a0),.t (eExpr (a1.Args.getD (0:Int).toNat default))] (rec.2 (a0,a1.Args.getD (0:Int).toNat default)) fun r1=>.dr 0 0 [(2,false,[]),(3,false,[]),(4,false,[])] [0,1,2,3,4,9,10,11] <| .ite 0 (r1.N==1) (.dg 3 (0≤(1:Int)∧(1:Int)<(a1.Args.length:Int)) <| .dc 5 [.t (eGFrame a0),.t (eExpr (a1.Args.getD (1:Int).toNat default))] (rec.2 (a0,a1.Args.getD (1:Int).toNat default)) fun r2=>.dr 0 0 [(2,false,[]),(3,false,[]),(4,false,[6])] [0,1,2,3,4,9,10,11,12,13,14,15,16,17,18,19] <| .ret 0 r2) (.dg 3 (0≤(2:Int)∧(2:Int)<(a1.Args.length:Int)) <| .dc 5 [.t (eGFrame a0),.t (eExpr (a1.Args.getD (2:Int).toNat default))] (rec.2 (a0,a1.Args.getD (2:Int).toNat default)) fun r3=>.dr 0 0 [(2,false,[]),(3,false,[]),(4,false,[6])] [0,1,2,3,4,9,10,11,12,13,14,15,16,17,18,19] <| .ret 0 r3)) (.cv 5 [.th 5 5 67 3 (eF cGValue ([]:List GValue))] <| .lp 0 (fun ((v4,v5):(List GValue)×Int)=>⟨[(2,.ptr 2 0),(3,.ptr 3 0),(4,.ptr 4 0),(5,.own 5),(33,.t (.lz (.exprs (a1.Args)))),(34,tI (a1.Args.length:Int)),(35,tI v5)],[(2,.box ((cGFrame a0).map .t)),(3,.box ((exprCells a1).map .t)),(4,.box [tI 0,tI 0,.t (.str (⟨#[]⟩))]),(5,.arr 67 3 (v4.length) (eF cGValue v4))]⟩) (fun (b6:(List GValue))=>⟨[(2,.ptr 2 0),(3,.ptr 3 0),(4,.ptr 4 0),(5,.own 5)],[(2,.box ((cGFrame a0).map .t)),(3,.box ((exprCells a1).map .t)),(4,.box [tI 0,tI 0,.t (.str (⟨#[]⟩))]),(5,.arr 67 3 (b6.length) (eF cGValue b6))]⟩) 0 (([]:List GValue),0) (T362_L0 rec a0 a1) fun b6=>.ite 4 (a1.Op==0) (.ca 2 (G378_ok a1.N) fun r8=>.ret 1 r8) (.ite 2 (a1.Op==1) (.ret 4 (GValue.mk 1 0 a1.S)) (.ite 2 (a1.Op==2) (.ca 3 (G379_ok (a1.N==1)) fun r9=>.ret 1 r9) (.ite 2 (a1.Op==3) (.grd 5 (0≤a1.N∧a1.N<(a0.row_.length:Int)) <| .ret 2 (a0.row_.getD (a1.N).toNat default)) (.ite 2 (a1.Op==4) (.grd 5 (0≤a1.N∧a1.N<(a0.params_.length:Int)) <| .ret 2 (a0.params_.getD (a1.N).toNat default)) (.ite 2 (a1.Op==5) (.ca 2 (G378_ok a0.time_) fun r10=>.ret 1 r10) (.ite 2 (a1.Op==6) (.grd 2 (0≤(0:Int)∧(0:Int)<(b6.length:Int)) <| .grd 2 ((0:Int).toNat<b6.length) <| .ca 1 (G379_ok (((b6.getD (0:Int).toNat default).N)==0)) fun r11=>.ret 1 r11) (.ite 2 (a1.Op==7) (.grd 2 (0≤(0:Int)∧(0:Int)<(b6.length:Int)) <| .grd 2 ((0:Int).toNat<b6.length) <| .ca 1 (G378_ok (i64.wrap (0-((b6.getD (0:Int).toNat default).N)))) fun r12=>.ret 1 r12) (.ite 2 (a1.Op==20) (.grd 2 (0≤(0:Int)∧(0:Int)<(b6.length:Int)) <| .grd 2 ((0:Int).toNat<b6.length) <| .ca 1 (G378_ok (((b6.getD (0:Int).toNat default).S:ByteArray).size:Int)) fun r13=>.ret 1 r13) (.ite 2 (a1.Op==22) (.cv 0 [.fr 5 (eL cGValue b6)] <| .dg 10 (0≤a1.N∧a1.N<(a0.funcs_.length:Int)) <| .dc 13 [.agg [.t (eL cGFunc (a0.funcs_)),tI a0.time_,.nil,tV b6],.t (eExpr ((a0.funcs_.getD (a1.N).toNat default).Body))] (rec.2 ((GFrame.mk a0.funcs_ a0.time_ ([]:List GValue) b6),(a0.funcs_.getD (a1.N).toNat default).Body)) fun r14=>.dr 0 0 [(2,false,[]),(3,false,[]),(4,false,[14])] [2,3,4,5,46,47,48,49,53,54,58,59,64,65,72,73,80,81,85,86,93,94,101,102,109,110] <| .ret 0 r14) (.mk (K:=Int) 0 mF <| .cv 0 [.gp 125 mF (([]:List (Int×Nat)):List (Int×Nat)) (8:Int)] <| .upd 0 mF (mdel ([]:List (Int×Nat)) (8:Int):List (Int×Nat)) (8:Int) <| .cv 0 [.fd 125 (fun c:Nat=>T.fv c) (([]:List (Int×Nat)):List (Int×Nat)) (8:Int) (225:Nat)] <| .cv 0 [.gp 125 mF (fm1:List (Int×Nat)) (9:Int)] <| .upd 0 mF (mdel fm1 (9:Int):List (Int×Nat)) (9:Int) <| .cv 0 [.fd 125 (fun c:Nat=>T.fv c) (fm1:List (Int×Nat)) (9:Int) (226:Nat)] <| .cv 0 [.gp 125 mF (fm2:List (Int×Nat)) (10:Int)] <| .upd 0 mF (mdel fm2 (10:Int):List (Int×Nat)) (10:Int) <| .cv 0 [.fd 125 (fun c:Nat=>T.fv c) (fm2:List (Int×Nat)) (10:Int) (227:Nat)] <| .cv 0 [.gp 125 mF (fm3:List (Int×Nat)) (11:Int)] <| .upd 0 mF (mdel fm3 (11:Int):List (Int×Nat)) (11:Int) <| .cv 0 [.fd 125 (fun c:Nat=>T.fv c) (fm3:List (Int×Nat)) (11:Int) (228:Nat)] <| .cv 0 [.gp 125 mF (fm4:List (Int×Nat)) (12:Int)] <| .upd 0 mF (mdel fm4 (12:Int):List (Int×Nat)) (12:Int) <| .cv 0 [.fd 125 (fun c:Nat=>T.fv c) (fm4:List (Int×Nat)) (12:Int) (229:Nat)] <| .cv 0 [.gp 125 mF (fm5:List (Int×Nat)) (13:Int)] <| .upd 0 mF (mdel fm5 (13:Int):List (Int×Nat)) (13:Int) <| .cv 0 [.fd 125 (fun c:Nat=>T.fv c) (fm5:List (Int×Nat)) (13:Int) (230:Nat)] <| .cv 0 [.gp 125 mF (fm6:List (Int×Nat)) (14:Int)] <| .upd 0 mF (mdel fm6 (14:Int):List (Int×Nat)) (14:Int) <| .cv 0 [.fd 125 (fun c:Nat=>T.fv c) (fm6:List (Int×Nat)) (14:Int) (231:Nat)] <| .cv 0 [.gp 125 mF (fm7:List (Int×Nat)) (15:Int)] <| .upd 0 mF (mdel fm7 (15:Int):List (Int×Nat)) (15:Int) <| .cv 0 [.fd 125 (fun c:Nat=>T.fv c) (fm7:List (Int×Nat)) (15:Int) (232:Nat)] <| .cv 0 [.gp 125 mF (fm8:List (Int×Nat)) (16:Int)] <| .upd 0 mF (mdel fm8 (16:Int):List (Int×Nat)) (16:Int) <| .cv 0 [.fd 125 (fun c:Nat=>T.fv c) (fm8:List (Int×Nat)) (16:Int) (233:Nat)] <| .cv 0 [.gp 125 mF (fm9:List (Int×Nat)) (17:Int)] <| .upd 0 mF (mdel fm9 (17:Int):List (Int×Nat)) (17:Int) <| .cv 0 [.fd 125 (fun c:Nat=>T.fv c) (fm9:List (Int×Nat)) (17:Int) (234:Nat)] <| .cv 0 [.gp 125 mF (fm10:List (Int×Nat)) (18:Int)] <| .upd 0 mF (mdel fm10 (18:Int):List (Int×Nat)) (18:Int) <| .cv 0 [.fd 125 (fun c:Nat=>T.fv c) (fm10:List (Int×Nat)) (18:Int) (235:Nat)] <| .cv 0 [.gp 125 mF (fm11:List (Int×Nat)) (19:Int)] <| .upd 0 mF (mdel fm11 (19:Int):List (Int×Nat)) (19:Int) <| .jn 2 0 (fun ((j15,j16,j17):Int×Int×ByteArray)=>⟨[(4,.ptr 4 0)],[(4,.box [tI j15,tI j16,.t (.str j17)])]⟩) (.cv 0 [.fd 125 (fun c:Nat=>T.fv c) (fm11:List (Int×Nat)) (19:Int) (236:Nat)] <| .dlk 3 240 125 (fm12:List (Int×Nat)) a1.Op fun c18=>match c18 with | 225=>.dg 5 (0≤(0:Int)∧(0:Int)<(b6.length:Int)) <| .dg 6 ((0:Int).toNat<b6.length) <| .dg 8 (0≤(1:Int)∧(1:Int)<(b6.length:Int)) <| .dg 9 ((1:Int).toNat<b6.length) <| .dc 11 [.t (eGPair (GPair.mk (b6.getD (0:Int).toNat default) (b6.getD (1:Int).toNat default)))] (G380_ok (GPair.mk (b6.getD (0:Int).toNat default) (b6.getD (1:Int).toNat default))) fun r19=>.dr 0 0 [(2,false,[]),(3,false,[]),(4,false,[12]),(5,false,[]),(125,false,[])] [2,3,4,5,8,46,47,48,49,53,54,58,59,64,65,72,73,80,81,85,86,93,94,101,102,109,110,125,126] <| .ret 0 (r19.Kind,r19.N,r19.S) | 226=>.dg 5 (0≤(0:Int)∧(0:Int)<(b6.length:Int)) <| .dg 6 ((0:Int).toNat<b6.length) <| .dg 8 (0≤(1:Int)∧(1:Int)<(b6.length:Int)) <| .dg 9 ((1:Int).toNat<b6.length) <| .dc 11 [.t (eGPair (GPair.mk (b6.getD (0:Int).toNat default) (b6.getD (1:Int).toNat default)))] (G381_ok (GPair.mk (b6.getD (0:Int).toNat default) (b6.getD (1:Int).toNat default))) fun r20=>.dr 0 0 [(2,false,[]),(3,false,[]),(4,false,[12]),(5,false,[]),(125,false,[])] [2,3,4,5,8,46,47,48,49,53,54,58,59,64,65,72,73,80,81,85,86,93,94,101,102,109,110,125,126] <| .ret 0 (r20.Kind,r20.N,r20.S) | 227=>.dg 5 (0≤(0:Int)∧(0:Int)<(b6.length:Int)) <| .dg 6 ((0:Int).toNat<b6.length) <| .dg 8 (0≤(1:Int)∧(1:Int)<(b6.length:Int)) <| .dg 9 ((1:Int).toNat<b6.length) <| .dc 11 [.t (eGPair (GPair.mk (b6.getD (0:Int).toNat default) (b6.getD (1:Int).toNat default)))] (G382_ok (GPair.mk (b6.getD (0:Int).toNat default) (b6.getD (1:Int).toNat default))) fun r21=>.dr 0 0 [(2,false,[]),(3,false,[]),(4,false,[12]),(5,false,[]),(125,false,[])] [2,3,4,5,8,46,47,48,49,53,54,58,59,64,65,72,73,80,81,85,86,93,94,101,102,109,110,125,126] <| .ret 0 (r21.Kind,r21.N,r21.S) | 228=>.dg 5 (0≤(0:Int)∧(0:Int)<(b6.length:Int)) <| .dg 6 ((0:Int).toNat<b6.length) <| .dg 8 (0≤(1:Int)∧(1:Int)<(b6.length:Int)) <| .dg 9 ((1:Int).toNat<b6.length) <| .dc 11 [.t (eGPair (GPair.mk (b6.getD (0:Int).toNat default) (b6.getD (1:Int).toNat default)))] (G383_ok (GPair.mk (b6.getD (0:Int).toNat default) (b6.getD (1:Int).toNat default))) fun r22=>.dr 0 0 [(2,false,[]),(3,false,[]),(4,false,[12]),(5,false,[]),(125,false,[])] [2,3,4,5,8,46,47,48,49,53,54,58,59,64,65,72,73,80,81,85,86,93,94,101,102,109,110,125,126] <| .ret 0 (r22.Kind,r22.N,r22.S) | 229=>.dg 5 (0≤(0:Int)∧(0:Int)<(b6.length:Int)) <| .dg 6 ((0:Int).toNat<b6.length) <| .dg 8 (0≤(1:Int)∧(1:Int)<(b6.length:Int)) <| .dg 9 ((1:Int).toNat<b6.length) <| .dc 11 [.t (eGPair (GPair.mk (b6.getD (0:Int).toNat default) (b6.getD (1:Int).toNat default)))] (G384_ok (GPair.mk (b6.getD (0:Int).toNat default) (b6.getD (1:Int).toNat default))) fun r23=>.dr 0 0 [(2,false,[]),(3,false,[]),(4,false,[12]),(5,false,[]),(125,false,[])] [2,3,4,5,8,46,47,48,49,53,54,58,59,64,65,72,73,80,81,85,86,93,94,101,102,109,110,125,126] <| .ret 0 (r23.Kind,r23.N,r23.S) | 230=>.dg 5 (0≤(0:Int)∧(0:Int)<(b6.length:Int)) <| .dg 6 ((0:Int).toNat<b6.length) <| .dg 8 (0≤(1:Int)∧(1:Int)<(b6.length:Int)) <| .dg 9 ((1:Int).toNat<b6.length) <| .dc 11 [.t (eGPair (GPair.mk (b6.getD (0:Int).toNat default) (b6.getD (1:Int).toNat default)))] (G385_ok (GPair.mk (b6.getD (0:Int).toNat default) (b6.getD (1:Int).toNat default))) fun r24=>.dr 0 0 [(2,false,[]),(3,false,[]),(4,false,[12]),(5,false,[]),(125,false,[])] [2,3,4,5,8,46,47,48,49,53,54,58,59,64,65,72,73,80,81,85,86,93,94,101,102,109,110,125,126] <| .ret 0 (r24.Kind,r24.N,r24.S) | 231=>.dg 5 (0≤(0:Int)∧(0:Int)<(b6.length:Int)) <| .dg 6 ((0:Int).toNat<b6.length) <| .dg 8 (0≤(1:Int)∧(1:Int)<(b6.length:Int)) <| .dg 9 ((1:Int).toNat<b6.length) <| .dc 11 [.t (eGPair (GPair.mk (b6.getD (0:Int).toNat default) (b6.getD (1:Int).toNat default)))] (G386_ok (GPair.mk (b6.getD (0:Int).toNat default) (b6.getD (1:Int).toNat default))) fun r25=>.dr 0 0 [(2,false,[]),(3,false,[]),(4,false,[12]),(5,false,[]),(125,false,[])] [2,3,4,5,8,46,47,48,49,53,54,58,59,64,65,72,73,80,81,85,86,93,94,101,102,109,110,125,126] <| .ret 0 (r25.Kind,r25.N,r25.S) | 232=>.dg 5 (0≤(0:Int)∧(0:Int)<(b6.length:Int)) <| .dg 6 ((0:Int).toNat<b6.length) <| .dg 8 (0≤(1:Int)∧(1:Int)<(b6.length:Int)) <| .dg 9 ((1:Int).toNat<b6.length) <| .dc 11 [.t (eGPair (GPair.mk (b6.getD (0:Int).toNat default) (b6.getD (1:Int).toNat default)))] (G387_ok (GPair.mk (b6.getD (0:Int).toNat default) (b6.getD (1:Int).toNat default))) fun r26=>.dr 0 0 [(2,false,[]),(3,false,[]),(4,false,[12]),(5,false,[]),(125,false,[])] [2,3,4,5,8,46,47,48,49,53,54,58,59,64,65,72,73,80,81,85,86,93,94,101,102,109,110,125,126] <| .ret 0 (r26.Kind,r26.N,r26.S) | 233=>.dg 5 (0≤(0:Int)∧(0:Int)<(b6.length:Int)) <| .dg 6 ((0:Int).toNat<b6.length) <| .dg 8 (0≤(1:Int)∧(1:Int)<(b6.length:Int)) <| .dg 9 ((1:Int).toNat<b6.length) <| .dc 11 [.t (eGPair (GPair.mk (b6.getD (0:Int).toNat default) (b6.getD (1:Int).toNat default)))] (G388_ok (GPair.mk (b6.getD (0:Int).toNat default) (b6.getD (1:Int).toNat default))) fun r27=>.dr 0 0 [(2,false,[]),(3,false,[]),(4,false,[12]),(5,false,[]),(125,false,[])] [2,3,4,5,8,46,47,48,49,53,54,58,59,64,65,72,73,80,81,85,86,93,94,101,102,109,110,125,126] <| .ret 0 (r27.Kind,r27.N,r27.S) | 234=>.dg 5 (0≤(0:Int)∧(0:Int)<(b6.length:Int)) <| .dg 6 ((0:Int).toNat<b6.length) <| .dg 8 (0≤(1:Int)∧(1:Int)<(b6.length:Int)) <| .dg 9 ((1:Int).toNat<b6.length) <| .dc 11 [.t (eGPair (GPair.mk (b6.getD (0:Int).toNat default) (b6.getD (1:Int).toNat default)))] (G389_ok (GPair.mk (b6.getD (0:Int).toNat default) (b6.getD (1:Int).toNat default))) fun r28=>.dr 0 0 [(2,false,[]),(3,false,[]),(4,false,[12]),(5,false,[]),(125,false,[])] [2,3,4,5,8,46,47,48,49,53,54,58,59,64,65,72,73,80,81,85,86,93,94,101,102,109,110,125,126] <| .ret 0 (r28.Kind,r28.N,r28.S) | 235=>.dg 5 (0≤(0:Int)∧(0:Int)<(b6.length:Int)) <| .dg 6 ((0:Int).toNat<b6.length) <| .dg 8 (0≤(1:Int)∧(1:Int)<(b6.length:Int)) <| .dg 9 ((1:Int).toNat<b6.length) <| .dc 11 [.t (eGPair (GPair.mk (b6.getD (0:Int).toNat default) (b6.getD (1:Int).toNat default)))] (G390_ok (GPair.mk (b6.getD (0:Int).toNat default) (b6.getD (1:Int).toNat default))) fun r29=>.dr 0 0 [(2,false,[]),(3,false,[]),(4,false,[12]),(5,false,[]),(125,false,[])] [2,3,4,5,8,46,47,48,49,53,54,58,59,64,65,72,73,80,81,85,86,93,94,101,102,109,110,125,126] <| .ret 0 (r29.Kind,r29.N,r29.S) | 236=>.dg 5 (0≤(0:Int)∧(0:Int)<(b6.length:Int)) <| .dg 6 ((0:Int).toNat<b6.length) <| .dg 8 (0≤(1:Int)∧(1:Int)<(b6.length:Int)) <| .dg 9 ((1:Int).toNat<b6.length) <| .dc 11 [.t (eGPair (GPair.mk (b6.getD (0:Int).toNat default) (b6.getD (1:Int).toNat default)))] (G391_ok (GPair.mk (b6.getD (0:Int).toNat default) (b6.getD (1:Int).toNat default))) fun r30=>.dr 0 0 [(2,false,[]),(3,false,[]),(4,false,[12]),(5,false,[]),(125,false,[])] [2,3,4,5,8,46,47,48,49,53,54,58,59,64,65,72,73,80,81,85,86,93,94,101,102,109,110,125,126] <| .ret 0 (r30.Kind,r30.N,r30.S) | _=>.no) fun (j15,j16,j17)=>.ret 0 (GValue.mk j15 j16 j17))))))))))))
theorem T362_ok(rec:R362)(a0:GFrame)(a1:Expr):Con Tryz.prog 171 [.t (eGFrame a0),.t (eExpr a1)] (T362 rec a0 a1).den (fun (y:GValue)=>.t (eGValue y)):=con Tryz.func171 ti_ok (T362 rec a0 a1)
def H362(a:GFrame×Expr):Option GValue:=fixF (C:=fun (a:GFrame×Expr) (x:Option GValue)=>Con Tryz.prog 171 [.t (eGFrame a.1),.t (eExpr a.2)] x (fun (y:GValue)=>.t (eGValue y))) (fun a=>⟨callable_of Tryz.func171 (by kernel_rfl),fun _ h=>nomatch h⟩) (fun rec a=>T362 rec a.1 a.2) (fun rec a=>T362_ok rec a.1 a.2) a
theorem H362_ok(a:GFrame×Expr):Con Tryz.prog 171 [.t (eGFrame a.1),.t (eExpr a.2)] (H362 a) (fun (y:GValue)=>.t (eGValue y)):=fixF_ok (C:=fun (a:GFrame×Expr) (x:Option GValue)=>Con Tryz.prog 171 [.t (eGFrame a.1),.t (eExpr a.2)] x (fun (y:GValue)=>.t (eGValue y))) _ _ _ a
def G362(a0:GFrame)(a1:Expr):Option GValue:=H362 (a0,a1)
theorem G362_ok(a0:GFrame)(a1:Expr):Con Tryz.prog 171 [.t (eGFrame a0),.t (eExpr a1)] (G362 a0 a1) (fun (y:GValue)=>.t (eGValue y)):=H362_ok (a0,a1)
def T344(a0:List GFunc)(a1:Expr)(a2:Int)(a3:List GValue):TP GValue:=.cv 7 [.sl 12 (eGFrame (GFrame.mk a0 a2 a3 ([]:List GValue)))] <| .ca 0 (G362_ok (GFrame.mk a0 a2 a3 ([]:List GValue)) a1) fun r1=>.ret 1 r1
def G344(a0:List GFunc)(a1:Expr)(a2:Int)(a3:List GValue):Option GValue:=(T344 a0 a1 a2 a3).den
theorem G344_ok(a0:List GFunc)(a1:Expr)(a2:Int)(a3:List GValue):Con Tryz.prog 83 [.t (eL cGFunc a0),.t (eExpr a1),tI a2,tV a3] (G344 a0 a1 a2 a3) (fun (y:GValue)=>.t (eGValue y)):=con Tryz.func83 ti_ok (T344 a0 a1 a2 a3)
def T358s0_L1(a1:LD)(a2:Int)(a3:Int)(qu0:List GFunc)(qu1:GNode)(qu2:Int)(qum:LM)(v2:Int):((List GPlace)×Int×Int)→TP (((List GPlace)×Int×Int)⊕(((List GPlace)×Int)⊕(List GPlace)))
 | (v7,v8,v9)=>.ite 1 (decide (v9<(qu1.Seq.length:Int))) (.grd 2 (0≤v9∧v9<(qu1.Seq.length:Int)) <| .dc 10 [.t (eL cGFunc qu0),.t (eExpr ((qu1.Seq.getD v9.toNat default).Pred)),tI ((a1.getD v2.toNat default).Time),tV ((a1.getD v2.toNat default).Row)] (G344_ok qu0 ((qu1.Seq.getD v9.toNat default).Pred) ((a1.getD v2.toNat default).Time) ((a1.getD v2.toNat default).Row)) fun r12=>.dr 4 0 [(9,false,[]),(11,false,[]),(14,false,[]),(30000,false,[]),(30001,false,[])] [0,2,3,9,11,12,13,14,15,16,17,41,42,43,44,45,46,47] <| .jn 0 0 (fun ((j13,j14):(List GPlace)×Int)=>⟨[(0,.ptr 30000 0),(2,tI a2),(3,tI a3),(9,.own 9),(11,.ptr 11 0),(12,tI j14),(15,tD a1),(16,tI (a1.length:Int)),(17,tI v2),(41,.t (eL cGPat (qu1.Seq))),(42,tI (qu1.Seq.length:Int)),(43,tI v9)],[(9,.arr 171 2 (j13.length) (eF cGPlace j13)),(11,.box ((cGDelta (a1.getD v2.toNat default)).map .t)),(30000,bP qu0 qu1 30001 qu2),(30001,pD qum)]⟩) (.ite 0 (r12.N==1) (.grd 3 (0≤(v9:Int)) <| .ret 2 (v7,bitO .i64 v8 (shlI .i64 1 v9))) (.ret 0 (v7,v8))) fun (j13,j14)=>.ret 2 (.inl (j13,j14,i64.wrap (v9+1)))) (.ret 0 (.inr (.inl (v7,v8))))
def T358s0_L2(a1:LD)(v2:Int)(b11:Int):((List GPlace)×Int)→TP (((List GPlace)×Int)⊕((List GPlace)⊕(List GPlace)))
 | (v15,v16)=>.ite 1 (decide (v16<((a1.getD v2.toNat default).N))) (.bs 5 false cGPlace ([(GPlace.mk ((a1.getD v2.toNat default).Time) b11)]:List GPlace) <| .grd 1 ((v15.length+([(GPlace.mk ((a1.getD v2.toNat default).Time) b11)]:List GPlace).length)*16≤140737488355328) <| .cv 0 [.ap 76 cGPlace v15 ([(GPlace.mk ((a1.getD v2.toNat default).Time) b11)]:List GPlace)] <| .cv 3 [.rn 76 9] <| .ret 0 (.inl (v15++([(GPlace.mk ((a1.getD v2.toNat default).Time) b11)]:List GPlace),i64.wrap (v16+1)))) (.ret 0 (.inr (.inl v15)))
def T358s0_L0(a1:LD)(a2:Int)(a3:Int)(qu0:List GFunc)(qu1:GNode)(qu2:Int)(qum:LM):((List GPlace)×Int)→TP (((List GPlace)×Int)⊕((List GPlace)⊕(List GPlace)))
 | (v1,v2)=>.ite 1 (decide (v2<(a1.length:Int))) (.jn 0 2 (fun (j4:(List GPlace))=>⟨[(0,.ptr 30000 0),(2,tI a2),(3,tI a3),(9,.own 9),(15,tD a1),(16,tI (a1.length:Int)),(17,tI v2)],[(9,.arr 171 2 (j4.length) (eF cGPlace j4)),(30000,bP qu0 qu1 30001 qu2),(30001,pD qum)]⟩) (.grd 1 (0≤v2∧v2<(a1.length:Int)) <| .jn 3 0 (fun ((j5,j6):(List GPlace)×Bool)=>⟨[(0,.ptr 30000 0),(2,tI a2),(3,tI a3),(9,.own 9),(11,.ptr 11 0),(15,tD a1),(16,tI (a1.length:Int)),(17,tI v2),(36,tB j6)],[(9,.arr 171 2 (j5.length) (eF cGPlace j5)),(11,.box ((cGDelta (a1.getD v2.toNat default)).map .t)),(30000,bP qu0 qu1 30001 qu2),(30001,pD qum)]⟩) (.dl 10 (decide (((a1.getD v2.toNat default).Time)≤(i64.wrap (a2-qu1.Size)))) (.dr 0 0 [(9,false,[]),(11,false,[]),(30000,false,[]),(30001,false,[])] [0,2,3,9,11,15,16,17,18,19,20] <| .ret 0 (v1,true)) (.dr 0 0 [(9,false,[]),(11,false,[]),(30000,false,[]),(30001,false,[])] [0,2,3,9,11,15,16,17,18,19,20] <| .ret 0 (v1,decide (((a1.getD v2.toNat default).Time)>a3)))) fun (j5,j6)=>.ite 0 j6 (.ret 0 j5) (.lp 8 (fun ((v7,v8,v9):(List GPlace)×Int×Int)=>⟨[(0,.ptr 30000 0),(2,tI a2),(3,tI a3),(9,.own 9),(11,.ptr 11 0),(12,tI v8),(15,tD a1),(16,tI (a1.length:Int)),(17,tI v2),(41,.t (eL cGPat (qu1.Seq))),(42,tI (qu1.Seq.length:Int)),(43,tI v9)],[(9,.arr 171 2 (v7.length) (eF cGPlace v7)),(11,.box ((cGDelta (a1.getD v2.toNat default)).map .t)),(30000,bP qu0 qu1 30001 qu2),(30001,pD qum)]⟩) (fun ((b10,b11):(List GPlace)×Int)=>⟨[(0,.ptr 30000 0),(2,tI a2),(3,tI a3),(9,.own 9),(11,.ptr 11 0),(12,tI b11),(15,tD a1),(16,tI (a1.length:Int)),(17,tI v2)],[(9,.arr 171 2 (b10.length) (eF cGPlace b10)),(11,.box ((cGDelta (a1.getD v2.toNat default)).map .t)),(30000,bP qu0 qu1 30001 qu2),(30001,pD qum)]⟩) 2 (j5,0,0) (T358s0_L1 a1 a2 a3 qu0 qu1 qu2 qum v2) fun (b10,b11)=>.lp 3 (fun ((v15,v16):(List GPlace)×Int)=>⟨[(0,.ptr 30000 0),(2,tI a2),(3,tI a3),(9,.own 9),(11,.ptr 11 0),(12,tI b11),(15,tD a1),(16,tI (a1.length:Int)),(17,tI v2),(67,tI ((a1.getD v2.toNat default).N)),(68,tI v16)],[(9,.arr 171 2 (v15.length) (eF cGPlace v15)),(11,.box ((cGDelta (a1.getD v2.toNat default)).map .t)),(30000,bP qu0 qu1 30001 qu2),(30001,pD qum)]⟩) (fun (b17:(List GPlace))=>⟨[(0,.ptr 30000 0),(2,tI a2),(3,tI a3),(9,.own 9),(15,tD a1),(16,tI (a1.length:Int)),(17,tI v2)],[(9,.arr 171 2 (b17.length) (eF cGPlace b17)),(30000,bP qu0 qu1 30001 qu2),(30001,pD qum)]⟩) 4 (b10,0) (T358s0_L2 a1 v2 b11) fun b17=>.ret 0 b17)) fun j4=>.ret 2 (.inl (j4,i64.wrap (v2+1)))) (.ret 0 (.inr (.inl v1)))
def T358s0(a1:LD)(a2:Int)(a3:Int)(qu0:List GFunc)(qu1:GNode)(qu2:Int)(qum:LM):TP (List GPlace):=.cv 5 [.th 9 9 171 2 (eF cGPlace ([]:List GPlace))] <| .lp 0 (fun ((v1,v2):(List GPlace)×Int)=>⟨[(0,.ptr 30000 0),(2,tI a2),(3,tI a3),(9,.own 9),(15,tD a1),(16,tI (a1.length:Int)),(17,tI v2)],[(9,.arr 171 2 (v1.length) (eF cGPlace v1)),(30000,bP qu0 qu1 30001 qu2),(30001,pD qum)]⟩) (fun (b3:(List GPlace))=>⟨[(9,.own 9)],[(9,.arr 171 2 (b3.length) (eF cGPlace b3)),(30000,bP qu0 qu1 30001 qu2),(30001,pD qum)]⟩) 0 (([]:List GPlace),0) (T358s0_L0 a1 a2 a3 qu0 qu1 qu2 qum) fun b3=>.cv 2 [.fr 9 (eL cGPlace b3)] <| .ret 0 b3
def G358s0(a1:LD)(a2:Int)(a3:Int)(qu0:List GFunc)(qu1:GNode)(qu2:Int)(qum:LM):Option (List GPlace):=(T358s0 a1 a2 a3 qu0 qu1 qu2 qum).den
theorem G358s0_ok(a1:LD)(a2:Int)(a3:Int)(qu0:List GFunc)(qu1:GNode)(qu2:Int)(qum:LM):ConH Tryz.prog 161 [.ptr 30000 0,tD a1,tI a2,tI a3] [(30000,bP qu0 qu1 30001 qu2),(30001,pD qum)] [30000,30001] (G358s0 a1 a2 a3 qu0 qu1 qu2 qum) (fun (y:(List GPlace))=>.t (eL cGPlace y)) (fun (y:(List GPlace))=>[(30000,bP qu0 qu1 30001 qu2),(30001,pD qum)]):=conH Tryz.func161 ti_ok (T358s0 a1 a2 a3 qu0 qu1 qu2 qum)
def T375s0_L0(qu0:List GFunc)(qu1:GNode)(qu2:Int)(qum:LM):(Int×Int)→TP ((Int×Int)⊕((Int)⊕Int))
 | (v1,v2)=>.ite 1 (decide (v2<(qu1.Seq.length:Int))) (.grd 2 (0≤v2∧v2<(qu1.Seq.length:Int)) <| .jn 8 0 (fun (j4:Bool)=>⟨[(0,tI v1),(4,tI v2),(10,.t (eL cGPat (qu1.Seq))),(11,tI (qu1.Seq.length:Int)),(12,tI v2),(26,tB j4)],[(30000,bP qu0 qu1 30001 qu2),(30001,pD qum),(30002,.box [.ptr 30000 0])]⟩) (.ite 0 (((qu1.Seq.getD v2.toNat default).Rep)==2) (.grd 3 (0≤(v2:Int)) <| .ret 3 ((bitA .i64 (shrI .i64 v1 v2) 1)==1)) (.ret 6 false)) fun j4=>.jn 0 0 (fun (j5:Int)=>⟨[(0,tI j5),(10,.t (eL cGPat (qu1.Seq))),(11,tI (qu1.Seq.length:Int)),(12,tI v2)],[(30000,bP qu0 qu1 30001 qu2),(30001,pD qum),(30002,.box [.ptr 30000 0])]⟩) (.ite 0 j4 (.grd 4 (0≤((i64.wrap (v2+1)):Int)) <| .ret 2 (bitO .i64 v1 (shlI .i64 1 (i64.wrap (v2+1))))) (.ret 0 v1)) fun j5=>.ret 2 (.inl (j5,i64.wrap (v2+1)))) (.ret 0 (.inr (.inl v1)))
def T375s0(a0:Int)(qu0:List GFunc)(qu1:GNode)(qu2:Int)(qum:LM):TP Int:=.lp 8 (fun ((v1,v2):Int×Int)=>⟨[(0,tI v1),(10,.t (eL cGPat (qu1.Seq))),(11,tI (qu1.Seq.length:Int)),(12,tI v2)],[(30000,bP qu0 qu1 30001 qu2),(30001,pD qum),(30002,.box [.ptr 30000 0])]⟩) (fun (b3:Int)=>⟨[(0,tI b3)],[(30000,bP qu0 qu1 30001 qu2),(30001,pD qum),(30002,.box [.ptr 30000 0])]⟩) 0 (a0,0) (T375s0_L0 qu0 qu1 qu2 qum) fun b3=>.ret 2 b3
def G375s0(a0:Int)(qu0:List GFunc)(qu1:GNode)(qu2:Int)(qum:LM):Option Int:=(T375s0 a0 qu0 qu1 qu2 qum).den
theorem G375s0_ok(a0:Int)(qu0:List GFunc)(qu1:GNode)(qu2:Int)(qum:LM):ConH Tryz.prog 218 [tI a0,.ptr 30002 0] [(30000,bP qu0 qu1 30001 qu2),(30001,pD qum),(30002,.box [.ptr 30000 0])] [30000,30001,30002] (G375s0 a0 qu0 qu1 qu2 qum) tI (fun (y:Int)=>[(30000,bP qu0 qu1 30001 qu2),(30001,pD qum),(30002,.box [.ptr 30000 0])]):=conH Tryz.func218 ti_ok (T375s0 a0 qu0 qu1 qu2 qum)
def T359s0_L0(qu0:List GFunc)(qu1:GNode)(qu2:Int)(qum:LM):(Int×Int)→TP ((Int×Int)⊕((Int)⊕(Int×Int)))
 | (v1,v2)=>.ite 1 (decide (v2<(qu1.Seq.length:Int))) (.grd 2 (0≤v2∧v2<(qu1.Seq.length:Int)) <| .jn 7 0 (fun (j4:Int)=>⟨[(1,.ptr 1 0),(4,.ptr 4 0),(12,.t (eL cGPat (qu1.Seq))),(13,tI (qu1.Seq.length:Int)),(14,tI v2)],[(1,.box [.ptr 30000 0]),(4,.box (([.int .i64 j4]).map .t)),(30000,bP qu0 qu1 30001 qu2),(30001,pD qum)]⟩) (.ite 0 (((qu1.Seq.getD v2.toNat default).Rep)==1) (.dg 2 (0≤(v2:Int)) <| .dr 0 0 [(1,false,[]),(4,false,[4]),(6,false,[]),(30000,false,[]),(30001,false,[])] [1,4,5,6,12,13,14,15,16,17,18,19,20,21] <| .ret 0 (bitO .i64 v1 (shlI .i64 1 v2))) (.ret 0 v1)) fun j4=>.ret 2 (.inl (j4,i64.wrap (v2+1)))) (.ret 0 (.inr (.inl v1)))
def T359s0(qu0:List GFunc)(qu1:GNode)(qu2:Int)(qum:LM):TP (Int×Int):=.lp 12 (fun ((v1,v2):Int×Int)=>⟨[(1,.ptr 1 0),(4,.ptr 4 0),(12,.t (eL cGPat (qu1.Seq))),(13,tI (qu1.Seq.length:Int)),(14,tI v2)],[(1,.box [.ptr 30000 0]),(4,.box (([.int .i64 v1]).map .t)),(30000,bP qu0 qu1 30001 qu2),(30001,pD qum)]⟩) (fun (b3:Int)=>⟨[(1,.ptr 1 0),(4,.ptr 4 0)],[(1,.box [.ptr 30000 0]),(4,.box (([.int .i64 b3]).map .t)),(30000,bP qu0 qu1 30001 qu2),(30001,pD qum)]⟩) 0 (0,0) (T359s0_L0 qu0 qu1 qu2 qum) fun b3=>.cv 4 [.rn 1 30002] <| .ch 0 [] (G375s0_ok 1 qu0 qu1 qu2 qum) fun r5=>.cv 3 [.rn 4 41011,.rn 7 41012,.rn 30002 41013] <| .ret 0 (r5,b3)
def G359s0(qu0:List GFunc)(qu1:GNode)(qu2:Int)(qum:LM):Option (Int×Int):=(T359s0 qu0 qu1 qu2 qum).den
theorem G359s0_ok(qu0:List GFunc)(qu1:GNode)(qu2:Int)(qum:LM):ConH Tryz.prog 162 [.ptr 30000 0] [(30000,bP qu0 qu1 30001 qu2),(30001,pD qum)] [30000,30001] (G359s0 qu0 qu1 qu2 qum) (fun (y:Int×Int)=>.tup [tI y.1,.fn (.func 219) 0 [.ptr 41012 0,.ptr 41011 0]]) (fun (y:Int×Int)=>[(30000,bP qu0 qu1 30001 qu2),(30001,pD qum),(41011,.box (([.int .i64 (y.2)]).map .t)),(41012,.box [.fn (.func 218) 0 [.ptr 41013 0]]),(41013,.box [.ptr 30000 0])]):=conH Tryz.func162 ti_ok (T359s0 qu0 qu1 qu2 qum)
def T375s1_L0(qu0:List GFunc)(qu1:GNode)(qu2:Int)(qum:LM):(Int×Int)→TP ((Int×Int)⊕((Int)⊕Int))
 | (v1,v2)=>.ite 1 (decide (v2<(qu1.Seq.length:Int))) (.grd 2 (0≤v2∧v2<(qu1.Seq.length:Int)) <| .jn 8 0 (fun (j4:Bool)=>⟨[(0,tI v1),(4,tI v2),(10,.t (eL cGPat (qu1.Seq))),(11,tI (qu1.Seq.length:Int)),(12,tI v2),(26,tB j4)],[(30000,bP qu0 qu1 30001 qu2),(30001,pD qum),(30004,.box [.ptr 30000 0])]⟩) (.ite 0 (((qu1.Seq.getD v2.toNat default).Rep)==2) (.grd 3 (0≤(v2:Int)) <| .ret 3 ((bitA .i64 (shrI .i64 v1 v2) 1)==1)) (.ret 6 false)) fun j4=>.jn 0 0 (fun (j5:Int)=>⟨[(0,tI j5),(10,.t (eL cGPat (qu1.Seq))),(11,tI (qu1.Seq.length:Int)),(12,tI v2)],[(30000,bP qu0 qu1 30001 qu2),(30001,pD qum),(30004,.box [.ptr 30000 0])]⟩) (.ite 0 j4 (.grd 4 (0≤((i64.wrap (v2+1)):Int)) <| .ret 2 (bitO .i64 v1 (shlI .i64 1 (i64.wrap (v2+1))))) (.ret 0 v1)) fun j5=>.ret 2 (.inl (j5,i64.wrap (v2+1)))) (.ret 0 (.inr (.inl v1)))
def T375s1(a0:Int)(qu0:List GFunc)(qu1:GNode)(qu2:Int)(qum:LM):TP Int:=.lp 8 (fun ((v1,v2):Int×Int)=>⟨[(0,tI v1),(10,.t (eL cGPat (qu1.Seq))),(11,tI (qu1.Seq.length:Int)),(12,tI v2)],[(30000,bP qu0 qu1 30001 qu2),(30001,pD qum),(30004,.box [.ptr 30000 0])]⟩) (fun (b3:Int)=>⟨[(0,tI b3)],[(30000,bP qu0 qu1 30001 qu2),(30001,pD qum),(30004,.box [.ptr 30000 0])]⟩) 0 (a0,0) (T375s1_L0 qu0 qu1 qu2 qum) fun b3=>.ret 2 b3
def G375s1(a0:Int)(qu0:List GFunc)(qu1:GNode)(qu2:Int)(qum:LM):Option Int:=(T375s1 a0 qu0 qu1 qu2 qum).den
theorem G375s1_ok(a0:Int)(qu0:List GFunc)(qu1:GNode)(qu2:Int)(qum:LM):ConH Tryz.prog 218 [tI a0,.ptr 30004 0] [(30000,bP qu0 qu1 30001 qu2),(30001,pD qum),(30004,.box [.ptr 30000 0])] [30000,30001,30004] (G375s1 a0 qu0 qu1 qu2 qum) tI (fun (y:Int)=>[(30000,bP qu0 qu1 30001 qu2),(30001,pD qum),(30004,.box [.ptr 30000 0])]):=conH Tryz.func218 ti_ok (T375s1 a0 qu0 qu1 qu2 qum)
def T376s0(a0:Int)(a1:GPlace)(qu0:List GFunc)(qu1:GNode)(qu2:Int)(qum:LM)(qx0:Int):TP Int:=.gd 10 (0≤(1:Int)) (by decide) <| .ch 4 [] (G375s1_ok (bitO .i64 (shlI .i64 (bitA .i64 a0 a1.fits_) 1) (bitA .i64 (bitA .i64 a0 a1.fits_) qx0)) qu0 qu1 qu2 qum) fun r1=>.ret 1 r1
def G376s0(a0:Int)(a1:GPlace)(qu0:List GFunc)(qu1:GNode)(qu2:Int)(qum:LM)(qx0:Int):Option Int:=(T376s0 a0 a1 qu0 qu1 qu2 qum qx0).den
theorem G376s0_ok(a0:Int)(a1:GPlace)(qu0:List GFunc)(qu1:GNode)(qu2:Int)(qum:LM)(qx0:Int):ConH Tryz.prog 219 [tI a0,.t (eGPlace a1),.ptr 30002 0,.ptr 30003 0] [(30000,bP qu0 qu1 30001 qu2),(30001,pD qum),(30002,.box [.fn (.func 218) 0 [.ptr 30004 0]]),(30003,.box (([.int .i64 qx0]).map .t)),(30004,.box [.ptr 30000 0])] [30000,30001,30002,30003,30004] (G376s0 a0 a1 qu0 qu1 qu2 qum qx0) tI (fun (y:Int)=>[(30000,bP qu0 qu1 30001 qu2),(30001,pD qum),(30002,.box [.fn (.func 218) 0 [.ptr 30004 0]]),(30003,.box (([.int .i64 qx0]).map .t)),(30004,.box [.ptr 30000 0])]):=conH Tryz.func219 ti_ok (T376s0 a0 a1 qu0 qu1 qu2 qum qx0)
def T341s0_L1(a1:LD)(a2:Int)(qu0:List GFunc)(qu1:GNode)(qu2:Int)(qum:LM)(r1:(List GPlace))(r2:Int×Int)(v5:Int):((List Int)×Int×Int)→TP (((List Int)×Int×Int)⊕((List Int)⊕(((List Int)×Int)⊕((List Int)⊕LD))))
 | (v7,v8,v9)=>.jn 0 0 (fun ((j11,j12):(List Int)×Bool)=>⟨[(0,.ptr 30000 0),(1,tD a1),(2,tI a2),(9,.t (eL cGPlace r1)),(10,tI r2.1),(11,.fn (.func 219) 0 [.ptr 18212 0,.ptr 18211 0]),(12,tI (shlI .i64 1 (qu1.Seq.length:Int))),(13,.own 13),(14,tI v5),(15,.ptr 15 0),(16,tI v8),(17,tI v9),(46,.t (eL cGPlace r1)),(47,tI (r1.length:Int)),(48,tI v5),(78,tB j12)],[(13,.arr 3 1 (j11.length) (eF cInt j11)),(15,.box ((cGPlace (r1.getD v5.toNat default)).map .t)),(18211,.box (([.int .i64 (r2.2)]).map .t)),(18212,.box [.fn (.func 218) 0 [.ptr 18213 0]]),(18213,.box [.ptr 30000 0]),(30000,bP qu0 qu1 30001 qu2),(30001,pD qum)]⟩) (.dl 4 (decide (v9<(r1.length:Int))) (.dg 7 (0≤v9∧v9<(r1.length:Int)) <| .dl 20 (decide ((i64.wrap (((r1.getD v9.toNat default).time_)-((r1.getD v5.toNat default).time_)))<qu1.Size)) (.dr 0 0 [(13,false,[]),(15,false,[]),(18211,false,[]),(18212,false,[]),(18213,false,[]),(30000,false,[]),(30001,false,[])] [0,1,2,9,10,11,12,13,14,15,16,17,46,47,48] <| .ret 0 (v7,v8 != 0)) (.dr 0 0 [(13,false,[]),(15,false,[]),(18211,false,[]),(18212,false,[]),(18213,false,[]),(30000,false,[]),(30001,false,[])] [0,1,2,9,10,11,12,13,14,15,16,17,46,47,48] <| .ret 0 (v7,false))) (.dr 0 0 [(13,false,[]),(15,false,[]),(18211,false,[]),(18212,false,[]),(18213,false,[]),(30000,false,[]),(30001,false,[])] [0,1,2,9,10,11,12,13,14,15,16,17,46,47,48] <| .ret 0 (v7,false))) fun (j11,j12)=>.ite 0 j12 (.grd 5 (0≤v9∧v9<(r1.length:Int)) <| .cv 1 [.rn 18212 30002] <| .cv 0 [.rn 18211 30003] <| .cv 0 [.rn 18213 30004] <| .ch 0 [] (G376s0_ok v8 (r1.getD v9.toNat default) qu0 qu1 qu2 qum r2.2) fun r13=>.jn 6 0 (fun ((j14,j15):(List Int)×Bool)=>⟨[(0,.ptr 30000 0),(1,tD a1),(2,tI a2),(9,.t (eL cGPlace r1)),(10,tI r2.1),(11,.fn (.func 219) 0 [.ptr 30002 0,.ptr 30003 0]),(12,tI (shlI .i64 1 (qu1.Seq.length:Int))),(13,.own 13),(14,tI v5),(15,.ptr 15 0),(16,tI r13),(17,tI v9),(46,.t (eL cGPlace r1)),(47,tI (r1.length:Int)),(48,tI v5),(98,tB j15)],[(13,.arr 3 1 (j14.length) (eF cInt j14)),(15,.box ((cGPlace (r1.getD v5.toNat default)).map .t)),(30000,bP qu0 qu1 30001 qu2),(30001,pD qum),(30002,.box [.fn (.func 218) 0 [.ptr 30004 0]]),(30003,.box (([.int .i64 (r2.2)]).map .t)),(30004,.box [.ptr 30000 0])]⟩) (.ite 0 ((bitA .i64 r13 (shlI .i64 1 (qu1.Seq.length:Int))) != 0) (.grd 3 (0≤v9∧v9<(j11.length:Int)) <| .grd 1 ((v9).toNat<j11.length) <| .ret 2 (j11,decide ((j11.getD v9.toNat default)<0))) (.ret 6 (j11,false))) fun (j14,j15)=>.jn 0 0 (fun (j16:(List Int))=>⟨[(0,.ptr 30000 0),(1,tD a1),(2,tI a2),(9,.t (eL cGPlace r1)),(10,tI r2.1),(11,.fn (.func 219) 0 [.ptr 30002 0,.ptr 30003 0]),(12,tI (shlI .i64 1 (qu1.Seq.length:Int))),(13,.own 13),(14,tI v5),(15,.ptr 15 0),(16,tI r13),(17,tI v9),(46,.t (eL cGPlace r1)),(47,tI (r1.length:Int)),(48,tI v5)],[(13,.arr 3 1 (j16.length) (eF cInt j16)),(15,.box ((cGPlace (r1.getD v5.toNat default)).map .t)),(30000,bP qu0 qu1 30001 qu2),(30001,pD qum),(30002,.box [.fn (.func 218) 0 [.ptr 30004 0]]),(30003,.box (([.int .i64 (r2.2)]).map .t)),(30004,.box [.ptr 30000 0])]⟩) (.ite 0 j15 (.grd 4 (0≤v9∧v9<(j14.length:Int)) <| .grd 1 ((v9).toNat<j14.length) <| .sto 0 13 cInt j14 [((v9).toNat,v5)] <| .ret 0 (j14.set v9.toNat v5)) (.ret 0 j14)) fun j16=>.cv 3 [.rn 30002 18212,.rn 30003 18211,.rn 30004 18213] <| .ret 0 (.inl (j16,r13,i64.wrap (v9+1)))) (.ret 0 (.inr (.inl j11)))
def T341s0_L0(a1:LD)(a2:Int)(qu0:List GFunc)(qu1:GNode)(qu2:Int)(qum:LM)(r1:(List GPlace))(r2:Int×Int):((List Int)×Int)→TP (((List Int)×Int)⊕((List Int)⊕LD))
 | (v4,v5)=>.ite 1 (decide (v5<(r1.length:Int))) (.grd 2 (0≤v5∧v5<(r1.length:Int)) <| .lp 8 (fun ((v7,v8,v9):(List Int)×Int×Int)=>⟨[(0,.ptr 30000 0),(1,tD a1),(2,tI a2),(9,.t (eL cGPlace r1)),(10,tI r2.1),(11,.fn (.func 219) 0 [.ptr 18212 0,.ptr 18211 0]),(12,tI (shlI .i64 1 (qu1.Seq.length:Int))),(13,.own 13),(14,tI v5),(15,.ptr 15 0),(16,tI v8),(17,tI v9),(46,.t (eL cGPlace r1)),(47,tI (r1.length:Int)),(48,tI v5)],[(13,.arr 3 1 (v7.length) (eF cInt v7)),(15,.box ((cGPlace (r1.getD v5.toNat default)).map .t)),(18211,.box (([.int .i64 (r2.2)]).map .t)),(18212,.box [.fn (.func 218) 0 [.ptr 18213 0]]),(18213,.box [.ptr 30000 0]),(30000,bP qu0 qu1 30001 qu2),(30001,pD qum)]⟩) (fun (b10:(List Int))=>⟨[(0,.ptr 30000 0),(1,tD a1),(2,tI a2),(9,.t (eL cGPlace r1)),(10,tI r2.1),(11,.fn (.func 219) 0 [.ptr 18212 0,.ptr 18211 0]),(12,tI (shlI .i64 1 (qu1.Seq.length:Int))),(13,.own 13),(46,.t (eL cGPlace r1)),(47,tI (r1.length:Int)),(48,tI v5)],[(13,.arr 3 1 (b10.length) (eF cInt b10)),(18211,.box (([.int .i64 (r2.2)]).map .t)),(18212,.box [.fn (.func 218) 0 [.ptr 18213 0]]),(18213,.box [.ptr 30000 0]),(30000,bP qu0 qu1 30001 qu2),(30001,pD qum)]⟩) 2 (v4,r2.1,v5) (T341s0_L1 a1 a2 qu0 qu1 qu2 qum r1 r2 v5) fun b10=>.ret 2 (.inl (b10,i64.wrap (v5+1)))) (.ret 0 (.inr (.inl v4)))
def T341s0_L2(a2:Int)(qu0:List GFunc)(qu1:GNode)(qu2:Int)(qum:LM)(r1:(List GPlace))(b6:List Int)(r17:(List GValue)):(LD×(List Int)×Int)→TP ((LD×(List Int)×Int)⊕((LD)⊕LD))
 | (v18,v19,v20)=>.ite 1 (decide (v20<(b6.length:Int))) (.grd 2 (0≤v20∧v20<(v19.length:Int)) <| .grd 1 ((v20).toNat<v19.length) <| .jn 5 0 (fun ((j22,j23,j24):LD×(List Int)×Bool)=>⟨[(2,tI a2),(9,.t (eL cGPlace r1)),(18,tV r17),(19,.own 19),(20,tI v20),(21,tI (v19.getD v20.toNat default)),(110,.own 110),(111,tI (b6.length:Int)),(112,tI v20),(127,tB j24)],[(19,aD j22),(110,.arr 3 1 (j23.length) (eF cInt j23)),(30000,bP qu0 qu1 30001 qu2),(30001,pD qum)]⟩) (.ite 0 (decide ((v19.getD v20.toNat default)≥0)) (.grd 3 (0≤v20∧v20<(r1.length:Int)) <| .ret 5 (v18,v19,decide (((r1.getD v20.toNat default).time_)≥a2))) (.ret 8 (v18,v19,false))) fun (j22,j23,j24)=>.jn 0 0 (fun ((j25,j26):LD×(List Int))=>⟨[(2,tI a2),(9,.t (eL cGPlace r1)),(18,tV r17),(19,.own 19),(110,.own 110),(111,tI (b6.length:Int)),(112,tI v20)],[(19,aD j25),(110,.arr 3 1 (j26.length) (eF cInt j26)),(30000,bP qu0 qu1 30001 qu2),(30001,pD qum)]⟩) (.ite 0 j24 (.dg 3 (0≤v20∧v20<(r1.length:Int)) <| .dcn 7 135 [tV r17] (G64s0_ok r17) fun r27=>.dg 10 (0≤(v19.getD v20.toNat default)∧(v19.getD v20.toNat default)<(r1.length:Int)) <| .dc 13 [tI ((r1.getD (v19.getD v20.toNat default).toNat default).time_)] (G361_ok ((r1.getD (v19.getD v20.toNat default).toNat default).time_)) fun r28=>.dc 18 [tI (i64.wrap ((i64.wrap (v20-(v19.getD v20.toNat default)))+1))] (G361_ok (i64.wrap ((i64.wrap (v20-(v19.getD v20.toNat default)))+1))) fun r29=>.dap 20 (le_apg cGValue r27 ([r28,r29]:List GValue) 2 (arrOf [.int .i64 (r28.Kind),.int .i64 (r28.N),.str (r28.S),.int .i64 (r29.Kind),.int .i64 (r29.N),.str (r29.S)] 3) rfl (by kernel_rfl)) <| .dg 20 ((r27.length+2)*32≤140737488355328) <| .dg 23 ((j22.length+1)*40≤140737488355328) <| .dr 0 0 [(135,true,[7,20]),(148,true,[20]),(151,true,[23]),(19,false,[23]),(110,false,[]),(30000,false,[]),(30001,false,[])] [2,9,18,19,20,21,110,111,112,127] <| .cv 0 [.apl 151 cGDelta j22 ([(GDelta.mk ((r1.getD v20.toNat default).time_) (r27++([r28,r29]:List GValue)) 1)]:LD)] <| .cv 0 [.rn 151 19] <| .ret 0 (j22++([(GDelta.mk ((r1.getD v20.toNat default).time_) (r27++([r28,r29]:List GValue)) 1)]:LD),j23)) (.ret 0 (j22,j23))) fun (j25,j26)=>.ret 2 (.inl (j25,j26,i64.wrap (v20+1)))) (.ret 0 (.inr (.inl v18)))
def T341s0(a1:LD)(a2:Int)(a3:Int)(qu0:List GFunc)(qu1:GNode)(qu2:Int)(qum:LM):TP LD:=.ch 5 [] (G358s0_ok a1 a2 a3 qu0 qu1 qu2 qum) fun r1=>.ite 4 ((r1.length:Int)==0) (.cv 1 [.sl 8 (eL cGDelta ([]:LD))] <| .ret 0 ([]:LD)) (.ch 1 [41011,41012,41013] (G359s0_ok qu0 qu1 qu2 qum) fun r2=>.cv 0 [.rn 41011 18211,.rn 41012 18212,.rn 41013 18213] <| .grd 12 (0≤((qu1.Seq.length:Int):Int)) <| .bs 1 false cInt ([(-1)]:List Int) <| .ch 2 [40000] (con360 ([(-1)]:List Int) (r1.length:Int)) fun r3=>.cv 0 [.rn 40000 45] <| .cv 4 [.rn 45 13] <| .lp 0 (fun ((v4,v5):(List Int)×Int)=>⟨[(0,.ptr 30000 0),(1,tD a1),(2,tI a2),(9,.t (eL cGPlace r1)),(10,tI r2.1),(11,.fn (.func 219) 0 [.ptr 18212 0,.ptr 18211 0]),(12,tI (shlI .i64 1 (qu1.Seq.length:Int))),(13,.own 13),(46,.t (eL cGPlace r1)),(47,tI (r1.length:Int)),(48,tI v5)],[(13,.arr 3 1 (v4.length) (eF cInt v4)),(18211,.box (([.int .i64 (r2.2)]).map .t)),(18212,.box [.fn (.func 218) 0 [.ptr 18213 0]]),(18213,.box [.ptr 30000 0]),(30000,bP qu0 qu1 30001 qu2),(30001,pD qum)]⟩) (fun (b6:(List Int))=>⟨[(0,.ptr 30000 0),(1,tD a1),(2,tI a2),(9,.t (eL cGPlace r1)),(13,.own 13)],[(13,.arr 3 1 (b6.length) (eF cInt b6)),(30000,bP qu0 qu1 30001 qu2),(30001,pD qum)]⟩) 0 (r3,0) (T341s0_L0 a1 a2 qu0 qu1 qu2 qum r1 r2) fun b6=>.grd 3 (0≤(0:Int)∧(0:Int)<(a1.length:Int)) <| .ch 2 [] (G357s0_ok ((a1.getD (0:Int).toNat default).Row) qu0 qu1 qu2 qum) fun r17=>.cv 5 [.rn 13 110,.th 19 19 50 3 (eF cGDelta ([]:LD))] <| .lp 0 (fun ((v18,v19,v20):LD×(List Int)×Int)=>⟨[(2,tI a2),(9,.t (eL cGPlace r1)),(18,tV r17),(19,.own 19),(110,.own 110),(111,tI (b6.length:Int)),(112,tI v20)],[(19,aD v18),(110,.arr 3 1 (v19.length) (eF cInt v19)),(30000,bP qu0 qu1 30001 qu2),(30001,pD qum)]⟩) (fun (b21:LD)=>⟨[(19,.own 19)],[(19,aD b21),(30000,bP qu0 qu1 30001 qu2),(30001,pD qum)]⟩) 4 (([]:LD),b6,0) (T341s0_L2 a2 qu0 qu1 qu2 qum r1 b6 r17) fun b21=>.cv 2 [.fr 19 (eL cGDelta b21)] <| .ret 0 b21)
def G341s0(a1:LD)(a2:Int)(a3:Int)(qu0:List GFunc)(qu1:GNode)(qu2:Int)(qum:LM):Option LD:=(T341s0 a1 a2 a3 qu0 qu1 qu2 qum).den
theorem G341s0_ok(a1:LD)(a2:Int)(a3:Int)(qu0:List GFunc)(qu1:GNode)(qu2:Int)(qum:LM):ConH Tryz.prog 72 [.ptr 30000 0,tD a1,tI a2,tI a3] [(30000,bP qu0 qu1 30001 qu2),(30001,pD qum)] [30000,30001] (G341s0 a1 a2 a3 qu0 qu1 qu2 qum) tD (fun (y:LD)=>[(30000,bP qu0 qu1 30001 qu2),(30001,pD qum)]):=conH Tryz.func72 ti_ok (T341s0 a1 a2 a3 qu0 qu1 qu2 qum)
def T315s0_L0(qu0:List GFunc)(qu1:GNode)(qu2:Int):((List ByteArray)×LM×LM×LD)→TP (((List ByteArray)×LM×LM×LD)⊕((LM×LD)⊕(LD×LM)))
 | (v3,v4,v5,v6)=>.nxd 0 vD (v4:LM) (v3:List ByteArray) (.ret 2 (.inr (.inl (v5,v6)))) fun k9 c10=>.gd 3 ((.str k9:T) = .str k9) rfl <| .jn 9 0 (fun ((j11,j12):LD×LD)=>⟨[(0,.ptr 30000 0),(7,.own 7),(8,.t (.str k9)),(9,tD c10),(10,tD j12),(18,.ptr 18 0)],[(7,aD j11),(17,.mp (some ⟨18,kTs (kerase v3 k9:List ByteArray),some (.str k9)⟩) (eM mD (mdel v4 k9:LM)) (some (.str k9,some (tD c10)))),(30000,bP qu0 qu1 30001 qu2),(30001,pD v5)]⟩) (.lkd 0 (.slice none 0 0) vD (v5:LM) k9 (.cv 1 [.sl 10 (eL cGDelta ([]:LD))] <| .ret 0 (v6,([]:LD))) fun c13=>.ret 1 (v6,c13)) fun (j11,j12)=>.ca 2 (G12_ok j12 c10) fun r14=>.dg 1 (0≤(0:Int)∧(0:Int)<(c10.length:Int)) <| .dg 8 (0≤(i64.wrap ((c10.length:Int)-1))∧(i64.wrap ((c10.length:Int)-1))<(c10.length:Int)) <| .dr 1 0 [(7,false,[]),(17,false,[]),(30000,false,[]),(30001,false,[])] [0,7,8,9,10,11,18,30,31,32] <| .ch 5 [] (G341s0_ok r14 ((c10.getD (0:Int).toNat default).Time) (i64.wrap ((i64.wrap (((c10.getD (i64.wrap ((c10.length:Int)-1)).toNat default).Time)+qu1.Size))-1)) qu0 qu1 qu2 v5) fun r15=>.ch 4 [] (G341s0_ok j12 ((c10.getD (0:Int).toNat default).Time) (i64.wrap ((i64.wrap (((c10.getD (i64.wrap ((c10.length:Int)-1)).toNat default).Time)+qu1.Size))-1)) qu0 qu1 qu2 v5) fun r16=>.ca 0 (G129_ok r15 r16) fun r17=>.grd 1 ((j11.length+r17.length)*40≤140737488355328) <| .cv 0 [.ap 63 cGDelta j11 r17] <| .ch 4 [] (G339s1_ok k9 r14 qu0 qu1 qu2 v5) fun r18=>.cv 0 [.rn 63 7,.fd 17 vD (v4:LM) k9 (c10:LD),.nc 17] <| .ret 0 (.inl (kerase v3 k9,mput v4 k9 (c10:LD),r18,j11++r17))
def T315s0(a1:Int)(a2:LD)(qu0:List GFunc)(qu1:GNode)(qu2:Int)(qum:LM):TP (LD×LM):=.ca 4 (G27_ok a2) fun r1=>.ch 0 [40000] (G340s0_ok r1 qu0 qu1 qu2 qum) fun r2=>.cv 0 [.rn 40000 17,.fz 17 50 3 (fun c:LD=>c.length) (fun c:LD=>eF cGDelta c) vD (r2:LM)] <| .rng 0 mD (r2:LM) <| .cv 0 [.th 7 7 50 3 (eF cGDelta ([]:LD))] <| .lp 0 (fun ((v3,v4,v5,v6):(List ByteArray)×LM×LM×LD)=>⟨[(0,.ptr 30000 0),(7,.own 7),(18,.ptr 18 0)],[(7,aD v6),(17,.mp (some ⟨18,kTs (v3:List ByteArray),none⟩) (eM mD (v4:LM)) none),(30000,bP qu0 qu1 30001 qu2),(30001,pD v5)]⟩) (fun ((b7,b8):LM×LD)=>⟨[(7,.own 7)],[(7,aD b8),(30000,bP qu0 qu1 30001 qu2),(30001,pD b7)]⟩) 0 (mkeys r2,r2,qum,([]:LD)) (T315s0_L0 qu0 qu1 qu2) fun (b7,b8)=>.cv 1 [.fr 7 (eL cGDelta b8)] <| .ca 0 (G27_ok b8) fun r19=>.ret 1 (r19,b7)
def G315s0(a1:Int)(a2:LD)(qu0:List GFunc)(qu1:GNode)(qu2:Int)(qum:LM):Option (LD×LM):=Det (T315s0 a1 a2 qu0 qu1 qu2 qum)
theorem G315s0_ok(a1:Int)(a2:LD)(qu0:List GFunc)(qu1:GNode)(qu2:Int)(qum:LM):ConH Tryz.prog 21 [.ptr 30000 0,tI a1,tD a2] [(30000,bP qu0 qu1 30001 qu2),(30001,pD qum)] [30000,30001] (G315s0 a1 a2 qu0 qu1 qu2 qum) (fun (y:LD×LM)=>tD y.1) (fun (y:LD×LM)=>[(30000,bP qu0 qu1 30001 qu2),(30001,.mp none (eM mD (y.2:LM)) none)]):=conHD Tryz.func21 ti_ok (T315s0 a1 a2 qu0 qu1 qu2 qum)
def T13_L0(a0:LD):(Int×Int)→TP ((Int×Int)⊕((Int)⊕Int))
 | (v1,v2)=>.ite 1 (decide (v2<(a0.length:Int))) (.grd 1 (0≤v2∧v2<(a0.length:Int)) <| .ret 10 (.inl (i64.wrap (v1+((a0.getD v2.toNat default).N)),i64.wrap (v2+1)))) (.ret 0 (.inr (.inl v1)))
def T13(a0:LD):TP Int:=.lp 5 (fun ((v1,v2):Int×Int)=>⟨[(3,tI v1),(6,tD a0),(7,tI (a0.length:Int)),(8,tI v2)],[]⟩) (fun (b3:Int)=>⟨[(3,tI b3)],[]⟩) 0 (0,0) (T13_L0 a0) fun b3=>.ret 2 b3
def G13(a0:LD):Option Int:=(T13 a0).den
theorem G13_ok(a0:LD):Con Tryz.prog 24 [tD a0] (G13 a0) tI:=con Tryz.func24 ti_ok (T13 a0)
def T342s0_L0:((List ByteArray)×LM×LD)→TP (((List ByteArray)×LM×LD)⊕(((List ByteArray)×LM×LD)⊕(LD×LM)))
 | (v1,v2,v3)=>.nxd 0 vD (v2:LM) (v1:List ByteArray) (.ret 2 (.inr (.inl (v1,v2,v3)))) fun k7 c8=>.gd 3 ((.str k7:T) = .str k7) rfl <| .grd 5 ((v3.length+c8.length)*40≤140737488355328) <| .cv 0 [.ap 17 cGDelta v3 c8] <| .cv 1 [.rn 17 3,.fd 30001 vD (v2:LM) k7 (c8:LD),.nc 30001] <| .ret 0 (.inl (kerase v1 k7,mput v2 k7 (c8:LD),v3++c8))
def T342s0(qu0:List GFunc)(qu1:GNode)(qu2:Int)(qum:LM):TP (LD×LM):=.rng 6 mD (qum:LM) <| .cv 0 [.th 3 3 50 3 (eF cGDelta ([]:LD))] <| .lp 0 (fun ((v1,v2,v3):(List ByteArray)×LM×LD)=>⟨[(3,.own 3),(10,.ptr 10 0)],[(3,aD v3),(30000,bP qu0 qu1 30001 qu2),(30001,.mp (some ⟨10,kTs (v1:List ByteArray),none⟩) (eM mD (v2:LM)) none)]⟩) (fun ((b4,b5,b6):(List ByteArray)×LM×LD)=>⟨[(3,.own 3)],[(3,aD b6),(30000,bP qu0 qu1 30001 qu2),(30001,.mp (some ⟨10,kTs (b4:List ByteArray),none⟩) (eM mD (b5:LM)) none)]⟩) 0 (mkeys qum,qum,([]:LD)) T342s0_L0 fun (b4,b5,b6)=>.cv 1 [.fr 3 (eL cGDelta b6)] <| .ca 0 (G27_ok b6) fun r9=>.cv 1 [.ni 30001] <| .ret 0 (r9,b5)
def G342s0(qu0:List GFunc)(qu1:GNode)(qu2:Int)(qum:LM):Option (LD×LM):=Det (T342s0 qu0 qu1 qu2 qum)
theorem G342s0_ok(qu0:List GFunc)(qu1:GNode)(qu2:Int)(qum:LM):ConH Tryz.prog 76 [.ptr 30000 0] [(30000,bP qu0 qu1 30001 qu2),(30001,pD qum)] [30000,30001] (G342s0 qu0 qu1 qu2 qum) (fun (y:LD×LM)=>tD y.1) (fun (y:LD×LM)=>[(30000,bP qu0 qu1 30001 qu2),(30001,.mp none (eM mD (y.2:LM)) none)]):=conHD Tryz.func76 ti_ok (T342s0 qu0 qu1 qu2 qum)
def T316s0(qu0:List GFunc)(qu1:GNode)(qu2:Int)(qum:LM):TP (Int×LM):=.ch 2 [] (G342s0_ok qu0 qu1 qu2 qum) fun r1=>.ca 0 (G13_ok r1.1) fun r2=>.ret 1 (r2,r1.2)
def G316s0(qu0:List GFunc)(qu1:GNode)(qu2:Int)(qum:LM):Option (Int×LM):=(T316s0 qu0 qu1 qu2 qum).den
theorem G316s0_ok(qu0:List GFunc)(qu1:GNode)(qu2:Int)(qum:LM):ConH Tryz.prog 23 [.ptr 30000 0] [(30000,bP qu0 qu1 30001 qu2),(30001,pD qum)] [30000,30001] (G316s0 qu0 qu1 qu2 qum) (fun (y:Int×LM)=>tI y.1) (fun (y:Int×LM)=>[(30000,bP qu0 qu1 30001 qu2),(30001,.mp none (eM mD (y.2:LM)) none)]):=conH Tryz.func23 ti_ok (T316s0 qu0 qu1 qu2 qum)
def T321s0(qu0:List GFunc)(qu1:GNode)(qu2:Int)(qum:LM):TP Bool:=.mlen 5 mD (qum:LM) <| .ret 2 ((qum.length:Int)==0)
def G321s0(qu0:List GFunc)(qu1:GNode)(qu2:Int)(qum:LM):Option Bool:=(T321s0 qu0 qu1 qu2 qum).den
theorem G321s0_ok(qu0:List GFunc)(qu1:GNode)(qu2:Int)(qum:LM):ConH Tryz.prog 30 [.ptr 30000 0] [(30000,bP qu0 qu1 30001 qu2),(30001,pD qum)] [30000,30001] (G321s0 qu0 qu1 qu2 qum) tB (fun (y:Bool)=>[(30000,bP qu0 qu1 30001 qu2),(30001,pD qum)]):=conH Tryz.func30 ti_ok (T321s0 qu0 qu1 qu2 qum)
def T311:TP Bool:=.bs 1 false cInt ([0]:List Int) <| .ca 0 (G335_ok 1) fun r1=>.ca 1 (G335_ok 2) fun r2=>.bs 1 false cGPat ([(GPat.mk r1 0),(GPat.mk r2 1)]:List GPat) <| .cv 1 [.sl 14 (eGNode (GNode.mk 8 ([]:List Int) (⟨#[]⟩) 0 ([]:List Expr) 0 10 0 ([0]:List Int) ([]:List Int) 0 0 0 ([]:List GAgg) ([(GPat.mk r1 0),(GPat.mk r2 1)]:List GPat) ([]:List GCol)))] <| .ch 0 [40000,41001] (G313s0_ok ([]:List GFunc) (GNode.mk 8 ([]:List Int) (⟨#[]⟩) 0 ([]:List Expr) 0 10 0 ([0]:List Int) ([]:List Int) 0 0 0 ([]:List GAgg) ([(GPat.mk r1 0),(GPat.mk r2 1)]:List GPat) ([]:List GCol))) fun r3=>.cv 0 [.rn 40000 15,.rn 41001 16501,.fz 16501 50 3 (fun c:LD=>c.length) (fun c:LD=>eF cGDelta c) vD (r3.2.2.2:LM)] <| .ca 5 (G336_ok 3 7 1) fun r4=>.bs 0 false cGDelta ([r4]:LD) <| .cv 0 [.rn 15 30000] <| .cv 0 [.rn 16501 30001] <| .ch 0 [] (G315s0_ok 0 ([r4]:LD) r3.1 r3.2.1 r3.2.2.1 r3.2.2.2) fun r5=>.ca 2 (G336_ok 5 7 2) fun r6=>.ca 0 (G336_ok 8 7 2) fun r7=>.bs 0 false cGDelta ([r6,r7]:LD) <| .ch 0 [] (G315s0_ok 0 ([r6,r7]:LD) r3.1 r3.2.1 r3.2.2.1 r5.2) fun r8=>.ca 2 (G336_ok 4 7 1) fun r9=>.bs 0 false cGDelta ([r9]:LD) <| .ch 0 [] (G315s0_ok 0 ([r9]:LD) r3.1 r3.2.1 r3.2.2.1 r8.2) fun r10=>.ch 2 [] (G316s0_ok r3.1 r3.2.1 r3.2.2.1 r10.2) fun r11=>.ch 2 [] (G314s0_ok 17 r3.1 r3.2.1 r3.2.2.1 r11.2) fun r12=>.jn 4 0 (fun (j13:Bool)=>⟨[(1,.ptr 30000 0),(4,tD r10.1),(5,tI r11.1),(6,tB j13)],[(30000,bP r3.1 r3.2.1 30001 r12.2),(30001,.mp none (eM mD (r12.1:LM)) none)]⟩) (.ite 0 ((r5.1.length:Int)==0) (.ca 1 (G337_ok 5 3 2 1) fun r14=>.ca 0 (G337_ok 8 3 3 1) fun r15=>.bs 0 false cGDelta ([r14,r15]:LD) <| .ca 0 (G20_ok r8.1 ([r14,r15]:LD)) fun r16=>.ret 2 r16) (.ret 7 false)) fun j13=>.ca 1 (G337_ok 5 3 2 (-1)) fun r17=>.ca 0 (G337_ok 5 4 2 1) fun r18=>.ca 0 (G337_ok 8 3 3 (-1)) fun r19=>.ca 0 (G337_ok 8 4 3 1) fun r20=>.bs 0 false cGDelta ([r17,r18,r19,r20]:LD) <| .ca 0 (G20_ok r10.1 ([r17,r18,r19,r20]:LD)) fun r21=>.jn 3 0 (fun (j22:Bool)=>⟨[(0,tB j22)],[]⟩) (.ite 0 j13 (.ite 3 r21 (.ite 4 (r11.1==4) (.ch 1 [] (G316s0_ok r3.1 r3.2.1 r12.2 r12.1) fun r23=>.ite 3 (r23.1==0) (.ch 1 [] (G321s0_ok r3.1 r3.2.1 r12.2 r23.2) fun r24=>.ret 2 r24) (.ret 4 false)) (.ret 9 false)) (.ret 13 false)) (.ret 16 false)) fun j22=>.ret 0 j22
def G311:Option Bool:=T311.den
theorem G311_ok:Con Tryz.prog 14 [] G311 tB:=con Tryz.func14 ti_ok (T311)
abbrev R79:={f:Expr→Option Int // ∀ a:Expr,Con Tryz.prog 129 [.t (eExpr a)] (f a) tI}
def T79_L0(rec:R79)(a0:Expr):(Int×Int)→TP ((Int×Int)⊕((Int)⊕Int))
 | (v1,v2)=>.ite 5 (decide (v2<(a0.Args.length:Int))) (.grd 5 (0≤v2∧v2<(a0.Args.length:Int)) <| .ca 1 (rec.2 (a0.Args.getD v2.toNat default)) fun r4=>.ret 5 (.inl (i64.wrap (v1+r4),i64.wrap (v2+1)))) (.ret 0 (.inr (.inl v1)))
def T79(rec:R79)(a0:Expr):TP Int:=.lp 4 (fun ((v1,v2):Int×Int)=>⟨[(1,.ptr 1 0),(3,tI v1),(4,tI v2)],[(1,.box ((exprCells a0).map .t))]⟩) (fun (b3:Int)=>⟨[(3,tI b3)],[]⟩) 0 (1,0) (T79_L0 rec a0) fun b3=>.ret 2 b3
theorem T79_ok(rec:R79)(a0:Expr):Con Tryz.prog 129 [.t (eExpr a0)] (T79 rec a0).den tI:=con Tryz.func129 ti_ok (T79 rec a0)
def H79(a:Expr):Option Int:=fixF (C:=fun (a:Expr) (x:Option Int)=>Con Tryz.prog 129 [.t (eExpr a)] x tI) (fun a=>⟨callable_of Tryz.func129 (by kernel_rfl),fun _ h=>nomatch h⟩) (fun rec a=>T79 rec a) (fun rec a=>T79_ok rec a) a
theorem H79_ok(a:Expr):Con Tryz.prog 129 [.t (eExpr a)] (H79 a) tI:=fixF_ok (C:=fun (a:Expr) (x:Option Int)=>Con Tryz.prog 129 [.t (eExpr a)] x tI) _ _ _ a
def G79(a0:Expr):Option Int:=H79 a0
theorem G79_ok(a0:Expr):Con Tryz.prog 129 [.t (eExpr a0)] (G79 a0) tI:=H79_ok a0
abbrev R80:={f:Expr→Option Int // ∀ a:Expr,Con Tryz.prog 130 [.t (eExpr a)] (f a) tI}
def T80_L0(rec:R80)(a0:Expr):(Int×Int)→TP ((Int×Int)⊕((Int)⊕Int))
 | (v1,v2)=>.ite 5 (decide (v2<(a0.Args.length:Int))) (.grd 5 (0≤v2∧v2<(a0.Args.length:Int)) <| .ca 1 (rec.2 (a0.Args.getD v2.toNat default)) fun r4=>.ret 5 (.inl (if r4>v1 then r4 else v1,i64.wrap (v2+1)))) (.ret 0 (.inr (.inl v1)))
def T80(rec:R80)(a0:Expr):TP Int:=.lp 4 (fun ((v1,v2):Int×Int)=>⟨[(1,.ptr 1 0),(3,tI v1),(4,tI v2)],[(1,.box ((exprCells a0).map .t))]⟩) (fun (b3:Int)=>⟨[(3,tI b3)],[]⟩) 0 (0,0) (T80_L0 rec a0) fun b3=>.ret 3 (i64.wrap (b3+1))
theorem T80_ok(rec:R80)(a0:Expr):Con Tryz.prog 130 [.t (eExpr a0)] (T80 rec a0).den tI:=con Tryz.func130 ti_ok (T80 rec a0)
def H80(a:Expr):Option Int:=fixF (C:=fun (a:Expr) (x:Option Int)=>Con Tryz.prog 130 [.t (eExpr a)] x tI) (fun a=>⟨callable_of Tryz.func130 (by kernel_rfl),fun _ h=>nomatch h⟩) (fun rec a=>T80 rec a) (fun rec a=>T80_ok rec a) a
theorem H80_ok(a:Expr):Con Tryz.prog 130 [.t (eExpr a)] (H80 a) tI:=fixF_ok (C:=fun (a:Expr) (x:Option Int)=>Con Tryz.prog 130 [.t (eExpr a)] x tI) _ _ _ a
def G80(a0:Expr):Option Int:=H80 a0
theorem G80_ok(a0:Expr):Con Tryz.prog 130 [.t (eExpr a0)] (G80 a0) tI:=H80_ok a0
abbrev R150:={f:((List Int)×Expr)→Option Int // ∀ a:(List Int)×Expr,Con Tryz.prog 211 [.t (eL cInt (a.1)),.t (eExpr a.2)] (f a) tI}
def T150_L0(rec:R150)(a0:List Int)(a1:Expr):((List Int)×Int)→TP (((List Int)×Int)⊕((List Int)⊕Int))
 | (v1,v2)=>.ite 5 (decide (v2<(a1.Args.length:Int))) (.grd 6 (0≤v2∧v2<(a1.Args.length:Int)) <| .ca 1 (rec.2 (a0,a1.Args.getD v2.toNat default)) fun r4=>.bs 0 false cInt ([r4]:List Int) <| .grd 1 ((v1.length+([r4]:List Int).length)*8≤140737488355328) <| .cv 0 [.ap 25 cInt v1 ([r4]:List Int)] <| .cv 4 [.rn 25 6] <| .ret 0 (.inl (v1++([r4]:List Int),i64.wrap (v2+1)))) (.ret 0 (.inr (.inl v1)))
def T150_L1:(Int×(List Int)×Int)→TP ((Int×(List Int)×Int)⊕((Int)⊕Int))
 | (v7,v8,v9)=>.ite 4 (decide (v9<(v8.length:Int))) (.grd 4 (0≤v9∧v9<(v8.length:Int)) <| .grd 1 ((v9).toNat<v8.length) <| .ret 6 (.inl (if (1099511627776:Int)<(i64.wrap (v7+(v8.getD v9.toNat default))) then (1099511627776:Int) else (i64.wrap (v7+(v8.getD v9.toNat default))),v8,i64.wrap (v9+1)))) (.ret 0 (.inr (.inl v7)))
def T150(rec:R150)(a0:List Int)(a1:Expr):TP Int:=.cv 5 [.th 6 6 3 1 (eF cInt ([]:List Int))] <| .lp 0 (fun ((v1,v2):(List Int)×Int)=>⟨[(0,.t (eL cInt a0)),(3,.ptr 3 0),(5,tI 1),(6,.own 6),(7,tI v2)],[(3,.box ((exprCells a1).map .t)),(6,.arr 3 1 (v1.length) (eF cInt v1))]⟩) (fun (b3:(List Int))=>⟨[(0,.t (eL cInt a0)),(3,.ptr 3 0),(5,tI 1),(6,.own 6)],[(3,.box ((exprCells a1).map .t)),(6,.arr 3 1 (b3.length) (eF cInt b3))]⟩) 0 (([]:List Int),0) (T150_L0 rec a0 a1) fun b3=>.jn 4 0 (fun ((j5,j6):(List Int)×Bool)=>⟨[(0,.t (eL cInt a0)),(3,.ptr 3 0),(5,tI 1),(6,.own 6),(33,tB j6)],[(3,.box ((exprCells a1).map .t)),(6,.arr 3 1 (j5.length) (eF cInt j5))]⟩) (.ite 0 (a1.Op==21) (.ret 4 (b3,(b3.length:Int)==3)) (.ret 4 (b3,false))) fun (j5,j6)=>.ite 0 j6 (.dg 1 (0≤(0:Int)∧(0:Int)<(j5.length:Int)) <| .dg 2 ((0:Int).toNat<j5.length) <| .dg 5 (0≤(1:Int)∧(1:Int)<(j5.length:Int)) <| .dg 6 ((1:Int).toNat<j5.length) <| .dg 8 (0≤(2:Int)∧(2:Int)<(j5.length:Int)) <| .dg 9 ((2:Int).toNat<j5.length) <| .dr 0 0 [(3,false,[]),(6,false,[])] [0,3,5,6,33] <| .ret 0 (if (1099511627776:Int)<(i64.wrap ((i64.wrap (1+(j5.getD (0:Int).toNat default)))+(if (j5.getD (2:Int).toNat default)>(j5.getD (1:Int).toNat default) then (j5.getD (2:Int).toNat default) else (j5.getD (1:Int).toNat default)))) then (1099511627776:Int) else (i64.wrap ((i64.wrap (1+(j5.getD (0:Int).toNat default)))+(if (j5.getD (2:Int).toNat default)>(j5.getD (1:Int).toNat default) then (j5.getD (2:Int).toNat default) else (j5.getD (1:Int).toNat default)))))) (.lp 1 (fun ((v7,v8,v9):Int×(List Int)×Int)=>⟨[(0,.t (eL cInt a0)),(3,.ptr 3 0),(5,tI v7),(6,.own 6),(8,tI v9)],[(3,.box ((exprCells a1).map .t)),(6,.arr 3 1 (v8.length) (eF cInt v8))]⟩) (fun (b10:Int)=>⟨[(0,.t (eL cInt a0)),(3,.ptr 3 0),(5,tI b10)],[(3,.box ((exprCells a1).map .t))]⟩) 2 (1,j5,0) T150_L1 fun b10=>.jn 4 0 (fun (j11:Bool)=>⟨[(0,.t (eL cInt a0)),(3,.ptr 3 0),(5,tI b10),(74,tB j11)],[(3,.box ((exprCells a1).map .t))]⟩) (.ite 0 (a1.Op==22) (.ite 5 (decide (a1.N≥0)) (.ret 6 (decide (a1.N<(a0.length:Int)))) (.ret 6 false)) (.ret 11 false)) fun j11=>.jn 0 0 (fun (j12:Int)=>⟨[(5,tI j12)],[]⟩) (.ite 0 j11 (.grd 5 (0≤a1.N∧a1.N<(a0.length:Int)) <| .ret 4 (if (1099511627776:Int)<(i64.wrap (b10+(a0.getD (a1.N).toNat default))) then (1099511627776:Int) else (i64.wrap (b10+(a0.getD (a1.N).toNat default))))) (.ret 0 b10)) fun j12=>.ret 2 j12)
theorem T150_ok(rec:R150)(a0:List Int)(a1:Expr):Con Tryz.prog 211 [.t (eL cInt a0),.t (eExpr a1)] (T150 rec a0 a1).den tI:=con Tryz.func211 ti_ok (T150 rec a0 a1)
def H150(a:(List Int)×Expr):Option Int:=fixF (C:=fun (a:(List Int)×Expr) (x:Option Int)=>Con Tryz.prog 211 [.t (eL cInt (a.1)),.t (eExpr a.2)] x tI) (fun a=>⟨callable_of Tryz.func211 (by kernel_rfl),fun _ h=>nomatch h⟩) (fun rec a=>T150 rec a.1 a.2) (fun rec a=>T150_ok rec a.1 a.2) a
theorem H150_ok(a:(List Int)×Expr):Con Tryz.prog 211 [.t (eL cInt (a.1)),.t (eExpr a.2)] (H150 a) tI:=fixF_ok (C:=fun (a:(List Int)×Expr) (x:Option Int)=>Con Tryz.prog 211 [.t (eL cInt (a.1)),.t (eExpr a.2)] x tI) _ _ _ a
def G150(a0:List Int)(a1:Expr):Option Int:=H150 (a0,a1)
theorem G150_ok(a0:List Int)(a1:Expr):Con Tryz.prog 211 [.t (eL cInt a0),.t (eExpr a1)] (G150 a0 a1) tI:=H150_ok (a0,a1)
end
end Go.PL
