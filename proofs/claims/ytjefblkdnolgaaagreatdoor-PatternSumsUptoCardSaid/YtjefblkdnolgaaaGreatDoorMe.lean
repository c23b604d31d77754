/-
  Parts: The data types of the seat, as the program logic reads them, and its type table. Printed by a program of our own. Functions of Go's library, given to the trees by hand. Own work; two walks are lines of the shelf's, turned to this program. (*strings.Builder).WriteString, exactly. Own work; the walk is lines of the shelf's, turned to this program. Contracts of functions of Go's library, for the trees. Own work. Contracts of functions of Go's library, for the trees: WriteString. Own work. Contracts of the library at this program, laid by the kit's lay-shelf and lay-plain. Contracts of functions of Go's library, for the trees: strings.Compare, strconv.Itoa. Own work. slices.Repeat of a row of one number, walked by hand. Own work. The contract of slices.Repeat of a row of one number. Own work. slices.Sorted(maps.Keys(m)): contracts of the library laid at this program, in any world. Laid by the kit's lay-iter, turned to any world by us. Contracts of maps.Keys and slices.Sorted at it, for a map whose keys are strings. Own work. Functions of the seat as trees, and that the program computes them. Printed by a program of our own.
-/
import Derived.Test.YtjefblkdnolgaaaGreatDoorMd
import Derived.Test.YtjefblkdnolgaaaGreatDoorProg
import Derived.Shelf.Strings.Builder1
import Derived.Shelf.Small.Strs
import Derived.Shelf.Strconv.Itoa0
import Derived.Shelf.Strconv.Itoa1
import Derived.Shelf.LaysM
import Derived.Shelf.Strconv.Itoa2
import Derived.Shelf.Strconv.Itoa3
import Derived.Shelf.Strings.Search1
import Derived.Shelf.Bits.Mul64
import Derived.Laws.IdiomCopy
import Derived.Laws.MakeOwn
import Derived.Shelf.SlIter.Nil
import Derived.Shelf.SortM.Plain
import Derived.Shelf.SortM.SortNone
import Derived.Sort.KeysCollected
namespace Go.PL
open Go
def cJ(x:aW):T:=.agg (cO x)
def cL_cInt(x:List Int):List T:=[eL bC (x)]
structure aF where
 Name:ByteArray
 Params:List Int
 Result:Int
 Body:aW
 deriving Inhabited
def bA(x:aF):List T:=[.str (x.Name)]++[eL bC (x.Params)]++[.int .i64 (x.Result)]++cO (x.Body)
structure GAgg where
 Kind:Int
 Col:Int
 Name:ByteArray
 deriving Inhabited
def cGAgg(x:GAgg):List T:=[.int .i64 (x.Kind),.int .i64 (x.Col),.str (x.Name)]
structure GPat where
 Pred:aW
 Rep:Int
 deriving Inhabited
def iQ(x:GPat):List T:=cO (x.Pred)++[.int .i64 (x.Rep)]
structure GCol where
 Name:ByteArray
 Type_:Int
 Unit:ByteArray
 deriving Inhabited
def cGCol(x:GCol):List T:=[.str (x.Name),.int .i64 (x.Type_),.str (x.Unit)]
structure aE where
 Op:Int
 In:List Int
 Source:ByteArray
 Schema:Int
 Exprs:List aW
 Kind:Int
 Size:Int
 Step:Int
 Key:List Int
 Key2:List Int
 Before:Int
 After:Int
 Keep:Int
 Aggs:List GAgg
 Seq:List GPat
 Cols:List GCol
 deriving Inhabited
def cGNode(x:aE):List T:=[.int .i64 (x.Op),eL bC (x.In),.str (x.Source),.int .i64 (x.Schema),.lz (.exprs (x.Exprs)),.int .i64 (x.Kind),.int .i64 (x.Size),.int .i64 (x.Step),eL bC (x.Key),eL bC (x.Key2),.int .i64 (x.Before),.int .i64 (x.After),.int .i64 (x.Keep),eL cGAgg (x.Aggs),eL iQ (x.Seq),eL cGCol (x.Cols)]
def fE(x:aE):T:=.agg (cGNode x)
structure aC where
 Kind:Int
 N:Int
 S:ByteArray
 deriving Inhabited
def bM(x:aC):List T:=[.int .i64 (x.Kind),.int .i64 (x.N),.str (x.S)]
def cE(x:aC):T:=.agg (bM x)
structure aA where
 Time:Int
 Row:List aC
 N:Int
 deriving Inhabited
def aH(x:aA):List T:=[.int .i64 (x.Time),eL bM (x.Row),.int .i64 (x.N)]
def bU(x:aA):T:=.agg (aH x)
def cP(x:List aA):List T:=[eL aH (x)]
structure aK where
 Do:Int
 C:Int
 L:List aA
 deriving Inhabited
def aU(x:aK):List T:=[.int .i64 (x.Do),.int .i64 (x.C),eL aH (x.L)]
structure aN where
 time_:Int
 fits_:Int
 deriving Inhabited
def cC(x:aN):List T:=[.int .i64 (x.time_),.int .i64 (x.fits_)]
def eGPlace(x:aN):T:=.agg (cC x)
structure dQ where
 funcs_:List aF
 time_:Int
 row_:List aC
 params_:List aC
 deriving Inhabited
def cGFrame(x:dQ):List T:=[eL bA (x.funcs_),.int .i64 (x.time_),eL bM (x.row_),eL bM (x.params_)]
def fW(x:dQ):T:=.agg (cGFrame x)
def cL(x:List Bool):List T:=[eL dU (x)]
structure bQ where
 a_:aC
 b_:aC
 deriving Inhabited
def cGPair(x:bQ):List T:=bM (x.a_)++bM (x.b_)
def dJ(x:bQ):T:=.agg (cGPair x)
def tiL:List (Nat×cS):=[
 (2,⟨1,8,.int .i64,[.t (.int .i64 0)],0,0⟩),
 (3,⟨1,8,.int .i64,[.t (.int .i64 0)],0,0⟩),
 (4,⟨1,1,.bool,[.t (.bool false)],0,0⟩),
 (5,⟨1,1,.int .u8,[.t (.int .u8 0)],0,0⟩),
 (9,⟨1,16,.str,[.t (.str ⟨#[]⟩)],0,0⟩),
 (12,⟨1,8,.int .u64,[.t (.int .u64 0)],0,0⟩),
 (15,⟨1,8,.ptr 342,[.np],0,0⟩),
 (16,⟨1,8,.ptr 345,[.np],0,0⟩),
 (17,⟨1,8,.ptr 352,[.np],0,0⟩),
 (21,⟨1,4,.int .i32,[.t (.int .i32 0)],0,0⟩),
 (22,⟨1,24,.sl 150,[.nil],0,0⟩),
 (23,⟨1,24,.sl 3,[.nil],0,0⟩),
 (24,⟨1,24,.sl 90,[.nil],0,0⟩),
 (25,⟨1,24,.sl 122,[.nil],0,0⟩),
 (26,⟨1,24,.sl 93,[.nil],0,0⟩),
 (27,⟨1,24,.sl 354,[.nil],0,0⟩),
 (29,⟨16,248,.st [(0,3),(1,23),(2,9),(3,3),(4,24),(5,3),(6,3),(7,3),(8,23),(9,23),(10,3),(11,3),(12,3),(13,25),(14,26),(15,27)],[.t (.int .i64 0),.nil,.t (.str ⟨#[]⟩),.t (.int .i64 0),.nil,.t (.int .i64 0),.t (.int .i64 0),.t (.int .i64 0),.nil,.nil,.t (.int .i64 0),.t (.int .i64 0),.t (.int .i64 0),.nil,.nil,.nil],0,0⟩),
 (30,⟨1,24,.sl 39,[.nil],0,0⟩),
 (33,⟨1,8,.ptr 102,[.np],0,0⟩),
 (36,⟨1,8,.other,[.lit .nilFunc],0,0⟩),
 (37,⟨1,24,.sl 50,[.nil],0,0⟩),
 (39,⟨3,40,.st [(0,3),(1,3),(2,37)],[.t (.int .i64 0),.t (.int .i64 0),.nil],0,0⟩),
 (48,⟨1,24,.sl 67,[.nil],0,0⟩),
 (50,⟨3,40,.st [(0,3),(1,48),(2,3)],[.t (.int .i64 0),.nil,.t (.int .i64 0)],0,0⟩),
 (55,⟨1,24,.sl 23,[.nil],0,0⟩),
 (56,⟨1,24,.sl 37,[.nil],0,0⟩),
 (67,⟨3,32,.st [(0,3),(1,3),(2,9)],[.t (.int .i64 0),.t (.int .i64 0),.t (.str ⟨#[]⟩)],0,37⟩),
 (71,⟨1,8,.ptr 74,[.np],0,0⟩),
 (74,⟨19,304,.st [(0,22),(1,29),(17,37),(18,3)],[.nil,.t (.int .i64 0),.nil,.t (.str ⟨#[]⟩),.t (.int .i64 0),.nil,.t (.int .i64 0),.t (.int .i64 0),.t (.int .i64 0),.nil,.nil,.t (.int .i64 0),.t (.int .i64 0),.t (.int .i64 0),.nil,.nil,.nil,.nil,.t (.int .i64 0)],0,0⟩),
 (80,⟨1,24,.sl 85,[.nil],0,0⟩),
 (82,⟨1,8,.ptr 147,[.np],0,0⟩),
 (85,⟨3,40,.st [(0,3),(1,3),(2,37)],[.t (.int .i64 0),.t (.int .i64 0),.nil],0,0⟩),
 (90,⟨4,56,.st [(0,3),(1,3),(2,9),(3,24)],[.t (.int .i64 0),.t (.int .i64 0),.t (.str ⟨#[]⟩),.nil],0,0⟩),
 (93,⟨5,64,.st [(0,90),(4,3)],[.t (.int .i64 0),.t (.int .i64 0),.t (.str ⟨#[]⟩),.nil,.t (.int .i64 0)],0,0⟩),
 (100,⟨1,8,.mp 9 37,[.lit (.map none)],0,0⟩),
 (102,⟨19,288,.st [(0,22),(1,29),(17,100),(18,3)],[.nil,.t (.int .i64 0),.nil,.t (.str ⟨#[]⟩),.t (.int .i64 0),.nil,.t (.int .i64 0),.t (.int .i64 0),.t (.int .i64 0),.nil,.nil,.t (.int .i64 0),.t (.int .i64 0),.t (.int .i64 0),.nil,.nil,.nil,.lit (.map none),.t (.int .i64 0)],0,0⟩),
 (103,⟨1,8,.other,[.lit .nilFunc],0,0⟩),
 (105,⟨4,32,.st [(0,3),(1,103),(2,36),(3,4)],[.t (.int .i64 0),.lit .nilFunc,.lit .nilFunc,.t (.bool false)],0,0⟩),
 (110,⟨1,8,.other,[.lit .nilFunc],0,0⟩),
 (111,⟨1,8,.other,[.lit .nilFunc],0,0⟩),
 (114,⟨1,8,.other,[.lit .nilFunc],0,0⟩),
 (117,⟨1,8,.other,[.lit .nilFunc],0,0⟩),
 (122,⟨3,32,.st [(0,3),(1,3),(2,9)],[.t (.int .i64 0),.t (.int .i64 0),.t (.str ⟨#[]⟩)],0,37⟩),
 (135,⟨1,8,.ptr 214,[.np],0,0⟩),
 (139,⟨1,8,.ptr 219,[.np],0,0⟩),
 (145,⟨1,8,.mp 9 222,[.lit (.map none)],0,0⟩),
 (147,⟨18,264,.st [(0,29),(16,145),(17,3)],[.t (.int .i64 0),.nil,.t (.str ⟨#[]⟩),.t (.int .i64 0),.nil,.t (.int .i64 0),.t (.int .i64 0),.t (.int .i64 0),.nil,.nil,.t (.int .i64 0),.t (.int .i64 0),.t (.int .i64 0),.nil,.nil,.nil,.lit (.map none),.t (.int .i64 0)],0,0⟩),
 (150,⟨7,104,.st [(0,9),(1,23),(2,3),(3,90)],[.t (.str ⟨#[]⟩),.nil,.t (.int .i64 0),.t (.int .i64 0),.t (.int .i64 0),.t (.str ⟨#[]⟩),.nil],0,0⟩),
 (152,⟨1,8,.other,[.lit .nilFunc],0,0⟩),
 (158,⟨36,288,.arr 9 105,[.t (.int .i64 0),.lit .nilFunc,.lit .nilFunc,.t (.bool false),.t (.int .i64 0),.lit .nilFunc,.lit .nilFunc,.t (.bool false),.t (.int .i64 0),.lit .nilFunc,.lit .nilFunc,.t (.bool false),.t (.int .i64 0),.lit .nilFunc,.lit .nilFunc,.t (.bool false),.t (.int .i64 0),.lit .nilFunc,.lit .nilFunc,.t (.bool false),.t (.int .i64 0),.lit .nilFunc,.lit .nilFunc,.t (.bool false),.t (.int .i64 0),.lit .nilFunc,.lit .nilFunc,.t (.bool false),.t (.int .i64 0),.lit .nilFunc,.lit .nilFunc,.t (.bool false),.t (.int .i64 0),.lit .nilFunc,.lit .nilFunc,.t (.bool false)],0,0⟩),
 (164,⟨1,24,.sl 171,[.nil],0,0⟩),
 (166,⟨1,8,.other,[.lit .nilFunc],0,0⟩),
 (171,⟨2,16,.st [(0,3),(1,3)],[.t (.int .i64 0),.t (.int .i64 0)],2,0⟩),
 (174,⟨1,8,.ptr 177,[.np],0,0⟩),
 (175,⟨1,24,.sl 5,[.nil],0,0⟩),
 (177,⟨2,32,.st [(0,174),(1,175)],[.np,.nil],0,0⟩),
 (179,⟨1,16,.other,[.lit .nilIface],0,0⟩),
 (184,⟨4,80,.st [(0,22),(1,3),(2,48),(3,48)],[.nil,.t (.int .i64 0),.nil,.nil],0,0⟩),
 (186,⟨1,24,.sl 190,[.nil],0,0⟩),
 (190,⟨3,40,.st [(0,3),(1,3),(2,37)],[.t (.int .i64 0),.t (.int .i64 0),.nil],0,0⟩),
 (195,⟨1,24,.sl 9,[.nil],0,0⟩),
 (198,⟨1,8,.other,[.lit .nilFunc],0,0⟩),
 (200,⟨1,24,.sl 201,[.nil],0,0⟩),
 (201,⟨1,24,.sl 4,[.nil],0,0⟩),
 (204,⟨4,40,.st [(0,67),(3,3)],[.t (.int .i64 0),.t (.int .i64 0),.t (.str ⟨#[]⟩),.t (.int .i64 0)],0,0⟩),
 (206,⟨1,24,.sl 209,[.nil],0,0⟩),
 (209,⟨4,64,.st [(0,48),(1,3),(2,3),(3,37)],[.nil,.t (.int .i64 0),.t (.int .i64 0),.nil],0,0⟩),
 (214,⟨2,24,.st [(0,9),(1,4)],[.t (.str ⟨#[]⟩),.t (.bool false)],0,14⟩),
 (219,⟨2,24,.st [(0,9),(1,4)],[.t (.str ⟨#[]⟩),.t (.bool false)],0,14⟩),
 (222,⟨1,8,.ptr 225,[.np],0,0⟩),
 (223,⟨2,48,.arr 2 37,[.nil,.nil],0,0⟩),
 (225,⟨2,48,.st [(0,223)],[.nil,.nil],0,0⟩),
 (231,⟨1,8,.other,[.lit .nilFunc],0,0⟩),
 (232,⟨1,8,.int .u64,[.t (.int .u64 0)],0,0⟩),
 (235,⟨1,8,.ptr 5,[.np],0,0⟩),
 (236,⟨1,8,.other,[.lit .nilFunc],0,0⟩),
 (239,⟨6,64,.st [(0,67),(3,67)],[.t (.int .i64 0),.t (.int .i64 0),.t (.str ⟨#[]⟩),.t (.int .i64 0),.t (.int .i64 0),.t (.str ⟨#[]⟩)],0,0⟩),
 (240,⟨1,8,.mp 3 236,[.lit (.map none)],0,0⟩),
 (241,⟨1,8,.mp 3 37,[.lit (.map none)],0,0⟩),
 (244,⟨1,8,.other,[.lit .nilFunc],0,0⟩),
 (250,⟨1,8,.other,[.lit .nilFunc],0,0⟩),
 (266,⟨1,4,.int .u32,[.t (.int .u32 0)],0,0⟩),
 (269,⟨1,8,.int .u64,[.t (.int .u64 0)],0,0⟩),
 (276,⟨1,24,.sl 48,[.nil],0,0⟩),
 (285,⟨2,48,.arr 2 23,[.nil,.nil],0,0⟩),
 (287,⟨1,8,.other,[.lit .nilFunc],0,0⟩),
 (288,⟨24,24,.arr 24 5,[.t (.int .u8 0),.t (.int .u8 0),.t (.int .u8 0),.t (.int .u8 0),.t (.int .u8 0),.t (.int .u8 0),.t (.int .u8 0),.t (.int .u8 0),.t (.int .u8 0),.t (.int .u8 0),.t (.int .u8 0),.t (.int .u8 0),.t (.int .u8 0),.t (.int .u8 0),.t (.int .u8 0),.t (.int .u8 0),.t (.int .u8 0),.t (.int .u8 0),.t (.int .u8 0),.t (.int .u8 0),.t (.int .u8 0),.t (.int .u8 0),.t (.int .u8 0),.t (.int .u8 0)],0,0⟩),
 (296,⟨1,8,.int .i64,[.t (.int .i64 0)],0,0⟩),
 (304,⟨1,8,.int .i64,[.t (.int .i64 0)],0,0⟩),
 (307,⟨1,8,.ptr 328,[.np],0,0⟩),
 (311,⟨20,160,.arr 20 269,[.t (.int .u64 0),.t (.int .u64 0),.t (.int .u64 0),.t (.int .u64 0),.t (.int .u64 0),.t (.int .u64 0),.t (.int .u64 0),.t (.int .u64 0),.t (.int .u64 0),.t (.int .u64 0),.t (.int .u64 0),.t (.int .u64 0),.t (.int .u64 0),.t (.int .u64 0),.t (.int .u64 0),.t (.int .u64 0),.t (.int .u64 0),.t (.int .u64 0),.t (.int .u64 0),.t (.int .u64 0)],0,0⟩),
 (312,⟨65,65,.arr 65 5,[.t (.int .u8 0),.t (.int .u8 0),.t (.int .u8 0),.t (.int .u8 0),.t (.int .u8 0),.t (.int .u8 0),.t (.int .u8 0),.t (.int .u8 0),.t (.int .u8 0),.t (.int .u8 0),.t (.int .u8 0),.t (.int .u8 0),.t (.int .u8 0),.t (.int .u8 0),.t (.int .u8 0),.t (.int .u8 0),.t (.int .u8 0),.t (.int .u8 0),.t (.int .u8 0),.t (.int .u8 0),.t (.int .u8 0),.t (.int .u8 0),.t (.int .u8 0),.t (.int .u8 0),.t (.int .u8 0),.t (.int .u8 0),.t (.int .u8 0),.t (.int .u8 0),.t (.int .u8 0),.t (.int .u8 0),.t (.int .u8 0),.t (.int .u8 0),.t (.int .u8 0),.t (.int .u8 0),.t (.int .u8 0),.t (.int .u8 0),.t (.int .u8 0),.t (.int .u8 0),.t (.int .u8 0),.t (.int .u8 0),.t (.int .u8 0),.t (.int .u8 0),.t (.int .u8 0),.t (.int .u8 0),.t (.int .u8 0),.t (.int .u8 0),.t (.int .u8 0),.t (.int .u8 0),.t (.int .u8 0),.t (.int .u8 0),.t (.int .u8 0),.t (.int .u8 0),.t (.int .u8 0),.t (.int .u8 0),.t (.int .u8 0),.t (.int .u8 0),.t (.int .u8 0),.t (.int .u8 0),.t (.int .u8 0),.t (.int .u8 0),.t (.int .u8 0),.t (.int .u8 0),.t (.int .u8 0),.t (.int .u8 0),.t (.int .u8 0)],0,0⟩),
 (319,⟨1,8,.int .u64,[.t (.int .u64 0)],0,0⟩),
 (323,⟨1,8,.ptr 3,[.np],0,0⟩),
 (328,⟨3,48,.st [(0,9),(1,9),(2,179)],[.t (.str ⟨#[]⟩),.t (.str ⟨#[]⟩),.lit .nilIface],0,0⟩),
 (332,⟨1,8,.ptr 319,[.np],0,0⟩),
 (335,⟨1,8,.ptr 337,[.np],0,0⟩),
 (337,⟨1,16,.st [(0,9)],[.t (.str ⟨#[]⟩)],0,2⟩),
 (338,⟨32,32,.arr 32 5,[.t (.int .u8 0),.t (.int .u8 0),.t (.int .u8 0),.t (.int .u8 0),.t (.int .u8 0),.t (.int .u8 0),.t (.int .u8 0),.t (.int .u8 0),.t (.int .u8 0),.t (.int .u8 0),.t (.int .u8 0),.t (.int .u8 0),.t (.int .u8 0),.t (.int .u8 0),.t (.int .u8 0),.t (.int .u8 0),.t (.int .u8 0),.t (.int .u8 0),.t (.int .u8 0),.t (.int .u8 0),.t (.int .u8 0),.t (.int .u8 0),.t (.int .u8 0),.t (.int .u8 0),.t (.int .u8 0),.t (.int .u8 0),.t (.int .u8 0),.t (.int .u8 0),.t (.int .u8 0),.t (.int .u8 0),.t (.int .u8 0),.t (.int .u8 0)],0,0⟩),
 (339,⟨64,64,.arr 64 5,[.t (.int .u8 0),.t (.int .u8 0),.t (.int .u8 0),.t (.int .u8 0),.t (.int .u8 0),.t (.int .u8 0),.t (.int .u8 0),.t (.int .u8 0),.t (.int .u8 0),.t (.int .u8 0),.t (.int .u8 0),.t (.int .u8 0),.t (.int .u8 0),.t (.int .u8 0),.t (.int .u8 0),.t (.int .u8 0),.t (.int .u8 0),.t (.int .u8 0),.t (.int .u8 0),.t (.int .u8 0),.t (.int .u8 0),.t (.int .u8 0),.t (.int .u8 0),.t (.int .u8 0),.t (.int .u8 0),.t (.int .u8 0),.t (.int .u8 0),.t (.int .u8 0),.t (.int .u8 0),.t (.int .u8 0),.t (.int .u8 0),.t (.int .u8 0),.t (.int .u8 0),.t (.int .u8 0),.t (.int .u8 0),.t (.int .u8 0),.t (.int .u8 0),.t (.int .u8 0),.t (.int .u8 0),.t (.int .u8 0),.t (.int .u8 0),.t (.int .u8 0),.t (.int .u8 0),.t (.int .u8 0),.t (.int .u8 0),.t (.int .u8 0),.t (.int .u8 0),.t (.int .u8 0),.t (.int .u8 0),.t (.int .u8 0),.t (.int .u8 0),.t (.int .u8 0),.t (.int .u8 0),.t (.int .u8 0),.t (.int .u8 0),.t (.int .u8 0),.t (.int .u8 0),.t (.int .u8 0),.t (.int .u8 0),.t (.int .u8 0),.t (.int .u8 0),.t (.int .u8 0),.t (.int .u8 0),.t (.int .u8 0)],0,0⟩),
 (354,⟨3,40,.st [(0,9),(1,3),(2,9)],[.t (.str ⟨#[]⟩),.t (.int .i64 0),.t (.str ⟨#[]⟩)],0,38⟩)]
set_option maxRecDepth 100000 in
theorem aR:TIok Proofs.Tryz.prog (look tiL):=
 tiok_of (aI (aP (by kernel_rfl) (by kernel_rfl) (by kernel_rfl)) (aI (aP (by kernel_rfl) (by kernel_rfl) (by kernel_rfl)) (aI (aP (by kernel_rfl) (by kernel_rfl) (by kernel_rfl)) (aI (aP (by kernel_rfl) (by kernel_rfl) (by kernel_rfl)) (aI (aP (by kernel_rfl) (by kernel_rfl) (by kernel_rfl)) (aI (aP (by kernel_rfl) (by kernel_rfl) (by kernel_rfl)) (aI (aP (by kernel_rfl) (by kernel_rfl) (by kernel_rfl)) (aI (aP (by kernel_rfl) (by kernel_rfl) (by kernel_rfl)) (aI (aP (by kernel_rfl) (by kernel_rfl) (by kernel_rfl)) (aI (aP (by kernel_rfl) (by kernel_rfl) (by kernel_rfl)) (aI (aP (by kernel_rfl) (by kernel_rfl) (by kernel_rfl)) (aI (aP (by kernel_rfl) (by kernel_rfl) (by kernel_rfl)) (aI (aP (by kernel_rfl) (by kernel_rfl) (by kernel_rfl)) (aI (aP (by kernel_rfl) (by kernel_rfl) (by kernel_rfl)) (aI (aP (by kernel_rfl) (by kernel_rfl) (by kernel_rfl)) (aI (aP (by kernel_rfl) (by kernel_rfl) (by kernel_rfl)) (aI (aP (by kernel_rfl) (by kernel_rfl) (by kernel_rfl)) (aI (aP (by kernel_rfl) (by kernel_rfl) (by kernel_rfl)) (aI (aP (by kernel_rfl) (by kernel_rfl) (by kernel_rfl)) (aI (aP (by kernel_rfl) (by kernel_rfl) (by kernel_rfl)) (aI (aP (by kernel_rfl) (by kernel_rfl) (by kernel_rfl)) (aI (aP (by kernel_rfl) (by kernel_rfl) (by kernel_rfl)) (aI (aP (by kernel_rfl) (by kernel_rfl) (by kernel_rfl)) (aI (aP (by kernel_rfl) (by kernel_rfl) (by kernel_rfl)) (aI (aP (by kernel_rfl) (by kernel_rfl) (by kernel_rfl)) (aI (aP (by kernel_rfl) (by kernel_rfl) (by kernel_rfl)) (aI (aP (by kernel_rfl) (by kernel_rfl) (by kernel_rfl)) (aI (aP (by kernel_rfl) (by kernel_rfl) (by kernel_rfl)) (aI (aP (by kernel_rfl) (by kernel_rfl) (by kernel_rfl)) (aI (aP (by kernel_rfl) (by kernel_rfl) (by kernel_rfl)) (aI (aP (by kernel_rfl) (by kernel_rfl) (by kernel_rfl)) (aI (aP (by kernel_rfl) (by kernel_rfl) (by kernel_rfl)) (aI (aP (by kernel_rfl) (by kernel_rfl) (by kernel_rfl)) (aI (aP (by kernel_rfl) (by kernel_rfl) (by kernel_rfl)) (aI (aP (by kernel_rfl) (by kernel_rfl) (by kernel_rfl)) (aI (aP (by kernel_rfl) (by kernel_rfl) (by kernel_rfl)) (aI (aP (by kernel_rfl) (by kernel_rfl) (by kernel_rfl)) (aI (aP (by kernel_rfl) (by kernel_rfl) (by kernel_rfl)) (aI (aP (by kernel_rfl) (by kernel_rfl) (by kernel_rfl)) (aI (aP (by kernel_rfl) (by kernel_rfl) (by kernel_rfl)) (aI (aP (by kernel_rfl) (by kernel_rfl) (by kernel_rfl)) (aI (aP (by kernel_rfl) (by kernel_rfl) (by kernel_rfl)) (aI (aP (by kernel_rfl) (by kernel_rfl) (by kernel_rfl)) (aI (aP (by kernel_rfl) (by kernel_rfl) (by kernel_rfl)) (aI (aP (by kernel_rfl) (by kernel_rfl) (by kernel_rfl)) (aI (aP (by kernel_rfl) (by kernel_rfl) (by kernel_rfl)) (aI (aP (by kernel_rfl) (by kernel_rfl) (by kernel_rfl)) (aI (aP (by kernel_rfl) (by kernel_rfl) (by kernel_rfl)) (aI (aP (by kernel_rfl) (by kernel_rfl) (by kernel_rfl)) (aI (aP (by kernel_rfl) (by kernel_rfl) (by kernel_rfl)) (aI (aP (by kernel_rfl) (by kernel_rfl) (by kernel_rfl)) (aI (aP (by kernel_rfl) (by kernel_rfl) (by kernel_rfl)) (aI (aP (by kernel_rfl) (by kernel_rfl) (by kernel_rfl)) (aI (aP (by kernel_rfl) (by kernel_rfl) (by kernel_rfl)) (aI (aP (by kernel_rfl) (by kernel_rfl) (by kernel_rfl)) (aI (aP (by kernel_rfl) (by kernel_rfl) (by kernel_rfl)) (aI (aP (by kernel_rfl) (by kernel_rfl) (by kernel_rfl)) (aI (aP (by kernel_rfl) (by kernel_rfl) (by kernel_rfl)) (aI (aP (by kernel_rfl) (by kernel_rfl) (by kernel_rfl)) (aI (aP (by kernel_rfl) (by kernel_rfl) (by kernel_rfl)) (aI (aP (by kernel_rfl) (by kernel_rfl) (by kernel_rfl)) (aI (aP (by kernel_rfl) (by kernel_rfl) (by kernel_rfl)) (aI (aP (by kernel_rfl) (by kernel_rfl) (by kernel_rfl)) (aI (aP (by kernel_rfl) (by kernel_rfl) (by kernel_rfl)) (aI (aP (by kernel_rfl) (by kernel_rfl) (by kernel_rfl)) (aI (aP (by kernel_rfl) (by kernel_rfl) (by kernel_rfl)) (aI (aP (by kernel_rfl) (by kernel_rfl) (by kernel_rfl)) (aI (aP (by kernel_rfl) (by kernel_rfl) (by kernel_rfl)) (aI (aP (by kernel_rfl) (by kernel_rfl) (by kernel_rfl)) (aI (aP (by kernel_rfl) (by kernel_rfl) (by kernel_rfl)) (aI (aP (by kernel_rfl) (by kernel_rfl) (by kernel_rfl)) (aI (aP (by kernel_rfl) (by kernel_rfl) (by kernel_rfl)) (aI (aP (by kernel_rfl) (by kernel_rfl) (by kernel_rfl)) (aI (aP (by kernel_rfl) (by kernel_rfl) (by kernel_rfl)) (aI (aP (by kernel_rfl) (by kernel_rfl) (by kernel_rfl)) (aI (aP (by kernel_rfl) (by kernel_rfl) (by kernel_rfl)) (aI (aP (by kernel_rfl) (by kernel_rfl) (by kernel_rfl)) (aI (aP (by kernel_rfl) (by kernel_rfl) (by kernel_rfl)) (aI (aP (by kernel_rfl) (by kernel_rfl) (by kernel_rfl)) (aI (aP (by kernel_rfl) (by kernel_rfl) (by kernel_rfl)) (aI (aP (by kernel_rfl) (by kernel_rfl) (by kernel_rfl)) (aI (aP (by kernel_rfl) (by kernel_rfl) (by kernel_rfl)) (aI (aP (by kernel_rfl) (by kernel_rfl) (by kernel_rfl)) (aI (aP (by kernel_rfl) (by kernel_rfl) (by kernel_rfl)) (aI (aP (by kernel_rfl) (by kernel_rfl) (by kernel_rfl)) (aI (aP (by kernel_rfl) (by kernel_rfl) (by kernel_rfl)) (aI (aP (by kernel_rfl) (by kernel_rfl) (by kernel_rfl)) (aI (aP (by kernel_rfl) (by kernel_rfl) (by kernel_rfl)) (aI (aP (by kernel_rfl) (by kernel_rfl) (by kernel_rfl)) (aI (aP (by kernel_rfl) (by kernel_rfl) (by kernel_rfl)) (aI (aP (by kernel_rfl) (by kernel_rfl) (by kernel_rfl)) (aI (aP (by kernel_rfl) (by kernel_rfl) (by kernel_rfl)) (aI (aP (by kernel_rfl) (by kernel_rfl) (by kernel_rfl)) (aI (aP (by kernel_rfl) (by kernel_rfl) (by kernel_rfl)) (aI (aP (by kernel_rfl) (by kernel_rfl) (by kernel_rfl)) (aI (aP (by kernel_rfl) (by kernel_rfl) (by kernel_rfl)) (aI (aP (by kernel_rfl) (by kernel_rfl) (by kernel_rfl)) (aI (aP (by kernel_rfl) (by kernel_rfl) (by kernel_rfl)) (aI (aP (by kernel_rfl) (by kernel_rfl) (by kernel_rfl)) (aI (aP (by kernel_rfl) (by kernel_rfl) (by kernel_rfl)) (aI (aP (by kernel_rfl) (by kernel_rfl) (by kernel_rfl)) tiok_nil)))))))))))))))))))))))))))))))))))))))))))))))))))))))))))))))))))))))))))))))))))))))))))))))))))))
abbrev TP:=Tr Proofs.Tryz.prog
end Go.PL
namespace Go.Proofs
open Go.Shelf Go.RowKit
set_option maxHeartbeats 1000000 in
set_option maxRecDepth 100000 in
theorem Tryz.copyCheck_used(b:Nat)(w:World)(h0:w.cell? ⟨b,0,none⟩=some (.pointer (some ⟨b,0,none⟩))):
  Calls Tryz.prog 222 #[.pointer (some ⟨b,0,none⟩)] w fun e w'=>e = .returned (.tuple #[])∧w'=w:=by
 have hsz:(Tryz.prog.info? 177).map (·.size)=some 2:=by kernel_rfl
 obtain⟨j,hj,_⟩:=Option.map_eq_some_iff.1 hsz
 have mixed:Tryz.prog.follows .mixedOrders=true:=by kernel_rfl
 have t72:=Tryz.underlying177; have a72:=Tryz.isAgg177; have z72:=Tryz.sizeOf177; have v72:=Tryz.zeroValue177; have u72:=run_underlying t72
 have t70:=Tryz.underlying174; have a70:=Tryz.isAgg174; have z70:=Tryz.sizeOf174; have v70:=Tryz.zeroValue174; have u70:=run_underlying t70
 have t4:=Tryz.underlying4; have a4:=Tryz.isAgg4; have z4:=Tryz.sizeOf4; have v4:=Tryz.zeroValue4; have u4:=run_underlying t4
 have t164:=Tryz.underlying273; have a164:=Tryz.isAgg273; have z164:=Tryz.sizeOf273; have v164:=Tryz.zeroValue273; have u164:=run_underlying t164
 go_enter Tryz.func222,Tryz.ntmps222
 go_wp2
 rw[Lib.run_neq_ptr_same w _ t70 hj]
 go_wp2
 go_end0
 exact⟨rfl,rfl⟩
set_option maxHeartbeats 1000000 in
set_option maxRecDepth 100000 in
theorem Tryz.copyCheck_fresh(b:Nat)(w:World)(h0:w.cell? ⟨b,0,none⟩=some (.pointer none))(hsh:w.shape? b=some (177,2))(hfz:w.frozen? ⟨b,0,none⟩=false):
  Calls Tryz.prog 222 #[.pointer (some ⟨b,0,none⟩)] w fun e w'=>e = .returned (.tuple #[])∧w'=w.setCell ⟨b,0,none⟩ (.pointer (some ⟨b,0,none⟩)):=by
 have hsz:(Tryz.prog.info? 177).map (·.size)=some 2:=by kernel_rfl
 obtain⟨j,hj,hjs⟩:=Option.map_eq_some_iff.1 hsz
 have lies:liesAt Tryz.prog Tryz.prog.depth 177 (2 / Tryz.prog.cellsOf 177) 0 177 1=true:=by kernel_rfl
 have mixed:Tryz.prog.follows .mixedOrders=true:=by kernel_rfl
 have t72:=Tryz.underlying177; have a72:=Tryz.isAgg177; have z72:=Tryz.sizeOf177; have v72:=Tryz.zeroValue177; have u72:=run_underlying t72
 have t70:=Tryz.underlying174; have a70:=Tryz.isAgg174; have z70:=Tryz.sizeOf174; have v70:=Tryz.zeroValue174; have u70:=run_underlying t70
 have t4:=Tryz.underlying4; have a4:=Tryz.isAgg4; have z4:=Tryz.sizeOf4; have v4:=Tryz.zeroValue4; have u4:=run_underlying t4
 have t164:=Tryz.underlying273; have a164:=Tryz.isAgg273; have z164:=Tryz.sizeOf273; have v164:=Tryz.zeroValue273; have u164:=run_underlying t164
 go_enter Tryz.func222,Tryz.ntmps222
 go_wp2
 rw[Lib.run_to_unsafe w ⟨b,0,none⟩ t70 t164 hj (by rw[hjs]; decide) hsh (Nat.zero_lt_succ 1)]
 simp only[Result.andThen]
 rw[Oper.upon_value]
 go_wp2
 rw[run_callFunc_extern Tryz.func276 (by kernel_rfl) (by kernel_rfl) (by kernel_rfl) (e:=Extern.AbiNoEscape.same) (by kernel_rfl)]
 rw[Lib.run_noEscape]
 simp only[Result.andThen]
 rw[Oper.upon_value]
 go_wp2
 rw[Lib.run_from_unsafe w ⟨b,0,none⟩ t164 t70 hj hsh lies]
 simp only[Result.andThen]
 rw[Oper.upon_value]
 go_wp2
 go_end0
 exact⟨rfl,rfl⟩
set_option maxHeartbeats 2000000 in
set_option maxRecDepth 100000 in
theorem Tryz.String_row(b g cap:Nat)(p:Value)(cur:Array Value)(l:List UInt8)(h0:l≠[])(w:World)(hbk:w.heap[b]? = some (.cells #[p,.slice (some ⟨g,0,none⟩) l.length cap] 177 (0,0)))
  (hg:w.heap[g]? = some (.cells cur 5 (0,0)))(hnc:l.length≤cap)(hcm:cap≤maxLen)(hcs:cur.size=cap*1)(hcell:∀ (j:Nat) (x:UInt8),l[j]? = some x→cur[j]? = some (Value.int .u8 (x.toNat:Int))):
  Calls Tryz.prog 170 #[.pointer (some ⟨b,0,none⟩)] w fun e w'=>e = .returned (.string ⟨l.toArray⟩)∧w'=w.drew.freeze ⟨g,0,none⟩ l.length:=by
 have hl0:l.length≠0:=by simpa using h0
 have c1:w.drew.cell? ⟨b,1,none⟩=some (.slice (some ⟨g,0,none⟩) l.length cap):=by
  have:w.drew.heap[b]? = some (.cells #[p,.slice (some ⟨g,0,none⟩) l.length cap] 177 (0,0)):=hbk
  rw[Lib.cell_of_heap this]; rfl
 have hSD:(Builtin.unsafeSliceData_ #[175] 235 #[.slice (some ⟨g,0,none⟩) l.length cap]).run Tryz.prog w.drew = .ok (.pointer (some ⟨g,0,none⟩)) w.drew:=
  Lib.run_unsafeSliceData_row _ _ _ _ _ _ (by omega)
 have hUS:(Builtin.unsafeString_ #[235,3] 9 #[.pointer (some ⟨g,0,none⟩),.int .i64 l.length]).run Tryz.prog w.drew = .ok (.string ⟨l.toArray⟩) (w.drew.freeze ⟨g,0,none⟩ l.length):=by
  refine Lib.run_unsafeString_row w.drew 235 3 9 5 Tryz.underlying235 (by kernel_rfl) g cur.size (by have hg':w.drew.heap[g]? = some (.cells cur 5 (0,0)):=hg; simp[World.shape?,hg']) l h0 (by omega) (by unfold maxLen at hcm; omega) ?_
  intro j x hx
  have hg':w.drew.heap[g]? = some (.cells cur 5 (0,0)):=hg
  rw[Go.PL.Addr.add_none,Nat.zero_add,Lib.cell_of_heap hg']
  exact hcell j x hx
 have mixed:Tryz.prog.follows .mixedOrders=true:=by kernel_rfl
 have t72:=Tryz.underlying177; have a72:=Tryz.isAgg177; have z72:=Tryz.sizeOf177; have v72:=Tryz.zeroValue177; have u72:=run_underlying t72
 have t70:=Tryz.underlying174; have a70:=Tryz.isAgg174; have z70:=Tryz.sizeOf174; have v70:=Tryz.zeroValue174; have u70:=run_underlying t70
 have t37:=Tryz.underlying175; have a37:=Tryz.isAgg175; have z37:=Tryz.sizeOf175; have v37:=Tryz.zeroValue175; have u37:=run_underlying t37
 have t127:=Tryz.underlying235; have a127:=Tryz.isAgg235; have z127:=Tryz.sizeOf235; have v127:=Tryz.zeroValue235; have u127:=run_underlying t127
 have t3:=Tryz.underlying3; have a3:=Tryz.isAgg3; have z3:=Tryz.sizeOf3; have v3:=Tryz.zeroValue3; have u3:=run_underlying t3
 have t9:=Tryz.underlying9; have a9:=Tryz.isAgg9; have z9:=Tryz.sizeOf9; have v9:=Tryz.zeroValue9; have u9:=run_underlying t9
 have t5:=Tryz.underlying5; have a5:=Tryz.isAgg5; have z5:=Tryz.sizeOf5; have v5:=Tryz.zeroValue5; have u5:=run_underlying t5
 go_enter Tryz.func170,Tryz.ntmps170
 go_wp2
 go_region_o
 all_goals (go_wp2; go_ret; exact⟨rfl,rfl⟩)
set_option maxHeartbeats 2000000 in
set_option maxRecDepth 100000 in
theorem Tryz.String_nil(b:Nat)(p:Value)(w:World)(hbk:w.heap[b]? = some (.cells #[p,.slice none 0 0] 177 (0,0))):
  Calls Tryz.prog 170 #[.pointer (some ⟨b,0,none⟩)] w fun e w'=>e = .returned (.string ⟨#[]⟩)∧w'=w.drew:=by
 have hUS:∀ W q,(Builtin.unsafeString_ #[235,3] 9 #[.pointer q,.int .i64 0]).run Tryz.prog W = .ok (.string .empty) W:=fun W q=>Lib.run_unsafeString_none W _ _ _ q
 have c1:w.drew.cell? ⟨b,1,none⟩=some (.slice none 0 0):=by
  have:w.drew.heap[b]? = some (.cells #[p,.slice none 0 0] 177 (0,0)):=hbk
  rw[Lib.cell_of_heap this]; rfl
 have hSD:(Builtin.unsafeSliceData_ #[175] 235 #[.slice none 0 0]).run Tryz.prog w.drew = .ok (.pointer none) w.drew:=rfl
 have mixed:Tryz.prog.follows .mixedOrders=true:=by kernel_rfl
 have t72:=Tryz.underlying177; have a72:=Tryz.isAgg177; have z72:=Tryz.sizeOf177; have v72:=Tryz.zeroValue177; have u72:=run_underlying t72
 have t70:=Tryz.underlying174; have a70:=Tryz.isAgg174; have z70:=Tryz.sizeOf174; have v70:=Tryz.zeroValue174; have u70:=run_underlying t70
 have t37:=Tryz.underlying175; have a37:=Tryz.isAgg175; have z37:=Tryz.sizeOf175; have v37:=Tryz.zeroValue175; have u37:=run_underlying t37
 have t127:=Tryz.underlying235; have a127:=Tryz.isAgg235; have z127:=Tryz.sizeOf235; have v127:=Tryz.zeroValue235; have u127:=run_underlying t127
 have t3:=Tryz.underlying3; have a3:=Tryz.isAgg3; have z3:=Tryz.sizeOf3; have v3:=Tryz.zeroValue3; have u3:=run_underlying t3
 have t9:=Tryz.underlying9; have a9:=Tryz.isAgg9; have z9:=Tryz.sizeOf9; have v9:=Tryz.zeroValue9; have u9:=run_underlying t9
 have t5:=Tryz.underlying5; have a5:=Tryz.isAgg5; have z5:=Tryz.sizeOf5; have v5:=Tryz.zeroValue5; have u5:=run_underlying t5
 go_enter Tryz.func170,Tryz.ntmps170
 go_wp2
 go_region_o
 all_goals (go_wp2; go_ret; exact⟨rfl,rfl⟩)
set_option maxHeartbeats 2000000 in
set_option maxRecDepth 100000 in
theorem Tryz.String_noroom(b g:Nat)(p:Value)(cur:Array Value)(w:World)(hlt:b<w.heap.size)(hbk:w.heap[b]? = some (.cells #[p,.slice (some ⟨g,0,none⟩) 0 0] 177 (0,0)))(hg:w.heap[g]? = some (.cells cur 5 (0,0))):
  Calls Tryz.prog 170 #[.pointer (some ⟨b,0,none⟩)] w fun e w'=>e = .returned (.string ⟨#[]⟩)∧w'=w.drew.alloc (.view ⟨g,0,none⟩ 5):=by
 have hUS:∀ W q,(Builtin.unsafeString_ #[235,3] 9 #[.pointer q,.int .i64 0]).run Tryz.prog W = .ok (.string .empty) W:=fun W q=>Lib.run_unsafeString_none W _ _ _ q
 have c1:w.drew.cell? ⟨b,1,none⟩=some (.slice (some ⟨g,0,none⟩) 0 0):=by
  have:w.drew.heap[b]? = some (.cells #[p,.slice (some ⟨g,0,none⟩) 0 0] 177 (0,0)):=hbk
  rw[Lib.cell_of_heap this]; rfl
 have hSD:(Builtin.unsafeSliceData_ #[175] 235 #[.slice (some ⟨g,0,none⟩) 0 0]).run Tryz.prog w.drew = .ok (.pointer (some ⟨w.drew.heap.size,0,none⟩)) (w.drew.alloc (.view ⟨g,0,none⟩ 5)):=
  Lib.run_unsafeSliceData_zero w.drew _ _ 5 Tryz.underlying235 ⟨g,0,none⟩ 0 (5,cur.size) (by have hg':w.drew.heap[g]? = some (.cells cur 5 (0,0)):=hg; simp[World.shape?,hg'])
 have c2:(w.drew.alloc (.view ⟨g,0,none⟩ 5)).cell? ⟨b,1,none⟩=some (.slice (some ⟨g,0,none⟩) 0 0):=by
  have:(w.drew.alloc (.view ⟨g,0,none⟩ 5)).heap[b]? = _:=(Lib.alloc_old w.drew _ b hlt).trans hbk
  rw[Lib.cell_of_heap this]; rfl
 have c3:(w.alloc (.view ⟨g,0,none⟩ 5)).drew.cell? ⟨b,1,none⟩=some (.slice (some ⟨g,0,none⟩) 0 0):=c2
 have c0:w.cell? ⟨b,1,none⟩=some (.slice (some ⟨g,0,none⟩) 0 0):=c1
 have mixed:Tryz.prog.follows .mixedOrders=true:=by kernel_rfl
 have t72:=Tryz.underlying177; have a72:=Tryz.isAgg177; have z72:=Tryz.sizeOf177; have v72:=Tryz.zeroValue177; have u72:=run_underlying t72
 have t70:=Tryz.underlying174; have a70:=Tryz.isAgg174; have z70:=Tryz.sizeOf174; have v70:=Tryz.zeroValue174; have u70:=run_underlying t70
 have t37:=Tryz.underlying175; have a37:=Tryz.isAgg175; have z37:=Tryz.sizeOf175; have v37:=Tryz.zeroValue175; have u37:=run_underlying t37
 have t127:=Tryz.underlying235; have a127:=Tryz.isAgg235; have z127:=Tryz.sizeOf235; have v127:=Tryz.zeroValue235; have u127:=run_underlying t127
 have t3:=Tryz.underlying3; have a3:=Tryz.isAgg3; have z3:=Tryz.sizeOf3; have v3:=Tryz.zeroValue3; have u3:=run_underlying t3
 have t9:=Tryz.underlying9; have a9:=Tryz.isAgg9; have z9:=Tryz.sizeOf9; have v9:=Tryz.zeroValue9; have u9:=run_underlying t9
 have t5:=Tryz.underlying5; have a5:=Tryz.isAgg5; have z5:=Tryz.sizeOf5; have v5:=Tryz.zeroValue5; have u5:=run_underlying t5
 go_enter Tryz.func170,Tryz.ntmps170
 go_wp2
 go_region_o
 all_goals (go_wp2; go_ret; exact⟨rfl,rfl⟩)
set_option maxHeartbeats 2000000 in
set_option maxRecDepth 100000 in
theorem Tryz.String_room(b g cap:Nat)(p:Value)(w:World)(hc0:cap≠0)(hbk:w.heap[b]? = some (.cells #[p,.slice (some ⟨g,0,none⟩) 0 cap] 177 (0,0))):
  Calls Tryz.prog 170 #[.pointer (some ⟨b,0,none⟩)] w fun e w'=>e = .returned (.string ⟨#[]⟩)∧w'=w.drew:=by
 have hUS:∀ W q,(Builtin.unsafeString_ #[235,3] 9 #[.pointer q,.int .i64 0]).run Tryz.prog W = .ok (.string .empty) W:=fun W q=>Lib.run_unsafeString_none W _ _ _ q
 have c1:w.drew.cell? ⟨b,1,none⟩=some (.slice (some ⟨g,0,none⟩) 0 cap):=by
  have:w.drew.heap[b]? = some (.cells #[p,.slice (some ⟨g,0,none⟩) 0 cap] 177 (0,0)):=hbk
  rw[Lib.cell_of_heap this]; rfl
 have hSD:(Builtin.unsafeSliceData_ #[175] 235 #[.slice (some ⟨g,0,none⟩) 0 cap]).run Tryz.prog w.drew = .ok (.pointer (some ⟨g,0,none⟩)) w.drew:=
  Lib.run_unsafeSliceData_row _ _ _ _ _ _ hc0
 clear hc0
 have mixed:Tryz.prog.follows .mixedOrders=true:=by kernel_rfl
 have t72:=Tryz.underlying177; have a72:=Tryz.isAgg177; have z72:=Tryz.sizeOf177; have v72:=Tryz.zeroValue177; have u72:=run_underlying t72
 have t70:=Tryz.underlying174; have a70:=Tryz.isAgg174; have z70:=Tryz.sizeOf174; have v70:=Tryz.zeroValue174; have u70:=run_underlying t70
 have t37:=Tryz.underlying175; have a37:=Tryz.isAgg175; have z37:=Tryz.sizeOf175; have v37:=Tryz.zeroValue175; have u37:=run_underlying t37
 have t127:=Tryz.underlying235; have a127:=Tryz.isAgg235; have z127:=Tryz.sizeOf235; have v127:=Tryz.zeroValue235; have u127:=run_underlying t127
 have t3:=Tryz.underlying3; have a3:=Tryz.isAgg3; have z3:=Tryz.sizeOf3; have v3:=Tryz.zeroValue3; have u3:=run_underlying t3
 have t9:=Tryz.underlying9; have a9:=Tryz.isAgg9; have z9:=Tryz.sizeOf9; have v9:=Tryz.zeroValue9; have u9:=run_underlying t9
 have t5:=Tryz.underlying5; have a5:=Tryz.isAgg5; have z5:=Tryz.sizeOf5; have v5:=Tryz.zeroValue5; have u5:=run_underlying t5
 go_enter Tryz.func170,Tryz.ntmps170
 go_wp2
 go_region_o
 all_goals (go_wp2; go_ret; exact⟨rfl,rfl⟩)
end Go.Proofs
namespace Go.Proofs
open Go.Shelf Go.RowKit
theorem wpList_append_run{P:Program}{w:World}{ops:Array Oper}{rest:List Oper}{o:Oper}{a:Act}{Q:Exit→Act→World→Prop}(hgd:o.guard=none)(sl x:Operand)(t u:TypeId)
  (ho:o.op = .call { callee:=.builtin .append,args:=#[sl,x],argTypes:=#[t,u] })(ty:TypeId)(hty:o.type=ty)(v:Value)(s:ByteArray)(hs:a.eval sl=v)(hx:a.eval x = .string s)(v':Value)(w':World)
  (hr:(Builtin.append_ #[t,u] ty #[v,.string s]).run P w = .ok v' w')(h:wpList P ops Q rest (a.put o.dst v') w'):wpList P ops Q (o::rest) a w:=by
 refine wpList_plain hgd fun K hK=>?_
 unfold Oper.wp execOp
 simp only[ho,hty,resolve,invoke,builtin,Sem.run_bind,Sem.run_pure,Result.andThen_ok,List.map_toArray,List.map_cons,List.map_nil,hs,hx,hr]
 exact hK _ _ h
set_option maxHeartbeats 2000000 in
set_option maxRecDepth 100000 in
theorem Tryz.WriteString_ex(b:Nat)(v:Value)(ao:Option Addr)(n' cap:Nat)(s:ByteArray)(w w1 w2:World)(hcc:Calls Tryz.prog 222 #[.pointer (some ⟨b,0,none⟩)] w fun e w'=>e = .returned (.tuple #[])∧w'=w1)
  (hbk:w1.heap[b]? = some (.cells #[.pointer (some ⟨b,0,none⟩),v] 177 (0,0)))(hap:(Builtin.append_ #[175,9] 175 #[v,.string s]).run Tryz.prog w1 = .ok (.slice ao n' cap) w2)
  (hb2:w2.heap[b]? = some (.cells #[.pointer (some ⟨b,0,none⟩),v] 177 (0,0))):
  Calls Tryz.prog 167 #[.pointer (some ⟨b,0,none⟩),.string s] w fun e w'=>e = .returned (.tuple #[.int .i64 s.size,.nilIface])∧w'=w2.setCell ⟨b,1,none⟩ (.slice ao n' cap):=by
 have mixed:Tryz.prog.follows .mixedOrders=true:=by kernel_rfl
 have t72:=Tryz.underlying177; have a72:=Tryz.isAgg177; have z72:=Tryz.sizeOf177; have v72:=Tryz.zeroValue177; have u72:=run_underlying t72
 have t70:=Tryz.underlying174; have a70:=Tryz.isAgg174; have z70:=Tryz.sizeOf174; have v70:=Tryz.zeroValue174; have u70:=run_underlying t70
 have t37:=Tryz.underlying175; have a37:=Tryz.isAgg175; have z37:=Tryz.sizeOf175; have v37:=Tryz.zeroValue175; have u37:=run_underlying t37
 have t3:=Tryz.underlying3; have a3:=Tryz.isAgg3; have z3:=Tryz.sizeOf3; have v3:=Tryz.zeroValue3; have u3:=run_underlying t3
 have t9:=Tryz.underlying9; have a9:=Tryz.isAgg9; have z9:=Tryz.sizeOf9; have v9:=Tryz.zeroValue9; have u9:=run_underlying t9
 have t4:=Tryz.underlying4; have a4:=Tryz.isAgg4; have z4:=Tryz.sizeOf4; have v4:=Tryz.zeroValue4; have u4:=run_underlying t4
 have t5:=Tryz.underlying5; have a5:=Tryz.isAgg5; have z5:=Tryz.sizeOf5; have v5:=Tryz.zeroValue5; have u5:=run_underlying t5
 have e167:∀ args w,(callFunc 222 args).run Tryz.prog w = .ok (.enter 222 args) w:=enters_of Tryz.func222 (by kernel_rfl) rfl
 go_enter Tryz.func167,Tryz.ntmps167
 go_wp2_with (go_at_fn 222; refine hcc.mono ?_)
 rintro e w' ⟨rfl,rfl⟩
 have c0:w'.cell? ⟨b,0,none⟩=some (.pointer (some ⟨b,0,none⟩)):=by rw[Lib.cell_of_heap hbk]; rfl
 have c1:w'.cell? ⟨b,1,none⟩=some v:=by rw[Lib.cell_of_heap hbk]; rfl
 have d0:w2.cell? ⟨b,0,none⟩=some (.pointer (some ⟨b,0,none⟩)):=by rw[Lib.cell_of_heap hb2]; rfl
 have d1:w2.cell? ⟨b,1,none⟩=some v:=by rw[Lib.cell_of_heap hb2]; rfl
 have f1:w2.frozen? ⟨b,1,none⟩=false:=Lib.frozen_of_heap hb2 1
 go_wp2_with (at_builtin; refine wpList_append_run rfl _ _ 175 9 rfl 175 rfl _ s rfl rfl _ _ hap ?_)
 go_wp2
 go_ret2
 exact⟨rfl,rfl⟩
end Go.Proofs
namespace Go.PL
open Go
theorem bytes_arr(x:ByteArray):(⟨x.data.toList.toArray⟩:ByteArray)=x:=by cases x; simp
theorem size0{x:ByteArray}(h:x.size=0):x=⟨#[]⟩:=by
 cases x with
 | mk d=>have:d=#[]:=Array.eq_empty_of_size_eq_zero h; rw[this]
theorem relw_none{g:Nat→Value}{w w':World}{F:Nat→Prop}{H:Hp}(hH:HpR F g w (fun _=>True) H)(hF:∀ b,F b→b<w.heap.size)
  (hos:w'.os=w.os)(htp:w'.tape=w.tape)(hout:w'.output=w.output)(hsz:w.heap.size≤w'.heap.size)(hb:∀ b,b<w.heap.size→¬ Own g w H b→w'.heap[b]? = w.heap[b]?):
  RelW { w0:=w,F0:=F,B0:=Own g w H,g0:=g,N:=[],nt:=0 } F g [] w':=by
 refine⟨⟨fun o x h=>by simp at h,fun o x b h=>by simp at h,fun o x o' y b h=>by simp at h⟩,fun b h=>h,fun b h=>⟨Nat.lt_of_lt_of_le (hF b h) hsz,.inl h⟩,⟨hos,htp,hout,hsz,hb⟩,fun o h=>by simp at h,?_⟩
 rintro b ⟨o,x,h1,h2⟩
 exact h2.block (hH.obj o x h1)
theorem con121(x:ByteArray):cW Proofs.Tryz.prog 170 [.ptr 30000 0] [(30000,.bld 177 5 x)] [] (some x) (fun y=>.t (.str y)) (fun _=>[]):=by
 refine⟨bJ Proofs.Tryz.func170 (by kernel_rfl),fun y hy=>?_⟩
 cases hy
 intro F g w vs hs hv hH hF hgl
 obtain⟨b,p,v,h1,h2,h3,h4⟩:=hH.obj 30000 _ (List.mem_singleton.2 rfl)
 have h0:0<vs.size:=by rw[hs]; decide
 have hv0:=hv 0 _ vs[0] rfl (by simp[h0])
 have hvs:vs=#[.pointer (some ⟨b,0,none⟩)]:=by
  have e0:vs[0] = .pointer (some ⟨b,0,none⟩):=by
   generalize vs[0]=u at hv0
   cases hv0 with
   | ptr hg=>rw[h1]at hg; injection hg with hg; injection hg with hg; injection hg with hg; subst hg; rfl
  apply Array.ext
  ·rw[hs]; rfl
  ·intro q hq _
   have:q=0:=by rw[hs]at hq; simp at hq; omega
   subst this
   simpa using e0
 subst hvs
 have post:∀ {w':World},w'.os=w.os→w'.tape=w.tape→w'.output=w.output→w.heap.size≤w'.heap.size→(∀ q,q<w.heap.size→¬ Own g w [(30000,.bld 177 5 x)] q→w'.heap[q]? = w.heap[q]?) →
   ∃ v r H' F' g',Ending.returned (.string x) = .returned v∧RetH (.t (.str x)) [] r H'∧VR F' g' w' r v∧RelW { w0:=w,F0:=F,B0:=Own g w [(30000,.bld 177 5 x)],g0:=g,N:=[],nt:=0 } F' g' H' w':=
  fun e1 e2 e3 e4 e5=>⟨_,_,_,F,g,rfl,⟨rfl,rfl⟩,.t (.str _),relw_none hH hF e1 e2 e3 e4 e5⟩
 rcases h4 with⟨rfl,hx0⟩ | ⟨r,cap,cur,rfl,k1,k2,k3,k4,k5,k6⟩
 ·have hx:x=⟨#[]⟩:=size0 hx0
  refine(Proofs.Tryz.String_nil b p w h2).mono ?_
  rintro e w' ⟨rfl,rfl⟩
  rw[←hx]
  exact post rfl rfl rfl (Nat.le_refl _) (fun _ _ _=>rfl)
 ·have hblt:b<w.heap.size:=(Array.getElem?_eq_some_iff.1 h2).1
  by_cases hx0:x.size=0
  ·have hx:x=⟨#[]⟩:=size0 hx0
   rw[hx0]at h2
   by_cases hc:cap=0
   ·subst hc
    refine(Proofs.Tryz.String_noroom b r p cur w hblt h2 k1).mono ?_
    rintro e w' ⟨rfl,rfl⟩
    rw[←hx]
    exact post rfl rfl rfl (by show w.heap.size≤(w.heap.push _).size; rw[Array.size_push]; exact Nat.le_succ _) (fun q hq _=>heap_alloc_old w.drew _ hq)
   ·refine(Proofs.Tryz.String_room b r cap p w hc h2).mono ?_
    rintro e w' ⟨rfl,rfl⟩
    rw[←hx]
    exact post rfl rfl rfl (Nat.le_refl _) (fun _ _ _=>rfl)
  ·have hl:x.data.toList.length=x.size:=by simp
   have hne:x.data.toList≠[]:=by
    intro h
    rw[h]at hl
    exact hx0 hl.symm
   have h2':=h2
   rw[←hl]at h2'
   refine(Proofs.Tryz.String_row b r cap p cur x.data.toList hne w h2' k1 (by omega) k4 (by omega) (fun q u hu=>?_)).mono ?_
   ·have hq:q<x.size:=by rw[←hl]; exact(List.getElem?_eq_some_iff.1 hu).1
    have:=congrArg (·[q]?) k6
    simp only[List.getElem?_take,if_pos hq,fM,List.getElem?_map,hu]at this
    simpa using this
   ·rintro e w' ⟨rfl,rfl⟩
    rw[bytes_arr]
    have hn:x.data.toList.length≠0:=by omega
    refine post ?_ ?_ ?_ ?_ (fun q hq ho=>?_)
    ·simp only[World.freeze,if_neg hn]; rfl
    ·simp only[World.freeze,if_neg hn]; rfl
    ·simp only[World.freeze,if_neg hn]; rfl
    ·simp only[World.freeze,if_neg hn]
     rw[Array.size_modify]
     exact Nat.le_refl _
    ·have hqr:q≠r:=fun e=>ho ⟨30000,_,List.mem_singleton.2 rfl,.bld h1 h2 (by rw[e]; rfl)⟩
     simp only[World.freeze,if_neg hn]
     rw[Array.getElem?_modify,if_neg (fun e=>hqr e.symm)]
     rfl
end Go.PL
namespace Go.PL
open Go Go.Lib
theorem heap_setCell(w:World)(b q:Nat)(u c0 c1:Value)(ty:Nat)(hb:w.heap[b]? = some (.cells #[c0,c1] ty (0,0)))(_hq:q<2):
  (w.setCell ⟨b,q,none⟩ u).heap[b]? = some (.cells (#[c0,c1].setIfInBounds q u) ty (0,0)):=by
 simp[World.setCell,Array.getElem?_modify,hb]
theorem gG(w:World)(b q k:Nat)(u:Value)(hk:k≠b):(w.setCell ⟨b,q,none⟩ u).heap[k]? = w.heap[k]?:=by
 simp[World.setCell,Array.getElem?_modify,Ne.symm hk]
theorem size_setCell(w:World)(b q:Nat)(u:Value):(w.setCell ⟨b,q,none⟩ u).heap.size=w.heap.size:=by
 simp[World.setCell]
def RowB(w:World)(v:Value)(s:ByteArray):Prop:=
 (v = .slice none 0 0∧s.size=0)∨∃ r cap cur,v = .slice (some ⟨r,0,none⟩) s.size cap∧w.heap[r]? = some (.cells cur 5 (0,0))∧s.size≤cap∧cap≤maxLen∧cur.size=cap∧cur.toList.take s.size=fM s
theorem byteCs_app(x s:ByteArray):fM (x++s)=fM x++fM s:=by
 simp[fM,ByteArray.data_append]
theorem byteCs_len(s:ByteArray):(fM s).length=s.size:=by simp[fM]
theorem append_row(x s:ByteArray)(w:World)(v:Value)(hr:RowB w v x)(hC:x.size+s.size≤140737488355328):
  ∃ ao n cap w2,(Builtin.append_ #[175,9] 175 #[v,.string s]).run Proofs.Tryz.prog w = .ok (.slice ao n cap) w2∧RowB w2 (.slice ao n cap) (x++s)∧(∀ k,k<w.heap.size→blk v≠some k→w2.heap[k]? = w.heap[k]?) ∧
   w.heap.size≤w2.heap.size∧w2.os=w.os∧w2.tape=w.tape∧w2.output=w.output∧(∀ k,blk (.slice ao n cap)=some k→blk v=some k∨w.heap.size≤k):=by
 have htx:Proofs.Tryz.prog.underlying 9=some .string:=Proofs.Tryz.underlying9
 have ht:Proofs.Tryz.prog.underlying 175=some (.slice 5):=Proofs.Tryz.underlying175
 have hi0:(Proofs.Tryz.prog.info? 5).map (fun i=>(i.zero,i.size,i.bytes))=some (some (.int .u8 0),1,1):=by kernel_rfl
 obtain⟨i,hi,hi1⟩:=Option.map_eq_some_iff.1 hi0
 injection hi1 with hz hi2
 injection hi2 with hs hb
 have hsz:(x++s).size=x.size+s.size:=ByteArray.size_append
 have hsc:strCells s=fM s:=rfl
 rcases hr with⟨rfl,hx0⟩ | ⟨r,cap,cur,rfl,h1,h2,h3,h4,h5⟩
 ·have hx:fM (x++s)=fM s:=by
   have h0:fM x=[]:=List.eq_nil_of_length_eq_zero (by rw[byteCs_len]; exact hx0)
   rw[byteCs_app,h0,List.nil_append]
  by_cases hs0:s.size=0
  ·refine⟨none,0,0,w,?_,.inl ⟨rfl,by omega⟩,fun _ _ _=>rfl,Nat.le_refl _,rfl,rfl,rfl,fun k h=>by simp[blk]at h⟩
   simp[Builtin.append_,run_underlying ht,run_underlying htx,sizeOf,typeInfo,hi,Builtin.lenOf,hs0,Builtin.firstCells]
  ·have hrun:=gL (P:=Proofs.Tryz.prog) w 175 9 175 5 i _ ht htx hi hz s (by omega) (by omega) (by rw[hb]; omega)
   refine⟨_,_,_,_,hrun,.inr ⟨_,_,_,by rw[hsz,hx0,Nat.zero_add]; rfl,heap_alloc_new w.drew _,?_,?_,?_,?_⟩,fun k hk _=>heap_alloc_old w.drew _ hk,?_,rfl,rfl,rfl,fun k h=>?_⟩
   ·rw[hsz,hx0,Nat.zero_add]; exact grownCap_ge w s.size 0 5
   ·exact grownCap_le_maxLen w s.size 0 5 (by simp only[maxLen]; omega)
   ·have:=grownCap_ge w s.size 0 5
    simp only[Array.size_append,List.size_toArray,strCells_length,size_zeroCells]
    simp[Value.cells]; omega
   ·rw[hx,hsz,hx0,Nat.zero_add]
    simp only[Array.toList_append]
    rw[List.take_append_of_le_length (by simp[strCells_length]),List.take_of_length_le (by simp[strCells_length])]
    simp[hsc]
   ·show w.heap.size≤(w.heap.push _).size; rw[Array.size_push]; exact Nat.le_succ _
   ·simp[blk]at h; right; omega
 ·have hrl:r<w.heap.size:=(Array.getElem?_eq_some_iff.1 h1).1
  by_cases hroom:x.size+s.size≤cap
  ·have hrun:=run_append_room_string (P:=Proofs.Tryz.prog) w 175 9 175 5 i ht htx hi hs r x.size cap cur h1 s hroom (by omega)
   refine⟨_,_,_,_,hrun,.inr ⟨r,cap,_,by rw[hsz],setRow_heap w r cur _ 5 _ h1,by omega,h3,?_,?_⟩,fun k hk hne=>setRow_other w r k _ (fun e=>hne (by rw[e]; rfl)),by simp,rfl,rfl,rfl,fun k h=>.inl h⟩
   ·simp only[List.size_toArray,List.length_append,List.length_take,List.length_drop,strCells_length,Array.length_toList]; omega
   ·rw[hsz,byteCs_app,hsc,h5]
    have hl1:(fM x++fM s).length=x.size+s.size:=by simp[byteCs_len]
    rw[List.take_append_of_le_length (by omega),List.take_of_length_le (by omega)]
  ·have hol:(cur.toList.take x.size).length=x.size*i.size:=by rw[hs]; simp only[List.length_take,Array.length_toList]; omega
   have hrun:=run_append_grow_string (P:=Proofs.Tryz.prog) w 175 9 175 5 i _ ht htx hi hz ⟨r,0,none⟩ x.size cap (cur.toList.take x.size) hol (fun k u hu=>by
    rw[Addr.add_none,Nat.zero_add]
    rw[List.getElem?_take]at hu
    split at hu
    ·simpa[World.cell?,h1] using hu
    ·cases hu) s (by omega) (by omega) (growslice_fits (by omega) (by rw[hb]; omega))
   refine⟨_,_,_,_,hrun,.inr ⟨_,_,_,by rw[hsz]; rfl,heap_alloc_new w.drew _,?_,?_,?_,?_⟩,fun k hk _=>heap_alloc_old w.drew _ hk,?_,rfl,rfl,rfl,fun k h=>?_⟩
   ·rw[hsz]; exact grownCap_ge w (x.size+s.size) cap 5
   ·exact grownCap_le_maxLen w (x.size+s.size) cap 5 (by simp only[maxLen]; omega)
   ·have:=grownCap_ge w (x.size+s.size) cap 5
    rw[hs,Nat.mul_one]at hol
    simp only[Array.size_append,List.size_toArray,hol,strCells_length,size_zeroCells]
    simp[Value.cells]; omega
   ·rw[hsz,byteCs_app,hsc,h5]
    have hl1:(fM x++fM s).length=x.size+s.size:=by simp[byteCs_len]
    simp only[Array.toList_append]
    rw[List.take_append_of_le_length (by simp[byteCs_len]),List.take_of_length_le (by simp[byteCs_len])]
   ·show w.heap.size≤(w.heap.push _).size; rw[Array.size_push]; exact Nat.le_succ _
   ·simp[blk]at h; right; omega
theorem con118(x s:ByteArray):cW Proofs.Tryz.prog 167 [.ptr 30000 0,.t (.str s)] [(30000,.bld 177 5 x)] [30000] (if x.size+s.size≤140737488355328 then some () else none)
  (fun _:Unit=>.tup [.t (.int .i64 s.size),.lit .nilIface]) (fun _=>[(30000,.bld 177 5 (x++s))]):=by
 refine⟨bJ Proofs.Tryz.func167 (by kernel_rfl),fun y hy=>?_⟩
 split at hy
 case isFalse=>cases hy
 rename_i hC
 intro F g w vs hs hv hH hF hgl
 have hmem:(30000,aV.bld 177 5 x)∈([(30000,.bld 177 5 x)]:Hp):=List.mem_singleton.2 rfl
 obtain⟨b,p,v,h1,h2,h3,h4⟩:=hH.obj 30000 _ hmem
 have hs2:vs.size=2:=hs
 have hv0:=hv 0 _ (vs[0]'(by omega)) rfl (by simp[hs2])
 have hv1:=hv 1 _ (vs[1]'(by omega)) rfl (by simp[hs2])
 have hvs:vs=#[.pointer (some ⟨b,0,none⟩),.string s]:=by
  have e0:vs[0]'(by omega) = .pointer (some ⟨b,0,none⟩):=by
   generalize vs[0]'(by omega)=u at hv0
   cases hv0 with
   | ptr hg=>rw[h1]at hg; injection hg with hg; injection hg with hg; injection hg with hg; subst hg; rfl
  have e1:vs[1]'(by omega) = .string s:=hv1.inv_str
  apply Array.ext
  ·rw[hs2]; rfl
  ·intro q hq _
   match q,hq with
   | 0,_=>simpa using e0
   | 1,_=>simpa using e1
   | q+2,hq=>omega
 subst hvs
 have hblt:b<w.heap.size:=(Array.getElem?_eq_some_iff.1 h2).1
 have rowb:RowB w v x:=by
  rcases h4 with h4 | ⟨r,cap,cur,k1,k2,k3,k4⟩
  ·exact .inl h4
  ·exact .inr ⟨r,cap,cur,k1,k2,k4⟩
 have hvb:blk v≠some b:=by
  rcases h4 with⟨rfl,_⟩ | ⟨r,cap,cur,rfl,k2,k3,k4⟩
  ·simp[blk]
  ·simp[blk]; exact k3
 obtain⟨w1,c1,c2,c3,c4,c5,c6,c7⟩:∃ w1,(Calls Proofs.Tryz.prog 222 #[.pointer (some ⟨b,0,none⟩)] w fun e w'=>e = .returned (.tuple #[])∧w'=w1)∧w1.heap[b]? = some (.cells #[.pointer (some ⟨b,0,none⟩),v] 177 (0,0)) ∧
   (∀ k,k≠b→w1.heap[k]? = w.heap[k]?)∧w1.heap.size=w.heap.size∧w1.os=w.os∧w1.tape=w.tape∧w1.output=w.output:=by
  rcases h3 with rfl | rfl
  ·refine⟨_,Proofs.Tryz.copyCheck_fresh b w (by rw[Lib.cell_of_heap h2]; rfl) (by simp[World.shape?,h2]) (Lib.frozen_of_heap h2 0),?_,fun k hk=>gG w b 0 k _ hk,size_setCell ..,rfl,rfl,rfl⟩
   rw[heap_setCell w b 0 _ _ _ _ h2 (by decide)]
   rfl
  ·exact⟨w,Proofs.Tryz.copyCheck_used b w (by rw[Lib.cell_of_heap h2]; rfl),h2,fun _ _=>rfl,rfl,rfl,rfl,rfl⟩
 have rowb1:RowB w1 v x:=by
  rcases rowb with h | ⟨r,cap,cur,k1,k2,k3⟩
  ·exact .inl h
  ·refine .inr ⟨r,cap,cur,k1,?_,k3⟩
   rw[c3 r (fun e=>hvb (by rw[k1,e]; rfl))]; exact k2
 obtain⟨ao,n',cap',w2,d1,d2,d3,d4,d5,d6,d7,d8⟩:=append_row x s w1 v rowb1 hC
 have hb2:w2.heap[b]? = some (.cells #[.pointer (some ⟨b,0,none⟩),v] 177 (0,0)):=by rw[d3 b (by omega) hvb]; exact c2
 have hv'b:blk (.slice ao n' cap')≠some b:=fun e=>by
  rcases d8 b e with h | h
  ·exact hvb h
  ·omega
 refine(Proofs.Tryz.WriteString_ex b v ao n' cap' s w w1 w2 c1 c2 d1 hb2).mono ?_
 rintro e w' ⟨rfl,rfl⟩
 have hold:∀ k,k<w.heap.size→k≠b→blk v≠some k→(w2.setCell ⟨b,1,none⟩ (.slice ao n' cap')).heap[k]? = w.heap[k]?:=fun k hk hkb hkv=>by
  rw[gG w2 b 1 k _ hkb,d3 k (by omega) hkv,c3 k hkb]
 have hbld:BldV (w2.setCell ⟨b,1,none⟩ (.slice ao n' cap')) (g 30000) 177 5 (x++s):=by
  refine⟨b,.pointer (some ⟨b,0,none⟩),.slice ao n' cap',h1,?_,.inr rfl,?_⟩
  ·rw[heap_setCell w2 b 1 _ _ _ _ hb2 (by decide)]; rfl
  ·rcases d2 with h | ⟨r,cap,cur,k1,k2,k3⟩
   ·exact .inl h
   ·have hrb:r≠b:=fun e=>hv'b (by rw[k1,e]; rfl)
    exact .inr ⟨r,cap,cur,k1,by rw[gG w2 b 1 r _ hrb]; exact k2,hrb,k3⟩
 have hfoot:∀ q,bE g (w2.setCell ⟨b,1,none⟩ (.slice ao n' cap')) 30000 (.bld 177 5 (x++s)) q→q=b∨blk (.slice ao n' cap')=some q:=by
  intro q hq
  cases hq with
  | self h=>rw[h1]at h; simp[blk]at h; exact .inl h.symm
  | bld k1 k2 k3=>
   rw[h1]at k1; injection k1 with k1; injection k1 with k1; injection k1 with k1; subst k1
   rw[heap_setCell w2 b 1 _ _ _ _ hb2 (by decide)]at k2
   injection k2 with k2; injection k2 with k2; injection k2 with k2; injection k2 with k2 k4; injection k4 with k4
   subst k4
   exact .inr k3
 have hown:∀ q,blk v=some q→bE g w 30000 (.bld 177 5 x) q:=fun q hq=>.bld h1 h2 hq
 have hself:bE g w 30000 (.bld 177 5 x) b:=.self (by rw[h1]; rfl)
 refine⟨_,_,_,F,g,rfl,⟨rfl,rfl⟩,.tup rfl fun j q u hq hu=>?_,⟨⟨fun o q hq=>?_,fun o q c hq hc=>?_,fun o q o' q' c hq hq' hne=>?_⟩,fun b h=>h,fun c hc=>⟨?_,.inl hc⟩,⟨?_,?_,?_,?_,fun c hc hn=>?_⟩,fun _ _=>rfl,?_⟩⟩
 ·match j,hq,hu with
  | 0,hq,hu=>simp at hq hu; subst hq; subst hu; exact .t (.int _ _)
  | 1,hq,hu=>simp at hq hu; subst hq; subst hu; exact .lit rfl
  | j+2,hq,_=>simp at hq
 ·cases List.mem_singleton.1 hq; exact hbld
 ·cases List.mem_singleton.1 hq
  rcases hfoot c hc with rfl | h
  ·exact⟨(hH.own _ _ _ hmem hself).1,.inl ⟨_,_,hmem,hself⟩⟩
  ·rcases d8 c h with h | h
   ·exact⟨(hH.own _ _ _ hmem (hown c h)).1,.inl ⟨_,_,hmem,hown c h⟩⟩
   ·exact⟨fun hf=>by have:=hF c hf; omega,.inr (by simpa[c4] using h)⟩
 ·cases List.mem_singleton.1 hq; cases List.mem_singleton.1 hq'; exact absurd rfl hne
 ·rw[size_setCell]; have:=hF c hc; omega
 ·show w2.os=w.os; rw[d5,c5]
 ·show w2.tape=w.tape; rw[d6,c6]
 ·show w2.output=w.output; rw[d7,c7]
 ·rw[size_setCell]; show w.heap.size≤_; omega
 ·exact hold c hc (fun e=>hn ⟨_,_,hmem,e▸hself⟩) (fun e=>hn ⟨_,_,hmem,hown c e⟩)
 ·rintro c ⟨o,q,k1,k2⟩
  exact k2.block (hH.obj o q k1)
end Go.PL
namespace Go.Proofs
open Go.Shelf
def Tryz.lays106_ren:Go.Shelf.Ren:=⟨fun | 106=>240 | 213=>280 | 265=>301 | n=>n,fun | 9=>9 | 3=>3 | n=>n,fun | n=>n⟩
theorem Tryz.lays106:Go.Proofs.Lays.n106 Tryz.prog Tryz.lays106_ren:={
 mixed:=by kernel_rfl
 f106:=Tryz.func240.trans (congrArg some (by kernel_rfl))
 f213:=Tryz.func280.trans (congrArg some (by kernel_rfl))
 f265:=Tryz.func301.trans (congrArg some (by kernel_rfl))
 t3:=Tryz.underlying3
 a3:=Tryz.isAgg3
 z3:=Tryz.sizeOf3
 v3:=Tryz.zeroValue3
 t9:=Tryz.underlying9
 a9:=Tryz.isAgg9
 z9:=Tryz.sizeOf9
 v9:=Tryz.zeroValue9 }
open Go.RowKit in
theorem Tryz.strings_Compare(a b:ByteArray)(w:World):
  Calls Tryz.prog 240 #[.string a,.string b] w fun e w'=>e = .returned (.int .i64 (Lib.compareBytes a.data.toList b.data.toList))∧w'=w:=Any.strings_Compare Tryz.lays106 a b w
def Tryz.laysM171_ren:Go.Shelf.Ren:=⟨fun | 171=>166 | 243=>221 | 246=>275 | 283=>295 | 284=>296 | 285=>297 | 286=>298 | 129=>312 | 317=>321 | 318=>322 | 319=>323 | 320=>324 | 337=>344 | 338=>345 | n=>n,fun | 3=>3 | 9=>9 | 2=>2 | 4=>4 | 171=>288 | 0=>0 | 53=>269 | 37=>175 | 5=>5 | 173=>291 | 212=>311 | 51=>266 | 20=>20 | 213=>312 | 46=>232 | 232=>338 | 233=>339 | n=>n,fun | 17=>1 | 18=>4 | 19=>5 | n=>n⟩
theorem Tryz.laysM171:Go.Proofs.LaysM.n171 Tryz.prog Tryz.laysM171_ren:={
 mixed:=by kernel_rfl
 f129:=Tryz.func312.trans (congrArg some (by kernel_rfl))
 f171:=Tryz.func166.trans (congrArg some (by kernel_rfl))
 f243:=Tryz.func221.trans (congrArg some (by kernel_rfl))
 f246:=Tryz.func275.trans (congrArg some (by kernel_rfl))
 f283:=Tryz.func295.trans (congrArg some (by kernel_rfl))
 f284:=Tryz.func296.trans (congrArg some (by kernel_rfl))
 f285:=Tryz.func297.trans (congrArg some (by kernel_rfl))
 f286:=Tryz.func298.trans (congrArg some (by kernel_rfl))
 f317:=Tryz.func321.trans (congrArg some (by kernel_rfl))
 f318:=Tryz.func322.trans (congrArg some (by kernel_rfl))
 f319:=Tryz.func323.trans (congrArg some (by kernel_rfl))
 f320:=Tryz.func324.trans (congrArg some (by kernel_rfl))
 f337:=Tryz.func344.trans (congrArg some (by kernel_rfl))
 f338:=Tryz.func345.trans (congrArg some (by kernel_rfl))
 t0:=Tryz.underlying0
 a0:=Tryz.isAgg0
 z0:=Tryz.sizeOf0
 v0:=Tryz.zeroValue0
 t2:=Tryz.underlying2
 a2:=Tryz.isAgg2
 z2:=Tryz.sizeOf2
 v2:=Tryz.zeroValue2
 t3:=Tryz.underlying3
 a3:=Tryz.isAgg3
 z3:=Tryz.sizeOf3
 v3:=Tryz.zeroValue3
 t4:=Tryz.underlying4
 a4:=Tryz.isAgg4
 z4:=Tryz.sizeOf4
 v4:=Tryz.zeroValue4
 t5:=Tryz.underlying5
 a5:=Tryz.isAgg5
 z5:=Tryz.sizeOf5
 v5:=Tryz.zeroValue5
 t9:=Tryz.underlying9
 a9:=Tryz.isAgg9
 z9:=Tryz.sizeOf9
 v9:=Tryz.zeroValue9
 t20:=Tryz.underlying20
 a20:=Tryz.isAgg20
 z20:=Tryz.sizeOf20
 v20:=Tryz.zeroValue20
 t37:=Tryz.underlying175
 a37:=Tryz.isAgg175
 z37:=Tryz.sizeOf175
 v37:=Tryz.zeroValue175
 t46:=Tryz.underlying232
 a46:=Tryz.isAgg232
 z46:=Tryz.sizeOf232
 v46:=Tryz.zeroValue232
 t51:=Tryz.underlying266
 a51:=Tryz.isAgg266
 z51:=Tryz.sizeOf266
 v51:=Tryz.zeroValue266
 t53:=Tryz.underlying269
 a53:=Tryz.isAgg269
 z53:=Tryz.sizeOf269
 v53:=Tryz.zeroValue269
 t171:=Tryz.underlying288
 a171:=Tryz.isAgg288
 z171:=Tryz.sizeOf288
 v171:=Tryz.zeroValue288
 t173:=Tryz.underlying291
 a173:=Tryz.isAgg291
 z173:=Tryz.sizeOf291
 v173:=Tryz.zeroValue291
 t212:=Tryz.underlying311
 a212:=Tryz.isAgg311
 z212:=Tryz.sizeOf311
 v212:=Tryz.zeroValue311
 t213:=Tryz.underlying312
 a213:=Tryz.isAgg312
 z213:=Tryz.sizeOf312
 t232:=Tryz.underlying338
 a232:=Tryz.isAgg338
 z232:=Tryz.sizeOf338
 v232:=Tryz.zeroValue338
 t233:=Tryz.underlying339
 a233:=Tryz.isAgg339
 z233:=Tryz.sizeOf339
 v233:=Tryz.zeroValue339
 g17:=by kernel_rfl
 g18:=by kernel_rfl
 g19:=by kernel_rfl
 i0:=by kernel_rfl
 i2:=by kernel_rfl
 i3:=by kernel_rfl
 i4:=by kernel_rfl
 i5:=by kernel_rfl
 i9:=by kernel_rfl
 i20:=by kernel_rfl
 i37:=by kernel_rfl
 i46:=by kernel_rfl
 i51:=by kernel_rfl
 i53:=by kernel_rfl
 i171:=by kernel_rfl
 i173:=by kernel_rfl
 i212:=by kernel_rfl
 i232:=by kernel_rfl
 i233:=by kernel_rfl
 m17:=by kernel_rfl
 m18:=by kernel_rfl
 m19:=by kernel_rfl }
open Go.RowKit Go.Sort Go.Lib in
theorem Tryz.strconv_Itoa(n:Int)(h0:-9223372036854775808≤n)(h1:n≤9223372036854775807)(w:World)(htab:Lib.TabIs Tryz.prog w "internal/strconv.uint64pow10" .u64 Lib.pow10Tab):
  Calls Tryz.prog 166 #[.int .i64 n] w fun e w'=>e = .returned (.string ⟨(Lib.itoa n).toArray⟩)∧∃ k os,w'=grow (w.drewN k) os:=Any.strconv_Itoa Tryz.laysM171 n h0 h1 w htab
def Tryz.lays212_ren:Go.Shelf.Ren:=⟨fun | 212=>220 | 263=>273 | 264=>274 | n=>n,fun | 46=>232 | 51=>266 | 146=>267 | 53=>269 | 148=>270 | n=>n,fun | n=>n⟩
theorem Tryz.lays212:Go.Proofs.Lays.n212 Tryz.prog Tryz.lays212_ren:={
 mixed:=by kernel_rfl
 f212:=Tryz.func220.trans (congrArg some (by kernel_rfl))
 f263:=Tryz.func273.trans (congrArg some (by kernel_rfl))
 f264:=Tryz.func274.trans (congrArg some (by kernel_rfl))
 t46:=Tryz.underlying232
 a46:=Tryz.isAgg232
 z46:=Tryz.sizeOf232
 v46:=Tryz.zeroValue232
 t51:=Tryz.underlying266
 a51:=Tryz.isAgg266
 z51:=Tryz.sizeOf266
 v51:=Tryz.zeroValue266
 t53:=Tryz.underlying269
 a53:=Tryz.isAgg269
 z53:=Tryz.sizeOf269
 v53:=Tryz.zeroValue269
 t146:=Tryz.underlying267
 a146:=Tryz.isAgg267
 z146:=Tryz.sizeOf267
 v146:=Tryz.zeroValue267
 t148:=Tryz.underlying270
 a148:=Tryz.isAgg270
 z148:=Tryz.sizeOf270
 v148:=Tryz.zeroValue270 }
open Go.RowKit Go.Lib in
theorem Tryz.bits_Mul(x y:Nat)(hx:x<18446744073709551616)(hy:y<18446744073709551616)(w:World):
  Calls Tryz.prog 220 #[.int .u64 x,.int .u64 y] w fun e w'=>e = .returned (.tuple #[.int .u64 ((x*y / 18446744073709551616:Nat):Int),.int .u64 ((x*y % 18446744073709551616:Nat):Int)])∧w'=w:=Any.bits_Mul Tryz.lays212 x y hx hy w
end Go.Proofs
namespace Go.PL
open Go
theorem hv1{F:Nat→Prop}{g:Nat→Value}{w:World}{vs:Array Value}{p:PV}{u:Value}(hs:vs.size=[p].length)(hv:∀ (j:Nat) x v,[p][j]? = some x→vs[j]? = some v→VR F g w x v)(hu:∀ v,VR F g w p v→v=u):vs=#[u]:=by
 have h1:vs.size=1:=hs
 have e0:=hu _ (hv 0 _ (vs[0]'(by omega)) rfl (by simp[h1]))
 apply Array.ext
 ·rw[h1]; rfl
 ·intro q hq _
  have:q=0:=by omega
  subst this
  simpa using e0
theorem hv2{F:Nat→Prop}{g:Nat→Value}{w:World}{vs:Array Value}{p p':PV}{u u':Value}(hs:vs.size=[p,p'].length)(hv:∀ (j:Nat) x v,[p,p'][j]? = some x→vs[j]? = some v→VR F g w x v)(hu:∀ v,VR F g w p v→v=u)
  (hu':∀ v,VR F g w p' v→v=u'):vs=#[u,u']:=by
 have h1:vs.size=2:=hs
 have e0:=hu _ (hv 0 _ (vs[0]'(by omega)) rfl (by simp[h1]))
 have e1:=hu' _ (hv 1 _ (vs[1]'(by omega)) rfl (by simp[h1]))
 apply Array.ext
 ·rw[h1]; rfl
 ·intro q hq _
  match q,hq with
  | 0,_=>simpa using e0
  | 1,_=>simpa using e1
  | q+2,hq=>omega
def G194(a0 a1:ByteArray):Option Int:=some (Lib.compareBytes a0.data.toList a1.data.toList)
theorem G194_ok(a0 a1:ByteArray):Con Proofs.Tryz.prog 240 [.t (.str a0),.t (.str a1)] (G194 a0 a1) (fun (y:Int)=>.t (.int .i64 y)):=by
 refine⟨bJ Proofs.Tryz.func240 (by kernel_rfl),fun y hy=>?_⟩
 cases hy
 intro F g w vs hs hv hH hF hgl
 have hvs:=hv2 hs hv (u:=.string a0) (u':=.string a1) (fun v h=>h.inv_str) (fun v h=>h.inv_str)
 subst hvs
 refine(Proofs.Tryz.strings_Compare a0 a1 w).mono ?_
 rintro e w' ⟨rfl,rfl⟩
 exact⟨_,_,[],F,g,rfl,rfl,.t (.int _ _),relw_none hH hF rfl rfl rfl (Nat.le_refl _) (fun _ _ _=>rfl)⟩
def G117(a0:Int):Option ByteArray:=if -9223372036854775808≤a0∧a0≤9223372036854775807 then some ⟨(Lib.itoa a0).toArray⟩ else none
theorem G117_ok(a0:Int):Con Proofs.Tryz.prog 166 [.t (.int .i64 a0)] (G117 a0) (fun (y:ByteArray)=>.t (.str y)):=by
 refine⟨bJ Proofs.Tryz.func166 (by kernel_rfl),fun y hy=>?_⟩
 unfold G117 at hy
 split at hy
 case isFalse=>cases hy
 rename_i hr
 cases hy
 intro F g w vs hs hv hH hF hgl
 have hvs:=hv1 hs hv (u:=.int .i64 a0) (fun v h=>h.inv_int)
 subst hvs
 have hname:∃ b,Proofs.Tryz.prog.globalNamed glName=some b:=Option.isSome_iff_exists.1 (by kernel_rfl)
 obtain⟨b,hb⟩:=hname
 refine(Proofs.Tryz.strconv_Itoa a0 hr.1 hr.2 w (hgl b hb).1).mono ?_
 rintro e w' ⟨rfl,k,os,rfl⟩
 refine⟨_,_,[],F,g,rfl,rfl,.t (.str _),relw_none hH hF rfl rfl rfl ?_ (fun q hq _=>?_)⟩
 ·show w.heap.size≤(w.heap++os).size
  rw[Array.size_append]; exact Nat.le_add_right _ _
 ·show (w.heap++os)[q]? = w.heap[q]?
  exact Array.getElem?_append_left hq
end Go.PL
namespace Go.Proofs
open Go.Shelf Go.RowKit
def repL(v:Int)(n k:Nat):List Value:=List.replicate k (Value.int .i64 v)++List.replicate (n-k) (Value.int .i64 0)
def eY(v:Int)(n k:Nat):Array Value:=(repL v n k).toArray
theorem repL_len(v:Int){n k:Nat}(h:k≤n):(repL v n k).length=n:=by
 rw[repL,List.length_append,List.length_replicate,List.length_replicate]; omega
theorem repRow_size(v:Int){n k:Nat}(h:k≤n):(eY v n k).size=n:=by rw[eY,List.size_toArray,repL_len v h]
theorem repRow_get(v:Int){n k q:Nat}(h:q<k):(eY v n k)[q]? = some (.int .i64 v):=by
 rw[eY,List.getElem?_toArray,repL,List.getElem?_append_left (by rw[List.length_replicate]; exact h),List.getElem?_replicate,if_pos h]
theorem repRow_put(v:Int){n k m:Nat}(_h:k+m≤n):((eY v n k).toList.take k++List.replicate m (Value.int .i64 v)++(eY v n k).toList.drop (k+m)).toArray=eY v n (k+m):=by
 have e1:(eY v n k).toList.take k=List.replicate k (Value.int .i64 v):=by
  show (repL v n k).take k=_
  rw[repL,List.take_append_of_le_length (by rw[List.length_replicate]; exact Nat.le_refl _),List.take_of_length_le (by rw[List.length_replicate]; exact Nat.le_refl _)]
 have e2:(eY v n k).toList.drop (k+m)=List.replicate (n-(k+m)) (Value.int .i64 0):=by
  show (repL v n k).drop (k+m)=_
  rw[repL,List.drop_append,List.drop_of_length_le (by rw[List.length_replicate]; omega),List.nil_append,List.length_replicate,List.drop_replicate]
  congr 1; omega
 rw[e1,e2,List.replicate_append_replicate]; rfl
theorem repRow_made(v:Int)(n:Nat):madeCells (Value.int .i64 0).cells n=eY v n 0:=by
 apply Array.ext
 ·rw[size_madeCells,repRow_size v (Nat.zero_le _)]
 ·intro q h1 h2
  have hq:q<n:=by rwa [size_madeCells]at h1
  have:(eY v n 0)[q]? = some (Value.int .i64 0):=by
   rw[eY,List.getElem?_toArray,repL,List.replicate_zero,List.nil_append,List.getElem?_replicate,if_pos (by omega)]
  rw[Array.getElem?_eq_getElem h2]at this
  injection this with this
  rw[this]
  simp[madeCells,Value.cells,Nat.mod_one]
set_option maxHeartbeats 4000000 in
set_option maxRecDepth 100000 in
theorem Tryz.Repeat_one(a:Addr)(cap n:Nat)(v:Int)(w:World)(hn:n≤1000000000000)(h0:w.cell? a=some (.int .i64 v))(hb:a.block<w.heap.size)(_hc:1≤cap):
  Calls Tryz.prog 163 #[.slice (some a) 1 cap,.int .i64 n] w fun e w'=>e = .returned (.slice (some ⟨w.heap.size,0,none⟩) n n) ∧
   w'.heap[w.heap.size]? = some (.cells (List.replicate n (.int .i64 v)).toArray 3 (0,0))∧Below w.heap.size w w':=by
 have mixed:Tryz.prog.follows .mixedOrders=true:=by kernel_rfl
 have t3:=Tryz.underlying3; have a3:=Tryz.isAgg3; have z3:=Tryz.sizeOf3; have v3:=Tryz.zeroValue3; have u3:=run_underlying t3
 have t4:=Tryz.underlying4; have a4:=Tryz.isAgg4; have z4:=Tryz.sizeOf4; have v4:=Tryz.zeroValue4; have u4:=run_underlying t4
 have t23:=Tryz.underlying23; have a23:=Tryz.isAgg23; have z23:=Tryz.sizeOf23; have v23:=Tryz.zeroValue23; have u23:=run_underlying t23
 have t232:=Tryz.underlying232; have a232:=Tryz.isAgg232; have z232:=Tryz.sizeOf232; have v232:=Tryz.zeroValue232; have u232:=run_underlying t232
 have t233:=Tryz.underlying233; have a233:=Tryz.isAgg233; have z233:=Tryz.sizeOf233; have v233:=Tryz.zeroValue233; have u233:=run_underlying t233
 have e220:∀ args w,(callFunc 220 args).run Tryz.prog w = .ok (.enter 220 args) w:=enters_of Tryz.func220 (by kernel_rfl) rfl
 have hm:Calls Tryz.prog 220 #[.int .u64 1,.int .u64 n] w fun e w'=>e = .returned (.tuple #[.int .u64 0,.int .u64 n])∧w'=w:=by
  refine(Tryz.bits_Mul 1 n (by omega) (by omega) w).mono ?_
  rintro e w' ⟨rfl,rfl⟩
  refine⟨?_,rfl⟩
  rw[show 1*n / 18446744073709551616=0 by omega,show 1*n % 18446744073709551616=n by omega]; rfl
 have hi0:(Tryz.prog.info? 3).map (fun i=>(i.zero,i.size,i.bytes))=some (some (.int .i64 0),1,8):=by kernel_rfl
 obtain⟨i,hi,hi1⟩:=Option.map_eq_some_iff.1 hi0
 injection hi1 with hz hi2
 injection hi2 with hs hby
 have hsz:(Tryz.prog.info? 3).map (·.size)=some 1:=by rw[hi]; simp[hs]
 have hmk:(Instr.makeSlice 23 (.int .i64 n) (.int .i64 n)).run Tryz.prog w = .ok (.slice (some ⟨w.heap.size,0,none⟩) n n) (w.alloc (.cells (eY v n 0) 3)):=by
  have:=run_make (P:=Tryz.prog) w 23 3 i _ t23 hi hz .i64 .i64 n n (by omega) (by omega) (by rw[hby]; omega) (by omega)
  rw[this,hs,←repRow_made v n]; simp
 generalize hW1:w.alloc (.cells (eY v n 0) 3)=W1 at hmk
 have k1:W1.heap[w.heap.size]? = some (.cells (eY v n 0) 3 (0,0)):=by rw[←hW1]; exact heap_alloc_new w _
 have k2:Below w.heap.size w W1:=by rw[←hW1]; exact⟨rfl,rfl,rfl,by show w.heap.size≤(w.heap.push _).size; rw[Array.size_push]; exact Nat.le_succ _,fun k hk=>Below.heap_alloc w _ k hk⟩
 obtain⟨Wc,hcopy,k3,k4⟩:∃ Wc,(Builtin.copy_ #[23,23] 3 #[.slice (some ⟨w.heap.size,0,none⟩) n n,.slice (some a) 1 cap]).run Tryz.prog W1 = .ok (goInt (min 1 n:Nat)) Wc ∧
   Wc.heap[w.heap.size]? = some (.cells (eY v n (min 1 n)) 3 (0,0))∧Below w.heap.size w Wc:=by
  by_cases hn0:n=0
  ·subst hn0
   exact⟨W1,run_copy_none W1 23 23 3 3 _ _ 0 0 1 cap t23 hsz (by decide),k1,k2⟩
  ·have hsrc:W1.cell? a=some (.int .i64 v):=by rw[←h0]; exact World.cell?_of_block (k2.block _ hb)
   have h:=run_copy_row (P:=Tryz.prog) W1 23 23 3 3 w.heap.size 0 n n a 1 cap _ 3 [.int .i64 v] t23 hsz k1 (by simp[Nat.min_def]; omega) (fun j u hu=>by
    match j,hu with
    | 0,hu=>simp at hu; subst hu; rw[show a.add 0=a by simp[Addr.add]]; exact hsrc) (by rw[repRow_size v (Nat.zero_le _)]; simp; omega) (by simp[Value.oneCell'])
   have hr:=repRow_put v (n:=n) (k:=0) (m:=1) (by omega)
   simp only[List.length_singleton]at h
   rw[show ([.int .i64 v]:List Value)=List.replicate 1 (.int .i64 v) from rfl,hr]at h
   rw[show min 1 n=1 by omega]
   refine⟨_,h,setRow_heap _ _ _ _ _ _ k1,?_⟩
   exact⟨k2.os,k2.tape,k2.output,by rw[setRow_size]; exact k2.size,fun k hk=>by rw[setRow_other _ _ _ _ (by omega)]; exact k2.block k hk⟩
 go_enter Tryz.func163,Tryz.ntmps163
 go_wp2_with (go_at_fn 220; refine hm.mono ?_)
 rintro e w' ⟨rfl,rfl⟩
 go_wp2
 go_loopw [8] (fun vn wr=>∃ k:Nat,vn = .int .i64 k∧min 1 n≤k∧k≤n∧wr.heap[w'.heap.size]? = some (.cells (eY v n k) 3 (0,0))∧Below w'.heap.size w' wr)
  (fun vn _=>n-(intOf vn).toNat)
 case atStart=>exact⟨min 1 n,rfl,Nat.le_refl _,by omega,k3,k4⟩
 case round=>
  obtain⟨k,rfl,g1,g2,g3,g4⟩:=hrel
  by_cases hk:k<n
  ·generalize hmn:min k (n-k)=m
   have hm1:1≤m∧m≤k∧k+m≤n:=by omega
   have g3':wr.drew.heap[w'.heap.size]? = some (.cells (eY v n k) 3 (0,0)):=g3
   have hkn:¬ n=k:=by omega
   have hcp:=run_copy_row (P:=Tryz.prog) wr.drew 23 23 3 3 w'.heap.size k (n-k) (n-k) ⟨w'.heap.size,0,none⟩ k n _ 3 (List.replicate m (Value.int .i64 v)) t23 hsz g3'
    (by rw[List.length_replicate]; exact hmn.symm)
    (fun j u hu=>by
     rw[List.getElem?_replicate]at hu
     split at hu
     ·injection hu with hu
      subst hu
      rw[show (⟨w'.heap.size,0,none⟩:Addr).add j=⟨w'.heap.size,j,none⟩ by simp[Addr.add]; omega]
      rw[Lib.cell_of_heap g3']
      exact repRow_get v (by omega)
     ·cases hu)
    (by rw[repRow_size v g2,List.length_replicate]; omega) (fun u hu=>by rw[(List.mem_replicate.1 hu).2]; rfl)
   rw[List.length_replicate,repRow_put v hm1.2.2]at hcp
   go_wp2
   go_region_o
   go_roundw
   case rel=>
    refine⟨_,_,_,_,_,_,_,_,_,_,_,_,_,_,⟨k+m,?_,?_,?_,setRow_heap _ _ _ _ _ _ g3',?_⟩,rfl⟩
    ·simp
    ·omega
    ·omega
    ·exact⟨g4.os,g4.tape,g4.output,by rw[setRow_size]; exact g4.size,fun q hq=>by rw[setRow_other _ _ _ _ (by omega)]; exact g4.block q hq⟩
   case measure=>simp[intOf]; omega
  ·go_wp2
   go_ret
   have hkn:k=n:=by omega
   subst hkn
   refine⟨rfl,?_,g4⟩
   rw[g3]
   simp[eY,repL]
end Go.Proofs
namespace Go.PL
open Go
theorem rd_int{F:Nat→Prop}{w:World}{k:IntKind}{n:Int}{u:Value}(h:Rd F w (.int k n) u):u = .int k n:=by
 cases h with
 | int=>rfl
 | nil h=>simp[T.view]at h
 | sl _ _ _ _ h=>simp[T.view]at h
theorem con360(xs:List Int)(n:Int):cW Proofs.Tryz.prog 163 [.t (eL bC xs),.t (.int .i64 n)] [] [] (if 0≤n∧n≤1000000000000∧xs.length=1 then some (List.replicate n.toNat (xs.getD 0 default)) else none) (fun (_y:List Int)=>.own 40000) (fun (y:List Int)=>[(40000,.arr 3 1 (y.length) (eF bC y))]):=by
 refine⟨bJ Proofs.Tryz.func163 (by kernel_rfl),fun y hy=>?_⟩
 split at hy
 case isFalse=>cases hy
 rename_i hC
 obtain⟨hn0,hn1,hl⟩:=hC
 injection hy with hy
 subst hy
 obtain⟨k,rfl⟩:∃ k:Nat,n=k:=⟨n.toNat,by omega⟩
 intro F g w vs hs hv hH hF hgl
 have hs2:vs.size=2:=hs
 have hv0:=hv 0 _ (vs[0]'(by omega)) rfl (by simp[hs2])
 have hv1:=hv 1 _ (vs[1]'(by omega)) rfl (by simp[hs2])
 obtain⟨a,cap,e0,hc,h0⟩:∃ a cap,vs[0]'(by omega) = .slice (some a) 1 cap∧1≤cap∧w.cell? a=some (.int .i64 (xs.getD 0 default)):=by
  generalize vs[0]'(by omega)=u at hv0
  cases hv0 with
  | t h=>
   generalize hT:eL bC xs=T at h
   cases h with
   | nil h=>subst hT; simp only[eL,T.view,Option.some.injEq,Prod.mk.injEq]at h; omega
   | sl a cap size us h hc hFa hsz hcell hr=>
    subst hT
    simp only[eL,T.view,Option.some.injEq,Prod.mk.injEq]at h
    obtain⟨rfl,rfl⟩:=h
    rw[hl]at hc ⊢
    have z1:=hsz 0 (by omega)
    have z2:size=1:=by rw[←z1]; rfl
    subst z2
    have z3:=hcell 0 0 (by omega) (by omega)
    have z4:Rd F w (.int .i64 (xs.getD 0 default)) (us 0 0):=hr 0 0 _ (by omega) rfl
    rw[show a.add (0*1+0)=a by simp[Addr.add]]at z3
    refine⟨a,cap,rfl,hc,?_⟩
    rw[z3]
    generalize us 0 0=u0 at z4
    exact congrArg some (rd_int z4)
   | _=>simp[eL]at hT
 have e1:vs[1]'(by omega) = .int .i64 k:=by
  generalize vs[1]'(by omega)=u at hv1
  cases hv1 with
  | t h=>exact rd_int h
 have hvs:vs=#[.slice (some a) 1 cap,.int .i64 k]:=by
  apply Array.ext
  ·rw[hs2]; rfl
  ·intro q hq _
   match q,hq with
   | 0,_=>simpa using e0
   | 1,_=>simpa using e1
   | q+2,hq=>omega
 subst hvs
 have hb:a.block<w.heap.size:=by
  by_cases hb:a.block<w.heap.size
  ·exact hb
  ·have:w.heap[a.block]? = none:=by rw[Array.getElem?_eq_none]; omega
   simp[World.cell?,this]at h0
 refine(Proofs.Tryz.Repeat_one a cap k (xs.getD 0 default) w (by omega) h0 hb hc).mono ?_
 rintro e w' ⟨rfl,q1,q2⟩
 have hlt:w.heap.size<w'.heap.size:=(Array.getElem?_eq_some_iff.1 q1).1
 have hg:∀ u:Value,(fun o=>if o=40000 then u else g o) 40000=u:=fun u=>by simp
 have hblk:∀ q,bE (fun o=>if o=40000 then .slice (some ⟨w.heap.size,0,none⟩) k k else g o) w' 40000 (.arr 3 1 (List.replicate k (xs.getD 0 default)).length (eF bC (List.replicate k (xs.getD 0 default)))) q→q=w.heap.size:=by
  intro q hq
  have:=hq.toBlk rfl
  simp[blk]at this
  exact this.symm
 refine⟨_,_,_,F,fun o=>if o=40000 then .slice (some ⟨w.heap.size,0,none⟩) k k else g o,rfl,⟨rfl,rfl⟩,.own (hg _),⟨⟨fun o q hq=>?_,fun o q c hq hc=>?_,fun o q o' q' c hq hq' hne=>?_⟩,fun b h=>h,fun c hc=>⟨?_,.inl hc⟩,⟨q2.os,q2.tape,q2.output,q2.size,fun c hc _=>q2.block c hc⟩,fun o ho=>(by cases ho),?_⟩⟩
 ·cases List.mem_singleton.1 hq
  show ArrV F w' _ 3 1 _ _
  refine .inr ⟨w.heap.size,k,_,?_,q1,?_,?_,?_,fun i hi=>rfl,fun i j x hi hx=>?_⟩
  ·simp
  ·simp
  ·simp only[maxLen]; omega
  ·simp
  ·simp only[Int.toNat_natCast,List.length_replicate]at hi
   match j,hx with
   | 0,hx=>
    simp[eF,bC]at hx
    subst hx
    refine⟨.int .i64 (xs.getD 0 default),?_,?_⟩
    ·simp[hi]
    ·simp[List.getD,hi]
     exact .int _ _
 ·cases List.mem_singleton.1 hq
  have:=hblk c hc
  subst this
  exact⟨fun hf=>by have:=hF _ hf; omega,.inr (Nat.le_refl _)⟩
 ·cases List.mem_singleton.1 hq; cases List.mem_singleton.1 hq'; exact absurd rfl hne
 ·have:=hF c hc; omega
 ·rintro c ⟨o,q,k1,k2⟩
  simp at k1
end Go.PL
namespace Go.Proofs
open Go.RowKit Go.Maps Go.Sort Go.Shelf
def Tryz.keys181_ren:Go.Shelf.Ren:=⟨fun | 7=>181 | 10=>244 | n=>n,fun | 23=>100 | 26=>9 | 3=>37 | 28=>198 | 0=>0 | 27=>197 | 33=>250 | 4=>4 | n=>n,fun n=>n⟩
theorem Tryz.keys181:Go.Proofs.SlLaysZ.n7 Tryz.prog Tryz.keys181_ren:={
 mixed:=by kernel_rfl
 f7:=⟨Tryz.f181.name,by kernel_rfl,Tryz.func181.trans (congrArg some (by kernel_rfl))⟩
 f10:=⟨Tryz.f244.name,by kernel_rfl,Tryz.func244.trans (congrArg some (by kernel_rfl))⟩
 t0:=Tryz.underlying0
 a0:=Tryz.isAgg0
 z0:=Tryz.sizeOf0
 v0:=Tryz.zeroValue0
 t4:=Tryz.underlying4
 a4:=Tryz.isAgg4
 z4:=Tryz.sizeOf4
 v4:=Tryz.zeroValue4
 t23:=Tryz.underlying100
 a23:=Tryz.isAgg100
 z23:=Tryz.sizeOf100
 v23:=Tryz.zeroValue100
 t26:=Tryz.underlying9
 a26:=Tryz.isAgg9
 z26:=Tryz.sizeOf9
 v26:=Tryz.zeroValue9
 t27:=Tryz.underlying197
 a27:=Tryz.isAgg197
 z27:=Tryz.sizeOf197
 v27:=Tryz.zeroValue197
 t28:=Tryz.underlying198
 a28:=Tryz.isAgg198
 z28:=Tryz.sizeOf198
 v28:=Tryz.zeroValue198
 t33:=Tryz.underlying250
 a33:=Tryz.isAgg250
 z33:=Tryz.sizeOf250
 v33:=Tryz.zeroValue250 }
def Tryz.sorted180_ren:Go.Shelf.Ren:=⟨fun | 6=>180 | 8=>242 | 9=>243 | 11=>282 | 13=>284 | 12=>283 | 23=>311 | 24=>312 | 14=>302 | 15=>303 | 16=>304 | 17=>305 | 18=>306 | 19=>307 | 20=>308 | 21=>309 | 22=>310 | 25=>334 | 26=>335 | 27=>336 | 28=>337 | 29=>338 | 30=>339 | 31=>349 | n=>n,fun | 26=>9 | 28=>198 | 24=>195 | 0=>0 | 3=>3 | 37=>232 | 48=>266 | 50=>269 | 4=>4 | 40=>297 | 39=>296 | 45=>131 | 5=>5 | 9=>9 | 51=>319 | 55=>323 | 57=>332 | 58=>35 | 33=>250 | n=>n,fun n=>n⟩
theorem Tryz.sorted180:Go.Proofs.SlLaysZ.n6 Tryz.prog Tryz.sorted180_ren:={
 mixed:=by kernel_rfl
 f6:=⟨Tryz.f180.name,by kernel_rfl,Tryz.func180.trans (congrArg some (by kernel_rfl))⟩
 f8:=⟨Tryz.f242.name,by kernel_rfl,Tryz.func242.trans (congrArg some (by kernel_rfl))⟩
 f11:=⟨Tryz.f282.name,by kernel_rfl,Tryz.func282.trans (congrArg some (by kernel_rfl))⟩
 t0:=Tryz.underlying0
 a0:=Tryz.isAgg0
 z0:=Tryz.sizeOf0
 v0:=Tryz.zeroValue0
 t24:=Tryz.underlying195
 a24:=Tryz.isAgg195
 z24:=Tryz.sizeOf195
 v24:=Tryz.zeroValue195
 t26:=Tryz.underlying9
 a26:=Tryz.isAgg9
 z26:=Tryz.sizeOf9
 v26:=Tryz.zeroValue9
 t28:=Tryz.underlying198
 a28:=Tryz.isAgg198
 z28:=Tryz.sizeOf198
 v28:=Tryz.zeroValue198
 i26:=by kernel_rfl }
def Tryz.sort243_ren:Go.Shelf.Ren:=⟨fun | 6=>243 | 8=>284 | 9=>283 | 19=>311 | 20=>312 | 21=>302 | 22=>303 | 23=>304 | 24=>305 | 25=>306 | 26=>307 | 27=>308 | 28=>309 | 29=>310 | 36=>334 | 31=>335 | 32=>336 | 37=>337 | 38=>338 | 39=>339 | 41=>349 | n=>n,fun | 27=>195 | 29=>9 | 3=>3 | 32=>232 | 26=>195 | 0=>0 | 44=>266 | 46=>269 | 4=>4 | 36=>297 | 35=>296 | 41=>131 | 5=>5 | 9=>9 | 53=>319 | 57=>323 | 63=>332 | 64=>35 | n=>n,fun n=>n⟩
theorem Tryz.sort243:Go.Proofs.SlLaysM.n6 Tryz.prog Tryz.sort243_ren:={
 mixed:=by kernel_rfl
 f6:=⟨Tryz.f243.name,by kernel_rfl,Tryz.func243.trans (congrArg some (by kernel_rfl))⟩
 f8:=Tryz.func284.trans (congrArg some (by kernel_rfl))
 f9:=⟨Tryz.f283.name,by kernel_rfl,Tryz.func283.trans (congrArg some (by kernel_rfl))⟩
 f19:=Tryz.func311.trans (congrArg some (by kernel_rfl))
 f20:=Tryz.func312.trans (congrArg some (by kernel_rfl))
 f21:=⟨Tryz.f302.name,by kernel_rfl,Tryz.func302.trans (congrArg some (by kernel_rfl))⟩
 f22:=⟨Tryz.f303.name,by kernel_rfl,Tryz.func303.trans (congrArg some (by kernel_rfl))⟩
 f23:=⟨Tryz.f304.name,by kernel_rfl,Tryz.func304.trans (congrArg some (by kernel_rfl))⟩
 f24:=⟨Tryz.f305.name,by kernel_rfl,Tryz.func305.trans (congrArg some (by kernel_rfl))⟩
 f25:=⟨Tryz.f306.name,by kernel_rfl,Tryz.func306.trans (congrArg some (by kernel_rfl))⟩
 f26:=⟨Tryz.f307.name,by kernel_rfl,Tryz.func307.trans (congrArg some (by kernel_rfl))⟩
 f27:=⟨Tryz.f308.name,by kernel_rfl,Tryz.func308.trans (congrArg some (by kernel_rfl))⟩
 f28:=⟨Tryz.f309.name,by kernel_rfl,Tryz.func309.trans (congrArg some (by kernel_rfl))⟩
 f29:=⟨Tryz.f310.name,by kernel_rfl,Tryz.func310.trans (congrArg some (by kernel_rfl))⟩
 f31:=Tryz.func335.trans (congrArg some (by kernel_rfl))
 f32:=Tryz.func336.trans (congrArg some (by kernel_rfl))
 f36:=⟨Tryz.f334.name,by kernel_rfl,Tryz.func334.trans (congrArg some (by kernel_rfl))⟩
 f37:=⟨Tryz.f337.name,by kernel_rfl,Tryz.func337.trans (congrArg some (by kernel_rfl))⟩
 f38:=⟨Tryz.f338.name,by kernel_rfl,Tryz.func338.trans (congrArg some (by kernel_rfl))⟩
 f39:=⟨Tryz.f339.name,by kernel_rfl,Tryz.func339.trans (congrArg some (by kernel_rfl))⟩
 f41:=⟨Tryz.f349.name,by kernel_rfl,Tryz.func349.trans (congrArg some (by kernel_rfl))⟩
 t0:=Tryz.underlying0
 a0:=Tryz.isAgg0
 z0:=Tryz.sizeOf0
 v0:=Tryz.zeroValue0
 t3:=Tryz.underlying3
 a3:=Tryz.isAgg3
 z3:=Tryz.sizeOf3
 v3:=Tryz.zeroValue3
 t4:=Tryz.underlying4
 a4:=Tryz.isAgg4
 z4:=Tryz.sizeOf4
 v4:=Tryz.zeroValue4
 t5:=Tryz.underlying5
 a5:=Tryz.isAgg5
 z5:=Tryz.sizeOf5
 v5:=Tryz.zeroValue5
 t9:=Tryz.underlying9
 a9:=Tryz.isAgg9
 z9:=Tryz.sizeOf9
 v9:=Tryz.zeroValue9
 t26:=Tryz.underlying195
 a26:=Tryz.isAgg195
 z26:=Tryz.sizeOf195
 v26:=Tryz.zeroValue195
 t27:=Tryz.underlying195
 a27:=Tryz.isAgg195
 z27:=Tryz.sizeOf195
 v27:=Tryz.zeroValue195
 t29:=Tryz.underlying9
 a29:=Tryz.isAgg9
 z29:=Tryz.sizeOf9
 v29:=Tryz.zeroValue9
 t32:=Tryz.underlying232
 a32:=Tryz.isAgg232
 z32:=Tryz.sizeOf232
 v32:=Tryz.zeroValue232
 t35:=Tryz.underlying296
 a35:=Tryz.isAgg296
 z35:=Tryz.sizeOf296
 v35:=Tryz.zeroValue296
 t36:=Tryz.underlying297
 a36:=Tryz.isAgg297
 z36:=Tryz.sizeOf297
 v36:=Tryz.zeroValue297
 t41:=Tryz.underlying131
 a41:=Tryz.isAgg131
 z41:=Tryz.sizeOf131
 v41:=Tryz.zeroValue131
 t44:=Tryz.underlying266
 a44:=Tryz.isAgg266
 z44:=Tryz.sizeOf266
 v44:=Tryz.zeroValue266
 t46:=Tryz.underlying269
 a46:=Tryz.isAgg269
 z46:=Tryz.sizeOf269
 v46:=Tryz.zeroValue269
 t53:=Tryz.underlying319
 a53:=Tryz.isAgg319
 z53:=Tryz.sizeOf319
 v53:=Tryz.zeroValue319
 t57:=Tryz.underlying323
 a57:=Tryz.isAgg323
 z57:=Tryz.sizeOf323
 v57:=Tryz.zeroValue323
 t63:=Tryz.underlying332
 a63:=Tryz.isAgg332
 z63:=Tryz.sizeOf332
 v63:=Tryz.zeroValue332
 t64:=Tryz.underlying35
 a64:=Tryz.isAgg35
 z64:=Tryz.sizeOf35
 v64:=Tryz.zeroValue35 }
theorem Tryz.sorts180(m:Nat):AnyZ.SortsIn Tryz.prog Tryz.sorted180_ren Fence.wide m:=
 ⟨fun blk off cap ss W hH hblk hsz=>callsIn_wide.2 (AnyM.slices_Sort_string Tryz.sort243 blk off cap ss W hH hblk hsz),
  fun p cap W=>callsIn_wide.2 (AnyM.slices_Sort_string_none Tryz.sort243 p cap W)⟩
theorem Tryz.maps_Keys_181(mb:Option Nat)(W:World):CallsIn Fence.wide 5 Tryz.prog 181 #[.map mb] W fun e w'=>e = .returned (.func (.func 244) #[] #[.pointer (some ⟨W.heap.size,0,none⟩)])∧w'=W.alloc (.cells #[.map mb] 100):=
 AnyZ.keys_in Tryz.keys181 Fence.wide 5 trivial rfl mb W
set_option maxHeartbeats 1000000 in
theorem Tryz.sorted_keys{H:Type}(Bm b nn:Nat)(D0:DataW H)(R:Value→Option (DataW H×List MemPlace))(w:World)(hBm:Bm<w.heap.size)(hm:w.cell? ⟨Bm,0,none⟩=some (.map (some b)))(hown:w.ownsMap Tryz.prog 9 R b nn D0)(hmax:Maps.size D0≤maxLen)(hbytes:Maps.size D0*16≤140737488355328):
  CallsIn Fence.wide 5 Tryz.prog 180 #[.func (.func 244) #[] #[.pointer (some ⟨Bm,0,none⟩)]] w fun e w'=>∃ (v:Value) (ss:List (List UInt8)),e = .returned v∧ss.Perm (strKeys D0) ∧
   w'.ownsRow w.heap.size 9 1 v ss.length ((ss.mergeSort (fun x y=>decide (x≤y))).map encStr)∧(v = .slice none 0 0↔ss=[])∧Below w.heap.size w w':=by
 have hseq:SeqGives Fence.wide 2 Tryz.prog 244 #[.pointer (some ⟨Bm,0,none⟩)] encStr (fun ss=>ss.Perm (strKeys D0)) (Maps.size D0) w:=
  AnyZ.keys_gives (ρ:=Tryz.keys181_ren) { Tryz.keys181 with } Fence.wide _ trivial rfl (by omega) Bm b nn D0 w hBm hm hown
 exact AnyZ.sorted_in Tryz.sorted180 Fence.wide 5 trivial trivial trivial trivial rfl (by omega) (Tryz.sorts180 _) (enters_of Tryz.func243 (by kernel_rfl) rfl) 244 #[.pointer (some ⟨Bm,0,none⟩)] trivial (enters_of Tryz.func244 (by kernel_rfl) rfl) _ _ hmax hbytes _ hseq
end Go.Proofs
namespace Go.PL
open Go
set_option linter.unusedVariables false
def fC(ks:List ByteArray):List ByteArray:=((ks.map fun k=>k.data.toList).mergeSort (fun x y=>decide (x≤y))).map fun l=>⟨l.toArray⟩
def okKs(ks:List ByteArray):Bool:=decide (ks.length≤1000000000000)&&ks.all fun k=>decide (k.size≤1000000000000)
theorem keyR_str{s:ByteArray}{v:Value}(h:KeyR (.str s) v):v = .string s:=by cases h; rfl
def bytesOf:Value→List UInt8
 | .string s=>s.data.toList
 | _=>[]
theorem ent_keys{V:Type}{F:Nat→Prop}{w:World}{enc:V→Mem}:∀ {v:List (ByteArray×V)} {l:List MapEntry},AllR (EntR F w) (eM enc v) l→l.map (fun e=>bytesOf e.key)=(aZ v).map (fun k=>k.data.toList)∧∀ e,e∈l→∃ k,k∈aZ v∧e.key = .string k
 | [],l,h=>by
  cases h
  exact⟨rfl,fun e he=>by simp at he⟩
 | (k,c)::v,l,h=>by
  generalize hm:eM enc ((k,c)::v)=m at h
  cases h with
  | nil=>simp[eM]at hm
  | @cons a b la lb hr ht=>
   simp only[eM,List.map_cons,List.cons.injEq]at hm
   obtain⟨rfl,rfl⟩:=hm
   have hk:=keyR_str hr.1
   obtain⟨q1,q2⟩:=ent_keys (v:=v) (l:=lb) ht
   refine⟨?_,fun e he=>?_⟩
   ·simp only[List.map_cons,aZ]at q1 ⊢
    rw[q1,hk]; rfl
   ·rcases List.mem_cons.1 he with rfl | he
    ·exact⟨k,List.mem_cons_self,hk⟩
    ·obtain⟨k',h1,h2⟩:=q2 e he
     exact⟨k',List.mem_cons_of_mem _ h1,h2⟩
open Go.RowKit Go.Maps Go.Sort Go.Shelf Go.Proofs in
theorem owns_keys{V:Type}{F:Nat→Prop}{g:Nat→Value}{w:World}{b clock:Nat}{es:Array MapEntry}{enc:V→Mem}{v:List (ByteArray×V)}{l r:List MapEntry}(hb:w.heap[b]? = some (.map es clock))(h:MpR F g w b es clock none (eM enc v) none l r)(hk:okKs (aZ v)=true)(hnd:(aZ v).Nodup):
  ∃ D0:DataW Unit,w.ownsMap Proofs.Tryz.prog 9 (fun _=>some (.nil,[])) b es.size D0∧(strKeys D0).Perm ((aZ v).map fun k=>k.data.toList)∧Maps.size D0≤1000000000000:=by
 unfold okKs at hk
 rw[Bool.and_eq_true,decide_eq_true_eq,List.all_eq_true]at hk
 obtain⟨hlen,hsz⟩:=hk
 have hr:r=[]:=h.hole
 subst hr
 have hp:=h.perm
 rw[List.append_nil]at hp
 obtain⟨q1,q2⟩:=ent_keys h.ent
 have hes:es.size=(aZ v).length:=by
  have:=congrArg List.length q1
  rw[List.length_map,List.length_map,hp.length_eq,Array.length_toList]at this
  exact this
 have key:∀ e,e∈es.toList→∃ k,k∈aZ v∧e.key = .string k:=fun e he=>q2 e (hp.mem_iff.2 he)
 have rdk:∀ e,e∈es.toList→WideElems.rd Proofs.Tryz.prog 9 (fun _=>some ((DataW.nil:DataW Unit),[])) e=some (Lit.string (bytesOf e.key),DataW.nil):=fun e he=>by
  obtain⟨k,hk,hke⟩:=key e he
  have hs:=of_decide_eq_true (hsz k hk)
  have e1:keyOf Proofs.Tryz.prog 9 e.key=some (Lit.string (bytesOf e.key)):=by
   rw[hke]
   unfold keyOf mapKey
   rw[Proofs.Tryz.underlying9]
   simp only[bytesOf]
   rw[if_pos (by simp only[maxLen]; omega)]
  unfold WideElems.rd
  rw[e1]; rfl
 have hnk:(es.toList.map (·.key)).Nodup:=by
  have h1:(es.toList.map fun e=>bytesOf e.key).Nodup:=by
   have h2:(l.map fun e=>bytesOf e.key).Nodup:=by
    rw[q1]
    refine List.pairwise_map.2 (hnd.imp fun {a b} hab e=>hab ?_)
    cases a; cases b
    exact congrArg ByteArray.mk (Array.toList_inj.1 e)
   exact(hp.map _).nodup_iff.1 h2
  exact List.pairwise_map.2 ((List.pairwise_map.1 h1).imp fun hab e=>hab (by rw[e]))
 have hperm:(strKeys (DataW.map ((es.toList.map (WideElems.rg Proofs.Tryz.prog 9 (fun _=>some ((DataW.nil:DataW Unit),[])))).foldr DataW.insert []))).Perm ((aZ v).map fun k=>k.data.toList):=by
  rw[←q1]
  unfold strKeys
  have h1:=(WideShapes.sorted_perm (es.toList.map (WideElems.rg Proofs.Tryz.prog 9 (fun _=>some ((DataW.nil:DataW Unit),[]))))).map (fun p=>strOf p.1)
  refine h1.trans ?_
  rw[List.map_map]
  have h2:es.toList.map ((fun p=>strOf p.1) ∘ WideElems.rg Proofs.Tryz.prog 9 (fun _=>some ((DataW.nil:DataW Unit),[])))=es.toList.map fun e=>bytesOf e.key:=by
   refine List.map_congr_left fun e he=>?_
   simp only[Function.comp]
   rw[WideElems.rg_of (rdk e he)]; rfl
  rw[h2]
  exact(hp.map _).symm
 refine⟨_,⟨es,clock,hb,⟨by rw[hes]; simp only[maxLen]; omega,⟨h.old,h.born,hnk⟩,fun x hx=>⟨_,rdk x hx⟩⟩,Nat.le_refl _,rfl⟩,hperm,?_⟩
 have:=length_read (H:=Unit) (P:=Proofs.Tryz.prog) (k:=9) (R0:=fun _=>some (DataW.nil,[])) es
 show ((es.toList.map _).foldr DataW.insert []).length≤_
 rw[this,hes]; exact hlen
theorem rel_new{F:Nat→Prop}{g g':Nat→Value}{w w':World}{H:Hp}{N:List Nat}{o':Nat}{x':aV}(hH:HpR F g w (fun _=>True) H)(hF:∀ b,F b→b<w.heap.size)(hb:Go.RowKit.Below w.heap.size w w')
  (hg:∀ o,o≠o'→g' o=g o)(hn:∀ o x,(o,x)∈H→o≠o'∧∀ k,k∈x.names→k≠o')(hN:∀ o,o∈N→o≠o')(hx:cI F g' w' o' x')(hf:∀ b,bE g' w' o' x' b→w.heap.size≤b∧b<w'.heap.size):
  RelW { w0:=w,F0:=F,B0:=Own g w H,g0:=g,N:=N,nt:=0 } F g' (H++[(o',x')]) w':=by
 have same:∀ b,b<w.heap.size→w'.heap[b]? = w.heap[b]?:=hb.block
 have old:∀ o x,(o,x)∈H→cI F g' w' o x:=fun o x hox=>by
  obtain⟨h1,h2⟩:=hn o x hox
  exact(hH.obj o x hox).mono (fun b hbF=>⟨hbF,same b (hF b hbF)⟩) (hg o h1) (fun k hk=>hg k (h2 k hk)) (fun b hbf=>same b (hbf.block (hH.obj o x hox)))
 have ft:∀ o x b,(o,x)∈H→bE g' w' o x b→bE g w o x b:=fun o x b hox h=>by
  obtain⟨h1,h2⟩:=hn o x hox
  exact h.mono (hg o h1) (fun k hk=>hg k (h2 k hk)) (fun c hc=>same c ((hH.obj o x hox).block hc))
 refine⟨⟨fun o x hox=>?_,fun o x b hox hfb=>?_,fun o x o2 y b hox hoy hne h1 h2=>?_⟩,fun b h=>h,fun b h=>⟨Nat.lt_of_lt_of_le (hF b h) hb.size,.inl h⟩,⟨hb.os,hb.tape,hb.output,hb.size,fun b h _=>same b h⟩,fun o ho=>hg o (hN o ho),fun b ⟨o,x,hox,hfo⟩=>hfo.block (hH.obj o x hox)⟩
 ·rcases List.mem_append.1 hox with h | h
  ·exact old o x h
  ·cases List.mem_singleton.1 h; exact hx
 ·rcases List.mem_append.1 hox with h | h
  ·have h3:=ft o x b h hfb
   exact⟨(hH.own o x b h h3).1,.inl ⟨o,x,h,h3⟩⟩
  ·cases List.mem_singleton.1 h
   have h3:=hf b hfb
   exact⟨fun hFb=>by have:=hF b hFb; omega,.inr h3.1⟩
 ·rcases List.mem_append.1 hox with h | h
  ·rcases List.mem_append.1 hoy with h' | h'
   ·exact hH.sep o x o2 y b h h' hne (ft o x b h h1) (ft o2 y b h' h2)
   ·cases List.mem_singleton.1 h'
    have h3:=(ft o x b h h1).block (hH.obj o x h)
    have h4:=hf b h2
    omega
  ·cases List.mem_singleton.1 h
   rcases List.mem_append.1 hoy with h' | h'
   ·have h3:=(ft o2 y b h' h2).block (hH.obj o2 y h')
    have h4:=hf b h1
    omega
   ·cases List.mem_singleton.1 h'; exact absurd rfl hne
theorem con371{V:Type}(enc:V→Mem)(v:List (ByteArray×V)):cW Proofs.Tryz.prog 181 [.map 30000] [(30000,.mp none (eM enc v) none)] [30000] (some ()) (fun _:Unit=>.fn (.func 244) 0 [.ptr 40000 0])
  (fun _=>[(30000,.mp none (eM enc v) none),(40000,.box [.map 30000])]):=by
 refine⟨bJ Proofs.Tryz.func181 (by kernel_rfl),fun y hy=>?_⟩
 intro F g w vs hs hv hH hF hgl
 have hs1:vs.size=1:=hs
 have hv0:=hv 0 _ (vs[0]'(by omega)) rfl (by simp[hs1])
 obtain⟨b,e0,hgb⟩:∃ b,vs[0]'(by omega) = .map (some b)∧g 30000 = .map (some b):=by
  generalize vs[0]'(by omega)=u at hv0
  cases hv0 with
  | map h=>exact⟨_,rfl,h⟩
 have hvs:vs=#[.map (some b)]:=by
  apply Array.ext
  ·rw[hs1]; rfl
  ·intro q hq _
   match q,hq with
   | 0,_=>simpa using e0
   | q+1,hq=>omega
 subst hvs
 refine((callsIn_wide (n:=5)).1 (Proofs.Tryz.maps_Keys_181 (some b) w)).mono ?_
 rintro e w' ⟨rfl,rfl⟩
 have hlt:(w.alloc (.cells #[.map (some b)] 100)).heap.size=w.heap.size+1:=by simp
 have hbl:Go.RowKit.Below w.heap.size w (w.alloc (.cells #[.map (some b)] 100)):=(Go.RowKit.Below.refl _ w).alloc (Nat.le_refl _) _
 have hcell:(w.alloc (.cells #[.map (some b)] 100)).heap[w.heap.size]? = some (.cells #[.map (some b)] 100 (0,0)):=by
  rw[show (w.alloc (.cells #[.map (some b)] 100)).heap=w.heap.push (.cells #[.map (some b)] 100) from rfl]; simp
 refine⟨_,_,_,F,upd g 40000 (.pointer (some ⟨w.heap.size,0,none⟩)),rfl,⟨rfl,rfl⟩,?_,rel_new hH hF hbl (fun o ho=>by simp[upd,ho]) (fun o x h=>?_) (fun o h=>?_) ?_ (fun c hc=>?_)⟩
 ·refine .fn (us:=#[]) rfl rfl fun j x u hj hu=>?_
  match j,hj,hu with
  | 0,hj,hu=>
   simp at hj hu
   subst hj hu
   exact .ptr (by simp[upd])
 ·cases List.mem_singleton.1 h
  exact⟨by decide,fun k hk=>by simp[aV.names,itN,hoN]at hk⟩
 ·cases List.mem_singleton.1 h; decide
 ·refine⟨w.heap.size,_,_,by simp[upd],hcell,rfl,fun j x u hj hu=>?_⟩
  match j,hj,hu with
  | 0,hj,hu=>
   simp at hj hu
   subst hj hu
   exact .map (by simp[upd,hgb])
 ·have:=hc.toBlk rfl
  simp[upd,blk]at this
  omega
theorem sortK_len(ks:List ByteArray):(fC ks).length=ks.length:=by
 unfold fC
 rw[List.length_map,List.length_mergeSort,List.length_map]
theorem keys_nodup{V:Type}{enc:V→Mem}:∀ {v:List (ByteArray×V)},((eM enc v).map (·.1)).Nodup→(aZ v).Nodup
 | [],_=>List.nodup_nil
 | (k,c)::v,h=>by
  simp only[eM,List.map_cons]at h
  have h':=List.nodup_cons.1 h
  refine List.nodup_cons.2 ⟨fun hk=>h'.1 ?_,keys_nodup h'.2⟩
  obtain⟨x,hx,e⟩:=List.mem_map.1 hk
  rw[List.map_map]
  exact List.mem_map.2 ⟨x,hx,by simp only[Function.comp]; rw[e]⟩
theorem con370{V:Type}(enc:V→Mem)(v:List (ByteArray×V)):cW Proofs.Tryz.prog 180 [.fn (.func 244) 0 [.ptr 30001 0]] [(30000,.mp none (eM enc v) none),(30001,.box [.map 30000])] [30000,30001] (if okKs (aZ v)=true then some (fC (aZ v)) else none) (fun _:List ByteArray=>.own 40000)
  (fun ks=>[(30000,.mp none (eM enc v) none),(30001,.box [.map 30000]),(40000,.arr 9 1 ks.length (eF cStr ks))]):=by
 refine⟨bJ Proofs.Tryz.func180 (by kernel_rfl),fun y hy=>?_⟩
 split at hy
 case isFalse=>cases hy
 rename_i hC
 injection hy with hy
 subst hy
 intro F g w vs hs hv hH hF hgl
 have hs1:vs.size=1:=hs
 have hv0:=hv 0 _ (vs[0]'(by omega)) rfl (by simp[hs1])
 obtain⟨Bm,e0,hgB⟩:∃ Bm,vs[0]'(by omega) = .func (.func 244) #[] #[.pointer (some ⟨Bm,0,none⟩)]∧g 30001 = .pointer (some ⟨Bm,0,none⟩):=by
  generalize vs[0]'(by omega)=u at hv0
  cases hv0 with
  | @fn f n cs us ws hn hs hr=>
   have hu:us=#[]:=Array.eq_empty_of_size_eq_zero hn
   subst hu
   have hw:ws.size=1:=by simpa using hs
   obtain⟨z,rfl⟩:=Array.size_eq_one_iff.1 hw
   have h0:=hr 0 _ z rfl (by simp)
   cases h0 with
   | ptr h=>exact⟨_,rfl,h⟩
 have hvs:vs=#[.func (.func 244) #[] #[.pointer (some ⟨Bm,0,none⟩)]]:=by
  apply Array.ext
  ·rw[hs1]; rfl
  ·intro q hq _
   match q,hq with
   | 0,_=>simpa using e0
   | q+1,hq=>omega
 subst hvs
 obtain⟨b1,vs1,ty1,k1,k2,k3,k4⟩:BoxV F g w (g 30001) [.map 30000]:=hH.obj 30001 (.box [.map 30000]) (by simp)
 rw[hgB]at k1
 injection k1 with k1
 injection k1 with k1
 injection k1 with k1 _ _
 subst k1
 obtain⟨b,es,clock,m1,m2,l,r,hM⟩:∃ b es clock,g 30000 = .map (some b)∧w.heap[b]? = some (.map es clock)∧∃ l r,MpR F g w b es clock none (eM enc v) none l r:=hH.obj 30000 (.mp none (eM enc v) none) (by simp)
 have hv1:vs1=#[.map (some b)]:=by
  obtain⟨z,rfl⟩:=Array.size_eq_one_iff.1 (show vs1.size=1 from k3)
  have h0:=k4 0 _ z rfl (by simp)
  cases h0 with
  | map h=>
   rw[m1]at h
   cases h; rfl
 subst hv1
 have hlB:Bm<w.heap.size:=(Array.getElem?_eq_some_iff.1 k2).1
 have hcell:w.cell? ⟨Bm,0,none⟩=some (.map (some b)):=by simp[World.cell?,k2]
 have hnd:(aZ v).Nodup:=keys_nodup (enc:=enc) (List.nodup_append.1 hM.keys).1
 obtain⟨D0,hown,hpm,hsz⟩:=owns_keys m2 hM hC hnd
 refine((callsIn_wide (n:=5)).1 (Proofs.Tryz.sorted_keys Bm b es.size D0 _ w hlB hcell hown (by simp only[maxLen]; omega) (by omega))).mono ?_
 rintro e w' ⟨u,ss,rfl,hss,⟨hrl,hrow⟩,_,hbl⟩
 have hms:ss.mergeSort (fun x y=>decide (x≤y))=((aZ v).map fun k=>k.data.toList).mergeSort (fun x y=>decide (x≤y)):=mergeSort_of_perm (hss.trans hpm)
 have hlen:ss.length=(fC (aZ v)).length:=by
  rw[sortK_len]
  have:=(hss.trans hpm).length_eq
  rwa [List.length_map]at this
 have fin:∀ a cap,u = .slice a ss.length cap→ArrV F w' u 9 1 (fC (aZ v)).length (eF cStr (fC (aZ v)))→(∀ c,blk u=some c→w.heap.size≤c∧c<w'.heap.size)→∃ v_1 r H' F' g',Ending.returned u = .returned v_1∧RetH (.own 40000) [(30000,.mp none (eM enc v) none),(30001,.box [.map 30000]),(40000,.arr 9 1 (fC (aZ v)).length (eF cStr (fC (aZ v))))] r H'∧VR F' g' w' r v_1 ∧
   RelW { w0:=w,F0:=F,B0:=Own g w [(30000,.mp none (eM enc v) none),(30001,.box [.map 30000])],g0:=g,N:=[30000,30001],nt:=0 } F' g' H' w':=fun a cap hu hA hfo=>by
  refine⟨_,_,_,F,upd g 40000 u,rfl,⟨rfl,rfl⟩,?_,rel_new (g':=upd g 40000 u) (o':=40000) (x':=.arr 9 1 (fC (aZ v)).length (eF cStr (fC (aZ v)))) hH hF hbl (fun o ho=>by simp[upd,ho]) (fun o x h=>?_) (fun o h=>?_) ?_ (fun c hc=>?_)⟩
  ·rw[hu]
   exact .own (by simp[upd])
  ·simp only[List.mem_cons,List.not_mem_nil,or_false]at h
   rcases h with h | h <;> cases h
   ·exact⟨by decide,fun k hk=>by simp[aV.names,itN,hoN]at hk⟩
   ·refine⟨by decide,fun k hk=>?_⟩
    simp[aV.names,PV.names.go,PV.names]at hk
    subst hk; decide
  ·simp only[List.mem_cons,List.not_mem_nil,or_false]at h
   rcases h with rfl | rfl <;> decide
  ·show ArrV F w' (upd g 40000 u 40000) 9 1 _ _
   rw[show upd g 40000 u 40000=u by simp[upd]]
   exact hA
  ·have:=hc.toBlk rfl
   rw[show upd g 40000 u 40000=u by simp[upd]]at this
   exact hfo c this
 rcases hrow with⟨rfl,hz⟩ | ⟨gb,cap,cur,rfl,r1,r2,r3,r4,r5,r6⟩
 ·refine fin none 0 (by rw[hz]) (.inl ⟨rfl,by rw[←hlen]; exact hz⟩) (fun c hc=>by simp[blk]at hc)
 ·refine fin _ _ rfl (.inr ⟨gb,cap,cur,by rw[hlen],r2,by rw[←hlen]; exact r3,r4,r5,fun i hi=>rfl,fun i j x hi hx=>?_⟩) (fun c hc=>?_)
  ·match j,hx with
   | 0,hx=>
    simp[eF,cStr]at hx
    subst hx
    rw[Nat.mul_one]at r6
    have hi':i<ss.length:=by rw[hlen]; exact hi
    have hi2:i<(((aZ v).map fun k=>k.data.toList).mergeSort (fun x y=>decide (x≤y))).length:=by
     rw[List.length_mergeSort,List.length_map,←sortK_len]; exact hi
    have h1:cur.toList[i]? = some (Proofs.encStr ((((aZ v).map fun k=>k.data.toList).mergeSort (fun x y=>decide (x≤y)))[i]'hi2)):=by
     have h2:=congrArg (fun l:List Value=>l[i]?) r6
     simp only[List.getElem?_take_of_lt hi']at h2
     rw[h2,hms]
     simp
    refine⟨Proofs.encStr ((((aZ v).map fun k=>k.data.toList).mergeSort (fun x y=>decide (x≤y)))[i]'hi2),?_,?_⟩
    ·rw[Nat.mul_one,Nat.add_zero,←Array.getElem?_toList]; exact h1
    ·have h3:(fC (aZ v))[i]?.getD default=⟨((((aZ v).map fun k:ByteArray=>k.data.toList).mergeSort (fun x y=>decide (x≤y)))[i]'hi2).toArray⟩:=by
      unfold fC
      rw[List.getElem?_map,List.getElem?_eq_getElem hi2]; rfl
     rw[h3]
     exact .str _
  ·simp[blk]at hc
   subst hc
   exact⟨r1,(Array.getElem?_eq_some_iff.1 r2).1⟩
end Go.PL
namespace Go.PL
open Go Go.Proofs IntKind
set_option linter.unusedVariables false
set_option maxRecDepth 20000
abbrev LD:=List aA
abbrev tI (x:Int):PV:=.t (.int .i64 x)
abbrev tB (x:Bool):PV:=.t (.bool x)
abbrev tD (x:List aA):PV:=.t (eL aH x)
abbrev tV (x:List aC):PV:=.t (eL bM x)
abbrev aD (x:List aA):aV:=.arr 50 3 (x.length) (eF aH x)
abbrev bN (x:aE):aV:=.box ((cGNode x).map .t)
def bP(f:List aF)(x:aE)(k:Nat)(c:Int):aV:=.box [.t (eL bA (f)),tI x.Op,.t (eL bC (x.In)),.t (.str (x.Source)),tI x.Schema,.t (.lz (.exprs (x.Exprs))),tI x.Kind,tI x.Size,tI x.Step,.t (eL bC (x.Key)),.t (eL bC (x.Key2)),tI x.Before,tI x.After,tI x.Keep,.t (eL cGAgg (x.Aggs)),.t (eL iQ (x.Seq)),.t (eL cGCol (x.Cols)),.map k,tI c]
abbrev LM:=List (ByteArray×LD)
abbrev mD (c:LD):Mem:=Mem.d (eL aH c)
abbrev vD (c:LD):T:=eL aH c
abbrev mR (c:LD):Mem:=Mem.row 50 3 c.length (eF aH c)
abbrev pD (x:LM):aV:=.mp none (eM mD x) none
abbrev pR (x:LM):aV:=.mp none (eM mR x) none
abbrev fm1:List (Int×Nat):=mput ([]:List (Int×Nat)) (8:Int) (225:Nat)
abbrev fm2:List (Int×Nat):=mput fm1 (9:Int) (226:Nat)
abbrev fm3:List (Int×Nat):=mput fm2 (10:Int) (227:Nat)
abbrev fm4:List (Int×Nat):=mput fm3 (11:Int) (228:Nat)
abbrev fm5:List (Int×Nat):=mput fm4 (12:Int) (229:Nat)
abbrev fm6:List (Int×Nat):=mput fm5 (13:Int) (230:Nat)
abbrev fm7:List (Int×Nat):=mput fm6 (14:Int) (231:Nat)
abbrev fm8:List (Int×Nat):=mput fm7 (15:Int) (232:Nat)
abbrev fm9:List (Int×Nat):=mput fm8 (16:Int) (233:Nat)
abbrev fm10:List (Int×Nat):=mput fm9 (17:Int) (234:Nat)
abbrev fm11:List (Int×Nat):=mput fm10 (18:Int) (235:Nat)
abbrev fm12:List (Int×Nat):=mput fm11 (19:Int) (236:Nat)
abbrev mF (c:Nat):Mem:=Mem.d (T.fv c)
noncomputable section
def T159(a0:aC)(a1:aC):TP Int:=.ite 8 (decide (a0.Kind<a1.Kind)) (.ret 1 (-1)) (.ite 5 (decide (a0.Kind>a1.Kind)) (.ret 1 1) (.ite 5 (decide (a0.N<a1.N)) (.ret 1 (-1)) (.ite 5 (decide (a0.N>a1.N)) (.ret 1 1) (.ite 5 (Op.bytesLess (a0.S:ByteArray).toList (a1.S:ByteArray).toList) (.ret 1 (-1)) (.ite 5 (!(Op.bytesLess (a0.S:ByteArray).toList (a1.S:ByteArray).toList || (a0.S:ByteArray).toList==(a1.S:ByteArray).toList)) (.ret 1 1) (.ret 1 0))))))
def G159(a0:aC)(a1:aC):Option Int:=(T159 a0 a1).den
theorem G159_ok(a0:aC)(a1:aC):Con Tryz.prog 77 [.t (cE a0),.t (cE a1)] (G159 a0 a1) tI:=con Tryz.func77 aR (T159 a0 a1)
def T116_L0(a0:List aC)(a1:List aC):Int→TP ((Int)⊕((Unit)⊕Int))
 | v1=>.jn 5 0 (fun (j2:Bool)=>⟨[(0,tV a0),(1,tV a1),(5,tI v1),(16,tB j2)],[]⟩) (.ite 0 (decide (v1<(a0.length:Int))) (.ret 5 (decide (v1<(a1.length:Int)))) (.ret 5 false)) fun j2=>.ite 0 j2 (.dg 2 (0≤v1∧v1<(a0.length:Int)) <| .dg 6 (0≤v1∧v1<(a1.length:Int)) <| .dc 8 [.t (cE (a0.getD v1.toNat default)),.t (cE (a1.getD v1.toNat default))] (G159_ok (a0.getD v1.toNat default) (a1.getD v1.toNat default)) fun r3=>.dr 0 0 [] [0,1,5,16] <| .ite 2 (r3 != 0) (.ret 2 (.inr (.inr r3))) (.ret 3 (.inl (i64.wrap (v1+1))))) (.ret 0 (.inr (.inl ())))
def T116(a0:List aC)(a1:List aC):TP Int:=.lp 2 (fun (v1:Int)=>⟨[(0,tV a0),(1,tV a1),(5,tI v1)],[]⟩) (fun (_:Unit)=>⟨[(0,tV a0),(1,tV a1)],[]⟩) 0 0 (T116_L0 a0 a1) fun _=>.ite 5 (decide ((a0.length:Int)<(a1.length:Int))) (.ret 1 (-1)) (.ite 5 (decide ((a0.length:Int)>(a1.length:Int))) (.ret 1 1) (.ret 1 0))
def G116(a0:List aC)(a1:List aC):Option Int:=(T116 a0 a1).den
theorem G116_ok(a0:List aC)(a1:List aC):Con Tryz.prog 102 [tV a0,tV a1] (G116 a0 a1) tI:=con Tryz.func102 aR (T116 a0 a1)
def T49(a0:aA)(a1:aA):TP Int:=.ite 8 (decide (a0.Time<a1.Time)) (.ret 1 (-1)) (.ite 5 (decide (a0.Time>a1.Time)) (.ret 1 1) (.ca 4 (G116_ok a0.Row a1.Row) fun r1=>.ret 1 r1))
def G49(a0:aA)(a1:aA):Option Int:=(T49 a0 a1).den
theorem G49_ok(a0:aA)(a1:aA):Con Tryz.prog 105 [.t (bU a0),.t (bU a1)] (G49 a0 a1) tI:=con Tryz.func105 aR (T49 a0 a1)
def T20_L0(a0:LD)(a1:LD):Int→TP ((Int)⊕((Unit)⊕Bool))
 | v1=>.ite 4 (decide (v1<(a0.length:Int))) (.jn 0 0 (fun (j2:Bool)=>⟨[(0,tD a0),(1,tD a1),(5,tI v1),(39,tB j2)],[]⟩) (.dg 2 (0≤v1∧v1<(a0.length:Int)) <| .dg 6 (0≤v1∧v1<(a1.length:Int)) <| .dc 8 [.t (bU (a0.getD v1.toNat default)),.t (bU (a1.getD v1.toNat default))] (G49_ok (a0.getD v1.toNat default) (a1.getD v1.toNat default)) fun r3=>.dl 10 (r3 != 0) (.dr 0 0 [] [0,1,5,11,12,13,14] <| .ret 0 true) (.dg 13 (0≤v1∧v1<(a0.length:Int)) <| .dg 18 (0≤v1∧v1<(a1.length:Int)) <| .dr 0 0 [] [0,1,5,11,12,13,14] <| .ret 0 (((a0.getD v1.toNat default).N) != ((a1.getD v1.toNat default).N)))) fun j2=>.ite 0 j2 (.ret 1 (.inr (.inr false))) (.ret 3 (.inl (i64.wrap (v1+1))))) (.ret 0 (.inr (.inl ())))
def T20(a0:LD)(a1:LD):TP Bool:=.ite 6 ((a0.length:Int) != (a1.length:Int)) (.ret 1 false) (.lp 1 (fun (v1:Int)=>⟨[(0,tD a0),(1,tD a1),(5,tI v1)],[]⟩) (fun (_:Unit)=>⟨[],[]⟩) 0 0 (T20_L0 a0 a1) fun _=>.ret 1 true)
def G20(a0:LD)(a1:LD):Option Bool:=(T20 a0 a1).den
theorem G20_ok(a0:LD)(a1:LD):Con Tryz.prog 44 [tD a0,tD a1] (G20 a0 a1) tB:=con Tryz.func44 aR (T20 a0 a1)
def T335(a0:Int):TP aW:=.bs 4 false cO ([(aW.mk 3 1 (⟨#[]⟩) ([]:List aW)),(aW.mk 0 a0 (⟨#[]⟩) ([]:List aW))]:List aW) <| .cv 0 [.sl 6 (.lz (.exprs ([(aW.mk 3 1 (⟨#[]⟩) ([]:List aW)),(aW.mk 0 a0 (⟨#[]⟩) ([]:List aW))]:List aW)))] <| .ret 2 (aW.mk 13 0 (⟨#[]⟩) ([(aW.mk 3 1 (⟨#[]⟩) ([]:List aW)),(aW.mk 0 a0 (⟨#[]⟩) ([]:List aW))]:List aW))
def G335(a0:Int):Option aW:=(T335 a0).den
theorem G335_ok(a0:Int):Con Tryz.prog 56 [tI a0] (G335 a0) (fun (y:aW)=>.t (cJ y)):=con Tryz.func56 aR (T335 a0)
def T336(a0:Int)(a1:Int)(a2:Int):TP aA:=.bs 6 false bM ([(aC.mk 0 a1 (⟨#[]⟩)),(aC.mk 0 a2 (⟨#[]⟩))]:List aC) <| .ret 2 (aA.mk a0 ([(aC.mk 0 a1 (⟨#[]⟩)),(aC.mk 0 a2 (⟨#[]⟩))]:List aC) 1)
def G336(a0:Int)(a1:Int)(a2:Int):Option aA:=(T336 a0 a1 a2).den
theorem G336_ok(a0:Int)(a1:Int)(a2:Int):Con Tryz.prog 57 [tI a0,tI a1,tI a2] (G336 a0 a1 a2) (fun (y:aA)=>.t (bU y)):=con Tryz.func57 aR (T336 a0 a1 a2)
def T337(a0:Int)(a1:Int)(a2:Int)(a3:Int):TP aA:=.bs 7 false bM ([(aC.mk 0 7 (⟨#[]⟩)),(aC.mk 0 a1 (⟨#[]⟩)),(aC.mk 0 a2 (⟨#[]⟩))]:List aC) <| .ret 3 (aA.mk a0 ([(aC.mk 0 7 (⟨#[]⟩)),(aC.mk 0 a1 (⟨#[]⟩)),(aC.mk 0 a2 (⟨#[]⟩))]:List aC) a3)
def G337(a0:Int)(a1:Int)(a2:Int)(a3:Int):Option aA:=(T337 a0 a1 a2 a3).den
theorem G337_ok(a0:Int)(a1:Int)(a2:Int)(a3:Int):Con Tryz.prog 58 [tI a0,tI a1,tI a2,tI a3] (G337 a0 a1 a2 a3) (fun (y:aA)=>.t (bU y)):=con Tryz.func58 aR (T337 a0 a1 a2 a3)
def T313s0(a0:List aF)(a1:aE):TP ((List aF)×aE×Int×LM):=.mk (K:=ByteArray) 4 mR <| .cv 3 [.rn 9 40000,.rn 7 41001] <| .ret 0 (a0,a1,(-1),([]:LM))
def G313s0(a0:List aF)(a1:aE):Option ((List aF)×aE×Int×LM):=(T313s0 a0 a1).den
theorem G313s0_ok(a0:List aF)(a1:aE):cW Tryz.prog 16 [.t (eL bA a0),.t (fE a1)] [] [] (G313s0 a0 a1) (fun (y:(List aF)×aE×Int×LM)=>.ptr 40000 0) (fun (y:(List aF)×aE×Int×LM)=>[(40000,bP y.1 y.2.1 41001 y.2.2.1),(41001,.mp none (eM mR (y.2.2.2:LM)) none)]):=fK Tryz.func16 aR (T313s0 a0 a1)
def T103(a0:aE):TP (Int×Int):=.ret 8 (i64.wrap (a0.Size-1),0)
def G103(a0:aE):Option (Int×Int):=(T103 a0).den
theorem G103_ok(a0:aE):Con Tryz.prog 152 [.t (fE a0)] (G103 a0) (fun (y:Int×Int)=>.tup [tI y.1,tI y.2]):=con Tryz.func152 aR (T103 a0)
def T97(a0:Int)(a1:Int)(a2:Int):TP Bool:=.jn 5 0 (fun (j1:Bool)=>⟨[(6,tB j1)],[]⟩) (.ite 0 (decide (a0≥a1)) (.ret 5 (decide (a0≤a2))) (.ret 5 false)) fun j1=>.ret 0 j1
def G97(a0:Int)(a1:Int)(a2:Int):Option Bool:=(T97 a0 a1 a2).den
theorem G97_ok(a0:Int)(a1:Int)(a2:Int):Con Tryz.prog 146 [tI a0,tI a1,tI a2] (G97 a0 a1 a2) tB:=con Tryz.func146 aR (T97 a0 a1 a2)
def T96(a0:aE):TP Bool:=.ca 4 (G97_ok a0.Size 1 10000) fun r1=>.ret 1 r1
def G96(a0:aE):Option Bool:=(T96 a0).den
theorem G96_ok(a0:aE):Con Tryz.prog 145 [.t (fE a0)] (G96 a0) tB:=con Tryz.func145 aR (T96 a0)
def T102(a0:aE):TP Bool:=.ca 3 (G96_ok a0) fun r1=>.jn 1 0 (fun (j2:Bool)=>⟨[(2,tB j2)],[]⟩) (.ite 0 r1 (.ca 3 (G97_ok (a0.Seq.length:Int) 1 8) fun r3=>.ret 2 r3) (.ret 6 false)) fun j2=>.ret 0 j2
def G102(a0:aE):Option Bool:=(T102 a0).den
theorem G102_ok(a0:aE):Con Tryz.prog 151 [.t (fE a0)] (G102 a0) tB:=con Tryz.func151 aR (T102 a0)
def V38:Nat→PV
 | 0=>.tup [.agg [tI 0,.lit (.nilFunc),.lit (.nilFunc),tB false],tB false]
 | 1=>.tup [.agg [tI 0,.fn (.func 140) 0 [],.fn (.func 141) 0 [],tB false],tB true]
 | 2=>.tup [.agg [tI 1,.fn (.func 140) 0 [],.fn (.func 141) 0 [],tB false],tB true]
 | 3=>.tup [.agg [tI 2,.fn (.func 140) 0 [],.fn (.func 141) 0 [],tB false],tB true]
 | 4=>.tup [.agg [tI 1,.fn (.func 142) 0 [],.fn (.func 143) 0 [],tB true],tB true]
 | 5=>.tup [.agg [tI 1,.fn (.func 144) 0 [],.fn (.func 143) 0 [],tB true],tB true]
 | 6=>.tup [.agg [tI 2,.fn (.func 147) 0 [],.fn (.func 148) 0 [],tB true],tB true]
 | 7=>.tup [.agg [tI 2,.fn (.func 149) 0 [],.fn (.func 150) 0 [],tB true],tB true]
 | 8=>.tup [.agg [tI 1,.fn (.func 151) 0 [],.fn (.func 152) 0 [],tB true],tB true]
 | _=>.any
def T38(a0:Int):TP Nat:=.ca 15 (G97_ok a0 0 8) fun r1=>.ite 1 (!r1) (.ret 3 0) (.sp 1 19 a0 0 (.gd 1 (0≤(0:Int)∧(0:Int)<(9:Int)) (by decide) <| .ret 3 1) (.sp 0 19 a0 1 (.gd 1 (0≤(1:Int)∧(1:Int)<(9:Int)) (by decide) <| .ret 3 2) (.sp 0 19 a0 2 (.gd 1 (0≤(2:Int)∧(2:Int)<(9:Int)) (by decide) <| .ret 3 2) (.sp 0 19 a0 3 (.gd 1 (0≤(3:Int)∧(3:Int)<(9:Int)) (by decide) <| .ret 3 3) (.sp 0 19 a0 4 (.gd 1 (0≤(4:Int)∧(4:Int)<(9:Int)) (by decide) <| .ret 3 4) (.sp 0 19 a0 5 (.gd 1 (0≤(5:Int)∧(5:Int)<(9:Int)) (by decide) <| .ret 3 5) (.sp 0 19 a0 6 (.gd 1 (0≤(6:Int)∧(6:Int)<(9:Int)) (by decide) <| .ret 3 6) (.sp 0 19 a0 7 (.gd 1 (0≤(7:Int)∧(7:Int)<(9:Int)) (by decide) <| .ret 3 7) (.sp 0 19 a0 8 (.gd 1 (0≤(8:Int)∧(8:Int)<(9:Int)) (by decide) <| .ret 3 8) (.no))))))))))
def G38(a0:Int):Option Nat:=(T38 a0).den
theorem G38_ok(a0:Int):Con Tryz.prog 64 [tI a0] (G38 a0) (fun (y:Nat)=>V38 y):=con Tryz.func64 aR (T38 a0)
def T37(a0:aE):TP Bool:=.cas 4 (G38_ok a0.Op) 9 fun r1=>match r1 with | 0=>.ret 14 false | 1=>.no | 2=>.no | 3=>.no | 4=>.no | 5=>.no | 6=>.no | 7=>.no | 8=>.ca 11 (G102_ok a0) fun r2=>.ret 2 r2 | _=>.no
def G37(a0:aE):Option Bool:=(T37 a0).den
theorem G37_ok(a0:aE):Con Tryz.prog 63 [.t (fE a0)] (G37 a0) tB:=con Tryz.func63 aR (T37 a0)
def T10(a0:aE):TP (Int×Int):=.ca 4 (G37_ok a0) fun r1=>.ite 1 (!r1) (.ret 2 (0,0)) (.cas 2 (G38_ok a0.Op) 9 fun r2=>match r2 with | 0=>.no | 1=>.no | 2=>.no | 3=>.no | 4=>.no | 5=>.no | 6=>.no | 7=>.no | 8=>.ca 9 (G103_ok a0) fun r3=>.ret 4 (r3.1,r3.2) | _=>.no)
def G10(a0:aE):Option (Int×Int):=(T10 a0).den
theorem G10_ok(a0:aE):Con Tryz.prog 17 [.t (fE a0)] (G10 a0) (fun (y:Int×Int)=>.tup [tI y.1,tI y.2]):=con Tryz.func17 aR (T10 a0)
def T130_L0(a0:List Int):Int→TP ((Int)⊕((Unit)⊕Int))
 | v1=>.ite 1 (decide (v1<(a0.length:Int))) (.grd 1 (0≤v1∧v1<(a0.length:Int)) <| .ite 5 ((a0.getD v1.toNat default) != 0) (.ret 2 (.inr (.inr (a0.getD v1.toNat default)))) (.ret 2 (.inl (i64.wrap (v1+1))))) (.ret 0 (.inr (.inl ())))
def T130(a0:List Int):TP Int:=.lp 5 (fun (v1:Int)=>⟨[(3,tI 0),(6,.t (eL bC a0)),(7,tI (a0.length:Int)),(8,tI v1)],[]⟩) (fun (_:Unit)=>⟨[(3,tI 0)],[]⟩) 0 0 (T130_L0 a0) fun _=>.ret 2 0
def G130(a0:List Int):Option Int:=(T130 a0).den
theorem G130_ok(a0:List Int):Con Tryz.prog 156 [.t (eL bC a0)] (G130 a0) tI:=con Tryz.func156 aR (T130 a0)
def T173(a0:Int):TP Bool:=.ret 5 (a0 != a0)
def G173(a0:Int):Option Bool:=(T173 a0).den
theorem G173_ok(a0:Int):Con Tryz.prog 215 [tI a0] (G173 a0) tB:=con Tryz.func215 aR (T173 a0)
def T131(a0:Int)(a1:Int):TP Int:=.ca 2 (G173_ok a0) fun r1=>.ca 2 (G173_ok a1) fun r2=>.ite 2 r1 (.ite 1 r2 (.ret 1 0) (.ret 1 (-1))) (.ite 1 r2 (.ret 1 1) (.ite 3 (decide (a0<a1)) (.ret 1 (-1)) (.ite 3 (decide (a0>a1)) (.ret 1 1) (.ret 1 0))))
def G131(a0:Int)(a1:Int):Option Int:=(T131 a0 a1).den
theorem G131_ok(a0:Int)(a1:Int):Con Tryz.prog 157 [tI a0,tI a1] (G131 a0 a1) tI:=con Tryz.func157 aR (T131 a0 a1)
def T175(a0:aC)(a1:aC):TP Int:=.dc 4 [tI a0.Kind,tI a1.Kind] (G131_ok a0.Kind a1.Kind) fun r1=>.dc 9 [tI a0.N,tI a1.N] (G131_ok a0.N a1.N) fun r2=>.dc 14 [.t (.str (a0.S)),.t (.str (a1.S))] (G194_ok a0.S a1.S) fun r3=>.dc 16 [.t (.sl 3 (fN [.int .i64 r1,.int .i64 r2,.int .i64 r3] 1))] (G130_ok ([r1,r2,r3]:List Int)) fun r4=>.dr 3 0 [(2,false,[]),(3,false,[])] [0,1,2,3] <| .ret 0 r4
def G175(a0:aC)(a1:aC):Option Int:=(T175 a0 a1).den
theorem G175_ok(a0:aC)(a1:aC):Con Tryz.prog 177 [.t (cE a0),.t (cE a1)] (G175 a0 a1) tI:=con Tryz.func177 aR (T175 a0 a1)
def T174s0_L0(a0:List aC)(a1:List aC):Int→TP ((Int)⊕((Unit)⊕Int))
 | v1=>.ite 1 (decide (v1<(a0.length:Int))) (.grd 2 (0≤v1∧v1<(a0.length:Int)) <| .ite 8 (decide (v1≥(a1.length:Int))) (.ret 1 (.inr (.inr 1))) (.grd 3 (0≤v1∧v1<(a1.length:Int)) <| .ca 6 (G175_ok (a0.getD v1.toNat default) (a1.getD v1.toNat default)) fun r2=>.ite 3 (r2 != 0) (.ret 2 (.inr (.inr r2))) (.ret 2 (.inl (i64.wrap (v1+1)))))) (.ret 0 (.inr (.inl ())))
def T174s0(a0:List aC)(a1:List aC):TP Int:=.lp 4 (fun (v1:Int)=>⟨[(0,tV a0),(1,tV a1),(2,.fn (.func 177) 0 []),(11,tV a0),(12,tI (a0.length:Int)),(13,tI v1)],[]⟩) (fun (_:Unit)=>⟨[(0,tV a0),(1,tV a1)],[]⟩) 0 0 (T174s0_L0 a0 a1) fun _=>.ite 5 (decide ((a0.length:Int)<(a1.length:Int))) (.ret 1 (-1)) (.ret 1 0)
def G174s0(a0:List aC)(a1:List aC):Option Int:=(T174s0 a0 a1).den
theorem G174s0_ok(a0:List aC)(a1:List aC):cW Tryz.prog 216 [tV a0,tV a1,.fn (.func 177) 0 []] [] [] (G174s0 a0 a1) tI (fun (y:Int)=>[]):=fK Tryz.func216 aR (T174s0 a0 a1)
def T132(a0:List aC)(a1:List aC):TP Int:=.ch 3 [] (G174s0_ok a0 a1) fun r1=>.ret 1 r1
def G132(a0:List aC)(a1:List aC):Option Int:=(T132 a0 a1).den
theorem G132_ok(a0:List aC)(a1:List aC):Con Tryz.prog 158 [tV a0,tV a1] (G132 a0 a1) tI:=con Tryz.func158 aR (T132 a0 a1)
def T61(a0:aA)(a1:aA):TP Int:=.dc 4 [tI a0.Time,tI a1.Time] (G131_ok a0.Time a1.Time) fun r1=>.dc 9 [tV a0.Row,tV a1.Row] (G132_ok a0.Row a1.Row) fun r2=>.dc 11 [.t (.sl 2 (fN [.int .i64 r1,.int .i64 r2] 1))] (G130_ok ([r1,r2]:List Int)) fun r3=>.dr 3 0 [(2,false,[]),(3,false,[])] [0,1,2,3] <| .ret 0 r3
def G61(a0:aA)(a1:aA):Option Int:=(T61 a0 a1).den
theorem G61_ok(a0:aA)(a1:aA):Con Tryz.prog 69 [.t (bU a0),.t (bU a1)] (G61 a0 a1) tI:=con Tryz.func69 aR (T61 a0 a1)
def gI(a1:Int)(a2:Int)(v2:Int):(LD×Int)→TP ((LD×Int)⊕((LD)⊕((LD×Int)⊕((LD)⊕LD))))
 | (v4,v5)=>.jn 0 0 (fun (j7:Bool)=>⟨[(0,.own 30000),(1,tI a1),(2,tI a2),(3,.fn (.func 69) 0 []),(8,tI v2),(9,tI v5),(34,tB j7)],[(30000,aD v4)]⟩) (.dl 3 (decide (v5>a1)) (.dg 7 (0≤v5∧v5<(v4.length:Int)) <| .dg 8 ((v5).toNat<v4.length) <| .dg 12 (0≤(i64.wrap (v5-1))∧(i64.wrap (v5-1))<(v4.length:Int)) <| .dg 13 ((i64.wrap (v5-1)).toNat<v4.length) <| .dc 14 [.t (bU (v4.getD v5.toNat default)),.t (bU (v4.getD (i64.wrap (v5-1)).toNat default))] (G61_ok (v4.getD v5.toNat default) (v4.getD (i64.wrap (v5-1)).toNat default)) fun r8=>.dr 0 0 [(30000,false,[])] [0,1,2,3,8,9] <| .ret 0 (decide (r8<0))) (.dr 0 0 [(30000,false,[])] [0,1,2,3,8,9] <| .ret 0 false)) fun j7=>.ite 0 j7 (.dg 8 (0≤(i64.wrap (v5-1))∧(i64.wrap (v5-1))<(v4.length:Int)) <| .dg 9 ((i64.wrap (v5-1)).toNat<v4.length) <| .dg 12 (0≤v5∧v5<(v4.length:Int)) <| .dg 13 ((v5).toNat<v4.length) <| .dg 14 (0≤v5∧v5<(v4.length:Int)) <| .dg 15 ((v5).toNat<v4.length) <| .dg 16 (0≤(i64.wrap (v5-1))∧(i64.wrap (v5-1))<(v4.length:Int)) <| .dg 17 ((i64.wrap (v5-1)).toNat<v4.length) <| .dr 0 0 [(30000,false,[15,17])] [0,1,2,3,8,9,34] <| .sto 0 30000 aH v4 [((v5).toNat,v4.getD (i64.wrap (v5-1)).toNat default),((i64.wrap (v5-1)).toNat,v4.getD v5.toNat default)] <| .ret 3 (.inl ((v4.set v5.toNat (v4.getD (i64.wrap (v5-1)).toNat default)).set (i64.wrap (v5-1)).toNat (v4.getD v5.toNat default),i64.wrap (v5-1)))) (.ret 0 (.inr (.inl v4)))
def jH(a1:Int)(a2:Int):(LD×Int)→TP ((LD×Int)⊕((LD)⊕LD))
 | (v1,v2)=>.ite 3 (decide (v2<a2)) (.lp 2 (fun ((v4,v5):LD×Int)=>⟨[(0,.own 30000),(1,tI a1),(2,tI a2),(3,.fn (.func 69) 0 []),(8,tI v2),(9,tI v5)],[(30000,aD v4)]⟩) (fun (b6:LD)=>⟨[(0,.own 30000),(1,tI a1),(2,tI a2),(3,.fn (.func 69) 0 []),(8,tI v2)],[(30000,aD b6)]⟩) 2 (v1,v2) (gI a1 a2 v2) fun b6=>.ret 3 (.inl (b6,i64.wrap (v2+1)))) (.ret 0 (.inr (.inl v1)))
def T176s1(a1:Int)(a2:Int)(qul:LD):TP LD:=.lp 3 (fun ((v1,v2):LD×Int)=>⟨[(0,.own 30000),(1,tI a1),(2,tI a2),(3,.fn (.func 69) 0 []),(8,tI v2)],[(30000,aD v1)]⟩) (fun (b3:LD)=>⟨[],[(30000,aD b3)]⟩) 0 (qul,i64.wrap (a1+1)) (jH a1 a2) fun b3=>.ret 0 b3
def G176s1(a1:Int)(a2:Int)(qul:LD):Option LD:=(T176s1 a1 a2 qul).den
theorem G176s1_ok(a1:Int)(a2:Int)(qul:LD):cW Tryz.prog 271 [.own 30000,tI a1,tI a2,.fn (.func 69) 0 []] [(30000,aD qul)] [30000] (G176s1 a1 a2 qul) (fun (y:LD)=>.tup []) (fun (y:LD)=>[(30000,aD y)]):=fK Tryz.func271 aR (T176s1 a1 a2 qul)
def T211s0_L0(a1:Int)(a2:Int)(a3:Int):(LD×Int)→TP ((LD×Int)⊕((LD)⊕LD))
 | (v1,v2)=>.ite 3 (decide (v2<a3)) (.dg 12 (0≤(i64.wrap (a2+v2))∧(i64.wrap (a2+v2))<(v1.length:Int)) <| .dg 13 ((i64.wrap (a2+v2)).toNat<v1.length) <| .dg 18 (0≤(i64.wrap (a1+v2))∧(i64.wrap (a1+v2))<(v1.length:Int)) <| .dg 19 ((i64.wrap (a1+v2)).toNat<v1.length) <| .dg 20 (0≤(i64.wrap (a1+v2))∧(i64.wrap (a1+v2))<(v1.length:Int)) <| .dg 21 ((i64.wrap (a1+v2)).toNat<v1.length) <| .dg 22 (0≤(i64.wrap (a2+v2))∧(i64.wrap (a2+v2))<(v1.length:Int)) <| .dg 23 ((i64.wrap (a2+v2)).toNat<v1.length) <| .dr 0 0 [(30000,false,[21,23])] [0,1,2,3,10,11,12,13] <| .sto 0 30000 aH v1 [((i64.wrap (a1+v2)).toNat,v1.getD (i64.wrap (a2+v2)).toNat default),((i64.wrap (a2+v2)).toNat,v1.getD (i64.wrap (a1+v2)).toNat default)] <| .ret 3 (.inl ((v1.set (i64.wrap (a1+v2)).toNat (v1.getD (i64.wrap (a2+v2)).toNat default)).set (i64.wrap (a2+v2)).toNat (v1.getD (i64.wrap (a1+v2)).toNat default),i64.wrap (v2+1)))) (.ret 0 (.inr (.inl v1)))
def T211s0(a1:Int)(a2:Int)(a3:Int)(qul:LD):TP LD:=.lp 1 (fun ((v1,v2):LD×Int)=>⟨[(0,.own 30000),(1,tI a1),(2,tI a2),(3,tI a3),(10,tI v2)],[(30000,aD v1)]⟩) (fun (b3:LD)=>⟨[],[(30000,aD b3)]⟩) 0 (qul,0) (T211s0_L0 a1 a2 a3) fun b3=>.ret 0 b3
def G211s0(a1:Int)(a2:Int)(a3:Int)(qul:LD):Option LD:=(T211s0 a1 a2 a3 qul).den
theorem G211s0_ok(a1:Int)(a2:Int)(a3:Int)(qul:LD):cW Tryz.prog 320 [.own 30000,tI a1,tI a2,tI a3,.fn (.func 69) 0 []] [(30000,aD qul)] [30000] (G211s0 a1 a2 a3 qul) (fun (y:LD)=>.tup []) (fun (y:LD)=>[(30000,aD y)]):=fK Tryz.func320 aR (T211s0 a1 a2 a3 qul)
def T195s0_L0(a2:Int):(LD×Int×Int)→TP ((LD×Int×Int)⊕((LD×Int)⊕LD))
 | (v1,v2,v3)=>.ite 3 (v2 != v3) (.jn 3 0 (fun ((j6,j7,j8):LD×Int×Int)=>⟨[(0,.own 30000),(2,tI a2),(4,.fn (.func 69) 0 []),(10,tI j7),(11,tI j8)],[(30000,aD j6)]⟩) (.ite 0 (decide (v2>v3)) (.ch 7 [] (G211s0_ok (i64.wrap (a2-v2)) a2 v3 v1) fun r9=>.ret 4 (r9,i64.wrap (v2-v3),v3)) (.ch 11 [] (G211s0_ok (i64.wrap (a2-v2)) (i64.wrap ((i64.wrap (a2+v3))-v2)) v2 v1) fun r10=>.ret 4 (r10,v2,i64.wrap (v3-v2)))) fun (j6,j7,j8)=>.ret 0 (.inl (j6,j7,j8))) (.ret 0 (.inr (.inl (v1,v2))))
def T195s0(a1:Int)(a2:Int)(a3:Int)(qul:LD):TP LD:=.lp 8 (fun ((v1,v2,v3):LD×Int×Int)=>⟨[(0,.own 30000),(2,tI a2),(4,.fn (.func 69) 0 []),(10,tI v2),(11,tI v3)],[(30000,aD v1)]⟩) (fun ((b4,b5):LD×Int)=>⟨[(0,.own 30000),(2,tI a2),(4,.fn (.func 69) 0 []),(10,tI b5)],[(30000,aD b4)]⟩) 0 (qul,i64.wrap (a2-a1),i64.wrap (a3-a2)) (T195s0_L0 a2) fun (b4,b5)=>.ch 7 [] (G211s0_ok (i64.wrap (a2-b5)) a2 b5 b4) fun r11=>.ret 0 r11
def G195s0(a1:Int)(a2:Int)(a3:Int)(qul:LD):Option LD:=(T195s0 a1 a2 a3 qul).den
theorem G195s0_ok(a1:Int)(a2:Int)(a3:Int)(qul:LD):cW Tryz.prog 294 [.own 30000,tI a1,tI a2,tI a3,.fn (.func 69) 0 []] [(30000,aD qul)] [30000] (G195s0 a1 a2 a3 qul) (fun (y:LD)=>.tup []) (fun (y:LD)=>[(30000,aD y)]):=fK Tryz.func294 aR (T195s0 a1 a2 a3 qul)
abbrev R177s0:={f:(Int×Int×Int×LD)→Option LD // ∀ a:Int×Int×Int×LD,cW Tryz.prog 272 [.own 30000,tI a.1,tI a.2.1,tI a.2.2.1,.fn (.func 69) 0 []] [(30000,.arr 50 3 (a.2.2.2.length) (eF aH a.2.2.2))] [30000] (f a) (fun (y:LD)=>.tup []) (fun (y:LD)=>[(30000,aD y)])}
def jD(a1:Int)(qul:LD):(Int×Int)→TP ((Int×Int)⊕((Int)⊕LD))
 | (v1,v2)=>.ite 3 (decide (v1<v2)) (.gd 5 (0≤(1:Int)) (by decide) <| .dg 3 (0≤(i64.wrap (bF .u64 (u64.wrap (i64.wrap (v1+v2))) 1))∧(i64.wrap (bF .u64 (u64.wrap (i64.wrap (v1+v2))) 1))<(qul.length:Int)) <| .dg 4 ((i64.wrap (bF .u64 (u64.wrap (i64.wrap (v1+v2))) 1)).toNat<qul.length) <| .dg 7 (0≤a1∧a1<(qul.length:Int)) <| .dg 8 ((a1).toNat<qul.length) <| .dc 9 [.t (bU (qul.getD (i64.wrap (bF .u64 (u64.wrap (i64.wrap (v1+v2))) 1)).toNat default)),.t (bU (qul.getD a1.toNat default))] (G61_ok (qul.getD (i64.wrap (bF .u64 (u64.wrap (i64.wrap (v1+v2))) 1)).toNat default) (qul.getD a1.toNat default)) fun r4=>.dr 2 0 [(30000,false,[])] [0,1,4,10,11,12,31,32,33,34,35,36,37,38,39] <| .jn 0 0 (fun ((j5,j6):Int×Int)=>⟨[(0,.own 30000),(1,tI a1),(4,.fn (.func 69) 0 []),(10,tI j5),(11,tI j6)],[(30000,aD qul)]⟩) (.ite 0 (decide (r4<0)) (.ret 3 (i64.wrap ((i64.wrap (bF .u64 (u64.wrap (i64.wrap (v1+v2))) 1))+1),v2)) (.ret 2 (v1,i64.wrap (bF .u64 (u64.wrap (i64.wrap (v1+v2))) 1)))) fun (j5,j6)=>.ret 0 (.inl (j5,j6))) (.ret 0 (.inr (.inl v1)))
def iC(b3:Int):(LD×Int)→TP ((LD×Int)⊕((LD)⊕LD))
 | (v7,v8)=>.ite 4 (decide (v8<(i64.wrap (b3-1)))) (.dg 8 (0≤(i64.wrap (v8+1))∧(i64.wrap (v8+1))<(v7.length:Int)) <| .dg 9 ((i64.wrap (v8+1)).toNat<v7.length) <| .dg 12 (0≤v8∧v8<(v7.length:Int)) <| .dg 13 ((v8).toNat<v7.length) <| .dg 14 (0≤v8∧v8<(v7.length:Int)) <| .dg 15 ((v8).toNat<v7.length) <| .dg 16 (0≤(i64.wrap (v8+1))∧(i64.wrap (v8+1))<(v7.length:Int)) <| .dg 17 ((i64.wrap (v8+1)).toNat<v7.length) <| .dr 0 0 [(30000,false,[15,17])] [0,10,13,55,56,57,58] <| .sto 0 30000 aH v7 [((v8).toNat,v7.getD (i64.wrap (v8+1)).toNat default),((i64.wrap (v8+1)).toNat,v7.getD v8.toNat default)] <| .ret 3 (.inl ((v7.set v8.toNat (v7.getD (i64.wrap (v8+1)).toNat default)).set (i64.wrap (v8+1)).toNat (v7.getD v8.toNat default),i64.wrap (v8+1)))) (.ret 0 (.inr (.inl v7)))
def jF(a2:Int)(qul:LD):(Int×Int)→TP ((Int×Int)⊕((Int)⊕LD))
 | (v10,v11)=>.ite 3 (decide (v10<v11)) (.gd 5 (0≤(1:Int)) (by decide) <| .dg 3 (0≤a2∧a2<(qul.length:Int)) <| .dg 4 ((a2).toNat<qul.length) <| .dg 7 (0≤(i64.wrap (bF .u64 (u64.wrap (i64.wrap (v10+v11))) 1))∧(i64.wrap (bF .u64 (u64.wrap (i64.wrap (v10+v11))) 1))<(qul.length:Int)) <| .dg 8 ((i64.wrap (bF .u64 (u64.wrap (i64.wrap (v10+v11))) 1)).toNat<qul.length) <| .dc 9 [.t (bU (qul.getD a2.toNat default)),.t (bU (qul.getD (i64.wrap (bF .u64 (u64.wrap (i64.wrap (v10+v11))) 1)).toNat default))] (G61_ok (qul.getD a2.toNat default) (qul.getD (i64.wrap (bF .u64 (u64.wrap (i64.wrap (v10+v11))) 1)).toNat default)) fun r13=>.dr 2 0 [(30000,false,[])] [0,2,4,14,15,16,83,84,85,86,87,88,89,90,91] <| .jn 0 0 (fun ((j14,j15):Int×Int)=>⟨[(0,.own 30000),(2,tI a2),(4,.fn (.func 69) 0 []),(14,tI j14),(15,tI j15)],[(30000,aD qul)]⟩) (.ite 0 (!(decide (r13<0))) (.ret 3 (i64.wrap ((i64.wrap (bF .u64 (u64.wrap (i64.wrap (v10+v11))) 1))+1),v11)) (.ret 2 (v10,i64.wrap (bF .u64 (u64.wrap (i64.wrap (v10+v11))) 1)))) fun (j14,j15)=>.ret 0 (.inl (j14,j15))) (.ret 0 (.inr (.inl v10)))
def iH(b12:Int):(LD×Int)→TP ((LD×Int)⊕((LD)⊕LD))
 | (v16,v17)=>.ite 3 (decide (v17>b12)) (.dg 8 (0≤(i64.wrap (v17-1))∧(i64.wrap (v17-1))<(v16.length:Int)) <| .dg 9 ((i64.wrap (v17-1)).toNat<v16.length) <| .dg 12 (0≤v17∧v17<(v16.length:Int)) <| .dg 13 ((v17).toNat<v16.length) <| .dg 14 (0≤v17∧v17<(v16.length:Int)) <| .dg 15 ((v17).toNat<v16.length) <| .dg 16 (0≤(i64.wrap (v17-1))∧(i64.wrap (v17-1))<(v16.length:Int)) <| .dg 17 ((i64.wrap (v17-1)).toNat<v16.length) <| .dr 0 0 [(30000,false,[15,17])] [0,14,17,108,109,110] <| .sto 0 30000 aH v16 [((v17).toNat,v16.getD (i64.wrap (v17-1)).toNat default),((i64.wrap (v17-1)).toNat,v16.getD v17.toNat default)] <| .ret 3 (.inl ((v16.set v17.toNat (v16.getD (i64.wrap (v17-1)).toNat default)).set (i64.wrap (v17-1)).toNat (v16.getD v17.toNat default),i64.wrap (v17-1)))) (.ret 0 (.inr (.inl v16)))
def iF(a1:Int)(a2:Int)(a3:Int)(qul:LD):(Int×Int)→TP ((Int×Int)⊕((Int)⊕LD))
 | (v21,v22)=>.ite 3 (decide (v21<v22)) (.gd 5 (0≤(1:Int)) (by decide) <| .dg 5 (0≤(i64.wrap ((i64.wrap ((i64.wrap ((i64.wrap (bF .u64 (u64.wrap (i64.wrap (a1+a3))) 1))+a2))-1))-(i64.wrap (bF .u64 (u64.wrap (i64.wrap (v21+v22))) 1))))∧(i64.wrap ((i64.wrap ((i64.wrap ((i64.wrap (bF .u64 (u64.wrap (i64.wrap (a1+a3))) 1))+a2))-1))-(i64.wrap (bF .u64 (u64.wrap (i64.wrap (v21+v22))) 1))))<(qul.length:Int)) <| .dg 6 ((i64.wrap ((i64.wrap ((i64.wrap ((i64.wrap (bF .u64 (u64.wrap (i64.wrap (a1+a3))) 1))+a2))-1))-(i64.wrap (bF .u64 (u64.wrap (i64.wrap (v21+v22))) 1)))).toNat<qul.length) <| .dg 9 (0≤(i64.wrap (bF .u64 (u64.wrap (i64.wrap (v21+v22))) 1))∧(i64.wrap (bF .u64 (u64.wrap (i64.wrap (v21+v22))) 1))<(qul.length:Int)) <| .dg 10 ((i64.wrap (bF .u64 (u64.wrap (i64.wrap (v21+v22))) 1)).toNat<qul.length) <| .dc 11 [.t (bU (qul.getD (i64.wrap ((i64.wrap ((i64.wrap ((i64.wrap (bF .u64 (u64.wrap (i64.wrap (a1+a3))) 1))+a2))-1))-(i64.wrap (bF .u64 (u64.wrap (i64.wrap (v21+v22))) 1)))).toNat default)),.t (bU (qul.getD (i64.wrap (bF .u64 (u64.wrap (i64.wrap (v21+v22))) 1)).toNat default))] (G61_ok (qul.getD (i64.wrap ((i64.wrap ((i64.wrap ((i64.wrap (bF .u64 (u64.wrap (i64.wrap (a1+a3))) 1))+a2))-1))-(i64.wrap (bF .u64 (u64.wrap (i64.wrap (v21+v22))) 1)))).toNat default) (qul.getD (i64.wrap (bF .u64 (u64.wrap (i64.wrap (v21+v22))) 1)).toNat default)) fun r24=>.dr 2 0 [(30000,false,[])] [0,1,2,3,4,18,19,20,21,22,23,149,150,151,152,153,154,155,156,157] <| .jn 0 0 (fun ((j25,j26):Int×Int)=>⟨[(0,.own 30000),(1,tI a1),(2,tI a2),(3,tI a3),(4,.fn (.func 69) 0 []),(18,tI (i64.wrap (bF .u64 (u64.wrap (i64.wrap (a1+a3))) 1))),(19,tI (i64.wrap ((i64.wrap (bF .u64 (u64.wrap (i64.wrap (a1+a3))) 1))+a2))),(20,tI j25),(21,tI j26),(22,tI (i64.wrap ((i64.wrap ((i64.wrap (bF .u64 (u64.wrap (i64.wrap (a1+a3))) 1))+a2))-1)))],[(30000,aD qul)]⟩) (.ite 0 (!(decide (r24<0))) (.ret 3 (i64.wrap ((i64.wrap (bF .u64 (u64.wrap (i64.wrap (v21+v22))) 1))+1),v22)) (.ret 2 (v21,i64.wrap (bF .u64 (u64.wrap (i64.wrap (v21+v22))) 1)))) fun (j25,j26)=>.ret 0 (.inl (j25,j26))) (.ret 0 (.inr (.inl v21)))
def T177s0(rec:R177s0)(a1:Int)(a2:Int)(a3:Int)(qul:LD):TP LD:=.ite 4 ((i64.wrap (a2-a1))==1) (.lp 4 (fun ((v1,v2):Int×Int)=>⟨[(0,.own 30000),(1,tI a1),(4,.fn (.func 69) 0 []),(10,tI v1),(11,tI v2)],[(30000,aD qul)]⟩) (fun (b3:Int)=>⟨[(0,.own 30000),(1,tI a1),(10,tI b3)],[(30000,aD qul)]⟩) 0 (a2,a3) (jD a1 qul) fun b3=>.lp 2 (fun ((v7,v8):LD×Int)=>⟨[(0,.own 30000),(10,tI b3),(13,tI v8)],[(30000,aD v7)]⟩) (fun (b9:LD)=>⟨[],[(30000,aD b9)]⟩) 2 (qul,a1) (iC b3) fun b9=>.ret 0 b9) (.ite 4 ((i64.wrap (a3-a2))==1) (.lp 4 (fun ((v10,v11):Int×Int)=>⟨[(0,.own 30000),(2,tI a2),(4,.fn (.func 69) 0 []),(14,tI v10),(15,tI v11)],[(30000,aD qul)]⟩) (fun (b12:Int)=>⟨[(0,.own 30000),(2,tI a2),(14,tI b12)],[(30000,aD qul)]⟩) 4 (a1,a2) (jF a2 qul) fun b12=>.lp 2 (fun ((v16,v17):LD×Int)=>⟨[(0,.own 30000),(14,tI b12),(17,tI v17)],[(30000,aD v16)]⟩) (fun (b18:LD)=>⟨[],[(30000,aD b18)]⟩) 6 (qul,a2) (iH b12) fun b18=>.ret 0 b18) (.gd 5 (0≤(1:Int)) (by decide) <| .jn 11 0 (fun ((j19,j20):Int×Int)=>⟨[(0,.own 30000),(1,tI a1),(2,tI a2),(3,tI a3),(4,.fn (.func 69) 0 []),(18,tI (i64.wrap (bF .u64 (u64.wrap (i64.wrap (a1+a3))) 1))),(19,tI (i64.wrap ((i64.wrap (bF .u64 (u64.wrap (i64.wrap (a1+a3))) 1))+a2))),(20,tI j19),(21,tI j20)],[(30000,aD qul)]⟩) (.ite 0 (decide (a2>(i64.wrap (bF .u64 (u64.wrap (i64.wrap (a1+a3))) 1)))) (.ret 6 (i64.wrap ((i64.wrap ((i64.wrap (bF .u64 (u64.wrap (i64.wrap (a1+a3))) 1))+a2))-a3),i64.wrap (bF .u64 (u64.wrap (i64.wrap (a1+a3))) 1))) (.ret 4 (a1,a2))) fun (j19,j20)=>.lp 3 (fun ((v21,v22):Int×Int)=>⟨[(0,.own 30000),(1,tI a1),(2,tI a2),(3,tI a3),(4,.fn (.func 69) 0 []),(18,tI (i64.wrap (bF .u64 (u64.wrap (i64.wrap (a1+a3))) 1))),(19,tI (i64.wrap ((i64.wrap (bF .u64 (u64.wrap (i64.wrap (a1+a3))) 1))+a2))),(20,tI v21),(21,tI v22),(22,tI (i64.wrap ((i64.wrap ((i64.wrap (bF .u64 (u64.wrap (i64.wrap (a1+a3))) 1))+a2))-1)))],[(30000,aD qul)]⟩) (fun (b23:Int)=>⟨[(0,.own 30000),(1,tI a1),(2,tI a2),(3,tI a3),(4,.fn (.func 69) 0 []),(18,tI (i64.wrap (bF .u64 (u64.wrap (i64.wrap (a1+a3))) 1))),(19,tI (i64.wrap ((i64.wrap (bF .u64 (u64.wrap (i64.wrap (a1+a3))) 1))+a2))),(20,tI b23)],[(30000,aD qul)]⟩) 8 (j19,j20) (iF a1 a2 a3 qul) fun b23=>.jn 8 0 (fun (j27:Bool)=>⟨[(0,.own 30000),(1,tI a1),(2,tI a2),(3,tI a3),(4,.fn (.func 69) 0 []),(18,tI (i64.wrap (bF .u64 (u64.wrap (i64.wrap (a1+a3))) 1))),(20,tI b23),(24,tI (i64.wrap ((i64.wrap ((i64.wrap (bF .u64 (u64.wrap (i64.wrap (a1+a3))) 1))+a2))-b23))),(185,tB j27)],[(30000,aD qul)]⟩) (.ite 0 (decide (b23<a2)) (.ret 4 (decide (a2<(i64.wrap ((i64.wrap ((i64.wrap (bF .u64 (u64.wrap (i64.wrap (a1+a3))) 1))+a2))-b23))))) (.ret 4 false)) fun j27=>.jn 0 0 (fun (j28:LD)=>⟨[(0,.own 30000),(1,tI a1),(3,tI a3),(4,.fn (.func 69) 0 []),(18,tI (i64.wrap (bF .u64 (u64.wrap (i64.wrap (a1+a3))) 1))),(20,tI b23),(24,tI (i64.wrap ((i64.wrap ((i64.wrap (bF .u64 (u64.wrap (i64.wrap (a1+a3))) 1))+a2))-b23)))],[(30000,aD j28)]⟩) (.ite 0 j27 (.ch 5 [] (G195s0_ok b23 a2 (i64.wrap ((i64.wrap ((i64.wrap (bF .u64 (u64.wrap (i64.wrap (a1+a3))) 1))+a2))-b23)) qul) fun r29=>.ret 0 r29) (.ret 0 qul)) fun j28=>.jn 4 0 (fun (j30:Bool)=>⟨[(0,.own 30000),(1,tI a1),(3,tI a3),(4,.fn (.func 69) 0 []),(18,tI (i64.wrap (bF .u64 (u64.wrap (i64.wrap (a1+a3))) 1))),(20,tI b23),(24,tI (i64.wrap ((i64.wrap ((i64.wrap (bF .u64 (u64.wrap (i64.wrap (a1+a3))) 1))+a2))-b23))),(199,tB j30)],[(30000,aD j28)]⟩) (.ite 0 (decide (a1<b23)) (.ret 4 (decide (b23<(i64.wrap (bF .u64 (u64.wrap (i64.wrap (a1+a3))) 1))))) (.ret 4 false)) fun j30=>.jn 0 0 (fun (j31:LD)=>⟨[(0,.own 30000),(3,tI a3),(4,.fn (.func 69) 0 []),(18,tI (i64.wrap (bF .u64 (u64.wrap (i64.wrap (a1+a3))) 1))),(24,tI (i64.wrap ((i64.wrap ((i64.wrap (bF .u64 (u64.wrap (i64.wrap (a1+a3))) 1))+a2))-b23)))],[(30000,aD j31)]⟩) (.ite 0 j30 (.ch 5 [] (rec.2 (a1,b23,i64.wrap (bF .u64 (u64.wrap (i64.wrap (a1+a3))) 1),j28)) fun r32=>.ret 0 r32) (.ret 0 j28)) fun j31=>.jn 4 0 (fun (j33:Bool)=>⟨[(0,.own 30000),(3,tI a3),(4,.fn (.func 69) 0 []),(18,tI (i64.wrap (bF .u64 (u64.wrap (i64.wrap (a1+a3))) 1))),(24,tI (i64.wrap ((i64.wrap ((i64.wrap (bF .u64 (u64.wrap (i64.wrap (a1+a3))) 1))+a2))-b23))),(213,tB j33)],[(30000,aD j31)]⟩) (.ite 0 (decide ((i64.wrap (bF .u64 (u64.wrap (i64.wrap (a1+a3))) 1))<(i64.wrap ((i64.wrap ((i64.wrap (bF .u64 (u64.wrap (i64.wrap (a1+a3))) 1))+a2))-b23)))) (.ret 4 (decide ((i64.wrap ((i64.wrap ((i64.wrap (bF .u64 (u64.wrap (i64.wrap (a1+a3))) 1))+a2))-b23))<a3))) (.ret 4 false)) fun j33=>.jn 0 0 (fun (j34:LD)=>⟨[],[(30000,aD j34)]⟩) (.ite 0 j33 (.ch 5 [] (rec.2 (i64.wrap (bF .u64 (u64.wrap (i64.wrap (a1+a3))) 1),i64.wrap ((i64.wrap ((i64.wrap (bF .u64 (u64.wrap (i64.wrap (a1+a3))) 1))+a2))-b23),a3,j31)) fun r35=>.ret 0 r35) (.ret 0 j31)) fun j34=>.ret 0 j34))
theorem T177s0_ok(rec:R177s0)(a1:Int)(a2:Int)(a3:Int)(qul:LD):cW Tryz.prog 272 [.own 30000,tI a1,tI a2,tI a3,.fn (.func 69) 0 []] [(30000,aD qul)] [30000] (T177s0 rec a1 a2 a3 qul).den (fun (y:LD)=>.tup []) (fun (y:LD)=>[(30000,aD y)]):=fK Tryz.func272 aR (T177s0 rec a1 a2 a3 qul)
def H177s0(a:Int×Int×Int×LD):Option LD:=fixF (C:=fun (a:Int×Int×Int×LD) (x:Option LD)=>cW Tryz.prog 272 [.own 30000,tI a.1,tI a.2.1,tI a.2.2.1,.fn (.func 69) 0 []] [(30000,.arr 50 3 (a.2.2.2.length) (eF aH a.2.2.2))] [30000] x (fun (y:LD)=>.tup []) (fun (y:LD)=>[(30000,aD y)])) (fun a=>⟨bJ Tryz.func272 (by kernel_rfl),fun _ h=>nomatch h⟩) (fun rec a=>T177s0 rec a.1 a.2.1 a.2.2.1 a.2.2.2) (fun rec a=>T177s0_ok rec a.1 a.2.1 a.2.2.1 a.2.2.2) a
theorem H177s0_ok(a:Int×Int×Int×LD):cW Tryz.prog 272 [.own 30000,tI a.1,tI a.2.1,tI a.2.2.1,.fn (.func 69) 0 []] [(30000,.arr 50 3 (a.2.2.2.length) (eF aH a.2.2.2))] [30000] (H177s0 a) (fun (y:LD)=>.tup []) (fun (y:LD)=>[(30000,aD y)]):=fixF_ok (C:=fun (a:Int×Int×Int×LD) (x:Option LD)=>cW Tryz.prog 272 [.own 30000,tI a.1,tI a.2.1,tI a.2.2.1,.fn (.func 69) 0 []] [(30000,.arr 50 3 (a.2.2.2.length) (eF aH a.2.2.2))] [30000] x (fun (y:LD)=>.tup []) (fun (y:LD)=>[(30000,aD y)])) _ _ _ a
def G177s0(a1:Int)(a2:Int)(a3:Int)(qul:LD):Option LD:=H177s0 (a1,a2,a3,qul)
theorem G177s0_ok(a1:Int)(a2:Int)(a3:Int)(qul:LD):cW Tryz.prog 272 [.own 30000,tI a1,tI a2,tI a3,.fn (.func 69) 0 []] [(30000,aD qul)] [30000] (G177s0 a1 a2 a3 qul) (fun (y:LD)=>.tup []) (fun (y:LD)=>[(30000,aD y)]):=H177s0_ok (a1,a2,a3,qul)
def T133s1_L0(a1:Int):(LD×Int×Int)→TP ((LD×Int×Int)⊕((LD×Int)⊕LD))
 | (v1,v2,v3)=>.ite 3 (decide (v3≤a1)) (.ch 4 [] (G176s1_ok v2 v3 v1) fun r6=>.ret 6 (.inl (r6,v3,i64.wrap (v3+20)))) (.ret 0 (.inr (.inl (v1,v2))))
def T133s1_L2(a1:Int)(v9:Int):(LD×Int×Int)→TP ((LD×Int×Int)⊕((LD×Int)⊕((LD×Int)⊕((LD)⊕LD))))
 | (v11,v12,v13)=>.ite 3 (decide (v13≤a1)) (.ch 7 [] (G177s0_ok v12 (i64.wrap (v12+v9)) v13 v11) fun r16=>.ret 7 (.inl (r16,v13,i64.wrap (v13+(i64.wrap (2*v9)))))) (.ret 0 (.inr (.inl (v11,v12))))
def T133s1_L1(a1:Int):(LD×Int)→TP ((LD×Int)⊕((LD)⊕LD))
 | (v8,v9)=>.ite 3 (decide (v9<a1)) (.lp 4 (fun ((v11,v12,v13):LD×Int×Int)=>⟨[(0,.own 30000),(1,tI a1),(2,.fn (.func 69) 0 []),(6,tI v9),(7,tI v12),(8,tI v13)],[(30000,aD v11)]⟩) (fun ((b14,b15):LD×Int)=>⟨[(0,.own 30000),(1,tI a1),(2,.fn (.func 69) 0 []),(6,tI v9),(7,tI b15)],[(30000,aD b14)]⟩) 4 (v8,0,i64.wrap (2*v9)) (T133s1_L2 a1 v9) fun (b14,b15)=>.jn 7 0 (fun (j17:LD)=>⟨[(0,.own 30000),(1,tI a1),(2,.fn (.func 69) 0 []),(6,tI v9)],[(30000,aD j17)]⟩) (.ite 0 (decide ((i64.wrap (b15+v9))<a1)) (.ch 5 [] (G177s0_ok b15 (i64.wrap (b15+v9)) a1 b14) fun r18=>.ret 0 r18) (.ret 0 b14)) fun j17=>.ret 3 (.inl (j17,i64.wrap (v9*2)))) (.ret 0 (.inr (.inl v8)))
def T133s1(a1:Int)(qul:LD):TP LD:=.lp 4 (fun ((v1,v2,v3):LD×Int×Int)=>⟨[(0,.own 30000),(1,tI a1),(2,.fn (.func 69) 0 []),(6,tI 20),(7,tI v2),(8,tI v3)],[(30000,aD v1)]⟩) (fun ((b4,b5):LD×Int)=>⟨[(0,.own 30000),(1,tI a1),(2,.fn (.func 69) 0 []),(6,tI 20),(7,tI b5)],[(30000,aD b4)]⟩) 0 (qul,0,20) (T133s1_L0 a1) fun (b4,b5)=>.ch 4 [] (G176s1_ok b5 a1 b4) fun r7=>.lp 0 (fun ((v8,v9):LD×Int)=>⟨[(0,.own 30000),(1,tI a1),(2,.fn (.func 69) 0 []),(6,tI v9)],[(30000,aD v8)]⟩) (fun (b10:LD)=>⟨[],[(30000,aD b10)]⟩) 2 (r7,20) (T133s1_L1 a1) fun b10=>.ret 0 b10
def G133s1(a1:Int)(qul:LD):Option LD:=(T133s1 a1 qul).den
theorem G133s1_ok(a1:Int)(qul:LD):cW Tryz.prog 214 [.own 30000,tI a1,.fn (.func 69) 0 []] [(30000,aD qul)] [30000] (G133s1 a1 qul) (fun (y:LD)=>.tup []) (fun (y:LD)=>[(30000,aD y)]):=fK Tryz.func214 aR (T133s1 a1 qul)
def T63s1(qul:LD):TP LD:=.ch 4 [] (G133s1_ok (qul.length:Int) qul) fun r1=>.ret 0 r1
def G63s1(qul:LD):Option LD:=(T63s1 qul).den
theorem G63s1_ok(qul:LD):cW Tryz.prog 153 [.own 30000,.fn (.func 69) 0 []] [(30000,aD qul)] [30000] (G63s1 qul) (fun (y:LD)=>.tup []) (fun (y:LD)=>[(30000,aD y)]):=fK Tryz.func153 aR (T63s1 qul)
def T64s0(a0:List aC):TP (List aC):=.jn 2 0 (fun (j1:Bool)=>⟨[(0,tV a0),(4,tB j1)],[]⟩) (.ndb 0 a0.length (.ret 0 true) (.ret 0 false)) fun j1=>.ite 0 j1 (.cv 1 [.th 2 40000 67 3 (eF bM ([]:List aC))] <| .ret 0 ([]:List aC)) (.bs 0 true bM ([]:List aC) <| .grd 2 ((([]:List aC).length+a0.length)*32≤140737488355328) <| .cv 0 [.ap 7 bM ([]:List aC) a0] <| .cv 1 [.rn 7 40000] <| .ret 0 (([]:List aC)++a0))
def G64s0(a0:List aC):Option (List aC):=Det (T64s0 a0)
theorem G64s0_ok(a0:List aC):cW Tryz.prog 154 [tV a0] [] [] (G64s0 a0) (fun (y:(List aC))=>.own 40000) (fun (y:(List aC))=>[(40000,.arr 67 3 (y.length) (eF bM y))]):=conHD Tryz.func154 aR (T64s0 a0)
def T42s0(a0:LD):TP LD:=.jn 2 0 (fun (j1:Bool)=>⟨[(0,tD a0),(4,tB j1)],[]⟩) (.ndb 0 a0.length (.ret 0 true) (.ret 0 false)) fun j1=>.ite 0 j1 (.cv 1 [.th 2 40000 50 3 (eF aH ([]:LD))] <| .ret 0 ([]:LD)) (.bs 0 true aH ([]:LD) <| .grd 2 ((([]:LD).length+a0.length)*40≤140737488355328) <| .cv 0 [.ap 7 aH ([]:LD) a0] <| .cv 1 [.rn 7 40000] <| .ret 0 (([]:LD)++a0))
def G42s0(a0:LD):Option LD:=Det (T42s0 a0)
theorem G42s0_ok(a0:LD):cW Tryz.prog 75 [tD a0] [] [] (G42s0 a0) (fun (y:LD)=>.own 40000) (fun (y:LD)=>[(40000,aD y)]):=conHD Tryz.func75 aR (T42s0 a0)
def T27s0_L1(v3:LD):(Int×LD×Int)→TP ((Int×LD×Int)⊕((Int×LD×Int)⊕((LD×LD)⊕((LD)⊕LD))))
 | (v6,v7,v8)=>.jn 0 0 (fun ((j12,j13):LD×Bool)=>⟨[(3,tD v3),(4,.own 4),(5,.ptr 5 0),(6,tI v8),(29,tB j13)],[(4,aD j12),(5,.box [tI ((v3.getD (0:Int).toNat default).Time),tV ((v3.getD (0:Int).toNat default).Row),tI v6])]⟩) (.dl 4 (decide (v8<(v3.length:Int))) (.dg 8 (0≤v8∧v8<(v3.length:Int)) <| .dc 10 [.t (bU (aA.mk ((v3.getD (0:Int).toNat default).Time) ((v3.getD (0:Int).toNat default).Row) v6)),.t (bU (v3.getD v8.toNat default))] (G61_ok (aA.mk ((v3.getD (0:Int).toNat default).Time) ((v3.getD (0:Int).toNat default).Row) v6) (v3.getD v8.toNat default)) fun r14=>.dr 0 0 [(4,false,[]),(5,false,[])] [3,4,5,6] <| .ret 0 (v7,r14==0)) (.dr 0 0 [(4,false,[]),(5,false,[])] [3,4,5,6] <| .ret 0 (v7,false))) fun (j12,j13)=>.ite 0 j13 (.dg 4 (0≤v8∧v8<(v3.length:Int)) <| .dr 0 0 [(4,false,[]),(5,false,[9])] [3,4,5,6,29] <| .ret 3 (.inl (i64.wrap (v6+((v3.getD v8.toNat default).N)),j12,i64.wrap (v8+1)))) (.ret 0 (.inr (.inl (v6,j12,v8))))
def T27s0_L0:(LD×LD)→TP ((LD×LD)⊕((LD)⊕LD))
 | (v3,v4)=>.ite 3 (decide ((v3.length:Int)>0)) (.grd 2 (0≤(0:Int)∧(0:Int)<(v3.length:Int)) <| .lp 4 (fun ((v6,v7,v8):Int×LD×Int)=>⟨[(3,tD v3),(4,.own 4),(5,.ptr 5 0),(6,tI v8)],[(4,aD v7),(5,.box [tI ((v3.getD (0:Int).toNat default).Time),tV ((v3.getD (0:Int).toNat default).Row),tI v6])]⟩) (fun ((b9,b10,b11):Int×LD×Int)=>⟨[(3,tD v3),(4,.own 4),(5,.ptr 5 0),(6,tI b11)],[(4,aD b10),(5,.box [tI ((v3.getD (0:Int).toNat default).Time),tV ((v3.getD (0:Int).toNat default).Row),tI b9])]⟩) 2 ((v3.getD (0:Int).toNat default).N,v4,1) (T27s0_L1 v3) fun (b9,b10,b11)=>.jn 3 0 (fun (j15:LD)=>⟨[(3,tD v3),(4,.own 4),(6,tI b11)],[(4,aD j15)]⟩) (.ite 0 (b9 != 0) (.ch 2 [40000] (G64s0_ok ((v3.getD (0:Int).toNat default).Row)) fun r16=>.cv 0 [.rn 40000 46] <| .cv 3 [.fr 46 (eL bM r16)] <| .bs 1 true aH ([(aA.mk ((v3.getD (0:Int).toNat default).Time) r16 b9)]:LD) <| .grd 1 ((b10.length+([(aA.mk ((v3.getD (0:Int).toNat default).Time) r16 b9)]:LD).length)*40≤140737488355328) <| .cv 0 [.ap 51 aH b10 ([(aA.mk ((v3.getD (0:Int).toNat default).Time) r16 b9)]:LD)] <| .cv 1 [.rn 51 4] <| .ret 0 (b10++([(aA.mk ((v3.getD (0:Int).toNat default).Time) r16 b9)]:LD))) (.ret 0 b10)) fun j15=>.slc 3 54 aH v3 (b11:Int) (v3.length:Int) <| .ret 1 (.inl ((v3.drop (b11:Int).toNat).take ((v3.length:Int)-(b11:Int)).toNat,j15))) (.ret 0 (.inr (.inl v4)))
def T27s0(a0:LD):TP LD:=.ch 2 [40000] (G42s0_ok a0) fun r1=>.cv 0 [.rn 40000 8] <| .cv 2 [.rn 8 30000] <| .ch 0 [] (G63s1_ok r1) fun r2=>.cv 1 [.fr 30000 (eL aH r2),.th 4 4 50 3 (eF aH ([]:LD))] <| .lp 0 (fun ((v3,v4):LD×LD)=>⟨[(3,tD v3),(4,.own 4)],[(4,aD v4)]⟩) (fun (b5:LD)=>⟨[(4,.own 4)],[(4,aD b5)]⟩) 0 (r2,([]:LD)) T27s0_L0 fun b5=>.cv 2 [.rn 4 40000] <| .ret 0 b5
def G27s0(a0:LD):Option LD:=(T27s0 a0).den
theorem G27s0_ok(a0:LD):cW Tryz.prog 66 [tD a0] [] [] (G27s0 a0) (fun (y:LD)=>.own 40000) (fun (y:LD)=>[(40000,aD y)]):=fK Tryz.func66 aR (T27s0 a0)
def T40s1(a0:aA)(qv0:Int):TP Bool:=.ret 7 (decide (a0.Time≤qv0))
def G40s1(a0:aA)(qv0:Int):Option Bool:=(T40s1 a0 qv0).den
theorem G40s1_ok(a0:aA)(qv0:Int):cW Tryz.prog 73 [.t (bU a0),.ptr 30001 0] [(30001,.box (([.int .i64 qv0]).map .t))] [30001] (G40s1 a0 qv0) tB (fun (y:Bool)=>[(30001,.box (([.int .i64 qv0]).map .t))]):=fK Tryz.func73 aR (T40s1 a0 qv0)
def T105s1_L0(qul:LD)(qv0:Int):Int→TP ((Int)⊕((Unit)⊕Int))
 | v1=>.ite 1 (decide (v1<(qul.length:Int))) (.grd 6 (0≤v1∧v1<(qul.length:Int)) <| .grd 1 ((v1).toNat<qul.length) <| .ch 0 [] (G40s1_ok (qul.getD v1.toNat default) qv0) fun r2=>.ite 0 r2 (.ret 2 (.inr (.inr v1))) (.ret 2 (.inl (i64.wrap (v1+1))))) (.ret 0 (.inr (.inl ())))
def T105s1(qul:LD)(qv0:Int):TP Int:=.lp 4 (fun (v1:Int)=>⟨[(0,.own 30000),(1,.fn (.func 73) 0 [.ptr 30001 0]),(7,tI (qul.length:Int)),(8,tI v1)],[(30000,aD qul),(30001,.box (([.int .i64 qv0]).map .t))]⟩) (fun (_:Unit)=>⟨[],[(30000,aD qul),(30001,.box (([.int .i64 qv0]).map .t))]⟩) 0 0 (T105s1_L0 qul qv0) fun _=>.ret 1 (-1)
def G105s1(qul:LD)(qv0:Int):Option Int:=(T105s1 qul qv0).den
theorem G105s1_ok(qul:LD)(qv0:Int):cW Tryz.prog 165 [.own 30000,.fn (.func 73) 0 [.ptr 30001 0]] [(30000,aD qul),(30001,.box (([.int .i64 qv0]).map .t))] [30000,30001] (G105s1 qul qv0) tI (fun (y:Int)=>[(30000,aD qul),(30001,.box (([.int .i64 qv0]).map .t))]):=fK Tryz.func165 aR (T105s1 qul qv0)
def T41s2_L0(qv0:Int):(LD×Int×Int)→TP ((LD×Int×Int)⊕((LD×Int)⊕LD))
 | (v2,v3,v4)=>.ite 4 (decide (v4<(v2.length:Int))) (.grd 3 (0≤v4∧v4<(v2.length:Int)) <| .grd 1 ((v4).toNat<v2.length) <| .ch 4 [] (G40s1_ok (v2.getD v4.toNat default) qv0) fun r7=>.jn 1 0 (fun ((j8,j9):LD×Int)=>⟨[(0,.own 0),(1,.fn (.func 73) 0 [.ptr 30001 0]),(5,tI j9),(6,tI v4)],[(0,aD j8),(30001,.box (([.int .i64 qv0]).map .t))]⟩) (.ite 0 (!r7) (.grd 4 (0≤v3∧v3<(v2.length:Int)) <| .grd 1 ((v3).toNat<v2.length) <| .sto 0 0 aH v2 [((v3).toNat,v2.getD v4.toNat default)] <| .ret 3 (v2.set v3.toNat (v2.getD v4.toNat default),i64.wrap (v3+1))) (.ret 0 (v2,v3))) fun (j8,j9)=>.ret 3 (.inl (j8,j9,i64.wrap (v4+1)))) (.ret 0 (.inr (.inl (v2,v3))))
def T41s2(qul:LD)(qv0:Int):TP LD:=.ch 3 [] (G105s1_ok qul qv0) fun r1=>.ite 3 (r1==(-1)) (.cv 2 [.fr 30000 (eL aH qul)] <| .ret 0 qul) (.cv 3 [.rn 30000 0] <| .lp 0 (fun ((v2,v3,v4):LD×Int×Int)=>⟨[(0,.own 0),(1,.fn (.func 73) 0 [.ptr 30001 0]),(5,tI v3),(6,tI v4)],[(0,aD v2),(30001,.box (([.int .i64 qv0]).map .t))]⟩) (fun ((b5,b6):LD×Int)=>⟨[(0,.own 0),(5,tI b6)],[(0,aD b5),(30001,.box (([.int .i64 qv0]).map .t))]⟩) 0 (qul,r1,i64.wrap (r1+1)) (T41s2_L0 qv0) fun (b5,b6)=>.clr 2 aH b5 b6 <| .cut 2 aH (b5.take b6.toNat++List.replicate (b5.length-b6.toNat) default) b6 <| .cv 1 [.fr 41 (eL aH ((b5.take b6.toNat++List.replicate (b5.length-b6.toNat) default).take b6.toNat))] <| .ret 0 ((b5.take b6.toNat++List.replicate (b5.length-b6.toNat) default).take b6.toNat))
def G41s2(qul:LD)(qv0:Int):Option LD:=(T41s2 qul qv0).den
theorem G41s2_ok(qul:LD)(qv0:Int):cW Tryz.prog 74 [.own 30000,.fn (.func 73) 0 [.ptr 30001 0]] [(30000,aD qul),(30001,.box (([.int .i64 qv0]).map .t))] [30001] (G41s2 qul qv0) tD (fun (y:LD)=>[(30001,.box (([.int .i64 qv0]).map .t))]):=fK Tryz.func74 aR (T41s2 qul qv0)
def T14(a0:LD)(a1:Int):TP LD:=.ch 5 [40000] (G42s0_ok a0) fun r1=>.cv 0 [.rn 40000 8] <| .cv 1 [.rn 8 30000] <| .cv 0 [.rn 3 30001] <| .ch 0 [] (G41s2_ok r1 a1) fun r2=>.ch 0 [40000] (G27s0_ok r2) fun r3=>.cv 0 [.rn 40000 11] <| .cv 1 [.fr 11 (eL aH r3)] <| .ret 0 r3
def G14(a0:LD)(a1:Int):Option LD:=(T14 a0 a1).den
theorem G14_ok(a0:LD)(a1:Int):Con Tryz.prog 22 [tD a0,tI a1] (G14 a0 a1) tD:=con Tryz.func22 aR (T14 a0 a1)
def T339s0(a1:ByteArray)(a2:LD)(qu0:List aF)(qu1:aE)(qu2:Int)(qum:LM)(hi30001:List ByteArray):TP LM:=.cv 6 [.gp 30001 mD (qum:LM) a1] <| .upd 0 mD (mdel qum a1:LM) a1 <| .jn 3 0 (fun (j1:LM)=>⟨[],[(30000,bP qu0 qu1 30001 qu2),(30001,.mp (some ⟨30,kTs (hi30001:List ByteArray),none⟩) (eM mD (j1:LM)) none)]⟩) (.ite 0 ((a2.length:Int)==0) (.dlt 5 mD (mdel qum a1:LM) a1 (some (tD a2)) <| .ret 0 (mdel qum a1)) (.cv 0 [.fd 30001 vD (qum:LM) a1 (a2:LD),.nc 30001] <| .ret 0 (mput qum a1 (a2:LD)))) fun j1=>.ret 0 j1
def G339s0(a1:ByteArray)(a2:LD)(qu0:List aF)(qu1:aE)(qu2:Int)(qum:LM)(hi30001:List ByteArray):Option LM:=(T339s0 a1 a2 qu0 qu1 qu2 qum hi30001).den
theorem G339s0_ok(a1:ByteArray)(a2:LD)(qu0:List aF)(qu1:aE)(qu2:Int)(qum:LM)(hi30001:List ByteArray):cW Tryz.prog 65 [.ptr 30000 0,.t (.str a1),tD a2] [(30000,bP qu0 qu1 30001 qu2),(30001,.mp (some ⟨30,kTs (hi30001:List ByteArray),some (.str a1)⟩) (eM mD (qum:LM)) none)] [30000,30001,30] (G339s0 a1 a2 qu0 qu1 qu2 qum hi30001) (fun (y:LM)=>.tup []) (fun (y:LM)=>[(30000,bP qu0 qu1 30001 qu2),(30001,.mp (some ⟨30,kTs (hi30001:List ByteArray),none⟩) (eM mD (y:LM)) none)]):=fK Tryz.func65 aR (T339s0 a1 a2 qu0 qu1 qu2 qum hi30001)
def T314s0_L0(a1:Int)(qu0:List aF)(qu1:aE)(r1:Int×Int):((List ByteArray)×LM)→TP (((List ByteArray)×LM)⊕(((List ByteArray)×LM)⊕(LM×Int)))
 | (v2,v3)=>.nxd 0 vD (v3:LM) (v2:List ByteArray) (.ret 2 (.inr (.inl (v2,v3)))) fun k6 c7=>.gd 3 ((.str k6:T) = .str k6) rfl <| .ca 10 (G14_ok c7 (i64.wrap (a1-r1.1))) fun r8=>.cv 0 [.fd 30001 vD (v3:LM) k6 (c7:LD)] <| .ch 0 [] (G339s0_ok k6 r8 qu0 qu1 a1 (mput v3 k6 (c7:LD)) (fY v2 k6)) fun r9=>.ret 0 (.inl (fY v2 k6,r9))
def T314s0(a1:Int)(qu0:List aF)(qu1:aE)(qu2:Int)(qum:LM):TP (LM×Int):=.ite 6 (decide (a1≤qu2)) (.ret 0 (qum,qu2)) (.ca 9 (G10_ok qu1) fun r1=>.rng 9 mD (qum:LM) <| .lp 0 (fun ((v2,v3):(List ByteArray)×LM)=>⟨[(0,.ptr 30000 0),(1,tI a1),(4,tI r1.1),(30,.ptr 30 0)],[(30000,bP qu0 qu1 30001 a1),(30001,.mp (some ⟨30,kTs (v2:List ByteArray),none⟩) (eM mD (v3:LM)) none)]⟩) (fun ((b4,b5):(List ByteArray)×LM)=>⟨[],[(30000,bP qu0 qu1 30001 a1),(30001,.mp (some ⟨30,kTs (b4:List ByteArray),none⟩) (eM mD (b5:LM)) none)]⟩) 0 (aZ qum,qum) (T314s0_L0 a1 qu0 qu1 r1) fun (b4,b5)=>.cv 0 [.ni 30001] <| .ret 0 (b5,a1))
def G314s0(a1:Int)(qu0:List aF)(qu1:aE)(qu2:Int)(qum:LM):Option (LM×Int):=Det (T314s0 a1 qu0 qu1 qu2 qum)
theorem G314s0_ok(a1:Int)(qu0:List aF)(qu1:aE)(qu2:Int)(qum:LM):cW Tryz.prog 18 [.ptr 30000 0,tI a1] [(30000,bP qu0 qu1 30001 qu2),(30001,pD qum)] [30000,30001] (G314s0 a1 qu0 qu1 qu2 qum) (fun (y:LM×Int)=>.tup []) (fun (y:LM×Int)=>[(30000,bP qu0 qu1 30001 y.2),(30001,.mp none (eM mD (y.1:LM)) none)]):=conHD Tryz.func18 aR (T314s0 a1 qu0 qu1 qu2 qum)
def T27_L1(v3:LD):(Int×LD×Int)→TP ((Int×LD×Int)⊕((Int×LD×Int)⊕((LD×LD)⊕((LD)⊕LD))))
 | (v6,v7,v8)=>.jn 0 0 (fun ((j12,j13):LD×Bool)=>⟨[(3,tD v3),(4,.own 4),(5,.ptr 5 0),(6,tI v8),(29,tB j13)],[(4,aD j12),(5,.box [tI ((v3.getD (0:Int).toNat default).Time),tV ((v3.getD (0:Int).toNat default).Row),tI v6])]⟩) (.dl 4 (decide (v8<(v3.length:Int))) (.dg 8 (0≤v8∧v8<(v3.length:Int)) <| .dc 10 [.t (bU (aA.mk ((v3.getD (0:Int).toNat default).Time) ((v3.getD (0:Int).toNat default).Row) v6)),.t (bU (v3.getD v8.toNat default))] (G61_ok (aA.mk ((v3.getD (0:Int).toNat default).Time) ((v3.getD (0:Int).toNat default).Row) v6) (v3.getD v8.toNat default)) fun r14=>.dr 0 0 [(4,false,[]),(5,false,[])] [3,4,5,6] <| .ret 0 (v7,r14==0)) (.dr 0 0 [(4,false,[]),(5,false,[])] [3,4,5,6] <| .ret 0 (v7,false))) fun (j12,j13)=>.ite 0 j13 (.dg 4 (0≤v8∧v8<(v3.length:Int)) <| .dr 0 0 [(4,false,[]),(5,false,[9])] [3,4,5,6,29] <| .ret 3 (.inl (i64.wrap (v6+((v3.getD v8.toNat default).N)),j12,i64.wrap (v8+1)))) (.ret 0 (.inr (.inl (v6,j12,v8))))
def T27_L0:(LD×LD)→TP ((LD×LD)⊕((LD)⊕LD))
 | (v3,v4)=>.ite 3 (decide ((v3.length:Int)>0)) (.grd 2 (0≤(0:Int)∧(0:Int)<(v3.length:Int)) <| .lp 4 (fun ((v6,v7,v8):Int×LD×Int)=>⟨[(3,tD v3),(4,.own 4),(5,.ptr 5 0),(6,tI v8)],[(4,aD v7),(5,.box [tI ((v3.getD (0:Int).toNat default).Time),tV ((v3.getD (0:Int).toNat default).Row),tI v6])]⟩) (fun ((b9,b10,b11):Int×LD×Int)=>⟨[(3,tD v3),(4,.own 4),(5,.ptr 5 0),(6,tI b11)],[(4,aD b10),(5,.box [tI ((v3.getD (0:Int).toNat default).Time),tV ((v3.getD (0:Int).toNat default).Row),tI b9])]⟩) 2 ((v3.getD (0:Int).toNat default).N,v4,1) (T27_L1 v3) fun (b9,b10,b11)=>.jn 3 0 (fun (j15:LD)=>⟨[(3,tD v3),(4,.own 4),(6,tI b11)],[(4,aD j15)]⟩) (.ite 0 (b9 != 0) (.ch 2 [40000] (G64s0_ok ((v3.getD (0:Int).toNat default).Row)) fun r16=>.cv 0 [.rn 40000 46] <| .cv 3 [.fr 46 (eL bM r16)] <| .bs 1 true aH ([(aA.mk ((v3.getD (0:Int).toNat default).Time) r16 b9)]:LD) <| .grd 1 ((b10.length+([(aA.mk ((v3.getD (0:Int).toNat default).Time) r16 b9)]:LD).length)*40≤140737488355328) <| .cv 0 [.ap 51 aH b10 ([(aA.mk ((v3.getD (0:Int).toNat default).Time) r16 b9)]:LD)] <| .cv 1 [.rn 51 4] <| .ret 0 (b10++([(aA.mk ((v3.getD (0:Int).toNat default).Time) r16 b9)]:LD))) (.ret 0 b10)) fun j15=>.slc 3 54 aH v3 (b11:Int) (v3.length:Int) <| .ret 1 (.inl ((v3.drop (b11:Int).toNat).take ((v3.length:Int)-(b11:Int)).toNat,j15))) (.ret 0 (.inr (.inl v4)))
def T27(a0:LD):TP LD:=.ch 2 [40000] (G42s0_ok a0) fun r1=>.cv 0 [.rn 40000 8] <| .cv 2 [.rn 8 30000] <| .ch 0 [] (G63s1_ok r1) fun r2=>.cv 1 [.fr 30000 (eL aH r2),.th 4 4 50 3 (eF aH ([]:LD))] <| .lp 0 (fun ((v3,v4):LD×LD)=>⟨[(3,tD v3),(4,.own 4)],[(4,aD v4)]⟩) (fun (b5:LD)=>⟨[(4,.own 4)],[(4,aD b5)]⟩) 0 (r2,([]:LD)) T27_L0 fun b5=>.cv 2 [.fr 4 (eL aH b5)] <| .ret 0 b5
def G27(a0:LD):Option LD:=(T27 a0).den
theorem G27_ok(a0:LD):Con Tryz.prog 66 [tD a0] (G27 a0) tD:=con Tryz.func66 aR (T27 a0)
def T104s0(a1:Int):TP LD:=.ite 3 (decide (a1<0)) (.no) (.jn 10 0 (fun (j1:LD)=>⟨[(0,.own 0)],[(0,aD j1)]⟩) (.ite 0 (decide ((i64.wrap (a1-0))>0)) (.gd 4 (0≤(0:Int)∧(0:Int)≤(0:Int)∧(0:Int)≤0) (by decide) <| .apz 1 aH 40 (i64.wrap (a1-0)) <| .cut 2 aH (List.replicate (i64.wrap (a1-0)).toNat (default:aA)) (0:Int) <| .cv 1 [.rn 25 0] <| .ret 0 ((List.replicate (i64.wrap (a1-0)).toNat (default:aA)).take (0:Int).toNat)) (.cv 0 [.th 0 0 50 3 (eF aH ([]:LD))] <| .ret 0 ([]:LD))) fun j1=>.cv 2 [.rn 0 40000] <| .ret 0 j1)
def G104s0(a1:Int):Option LD:=(T104s0 a1).den
theorem G104s0_ok(a1:Int):cW Tryz.prog 155 [.nil,tI a1] [] [] (G104s0 a1) (fun (y:LD)=>.own 40000) (fun (y:LD)=>[(40000,aD y)]):=fK Tryz.func155 aR (T104s0 a1)
def T39_L0(a0:List LD):(Int×Int)→TP ((Int×Int)⊕((Int)⊕LD))
 | (v1,v2)=>.ite 1 (decide (v2<(a0.length:Int))) (.grd 1 (0≤v2∧v2<(a0.length:Int)) <| .ite 9 (decide ((i64.wrap (v1+((a0.getD v2.toNat default).length:Int)))<0)) (.no) (.ret 2 (.inl (i64.wrap (v1+((a0.getD v2.toNat default).length:Int)),i64.wrap (v2+1))))) (.ret 0 (.inr (.inl v1)))
def T39_L1(a0:List LD):(LD×Int)→TP ((LD×Int)⊕((LD)⊕LD))
 | (v5,v6)=>.ite 1 (decide (v6<(a0.length:Int))) (.grd 1 (0≤v6∧v6<(a0.length:Int)) <| .grd 5 ((v5.length+(a0.getD v6.toNat default).length)*40≤140737488355328) <| .cv 0 [.ap 33 aH v5 (a0.getD v6.toNat default)] <| .cv 3 [.rn 33 6] <| .ret 0 (.inl (v5++(a0.getD v6.toNat default),i64.wrap (v6+1)))) (.ret 0 (.inr (.inl v5)))
def T39(a0:List LD):TP LD:=.lp 5 (fun ((v1,v2):Int×Int)=>⟨[(0,.t (eL cP a0)),(3,tI v1),(9,.t (eL cP a0)),(10,tI (a0.length:Int)),(11,tI v2)],[]⟩) (fun (b3:Int)=>⟨[(0,.t (eL cP a0)),(3,tI b3)],[]⟩) 0 (0,0) (T39_L0 a0) fun b3=>.ch 1 [40000] (G104s0_ok b3) fun r4=>.cv 0 [.rn 40000 24] <| .cv 4 [.rn 24 6] <| .lp 0 (fun ((v5,v6):LD×Int)=>⟨[(6,.own 6),(25,.t (eL cP a0)),(26,tI (a0.length:Int)),(27,tI v6)],[(6,aD v5)]⟩) (fun (b7:LD)=>⟨[(6,.own 6)],[(6,aD b7)]⟩) 2 (r4,0) (T39_L1 a0) fun b7=>.cv 2 [.fr 6 (eL aH b7)] <| .ret 0 b7
def G39(a0:List LD):Option LD:=(T39 a0).den
theorem G39_ok(a0:List LD):Con Tryz.prog 67 [.t (eL cP a0)] (G39 a0) tD:=con Tryz.func67 aR (T39 a0)
def T12(a0:LD)(a1:LD):TP LD:=.bs 3 false cP ([a0,a1]:List LD) <| .ca 0 (G39_ok ([a0,a1]:List LD)) fun r1=>.ca 0 (G27_ok r1) fun r2=>.ret 1 r2
def G12(a0:LD)(a1:LD):Option LD:=(T12 a0 a1).den
theorem G12_ok(a0:LD)(a1:LD):Con Tryz.prog 19 [tD a0,tD a1] (G12 a0 a1) tD:=con Tryz.func19 aR (T12 a0 a1)
def T129_L0(a1:LD):(LD×Int)→TP ((LD×Int)⊕((LD)⊕LD))
 | (v2,v3)=>.ite 1 (decide (v3<(a1.length:Int))) (.grd 1 (0≤v3∧v3<(a1.length:Int)) <| .bs 10 true aH ([(aA.mk ((a1.getD v3.toNat default).Time) ((a1.getD v3.toNat default).Row) (i64.wrap (0-((a1.getD v3.toNat default).N))))]:LD) <| .grd 1 ((v2.length+([(aA.mk ((a1.getD v3.toNat default).Time) ((a1.getD v3.toNat default).Row) (i64.wrap (0-((a1.getD v3.toNat default).N))))]:LD).length)*40≤140737488355328) <| .cv 0 [.ap 23 aH v2 ([(aA.mk ((a1.getD v3.toNat default).Time) ((a1.getD v3.toNat default).Row) (i64.wrap (0-((a1.getD v3.toNat default).N))))]:LD)] <| .cv 3 [.rn 23 5] <| .ret 0 (.inl (v2++([(aA.mk ((a1.getD v3.toNat default).Time) ((a1.getD v3.toNat default).Row) (i64.wrap (0-((a1.getD v3.toNat default).N))))]:LD),i64.wrap (v3+1)))) (.ret 0 (.inr (.inl v2)))
def T129(a0:LD)(a1:LD):TP LD:=.ch 2 [40000] (G42s0_ok a0) fun r1=>.cv 0 [.rn 40000 9] <| .cv 4 [.rn 9 5] <| .lp 0 (fun ((v2,v3):LD×Int)=>⟨[(5,.own 5),(10,tD a1),(11,tI (a1.length:Int)),(12,tI v3)],[(5,aD v2)]⟩) (fun (b4:LD)=>⟨[(5,.own 5)],[(5,aD b4)]⟩) 0 (r1,0) (T129_L0 a1) fun b4=>.cv 1 [.fr 5 (eL aH b4)] <| .ch 0 [40000] (G27s0_ok b4) fun r5=>.cv 0 [.rn 40000 26] <| .cv 1 [.fr 26 (eL aH r5)] <| .ret 0 r5
def G129(a0:LD)(a1:LD):Option LD:=(T129 a0 a1).den
theorem G129_ok(a0:LD)(a1:LD):Con Tryz.prog 29 [tD a0,tD a1] (G129 a0 a1) tD:=con Tryz.func29 aR (T129 a0 a1)
def T339s1(a1:ByteArray)(a2:LD)(qu0:List aF)(qu1:aE)(qu2:Int)(qum:LM):TP LM:=.cv 6 [.gp 30001 mD (qum:LM) a1] <| .upd 0 mD (mdel qum a1:LM) a1 <| .jn 3 0 (fun (j1:LM)=>⟨[],[(30000,bP qu0 qu1 30001 qu2),(30001,pD j1)]⟩) (.ite 0 ((a2.length:Int)==0) (.dlt 5 mD (mdel qum a1:LM) a1 (some (tD a2)) <| .ret 0 (mdel qum a1)) (.cv 0 [.fd 30001 vD (qum:LM) a1 (a2:LD)] <| .ret 0 (mput qum a1 (a2:LD)))) fun j1=>.ret 0 j1
def G339s1(a1:ByteArray)(a2:LD)(qu0:List aF)(qu1:aE)(qu2:Int)(qum:LM):Option LM:=(T339s1 a1 a2 qu0 qu1 qu2 qum).den
theorem G339s1_ok(a1:ByteArray)(a2:LD)(qu0:List aF)(qu1:aE)(qu2:Int)(qum:LM):cW Tryz.prog 65 [.ptr 30000 0,.t (.str a1),tD a2] [(30000,bP qu0 qu1 30001 qu2),(30001,pD qum)] [30000,30001] (G339s1 a1 a2 qu0 qu1 qu2 qum) (fun (y:LM)=>.tup []) (fun (y:LM)=>[(30000,bP qu0 qu1 30001 qu2),(30001,pD y)]):=fK Tryz.func65 aR (T339s1 a1 a2 qu0 qu1 qu2 qum)
def T51(a0:Int):TP ByteArray:=.ca 2 (G117_ok a0) fun r1=>.grd 1 (((r1.size+((⟨#[59]⟩):ByteArray).size:Nat):Int)≤9223372036854775807) <| .ret 1 (r1++((⟨#[59]⟩):ByteArray))
def G51(a0:Int):Option ByteArray:=(T51 a0).den
theorem G51_ok(a0:Int):Con Tryz.prog 78 [tI a0] (G51 a0) (fun (y:ByteArray)=>.t (.str y)):=con Tryz.func78 aR (T51 a0)
def T119(a0:Int):TP ByteArray:=.ite 3 (decide (a0<0)) (.ret 1 (⟨#[]⟩)) (.ca 1 (G51_ok a0) fun r1=>.ret 1 r1)
def G119(a0:Int):Option ByteArray:=(T119 a0).den
theorem G119_ok(a0:Int):Con Tryz.prog 168 [tI a0] (G119 a0) (fun (y:ByteArray)=>.t (.str y)):=con Tryz.func168 aR (T119 a0)
def T52(a0:ByteArray):TP ByteArray:=.ca 3 (G117_ok ((a0:ByteArray).size:Int)) fun r1=>.grd 1 (((r1.size+((⟨#[58]⟩):ByteArray).size:Nat):Int)≤9223372036854775807) <| .grd 2 (((((r1++((⟨#[58]⟩):ByteArray)):ByteArray).size+a0.size:Nat):Int)≤9223372036854775807) <| .grd 1 (((((((r1++((⟨#[58]⟩):ByteArray)):ByteArray)++a0):ByteArray).size+((⟨#[44]⟩):ByteArray).size:Nat):Int)≤9223372036854775807) <| .ret 1 (((((r1++((⟨#[58]⟩):ByteArray)):ByteArray)++a0):ByteArray)++((⟨#[44]⟩):ByteArray))
def G52(a0:ByteArray):Option ByteArray:=(T52 a0).den
theorem G52_ok(a0:ByteArray):Con Tryz.prog 169 [.t (.str a0)] (G52 a0) (fun (y:ByteArray)=>.t (.str y)):=con Tryz.func169 aR (T52 a0)
def T168(a0:aC):TP ByteArray:=.dc 2 [tI a0.Kind] (G51_ok a0.Kind) fun r1=>.dc 5 [tI a0.N] (G51_ok a0.N) fun r2=>.dg 6 (((r1.size+r2.size:Nat):Int)≤9223372036854775807) <| .dc 9 [.t (.str (a0.S))] (G52_ok a0.S) fun r3=>.dg 10 ((((r1++r2).size+r3.size:Nat):Int)≤9223372036854775807) <| .dr 2 0 [(1,false,[])] [0,1] <| .ret 0 ((r1++r2)++r3)
def G168(a0:aC):Option ByteArray:=(T168 a0).den
theorem G168_ok(a0:aC):Con Tryz.prog 217 [.t (cE a0)] (G168 a0) (fun (y:ByteArray)=>.t (.str y)):=con Tryz.func217 aR (T168 a0)
def T120_L0(a0:List aC):(ByteArray×Int)→TP ((ByteArray×Int)⊕((ByteArray)⊕ByteArray))
 | (v2,v3)=>.ite 1 (decide (v3<(a0.length:Int))) (.grd 1 (0≤v3∧v3<(a0.length:Int)) <| .ca 4 (G168_ok (a0.getD v3.toNat default)) fun r5=>.ch 0 [] (con118 v2 r5) fun _=>.ret 2 (.inl (v2++r5,i64.wrap (v3+1)))) (.ret 0 (.inr (.inl v2)))
def T120(a0:List aC):TP ByteArray:=.abl 1 5 <| .ca 2 (G119_ok (a0.length:Int)) fun r1=>.cv 0 [.rn 3 30000] <| .ch 0 [] (con118 (⟨#[]⟩:ByteArray) r1) fun _=>.lp 3 (fun ((v2,v3):ByteArray×Int)=>⟨[(3,.ptr 30000 0),(10,tV a0),(11,tI (a0.length:Int)),(12,tI v3)],[(30000,.bld 177 5 v2)]⟩) (fun (b4:ByteArray)=>⟨[(3,.ptr 30000 0)],[(30000,.bld 177 5 b4)]⟩) 0 ((⟨#[]⟩:ByteArray)++r1,0) (T120_L0 a0) fun b4=>.ch 0 [] (con121 b4) fun r6=>.ret 1 r6
def G120(a0:List aC):Option ByteArray:=(T120 a0).den
theorem G120_ok(a0:List aC):Con Tryz.prog 159 [tV a0] (G120 a0) (fun (y:ByteArray)=>.t (.str y)):=con Tryz.func159 aR (T120 a0)
def T357s0_L0(a1:List aC)(qu1:aE):((List aC)×Int)→TP (((List aC)×Int)⊕((List aC)⊕(List aC)))
 | (v1,v2)=>.ite 1 (decide (v2<(qu1.Key.length:Int))) (.grd 1 (0≤v2∧v2<(qu1.Key.length:Int)) <| .grd 6 (0≤(qu1.Key.getD v2.toNat default)∧(qu1.Key.getD v2.toNat default)<(a1.length:Int)) <| .bs 1 false bM ([a1.getD (qu1.Key.getD v2.toNat default).toNat default]:List aC) <| .grd 1 ((v1.length+([a1.getD (qu1.Key.getD v2.toNat default).toNat default]:List aC).length)*32≤140737488355328) <| .cv 0 [.ap 32 bM v1 ([a1.getD (qu1.Key.getD v2.toNat default).toNat default]:List aC)] <| .cv 3 [.rn 32 5] <| .ret 0 (.inl (v1++([a1.getD (qu1.Key.getD v2.toNat default).toNat default]:List aC),i64.wrap (v2+1)))) (.ret 0 (.inr (.inl v1)))
def T357s0(a1:List aC)(qu0:List aF)(qu1:aE)(qu2:Int)(qum:LM):TP (List aC):=.mks 8 bM 32 (0:Int) (i64.wrap ((qu1.Key.length:Int)+2)) <| .cv 8 [.rn 15 5] <| .lp 0 (fun ((v1,v2):(List aC)×Int)=>⟨[(1,tV a1),(5,.own 5),(20,.t (eL bC (qu1.Key))),(21,tI (qu1.Key.length:Int)),(22,tI v2)],[(5,.arr 67 3 (v1.length) (eF bM v1)),(30000,bP qu0 qu1 30001 qu2),(30001,pD qum)]⟩) (fun (b3:(List aC))=>⟨[(5,.own 5)],[(5,.arr 67 3 (b3.length) (eF bM b3)),(30000,bP qu0 qu1 30001 qu2),(30001,pD qum)]⟩) 0 (([]:List aC),0) (T357s0_L0 a1 qu1) fun b3=>.cv 2 [.fr 5 (eL bM b3)] <| .ret 0 b3
def G357s0(a1:List aC)(qu0:List aF)(qu1:aE)(qu2:Int)(qum:LM):Option (List aC):=(T357s0 a1 qu0 qu1 qu2 qum).den
theorem G357s0_ok(a1:List aC)(qu0:List aF)(qu1:aE)(qu2:Int)(qum:LM):cW Tryz.prog 160 [.ptr 30000 0,tV a1] [(30000,bP qu0 qu1 30001 qu2),(30001,pD qum)] [30000,30001] (G357s0 a1 qu0 qu1 qu2 qum) (fun (y:(List aC))=>tV y) (fun (y:(List aC))=>[(30000,bP qu0 qu1 30001 qu2),(30001,pD qum)]):=fK Tryz.func160 aR (T357s0 a1 qu0 qu1 qu2 qum)
def T340s0_L0(a1:LD)(qu0:List aF)(qu1:aE)(qu2:Int)(qum:LM):(LM×Int)→TP ((LM×Int)⊕((LM)⊕LM))
 | (v1,v2)=>.ite 1 (decide (v2<(a1.length:Int))) (.grd 1 (0≤v2∧v2<(a1.length:Int)) <| .ch 6 [] (G357s0_ok ((a1.getD v2.toNat default).Row) qu0 qu1 qu2 qum) fun r4=>.ca 0 (G120_ok r4) fun r5=>.lkr 5 50 3 (fun c:LD=>c.length) (fun c:LD=>eF aH c) ([]:LD) (v1:LM) r5 <| .bs 1 false aH ([a1.getD v2.toNat default]:LD) <| .grd 1 ((((aY (v1:LM) r5).getD ([]:LD)).length+([a1.getD v2.toNat default]:LD).length)*40≤140737488355328) <| .cv 0 [.ap 28 aH ((aY (v1:LM) r5).getD ([]:LD)) ([a1.getD v2.toNat default]:LD)] <| .upd 0 mR (mdel v1 r5:LM) r5 <| .cv 2 [.fw 9 28 50 3 (fun c:LD=>c.length) (fun c:LD=>eF aH c) (v1:LM) r5 (((aY (v1:LM) r5).getD ([]:LD))++([a1.getD v2.toNat default]:LD):LD)] <| .ret 0 (.inl (mput v1 r5 (((aY (v1:LM) r5).getD ([]:LD))++([a1.getD v2.toNat default]:LD):LD),i64.wrap (v2+1)))) (.ret 0 (.inr (.inl v1)))
def T340s0(a1:LD)(qu0:List aF)(qu1:aE)(qu2:Int)(qum:LM):TP LM:=.mk (K:=ByteArray) 1 mR <| .lp 4 (fun ((v1,v2):LM×Int)=>⟨[(0,.ptr 30000 0),(5,.map 9),(10,tD a1),(11,tI (a1.length:Int)),(12,tI v2)],[(9,pR v1),(30000,bP qu0 qu1 30001 qu2),(30001,pD qum)]⟩) (fun (b3:LM)=>⟨[(5,.map 9)],[(9,pR b3),(30000,bP qu0 qu1 30001 qu2),(30001,pD qum)]⟩) 0 (([]:LM),0) (T340s0_L0 a1 qu0 qu1 qu2 qum) fun b3=>.cv 2 [.rn 9 40000] <| .ret 0 b3
def G340s0(a1:LD)(qu0:List aF)(qu1:aE)(qu2:Int)(qum:LM):Option LM:=(T340s0 a1 qu0 qu1 qu2 qum).den
theorem G340s0_ok(a1:LD)(qu0:List aF)(qu1:aE)(qu2:Int)(qum:LM):cW Tryz.prog 71 [.ptr 30000 0,tD a1] [(30000,bP qu0 qu1 30001 qu2),(30001,pD qum)] [30000,30001] (G340s0 a1 qu0 qu1 qu2 qum) (fun (y:LM)=>.map 40000) (fun (y:LM)=>[(30000,bP qu0 qu1 30001 qu2),(30001,pD qum),(40000,pR y)]):=fK Tryz.func71 aR (T340s0 a1 qu0 qu1 qu2 qum)
def T361(a0:Int):TP aC:=.ret 4 (aC.mk 0 a0 (⟨#[]⟩))
def G361(a0:Int):Option aC:=(T361 a0).den
theorem G361_ok(a0:Int):Con Tryz.prog 164 [tI a0] (G361 a0) (fun (y:aC)=>.t (cE y)):=con Tryz.func164 aR (T361 a0)
def T378(a0:Int):TP aC:=.ret 4 (aC.mk 0 a0 (⟨#[]⟩))
def G378(a0:Int):Option aC:=(T378 a0).den
theorem gU(a0:Int):Con Tryz.prog 223 [tI a0] (G378 a0) (fun (y:aC)=>.t (cE y)):=con Tryz.func223 aR (T378 a0)
def T379(a0:Bool):TP aC:=.ite 2 a0 (.ret 2 (aC.mk 2 1 (⟨#[]⟩))) (.ret 2 (aC.mk 2 0 (⟨#[]⟩)))
def G379(a0:Bool):Option aC:=(T379 a0).den
theorem iN(a0:Bool):Con Tryz.prog 224 [tB a0] (G379 a0) (fun (y:aC)=>.t (cE y)):=con Tryz.func224 aR (T379 a0)
def T380(a0:bQ):TP aC:=.ca 9 (gU (i64.wrap (a0.a_.N+a0.b_.N))) fun r1=>.ret 1 r1
def G380(a0:bQ):Option aC:=(T380 a0).den
theorem G380_ok(a0:bQ):Con Tryz.prog 225 [.t (dJ a0)] (G380 a0) (fun (y:aC)=>.t (cE y)):=con Tryz.func225 aR (T380 a0)
def T381(a0:bQ):TP aC:=.ca 9 (gU (i64.wrap (a0.a_.N-a0.b_.N))) fun r1=>.ret 1 r1
def G381(a0:bQ):Option aC:=(T381 a0).den
theorem G381_ok(a0:bQ):Con Tryz.prog 226 [.t (dJ a0)] (G381 a0) (fun (y:aC)=>.t (cE y)):=con Tryz.func226 aR (T381 a0)
def T382(a0:bQ):TP aC:=.ca 9 (gU (i64.wrap (a0.a_.N*a0.b_.N))) fun r1=>.ret 1 r1
def G382(a0:bQ):Option aC:=(T382 a0).den
theorem G382_ok(a0:bQ):Con Tryz.prog 227 [.t (dJ a0)] (G382 a0) (fun (y:aC)=>.t (cE y)):=con Tryz.func227 aR (T382 a0)
def T383(a0:bQ):TP aC:=.ite 6 (a0.b_.N==0) (.ca 0 (gU 0) fun r1=>.ret 1 r1) (.grd 7 (a0.b_.N≠0) <| .ca 0 (gU (i64.wrap (Int.tdiv a0.a_.N a0.b_.N))) fun r2=>.ret 1 r2)
def G383(a0:bQ):Option aC:=(T383 a0).den
theorem G383_ok(a0:bQ):Con Tryz.prog 228 [.t (dJ a0)] (G383 a0) (fun (y:aC)=>.t (cE y)):=con Tryz.func228 aR (T383 a0)
def T384(a0:bQ):TP aC:=.ite 6 (a0.b_.N==0) (.ca 0 (gU 0) fun r1=>.ret 1 r1) (.grd 7 (a0.b_.N≠0) <| .ca 0 (gU (Int.tmod a0.a_.N a0.b_.N)) fun r2=>.ret 1 r2)
def G384(a0:bQ):Option aC:=(T384 a0).den
theorem G384_ok(a0:bQ):Con Tryz.prog 229 [.t (dJ a0)] (G384 a0) (fun (y:aC)=>.t (cE y)):=con Tryz.func229 aR (T384 a0)
def T385(a0:bQ):TP aC:=.ca 7 (iN ((a0.a_.Kind==a0.b_.Kind)&&((a0.a_.N==a0.b_.N)&&((a0.a_.S.toList==a0.b_.S.toList)&&true)))) fun r1=>.ret 1 r1
def G385(a0:bQ):Option aC:=(T385 a0).den
theorem G385_ok(a0:bQ):Con Tryz.prog 230 [.t (dJ a0)] (G385 a0) (fun (y:aC)=>.t (cE y)):=con Tryz.func230 aR (T385 a0)
def T386(a0:bQ):TP aC:=.ca 7 (iN (!((a0.a_.Kind==a0.b_.Kind)&&((a0.a_.N==a0.b_.N)&&((a0.a_.S.toList==a0.b_.S.toList)&&true))))) fun r1=>.ret 1 r1
def G386(a0:bQ):Option aC:=(T386 a0).den
theorem G386_ok(a0:bQ):Con Tryz.prog 231 [.t (dJ a0)] (G386 a0) (fun (y:aC)=>.t (cE y)):=con Tryz.func231 aR (T386 a0)
def T387(a0:bQ):TP aC:=.ca 6 (G175_ok a0.a_ a0.b_) fun r1=>.ca 1 (iN (decide (r1<0))) fun r2=>.ret 1 r2
def G387(a0:bQ):Option aC:=(T387 a0).den
theorem G387_ok(a0:bQ):Con Tryz.prog 232 [.t (dJ a0)] (G387 a0) (fun (y:aC)=>.t (cE y)):=con Tryz.func232 aR (T387 a0)
def T388(a0:bQ):TP aC:=.ca 6 (G175_ok a0.a_ a0.b_) fun r1=>.ca 1 (iN (decide (r1≤0))) fun r2=>.ret 1 r2
def G388(a0:bQ):Option aC:=(T388 a0).den
theorem G388_ok(a0:bQ):Con Tryz.prog 233 [.t (dJ a0)] (G388 a0) (fun (y:aC)=>.t (cE y)):=con Tryz.func233 aR (T388 a0)
def T389(a0:bQ):TP aC:=.jn 7 0 (fun ((j1,j2,j3):Int×Int×ByteArray)=>⟨[(2,.ptr 2 0)],[(2,.box [tI j1,tI j2,.t (.str j3)])]⟩) (.ite 0 (a0.a_.N==1) (.ca 5 (iN (a0.b_.N==1)) fun r4=>.ret 1 (r4.Kind,r4.N,r4.S)) (.ca 5 (iN false) fun r5=>.ret 1 (r5.Kind,r5.N,r5.S))) fun (j1,j2,j3)=>.ret 0 (aC.mk j1 j2 j3)
def G389(a0:bQ):Option aC:=(T389 a0).den
theorem G389_ok(a0:bQ):Con Tryz.prog 234 [.t (dJ a0)] (G389 a0) (fun (y:aC)=>.t (cE y)):=con Tryz.func234 aR (T389 a0)
def T390(a0:bQ):TP aC:=.jn 7 0 (fun ((j1,j2,j3):Int×Int×ByteArray)=>⟨[(2,.ptr 2 0)],[(2,.box [tI j1,tI j2,.t (.str j3)])]⟩) (.ite 0 (a0.a_.N==1) (.ca 5 (iN true) fun r4=>.ret 1 (r4.Kind,r4.N,r4.S)) (.ca 5 (iN (a0.b_.N==1)) fun r5=>.ret 1 (r5.Kind,r5.N,r5.S))) fun (j1,j2,j3)=>.ret 0 (aC.mk j1 j2 j3)
def G390(a0:bQ):Option aC:=(T390 a0).den
theorem G390_ok(a0:bQ):Con Tryz.prog 235 [.t (dJ a0)] (G390 a0) (fun (y:aC)=>.t (cE y)):=con Tryz.func235 aR (T390 a0)
def T391(a0:bQ):TP aC:=.grd 9 (((a0.a_.S.size+a0.b_.S.size:Nat):Int)≤9223372036854775807) <| .grd 6 (0≤(0:Int)∧(0:Int)≤(if (200:Int)<((a0.a_.S++a0.b_.S:ByteArray).size:Int) then (200:Int) else ((a0.a_.S++a0.b_.S:ByteArray).size:Int))∧(if (200:Int)<((a0.a_.S++a0.b_.S:ByteArray).size:Int) then (200:Int) else ((a0.a_.S++a0.b_.S:ByteArray).size:Int))≤((a0.a_.S++a0.b_.S).size:Int)) <| .ret 2 (aC.mk 1 0 ((a0.a_.S++a0.b_.S).extract (0:Int).toNat (if (200:Int)<((a0.a_.S++a0.b_.S:ByteArray).size:Int) then (200:Int) else ((a0.a_.S++a0.b_.S:ByteArray).size:Int)).toNat))
def G391(a0:bQ):Option aC:=(T391 a0).den
theorem G391_ok(a0:bQ):Con Tryz.prog 236 [.t (dJ a0)] (G391 a0) (fun (y:aC)=>.t (cE y)):=con Tryz.func236 aR (T391 a0)
abbrev R362:={f:(dQ×aW)→Option aC // ∀ a:dQ×aW,Con Tryz.prog 171 [.t (fW a.1),.t (cJ a.2)] (f a) (fun (y:aC)=>.t (cE y))}
def T362_L0(rec:R362)(a0:dQ)(a1:aW):((List aC)×Int)→TP (((List aC)×Int)⊕((List aC)⊕aC))
 | (v4,v5)=>.ite 1 (decide (v5<(a1.Args.length:Int))) (.grd 1 (0≤v5∧v5<(a1.Args.length:Int)) <| .ca 6 (rec.2 (a0,a1.Args.getD v5.toNat default)) fun r7=>.bs 0 false bM ([r7]:List aC) <| .grd 1 ((v4.length+([r7]:List aC).length)*32≤140737488355328) <| .cv 0 [.ap 44 bM v4 ([r7]:List aC)] <| .cv 3 [.rn 44 5] <| .ret 0 (.inl (v4++([r7]:List aC),i64.wrap (v5+1)))) (.ret 0 (.inr (.inl v4)))
def T362(rec:R362)(a0:dQ)(a1:aW):TP aC:=.ite 6 (a1.Op==21) (.dg 3 (0≤(0:Int)∧(0:Int)<(a1.Args.length:Int)) <| .dc 5 [.t (fW a0),.t (cJ (a1.Args.getD (0:Int).toNat default))] (rec.2 (a0,a1.Args.getD (0:Int).toNat default)) fun r1=>.dr 0 0 [(2,false,[]),(3,false,[]),(4,false,[])] [0,1,2,3,4,9,10,11] <| .ite 0 (r1.N==1) (.dg 3 (0≤(1:Int)∧(1:Int)<(a1.Args.length:Int)) <| .dc 5 [.t (fW a0),.t (cJ (a1.Args.getD (1:Int).toNat default))] (rec.2 (a0,a1.Args.getD (1:Int).toNat default)) fun r2=>.dr 0 0 [(2,false,[]),(3,false,[]),(4,false,[6])] [0,1,2,3,4,9,10,11,12,13,14,15,16,17,18,19] <| .ret 0 r2) (.dg 3 (0≤(2:Int)∧(2:Int)<(a1.Args.length:Int)) <| .dc 5 [.t (fW a0),.t (cJ (a1.Args.getD (2:Int).toNat default))] (rec.2 (a0,a1.Args.getD (2:Int).toNat default)) fun r3=>.dr 0 0 [(2,false,[]),(3,false,[]),(4,false,[6])] [0,1,2,3,4,9,10,11,12,13,14,15,16,17,18,19] <| .ret 0 r3)) (.cv 5 [.th 5 5 67 3 (eF bM ([]:List aC))] <| .lp 0 (fun ((v4,v5):(List aC)×Int)=>⟨[(2,.ptr 2 0),(3,.ptr 3 0),(4,.ptr 4 0),(5,.own 5),(33,.t (.lz (.exprs (a1.Args)))),(34,tI (a1.Args.length:Int)),(35,tI v5)],[(2,.box ((cGFrame a0).map .t)),(3,.box ((cO a1).map .t)),(4,.box [tI 0,tI 0,.t (.str (⟨#[]⟩))]),(5,.arr 67 3 (v4.length) (eF bM v4))]⟩) (fun (b6:(List aC))=>⟨[(2,.ptr 2 0),(3,.ptr 3 0),(4,.ptr 4 0),(5,.own 5)],[(2,.box ((cGFrame a0).map .t)),(3,.box ((cO a1).map .t)),(4,.box [tI 0,tI 0,.t (.str (⟨#[]⟩))]),(5,.arr 67 3 (b6.length) (eF bM b6))]⟩) 0 (([]:List aC),0) (T362_L0 rec a0 a1) fun b6=>.ite 4 (a1.Op==0) (.ca 2 (gU a1.N) fun r8=>.ret 1 r8) (.ite 2 (a1.Op==1) (.ret 4 (aC.mk 1 0 a1.S)) (.ite 2 (a1.Op==2) (.ca 3 (iN (a1.N==1)) fun r9=>.ret 1 r9) (.ite 2 (a1.Op==3) (.grd 5 (0≤a1.N∧a1.N<(a0.row_.length:Int)) <| .ret 2 (a0.row_.getD (a1.N).toNat default)) (.ite 2 (a1.Op==4) (.grd 5 (0≤a1.N∧a1.N<(a0.params_.length:Int)) <| .ret 2 (a0.params_.getD (a1.N).toNat default)) (.ite 2 (a1.Op==5) (.ca 2 (gU a0.time_) fun r10=>.ret 1 r10) (.ite 2 (a1.Op==6) (.grd 2 (0≤(0:Int)∧(0:Int)<(b6.length:Int)) <| .grd 2 ((0:Int).toNat<b6.length) <| .ca 1 (iN (((b6.getD (0:Int).toNat default).N)==0)) fun r11=>.ret 1 r11) (.ite 2 (a1.Op==7) (.grd 2 (0≤(0:Int)∧(0:Int)<(b6.length:Int)) <| .grd 2 ((0:Int).toNat<b6.length) <| .ca 1 (gU (i64.wrap (0-((b6.getD (0:Int).toNat default).N)))) fun r12=>.ret 1 r12) (.ite 2 (a1.Op==20) (.grd 2 (0≤(0:Int)∧(0:Int)<(b6.length:Int)) <| .grd 2 ((0:Int).toNat<b6.length) <| .ca 1 (gU (((b6.getD (0:Int).toNat default).S:ByteArray).size:Int)) fun r13=>.ret 1 r13) (.ite 2 (a1.Op==22) (.cv 0 [.fr 5 (eL bM b6)] <| .dg 10 (0≤a1.N∧a1.N<(a0.funcs_.length:Int)) <| .dc 13 [.agg [.t (eL bA (a0.funcs_)),tI a0.time_,.nil,tV b6],.t (cJ ((a0.funcs_.getD (a1.N).toNat default).Body))] (rec.2 ((dQ.mk a0.funcs_ a0.time_ ([]:List aC) b6),(a0.funcs_.getD (a1.N).toNat default).Body)) fun r14=>.dr 0 0 [(2,false,[]),(3,false,[]),(4,false,[14])] [2,3,4,5,46,47,48,49,53,54,58,59,64,65,72,73,80,81,85,86,93,94,101,102,109,110] <| .ret 0 r14) (.mk (K:=Int) 0 mF <| .cv 0 [.gp 125 mF (([]:List (Int×Nat)):List (Int×Nat)) (8:Int)] <| .upd 0 mF (mdel ([]:List (Int×Nat)) (8:Int):List (Int×Nat)) (8:Int) <| .cv 0 [.fd 125 (fun c:Nat=>T.fv c) (([]:List (Int×Nat)):List (Int×Nat)) (8:Int) (225:Nat)] <| .cv 0 [.gp 125 mF (fm1:List (Int×Nat)) (9:Int)] <| .upd 0 mF (mdel fm1 (9:Int):List (Int×Nat)) (9:Int) <| .cv 0 [.fd 125 (fun c:Nat=>T.fv c) (fm1:List (Int×Nat)) (9:Int) (226:Nat)] <| .cv 0 [.gp 125 mF (fm2:List (Int×Nat)) (10:Int)] <| .upd 0 mF (mdel fm2 (10:Int):List (Int×Nat)) (10:Int) <| .cv 0 [.fd 125 (fun c:Nat=>T.fv c) (fm2:List (Int×Nat)) (10:Int) (227:Nat)] <| .cv 0 [.gp 125 mF (fm3:List (Int×Nat)) (11:Int)] <| .upd 0 mF (mdel fm3 (11:Int):List (Int×Nat)) (11:Int) <| .cv 0 [.fd 125 (fun c:Nat=>T.fv c) (fm3:List (Int×Nat)) (11:Int) (228:Nat)] <| .cv 0 [.gp 125 mF (fm4:List (Int×Nat)) (12:Int)] <| .upd 0 mF (mdel fm4 (12:Int):List (Int×Nat)) (12:Int) <| .cv 0 [.fd 125 (fun c:Nat=>T.fv c) (fm4:List (Int×Nat)) (12:Int) (229:Nat)] <| .cv 0 [.gp 125 mF (fm5:List (Int×Nat)) (13:Int)] <| .upd 0 mF (mdel fm5 (13:Int):List (Int×Nat)) (13:Int) <| .cv 0 [.fd 125 (fun c:Nat=>T.fv c) (fm5:List (Int×Nat)) (13:Int) (230:Nat)] <| .cv 0 [.gp 125 mF (fm6:List (Int×Nat)) (14:Int)] <| .upd 0 mF (mdel fm6 (14:Int):List (Int×Nat)) (14:Int) <| .cv 0 [.fd 125 (fun c:Nat=>T.fv c) (fm6:List (Int×Nat)) (14:Int) (231:Nat)] <| .cv 0 [.gp 125 mF (fm7:List (Int×Nat)) (15:Int)] <| .upd 0 mF (mdel fm7 (15:Int):List (Int×Nat)) (15:Int) <| .cv 0 [.fd 125 (fun c:Nat=>T.fv c) (fm7:List (Int×Nat)) (15:Int) (232:Nat)] <| .cv 0 [.gp 125 mF (fm8:List (Int×Nat)) (16:Int)] <| .upd 0 mF (mdel fm8 (16:Int):List (Int×Nat)) (16:Int) <| .cv 0 [.fd 125 (fun c:Nat=>T.fv c) (fm8:List (Int×Nat)) (16:Int) (233:Nat)] <| .cv 0 [.gp 125 mF (fm9:List (Int×Nat)) (17:Int)] <| .upd 0 mF (mdel fm9 (17:Int):List (Int×Nat)) (17:Int) <| .cv 0 [.fd 125 (fun c:Nat=>T.fv c) (fm9:List (Int×Nat)) (17:Int) (234:Nat)] <| .cv 0 [.gp 125 mF (fm10:List (Int×Nat)) (18:Int)] <| .upd 0 mF (mdel fm10 (18:Int):List (Int×Nat)) (18:Int) <| .cv 0 [.fd 125 (fun c:Nat=>T.fv c) (fm10:List (Int×Nat)) (18:Int) (235:Nat)] <| .cv 0 [.gp 125 mF (fm11:List (Int×Nat)) (19:Int)] <| .upd 0 mF (mdel fm11 (19:Int):List (Int×Nat)) (19:Int) <| .jn 2 0 (fun ((j15,j16,j17):Int×Int×ByteArray)=>⟨[(4,.ptr 4 0)],[(4,.box [tI j15,tI j16,.t (.str j17)])]⟩) (.cv 0 [.fd 125 (fun c:Nat=>T.fv c) (fm11:List (Int×Nat)) (19:Int) (236:Nat)] <| .dlk 3 240 125 (fm12:List (Int×Nat)) a1.Op fun c18=>match c18 with | 225=>.dg 5 (0≤(0:Int)∧(0:Int)<(b6.length:Int)) <| .dg 6 ((0:Int).toNat<b6.length) <| .dg 8 (0≤(1:Int)∧(1:Int)<(b6.length:Int)) <| .dg 9 ((1:Int).toNat<b6.length) <| .dc 11 [.t (dJ (bQ.mk (b6.getD (0:Int).toNat default) (b6.getD (1:Int).toNat default)))] (G380_ok (bQ.mk (b6.getD (0:Int).toNat default) (b6.getD (1:Int).toNat default))) fun r19=>.dr 0 0 [(2,false,[]),(3,false,[]),(4,false,[12]),(5,false,[]),(125,false,[])] [2,3,4,5,8,46,47,48,49,53,54,58,59,64,65,72,73,80,81,85,86,93,94,101,102,109,110,125,126] <| .ret 0 (r19.Kind,r19.N,r19.S) | 226=>.dg 5 (0≤(0:Int)∧(0:Int)<(b6.length:Int)) <| .dg 6 ((0:Int).toNat<b6.length) <| .dg 8 (0≤(1:Int)∧(1:Int)<(b6.length:Int)) <| .dg 9 ((1:Int).toNat<b6.length) <| .dc 11 [.t (dJ (bQ.mk (b6.getD (0:Int).toNat default) (b6.getD (1:Int).toNat default)))] (G381_ok (bQ.mk (b6.getD (0:Int).toNat default) (b6.getD (1:Int).toNat default))) fun r20=>.dr 0 0 [(2,false,[]),(3,false,[]),(4,false,[12]),(5,false,[]),(125,false,[])] [2,3,4,5,8,46,47,48,49,53,54,58,59,64,65,72,73,80,81,85,86,93,94,101,102,109,110,125,126] <| .ret 0 (r20.Kind,r20.N,r20.S) | 227=>.dg 5 (0≤(0:Int)∧(0:Int)<(b6.length:Int)) <| .dg 6 ((0:Int).toNat<b6.length) <| .dg 8 (0≤(1:Int)∧(1:Int)<(b6.length:Int)) <| .dg 9 ((1:Int).toNat<b6.length) <| .dc 11 [.t (dJ (bQ.mk (b6.getD (0:Int).toNat default) (b6.getD (1:Int).toNat default)))] (G382_ok (bQ.mk (b6.getD (0:Int).toNat default) (b6.getD (1:Int).toNat default))) fun r21=>.dr 0 0 [(2,false,[]),(3,false,[]),(4,false,[12]),(5,false,[]),(125,false,[])] [2,3,4,5,8,46,47,48,49,53,54,58,59,64,65,72,73,80,81,85,86,93,94,101,102,109,110,125,126] <| .ret 0 (r21.Kind,r21.N,r21.S) | 228=>.dg 5 (0≤(0:Int)∧(0:Int)<(b6.length:Int)) <| .dg 6 ((0:Int).toNat<b6.length) <| .dg 8 (0≤(1:Int)∧(1:Int)<(b6.length:Int)) <| .dg 9 ((1:Int).toNat<b6.length) <| .dc 11 [.t (dJ (bQ.mk (b6.getD (0:Int).toNat default) (b6.getD (1:Int).toNat default)))] (G383_ok (bQ.mk (b6.getD (0:Int).toNat default) (b6.getD (1:Int).toNat default))) fun r22=>.dr 0 0 [(2,false,[]),(3,false,[]),(4,false,[12]),(5,false,[]),(125,false,[])] [2,3,4,5,8,46,47,48,49,53,54,58,59,64,65,72,73,80,81,85,86,93,94,101,102,109,110,125,126] <| .ret 0 (r22.Kind,r22.N,r22.S) | 229=>.dg 5 (0≤(0:Int)∧(0:Int)<(b6.length:Int)) <| .dg 6 ((0:Int).toNat<b6.length) <| .dg 8 (0≤(1:Int)∧(1:Int)<(b6.length:Int)) <| .dg 9 ((1:Int).toNat<b6.length) <| .dc 11 [.t (dJ (bQ.mk (b6.getD (0:Int).toNat default) (b6.getD (1:Int).toNat default)))] (G384_ok (bQ.mk (b6.getD (0:Int).toNat default) (b6.getD (1:Int).toNat default))) fun r23=>.dr 0 0 [(2,false,[]),(3,false,[]),(4,false,[12]),(5,false,[]),(125,false,[])] [2,3,4,5,8,46,47,48,49,53,54,58,59,64,65,72,73,80,81,85,86,93,94,101,102,109,110,125,126] <| .ret 0 (r23.Kind,r23.N,r23.S) | 230=>.dg 5 (0≤(0:Int)∧(0:Int)<(b6.length:Int)) <| .dg 6 ((0:Int).toNat<b6.length) <| .dg 8 (0≤(1:Int)∧(1:Int)<(b6.length:Int)) <| .dg 9 ((1:Int).toNat<b6.length) <| .dc 11 [.t (dJ (bQ.mk (b6.getD (0:Int).toNat default) (b6.getD (1:Int).toNat default)))] (G385_ok (bQ.mk (b6.getD (0:Int).toNat default) (b6.getD (1:Int).toNat default))) fun r24=>.dr 0 0 [(2,false,[]),(3,false,[]),(4,false,[12]),(5,false,[]),(125,false,[])] [2,3,4,5,8,46,47,48,49,53,54,58,59,64,65,72,73,80,81,85,86,93,94,101,102,109,110,125,126] <| .ret 0 (r24.Kind,r24.N,r24.S) | 231=>.dg 5 (0≤(0:Int)∧(0:Int)<(b6.length:Int)) <| .dg 6 ((0:Int).toNat<b6.length) <| .dg 8 (0≤(1:Int)∧(1:Int)<(b6.length:Int)) <| .dg 9 ((1:Int).toNat<b6.length) <| .dc 11 [.t (dJ (bQ.mk (b6.getD (0:Int).toNat default) (b6.getD (1:Int).toNat default)))] (G386_ok (bQ.mk (b6.getD (0:Int).toNat default) (b6.getD (1:Int).toNat default))) fun r25=>.dr 0 0 [(2,false,[]),(3,false,[]),(4,false,[12]),(5,false,[]),(125,false,[])] [2,3,4,5,8,46,47,48,49,53,54,58,59,64,65,72,73,80,81,85,86,93,94,101,102,109,110,125,126] <| .ret 0 (r25.Kind,r25.N,r25.S) | 232=>.dg 5 (0≤(0:Int)∧(0:Int)<(b6.length:Int)) <| .dg 6 ((0:Int).toNat<b6.length) <| .dg 8 (0≤(1:Int)∧(1:Int)<(b6.length:Int)) <| .dg 9 ((1:Int).toNat<b6.length) <| .dc 11 [.t (dJ (bQ.mk (b6.getD (0:Int).toNat default) (b6.getD (1:Int).toNat default)))] (G387_ok (bQ.mk (b6.getD (0:Int).toNat default) (b6.getD (1:Int).toNat default))) fun r26=>.dr 0 0 [(2,false,[]),(3,false,[]),(4,false,[12]),(5,false,[]),(125,false,[])] [2,3,4,5,8,46,47,48,49,53,54,58,59,64,65,72,73,80,81,85,86,93,94,101,102,109,110,125,126] <| .ret 0 (r26.Kind,r26.N,r26.S) | 233=>.dg 5 (0≤(0:Int)∧(0:Int)<(b6.length:Int)) <| .dg 6 ((0:Int).toNat<b6.length) <| .dg 8 (0≤(1:Int)∧(1:Int)<(b6.length:Int)) <| .dg 9 ((1:Int).toNat<b6.length) <| .dc 11 [.t (dJ (bQ.mk (b6.getD (0:Int).toNat default) (b6.getD (1:Int).toNat default)))] (G388_ok (bQ.mk (b6.getD (0:Int).toNat default) (b6.getD (1:Int).toNat default))) fun r27=>.dr 0 0 [(2,false,[]),(3,false,[]),(4,false,[12]),(5,false,[]),(125,false,[])] [2,3,4,5,8,46,47,48,49,53,54,58,59,64,65,72,73,80,81,85,86,93,94,101,102,109,110,125,126] <| .ret 0 (r27.Kind,r27.N,r27.S) | 234=>.dg 5 (0≤(0:Int)∧(0:Int)<(b6.length:Int)) <| .dg 6 ((0:Int).toNat<b6.length) <| .dg 8 (0≤(1:Int)∧(1:Int)<(b6.length:Int)) <| .dg 9 ((1:Int).toNat<b6.length) <| .dc 11 [.t (dJ (bQ.mk (b6.getD (0:Int).toNat default) (b6.getD (1:Int).toNat default)))] (G389_ok (bQ.mk (b6.getD (0:Int).toNat default) (b6.getD (1:Int).toNat default))) fun r28=>.dr 0 0 [(2,false,[]),(3,false,[]),(4,false,[12]),(5,false,[]),(125,false,[])] [2,3,4,5,8,46,47,48,49,53,54,58,59,64,65,72,73,80,81,85,86,93,94,101,102,109,110,125,126] <| .ret 0 (r28.Kind,r28.N,r28.S) | 235=>.dg 5 (0≤(0:Int)∧(0:Int)<(b6.length:Int)) <| .dg 6 ((0:Int).toNat<b6.length) <| .dg 8 (0≤(1:Int)∧(1:Int)<(b6.length:Int)) <| .dg 9 ((1:Int).toNat<b6.length) <| .dc 11 [.t (dJ (bQ.mk (b6.getD (0:Int).toNat default) (b6.getD (1:Int).toNat default)))] (G390_ok (bQ.mk (b6.getD (0:Int).toNat default) (b6.getD (1:Int).toNat default))) fun r29=>.dr 0 0 [(2,false,[]),(3,false,[]),(4,false,[12]),(5,false,[]),(125,false,[])] [2,3,4,5,8,46,47,48,49,53,54,58,59,64,65,72,73,80,81,85,86,93,94,101,102,109,110,125,126] <| .ret 0 (r29.Kind,r29.N,r29.S) | 236=>.dg 5 (0≤(0:Int)∧(0:Int)<(b6.length:Int)) <| .dg 6 ((0:Int).toNat<b6.length) <| .dg 8 (0≤(1:Int)∧(1:Int)<(b6.length:Int)) <| .dg 9 ((1:Int).toNat<b6.length) <| .dc 11 [.t (dJ (bQ.mk (b6.getD (0:Int).toNat default) (b6.getD (1:Int).toNat default)))] (G391_ok (bQ.mk (b6.getD (0:Int).toNat default) (b6.getD (1:Int).toNat default))) fun r30=>.dr 0 0 [(2,false,[]),(3,false,[]),(4,false,[12]),(5,false,[]),(125,false,[])] [2,3,4,5,8,46,47,48,49,53,54,58,59,64,65,72,73,80,81,85,86,93,94,101,102,109,110,125,126] <| .ret 0 (r30.Kind,r30.N,r30.S) | _=>.no) fun (j15,j16,j17)=>.ret 0 (aC.mk j15 j16 j17))))))))))))
theorem T362_ok(rec:R362)(a0:dQ)(a1:aW):Con Tryz.prog 171 [.t (fW a0),.t (cJ a1)] (T362 rec a0 a1).den (fun (y:aC)=>.t (cE y)):=con Tryz.func171 aR (T362 rec a0 a1)
def H362(a:dQ×aW):Option aC:=fixF (C:=fun (a:dQ×aW) (x:Option aC)=>Con Tryz.prog 171 [.t (fW a.1),.t (cJ a.2)] x (fun (y:aC)=>.t (cE y))) (fun a=>⟨bJ Tryz.func171 (by kernel_rfl),fun _ h=>nomatch h⟩) (fun rec a=>T362 rec a.1 a.2) (fun rec a=>T362_ok rec a.1 a.2) a
theorem H362_ok(a:dQ×aW):Con Tryz.prog 171 [.t (fW a.1),.t (cJ a.2)] (H362 a) (fun (y:aC)=>.t (cE y)):=fixF_ok (C:=fun (a:dQ×aW) (x:Option aC)=>Con Tryz.prog 171 [.t (fW a.1),.t (cJ a.2)] x (fun (y:aC)=>.t (cE y))) _ _ _ a
def G362(a0:dQ)(a1:aW):Option aC:=H362 (a0,a1)
theorem G362_ok(a0:dQ)(a1:aW):Con Tryz.prog 171 [.t (fW a0),.t (cJ a1)] (G362 a0 a1) (fun (y:aC)=>.t (cE y)):=H362_ok (a0,a1)
def T344(a0:List aF)(a1:aW)(a2:Int)(a3:List aC):TP aC:=.cv 7 [.sl 12 (fW (dQ.mk a0 a2 a3 ([]:List aC)))] <| .ca 0 (G362_ok (dQ.mk a0 a2 a3 ([]:List aC)) a1) fun r1=>.ret 1 r1
def G344(a0:List aF)(a1:aW)(a2:Int)(a3:List aC):Option aC:=(T344 a0 a1 a2 a3).den
theorem G344_ok(a0:List aF)(a1:aW)(a2:Int)(a3:List aC):Con Tryz.prog 83 [.t (eL bA a0),.t (cJ a1),tI a2,tV a3] (G344 a0 a1 a2 a3) (fun (y:aC)=>.t (cE y)):=con Tryz.func83 aR (T344 a0 a1 a2 a3)
def T358s0_L1(a1:LD)(a2:Int)(a3:Int)(qu0:List aF)(qu1:aE)(qu2:Int)(qum:LM)(v2:Int):((List aN)×Int×Int)→TP (((List aN)×Int×Int)⊕(((List aN)×Int)⊕(List aN)))
 | (v7,v8,v9)=>.ite 1 (decide (v9<(qu1.Seq.length:Int))) (.grd 2 (0≤v9∧v9<(qu1.Seq.length:Int)) <| .dc 10 [.t (eL bA qu0),.t (cJ ((qu1.Seq.getD v9.toNat default).Pred)),tI ((a1.getD v2.toNat default).Time),tV ((a1.getD v2.toNat default).Row)] (G344_ok qu0 ((qu1.Seq.getD v9.toNat default).Pred) ((a1.getD v2.toNat default).Time) ((a1.getD v2.toNat default).Row)) fun r12=>.dr 4 0 [(9,false,[]),(11,false,[]),(14,false,[]),(30000,false,[]),(30001,false,[])] [0,2,3,9,11,12,13,14,15,16,17,41,42,43,44,45,46,47] <| .jn 0 0 (fun ((j13,j14):(List aN)×Int)=>⟨[(0,.ptr 30000 0),(2,tI a2),(3,tI a3),(9,.own 9),(11,.ptr 11 0),(12,tI j14),(15,tD a1),(16,tI (a1.length:Int)),(17,tI v2),(41,.t (eL iQ (qu1.Seq))),(42,tI (qu1.Seq.length:Int)),(43,tI v9)],[(9,.arr 171 2 (j13.length) (eF cC j13)),(11,.box ((aH (a1.getD v2.toNat default)).map .t)),(30000,bP qu0 qu1 30001 qu2),(30001,pD qum)]⟩) (.ite 0 (r12.N==1) (.grd 3 (0≤(v9:Int)) <| .ret 2 (v7,bitO .i64 v8 (iG .i64 1 v9))) (.ret 0 (v7,v8))) fun (j13,j14)=>.ret 2 (.inl (j13,j14,i64.wrap (v9+1)))) (.ret 0 (.inr (.inl (v7,v8))))
def T358s0_L2(a1:LD)(v2:Int)(b11:Int):((List aN)×Int)→TP (((List aN)×Int)⊕((List aN)⊕(List aN)))
 | (v15,v16)=>.ite 1 (decide (v16<((a1.getD v2.toNat default).N))) (.bs 5 false cC ([(aN.mk ((a1.getD v2.toNat default).Time) b11)]:List aN) <| .grd 1 ((v15.length+([(aN.mk ((a1.getD v2.toNat default).Time) b11)]:List aN).length)*16≤140737488355328) <| .cv 0 [.ap 76 cC v15 ([(aN.mk ((a1.getD v2.toNat default).Time) b11)]:List aN)] <| .cv 3 [.rn 76 9] <| .ret 0 (.inl (v15++([(aN.mk ((a1.getD v2.toNat default).Time) b11)]:List aN),i64.wrap (v16+1)))) (.ret 0 (.inr (.inl v15)))
def T358s0_L0(a1:LD)(a2:Int)(a3:Int)(qu0:List aF)(qu1:aE)(qu2:Int)(qum:LM):((List aN)×Int)→TP (((List aN)×Int)⊕((List aN)⊕(List aN)))
 | (v1,v2)=>.ite 1 (decide (v2<(a1.length:Int))) (.jn 0 2 (fun (j4:(List aN))=>⟨[(0,.ptr 30000 0),(2,tI a2),(3,tI a3),(9,.own 9),(15,tD a1),(16,tI (a1.length:Int)),(17,tI v2)],[(9,.arr 171 2 (j4.length) (eF cC j4)),(30000,bP qu0 qu1 30001 qu2),(30001,pD qum)]⟩) (.grd 1 (0≤v2∧v2<(a1.length:Int)) <| .jn 3 0 (fun ((j5,j6):(List aN)×Bool)=>⟨[(0,.ptr 30000 0),(2,tI a2),(3,tI a3),(9,.own 9),(11,.ptr 11 0),(15,tD a1),(16,tI (a1.length:Int)),(17,tI v2),(36,tB j6)],[(9,.arr 171 2 (j5.length) (eF cC j5)),(11,.box ((aH (a1.getD v2.toNat default)).map .t)),(30000,bP qu0 qu1 30001 qu2),(30001,pD qum)]⟩) (.dl 10 (decide (((a1.getD v2.toNat default).Time)≤(i64.wrap (a2-qu1.Size)))) (.dr 0 0 [(9,false,[]),(11,false,[]),(30000,false,[]),(30001,false,[])] [0,2,3,9,11,15,16,17,18,19,20] <| .ret 0 (v1,true)) (.dr 0 0 [(9,false,[]),(11,false,[]),(30000,false,[]),(30001,false,[])] [0,2,3,9,11,15,16,17,18,19,20] <| .ret 0 (v1,decide (((a1.getD v2.toNat default).Time)>a3)))) fun (j5,j6)=>.ite 0 j6 (.ret 0 j5) (.lp 8 (fun ((v7,v8,v9):(List aN)×Int×Int)=>⟨[(0,.ptr 30000 0),(2,tI a2),(3,tI a3),(9,.own 9),(11,.ptr 11 0),(12,tI v8),(15,tD a1),(16,tI (a1.length:Int)),(17,tI v2),(41,.t (eL iQ (qu1.Seq))),(42,tI (qu1.Seq.length:Int)),(43,tI v9)],[(9,.arr 171 2 (v7.length) (eF cC v7)),(11,.box ((aH (a1.getD v2.toNat default)).map .t)),(30000,bP qu0 qu1 30001 qu2),(30001,pD qum)]⟩) (fun ((b10,b11):(List aN)×Int)=>⟨[(0,.ptr 30000 0),(2,tI a2),(3,tI a3),(9,.own 9),(11,.ptr 11 0),(12,tI b11),(15,tD a1),(16,tI (a1.length:Int)),(17,tI v2)],[(9,.arr 171 2 (b10.length) (eF cC b10)),(11,.box ((aH (a1.getD v2.toNat default)).map .t)),(30000,bP qu0 qu1 30001 qu2),(30001,pD qum)]⟩) 2 (j5,0,0) (T358s0_L1 a1 a2 a3 qu0 qu1 qu2 qum v2) fun (b10,b11)=>.lp 3 (fun ((v15,v16):(List aN)×Int)=>⟨[(0,.ptr 30000 0),(2,tI a2),(3,tI a3),(9,.own 9),(11,.ptr 11 0),(12,tI b11),(15,tD a1),(16,tI (a1.length:Int)),(17,tI v2),(67,tI ((a1.getD v2.toNat default).N)),(68,tI v16)],[(9,.arr 171 2 (v15.length) (eF cC v15)),(11,.box ((aH (a1.getD v2.toNat default)).map .t)),(30000,bP qu0 qu1 30001 qu2),(30001,pD qum)]⟩) (fun (b17:(List aN))=>⟨[(0,.ptr 30000 0),(2,tI a2),(3,tI a3),(9,.own 9),(15,tD a1),(16,tI (a1.length:Int)),(17,tI v2)],[(9,.arr 171 2 (b17.length) (eF cC b17)),(30000,bP qu0 qu1 30001 qu2),(30001,pD qum)]⟩) 4 (b10,0) (T358s0_L2 a1 v2 b11) fun b17=>.ret 0 b17)) fun j4=>.ret 2 (.inl (j4,i64.wrap (v2+1)))) (.ret 0 (.inr (.inl v1)))
def T358s0(a1:LD)(a2:Int)(a3:Int)(qu0:List aF)(qu1:aE)(qu2:Int)(qum:LM):TP (List aN):=.cv 5 [.th 9 9 171 2 (eF cC ([]:List aN))] <| .lp 0 (fun ((v1,v2):(List aN)×Int)=>⟨[(0,.ptr 30000 0),(2,tI a2),(3,tI a3),(9,.own 9),(15,tD a1),(16,tI (a1.length:Int)),(17,tI v2)],[(9,.arr 171 2 (v1.length) (eF cC v1)),(30000,bP qu0 qu1 30001 qu2),(30001,pD qum)]⟩) (fun (b3:(List aN))=>⟨[(9,.own 9)],[(9,.arr 171 2 (b3.length) (eF cC b3)),(30000,bP qu0 qu1 30001 qu2),(30001,pD qum)]⟩) 0 (([]:List aN),0) (T358s0_L0 a1 a2 a3 qu0 qu1 qu2 qum) fun b3=>.cv 2 [.fr 9 (eL cC b3)] <| .ret 0 b3
def G358s0(a1:LD)(a2:Int)(a3:Int)(qu0:List aF)(qu1:aE)(qu2:Int)(qum:LM):Option (List aN):=(T358s0 a1 a2 a3 qu0 qu1 qu2 qum).den
theorem G358s0_ok(a1:LD)(a2:Int)(a3:Int)(qu0:List aF)(qu1:aE)(qu2:Int)(qum:LM):cW Tryz.prog 161 [.ptr 30000 0,tD a1,tI a2,tI a3] [(30000,bP qu0 qu1 30001 qu2),(30001,pD qum)] [30000,30001] (G358s0 a1 a2 a3 qu0 qu1 qu2 qum) (fun (y:(List aN))=>.t (eL cC y)) (fun (y:(List aN))=>[(30000,bP qu0 qu1 30001 qu2),(30001,pD qum)]):=fK Tryz.func161 aR (T358s0 a1 a2 a3 qu0 qu1 qu2 qum)
def jE(qu0:List aF)(qu1:aE)(qu2:Int)(qum:LM):(Int×Int)→TP ((Int×Int)⊕((Int)⊕Int))
 | (v1,v2)=>.ite 1 (decide (v2<(qu1.Seq.length:Int))) (.grd 2 (0≤v2∧v2<(qu1.Seq.length:Int)) <| .jn 8 0 (fun (j4:Bool)=>⟨[(0,tI v1),(4,tI v2),(10,.t (eL iQ (qu1.Seq))),(11,tI (qu1.Seq.length:Int)),(12,tI v2),(26,tB j4)],[(30000,bP qu0 qu1 30001 qu2),(30001,pD qum),(30002,.box [.ptr 30000 0])]⟩) (.ite 0 (((qu1.Seq.getD v2.toNat default).Rep)==2) (.grd 3 (0≤(v2:Int)) <| .ret 3 ((gC .i64 (bF .i64 v1 v2) 1)==1)) (.ret 6 false)) fun j4=>.jn 0 0 (fun (j5:Int)=>⟨[(0,tI j5),(10,.t (eL iQ (qu1.Seq))),(11,tI (qu1.Seq.length:Int)),(12,tI v2)],[(30000,bP qu0 qu1 30001 qu2),(30001,pD qum),(30002,.box [.ptr 30000 0])]⟩) (.ite 0 j4 (.grd 4 (0≤((i64.wrap (v2+1)):Int)) <| .ret 2 (bitO .i64 v1 (iG .i64 1 (i64.wrap (v2+1))))) (.ret 0 v1)) fun j5=>.ret 2 (.inl (j5,i64.wrap (v2+1)))) (.ret 0 (.inr (.inl v1)))
def T375s0(a0:Int)(qu0:List aF)(qu1:aE)(qu2:Int)(qum:LM):TP Int:=.lp 8 (fun ((v1,v2):Int×Int)=>⟨[(0,tI v1),(10,.t (eL iQ (qu1.Seq))),(11,tI (qu1.Seq.length:Int)),(12,tI v2)],[(30000,bP qu0 qu1 30001 qu2),(30001,pD qum),(30002,.box [.ptr 30000 0])]⟩) (fun (b3:Int)=>⟨[(0,tI b3)],[(30000,bP qu0 qu1 30001 qu2),(30001,pD qum),(30002,.box [.ptr 30000 0])]⟩) 0 (a0,0) (jE qu0 qu1 qu2 qum) fun b3=>.ret 2 b3
def G375s0(a0:Int)(qu0:List aF)(qu1:aE)(qu2:Int)(qum:LM):Option Int:=(T375s0 a0 qu0 qu1 qu2 qum).den
theorem G375s0_ok(a0:Int)(qu0:List aF)(qu1:aE)(qu2:Int)(qum:LM):cW Tryz.prog 218 [tI a0,.ptr 30002 0] [(30000,bP qu0 qu1 30001 qu2),(30001,pD qum),(30002,.box [.ptr 30000 0])] [30000,30001,30002] (G375s0 a0 qu0 qu1 qu2 qum) tI (fun (y:Int)=>[(30000,bP qu0 qu1 30001 qu2),(30001,pD qum),(30002,.box [.ptr 30000 0])]):=fK Tryz.func218 aR (T375s0 a0 qu0 qu1 qu2 qum)
def T359s0_L0(qu0:List aF)(qu1:aE)(qu2:Int)(qum:LM):(Int×Int)→TP ((Int×Int)⊕((Int)⊕(Int×Int)))
 | (v1,v2)=>.ite 1 (decide (v2<(qu1.Seq.length:Int))) (.grd 2 (0≤v2∧v2<(qu1.Seq.length:Int)) <| .jn 7 0 (fun (j4:Int)=>⟨[(1,.ptr 1 0),(4,.ptr 4 0),(12,.t (eL iQ (qu1.Seq))),(13,tI (qu1.Seq.length:Int)),(14,tI v2)],[(1,.box [.ptr 30000 0]),(4,.box (([.int .i64 j4]).map .t)),(30000,bP qu0 qu1 30001 qu2),(30001,pD qum)]⟩) (.ite 0 (((qu1.Seq.getD v2.toNat default).Rep)==1) (.dg 2 (0≤(v2:Int)) <| .dr 0 0 [(1,false,[]),(4,false,[4]),(6,false,[]),(30000,false,[]),(30001,false,[])] [1,4,5,6,12,13,14,15,16,17,18,19,20,21] <| .ret 0 (bitO .i64 v1 (iG .i64 1 v2))) (.ret 0 v1)) fun j4=>.ret 2 (.inl (j4,i64.wrap (v2+1)))) (.ret 0 (.inr (.inl v1)))
def T359s0(qu0:List aF)(qu1:aE)(qu2:Int)(qum:LM):TP (Int×Int):=.lp 12 (fun ((v1,v2):Int×Int)=>⟨[(1,.ptr 1 0),(4,.ptr 4 0),(12,.t (eL iQ (qu1.Seq))),(13,tI (qu1.Seq.length:Int)),(14,tI v2)],[(1,.box [.ptr 30000 0]),(4,.box (([.int .i64 v1]).map .t)),(30000,bP qu0 qu1 30001 qu2),(30001,pD qum)]⟩) (fun (b3:Int)=>⟨[(1,.ptr 1 0),(4,.ptr 4 0)],[(1,.box [.ptr 30000 0]),(4,.box (([.int .i64 b3]).map .t)),(30000,bP qu0 qu1 30001 qu2),(30001,pD qum)]⟩) 0 (0,0) (T359s0_L0 qu0 qu1 qu2 qum) fun b3=>.cv 4 [.rn 1 30002] <| .ch 0 [] (G375s0_ok 1 qu0 qu1 qu2 qum) fun r5=>.cv 3 [.rn 4 41011,.rn 7 41012,.rn 30002 41013] <| .ret 0 (r5,b3)
def G359s0(qu0:List aF)(qu1:aE)(qu2:Int)(qum:LM):Option (Int×Int):=(T359s0 qu0 qu1 qu2 qum).den
theorem G359s0_ok(qu0:List aF)(qu1:aE)(qu2:Int)(qum:LM):cW Tryz.prog 162 [.ptr 30000 0] [(30000,bP qu0 qu1 30001 qu2),(30001,pD qum)] [30000,30001] (G359s0 qu0 qu1 qu2 qum) (fun (y:Int×Int)=>.tup [tI y.1,.fn (.func 219) 0 [.ptr 41012 0,.ptr 41011 0]]) (fun (y:Int×Int)=>[(30000,bP qu0 qu1 30001 qu2),(30001,pD qum),(41011,.box (([.int .i64 (y.2)]).map .t)),(41012,.box [.fn (.func 218) 0 [.ptr 41013 0]]),(41013,.box [.ptr 30000 0])]):=fK Tryz.func162 aR (T359s0 qu0 qu1 qu2 qum)
def T375s1_L0(qu0:List aF)(qu1:aE)(qu2:Int)(qum:LM):(Int×Int)→TP ((Int×Int)⊕((Int)⊕Int))
 | (v1,v2)=>.ite 1 (decide (v2<(qu1.Seq.length:Int))) (.grd 2 (0≤v2∧v2<(qu1.Seq.length:Int)) <| .jn 8 0 (fun (j4:Bool)=>⟨[(0,tI v1),(4,tI v2),(10,.t (eL iQ (qu1.Seq))),(11,tI (qu1.Seq.length:Int)),(12,tI v2),(26,tB j4)],[(30000,bP qu0 qu1 30001 qu2),(30001,pD qum),(30004,.box [.ptr 30000 0])]⟩) (.ite 0 (((qu1.Seq.getD v2.toNat default).Rep)==2) (.grd 3 (0≤(v2:Int)) <| .ret 3 ((gC .i64 (bF .i64 v1 v2) 1)==1)) (.ret 6 false)) fun j4=>.jn 0 0 (fun (j5:Int)=>⟨[(0,tI j5),(10,.t (eL iQ (qu1.Seq))),(11,tI (qu1.Seq.length:Int)),(12,tI v2)],[(30000,bP qu0 qu1 30001 qu2),(30001,pD qum),(30004,.box [.ptr 30000 0])]⟩) (.ite 0 j4 (.grd 4 (0≤((i64.wrap (v2+1)):Int)) <| .ret 2 (bitO .i64 v1 (iG .i64 1 (i64.wrap (v2+1))))) (.ret 0 v1)) fun j5=>.ret 2 (.inl (j5,i64.wrap (v2+1)))) (.ret 0 (.inr (.inl v1)))
def T375s1(a0:Int)(qu0:List aF)(qu1:aE)(qu2:Int)(qum:LM):TP Int:=.lp 8 (fun ((v1,v2):Int×Int)=>⟨[(0,tI v1),(10,.t (eL iQ (qu1.Seq))),(11,tI (qu1.Seq.length:Int)),(12,tI v2)],[(30000,bP qu0 qu1 30001 qu2),(30001,pD qum),(30004,.box [.ptr 30000 0])]⟩) (fun (b3:Int)=>⟨[(0,tI b3)],[(30000,bP qu0 qu1 30001 qu2),(30001,pD qum),(30004,.box [.ptr 30000 0])]⟩) 0 (a0,0) (T375s1_L0 qu0 qu1 qu2 qum) fun b3=>.ret 2 b3
def G375s1(a0:Int)(qu0:List aF)(qu1:aE)(qu2:Int)(qum:LM):Option Int:=(T375s1 a0 qu0 qu1 qu2 qum).den
theorem G375s1_ok(a0:Int)(qu0:List aF)(qu1:aE)(qu2:Int)(qum:LM):cW Tryz.prog 218 [tI a0,.ptr 30004 0] [(30000,bP qu0 qu1 30001 qu2),(30001,pD qum),(30004,.box [.ptr 30000 0])] [30000,30001,30004] (G375s1 a0 qu0 qu1 qu2 qum) tI (fun (y:Int)=>[(30000,bP qu0 qu1 30001 qu2),(30001,pD qum),(30004,.box [.ptr 30000 0])]):=fK Tryz.func218 aR (T375s1 a0 qu0 qu1 qu2 qum)
def T376s0(a0:Int)(a1:aN)(qu0:List aF)(qu1:aE)(qu2:Int)(qum:LM)(qx0:Int):TP Int:=.gd 10 (0≤(1:Int)) (by decide) <| .ch 4 [] (G375s1_ok (bitO .i64 (iG .i64 (gC .i64 a0 a1.fits_) 1) (gC .i64 (gC .i64 a0 a1.fits_) qx0)) qu0 qu1 qu2 qum) fun r1=>.ret 1 r1
def G376s0(a0:Int)(a1:aN)(qu0:List aF)(qu1:aE)(qu2:Int)(qum:LM)(qx0:Int):Option Int:=(T376s0 a0 a1 qu0 qu1 qu2 qum qx0).den
theorem G376s0_ok(a0:Int)(a1:aN)(qu0:List aF)(qu1:aE)(qu2:Int)(qum:LM)(qx0:Int):cW Tryz.prog 219 [tI a0,.t (eGPlace a1),.ptr 30002 0,.ptr 30003 0] [(30000,bP qu0 qu1 30001 qu2),(30001,pD qum),(30002,.box [.fn (.func 218) 0 [.ptr 30004 0]]),(30003,.box (([.int .i64 qx0]).map .t)),(30004,.box [.ptr 30000 0])] [30000,30001,30002,30003,30004] (G376s0 a0 a1 qu0 qu1 qu2 qum qx0) tI (fun (y:Int)=>[(30000,bP qu0 qu1 30001 qu2),(30001,pD qum),(30002,.box [.fn (.func 218) 0 [.ptr 30004 0]]),(30003,.box (([.int .i64 qx0]).map .t)),(30004,.box [.ptr 30000 0])]):=fK Tryz.func219 aR (T376s0 a0 a1 qu0 qu1 qu2 qum qx0)
def T341s0_L1(a1:LD)(a2:Int)(qu0:List aF)(qu1:aE)(qu2:Int)(qum:LM)(r1:(List aN))(r2:Int×Int)(v5:Int):((List Int)×Int×Int)→TP (((List Int)×Int×Int)⊕((List Int)⊕(((List Int)×Int)⊕((List Int)⊕LD))))
 | (v7,v8,v9)=>.jn 0 0 (fun ((j11,j12):(List Int)×Bool)=>⟨[(0,.ptr 30000 0),(1,tD a1),(2,tI a2),(9,.t (eL cC r1)),(10,tI r2.1),(11,.fn (.func 219) 0 [.ptr 18212 0,.ptr 18211 0]),(12,tI (iG .i64 1 (qu1.Seq.length:Int))),(13,.own 13),(14,tI v5),(15,.ptr 15 0),(16,tI v8),(17,tI v9),(46,.t (eL cC r1)),(47,tI (r1.length:Int)),(48,tI v5),(78,tB j12)],[(13,.arr 3 1 (j11.length) (eF bC j11)),(15,.box ((cC (r1.getD v5.toNat default)).map .t)),(18211,.box (([.int .i64 (r2.2)]).map .t)),(18212,.box [.fn (.func 218) 0 [.ptr 18213 0]]),(18213,.box [.ptr 30000 0]),(30000,bP qu0 qu1 30001 qu2),(30001,pD qum)]⟩) (.dl 4 (decide (v9<(r1.length:Int))) (.dg 7 (0≤v9∧v9<(r1.length:Int)) <| .dl 20 (decide ((i64.wrap (((r1.getD v9.toNat default).time_)-((r1.getD v5.toNat default).time_)))<qu1.Size)) (.dr 0 0 [(13,false,[]),(15,false,[]),(18211,false,[]),(18212,false,[]),(18213,false,[]),(30000,false,[]),(30001,false,[])] [0,1,2,9,10,11,12,13,14,15,16,17,46,47,48] <| .ret 0 (v7,v8 != 0)) (.dr 0 0 [(13,false,[]),(15,false,[]),(18211,false,[]),(18212,false,[]),(18213,false,[]),(30000,false,[]),(30001,false,[])] [0,1,2,9,10,11,12,13,14,15,16,17,46,47,48] <| .ret 0 (v7,false))) (.dr 0 0 [(13,false,[]),(15,false,[]),(18211,false,[]),(18212,false,[]),(18213,false,[]),(30000,false,[]),(30001,false,[])] [0,1,2,9,10,11,12,13,14,15,16,17,46,47,48] <| .ret 0 (v7,false))) fun (j11,j12)=>.ite 0 j12 (.grd 5 (0≤v9∧v9<(r1.length:Int)) <| .cv 1 [.rn 18212 30002] <| .cv 0 [.rn 18211 30003] <| .cv 0 [.rn 18213 30004] <| .ch 0 [] (G376s0_ok v8 (r1.getD v9.toNat default) qu0 qu1 qu2 qum r2.2) fun r13=>.jn 6 0 (fun ((j14,j15):(List Int)×Bool)=>⟨[(0,.ptr 30000 0),(1,tD a1),(2,tI a2),(9,.t (eL cC r1)),(10,tI r2.1),(11,.fn (.func 219) 0 [.ptr 30002 0,.ptr 30003 0]),(12,tI (iG .i64 1 (qu1.Seq.length:Int))),(13,.own 13),(14,tI v5),(15,.ptr 15 0),(16,tI r13),(17,tI v9),(46,.t (eL cC r1)),(47,tI (r1.length:Int)),(48,tI v5),(98,tB j15)],[(13,.arr 3 1 (j14.length) (eF bC j14)),(15,.box ((cC (r1.getD v5.toNat default)).map .t)),(30000,bP qu0 qu1 30001 qu2),(30001,pD qum),(30002,.box [.fn (.func 218) 0 [.ptr 30004 0]]),(30003,.box (([.int .i64 (r2.2)]).map .t)),(30004,.box [.ptr 30000 0])]⟩) (.ite 0 ((gC .i64 r13 (iG .i64 1 (qu1.Seq.length:Int))) != 0) (.grd 3 (0≤v9∧v9<(j11.length:Int)) <| .grd 1 ((v9).toNat<j11.length) <| .ret 2 (j11,decide ((j11.getD v9.toNat default)<0))) (.ret 6 (j11,false))) fun (j14,j15)=>.jn 0 0 (fun (j16:(List Int))=>⟨[(0,.ptr 30000 0),(1,tD a1),(2,tI a2),(9,.t (eL cC r1)),(10,tI r2.1),(11,.fn (.func 219) 0 [.ptr 30002 0,.ptr 30003 0]),(12,tI (iG .i64 1 (qu1.Seq.length:Int))),(13,.own 13),(14,tI v5),(15,.ptr 15 0),(16,tI r13),(17,tI v9),(46,.t (eL cC r1)),(47,tI (r1.length:Int)),(48,tI v5)],[(13,.arr 3 1 (j16.length) (eF bC j16)),(15,.box ((cC (r1.getD v5.toNat default)).map .t)),(30000,bP qu0 qu1 30001 qu2),(30001,pD qum),(30002,.box [.fn (.func 218) 0 [.ptr 30004 0]]),(30003,.box (([.int .i64 (r2.2)]).map .t)),(30004,.box [.ptr 30000 0])]⟩) (.ite 0 j15 (.grd 4 (0≤v9∧v9<(j14.length:Int)) <| .grd 1 ((v9).toNat<j14.length) <| .sto 0 13 bC j14 [((v9).toNat,v5)] <| .ret 0 (j14.set v9.toNat v5)) (.ret 0 j14)) fun j16=>.cv 3 [.rn 30002 18212,.rn 30003 18211,.rn 30004 18213] <| .ret 0 (.inl (j16,r13,i64.wrap (v9+1)))) (.ret 0 (.inr (.inl j11)))
def T341s0_L0(a1:LD)(a2:Int)(qu0:List aF)(qu1:aE)(qu2:Int)(qum:LM)(r1:(List aN))(r2:Int×Int):((List Int)×Int)→TP (((List Int)×Int)⊕((List Int)⊕LD))
 | (v4,v5)=>.ite 1 (decide (v5<(r1.length:Int))) (.grd 2 (0≤v5∧v5<(r1.length:Int)) <| .lp 8 (fun ((v7,v8,v9):(List Int)×Int×Int)=>⟨[(0,.ptr 30000 0),(1,tD a1),(2,tI a2),(9,.t (eL cC r1)),(10,tI r2.1),(11,.fn (.func 219) 0 [.ptr 18212 0,.ptr 18211 0]),(12,tI (iG .i64 1 (qu1.Seq.length:Int))),(13,.own 13),(14,tI v5),(15,.ptr 15 0),(16,tI v8),(17,tI v9),(46,.t (eL cC r1)),(47,tI (r1.length:Int)),(48,tI v5)],[(13,.arr 3 1 (v7.length) (eF bC v7)),(15,.box ((cC (r1.getD v5.toNat default)).map .t)),(18211,.box (([.int .i64 (r2.2)]).map .t)),(18212,.box [.fn (.func 218) 0 [.ptr 18213 0]]),(18213,.box [.ptr 30000 0]),(30000,bP qu0 qu1 30001 qu2),(30001,pD qum)]⟩) (fun (b10:(List Int))=>⟨[(0,.ptr 30000 0),(1,tD a1),(2,tI a2),(9,.t (eL cC r1)),(10,tI r2.1),(11,.fn (.func 219) 0 [.ptr 18212 0,.ptr 18211 0]),(12,tI (iG .i64 1 (qu1.Seq.length:Int))),(13,.own 13),(46,.t (eL cC r1)),(47,tI (r1.length:Int)),(48,tI v5)],[(13,.arr 3 1 (b10.length) (eF bC b10)),(18211,.box (([.int .i64 (r2.2)]).map .t)),(18212,.box [.fn (.func 218) 0 [.ptr 18213 0]]),(18213,.box [.ptr 30000 0]),(30000,bP qu0 qu1 30001 qu2),(30001,pD qum)]⟩) 2 (v4,r2.1,v5) (T341s0_L1 a1 a2 qu0 qu1 qu2 qum r1 r2 v5) fun b10=>.ret 2 (.inl (b10,i64.wrap (v5+1)))) (.ret 0 (.inr (.inl v4)))
def T341s0_L2(a2:Int)(qu0:List aF)(qu1:aE)(qu2:Int)(qum:LM)(r1:(List aN))(b6:List Int)(r17:(List aC)):(LD×(List Int)×Int)→TP ((LD×(List Int)×Int)⊕((LD)⊕LD))
 | (v18,v19,v20)=>.ite 1 (decide (v20<(b6.length:Int))) (.grd 2 (0≤v20∧v20<(v19.length:Int)) <| .grd 1 ((v20).toNat<v19.length) <| .jn 5 0 (fun ((j22,j23,j24):LD×(List Int)×Bool)=>⟨[(2,tI a2),(9,.t (eL cC r1)),(18,tV r17),(19,.own 19),(20,tI v20),(21,tI (v19.getD v20.toNat default)),(110,.own 110),(111,tI (b6.length:Int)),(112,tI v20),(127,tB j24)],[(19,aD j22),(110,.arr 3 1 (j23.length) (eF bC j23)),(30000,bP qu0 qu1 30001 qu2),(30001,pD qum)]⟩) (.ite 0 (decide ((v19.getD v20.toNat default)≥0)) (.grd 3 (0≤v20∧v20<(r1.length:Int)) <| .ret 5 (v18,v19,decide (((r1.getD v20.toNat default).time_)≥a2))) (.ret 8 (v18,v19,false))) fun (j22,j23,j24)=>.jn 0 0 (fun ((j25,j26):LD×(List Int))=>⟨[(2,tI a2),(9,.t (eL cC r1)),(18,tV r17),(19,.own 19),(110,.own 110),(111,tI (b6.length:Int)),(112,tI v20)],[(19,aD j25),(110,.arr 3 1 (j26.length) (eF bC j26)),(30000,bP qu0 qu1 30001 qu2),(30001,pD qum)]⟩) (.ite 0 j24 (.dg 3 (0≤v20∧v20<(r1.length:Int)) <| .dcn 7 135 [tV r17] (G64s0_ok r17) fun r27=>.dg 10 (0≤(v19.getD v20.toNat default)∧(v19.getD v20.toNat default)<(r1.length:Int)) <| .dc 13 [tI ((r1.getD (v19.getD v20.toNat default).toNat default).time_)] (G361_ok ((r1.getD (v19.getD v20.toNat default).toNat default).time_)) fun r28=>.dc 18 [tI (i64.wrap ((i64.wrap (v20-(v19.getD v20.toNat default)))+1))] (G361_ok (i64.wrap ((i64.wrap (v20-(v19.getD v20.toNat default)))+1))) fun r29=>.dap 20 (le_apg bM r27 ([r28,r29]:List aC) 2 (fN [.int .i64 (r28.Kind),.int .i64 (r28.N),.str (r28.S),.int .i64 (r29.Kind),.int .i64 (r29.N),.str (r29.S)] 3) rfl (by kernel_rfl)) <| .dg 20 ((r27.length+2)*32≤140737488355328) <| .dg 23 ((j22.length+1)*40≤140737488355328) <| .dr 0 0 [(135,true,[7,20]),(148,true,[20]),(151,true,[23]),(19,false,[23]),(110,false,[]),(30000,false,[]),(30001,false,[])] [2,9,18,19,20,21,110,111,112,127] <| .cv 0 [.apl 151 aH j22 ([(aA.mk ((r1.getD v20.toNat default).time_) (r27++([r28,r29]:List aC)) 1)]:LD)] <| .cv 0 [.rn 151 19] <| .ret 0 (j22++([(aA.mk ((r1.getD v20.toNat default).time_) (r27++([r28,r29]:List aC)) 1)]:LD),j23)) (.ret 0 (j22,j23))) fun (j25,j26)=>.ret 2 (.inl (j25,j26,i64.wrap (v20+1)))) (.ret 0 (.inr (.inl v18)))
def T341s0(a1:LD)(a2:Int)(a3:Int)(qu0:List aF)(qu1:aE)(qu2:Int)(qum:LM):TP LD:=.ch 5 [] (G358s0_ok a1 a2 a3 qu0 qu1 qu2 qum) fun r1=>.ite 4 ((r1.length:Int)==0) (.cv 1 [.sl 8 (eL aH ([]:LD))] <| .ret 0 ([]:LD)) (.ch 1 [41011,41012,41013] (G359s0_ok qu0 qu1 qu2 qum) fun r2=>.cv 0 [.rn 41011 18211,.rn 41012 18212,.rn 41013 18213] <| .grd 12 (0≤((qu1.Seq.length:Int):Int)) <| .bs 1 false bC ([(-1)]:List Int) <| .ch 2 [40000] (con360 ([(-1)]:List Int) (r1.length:Int)) fun r3=>.cv 0 [.rn 40000 45] <| .cv 4 [.rn 45 13] <| .lp 0 (fun ((v4,v5):(List Int)×Int)=>⟨[(0,.ptr 30000 0),(1,tD a1),(2,tI a2),(9,.t (eL cC r1)),(10,tI r2.1),(11,.fn (.func 219) 0 [.ptr 18212 0,.ptr 18211 0]),(12,tI (iG .i64 1 (qu1.Seq.length:Int))),(13,.own 13),(46,.t (eL cC r1)),(47,tI (r1.length:Int)),(48,tI v5)],[(13,.arr 3 1 (v4.length) (eF bC v4)),(18211,.box (([.int .i64 (r2.2)]).map .t)),(18212,.box [.fn (.func 218) 0 [.ptr 18213 0]]),(18213,.box [.ptr 30000 0]),(30000,bP qu0 qu1 30001 qu2),(30001,pD qum)]⟩) (fun (b6:(List Int))=>⟨[(0,.ptr 30000 0),(1,tD a1),(2,tI a2),(9,.t (eL cC r1)),(13,.own 13)],[(13,.arr 3 1 (b6.length) (eF bC b6)),(30000,bP qu0 qu1 30001 qu2),(30001,pD qum)]⟩) 0 (r3,0) (T341s0_L0 a1 a2 qu0 qu1 qu2 qum r1 r2) fun b6=>.grd 3 (0≤(0:Int)∧(0:Int)<(a1.length:Int)) <| .ch 2 [] (G357s0_ok ((a1.getD (0:Int).toNat default).Row) qu0 qu1 qu2 qum) fun r17=>.cv 5 [.rn 13 110,.th 19 19 50 3 (eF aH ([]:LD))] <| .lp 0 (fun ((v18,v19,v20):LD×(List Int)×Int)=>⟨[(2,tI a2),(9,.t (eL cC r1)),(18,tV r17),(19,.own 19),(110,.own 110),(111,tI (b6.length:Int)),(112,tI v20)],[(19,aD v18),(110,.arr 3 1 (v19.length) (eF bC v19)),(30000,bP qu0 qu1 30001 qu2),(30001,pD qum)]⟩) (fun (b21:LD)=>⟨[(19,.own 19)],[(19,aD b21),(30000,bP qu0 qu1 30001 qu2),(30001,pD qum)]⟩) 4 (([]:LD),b6,0) (T341s0_L2 a2 qu0 qu1 qu2 qum r1 b6 r17) fun b21=>.cv 2 [.fr 19 (eL aH b21)] <| .ret 0 b21)
def G341s0(a1:LD)(a2:Int)(a3:Int)(qu0:List aF)(qu1:aE)(qu2:Int)(qum:LM):Option LD:=(T341s0 a1 a2 a3 qu0 qu1 qu2 qum).den
theorem G341s0_ok(a1:LD)(a2:Int)(a3:Int)(qu0:List aF)(qu1:aE)(qu2:Int)(qum:LM):cW Tryz.prog 72 [.ptr 30000 0,tD a1,tI a2,tI a3] [(30000,bP qu0 qu1 30001 qu2),(30001,pD qum)] [30000,30001] (G341s0 a1 a2 a3 qu0 qu1 qu2 qum) tD (fun (y:LD)=>[(30000,bP qu0 qu1 30001 qu2),(30001,pD qum)]):=fK Tryz.func72 aR (T341s0 a1 a2 a3 qu0 qu1 qu2 qum)
def T315s0_L0(qu0:List aF)(qu1:aE)(qu2:Int):((List ByteArray)×LM×LM×LD)→TP (((List ByteArray)×LM×LM×LD)⊕((LM×LD)⊕(LD×LM)))
 | (v3,v4,v5,v6)=>.nxd 0 vD (v4:LM) (v3:List ByteArray) (.ret 2 (.inr (.inl (v5,v6)))) fun k9 c10=>.gd 3 ((.str k9:T) = .str k9) rfl <| .jn 9 0 (fun ((j11,j12):LD×LD)=>⟨[(0,.ptr 30000 0),(7,.own 7),(8,.t (.str k9)),(9,tD c10),(10,tD j12),(18,.ptr 18 0)],[(7,aD j11),(17,.mp (some ⟨18,kTs (fY v3 k9:List ByteArray),some (.str k9)⟩) (eM mD (mdel v4 k9:LM)) (some (.str k9,some (tD c10)))),(30000,bP qu0 qu1 30001 qu2),(30001,pD v5)]⟩) (.lkd 0 (.slice none 0 0) vD (v5:LM) k9 (.cv 1 [.sl 10 (eL aH ([]:LD))] <| .ret 0 (v6,([]:LD))) fun c13=>.ret 1 (v6,c13)) fun (j11,j12)=>.ca 2 (G12_ok j12 c10) fun r14=>.dg 1 (0≤(0:Int)∧(0:Int)<(c10.length:Int)) <| .dg 8 (0≤(i64.wrap ((c10.length:Int)-1))∧(i64.wrap ((c10.length:Int)-1))<(c10.length:Int)) <| .dr 1 0 [(7,false,[]),(17,false,[]),(30000,false,[]),(30001,false,[])] [0,7,8,9,10,11,18,30,31,32] <| .ch 5 [] (G341s0_ok r14 ((c10.getD (0:Int).toNat default).Time) (i64.wrap ((i64.wrap (((c10.getD (i64.wrap ((c10.length:Int)-1)).toNat default).Time)+qu1.Size))-1)) qu0 qu1 qu2 v5) fun r15=>.ch 4 [] (G341s0_ok j12 ((c10.getD (0:Int).toNat default).Time) (i64.wrap ((i64.wrap (((c10.getD (i64.wrap ((c10.length:Int)-1)).toNat default).Time)+qu1.Size))-1)) qu0 qu1 qu2 v5) fun r16=>.ca 0 (G129_ok r15 r16) fun r17=>.grd 1 ((j11.length+r17.length)*40≤140737488355328) <| .cv 0 [.ap 63 aH j11 r17] <| .ch 4 [] (G339s1_ok k9 r14 qu0 qu1 qu2 v5) fun r18=>.cv 0 [.rn 63 7,.fd 17 vD (v4:LM) k9 (c10:LD),.nc 17] <| .ret 0 (.inl (fY v3 k9,mput v4 k9 (c10:LD),r18,j11++r17))
def T315s0(a1:Int)(a2:LD)(qu0:List aF)(qu1:aE)(qu2:Int)(qum:LM):TP (LD×LM):=.ca 4 (G27_ok a2) fun r1=>.ch 0 [40000] (G340s0_ok r1 qu0 qu1 qu2 qum) fun r2=>.cv 0 [.rn 40000 17,.fz 17 50 3 (fun c:LD=>c.length) (fun c:LD=>eF aH c) vD (r2:LM)] <| .rng 0 mD (r2:LM) <| .cv 0 [.th 7 7 50 3 (eF aH ([]:LD))] <| .lp 0 (fun ((v3,v4,v5,v6):(List ByteArray)×LM×LM×LD)=>⟨[(0,.ptr 30000 0),(7,.own 7),(18,.ptr 18 0)],[(7,aD v6),(17,.mp (some ⟨18,kTs (v3:List ByteArray),none⟩) (eM mD (v4:LM)) none),(30000,bP qu0 qu1 30001 qu2),(30001,pD v5)]⟩) (fun ((b7,b8):LM×LD)=>⟨[(7,.own 7)],[(7,aD b8),(30000,bP qu0 qu1 30001 qu2),(30001,pD b7)]⟩) 0 (aZ r2,r2,qum,([]:LD)) (T315s0_L0 qu0 qu1 qu2) fun (b7,b8)=>.cv 1 [.fr 7 (eL aH b8)] <| .ca 0 (G27_ok b8) fun r19=>.ret 1 (r19,b7)
def G315s0(a1:Int)(a2:LD)(qu0:List aF)(qu1:aE)(qu2:Int)(qum:LM):Option (LD×LM):=Det (T315s0 a1 a2 qu0 qu1 qu2 qum)
theorem G315s0_ok(a1:Int)(a2:LD)(qu0:List aF)(qu1:aE)(qu2:Int)(qum:LM):cW Tryz.prog 21 [.ptr 30000 0,tI a1,tD a2] [(30000,bP qu0 qu1 30001 qu2),(30001,pD qum)] [30000,30001] (G315s0 a1 a2 qu0 qu1 qu2 qum) (fun (y:LD×LM)=>tD y.1) (fun (y:LD×LM)=>[(30000,bP qu0 qu1 30001 qu2),(30001,.mp none (eM mD (y.2:LM)) none)]):=conHD Tryz.func21 aR (T315s0 a1 a2 qu0 qu1 qu2 qum)
def T13_L0(a0:LD):(Int×Int)→TP ((Int×Int)⊕((Int)⊕Int))
 | (v1,v2)=>.ite 1 (decide (v2<(a0.length:Int))) (.grd 1 (0≤v2∧v2<(a0.length:Int)) <| .ret 10 (.inl (i64.wrap (v1+((a0.getD v2.toNat default).N)),i64.wrap (v2+1)))) (.ret 0 (.inr (.inl v1)))
def T13(a0:LD):TP Int:=.lp 5 (fun ((v1,v2):Int×Int)=>⟨[(3,tI v1),(6,tD a0),(7,tI (a0.length:Int)),(8,tI v2)],[]⟩) (fun (b3:Int)=>⟨[(3,tI b3)],[]⟩) 0 (0,0) (T13_L0 a0) fun b3=>.ret 2 b3
def G13(a0:LD):Option Int:=(T13 a0).den
theorem G13_ok(a0:LD):Con Tryz.prog 24 [tD a0] (G13 a0) tI:=con Tryz.func24 aR (T13 a0)
def T342s0_L0:((List ByteArray)×LM×LD)→TP (((List ByteArray)×LM×LD)⊕(((List ByteArray)×LM×LD)⊕(LD×LM)))
 | (v1,v2,v3)=>.nxd 0 vD (v2:LM) (v1:List ByteArray) (.ret 2 (.inr (.inl (v1,v2,v3)))) fun k7 c8=>.gd 3 ((.str k7:T) = .str k7) rfl <| .grd 5 ((v3.length+c8.length)*40≤140737488355328) <| .cv 0 [.ap 17 aH v3 c8] <| .cv 1 [.rn 17 3,.fd 30001 vD (v2:LM) k7 (c8:LD),.nc 30001] <| .ret 0 (.inl (fY v1 k7,mput v2 k7 (c8:LD),v3++c8))
def T342s0(qu0:List aF)(qu1:aE)(qu2:Int)(qum:LM):TP (LD×LM):=.rng 6 mD (qum:LM) <| .cv 0 [.th 3 3 50 3 (eF aH ([]:LD))] <| .lp 0 (fun ((v1,v2,v3):(List ByteArray)×LM×LD)=>⟨[(3,.own 3),(10,.ptr 10 0)],[(3,aD v3),(30000,bP qu0 qu1 30001 qu2),(30001,.mp (some ⟨10,kTs (v1:List ByteArray),none⟩) (eM mD (v2:LM)) none)]⟩) (fun ((b4,b5,b6):(List ByteArray)×LM×LD)=>⟨[(3,.own 3)],[(3,aD b6),(30000,bP qu0 qu1 30001 qu2),(30001,.mp (some ⟨10,kTs (b4:List ByteArray),none⟩) (eM mD (b5:LM)) none)]⟩) 0 (aZ qum,qum,([]:LD)) T342s0_L0 fun (b4,b5,b6)=>.cv 1 [.fr 3 (eL aH b6)] <| .ca 0 (G27_ok b6) fun r9=>.cv 1 [.ni 30001] <| .ret 0 (r9,b5)
def G342s0(qu0:List aF)(qu1:aE)(qu2:Int)(qum:LM):Option (LD×LM):=Det (T342s0 qu0 qu1 qu2 qum)
theorem G342s0_ok(qu0:List aF)(qu1:aE)(qu2:Int)(qum:LM):cW Tryz.prog 76 [.ptr 30000 0] [(30000,bP qu0 qu1 30001 qu2),(30001,pD qum)] [30000,30001] (G342s0 qu0 qu1 qu2 qum) (fun (y:LD×LM)=>tD y.1) (fun (y:LD×LM)=>[(30000,bP qu0 qu1 30001 qu2),(30001,.mp none (eM mD (y.2:LM)) none)]):=conHD Tryz.func76 aR (T342s0 qu0 qu1 qu2 qum)
def T316s0(qu0:List aF)(qu1:aE)(qu2:Int)(qum:LM):TP (Int×LM):=.ch 2 [] (G342s0_ok qu0 qu1 qu2 qum) fun r1=>.ca 0 (G13_ok r1.1) fun r2=>.ret 1 (r2,r1.2)
def G316s0(qu0:List aF)(qu1:aE)(qu2:Int)(qum:LM):Option (Int×LM):=(T316s0 qu0 qu1 qu2 qum).den
theorem G316s0_ok(qu0:List aF)(qu1:aE)(qu2:Int)(qum:LM):cW Tryz.prog 23 [.ptr 30000 0] [(30000,bP qu0 qu1 30001 qu2),(30001,pD qum)] [30000,30001] (G316s0 qu0 qu1 qu2 qum) (fun (y:Int×LM)=>tI y.1) (fun (y:Int×LM)=>[(30000,bP qu0 qu1 30001 qu2),(30001,.mp none (eM mD (y.2:LM)) none)]):=fK Tryz.func23 aR (T316s0 qu0 qu1 qu2 qum)
def T321s0(qu0:List aF)(qu1:aE)(qu2:Int)(qum:LM):TP Bool:=.mlen 5 mD (qum:LM) <| .ret 2 ((qum.length:Int)==0)
def G321s0(qu0:List aF)(qu1:aE)(qu2:Int)(qum:LM):Option Bool:=(T321s0 qu0 qu1 qu2 qum).den
theorem G321s0_ok(qu0:List aF)(qu1:aE)(qu2:Int)(qum:LM):cW Tryz.prog 30 [.ptr 30000 0] [(30000,bP qu0 qu1 30001 qu2),(30001,pD qum)] [30000,30001] (G321s0 qu0 qu1 qu2 qum) tB (fun (y:Bool)=>[(30000,bP qu0 qu1 30001 qu2),(30001,pD qum)]):=fK Tryz.func30 aR (T321s0 qu0 qu1 qu2 qum)
def T311:TP Bool:=.bs 1 false bC ([0]:List Int) <| .ca 0 (G335_ok 1) fun r1=>.ca 1 (G335_ok 2) fun r2=>.bs 1 false iQ ([(GPat.mk r1 0),(GPat.mk r2 1)]:List GPat) <| .cv 1 [.sl 14 (fE (aE.mk 8 ([]:List Int) (⟨#[]⟩) 0 ([]:List aW) 0 10 0 ([0]:List Int) ([]:List Int) 0 0 0 ([]:List GAgg) ([(GPat.mk r1 0),(GPat.mk r2 1)]:List GPat) ([]:List GCol)))] <| .ch 0 [40000,41001] (G313s0_ok ([]:List aF) (aE.mk 8 ([]:List Int) (⟨#[]⟩) 0 ([]:List aW) 0 10 0 ([0]:List Int) ([]:List Int) 0 0 0 ([]:List GAgg) ([(GPat.mk r1 0),(GPat.mk r2 1)]:List GPat) ([]:List GCol))) fun r3=>.cv 0 [.rn 40000 15,.rn 41001 16501,.fz 16501 50 3 (fun c:LD=>c.length) (fun c:LD=>eF aH c) vD (r3.2.2.2:LM)] <| .ca 5 (G336_ok 3 7 1) fun r4=>.bs 0 false aH ([r4]:LD) <| .cv 0 [.rn 15 30000] <| .cv 0 [.rn 16501 30001] <| .ch 0 [] (G315s0_ok 0 ([r4]:LD) r3.1 r3.2.1 r3.2.2.1 r3.2.2.2) fun r5=>.ca 2 (G336_ok 5 7 2) fun r6=>.ca 0 (G336_ok 8 7 2) fun r7=>.bs 0 false aH ([r6,r7]:LD) <| .ch 0 [] (G315s0_ok 0 ([r6,r7]:LD) r3.1 r3.2.1 r3.2.2.1 r5.2) fun r8=>.ca 2 (G336_ok 4 7 1) fun r9=>.bs 0 false aH ([r9]:LD) <| .ch 0 [] (G315s0_ok 0 ([r9]:LD) r3.1 r3.2.1 r3.2.2.1 r8.2) fun r10=>.ch 2 [] (G316s0_ok r3.1 r3.2.1 r3.2.2.1 r10.2) fun r11=>.ch 2 [] (G314s0_ok 17 r3.1 r3.2.1 r3.2.2.1 r11.2) fun r12=>.jn 4 0 (fun (j13:Bool)=>⟨[(1,.ptr 30000 0),(4,tD r10.1),(5,tI r11.1),(6,tB j13)],[(30000,bP r3.1 r3.2.1 30001 r12.2),(30001,.mp none (eM mD (r12.1:LM)) none)]⟩) (.ite 0 ((r5.1.length:Int)==0) (.ca 1 (G337_ok 5 3 2 1) fun r14=>.ca 0 (G337_ok 8 3 3 1) fun r15=>.bs 0 false aH ([r14,r15]:LD) <| .ca 0 (G20_ok r8.1 ([r14,r15]:LD)) fun r16=>.ret 2 r16) (.ret 7 false)) fun j13=>.ca 1 (G337_ok 5 3 2 (-1)) fun r17=>.ca 0 (G337_ok 5 4 2 1) fun r18=>.ca 0 (G337_ok 8 3 3 (-1)) fun r19=>.ca 0 (G337_ok 8 4 3 1) fun r20=>.bs 0 false aH ([r17,r18,r19,r20]:LD) <| .ca 0 (G20_ok r10.1 ([r17,r18,r19,r20]:LD)) fun r21=>.jn 3 0 (fun (j22:Bool)=>⟨[(0,tB j22)],[]⟩) (.ite 0 j13 (.ite 3 r21 (.ite 4 (r11.1==4) (.ch 1 [] (G316s0_ok r3.1 r3.2.1 r12.2 r12.1) fun r23=>.ite 3 (r23.1==0) (.ch 1 [] (G321s0_ok r3.1 r3.2.1 r12.2 r23.2) fun r24=>.ret 2 r24) (.ret 4 false)) (.ret 9 false)) (.ret 13 false)) (.ret 16 false)) fun j22=>.ret 0 j22
def G311:Option Bool:=T311.den
theorem G311_ok:Con Tryz.prog 14 [] G311 tB:=con Tryz.func14 aR (T311)
abbrev R79:={f:aW→Option Int // ∀ a:aW,Con Tryz.prog 129 [.t (cJ a)] (f a) tI}
def T79_L0(rec:R79)(a0:aW):(Int×Int)→TP ((Int×Int)⊕((Int)⊕Int))
 | (v1,v2)=>.ite 5 (decide (v2<(a0.Args.length:Int))) (.grd 5 (0≤v2∧v2<(a0.Args.length:Int)) <| .ca 1 (rec.2 (a0.Args.getD v2.toNat default)) fun r4=>.ret 5 (.inl (i64.wrap (v1+r4),i64.wrap (v2+1)))) (.ret 0 (.inr (.inl v1)))
def T79(rec:R79)(a0:aW):TP Int:=.lp 4 (fun ((v1,v2):Int×Int)=>⟨[(1,.ptr 1 0),(3,tI v1),(4,tI v2)],[(1,.box ((cO a0).map .t))]⟩) (fun (b3:Int)=>⟨[(3,tI b3)],[]⟩) 0 (1,0) (T79_L0 rec a0) fun b3=>.ret 2 b3
theorem T79_ok(rec:R79)(a0:aW):Con Tryz.prog 129 [.t (cJ a0)] (T79 rec a0).den tI:=con Tryz.func129 aR (T79 rec a0)
def H79(a:aW):Option Int:=fixF (C:=fun (a:aW) (x:Option Int)=>Con Tryz.prog 129 [.t (cJ a)] x tI) (fun a=>⟨bJ Tryz.func129 (by kernel_rfl),fun _ h=>nomatch h⟩) (fun rec a=>T79 rec a) (fun rec a=>T79_ok rec a) a
theorem H79_ok(a:aW):Con Tryz.prog 129 [.t (cJ a)] (H79 a) tI:=fixF_ok (C:=fun (a:aW) (x:Option Int)=>Con Tryz.prog 129 [.t (cJ a)] x tI) _ _ _ a
def G79(a0:aW):Option Int:=H79 a0
theorem G79_ok(a0:aW):Con Tryz.prog 129 [.t (cJ a0)] (G79 a0) tI:=H79_ok a0
abbrev R80:={f:aW→Option Int // ∀ a:aW,Con Tryz.prog 130 [.t (cJ a)] (f a) tI}
def T80_L0(rec:R80)(a0:aW):(Int×Int)→TP ((Int×Int)⊕((Int)⊕Int))
 | (v1,v2)=>.ite 5 (decide (v2<(a0.Args.length:Int))) (.grd 5 (0≤v2∧v2<(a0.Args.length:Int)) <| .ca 1 (rec.2 (a0.Args.getD v2.toNat default)) fun r4=>.ret 5 (.inl (if r4>v1 then r4 else v1,i64.wrap (v2+1)))) (.ret 0 (.inr (.inl v1)))
def T80(rec:R80)(a0:aW):TP Int:=.lp 4 (fun ((v1,v2):Int×Int)=>⟨[(1,.ptr 1 0),(3,tI v1),(4,tI v2)],[(1,.box ((cO a0).map .t))]⟩) (fun (b3:Int)=>⟨[(3,tI b3)],[]⟩) 0 (0,0) (T80_L0 rec a0) fun b3=>.ret 3 (i64.wrap (b3+1))
theorem T80_ok(rec:R80)(a0:aW):Con Tryz.prog 130 [.t (cJ a0)] (T80 rec a0).den tI:=con Tryz.func130 aR (T80 rec a0)
def H80(a:aW):Option Int:=fixF (C:=fun (a:aW) (x:Option Int)=>Con Tryz.prog 130 [.t (cJ a)] x tI) (fun a=>⟨bJ Tryz.func130 (by kernel_rfl),fun _ h=>nomatch h⟩) (fun rec a=>T80 rec a) (fun rec a=>T80_ok rec a) a
theorem H80_ok(a:aW):Con Tryz.prog 130 [.t (cJ a)] (H80 a) tI:=fixF_ok (C:=fun (a:aW) (x:Option Int)=>Con Tryz.prog 130 [.t (cJ a)] x tI) _ _ _ a
def G80(a0:aW):Option Int:=H80 a0
theorem G80_ok(a0:aW):Con Tryz.prog 130 [.t (cJ a0)] (G80 a0) tI:=H80_ok a0
abbrev R150:={f:((List Int)×aW)→Option Int // ∀ a:(List Int)×aW,Con Tryz.prog 211 [.t (eL bC (a.1)),.t (cJ a.2)] (f a) tI}
def T150_L0(rec:R150)(a0:List Int)(a1:aW):((List Int)×Int)→TP (((List Int)×Int)⊕((List Int)⊕Int))
 | (v1,v2)=>.ite 5 (decide (v2<(a1.Args.length:Int))) (.grd 6 (0≤v2∧v2<(a1.Args.length:Int)) <| .ca 1 (rec.2 (a0,a1.Args.getD v2.toNat default)) fun r4=>.bs 0 false bC ([r4]:List Int) <| .grd 1 ((v1.length+([r4]:List Int).length)*8≤140737488355328) <| .cv 0 [.ap 25 bC v1 ([r4]:List Int)] <| .cv 4 [.rn 25 6] <| .ret 0 (.inl (v1++([r4]:List Int),i64.wrap (v2+1)))) (.ret 0 (.inr (.inl v1)))
def T150_L1:(Int×(List Int)×Int)→TP ((Int×(List Int)×Int)⊕((Int)⊕Int))
 | (v7,v8,v9)=>.ite 4 (decide (v9<(v8.length:Int))) (.grd 4 (0≤v9∧v9<(v8.length:Int)) <| .grd 1 ((v9).toNat<v8.length) <| .ret 6 (.inl (if (1099511627776:Int)<(i64.wrap (v7+(v8.getD v9.toNat default))) then (1099511627776:Int) else (i64.wrap (v7+(v8.getD v9.toNat default))),v8,i64.wrap (v9+1)))) (.ret 0 (.inr (.inl v7)))
def T150(rec:R150)(a0:List Int)(a1:aW):TP Int:=.cv 5 [.th 6 6 3 1 (eF bC ([]:List Int))] <| .lp 0 (fun ((v1,v2):(List Int)×Int)=>⟨[(0,.t (eL bC a0)),(3,.ptr 3 0),(5,tI 1),(6,.own 6),(7,tI v2)],[(3,.box ((cO a1).map .t)),(6,.arr 3 1 (v1.length) (eF bC v1))]⟩) (fun (b3:(List Int))=>⟨[(0,.t (eL bC a0)),(3,.ptr 3 0),(5,tI 1),(6,.own 6)],[(3,.box ((cO a1).map .t)),(6,.arr 3 1 (b3.length) (eF bC b3))]⟩) 0 (([]:List Int),0) (T150_L0 rec a0 a1) fun b3=>.jn 4 0 (fun ((j5,j6):(List Int)×Bool)=>⟨[(0,.t (eL bC a0)),(3,.ptr 3 0),(5,tI 1),(6,.own 6),(33,tB j6)],[(3,.box ((cO a1).map .t)),(6,.arr 3 1 (j5.length) (eF bC j5))]⟩) (.ite 0 (a1.Op==21) (.ret 4 (b3,(b3.length:Int)==3)) (.ret 4 (b3,false))) fun (j5,j6)=>.ite 0 j6 (.dg 1 (0≤(0:Int)∧(0:Int)<(j5.length:Int)) <| .dg 2 ((0:Int).toNat<j5.length) <| .dg 5 (0≤(1:Int)∧(1:Int)<(j5.length:Int)) <| .dg 6 ((1:Int).toNat<j5.length) <| .dg 8 (0≤(2:Int)∧(2:Int)<(j5.length:Int)) <| .dg 9 ((2:Int).toNat<j5.length) <| .dr 0 0 [(3,false,[]),(6,false,[])] [0,3,5,6,33] <| .ret 0 (if (1099511627776:Int)<(i64.wrap ((i64.wrap (1+(j5.getD (0:Int).toNat default)))+(if (j5.getD (2:Int).toNat default)>(j5.getD (1:Int).toNat default) then (j5.getD (2:Int).toNat default) else (j5.getD (1:Int).toNat default)))) then (1099511627776:Int) else (i64.wrap ((i64.wrap (1+(j5.getD (0:Int).toNat default)))+(if (j5.getD (2:Int).toNat default)>(j5.getD (1:Int).toNat default) then (j5.getD (2:Int).toNat default) else (j5.getD (1:Int).toNat default)))))) (.lp 1 (fun ((v7,v8,v9):Int×(List Int)×Int)=>⟨[(0,.t (eL bC a0)),(3,.ptr 3 0),(5,tI v7),(6,.own 6),(8,tI v9)],[(3,.box ((cO a1).map .t)),(6,.arr 3 1 (v8.length) (eF bC v8))]⟩) (fun (b10:Int)=>⟨[(0,.t (eL bC a0)),(3,.ptr 3 0),(5,tI b10)],[(3,.box ((cO a1).map .t))]⟩) 2 (1,j5,0) T150_L1 fun b10=>.jn 4 0 (fun (j11:Bool)=>⟨[(0,.t (eL bC a0)),(3,.ptr 3 0),(5,tI b10),(74,tB j11)],[(3,.box ((cO a1).map .t))]⟩) (.ite 0 (a1.Op==22) (.ite 5 (decide (a1.N≥0)) (.ret 6 (decide (a1.N<(a0.length:Int)))) (.ret 6 false)) (.ret 11 false)) fun j11=>.jn 0 0 (fun (j12:Int)=>⟨[(5,tI j12)],[]⟩) (.ite 0 j11 (.grd 5 (0≤a1.N∧a1.N<(a0.length:Int)) <| .ret 4 (if (1099511627776:Int)<(i64.wrap (b10+(a0.getD (a1.N).toNat default))) then (1099511627776:Int) else (i64.wrap (b10+(a0.getD (a1.N).toNat default))))) (.ret 0 b10)) fun j12=>.ret 2 j12)
theorem T150_ok(rec:R150)(a0:List Int)(a1:aW):Con Tryz.prog 211 [.t (eL bC a0),.t (cJ a1)] (T150 rec a0 a1).den tI:=con Tryz.func211 aR (T150 rec a0 a1)
def H150(a:(List Int)×aW):Option Int:=fixF (C:=fun (a:(List Int)×aW) (x:Option Int)=>Con Tryz.prog 211 [.t (eL bC (a.1)),.t (cJ a.2)] x tI) (fun a=>⟨bJ Tryz.func211 (by kernel_rfl),fun _ h=>nomatch h⟩) (fun rec a=>T150 rec a.1 a.2) (fun rec a=>T150_ok rec a.1 a.2) a
theorem H150_ok(a:(List Int)×aW):Con Tryz.prog 211 [.t (eL bC (a.1)),.t (cJ a.2)] (H150 a) tI:=fixF_ok (C:=fun (a:(List Int)×aW) (x:Option Int)=>Con Tryz.prog 211 [.t (eL bC (a.1)),.t (cJ a.2)] x tI) _ _ _ a
def G150(a0:List Int)(a1:aW):Option Int:=H150 (a0,a1)
theorem G150_ok(a0:List Int)(a1:aW):Con Tryz.prog 211 [.t (eL bC a0),.t (cJ a1)] (G150 a0 a1) tI:=H150_ok (a0,a1)
end
end Go.PL
