/-
  Parts: The data types of the seat, as the program logic reads them, and its type table. Printed by a program of our own. Functions of Go's library, given to the trees by hand. Own work; two walks are lines of the shelf's, turned to this program. (*strings.Builder).WriteString, exactly. Own work; the walk is lines of the shelf's, turned to this program. Contracts of functions of Go's library, for the trees. Own work. Contracts of functions of Go's library, for the trees: WriteString. Own work. Contracts of library functions, as the kit tools lay-shelf and lay-plain wrote them for this seat, cut down to what is used. Contracts of functions of Go's library, for the trees: strings.Compare, strconv.Itoa. Own work. slices.Repeat of a row of one number, walked by hand. Own work. The contract of slices.Repeat of a row of one number. Own work. slices.Sorted(maps.Keys(m)): contracts of the library laid at this program, in any world. Laid by the kit's lay-iter, turned to any world by us. Contracts of maps.Keys and slices.Sorted at it, for a map whose keys are strings. Own work. slices.Sorted(maps.Keys(m)) at keys that are integers: contracts of the library laid at this program, in any world. Laid by the kit's lay-iter, turned to any world by us. Contracts of maps.Keys and slices.Sorted at it, for a map whose keys are strings. Own work.
-/
import Derived.Test.YtjefblkdnolgaaaGreatDoorMd
import Derived.Test.YtjefblkdnolgaaaGreatDoorProg
import Derived.Shelf.Strings.Builder1
import Derived.Shelf.Small.Strs
import Derived.Shelf.Strconv.Atoi
import Derived.Shelf.Strconv.Itoa0
import Derived.Shelf.Strconv.Itoa1
import Derived.Shelf.LaysM
import Derived.Shelf.Strconv.Itoa2
import Derived.Shelf.Strconv.Itoa3
import Derived.Shelf.Strconv.AtoiErrFast
import Derived.Shelf.Strconv.ParseIntEmpty
import Derived.Shelf.Strconv.AtoiFail
import Derived.Shelf.Strconv.Clone
import Derived.Shelf.Strconv.SyntaxError
import Derived.Shelf.LaysC
import Derived.Shelf.Strconv.ToError
import Derived.Shelf.Strconv.Lower
import Derived.Shelf.Strconv.ParseUint10
import Derived.Shelf.Strconv.ParseUint10Empty
import Derived.Shelf.Strconv.ParseUint10Any
import Derived.Shelf.Strconv.ParseInt10
import Derived.Shelf.Strconv.AtoiLong
import Derived.Shelf.Strconv.AtoiInnerAll
import Derived.Shelf.Strconv.RangeError
import Derived.Shelf.Strconv.ToErrorRange
import Derived.Shelf.Strconv.AtoiAll
import Derived.Shelf.Strings.Search1
import Derived.Shelf.Bits.Mul64
import Derived.Ground.SlgmProg
import Derived.Shelf.SortM.Plain
import Derived.Shelf.SortM.SortNone
import Derived.Laws.IdiomCopy
import Derived.Laws.MakeOwn
import Derived.Shelf.SlIter.Nil
import Derived.Sort.KeysCollected
import Derived.Shelf.SlIterI.Nil
set_option maxHeartbeats 4000000
namespace Go.PL
open Go
def dH(x:bS):T:=.agg (dL x)
def kE(x:List Int):List T:=[eL aY (x)]
structure aU where
 Name:ByteArray
 Params:List Int
 Result:Int
 Body:bS
 deriving Inhabited
def bM(x:aU):List T:=[.str (x.Name)]++[eL aY (x.Params)]++[.int .i64 (x.Result)]++dL (x.Body)
structure jD where
 Kind:Int
 Col:Int
 Name:ByteArray
 deriving Inhabited
def kG(x:jD):List T:=[.int .i64 (x.Kind),.int .i64 (x.Col),.str (x.Name)]
def aZS(x:jD):T:=.agg (kG x)
structure If where
 Pred:bS
 Rep:Int
 deriving Inhabited
def Qw(x:If):List T:=dL (x.Pred)++[.int .i64 (x.Rep)]
structure Hu where
 Name:ByteArray
 Type_:Int
 Unit:ByteArray
 deriving Inhabited
def Wb(x:Hu):List T:=[.str (x.Name),.int .i64 (x.Type_),.str (x.Unit)]
structure aG where
 Op:Int
 In:List Int
 Source:ByteArray
 Schema:Int
 Exprs:List bS
 Kind:Int
 Size:Int
 Step:Int
 Key:List Int
 Key2:List Int
 Before:Int
 After:Int
 Keep:Int
 Aggs:List jD
 Seq:List If
 Cols:List Hu
 deriving Inhabited
def Oe(x:aG):List T:=[.int .i64 (x.Op),eL aY (x.In),.str (x.Source),.int .i64 (x.Schema),.lz (.exprs (x.Exprs)),.int .i64 (x.Kind),.int .i64 (x.Size),.int .i64 (x.Step),eL aY (x.Key),eL aY (x.Key2),.int .i64 (x.Before),.int .i64 (x.After),.int .i64 (x.Keep),eL kG (x.Aggs),eL Qw (x.Seq),eL Wb (x.Cols)]
def fG(x:aG):T:=.agg (Oe x)
structure aF where
 Kind:Int
 N:Int
 S:ByteArray
 deriving Inhabited
def bD(x:aF):List T:=[.int .i64 (x.Kind),.int .i64 (x.N),.str (x.S)]
def cP(x:aF):T:=.agg (bD x)
def kZ(x:List aF):List T:=[eL bD (x)]
structure aC where
 Time:Int
 Row:List aF
 N:Int
 deriving Inhabited
def aH(x:aC):List T:=[.int .i64 (x.Time),eL bD (x.Row),.int .i64 (x.N)]
def dB(x:aC):T:=.agg (aH x)
def aP(x:List aC):List T:=[eL aH (x)]
structure dW where
 time_:Int
 fits_:Int
 deriving Inhabited
structure gG where
 funcs_:List aU
 time_:Int
 row_:List aF
 params_:List aF
 deriving Inhabited
def Mg(x:gG):List T:=[eL bM (x.funcs_),.int .i64 (x.time_),eL bD (x.row_),eL bD (x.params_)]
def jK(x:gG):T:=.agg (Mg x)
structure aN where
 begin_:Int
 end_:Int
 rows_:List aC
 deriving Inhabited
def dS(x:aN):List T:=[.int .i64 (x.begin_),.int .i64 (x.end_),eL aH (x.rows_)]
def cR(x:aN):List Cel:=[.d (.int .i64 (x.begin_)),.d (.int .i64 (x.end_)),.row 50 3 (x.rows_).length (eF aH (x.rows_))]
def dF(x:List Bool):List T:=[eL fS (x)]
structure cF where
 a_:aF
 b_:aF
 deriving Inhabited
def aTE(x:cF):List T:=bD (x.a_)++bD (x.b_)
def eY(x:cF):T:=.agg (aTE x)
def tiL:List (Nat×dY):=[
 (2,⟨1,8,.int .i64,[.t (.int .i64 0)],0,0⟩),
 (3,⟨1,8,.int .i64,[.t (.int .i64 0)],0,0⟩),
 (4,⟨1,1,.bool,[.t (.bool false)],0,0⟩),
 (5,⟨1,1,.int .u8,[.t (.int .u8 0)],0,0⟩),
 (9,⟨1,16,.str,[.t (.str ⟨#[]⟩)],0,0⟩),
 (12,⟨1,8,.int .u64,[.t (.int .u64 0)],0,0⟩),
 (15,⟨1,8,.ptr 342,[.np],0,0⟩),
 (16,⟨1,8,.ptr 345,[.np],0,0⟩),
 (17,⟨1,8,.ptr 352,[.np],0,0⟩),
 (21,⟨1,4,.int .i32,[.t (.int .i32 0)],0,0⟩),
 (22,⟨1,24,.sl 150,[.nil],0,0⟩),
 (23,⟨1,24,.sl 3,[.nil],0,0⟩),
 (24,⟨1,24,.sl 90,[.nil],0,0⟩),
 (25,⟨1,24,.sl 122,[.nil],0,0⟩),
 (26,⟨1,24,.sl 93,[.nil],0,0⟩),
 (27,⟨1,24,.sl 354,[.nil],0,0⟩),
 (29,⟨16,248,.st [(0,3),(1,23),(2,9),(3,3),(4,24),(5,3),(6,3),(7,3),(8,23),(9,23),(10,3),(11,3),(12,3),(13,25),(14,26),(15,27)],[.t (.int .i64 0),.nil,.t (.str ⟨#[]⟩),.t (.int .i64 0),.nil,.t (.int .i64 0),.t (.int .i64 0),.t (.int .i64 0),.nil,.nil,.t (.int .i64 0),.t (.int .i64 0),.t (.int .i64 0),.nil,.nil,.nil],0,0⟩),
 (30,⟨1,24,.sl 39,[.nil],0,0⟩),
 (33,⟨1,8,.ptr 102,[.np],0,0⟩),
 (36,⟨1,8,.other,[.lit .nilFunc],0,0⟩),
 (37,⟨1,24,.sl 50,[.nil],0,0⟩),
 (39,⟨3,40,.st [(0,3),(1,3),(2,37)],[.t (.int .i64 0),.t (.int .i64 0),.nil],0,0⟩),
 (48,⟨1,24,.sl 67,[.nil],0,0⟩),
 (50,⟨3,40,.st [(0,3),(1,48),(2,3)],[.t (.int .i64 0),.nil,.t (.int .i64 0)],0,0⟩),
 (55,⟨1,24,.sl 23,[.nil],0,0⟩),
 (56,⟨1,24,.sl 37,[.nil],0,0⟩),
 (67,⟨3,32,.st [(0,3),(1,3),(2,9)],[.t (.int .i64 0),.t (.int .i64 0),.t (.str ⟨#[]⟩)],0,37⟩),
 (71,⟨1,8,.ptr 74,[.np],0,0⟩),
 (74,⟨19,304,.st [(0,22),(1,29),(17,37),(18,3)],[.nil,.t (.int .i64 0),.nil,.t (.str ⟨#[]⟩),.t (.int .i64 0),.nil,.t (.int .i64 0),.t (.int .i64 0),.t (.int .i64 0),.nil,.nil,.t (.int .i64 0),.t (.int .i64 0),.t (.int .i64 0),.nil,.nil,.nil,.nil,.t (.int .i64 0)],0,0⟩),
 (80,⟨1,24,.sl 85,[.nil],0,0⟩),
 (82,⟨1,8,.ptr 147,[.np],0,0⟩),
 (85,⟨3,40,.st [(0,3),(1,3),(2,37)],[.t (.int .i64 0),.t (.int .i64 0),.nil],0,0⟩),
 (90,⟨4,56,.st [(0,3),(1,3),(2,9),(3,24)],[.t (.int .i64 0),.t (.int .i64 0),.t (.str ⟨#[]⟩),.nil],0,0⟩),
 (93,⟨5,64,.st [(0,90),(4,3)],[.t (.int .i64 0),.t (.int .i64 0),.t (.str ⟨#[]⟩),.nil,.t (.int .i64 0)],0,0⟩),
 (100,⟨1,8,.mp 9 37,[.lit (.map none)],0,0⟩),
 (102,⟨19,288,.st [(0,22),(1,29),(17,100),(18,3)],[.nil,.t (.int .i64 0),.nil,.t (.str ⟨#[]⟩),.t (.int .i64 0),.nil,.t (.int .i64 0),.t (.int .i64 0),.t (.int .i64 0),.nil,.nil,.t (.int .i64 0),.t (.int .i64 0),.t (.int .i64 0),.nil,.nil,.nil,.lit (.map none),.t (.int .i64 0)],0,0⟩),
 (103,⟨1,8,.other,[.lit .nilFunc],0,0⟩),
 (105,⟨4,32,.st [(0,3),(1,103),(2,36),(3,4)],[.t (.int .i64 0),.lit .nilFunc,.lit .nilFunc,.t (.bool false)],0,0⟩),
 (110,⟨1,8,.other,[.lit .nilFunc],0,0⟩),
 (111,⟨1,8,.other,[.lit .nilFunc],0,0⟩),
 (114,⟨1,8,.other,[.lit .nilFunc],0,0⟩),
 (117,⟨1,8,.other,[.lit .nilFunc],0,0⟩),
 (122,⟨3,32,.st [(0,3),(1,3),(2,9)],[.t (.int .i64 0),.t (.int .i64 0),.t (.str ⟨#[]⟩)],0,37⟩),
 (135,⟨1,8,.ptr 214,[.np],0,0⟩),
 (139,⟨1,8,.ptr 219,[.np],0,0⟩),
 (145,⟨1,8,.mp 9 222,[.lit (.map none)],0,0⟩),
 (147,⟨18,264,.st [(0,29),(16,145),(17,3)],[.t (.int .i64 0),.nil,.t (.str ⟨#[]⟩),.t (.int .i64 0),.nil,.t (.int .i64 0),.t (.int .i64 0),.t (.int .i64 0),.nil,.nil,.t (.int .i64 0),.t (.int .i64 0),.t (.int .i64 0),.nil,.nil,.nil,.lit (.map none),.t (.int .i64 0)],0,0⟩),
 (150,⟨7,104,.st [(0,9),(1,23),(2,3),(3,90)],[.t (.str ⟨#[]⟩),.nil,.t (.int .i64 0),.t (.int .i64 0),.t (.int .i64 0),.t (.str ⟨#[]⟩),.nil],0,0⟩),
 (152,⟨1,8,.other,[.lit .nilFunc],0,0⟩),
 (158,⟨36,288,.arr 9 105,[.t (.int .i64 0),.lit .nilFunc,.lit .nilFunc,.t (.bool false),.t (.int .i64 0),.lit .nilFunc,.lit .nilFunc,.t (.bool false),.t (.int .i64 0),.lit .nilFunc,.lit .nilFunc,.t (.bool false),.t (.int .i64 0),.lit .nilFunc,.lit .nilFunc,.t (.bool false),.t (.int .i64 0),.lit .nilFunc,.lit .nilFunc,.t (.bool false),.t (.int .i64 0),.lit .nilFunc,.lit .nilFunc,.t (.bool false),.t (.int .i64 0),.lit .nilFunc,.lit .nilFunc,.t (.bool false),.t (.int .i64 0),.lit .nilFunc,.lit .nilFunc,.t (.bool false),.t (.int .i64 0),.lit .nilFunc,.lit .nilFunc,.t (.bool false)],0,0⟩),
 (164,⟨1,24,.sl 171,[.nil],0,0⟩),
 (166,⟨1,8,.other,[.lit .nilFunc],0,0⟩),
 (171,⟨2,16,.st [(0,3),(1,3)],[.t (.int .i64 0),.t (.int .i64 0)],2,0⟩),
 (174,⟨1,8,.ptr 177,[.np],0,0⟩),
 (175,⟨1,24,.sl 5,[.nil],0,0⟩),
 (177,⟨2,32,.st [(0,174),(1,175)],[.np,.nil],0,0⟩),
 (179,⟨1,16,.ifc,[.lit .nilIface],0,0⟩),
 (184,⟨4,80,.st [(0,22),(1,3),(2,48),(3,48)],[.nil,.t (.int .i64 0),.nil,.nil],0,0⟩),
 (186,⟨1,24,.sl 190,[.nil],0,0⟩),
 (190,⟨3,40,.st [(0,3),(1,3),(2,37)],[.t (.int .i64 0),.t (.int .i64 0),.nil],0,0⟩),
 (195,⟨1,24,.sl 9,[.nil],0,0⟩),
 (198,⟨1,8,.other,[.lit .nilFunc],0,0⟩),
 (200,⟨1,24,.sl 201,[.nil],0,0⟩),
 (201,⟨1,24,.sl 4,[.nil],0,0⟩),
 (204,⟨4,40,.st [(0,67),(3,3)],[.t (.int .i64 0),.t (.int .i64 0),.t (.str ⟨#[]⟩),.t (.int .i64 0)],0,0⟩),
 (206,⟨1,24,.sl 209,[.nil],0,0⟩),
 (209,⟨4,64,.st [(0,48),(1,3),(2,3),(3,37)],[.nil,.t (.int .i64 0),.t (.int .i64 0),.nil],0,0⟩),
 (214,⟨2,24,.st [(0,9),(1,4)],[.t (.str ⟨#[]⟩),.t (.bool false)],0,14⟩),
 (219,⟨2,24,.st [(0,9),(1,4)],[.t (.str ⟨#[]⟩),.t (.bool false)],0,14⟩),
 (222,⟨1,8,.ptr 225,[.np],0,0⟩),
 (223,⟨2,48,.arr 2 37,[.nil,.nil],0,0⟩),
 (225,⟨2,48,.st [(0,223)],[.nil,.nil],0,0⟩),
 (231,⟨1,8,.other,[.lit .nilFunc],0,0⟩),
 (232,⟨1,8,.int .u64,[.t (.int .u64 0)],0,0⟩),
 (235,⟨1,8,.ptr 5,[.np],0,0⟩),
 (236,⟨1,8,.other,[.lit .nilFunc],0,0⟩),
 (239,⟨6,64,.st [(0,67),(3,67)],[.t (.int .i64 0),.t (.int .i64 0),.t (.str ⟨#[]⟩),.t (.int .i64 0),.t (.int .i64 0),.t (.str ⟨#[]⟩)],0,0⟩),
 (240,⟨1,8,.mp 3 236,[.lit (.map none)],0,0⟩),
 (241,⟨1,8,.mp 3 37,[.lit (.map none)],0,0⟩),
 (244,⟨1,8,.other,[.lit .nilFunc],0,0⟩),
 (250,⟨1,8,.other,[.lit .nilFunc],0,0⟩),
 (266,⟨1,4,.int .u32,[.t (.int .u32 0)],0,0⟩),
 (269,⟨1,8,.int .u64,[.t (.int .u64 0)],0,0⟩),
 (276,⟨1,24,.sl 48,[.nil],0,0⟩),
 (285,⟨2,48,.arr 2 23,[.nil,.nil],0,0⟩),
 (287,⟨1,8,.other,[.lit .nilFunc],0,0⟩),
 (288,⟨24,24,.arr 24 5,[.t (.int .u8 0),.t (.int .u8 0),.t (.int .u8 0),.t (.int .u8 0),.t (.int .u8 0),.t (.int .u8 0),.t (.int .u8 0),.t (.int .u8 0),.t (.int .u8 0),.t (.int .u8 0),.t (.int .u8 0),.t (.int .u8 0),.t (.int .u8 0),.t (.int .u8 0),.t (.int .u8 0),.t (.int .u8 0),.t (.int .u8 0),.t (.int .u8 0),.t (.int .u8 0),.t (.int .u8 0),.t (.int .u8 0),.t (.int .u8 0),.t (.int .u8 0),.t (.int .u8 0)],0,0⟩),
 (296,⟨1,8,.int .i64,[.t (.int .i64 0)],0,0⟩),
 (304,⟨1,8,.int .i64,[.t (.int .i64 0)],0,0⟩),
 (307,⟨1,8,.ptr 328,[.np],0,0⟩),
 (311,⟨20,160,.arr 20 269,[.t (.int .u64 0),.t (.int .u64 0),.t (.int .u64 0),.t (.int .u64 0),.t (.int .u64 0),.t (.int .u64 0),.t (.int .u64 0),.t (.int .u64 0),.t (.int .u64 0),.t (.int .u64 0),.t (.int .u64 0),.t (.int .u64 0),.t (.int .u64 0),.t (.int .u64 0),.t (.int .u64 0),.t (.int .u64 0),.t (.int .u64 0),.t (.int .u64 0),.t (.int .u64 0),.t (.int .u64 0)],0,0⟩),
 (312,⟨65,65,.arr 65 5,[.t (.int .u8 0),.t (.int .u8 0),.t (.int .u8 0),.t (.int .u8 0),.t (.int .u8 0),.t (.int .u8 0),.t (.int .u8 0),.t (.int .u8 0),.t (.int .u8 0),.t (.int .u8 0),.t (.int .u8 0),.t (.int .u8 0),.t (.int .u8 0),.t (.int .u8 0),.t (.int .u8 0),.t (.int .u8 0),.t (.int .u8 0),.t (.int .u8 0),.t (.int .u8 0),.t (.int .u8 0),.t (.int .u8 0),.t (.int .u8 0),.t (.int .u8 0),.t (.int .u8 0),.t (.int .u8 0),.t (.int .u8 0),.t (.int .u8 0),.t (.int .u8 0),.t (.int .u8 0),.t (.int .u8 0),.t (.int .u8 0),.t (.int .u8 0),.t (.int .u8 0),.t (.int .u8 0),.t (.int .u8 0),.t (.int .u8 0),.t (.int .u8 0),.t (.int .u8 0),.t (.int .u8 0),.t (.int .u8 0),.t (.int .u8 0),.t (.int .u8 0),.t (.int .u8 0),.t (.int .u8 0),.t (.int .u8 0),.t (.int .u8 0),.t (.int .u8 0),.t (.int .u8 0),.t (.int .u8 0),.t (.int .u8 0),.t (.int .u8 0),.t (.int .u8 0),.t (.int .u8 0),.t (.int .u8 0),.t (.int .u8 0),.t (.int .u8 0),.t (.int .u8 0),.t (.int .u8 0),.t (.int .u8 0),.t (.int .u8 0),.t (.int .u8 0),.t (.int .u8 0),.t (.int .u8 0),.t (.int .u8 0),.t (.int .u8 0)],0,0⟩),
 (319,⟨1,8,.int .u64,[.t (.int .u64 0)],0,0⟩),
 (323,⟨1,8,.ptr 3,[.np],0,0⟩),
 (328,⟨3,48,.st [(0,9),(1,9),(2,179)],[.t (.str ⟨#[]⟩),.t (.str ⟨#[]⟩),.lit .nilIface],0,0⟩),
 (332,⟨1,8,.ptr 319,[.np],0,0⟩),
 (335,⟨1,8,.ptr 337,[.np],0,0⟩),
 (337,⟨1,16,.st [(0,9)],[.t (.str ⟨#[]⟩)],0,2⟩),
 (338,⟨32,32,.arr 32 5,[.t (.int .u8 0),.t (.int .u8 0),.t (.int .u8 0),.t (.int .u8 0),.t (.int .u8 0),.t (.int .u8 0),.t (.int .u8 0),.t (.int .u8 0),.t (.int .u8 0),.t (.int .u8 0),.t (.int .u8 0),.t (.int .u8 0),.t (.int .u8 0),.t (.int .u8 0),.t (.int .u8 0),.t (.int .u8 0),.t (.int .u8 0),.t (.int .u8 0),.t (.int .u8 0),.t (.int .u8 0),.t (.int .u8 0),.t (.int .u8 0),.t (.int .u8 0),.t (.int .u8 0),.t (.int .u8 0),.t (.int .u8 0),.t (.int .u8 0),.t (.int .u8 0),.t (.int .u8 0),.t (.int .u8 0),.t (.int .u8 0),.t (.int .u8 0)],0,0⟩),
 (339,⟨64,64,.arr 64 5,[.t (.int .u8 0),.t (.int .u8 0),.t (.int .u8 0),.t (.int .u8 0),.t (.int .u8 0),.t (.int .u8 0),.t (.int .u8 0),.t (.int .u8 0),.t (.int .u8 0),.t (.int .u8 0),.t (.int .u8 0),.t (.int .u8 0),.t (.int .u8 0),.t (.int .u8 0),.t (.int .u8 0),.t (.int .u8 0),.t (.int .u8 0),.t (.int .u8 0),.t (.int .u8 0),.t (.int .u8 0),.t (.int .u8 0),.t (.int .u8 0),.t (.int .u8 0),.t (.int .u8 0),.t (.int .u8 0),.t (.int .u8 0),.t (.int .u8 0),.t (.int .u8 0),.t (.int .u8 0),.t (.int .u8 0),.t (.int .u8 0),.t (.int .u8 0),.t (.int .u8 0),.t (.int .u8 0),.t (.int .u8 0),.t (.int .u8 0),.t (.int .u8 0),.t (.int .u8 0),.t (.int .u8 0),.t (.int .u8 0),.t (.int .u8 0),.t (.int .u8 0),.t (.int .u8 0),.t (.int .u8 0),.t (.int .u8 0),.t (.int .u8 0),.t (.int .u8 0),.t (.int .u8 0),.t (.int .u8 0),.t (.int .u8 0),.t (.int .u8 0),.t (.int .u8 0),.t (.int .u8 0),.t (.int .u8 0),.t (.int .u8 0),.t (.int .u8 0),.t (.int .u8 0),.t (.int .u8 0),.t (.int .u8 0),.t (.int .u8 0),.t (.int .u8 0),.t (.int .u8 0),.t (.int .u8 0),.t (.int .u8 0)],0,0⟩),
 (354,⟨3,40,.st [(0,9),(1,3),(2,9)],[.t (.str ⟨#[]⟩),.t (.int .i64 0),.t (.str ⟨#[]⟩)],0,38⟩)]
set_option maxRecDepth 100000 in
theorem bH:nQ Proofs.Tryz.prog (look tiL):=
 aPN (aJ (aV (by kernel_rfl) (by kernel_rfl) (by kernel_rfl)) (aJ (aV (by kernel_rfl) (by kernel_rfl) (by kernel_rfl)) (aJ (aV (by kernel_rfl) (by kernel_rfl) (by kernel_rfl)) (aJ (aV (by kernel_rfl) (by kernel_rfl) (by kernel_rfl)) (aJ (aV (by kernel_rfl) (by kernel_rfl) (by kernel_rfl)) (aJ (aV (by kernel_rfl) (by kernel_rfl) (by kernel_rfl)) (aJ (aV (by kernel_rfl) (by kernel_rfl) (by kernel_rfl)) (aJ (aV (by kernel_rfl) (by kernel_rfl) (by kernel_rfl)) (aJ (aV (by kernel_rfl) (by kernel_rfl) (by kernel_rfl)) (aJ (aV (by kernel_rfl) (by kernel_rfl) (by kernel_rfl)) (aJ (aV (by kernel_rfl) (by kernel_rfl) (by kernel_rfl)) (aJ (aV (by kernel_rfl) (by kernel_rfl) (by kernel_rfl)) (aJ (aV (by kernel_rfl) (by kernel_rfl) (by kernel_rfl)) (aJ (aV (by kernel_rfl) (by kernel_rfl) (by kernel_rfl)) (aJ (aV (by kernel_rfl) (by kernel_rfl) (by kernel_rfl)) (aJ (aV (by kernel_rfl) (by kernel_rfl) (by kernel_rfl)) (aJ (aV (by kernel_rfl) (by kernel_rfl) (by kernel_rfl)) (aJ (aV (by kernel_rfl) (by kernel_rfl) (by kernel_rfl)) (aJ (aV (by kernel_rfl) (by kernel_rfl) (by kernel_rfl)) (aJ (aV (by kernel_rfl) (by kernel_rfl) (by kernel_rfl)) (aJ (aV (by kernel_rfl) (by kernel_rfl) (by kernel_rfl)) (aJ (aV (by kernel_rfl) (by kernel_rfl) (by kernel_rfl)) (aJ (aV (by kernel_rfl) (by kernel_rfl) (by kernel_rfl)) (aJ (aV (by kernel_rfl) (by kernel_rfl) (by kernel_rfl)) (aJ (aV (by kernel_rfl) (by kernel_rfl) (by kernel_rfl)) (aJ (aV (by kernel_rfl) (by kernel_rfl) (by kernel_rfl)) (aJ (aV (by kernel_rfl) (by kernel_rfl) (by kernel_rfl)) (aJ (aV (by kernel_rfl) (by kernel_rfl) (by kernel_rfl)) (aJ (aV (by kernel_rfl) (by kernel_rfl) (by kernel_rfl)) (aJ (aV (by kernel_rfl) (by kernel_rfl) (by kernel_rfl)) (aJ (aV (by kernel_rfl) (by kernel_rfl) (by kernel_rfl)) (aJ (aV (by kernel_rfl) (by kernel_rfl) (by kernel_rfl)) (aJ (aV (by kernel_rfl) (by kernel_rfl) (by kernel_rfl)) (aJ (aV (by kernel_rfl) (by kernel_rfl) (by kernel_rfl)) (aJ (aV (by kernel_rfl) (by kernel_rfl) (by kernel_rfl)) (aJ (aV (by kernel_rfl) (by kernel_rfl) (by kernel_rfl)) (aJ (aV (by kernel_rfl) (by kernel_rfl) (by kernel_rfl)) (aJ (aV (by kernel_rfl) (by kernel_rfl) (by kernel_rfl)) (aJ (aV (by kernel_rfl) (by kernel_rfl) (by kernel_rfl)) (aJ (aV (by kernel_rfl) (by kernel_rfl) (by kernel_rfl)) (aJ (aV (by kernel_rfl) (by kernel_rfl) (by kernel_rfl)) (aJ (aV (by kernel_rfl) (by kernel_rfl) (by kernel_rfl)) (aJ (aV (by kernel_rfl) (by kernel_rfl) (by kernel_rfl)) (aJ (aV (by kernel_rfl) (by kernel_rfl) (by kernel_rfl)) (aJ (aV (by kernel_rfl) (by kernel_rfl) (by kernel_rfl)) (aJ (aV (by kernel_rfl) (by kernel_rfl) (by kernel_rfl)) (aJ (aV (by kernel_rfl) (by kernel_rfl) (by kernel_rfl)) (aJ (aV (by kernel_rfl) (by kernel_rfl) (by kernel_rfl)) (aJ (aV (by kernel_rfl) (by kernel_rfl) (by kernel_rfl)) (aJ (aV (by kernel_rfl) (by kernel_rfl) (by kernel_rfl)) (aJ (aV (by kernel_rfl) (by kernel_rfl) (by kernel_rfl)) (aJ (aV (by kernel_rfl) (by kernel_rfl) (by kernel_rfl)) (aJ (aV (by kernel_rfl) (by kernel_rfl) (by kernel_rfl)) (aJ (aV (by kernel_rfl) (by kernel_rfl) (by kernel_rfl)) (aJ (aV (by kernel_rfl) (by kernel_rfl) (by kernel_rfl)) (aJ (aV (by kernel_rfl) (by kernel_rfl) (by kernel_rfl)) (aJ (aV (by kernel_rfl) (by kernel_rfl) (by kernel_rfl)) (aJ (aV (by kernel_rfl) (by kernel_rfl) (by kernel_rfl)) (aJ (aV (by kernel_rfl) (by kernel_rfl) (by kernel_rfl)) (aJ (aV (by kernel_rfl) (by kernel_rfl) (by kernel_rfl)) (aJ (aV (by kernel_rfl) (by kernel_rfl) (by kernel_rfl)) (aJ (aV (by kernel_rfl) (by kernel_rfl) (by kernel_rfl)) (aJ (aV (by kernel_rfl) (by kernel_rfl) (by kernel_rfl)) (aJ (aV (by kernel_rfl) (by kernel_rfl) (by kernel_rfl)) (aJ (aV (by kernel_rfl) (by kernel_rfl) (by kernel_rfl)) (aJ (aV (by kernel_rfl) (by kernel_rfl) (by kernel_rfl)) (aJ (aV (by kernel_rfl) (by kernel_rfl) (by kernel_rfl)) (aJ (aV (by kernel_rfl) (by kernel_rfl) (by kernel_rfl)) (aJ (aV (by kernel_rfl) (by kernel_rfl) (by kernel_rfl)) (aJ (aV (by kernel_rfl) (by kernel_rfl) (by kernel_rfl)) (aJ (aV (by kernel_rfl) (by kernel_rfl) (by kernel_rfl)) (aJ (aV (by kernel_rfl) (by kernel_rfl) (by kernel_rfl)) (aJ (aV (by kernel_rfl) (by kernel_rfl) (by kernel_rfl)) (aJ (aV (by kernel_rfl) (by kernel_rfl) (by kernel_rfl)) (aJ (aV (by kernel_rfl) (by kernel_rfl) (by kernel_rfl)) (aJ (aV (by kernel_rfl) (by kernel_rfl) (by kernel_rfl)) (aJ (aV (by kernel_rfl) (by kernel_rfl) (by kernel_rfl)) (aJ (aV (by kernel_rfl) (by kernel_rfl) (by kernel_rfl)) (aJ (aV (by kernel_rfl) (by kernel_rfl) (by kernel_rfl)) (aJ (aV (by kernel_rfl) (by kernel_rfl) (by kernel_rfl)) (aJ (aV (by kernel_rfl) (by kernel_rfl) (by kernel_rfl)) (aJ (aV (by kernel_rfl) (by kernel_rfl) (by kernel_rfl)) (aJ (aV (by kernel_rfl) (by kernel_rfl) (by kernel_rfl)) (aJ (aV (by kernel_rfl) (by kernel_rfl) (by kernel_rfl)) (aJ (aV (by kernel_rfl) (by kernel_rfl) (by kernel_rfl)) (aJ (aV (by kernel_rfl) (by kernel_rfl) (by kernel_rfl)) (aJ (aV (by kernel_rfl) (by kernel_rfl) (by kernel_rfl)) (aJ (aV (by kernel_rfl) (by kernel_rfl) (by kernel_rfl)) (aJ (aV (by kernel_rfl) (by kernel_rfl) (by kernel_rfl)) (aJ (aV (by kernel_rfl) (by kernel_rfl) (by kernel_rfl)) (aJ (aV (by kernel_rfl) (by kernel_rfl) (by kernel_rfl)) (aJ (aV (by kernel_rfl) (by kernel_rfl) (by kernel_rfl)) (aJ (aV (by kernel_rfl) (by kernel_rfl) (by kernel_rfl)) (aJ (aV (by kernel_rfl) (by kernel_rfl) (by kernel_rfl)) (aJ (aV (by kernel_rfl) (by kernel_rfl) (by kernel_rfl)) (aJ (aV (by kernel_rfl) (by kernel_rfl) (by kernel_rfl)) (aJ (aV (by kernel_rfl) (by kernel_rfl) (by kernel_rfl)) (aJ (aV (by kernel_rfl) (by kernel_rfl) (by kernel_rfl)) (aJ (aV (by kernel_rfl) (by kernel_rfl) (by kernel_rfl)) (aJ (aV (by kernel_rfl) (by kernel_rfl) (by kernel_rfl)) (aJ (aV (by kernel_rfl) (by kernel_rfl) (by kernel_rfl)) aGN)))))))))))))))))))))))))))))))))))))))))))))))))))))))))))))))))))))))))))))))))))))))))))))))))))))
abbrev TP:=Tr Proofs.Tryz.prog
end Go.PL
namespace Go.Proofs
open Go.Shelf Go.RowKit
set_option maxRecDepth 100000 in
theorem Tryz.copyCheck_used(b:Nat)(w:World)(h0:w.cell? ⟨b,0,none⟩=some (.pointer (some ⟨b,0,none⟩))):
  Calls Tryz.prog 222 #[.pointer (some ⟨b,0,none⟩)] w fun e w'=>e = .returned (.tuple #[])/\w'=w:=by
 have hsz:(Tryz.prog.info? 177).map (·.size)=some 2:=by kernel_rfl
 obtain⟨j,hj,_⟩:=Option.map_eq_some_iff.1 hsz;have mixed:Tryz.prog.follows .mixedOrders=true:=by kernel_rfl
 have t72:=Tryz.underlying177; have a72:=Tryz.isAgg177; have z72:=Tryz.sizeOf177; have v72:=Tryz.zeroValue177; have u72:=run_underlying t72;have t70:=Tryz.underlying174; have a70:=Tryz.isAgg174; have z70:=Tryz.sizeOf174; have v70:=Tryz.zeroValue174; have u70:=run_underlying t70;have t4:=Tryz.underlying4; have a4:=Tryz.isAgg4; have z4:=Tryz.sizeOf4; have v4:=Tryz.zeroValue4; have u4:=run_underlying t4;have t164:=Tryz.underlying273; have a164:=Tryz.isAgg273; have z164:=Tryz.sizeOf273; have v164:=Tryz.zeroValue273; have u164:=run_underlying t164
 go_enter Tryz.func222,Tryz.ntmps222
 go_wp2
 rw[Lib.run_neq_ptr_same w _ t70 hj]
 go_wp2
 go_end0
 exact⟨rfl,rfl⟩
set_option maxRecDepth 100000 in
theorem Tryz.copyCheck_fresh(b:Nat)(w:World)(h0:w.cell? ⟨b,0,none⟩=some (.pointer none))(hsh:w.shape? b=some (177,2))(hfz:w.frozen? ⟨b,0,none⟩=false):
  Calls Tryz.prog 222 #[.pointer (some ⟨b,0,none⟩)] w fun e w'=>e = .returned (.tuple #[])/\w'=w.setCell ⟨b,0,none⟩ (.pointer (some ⟨b,0,none⟩)):=by
 have hsz:(Tryz.prog.info? 177).map (·.size)=some 2:=by kernel_rfl
 obtain⟨j,hj,hjs⟩:=Option.map_eq_some_iff.1 hsz;have lies:liesAt Tryz.prog Tryz.prog.depth 177 (2 / Tryz.prog.cellsOf 177) 0 177 1=true:=by kernel_rfl
 have mixed:Tryz.prog.follows .mixedOrders=true:=by kernel_rfl
 have t72:=Tryz.underlying177; have a72:=Tryz.isAgg177; have z72:=Tryz.sizeOf177; have v72:=Tryz.zeroValue177; have u72:=run_underlying t72;have t70:=Tryz.underlying174; have a70:=Tryz.isAgg174; have z70:=Tryz.sizeOf174; have v70:=Tryz.zeroValue174; have u70:=run_underlying t70;have t4:=Tryz.underlying4; have a4:=Tryz.isAgg4; have z4:=Tryz.sizeOf4; have v4:=Tryz.zeroValue4; have u4:=run_underlying t4;have t164:=Tryz.underlying273; have a164:=Tryz.isAgg273; have z164:=Tryz.sizeOf273; have v164:=Tryz.zeroValue273; have u164:=run_underlying t164
 go_enter Tryz.func222,Tryz.ntmps222
 go_wp2
 rw[Lib.run_to_unsafe w ⟨b,0,none⟩ t70 t164 hj (by rw[hjs]; decide) hsh (Nat.zero_lt_succ 1)];simp only[Result.andThen];rw[Oper.upon_value]
 go_wp2
 rw[run_callFunc_extern Tryz.func276 (by kernel_rfl) (by kernel_rfl) (by kernel_rfl) (e:=Extern.AbiNoEscape.same) (by kernel_rfl)];rw[Lib.run_noEscape];simp only[Result.andThen];rw[Oper.upon_value]
 go_wp2
 rw[Lib.run_from_unsafe w ⟨b,0,none⟩ t164 t70 hj hsh lies];simp only[Result.andThen];rw[Oper.upon_value]
 go_wp2
 go_end0
 exact⟨rfl,rfl⟩
set_option maxRecDepth 100000 in
theorem Tryz.String_row(b g cap:Nat)(p:Value)(cur:Array Value)(l:List UInt8)(h0:l≠[])(w:World)(hbk:w.heap[b]? = some (.cells #[p,.slice (some ⟨g,0,none⟩) l.length cap] 177 (0,0)))
  (hg:w.heap[g]? = some (.cells cur 5 (0,0)))(hnc:l.length<=cap)(hcm:cap<=maxLen)(hcs:cur.size=cap*1)(hcell:∀ (j:Nat) (x:UInt8),l[j]? = some x->cur[j]? = some (Value.int .u8 (x.toNat:Int))):
  Calls Tryz.prog 170 #[.pointer (some ⟨b,0,none⟩)] w fun e w'=>e = .returned (.string ⟨l.toArray⟩)/\w'=w.drew.freeze ⟨g,0,none⟩ l.length:=by
 have hl0:l.length≠0:=by simpa using h0
 have c1:w.drew.cell? ⟨b,1,none⟩=some (.slice (some ⟨g,0,none⟩) l.length cap):=by have:w.drew.heap[b]? = some (.cells #[p,.slice (some ⟨g,0,none⟩) l.length cap] 177 (0,0)):=hbk;rw[Lib.cell_of_heap this]; rfl
 have hSD:(Builtin.unsafeSliceData_ #[175] 235 #[.slice (some ⟨g,0,none⟩) l.length cap]).run Tryz.prog w.drew = .ok (.pointer (some ⟨g,0,none⟩)) w.drew:=
  Lib.run_unsafeSliceData_row _ _ _ _ _ _ (by omega)
 have hUS:(Builtin.unsafeString_ #[235,3] 9 #[.pointer (some ⟨g,0,none⟩),.int .i64 l.length]).run Tryz.prog w.drew = .ok (.string ⟨l.toArray⟩) (w.drew.freeze ⟨g,0,none⟩ l.length):=by refine Lib.run_unsafeString_row w.drew 235 3 9 5 Tryz.underlying235 (by kernel_rfl) g cur.size (by have hg':w.drew.heap[g]? = some (.cells cur 5 (0,0)):=hg; simp[World.shape?,hg']) l h0 (by omega) (by unfold maxLen at hcm; omega) ?_;intro j x hx;have hg':w.drew.heap[g]? = some (.cells cur 5 (0,0)):=hg;rw[Go.PL.Addr.add_none,Nat.zero_add,Lib.cell_of_heap hg'];exact hcell j x hx
 have mixed:Tryz.prog.follows .mixedOrders=true:=by kernel_rfl
 have t72:=Tryz.underlying177; have a72:=Tryz.isAgg177; have z72:=Tryz.sizeOf177; have v72:=Tryz.zeroValue177; have u72:=run_underlying t72;have t70:=Tryz.underlying174; have a70:=Tryz.isAgg174; have z70:=Tryz.sizeOf174; have v70:=Tryz.zeroValue174; have u70:=run_underlying t70;have t37:=Tryz.underlying175; have a37:=Tryz.isAgg175; have z37:=Tryz.sizeOf175; have v37:=Tryz.zeroValue175; have u37:=run_underlying t37;have t127:=Tryz.underlying235; have a127:=Tryz.isAgg235; have z127:=Tryz.sizeOf235; have v127:=Tryz.zeroValue235; have u127:=run_underlying t127;have t3:=Tryz.underlying3; have a3:=Tryz.isAgg3; have z3:=Tryz.sizeOf3; have v3:=Tryz.zeroValue3; have u3:=run_underlying t3;have t9:=Tryz.underlying9; have a9:=Tryz.isAgg9; have z9:=Tryz.sizeOf9; have v9:=Tryz.zeroValue9; have u9:=run_underlying t9;have t5:=Tryz.underlying5; have a5:=Tryz.isAgg5; have z5:=Tryz.sizeOf5; have v5:=Tryz.zeroValue5; have u5:=run_underlying t5
 go_enter Tryz.func170,Tryz.ntmps170
 go_wp2
 go_region_o
 all_goals (go_wp2; go_ret; exact⟨rfl,rfl⟩)
set_option maxRecDepth 100000 in
theorem Tryz.String_nil(b:Nat)(p:Value)(w:World)(hbk:w.heap[b]? = some (.cells #[p,.slice none 0 0] 177 (0,0))):
  Calls Tryz.prog 170 #[.pointer (some ⟨b,0,none⟩)] w fun e w'=>e = .returned (.string ⟨#[]⟩)/\w'=w.drew:=by
 have hUS:∀ W q,(Builtin.unsafeString_ #[235,3] 9 #[.pointer q,.int .i64 0]).run Tryz.prog W = .ok (.string .empty) W:=fun W q=>Lib.run_unsafeString_none W _ _ _ q;have c1:w.drew.cell? ⟨b,1,none⟩=some (.slice none 0 0):=by have:w.drew.heap[b]? = some (.cells #[p,.slice none 0 0] 177 (0,0)):=hbk;rw[Lib.cell_of_heap this]; rfl
 have hSD:(Builtin.unsafeSliceData_ #[175] 235 #[.slice none 0 0]).run Tryz.prog w.drew = .ok (.pointer none) w.drew:=rfl;have mixed:Tryz.prog.follows .mixedOrders=true:=by kernel_rfl
 have t72:=Tryz.underlying177; have a72:=Tryz.isAgg177; have z72:=Tryz.sizeOf177; have v72:=Tryz.zeroValue177; have u72:=run_underlying t72;have t70:=Tryz.underlying174; have a70:=Tryz.isAgg174; have z70:=Tryz.sizeOf174; have v70:=Tryz.zeroValue174; have u70:=run_underlying t70;have t37:=Tryz.underlying175; have a37:=Tryz.isAgg175; have z37:=Tryz.sizeOf175; have v37:=Tryz.zeroValue175; have u37:=run_underlying t37;have t127:=Tryz.underlying235; have a127:=Tryz.isAgg235; have z127:=Tryz.sizeOf235; have v127:=Tryz.zeroValue235; have u127:=run_underlying t127;have t3:=Tryz.underlying3; have a3:=Tryz.isAgg3; have z3:=Tryz.sizeOf3; have v3:=Tryz.zeroValue3; have u3:=run_underlying t3;have t9:=Tryz.underlying9; have a9:=Tryz.isAgg9; have z9:=Tryz.sizeOf9; have v9:=Tryz.zeroValue9; have u9:=run_underlying t9;have t5:=Tryz.underlying5; have a5:=Tryz.isAgg5; have z5:=Tryz.sizeOf5; have v5:=Tryz.zeroValue5; have u5:=run_underlying t5
 go_enter Tryz.func170,Tryz.ntmps170
 go_wp2
 go_region_o
 all_goals (go_wp2; go_ret; exact⟨rfl,rfl⟩)
set_option maxRecDepth 100000 in
theorem Tryz.String_noroom(b g:Nat)(p:Value)(cur:Array Value)(w:World)(hlt:b<w.heap.size)(hbk:w.heap[b]? = some (.cells #[p,.slice (some ⟨g,0,none⟩) 0 0] 177 (0,0)))(hg:w.heap[g]? = some (.cells cur 5 (0,0))):
  Calls Tryz.prog 170 #[.pointer (some ⟨b,0,none⟩)] w fun e w'=>e = .returned (.string ⟨#[]⟩)/\w'=w.drew.alloc (.view ⟨g,0,none⟩ 5):=by
 have hUS:∀ W q,(Builtin.unsafeString_ #[235,3] 9 #[.pointer q,.int .i64 0]).run Tryz.prog W = .ok (.string .empty) W:=fun W q=>Lib.run_unsafeString_none W _ _ _ q;have c1:w.drew.cell? ⟨b,1,none⟩=some (.slice (some ⟨g,0,none⟩) 0 0):=by have:w.drew.heap[b]? = some (.cells #[p,.slice (some ⟨g,0,none⟩) 0 0] 177 (0,0)):=hbk;rw[Lib.cell_of_heap this]; rfl
 have hSD:(Builtin.unsafeSliceData_ #[175] 235 #[.slice (some ⟨g,0,none⟩) 0 0]).run Tryz.prog w.drew = .ok (.pointer (some ⟨w.drew.heap.size,0,none⟩)) (w.drew.alloc (.view ⟨g,0,none⟩ 5)):=
  Lib.run_unsafeSliceData_zero w.drew _ _ 5 Tryz.underlying235 ⟨g,0,none⟩ 0 (5,cur.size) (by have hg':w.drew.heap[g]? = some (.cells cur 5 (0,0)):=hg; simp[World.shape?,hg'])
 have c2:(w.drew.alloc (.view ⟨g,0,none⟩ 5)).cell? ⟨b,1,none⟩=some (.slice (some ⟨g,0,none⟩) 0 0):=by have:(w.drew.alloc (.view ⟨g,0,none⟩ 5)).heap[b]? = _:=(Lib.alloc_old w.drew _ b hlt).trans hbk;rw[Lib.cell_of_heap this]; rfl
 have c3:(w.alloc (.view ⟨g,0,none⟩ 5)).drew.cell? ⟨b,1,none⟩=some (.slice (some ⟨g,0,none⟩) 0 0):=c2;have c0:w.cell? ⟨b,1,none⟩=some (.slice (some ⟨g,0,none⟩) 0 0):=c1;have mixed:Tryz.prog.follows .mixedOrders=true:=by kernel_rfl
 have t72:=Tryz.underlying177; have a72:=Tryz.isAgg177; have z72:=Tryz.sizeOf177; have v72:=Tryz.zeroValue177; have u72:=run_underlying t72;have t70:=Tryz.underlying174; have a70:=Tryz.isAgg174; have z70:=Tryz.sizeOf174; have v70:=Tryz.zeroValue174; have u70:=run_underlying t70;have t37:=Tryz.underlying175; have a37:=Tryz.isAgg175; have z37:=Tryz.sizeOf175; have v37:=Tryz.zeroValue175; have u37:=run_underlying t37;have t127:=Tryz.underlying235; have a127:=Tryz.isAgg235; have z127:=Tryz.sizeOf235; have v127:=Tryz.zeroValue235; have u127:=run_underlying t127;have t3:=Tryz.underlying3; have a3:=Tryz.isAgg3; have z3:=Tryz.sizeOf3; have v3:=Tryz.zeroValue3; have u3:=run_underlying t3;have t9:=Tryz.underlying9; have a9:=Tryz.isAgg9; have z9:=Tryz.sizeOf9; have v9:=Tryz.zeroValue9; have u9:=run_underlying t9;have t5:=Tryz.underlying5; have a5:=Tryz.isAgg5; have z5:=Tryz.sizeOf5; have v5:=Tryz.zeroValue5; have u5:=run_underlying t5
 go_enter Tryz.func170,Tryz.ntmps170
 go_wp2
 go_region_o
 all_goals (go_wp2; go_ret; exact⟨rfl,rfl⟩)
set_option maxRecDepth 100000 in
theorem Tryz.String_room(b g cap:Nat)(p:Value)(w:World)(hc0:cap≠0)(hbk:w.heap[b]? = some (.cells #[p,.slice (some ⟨g,0,none⟩) 0 cap] 177 (0,0))):
  Calls Tryz.prog 170 #[.pointer (some ⟨b,0,none⟩)] w fun e w'=>e = .returned (.string ⟨#[]⟩)/\w'=w.drew:=by
 have hUS:∀ W q,(Builtin.unsafeString_ #[235,3] 9 #[.pointer q,.int .i64 0]).run Tryz.prog W = .ok (.string .empty) W:=fun W q=>Lib.run_unsafeString_none W _ _ _ q;have c1:w.drew.cell? ⟨b,1,none⟩=some (.slice (some ⟨g,0,none⟩) 0 cap):=by have:w.drew.heap[b]? = some (.cells #[p,.slice (some ⟨g,0,none⟩) 0 cap] 177 (0,0)):=hbk;rw[Lib.cell_of_heap this]; rfl
 have hSD:(Builtin.unsafeSliceData_ #[175] 235 #[.slice (some ⟨g,0,none⟩) 0 cap]).run Tryz.prog w.drew = .ok (.pointer (some ⟨g,0,none⟩)) w.drew:=
  Lib.run_unsafeSliceData_row _ _ _ _ _ _ hc0
 clear hc0;have mixed:Tryz.prog.follows .mixedOrders=true:=by kernel_rfl
 have t72:=Tryz.underlying177; have a72:=Tryz.isAgg177; have z72:=Tryz.sizeOf177; have v72:=Tryz.zeroValue177; have u72:=run_underlying t72;have t70:=Tryz.underlying174; have a70:=Tryz.isAgg174; have z70:=Tryz.sizeOf174; have v70:=Tryz.zeroValue174; have u70:=run_underlying t70;have t37:=Tryz.underlying175; have a37:=Tryz.isAgg175; have z37:=Tryz.sizeOf175; have v37:=Tryz.zeroValue175; have u37:=run_underlying t37;have t127:=Tryz.underlying235; have a127:=Tryz.isAgg235; have z127:=Tryz.sizeOf235; have v127:=Tryz.zeroValue235; have u127:=run_underlying t127;have t3:=Tryz.underlying3; have a3:=Tryz.isAgg3; have z3:=Tryz.sizeOf3; have v3:=Tryz.zeroValue3; have u3:=run_underlying t3;have t9:=Tryz.underlying9; have a9:=Tryz.isAgg9; have z9:=Tryz.sizeOf9; have v9:=Tryz.zeroValue9; have u9:=run_underlying t9;have t5:=Tryz.underlying5; have a5:=Tryz.isAgg5; have z5:=Tryz.sizeOf5; have v5:=Tryz.zeroValue5; have u5:=run_underlying t5
 go_enter Tryz.func170,Tryz.ntmps170
 go_wp2
 go_region_o
 all_goals (go_wp2; go_ret; exact⟨rfl,rfl⟩)
end Go.Proofs
namespace Go.Proofs
open Go.Shelf Go.RowKit
theorem yH{P:Program}{w:World}{ops:Array Oper}{rest:List Oper}{o:Oper}{a:Act}{Q:Exit->Act->World->Prop}(hgd:o.guard=none)(sl x:Operand)(t u:TypeId)
  (ho:o.op = .call { callee:=.builtin .append,args:=#[sl,x],argTypes:=#[t,u] })(ty:TypeId)(hty:o.type=ty)(v:Value)(s:ByteArray)(hs:a.eval sl=v)(hx:a.eval x = .string s)(v':Value)(w':World)
  (hr:(Builtin.append_ #[t,u] ty #[v,.string s]).run P w = .ok v' w')(h:wpList P ops Q rest (a.put o.dst v') w'):wpList P ops Q (o::rest) a w:=by
 refine wpList_plain hgd fun K hK=>?_;unfold Oper.wp execOp;simp only[ho,hty,resolve,invoke,builtin,Sem.run_bind,Sem.run_pure,Result.andThen_ok,List.map_toArray,List.map_cons,List.map_nil,hs,hx,hr];exact hK _ _ h
set_option maxRecDepth 100000 in
theorem Tryz.WriteString_ex(b:Nat)(v:Value)(ao:Option Addr)(n' cap:Nat)(s:ByteArray)(w w1 w2:World)(hcc:Calls Tryz.prog 222 #[.pointer (some ⟨b,0,none⟩)] w fun e w'=>e = .returned (.tuple #[])/\w'=w1)
  (hbk:w1.heap[b]? = some (.cells #[.pointer (some ⟨b,0,none⟩),v] 177 (0,0)))(hap:(Builtin.append_ #[175,9] 175 #[v,.string s]).run Tryz.prog w1 = .ok (.slice ao n' cap) w2)
  (hb2:w2.heap[b]? = some (.cells #[.pointer (some ⟨b,0,none⟩),v] 177 (0,0))):
  Calls Tryz.prog 167 #[.pointer (some ⟨b,0,none⟩),.string s] w fun e w'=>e = .returned (.tuple #[.int .i64 s.size,.nilIface])/\w'=w2.setCell ⟨b,1,none⟩ (.slice ao n' cap):=by
 have mixed:Tryz.prog.follows .mixedOrders=true:=by kernel_rfl
 have t72:=Tryz.underlying177; have a72:=Tryz.isAgg177; have z72:=Tryz.sizeOf177; have v72:=Tryz.zeroValue177; have u72:=run_underlying t72;have t70:=Tryz.underlying174; have a70:=Tryz.isAgg174; have z70:=Tryz.sizeOf174; have v70:=Tryz.zeroValue174; have u70:=run_underlying t70;have t37:=Tryz.underlying175; have a37:=Tryz.isAgg175; have z37:=Tryz.sizeOf175; have v37:=Tryz.zeroValue175; have u37:=run_underlying t37;have t3:=Tryz.underlying3; have a3:=Tryz.isAgg3; have z3:=Tryz.sizeOf3; have v3:=Tryz.zeroValue3; have u3:=run_underlying t3;have t9:=Tryz.underlying9; have a9:=Tryz.isAgg9; have z9:=Tryz.sizeOf9; have v9:=Tryz.zeroValue9; have u9:=run_underlying t9;have t4:=Tryz.underlying4; have a4:=Tryz.isAgg4; have z4:=Tryz.sizeOf4; have v4:=Tryz.zeroValue4; have u4:=run_underlying t4;have t5:=Tryz.underlying5; have a5:=Tryz.isAgg5; have z5:=Tryz.sizeOf5; have v5:=Tryz.zeroValue5; have u5:=run_underlying t5;have e167:∀ args w,(callFunc 222 args).run Tryz.prog w = .ok (.enter 222 args) w:=enters_of Tryz.func222 (by kernel_rfl) rfl
 go_enter Tryz.func167,Tryz.ntmps167
 go_wp2_with (go_at_fn 222; refine hcc.mono ?_)
 rintro e w' ⟨rfl,rfl⟩;have c0:w'.cell? ⟨b,0,none⟩=some (.pointer (some ⟨b,0,none⟩)):=by rw[Lib.cell_of_heap hbk]; rfl
 have c1:w'.cell? ⟨b,1,none⟩=some v:=by rw[Lib.cell_of_heap hbk]; rfl
 have d0:w2.cell? ⟨b,0,none⟩=some (.pointer (some ⟨b,0,none⟩)):=by rw[Lib.cell_of_heap hb2]; rfl
 have d1:w2.cell? ⟨b,1,none⟩=some v:=by rw[Lib.cell_of_heap hb2]; rfl
 have f1:w2.frozen? ⟨b,1,none⟩=false:=Lib.frozen_of_heap hb2 1
 go_wp2_with (at_builtin; refine yH rfl _ _ 175 9 rfl 175 rfl _ s rfl rfl _ _ hap ?_)
 go_wp2
 go_ret2
 exact⟨rfl,rfl⟩
end Go.Proofs
namespace Go.PL
open Go
theorem aBW(x:ByteArray):(⟨x.data.toList.toArray⟩:ByteArray)=x:=by cases x; simp
theorem aRL{x:ByteArray}(h:x.size=0):x=⟨#[]⟩:=by
 cases x with
 | mk d=>have:d=#[]:=Be h; rw[this]
theorem Af{g:Nat->Value}{w w':World}{F:Nat->Prop}{H:Hp}(hH:HpR F g w (fun _=>True) H)(hF:∀ b,F b->b<w.heap.size)
  (hos:w'.os=w.os)(htp:w'.tape=w.tape)(hout:w'.output=w.output)(hsz:w.heap.size<=w'.heap.size)(hb:∀ b,b<w.heap.size->¬ Own g w H b->w'.heap[b]? = w.heap[b]?):
  Ig { w0:=w,F0:=F,B0:=Own g w H,g0:=g,N:=[],nt:=0 } F g [] w':=by
 refine⟨⟨fun o x h=>by simp at h,fun o x b h=>by simp at h,fun o x o' y b h=>by simp at h⟩,fun b h=>h,fun b h=>⟨Ca (hF b h) hsz,.inl h⟩,⟨hos,htp,hout,hsz,hb⟩,fun o h=>by simp at h,?_⟩;rintro b ⟨o,x,h1,h2⟩;exact h2.block (hH.obj o x h1)
theorem aUY(x:ByteArray):fD Proofs.Tryz.prog 170 [.ptr 30000 0] [(30000,.bld 177 5 x)] [] (some x) (fun y=>.t (.str y)) (fun _=>[]):=by
 refine⟨bU Proofs.Tryz.func170 (by kernel_rfl),fun y hy=>?_⟩;cases hy;intro F g w vs hs hv hH hF hgl;obtain⟨b,p,v,h1,h2,h3,h4⟩:=hH.obj 30000 _ (bZ.2 rfl);have h0:0<vs.size:=by rw[hs]; decide
 have hv0:=hv 0 _ vs[0] rfl (by simp[h0]);have hvs:vs=#[.pointer (some ⟨b,0,none⟩)]:=by
  have e0:vs[0] = .pointer (some ⟨b,0,none⟩):=by
   generalize vs[0]=u at hv0;cases hv0 with
   | ptr hg=>rw[h1]at hg; injection hg with hg; injection hg with hg; injection hg with hg; subst hg; rfl
  apply sT
  ·rw[hs]; rfl
  ·intro q hq _;have:q=0:=by rw[hs]at hq; simp at hq; omega
   subst this;simpa using e0
 subst hvs;have post:∀ {w':World},w'.os=w.os->w'.tape=w.tape->w'.output=w.output->w.heap.size<=w'.heap.size->(∀ q,q<w.heap.size->¬ Own g w [(30000,.bld 177 5 x)] q->w'.heap[q]? = w.heap[q]?) ->
   ∃ v r H' F' g',Ending.returned (.string x) = .returned v/\vF (.t (.str x)) [] r H'/\VR F' g' w' r v/\Ig { w0:=w,F0:=F,B0:=Own g w [(30000,.bld 177 5 x)],g0:=g,N:=[],nt:=0 } F' g' H' w':=
  fun e1 e2 e3 e4 e5=>⟨_,_,_,F,g,rfl,⟨rfl,rfl⟩,.t (.str _),Af hH hF e1 e2 e3 e4 e5⟩
 rcases h4 with⟨rfl,hx0⟩ | ⟨r,cap,cur,rfl,k1,k2,k3,k4,k5,k6⟩
 ·have hx:x=⟨#[]⟩:=aRL hx0;refine(Proofs.Tryz.String_nil b p w h2).mono ?_;rintro e w' ⟨rfl,rfl⟩;rw[<-hx];exact post rfl rfl rfl (cS _) (fun _ _ _=>rfl)
 ·have hblt:b<w.heap.size:=(Co.1 h2).1;by_cases hx0:x.size=0
  ·have hx:x=⟨#[]⟩:=aRL hx0;rw[hx0]at h2;by_cases hc:cap=0
   ·subst hc;refine(Proofs.Tryz.String_noroom b r p cur w hblt h2 k1).mono ?_;rintro e w' ⟨rfl,rfl⟩;rw[<-hx];exact post rfl rfl rfl (by show w.heap.size<=(w.heap.push _).size; rw[Array.size_push]; exact Nat.le_succ _) (fun q hq _=>heap_alloc_old w.drew _ hq)
   ·refine(Proofs.Tryz.String_room b r cap p w hc h2).mono ?_;rintro e w' ⟨rfl,rfl⟩;rw[<-hx];exact post rfl rfl rfl (cS _) (fun _ _ _=>rfl)
  ·have hl:x.data.toList.length=x.size:=by simp
   have hne:x.data.toList≠[]:=by intro h;rw[h]at hl;exact hx0 hl.symm
   have h2':=h2;rw[<-hl]at h2';refine(Proofs.Tryz.String_row b r cap p cur x.data.toList hne w h2' k1 (by omega) k4 (by omega) (fun q u hu=>?_)).mono ?_
   ·have hq:q<x.size:=by rw[<-hl]; exact(eN.1 hu).1
    have:=congrArg (·[q]?) k6;simp only[gM,aA hq,iK,fQ,hu]at this;simpa using this
   ·rintro e w' ⟨rfl,rfl⟩;rw[aBW];have hn:x.data.toList.length≠0:=by omega
    refine post ?_ ?_ ?_ ?_ (fun q hq ho=>?_)
    ·simp only[World.freeze,aE hn]; rfl
    ·simp only[World.freeze,aE hn]; rfl
    ·simp only[World.freeze,aE hn]; rfl
    ·simp only[World.freeze,aE hn];rw[Array.size_modify];exact cS _
    ·have hqr:q≠r:=fun e=>ho ⟨30000,_,bZ.2 rfl,.bld h1 h2 (by rw[e]; rfl)⟩;simp only[World.freeze,aE hn];rw[Py,aE (fun e=>hqr e.symm)];rfl
end Go.PL
namespace Go.PL
open Go Go.Lib
theorem qO(w:World)(b q:Nat)(u c0 c1:Value)(ty:Nat)(hb:w.heap[b]? = some (.cells #[c0,c1] ty (0,0)))(_hq:q<2):
  (w.setCell ⟨b,q,none⟩ u).heap[b]? = some (.cells (#[c0,c1].setIfInBounds q u) ty (0,0)):=by
 simp[World.setCell,Py,hb]
theorem jQ(w:World)(b q k:Nat)(u:Value)(hk:k≠b):(w.setCell ⟨b,q,none⟩ u).heap[k]? = w.heap[k]?:=by simp[World.setCell,Py,Ne.symm hk]
theorem rD(w:World)(b q:Nat)(u:Value):(w.setCell ⟨b,q,none⟩ u).heap.size=w.heap.size:=by simp[World.setCell]
def aOE(w:World)(v:Value)(s:ByteArray):Prop:=
 (v = .slice none 0 0/\s.size=0)\/∃ r cap cur,v = .slice (some ⟨r,0,none⟩) s.size cap/\w.heap[r]? = some (.cells cur 5 (0,0))/\s.size<=cap/\cap<=maxLen/\cur.size=cap/\cur.toList.take s.size=iK s
theorem wP(x s:ByteArray):iK (x++s)=iK x++iK s:=by simp[iK,ByteArray.data_append]
theorem mT(s:ByteArray):(iK s).length=s.size:=by simp[iK]
theorem Ss(x s:ByteArray)(w:World)(v:Value)(hr:aOE w v x)(hC:x.size+s.size<=140737488355328):
  ∃ ao n cap w2,(Builtin.append_ #[175,9] 175 #[v,.string s]).run Proofs.Tryz.prog w = .ok (.slice ao n cap) w2/\aOE w2 (.slice ao n cap) (x++s)/\(∀ k,k<w.heap.size->blk v≠some k->w2.heap[k]? = w.heap[k]?) /\
   w.heap.size<=w2.heap.size/\w2.os=w.os/\w2.tape=w.tape/\w2.output=w.output/\(∀ k,blk (.slice ao n cap)=some k->blk v=some k\/w.heap.size<=k):=by
 have htx:Proofs.Tryz.prog.underlying 9=some .string:=Proofs.Tryz.underlying9;have ht:Proofs.Tryz.prog.underlying 175=some (.slice 5):=Proofs.Tryz.underlying175;have hi0:(Proofs.Tryz.prog.info? 5).map (fun i=>(i.zero,i.size,i.bytes))=some (some (.int .u8 0),1,1):=by kernel_rfl
 obtain⟨i,hi,hi1⟩:=kM.1 hi0;injection hi1 with hz hi2;injection hi2 with hs hb;have hsz:(x++s).size=x.size+s.size:=kB;have hsc:strCells s=iK s:=rfl;rcases hr with⟨rfl,hx0⟩ | ⟨r,cap,cur,rfl,h1,h2,h3,h4,h5⟩
 ·have hx:iK (x++s)=iK s:=by have h0:iK x=[]:=rK (by rw[mT]; exact hx0);rw[wP,h0,sN]
  by_cases hs0:s.size=0
  ·refine⟨none,0,0,w,?_,.inl ⟨rfl,by omega⟩,fun _ _ _=>rfl,cS _,rfl,rfl,rfl,fun k h=>by simp[blk]at h⟩;simp[Builtin.append_,run_underlying ht,run_underlying htx,sizeOf,typeInfo,hi,Builtin.lenOf,hs0,Builtin.firstCells]
  ·have hrun:=pU (P:=Proofs.Tryz.prog) w 175 9 175 5 i _ ht htx hi hz s (by omega) (by omega) (by rw[hb]; omega);refine⟨_,_,_,_,hrun,.inr ⟨_,_,_,by rw[hsz,hx0,eW]; rfl,heap_alloc_new w.drew _,?_,?_,?_,?_⟩,fun k hk _=>heap_alloc_old w.drew _ hk,?_,rfl,rfl,rfl,fun k h=>?_⟩
   ·rw[hsz,hx0,eW]; exact grownCap_ge w s.size 0 5
   ·exact grownCap_le_maxLen w s.size 0 5 (by simp only[maxLen]; omega)
   ·have:=grownCap_ge w s.size 0 5;simp only[pH,nL,strCells_length,size_zeroCells];simp[Value.cells]; omega
   ·rw[hx,hsz,hx0,eW];simp only[Array.toList_append];rw[Es (by simp[strCells_length]),kV (by simp[strCells_length])];simp[hsc]
   ·show w.heap.size<=(w.heap.push _).size; rw[Array.size_push]; exact Nat.le_succ _
   ·simp[blk]at h; right; omega
 ·have hrl:r<w.heap.size:=(Co.1 h1).1;by_cases hroom:x.size+s.size<=cap
  ·have hrun:=run_append_room_string (P:=Proofs.Tryz.prog) w 175 9 175 5 i ht htx hi hs r x.size cap cur h1 s hroom (by omega);refine⟨_,_,_,_,hrun,.inr ⟨r,cap,_,by rw[hsz],setRow_heap w r cur _ 5 _ h1,by omega,h3,?_,?_⟩,fun k hk hne=>setRow_other w r k _ (fun e=>hne (by rw[e]; rfl)),by simp,rfl,rfl,rfl,fun k h=>.inl h⟩
   ·simp only[nL,bQ,cE,fC,strCells_length,iI]; omega
   ·rw[hsz,wP,hsc,h5];have hl1:(iK x++iK s).length=x.size+s.size:=by simp[mT]
    rw[Es (by omega),kV (by omega)]
  ·have hol:(cur.toList.take x.size).length=x.size*i.size:=by rw[hs]; simp only[cE,iI]; omega
   have hrun:=run_append_grow_string (P:=Proofs.Tryz.prog) w 175 9 175 5 i _ ht htx hi hz ⟨r,0,none⟩ x.size cap (cur.toList.take x.size) hol (fun k u hu=>by
    rw[Addr.add_none,eW];rw[gM]at hu;split at hu
    ·simpa[World.cell?,h1] using hu
    ·cases hu) s (by omega) (by omega) (growslice_fits (by omega) (by rw[hb]; omega))
   refine⟨_,_,_,_,hrun,.inr ⟨_,_,_,by rw[hsz]; rfl,heap_alloc_new w.drew _,?_,?_,?_,?_⟩,fun k hk _=>heap_alloc_old w.drew _ hk,?_,rfl,rfl,rfl,fun k h=>?_⟩
   ·rw[hsz]; exact grownCap_ge w (x.size+s.size) cap 5
   ·exact grownCap_le_maxLen w (x.size+s.size) cap 5 (by simp only[maxLen]; omega)
   ·have:=grownCap_ge w (x.size+s.size) cap 5;rw[hs,En]at hol;simp only[pH,nL,hol,strCells_length,size_zeroCells];simp[Value.cells]; omega
   ·rw[hsz,wP,hsc,h5];have hl1:(iK x++iK s).length=x.size+s.size:=by simp[mT]
    simp only[Array.toList_append];rw[Es (by simp[mT]),kV (by simp[mT])]
   ·show w.heap.size<=(w.heap.push _).size; rw[Array.size_push]; exact Nat.le_succ _
   ·simp[blk]at h; right; omega
theorem aIZ(x s:ByteArray):fD Proofs.Tryz.prog 167 [.ptr 30000 0,.t (.str s)] [(30000,.bld 177 5 x)] [30000] (if x.size+s.size<=140737488355328 then some () else none)
  (fun _:Unit=>.tup [.t (.int .i64 s.size),.lit .nilIface]) (fun _=>[(30000,.bld 177 5 (x++s))]):=by
 refine⟨bU Proofs.Tryz.func167 (by kernel_rfl),fun y hy=>?_⟩;split at hy
 case isFalse=>cases hy
 rename_i hC;intro F g w vs hs hv hH hF hgl;have hmem:(30000,bA.bld 177 5 x)∈([(30000,.bld 177 5 x)]:Hp):=bZ.2 rfl;obtain⟨b,p,v,h1,h2,h3,h4⟩:=hH.obj 30000 _ hmem;have hs2:vs.size=2:=hs;have hv0:=hv 0 _ (vs[0]'(by omega)) rfl (by simp[hs2]);have hv1:=hv 1 _ (vs[1]'(by omega)) rfl (by simp[hs2]);have hvs:vs=#[.pointer (some ⟨b,0,none⟩),.string s]:=by
  have e0:vs[0]'(by omega) = .pointer (some ⟨b,0,none⟩):=by
   generalize vs[0]'(by omega)=u at hv0;cases hv0 with
   | ptr hg=>rw[h1]at hg; injection hg with hg; injection hg with hg; injection hg with hg; subst hg; rfl
  have e1:vs[1]'(by omega) = .string s:=hv1.inv_str;apply sT
  ·rw[hs2]; rfl
  ·intro q hq _
   match q,hq with
   | 0,_=>simpa using e0
   | 1,_=>simpa using e1
   | q+2,hq=>omega
 subst hvs;have hblt:b<w.heap.size:=(Co.1 h2).1;have rowb:aOE w v x:=by
  rcases h4 with h4 | ⟨r,cap,cur,k1,k2,k3,k4⟩
  ·exact .inl h4
  ·exact .inr ⟨r,cap,cur,k1,k2,k4⟩
 have hvb:blk v≠some b:=by
  rcases h4 with⟨rfl,_⟩ | ⟨r,cap,cur,rfl,k2,k3,k4⟩
  ·simp[blk]
  ·simp[blk]; exact k3
 obtain⟨w1,c1,c2,c3,c4,c5,c6,c7⟩:∃ w1,(Calls Proofs.Tryz.prog 222 #[.pointer (some ⟨b,0,none⟩)] w fun e w'=>e = .returned (.tuple #[])/\w'=w1)/\w1.heap[b]? = some (.cells #[.pointer (some ⟨b,0,none⟩),v] 177 (0,0)) /\
   (∀ k,k≠b->w1.heap[k]? = w.heap[k]?)/\w1.heap.size=w.heap.size/\w1.os=w.os/\w1.tape=w.tape/\w1.output=w.output:=by
  rcases h3 with rfl | rfl
  ·refine⟨_,Proofs.Tryz.copyCheck_fresh b w (by rw[Lib.cell_of_heap h2]; rfl) (by simp[World.shape?,h2]) (Lib.frozen_of_heap h2 0),?_,fun k hk=>jQ w b 0 k _ hk,rD ..,rfl,rfl,rfl⟩;rw[qO w b 0 _ _ _ _ h2 (by decide)];rfl
  ·exact⟨w,Proofs.Tryz.copyCheck_used b w (by rw[Lib.cell_of_heap h2]; rfl),h2,fun _ _=>rfl,rfl,rfl,rfl,rfl⟩
 have rowb1:aOE w1 v x:=by
  rcases rowb with h | ⟨r,cap,cur,k1,k2,k3⟩
  ·exact .inl h
  ·refine .inr ⟨r,cap,cur,k1,?_,k3⟩;rw[c3 r (fun e=>hvb (by rw[k1,e]; rfl))]; exact k2
 obtain⟨ao,n',cap',w2,d1,d2,d3,d4,d5,d6,d7,d8⟩:=Ss x s w1 v rowb1 hC;have hb2:w2.heap[b]? = some (.cells #[.pointer (some ⟨b,0,none⟩),v] 177 (0,0)):=by rw[d3 b (by omega) hvb]; exact c2
 have hv'b:blk (.slice ao n' cap')≠some b:=fun e=>by
  rcases d8 b e with h | h
  ·exact hvb h
  ·omega
 refine(Proofs.Tryz.WriteString_ex b v ao n' cap' s w w1 w2 c1 c2 d1 hb2).mono ?_;rintro e w' ⟨rfl,rfl⟩;have hold:∀ k,k<w.heap.size->k≠b->blk v≠some k->(w2.setCell ⟨b,1,none⟩ (.slice ao n' cap')).heap[k]? = w.heap[k]?:=fun k hk hkb hkv=>by rw[jQ w2 b 1 k _ hkb,d3 k (by omega) hkv,c3 k hkb]
 have hbld:aZC (w2.setCell ⟨b,1,none⟩ (.slice ao n' cap')) (g 30000) 177 5 (x++s):=by
  refine⟨b,.pointer (some ⟨b,0,none⟩),.slice ao n' cap',h1,?_,.inr rfl,?_⟩
  ·rw[qO w2 b 1 _ _ _ _ hb2 (by decide)]; rfl
  ·rcases d2 with h | ⟨r,cap,cur,k1,k2,k3⟩
   ·exact .inl h
   ·have hrb:r≠b:=fun e=>hv'b (by rw[k1,e]; rfl);exact .inr ⟨r,cap,cur,k1,by rw[jQ w2 b 1 r _ hrb]; exact k2,hrb,k3⟩
 have hfoot:∀ q,bB g (w2.setCell ⟨b,1,none⟩ (.slice ao n' cap')) 30000 (.bld 177 5 (x++s)) q->q=b\/blk (.slice ao n' cap')=some q:=by
  intro q hq;cases hq with
  | self h=>rw[h1]at h; simp[blk]at h; exact .inl h.symm
  | bld k1 k2 k3=>rw[h1]at k1; injection k1 with k1; injection k1 with k1; injection k1 with k1; subst k1;rw[qO w2 b 1 _ _ _ _ hb2 (by decide)]at k2;injection k2 with k2; injection k2 with k2; injection k2 with k2; injection k2 with k2 k4; injection k4 with k4;subst k4;exact .inr k3
 have hown:∀ q,blk v=some q->bB g w 30000 (.bld 177 5 x) q:=fun q hq=>.bld h1 h2 hq;have hself:bB g w 30000 (.bld 177 5 x) b:=.self (by rw[h1]; rfl);refine⟨_,_,_,F,g,rfl,⟨rfl,rfl⟩,.tup rfl fun j q u hq hu=>?_,⟨⟨fun o q hq=>?_,fun o q c hq hc=>?_,fun o q o' q' c hq hq' hne=>?_⟩,fun b h=>h,fun c hc=>⟨?_,.inl hc⟩,⟨?_,?_,?_,?_,fun c hc hn=>?_⟩,fun _ _=>rfl,?_⟩⟩
 ·match j,hq,hu with
  | 0,hq,hu=>simp at hq hu; subst hq; subst hu; exact .t (.int _ _)
  | 1,hq,hu=>simp at hq hu; subst hq; subst hu; exact .lit rfl
  | j+2,hq,_=>simp at hq
 ·cases bZ.1 hq; exact hbld
 ·cases bZ.1 hq;rcases hfoot c hc with rfl | h
  ·exact⟨(hH.own _ _ _ hmem hself).1,.inl ⟨_,_,hmem,hself⟩⟩
  ·rcases d8 c h with h | h
   ·exact⟨(hH.own _ _ _ hmem (hown c h)).1,.inl ⟨_,_,hmem,hown c h⟩⟩
   ·exact⟨fun hf=>by have:=hF c hf; omega,.inr (by simpa[c4] using h)⟩
 ·cases bZ.1 hq; cases bZ.1 hq'; exact absurd rfl hne
 ·rw[rD]; have:=hF c hc; omega
 ·show w2.os=w.os; rw[d5,c5]
 ·show w2.tape=w.tape; rw[d6,c6]
 ·show w2.output=w.output; rw[d7,c7]
 ·rw[rD]; show w.heap.size<=_; omega
 ·exact hold c hc (fun e=>hn ⟨_,_,hmem,e▸hself⟩) (fun e=>hn ⟨_,_,hmem,hown c e⟩)
 ·rintro c ⟨o,q,k1,k2⟩;exact k2.block (hH.obj o q k1)
end Go.PL
namespace Go.Proofs
open Go.Shelf
def Tryz.lays106_ren:Go.Shelf.Ren:=⟨fun | 106=>240 | 213=>280 | 265=>301 | n=>n,fun | 9=>9 | 3=>3 | n=>n,fun | n=>n⟩
theorem Tryz.lays106:Go.Proofs.Lays.n106 Tryz.prog Tryz.lays106_ren:={
 mixed:=by kernel_rfl
 f106:=Tryz.func240.trans (congrArg some (by kernel_rfl))
 f213:=Tryz.func280.trans (congrArg some (by kernel_rfl))
 f265:=Tryz.func301.trans (congrArg some (by kernel_rfl))
 t3:=Tryz.underlying3
 a3:=Tryz.isAgg3
 z3:=Tryz.sizeOf3
 v3:=Tryz.zeroValue3
 t9:=Tryz.underlying9
 a9:=Tryz.isAgg9
 z9:=Tryz.sizeOf9
 v9:=Tryz.zeroValue9 }
open Go.RowKit in
theorem Tryz.strings_Compare(a b:ByteArray)(w:World):
  Calls Tryz.prog 240 #[.string a,.string b] w fun e w'=>e = .returned (.int .i64 (Lib.compareBytes a.data.toList b.data.toList))/\w'=w:=Any.strings_Compare Tryz.lays106 a b w
open Go.RowKit in
def Tryz.laysM171_ren:Go.Shelf.Ren:=⟨fun | 171=>166 | 243=>221 | 246=>275 | 283=>295 | 284=>296 | 285=>297 | 286=>298 | 129=>312 | 317=>321 | 318=>322 | 319=>323 | 320=>324 | 337=>344 | 338=>345 | n=>n,fun | 3=>3 | 9=>9 | 2=>2 | 4=>4 | 171=>288 | 0=>0 | 53=>269 | 37=>175 | 5=>5 | 173=>291 | 212=>311 | 51=>266 | 20=>20 | 213=>312 | 46=>232 | 232=>338 | 233=>339 | n=>n,fun | 17=>1 | 18=>4 | 19=>5 | n=>n⟩
theorem Tryz.laysM171:Go.Proofs.LaysM.n171 Tryz.prog Tryz.laysM171_ren:={
 mixed:=by kernel_rfl
 f129:=Tryz.func312.trans (congrArg some (by kernel_rfl))
 f171:=Tryz.func166.trans (congrArg some (by kernel_rfl))
 f243:=Tryz.func221.trans (congrArg some (by kernel_rfl))
 f246:=Tryz.func275.trans (congrArg some (by kernel_rfl))
 f283:=Tryz.func295.trans (congrArg some (by kernel_rfl))
 f284:=Tryz.func296.trans (congrArg some (by kernel_rfl))
 f285:=Tryz.func297.trans (congrArg some (by kernel_rfl))
 f286:=Tryz.func298.trans (congrArg some (by kernel_rfl))
 f317:=Tryz.func321.trans (congrArg some (by kernel_rfl))
 f318:=Tryz.func322.trans (congrArg some (by kernel_rfl))
 f319:=Tryz.func323.trans (congrArg some (by kernel_rfl))
 f320:=Tryz.func324.trans (congrArg some (by kernel_rfl))
 f337:=Tryz.func344.trans (congrArg some (by kernel_rfl))
 f338:=Tryz.func345.trans (congrArg some (by kernel_rfl))
 t0:=Tryz.underlying0
 a0:=Tryz.isAgg0
 z0:=Tryz.sizeOf0
 v0:=Tryz.zeroValue0
 t2:=Tryz.underlying2
 a2:=Tryz.isAgg2
 z2:=Tryz.sizeOf2
 v2:=Tryz.zeroValue2
 t3:=Tryz.underlying3
 a3:=Tryz.isAgg3
 z3:=Tryz.sizeOf3
 v3:=Tryz.zeroValue3
 t4:=Tryz.underlying4
 a4:=Tryz.isAgg4
 z4:=Tryz.sizeOf4
 v4:=Tryz.zeroValue4
 t5:=Tryz.underlying5
 a5:=Tryz.isAgg5
 z5:=Tryz.sizeOf5
 v5:=Tryz.zeroValue5
 t9:=Tryz.underlying9
 a9:=Tryz.isAgg9
 z9:=Tryz.sizeOf9
 v9:=Tryz.zeroValue9
 t20:=Tryz.underlying20
 a20:=Tryz.isAgg20
 z20:=Tryz.sizeOf20
 v20:=Tryz.zeroValue20
 t37:=Tryz.underlying175
 a37:=Tryz.isAgg175
 z37:=Tryz.sizeOf175
 v37:=Tryz.zeroValue175
 t46:=Tryz.underlying232
 a46:=Tryz.isAgg232
 z46:=Tryz.sizeOf232
 v46:=Tryz.zeroValue232
 t51:=Tryz.underlying266
 a51:=Tryz.isAgg266
 z51:=Tryz.sizeOf266
 v51:=Tryz.zeroValue266
 t53:=Tryz.underlying269
 a53:=Tryz.isAgg269
 z53:=Tryz.sizeOf269
 v53:=Tryz.zeroValue269
 t171:=Tryz.underlying288
 a171:=Tryz.isAgg288
 z171:=Tryz.sizeOf288
 v171:=Tryz.zeroValue288
 t173:=Tryz.underlying291
 a173:=Tryz.isAgg291
 z173:=Tryz.sizeOf291
 v173:=Tryz.zeroValue291
 t212:=Tryz.underlying311
 a212:=Tryz.isAgg311
 z212:=Tryz.sizeOf311
 v212:=Tryz.zeroValue311
 t213:=Tryz.underlying312
 a213:=Tryz.isAgg312
 z213:=Tryz.sizeOf312
 t232:=Tryz.underlying338
 a232:=Tryz.isAgg338
 z232:=Tryz.sizeOf338
 v232:=Tryz.zeroValue338
 t233:=Tryz.underlying339
 a233:=Tryz.isAgg339
 z233:=Tryz.sizeOf339
 v233:=Tryz.zeroValue339
 g17:=by kernel_rfl
 g18:=by kernel_rfl
 g19:=by kernel_rfl
 i0:=by kernel_rfl
 i2:=by kernel_rfl
 i3:=by kernel_rfl
 i4:=by kernel_rfl
 i5:=by kernel_rfl
 i9:=by kernel_rfl
 i20:=by kernel_rfl
 i37:=by kernel_rfl
 i46:=by kernel_rfl
 i51:=by kernel_rfl
 i53:=by kernel_rfl
 i171:=by kernel_rfl
 i173:=by kernel_rfl
 i212:=by kernel_rfl
 i232:=by kernel_rfl
 i233:=by kernel_rfl
 m17:=by kernel_rfl
 m18:=by kernel_rfl
 m19:=by kernel_rfl }
open Go.RowKit Go.Sort Go.Lib in
theorem Tryz.strconv_Itoa(n:Int)(h0:-9223372036854775808<=n)(h1:n<=9223372036854775807)(w:World)(htab:Lib.TabIs Tryz.prog w "internal/strconv.uint64pow10" .u64 Lib.pow10Tab):
  Calls Tryz.prog 166 #[.int .i64 n] w fun e w'=>e = .returned (.string ⟨(Lib.itoa n).toArray⟩)/\∃ k os,w'=grow (w.drewN k) os:=Any.strconv_Itoa Tryz.laysM171 n h0 h1 w htab
end Go.Proofs
namespace Go.PL
open Go
theorem hv1{F:Nat->Prop}{g:Nat->Value}{w:World}{vs:Array Value}{p:PV}{u:Value}(hs:vs.size=[p].length)(hv:∀ (j:Nat) x v,[p][j]? = some x->vs[j]? = some v->VR F g w x v)(hu:∀ v,VR F g w p v->v=u):vs=#[u]:=by
 have h1:vs.size=1:=hs;have e0:=hu _ (hv 0 _ (vs[0]'(by omega)) rfl (by simp[h1]));apply sT
 ·rw[h1]; rfl
 ·intro q hq _;have:q=0:=by omega
  subst this;simpa using e0
theorem hv2{F:Nat->Prop}{g:Nat->Value}{w:World}{vs:Array Value}{p p':PV}{u u':Value}(hs:vs.size=[p,p'].length)(hv:∀ (j:Nat) x v,[p,p'][j]? = some x->vs[j]? = some v->VR F g w x v)(hu:∀ v,VR F g w p v->v=u)
  (hu':∀ v,VR F g w p' v->v=u'):vs=#[u,u']:=by
 have h1:vs.size=2:=hs;have e0:=hu _ (hv 0 _ (vs[0]'(by omega)) rfl (by simp[h1]));have e1:=hu' _ (hv 1 _ (vs[1]'(by omega)) rfl (by simp[h1]));apply sT
 ·rw[h1]; rfl
 ·intro q hq _
  match q,hq with
  | 0,_=>simpa using e0
  | 1,_=>simpa using e1
  | q+2,hq=>omega
def aZR(a0 a1:ByteArray):Option Int:=some (Lib.compareBytes a0.data.toList a1.data.toList)
theorem aMG(a0 a1:ByteArray):Con Proofs.Tryz.prog 240 [.t (.str a0),.t (.str a1)] (aZR a0 a1) (fun (y:Int)=>.t (.int .i64 y)):=by refine⟨bU Proofs.Tryz.func240 (by kernel_rfl),fun y hy=>?_⟩;cases hy;intro F g w vs hs hv hH hF hgl;have hvs:=hv2 hs hv (u:=.string a0) (u':=.string a1) (fun v h=>h.inv_str) (fun v h=>h.inv_str);subst hvs;refine(Proofs.Tryz.strings_Compare a0 a1 w).mono ?_;rintro e w' ⟨rfl,rfl⟩;exact⟨_,_,[],F,g,rfl,rfl,.t (.int _ _),Af hH hF rfl rfl rfl (cS _) (fun _ _ _=>rfl)⟩
def aJF(a0:Int):Option ByteArray:=if -9223372036854775808<=a0/\a0<=9223372036854775807 then some ⟨(Lib.itoa a0).toArray⟩ else none
theorem Xn(a0:Int):Con Proofs.Tryz.prog 166 [.t (.int .i64 a0)] (aJF a0) (fun (y:ByteArray)=>.t (.str y)):=by
 refine⟨bU Proofs.Tryz.func166 (by kernel_rfl),fun y hy=>?_⟩;unfold aJF at hy;split at hy
 case isFalse=>cases hy
 rename_i hr;cases hy;intro F g w vs hs hv hH hF hgl;have hvs:=hv1 hs hv (u:=.int .i64 a0) (fun v h=>h.inv_int);subst hvs;have hname:∃ b,Proofs.Tryz.prog.globalNamed Ts=some b:=Bk.1 (by kernel_rfl);obtain⟨b,hb⟩:=hname;refine(Proofs.Tryz.strconv_Itoa a0 hr.1 hr.2 w (hgl.tab b hb).1).mono ?_;rintro e w' ⟨rfl,k,os,rfl⟩;refine⟨_,_,[],F,g,rfl,rfl,.t (.str _),Af hH hF rfl rfl rfl ?_ (fun q hq _=>?_)⟩
 ·show w.heap.size<=(w.heap++os).size;rw[pH]; exact Nat.le_add_right _ _
 ·show (w.heap++os)[q]? = w.heap[q]?;exact nW hq
end Go.PL
namespace Go.Proofs
open Go.Shelf Go.RowKit
end Go.Proofs
namespace Go.PL
open Go
end Go.PL
namespace Go.Proofs
open Go.RowKit Go.Maps Go.Sort Go.Shelf
def Tryz.keys181_ren:Go.Shelf.Ren:=⟨fun | 7=>181 | 10=>244 | n=>n,fun | 23=>100 | 26=>9 | 3=>37 | 28=>198 | 0=>0 | 27=>197 | 33=>250 | 4=>4 | n=>n,fun n=>n⟩
theorem Tryz.keys181:Go.Proofs.SlLaysZ.n7 Tryz.prog Tryz.keys181_ren:={
 mixed:=by kernel_rfl
 f7:=⟨Tryz.f181.name,by kernel_rfl,Tryz.func181.trans (congrArg some (by kernel_rfl))⟩
 f10:=⟨Tryz.f244.name,by kernel_rfl,Tryz.func244.trans (congrArg some (by kernel_rfl))⟩
 t0:=Tryz.underlying0
 a0:=Tryz.isAgg0
 z0:=Tryz.sizeOf0
 v0:=Tryz.zeroValue0
 t4:=Tryz.underlying4
 a4:=Tryz.isAgg4
 z4:=Tryz.sizeOf4
 v4:=Tryz.zeroValue4
 t23:=Tryz.underlying100
 a23:=Tryz.isAgg100
 z23:=Tryz.sizeOf100
 v23:=Tryz.zeroValue100
 t26:=Tryz.underlying9
 a26:=Tryz.isAgg9
 z26:=Tryz.sizeOf9
 v26:=Tryz.zeroValue9
 t27:=Tryz.underlying197
 a27:=Tryz.isAgg197
 z27:=Tryz.sizeOf197
 v27:=Tryz.zeroValue197
 t28:=Tryz.underlying198
 a28:=Tryz.isAgg198
 z28:=Tryz.sizeOf198
 v28:=Tryz.zeroValue198
 t33:=Tryz.underlying250
 a33:=Tryz.isAgg250
 z33:=Tryz.sizeOf250
 v33:=Tryz.zeroValue250 }
def Tryz.sorted180_ren:Go.Shelf.Ren:=⟨fun | 6=>180 | 8=>242 | 9=>243 | 11=>282 | 13=>284 | 12=>283 | 23=>311 | 24=>312 | 14=>302 | 15=>303 | 16=>304 | 17=>305 | 18=>306 | 19=>307 | 20=>308 | 21=>309 | 22=>310 | 25=>334 | 26=>335 | 27=>336 | 28=>337 | 29=>338 | 30=>339 | 31=>349 | n=>n,fun | 26=>9 | 28=>198 | 24=>195 | 0=>0 | 3=>3 | 37=>232 | 48=>266 | 50=>269 | 4=>4 | 40=>297 | 39=>296 | 45=>131 | 5=>5 | 9=>9 | 51=>319 | 55=>323 | 57=>332 | 58=>35 | 33=>250 | n=>n,fun n=>n⟩
theorem Tryz.sorted180:Go.Proofs.SlLaysZ.n6 Tryz.prog Tryz.sorted180_ren:={
 mixed:=by kernel_rfl
 f6:=⟨Tryz.f180.name,by kernel_rfl,Tryz.func180.trans (congrArg some (by kernel_rfl))⟩
 f8:=⟨Tryz.f242.name,by kernel_rfl,Tryz.func242.trans (congrArg some (by kernel_rfl))⟩
 f11:=⟨Tryz.f282.name,by kernel_rfl,Tryz.func282.trans (congrArg some (by kernel_rfl))⟩
 t0:=Tryz.underlying0
 a0:=Tryz.isAgg0
 z0:=Tryz.sizeOf0
 v0:=Tryz.zeroValue0
 t24:=Tryz.underlying195
 a24:=Tryz.isAgg195
 z24:=Tryz.sizeOf195
 v24:=Tryz.zeroValue195
 t26:=Tryz.underlying9
 a26:=Tryz.isAgg9
 z26:=Tryz.sizeOf9
 v26:=Tryz.zeroValue9
 t28:=Tryz.underlying198
 a28:=Tryz.isAgg198
 z28:=Tryz.sizeOf198
 v28:=Tryz.zeroValue198
 i26:=by kernel_rfl }
def Tryz.sort243_ren:Go.Shelf.Ren:=⟨fun | 6=>243 | 8=>284 | 9=>283 | 19=>311 | 20=>312 | 21=>302 | 22=>303 | 23=>304 | 24=>305 | 25=>306 | 26=>307 | 27=>308 | 28=>309 | 29=>310 | 36=>334 | 31=>335 | 32=>336 | 37=>337 | 38=>338 | 39=>339 | 41=>349 | n=>n,fun | 27=>195 | 29=>9 | 3=>3 | 32=>232 | 26=>195 | 0=>0 | 44=>266 | 46=>269 | 4=>4 | 36=>297 | 35=>296 | 41=>131 | 5=>5 | 9=>9 | 53=>319 | 57=>323 | 63=>332 | 64=>35 | n=>n,fun n=>n⟩
theorem Tryz.sort243:Go.Proofs.SlLaysM.n6 Tryz.prog Tryz.sort243_ren:={
 mixed:=by kernel_rfl
 f6:=⟨Tryz.f243.name,by kernel_rfl,Tryz.func243.trans (congrArg some (by kernel_rfl))⟩
 f8:=Tryz.func284.trans (congrArg some (by kernel_rfl))
 f9:=⟨Tryz.f283.name,by kernel_rfl,Tryz.func283.trans (congrArg some (by kernel_rfl))⟩
 f19:=Tryz.func311.trans (congrArg some (by kernel_rfl))
 f20:=Tryz.func312.trans (congrArg some (by kernel_rfl))
 f21:=⟨Tryz.f302.name,by kernel_rfl,Tryz.func302.trans (congrArg some (by kernel_rfl))⟩
 f22:=⟨Tryz.f303.name,by kernel_rfl,Tryz.func303.trans (congrArg some (by kernel_rfl))⟩
 f23:=⟨Tryz.f304.name,by kernel_rfl,Tryz.func304.trans (congrArg some (by kernel_rfl))⟩
 f24:=⟨Tryz.f305.name,by kernel_rfl,Tryz.func305.trans (congrArg some (by kernel_rfl))⟩
 f25:=⟨Tryz.f306.name,by kernel_rfl,Tryz.func306.trans (congrArg some (by kernel_rfl))⟩
 f26:=⟨Tryz.f307.name,by kernel_rfl,Tryz.func307.trans (congrArg some (by kernel_rfl))⟩
 f27:=⟨Tryz.f308.name,by kernel_rfl,Tryz.func308.trans (congrArg some (by kernel_rfl))⟩
 f28:=⟨Tryz.f309.name,by kernel_rfl,Tryz.func309.trans (congrArg some (by kernel_rfl))⟩
 f29:=⟨Tryz.f310.name,by kernel_rfl,Tryz.func310.trans (congrArg some (by kernel_rfl))⟩
 f31:=Tryz.func335.trans (congrArg some (by kernel_rfl))
 f32:=Tryz.func336.trans (congrArg some (by kernel_rfl))
 f36:=⟨Tryz.f334.name,by kernel_rfl,Tryz.func334.trans (congrArg some (by kernel_rfl))⟩
 f37:=⟨Tryz.f337.name,by kernel_rfl,Tryz.func337.trans (congrArg some (by kernel_rfl))⟩
 f38:=⟨Tryz.f338.name,by kernel_rfl,Tryz.func338.trans (congrArg some (by kernel_rfl))⟩
 f39:=⟨Tryz.f339.name,by kernel_rfl,Tryz.func339.trans (congrArg some (by kernel_rfl))⟩
 f41:=⟨Tryz.f349.name,by kernel_rfl,Tryz.func349.trans (congrArg some (by kernel_rfl))⟩
 t0:=Tryz.underlying0
 a0:=Tryz.isAgg0
 z0:=Tryz.sizeOf0
 v0:=Tryz.zeroValue0
 t3:=Tryz.underlying3
 a3:=Tryz.isAgg3
 z3:=Tryz.sizeOf3
 v3:=Tryz.zeroValue3
 t4:=Tryz.underlying4
 a4:=Tryz.isAgg4
 z4:=Tryz.sizeOf4
 v4:=Tryz.zeroValue4
 t5:=Tryz.underlying5
 a5:=Tryz.isAgg5
 z5:=Tryz.sizeOf5
 v5:=Tryz.zeroValue5
 t9:=Tryz.underlying9
 a9:=Tryz.isAgg9
 z9:=Tryz.sizeOf9
 v9:=Tryz.zeroValue9
 t26:=Tryz.underlying195
 a26:=Tryz.isAgg195
 z26:=Tryz.sizeOf195
 v26:=Tryz.zeroValue195
 t27:=Tryz.underlying195
 a27:=Tryz.isAgg195
 z27:=Tryz.sizeOf195
 v27:=Tryz.zeroValue195
 t29:=Tryz.underlying9
 a29:=Tryz.isAgg9
 z29:=Tryz.sizeOf9
 v29:=Tryz.zeroValue9
 t32:=Tryz.underlying232
 a32:=Tryz.isAgg232
 z32:=Tryz.sizeOf232
 v32:=Tryz.zeroValue232
 t35:=Tryz.underlying296
 a35:=Tryz.isAgg296
 z35:=Tryz.sizeOf296
 v35:=Tryz.zeroValue296
 t36:=Tryz.underlying297
 a36:=Tryz.isAgg297
 z36:=Tryz.sizeOf297
 v36:=Tryz.zeroValue297
 t41:=Tryz.underlying131
 a41:=Tryz.isAgg131
 z41:=Tryz.sizeOf131
 v41:=Tryz.zeroValue131
 t44:=Tryz.underlying266
 a44:=Tryz.isAgg266
 z44:=Tryz.sizeOf266
 v44:=Tryz.zeroValue266
 t46:=Tryz.underlying269
 a46:=Tryz.isAgg269
 z46:=Tryz.sizeOf269
 v46:=Tryz.zeroValue269
 t53:=Tryz.underlying319
 a53:=Tryz.isAgg319
 z53:=Tryz.sizeOf319
 v53:=Tryz.zeroValue319
 t57:=Tryz.underlying323
 a57:=Tryz.isAgg323
 z57:=Tryz.sizeOf323
 v57:=Tryz.zeroValue323
 t63:=Tryz.underlying332
 a63:=Tryz.isAgg332
 z63:=Tryz.sizeOf332
 v63:=Tryz.zeroValue332
 t64:=Tryz.underlying35
 a64:=Tryz.isAgg35
 z64:=Tryz.sizeOf35
 v64:=Tryz.zeroValue35 }
theorem Tryz.sorts180(m:Nat):AnyZ.SortsIn Tryz.prog Tryz.sorted180_ren Fence.wide m:=
 ⟨fun blk off cap ss W hH hblk hsz=>callsIn_wide.2 (AnyM.slices_Sort_string Tryz.sort243 blk off cap ss W hH hblk hsz),
  fun p cap W=>callsIn_wide.2 (AnyM.slices_Sort_string_none Tryz.sort243 p cap W)⟩
theorem Tryz.maps_Keys_181(mb:Option Nat)(W:World):CallsIn Fence.wide 5 Tryz.prog 181 #[.map mb] W fun e w'=>e = .returned (.func (.func 244) #[] #[.pointer (some ⟨W.heap.size,0,none⟩)])/\w'=W.alloc (.cells #[.map mb] 100):=
 AnyZ.keys_in Tryz.keys181 Fence.wide 5 trivial rfl mb W
theorem Tryz.sorted_keys{H:Type}(Bm b nn:Nat)(D0:DataW H)(R:Value->Option (DataW H×List MemPlace))(w:World)(hBm:Bm<w.heap.size)(hm:w.cell? ⟨Bm,0,none⟩=some (.map (some b)))(hown:w.ownsMap Tryz.prog 9 R b nn D0)(hmax:Maps.size D0<=maxLen)(hbytes:Maps.size D0*16<=140737488355328):
  CallsIn Fence.wide 5 Tryz.prog 180 #[.func (.func 244) #[] #[.pointer (some ⟨Bm,0,none⟩)]] w fun e w'=>∃ (v:Value) (ss:List (List UInt8)),e = .returned v/\ss.Perm (strKeys D0) /\
   w'.ownsRow w.heap.size 9 1 v ss.length ((ss.mergeSort (fun x y=>decide (x<=y))).map encStr)/\(v = .slice none 0 0↔ss=[])/\Below w.heap.size w w':=by
 have hseq:SeqGives Fence.wide 2 Tryz.prog 244 #[.pointer (some ⟨Bm,0,none⟩)] encStr (fun ss=>ss.Perm (strKeys D0)) (Maps.size D0) w:=
  AnyZ.keys_gives (ρ:=Tryz.keys181_ren) { Tryz.keys181 with } Fence.wide _ trivial rfl (by omega) Bm b nn D0 w hBm hm hown
 exact AnyZ.sorted_in Tryz.sorted180 Fence.wide 5 trivial trivial trivial trivial rfl (by omega) (Tryz.sorts180 _) (enters_of Tryz.func243 (by kernel_rfl) rfl) 244 #[.pointer (some ⟨Bm,0,none⟩)] trivial (enters_of Tryz.func244 (by kernel_rfl) rfl) _ _ hmax hbytes _ hseq
end Go.Proofs
namespace Go.PL
open Go
set_option linter.unusedVariables false
def cM(ks:List ByteArray):List ByteArray:=((ks.map fun k=>k.data.toList).mergeSort (fun x y=>decide (x<=y))).map fun l=>⟨l.toArray⟩
def aFJ(ks:List ByteArray):Bool:=decide (ks.length<=1000000000000)&&ks.all fun k=>decide (k.size<=1000000000000)
theorem aFG{s:ByteArray}{v:Value}(h:KeyR (.str s) v):v = .string s:=by cases h; rfl
def bytesOf:Value->List UInt8
 | .string s=>s.data.toList
 | _=>[]
theorem Pn{V:Type}{F:Nat->Prop}{w:World}{enc:V->Mem}:∀ {v:List (ByteArray×V)} {l:List MapEntry},nO (aMW F w) (eM enc v) l->l.map (fun e=>bytesOf e.key)=(aT v).map (fun k=>k.data.toList)/\∀ e,e∈l->∃ k,k∈aT v/\e.key = .string k
 | [],l,h=>by cases h;exact⟨rfl,fun e he=>by simp at he⟩
 | (k,c)::v,l,h=>by
  generalize hm:eM enc ((k,c)::v)=m at h;cases h with
  | nil=>simp[eM]at hm
  | @cons a b la lb hr ht=>
   simp only[eM,gJ,List.cons.injEq]at hm;obtain⟨rfl,rfl⟩:=hm;have hk:=aFG hr.1;obtain⟨q1,q2⟩:=Pn (v:=v) (l:=lb) ht;refine⟨?_,fun e he=>?_⟩
   ·simp only[gJ,aT]at q1 ⊢;rw[q1,hk]; rfl
   ·rcases aX.1 he with rfl | he
    ·exact⟨k,bW,hk⟩
    ·obtain⟨k',h1,h2⟩:=q2 e he;exact⟨k',cC _ h1,h2⟩
open Go.RowKit Go.Maps Go.Sort Go.Shelf Go.Proofs in
theorem aAS{V:Type}{F:Nat->Prop}{g:Nat->Value}{w:World}{b clock:Nat}{es:Array MapEntry}{enc:V->Mem}{v:List (ByteArray×V)}{l r:List MapEntry}(hb:w.heap[b]? = some (.map es clock))(h:MpR F g w b es clock none (eM enc v) none l r)(hk:aFJ (aT v)=true)(hnd:(aT v).Nodup):
  ∃ D0:DataW Unit,w.ownsMap Proofs.Tryz.prog 9 (fun _=>some (.nil,[])) b es.size D0/\(strKeys D0).Perm ((aT v).map fun k=>k.data.toList)/\Maps.size D0<=1000000000000:=by
 unfold aFJ at hk;rw[cO,gY,fM]at hk;obtain⟨hlen,hsz⟩:=hk;have hr:r=[]:=h.hole;subst hr;have hp:=h.perm;rw[fN]at hp;obtain⟨q1,q2⟩:=Pn h.ent;have hes:es.size=(aT v).length:=by have:=congrArg List.length q1;rw[bI,bI,hp.length_eq,iI]at this;exact this
 have key:∀ e,e∈es.toList->∃ k,k∈aT v/\e.key = .string k:=fun e he=>q2 e (hp.mem_iff.2 he);have rdk:∀ e,e∈es.toList->WideElems.rd Proofs.Tryz.prog 9 (fun _=>some ((DataW.nil:DataW Unit),[])) e=some (Lit.string (bytesOf e.key),DataW.nil):=fun e he=>by
  obtain⟨k,hk,hke⟩:=key e he;have hs:=dX (hsz k hk);have e1:keyOf Proofs.Tryz.prog 9 e.key=some (Lit.string (bytesOf e.key)):=by rw[hke];unfold keyOf mapKey;rw[Proofs.Tryz.underlying9];simp only[bytesOf];rw[aA (by simp only[maxLen]; omega)]
  unfold WideElems.rd;rw[e1]; rfl
 have hnk:(es.toList.map (·.key)).Nodup:=by
  have h1:(es.toList.map fun e=>bytesOf e.key).Nodup:=by
   have h2:(l.map fun e=>bytesOf e.key).Nodup:=by rw[q1];refine qL.2 (hnd.imp fun {a b} hab e=>hab ?_);cases a; cases b;exact congrArg ByteArray.mk (Array.toList_inj.1 e)
   exact(hp.map _).nodup_iff.1 h2
  exact qL.2 ((qL.1 h1).imp fun hab e=>hab (by rw[e]))
 have hperm:(strKeys (DataW.map ((es.toList.map (WideElems.rg Proofs.Tryz.prog 9 (fun _=>some ((DataW.nil:DataW Unit),[])))).foldr DataW.insert []))).Perm ((aT v).map fun k=>k.data.toList):=by
  rw[<-q1];unfold strKeys;have h1:=(WideShapes.sorted_perm (es.toList.map (WideElems.rg Proofs.Tryz.prog 9 (fun _=>some ((DataW.nil:DataW Unit),[]))))).map (fun p=>strOf p.1);refine h1.trans ?_;rw[tJ];have h2:es.toList.map ((fun p=>strOf p.1) ∘ WideElems.rg Proofs.Tryz.prog 9 (fun _=>some ((DataW.nil:DataW Unit),[])))=es.toList.map fun e=>bytesOf e.key:=by refine List.map_congr_left fun e he=>?_;simp only[Function.comp];rw[WideElems.rg_of (rdk e he)]; rfl
  rw[h2];exact(hp.map _).symm
 refine⟨_,⟨es,clock,hb,⟨by rw[hes]; simp only[maxLen]; omega,⟨h.old,h.born,hnk⟩,fun x hx=>⟨_,rdk x hx⟩⟩,cS _,rfl⟩,hperm,?_⟩;have:=length_read (H:=Unit) (P:=Proofs.Tryz.prog) (k:=9) (R0:=fun _=>some (DataW.nil,[])) es;show ((es.toList.map _).foldr DataW.insert []).length<=_;rw[this,hes]; exact hlen
theorem Ea{F:Nat->Prop}{g g':Nat->Value}{w w':World}{H:Hp}{N:List Nat}{o':Nat}{x':bA}(hH:HpR F g w (fun _=>True) H)(hF:∀ b,F b->b<w.heap.size)(hb:Go.RowKit.Below w.heap.size w w')
  (hg:∀ o,o≠o'->g' o=g o)(hn:∀ o x,(o,x)∈H->o≠o'/\∀ k,k∈x.names->k≠o')(hN:∀ o,o∈N->o≠o')(hx:dG F g' w' o' x')(hf:∀ b,bB g' w' o' x' b->w.heap.size<=b/\b<w'.heap.size):
  Ig { w0:=w,F0:=F,B0:=Own g w H,g0:=g,N:=N,nt:=0 } F g' (H++[(o',x')]) w':=by
 have same:∀ b,b<w.heap.size->w'.heap[b]? = w.heap[b]?:=hb.block;have old:∀ o x,(o,x)∈H->dG F g' w' o x:=fun o x hox=>by obtain⟨h1,h2⟩:=hn o x hox;exact(hH.obj o x hox).mono (fun b hbF=>⟨hbF,same b (hF b hbF)⟩) (hg o h1) (fun k hk=>hg k (h2 k hk)) (fun b hbf=>same b (hbf.block (hH.obj o x hox)))
 have ft:∀ o x b,(o,x)∈H->bB g' w' o x b->bB g w o x b:=fun o x b hox h=>by obtain⟨h1,h2⟩:=hn o x hox;exact h.mono (hg o h1) (fun k hk=>hg k (h2 k hk)) (fun c hc=>same c ((hH.obj o x hox).block hc))
 refine⟨⟨fun o x hox=>?_,fun o x b hox hfb=>?_,fun o x o2 y b hox hoy hne h1 h2=>?_⟩,fun b h=>h,fun b h=>⟨Ca (hF b h) hb.size,.inl h⟩,⟨hb.os,hb.tape,hb.output,hb.size,fun b h _=>same b h⟩,fun o ho=>hg o (hN o ho),fun b ⟨o,x,hox,hfo⟩=>hfo.block (hH.obj o x hox)⟩
 ·rcases dE.1 hox with h | h
  ·exact old o x h
  ·cases bZ.1 h; exact hx
 ·rcases dE.1 hox with h | h
  ·have h3:=ft o x b h hfb;exact⟨(hH.own o x b h h3).1,.inl ⟨o,x,h,h3⟩⟩
  ·cases bZ.1 h;have h3:=hf b hfb;exact⟨fun hFb=>by have:=hF b hFb; omega,.inr h3.1⟩
 ·rcases dE.1 hox with h | h
  ·rcases dE.1 hoy with h' | h'
   ·exact hH.sep o x o2 y b h h' hne (ft o x b h h1) (ft o2 y b h' h2)
   ·cases bZ.1 h';have h3:=(ft o x b h h1).block (hH.obj o x h);have h4:=hf b h2;omega
  ·cases bZ.1 h;rcases dE.1 hoy with h' | h'
   ·have h3:=(ft o2 y b h' h2).block (hH.obj o2 y h');have h4:=hf b h1;omega
   ·cases bZ.1 h'; exact absurd rfl hne
theorem aIX{V:Type}(enc:V->Mem)(v:List (ByteArray×V)):fD Proofs.Tryz.prog 181 [.map 30000] [(30000,.mp none (eM enc v) none)] [30000] (some ()) (fun _:Unit=>.fn (.func 244) 0 [.ptr 40000 0])
  (fun _=>[(30000,.mp none (eM enc v) none),(40000,.box [.map 30000])]):=by
 refine⟨bU Proofs.Tryz.func181 (by kernel_rfl),fun y hy=>?_⟩;intro F g w vs hs hv hH hF hgl;have hs1:vs.size=1:=hs;have hv0:=hv 0 _ (vs[0]'(by omega)) rfl (by simp[hs1]);obtain⟨b,e0,hgb⟩:∃ b,vs[0]'(by omega) = .map (some b)/\g 30000 = .map (some b):=by
  generalize vs[0]'(by omega)=u at hv0;cases hv0 with
  | map h=>exact⟨_,rfl,h⟩
 have hvs:vs=#[.map (some b)]:=by
  apply sT
  ·rw[hs1]; rfl
  ·intro q hq _
   match q,hq with
   | 0,_=>simpa using e0
   | q+1,hq=>omega
 subst hvs;refine((callsIn_wide (n:=5)).1 (Proofs.Tryz.maps_Keys_181 (some b) w)).mono ?_;rintro e w' ⟨rfl,rfl⟩;have hlt:(w.alloc (.cells #[.map (some b)] 100)).heap.size=w.heap.size+1:=by simp
 have hbl:Go.RowKit.Below w.heap.size w (w.alloc (.cells #[.map (some b)] 100)):=(Go.RowKit.Below.refl _ w).alloc (cS _) _;have hcell:(w.alloc (.cells #[.map (some b)] 100)).heap[w.heap.size]? = some (.cells #[.map (some b)] 100 (0,0)):=by rw[show (w.alloc (.cells #[.map (some b)] 100)).heap=w.heap.push (.cells #[.map (some b)] 100) from rfl]; simp
 refine⟨_,_,_,F,upd g 40000 (.pointer (some ⟨w.heap.size,0,none⟩)),rfl,⟨rfl,rfl⟩,?_,Ea hH hF hbl (fun o ho=>by simp[upd,ho]) (fun o x h=>?_) (fun o h=>?_) ?_ (fun c hc=>?_)⟩
 ·refine .fn (us:=#[]) rfl rfl fun j x u hj hu=>?_
  match j,hj,hu with
  | 0,hj,hu=>simp at hj hu;subst hj hu;exact .ptr (by simp[upd])
 ·cases bZ.1 h;exact⟨by decide,fun k hk=>by simp[bA.names,itN,hoN]at hk⟩
 ·cases bZ.1 h; decide
 ·refine⟨w.heap.size,_,_,by simp[upd],hcell,rfl,fun j x u hj hu=>?_⟩
  match j,hj,hu with
  | 0,hj,hu=>simp at hj hu;subst hj hu;exact .map (by simp[upd,hgb])
 ·have:=hc.toBlk rfl;simp[upd,blk]at this;omega
theorem iX(ks:List ByteArray):(cM ks).length=ks.length:=by unfold cM;rw[bI,List.length_mergeSort,bI]
theorem Gi{V:Type}{enc:V->Mem}:∀ {v:List (ByteArray×V)},((eM enc v).map (·.1)).Nodup->(aT v).Nodup
 | [],_=>List.nodup_nil
 | (k,c)::v,h=>by simp only[eM,gJ]at h;have h':=lG.1 h;refine lG.2 ⟨fun hk=>h'.1 ?_,Gi h'.2⟩;obtain⟨x,hx,e⟩:=cQ.1 hk;rw[tJ];exact cQ.2 ⟨x,hx,by simp only[Function.comp]; rw[e]⟩
theorem aGK{V:Type}(enc:V->Mem)(v:List (ByteArray×V)):fD Proofs.Tryz.prog 180 [.fn (.func 244) 0 [.ptr 30001 0]] [(30000,.mp none (eM enc v) none),(30001,.box [.map 30000])] [30000,30001] (if aFJ (aT v)=true then some (cM (aT v)) else none) (fun _:List ByteArray=>.own 40000)
  (fun ks=>[(30000,.mp none (eM enc v) none),(30001,.box [.map 30000]),(40000,.arr 9 1 ks.length (eF Il ks))]):=by
 refine⟨bU Proofs.Tryz.func180 (by kernel_rfl),fun y hy=>?_⟩;split at hy
 case isFalse=>cases hy
 rename_i hC;injection hy with hy;subst hy;intro F g w vs hs hv hH hF hgl;have hs1:vs.size=1:=hs;have hv0:=hv 0 _ (vs[0]'(by omega)) rfl (by simp[hs1]);obtain⟨Bm,e0,hgB⟩:∃ Bm,vs[0]'(by omega) = .func (.func 244) #[] #[.pointer (some ⟨Bm,0,none⟩)]/\g 30001 = .pointer (some ⟨Bm,0,none⟩):=by
  generalize vs[0]'(by omega)=u at hv0;cases hv0 with
  | @fn f n cs us ws hn hs hr=>
   have hu:us=#[]:=Be hn;subst hu;have hw:ws.size=1:=by simpa using hs
   obtain⟨z,rfl⟩:=Pz.1 hw;have h0:=hr 0 _ z rfl (by simp);cases h0 with
   | ptr h=>exact⟨_,rfl,h⟩
 have hvs:vs=#[.func (.func 244) #[] #[.pointer (some ⟨Bm,0,none⟩)]]:=by
  apply sT
  ·rw[hs1]; rfl
  ·intro q hq _
   match q,hq with
   | 0,_=>simpa using e0
   | q+1,hq=>omega
 subst hvs;obtain⟨b1,vs1,ty1,k1,k2,k3,k4⟩:Cq F g w (g 30001) [.map 30000]:=hH.obj 30001 (.box [.map 30000]) (by simp);rw[hgB]at k1;injection k1 with k1;injection k1 with k1;injection k1 with k1 _ _;subst k1;obtain⟨b,es,clock,m1,m2,l,r,hM⟩:∃ b es clock,g 30000 = .map (some b)/\w.heap[b]? = some (.map es clock)/\∃ l r,MpR F g w b es clock none (eM enc v) none l r:=hH.obj 30000 (.mp none (eM enc v) none) (by simp);have hv1:vs1=#[.map (some b)]:=by
  obtain⟨z,rfl⟩:=Pz.1 (show vs1.size=1 from k3);have h0:=k4 0 _ z rfl (by simp);cases h0 with
  | map h=>rw[m1]at h;cases h; rfl
 subst hv1;have hlB:Bm<w.heap.size:=(Co.1 k2).1;have hcell:w.cell? ⟨Bm,0,none⟩=some (.map (some b)):=by simp[World.cell?,k2]
 have hnd:(aT v).Nodup:=Gi (enc:=enc) (xK.1 hM.keys).1;obtain⟨D0,hown,hpm,hsz⟩:=aAS m2 hM hC hnd;refine((callsIn_wide (n:=5)).1 (Proofs.Tryz.sorted_keys Bm b es.size D0 _ w hlB hcell hown (by simp only[maxLen]; omega) (by omega))).mono ?_;rintro e w' ⟨u,ss,rfl,hss,⟨hrl,hrow⟩,_,hbl⟩;have hms:ss.mergeSort (fun x y=>decide (x<=y))=((aT v).map fun k=>k.data.toList).mergeSort (fun x y=>decide (x<=y)):=mergeSort_of_perm (hss.trans hpm);have hlen:ss.length=(cM (aT v)).length:=by
  rw[iX];have:=(hss.trans hpm).length_eq
  rwa [bI]at this
 have fin:∀ a cap,u = .slice a ss.length cap->qE F w' u 9 1 (cM (aT v)).length (eF Il (cM (aT v)))->(∀ c,blk u=some c->w.heap.size<=c/\c<w'.heap.size)->∃ v_1 r H' F' g',Ending.returned u = .returned v_1/\vF (.own 40000) [(30000,.mp none (eM enc v) none),(30001,.box [.map 30000]),(40000,.arr 9 1 (cM (aT v)).length (eF Il (cM (aT v))))] r H'/\VR F' g' w' r v_1 /\
   Ig { w0:=w,F0:=F,B0:=Own g w [(30000,.mp none (eM enc v) none),(30001,.box [.map 30000])],g0:=g,N:=[30000,30001],nt:=0 } F' g' H' w':=fun a cap hu hA hfo=>by
  refine⟨_,_,_,F,upd g 40000 u,rfl,⟨rfl,rfl⟩,?_,Ea (g':=upd g 40000 u) (o':=40000) (x':=.arr 9 1 (cM (aT v)).length (eF Il (cM (aT v)))) hH hF hbl (fun o ho=>by simp[upd,ho]) (fun o x h=>?_) (fun o h=>?_) ?_ (fun c hc=>?_)⟩
  ·rw[hu];exact .own (by simp[upd])
  ·simp only[aX,List.not_mem_nil,or_false]at h;rcases h with h | h <;> cases h
   ·exact⟨by decide,fun k hk=>by simp[bA.names,itN,hoN]at hk⟩
   ·refine⟨by decide,fun k hk=>?_⟩;simp[bA.names,PV.names.go,PV.names]at hk;subst hk; decide
  ·simp only[aX,List.not_mem_nil,or_false]at h;rcases h with rfl | rfl <;> decide
  ·show qE F w' (upd g 40000 u 40000) 9 1 _ _;rw[show upd g 40000 u 40000=u by simp[upd]];exact hA
  ·have:=hc.toBlk rfl;rw[show upd g 40000 u 40000=u by simp[upd]]at this;exact hfo c this
 rcases hrow with⟨rfl,hz⟩ | ⟨gb,cap,cur,rfl,r1,r2,r3,r4,r5,r6⟩
 ·refine fin none 0 (by rw[hz]) (.inl ⟨rfl,by rw[<-hlen]; exact hz⟩) (fun c hc=>by simp[blk]at hc)
 ·refine fin _ _ rfl (.inr ⟨gb,cap,cur,by rw[hlen],r2,by rw[<-hlen]; exact r3,r4,r5,fun i hi=>rfl,fun i j x hi hx=>?_⟩) (fun c hc=>?_)
  ·match j,hx with
   | 0,hx=>
    simp[eF,Il]at hx;subst hx;rw[En]at r6;have hi':i<ss.length:=by rw[hlen]; exact hi
    have hi2:i<(((aT v).map fun k=>k.data.toList).mergeSort (fun x y=>decide (x<=y))).length:=by rw[List.length_mergeSort,bI,<-iX]; exact hi
    have h1:cur.toList[i]? = some (Proofs.encStr ((((aT v).map fun k=>k.data.toList).mergeSort (fun x y=>decide (x<=y)))[i]'hi2)):=by have h2:=congrArg (fun l:List Value=>l[i]?) r6;simp only[Yy hi']at h2;rw[h2,hms];simp
    refine⟨Proofs.encStr ((((aT v).map fun k=>k.data.toList).mergeSort (fun x y=>decide (x<=y)))[i]'hi2),?_,?_⟩
    ·rw[En,sY,<-xR]; exact h1
    ·have h3:(cM (aT v))[i]?.getD default=⟨((((aT v).map fun k:ByteArray=>k.data.toList).mergeSort (fun x y=>decide (x<=y)))[i]'hi2).toArray⟩:=by unfold cM;rw[fQ,fY hi2]; rfl
     rw[h3];exact .str _
  ·simp[blk]at hc;subst hc;exact⟨r1,(Co.1 r2).1⟩
end Go.PL
namespace Go.Proofs
open Go.RowKit Go.Maps Go.Sort Go.Shelf
def Tryz.keys239_ren:Go.Shelf.Ren:=⟨fun | 7=>239 | 10=>279 | n=>n,fun | 23=>241 | 26=>3 | 3=>37 | 28=>244 | 0=>0 | 27=>243 | 33=>152 | 4=>4 | n=>n,fun n=>n⟩
theorem Tryz.keys239:Go.Proofs.SlLaysZI.n7 Tryz.prog Tryz.keys239_ren:={
 mixed:=by kernel_rfl
 f7:=⟨Tryz.f239.name,by kernel_rfl,Tryz.func239.trans (congrArg some (by kernel_rfl))⟩
 f10:=⟨Tryz.f279.name,by kernel_rfl,Tryz.func279.trans (congrArg some (by kernel_rfl))⟩
 t0:=Tryz.underlying0
 a0:=Tryz.isAgg0
 z0:=Tryz.sizeOf0
 v0:=Tryz.zeroValue0
 t4:=Tryz.underlying4
 a4:=Tryz.isAgg4
 z4:=Tryz.sizeOf4
 v4:=Tryz.zeroValue4
 t23:=Tryz.underlying241
 a23:=Tryz.isAgg241
 z23:=Tryz.sizeOf241
 v23:=Tryz.zeroValue241
 t26:=Tryz.underlying3
 a26:=Tryz.isAgg3
 z26:=Tryz.sizeOf3
 v26:=Tryz.zeroValue3
 t27:=Tryz.underlying243
 a27:=Tryz.isAgg243
 z27:=Tryz.sizeOf243
 v27:=Tryz.zeroValue243
 t28:=Tryz.underlying244
 a28:=Tryz.isAgg244
 z28:=Tryz.sizeOf244
 v28:=Tryz.zeroValue244
 t33:=Tryz.underlying152
 a33:=Tryz.isAgg152
 z33:=Tryz.sizeOf152
 v33:=Tryz.zeroValue152 }
def Tryz.sorted238_ren:Go.Shelf.Ren:=⟨fun | 6=>238 | 8=>277 | 9=>278 | 11=>299 | 13=>284 | 12=>300 | 23=>311 | 24=>312 | 14=>325 | 15=>326 | 16=>327 | 17=>328 | 18=>329 | 19=>330 | 20=>331 | 21=>332 | 22=>333 | 25=>346 | 26=>335 | 27=>336 | 28=>347 | 29=>348 | 30=>215 | 31=>352 | n=>n,fun | 26=>3 | 28=>244 | 24=>23 | 0=>0 | 3=>3 | 37=>232 | 48=>266 | 50=>269 | 4=>4 | 40=>297 | 39=>296 | 45=>131 | 5=>5 | 9=>9 | 51=>319 | 55=>323 | 57=>332 | 58=>35 | 33=>152 | n=>n,fun n=>n⟩
theorem Tryz.sorted238:Go.Proofs.SlLaysZI.n6 Tryz.prog Tryz.sorted238_ren:={
 mixed:=by kernel_rfl
 f6:=⟨Tryz.f238.name,by kernel_rfl,Tryz.func238.trans (congrArg some (by kernel_rfl))⟩
 f8:=⟨Tryz.f277.name,by kernel_rfl,Tryz.func277.trans (congrArg some (by kernel_rfl))⟩
 f11:=⟨Tryz.f299.name,by kernel_rfl,Tryz.func299.trans (congrArg some (by kernel_rfl))⟩
 t0:=Tryz.underlying0
 a0:=Tryz.isAgg0
 z0:=Tryz.sizeOf0
 v0:=Tryz.zeroValue0
 t24:=Tryz.underlying23
 a24:=Tryz.isAgg23
 z24:=Tryz.sizeOf23
 v24:=Tryz.zeroValue23
 t26:=Tryz.underlying3
 a26:=Tryz.isAgg3
 z26:=Tryz.sizeOf3
 v26:=Tryz.zeroValue3
 t28:=Tryz.underlying244
 a28:=Tryz.isAgg244
 z28:=Tryz.sizeOf244
 v28:=Tryz.zeroValue244
 i26:=by kernel_rfl }
def Tryz.sort278_ren:Go.Shelf.Ren:=⟨fun | 5=>278 | 8=>284 | 7=>300 | 19=>311 | 20=>312 | 10=>325 | 11=>326 | 12=>327 | 13=>328 | 14=>329 | 15=>330 | 16=>331 | 17=>332 | 18=>333 | 30=>346 | 31=>335 | 32=>336 | 33=>347 | 34=>348 | 35=>215 | 40=>352 | n=>n,fun | 23=>23 | 25=>3 | 3=>3 | 32=>232 | 22=>23 | 0=>0 | 44=>266 | 46=>269 | 4=>4 | 36=>297 | 35=>296 | 41=>131 | 5=>5 | 9=>9 | 53=>319 | 57=>323 | 63=>332 | 64=>35 | n=>n,fun n=>n⟩
theorem Tryz.sort278:Go.Proofs.SlLaysM.n5 Tryz.prog Tryz.sort278_ren:={
 mixed:=by kernel_rfl
 f5:=⟨Tryz.f278.name,by kernel_rfl,Tryz.func278.trans (congrArg some (by kernel_rfl))⟩
 f7:=⟨Tryz.f300.name,by kernel_rfl,Tryz.func300.trans (congrArg some (by kernel_rfl))⟩
 f8:=Tryz.func284.trans (congrArg some (by kernel_rfl))
 f10:=⟨Tryz.f325.name,by kernel_rfl,Tryz.func325.trans (congrArg some (by kernel_rfl))⟩
 f11:=⟨Tryz.f326.name,by kernel_rfl,Tryz.func326.trans (congrArg some (by kernel_rfl))⟩
 f12:=⟨Tryz.f327.name,by kernel_rfl,Tryz.func327.trans (congrArg some (by kernel_rfl))⟩
 f13:=⟨Tryz.f328.name,by kernel_rfl,Tryz.func328.trans (congrArg some (by kernel_rfl))⟩
 f14:=⟨Tryz.f329.name,by kernel_rfl,Tryz.func329.trans (congrArg some (by kernel_rfl))⟩
 f15:=⟨Tryz.f330.name,by kernel_rfl,Tryz.func330.trans (congrArg some (by kernel_rfl))⟩
 f16:=⟨Tryz.f331.name,by kernel_rfl,Tryz.func331.trans (congrArg some (by kernel_rfl))⟩
 f17:=⟨Tryz.f332.name,by kernel_rfl,Tryz.func332.trans (congrArg some (by kernel_rfl))⟩
 f18:=⟨Tryz.f333.name,by kernel_rfl,Tryz.func333.trans (congrArg some (by kernel_rfl))⟩
 f19:=Tryz.func311.trans (congrArg some (by kernel_rfl))
 f20:=Tryz.func312.trans (congrArg some (by kernel_rfl))
 f30:=⟨Tryz.f346.name,by kernel_rfl,Tryz.func346.trans (congrArg some (by kernel_rfl))⟩
 f31:=Tryz.func335.trans (congrArg some (by kernel_rfl))
 f32:=Tryz.func336.trans (congrArg some (by kernel_rfl))
 f33:=⟨Tryz.f347.name,by kernel_rfl,Tryz.func347.trans (congrArg some (by kernel_rfl))⟩
 f34:=⟨Tryz.f348.name,by kernel_rfl,Tryz.func348.trans (congrArg some (by kernel_rfl))⟩
 f35:=⟨Tryz.f215.name,by kernel_rfl,Tryz.func215.trans (congrArg some (by kernel_rfl))⟩
 f40:=⟨Tryz.f352.name,by kernel_rfl,Tryz.func352.trans (congrArg some (by kernel_rfl))⟩
 t0:=Tryz.underlying0
 a0:=Tryz.isAgg0
 z0:=Tryz.sizeOf0
 v0:=Tryz.zeroValue0
 t3:=Tryz.underlying3
 a3:=Tryz.isAgg3
 z3:=Tryz.sizeOf3
 v3:=Tryz.zeroValue3
 t4:=Tryz.underlying4
 a4:=Tryz.isAgg4
 z4:=Tryz.sizeOf4
 v4:=Tryz.zeroValue4
 t5:=Tryz.underlying5
 a5:=Tryz.isAgg5
 z5:=Tryz.sizeOf5
 v5:=Tryz.zeroValue5
 t9:=Tryz.underlying9
 a9:=Tryz.isAgg9
 z9:=Tryz.sizeOf9
 v9:=Tryz.zeroValue9
 t22:=Tryz.underlying23
 a22:=Tryz.isAgg23
 z22:=Tryz.sizeOf23
 v22:=Tryz.zeroValue23
 t23:=Tryz.underlying23
 a23:=Tryz.isAgg23
 z23:=Tryz.sizeOf23
 v23:=Tryz.zeroValue23
 t25:=Tryz.underlying3
 a25:=Tryz.isAgg3
 z25:=Tryz.sizeOf3
 v25:=Tryz.zeroValue3
 t32:=Tryz.underlying232
 a32:=Tryz.isAgg232
 z32:=Tryz.sizeOf232
 v32:=Tryz.zeroValue232
 t35:=Tryz.underlying296
 a35:=Tryz.isAgg296
 z35:=Tryz.sizeOf296
 v35:=Tryz.zeroValue296
 t36:=Tryz.underlying297
 a36:=Tryz.isAgg297
 z36:=Tryz.sizeOf297
 v36:=Tryz.zeroValue297
 t41:=Tryz.underlying131
 a41:=Tryz.isAgg131
 z41:=Tryz.sizeOf131
 v41:=Tryz.zeroValue131
 t44:=Tryz.underlying266
 a44:=Tryz.isAgg266
 z44:=Tryz.sizeOf266
 v44:=Tryz.zeroValue266
 t46:=Tryz.underlying269
 a46:=Tryz.isAgg269
 z46:=Tryz.sizeOf269
 v46:=Tryz.zeroValue269
 t53:=Tryz.underlying319
 a53:=Tryz.isAgg319
 z53:=Tryz.sizeOf319
 v53:=Tryz.zeroValue319
 t57:=Tryz.underlying323
 a57:=Tryz.isAgg323
 z57:=Tryz.sizeOf323
 v57:=Tryz.zeroValue323
 t63:=Tryz.underlying332
 a63:=Tryz.isAgg332
 z63:=Tryz.sizeOf332
 v63:=Tryz.zeroValue332
 t64:=Tryz.underlying35
 a64:=Tryz.isAgg35
 z64:=Tryz.sizeOf35
 v64:=Tryz.zeroValue35 }
theorem Tryz.sorts238(m:Nat):AnyZI.SortsIn Tryz.prog Tryz.sorted238_ren Fence.wide m:=
 ⟨fun blk off cap ss W hH hblk hsz=>callsIn_wide.2 (AnyM.slices_Sort_int Tryz.sort278 blk off cap ss W hH hblk hsz),
  fun p cap W=>callsIn_wide.2 (AnyM.slices_Sort_int_none Tryz.sort278 p cap W)⟩
theorem Tryz.maps_Keys_239(mb:Option Nat)(W:World):CallsIn Fence.wide 5 Tryz.prog 239 #[.map mb] W fun e w'=>e = .returned (.func (.func 279) #[] #[.pointer (some ⟨W.heap.size,0,none⟩)])/\w'=W.alloc (.cells #[.map mb] 241):=
 AnyZI.keys_in Tryz.keys239 Fence.wide 5 trivial rfl mb W
theorem Tryz.sorted_ikeys{H:Type}(Bm b nn:Nat)(D0:DataW H)(R:Value->Option (DataW H×List MemPlace))(w:World)(hBm:Bm<w.heap.size)(hm:w.cell? ⟨Bm,0,none⟩=some (.map (some b)))(hown:w.ownsMap Tryz.prog 3 R b nn D0)(hmax:Maps.size D0<=maxLen)(hbytes:Maps.size D0*8<=140737488355328):
  CallsIn Fence.wide 5 Tryz.prog 238 #[.func (.func 279) #[] #[.pointer (some ⟨Bm,0,none⟩)]] w fun e w'=>∃ (v:Value) (ss:List Int),e = .returned v/\ss.Perm (intKeys D0) /\
   w'.ownsRow w.heap.size 3 1 v ss.length ((ss.mergeSort (fun x y=>decide (x<=y))).map encZ)/\(v = .slice none 0 0↔ss=[])/\Below w.heap.size w w':=by
 have hseq:SeqGives Fence.wide 2 Tryz.prog 279 #[.pointer (some ⟨Bm,0,none⟩)] encZ (fun ss=>ss.Perm (intKeys D0)) (Maps.size D0) w:=
  AnyZI.keys_gives (ρ:=Tryz.keys239_ren) { Tryz.keys239 with } Fence.wide _ trivial rfl (by omega) Bm b nn D0 w hBm hm hown
 exact AnyZI.sorted_in Tryz.sorted238 Fence.wide 5 trivial trivial trivial trivial rfl (by omega) (Tryz.sorts238 _) (enters_of Tryz.func278 (by kernel_rfl) rfl) 279 #[.pointer (some ⟨Bm,0,none⟩)] trivial (enters_of Tryz.func279 (by kernel_rfl) rfl) _ _ hmax hbytes _ hseq
end Go.Proofs
namespace Go.PL
open Go
set_option linter.unusedVariables false
def kN(ks:List Int):List Int:=ks.mergeSort (fun x y=>decide (x<=y))
def aDR(ks:List Int):Bool:=decide (ks.length<=1000000000000)&&ks.all fun k=>decide (-9223372036854775808<=k/\k<=9223372036854775807)
theorem aIQ{n:Int}{v:Value}(h:KeyR (.int .i64 n) v):v = .int .i64 n:=by cases h; rfl
def aBF:Value->Int
 | .int _ n=>n
 | _=>0
theorem Ir{V:Type}{F:Nat->Prop}{w:World}{enc:V->Mem}:∀ {v:List (Int×V)} {l:List MapEntry},nO (aMW F w) (eM enc v) l->l.map (fun e=>aBF e.key)=aT v/\∀ e,e∈l->∃ k,k∈aT v/\e.key = .int .i64 k
 | [],l,h=>by cases h;exact⟨rfl,fun e he=>by simp at he⟩
 | (k,c)::v,l,h=>by
  generalize hm:eM enc ((k,c)::v)=m at h;cases h with
  | nil=>simp[eM]at hm
  | @cons a b la lb hr ht=>
   simp only[eM,gJ,List.cons.injEq]at hm;obtain⟨rfl,rfl⟩:=hm;have hk:=aIQ hr.1;obtain⟨q1,q2⟩:=Ir (v:=v) (l:=lb) ht;refine⟨?_,fun e he=>?_⟩
   ·simp only[gJ,aT]at q1 ⊢;rw[q1,hk]; rfl
   ·rcases aX.1 he with rfl | he
    ·exact⟨k,bW,hk⟩
    ·obtain⟨k',h1,h2⟩:=q2 e he;exact⟨k',cC _ h1,h2⟩
open Go.RowKit Go.Maps Go.Sort Go.Shelf Go.Proofs in
theorem Tb{V:Type}{F:Nat->Prop}{g:Nat->Value}{w:World}{b clock:Nat}{es:Array MapEntry}{enc:V->Mem}{v:List (Int×V)}{l r:List MapEntry}(hb:w.heap[b]? = some (.map es clock))(h:MpR F g w b es clock none (eM enc v) none l r)(hk:aDR (aT v)=true)(hnd:(aT v).Nodup):
  ∃ D0:DataW Unit,w.ownsMap Proofs.Tryz.prog 3 (fun _=>some (.nil,[])) b es.size D0/\(intKeys D0).Perm ((aT v))/\Maps.size D0<=1000000000000:=by
 unfold aDR at hk;rw[cO,gY,fM]at hk;obtain⟨hlen,hsz⟩:=hk;have hr:r=[]:=h.hole;subst hr;have hp:=h.perm;rw[fN]at hp;obtain⟨q1,q2⟩:=Ir h.ent;have hes:es.size=(aT v).length:=by have:=congrArg List.length q1;rw[bI,hp.length_eq,iI]at this;exact this
 have key:∀ e,e∈es.toList->∃ k,k∈aT v/\e.key = .int .i64 k:=fun e he=>q2 e (hp.mem_iff.2 he);have rdk:∀ e,e∈es.toList->WideElems.rd Proofs.Tryz.prog 3 (fun _=>some ((DataW.nil:DataW Unit),[])) e=some (Lit.int .i64 (aBF e.key),DataW.nil):=fun e he=>by
  obtain⟨k,hk,hke⟩:=key e he;have hs:=dX (hsz k hk);have e1:keyOf Proofs.Tryz.prog 3 e.key=some (Lit.int .i64 (aBF e.key)):=by
   rw[hke];unfold keyOf mapKey;rw[Proofs.Tryz.underlying3];show (if IntKind.i64=IntKind.i64/\(Lit.int .i64 k).wf=true then some (Lit.int .i64 k) else none)=_;rw[aA ⟨rfl,by
    have h1:IntKind.i64.min = -9223372036854775808:=by rfl
    have h2:IntKind.i64.max=9223372036854775807:=by rfl
    simp only[Lit.wf,cO,gY];omega⟩]
   rfl
  unfold WideElems.rd;rw[e1]; rfl
 have hnk:(es.toList.map (·.key)).Nodup:=by
  have h1:(es.toList.map fun e=>aBF e.key).Nodup:=by
   have h2:(l.map fun e=>aBF e.key).Nodup:=by rw[q1];exact hnd
   exact(hp.map _).nodup_iff.1 h2
  exact qL.2 ((qL.1 h1).imp fun hab e=>hab (by rw[e]))
 have hperm:(intKeys (DataW.map ((es.toList.map (WideElems.rg Proofs.Tryz.prog 3 (fun _=>some ((DataW.nil:DataW Unit),[])))).foldr DataW.insert []))).Perm ((aT v)):=by
  rw[<-q1];unfold intKeys;have h1:=(WideShapes.sorted_perm (es.toList.map (WideElems.rg Proofs.Tryz.prog 3 (fun _=>some ((DataW.nil:DataW Unit),[]))))).map (fun p=>intOf p.1);refine h1.trans ?_;rw[tJ];have h2:es.toList.map ((fun p=>intOf p.1) ∘ WideElems.rg Proofs.Tryz.prog 3 (fun _=>some ((DataW.nil:DataW Unit),[])))=es.toList.map fun e=>aBF e.key:=by refine List.map_congr_left fun e he=>?_;simp only[Function.comp];rw[WideElems.rg_of (rdk e he)]; rfl
  rw[h2];exact(hp.map _).symm
 refine⟨_,⟨es,clock,hb,⟨by rw[hes]; simp only[maxLen]; omega,⟨h.old,h.born,hnk⟩,fun x hx=>⟨_,rdk x hx⟩⟩,cS _,rfl⟩,hperm,?_⟩;have:=length_read (H:=Unit) (P:=Proofs.Tryz.prog) (k:=3) (R0:=fun _=>some (DataW.nil,[])) es;show ((es.toList.map _).foldr DataW.insert []).length<=_;rw[this,hes]; exact hlen
theorem aGP{V:Type}(enc:V->Mem)(v:List (Int×V)):fD Proofs.Tryz.prog 239 [.map 30000] [(30000,.mp none (eM enc v) none)] [30000] (some ()) (fun _:Unit=>.fn (.func 279) 0 [.ptr 40000 0])
  (fun _=>[(30000,.mp none (eM enc v) none),(40000,.box [.map 30000])]):=by
 refine⟨bU Proofs.Tryz.func239 (by kernel_rfl),fun y hy=>?_⟩;intro F g w vs hs hv hH hF hgl;have hs1:vs.size=1:=hs;have hv0:=hv 0 _ (vs[0]'(by omega)) rfl (by simp[hs1]);obtain⟨b,e0,hgb⟩:∃ b,vs[0]'(by omega) = .map (some b)/\g 30000 = .map (some b):=by
  generalize vs[0]'(by omega)=u at hv0;cases hv0 with
  | map h=>exact⟨_,rfl,h⟩
 have hvs:vs=#[.map (some b)]:=by
  apply sT
  ·rw[hs1]; rfl
  ·intro q hq _
   match q,hq with
   | 0,_=>simpa using e0
   | q+1,hq=>omega
 subst hvs;refine((callsIn_wide (n:=5)).1 (Proofs.Tryz.maps_Keys_239 (some b) w)).mono ?_;rintro e w' ⟨rfl,rfl⟩;have hlt:(w.alloc (.cells #[.map (some b)] 241)).heap.size=w.heap.size+1:=by simp
 have hbl:Go.RowKit.Below w.heap.size w (w.alloc (.cells #[.map (some b)] 241)):=(Go.RowKit.Below.refl _ w).alloc (cS _) _;have hcell:(w.alloc (.cells #[.map (some b)] 241)).heap[w.heap.size]? = some (.cells #[.map (some b)] 241 (0,0)):=by rw[show (w.alloc (.cells #[.map (some b)] 241)).heap=w.heap.push (.cells #[.map (some b)] 241) from rfl]; simp
 refine⟨_,_,_,F,upd g 40000 (.pointer (some ⟨w.heap.size,0,none⟩)),rfl,⟨rfl,rfl⟩,?_,Ea hH hF hbl (fun o ho=>by simp[upd,ho]) (fun o x h=>?_) (fun o h=>?_) ?_ (fun c hc=>?_)⟩
 ·refine .fn (us:=#[]) rfl rfl fun j x u hj hu=>?_
  match j,hj,hu with
  | 0,hj,hu=>simp at hj hu;subst hj hu;exact .ptr (by simp[upd])
 ·cases bZ.1 h;exact⟨by decide,fun k hk=>by simp[bA.names,itN,hoN]at hk⟩
 ·cases bZ.1 h; decide
 ·refine⟨w.heap.size,_,_,by simp[upd],hcell,rfl,fun j x u hj hu=>?_⟩
  match j,hj,hu with
  | 0,hj,hu=>simp at hj hu;subst hj hu;exact .map (by simp[upd,hgb])
 ·have:=hc.toBlk rfl;simp[upd,blk]at this;omega
theorem aAA(ks:List Int):(kN ks).length=ks.length:=by unfold kN;rw[List.length_mergeSort]
theorem Bq{V:Type}{enc:V->Mem}:∀ {v:List (Int×V)},((eM enc v).map (·.1)).Nodup->(aT v).Nodup
 | [],_=>List.nodup_nil
 | (k,c)::v,h=>by simp only[eM,gJ]at h;have h':=lG.1 h;refine lG.2 ⟨fun hk=>h'.1 ?_,Bq h'.2⟩;obtain⟨x,hx,e⟩:=cQ.1 hk;rw[tJ];exact cQ.2 ⟨x,hx,by simp only[Function.comp]; rw[e]⟩
theorem aJR{V:Type}(enc:V->Mem)(v:List (Int×V)):fD Proofs.Tryz.prog 238 [.fn (.func 279) 0 [.ptr 30001 0]] [(30000,.mp none (eM enc v) none),(30001,.box [.map 30000])] [30000,30001] (if aDR (aT v)=true then some (kN (aT v)) else none) (fun _:List Int=>.own 40000)
  (fun ks=>[(30000,.mp none (eM enc v) none),(30001,.box [.map 30000]),(40000,.arr 3 1 ks.length (eF aY ks))]):=by
 refine⟨bU Proofs.Tryz.func238 (by kernel_rfl),fun y hy=>?_⟩;split at hy
 case isFalse=>cases hy
 rename_i hC;injection hy with hy;subst hy;intro F g w vs hs hv hH hF hgl;have hs1:vs.size=1:=hs;have hv0:=hv 0 _ (vs[0]'(by omega)) rfl (by simp[hs1]);obtain⟨Bm,e0,hgB⟩:∃ Bm,vs[0]'(by omega) = .func (.func 279) #[] #[.pointer (some ⟨Bm,0,none⟩)]/\g 30001 = .pointer (some ⟨Bm,0,none⟩):=by
  generalize vs[0]'(by omega)=u at hv0;cases hv0 with
  | @fn f n cs us ws hn hs hr=>
   have hu:us=#[]:=Be hn;subst hu;have hw:ws.size=1:=by simpa using hs
   obtain⟨z,rfl⟩:=Pz.1 hw;have h0:=hr 0 _ z rfl (by simp);cases h0 with
   | ptr h=>exact⟨_,rfl,h⟩
 have hvs:vs=#[.func (.func 279) #[] #[.pointer (some ⟨Bm,0,none⟩)]]:=by
  apply sT
  ·rw[hs1]; rfl
  ·intro q hq _
   match q,hq with
   | 0,_=>simpa using e0
   | q+1,hq=>omega
 subst hvs;obtain⟨b1,vs1,ty1,k1,k2,k3,k4⟩:Cq F g w (g 30001) [.map 30000]:=hH.obj 30001 (.box [.map 30000]) (by simp);rw[hgB]at k1;injection k1 with k1;injection k1 with k1;injection k1 with k1 _ _;subst k1;obtain⟨b,es,clock,m1,m2,l,r,hM⟩:∃ b es clock,g 30000 = .map (some b)/\w.heap[b]? = some (.map es clock)/\∃ l r,MpR F g w b es clock none (eM enc v) none l r:=hH.obj 30000 (.mp none (eM enc v) none) (by simp);have hv1:vs1=#[.map (some b)]:=by
  obtain⟨z,rfl⟩:=Pz.1 (show vs1.size=1 from k3);have h0:=k4 0 _ z rfl (by simp);cases h0 with
  | map h=>rw[m1]at h;cases h; rfl
 subst hv1;have hlB:Bm<w.heap.size:=(Co.1 k2).1;have hcell:w.cell? ⟨Bm,0,none⟩=some (.map (some b)):=by simp[World.cell?,k2]
 have hnd:(aT v).Nodup:=Bq (enc:=enc) (xK.1 hM.keys).1;obtain⟨D0,hown,hpm,hsz⟩:=Tb m2 hM hC hnd;refine((callsIn_wide (n:=5)).1 (Proofs.Tryz.sorted_ikeys Bm b es.size D0 _ w hlB hcell hown (by simp only[maxLen]; omega) (by omega))).mono ?_;rintro e w' ⟨u,ss,rfl,hss,⟨hrl,hrow⟩,_,hbl⟩;have hms:ss.mergeSort (fun x y=>decide (x<=y))=((aT v)).mergeSort (fun x y=>decide (x<=y)):=mergeSort_of_perm_i (hss.trans hpm);have hlen:ss.length=(kN (aT v)).length:=by rw[aAA];exact(hss.trans hpm).length_eq
 have fin:∀ a cap,u = .slice a ss.length cap->qE F w' u 3 1 (kN (aT v)).length (eF aY (kN (aT v)))->(∀ c,blk u=some c->w.heap.size<=c/\c<w'.heap.size)->∃ v_1 r H' F' g',Ending.returned u = .returned v_1/\vF (.own 40000) [(30000,.mp none (eM enc v) none),(30001,.box [.map 30000]),(40000,.arr 3 1 (kN (aT v)).length (eF aY (kN (aT v))))] r H'/\VR F' g' w' r v_1 /\
   Ig { w0:=w,F0:=F,B0:=Own g w [(30000,.mp none (eM enc v) none),(30001,.box [.map 30000])],g0:=g,N:=[30000,30001],nt:=0 } F' g' H' w':=fun a cap hu hA hfo=>by
  refine⟨_,_,_,F,upd g 40000 u,rfl,⟨rfl,rfl⟩,?_,Ea (g':=upd g 40000 u) (o':=40000) (x':=.arr 3 1 (kN (aT v)).length (eF aY (kN (aT v)))) hH hF hbl (fun o ho=>by simp[upd,ho]) (fun o x h=>?_) (fun o h=>?_) ?_ (fun c hc=>?_)⟩
  ·rw[hu];exact .own (by simp[upd])
  ·simp only[aX,List.not_mem_nil,or_false]at h;rcases h with h | h <;> cases h
   ·exact⟨by decide,fun k hk=>by simp[bA.names,itN,hoN]at hk⟩
   ·refine⟨by decide,fun k hk=>?_⟩;simp[bA.names,PV.names.go,PV.names]at hk;subst hk; decide
  ·simp only[aX,List.not_mem_nil,or_false]at h;rcases h with rfl | rfl <;> decide
  ·show qE F w' (upd g 40000 u 40000) 3 1 _ _;rw[show upd g 40000 u 40000=u by simp[upd]];exact hA
  ·have:=hc.toBlk rfl;rw[show upd g 40000 u 40000=u by simp[upd]]at this;exact hfo c this
 rcases hrow with⟨rfl,hz⟩ | ⟨gb,cap,cur,rfl,r1,r2,r3,r4,r5,r6⟩
 ·refine fin none 0 (by rw[hz]) (.inl ⟨rfl,by rw[<-hlen]; exact hz⟩) (fun c hc=>by simp[blk]at hc)
 ·refine fin _ _ rfl (.inr ⟨gb,cap,cur,by rw[hlen],r2,by rw[<-hlen]; exact r3,r4,r5,fun i hi=>rfl,fun i j x hi hx=>?_⟩) (fun c hc=>?_)
  ·match j,hx with
   | 0,hx=>
    simp[eF,aY]at hx;subst hx;rw[En]at r6;have hi':i<ss.length:=by rw[hlen]; exact hi
    have hi2:i<(kN (aT v)).length:=hi;have h1:cur.toList[i]? = some (Value.int .i64 ((kN (aT v))[i]'hi2)):=by have h2:=congrArg (fun l:List Value=>l[i]?) r6;simp only[Yy hi']at h2;rw[h2,hms];show ((kN (aT v)).map (Value.int .i64))[i]? = _;rw[fQ,fY hi2]; rfl
    refine⟨Value.int .i64 ((kN (aT v))[i]'hi2),?_,?_⟩
    ·rw[En,sY,<-xR]; exact h1
    ·have h3:(kN (aT v))[i]?.getD 0=(kN (aT v))[i]'hi2:=by rw[fY hi2]; rfl
     rw[h3];exact .int _ _
  ·simp[blk]at hc;subst hc;exact⟨r1,(Co.1 r2).1⟩
end Go.PL
