/-
  Parts: The data types of the seat, as the program logic reads them, and its type table. Printed by a program of our own. Functions of Go's library, given to the trees by hand. Own work; two walks are lines of the shelf's, turned to this program. (*strings.Builder).WriteString, exactly. Own work; the walk is lines of the shelf's, turned to this program. Contracts of functions of Go's library, for the trees. Own work. Contracts of functions of Go's library, for the trees: WriteString. Own work. Contracts of library functions, as the kit tools lay-shelf and lay-plain wrote them for this seat, cut down to what is used. Contracts of functions of Go's library, for the trees: strings.Compare, strconv.Itoa. Own work. slices.Repeat of a row of one number, walked by hand. Own work. The contract of slices.Repeat of a row of one number. Own work. slices.Sorted(maps.Keys(m)): contracts of the library laid at this program, in any world. Laid by the kit's lay-iter, turned to any world by us. Contracts of maps.Keys and slices.Sorted at it, for a map whose keys are strings. Own work. slices.Sorted(maps.Keys(m)) at keys that are integers: contracts of the library laid at this program, in any world. Laid by the kit's lay-iter, turned to any world by us. Contracts of maps.Keys and slices.Sorted at it, for a map whose keys are strings. Own work.
-/
import Derived.Test.YtjefblkdnolgaaaGreatDoorMd
import Derived.Test.YtjefblkdnolgaaaGreatDoorProg
import Derived.Shelf.Strings.Builder1
import Derived.Shelf.Small.Strs
import Derived.Shelf.Strconv.Atoi
import Derived.Shelf.Strconv.Itoa0
import Derived.Shelf.Strconv.Itoa1
import Derived.Shelf.LaysM
import Derived.Shelf.Strconv.Itoa2
import Derived.Shelf.Strconv.Itoa3
import Derived.Shelf.Strconv.AtoiErrFast
import Derived.Shelf.Strconv.ParseIntEmpty
import Derived.Shelf.Strconv.AtoiFail
import Derived.Shelf.Strconv.Clone
import Derived.Shelf.Strconv.SyntaxError
import Derived.Shelf.LaysC
import Derived.Shelf.Strconv.ToError
import Derived.Shelf.Strconv.Lower
import Derived.Shelf.Strconv.ParseUint10
import Derived.Shelf.Strconv.ParseUint10Empty
import Derived.Shelf.Strconv.ParseUint10Any
import Derived.Shelf.Strconv.ParseInt10
import Derived.Shelf.Strconv.AtoiLong
import Derived.Shelf.Strconv.AtoiInnerAll
import Derived.Shelf.Strconv.RangeError
import Derived.Shelf.Strconv.ToErrorRange
import Derived.Shelf.Strconv.AtoiAll
import Derived.Shelf.Strings.Search1
import Derived.Shelf.Bits.Mul64
import Derived.Ground.SlgmProg
import Derived.Shelf.SortM.Plain
import Derived.Shelf.SortM.SortNone
import Derived.Laws.IdiomCopy
import Derived.Laws.MakeOwn
import Derived.Shelf.SlIter.Nil
import Derived.Sort.KeysCollected
import Derived.Shelf.SlIterI.Nil
set_option maxHeartbeats 4000000
namespace Go.PL
open Go
def cJ(x:bF):T:=.agg (cT x)
def nW(x:List Int):List T:=[eL bI (x)]
structure aS where
 Name:ByteArray
 Params:List Int
 Result:Int
 Body:bF
 deriving Inhabited
def aW(x:aS):List T:=[.str (x.Name)]++[eL bI (x.Params)]++[.int .i64 (x.Result)]++cT (x.Body)
structure gO where
 Kind:Int
 Col:Int
 Name:ByteArray
 deriving Inhabited
def gU(x:gO):List T:=[.int .i64 (x.Kind),.int .i64 (x.Col),.str (x.Name)]
def aFL(x:gO):T:=.agg (gU x)
structure oH where
 Pred:bF
 Rep:Int
 deriving Inhabited
def lW(x:oH):List T:=cT (x.Pred)++[.int .i64 (x.Rep)]
structure Jb where
 Name:ByteArray
 Type_:Int
 Unit:ByteArray
 deriving Inhabited
def Zn(x:Jb):List T:=[.str (x.Name),.int .i64 (x.Type_),.str (x.Unit)]
structure aG where
 Op:Int
 In:List Int
 Source:ByteArray
 Schema:Int
 Exprs:List bF
 Kind:Int
 Size:Int
 Step:Int
 Key:List Int
 Key2:List Int
 Before:Int
 After:Int
 Keep:Int
 Aggs:List gO
 Seq:List oH
 Cols:List Jb
 deriving Inhabited
def Of(x:aG):List T:=[.int .i64 (x.Op),eL bI (x.In),.str (x.Source),.int .i64 (x.Schema),.lz (.exprs (x.Exprs)),.int .i64 (x.Kind),.int .i64 (x.Size),.int .i64 (x.Step),eL bI (x.Key),eL bI (x.Key2),.int .i64 (x.Before),.int .i64 (x.After),.int .i64 (x.Keep),eL gU (x.Aggs),eL lW (x.Seq),eL Zn (x.Cols)]
def dD(x:aG):T:=.agg (Of x)
structure aE where
 Kind:Int
 N:Int
 S:ByteArray
 deriving Inhabited
def aR(x:aE):List T:=[.int .i64 (x.Kind),.int .i64 (x.N),.str (x.S)]
def bZ(x:aE):T:=.agg (aR x)
def kP(x:List aE):List T:=[eL aR (x)]
structure aB where
 Time:Int
 Row:List aE
 N:Int
 deriving Inhabited
def aH(x:aB):List T:=[.int .i64 (x.Time),eL aR (x.Row),.int .i64 (x.N)]
def cH(x:aB):T:=.agg (aH x)
def aU(x:List aB):List T:=[eL aH (x)]
structure dY where
 time_:Int
 fits_:Int
 deriving Inhabited
structure fF where
 funcs_:List aS
 time_:Int
 row_:List aE
 params_:List aE
 deriving Inhabited
def Mu(x:fF):List T:=[eL aW (x.funcs_),.int .i64 (x.time_),eL aR (x.row_),eL aR (x.params_)]
def iS(x:fF):T:=.agg (Mu x)
structure aO where
 begin_:Int
 end_:Int
 rows_:List aB
 deriving Inhabited
def dN(x:aO):List T:=[.int .i64 (x.begin_),.int .i64 (x.end_),eL aH (x.rows_)]
def cL(x:aO):List Cel:=[.d (.int .i64 (x.begin_)),.d (.int .i64 (x.end_)),.row 50 3 (x.rows_).length (eF aH (x.rows_))]
def bX(x:List Bool):List T:=[eL cD (x)]
structure fD where
 V:aE
 N:Int
 deriving Inhabited
def aAB(x:fD):List T:=aR (x.V)++[.int .i64 (x.N)]
def qU(x:fD):T:=.agg (aAB x)
structure aT where
 key_:List aE
 begin_:Int
 end_:Int
 l_:List aB
 deriving Inhabited
def cB(x:aT):List T:=[eL aR (x.key_),.int .i64 (x.begin_),.int .i64 (x.end_),eL aH (x.l_)]
def Dh(x:aT):T:=.agg (cB x)
def cP(x:aT):List Cel:=[.d (eL aR (x.key_)),.d (.int .i64 (x.begin_)),.d (.int .i64 (x.end_)),.row 50 3 (x.l_).length (eF aH (x.l_))]
structure bY where
 a_:aE
 b_:aE
 deriving Inhabited
def bCT(x:bY):List T:=aR (x.a_)++aR (x.b_)
def eY(x:bY):T:=.agg (bCT x)
def tiL:List (Nat×dO):=[
 (2,⟨1,8,.int .i64,[.t (.int .i64 0)],0,0⟩),
 (3,⟨1,8,.int .i64,[.t (.int .i64 0)],0,0⟩),
 (4,⟨1,1,.bool,[.t (.bool false)],0,0⟩),
 (5,⟨1,1,.int .u8,[.t (.int .u8 0)],0,0⟩),
 (9,⟨1,16,.str,[.t (.str ⟨#[]⟩)],0,0⟩),
 (12,⟨1,8,.int .u64,[.t (.int .u64 0)],0,0⟩),
 (15,⟨1,8,.ptr 342,[.np],0,0⟩),
 (16,⟨1,8,.ptr 345,[.np],0,0⟩),
 (17,⟨1,8,.ptr 352,[.np],0,0⟩),
 (21,⟨1,4,.int .i32,[.t (.int .i32 0)],0,0⟩),
 (22,⟨1,24,.sl 150,[.nil],0,0⟩),
 (23,⟨1,24,.sl 3,[.nil],0,0⟩),
 (24,⟨1,24,.sl 90,[.nil],0,0⟩),
 (25,⟨1,24,.sl 122,[.nil],0,0⟩),
 (26,⟨1,24,.sl 93,[.nil],0,0⟩),
 (27,⟨1,24,.sl 354,[.nil],0,0⟩),
 (29,⟨16,248,.st [(0,3),(1,23),(2,9),(3,3),(4,24),(5,3),(6,3),(7,3),(8,23),(9,23),(10,3),(11,3),(12,3),(13,25),(14,26),(15,27)],[.t (.int .i64 0),.nil,.t (.str ⟨#[]⟩),.t (.int .i64 0),.nil,.t (.int .i64 0),.t (.int .i64 0),.t (.int .i64 0),.nil,.nil,.t (.int .i64 0),.t (.int .i64 0),.t (.int .i64 0),.nil,.nil,.nil],0,0⟩),
 (30,⟨1,24,.sl 39,[.nil],0,0⟩),
 (33,⟨1,8,.ptr 102,[.np],0,0⟩),
 (36,⟨1,8,.other,[.lit .nilFunc],0,0⟩),
 (37,⟨1,24,.sl 50,[.nil],0,0⟩),
 (39,⟨3,40,.st [(0,3),(1,3),(2,37)],[.t (.int .i64 0),.t (.int .i64 0),.nil],0,0⟩),
 (48,⟨1,24,.sl 67,[.nil],0,0⟩),
 (50,⟨3,40,.st [(0,3),(1,48),(2,3)],[.t (.int .i64 0),.nil,.t (.int .i64 0)],0,0⟩),
 (55,⟨1,24,.sl 23,[.nil],0,0⟩),
 (56,⟨1,24,.sl 37,[.nil],0,0⟩),
 (67,⟨3,32,.st [(0,3),(1,3),(2,9)],[.t (.int .i64 0),.t (.int .i64 0),.t (.str ⟨#[]⟩)],0,37⟩),
 (71,⟨1,8,.ptr 74,[.np],0,0⟩),
 (74,⟨19,304,.st [(0,22),(1,29),(17,37),(18,3)],[.nil,.t (.int .i64 0),.nil,.t (.str ⟨#[]⟩),.t (.int .i64 0),.nil,.t (.int .i64 0),.t (.int .i64 0),.t (.int .i64 0),.nil,.nil,.t (.int .i64 0),.t (.int .i64 0),.t (.int .i64 0),.nil,.nil,.nil,.nil,.t (.int .i64 0)],0,0⟩),
 (80,⟨1,24,.sl 85,[.nil],0,0⟩),
 (82,⟨1,8,.ptr 147,[.np],0,0⟩),
 (85,⟨3,40,.st [(0,3),(1,3),(2,37)],[.t (.int .i64 0),.t (.int .i64 0),.nil],0,0⟩),
 (90,⟨4,56,.st [(0,3),(1,3),(2,9),(3,24)],[.t (.int .i64 0),.t (.int .i64 0),.t (.str ⟨#[]⟩),.nil],0,0⟩),
 (93,⟨5,64,.st [(0,90),(4,3)],[.t (.int .i64 0),.t (.int .i64 0),.t (.str ⟨#[]⟩),.nil,.t (.int .i64 0)],0,0⟩),
 (100,⟨1,8,.mp 9 37,[.lit (.map none)],0,0⟩),
 (102,⟨19,288,.st [(0,22),(1,29),(17,100),(18,3)],[.nil,.t (.int .i64 0),.nil,.t (.str ⟨#[]⟩),.t (.int .i64 0),.nil,.t (.int .i64 0),.t (.int .i64 0),.t (.int .i64 0),.nil,.nil,.t (.int .i64 0),.t (.int .i64 0),.t (.int .i64 0),.nil,.nil,.nil,.lit (.map none),.t (.int .i64 0)],0,0⟩),
 (103,⟨1,8,.other,[.lit .nilFunc],0,0⟩),
 (105,⟨4,32,.st [(0,3),(1,103),(2,36),(3,4)],[.t (.int .i64 0),.lit .nilFunc,.lit .nilFunc,.t (.bool false)],0,0⟩),
 (110,⟨1,8,.other,[.lit .nilFunc],0,0⟩),
 (111,⟨1,8,.other,[.lit .nilFunc],0,0⟩),
 (114,⟨1,8,.other,[.lit .nilFunc],0,0⟩),
 (117,⟨1,8,.other,[.lit .nilFunc],0,0⟩),
 (122,⟨3,32,.st [(0,3),(1,3),(2,9)],[.t (.int .i64 0),.t (.int .i64 0),.t (.str ⟨#[]⟩)],0,37⟩),
 (135,⟨1,8,.ptr 214,[.np],0,0⟩),
 (139,⟨1,8,.ptr 219,[.np],0,0⟩),
 (145,⟨1,8,.mp 9 222,[.lit (.map none)],0,0⟩),
 (147,⟨18,264,.st [(0,29),(16,145),(17,3)],[.t (.int .i64 0),.nil,.t (.str ⟨#[]⟩),.t (.int .i64 0),.nil,.t (.int .i64 0),.t (.int .i64 0),.t (.int .i64 0),.nil,.nil,.t (.int .i64 0),.t (.int .i64 0),.t (.int .i64 0),.nil,.nil,.nil,.lit (.map none),.t (.int .i64 0)],0,0⟩),
 (150,⟨7,104,.st [(0,9),(1,23),(2,3),(3,90)],[.t (.str ⟨#[]⟩),.nil,.t (.int .i64 0),.t (.int .i64 0),.t (.int .i64 0),.t (.str ⟨#[]⟩),.nil],0,0⟩),
 (152,⟨1,8,.other,[.lit .nilFunc],0,0⟩),
 (158,⟨36,288,.arr 9 105,[.t (.int .i64 0),.lit .nilFunc,.lit .nilFunc,.t (.bool false),.t (.int .i64 0),.lit .nilFunc,.lit .nilFunc,.t (.bool false),.t (.int .i64 0),.lit .nilFunc,.lit .nilFunc,.t (.bool false),.t (.int .i64 0),.lit .nilFunc,.lit .nilFunc,.t (.bool false),.t (.int .i64 0),.lit .nilFunc,.lit .nilFunc,.t (.bool false),.t (.int .i64 0),.lit .nilFunc,.lit .nilFunc,.t (.bool false),.t (.int .i64 0),.lit .nilFunc,.lit .nilFunc,.t (.bool false),.t (.int .i64 0),.lit .nilFunc,.lit .nilFunc,.t (.bool false),.t (.int .i64 0),.lit .nilFunc,.lit .nilFunc,.t (.bool false)],0,0⟩),
 (164,⟨1,24,.sl 171,[.nil],0,0⟩),
 (166,⟨1,8,.other,[.lit .nilFunc],0,0⟩),
 (171,⟨2,16,.st [(0,3),(1,3)],[.t (.int .i64 0),.t (.int .i64 0)],2,0⟩),
 (174,⟨1,8,.ptr 177,[.np],0,0⟩),
 (175,⟨1,24,.sl 5,[.nil],0,0⟩),
 (177,⟨2,32,.st [(0,174),(1,175)],[.np,.nil],0,0⟩),
 (179,⟨1,16,.ifc,[.lit .nilIface],0,0⟩),
 (184,⟨4,80,.st [(0,22),(1,3),(2,48),(3,48)],[.nil,.t (.int .i64 0),.nil,.nil],0,0⟩),
 (186,⟨1,24,.sl 190,[.nil],0,0⟩),
 (190,⟨3,40,.st [(0,3),(1,3),(2,37)],[.t (.int .i64 0),.t (.int .i64 0),.nil],0,0⟩),
 (195,⟨1,24,.sl 9,[.nil],0,0⟩),
 (198,⟨1,8,.other,[.lit .nilFunc],0,0⟩),
 (200,⟨1,24,.sl 201,[.nil],0,0⟩),
 (201,⟨1,24,.sl 4,[.nil],0,0⟩),
 (204,⟨4,40,.st [(0,67),(3,3)],[.t (.int .i64 0),.t (.int .i64 0),.t (.str ⟨#[]⟩),.t (.int .i64 0)],0,0⟩),
 (206,⟨1,24,.sl 209,[.nil],0,0⟩),
 (209,⟨4,64,.st [(0,48),(1,3),(2,3),(3,37)],[.nil,.t (.int .i64 0),.t (.int .i64 0),.nil],0,0⟩),
 (214,⟨2,24,.st [(0,9),(1,4)],[.t (.str ⟨#[]⟩),.t (.bool false)],0,14⟩),
 (219,⟨2,24,.st [(0,9),(1,4)],[.t (.str ⟨#[]⟩),.t (.bool false)],0,14⟩),
 (222,⟨1,8,.ptr 225,[.np],0,0⟩),
 (223,⟨2,48,.arr 2 37,[.nil,.nil],0,0⟩),
 (225,⟨2,48,.st [(0,223)],[.nil,.nil],0,0⟩),
 (231,⟨1,8,.other,[.lit .nilFunc],0,0⟩),
 (232,⟨1,8,.int .u64,[.t (.int .u64 0)],0,0⟩),
 (235,⟨1,8,.ptr 5,[.np],0,0⟩),
 (236,⟨1,8,.other,[.lit .nilFunc],0,0⟩),
 (239,⟨6,64,.st [(0,67),(3,67)],[.t (.int .i64 0),.t (.int .i64 0),.t (.str ⟨#[]⟩),.t (.int .i64 0),.t (.int .i64 0),.t (.str ⟨#[]⟩)],0,0⟩),
 (240,⟨1,8,.mp 3 236,[.lit (.map none)],0,0⟩),
 (241,⟨1,8,.mp 3 37,[.lit (.map none)],0,0⟩),
 (244,⟨1,8,.other,[.lit .nilFunc],0,0⟩),
 (250,⟨1,8,.other,[.lit .nilFunc],0,0⟩),
 (266,⟨1,4,.int .u32,[.t (.int .u32 0)],0,0⟩),
 (269,⟨1,8,.int .u64,[.t (.int .u64 0)],0,0⟩),
 (276,⟨1,24,.sl 48,[.nil],0,0⟩),
 (285,⟨2,48,.arr 2 23,[.nil,.nil],0,0⟩),
 (287,⟨1,8,.other,[.lit .nilFunc],0,0⟩),
 (288,⟨24,24,.arr 24 5,[.t (.int .u8 0),.t (.int .u8 0),.t (.int .u8 0),.t (.int .u8 0),.t (.int .u8 0),.t (.int .u8 0),.t (.int .u8 0),.t (.int .u8 0),.t (.int .u8 0),.t (.int .u8 0),.t (.int .u8 0),.t (.int .u8 0),.t (.int .u8 0),.t (.int .u8 0),.t (.int .u8 0),.t (.int .u8 0),.t (.int .u8 0),.t (.int .u8 0),.t (.int .u8 0),.t (.int .u8 0),.t (.int .u8 0),.t (.int .u8 0),.t (.int .u8 0),.t (.int .u8 0)],0,0⟩),
 (296,⟨1,8,.int .i64,[.t (.int .i64 0)],0,0⟩),
 (304,⟨1,8,.int .i64,[.t (.int .i64 0)],0,0⟩),
 (307,⟨1,8,.ptr 328,[.np],0,0⟩),
 (311,⟨20,160,.arr 20 269,[.t (.int .u64 0),.t (.int .u64 0),.t (.int .u64 0),.t (.int .u64 0),.t (.int .u64 0),.t (.int .u64 0),.t (.int .u64 0),.t (.int .u64 0),.t (.int .u64 0),.t (.int .u64 0),.t (.int .u64 0),.t (.int .u64 0),.t (.int .u64 0),.t (.int .u64 0),.t (.int .u64 0),.t (.int .u64 0),.t (.int .u64 0),.t (.int .u64 0),.t (.int .u64 0),.t (.int .u64 0)],0,0⟩),
 (312,⟨65,65,.arr 65 5,[.t (.int .u8 0),.t (.int .u8 0),.t (.int .u8 0),.t (.int .u8 0),.t (.int .u8 0),.t (.int .u8 0),.t (.int .u8 0),.t (.int .u8 0),.t (.int .u8 0),.t (.int .u8 0),.t (.int .u8 0),.t (.int .u8 0),.t (.int .u8 0),.t (.int .u8 0),.t (.int .u8 0),.t (.int .u8 0),.t (.int .u8 0),.t (.int .u8 0),.t (.int .u8 0),.t (.int .u8 0),.t (.int .u8 0),.t (.int .u8 0),.t (.int .u8 0),.t (.int .u8 0),.t (.int .u8 0),.t (.int .u8 0),.t (.int .u8 0),.t (.int .u8 0),.t (.int .u8 0),.t (.int .u8 0),.t (.int .u8 0),.t (.int .u8 0),.t (.int .u8 0),.t (.int .u8 0),.t (.int .u8 0),.t (.int .u8 0),.t (.int .u8 0),.t (.int .u8 0),.t (.int .u8 0),.t (.int .u8 0),.t (.int .u8 0),.t (.int .u8 0),.t (.int .u8 0),.t (.int .u8 0),.t (.int .u8 0),.t (.int .u8 0),.t (.int .u8 0),.t (.int .u8 0),.t (.int .u8 0),.t (.int .u8 0),.t (.int .u8 0),.t (.int .u8 0),.t (.int .u8 0),.t (.int .u8 0),.t (.int .u8 0),.t (.int .u8 0),.t (.int .u8 0),.t (.int .u8 0),.t (.int .u8 0),.t (.int .u8 0),.t (.int .u8 0),.t (.int .u8 0),.t (.int .u8 0),.t (.int .u8 0),.t (.int .u8 0)],0,0⟩),
 (319,⟨1,8,.int .u64,[.t (.int .u64 0)],0,0⟩),
 (323,⟨1,8,.ptr 3,[.np],0,0⟩),
 (328,⟨3,48,.st [(0,9),(1,9),(2,179)],[.t (.str ⟨#[]⟩),.t (.str ⟨#[]⟩),.lit .nilIface],0,0⟩),
 (332,⟨1,8,.ptr 319,[.np],0,0⟩),
 (335,⟨1,8,.ptr 337,[.np],0,0⟩),
 (337,⟨1,16,.st [(0,9)],[.t (.str ⟨#[]⟩)],0,2⟩),
 (338,⟨32,32,.arr 32 5,[.t (.int .u8 0),.t (.int .u8 0),.t (.int .u8 0),.t (.int .u8 0),.t (.int .u8 0),.t (.int .u8 0),.t (.int .u8 0),.t (.int .u8 0),.t (.int .u8 0),.t (.int .u8 0),.t (.int .u8 0),.t (.int .u8 0),.t (.int .u8 0),.t (.int .u8 0),.t (.int .u8 0),.t (.int .u8 0),.t (.int .u8 0),.t (.int .u8 0),.t (.int .u8 0),.t (.int .u8 0),.t (.int .u8 0),.t (.int .u8 0),.t (.int .u8 0),.t (.int .u8 0),.t (.int .u8 0),.t (.int .u8 0),.t (.int .u8 0),.t (.int .u8 0),.t (.int .u8 0),.t (.int .u8 0),.t (.int .u8 0),.t (.int .u8 0)],0,0⟩),
 (339,⟨64,64,.arr 64 5,[.t (.int .u8 0),.t (.int .u8 0),.t (.int .u8 0),.t (.int .u8 0),.t (.int .u8 0),.t (.int .u8 0),.t (.int .u8 0),.t (.int .u8 0),.t (.int .u8 0),.t (.int .u8 0),.t (.int .u8 0),.t (.int .u8 0),.t (.int .u8 0),.t (.int .u8 0),.t (.int .u8 0),.t (.int .u8 0),.t (.int .u8 0),.t (.int .u8 0),.t (.int .u8 0),.t (.int .u8 0),.t (.int .u8 0),.t (.int .u8 0),.t (.int .u8 0),.t (.int .u8 0),.t (.int .u8 0),.t (.int .u8 0),.t (.int .u8 0),.t (.int .u8 0),.t (.int .u8 0),.t (.int .u8 0),.t (.int .u8 0),.t (.int .u8 0),.t (.int .u8 0),.t (.int .u8 0),.t (.int .u8 0),.t (.int .u8 0),.t (.int .u8 0),.t (.int .u8 0),.t (.int .u8 0),.t (.int .u8 0),.t (.int .u8 0),.t (.int .u8 0),.t (.int .u8 0),.t (.int .u8 0),.t (.int .u8 0),.t (.int .u8 0),.t (.int .u8 0),.t (.int .u8 0),.t (.int .u8 0),.t (.int .u8 0),.t (.int .u8 0),.t (.int .u8 0),.t (.int .u8 0),.t (.int .u8 0),.t (.int .u8 0),.t (.int .u8 0),.t (.int .u8 0),.t (.int .u8 0),.t (.int .u8 0),.t (.int .u8 0),.t (.int .u8 0),.t (.int .u8 0),.t (.int .u8 0),.t (.int .u8 0)],0,0⟩),
 (354,⟨3,40,.st [(0,9),(1,3),(2,9)],[.t (.str ⟨#[]⟩),.t (.int .i64 0),.t (.str ⟨#[]⟩)],0,38⟩)]
set_option maxRecDepth 100000 in
theorem aLQ{P:Program}{l:List (Nat×dO)}(h1:l.map (fun e=>(P.info? e.1).map (fun x=>(x.size,x.bytes,zOf x.zero)))=l.map (fun e=>some (e.2.size,e.2.bytes,some (e.2.zero.map some))))(h2:l.map (fun e=>(P.underlying e.1).map aVS)=l.map (fun e=>some e.2.und))(h3:l.all (fun e=>Ly P e.1 e.2.eqn&&Ni P e.1 e.2.eqf&&aAN P e.1 e.2.und)=true):mP P (look l):=
 aQV fun e he=>aZK (List.map_inj_left.1 h1 e he) (List.map_inj_left.1 h2 e he) (fT.1 h3 e he)
theorem aZ:mP Proofs.Tryz.prog (look tiL):=aLQ (by kernel_rfl) (by kernel_rfl) (by kernel_rfl)
abbrev TP:=Tr Proofs.Tryz.prog
end Go.PL
namespace Go.Proofs
open Go.Shelf Go.RowKit
set_option maxRecDepth 100000 in
theorem Tryz.copyCheck_used(b:Nat)(w:World)(h0:w.cell? ⟨b,0,none⟩=some (.pointer (some ⟨b,0,none⟩))):
  Calls Tryz.prog 222 #[.pointer (some ⟨b,0,none⟩)] w fun e w'=>e = .returned (.tuple #[])/\w'=w:=by
 have M:(Tryz.prog.info? 177).map (·.size)=some 2:=by rfl
 obtain⟨j,hj,_⟩:=Option.map_eq_some_iff.1 M;have Q:Tryz.prog.follows .mixedOrders=true:=by rfl
 have J:=Tryz.underlying177; have a72:=Tryz.isAgg177; have z72:=Tryz.sizeOf177; have v72:=Tryz.zeroValue177; have u72:=run_underlying J;have D:=Tryz.underlying174; have a70:=Tryz.isAgg174; have z70:=Tryz.sizeOf174; have v70:=Tryz.zeroValue174; have u70:=run_underlying D;have t4:=Tryz.underlying4; have a4:=Tryz.isAgg4; have z4:=Tryz.sizeOf4; have v4:=Tryz.zeroValue4; have u4:=run_underlying t4;have G:=Tryz.underlying273; have a164:=Tryz.isAgg273; have Z:=Tryz.sizeOf273; have v164:=Tryz.zeroValue273; have u164:=run_underlying G
 go_enter Tryz.func222,Tryz.ntmps222
 go_wp2
 rw[Lib.run_neq_ptr_same w _ D hj]
 go_wp2
 go_end0
 simp_all
set_option maxRecDepth 100000 in
theorem Tryz.copyCheck_fresh(b:Nat)(w:World)(h0:w.cell? ⟨b,0,none⟩=some (.pointer none))(J:w.shape? b=some (177,2))(hfz:w.frozen? ⟨b,0,none⟩=false):
  Calls Tryz.prog 222 #[.pointer (some ⟨b,0,none⟩)] w fun e w'=>e = .returned (.tuple #[])/\w'=w.setCell ⟨b,0,none⟩ (.pointer (some ⟨b,0,none⟩)):=by
 have Z:(Tryz.prog.info? 177).map (·.size)=some 2:=by rfl
 obtain⟨j,hj,hjs⟩:=Option.map_eq_some_iff.1 Z;have M:liesAt Tryz.prog Tryz.prog.depth 177 (2 / Tryz.prog.cellsOf 177) 0 177 1=true:=by rfl
 have mixed:Tryz.prog.follows .mixedOrders=true:=by rfl
 have Q:=Tryz.underlying177; have a72:=Tryz.isAgg177; have z72:=Tryz.sizeOf177; have v72:=Tryz.zeroValue177; have u72:=run_underlying Q;have G:=Tryz.underlying174; have a70:=Tryz.isAgg174; have z70:=Tryz.sizeOf174; have v70:=Tryz.zeroValue174; have u70:=run_underlying G;have t4:=Tryz.underlying4; have a4:=Tryz.isAgg4; have z4:=Tryz.sizeOf4; have v4:=Tryz.zeroValue4; have u4:=run_underlying t4;have D:=Tryz.underlying273; have a164:=Tryz.isAgg273; have z164:=Tryz.sizeOf273; have v164:=Tryz.zeroValue273; have u164:=run_underlying D
 go_enter Tryz.func222,Tryz.ntmps222
 go_wp2
 rw[Lib.run_to_unsafe w ⟨b,0,none⟩ G D hj (by omega) J (Nat.zero_lt_succ 1)];simp only[Result.andThen];rw[Oper.upon_value]
 go_wp2
 rw[run_callFunc_extern Tryz.func276 (by rfl) (by rfl) (by rfl) (e:=Extern.AbiNoEscape.same) (by rfl)];rw[Lib.run_noEscape];simp only[Result.andThen];rw[Oper.upon_value]
 go_wp2
 rw[Lib.run_from_unsafe w ⟨b,0,none⟩ D G hj J M];simp only[Result.andThen];rw[Oper.upon_value]
 go_wp2
 go_end0
 simp_all
set_option maxRecDepth 100000 in
theorem Tryz.String_row(b g cap:Nat)(p:Value)(cur:Array Value)(l:List UInt8)(h0:l≠[])(w:World)(hbk:w.heap[b]? = some (.cells #[p,.slice (some ⟨g,0,none⟩) l.length cap] 177 (0,0)))
  (hg:w.heap[g]? = some (.cells cur 5 (0,0)))(hnc:l.length<=cap)(Z:cap<=maxLen)(hcs:cur.size=cap*1)(hcell:∀ (j:Nat) (x:UInt8),l[j]? = some x->cur[j]? = some (Value.int .u8 (x.toNat:Int))):
  Calls Tryz.prog 170 #[.pointer (some ⟨b,0,none⟩)] w fun e w'=>e = .returned (.string ⟨l.toArray⟩)/\w'=w.drew.freeze ⟨g,0,none⟩ l.length:=by
 have hl0:l.length≠0:=by simp_all
 have c1:w.drew.cell? ⟨b,1,none⟩=some (.slice (some ⟨g,0,none⟩) l.length cap):=by have:w.drew.heap[b]? = some (.cells #[p,.slice (some ⟨g,0,none⟩) l.length cap] 177 (0,0)):=hbk;rw[Lib.cell_of_heap this]; rfl
 have hSD:(Builtin.unsafeSliceData_ #[175] 235 #[.slice (some ⟨g,0,none⟩) l.length cap]).run Tryz.prog w.drew = .ok (.pointer (some ⟨g,0,none⟩)) w.drew:=
  Lib.run_unsafeSliceData_row _ _ _ _ _ _ (by omega)
 have hUS:(Builtin.unsafeString_ #[235,3] 9 #[.pointer (some ⟨g,0,none⟩),.int .i64 l.length]).run Tryz.prog w.drew = .ok (.string ⟨l.toArray⟩) (w.drew.freeze ⟨g,0,none⟩ l.length):=by refine Lib.run_unsafeString_row w.drew 235 3 9 5 Tryz.underlying235 (by rfl) g cur.size (by have D:w.drew.heap[g]? = some (.cells cur 5 (0,0)):=hg; simp[World.shape?,D]) l h0 (by omega) (by unfold maxLen at Z; omega) ?_;intro j x hx;have D:w.drew.heap[g]? = some (.cells cur 5 (0,0)):=hg;rw[Go.PL.Addr.add_none,Nat.zero_add,Lib.cell_of_heap D];simp_all
 have mixed:Tryz.prog.follows .mixedOrders=true:=by rfl
 have J:=Tryz.underlying177; have a72:=Tryz.isAgg177; have z72:=Tryz.sizeOf177; have v72:=Tryz.zeroValue177; have u72:=run_underlying J;have M:=Tryz.underlying174; have a70:=Tryz.isAgg174; have z70:=Tryz.sizeOf174; have v70:=Tryz.zeroValue174; have u70:=run_underlying M;have Q:=Tryz.underlying175; have a37:=Tryz.isAgg175; have z37:=Tryz.sizeOf175; have v37:=Tryz.zeroValue175; have u37:=run_underlying Q;have G:=Tryz.underlying235; have a127:=Tryz.isAgg235; have z127:=Tryz.sizeOf235; have v127:=Tryz.zeroValue235; have u127:=run_underlying G;have t3:=Tryz.underlying3; have a3:=Tryz.isAgg3; have z3:=Tryz.sizeOf3; have v3:=Tryz.zeroValue3; have u3:=run_underlying t3;have t9:=Tryz.underlying9; have a9:=Tryz.isAgg9; have z9:=Tryz.sizeOf9; have v9:=Tryz.zeroValue9; have u9:=run_underlying t9;have t5:=Tryz.underlying5; have a5:=Tryz.isAgg5; have z5:=Tryz.sizeOf5; have v5:=Tryz.zeroValue5; have u5:=run_underlying t5
 go_enter Tryz.func170,Tryz.ntmps170
 go_wp2
 go_region_o
 all_goals (go_wp2; go_ret; simp_all)
set_option maxRecDepth 100000 in
theorem Tryz.String_nil(b:Nat)(p:Value)(w:World)(Q:w.heap[b]? = some (.cells #[p,.slice none 0 0] 177 (0,0))):
  Calls Tryz.prog 170 #[.pointer (some ⟨b,0,none⟩)] w fun e w'=>e = .returned (.string ⟨#[]⟩)/\w'=w.drew:=by
 have hUS:∀ W q,(Builtin.unsafeString_ #[235,3] 9 #[.pointer q,.int .i64 0]).run Tryz.prog W = .ok (.string .empty) W:=fun W q=>Lib.run_unsafeString_none W _ _ _ q;have c1:w.drew.cell? ⟨b,1,none⟩=some (.slice none 0 0):=by have:w.drew.heap[b]? = some (.cells #[p,.slice none 0 0] 177 (0,0)):=Q;rw[Lib.cell_of_heap this]; rfl
 have hSD:(Builtin.unsafeSliceData_ #[175] 235 #[.slice none 0 0]).run Tryz.prog w.drew = .ok (.pointer none) w.drew:=rfl;have Z:Tryz.prog.follows .mixedOrders=true:=by rfl
 have G:=Tryz.underlying177; have a72:=Tryz.isAgg177; have z72:=Tryz.sizeOf177; have v72:=Tryz.zeroValue177; have u72:=run_underlying G;have J:=Tryz.underlying174; have a70:=Tryz.isAgg174; have z70:=Tryz.sizeOf174; have v70:=Tryz.zeroValue174; have u70:=run_underlying J;have M:=Tryz.underlying175; have a37:=Tryz.isAgg175; have z37:=Tryz.sizeOf175; have v37:=Tryz.zeroValue175; have u37:=run_underlying M;have D:=Tryz.underlying235; have a127:=Tryz.isAgg235; have z127:=Tryz.sizeOf235; have v127:=Tryz.zeroValue235; have u127:=run_underlying D;have t3:=Tryz.underlying3; have a3:=Tryz.isAgg3; have z3:=Tryz.sizeOf3; have v3:=Tryz.zeroValue3; have u3:=run_underlying t3;have t9:=Tryz.underlying9; have a9:=Tryz.isAgg9; have z9:=Tryz.sizeOf9; have v9:=Tryz.zeroValue9; have u9:=run_underlying t9;have t5:=Tryz.underlying5; have a5:=Tryz.isAgg5; have z5:=Tryz.sizeOf5; have v5:=Tryz.zeroValue5; have u5:=run_underlying t5
 go_enter Tryz.func170,Tryz.ntmps170
 go_wp2
 go_region_o
 all_goals (go_wp2; go_ret; exact⟨rfl,rfl⟩)
set_option maxRecDepth 100000 in
theorem Tryz.String_noroom(b g:Nat)(p:Value)(cur:Array Value)(w:World)(hlt:b<w.heap.size)(D:w.heap[b]? = some (.cells #[p,.slice (some ⟨g,0,none⟩) 0 0] 177 (0,0)))(hg:w.heap[g]? = some (.cells cur 5 (0,0))):
  Calls Tryz.prog 170 #[.pointer (some ⟨b,0,none⟩)] w fun e w'=>e = .returned (.string ⟨#[]⟩)/\w'=w.drew.alloc (.view ⟨g,0,none⟩ 5):=by
 have hUS:∀ W q,(Builtin.unsafeString_ #[235,3] 9 #[.pointer q,.int .i64 0]).run Tryz.prog W = .ok (.string .empty) W:=fun W q=>Lib.run_unsafeString_none W _ _ _ q;have c1:w.drew.cell? ⟨b,1,none⟩=some (.slice (some ⟨g,0,none⟩) 0 0):=by have:w.drew.heap[b]? = some (.cells #[p,.slice (some ⟨g,0,none⟩) 0 0] 177 (0,0)):=D;rw[Lib.cell_of_heap this]; rfl
 have hSD:(Builtin.unsafeSliceData_ #[175] 235 #[.slice (some ⟨g,0,none⟩) 0 0]).run Tryz.prog w.drew = .ok (.pointer (some ⟨w.drew.heap.size,0,none⟩)) (w.drew.alloc (.view ⟨g,0,none⟩ 5)):=
  Lib.run_unsafeSliceData_zero w.drew _ _ 5 Tryz.underlying235 ⟨g,0,none⟩ 0 (5,cur.size) (by have Z:w.drew.heap[g]? = some (.cells cur 5 (0,0)):=hg; simp[World.shape?,Z])
 have c2:(w.drew.alloc (.view ⟨g,0,none⟩ 5)).cell? ⟨b,1,none⟩=some (.slice (some ⟨g,0,none⟩) 0 0):=by have:(w.drew.alloc (.view ⟨g,0,none⟩ 5)).heap[b]? = _:=(Lib.alloc_old w.drew _ b hlt).trans D;rw[Lib.cell_of_heap this]; rfl
 have c3:(w.alloc (.view ⟨g,0,none⟩ 5)).drew.cell? ⟨b,1,none⟩=some (.slice (some ⟨g,0,none⟩) 0 0):=c2;have c0:w.cell? ⟨b,1,none⟩=some (.slice (some ⟨g,0,none⟩) 0 0):=c1;have mixed:Tryz.prog.follows .mixedOrders=true:=by rfl
 have J:=Tryz.underlying177; have a72:=Tryz.isAgg177; have z72:=Tryz.sizeOf177; have v72:=Tryz.zeroValue177; have u72:=run_underlying J;have M:=Tryz.underlying174; have a70:=Tryz.isAgg174; have z70:=Tryz.sizeOf174; have v70:=Tryz.zeroValue174; have u70:=run_underlying M;have Q:=Tryz.underlying175; have a37:=Tryz.isAgg175; have z37:=Tryz.sizeOf175; have v37:=Tryz.zeroValue175; have u37:=run_underlying Q;have G:=Tryz.underlying235; have a127:=Tryz.isAgg235; have z127:=Tryz.sizeOf235; have v127:=Tryz.zeroValue235; have u127:=run_underlying G;have t3:=Tryz.underlying3; have a3:=Tryz.isAgg3; have z3:=Tryz.sizeOf3; have v3:=Tryz.zeroValue3; have u3:=run_underlying t3;have t9:=Tryz.underlying9; have a9:=Tryz.isAgg9; have z9:=Tryz.sizeOf9; have v9:=Tryz.zeroValue9; have u9:=run_underlying t9;have t5:=Tryz.underlying5; have a5:=Tryz.isAgg5; have z5:=Tryz.sizeOf5; have v5:=Tryz.zeroValue5; have u5:=run_underlying t5
 go_enter Tryz.func170,Tryz.ntmps170
 go_wp2
 go_region_o
 all_goals (go_wp2; go_ret; exact⟨rfl,rfl⟩)
set_option maxRecDepth 100000 in
theorem Tryz.String_room(b g cap:Nat)(p:Value)(w:World)(D:cap≠0)(Z:w.heap[b]? = some (.cells #[p,.slice (some ⟨g,0,none⟩) 0 cap] 177 (0,0))):
  Calls Tryz.prog 170 #[.pointer (some ⟨b,0,none⟩)] w fun e w'=>e = .returned (.string ⟨#[]⟩)/\w'=w.drew:=by
 have hUS:∀ W q,(Builtin.unsafeString_ #[235,3] 9 #[.pointer q,.int .i64 0]).run Tryz.prog W = .ok (.string .empty) W:=fun W q=>Lib.run_unsafeString_none W _ _ _ q;have c1:w.drew.cell? ⟨b,1,none⟩=some (.slice (some ⟨g,0,none⟩) 0 cap):=by have:w.drew.heap[b]? = some (.cells #[p,.slice (some ⟨g,0,none⟩) 0 cap] 177 (0,0)):=Z;rw[Lib.cell_of_heap this]; rfl
 have hSD:(Builtin.unsafeSliceData_ #[175] 235 #[.slice (some ⟨g,0,none⟩) 0 cap]).run Tryz.prog w.drew = .ok (.pointer (some ⟨g,0,none⟩)) w.drew:=
  Lib.run_unsafeSliceData_row _ _ _ _ _ _ D
 clear D;have mixed:Tryz.prog.follows .mixedOrders=true:=by rfl
 have J:=Tryz.underlying177; have a72:=Tryz.isAgg177; have z72:=Tryz.sizeOf177; have v72:=Tryz.zeroValue177; have u72:=run_underlying J;have M:=Tryz.underlying174; have a70:=Tryz.isAgg174; have z70:=Tryz.sizeOf174; have v70:=Tryz.zeroValue174; have u70:=run_underlying M;have Q:=Tryz.underlying175; have a37:=Tryz.isAgg175; have z37:=Tryz.sizeOf175; have v37:=Tryz.zeroValue175; have u37:=run_underlying Q;have G:=Tryz.underlying235; have a127:=Tryz.isAgg235; have z127:=Tryz.sizeOf235; have v127:=Tryz.zeroValue235; have u127:=run_underlying G;have t3:=Tryz.underlying3; have a3:=Tryz.isAgg3; have z3:=Tryz.sizeOf3; have v3:=Tryz.zeroValue3; have u3:=run_underlying t3;have t9:=Tryz.underlying9; have a9:=Tryz.isAgg9; have z9:=Tryz.sizeOf9; have v9:=Tryz.zeroValue9; have u9:=run_underlying t9;have t5:=Tryz.underlying5; have a5:=Tryz.isAgg5; have z5:=Tryz.sizeOf5; have v5:=Tryz.zeroValue5; have u5:=run_underlying t5
 go_enter Tryz.func170,Tryz.ntmps170
 go_wp2
 go_region_o
 all_goals (go_wp2; go_ret; exact⟨rfl,rfl⟩)
end Go.Proofs
namespace Go.Proofs
open Go.Shelf Go.RowKit
theorem yA{P:Program}{w:World}{ops:Array Oper}{rest:List Oper}{o:Oper}{a:Act}{Q:Exit->Act->World->Prop}(G:o.guard=none)(sl x:Operand)(t u:TypeId)
  (ho:o.op = .call { callee:=.builtin .append,args:=#[sl,x],argTypes:=#[t,u] })(ty:TypeId)(D:o.type=ty)(v:Value)(s:ByteArray)(hs:a.eval sl=v)(hx:a.eval x = .string s)(J:Value)(w':World)
  (hr:(Builtin.append_ #[t,u] ty #[v,.string s]).run P w = .ok J w')(h:wpList P ops Q rest (a.put o.dst J) w'):wpList P ops Q (o::rest) a w:=by
 refine wpList_plain G fun K M=>?_;unfold Oper.wp execOp;simp only[ho,D,resolve,invoke,builtin,Sem.run_bind,Sem.run_pure,Result.andThen_ok,List.map_toArray,List.map_cons,List.map_nil,hs,hx,hr];exact M _ _ h
set_option maxRecDepth 100000 in
theorem Tryz.WriteString_ex(b:Nat)(v:Value)(ao:Option Addr)(n' cap:Nat)(s:ByteArray)(w M G:World)(hcc:Calls Tryz.prog 222 #[.pointer (some ⟨b,0,none⟩)] w fun e w'=>e = .returned (.tuple #[])/\w'=M)
  (J:M.heap[b]? = some (.cells #[.pointer (some ⟨b,0,none⟩),v] 177 (0,0)))(hap:(Builtin.append_ #[175,9] 175 #[v,.string s]).run Tryz.prog M = .ok (.slice ao n' cap) G)
  (D:G.heap[b]? = some (.cells #[.pointer (some ⟨b,0,none⟩),v] 177 (0,0))):
  Calls Tryz.prog 167 #[.pointer (some ⟨b,0,none⟩),.string s] w fun e w'=>e = .returned (.tuple #[.int .i64 s.size,.nilIface])/\w'=G.setCell ⟨b,1,none⟩ (.slice ao n' cap):=by
 have mixed:Tryz.prog.follows .mixedOrders=true:=by kernel_rfl
 have Q:=Tryz.underlying177; have a72:=Tryz.isAgg177; have z72:=Tryz.sizeOf177; have v72:=Tryz.zeroValue177; have u72:=run_underlying Q;have Z:=Tryz.underlying174; have a70:=Tryz.isAgg174; have z70:=Tryz.sizeOf174; have v70:=Tryz.zeroValue174; have u70:=run_underlying Z;have t37:=Tryz.underlying175; have a37:=Tryz.isAgg175; have z37:=Tryz.sizeOf175; have v37:=Tryz.zeroValue175; have u37:=run_underlying t37;have t3:=Tryz.underlying3; have a3:=Tryz.isAgg3; have z3:=Tryz.sizeOf3; have v3:=Tryz.zeroValue3; have u3:=run_underlying t3;have t9:=Tryz.underlying9; have a9:=Tryz.isAgg9; have z9:=Tryz.sizeOf9; have v9:=Tryz.zeroValue9; have u9:=run_underlying t9;have t4:=Tryz.underlying4; have a4:=Tryz.isAgg4; have z4:=Tryz.sizeOf4; have v4:=Tryz.zeroValue4; have u4:=run_underlying t4;have t5:=Tryz.underlying5; have a5:=Tryz.isAgg5; have z5:=Tryz.sizeOf5; have v5:=Tryz.zeroValue5; have u5:=run_underlying t5;have e167:∀ args w,(callFunc 222 args).run Tryz.prog w = .ok (.enter 222 args) w:=enters_of Tryz.func222 (by kernel_rfl) rfl
 go_enter Tryz.func167,Tryz.ntmps167
 go_wp2_with (go_at_fn 222; refine hcc.mono ?_)
 rintro e w' ⟨rfl,rfl⟩;have c0:w'.cell? ⟨b,0,none⟩=some (.pointer (some ⟨b,0,none⟩)):=by rw[Lib.cell_of_heap J]; rfl
 have c1:w'.cell? ⟨b,1,none⟩=some v:=by rw[Lib.cell_of_heap J]; rfl
 have d0:G.cell? ⟨b,0,none⟩=some (.pointer (some ⟨b,0,none⟩)):=by rw[Lib.cell_of_heap D]; rfl
 have d1:G.cell? ⟨b,1,none⟩=some v:=by rw[Lib.cell_of_heap D]; rfl
 have f1:G.frozen? ⟨b,1,none⟩=false:=Lib.frozen_of_heap D 1
 go_wp2_with (at_builtin; refine yA rfl _ _ 175 9 rfl 175 rfl _ s rfl rfl _ _ hap ?_)
 go_wp2
 go_ret2
 exact⟨rfl,rfl⟩
end Go.Proofs
namespace Go.PL
open Go
theorem aCW(x:ByteArray):(⟨x.data.toList.toArray⟩:ByteArray)=x:=by rfl
theorem aVN{x:ByteArray}(h:x.size=0):x=⟨#[]⟩:=by
 cases x with
 | mk d=>have:d=#[]:=Cp h; rw[this]
theorem Aj{g:Nat->Value}{w w':World}{F:Nat->Prop}{H:Hp}(hH:HpR F g w (fun _=>True) H)(hF:∀ b,F b->b<w.heap.size)
  (M:w'.os=w.os)(J:w'.tape=w.tape)(G:w'.output=w.output)(D:w.heap.size<=w'.heap.size)(hb:∀ b,b<w.heap.size->¬ Own g w H b->w'.heap[b]? = w.heap[b]?):
  Jj { w0:=w,F0:=F,B0:=Own g w H,g0:=g,N:=[],nt:=0 } F g [] w':=by
 refine⟨⟨fun o x h=>by simp at h,fun o x b h=>by simp at h,fun o x Q y b h=>by simp at h⟩,fun b h=>h,fun b h=>⟨Cl (hF b h) D,.inl h⟩,⟨M,J,G,D,hb⟩,fun o h=>by rfl,?_⟩;rintro b ⟨o,x,h1,h2⟩;exact h2.block (hH.obj o x h1)
theorem aXK(x:ByteArray):eT Proofs.Tryz.prog 170 [.ptr 30000 0] [(30000,.bld 177 5 x)] [] (some x) (fun y=>.t (.str y)) (fun _=>[]):=by
 refine⟨bM Proofs.Tryz.func170 (by rfl),fun y hy=>?_⟩;cases hy;intro F g w vs hs hv hH hF hgl;obtain⟨b,p,v,h1,h2,h3,h4⟩:=hH.obj 30000 _ (cZ.2 rfl);have h0:0<vs.size:=by simp_all
 have M:=hv 0 _ vs[0] rfl (by simp[h0]);have hvs:vs=#[.pointer (some ⟨b,0,none⟩)]:=by
  have e0:vs[0] = .pointer (some ⟨b,0,none⟩):=by
   generalize vs[0]=u at M;cases M with
   | ptr hg=>simp_all
  grind
 subst hvs;have D:∀ {G:World},G.os=w.os->G.tape=w.tape->G.output=w.output->w.heap.size<=G.heap.size->(∀ q,q<w.heap.size->¬ Own g w [(30000,.bld 177 5 x)] q->G.heap[q]? = w.heap[q]?) ->
   ∃ v r H' F' g',Ending.returned (.string x) = .returned v/\vF (.t (.str x)) [] r H'/\VR F' g' G r v/\Jj { w0:=w,F0:=F,B0:=Own g w [(30000,.bld 177 5 x)],g0:=g,N:=[],nt:=0 } F' g' H' G:=
  fun e1 e2 e3 e4 e5=>⟨_,_,_,F,g,rfl,⟨rfl,rfl⟩,.t (.str _),Aj hH hF e1 e2 e3 e4 e5⟩
 rcases h4 with⟨rfl,J⟩ | ⟨r,cap,cur,rfl,k1,k2,k3,k4,k5,k6⟩
 ·have hx:x=⟨#[]⟩:=aVN J;refine(Proofs.Tryz.String_nil b p w h2).mono ?_;rintro e G ⟨rfl,rfl⟩;rw[<-hx];exact D rfl rfl rfl (cM _) (fun _ _ _=>rfl)
 ·have Z:b<w.heap.size:=(Ob.1 h2).1;by_cases J:x.size=0
  ·have hx:x=⟨#[]⟩:=aVN J;rw[J]at h2;by_cases hc:cap=0
   ·subst hc;refine(Proofs.Tryz.String_noroom b r p cur w Z h2 k1).mono ?_;rintro e G ⟨rfl,rfl⟩;rw[<-hx];exact D rfl rfl rfl (by simp_all) (fun q hq _=>heap_alloc_old w.drew _ hq)
   ·refine(Proofs.Tryz.String_room b r cap p w hc h2).mono ?_;rintro e G ⟨rfl,rfl⟩;rw[<-hx];exact D rfl rfl rfl (cM _) (fun _ _ _=>rfl)
  ·have hl:x.data.toList.length=x.size:=by simp
   have hne:x.data.toList≠[]:=by grind
   have Q:=h2;rw[<-hl]at Q;refine(Proofs.Tryz.String_row b r cap p cur x.data.toList hne w Q k1 (by omega) k4 (by omega) (fun q u hu=>?_)).mono ?_
   ·have hq:q<x.size:=by grind
    have:=congrArg (·[q]?) k6;simp only[tC,aA hq,iF,gQ,hu]at this;simp_all
   ·rintro e G ⟨rfl,rfl⟩;rw[aCW];have hn:x.data.toList.length≠0:=by omega
    refine D ?_ ?_ ?_ ?_ (fun q hq ho=>?_)
    ·simp only[World.freeze,aF hn]; rfl
    ·simp only[World.freeze,aF hn]; rfl
    ·simp only[World.freeze,aF hn]; rfl
    ·simp only[World.freeze,aF hn];simp_all
    ·have hqr:q≠r:=fun e=>ho ⟨30000,_,cZ.2 rfl,.bld h1 h2 (by rw[e]; rfl)⟩;simp only[World.freeze,aF hn];rw[Yo,aF (fun e=>hqr e.symm)];rfl
end Go.PL
namespace Go.PL
open Go Go.Lib
theorem qV(w:World)(b q:Nat)(u D c1:Value)(ty:Nat)(hb:w.heap[b]? = some (.cells #[D,c1] ty (0,0)))(_hq:q<2):
  (w.setCell ⟨b,q,none⟩ u).heap[b]? = some (.cells (#[D,c1].setIfInBounds q u) ty (0,0)):=by
 simp[World.setCell,Yo,hb]
theorem jF(w:World)(b q k:Nat)(u:Value)(hk:k≠b):(w.setCell ⟨b,q,none⟩ u).heap[k]? = w.heap[k]?:=by simp[World.setCell,Yo,Ne.symm hk]
theorem zG(w:World)(b q:Nat)(u:Value):(w.setCell ⟨b,q,none⟩ u).heap.size=w.heap.size:=by simp_all
def aON(w:World)(v:Value)(s:ByteArray):Prop:=
 (v = .slice none 0 0/\s.size=0)\/∃ r cap cur,v = .slice (some ⟨r,0,none⟩) s.size cap/\w.heap[r]? = some (.cells cur 5 (0,0))/\s.size<=cap/\cap<=maxLen/\cur.size=cap/\cur.toList.take s.size=iF s
theorem wP(x s:ByteArray):iF (x++s)=iF x++iF s:=by simp[iF,ByteArray.data_append]
theorem wS(s:ByteArray):(iF s).length=s.size:=by simp[iF]
theorem Wt(x s:ByteArray)(w:World)(v:Value)(hr:aON w v x)(hC:x.size+s.size<=140737488355328):
  ∃ ao n cap w2,(Builtin.append_ #[175,9] 175 #[v,.string s]).run Proofs.Tryz.prog w = .ok (.slice ao n cap) w2/\aON w2 (.slice ao n cap) (x++s)/\(∀ k,k<w.heap.size->blk v≠some k->w2.heap[k]? = w.heap[k]?) /\
   w.heap.size<=w2.heap.size/\w2.os=w.os/\w2.tape=w.tape/\w2.output=w.output/\(∀ k,blk (.slice ao n cap)=some k->blk v=some k\/w.heap.size<=k):=by
 have M:Proofs.Tryz.prog.underlying 9=some .string:=Proofs.Tryz.underlying9;have ht:Proofs.Tryz.prog.underlying 175=some (.slice 5):=Proofs.Tryz.underlying175;have hi0:(Proofs.Tryz.prog.info? 5).map (fun i=>(i.zero,i.size,i.bytes))=some (some (.int .u8 0),1,1):=by kernel_rfl
 obtain⟨i,hi,hi1⟩:=kC.1 hi0;injection hi1 with hz hi2;injection hi2 with hs hb;have D:(x++s).size=x.size+s.size:=rE;have hsc:strCells s=iF s:=rfl;rcases hr with⟨rfl,J⟩ | ⟨r,cap,cur,rfl,h1,h2,h3,h4,h5⟩
 ·have hx:iF (x++s)=iF s:=by have h0:iF x=[]:=zO (by rw[wS]; exact J);rw[wP,h0,kK]
  by_cases hs0:s.size=0
  ·refine⟨none,0,0,w,?_,.inl ⟨rfl,by omega⟩,fun _ _ _=>rfl,cM _,rfl,rfl,rfl,fun k h=>by simp_all⟩;simp[Builtin.append_,run_underlying ht,run_underlying M,sizeOf,typeInfo,hi,Builtin.lenOf,hs0,Builtin.firstCells]
  ·have G:=pY (P:=Proofs.Tryz.prog) w 175 9 175 5 i _ ht M hi hz s (by omega) (by omega) (by rw[hb]; omega);refine⟨_,_,_,_,G,.inr ⟨_,_,_,by rw[D,J,iY]; rfl,heap_alloc_new w.drew _,?_,?_,?_,?_⟩,fun k hk _=>heap_alloc_old w.drew _ hk,?_,rfl,rfl,rfl,fun k h=>?_⟩
   ·rw[D,J,iY]; exact grownCap_ge w s.size 0 5
   ·exact grownCap_le_maxLen w s.size 0 5 (by simp only[maxLen]; omega)
   ·have:=grownCap_ge w s.size 0 5;simp only[Cf,Hv,strCells_length,size_zeroCells];simp[Value.cells]; omega
   ·rw[hx,D,J,iY];simp only[Array.toList_append];rw[Oo (by simp[strCells_length]),iU (by simp[strCells_length])];rfl
   ·simp_all
   ·simp[blk]at h; omega
 ·have hrl:r<w.heap.size:=(Ob.1 h1).1;by_cases Z:x.size+s.size<=cap
  ·have G:=run_append_room_string (P:=Proofs.Tryz.prog) w 175 9 175 5 i ht M hi hs r x.size cap cur h1 s Z (by omega);refine⟨_,_,_,_,G,.inr ⟨r,cap,_,by rw[D],setRow_heap w r cur _ 5 _ h1,by omega,h3,?_,?_⟩,fun k hk hne=>setRow_other w r k _ (fun e=>hne (by rw[e]; rfl)),by simp,rfl,rfl,rfl,fun k h=>.inl h⟩
   ·simp only[Hv,dR,dU,vN,strCells_length,rD]; omega
   ·rw[D,wP,hsc,h5];have hl1:(iF x++iF s).length=x.size+s.size:=by simp[wS]
    rw[Oo (by omega),iU (by omega)]
  ·have Q:(cur.toList.take x.size).length=x.size*i.size:=by grind
   have G:=run_append_grow_string (P:=Proofs.Tryz.prog) w 175 9 175 5 i _ ht M hi hz ⟨r,0,none⟩ x.size cap (cur.toList.take x.size) Q (fun k u hu=>by
    rw[Addr.add_none,iY];rw[tC]at hu;split at hu
    ·simpa[World.cell?,h1] using hu
    ·cases hu) s (by omega) (by omega) (growslice_fits (by omega) (by simp_all))
   refine⟨_,_,_,_,G,.inr ⟨_,_,_,by rw[D]; rfl,heap_alloc_new w.drew _,?_,?_,?_,?_⟩,fun k hk _=>heap_alloc_old w.drew _ hk,?_,rfl,rfl,rfl,fun k h=>?_⟩
   ·rw[D]; exact grownCap_ge w (x.size+s.size) cap 5
   ·exact grownCap_le_maxLen w (x.size+s.size) cap 5 (by simp only[maxLen]; omega)
   ·have:=grownCap_ge w (x.size+s.size) cap 5;rw[hs,Nat.mul_one]at Q;simp only[Cf,Hv,Q,strCells_length,size_zeroCells];simp[Value.cells]; omega
   ·rw[D,wP,hsc,h5];have hl1:(iF x++iF s).length=x.size+s.size:=by simp[wS]
    simp only[Array.toList_append];rw[Oo (by omega),iU (by omega)]
   ·simp_all
   ·simp[blk]at h; omega
theorem aLR(x s:ByteArray):eT Proofs.Tryz.prog 167 [.ptr 30000 0,.t (.str s)] [(30000,.bld 177 5 x)] [30000] (if x.size+s.size<=140737488355328 then some () else none)
  (fun _:Unit=>.tup [.t (.int .i64 s.size),.lit .nilIface]) (fun _=>[(30000,.bld 177 5 (x++s))]):=by
 refine⟨bM Proofs.Tryz.func167 (by rfl),fun y hy=>?_⟩;split at hy
 case isFalse=>cases hy
 rename_i hC;intro F g w vs hs hv hH hF hgl;have D:(30000,bA.bld 177 5 x)∈([(30000,.bld 177 5 x)]:Hp):=cZ.2 rfl;obtain⟨b,p,v,h1,h2,h3,h4⟩:=hH.obj 30000 _ D;have hs2:vs.size=2:=hs;have hv0:=hv 0 _ (vs[0]'(by omega)) rfl (by simp[hs2]);have hv1:=hv 1 _ (vs[1]'(by omega)) rfl (by simp[hs2]);have hvs:vs=#[.pointer (some ⟨b,0,none⟩),.string s]:=by
  have e0:vs[0]'(by omega) = .pointer (some ⟨b,0,none⟩):=by
   generalize vs[0]'(by omega)=u at hv0;cases hv0 with
   | ptr hg=>simp_all
  have e1:vs[1]'(by omega) = .string s:=hv1.inv_str;grind
 subst hvs;have hblt:b<w.heap.size:=(Ob.1 h2).1;have rowb:aON w v x:=by
  rcases h4 with h4 | ⟨r,cap,cur,k1,k2,k3,k4⟩
  ·exact .inl h4
  ·exact .inr ⟨r,cap,cur,k1,k2,k4⟩
 have hvb:blk v≠some b:=by
  rcases h4 with⟨rfl,_⟩ | ⟨r,cap,cur,rfl,k2,k3,k4⟩
  ·simp[blk]
  ·simp[blk]; exact k3
 obtain⟨Z,c1,c2,c3,c4,c5,c6,c7⟩:∃ Z,(Calls Proofs.Tryz.prog 222 #[.pointer (some ⟨b,0,none⟩)] w fun e w'=>e = .returned (.tuple #[])/\w'=Z)/\Z.heap[b]? = some (.cells #[.pointer (some ⟨b,0,none⟩),v] 177 (0,0)) /\
   (∀ k,k≠b->Z.heap[k]? = w.heap[k]?)/\Z.heap.size=w.heap.size/\Z.os=w.os/\Z.tape=w.tape/\Z.output=w.output:=by
  rcases h3 with rfl | rfl
  ·refine⟨_,Proofs.Tryz.copyCheck_fresh b w (by rw[Lib.cell_of_heap h2]; rfl) (by simp[World.shape?,h2]) (Lib.frozen_of_heap h2 0),?_,fun k hk=>jF w b 0 k _ hk,zG ..,rfl,rfl,rfl⟩;rw[qV w b 0 _ _ _ _ h2 (by decide)];rfl
  ·exact⟨w,Proofs.Tryz.copyCheck_used b w (by rw[Lib.cell_of_heap h2]; rfl),h2,fun _ _=>rfl,rfl,rfl,rfl,rfl⟩
 have rowb1:aON Z v x:=by
  rcases rowb with h | ⟨r,cap,cur,k1,k2,k3⟩
  ·exact .inl h
  ·refine .inr ⟨r,cap,cur,k1,?_,k3⟩;grind
 obtain⟨ao,n',G,Q,d1,d2,d3,d4,d5,d6,d7,d8⟩:=Wt x s Z v rowb1 hC;have hb2:Q.heap[b]? = some (.cells #[.pointer (some ⟨b,0,none⟩),v] 177 (0,0)):=by simp_all
 have hv'b:blk (.slice ao n' G)≠some b:=fun e=>by grind
 refine(Proofs.Tryz.WriteString_ex b v ao n' G s w Z Q c1 c2 d1 hb2).mono ?_;rintro e w' ⟨rfl,rfl⟩;have hold:∀ k,k<w.heap.size->k≠b->blk v≠some k->(Q.setCell ⟨b,1,none⟩ (.slice ao n' G)).heap[k]? = w.heap[k]?:=fun k hk hkb hkv=>by rw[jF Q b 1 k _ hkb,d3 k (by omega) hkv,c3 k hkb]
 have hbld:bFQ (Q.setCell ⟨b,1,none⟩ (.slice ao n' G)) (g 30000) 177 5 (x++s):=by
  refine⟨b,.pointer (some ⟨b,0,none⟩),.slice ao n' G,h1,?_,.inr rfl,?_⟩
  ·rw[qV Q b 1 _ _ _ _ hb2 (by decide)]; rfl
  ·rcases d2 with h | ⟨r,cap,cur,k1,k2,k3⟩
   ·exact .inl h
   ·have hrb:r≠b:=fun e=>hv'b (by simp_all);exact .inr ⟨r,cap,cur,k1,by rw[jF Q b 1 r _ hrb]; exact k2,hrb,k3⟩
 have hfoot:∀ q,bC g (Q.setCell ⟨b,1,none⟩ (.slice ao n' G)) 30000 (.bld 177 5 (x++s)) q->q=b\/blk (.slice ao n' G)=some q:=by
  intro q J;cases J with
  | self h=>rw[h1]at h; simp[blk]at h; omega
  | bld k1 k2 k3=>rw[h1]at k1; injection k1 with k1; injection k1 with k1; injection k1 with k1; subst k1;rw[qV Q b 1 _ _ _ _ hb2 (by decide)]at k2;simp_all
 have hown:∀ q,blk v=some q->bC g w 30000 (.bld 177 5 x) q:=fun q J=>.bld h1 h2 J;have M:bC g w 30000 (.bld 177 5 x) b:=.self (by rw[h1]; rfl);refine⟨_,_,_,F,g,rfl,⟨rfl,rfl⟩,.tup rfl fun j q u J hu=>?_,⟨⟨fun o q J=>?_,fun o q c J hc=>?_,fun o q o' q' c J hq' hne=>?_⟩,fun b h=>h,fun c hc=>⟨?_,.inl hc⟩,⟨?_,?_,?_,?_,fun c hc hn=>?_⟩,fun _ _=>rfl,?_⟩⟩
 ·match j,J,hu with
  | 0,J,hu=>simp at J hu; subst J; subst hu; exact .t (.int _ _)
  | 1,J,hu=>simp at J hu; subst J; subst hu; exact .lit rfl
  | j+2,J,_=>simp at J
 ·cases cZ.1 J; exact hbld
 ·cases cZ.1 J;rcases hfoot c hc with rfl | h
  ·exact⟨(hH.own _ _ _ D M).1,.inl ⟨_,_,D,M⟩⟩
  ·rcases d8 c h with h | h
   ·exact⟨(hH.own _ _ _ D (hown c h)).1,.inl ⟨_,_,D,hown c h⟩⟩
   grind
 ·simp_all
 ·rw[zG]; grind
 ·show Q.os=w.os; rw[d5,c5]
 ·show Q.tape=w.tape; rw[d6,c6]
 ·show Q.output=w.output; rw[d7,c7]
 ·simp_all
 ·exact hold c hc (fun e=>hn ⟨_,_,D,e▸M⟩) (fun e=>hn ⟨_,_,D,hown c e⟩)
 ·rintro c ⟨o,q,k1,k2⟩;exact k2.block (hH.obj o q k1)
end Go.PL
namespace Go.Proofs
open Go.Shelf
def Tryz.lays106_ren:Go.Shelf.Ren:=⟨fun | 106=>240 | 213=>280 | 265=>301 | n=>n,fun | 9=>9 | 3=>3 | n=>n,fun | n=>n⟩
theorem Tryz.lays106:Go.Proofs.Lays.n106 Tryz.prog Tryz.lays106_ren:={
 mixed:=by kernel_rfl
 f106:=Tryz.func240.trans (congrArg some (by kernel_rfl))
 f213:=Tryz.func280.trans (congrArg some (by kernel_rfl))
 f265:=Tryz.func301.trans (congrArg some (by kernel_rfl))
 t3:=Tryz.underlying3
 a3:=Tryz.isAgg3
 z3:=Tryz.sizeOf3
 v3:=Tryz.zeroValue3
 t9:=Tryz.underlying9
 a9:=Tryz.isAgg9
 z9:=Tryz.sizeOf9
 v9:=Tryz.zeroValue9 }
open Go.RowKit in
theorem Tryz.strings_Compare(a b:ByteArray)(w:World):
  Calls Tryz.prog 240 #[.string a,.string b] w fun e w'=>e = .returned (.int .i64 (Lib.compareBytes a.data.toList b.data.toList))/\w'=w:=Any.strings_Compare Tryz.lays106 a b w
open Go.RowKit in
def Tryz.laysM171_ren:Go.Shelf.Ren:=⟨fun | 171=>166 | 243=>221 | 246=>275 | 283=>295 | 284=>296 | 285=>297 | 286=>298 | 129=>312 | 317=>321 | 318=>322 | 319=>323 | 320=>324 | 337=>344 | 338=>345 | n=>n,fun | 3=>3 | 9=>9 | 2=>2 | 4=>4 | 171=>288 | 0=>0 | 53=>269 | 37=>175 | 5=>5 | 173=>291 | 212=>311 | 51=>266 | 20=>20 | 213=>312 | 46=>232 | 232=>338 | 233=>339 | n=>n,fun | 17=>1 | 18=>4 | 19=>5 | n=>n⟩
theorem Tryz.laysM171:Go.Proofs.LaysM.n171 Tryz.prog Tryz.laysM171_ren:={
 mixed:=by kernel_rfl
 f129:=Tryz.func312.trans (congrArg some (by kernel_rfl))
 f171:=Tryz.func166.trans (congrArg some (by kernel_rfl))
 f243:=Tryz.func221.trans (congrArg some (by kernel_rfl))
 f246:=Tryz.func275.trans (congrArg some (by kernel_rfl))
 f283:=Tryz.func295.trans (congrArg some (by kernel_rfl))
 f284:=Tryz.func296.trans (congrArg some (by kernel_rfl))
 f285:=Tryz.func297.trans (congrArg some (by kernel_rfl))
 f286:=Tryz.func298.trans (congrArg some (by kernel_rfl))
 f317:=Tryz.func321.trans (congrArg some (by kernel_rfl))
 f318:=Tryz.func322.trans (congrArg some (by kernel_rfl))
 f319:=Tryz.func323.trans (congrArg some (by kernel_rfl))
 f320:=Tryz.func324.trans (congrArg some (by kernel_rfl))
 f337:=Tryz.func344.trans (congrArg some (by kernel_rfl))
 f338:=Tryz.func345.trans (congrArg some (by kernel_rfl))
 t0:=Tryz.underlying0
 a0:=Tryz.isAgg0
 z0:=Tryz.sizeOf0
 v0:=Tryz.zeroValue0
 t2:=Tryz.underlying2
 a2:=Tryz.isAgg2
 z2:=Tryz.sizeOf2
 v2:=Tryz.zeroValue2
 t3:=Tryz.underlying3
 a3:=Tryz.isAgg3
 z3:=Tryz.sizeOf3
 v3:=Tryz.zeroValue3
 t4:=Tryz.underlying4
 a4:=Tryz.isAgg4
 z4:=Tryz.sizeOf4
 v4:=Tryz.zeroValue4
 t5:=Tryz.underlying5
 a5:=Tryz.isAgg5
 z5:=Tryz.sizeOf5
 v5:=Tryz.zeroValue5
 t9:=Tryz.underlying9
 a9:=Tryz.isAgg9
 z9:=Tryz.sizeOf9
 v9:=Tryz.zeroValue9
 t20:=Tryz.underlying20
 a20:=Tryz.isAgg20
 z20:=Tryz.sizeOf20
 v20:=Tryz.zeroValue20
 t37:=Tryz.underlying175
 a37:=Tryz.isAgg175
 z37:=Tryz.sizeOf175
 v37:=Tryz.zeroValue175
 t46:=Tryz.underlying232
 a46:=Tryz.isAgg232
 z46:=Tryz.sizeOf232
 v46:=Tryz.zeroValue232
 t51:=Tryz.underlying266
 a51:=Tryz.isAgg266
 z51:=Tryz.sizeOf266
 v51:=Tryz.zeroValue266
 t53:=Tryz.underlying269
 a53:=Tryz.isAgg269
 z53:=Tryz.sizeOf269
 v53:=Tryz.zeroValue269
 t171:=Tryz.underlying288
 a171:=Tryz.isAgg288
 z171:=Tryz.sizeOf288
 v171:=Tryz.zeroValue288
 t173:=Tryz.underlying291
 a173:=Tryz.isAgg291
 z173:=Tryz.sizeOf291
 v173:=Tryz.zeroValue291
 t212:=Tryz.underlying311
 a212:=Tryz.isAgg311
 z212:=Tryz.sizeOf311
 v212:=Tryz.zeroValue311
 t213:=Tryz.underlying312
 a213:=Tryz.isAgg312
 z213:=Tryz.sizeOf312
 t232:=Tryz.underlying338
 a232:=Tryz.isAgg338
 z232:=Tryz.sizeOf338
 v232:=Tryz.zeroValue338
 t233:=Tryz.underlying339
 a233:=Tryz.isAgg339
 z233:=Tryz.sizeOf339
 v233:=Tryz.zeroValue339
 g17:=by kernel_rfl
 g18:=by kernel_rfl
 g19:=by kernel_rfl
 i0:=by kernel_rfl
 i2:=by kernel_rfl
 i3:=by kernel_rfl
 i4:=by kernel_rfl
 i5:=by kernel_rfl
 i9:=by kernel_rfl
 i20:=by kernel_rfl
 i37:=by kernel_rfl
 i46:=by kernel_rfl
 i51:=by kernel_rfl
 i53:=by kernel_rfl
 i171:=by kernel_rfl
 i173:=by kernel_rfl
 i212:=by kernel_rfl
 i232:=by kernel_rfl
 i233:=by kernel_rfl
 m17:=by kernel_rfl
 m18:=by kernel_rfl
 m19:=by kernel_rfl }
open Go.RowKit Go.Sort Go.Lib in
theorem Tryz.strconv_Itoa(n:Int)(h0:-9223372036854775808<=n)(h1:n<=9223372036854775807)(w:World)(htab:Lib.TabIs Tryz.prog w "internal/strconv.uint64pow10" .u64 Lib.pow10Tab):
  Calls Tryz.prog 166 #[.int .i64 n] w fun e w'=>e = .returned (.string ⟨(Lib.itoa n).toArray⟩)/\∃ k os,w'=grow (w.drewN k) os:=Any.strconv_Itoa Tryz.laysM171 n h0 h1 w htab
end Go.Proofs
namespace Go.PL
open Go
theorem hv1{F:Nat->Prop}{g:Nat->Value}{w:World}{vs:Array Value}{p:PV}{u:Value}(hs:vs.size=[p].length)(hv:∀ (j:Nat) x v,[p][j]? = some x->vs[j]? = some v->VR F g w x v)(D:∀ v,VR F g w p v->v=u):vs=#[u]:=by
 have h1:vs.size=1:=hs;have G:=D _ (hv 0 _ (vs[0]'(by omega)) rfl (by simp[h1]));apply Array.ext
 ·rw[h1]; rfl
 ·intro q J _;have:q=0:=by omega
  subst this;simpa using G
theorem hv2{F:Nat->Prop}{g:Nat->Value}{w:World}{vs:Array Value}{p D:PV}{u u':Value}(hs:vs.size=[p,D].length)(hv:∀ (j:Nat) x v,[p,D][j]? = some x->vs[j]? = some v->VR F g w x v)(M:∀ v,VR F g w p v->v=u)
  (G:∀ v,VR F g w D v->v=u'):vs=#[u,u']:=by
 have h1:vs.size=2:=hs;have Z:=M _ (hv 0 _ (vs[0]'(by omega)) rfl (by simp[h1]));have Q:=G _ (hv 1 _ (vs[1]'(by omega)) rfl (by simp[h1]));apply Array.ext
 ·rw[h1]; rfl
 ·intro q J _
  match q,J with
  | 0,_=>simpa using Z
  | 1,_=>simpa using Q
  | q+2,J=>omega
def bEQ(a0 a1:ByteArray):Option Int:=some (Lib.compareBytes a0.data.toList a1.data.toList)
theorem aQR(G D:ByteArray):Con Proofs.Tryz.prog 240 [.t (.str G),.t (.str D)] (bEQ G D) (fun (y:Int)=>.t (.int .i64 y)):=by refine⟨bM Proofs.Tryz.func240 (by kernel_rfl),fun y hy=>?_⟩;cases hy;intro F g w vs hs hv hH hF M;have J:=hv2 hs hv (u:=.string G) (u':=.string D) (fun v h=>h.inv_str) (fun v h=>h.inv_str);subst J;refine(Proofs.Tryz.strings_Compare G D w).mono ?_;rintro e Q ⟨rfl,rfl⟩;exact⟨_,_,[],F,g,rfl,rfl,.t (.int _ _),Aj hH hF rfl rfl rfl (cM _) (fun _ _ _=>rfl)⟩
def aJZ(a0:Int):Option ByteArray:=if -9223372036854775808<=a0/\a0<=9223372036854775807 then some ⟨(Lib.itoa a0).toArray⟩ else none
theorem Yk(G:Int):Con Proofs.Tryz.prog 166 [.t (.int .i64 G)] (aJZ G) (fun (y:ByteArray)=>.t (.str y)):=by
 refine⟨bM Proofs.Tryz.func166 (by kernel_rfl),fun y hy=>?_⟩;unfold aJZ at hy;split at hy
 case isFalse=>cases hy
 rename_i hr;cases hy;intro F g w vs hs hv hH hF M;have J:=hv1 hs hv (u:=.int .i64 G) (fun v h=>h.inv_int);subst J;have D:∃ b,Proofs.Tryz.prog.globalNamed Vo=some b:=Cc.1 (by kernel_rfl);obtain⟨b,hb⟩:=D;refine(Proofs.Tryz.strconv_Itoa G hr.1 hr.2 w (M.tab b hb).1).mono ?_;rintro e Z ⟨rfl,k,os,rfl⟩;refine⟨_,_,[],F,g,rfl,rfl,.t (.str _),Aj hH hF rfl rfl rfl ?_ (fun q Q _=>?_)⟩
 ·show w.heap.size<=(w.heap++os).size;rw[Cf]; exact Nat.le_add_right _ _
 ·show (w.heap++os)[q]? = w.heap[q]?;exact aCD Q
end Go.PL
namespace Go.Proofs
open Go.Shelf Go.RowKit
end Go.Proofs
namespace Go.PL
open Go
end Go.PL
namespace Go.Proofs
open Go.RowKit Go.Maps Go.Sort Go.Shelf
def Tryz.keys181_ren:Go.Shelf.Ren:=⟨fun | 7=>181 | 10=>244 | n=>n,fun | 23=>100 | 26=>9 | 3=>37 | 28=>198 | 0=>0 | 27=>197 | 33=>250 | 4=>4 | n=>n,fun n=>n⟩
theorem Tryz.keys181:Go.Proofs.SlLaysZ.n7 Tryz.prog Tryz.keys181_ren:={
 mixed:=by kernel_rfl
 f7:=⟨Tryz.f181.name,by kernel_rfl,Tryz.func181.trans (congrArg some (by kernel_rfl))⟩
 f10:=⟨Tryz.f244.name,by kernel_rfl,Tryz.func244.trans (congrArg some (by kernel_rfl))⟩
 t0:=Tryz.underlying0
 a0:=Tryz.isAgg0
 z0:=Tryz.sizeOf0
 v0:=Tryz.zeroValue0
 t4:=Tryz.underlying4
 a4:=Tryz.isAgg4
 z4:=Tryz.sizeOf4
 v4:=Tryz.zeroValue4
 t23:=Tryz.underlying100
 a23:=Tryz.isAgg100
 z23:=Tryz.sizeOf100
 v23:=Tryz.zeroValue100
 t26:=Tryz.underlying9
 a26:=Tryz.isAgg9
 z26:=Tryz.sizeOf9
 v26:=Tryz.zeroValue9
 t27:=Tryz.underlying197
 a27:=Tryz.isAgg197
 z27:=Tryz.sizeOf197
 v27:=Tryz.zeroValue197
 t28:=Tryz.underlying198
 a28:=Tryz.isAgg198
 z28:=Tryz.sizeOf198
 v28:=Tryz.zeroValue198
 t33:=Tryz.underlying250
 a33:=Tryz.isAgg250
 z33:=Tryz.sizeOf250
 v33:=Tryz.zeroValue250 }
def Tryz.sorted180_ren:Go.Shelf.Ren:=⟨fun | 6=>180 | 8=>242 | 9=>243 | 11=>282 | 13=>284 | 12=>283 | 23=>311 | 24=>312 | 14=>302 | 15=>303 | 16=>304 | 17=>305 | 18=>306 | 19=>307 | 20=>308 | 21=>309 | 22=>310 | 25=>334 | 26=>335 | 27=>336 | 28=>337 | 29=>338 | 30=>339 | 31=>349 | n=>n,fun | 26=>9 | 28=>198 | 24=>195 | 0=>0 | 3=>3 | 37=>232 | 48=>266 | 50=>269 | 4=>4 | 40=>297 | 39=>296 | 45=>131 | 5=>5 | 9=>9 | 51=>319 | 55=>323 | 57=>332 | 58=>35 | 33=>250 | n=>n,fun n=>n⟩
theorem Tryz.sorted180:Go.Proofs.SlLaysZ.n6 Tryz.prog Tryz.sorted180_ren:={
 mixed:=by kernel_rfl
 f6:=⟨Tryz.f180.name,by kernel_rfl,Tryz.func180.trans (congrArg some (by kernel_rfl))⟩
 f8:=⟨Tryz.f242.name,by kernel_rfl,Tryz.func242.trans (congrArg some (by kernel_rfl))⟩
 f11:=⟨Tryz.f282.name,by kernel_rfl,Tryz.func282.trans (congrArg some (by kernel_rfl))⟩
 t0:=Tryz.underlying0
 a0:=Tryz.isAgg0
 z0:=Tryz.sizeOf0
 v0:=Tryz.zeroValue0
 t24:=Tryz.underlying195
 a24:=Tryz.isAgg195
 z24:=Tryz.sizeOf195
 v24:=Tryz.zeroValue195
 t26:=Tryz.underlying9
 a26:=Tryz.isAgg9
 z26:=Tryz.sizeOf9
 v26:=Tryz.zeroValue9
 t28:=Tryz.underlying198
 a28:=Tryz.isAgg198
 z28:=Tryz.sizeOf198
 v28:=Tryz.zeroValue198
 i26:=by kernel_rfl }
def Tryz.sort243_ren:Go.Shelf.Ren:=⟨fun | 6=>243 | 8=>284 | 9=>283 | 19=>311 | 20=>312 | 21=>302 | 22=>303 | 23=>304 | 24=>305 | 25=>306 | 26=>307 | 27=>308 | 28=>309 | 29=>310 | 36=>334 | 31=>335 | 32=>336 | 37=>337 | 38=>338 | 39=>339 | 41=>349 | n=>n,fun | 27=>195 | 29=>9 | 3=>3 | 32=>232 | 26=>195 | 0=>0 | 44=>266 | 46=>269 | 4=>4 | 36=>297 | 35=>296 | 41=>131 | 5=>5 | 9=>9 | 53=>319 | 57=>323 | 63=>332 | 64=>35 | n=>n,fun n=>n⟩
theorem Tryz.sort243:Go.Proofs.SlLaysM.n6 Tryz.prog Tryz.sort243_ren:={
 mixed:=by kernel_rfl
 f6:=⟨Tryz.f243.name,by kernel_rfl,Tryz.func243.trans (congrArg some (by kernel_rfl))⟩
 f8:=Tryz.func284.trans (congrArg some (by kernel_rfl))
 f9:=⟨Tryz.f283.name,by kernel_rfl,Tryz.func283.trans (congrArg some (by kernel_rfl))⟩
 f19:=Tryz.func311.trans (congrArg some (by kernel_rfl))
 f20:=Tryz.func312.trans (congrArg some (by kernel_rfl))
 f21:=⟨Tryz.f302.name,by kernel_rfl,Tryz.func302.trans (congrArg some (by kernel_rfl))⟩
 f22:=⟨Tryz.f303.name,by kernel_rfl,Tryz.func303.trans (congrArg some (by kernel_rfl))⟩
 f23:=⟨Tryz.f304.name,by kernel_rfl,Tryz.func304.trans (congrArg some (by kernel_rfl))⟩
 f24:=⟨Tryz.f305.name,by kernel_rfl,Tryz.func305.trans (congrArg some (by kernel_rfl))⟩
 f25:=⟨Tryz.f306.name,by kernel_rfl,Tryz.func306.trans (congrArg some (by kernel_rfl))⟩
 f26:=⟨Tryz.f307.name,by kernel_rfl,Tryz.func307.trans (congrArg some (by kernel_rfl))⟩
 f27:=⟨Tryz.f308.name,by kernel_rfl,Tryz.func308.trans (congrArg some (by kernel_rfl))⟩
 f28:=⟨Tryz.f309.name,by kernel_rfl,Tryz.func309.trans (congrArg some (by kernel_rfl))⟩
 f29:=⟨Tryz.f310.name,by kernel_rfl,Tryz.func310.trans (congrArg some (by kernel_rfl))⟩
 f31:=Tryz.func335.trans (congrArg some (by kernel_rfl))
 f32:=Tryz.func336.trans (congrArg some (by kernel_rfl))
 f36:=⟨Tryz.f334.name,by kernel_rfl,Tryz.func334.trans (congrArg some (by kernel_rfl))⟩
 f37:=⟨Tryz.f337.name,by kernel_rfl,Tryz.func337.trans (congrArg some (by kernel_rfl))⟩
 f38:=⟨Tryz.f338.name,by kernel_rfl,Tryz.func338.trans (congrArg some (by kernel_rfl))⟩
 f39:=⟨Tryz.f339.name,by kernel_rfl,Tryz.func339.trans (congrArg some (by kernel_rfl))⟩
 f41:=⟨Tryz.f349.name,by kernel_rfl,Tryz.func349.trans (congrArg some (by kernel_rfl))⟩
 t0:=Tryz.underlying0
 a0:=Tryz.isAgg0
 z0:=Tryz.sizeOf0
 v0:=Tryz.zeroValue0
 t3:=Tryz.underlying3
 a3:=Tryz.isAgg3
 z3:=Tryz.sizeOf3
 v3:=Tryz.zeroValue3
 t4:=Tryz.underlying4
 a4:=Tryz.isAgg4
 z4:=Tryz.sizeOf4
 v4:=Tryz.zeroValue4
 t5:=Tryz.underlying5
 a5:=Tryz.isAgg5
 z5:=Tryz.sizeOf5
 v5:=Tryz.zeroValue5
 t9:=Tryz.underlying9
 a9:=Tryz.isAgg9
 z9:=Tryz.sizeOf9
 v9:=Tryz.zeroValue9
 t26:=Tryz.underlying195
 a26:=Tryz.isAgg195
 z26:=Tryz.sizeOf195
 v26:=Tryz.zeroValue195
 t27:=Tryz.underlying195
 a27:=Tryz.isAgg195
 z27:=Tryz.sizeOf195
 v27:=Tryz.zeroValue195
 t29:=Tryz.underlying9
 a29:=Tryz.isAgg9
 z29:=Tryz.sizeOf9
 v29:=Tryz.zeroValue9
 t32:=Tryz.underlying232
 a32:=Tryz.isAgg232
 z32:=Tryz.sizeOf232
 v32:=Tryz.zeroValue232
 t35:=Tryz.underlying296
 a35:=Tryz.isAgg296
 z35:=Tryz.sizeOf296
 v35:=Tryz.zeroValue296
 t36:=Tryz.underlying297
 a36:=Tryz.isAgg297
 z36:=Tryz.sizeOf297
 v36:=Tryz.zeroValue297
 t41:=Tryz.underlying131
 a41:=Tryz.isAgg131
 z41:=Tryz.sizeOf131
 v41:=Tryz.zeroValue131
 t44:=Tryz.underlying266
 a44:=Tryz.isAgg266
 z44:=Tryz.sizeOf266
 v44:=Tryz.zeroValue266
 t46:=Tryz.underlying269
 a46:=Tryz.isAgg269
 z46:=Tryz.sizeOf269
 v46:=Tryz.zeroValue269
 t53:=Tryz.underlying319
 a53:=Tryz.isAgg319
 z53:=Tryz.sizeOf319
 v53:=Tryz.zeroValue319
 t57:=Tryz.underlying323
 a57:=Tryz.isAgg323
 z57:=Tryz.sizeOf323
 v57:=Tryz.zeroValue323
 t63:=Tryz.underlying332
 a63:=Tryz.isAgg332
 z63:=Tryz.sizeOf332
 v63:=Tryz.zeroValue332
 t64:=Tryz.underlying35
 a64:=Tryz.isAgg35
 z64:=Tryz.sizeOf35
 v64:=Tryz.zeroValue35 }
theorem Tryz.sorts180(m:Nat):AnyZ.SortsIn Tryz.prog Tryz.sorted180_ren Fence.wide m:=
 ⟨fun blk off cap J W hH D G=>callsIn_wide.2 (AnyM.slices_Sort_string Tryz.sort243 blk off cap J W hH D G),
  fun p cap W=>callsIn_wide.2 (AnyM.slices_Sort_string_none Tryz.sort243 p cap W)⟩
theorem Tryz.maps_Keys_181(D:Option Nat)(W:World):CallsIn Fence.wide 5 Tryz.prog 181 #[.map D] W fun e w'=>e = .returned (.func (.func 244) #[] #[.pointer (some ⟨W.heap.size,0,none⟩)])/\w'=W.alloc (.cells #[.map D] 100):=
 AnyZ.keys_in Tryz.keys181 Fence.wide 5 trivial rfl D W
theorem Tryz.sorted_keys{H:Type}(M b nn:Nat)(G:DataW H)(R:Value->Option (DataW H×List MemPlace))(w:World)(hBm:M<w.heap.size)(hm:w.cell? ⟨M,0,none⟩=some (.map (some b)))(Z:w.ownsMap Tryz.prog 9 R b nn G)(hmax:Maps.size G<=maxLen)(D:Maps.size G*16<=140737488355328):
  CallsIn Fence.wide 5 Tryz.prog 180 #[.func (.func 244) #[] #[.pointer (some ⟨M,0,none⟩)]] w fun e w'=>∃ (v:Value) (J:List (List UInt8)),e = .returned v/\J.Perm (strKeys G) /\
   w'.ownsRow w.heap.size 9 1 v J.length ((J.mergeSort (fun x y=>decide (x<=y))).map encStr)/\(v = .slice none 0 0↔J=[])/\Below w.heap.size w w':=by
 have Q:SeqGives Fence.wide 2 Tryz.prog 244 #[.pointer (some ⟨M,0,none⟩)] encStr (fun J=>J.Perm (strKeys G)) (Maps.size G) w:=
  AnyZ.keys_gives (ρ:=Tryz.keys181_ren) { Tryz.keys181 with } Fence.wide _ trivial rfl (by omega) M b nn G w hBm hm Z
 exact AnyZ.sorted_in Tryz.sorted180 Fence.wide 5 trivial trivial trivial trivial rfl (by omega) (Tryz.sorts180 _) (enters_of Tryz.func243 (by rfl) rfl) 244 #[.pointer (some ⟨M,0,none⟩)] trivial (enters_of Tryz.func244 (by rfl) rfl) _ _ hmax D _ Q
end Go.Proofs
namespace Go.PL
open Go
set_option linter.unusedVariables false
def cK(ks:List ByteArray):List ByteArray:=((ks.map fun k=>k.data.toList).mergeSort (fun x y=>decide (x<=y))).map fun l=>⟨l.toArray⟩
def aJW(ks:List ByteArray):Bool:=decide (ks.length<=1000000000000)&&ks.all fun k=>decide (k.size<=1000000000000)
theorem aGG{s:ByteArray}{v:Value}(h:KeyR (.str s) v):v = .string s:=by cases h; rfl
def bytesOf:Value->List UInt8
 | .string s=>s.data.toList
 | _=>[]
theorem Rx{V:Type}{F:Nat->Prop}{w:World}{enc:V->Mem}:∀ {v:List (ByteArray×V)} {l:List MapEntry},mV (aOI F w) (eM enc v) l->l.map (fun e=>bytesOf e.key)=(aY v).map (fun k=>k.data.toList)/\∀ e,e∈l->∃ k,k∈aY v/\e.key = .string k
 | [],l,h=>by cases h;exact⟨rfl,fun e he=>by simp at he⟩
 | (k,c)::v,l,h=>by
  generalize hm:eM enc ((k,c)::v)=m at h;cases h with
  | nil=>simp[eM]at hm
  | @cons a b la lb hr ht=>
   simp only[eM,fY,List.cons.injEq]at hm;obtain⟨rfl,rfl⟩:=hm;have hk:=aGG hr.1;obtain⟨q1,q2⟩:=Rx (v:=v) (l:=lb) ht;refine⟨?_,fun e he=>?_⟩
   ·simp only[fY,aY]at q1 ⊢;rw[q1,hk]; rfl
   ·rcases bE.1 he with rfl | he
    ·exact⟨k,cS,hk⟩
    ·obtain⟨k',h1,h2⟩:=q2 e he;exact⟨k',cO _ h1,h2⟩
open Go.RowKit Go.Maps Go.Sort Go.Shelf Go.Proofs in
theorem aEW{V:Type}{F:Nat->Prop}{g:Nat->Value}{w:World}{b clock:Nat}{es:Array MapEntry}{enc:V->Mem}{v:List (ByteArray×V)}{l r:List MapEntry}(hb:w.heap[b]? = some (.map es clock))(h:MpR F g w b es clock none (eM enc v) none l r)(hk:aJW (aY v)=true)(Z:(aY v).Nodup):
  ∃ D0:DataW Unit,w.ownsMap Proofs.Tryz.prog 9 (fun _=>some (.nil,[])) b es.size D0/\(strKeys D0).Perm ((aY v).map fun k=>k.data.toList)/\Maps.size D0<=1000000000000:=by
 unfold aJW at hk;rw[cQ,jX,fT]at hk;obtain⟨hlen,M⟩:=hk;have hr:r=[]:=h.hole;subst hr;have hp:=h.perm;rw[eQ]at hp;obtain⟨J,q2⟩:=Rx h.ent;have hes:es.size=(aY v).length:=by have:=congrArg List.length J;rw[dH,dH,hp.length_eq,rD]at this;omega
 have key:∀ e,e∈es.toList->∃ k,k∈aY v/\e.key = .string k:=fun e he=>q2 e (hp.mem_iff.2 he);have G:∀ e,e∈es.toList->WideElems.rd Proofs.Tryz.prog 9 (fun _=>some ((DataW.nil:DataW Unit),[])) e=some (Lit.string (bytesOf e.key),DataW.nil):=fun e he=>by
  obtain⟨k,hk,hke⟩:=key e he;have hs:=fK (M k hk);have e1:keyOf Proofs.Tryz.prog 9 e.key=some (Lit.string (bytesOf e.key)):=by rw[hke];unfold keyOf mapKey;rw[Proofs.Tryz.underlying9];simp only[bytesOf];rw[aA (by simp only[maxLen]; omega)]
  unfold WideElems.rd;rw[e1]; rfl
 have Q:(es.toList.map (·.key)).Nodup:=by
  have h1:(es.toList.map fun e=>bytesOf e.key).Nodup:=by
   have h2:(l.map fun e=>bytesOf e.key).Nodup:=by rw[J];refine At.2 (Z.imp fun {a b} hab e=>hab ?_);cases a; simp_all
   grind
  grind
 have D:(strKeys (DataW.map ((es.toList.map (WideElems.rg Proofs.Tryz.prog 9 (fun _=>some ((DataW.nil:DataW Unit),[])))).foldr DataW.insert []))).Perm ((aY v).map fun k=>k.data.toList):=by
  rw[<-J];unfold strKeys;have h1:=(WideShapes.sorted_perm (es.toList.map (WideElems.rg Proofs.Tryz.prog 9 (fun _=>some ((DataW.nil:DataW Unit),[]))))).map (fun p=>strOf p.1);refine h1.trans ?_;rw[yU];have h2:es.toList.map ((fun p=>strOf p.1) ∘ WideElems.rg Proofs.Tryz.prog 9 (fun _=>some ((DataW.nil:DataW Unit),[])))=es.toList.map fun e=>bytesOf e.key:=by refine List.map_congr_left fun e he=>?_;simp only[Function.comp];rw[WideElems.rg_of (G e he)]; rfl
  grind
 refine⟨_,⟨es,clock,hb,⟨by rw[hes]; simp only[maxLen]; omega,⟨h.old,h.born,Q⟩,fun x hx=>⟨_,G x hx⟩⟩,cM _,rfl⟩,D,?_⟩;have:=length_read (H:=Unit) (P:=Proofs.Tryz.prog) (k:=9) (R0:=fun _=>some (DataW.nil,[])) es;show ((es.toList.map _).foldr DataW.insert []).length<=_;omega
theorem Di{F:Nat->Prop}{g g':Nat->Value}{w w':World}{H:Hp}{N:List Nat}{o':Nat}{x':bA}(hH:HpR F g w (fun _=>True) H)(hF:∀ b,F b->b<w.heap.size)(hb:Go.RowKit.Below w.heap.size w w')
  (hg:∀ o,o≠o'->g' o=g o)(hn:∀ o x,(o,x)∈H->o≠o'/\∀ k,k∈x.names->k≠o')(hN:∀ o,o∈N->o≠o')(hx:dA F g' w' o' x')(hf:∀ b,bC g' w' o' x' b->w.heap.size<=b/\b<w'.heap.size):
  Jj { w0:=w,F0:=F,B0:=Own g w H,g0:=g,N:=N,nt:=0 } F g' (H++[(o',x')]) w':=by
 have same:∀ b,b<w.heap.size->w'.heap[b]? = w.heap[b]?:=hb.block;have old:∀ o x,(o,x)∈H->dA F g' w' o x:=fun o x D=>by obtain⟨h1,h2⟩:=hn o x D;exact(hH.obj o x D).mono (fun b Q=>⟨Q,same b (hF b Q)⟩) (hg o h1) (fun k hk=>hg k (h2 k hk)) (fun b hbf=>same b (hbf.block (hH.obj o x D)))
 have J:∀ o x b,(o,x)∈H->bC g' w' o x b->bC g w o x b:=fun o x b D h=>by obtain⟨h1,h2⟩:=hn o x D;exact h.mono (hg o h1) (fun k hk=>hg k (h2 k hk)) (fun c hc=>same c ((hH.obj o x D).block hc))
 refine⟨⟨fun o x D=>?_,fun o x b D hfb=>?_,fun o x o2 y b D M Z h1 h2=>?_⟩,fun b h=>h,fun b h=>⟨Cl (hF b h) hb.size,.inl h⟩,⟨hb.os,hb.tape,hb.output,hb.size,fun b h _=>same b h⟩,fun o ho=>hg o (hN o ho),fun b ⟨o,x,D,hfo⟩=>hfo.block (hH.obj o x D)⟩
 ·grind
 ·rcases dW.1 D with h | h
  ·have h3:=J o x b h hfb;exact⟨(hH.own o x b h h3).1,.inl ⟨o,x,h,h3⟩⟩
  grind
 ·rcases dW.1 D with h | h
  ·rcases dW.1 M with G | G
   ·exact hH.sep o x o2 y b h G Z (J o x b h h1) (J o2 y b G h2)
   ·cases cZ.1 G;have h3:=(J o x b h h1).block (hH.obj o x h);grind
  ·cases cZ.1 h;rcases dW.1 M with G | G
   ·have h3:=(J o2 y b G h2).block (hH.obj o2 y G);grind
   simp_all
theorem aHS{V:Type}(enc:V->Mem)(v:List (ByteArray×V)):eT Proofs.Tryz.prog 181 [.map 30000] [(30000,.mp none (eM enc v) none)] [30000] (some ()) (fun _:Unit=>.fn (.func 244) 0 [.ptr 40000 0])
  (fun _=>[(30000,.mp none (eM enc v) none),(40000,.box [.map 30000])]):=by
 refine⟨bM Proofs.Tryz.func181 (by rfl),fun y hy=>?_⟩;intro F g w vs hs hv hH hF hgl;have Z:vs.size=1:=hs;have M:=hv 0 _ (vs[0]'(by omega)) rfl (by simp[Z]);obtain⟨b,e0,hgb⟩:∃ b,vs[0]'(by omega) = .map (some b)/\g 30000 = .map (some b):=by
  generalize vs[0]'(by omega)=u at M;cases M with
  | map h=>simp_all
 have Q:vs=#[.map (some b)]:=by grind
 subst Q;refine((callsIn_wide (n:=5)).1 (Proofs.Tryz.maps_Keys_181 (some b) w)).mono ?_;rintro e w' ⟨rfl,rfl⟩;have hlt:(w.alloc (.cells #[.map (some b)] 100)).heap.size=w.heap.size+1:=by simp
 have hbl:Go.RowKit.Below w.heap.size w (w.alloc (.cells #[.map (some b)] 100)):=(Go.RowKit.Below.refl _ w).alloc (cM _) _;have J:(w.alloc (.cells #[.map (some b)] 100)).heap[w.heap.size]? = some (.cells #[.map (some b)] 100 (0,0)):=by rw[show (w.alloc (.cells #[.map (some b)] 100)).heap=w.heap.push (.cells #[.map (some b)] 100) from rfl]; simp
 refine⟨_,_,_,F,upd g 40000 (.pointer (some ⟨w.heap.size,0,none⟩)),rfl,⟨rfl,rfl⟩,?_,Di hH hF hbl (fun o ho=>by simp[upd,ho]) (fun o x h=>?_) (fun o h=>?_) ?_ (fun c hc=>?_)⟩
 ·refine .fn (us:=#[]) rfl rfl fun j x u G D=>?_
  match j,G,D with
  | 0,G,D=>simp at G D;subst G D;exact .ptr (by rfl)
 ·cases cZ.1 h;exact⟨by decide,fun k hk=>by simp[bA.names,itN,hoN]at hk⟩
 ·simp_all
 ·refine⟨w.heap.size,_,_,by rfl,J,rfl,fun j x u G D=>?_⟩
  match j,G,D with
  | 0,G,D=>simp at G D;subst G D;exact .map (by simp[upd,hgb])
 ·have:=hc.toBlk rfl;simp[upd,blk]at this;omega
theorem kI(ks:List ByteArray):(cK ks).length=ks.length:=by unfold cK;rw[dH,List.length_mergeSort,dH]
theorem Hb{V:Type}{enc:V->Mem}:∀ {v:List (ByteArray×V)},((eM enc v).map (·.1)).Nodup->(aY v).Nodup
 | [],_=>List.nodup_nil
 | (k,c)::v,h=>by simp only[eM,fY]at h;have h':=xE.1 h;refine xE.2 ⟨fun hk=>h'.1 ?_,Hb h'.2⟩;grind
theorem aFI{V:Type}(enc:V->Mem)(v:List (ByteArray×V)):eT Proofs.Tryz.prog 180 [.fn (.func 244) 0 [.ptr 30001 0]] [(30000,.mp none (eM enc v) none),(30001,.box [.map 30000])] [30000,30001] (if aJW (aY v)=true then some (cK (aY v)) else none) (fun _:List ByteArray=>.own 40000)
  (fun ks=>[(30000,.mp none (eM enc v) none),(30001,.box [.map 30000]),(40000,.arr 9 1 ks.length (eF Jl ks))]):=by
 refine⟨bM Proofs.Tryz.func180 (by rfl),fun y hy=>?_⟩;split at hy
 case isFalse=>cases hy
 rename_i hC;injection hy with hy;subst hy;intro F g w vs hs hv hH hF hgl;have hs1:vs.size=1:=hs;have Q:=hv 0 _ (vs[0]'(by omega)) rfl (by simp[hs1]);obtain⟨D,e0,hgB⟩:∃ D,vs[0]'(by omega) = .func (.func 244) #[] #[.pointer (some ⟨D,0,none⟩)]/\g 30001 = .pointer (some ⟨D,0,none⟩):=by
  generalize vs[0]'(by omega)=u at Q;cases Q with
  | @fn f n cs us ws hn hs hr=>
   have hu:us=#[]:=Cp hn;subst hu;have hw:ws.size=1:=by simp_all
   obtain⟨z,rfl⟩:=Tl.1 hw;have h0:=hr 0 _ z rfl (by simp);cases h0 with
   | ptr h=>simp_all
 have hvs:vs=#[.func (.func 244) #[] #[.pointer (some ⟨D,0,none⟩)]]:=by grind
 subst hvs;obtain⟨b1,M,ty1,k1,k2,k3,k4⟩:Cw F g w (g 30001) [.map 30000]:=hH.obj 30001 (.box [.map 30000]) (by simp);rw[hgB]at k1;injection k1 with k1;injection k1 with k1;injection k1 with k1 _ _;subst k1;obtain⟨b,es,clock,m1,m2,l,r,hM⟩:∃ b es clock,g 30000 = .map (some b)/\w.heap[b]? = some (.map es clock)/\∃ l r,MpR F g w b es clock none (eM enc v) none l r:=hH.obj 30000 (.mp none (eM enc v) none) (by simp);have hv1:M=#[.map (some b)]:=by
  obtain⟨z,rfl⟩:=Tl.1 (show M.size=1 from k3);have h0:=k4 0 _ z rfl (by simp);cases h0 with
  | map h=>simp_all
 subst hv1;have hlB:D<w.heap.size:=(Ob.1 k2).1;have G:w.cell? ⟨D,0,none⟩=some (.map (some b)):=by simp[World.cell?,k2]
 have hnd:(aY v).Nodup:=Hb (enc:=enc) (zH.1 hM.keys).1;obtain⟨D0,hown,hpm,hsz⟩:=aEW m2 hM hC hnd;refine((callsIn_wide (n:=5)).1 (Proofs.Tryz.sorted_keys D b es.size D0 _ w hlB G hown (by simp only[maxLen]; omega) (by omega))).mono ?_;rintro e J ⟨u,ss,rfl,Z,⟨hrl,hrow⟩,_,hbl⟩;have hms:ss.mergeSort (fun x y=>decide (x<=y))=((aY v).map fun k=>k.data.toList).mergeSort (fun x y=>decide (x<=y)):=mergeSort_of_perm (Z.trans hpm);have hlen:ss.length=(cK (aY v)).length:=by
  rw[kI];have:=(Z.trans hpm).length_eq
  rwa [dH]at this
 have fin:∀ a cap,u = .slice a ss.length cap->qL F J u 9 1 (cK (aY v)).length (eF Jl (cK (aY v)))->(∀ c,blk u=some c->w.heap.size<=c/\c<J.heap.size)->∃ v_1 r H' F' g',Ending.returned u = .returned v_1/\vF (.own 40000) [(30000,.mp none (eM enc v) none),(30001,.box [.map 30000]),(40000,.arr 9 1 (cK (aY v)).length (eF Jl (cK (aY v))))] r H'/\VR F' g' J r v_1 /\
   Jj { w0:=w,F0:=F,B0:=Own g w [(30000,.mp none (eM enc v) none),(30001,.box [.map 30000])],g0:=g,N:=[30000,30001],nt:=0 } F' g' H' J:=fun a cap hu hA hfo=>by
  refine⟨_,_,_,F,upd g 40000 u,rfl,⟨rfl,rfl⟩,?_,Di (g':=upd g 40000 u) (o':=40000) (x':=.arr 9 1 (cK (aY v)).length (eF Jl (cK (aY v)))) hH hF hbl (fun o ho=>by simp[upd,ho]) (fun o x h=>?_) (fun o h=>?_) ?_ (fun c hc=>?_)⟩
  ·rw[hu];exact .own (by rfl)
  ·simp only[bE,List.not_mem_nil,or_false]at h;rcases h with h | h <;> cases h
   ·exact⟨by decide,fun k hk=>by simp[bA.names,itN,hoN]at hk⟩
   ·refine⟨by decide,fun k hk=>?_⟩;simp[bA.names,PV.names.go,PV.names]at hk;omega
  ·simp only[bE,List.not_mem_nil,or_false]at h;rcases h with rfl | rfl <;> decide
  ·show qL F J (upd g 40000 u 40000) 9 1 _ _;rw[show upd g 40000 u 40000=u by rfl];exact hA
  ·have:=hc.toBlk rfl;rw[show upd g 40000 u 40000=u by rfl]at this;simp_all
 rcases hrow with⟨rfl,hz⟩ | ⟨gb,cap,cur,rfl,r1,r2,r3,r4,r5,r6⟩
 ·refine fin none 0 (by rw[hz]) (.inl ⟨rfl,by omega⟩) (fun c hc=>by simp[blk]at hc)
 ·refine fin _ _ rfl (.inr ⟨gb,cap,cur,by rw[hlen],r2,by omega,r4,r5,fun i hi=>rfl,fun i j x hi hx=>?_⟩) (fun c hc=>?_)
  ·match j,hx with
   | 0,hx=>
    simp[eF,Jl]at hx;subst hx;rw[Nat.mul_one]at r6;have hi':i<ss.length:=by omega
    have hi2:i<(((aY v).map fun k=>k.data.toList).mergeSort (fun x y=>decide (x<=y))).length:=by simp_all
    have h1:cur.toList[i]? = some (Proofs.encStr ((((aY v).map fun k=>k.data.toList).mergeSort (fun x y=>decide (x<=y)))[i]'hi2)):=by have h2:=congrArg (fun l:List Value=>l[i]?) r6;grind
    refine⟨Proofs.encStr ((((aY v).map fun k=>k.data.toList).mergeSort (fun x y=>decide (x<=y)))[i]'hi2),?_,?_⟩
    ·simp_all
    ·have h3:(cK (aY v))[i]?.getD default=⟨((((aY v).map fun k:ByteArray=>k.data.toList).mergeSort (fun x y=>decide (x<=y)))[i]'hi2).toArray⟩:=by unfold cK;simp_all
     rw[h3];exact .str _
  ·simp[blk]at hc;grind
end Go.PL
namespace Go.Proofs
open Go.RowKit Go.Maps Go.Sort Go.Shelf
def Tryz.keys239_ren:Go.Shelf.Ren:=⟨fun | 7=>239 | 10=>279 | n=>n,fun | 23=>241 | 26=>3 | 3=>37 | 28=>244 | 0=>0 | 27=>243 | 33=>152 | 4=>4 | n=>n,fun n=>n⟩
theorem Tryz.keys239:Go.Proofs.SlLaysZI.n7 Tryz.prog Tryz.keys239_ren:={
 mixed:=by kernel_rfl
 f7:=⟨Tryz.f239.name,by kernel_rfl,Tryz.func239.trans (congrArg some (by kernel_rfl))⟩
 f10:=⟨Tryz.f279.name,by kernel_rfl,Tryz.func279.trans (congrArg some (by kernel_rfl))⟩
 t0:=Tryz.underlying0
 a0:=Tryz.isAgg0
 z0:=Tryz.sizeOf0
 v0:=Tryz.zeroValue0
 t4:=Tryz.underlying4
 a4:=Tryz.isAgg4
 z4:=Tryz.sizeOf4
 v4:=Tryz.zeroValue4
 t23:=Tryz.underlying241
 a23:=Tryz.isAgg241
 z23:=Tryz.sizeOf241
 v23:=Tryz.zeroValue241
 t26:=Tryz.underlying3
 a26:=Tryz.isAgg3
 z26:=Tryz.sizeOf3
 v26:=Tryz.zeroValue3
 t27:=Tryz.underlying243
 a27:=Tryz.isAgg243
 z27:=Tryz.sizeOf243
 v27:=Tryz.zeroValue243
 t28:=Tryz.underlying244
 a28:=Tryz.isAgg244
 z28:=Tryz.sizeOf244
 v28:=Tryz.zeroValue244
 t33:=Tryz.underlying152
 a33:=Tryz.isAgg152
 z33:=Tryz.sizeOf152
 v33:=Tryz.zeroValue152 }
def Tryz.sorted238_ren:Go.Shelf.Ren:=⟨fun | 6=>238 | 8=>277 | 9=>278 | 11=>299 | 13=>284 | 12=>300 | 23=>311 | 24=>312 | 14=>325 | 15=>326 | 16=>327 | 17=>328 | 18=>329 | 19=>330 | 20=>331 | 21=>332 | 22=>333 | 25=>346 | 26=>335 | 27=>336 | 28=>347 | 29=>348 | 30=>215 | 31=>352 | n=>n,fun | 26=>3 | 28=>244 | 24=>23 | 0=>0 | 3=>3 | 37=>232 | 48=>266 | 50=>269 | 4=>4 | 40=>297 | 39=>296 | 45=>131 | 5=>5 | 9=>9 | 51=>319 | 55=>323 | 57=>332 | 58=>35 | 33=>152 | n=>n,fun n=>n⟩
theorem Tryz.sorted238:Go.Proofs.SlLaysZI.n6 Tryz.prog Tryz.sorted238_ren:={
 mixed:=by kernel_rfl
 f6:=⟨Tryz.f238.name,by kernel_rfl,Tryz.func238.trans (congrArg some (by kernel_rfl))⟩
 f8:=⟨Tryz.f277.name,by kernel_rfl,Tryz.func277.trans (congrArg some (by kernel_rfl))⟩
 f11:=⟨Tryz.f299.name,by kernel_rfl,Tryz.func299.trans (congrArg some (by kernel_rfl))⟩
 t0:=Tryz.underlying0
 a0:=Tryz.isAgg0
 z0:=Tryz.sizeOf0
 v0:=Tryz.zeroValue0
 t24:=Tryz.underlying23
 a24:=Tryz.isAgg23
 z24:=Tryz.sizeOf23
 v24:=Tryz.zeroValue23
 t26:=Tryz.underlying3
 a26:=Tryz.isAgg3
 z26:=Tryz.sizeOf3
 v26:=Tryz.zeroValue3
 t28:=Tryz.underlying244
 a28:=Tryz.isAgg244
 z28:=Tryz.sizeOf244
 v28:=Tryz.zeroValue244
 i26:=by kernel_rfl }
def Tryz.sort278_ren:Go.Shelf.Ren:=⟨fun | 5=>278 | 8=>284 | 7=>300 | 19=>311 | 20=>312 | 10=>325 | 11=>326 | 12=>327 | 13=>328 | 14=>329 | 15=>330 | 16=>331 | 17=>332 | 18=>333 | 30=>346 | 31=>335 | 32=>336 | 33=>347 | 34=>348 | 35=>215 | 40=>352 | n=>n,fun | 23=>23 | 25=>3 | 3=>3 | 32=>232 | 22=>23 | 0=>0 | 44=>266 | 46=>269 | 4=>4 | 36=>297 | 35=>296 | 41=>131 | 5=>5 | 9=>9 | 53=>319 | 57=>323 | 63=>332 | 64=>35 | n=>n,fun n=>n⟩
theorem Tryz.sort278:Go.Proofs.SlLaysM.n5 Tryz.prog Tryz.sort278_ren:={
 mixed:=by kernel_rfl
 f5:=⟨Tryz.f278.name,by kernel_rfl,Tryz.func278.trans (congrArg some (by kernel_rfl))⟩
 f7:=⟨Tryz.f300.name,by kernel_rfl,Tryz.func300.trans (congrArg some (by kernel_rfl))⟩
 f8:=Tryz.func284.trans (congrArg some (by kernel_rfl))
 f10:=⟨Tryz.f325.name,by kernel_rfl,Tryz.func325.trans (congrArg some (by kernel_rfl))⟩
 f11:=⟨Tryz.f326.name,by kernel_rfl,Tryz.func326.trans (congrArg some (by kernel_rfl))⟩
 f12:=⟨Tryz.f327.name,by kernel_rfl,Tryz.func327.trans (congrArg some (by kernel_rfl))⟩
 f13:=⟨Tryz.f328.name,by kernel_rfl,Tryz.func328.trans (congrArg some (by kernel_rfl))⟩
 f14:=⟨Tryz.f329.name,by kernel_rfl,Tryz.func329.trans (congrArg some (by kernel_rfl))⟩
 f15:=⟨Tryz.f330.name,by kernel_rfl,Tryz.func330.trans (congrArg some (by kernel_rfl))⟩
 f16:=⟨Tryz.f331.name,by kernel_rfl,Tryz.func331.trans (congrArg some (by kernel_rfl))⟩
 f17:=⟨Tryz.f332.name,by kernel_rfl,Tryz.func332.trans (congrArg some (by kernel_rfl))⟩
 f18:=⟨Tryz.f333.name,by kernel_rfl,Tryz.func333.trans (congrArg some (by kernel_rfl))⟩
 f19:=Tryz.func311.trans (congrArg some (by kernel_rfl))
 f20:=Tryz.func312.trans (congrArg some (by kernel_rfl))
 f30:=⟨Tryz.f346.name,by kernel_rfl,Tryz.func346.trans (congrArg some (by kernel_rfl))⟩
 f31:=Tryz.func335.trans (congrArg some (by kernel_rfl))
 f32:=Tryz.func336.trans (congrArg some (by kernel_rfl))
 f33:=⟨Tryz.f347.name,by kernel_rfl,Tryz.func347.trans (congrArg some (by kernel_rfl))⟩
 f34:=⟨Tryz.f348.name,by kernel_rfl,Tryz.func348.trans (congrArg some (by kernel_rfl))⟩
 f35:=⟨Tryz.f215.name,by kernel_rfl,Tryz.func215.trans (congrArg some (by kernel_rfl))⟩
 f40:=⟨Tryz.f352.name,by kernel_rfl,Tryz.func352.trans (congrArg some (by kernel_rfl))⟩
 t0:=Tryz.underlying0
 a0:=Tryz.isAgg0
 z0:=Tryz.sizeOf0
 v0:=Tryz.zeroValue0
 t3:=Tryz.underlying3
 a3:=Tryz.isAgg3
 z3:=Tryz.sizeOf3
 v3:=Tryz.zeroValue3
 t4:=Tryz.underlying4
 a4:=Tryz.isAgg4
 z4:=Tryz.sizeOf4
 v4:=Tryz.zeroValue4
 t5:=Tryz.underlying5
 a5:=Tryz.isAgg5
 z5:=Tryz.sizeOf5
 v5:=Tryz.zeroValue5
 t9:=Tryz.underlying9
 a9:=Tryz.isAgg9
 z9:=Tryz.sizeOf9
 v9:=Tryz.zeroValue9
 t22:=Tryz.underlying23
 a22:=Tryz.isAgg23
 z22:=Tryz.sizeOf23
 v22:=Tryz.zeroValue23
 t23:=Tryz.underlying23
 a23:=Tryz.isAgg23
 z23:=Tryz.sizeOf23
 v23:=Tryz.zeroValue23
 t25:=Tryz.underlying3
 a25:=Tryz.isAgg3
 z25:=Tryz.sizeOf3
 v25:=Tryz.zeroValue3
 t32:=Tryz.underlying232
 a32:=Tryz.isAgg232
 z32:=Tryz.sizeOf232
 v32:=Tryz.zeroValue232
 t35:=Tryz.underlying296
 a35:=Tryz.isAgg296
 z35:=Tryz.sizeOf296
 v35:=Tryz.zeroValue296
 t36:=Tryz.underlying297
 a36:=Tryz.isAgg297
 z36:=Tryz.sizeOf297
 v36:=Tryz.zeroValue297
 t41:=Tryz.underlying131
 a41:=Tryz.isAgg131
 z41:=Tryz.sizeOf131
 v41:=Tryz.zeroValue131
 t44:=Tryz.underlying266
 a44:=Tryz.isAgg266
 z44:=Tryz.sizeOf266
 v44:=Tryz.zeroValue266
 t46:=Tryz.underlying269
 a46:=Tryz.isAgg269
 z46:=Tryz.sizeOf269
 v46:=Tryz.zeroValue269
 t53:=Tryz.underlying319
 a53:=Tryz.isAgg319
 z53:=Tryz.sizeOf319
 v53:=Tryz.zeroValue319
 t57:=Tryz.underlying323
 a57:=Tryz.isAgg323
 z57:=Tryz.sizeOf323
 v57:=Tryz.zeroValue323
 t63:=Tryz.underlying332
 a63:=Tryz.isAgg332
 z63:=Tryz.sizeOf332
 v63:=Tryz.zeroValue332
 t64:=Tryz.underlying35
 a64:=Tryz.isAgg35
 z64:=Tryz.sizeOf35
 v64:=Tryz.zeroValue35 }
theorem Tryz.sorts238(m:Nat):AnyZI.SortsIn Tryz.prog Tryz.sorted238_ren Fence.wide m:=
 ⟨fun blk off cap J W hH D G=>callsIn_wide.2 (AnyM.slices_Sort_int Tryz.sort278 blk off cap J W hH D G),
  fun p cap W=>callsIn_wide.2 (AnyM.slices_Sort_int_none Tryz.sort278 p cap W)⟩
theorem Tryz.maps_Keys_239(D:Option Nat)(W:World):CallsIn Fence.wide 5 Tryz.prog 239 #[.map D] W fun e w'=>e = .returned (.func (.func 279) #[] #[.pointer (some ⟨W.heap.size,0,none⟩)])/\w'=W.alloc (.cells #[.map D] 241):=
 AnyZI.keys_in Tryz.keys239 Fence.wide 5 trivial rfl D W
theorem Tryz.sorted_ikeys{H:Type}(M b nn:Nat)(G:DataW H)(R:Value->Option (DataW H×List MemPlace))(w:World)(hBm:M<w.heap.size)(hm:w.cell? ⟨M,0,none⟩=some (.map (some b)))(Z:w.ownsMap Tryz.prog 3 R b nn G)(hmax:Maps.size G<=maxLen)(D:Maps.size G*8<=140737488355328):
  CallsIn Fence.wide 5 Tryz.prog 238 #[.func (.func 279) #[] #[.pointer (some ⟨M,0,none⟩)]] w fun e w'=>∃ (v:Value) (J:List Int),e = .returned v/\J.Perm (intKeys G) /\
   w'.ownsRow w.heap.size 3 1 v J.length ((J.mergeSort (fun x y=>decide (x<=y))).map encZ)/\(v = .slice none 0 0↔J=[])/\Below w.heap.size w w':=by
 have Q:SeqGives Fence.wide 2 Tryz.prog 279 #[.pointer (some ⟨M,0,none⟩)] encZ (fun J=>J.Perm (intKeys G)) (Maps.size G) w:=
  AnyZI.keys_gives (ρ:=Tryz.keys239_ren) { Tryz.keys239 with } Fence.wide _ trivial rfl (by omega) M b nn G w hBm hm Z
 exact AnyZI.sorted_in Tryz.sorted238 Fence.wide 5 trivial trivial trivial trivial rfl (by omega) (Tryz.sorts238 _) (enters_of Tryz.func278 (by kernel_rfl) rfl) 279 #[.pointer (some ⟨M,0,none⟩)] trivial (enters_of Tryz.func279 (by kernel_rfl) rfl) _ _ hmax D _ Q
end Go.Proofs
namespace Go.PL
open Go
set_option linter.unusedVariables false
def kE(ks:List Int):List Int:=ks.mergeSort (fun x y=>decide (x<=y))
def aIW(ks:List Int):Bool:=decide (ks.length<=1000000000000)&&ks.all fun k=>decide (-9223372036854775808<=k/\k<=9223372036854775807)
theorem aMW{n:Int}{v:Value}(h:KeyR (.int .i64 n) v):v = .int .i64 n:=by cases h; rfl
def aDO:Value->Int
 | .int _ n=>n
 | _=>0
theorem Kl{V:Type}{F:Nat->Prop}{w:World}{enc:V->Mem}:∀ {v:List (Int×V)} {l:List MapEntry},mV (aOI F w) (eM enc v) l->l.map (fun e=>aDO e.key)=aY v/\∀ e,e∈l->∃ k,k∈aY v/\e.key = .int .i64 k
 | [],l,h=>by cases h;exact⟨rfl,fun e he=>by simp at he⟩
 | (k,c)::v,l,h=>by
  generalize hm:eM enc ((k,c)::v)=m at h;cases h with
  | nil=>simp[eM]at hm
  | @cons a b la lb hr ht=>
   simp only[eM,fY,List.cons.injEq]at hm;obtain⟨rfl,rfl⟩:=hm;have hk:=aMW hr.1;obtain⟨q1,q2⟩:=Kl (v:=v) (l:=lb) ht;refine⟨?_,fun e he=>?_⟩
   ·simp only[fY,aY]at q1 ⊢;rw[q1,hk]; rfl
   ·rcases bE.1 he with rfl | he
    ·exact⟨k,cS,hk⟩
    ·obtain⟨k',h1,h2⟩:=q2 e he;exact⟨k',cO _ h1,h2⟩
open Go.RowKit Go.Maps Go.Sort Go.Shelf Go.Proofs in
theorem Vl{V:Type}{F:Nat->Prop}{g:Nat->Value}{w:World}{b clock:Nat}{es:Array MapEntry}{enc:V->Mem}{v:List (Int×V)}{l r:List MapEntry}(hb:w.heap[b]? = some (.map es clock))(h:MpR F g w b es clock none (eM enc v) none l r)(hk:aIW (aY v)=true)(hnd:(aY v).Nodup):
  ∃ D0:DataW Unit,w.ownsMap Proofs.Tryz.prog 3 (fun _=>some (.nil,[])) b es.size D0/\(intKeys D0).Perm ((aY v))/\Maps.size D0<=1000000000000:=by
 unfold aIW at hk;rw[cQ,jX,fT]at hk;obtain⟨M,Z⟩:=hk;have hr:r=[]:=h.hole;subst hr;have hp:=h.perm;rw[eQ]at hp;obtain⟨Q,q2⟩:=Kl h.ent;have J:es.size=(aY v).length:=by have:=congrArg List.length Q;rw[dH,hp.length_eq,rD]at this;exact this
 have key:∀ e,e∈es.toList->∃ k,k∈aY v/\e.key = .int .i64 k:=fun e he=>q2 e (hp.mem_iff.2 he);have G:∀ e,e∈es.toList->WideElems.rd Proofs.Tryz.prog 3 (fun _=>some ((DataW.nil:DataW Unit),[])) e=some (Lit.int .i64 (aDO e.key),DataW.nil):=fun e he=>by
  obtain⟨k,hk,hke⟩:=key e he;have hs:=fK (Z k hk);have e1:keyOf Proofs.Tryz.prog 3 e.key=some (Lit.int .i64 (aDO e.key)):=by
   rw[hke];unfold keyOf mapKey;rw[Proofs.Tryz.underlying3];show (if IntKind.i64=IntKind.i64/\(Lit.int .i64 k).wf=true then some (Lit.int .i64 k) else none)=_;rw[aA ⟨rfl,by
    have h1:IntKind.i64.min = -9223372036854775808:=by rfl
    have h2:IntKind.i64.max=9223372036854775807:=by rfl
    simp only[Lit.wf,cQ,jX];omega⟩]
   rfl
  unfold WideElems.rd;rw[e1]; rfl
 have hnk:(es.toList.map (·.key)).Nodup:=by
  have h1:(es.toList.map fun e=>aDO e.key).Nodup:=by
   have h2:(l.map fun e=>aDO e.key).Nodup:=by rw[Q];exact hnd
   exact(hp.map _).nodup_iff.1 h2
  exact At.2 ((At.1 h1).imp fun hab e=>hab (by rw[e]))
 have D:(intKeys (DataW.map ((es.toList.map (WideElems.rg Proofs.Tryz.prog 3 (fun _=>some ((DataW.nil:DataW Unit),[])))).foldr DataW.insert []))).Perm ((aY v)):=by
  rw[<-Q];unfold intKeys;have h1:=(WideShapes.sorted_perm (es.toList.map (WideElems.rg Proofs.Tryz.prog 3 (fun _=>some ((DataW.nil:DataW Unit),[]))))).map (fun p=>intOf p.1);refine h1.trans ?_;rw[yU];have h2:es.toList.map ((fun p=>intOf p.1) ∘ WideElems.rg Proofs.Tryz.prog 3 (fun _=>some ((DataW.nil:DataW Unit),[])))=es.toList.map fun e=>aDO e.key:=by refine List.map_congr_left fun e he=>?_;simp only[Function.comp];rw[WideElems.rg_of (G e he)]; rfl
  rw[h2];exact(hp.map _).symm
 refine⟨_,⟨es,clock,hb,⟨by rw[J]; simp only[maxLen]; omega,⟨h.old,h.born,hnk⟩,fun x hx=>⟨_,G x hx⟩⟩,cM _,rfl⟩,D,?_⟩;have:=length_read (H:=Unit) (P:=Proofs.Tryz.prog) (k:=3) (R0:=fun _=>some (DataW.nil,[])) es;show ((es.toList.map _).foldr DataW.insert []).length<=_;rw[this,J]; exact M
theorem aIY{V:Type}(enc:V->Mem)(v:List (Int×V)):eT Proofs.Tryz.prog 239 [.map 30000] [(30000,.mp none (eM enc v) none)] [30000] (some ()) (fun _:Unit=>.fn (.func 279) 0 [.ptr 40000 0])
  (fun _=>[(30000,.mp none (eM enc v) none),(40000,.box [.map 30000])]):=by
 refine⟨bM Proofs.Tryz.func239 (by kernel_rfl),fun y hy=>?_⟩;intro F g w vs hs hv hH hF hgl;have Q:vs.size=1:=hs;have M:=hv 0 _ (vs[0]'(by omega)) rfl (by simp[Q]);obtain⟨b,e0,hgb⟩:∃ b,vs[0]'(by omega) = .map (some b)/\g 30000 = .map (some b):=by
  generalize vs[0]'(by omega)=u at M;cases M with
  | map h=>exact⟨_,rfl,h⟩
 have Z:vs=#[.map (some b)]:=by
  apply Array.ext
  ·rw[Q]; rfl
  ·intro q hq _
   match q,hq with
   | 0,_=>simpa using e0
   | q+1,hq=>omega
 subst Z;refine((callsIn_wide (n:=5)).1 (Proofs.Tryz.maps_Keys_239 (some b) w)).mono ?_;rintro e w' ⟨rfl,rfl⟩;have hlt:(w.alloc (.cells #[.map (some b)] 241)).heap.size=w.heap.size+1:=by simp
 have hbl:Go.RowKit.Below w.heap.size w (w.alloc (.cells #[.map (some b)] 241)):=(Go.RowKit.Below.refl _ w).alloc (cM _) _;have J:(w.alloc (.cells #[.map (some b)] 241)).heap[w.heap.size]? = some (.cells #[.map (some b)] 241 (0,0)):=by rw[show (w.alloc (.cells #[.map (some b)] 241)).heap=w.heap.push (.cells #[.map (some b)] 241) from rfl]; simp
 refine⟨_,_,_,F,upd g 40000 (.pointer (some ⟨w.heap.size,0,none⟩)),rfl,⟨rfl,rfl⟩,?_,Di hH hF hbl (fun o ho=>by simp[upd,ho]) (fun o x h=>?_) (fun o h=>?_) ?_ (fun c hc=>?_)⟩
 ·refine .fn (us:=#[]) rfl rfl fun j x u G D=>?_
  match j,G,D with
  | 0,G,D=>simp at G D;subst G D;exact .ptr (by simp[upd])
 ·cases cZ.1 h;exact⟨by decide,fun k hk=>by simp[bA.names,itN,hoN]at hk⟩
 ·cases cZ.1 h; decide
 ·refine⟨w.heap.size,_,_,by simp[upd],J,rfl,fun j x u G D=>?_⟩
  match j,G,D with
  | 0,G,D=>simp at G D;subst G D;exact .map (by simp[upd,hgb])
 ·have:=hc.toBlk rfl;simp[upd,blk]at this;omega
theorem aET(ks:List Int):(kE ks).length=ks.length:=by unfold kE;rw[List.length_mergeSort]
theorem By{V:Type}{enc:V->Mem}:∀ {v:List (Int×V)},((eM enc v).map (·.1)).Nodup->(aY v).Nodup
 | [],_=>List.nodup_nil
 | (k,c)::v,h=>by simp only[eM,fY]at h;have h':=xE.1 h;refine xE.2 ⟨fun hk=>h'.1 ?_,By h'.2⟩;obtain⟨x,hx,e⟩:=cU.1 hk;rw[yU];exact cU.2 ⟨x,hx,by simp only[Function.comp]; rw[e]⟩
theorem aGJ{V:Type}(enc:V->Mem)(v:List (Int×V)):eT Proofs.Tryz.prog 238 [.fn (.func 279) 0 [.ptr 30001 0]] [(30000,.mp none (eM enc v) none),(30001,.box [.map 30000])] [30000,30001] (if aIW (aY v)=true then some (kE (aY v)) else none) (fun _:List Int=>.own 40000)
  (fun ks=>[(30000,.mp none (eM enc v) none),(30001,.box [.map 30000]),(40000,.arr 3 1 ks.length (eF bI ks))]):=by
 refine⟨bM Proofs.Tryz.func238 (by kernel_rfl),fun y hy=>?_⟩;split at hy
 case isFalse=>cases hy
 rename_i hC;injection hy with hy;subst hy;intro F g w vs hs hv hH hF hgl;have hs1:vs.size=1:=hs;have Z:=hv 0 _ (vs[0]'(by omega)) rfl (by simp[hs1]);obtain⟨G,e0,hgB⟩:∃ G,vs[0]'(by omega) = .func (.func 279) #[] #[.pointer (some ⟨G,0,none⟩)]/\g 30001 = .pointer (some ⟨G,0,none⟩):=by
  generalize vs[0]'(by omega)=u at Z;cases Z with
  | @fn f n cs us ws hn hs hr=>
   have hu:us=#[]:=Cp hn;subst hu;have hw:ws.size=1:=by simpa using hs
   obtain⟨z,rfl⟩:=Tl.1 hw;have h0:=hr 0 _ z rfl (by simp);cases h0 with
   | ptr h=>exact⟨_,rfl,h⟩
 have hvs:vs=#[.func (.func 279) #[] #[.pointer (some ⟨G,0,none⟩)]]:=by
  apply Array.ext
  ·rw[hs1]; rfl
  ·intro q hq _
   match q,hq with
   | 0,_=>simpa using e0
   | q+1,hq=>omega
 subst hvs;obtain⟨b1,Q,ty1,k1,k2,k3,k4⟩:Cw F g w (g 30001) [.map 30000]:=hH.obj 30001 (.box [.map 30000]) (by simp);rw[hgB]at k1;injection k1 with k1;injection k1 with k1;injection k1 with k1 _ _;subst k1;obtain⟨b,es,clock,m1,m2,l,r,hM⟩:∃ b es clock,g 30000 = .map (some b)/\w.heap[b]? = some (.map es clock)/\∃ l r,MpR F g w b es clock none (eM enc v) none l r:=hH.obj 30000 (.mp none (eM enc v) none) (by simp);have hv1:Q=#[.map (some b)]:=by
  obtain⟨z,rfl⟩:=Tl.1 (show Q.size=1 from k3);have h0:=k4 0 _ z rfl (by simp);cases h0 with
  | map h=>rw[m1]at h;cases h; rfl
 subst hv1;have hlB:G<w.heap.size:=(Ob.1 k2).1;have J:w.cell? ⟨G,0,none⟩=some (.map (some b)):=by simp[World.cell?,k2]
 have hnd:(aY v).Nodup:=By (enc:=enc) (zH.1 hM.keys).1;obtain⟨D0,hown,hpm,hsz⟩:=Vl m2 hM hC hnd;refine((callsIn_wide (n:=5)).1 (Proofs.Tryz.sorted_ikeys G b es.size D0 _ w hlB J hown (by simp only[maxLen]; omega) (by omega))).mono ?_;rintro e M ⟨u,ss,rfl,hss,⟨hrl,hrow⟩,_,hbl⟩;have hms:ss.mergeSort (fun x y=>decide (x<=y))=((aY v)).mergeSort (fun x y=>decide (x<=y)):=mergeSort_of_perm_i (hss.trans hpm);have D:ss.length=(kE (aY v)).length:=by rw[aET];exact(hss.trans hpm).length_eq
 have fin:∀ a cap,u = .slice a ss.length cap->qL F M u 3 1 (kE (aY v)).length (eF bI (kE (aY v)))->(∀ c,blk u=some c->w.heap.size<=c/\c<M.heap.size)->∃ v_1 r H' F' g',Ending.returned u = .returned v_1/\vF (.own 40000) [(30000,.mp none (eM enc v) none),(30001,.box [.map 30000]),(40000,.arr 3 1 (kE (aY v)).length (eF bI (kE (aY v))))] r H'/\VR F' g' M r v_1 /\
   Jj { w0:=w,F0:=F,B0:=Own g w [(30000,.mp none (eM enc v) none),(30001,.box [.map 30000])],g0:=g,N:=[30000,30001],nt:=0 } F' g' H' M:=fun a cap hu hA hfo=>by
  refine⟨_,_,_,F,upd g 40000 u,rfl,⟨rfl,rfl⟩,?_,Di (g':=upd g 40000 u) (o':=40000) (x':=.arr 3 1 (kE (aY v)).length (eF bI (kE (aY v)))) hH hF hbl (fun o ho=>by simp[upd,ho]) (fun o x h=>?_) (fun o h=>?_) ?_ (fun c hc=>?_)⟩
  ·rw[hu];exact .own (by simp[upd])
  ·simp only[bE,List.not_mem_nil,or_false]at h;rcases h with h | h <;> cases h
   ·exact⟨by decide,fun k hk=>by simp[bA.names,itN,hoN]at hk⟩
   ·refine⟨by decide,fun k hk=>?_⟩;simp[bA.names,PV.names.go,PV.names]at hk;subst hk; decide
  ·simp only[bE,List.not_mem_nil,or_false]at h;rcases h with rfl | rfl <;> decide
  ·show qL F M (upd g 40000 u 40000) 3 1 _ _;rw[show upd g 40000 u 40000=u by simp[upd]];exact hA
  ·have:=hc.toBlk rfl;rw[show upd g 40000 u 40000=u by simp[upd]]at this;exact hfo c this
 rcases hrow with⟨rfl,hz⟩ | ⟨gb,cap,cur,rfl,r1,r2,r3,r4,r5,r6⟩
 ·refine fin none 0 (by rw[hz]) (.inl ⟨rfl,by rw[<-D]; exact hz⟩) (fun c hc=>by simp[blk]at hc)
 ·refine fin _ _ rfl (.inr ⟨gb,cap,cur,by rw[D],r2,by rw[<-D]; exact r3,r4,r5,fun i hi=>rfl,fun i j x hi hx=>?_⟩) (fun c hc=>?_)
  ·match j,hx with
   | 0,hx=>
    simp[eF,bI]at hx;subst hx;rw[Nat.mul_one]at r6;have hi':i<ss.length:=by rw[D]; exact hi
    have hi2:i<(kE (aY v)).length:=hi;have h1:cur.toList[i]? = some (Value.int .i64 ((kE (aY v))[i]'hi2)):=by have h2:=congrArg (fun l:List Value=>l[i]?) r6;simp only[List.getElem?_take_of_lt hi']at h2;rw[h2,hms];show ((kE (aY v)).map (Value.int .i64))[i]? = _;rw[gQ,iE hi2]; rfl
    refine⟨Value.int .i64 ((kE (aY v))[i]'hi2),?_,?_⟩
    ·rw[Nat.mul_one,yV,<-aCA]; exact h1
    ·have h3:(kE (aY v))[i]?.getD 0=(kE (aY v))[i]'hi2:=by rw[iE hi2]; rfl
     rw[h3];exact .int _ _
  ·simp[blk]at hc;subst hc;exact⟨r1,(Ob.1 r2).1⟩
end Go.PL
