/-
  Parts: The data types of the seat, as the program logic reads them, and its type table. Printed by a program of our own. Functions of Go's library, given to the trees by hand. Own work; two walks are lines of the shelf's, turned to this program. (*strings.Builder).WriteString, exactly. Own work; the walk is lines of the shelf's, turned to this program. Contracts of functions of Go's library, for the trees. Own work. Contracts of functions of Go's library, for the trees: WriteString. Own work. Contracts of library functions, as the kit tools lay-shelf and lay-plain wrote them for this seat, cut down to what is used. Contracts of functions of Go's library, for the trees: strings.Compare, strconv.Itoa. Own work. slices.Repeat of a row of one number, walked by hand. Own work. The contract of slices.Repeat of a row of one number. Own work. Contracts of strings.IndexByte and strconv.Atoi in the form of trees. Own work. Functions of the seat as trees, and that the program computes them. Printed by a program of our own.
-/
import Derived.Test.YtjefblkdnolgaaaGreatDoorMd
import Derived.Test.YtjefblkdnolgaaaGreatDoorProg
import Derived.Shelf.Strings.Builder1
import Derived.Shelf.Small.Strs
import Derived.Shelf.Strconv.Atoi
import Derived.Shelf.Strconv.Itoa0
import Derived.Shelf.Strconv.Itoa1
import Derived.Shelf.LaysM
import Derived.Shelf.Strconv.Itoa2
import Derived.Shelf.Strconv.Itoa3
import Derived.Shelf.Strconv.AtoiErrFast
import Derived.Shelf.Strconv.ParseIntEmpty
import Derived.Shelf.Strconv.AtoiFail
import Derived.Shelf.Strconv.Clone
import Derived.Shelf.Strconv.SyntaxError
import Derived.Shelf.LaysC
import Derived.Shelf.Strconv.ToError
import Derived.Shelf.Strconv.Lower
import Derived.Shelf.Strconv.ParseUint10
import Derived.Shelf.Strconv.ParseUint10Empty
import Derived.Shelf.Strconv.ParseUint10Any
import Derived.Shelf.Strconv.ParseInt10
import Derived.Shelf.Strconv.AtoiLong
import Derived.Shelf.Strconv.AtoiInnerAll
import Derived.Shelf.Strconv.RangeError
import Derived.Shelf.Strconv.ToErrorRange
import Derived.Shelf.Strconv.AtoiAll
import Derived.Shelf.Strings.Search1
import Derived.Shelf.Bits.Mul64
import Derived.Laws.IdiomCopy
import Derived.Laws.MakeOwn
import Derived.Lib.AtoiAll
set_option maxHeartbeats 4000000
namespace Go.PL
open Go
def cQ(x:bB):T:=.agg (dA x)
def Pn(x:List Int):List T:=[eL bK (x)]
structure aI where
 Name:ByteArray
 Params:List Int
 Result:Int
 Body:bB
 deriving Inhabited
def aV(x:aI):List T:=[.str (x.Name)]++[eL bK (x.Params)]++[.int .i64 (x.Result)]++dA (x.Body)
structure Uf where
 Kind:Int
 Col:Int
 Name:ByteArray
 deriving Inhabited
def Hf(x:Uf):List T:=[.int .i64 (x.Kind),.int .i64 (x.Col),.str (x.Name)]
structure jZ where
 Pred:bB
 Rep:Int
 deriving Inhabited
def fN(x:jZ):List T:=dA (x.Pred)++[.int .i64 (x.Rep)]
structure Ux where
 Name:ByteArray
 Type_:Int
 Unit:ByteArray
 deriving Inhabited
def Ik(x:Ux):List T:=[.str (x.Name),.int .i64 (x.Type_),.str (x.Unit)]
structure aG where
 Op:Int
 In:List Int
 Source:ByteArray
 Schema:Int
 Exprs:List bB
 Kind:Int
 Size:Int
 Step:Int
 Key:List Int
 Key2:List Int
 Before:Int
 After:Int
 Keep:Int
 Aggs:List Uf
 Seq:List jZ
 Cols:List Ux
 deriving Inhabited
def Hr(x:aG):List T:=[.int .i64 (x.Op),eL bK (x.In),.str (x.Source),.int .i64 (x.Schema),.lz (.exprs (x.Exprs)),.int .i64 (x.Kind),.int .i64 (x.Size),.int .i64 (x.Step),eL bK (x.Key),eL bK (x.Key2),.int .i64 (x.Before),.int .i64 (x.After),.int .i64 (x.Keep),eL Hf (x.Aggs),eL fN (x.Seq),eL Ik (x.Cols)]
def fM(x:aG):T:=.agg (Hr x)
structure aE where
 Kind:Int
 N:Int
 S:ByteArray
 deriving Inhabited
def bA(x:aE):List T:=[.int .i64 (x.Kind),.int .i64 (x.N),.str (x.S)]
def cH(x:aE):T:=.agg (bA x)
structure aC where
 Time:Int
 Row:List aE
 N:Int
 deriving Inhabited
def aK(x:aC):List T:=[.int .i64 (x.Time),eL bA (x.Row),.int .i64 (x.N)]
def cO(x:aC):T:=.agg (aK x)
def jE(x:List aC):List T:=[eL aK (x)]
structure aW where
 Do:Int
 C:Int
 L:List aC
 deriving Inhabited
def bO(x:aW):List T:=[.int .i64 (x.Do),.int .i64 (x.C),eL aK (x.L)]
structure bU where
 Funcs:List aI
 N:aG
 L:List aC
 Closed:Int
 deriving Inhabited
def eG(x:bU):List T:=[eL aV (x.Funcs)]++Hr (x.N)++[eL aK (x.L)]++[.int .i64 (x.Closed)]
structure aX where
 time_:Int
 fits_:Int
 deriving Inhabited
def cV(x:aX):List T:=[.int .i64 (x.time_),.int .i64 (x.fits_)]
def bBD(x:aX):T:=.agg (cV x)
structure fD where
 funcs_:List aI
 time_:Int
 row_:List aE
 params_:List aE
 deriving Inhabited
def Sc(x:fD):List T:=[eL aV (x.funcs_),.int .i64 (x.time_),eL bA (x.row_),eL bA (x.params_)]
def iQ(x:fD):T:=.agg (Sc x)
def gI(x:List Bool):List T:=[eL dX (x)]
structure fQ where
 V:aE
 N:Int
 deriving Inhabited
def aEQ(x:fQ):List T:=bA (x.V)++[.int .i64 (x.N)]
def rQ(x:fQ):T:=.agg (aEQ x)
structure cS where
 key_:List aE
 begin_:Int
 end_:Int
 l_:List aC
 deriving Inhabited
def gF(x:cS):List T:=[eL bA (x.key_),.int .i64 (x.begin_),.int .i64 (x.end_),eL aK (x.l_)]
def aCT(x:cS):T:=.agg (gF x)
def jH(x:cS):List Cel:=[.d (eL bA (x.key_)),.d (.int .i64 (x.begin_)),.d (.int .i64 (x.end_)),.row 50 3 (x.l_).length (eF aK (x.l_))]
structure aJ where
 Rest:ByteArray
 Bad:Bool
 deriving Inhabited
def bT(x:aJ):List T:=[.str (x.Rest),.bool (x.Bad)]
structure bW where
 rest_:ByteArray
 bad_:Bool
 deriving Inhabited
def fX(x:bW):List T:=[.str (x.rest_),.bool (x.bad_)]
structure cF where
 a_:aE
 b_:aE
 deriving Inhabited
def bFM(x:cF):List T:=bA (x.a_)++bA (x.b_)
def fI(x:cF):T:=.agg (bFM x)
def tiL:List (Nat×dT):=[
 (2,⟨1,8,.int .i64,[.t (.int .i64 0)],0,0⟩),
 (3,⟨1,8,.int .i64,[.t (.int .i64 0)],0,0⟩),
 (4,⟨1,1,.bool,[.t (.bool false)],0,0⟩),
 (5,⟨1,1,.int .u8,[.t (.int .u8 0)],0,0⟩),
 (9,⟨1,16,.str,[.t (.str ⟨#[]⟩)],0,0⟩),
 (12,⟨1,8,.int .u64,[.t (.int .u64 0)],0,0⟩),
 (15,⟨1,8,.ptr 342,[.np],0,0⟩),
 (16,⟨1,8,.ptr 345,[.np],0,0⟩),
 (17,⟨1,8,.ptr 352,[.np],0,0⟩),
 (21,⟨1,4,.int .i32,[.t (.int .i32 0)],0,0⟩),
 (22,⟨1,24,.sl 150,[.nil],0,0⟩),
 (23,⟨1,24,.sl 3,[.nil],0,0⟩),
 (24,⟨1,24,.sl 90,[.nil],0,0⟩),
 (25,⟨1,24,.sl 122,[.nil],0,0⟩),
 (26,⟨1,24,.sl 93,[.nil],0,0⟩),
 (27,⟨1,24,.sl 354,[.nil],0,0⟩),
 (29,⟨16,248,.st [(0,3),(1,23),(2,9),(3,3),(4,24),(5,3),(6,3),(7,3),(8,23),(9,23),(10,3),(11,3),(12,3),(13,25),(14,26),(15,27)],[.t (.int .i64 0),.nil,.t (.str ⟨#[]⟩),.t (.int .i64 0),.nil,.t (.int .i64 0),.t (.int .i64 0),.t (.int .i64 0),.nil,.nil,.t (.int .i64 0),.t (.int .i64 0),.t (.int .i64 0),.nil,.nil,.nil],0,0⟩),
 (30,⟨1,24,.sl 39,[.nil],0,0⟩),
 (33,⟨1,8,.ptr 102,[.np],0,0⟩),
 (36,⟨1,8,.other,[.lit .nilFunc],0,0⟩),
 (37,⟨1,24,.sl 50,[.nil],0,0⟩),
 (39,⟨3,40,.st [(0,3),(1,3),(2,37)],[.t (.int .i64 0),.t (.int .i64 0),.nil],0,0⟩),
 (48,⟨1,24,.sl 67,[.nil],0,0⟩),
 (50,⟨3,40,.st [(0,3),(1,48),(2,3)],[.t (.int .i64 0),.nil,.t (.int .i64 0)],0,0⟩),
 (55,⟨1,24,.sl 23,[.nil],0,0⟩),
 (56,⟨1,24,.sl 37,[.nil],0,0⟩),
 (67,⟨3,32,.st [(0,3),(1,3),(2,9)],[.t (.int .i64 0),.t (.int .i64 0),.t (.str ⟨#[]⟩)],0,37⟩),
 (71,⟨1,8,.ptr 74,[.np],0,0⟩),
 (74,⟨19,304,.st [(0,22),(1,29),(17,37),(18,3)],[.nil,.t (.int .i64 0),.nil,.t (.str ⟨#[]⟩),.t (.int .i64 0),.nil,.t (.int .i64 0),.t (.int .i64 0),.t (.int .i64 0),.nil,.nil,.t (.int .i64 0),.t (.int .i64 0),.t (.int .i64 0),.nil,.nil,.nil,.nil,.t (.int .i64 0)],0,0⟩),
 (80,⟨1,24,.sl 85,[.nil],0,0⟩),
 (82,⟨1,8,.ptr 147,[.np],0,0⟩),
 (85,⟨3,40,.st [(0,3),(1,3),(2,37)],[.t (.int .i64 0),.t (.int .i64 0),.nil],0,0⟩),
 (90,⟨4,56,.st [(0,3),(1,3),(2,9),(3,24)],[.t (.int .i64 0),.t (.int .i64 0),.t (.str ⟨#[]⟩),.nil],0,0⟩),
 (93,⟨5,64,.st [(0,90),(4,3)],[.t (.int .i64 0),.t (.int .i64 0),.t (.str ⟨#[]⟩),.nil,.t (.int .i64 0)],0,0⟩),
 (100,⟨1,8,.mp 9 37,[.lit (.map none)],0,0⟩),
 (102,⟨19,288,.st [(0,22),(1,29),(17,100),(18,3)],[.nil,.t (.int .i64 0),.nil,.t (.str ⟨#[]⟩),.t (.int .i64 0),.nil,.t (.int .i64 0),.t (.int .i64 0),.t (.int .i64 0),.nil,.nil,.t (.int .i64 0),.t (.int .i64 0),.t (.int .i64 0),.nil,.nil,.nil,.lit (.map none),.t (.int .i64 0)],0,0⟩),
 (103,⟨1,8,.other,[.lit .nilFunc],0,0⟩),
 (105,⟨4,32,.st [(0,3),(1,103),(2,36),(3,4)],[.t (.int .i64 0),.lit .nilFunc,.lit .nilFunc,.t (.bool false)],0,0⟩),
 (110,⟨1,8,.other,[.lit .nilFunc],0,0⟩),
 (111,⟨1,8,.other,[.lit .nilFunc],0,0⟩),
 (114,⟨1,8,.other,[.lit .nilFunc],0,0⟩),
 (117,⟨1,8,.other,[.lit .nilFunc],0,0⟩),
 (122,⟨3,32,.st [(0,3),(1,3),(2,9)],[.t (.int .i64 0),.t (.int .i64 0),.t (.str ⟨#[]⟩)],0,37⟩),
 (135,⟨1,8,.ptr 214,[.np],0,0⟩),
 (139,⟨1,8,.ptr 219,[.np],0,0⟩),
 (145,⟨1,8,.mp 9 222,[.lit (.map none)],0,0⟩),
 (147,⟨18,264,.st [(0,29),(16,145),(17,3)],[.t (.int .i64 0),.nil,.t (.str ⟨#[]⟩),.t (.int .i64 0),.nil,.t (.int .i64 0),.t (.int .i64 0),.t (.int .i64 0),.nil,.nil,.t (.int .i64 0),.t (.int .i64 0),.t (.int .i64 0),.nil,.nil,.nil,.lit (.map none),.t (.int .i64 0)],0,0⟩),
 (150,⟨7,104,.st [(0,9),(1,23),(2,3),(3,90)],[.t (.str ⟨#[]⟩),.nil,.t (.int .i64 0),.t (.int .i64 0),.t (.int .i64 0),.t (.str ⟨#[]⟩),.nil],0,0⟩),
 (152,⟨1,8,.other,[.lit .nilFunc],0,0⟩),
 (158,⟨36,288,.arr 9 105,[.t (.int .i64 0),.lit .nilFunc,.lit .nilFunc,.t (.bool false),.t (.int .i64 0),.lit .nilFunc,.lit .nilFunc,.t (.bool false),.t (.int .i64 0),.lit .nilFunc,.lit .nilFunc,.t (.bool false),.t (.int .i64 0),.lit .nilFunc,.lit .nilFunc,.t (.bool false),.t (.int .i64 0),.lit .nilFunc,.lit .nilFunc,.t (.bool false),.t (.int .i64 0),.lit .nilFunc,.lit .nilFunc,.t (.bool false),.t (.int .i64 0),.lit .nilFunc,.lit .nilFunc,.t (.bool false),.t (.int .i64 0),.lit .nilFunc,.lit .nilFunc,.t (.bool false),.t (.int .i64 0),.lit .nilFunc,.lit .nilFunc,.t (.bool false)],0,0⟩),
 (164,⟨1,24,.sl 171,[.nil],0,0⟩),
 (166,⟨1,8,.other,[.lit .nilFunc],0,0⟩),
 (171,⟨2,16,.st [(0,3),(1,3)],[.t (.int .i64 0),.t (.int .i64 0)],2,0⟩),
 (174,⟨1,8,.ptr 177,[.np],0,0⟩),
 (175,⟨1,24,.sl 5,[.nil],0,0⟩),
 (177,⟨2,32,.st [(0,174),(1,175)],[.np,.nil],0,0⟩),
 (179,⟨1,16,.ifc,[.lit .nilIface],0,0⟩),
 (184,⟨4,80,.st [(0,22),(1,3),(2,48),(3,48)],[.nil,.t (.int .i64 0),.nil,.nil],0,0⟩),
 (186,⟨1,24,.sl 190,[.nil],0,0⟩),
 (190,⟨3,40,.st [(0,3),(1,3),(2,37)],[.t (.int .i64 0),.t (.int .i64 0),.nil],0,0⟩),
 (195,⟨1,24,.sl 9,[.nil],0,0⟩),
 (198,⟨1,8,.other,[.lit .nilFunc],0,0⟩),
 (200,⟨1,24,.sl 201,[.nil],0,0⟩),
 (201,⟨1,24,.sl 4,[.nil],0,0⟩),
 (204,⟨4,40,.st [(0,67),(3,3)],[.t (.int .i64 0),.t (.int .i64 0),.t (.str ⟨#[]⟩),.t (.int .i64 0)],0,0⟩),
 (206,⟨1,24,.sl 209,[.nil],0,0⟩),
 (209,⟨4,64,.st [(0,48),(1,3),(2,3),(3,37)],[.nil,.t (.int .i64 0),.t (.int .i64 0),.nil],0,0⟩),
 (214,⟨2,24,.st [(0,9),(1,4)],[.t (.str ⟨#[]⟩),.t (.bool false)],0,14⟩),
 (219,⟨2,24,.st [(0,9),(1,4)],[.t (.str ⟨#[]⟩),.t (.bool false)],0,14⟩),
 (222,⟨1,8,.ptr 225,[.np],0,0⟩),
 (223,⟨2,48,.arr 2 37,[.nil,.nil],0,0⟩),
 (225,⟨2,48,.st [(0,223)],[.nil,.nil],0,0⟩),
 (231,⟨1,8,.other,[.lit .nilFunc],0,0⟩),
 (232,⟨1,8,.int .u64,[.t (.int .u64 0)],0,0⟩),
 (235,⟨1,8,.ptr 5,[.np],0,0⟩),
 (236,⟨1,8,.other,[.lit .nilFunc],0,0⟩),
 (239,⟨6,64,.st [(0,67),(3,67)],[.t (.int .i64 0),.t (.int .i64 0),.t (.str ⟨#[]⟩),.t (.int .i64 0),.t (.int .i64 0),.t (.str ⟨#[]⟩)],0,0⟩),
 (240,⟨1,8,.mp 3 236,[.lit (.map none)],0,0⟩),
 (241,⟨1,8,.mp 3 37,[.lit (.map none)],0,0⟩),
 (244,⟨1,8,.other,[.lit .nilFunc],0,0⟩),
 (250,⟨1,8,.other,[.lit .nilFunc],0,0⟩),
 (266,⟨1,4,.int .u32,[.t (.int .u32 0)],0,0⟩),
 (269,⟨1,8,.int .u64,[.t (.int .u64 0)],0,0⟩),
 (276,⟨1,24,.sl 48,[.nil],0,0⟩),
 (285,⟨2,48,.arr 2 23,[.nil,.nil],0,0⟩),
 (287,⟨1,8,.other,[.lit .nilFunc],0,0⟩),
 (288,⟨24,24,.arr 24 5,[.t (.int .u8 0),.t (.int .u8 0),.t (.int .u8 0),.t (.int .u8 0),.t (.int .u8 0),.t (.int .u8 0),.t (.int .u8 0),.t (.int .u8 0),.t (.int .u8 0),.t (.int .u8 0),.t (.int .u8 0),.t (.int .u8 0),.t (.int .u8 0),.t (.int .u8 0),.t (.int .u8 0),.t (.int .u8 0),.t (.int .u8 0),.t (.int .u8 0),.t (.int .u8 0),.t (.int .u8 0),.t (.int .u8 0),.t (.int .u8 0),.t (.int .u8 0),.t (.int .u8 0)],0,0⟩),
 (296,⟨1,8,.int .i64,[.t (.int .i64 0)],0,0⟩),
 (304,⟨1,8,.int .i64,[.t (.int .i64 0)],0,0⟩),
 (307,⟨1,8,.ptr 328,[.np],0,0⟩),
 (311,⟨20,160,.arr 20 269,[.t (.int .u64 0),.t (.int .u64 0),.t (.int .u64 0),.t (.int .u64 0),.t (.int .u64 0),.t (.int .u64 0),.t (.int .u64 0),.t (.int .u64 0),.t (.int .u64 0),.t (.int .u64 0),.t (.int .u64 0),.t (.int .u64 0),.t (.int .u64 0),.t (.int .u64 0),.t (.int .u64 0),.t (.int .u64 0),.t (.int .u64 0),.t (.int .u64 0),.t (.int .u64 0),.t (.int .u64 0)],0,0⟩),
 (312,⟨65,65,.arr 65 5,[.t (.int .u8 0),.t (.int .u8 0),.t (.int .u8 0),.t (.int .u8 0),.t (.int .u8 0),.t (.int .u8 0),.t (.int .u8 0),.t (.int .u8 0),.t (.int .u8 0),.t (.int .u8 0),.t (.int .u8 0),.t (.int .u8 0),.t (.int .u8 0),.t (.int .u8 0),.t (.int .u8 0),.t (.int .u8 0),.t (.int .u8 0),.t (.int .u8 0),.t (.int .u8 0),.t (.int .u8 0),.t (.int .u8 0),.t (.int .u8 0),.t (.int .u8 0),.t (.int .u8 0),.t (.int .u8 0),.t (.int .u8 0),.t (.int .u8 0),.t (.int .u8 0),.t (.int .u8 0),.t (.int .u8 0),.t (.int .u8 0),.t (.int .u8 0),.t (.int .u8 0),.t (.int .u8 0),.t (.int .u8 0),.t (.int .u8 0),.t (.int .u8 0),.t (.int .u8 0),.t (.int .u8 0),.t (.int .u8 0),.t (.int .u8 0),.t (.int .u8 0),.t (.int .u8 0),.t (.int .u8 0),.t (.int .u8 0),.t (.int .u8 0),.t (.int .u8 0),.t (.int .u8 0),.t (.int .u8 0),.t (.int .u8 0),.t (.int .u8 0),.t (.int .u8 0),.t (.int .u8 0),.t (.int .u8 0),.t (.int .u8 0),.t (.int .u8 0),.t (.int .u8 0),.t (.int .u8 0),.t (.int .u8 0),.t (.int .u8 0),.t (.int .u8 0),.t (.int .u8 0),.t (.int .u8 0),.t (.int .u8 0),.t (.int .u8 0)],0,0⟩),
 (319,⟨1,8,.int .u64,[.t (.int .u64 0)],0,0⟩),
 (323,⟨1,8,.ptr 3,[.np],0,0⟩),
 (328,⟨3,48,.st [(0,9),(1,9),(2,179)],[.t (.str ⟨#[]⟩),.t (.str ⟨#[]⟩),.lit .nilIface],0,0⟩),
 (332,⟨1,8,.ptr 319,[.np],0,0⟩),
 (335,⟨1,8,.ptr 337,[.np],0,0⟩),
 (337,⟨1,16,.st [(0,9)],[.t (.str ⟨#[]⟩)],0,2⟩),
 (338,⟨32,32,.arr 32 5,[.t (.int .u8 0),.t (.int .u8 0),.t (.int .u8 0),.t (.int .u8 0),.t (.int .u8 0),.t (.int .u8 0),.t (.int .u8 0),.t (.int .u8 0),.t (.int .u8 0),.t (.int .u8 0),.t (.int .u8 0),.t (.int .u8 0),.t (.int .u8 0),.t (.int .u8 0),.t (.int .u8 0),.t (.int .u8 0),.t (.int .u8 0),.t (.int .u8 0),.t (.int .u8 0),.t (.int .u8 0),.t (.int .u8 0),.t (.int .u8 0),.t (.int .u8 0),.t (.int .u8 0),.t (.int .u8 0),.t (.int .u8 0),.t (.int .u8 0),.t (.int .u8 0),.t (.int .u8 0),.t (.int .u8 0),.t (.int .u8 0),.t (.int .u8 0)],0,0⟩),
 (339,⟨64,64,.arr 64 5,[.t (.int .u8 0),.t (.int .u8 0),.t (.int .u8 0),.t (.int .u8 0),.t (.int .u8 0),.t (.int .u8 0),.t (.int .u8 0),.t (.int .u8 0),.t (.int .u8 0),.t (.int .u8 0),.t (.int .u8 0),.t (.int .u8 0),.t (.int .u8 0),.t (.int .u8 0),.t (.int .u8 0),.t (.int .u8 0),.t (.int .u8 0),.t (.int .u8 0),.t (.int .u8 0),.t (.int .u8 0),.t (.int .u8 0),.t (.int .u8 0),.t (.int .u8 0),.t (.int .u8 0),.t (.int .u8 0),.t (.int .u8 0),.t (.int .u8 0),.t (.int .u8 0),.t (.int .u8 0),.t (.int .u8 0),.t (.int .u8 0),.t (.int .u8 0),.t (.int .u8 0),.t (.int .u8 0),.t (.int .u8 0),.t (.int .u8 0),.t (.int .u8 0),.t (.int .u8 0),.t (.int .u8 0),.t (.int .u8 0),.t (.int .u8 0),.t (.int .u8 0),.t (.int .u8 0),.t (.int .u8 0),.t (.int .u8 0),.t (.int .u8 0),.t (.int .u8 0),.t (.int .u8 0),.t (.int .u8 0),.t (.int .u8 0),.t (.int .u8 0),.t (.int .u8 0),.t (.int .u8 0),.t (.int .u8 0),.t (.int .u8 0),.t (.int .u8 0),.t (.int .u8 0),.t (.int .u8 0),.t (.int .u8 0),.t (.int .u8 0),.t (.int .u8 0),.t (.int .u8 0),.t (.int .u8 0),.t (.int .u8 0)],0,0⟩),
 (354,⟨3,40,.st [(0,9),(1,3),(2,9)],[.t (.str ⟨#[]⟩),.t (.int .i64 0),.t (.str ⟨#[]⟩)],0,38⟩)]
set_option maxRecDepth 100000 in
theorem aR:nT Proofs.Tryz.prog (look tiL):=
 aVR (aM (aY (by kernel_rfl) (by kernel_rfl) (by kernel_rfl)) (aM (aY (by kernel_rfl) (by kernel_rfl) (by kernel_rfl)) (aM (aY (by kernel_rfl) (by kernel_rfl) (by kernel_rfl)) (aM (aY (by kernel_rfl) (by kernel_rfl) (by kernel_rfl)) (aM (aY (by kernel_rfl) (by kernel_rfl) (by kernel_rfl)) (aM (aY (by kernel_rfl) (by kernel_rfl) (by kernel_rfl)) (aM (aY (by kernel_rfl) (by kernel_rfl) (by kernel_rfl)) (aM (aY (by kernel_rfl) (by kernel_rfl) (by kernel_rfl)) (aM (aY (by kernel_rfl) (by kernel_rfl) (by kernel_rfl)) (aM (aY (by kernel_rfl) (by kernel_rfl) (by kernel_rfl)) (aM (aY (by kernel_rfl) (by kernel_rfl) (by kernel_rfl)) (aM (aY (by kernel_rfl) (by kernel_rfl) (by kernel_rfl)) (aM (aY (by kernel_rfl) (by kernel_rfl) (by kernel_rfl)) (aM (aY (by kernel_rfl) (by kernel_rfl) (by kernel_rfl)) (aM (aY (by kernel_rfl) (by kernel_rfl) (by kernel_rfl)) (aM (aY (by kernel_rfl) (by kernel_rfl) (by kernel_rfl)) (aM (aY (by kernel_rfl) (by kernel_rfl) (by kernel_rfl)) (aM (aY (by kernel_rfl) (by kernel_rfl) (by kernel_rfl)) (aM (aY (by kernel_rfl) (by kernel_rfl) (by kernel_rfl)) (aM (aY (by kernel_rfl) (by kernel_rfl) (by kernel_rfl)) (aM (aY (by kernel_rfl) (by kernel_rfl) (by kernel_rfl)) (aM (aY (by kernel_rfl) (by kernel_rfl) (by kernel_rfl)) (aM (aY (by kernel_rfl) (by kernel_rfl) (by kernel_rfl)) (aM (aY (by kernel_rfl) (by kernel_rfl) (by kernel_rfl)) (aM (aY (by kernel_rfl) (by kernel_rfl) (by kernel_rfl)) (aM (aY (by kernel_rfl) (by kernel_rfl) (by kernel_rfl)) (aM (aY (by kernel_rfl) (by kernel_rfl) (by kernel_rfl)) (aM (aY (by kernel_rfl) (by kernel_rfl) (by kernel_rfl)) (aM (aY (by kernel_rfl) (by kernel_rfl) (by kernel_rfl)) (aM (aY (by kernel_rfl) (by kernel_rfl) (by kernel_rfl)) (aM (aY (by kernel_rfl) (by kernel_rfl) (by kernel_rfl)) (aM (aY (by kernel_rfl) (by kernel_rfl) (by kernel_rfl)) (aM (aY (by kernel_rfl) (by kernel_rfl) (by kernel_rfl)) (aM (aY (by kernel_rfl) (by kernel_rfl) (by kernel_rfl)) (aM (aY (by kernel_rfl) (by kernel_rfl) (by kernel_rfl)) (aM (aY (by kernel_rfl) (by kernel_rfl) (by kernel_rfl)) (aM (aY (by kernel_rfl) (by kernel_rfl) (by kernel_rfl)) (aM (aY (by kernel_rfl) (by kernel_rfl) (by kernel_rfl)) (aM (aY (by kernel_rfl) (by kernel_rfl) (by kernel_rfl)) (aM (aY (by kernel_rfl) (by kernel_rfl) (by kernel_rfl)) (aM (aY (by kernel_rfl) (by kernel_rfl) (by kernel_rfl)) (aM (aY (by kernel_rfl) (by kernel_rfl) (by kernel_rfl)) (aM (aY (by kernel_rfl) (by kernel_rfl) (by kernel_rfl)) (aM (aY (by kernel_rfl) (by kernel_rfl) (by kernel_rfl)) (aM (aY (by kernel_rfl) (by kernel_rfl) (by kernel_rfl)) (aM (aY (by kernel_rfl) (by kernel_rfl) (by kernel_rfl)) (aM (aY (by kernel_rfl) (by kernel_rfl) (by kernel_rfl)) (aM (aY (by kernel_rfl) (by kernel_rfl) (by kernel_rfl)) (aM (aY (by kernel_rfl) (by kernel_rfl) (by kernel_rfl)) (aM (aY (by kernel_rfl) (by kernel_rfl) (by kernel_rfl)) (aM (aY (by kernel_rfl) (by kernel_rfl) (by kernel_rfl)) (aM (aY (by kernel_rfl) (by kernel_rfl) (by kernel_rfl)) (aM (aY (by kernel_rfl) (by kernel_rfl) (by kernel_rfl)) (aM (aY (by kernel_rfl) (by kernel_rfl) (by kernel_rfl)) (aM (aY (by kernel_rfl) (by kernel_rfl) (by kernel_rfl)) (aM (aY (by kernel_rfl) (by kernel_rfl) (by kernel_rfl)) (aM (aY (by kernel_rfl) (by kernel_rfl) (by kernel_rfl)) (aM (aY (by kernel_rfl) (by kernel_rfl) (by kernel_rfl)) (aM (aY (by kernel_rfl) (by kernel_rfl) (by kernel_rfl)) (aM (aY (by kernel_rfl) (by kernel_rfl) (by kernel_rfl)) (aM (aY (by kernel_rfl) (by kernel_rfl) (by kernel_rfl)) (aM (aY (by kernel_rfl) (by kernel_rfl) (by kernel_rfl)) (aM (aY (by kernel_rfl) (by kernel_rfl) (by kernel_rfl)) (aM (aY (by kernel_rfl) (by kernel_rfl) (by kernel_rfl)) (aM (aY (by kernel_rfl) (by kernel_rfl) (by kernel_rfl)) (aM (aY (by kernel_rfl) (by kernel_rfl) (by kernel_rfl)) (aM (aY (by kernel_rfl) (by kernel_rfl) (by kernel_rfl)) (aM (aY (by kernel_rfl) (by kernel_rfl) (by kernel_rfl)) (aM (aY (by kernel_rfl) (by kernel_rfl) (by kernel_rfl)) (aM (aY (by kernel_rfl) (by kernel_rfl) (by kernel_rfl)) (aM (aY (by kernel_rfl) (by kernel_rfl) (by kernel_rfl)) (aM (aY (by kernel_rfl) (by kernel_rfl) (by kernel_rfl)) (aM (aY (by kernel_rfl) (by kernel_rfl) (by kernel_rfl)) (aM (aY (by kernel_rfl) (by kernel_rfl) (by kernel_rfl)) (aM (aY (by kernel_rfl) (by kernel_rfl) (by kernel_rfl)) (aM (aY (by kernel_rfl) (by kernel_rfl) (by kernel_rfl)) (aM (aY (by kernel_rfl) (by kernel_rfl) (by kernel_rfl)) (aM (aY (by kernel_rfl) (by kernel_rfl) (by kernel_rfl)) (aM (aY (by kernel_rfl) (by kernel_rfl) (by kernel_rfl)) (aM (aY (by kernel_rfl) (by kernel_rfl) (by kernel_rfl)) (aM (aY (by kernel_rfl) (by kernel_rfl) (by kernel_rfl)) (aM (aY (by kernel_rfl) (by kernel_rfl) (by kernel_rfl)) (aM (aY (by kernel_rfl) (by kernel_rfl) (by kernel_rfl)) (aM (aY (by kernel_rfl) (by kernel_rfl) (by kernel_rfl)) (aM (aY (by kernel_rfl) (by kernel_rfl) (by kernel_rfl)) (aM (aY (by kernel_rfl) (by kernel_rfl) (by kernel_rfl)) (aM (aY (by kernel_rfl) (by kernel_rfl) (by kernel_rfl)) (aM (aY (by kernel_rfl) (by kernel_rfl) (by kernel_rfl)) (aM (aY (by kernel_rfl) (by kernel_rfl) (by kernel_rfl)) (aM (aY (by kernel_rfl) (by kernel_rfl) (by kernel_rfl)) (aM (aY (by kernel_rfl) (by kernel_rfl) (by kernel_rfl)) (aM (aY (by kernel_rfl) (by kernel_rfl) (by kernel_rfl)) (aM (aY (by kernel_rfl) (by kernel_rfl) (by kernel_rfl)) (aM (aY (by kernel_rfl) (by kernel_rfl) (by kernel_rfl)) (aM (aY (by kernel_rfl) (by kernel_rfl) (by kernel_rfl)) (aM (aY (by kernel_rfl) (by kernel_rfl) (by kernel_rfl)) (aM (aY (by kernel_rfl) (by kernel_rfl) (by kernel_rfl)) (aM (aY (by kernel_rfl) (by kernel_rfl) (by kernel_rfl)) (aM (aY (by kernel_rfl) (by kernel_rfl) (by kernel_rfl)) (aM (aY (by kernel_rfl) (by kernel_rfl) (by kernel_rfl)) (aM (aY (by kernel_rfl) (by kernel_rfl) (by kernel_rfl)) aPY)))))))))))))))))))))))))))))))))))))))))))))))))))))))))))))))))))))))))))))))))))))))))))))))))))))
abbrev TP:=Tr Proofs.Tryz.prog
end Go.PL
namespace Go.Proofs
open Go.Shelf Go.RowKit
set_option maxRecDepth 100000 in
theorem Tryz.copyCheck_used(b:Nat)(w:World)(h0:w.cell? ⟨b,0,none⟩=some (.pointer (some ⟨b,0,none⟩))):
  Calls Tryz.prog 222 #[.pointer (some ⟨b,0,none⟩)] w fun e w'=>e = .returned (.tuple #[])/\w'=w:=by
 have hsz:(Tryz.prog.info? 177).map (·.size)=some 2:=by rfl
 obtain⟨j,hj,_⟩:=Option.map_eq_some_iff.1 hsz;have mixed:Tryz.prog.follows .mixedOrders=true:=by rfl
 have t72:=Tryz.underlying177; have a72:=Tryz.isAgg177; have z72:=Tryz.sizeOf177; have v72:=Tryz.zeroValue177; have u72:=run_underlying t72;have t70:=Tryz.underlying174; have a70:=Tryz.isAgg174; have z70:=Tryz.sizeOf174; have v70:=Tryz.zeroValue174; have u70:=run_underlying t70;have t4:=Tryz.underlying4; have a4:=Tryz.isAgg4; have z4:=Tryz.sizeOf4; have v4:=Tryz.zeroValue4; have u4:=run_underlying t4;have t164:=Tryz.underlying273; have a164:=Tryz.isAgg273; have z164:=Tryz.sizeOf273; have v164:=Tryz.zeroValue273; have u164:=run_underlying t164
 go_enter Tryz.func222,Tryz.ntmps222
 go_wp2
 rw[Lib.run_neq_ptr_same w _ t70 hj]
 go_wp2
 go_end0
 simp_all
set_option maxRecDepth 100000 in
theorem Tryz.copyCheck_fresh(b:Nat)(w:World)(h0:w.cell? ⟨b,0,none⟩=some (.pointer none))(hsh:w.shape? b=some (177,2))(hfz:w.frozen? ⟨b,0,none⟩=false):
  Calls Tryz.prog 222 #[.pointer (some ⟨b,0,none⟩)] w fun e w'=>e = .returned (.tuple #[])/\w'=w.setCell ⟨b,0,none⟩ (.pointer (some ⟨b,0,none⟩)):=by
 have hsz:(Tryz.prog.info? 177).map (·.size)=some 2:=by rfl
 obtain⟨j,hj,hjs⟩:=Option.map_eq_some_iff.1 hsz;have lies:liesAt Tryz.prog Tryz.prog.depth 177 (2 / Tryz.prog.cellsOf 177) 0 177 1=true:=by rfl
 have mixed:Tryz.prog.follows .mixedOrders=true:=by rfl
 have t72:=Tryz.underlying177; have a72:=Tryz.isAgg177; have z72:=Tryz.sizeOf177; have v72:=Tryz.zeroValue177; have u72:=run_underlying t72;have t70:=Tryz.underlying174; have a70:=Tryz.isAgg174; have z70:=Tryz.sizeOf174; have v70:=Tryz.zeroValue174; have u70:=run_underlying t70;have t4:=Tryz.underlying4; have a4:=Tryz.isAgg4; have z4:=Tryz.sizeOf4; have v4:=Tryz.zeroValue4; have u4:=run_underlying t4;have t164:=Tryz.underlying273; have a164:=Tryz.isAgg273; have z164:=Tryz.sizeOf273; have v164:=Tryz.zeroValue273; have u164:=run_underlying t164
 go_enter Tryz.func222,Tryz.ntmps222
 go_wp2
 rw[Lib.run_to_unsafe w ⟨b,0,none⟩ t70 t164 hj (by omega) hsh (Nat.zero_lt_succ 1)];simp only[Result.andThen];rw[Oper.upon_value]
 go_wp2
 rw[run_callFunc_extern Tryz.func276 (by rfl) (by rfl) (by rfl) (e:=Extern.AbiNoEscape.same) (by rfl)];rw[Lib.run_noEscape];simp only[Result.andThen];rw[Oper.upon_value]
 go_wp2
 rw[Lib.run_from_unsafe w ⟨b,0,none⟩ t164 t70 hj hsh lies];simp only[Result.andThen];rw[Oper.upon_value]
 go_wp2
 go_end0
 simp_all
set_option maxRecDepth 100000 in
theorem Tryz.String_row(b g cap:Nat)(p:Value)(cur:Array Value)(l:List UInt8)(h0:l≠[])(w:World)(hbk:w.heap[b]? = some (.cells #[p,.slice (some ⟨g,0,none⟩) l.length cap] 177 (0,0)))
  (hg:w.heap[g]? = some (.cells cur 5 (0,0)))(hnc:l.length<=cap)(hcm:cap<=maxLen)(hcs:cur.size=cap*1)(hcell:∀ (j:Nat) (x:UInt8),l[j]? = some x->cur[j]? = some (Value.int .u8 (x.toNat:Int))):
  Calls Tryz.prog 170 #[.pointer (some ⟨b,0,none⟩)] w fun e w'=>e = .returned (.string ⟨l.toArray⟩)/\w'=w.drew.freeze ⟨g,0,none⟩ l.length:=by
 have hl0:l.length≠0:=by simp_all
 have c1:w.drew.cell? ⟨b,1,none⟩=some (.slice (some ⟨g,0,none⟩) l.length cap):=by have:w.drew.heap[b]? = some (.cells #[p,.slice (some ⟨g,0,none⟩) l.length cap] 177 (0,0)):=hbk;rw[Lib.cell_of_heap this]; rfl
 have hSD:(Builtin.unsafeSliceData_ #[175] 235 #[.slice (some ⟨g,0,none⟩) l.length cap]).run Tryz.prog w.drew = .ok (.pointer (some ⟨g,0,none⟩)) w.drew:=
  Lib.run_unsafeSliceData_row _ _ _ _ _ _ (by omega)
 have hUS:(Builtin.unsafeString_ #[235,3] 9 #[.pointer (some ⟨g,0,none⟩),.int .i64 l.length]).run Tryz.prog w.drew = .ok (.string ⟨l.toArray⟩) (w.drew.freeze ⟨g,0,none⟩ l.length):=by refine Lib.run_unsafeString_row w.drew 235 3 9 5 Tryz.underlying235 (by rfl) g cur.size (by have hg':w.drew.heap[g]? = some (.cells cur 5 (0,0)):=hg; simp[World.shape?,hg']) l h0 (by omega) (by unfold maxLen at hcm; omega) ?_;intro j x hx;have hg':w.drew.heap[g]? = some (.cells cur 5 (0,0)):=hg;rw[Go.PL.Addr.add_none,Nat.zero_add,Lib.cell_of_heap hg'];simp_all
 have mixed:Tryz.prog.follows .mixedOrders=true:=by rfl
 have t72:=Tryz.underlying177; have a72:=Tryz.isAgg177; have z72:=Tryz.sizeOf177; have v72:=Tryz.zeroValue177; have u72:=run_underlying t72;have t70:=Tryz.underlying174; have a70:=Tryz.isAgg174; have z70:=Tryz.sizeOf174; have v70:=Tryz.zeroValue174; have u70:=run_underlying t70;have t37:=Tryz.underlying175; have a37:=Tryz.isAgg175; have z37:=Tryz.sizeOf175; have v37:=Tryz.zeroValue175; have u37:=run_underlying t37;have t127:=Tryz.underlying235; have a127:=Tryz.isAgg235; have z127:=Tryz.sizeOf235; have v127:=Tryz.zeroValue235; have u127:=run_underlying t127;have t3:=Tryz.underlying3; have a3:=Tryz.isAgg3; have z3:=Tryz.sizeOf3; have v3:=Tryz.zeroValue3; have u3:=run_underlying t3;have t9:=Tryz.underlying9; have a9:=Tryz.isAgg9; have z9:=Tryz.sizeOf9; have v9:=Tryz.zeroValue9; have u9:=run_underlying t9;have t5:=Tryz.underlying5; have a5:=Tryz.isAgg5; have z5:=Tryz.sizeOf5; have v5:=Tryz.zeroValue5; have u5:=run_underlying t5
 go_enter Tryz.func170,Tryz.ntmps170
 go_wp2
 go_region_o
 all_goals (go_wp2; go_ret; simp_all)
set_option maxRecDepth 100000 in
theorem Tryz.String_nil(b:Nat)(p:Value)(w:World)(hbk:w.heap[b]? = some (.cells #[p,.slice none 0 0] 177 (0,0))):
  Calls Tryz.prog 170 #[.pointer (some ⟨b,0,none⟩)] w fun e w'=>e = .returned (.string ⟨#[]⟩)/\w'=w.drew:=by
 have hUS:∀ W q,(Builtin.unsafeString_ #[235,3] 9 #[.pointer q,.int .i64 0]).run Tryz.prog W = .ok (.string .empty) W:=fun W q=>Lib.run_unsafeString_none W _ _ _ q;have c1:w.drew.cell? ⟨b,1,none⟩=some (.slice none 0 0):=by have:w.drew.heap[b]? = some (.cells #[p,.slice none 0 0] 177 (0,0)):=hbk;rw[Lib.cell_of_heap this]; rfl
 have hSD:(Builtin.unsafeSliceData_ #[175] 235 #[.slice none 0 0]).run Tryz.prog w.drew = .ok (.pointer none) w.drew:=rfl;have mixed:Tryz.prog.follows .mixedOrders=true:=by rfl
 have t72:=Tryz.underlying177; have a72:=Tryz.isAgg177; have z72:=Tryz.sizeOf177; have v72:=Tryz.zeroValue177; have u72:=run_underlying t72;have t70:=Tryz.underlying174; have a70:=Tryz.isAgg174; have z70:=Tryz.sizeOf174; have v70:=Tryz.zeroValue174; have u70:=run_underlying t70;have t37:=Tryz.underlying175; have a37:=Tryz.isAgg175; have z37:=Tryz.sizeOf175; have v37:=Tryz.zeroValue175; have u37:=run_underlying t37;have t127:=Tryz.underlying235; have a127:=Tryz.isAgg235; have z127:=Tryz.sizeOf235; have v127:=Tryz.zeroValue235; have u127:=run_underlying t127;have t3:=Tryz.underlying3; have a3:=Tryz.isAgg3; have z3:=Tryz.sizeOf3; have v3:=Tryz.zeroValue3; have u3:=run_underlying t3;have t9:=Tryz.underlying9; have a9:=Tryz.isAgg9; have z9:=Tryz.sizeOf9; have v9:=Tryz.zeroValue9; have u9:=run_underlying t9;have t5:=Tryz.underlying5; have a5:=Tryz.isAgg5; have z5:=Tryz.sizeOf5; have v5:=Tryz.zeroValue5; have u5:=run_underlying t5
 go_enter Tryz.func170,Tryz.ntmps170
 go_wp2
 go_region_o
 all_goals (go_wp2; go_ret; exact⟨rfl,rfl⟩)
set_option maxRecDepth 100000 in
theorem Tryz.String_noroom(b g:Nat)(p:Value)(cur:Array Value)(w:World)(hlt:b<w.heap.size)(hbk:w.heap[b]? = some (.cells #[p,.slice (some ⟨g,0,none⟩) 0 0] 177 (0,0)))(hg:w.heap[g]? = some (.cells cur 5 (0,0))):
  Calls Tryz.prog 170 #[.pointer (some ⟨b,0,none⟩)] w fun e w'=>e = .returned (.string ⟨#[]⟩)/\w'=w.drew.alloc (.view ⟨g,0,none⟩ 5):=by
 have hUS:∀ W q,(Builtin.unsafeString_ #[235,3] 9 #[.pointer q,.int .i64 0]).run Tryz.prog W = .ok (.string .empty) W:=fun W q=>Lib.run_unsafeString_none W _ _ _ q;have c1:w.drew.cell? ⟨b,1,none⟩=some (.slice (some ⟨g,0,none⟩) 0 0):=by have:w.drew.heap[b]? = some (.cells #[p,.slice (some ⟨g,0,none⟩) 0 0] 177 (0,0)):=hbk;rw[Lib.cell_of_heap this]; rfl
 have hSD:(Builtin.unsafeSliceData_ #[175] 235 #[.slice (some ⟨g,0,none⟩) 0 0]).run Tryz.prog w.drew = .ok (.pointer (some ⟨w.drew.heap.size,0,none⟩)) (w.drew.alloc (.view ⟨g,0,none⟩ 5)):=
  Lib.run_unsafeSliceData_zero w.drew _ _ 5 Tryz.underlying235 ⟨g,0,none⟩ 0 (5,cur.size) (by have hg':w.drew.heap[g]? = some (.cells cur 5 (0,0)):=hg; simp[World.shape?,hg'])
 have c2:(w.drew.alloc (.view ⟨g,0,none⟩ 5)).cell? ⟨b,1,none⟩=some (.slice (some ⟨g,0,none⟩) 0 0):=by have:(w.drew.alloc (.view ⟨g,0,none⟩ 5)).heap[b]? = _:=(Lib.alloc_old w.drew _ b hlt).trans hbk;rw[Lib.cell_of_heap this]; rfl
 have c3:(w.alloc (.view ⟨g,0,none⟩ 5)).drew.cell? ⟨b,1,none⟩=some (.slice (some ⟨g,0,none⟩) 0 0):=c2;have c0:w.cell? ⟨b,1,none⟩=some (.slice (some ⟨g,0,none⟩) 0 0):=c1;have mixed:Tryz.prog.follows .mixedOrders=true:=by rfl
 have t72:=Tryz.underlying177; have a72:=Tryz.isAgg177; have z72:=Tryz.sizeOf177; have v72:=Tryz.zeroValue177; have u72:=run_underlying t72;have t70:=Tryz.underlying174; have a70:=Tryz.isAgg174; have z70:=Tryz.sizeOf174; have v70:=Tryz.zeroValue174; have u70:=run_underlying t70;have t37:=Tryz.underlying175; have a37:=Tryz.isAgg175; have z37:=Tryz.sizeOf175; have v37:=Tryz.zeroValue175; have u37:=run_underlying t37;have t127:=Tryz.underlying235; have a127:=Tryz.isAgg235; have z127:=Tryz.sizeOf235; have v127:=Tryz.zeroValue235; have u127:=run_underlying t127;have t3:=Tryz.underlying3; have a3:=Tryz.isAgg3; have z3:=Tryz.sizeOf3; have v3:=Tryz.zeroValue3; have u3:=run_underlying t3;have t9:=Tryz.underlying9; have a9:=Tryz.isAgg9; have z9:=Tryz.sizeOf9; have v9:=Tryz.zeroValue9; have u9:=run_underlying t9;have t5:=Tryz.underlying5; have a5:=Tryz.isAgg5; have z5:=Tryz.sizeOf5; have v5:=Tryz.zeroValue5; have u5:=run_underlying t5
 go_enter Tryz.func170,Tryz.ntmps170
 go_wp2
 go_region_o
 all_goals (go_wp2; go_ret; exact⟨rfl,rfl⟩)
set_option maxRecDepth 100000 in
theorem Tryz.String_room(b g cap:Nat)(p:Value)(w:World)(hc0:cap≠0)(hbk:w.heap[b]? = some (.cells #[p,.slice (some ⟨g,0,none⟩) 0 cap] 177 (0,0))):
  Calls Tryz.prog 170 #[.pointer (some ⟨b,0,none⟩)] w fun e w'=>e = .returned (.string ⟨#[]⟩)/\w'=w.drew:=by
 have hUS:∀ W q,(Builtin.unsafeString_ #[235,3] 9 #[.pointer q,.int .i64 0]).run Tryz.prog W = .ok (.string .empty) W:=fun W q=>Lib.run_unsafeString_none W _ _ _ q;have c1:w.drew.cell? ⟨b,1,none⟩=some (.slice (some ⟨g,0,none⟩) 0 cap):=by have:w.drew.heap[b]? = some (.cells #[p,.slice (some ⟨g,0,none⟩) 0 cap] 177 (0,0)):=hbk;rw[Lib.cell_of_heap this]; rfl
 have hSD:(Builtin.unsafeSliceData_ #[175] 235 #[.slice (some ⟨g,0,none⟩) 0 cap]).run Tryz.prog w.drew = .ok (.pointer (some ⟨g,0,none⟩)) w.drew:=
  Lib.run_unsafeSliceData_row _ _ _ _ _ _ hc0
 clear hc0;have mixed:Tryz.prog.follows .mixedOrders=true:=by rfl
 have t72:=Tryz.underlying177; have a72:=Tryz.isAgg177; have z72:=Tryz.sizeOf177; have v72:=Tryz.zeroValue177; have u72:=run_underlying t72;have t70:=Tryz.underlying174; have a70:=Tryz.isAgg174; have z70:=Tryz.sizeOf174; have v70:=Tryz.zeroValue174; have u70:=run_underlying t70;have t37:=Tryz.underlying175; have a37:=Tryz.isAgg175; have z37:=Tryz.sizeOf175; have v37:=Tryz.zeroValue175; have u37:=run_underlying t37;have t127:=Tryz.underlying235; have a127:=Tryz.isAgg235; have z127:=Tryz.sizeOf235; have v127:=Tryz.zeroValue235; have u127:=run_underlying t127;have t3:=Tryz.underlying3; have a3:=Tryz.isAgg3; have z3:=Tryz.sizeOf3; have v3:=Tryz.zeroValue3; have u3:=run_underlying t3;have t9:=Tryz.underlying9; have a9:=Tryz.isAgg9; have z9:=Tryz.sizeOf9; have v9:=Tryz.zeroValue9; have u9:=run_underlying t9;have t5:=Tryz.underlying5; have a5:=Tryz.isAgg5; have z5:=Tryz.sizeOf5; have v5:=Tryz.zeroValue5; have u5:=run_underlying t5
 go_enter Tryz.func170,Tryz.ntmps170
 go_wp2
 go_region_o
 all_goals (go_wp2; go_ret; exact⟨rfl,rfl⟩)
end Go.Proofs
namespace Go.Proofs
open Go.Shelf Go.RowKit
theorem xY{P:Program}{w:World}{ops:Array Oper}{rest:List Oper}{o:Oper}{a:Act}{Q:Exit->Act->World->Prop}(hgd:o.guard=none)(sl x:Operand)(t u:TypeId)
  (ho:o.op = .call { callee:=.builtin .append,args:=#[sl,x],argTypes:=#[t,u] })(ty:TypeId)(hty:o.type=ty)(v:Value)(s:ByteArray)(hs:a.eval sl=v)(hx:a.eval x = .string s)(v':Value)(w':World)
  (hr:(Builtin.append_ #[t,u] ty #[v,.string s]).run P w = .ok v' w')(h:wpList P ops Q rest (a.put o.dst v') w'):wpList P ops Q (o::rest) a w:=by
 refine wpList_plain hgd fun K hK=>?_;unfold Oper.wp execOp;simp only[ho,hty,resolve,invoke,builtin,Sem.run_bind,Sem.run_pure,Result.andThen_ok,List.map_toArray,List.map_cons,List.map_nil,hs,hx,hr];exact hK _ _ h
set_option maxRecDepth 100000 in
theorem Tryz.WriteString_ex(b:Nat)(v:Value)(ao:Option Addr)(n' cap:Nat)(s:ByteArray)(w w1 w2:World)(hcc:Calls Tryz.prog 222 #[.pointer (some ⟨b,0,none⟩)] w fun e w'=>e = .returned (.tuple #[])/\w'=w1)
  (hbk:w1.heap[b]? = some (.cells #[.pointer (some ⟨b,0,none⟩),v] 177 (0,0)))(hap:(Builtin.append_ #[175,9] 175 #[v,.string s]).run Tryz.prog w1 = .ok (.slice ao n' cap) w2)
  (hb2:w2.heap[b]? = some (.cells #[.pointer (some ⟨b,0,none⟩),v] 177 (0,0))):
  Calls Tryz.prog 167 #[.pointer (some ⟨b,0,none⟩),.string s] w fun e w'=>e = .returned (.tuple #[.int .i64 s.size,.nilIface])/\w'=w2.setCell ⟨b,1,none⟩ (.slice ao n' cap):=by
 have mixed:Tryz.prog.follows .mixedOrders=true:=by kernel_rfl
 have t72:=Tryz.underlying177; have a72:=Tryz.isAgg177; have z72:=Tryz.sizeOf177; have v72:=Tryz.zeroValue177; have u72:=run_underlying t72;have t70:=Tryz.underlying174; have a70:=Tryz.isAgg174; have z70:=Tryz.sizeOf174; have v70:=Tryz.zeroValue174; have u70:=run_underlying t70;have t37:=Tryz.underlying175; have a37:=Tryz.isAgg175; have z37:=Tryz.sizeOf175; have v37:=Tryz.zeroValue175; have u37:=run_underlying t37;have t3:=Tryz.underlying3; have a3:=Tryz.isAgg3; have z3:=Tryz.sizeOf3; have v3:=Tryz.zeroValue3; have u3:=run_underlying t3;have t9:=Tryz.underlying9; have a9:=Tryz.isAgg9; have z9:=Tryz.sizeOf9; have v9:=Tryz.zeroValue9; have u9:=run_underlying t9;have t4:=Tryz.underlying4; have a4:=Tryz.isAgg4; have z4:=Tryz.sizeOf4; have v4:=Tryz.zeroValue4; have u4:=run_underlying t4;have t5:=Tryz.underlying5; have a5:=Tryz.isAgg5; have z5:=Tryz.sizeOf5; have v5:=Tryz.zeroValue5; have u5:=run_underlying t5;have e167:∀ args w,(callFunc 222 args).run Tryz.prog w = .ok (.enter 222 args) w:=enters_of Tryz.func222 (by kernel_rfl) rfl
 go_enter Tryz.func167,Tryz.ntmps167
 go_wp2_with (go_at_fn 222; refine hcc.mono ?_)
 rintro e w' ⟨rfl,rfl⟩;have c0:w'.cell? ⟨b,0,none⟩=some (.pointer (some ⟨b,0,none⟩)):=by rw[Lib.cell_of_heap hbk]; rfl
 have c1:w'.cell? ⟨b,1,none⟩=some v:=by rw[Lib.cell_of_heap hbk]; rfl
 have d0:w2.cell? ⟨b,0,none⟩=some (.pointer (some ⟨b,0,none⟩)):=by rw[Lib.cell_of_heap hb2]; rfl
 have d1:w2.cell? ⟨b,1,none⟩=some v:=by rw[Lib.cell_of_heap hb2]; rfl
 have f1:w2.frozen? ⟨b,1,none⟩=false:=Lib.frozen_of_heap hb2 1
 go_wp2_with (at_builtin; refine xY rfl _ _ 175 9 rfl 175 rfl _ s rfl rfl _ _ hap ?_)
 go_wp2
 go_ret2
 exact⟨rfl,rfl⟩
end Go.Proofs
namespace Go.PL
open Go
theorem aGR(x:ByteArray):(⟨x.data.toList.toArray⟩:ByteArray)=x:=by rfl
theorem bBN{x:ByteArray}(h:x.size=0):x=⟨#[]⟩:=by
 cases x with
 | mk d=>have:d=#[]:=Jj h; rw[this]
theorem kZ{g:Nat->Value}{w w':World}{F:Nat->Prop}{H:Hp}(hH:HpR F g w (fun _=>True) H)(hF:∀ b,F b->b<w.heap.size)
  (hos:w'.os=w.os)(htp:w'.tape=w.tape)(hout:w'.output=w.output)(hsz:w.heap.size<=w'.heap.size)(hb:∀ b,b<w.heap.size->¬ Own g w H b->w'.heap[b]? = w.heap[b]?):
  Yk { w0:=w,F0:=F,B0:=Own g w H,g0:=g,N:=[],nt:=0 } F g [] w':=by
 refine⟨⟨fun o x h=>by simp at h,fun o x b h=>by simp at h,fun o x o' y b h=>by simp at h⟩,fun b h=>h,fun b h=>⟨Ho (hF b h) hsz,.inl h⟩,⟨hos,htp,hout,hsz,hb⟩,fun o h=>by rfl,?_⟩;rintro b ⟨o,x,h1,h2⟩;exact h2.block (hH.obj o x h1)
theorem aNR(x:ByteArray):dD Proofs.Tryz.prog 170 [.ptr 30000 0] [(30000,.bld 177 5 x)] [] (some x) (fun y=>.t (.str y)) (fun _=>[]):=by
 refine⟨bL Proofs.Tryz.func170 (by rfl),fun y hy=>?_⟩;cases hy;intro F g w vs hs hv hH hF hgl;obtain⟨b,p,v,h1,h2,h3,h4⟩:=hH.obj 30000 _ (cR.2 rfl);have h0:0<vs.size:=by simp_all
 have hv0:=hv 0 _ vs[0] rfl (by simp[h0]);have hvs:vs=#[.pointer (some ⟨b,0,none⟩)]:=by
  have e0:vs[0] = .pointer (some ⟨b,0,none⟩):=by
   generalize vs[0]=u at hv0;cases hv0 with
   | ptr hg=>simp_all
  grind
 subst hvs;have post:∀ {w':World},w'.os=w.os->w'.tape=w.tape->w'.output=w.output->w.heap.size<=w'.heap.size->(∀ q,q<w.heap.size->¬ Own g w [(30000,.bld 177 5 x)] q->w'.heap[q]? = w.heap[q]?) ->
   ∃ v r H' F' g',Ending.returned (.string x) = .returned v/\vZ (.t (.str x)) [] r H'/\VR F' g' w' r v/\Yk { w0:=w,F0:=F,B0:=Own g w [(30000,.bld 177 5 x)],g0:=g,N:=[],nt:=0 } F' g' H' w':=
  fun e1 e2 e3 e4 e5=>⟨_,_,_,F,g,rfl,⟨rfl,rfl⟩,.t (.str _),kZ hH hF e1 e2 e3 e4 e5⟩
 rcases h4 with⟨rfl,hx0⟩ | ⟨r,cap,cur,rfl,k1,k2,k3,k4,k5,k6⟩
 ·have hx:x=⟨#[]⟩:=bBN hx0;refine(Proofs.Tryz.String_nil b p w h2).mono ?_;rintro e w' ⟨rfl,rfl⟩;rw[<-hx];exact post rfl rfl rfl (dL _) (fun _ _ _=>rfl)
 ·have hblt:b<w.heap.size:=(Ok.1 h2).1;by_cases hx0:x.size=0
  ·have hx:x=⟨#[]⟩:=bBN hx0;rw[hx0]at h2;by_cases hc:cap=0
   ·subst hc;refine(Proofs.Tryz.String_noroom b r p cur w hblt h2 k1).mono ?_;rintro e w' ⟨rfl,rfl⟩;rw[<-hx];exact post rfl rfl rfl (by simp_all) (fun q hq _=>heap_alloc_old w.drew _ hq)
   ·refine(Proofs.Tryz.String_room b r cap p w hc h2).mono ?_;rintro e w' ⟨rfl,rfl⟩;rw[<-hx];exact post rfl rfl rfl (dL _) (fun _ _ _=>rfl)
  ·have hl:x.data.toList.length=x.size:=by simp
   have hne:x.data.toList≠[]:=by grind
   have h2':=h2;rw[<-hl]at h2';refine(Proofs.Tryz.String_row b r cap p cur x.data.toList hne w h2' k1 (by omega) k4 (by omega) (fun q u hu=>?_)).mono ?_
   ·have hq:q<x.size:=by grind
    have:=congrArg (·[q]?) k6;simp only[wJ,aB hq,jF,iJ,hu]at this;simp_all
   ·rintro e w' ⟨rfl,rfl⟩;rw[aGR];have hn:x.data.toList.length≠0:=by omega
    refine post ?_ ?_ ?_ ?_ (fun q hq ho=>?_)
    ·simp only[World.freeze,aF hn]; rfl
    ·simp only[World.freeze,aF hn]; rfl
    ·simp only[World.freeze,aF hn]; rfl
    ·simp only[World.freeze,aF hn];simp_all
    ·have hqr:q≠r:=fun e=>ho ⟨30000,_,cR.2 rfl,.bld h1 h2 (by rw[e]; rfl)⟩;simp only[World.freeze,aF hn];rw[aBA,aF (fun e=>hqr e.symm)];rfl
end Go.PL
namespace Go.PL
open Go Go.Lib
theorem rJ(w:World)(b q:Nat)(u c0 c1:Value)(ty:Nat)(hb:w.heap[b]? = some (.cells #[c0,c1] ty (0,0)))(_hq:q<2):
  (w.setCell ⟨b,q,none⟩ u).heap[b]? = some (.cells (#[c0,c1].setIfInBounds q u) ty (0,0)):=by
 simp[World.setCell,aBA,hb]
theorem jW(w:World)(b q k:Nat)(u:Value)(hk:k≠b):(w.setCell ⟨b,q,none⟩ u).heap[k]? = w.heap[k]?:=by simp[World.setCell,aBA,Ne.symm hk]
theorem yD(w:World)(b q:Nat)(u:Value):(w.setCell ⟨b,q,none⟩ u).heap.size=w.heap.size:=by simp_all
def aSZ(w:World)(v:Value)(s:ByteArray):Prop:=
 (v = .slice none 0 0/\s.size=0)\/∃ r cap cur,v = .slice (some ⟨r,0,none⟩) s.size cap/\w.heap[r]? = some (.cells cur 5 (0,0))/\s.size<=cap/\cap<=maxLen/\cur.size=cap/\cur.toList.take s.size=jF s
theorem xD(x s:ByteArray):jF (x++s)=jF x++jF s:=by simp[jF,ByteArray.data_append]
theorem wV(s:ByteArray):(jF s).length=s.size:=by simp[jF]
theorem Zc(x s:ByteArray)(w:World)(v:Value)(hr:aSZ w v x)(hC:x.size+s.size<=140737488355328):
  ∃ ao n cap w2,(Builtin.append_ #[175,9] 175 #[v,.string s]).run Proofs.Tryz.prog w = .ok (.slice ao n cap) w2/\aSZ w2 (.slice ao n cap) (x++s)/\(∀ k,k<w.heap.size->blk v≠some k->w2.heap[k]? = w.heap[k]?) /\
   w.heap.size<=w2.heap.size/\w2.os=w.os/\w2.tape=w.tape/\w2.output=w.output/\(∀ k,blk (.slice ao n cap)=some k->blk v=some k\/w.heap.size<=k):=by
 have htx:Proofs.Tryz.prog.underlying 9=some .string:=Proofs.Tryz.underlying9;have ht:Proofs.Tryz.prog.underlying 175=some (.slice 5):=Proofs.Tryz.underlying175;have hi0:(Proofs.Tryz.prog.info? 5).map (fun i=>(i.zero,i.size,i.bytes))=some (some (.int .u8 0),1,1):=by kernel_rfl
 obtain⟨i,hi,hi1⟩:=kH.1 hi0;injection hi1 with hz hi2;injection hi2 with hs hb;have hsz:(x++s).size=x.size+s.size:=eX;have hsc:strCells s=jF s:=rfl;rcases hr with⟨rfl,hx0⟩ | ⟨r,cap,cur,rfl,h1,h2,h3,h4,h5⟩
 ·have hx:jF (x++s)=jF s:=by have h0:jF x=[]:=yK (by rw[wV]; exact hx0);rw[xD,h0,kS]
  by_cases hs0:s.size=0
  ·refine⟨none,0,0,w,?_,.inl ⟨rfl,by omega⟩,fun _ _ _=>rfl,dL _,rfl,rfl,rfl,fun k h=>by simp_all⟩;simp[Builtin.append_,run_underlying ht,run_underlying htx,sizeOf,typeInfo,hi,Builtin.lenOf,hs0,Builtin.firstCells]
  ·have hrun:=pQ (P:=Proofs.Tryz.prog) w 175 9 175 5 i _ ht htx hi hz s (by omega) (by omega) (by rw[hb]; omega);refine⟨_,_,_,_,hrun,.inr ⟨_,_,_,by rw[hsz,hx0,jO]; rfl,heap_alloc_new w.drew _,?_,?_,?_,?_⟩,fun k hk _=>heap_alloc_old w.drew _ hk,?_,rfl,rfl,rfl,fun k h=>?_⟩
   ·rw[hsz,hx0,jO]; exact grownCap_ge w s.size 0 5
   ·exact grownCap_le_maxLen w s.size 0 5 (by simp only[maxLen]; omega)
   ·have:=grownCap_ge w s.size 0 5;simp only[Cr,Cc,strCells_length,size_zeroCells];simp[Value.cells]; omega
   ·rw[hx,hsz,hx0,jO];simp only[Array.toList_append];rw[aDL (by simp[strCells_length]),fT (by simp[strCells_length])];rfl
   ·simp_all
   ·simp[blk]at h; omega
 ·have hrl:r<w.heap.size:=(Ok.1 h1).1;by_cases hroom:x.size+s.size<=cap
  ·have hrun:=run_append_room_string (P:=Proofs.Tryz.prog) w 175 9 175 5 i ht htx hi hs r x.size cap cur h1 s hroom (by omega);refine⟨_,_,_,_,hrun,.inr ⟨r,cap,_,by rw[hsz],setRow_heap w r cur _ 5 _ h1,by omega,h3,?_,?_⟩,fun k hk hne=>setRow_other w r k _ (fun e=>hne (by rw[e]; rfl)),by simp,rfl,rfl,rfl,fun k h=>.inl h⟩
   ·simp only[Cc,cE,gO,nV,strCells_length,uE]; omega
   ·rw[hsz,xD,hsc,h5];have hl1:(jF x++jF s).length=x.size+s.size:=by simp[wV]
    rw[aDL (by omega),fT (by omega)]
  ·have hol:(cur.toList.take x.size).length=x.size*i.size:=by grind
   have hrun:=run_append_grow_string (P:=Proofs.Tryz.prog) w 175 9 175 5 i _ ht htx hi hz ⟨r,0,none⟩ x.size cap (cur.toList.take x.size) hol (fun k u hu=>by
    rw[Addr.add_none,jO];rw[wJ]at hu;split at hu
    ·simpa[World.cell?,h1] using hu
    ·cases hu) s (by omega) (by omega) (growslice_fits (by omega) (by simp_all))
   refine⟨_,_,_,_,hrun,.inr ⟨_,_,_,by rw[hsz]; rfl,heap_alloc_new w.drew _,?_,?_,?_,?_⟩,fun k hk _=>heap_alloc_old w.drew _ hk,?_,rfl,rfl,rfl,fun k h=>?_⟩
   ·rw[hsz]; exact grownCap_ge w (x.size+s.size) cap 5
   ·exact grownCap_le_maxLen w (x.size+s.size) cap 5 (by simp only[maxLen]; omega)
   ·have:=grownCap_ge w (x.size+s.size) cap 5;rw[hs,Nat.mul_one]at hol;simp only[Cr,Cc,hol,strCells_length,size_zeroCells];simp[Value.cells]; omega
   ·rw[hsz,xD,hsc,h5];have hl1:(jF x++jF s).length=x.size+s.size:=by simp[wV]
    simp only[Array.toList_append];rw[aDL (by omega),fT (by omega)]
   ·simp_all
   ·simp[blk]at h; omega
theorem On(x s:ByteArray):dD Proofs.Tryz.prog 167 [.ptr 30000 0,.t (.str s)] [(30000,.bld 177 5 x)] [30000] (if x.size+s.size<=140737488355328 then some () else none)
  (fun _:Unit=>.tup [.t (.int .i64 s.size),.lit .nilIface]) (fun _=>[(30000,.bld 177 5 (x++s))]):=by
 refine⟨bL Proofs.Tryz.func167 (by rfl),fun y hy=>?_⟩;split at hy
 case isFalse=>cases hy
 rename_i hC;intro F g w vs hs hv hH hF hgl;have hmem:(30000,bF.bld 177 5 x)∈([(30000,.bld 177 5 x)]:Hp):=cR.2 rfl;obtain⟨b,p,v,h1,h2,h3,h4⟩:=hH.obj 30000 _ hmem;have hs2:vs.size=2:=hs;have hv0:=hv 0 _ (vs[0]'(by omega)) rfl (by simp[hs2]);have hv1:=hv 1 _ (vs[1]'(by omega)) rfl (by simp[hs2]);have hvs:vs=#[.pointer (some ⟨b,0,none⟩),.string s]:=by
  have e0:vs[0]'(by omega) = .pointer (some ⟨b,0,none⟩):=by
   generalize vs[0]'(by omega)=u at hv0;cases hv0 with
   | ptr hg=>simp_all
  have e1:vs[1]'(by omega) = .string s:=hv1.inv_str;grind
 subst hvs;have hblt:b<w.heap.size:=(Ok.1 h2).1;have rowb:aSZ w v x:=by
  rcases h4 with h4 | ⟨r,cap,cur,k1,k2,k3,k4⟩
  ·exact .inl h4
  ·exact .inr ⟨r,cap,cur,k1,k2,k4⟩
 have hvb:blk v≠some b:=by
  rcases h4 with⟨rfl,_⟩ | ⟨r,cap,cur,rfl,k2,k3,k4⟩
  ·simp[blk]
  ·simp[blk]; exact k3
 obtain⟨w1,c1,c2,c3,c4,c5,c6,c7⟩:∃ w1,(Calls Proofs.Tryz.prog 222 #[.pointer (some ⟨b,0,none⟩)] w fun e w'=>e = .returned (.tuple #[])/\w'=w1)/\w1.heap[b]? = some (.cells #[.pointer (some ⟨b,0,none⟩),v] 177 (0,0)) /\
   (∀ k,k≠b->w1.heap[k]? = w.heap[k]?)/\w1.heap.size=w.heap.size/\w1.os=w.os/\w1.tape=w.tape/\w1.output=w.output:=by
  rcases h3 with rfl | rfl
  ·refine⟨_,Proofs.Tryz.copyCheck_fresh b w (by rw[Lib.cell_of_heap h2]; rfl) (by simp[World.shape?,h2]) (Lib.frozen_of_heap h2 0),?_,fun k hk=>jW w b 0 k _ hk,yD ..,rfl,rfl,rfl⟩;rw[rJ w b 0 _ _ _ _ h2 (by decide)];rfl
  ·exact⟨w,Proofs.Tryz.copyCheck_used b w (by rw[Lib.cell_of_heap h2]; rfl),h2,fun _ _=>rfl,rfl,rfl,rfl,rfl⟩
 have rowb1:aSZ w1 v x:=by
  rcases rowb with h | ⟨r,cap,cur,k1,k2,k3⟩
  ·exact .inl h
  ·refine .inr ⟨r,cap,cur,k1,?_,k3⟩;grind
 obtain⟨ao,n',cap',w2,d1,d2,d3,d4,d5,d6,d7,d8⟩:=Zc x s w1 v rowb1 hC;have hb2:w2.heap[b]? = some (.cells #[.pointer (some ⟨b,0,none⟩),v] 177 (0,0)):=by simp_all
 have hv'b:blk (.slice ao n' cap')≠some b:=fun e=>by grind
 refine(Proofs.Tryz.WriteString_ex b v ao n' cap' s w w1 w2 c1 c2 d1 hb2).mono ?_;rintro e w' ⟨rfl,rfl⟩;have hold:∀ k,k<w.heap.size->k≠b->blk v≠some k->(w2.setCell ⟨b,1,none⟩ (.slice ao n' cap')).heap[k]? = w.heap[k]?:=fun k hk hkb hkv=>by rw[jW w2 b 1 k _ hkb,d3 k (by omega) hkv,c3 k hkb]
 have hbld:bJA (w2.setCell ⟨b,1,none⟩ (.slice ao n' cap')) (g 30000) 177 5 (x++s):=by
  refine⟨b,.pointer (some ⟨b,0,none⟩),.slice ao n' cap',h1,?_,.inr rfl,?_⟩
  ·rw[rJ w2 b 1 _ _ _ _ hb2 (by decide)]; rfl
  ·rcases d2 with h | ⟨r,cap,cur,k1,k2,k3⟩
   ·exact .inl h
   ·have hrb:r≠b:=fun e=>hv'b (by simp_all);exact .inr ⟨r,cap,cur,k1,by rw[jW w2 b 1 r _ hrb]; exact k2,hrb,k3⟩
 have hfoot:∀ q,bD g (w2.setCell ⟨b,1,none⟩ (.slice ao n' cap')) 30000 (.bld 177 5 (x++s)) q->q=b\/blk (.slice ao n' cap')=some q:=by
  intro q hq;cases hq with
  | self h=>rw[h1]at h; simp[blk]at h; omega
  | bld k1 k2 k3=>rw[h1]at k1; injection k1 with k1; injection k1 with k1; injection k1 with k1; subst k1;rw[rJ w2 b 1 _ _ _ _ hb2 (by decide)]at k2;simp_all
 have hown:∀ q,blk v=some q->bD g w 30000 (.bld 177 5 x) q:=fun q hq=>.bld h1 h2 hq;have hself:bD g w 30000 (.bld 177 5 x) b:=.self (by rw[h1]; rfl);refine⟨_,_,_,F,g,rfl,⟨rfl,rfl⟩,.tup rfl fun j q u hq hu=>?_,⟨⟨fun o q hq=>?_,fun o q c hq hc=>?_,fun o q o' q' c hq hq' hne=>?_⟩,fun b h=>h,fun c hc=>⟨?_,.inl hc⟩,⟨?_,?_,?_,?_,fun c hc hn=>?_⟩,fun _ _=>rfl,?_⟩⟩
 ·match j,hq,hu with
  | 0,hq,hu=>simp at hq hu; subst hq; subst hu; exact .t (.int _ _)
  | 1,hq,hu=>simp at hq hu; subst hq; subst hu; exact .lit rfl
  | j+2,hq,_=>simp at hq
 ·cases cR.1 hq; exact hbld
 ·cases cR.1 hq;rcases hfoot c hc with rfl | h
  ·exact⟨(hH.own _ _ _ hmem hself).1,.inl ⟨_,_,hmem,hself⟩⟩
  ·rcases d8 c h with h | h
   ·exact⟨(hH.own _ _ _ hmem (hown c h)).1,.inl ⟨_,_,hmem,hown c h⟩⟩
   grind
 ·simp_all
 ·rw[yD]; grind
 ·show w2.os=w.os; rw[d5,c5]
 ·show w2.tape=w.tape; rw[d6,c6]
 ·show w2.output=w.output; rw[d7,c7]
 ·simp_all
 ·exact hold c hc (fun e=>hn ⟨_,_,hmem,e▸hself⟩) (fun e=>hn ⟨_,_,hmem,hown c e⟩)
 ·rintro c ⟨o,q,k1,k2⟩;exact k2.block (hH.obj o q k1)
end Go.PL
namespace Go.Proofs
open Go.Shelf
def Tryz.lays106_ren:Go.Shelf.Ren:=⟨fun | 106=>240 | 213=>280 | 265=>301 | n=>n,fun | 9=>9 | 3=>3 | n=>n,fun | n=>n⟩
theorem Tryz.lays106:Go.Proofs.Lays.n106 Tryz.prog Tryz.lays106_ren:={
 mixed:=by kernel_rfl
 f106:=Tryz.func240.trans (congrArg some (by kernel_rfl))
 f213:=Tryz.func280.trans (congrArg some (by kernel_rfl))
 f265:=Tryz.func301.trans (congrArg some (by kernel_rfl))
 t3:=Tryz.underlying3
 a3:=Tryz.isAgg3
 z3:=Tryz.sizeOf3
 v3:=Tryz.zeroValue3
 t9:=Tryz.underlying9
 a9:=Tryz.isAgg9
 z9:=Tryz.sizeOf9
 v9:=Tryz.zeroValue9 }
open Go.RowKit in
theorem Tryz.strings_Compare(a b:ByteArray)(w:World):
  Calls Tryz.prog 240 #[.string a,.string b] w fun e w'=>e = .returned (.int .i64 (Lib.compareBytes a.data.toList b.data.toList))/\w'=w:=Any.strings_Compare Tryz.lays106 a b w
def Tryz.lays137_ren:Go.Shelf.Ren:=⟨fun | 137=>257 | 217=>287 | 266=>313 | n=>n,fun | 9=>9 | 5=>5 | 3=>3 | n=>n,fun | n=>n⟩
theorem Tryz.lays137:Go.Proofs.Lays.n137 Tryz.prog Tryz.lays137_ren:={
 mixed:=by kernel_rfl
 f137:=Tryz.func257.trans (congrArg some (by kernel_rfl))
 f217:=Tryz.func287.trans (congrArg some (by kernel_rfl))
 f266:=Tryz.func313.trans (congrArg some (by kernel_rfl))
 t3:=Tryz.underlying3
 a3:=Tryz.isAgg3
 z3:=Tryz.sizeOf3
 v3:=Tryz.zeroValue3
 t5:=Tryz.underlying5
 a5:=Tryz.isAgg5
 z5:=Tryz.sizeOf5
 v5:=Tryz.zeroValue5
 t9:=Tryz.underlying9
 a9:=Tryz.isAgg9
 z9:=Tryz.sizeOf9
 v9:=Tryz.zeroValue9 }
open Go.RowKit in
theorem Tryz.strings_IndexByte(s:ByteArray)(c:Int)(w:World):
  Calls Tryz.prog 257 #[.string s,.int .u8 c] w fun e w'=>e = .returned (.int .i64 (Lib.indexByte s.data.toList c.toNat.toUInt8))/\w'=w:=Any.strings_IndexByte Tryz.lays137 s c w
def Tryz.laysM171_ren:Go.Shelf.Ren:=⟨fun | 171=>166 | 243=>221 | 246=>275 | 283=>295 | 284=>296 | 285=>297 | 286=>298 | 129=>312 | 317=>321 | 318=>322 | 319=>323 | 320=>324 | 337=>344 | 338=>345 | n=>n,fun | 3=>3 | 9=>9 | 2=>2 | 4=>4 | 171=>288 | 0=>0 | 53=>269 | 37=>175 | 5=>5 | 173=>291 | 212=>311 | 51=>266 | 20=>20 | 213=>312 | 46=>232 | 232=>338 | 233=>339 | n=>n,fun | 17=>1 | 18=>4 | 19=>5 | n=>n⟩
theorem Tryz.laysM171:Go.Proofs.LaysM.n171 Tryz.prog Tryz.laysM171_ren:={
 mixed:=by kernel_rfl
 f129:=Tryz.func312.trans (congrArg some (by kernel_rfl))
 f171:=Tryz.func166.trans (congrArg some (by kernel_rfl))
 f243:=Tryz.func221.trans (congrArg some (by kernel_rfl))
 f246:=Tryz.func275.trans (congrArg some (by kernel_rfl))
 f283:=Tryz.func295.trans (congrArg some (by kernel_rfl))
 f284:=Tryz.func296.trans (congrArg some (by kernel_rfl))
 f285:=Tryz.func297.trans (congrArg some (by kernel_rfl))
 f286:=Tryz.func298.trans (congrArg some (by kernel_rfl))
 f317:=Tryz.func321.trans (congrArg some (by kernel_rfl))
 f318:=Tryz.func322.trans (congrArg some (by kernel_rfl))
 f319:=Tryz.func323.trans (congrArg some (by kernel_rfl))
 f320:=Tryz.func324.trans (congrArg some (by kernel_rfl))
 f337:=Tryz.func344.trans (congrArg some (by kernel_rfl))
 f338:=Tryz.func345.trans (congrArg some (by kernel_rfl))
 t0:=Tryz.underlying0
 a0:=Tryz.isAgg0
 z0:=Tryz.sizeOf0
 v0:=Tryz.zeroValue0
 t2:=Tryz.underlying2
 a2:=Tryz.isAgg2
 z2:=Tryz.sizeOf2
 v2:=Tryz.zeroValue2
 t3:=Tryz.underlying3
 a3:=Tryz.isAgg3
 z3:=Tryz.sizeOf3
 v3:=Tryz.zeroValue3
 t4:=Tryz.underlying4
 a4:=Tryz.isAgg4
 z4:=Tryz.sizeOf4
 v4:=Tryz.zeroValue4
 t5:=Tryz.underlying5
 a5:=Tryz.isAgg5
 z5:=Tryz.sizeOf5
 v5:=Tryz.zeroValue5
 t9:=Tryz.underlying9
 a9:=Tryz.isAgg9
 z9:=Tryz.sizeOf9
 v9:=Tryz.zeroValue9
 t20:=Tryz.underlying20
 a20:=Tryz.isAgg20
 z20:=Tryz.sizeOf20
 v20:=Tryz.zeroValue20
 t37:=Tryz.underlying175
 a37:=Tryz.isAgg175
 z37:=Tryz.sizeOf175
 v37:=Tryz.zeroValue175
 t46:=Tryz.underlying232
 a46:=Tryz.isAgg232
 z46:=Tryz.sizeOf232
 v46:=Tryz.zeroValue232
 t51:=Tryz.underlying266
 a51:=Tryz.isAgg266
 z51:=Tryz.sizeOf266
 v51:=Tryz.zeroValue266
 t53:=Tryz.underlying269
 a53:=Tryz.isAgg269
 z53:=Tryz.sizeOf269
 v53:=Tryz.zeroValue269
 t171:=Tryz.underlying288
 a171:=Tryz.isAgg288
 z171:=Tryz.sizeOf288
 v171:=Tryz.zeroValue288
 t173:=Tryz.underlying291
 a173:=Tryz.isAgg291
 z173:=Tryz.sizeOf291
 v173:=Tryz.zeroValue291
 t212:=Tryz.underlying311
 a212:=Tryz.isAgg311
 z212:=Tryz.sizeOf311
 v212:=Tryz.zeroValue311
 t213:=Tryz.underlying312
 a213:=Tryz.isAgg312
 z213:=Tryz.sizeOf312
 t232:=Tryz.underlying338
 a232:=Tryz.isAgg338
 z232:=Tryz.sizeOf338
 v232:=Tryz.zeroValue338
 t233:=Tryz.underlying339
 a233:=Tryz.isAgg339
 z233:=Tryz.sizeOf339
 v233:=Tryz.zeroValue339
 g17:=by kernel_rfl
 g18:=by kernel_rfl
 g19:=by kernel_rfl
 i0:=by kernel_rfl
 i2:=by kernel_rfl
 i3:=by kernel_rfl
 i4:=by kernel_rfl
 i5:=by kernel_rfl
 i9:=by kernel_rfl
 i20:=by kernel_rfl
 i37:=by kernel_rfl
 i46:=by kernel_rfl
 i51:=by kernel_rfl
 i53:=by kernel_rfl
 i171:=by kernel_rfl
 i173:=by kernel_rfl
 i212:=by kernel_rfl
 i232:=by kernel_rfl
 i233:=by kernel_rfl
 m17:=by kernel_rfl
 m18:=by kernel_rfl
 m19:=by kernel_rfl }
open Go.RowKit Go.Sort Go.Lib in
theorem Tryz.strconv_Itoa(n:Int)(h0:-9223372036854775808<=n)(h1:n<=9223372036854775807)(w:World)(htab:Lib.TabIs Tryz.prog w "internal/strconv.uint64pow10" .u64 Lib.pow10Tab):
  Calls Tryz.prog 166 #[.int .i64 n] w fun e w'=>e = .returned (.string ⟨(Lib.itoa n).toArray⟩)/\∃ k os,w'=grow (w.drewN k) os:=Any.strconv_Itoa Tryz.laysM171 n h0 h1 w htab
def Tryz.laysC172_ren:Go.Shelf.Ren:=⟨fun | 172=>259 | 244=>288 | 245=>289 | 247=>314 | 279=>315 | 280=>316 | 281=>317 | 282=>318 | 287=>340 | 316=>341 | 171=>166 | 205=>342 | 321=>350 | 322=>351 | 243=>221 | 246=>275 | 283=>295 | 284=>296 | 285=>297 | 286=>298 | 129=>312 | 317=>321 | 318=>322 | 319=>323 | 320=>324 | 337=>344 | 338=>345 | n=>n,fun | 9=>9 | 3=>3 | 75=>179 | 76=>180 | 4=>4 | 5=>5 | 167=>304 | 37=>175 | 0=>0 | 85=>305 | 2=>2 | 168=>307 | 53=>269 | 175=>325 | 46=>232 | 210=>328 | 127=>235 | 145=>337 | 143=>335 | 21=>21 | 171=>288 | 173=>291 | 212=>311 | 51=>266 | 20=>20 | 213=>312 | 232=>338 | 233=>339 | 80=>54 | n=>n,fun | 15=>2 | 16=>3 | 17=>1 | 18=>4 | 19=>5 | n=>n⟩
theorem Tryz.laysC172:Go.Proofs.LaysC.n172 Tryz.prog Tryz.laysC172_ren:={
 mixed:=by kernel_rfl
 f129:=Tryz.func312.trans (congrArg some (by kernel_rfl))
 f171:=Tryz.func166.trans (congrArg some (by kernel_rfl))
 f172:=Tryz.func259.trans (congrArg some (by kernel_rfl))
 f205:=Tryz.func342.trans (congrArg some (by kernel_rfl))
 f243:=Tryz.func221.trans (congrArg some (by kernel_rfl))
 f244:=Tryz.func288.trans (congrArg some (by kernel_rfl))
 f245:=Tryz.func289.trans (congrArg some (by kernel_rfl))
 f246:=Tryz.func275.trans (congrArg some (by kernel_rfl))
 f247:=Tryz.func314.trans (congrArg some (by kernel_rfl))
 f279:=Tryz.func315.trans (congrArg some (by kernel_rfl))
 f280:=Tryz.func316.trans (congrArg some (by kernel_rfl))
 f281:=Tryz.func317.trans (congrArg some (by kernel_rfl))
 f282:=Tryz.func318.trans (congrArg some (by kernel_rfl))
 f283:=Tryz.func295.trans (congrArg some (by kernel_rfl))
 f284:=Tryz.func296.trans (congrArg some (by kernel_rfl))
 f285:=Tryz.func297.trans (congrArg some (by kernel_rfl))
 f286:=Tryz.func298.trans (congrArg some (by kernel_rfl))
 f287:=Tryz.func340.trans (congrArg some (by kernel_rfl))
 f316:=Tryz.func341.trans (congrArg some (by kernel_rfl))
 f317:=Tryz.func321.trans (congrArg some (by kernel_rfl))
 f318:=Tryz.func322.trans (congrArg some (by kernel_rfl))
 f319:=Tryz.func323.trans (congrArg some (by kernel_rfl))
 f320:=Tryz.func324.trans (congrArg some (by kernel_rfl))
 f321:=Tryz.func350.trans (congrArg some (by kernel_rfl))
 f322:=Tryz.func351.trans (congrArg some (by kernel_rfl))
 f337:=Tryz.func344.trans (congrArg some (by kernel_rfl))
 f338:=Tryz.func345.trans (congrArg some (by kernel_rfl))
 t0:=Tryz.underlying0
 a0:=Tryz.isAgg0
 z0:=Tryz.sizeOf0
 v0:=Tryz.zeroValue0
 t2:=Tryz.underlying2
 a2:=Tryz.isAgg2
 z2:=Tryz.sizeOf2
 v2:=Tryz.zeroValue2
 t3:=Tryz.underlying3
 a3:=Tryz.isAgg3
 z3:=Tryz.sizeOf3
 v3:=Tryz.zeroValue3
 t4:=Tryz.underlying4
 a4:=Tryz.isAgg4
 z4:=Tryz.sizeOf4
 v4:=Tryz.zeroValue4
 t5:=Tryz.underlying5
 a5:=Tryz.isAgg5
 z5:=Tryz.sizeOf5
 v5:=Tryz.zeroValue5
 t9:=Tryz.underlying9
 a9:=Tryz.isAgg9
 z9:=Tryz.sizeOf9
 v9:=Tryz.zeroValue9
 t20:=Tryz.underlying20
 a20:=Tryz.isAgg20
 z20:=Tryz.sizeOf20
 v20:=Tryz.zeroValue20
 t21:=Tryz.underlying21
 a21:=Tryz.isAgg21
 z21:=Tryz.sizeOf21
 v21:=Tryz.zeroValue21
 t37:=Tryz.underlying175
 a37:=Tryz.isAgg175
 z37:=Tryz.sizeOf175
 v37:=Tryz.zeroValue175
 t46:=Tryz.underlying232
 a46:=Tryz.isAgg232
 z46:=Tryz.sizeOf232
 v46:=Tryz.zeroValue232
 t51:=Tryz.underlying266
 a51:=Tryz.isAgg266
 z51:=Tryz.sizeOf266
 v51:=Tryz.zeroValue266
 t53:=Tryz.underlying269
 a53:=Tryz.isAgg269
 z53:=Tryz.sizeOf269
 v53:=Tryz.zeroValue269
 t75:=Tryz.underlying179
 a75:=Tryz.isAgg179
 z75:=Tryz.sizeOf179
 v75:=Tryz.zeroValue179
 t76:=Tryz.underlying180
 a76:=Tryz.isAgg180
 z76:=Tryz.sizeOf180
 v76:=Tryz.zeroValue180
 t85:=Tryz.underlying305
 a85:=Tryz.isAgg305
 z85:=Tryz.sizeOf305
 v85:=Tryz.zeroValue305
 t127:=Tryz.underlying235
 a127:=Tryz.isAgg235
 z127:=Tryz.sizeOf235
 v127:=Tryz.zeroValue235
 t143:=Tryz.underlying335
 a143:=Tryz.isAgg335
 z143:=Tryz.sizeOf335
 v143:=Tryz.zeroValue335
 t145:=Tryz.underlying337
 a145:=Tryz.isAgg337
 z145:=Tryz.sizeOf337
 v145:=Tryz.zeroValue337
 t167:=Tryz.underlying304
 a167:=Tryz.isAgg304
 z167:=Tryz.sizeOf304
 v167:=Tryz.zeroValue304
 t168:=Tryz.underlying307
 a168:=Tryz.isAgg307
 z168:=Tryz.sizeOf307
 v168:=Tryz.zeroValue307
 t171:=Tryz.underlying288
 a171:=Tryz.isAgg288
 z171:=Tryz.sizeOf288
 v171:=Tryz.zeroValue288
 t173:=Tryz.underlying291
 a173:=Tryz.isAgg291
 z173:=Tryz.sizeOf291
 v173:=Tryz.zeroValue291
 t175:=Tryz.underlying325
 a175:=Tryz.isAgg325
 z175:=Tryz.sizeOf325
 v175:=Tryz.zeroValue325
 t210:=Tryz.underlying328
 a210:=Tryz.isAgg328
 z210:=Tryz.sizeOf328
 v210:=Tryz.zeroValue328
 t212:=Tryz.underlying311
 a212:=Tryz.isAgg311
 z212:=Tryz.sizeOf311
 v212:=Tryz.zeroValue311
 t213:=Tryz.underlying312
 a213:=Tryz.isAgg312
 z213:=Tryz.sizeOf312
 t232:=Tryz.underlying338
 a232:=Tryz.isAgg338
 z232:=Tryz.sizeOf338
 v232:=Tryz.zeroValue338
 t233:=Tryz.underlying339
 a233:=Tryz.isAgg339
 z233:=Tryz.sizeOf339
 v233:=Tryz.zeroValue339
 g15:=by kernel_rfl
 g16:=by kernel_rfl
 g17:=by kernel_rfl
 g18:=by kernel_rfl
 g19:=by kernel_rfl
 t80:=Tryz.underlying54
 a80:=Tryz.isAgg54
 z80:=Tryz.sizeOf54
 v80:=Tryz.zeroValue54
 i0:=by kernel_rfl
 i2:=by kernel_rfl
 i3:=by kernel_rfl
 i4:=by kernel_rfl
 i5:=by kernel_rfl
 i9:=by kernel_rfl
 i20:=by kernel_rfl
 i21:=by kernel_rfl
 i37:=by kernel_rfl
 i46:=by kernel_rfl
 i51:=by kernel_rfl
 i53:=by kernel_rfl
 i75:=by kernel_rfl
 i76:=by kernel_rfl
 i80:=by kernel_rfl
 i85:=by kernel_rfl
 i127:=by kernel_rfl
 i143:=by kernel_rfl
 i145:=by kernel_rfl
 i167:=by kernel_rfl
 i168:=by kernel_rfl
 i171:=by kernel_rfl
 i173:=by kernel_rfl
 i175:=by kernel_rfl
 i210:=by kernel_rfl
 i212:=by kernel_rfl
 i232:=by kernel_rfl
 i233:=by kernel_rfl
 m15:=by kernel_rfl
 m16:=by kernel_rfl
 m17:=by kernel_rfl
 m18:=by kernel_rfl
 m19:=by kernel_rfl
 c0:=by kernel_rfl
 c2:=by kernel_rfl
 c3:=by kernel_rfl
 c4:=by kernel_rfl
 c5:=by kernel_rfl
 c9:=by kernel_rfl
 c20:=by kernel_rfl
 c21:=by kernel_rfl
 c37:=by kernel_rfl
 c46:=by kernel_rfl
 c51:=by kernel_rfl
 c53:=by kernel_rfl
 c75:=by kernel_rfl
 c76:=by kernel_rfl
 c80:=by kernel_rfl
 c85:=by kernel_rfl
 c127:=by kernel_rfl
 c143:=by kernel_rfl
 c145:=by kernel_rfl
 c167:=by kernel_rfl
 c168:=by kernel_rfl
 c171:=by kernel_rfl
 c173:=by kernel_rfl
 c175:=by kernel_rfl
 c210:=by kernel_rfl
 c212:=by kernel_rfl
 c213:=by kernel_rfl
 c232:=by kernel_rfl
 c233:=by kernel_rfl }
open Go.RowKit in
theorem Tryz.strconv_Atoi_ok(s:ByteArray)(hmax:s.size<=9223372036854775806)(v:Int)(h:Lib.atoiAll s.data.toList = .ok v)(w:World):
  Calls Tryz.prog 259 #[.string s] w fun e w'=>e = .returned (.tuple #[.int .i64 v,.nilIface])/\(w'=w\/∃ t,w'=Lib.bytesWorld w 5 t):=Any.strconv_Atoi_ok Tryz.laysC172 s hmax v h w
open Go.RowKit in
theorem Tryz.strconv_Atoi_syntax(s:ByteArray)(hlim:s.size<=281474976710656)(h:Lib.atoiAll s.data.toList=Lib.atoiAll [])(ev:Value)(w:World)(hv:w.cell? ⟨2,0,none⟩=some ev)(hev:ev = .nilIface\/∃ te pe,ev = .iface te pe):
  Calls Tryz.prog 259 #[.string s] w fun e w'=>∃ N,e = .returned (.tuple #[.int .i64 (0),.iface 307 (.pointer (some ⟨N,0,none⟩))])/\w.heap.size<=N/\w'.heap[N]? = some (.cells #[.string ⟨#[65,116,111,105]⟩,.string s,ev] 328 (0,0))/\Below w.heap.size w w':=Any.strconv_Atoi_syntax Tryz.laysC172 s hlim (h.trans (by rfl)) ev w hv hev
open Go.RowKit in
theorem Tryz.strconv_Atoi_range(s:ByteArray)(hlim:s.size<=281474976710656)(h:Lib.atoiAll s.data.toList = .range)(ev:Value)(w:World)(hv:w.cell? ⟨3,0,none⟩=some ev)(hev:ev = .nilIface\/∃ te pe,ev = .iface te pe):
  Calls Tryz.prog 259 #[.string s] w fun e w'=>∃ N,e = .returned (.tuple #[.int .i64 (Lib.atoiSat s.data.toList),.iface 307 (.pointer (some ⟨N,0,none⟩))])/\w.heap.size<=N/\w'.heap[N]? = some (.cells #[.string ⟨#[65,116,111,105]⟩,.string s,ev] 328 (0,0))/\Below w.heap.size w w':=Any.strconv_Atoi_range Tryz.laysC172 s hlim h ev w hv hev
def Tryz.lays212_ren:Go.Shelf.Ren:=⟨fun | 212=>220 | 263=>273 | 264=>274 | n=>n,fun | 46=>232 | 51=>266 | 146=>267 | 53=>269 | 148=>270 | n=>n,fun | n=>n⟩
theorem Tryz.lays212:Go.Proofs.Lays.n212 Tryz.prog Tryz.lays212_ren:={
 mixed:=by kernel_rfl
 f212:=Tryz.func220.trans (congrArg some (by kernel_rfl))
 f263:=Tryz.func273.trans (congrArg some (by kernel_rfl))
 f264:=Tryz.func274.trans (congrArg some (by kernel_rfl))
 t46:=Tryz.underlying232
 a46:=Tryz.isAgg232
 z46:=Tryz.sizeOf232
 v46:=Tryz.zeroValue232
 t51:=Tryz.underlying266
 a51:=Tryz.isAgg266
 z51:=Tryz.sizeOf266
 v51:=Tryz.zeroValue266
 t53:=Tryz.underlying269
 a53:=Tryz.isAgg269
 z53:=Tryz.sizeOf269
 v53:=Tryz.zeroValue269
 t146:=Tryz.underlying267
 a146:=Tryz.isAgg267
 z146:=Tryz.sizeOf267
 v146:=Tryz.zeroValue267
 t148:=Tryz.underlying270
 a148:=Tryz.isAgg270
 z148:=Tryz.sizeOf270
 v148:=Tryz.zeroValue270 }
open Go.RowKit Go.Lib in
theorem Tryz.bits_Mul(x y:Nat)(hx:x<18446744073709551616)(hy:y<18446744073709551616)(w:World):
  Calls Tryz.prog 220 #[.int .u64 x,.int .u64 y] w fun e w'=>e = .returned (.tuple #[.int .u64 ((x*y / 18446744073709551616:Nat):Int),.int .u64 ((x*y % 18446744073709551616:Nat):Int)])/\w'=w:=Any.bits_Mul Tryz.lays212 x y hx hy w
end Go.Proofs
namespace Go.PL
open Go
theorem hv1{F:Nat->Prop}{g:Nat->Value}{w:World}{vs:Array Value}{p:PV}{u:Value}(hs:vs.size=[p].length)(hv:∀ (j:Nat) x v,[p][j]? = some x->vs[j]? = some v->VR F g w x v)(hu:∀ v,VR F g w p v->v=u):vs=#[u]:=by
 have h1:vs.size=1:=hs;have e0:=hu _ (hv 0 _ (vs[0]'(by omega)) rfl (by simp[h1]));apply Array.ext
 ·rw[h1]; rfl
 ·intro q hq _;have:q=0:=by omega
  subst this;simpa using e0
theorem hv2{F:Nat->Prop}{g:Nat->Value}{w:World}{vs:Array Value}{p p':PV}{u u':Value}(hs:vs.size=[p,p'].length)(hv:∀ (j:Nat) x v,[p,p'][j]? = some x->vs[j]? = some v->VR F g w x v)(hu:∀ v,VR F g w p v->v=u)
  (hu':∀ v,VR F g w p' v->v=u'):vs=#[u,u']:=by
 have h1:vs.size=2:=hs;have e0:=hu _ (hv 0 _ (vs[0]'(by omega)) rfl (by simp[h1]));have e1:=hu' _ (hv 1 _ (vs[1]'(by omega)) rfl (by simp[h1]));apply Array.ext
 ·rw[h1]; rfl
 ·intro q hq _
  match q,hq with
  | 0,_=>simpa using e0
  | 1,_=>simpa using e1
  | q+2,hq=>omega
def bJO(a0 a1:ByteArray):Option Int:=some (Lib.compareBytes a0.data.toList a1.data.toList)
theorem aYB(a0 a1:ByteArray):Con Proofs.Tryz.prog 240 [.t (.str a0),.t (.str a1)] (bJO a0 a1) (fun (y:Int)=>.t (.int .i64 y)):=by refine⟨bL Proofs.Tryz.func240 (by kernel_rfl),fun y hy=>?_⟩;cases hy;intro F g w vs hs hv hH hF hgl;have hvs:=hv2 hs hv (u:=.string a0) (u':=.string a1) (fun v h=>h.inv_str) (fun v h=>h.inv_str);subst hvs;refine(Proofs.Tryz.strings_Compare a0 a1 w).mono ?_;rintro e w' ⟨rfl,rfl⟩;exact⟨_,_,[],F,g,rfl,rfl,.t (.int _ _),kZ hH hF rfl rfl rfl (dL _) (fun _ _ _=>rfl)⟩
def aIM(a0:Int):Option ByteArray:=if -9223372036854775808<=a0/\a0<=9223372036854775807 then some ⟨(Lib.itoa a0).toArray⟩ else none
theorem Nm(a0:Int):Con Proofs.Tryz.prog 166 [.t (.int .i64 a0)] (aIM a0) (fun (y:ByteArray)=>.t (.str y)):=by
 refine⟨bL Proofs.Tryz.func166 (by kernel_rfl),fun y hy=>?_⟩;unfold aIM at hy;split at hy
 case isFalse=>cases hy
 rename_i hr;cases hy;intro F g w vs hs hv hH hF hgl;have hvs:=hv1 hs hv (u:=.int .i64 a0) (fun v h=>h.inv_int);subst hvs;have hname:∃ b,Proofs.Tryz.prog.globalNamed Yz=some b:=Ck.1 (by kernel_rfl);obtain⟨b,hb⟩:=hname;refine(Proofs.Tryz.strconv_Itoa a0 hr.1 hr.2 w (hgl.tab b hb).1).mono ?_;rintro e w' ⟨rfl,k,os,rfl⟩;refine⟨_,_,[],F,g,rfl,rfl,.t (.str _),kZ hH hF rfl rfl rfl ?_ (fun q hq _=>?_)⟩
 ·show w.heap.size<=(w.heap++os).size;rw[Cr]; exact Nat.le_add_right _ _
 ·show (w.heap++os)[q]? = w.heap[q]?;exact aCC hq
end Go.PL
namespace Go.Proofs
open Go.Shelf Go.RowKit
variable {k n:Nat}
def It(v:Int)(n k:Nat):List Value:=List.replicate k (Value.int .i64 v)++List.replicate (n-k) (Value.int .i64 0)
def iE(v:Int)(n k:Nat):Array Value:=(It v n k).toArray
theorem aLQ(v:Int)(h:k<=n):(It v n k).length=n:=by rw[It,List.length_append,List.length_replicate,List.length_replicate]; omega
theorem sJ(v:Int)(h:k<=n):(iE v n k).size=n:=by rw[iE,List.size_toArray,aLQ v h]
theorem aAB(v:Int){q:Nat}(h:q<k):(iE v n k)[q]? = some (.int .i64 v):=by rw[iE,List.getElem?_toArray,It,List.getElem?_append_left (by rw[List.length_replicate]; exact h),List.getElem?_replicate,if_pos h]
theorem Ij(v:Int){m:Nat}(_h:k+m<=n):((iE v n k).toList.take k++List.replicate m (Value.int .i64 v)++(iE v n k).toList.drop (k+m)).toArray=iE v n (k+m):=by
 have e1:(iE v n k).toList.take k=List.replicate k (Value.int .i64 v):=by show (It v n k).take k=_;rw[It,List.take_append_of_le_length (by rw[List.length_replicate]; exact Nat.le_refl _),List.take_of_length_le (by rw[List.length_replicate]; exact Nat.le_refl _)]
 have e2:(iE v n k).toList.drop (k+m)=List.replicate (n-(k+m)) (Value.int .i64 0):=by
  show (It v n k).drop (k+m)=_;rw[It,List.drop_append,List.drop_of_length_le (by rw[List.length_replicate]; omega),List.nil_append,List.length_replicate,List.drop_replicate]
  congr 1; omega
 rw[e1,e2,List.replicate_append_replicate]; rfl
theorem Tv(v:Int)(n:Nat):madeCells (Value.int .i64 0).cells n=iE v n 0:=by
 apply Array.ext
 ·rw[size_madeCells,sJ v (Nat.zero_le _)]
 ·intro q h1 h2;have hq:q<n:=by rwa [size_madeCells]at h1
  have:(iE v n 0)[q]? = some (Value.int .i64 0):=by rw[iE,List.getElem?_toArray,It,List.replicate_zero,List.nil_append,List.getElem?_replicate,if_pos (by omega)]
  rw[Array.getElem?_eq_getElem h2]at this;injection this with this;rw[this];simp[madeCells,Value.cells,Nat.mod_one]
set_option maxRecDepth 100000 in
theorem Tryz.Repeat_one(a:Addr)(cap n:Nat)(v:Int)(w:World)(hn:n<=1000000000000)(h0:w.cell? a=some (.int .i64 v))(hb:a.block<w.heap.size)(_hc:1<=cap):
  Calls Tryz.prog 163 #[.slice (some a) 1 cap,.int .i64 n] w fun e w'=>e = .returned (.slice (some ⟨w.heap.size,0,none⟩) n n) /\
   w'.heap[w.heap.size]? = some (.cells (List.replicate n (.int .i64 v)).toArray 3 (0,0))/\Below w.heap.size w w':=by
 have mixed:Tryz.prog.follows .mixedOrders=true:=by kernel_rfl
 have t3:=Tryz.underlying3; have a3:=Tryz.isAgg3; have z3:=Tryz.sizeOf3; have v3:=Tryz.zeroValue3; have u3:=run_underlying t3;have t4:=Tryz.underlying4; have a4:=Tryz.isAgg4; have z4:=Tryz.sizeOf4; have v4:=Tryz.zeroValue4; have u4:=run_underlying t4;have t23:=Tryz.underlying23; have a23:=Tryz.isAgg23; have z23:=Tryz.sizeOf23; have v23:=Tryz.zeroValue23; have u23:=run_underlying t23;have t232:=Tryz.underlying232; have a232:=Tryz.isAgg232; have z232:=Tryz.sizeOf232; have v232:=Tryz.zeroValue232; have u232:=run_underlying t232;have t233:=Tryz.underlying233; have a233:=Tryz.isAgg233; have z233:=Tryz.sizeOf233; have v233:=Tryz.zeroValue233; have u233:=run_underlying t233;have e220:∀ args w,(callFunc 220 args).run Tryz.prog w = .ok (.enter 220 args) w:=enters_of Tryz.func220 (by kernel_rfl) rfl;have hm:Calls Tryz.prog 220 #[.int .u64 1,.int .u64 n] w fun e w'=>e = .returned (.tuple #[.int .u64 0,.int .u64 n])/\w'=w:=by refine(Tryz.bits_Mul 1 n (by omega) (by omega) w).mono ?_;rintro e w' ⟨rfl,rfl⟩;refine⟨?_,rfl⟩;rw[show 1*n / 18446744073709551616=0 by omega,show 1*n % 18446744073709551616=n by omega]; rfl
 have hi0:(Tryz.prog.info? 3).map (fun i=>(i.zero,i.size,i.bytes))=some (some (.int .i64 0),1,8):=by kernel_rfl
 obtain⟨i,hi,hi1⟩:=Option.map_eq_some_iff.1 hi0;injection hi1 with hz hi2;injection hi2 with hs hby;have hsz:(Tryz.prog.info? 3).map (·.size)=some 1:=by rw[hi]; simp[hs]
 have hmk:(Instr.makeSlice 23 (.int .i64 n) (.int .i64 n)).run Tryz.prog w = .ok (.slice (some ⟨w.heap.size,0,none⟩) n n) (w.alloc (.cells (iE v n 0) 3)):=by have:=run_make (P:=Tryz.prog) w 23 3 i _ t23 hi hz .i64 .i64 n n (by omega) (by omega) (by rw[hby]; omega) (by omega);rw[this,hs,<-Tv v n]; simp
 generalize hW1:w.alloc (.cells (iE v n 0) 3)=W1 at hmk;have k1:W1.heap[w.heap.size]? = some (.cells (iE v n 0) 3 (0,0)):=by rw[<-hW1]; exact heap_alloc_new w _
 have k2:Below w.heap.size w W1:=by rw[<-hW1]; exact⟨rfl,rfl,rfl,by show w.heap.size<=(w.heap.push _).size; rw[Array.size_push]; exact Nat.le_succ _,fun k hk=>Below.heap_alloc w _ k hk⟩
 obtain⟨Wc,hcopy,k3,k4⟩:∃ Wc,(Builtin.copy_ #[23,23] 3 #[.slice (some ⟨w.heap.size,0,none⟩) n n,.slice (some a) 1 cap]).run Tryz.prog W1 = .ok (goInt (min 1 n:Nat)) Wc /\
   Wc.heap[w.heap.size]? = some (.cells (iE v n (min 1 n)) 3 (0,0))/\Below w.heap.size w Wc:=by
  by_cases hn0:n=0
  ·subst hn0;exact⟨W1,run_copy_none W1 23 23 3 3 _ _ 0 0 1 cap t23 hsz (by decide),k1,k2⟩
  ·have hsrc:W1.cell? a=some (.int .i64 v):=by rw[<-h0]; exact World.cell?_of_block (k2.block _ hb)
   have h:=run_copy_row (P:=Tryz.prog) W1 23 23 3 3 w.heap.size 0 n n a 1 cap _ 3 [.int .i64 v] t23 hsz k1 (by simp[Nat.min_def]; omega) (fun j u hu=>by
    match j,hu with
    | 0,hu=>simp at hu; subst hu; rw[show a.add 0=a by simp[Addr.add]]; exact hsrc) (by rw[sJ v (Nat.zero_le _)]; simp; omega) (by simp[Value.oneCell'])
   have hr:=Ij v (n:=n) (k:=0) (m:=1) (by omega);simp only[List.length_singleton]at h;rw[show ([.int .i64 v]:List Value)=List.replicate 1 (.int .i64 v) from rfl,hr]at h;rw[show min 1 n=1 by omega];refine⟨_,h,setRow_heap _ _ _ _ _ _ k1,?_⟩;exact⟨k2.os,k2.tape,k2.output,by rw[setRow_size]; exact k2.size,fun k hk=>by rw[setRow_other _ _ _ _ (by omega)]; exact k2.block k hk⟩
 go_enter Tryz.func163,Tryz.ntmps163
 go_wp2_with (go_at_fn 220; refine hm.mono ?_)
 rintro e w' ⟨rfl,rfl⟩
 go_wp2
 go_loopw [8] (fun vn wr=>∃ k:Nat,vn = .int .i64 k/\min 1 n<=k/\k<=n/\wr.heap[w'.heap.size]? = some (.cells (iE v n k) 3 (0,0))/\Below w'.heap.size w' wr)
  (fun vn _=>n-(intOf vn).toNat)
 case atStart=>exact⟨min 1 n,rfl,Nat.le_refl _,by omega,k3,k4⟩
 case round=>
  obtain⟨k,rfl,g1,g2,g3,g4⟩:=hrel;by_cases hk:k<n
  ·generalize hmn:min k (n-k)=m;have hm1:1<=m/\m<=k/\k+m<=n:=by omega
   have g3':wr.drew.heap[w'.heap.size]? = some (.cells (iE v n k) 3 (0,0)):=g3;have hkn:¬ n=k:=by omega
   have hcp:=run_copy_row (P:=Tryz.prog) wr.drew 23 23 3 3 w'.heap.size k (n-k) (n-k) ⟨w'.heap.size,0,none⟩ k n _ 3 (List.replicate m (Value.int .i64 v)) t23 hsz g3'
    (by rw[List.length_replicate]; exact hmn.symm)
    (fun j u hu=>by
     rw[List.getElem?_replicate]at hu;split at hu
     ·injection hu with hu;subst hu;rw[show (⟨w'.heap.size,0,none⟩:Addr).add j=⟨w'.heap.size,j,none⟩ by simp[Addr.add]; omega];rw[Lib.cell_of_heap g3'];exact aAB v (by omega)
     ·cases hu)
    (by rw[sJ v g2,List.length_replicate]; omega) (fun u hu=>by rw[(List.mem_replicate.1 hu).2]; rfl)
   rw[List.length_replicate,Ij v hm1.2.2]at hcp
   go_wp2
   go_region_o
   go_roundw
   case rel=>
    refine⟨_,_,_,_,_,_,_,_,_,_,_,_,_,_,⟨k+m,?_,?_,?_,setRow_heap _ _ _ _ _ _ g3',?_⟩,rfl⟩
    ·simp
    ·omega
    ·omega
    ·exact⟨g4.os,g4.tape,g4.output,by rw[setRow_size]; exact g4.size,fun q hq=>by rw[setRow_other _ _ _ _ (by omega)]; exact g4.block q hq⟩
   case measure=>simp[intOf]; omega
  ·go_wp2
   go_ret
   have hkn:k=n:=by omega
   subst hkn;refine⟨rfl,?_,g4⟩;rw[g3];simp[iE,It]
end Go.Proofs
namespace Go.PL
open Go
theorem aLZ{F:Nat->Prop}{w:World}{k:IntKind}{n:Int}{u:Value}(h:Rd F w (.int k n) u):u = .int k n:=by
 cases h with
 | int=>rfl
 | nil h=>simp[T.view]at h
 | sl _ _ _ _ h=>simp[T.view]at h
theorem bGF(xs:List Int)(n:Int):dD Proofs.Tryz.prog 163 [.t (eL bK xs),.t (.int .i64 n)] [] [] (if 0<=n/\n<=1000000000000/\xs.length=1 then some (List.replicate n.toNat (xs.getD 0 default)) else none) (fun (_y:List Int)=>.own 40000) (fun (y:List Int)=>[(40000,.arr 3 1 (y.length) (eF bK y))]):=by
 refine⟨bL Proofs.Tryz.func163 (by kernel_rfl),fun y hy=>?_⟩;split at hy
 case isFalse=>cases hy
 rename_i hC;obtain⟨hn0,hn1,hl⟩:=hC;injection hy with hy;subst hy;obtain⟨k,rfl⟩:∃ k:Nat,n=k:=⟨n.toNat,by omega⟩;intro F g w vs hs hv hH hF hgl;have hs2:vs.size=2:=hs;have hv0:=hv 0 _ (vs[0]'(by omega)) rfl (by simp[hs2]);have hv1:=hv 1 _ (vs[1]'(by omega)) rfl (by simp[hs2]);obtain⟨a,cap,e0,hc,h0⟩:∃ a cap,vs[0]'(by omega) = .slice (some a) 1 cap/\1<=cap/\w.cell? a=some (.int .i64 (xs.getD 0 default)):=by
  generalize vs[0]'(by omega)=u at hv0;cases hv0 with
  | t h=>
   generalize hT:eL bK xs=T at h;cases h with
   | nil h=>subst hT; simp only[eL,T.view,iC,gJ]at h; omega
   | sl a cap size us h hc hFa hsz hcell hr=>
    subst hT;simp only[eL,T.view,iC,gJ]at h;obtain⟨rfl,rfl⟩:=h;rw[hl]at hc ⊢;have z1:=hsz 0 (by omega);have z2:size=1:=by rw[<-z1]; rfl
    subst z2;have z3:=hcell 0 0 (by omega) (by omega);have z4:Rd F w (.int .i64 (xs.getD 0 default)) (us 0 0):=hr 0 0 _ (by omega) rfl;rw[show a.add (0*1+0)=a by simp[Addr.add]]at z3;refine⟨a,cap,rfl,hc,?_⟩;rw[z3];generalize us 0 0=u0 at z4;exact congrArg some (aLZ z4)
   | _=>simp[eL]at hT
 have e1:vs[1]'(by omega) = .int .i64 k:=by
  generalize vs[1]'(by omega)=u at hv1;cases hv1 with
  | t h=>exact aLZ h
 have hvs:vs=#[.slice (some a) 1 cap,.int .i64 k]:=by
  apply Array.ext
  ·rw[hs2]; rfl
  ·intro q hq _
   match q,hq with
   | 0,_=>simpa using e0
   | 1,_=>simpa using e1
   | q+2,hq=>omega
 subst hvs;have hb:a.block<w.heap.size:=by
  by_cases hb:a.block<w.heap.size
  ·exact hb
  ·have:w.heap[a.block]? = none:=by rw[Array.getElem?_eq_none]; omega
   simp[World.cell?,this]at h0
 refine(Proofs.Tryz.Repeat_one a cap k (xs.getD 0 default) w (by omega) h0 hb hc).mono ?_;rintro e w' ⟨rfl,q1,q2⟩;have hlt:w.heap.size<w'.heap.size:=(Ok.1 q1).1;have hg:∀ u:Value,(fun o=>if o=40000 then u else g o) 40000=u:=fun u=>by simp
 have hblk:∀ q,bD (fun o=>if o=40000 then .slice (some ⟨w.heap.size,0,none⟩) k k else g o) w' 40000 (.arr 3 1 (List.replicate k (xs.getD 0 default)).length (eF bK (List.replicate k (xs.getD 0 default)))) q->q=w.heap.size:=by intro q hq;have:=hq.toBlk rfl;simp[blk]at this;exact this.symm
 refine⟨_,_,_,F,fun o=>if o=40000 then .slice (some ⟨w.heap.size,0,none⟩) k k else g o,rfl,⟨rfl,rfl⟩,.own (hg _),⟨⟨fun o q hq=>?_,fun o q c hq hc=>?_,fun o q o' q' c hq hq' hne=>?_⟩,fun b h=>h,fun c hc=>⟨?_,.inl hc⟩,⟨q2.os,q2.tape,q2.output,q2.size,fun c hc _=>q2.block c hc⟩,fun o ho=>(by cases ho),?_⟩⟩
 ·cases cR.1 hq;show wA F w' _ 3 1 _ _;refine .inr ⟨w.heap.size,k,_,?_,q1,?_,?_,?_,fun i hi=>rfl,fun i j x hi hx=>?_⟩
  ·simp
  ·simp
  ·simp only[maxLen]; omega
  ·simp
  ·simp only[aS,wF]at hi
   match j,hx with
   | 0,hx=>
    simp[eF,bK]at hx;subst hx;refine⟨.int .i64 (xs.getD 0 default),?_,?_⟩
    ·simp[hi]
    ·simp[List.getD,hi];exact .int _ _
 ·cases cR.1 hq;have:=hblk c hc;subst this;exact⟨fun hf=>by have:=hF _ hf; omega,.inr (dL _)⟩
 ·cases cR.1 hq; cases cR.1 hq'; exact absurd rfl hne
 ·have:=hF c hc; omega
 ·rintro c ⟨o,q,k1,k2⟩;simp at k1
end Go.PL
namespace Go.PL
open Go
set_option linter.unusedVariables false
def aKK(s:ByteArray)(c:Int):Option Int:=some (Lib.indexByte s.data.toList c.toNat.toUInt8)
theorem aXM(s:ByteArray)(c:Int):Con Proofs.Tryz.prog 257 [.t (.str s),.t (.int .u8 c)] (aKK s c) (fun (y:Int)=>.t (.int .i64 y)):=by refine⟨bL Proofs.Tryz.func257 (by kernel_rfl),fun y hy=>?_⟩;cases hy;intro F g w vs hs hv hH hF hgl;have hvs:=hv2 hs hv (u:=.string s) (u':=.int .u8 c) (fun v h=>h.inv_str) (fun v h=>h.inv_int);subst hvs;refine(Proofs.Tryz.strings_IndexByte s c w).mono ?_;rintro e w' ⟨rfl,rfl⟩;exact⟨_,_,[],F,g,rfl,rfl,.t (.int _ _),kZ hH hF rfl rfl rfl (dL _) (fun _ _ _=>rfl)⟩
theorem aQA{F:Nat->Prop}{w:World}{name:String}{b:Nat}(h:GLE Proofs.Tryz.prog F w name)(hb:Proofs.Tryz.prog.globalNamed name=some b):∃ ev,w.cell? ⟨b,0,none⟩=some ev/\(ev = .nilIface\/∃ te pe,ev = .iface te pe):=(h b hb).1
def aRR(s:ByteArray):Option (Int⊕Int):=if s.size<=1000000000000 then some (match Lib.atoiAll s.data.toList with
 | .ok v=>.inl v
 | .range=>.inr (Lib.atoiSat s.data.toList)
 | _=>.inr 0) else none
theorem bEU(s:ByteArray):dD Proofs.Tryz.prog 259 [.t (.str s)] [] [] (aRR s) (sel (fun (y:Int)=>.tup [.t (.int .i64 y),.lit .nilIface]) (fun (y:Int)=>.tup [.t (.int .i64 y),.ifx])) (sel (fun _=>[]) (fun _=>[])):=by
 refine⟨bL Proofs.Tryz.func259 (by kernel_rfl),fun y hy=>?_⟩;unfold aRR at hy;split at hy
 case isFalse=>cases hy
 rename_i hs0;cases hy;intro F g w vs hs hv hH hF hgl;have hvs:=hv1 hs hv (u:=.string s) (fun v h=>h.inv_str);subst hvs;obtain⟨hsy,hra⟩:=hgl.err rfl;cases hr:Lib.atoiAll s.data.toList with
 | ok v=>
  refine(Proofs.Tryz.strconv_Atoi_ok s (by omega) v hr w).mono ?_;rintro e w' ⟨rfl,hW⟩;have hb:RowKit.Below w.heap.size w w':=by
   rcases hW with rfl | ⟨t,rfl⟩
   ·exact RowKit.Below.refl _ _
   ·exact Lib.bytesWorld_below _ _ _
  refine⟨_,_,[],F,g,rfl,⟨rfl,rfl⟩,?_,kZ hH hF hb.os hb.tape hb.output hb.size (fun q hq _=>hb.block q hq)⟩;refine .tup (by rfl) fun j x v hx hv=>?_
  match j,hx,hv with
  | 0,hx,hv=>simp at hx hv; subst hx hv; exact .t (.int _ _)
  | 1,hx,hv=>simp at hx hv; subst hx hv; exact .lit rfl
  | j+2,hx,hv=>simp at hx
 | range=>
  obtain⟨ev,h1,h2⟩:=aQA hra (b:=3) (by kernel_rfl);refine(Proofs.Tryz.strconv_Atoi_range s (by omega) hr ev w h1 h2).mono ?_;rintro e w' ⟨N,rfl,_,_,hb⟩;refine⟨_,_,[],F,g,rfl,⟨rfl,rfl⟩,?_,kZ hH hF hb.os hb.tape hb.output hb.size (fun q hq _=>hb.block q hq)⟩;refine .tup (by rfl) fun j x v hx hv=>?_
  match j,hx,hv with
  | 0,hx,hv=>simp at hx hv; subst hx hv; exact .t (.int _ _)
  | 1,hx,hv=>simp at hx hv; subst hx hv; exact .ifx
  | j+2,hx,hv=>simp at hx
 | _=>
  obtain⟨ev,h1,h2⟩:=aQA hsy (b:=2) (by kernel_rfl);refine(Proofs.Tryz.strconv_Atoi_syntax s (by omega) (hr.trans (by rfl)) ev w h1 h2).mono ?_;rintro e w' ⟨N,rfl,_,_,hb⟩;refine⟨_,_,[],F,g,rfl,⟨rfl,rfl⟩,?_,kZ hH hF hb.os hb.tape hb.output hb.size (fun q hq _=>hb.block q hq)⟩;refine .tup (by rfl) fun j x v hx hv=>?_
  match j,hx,hv with
  | 0,hx,hv=>simp at hx hv; subst hx hv; exact .t (.int _ _)
  | 1,hx,hv=>simp at hx hv; subst hx hv; exact .ifx
  | j+2,hx,hv=>simp at hx
end Go.PL
namespace Go.PL
open Go Go.Proofs IntKind
set_option linter.unusedVariables false
set_option maxRecDepth 20000
abbrev LD:=List aC
abbrev tI (x:Int):PV:=.t (.int .i64 x)
abbrev tB (x:Bool):PV:=.t (.bool x)
abbrev tD (x:List aC):PV:=.t (eL aK x)
abbrev tV (x:List aE):PV:=.t (eL bA x)
abbrev aD (x:List aC):bF:=.arr 50 3 (x.length) (eF aK x)
abbrev bN (x:aG):bF:=.box ((Hr x).map .t)
def bP(f:List aI)(x:aG)(k:Nat)(c:Int):bF:=.box [.t (eL aV (f)),tI x.Op,.t (eL bK (x.In)),.t (.str (x.Source)),tI x.Schema,.t (.lz (.exprs (x.Exprs))),tI x.Kind,tI x.Size,tI x.Step,.t (eL bK (x.Key)),.t (eL bK (x.Key2)),tI x.Before,tI x.After,tI x.Keep,.t (eL Hf (x.Aggs)),.t (eL fN (x.Seq)),.t (eL Ik (x.Cols)),.map k,tI c]
def bQ(o:bU)(l:LD)(c:Int):bF:=.box [.t (eL aV (o.Funcs)),tI o.N.Op,.t (eL bK (o.N.In)),.t (.str (o.N.Source)),tI o.N.Schema,.t (.lz (.exprs (o.N.Exprs))),tI o.N.Kind,tI o.N.Size,tI o.N.Step,.t (eL bK (o.N.Key)),.t (eL bK (o.N.Key2)),tI o.N.Before,tI o.N.After,tI o.N.Keep,.t (eL Hf (o.N.Aggs)),.t (eL fN (o.N.Seq)),.t (eL Ik (o.N.Cols)),tD l,tI c]
abbrev LM:=List (ByteArray×LD)
abbrev mD (c:LD):Mem:=Mem.d (eL aK c)
abbrev vD (c:LD):T:=eL aK c
abbrev mR (c:LD):Mem:=Mem.row 50 3 c.length (eF aK c)
abbrev pD (x:LM):bF:=.mp none (eM mD x) none
abbrev pR (x:LM):bF:=.mp none (eM mR x) none
abbrev fm1:List (Int×Nat):=mput ([]:List (Int×Nat)) (8:Int) (225:Nat)
abbrev fm2:List (Int×Nat):=mput fm1 (9:Int) (226:Nat)
abbrev fm3:List (Int×Nat):=mput fm2 (10:Int) (227:Nat)
abbrev fm4:List (Int×Nat):=mput fm3 (11:Int) (228:Nat)
abbrev fm5:List (Int×Nat):=mput fm4 (12:Int) (229:Nat)
abbrev fm6:List (Int×Nat):=mput fm5 (13:Int) (230:Nat)
abbrev fm7:List (Int×Nat):=mput fm6 (14:Int) (231:Nat)
abbrev fm8:List (Int×Nat):=mput fm7 (15:Int) (232:Nat)
abbrev fm9:List (Int×Nat):=mput fm8 (16:Int) (233:Nat)
abbrev aUI:List (Int×Nat):=mput fm9 (17:Int) (234:Nat)
abbrev aWB:List (Int×Nat):=mput aUI (18:Int) (235:Nat)
abbrev bLZ:List (Int×Nat):=mput aWB (19:Int) (236:Nat)
abbrev mF (c:Nat):Mem:=Mem.d (T.fv c)
noncomputable section
def bIU(a0:aE)(a1:aE):TP Int:=.ite 8 (decide (a0.Kind<a1.Kind)) (.ret 1 (-1)) (.ite 5 (decide (a0.Kind>a1.Kind)) (.ret 1 1) (.ite 5 (decide (a0.N<a1.N)) (.ret 1 (-1)) (.ite 5 (decide (a0.N>a1.N)) (.ret 1 1) (.ite 5 (Op.bytesLess (a0.S:ByteArray).toList (a1.S:ByteArray).toList) (.ret 1 (-1)) (.ite 5 (!(Op.bytesLess (a0.S:ByteArray).toList (a1.S:ByteArray).toList || (a0.S:ByteArray).toList==(a1.S:ByteArray).toList)) (.ret 1 1) (.ret 1 0))))))
def bFN(a0:aE)(a1:aE):=(bIU a0 a1).den
theorem bAN(a0:aE)(a1:aE):Con Tryz.prog 77 [.t (cH a0),.t (cH a1)] (bFN a0 a1) tI:=con Tryz.func77 aR (bIU a0 a1)
def aAZ(a0:List aE)(a1:List aE):Int->TP ((Int)⊕((Unit)⊕Int))
 | v1=>.jn 5 0 (fun j2=>⟨[(0,tV a0),(1,tV a1),(5,tI v1),(16,tB j2)],[]⟩) (.ite 0 (decide (v1<a0.length)) (.ret 5 (decide (v1<a1.length))) (.ret 5 false)) fun j2=>.ite 0 j2 (.dg 2 (0<=v1/\v1<a0.length) <| .dg 6 (0<=v1/\v1<a1.length) <| .dc 8 [.t (cH (a0.getD v1.toNat default)),.t (cH (a1.getD v1.toNat default))] (bAN (a0.getD v1.toNat default) (a1.getD v1.toNat default)) fun r3=>.dr 0 0 [] [0,1,5,16] <| .ite 2 (r3 != 0) (.ret 2 (.inr (.inr r3))) (.ret 3 (.inl (i64.wrap (v1+1))))) (.ret 0 (.inr (.inl ())))
def bGI(a0:List aE)(a1:List aE):TP Int:=.lp 2 (fun v1=>⟨[(0,tV a0),(1,tV a1),(5,tI v1)],[]⟩) (fun _=>⟨[(0,tV a0),(1,tV a1)],[]⟩) 0 0 (aAZ a0 a1) fun _=>.ite 5 (decide ((a0.length:Int)<a1.length)) (.ret 1 (-1)) (.ite 5 (decide ((a0.length:Int)>(a1.length:Int))) (.ret 1 1) (.ret 1 0))
def bBZ(a0:List aE)(a1:List aE):=(bGI a0 a1).den
theorem Qm(a0:List aE)(a1:List aE):Con Tryz.prog 102 [tV a0,tV a1] (bBZ a0 a1) tI:=con Tryz.func102 aR (bGI a0 a1)
def T49(a0:aC)(a1:aC):TP Int:=.ite 8 (decide (a0.Time<a1.Time)) (.ret 1 (-1)) (.ite 5 (decide (a0.Time>a1.Time)) (.ret 1 1) (.ca 4 (Qm a0.Row a1.Row) fun r1=>.ret 1 r1))
def G49(a0:aC)(a1:aC):=(T49 a0 a1).den
theorem Pf(a0:aC)(a1:aC):Con Tryz.prog 105 [.t (cO a0),.t (cO a1)] (G49 a0 a1) tI:=con Tryz.func105 aR (T49 a0 a1)
def Nv(a0:LD)(a1:LD):Int->TP ((Int)⊕((Unit)⊕Bool))
 | v1=>.ite 4 (decide (v1<a0.length)) (.jn 0 0 (fun j2=>⟨[(0,tD a0),(1,tD a1),(5,tI v1),(39,tB j2)],[]⟩) (.dg 2 (0<=v1/\v1<a0.length) <| .dg 6 (0<=v1/\v1<a1.length) <| .dc 8 [.t (cO (a0.getD v1.toNat default)),.t (cO (a1.getD v1.toNat default))] (Pf (a0.getD v1.toNat default) (a1.getD v1.toNat default)) fun r3=>.dl 10 (r3 != 0) (.dr 0 0 [] [0,1,5,11,12,13,14] <| .ret 0 true) (.dg 13 (0<=v1/\v1<a0.length) <| .dg 18 (0<=v1/\v1<a1.length) <| .dr 0 0 [] [0,1,5,11,12,13,14] <| .ret 0 (((a0.getD v1.toNat default).N) != ((a1.getD v1.toNat default).N)))) fun j2=>.ite 0 j2 (.ret 1 (.inr (.inr false))) (.ret 3 (.inl (i64.wrap (v1+1))))) (.ret 0 (.inr (.inl ())))
def T20(a0:LD)(a1:LD):TP Bool:=.ite 6 ((a0.length:Int) != (a1.length:Int)) (.ret 1 false) (.lp 1 (fun v1=>⟨[(0,tD a0),(1,tD a1),(5,tI v1)],[]⟩) (fun _=>⟨[],[]⟩) 0 0 (Nv a0 a1) fun _=>.ret 1 true)
def G20(a0:LD)(a1:LD):=(T20 a0 a1).den
theorem Wz(a0:LD)(a1:LD):Con Tryz.prog 44 [tD a0,tD a1] (G20 a0 a1) tB:=con Tryz.func44 aR (T20 a0 a1)
def bLH(a0:Int):TP bB:=.bs 4 false dA ([(bB.mk 3 1 (⟨#[]⟩) ([]:List bB)),(bB.mk 0 a0 (⟨#[]⟩) ([]:List bB))]:List bB) <| .cv 0 [.sl 6 (.lz (.exprs ([(bB.mk 3 1 (⟨#[]⟩) ([]:List bB)),(bB.mk 0 a0 (⟨#[]⟩) ([]:List bB))]:List bB)))] <| .ret 2 (bB.mk 13 0 (⟨#[]⟩) ([(bB.mk 3 1 (⟨#[]⟩) ([]:List bB)),(bB.mk 0 a0 (⟨#[]⟩) ([]:List bB))]:List bB))
def bFC(a0:Int):=(bLH a0).den
theorem aCO(a0:Int):Con Tryz.prog 56 [tI a0] (bFC a0) (fun y=>.t (cQ y)):=con Tryz.func56 aR (bLH a0)
def bLS(a0:Int)(a1:Int)(a2:Int):TP aC:=.bs 6 false bA [(aE.mk 0 a1 (⟨#[]⟩)),(aE.mk 0 a2 (⟨#[]⟩))] <| .ret 2 (aC.mk a0 [(aE.mk 0 a1 (⟨#[]⟩)),(aE.mk 0 a2 (⟨#[]⟩))] 1)
def aNX(a0:Int)(a1:Int)(a2:Int):=(bLS a0 a1 a2).den
theorem Dq(a0:Int)(a1:Int)(a2:Int):Con Tryz.prog 57 [tI a0,tI a1,tI a2] (aNX a0 a1 a2) (fun y=>.t (cO y)):=con Tryz.func57 aR (bLS a0 a1 a2)
def bJD(a0:Int)(a1:Int)(a2:Int)(a3:Int):TP aC:=.bs 7 false bA [(aE.mk 0 7 (⟨#[]⟩)),(aE.mk 0 a1 (⟨#[]⟩)),(aE.mk 0 a2 (⟨#[]⟩))] <| .ret 3 (aC.mk a0 [(aE.mk 0 7 (⟨#[]⟩)),(aE.mk 0 a1 (⟨#[]⟩)),(aE.mk 0 a2 (⟨#[]⟩))] a3)
def Zo(a0:Int)(a1:Int)(a2:Int)(a3:Int):=(bJD a0 a1 a2 a3).den
theorem vR(a0:Int)(a1:Int)(a2:Int)(a3:Int):Con Tryz.prog 58 [tI a0,tI a1,tI a2,tI a3] (Zo a0 a1 a2 a3) (fun y=>.t (cO y)):=con Tryz.func58 aR (bJD a0 a1 a2 a3)
def aQP(a0:List aI)(a1:aG):TP ((List aI)×aG×Int×LM):=.mk (K:=ByteArray) 4 mR <| .cv 3 [.rn 9 40000,.rn 7 41001] <| .ret 0 (a0,a1,(-1),([]:LM))
def aKW(a0:List aI)(a1:aG):=(aQP a0 a1).den
theorem Bc(a0:List aI)(a1:aG):dD Tryz.prog 16 [.t (eL aV a0),.t (fM a1)] [] [] (aKW a0 a1) (fun y=>.ptr 40000 0) (fun y=>[(40000,bP y.1 y.2.1 41001 y.2.2.1),(41001,.mp none (eM mR (y.2.2.2:LM)) none)]):=eC Tryz.func16 aR (aQP a0 a1)
def bIJ(a0:aG):TP (Int×Int):=.ret 8 (i64.wrap (a0.Size-1),0)
def bDL(a0:aG):=(bIJ a0).den
theorem aWU(a0:aG):Con Tryz.prog 152 [.t (fM a0)] (bDL a0) (fun y=>.tup [tI y.1,tI y.2]):=con Tryz.func152 aR (bIJ a0)
def T97(a0:Int)(a1:Int)(a2:Int):TP Bool:=.jn 5 0 (fun j1=>⟨[(6,tB j1)],[]⟩) (.ite 0 (decide (a0>=a1)) (.ret 5 (decide (a0<=a2))) (.ret 5 false)) fun j1=>.ret 0 j1
def G97(a0:Int)(a1:Int)(a2:Int):=(T97 a0 a1 a2).den
theorem Yb(a0:Int)(a1:Int)(a2:Int):Con Tryz.prog 146 [tI a0,tI a1,tI a2] (G97 a0 a1 a2) tB:=con Tryz.func146 aR (T97 a0 a1 a2)
def T96(a0:aG):TP Bool:=.ca 4 (Yb a0.Size 1 10000) fun r1=>.ret 1 r1
def G96(a0:aG):=(T96 a0).den
theorem bIG(a0:aG):Con Tryz.prog 145 [.t (fM a0)] (G96 a0) tB:=con Tryz.func145 aR (T96 a0)
def bCS(a0:aG):TP Bool:=.ca 3 (bIG a0) fun r1=>.jn 1 0 (fun j2=>⟨[(2,tB j2)],[]⟩) (.ite 0 r1 (.ca 3 (Yb (a0.Seq.length:Int) 1 8) fun r3=>.ret 2 r3) (.ret 6 false)) fun j2=>.ret 0 j2
def bIM(a0:aG):=(bCS a0).den
theorem aSS(a0:aG):Con Tryz.prog 151 [.t (fM a0)] (bIM a0) tB:=con Tryz.func151 aR (bCS a0)
def V38:Nat->PV
 | 0=>.tup [.agg [tI 0,.lit (.nilFunc),.lit (.nilFunc),tB false],tB false]
 | 1=>.tup [.agg [tI 0,.fn (.func 140) 0 [],.fn (.func 141) 0 [],tB false],tB true]
 | 2=>.tup [.agg [tI 1,.fn (.func 140) 0 [],.fn (.func 141) 0 [],tB false],tB true]
 | 3=>.tup [.agg [tI 2,.fn (.func 140) 0 [],.fn (.func 141) 0 [],tB false],tB true]
 | 4=>.tup [.agg [tI 1,.fn (.func 142) 0 [],.fn (.func 143) 0 [],tB true],tB true]
 | 5=>.tup [.agg [tI 1,.fn (.func 144) 0 [],.fn (.func 143) 0 [],tB true],tB true]
 | 6=>.tup [.agg [tI 2,.fn (.func 147) 0 [],.fn (.func 148) 0 [],tB true],tB true]
 | 7=>.tup [.agg [tI 2,.fn (.func 149) 0 [],.fn (.func 150) 0 [],tB true],tB true]
 | 8=>.tup [.agg [tI 1,.fn (.func 151) 0 [],.fn (.func 152) 0 [],tB true],tB true]
 | _=>.any
def T38(a0:Int):TP Nat:=.ca 15 (Yb a0 0 8) fun r1=>.ite 1 (!r1) (.ret 3 0) (.sp 1 19 a0 0 (.gd 1 (0<=(0:Int)/\(0:Int)<(9:Int)) (by decide) <| .ret 3 1) (.sp 0 19 a0 1 (.gd 1 (0<=(1:Int)/\(1:Int)<(9:Int)) (by decide) <| .ret 3 2) (.sp 0 19 a0 2 (.gd 1 (0<=(2:Int)/\(2:Int)<(9:Int)) (by decide) <| .ret 3 2) (.sp 0 19 a0 3 (.gd 1 (0<=(3:Int)/\(3:Int)<(9:Int)) (by decide) <| .ret 3 3) (.sp 0 19 a0 4 (.gd 1 (0<=(4:Int)/\(4:Int)<(9:Int)) (by decide) <| .ret 3 4) (.sp 0 19 a0 5 (.gd 1 (0<=(5:Int)/\(5:Int)<(9:Int)) (by decide) <| .ret 3 5) (.sp 0 19 a0 6 (.gd 1 (0<=(6:Int)/\(6:Int)<(9:Int)) (by decide) <| .ret 3 6) (.sp 0 19 a0 7 (.gd 1 (0<=(7:Int)/\(7:Int)<(9:Int)) (by decide) <| .ret 3 7) (.sp 0 19 a0 8 (.gd 1 (0<=(8:Int)/\(8:Int)<(9:Int)) (by decide) <| .ret 3 8) (.no))))))))))
def G38(a0:Int):=(T38 a0).den
theorem aQS(a0:Int):Con Tryz.prog 64 [tI a0] (G38 a0) (fun y=>V38 y):=con Tryz.func64 aR (T38 a0)
def T37(a0:aG):TP Bool:=.cas 4 (aQS a0.Op) 9 fun r1=>match r1 with | 0=>.ret 14 false | 1=>.no | 2=>.no | 3=>.no | 4=>.no | 5=>.no | 6=>.no | 7=>.no | 8=>.ca 11 (aSS a0) fun r2=>.ret 2 r2 | _=>.no
def G37(a0:aG):=(T37 a0).den
theorem bCA(a0:aG):Con Tryz.prog 63 [.t (fM a0)] (G37 a0) tB:=con Tryz.func63 aR (T37 a0)
def T10(a0:aG):TP (Int×Int):=.ca 4 (bCA a0) fun r1=>.ite 1 (!r1) (.ret 2 (0,0)) (.cas 2 (aQS a0.Op) 9 fun r2=>match r2 with | 0=>.no | 1=>.no | 2=>.no | 3=>.no | 4=>.no | 5=>.no | 6=>.no | 7=>.no | 8=>.ca 9 (aWU a0) fun r3=>.ret 4 (r3.1,r3.2) | _=>.no)
def G10(a0:aG):=(T10 a0).den
theorem aSM(a0:aG):Con Tryz.prog 17 [.t (fM a0)] (G10 a0) (fun y=>.tup [tI y.1,tI y.2]):=con Tryz.func17 aR (T10 a0)
def aBO(a0:List Int):Int->TP ((Int)⊕((Unit)⊕Int))
 | v1=>.ite 1 (decide (v1<a0.length)) (.grd 1 (0<=v1/\v1<a0.length) <| .ite 5 ((a0.getD v1.toNat default) != 0) (.ret 2 (.inr (.inr (a0.getD v1.toNat default)))) (.ret 2 (.inl (i64.wrap (v1+1))))) (.ret 0 (.inr (.inl ())))
def bEI(a0:List Int):TP Int:=.lp 5 (fun v1=>⟨[(3,tI 0),(6,.t (eL bK a0)),(7,tI (a0.length:Int)),(8,tI v1)],[]⟩) (fun _=>⟨[(3,tI 0)],[]⟩) 0 0 (aBO a0) fun _=>.ret 2 0
def bFW(a0:List Int):=(bEI a0).den
theorem aDU(a0:List Int):Con Tryz.prog 156 [.t (eL bK a0)] (bFW a0) tI:=con Tryz.func156 aR (bEI a0)
def bDH(a0:Int):TP Bool:=.ret 5 (a0 != a0)
def bCL(a0:Int):=(bDH a0).den
theorem aBW(a0:Int):Con Tryz.prog 215 [tI a0] (bCL a0) tB:=con Tryz.func215 aR (bDH a0)
def bIE(a0:Int)(a1:Int):TP Int:=.ca 2 (aBW a0) fun r1=>.ca 2 (aBW a1) fun r2=>.ite 2 r1 (.ite 1 r2 (.ret 1 0) (.ret 1 (-1))) (.ite 1 r2 (.ret 1 1) (.ite 3 (decide (a0<a1)) (.ret 1 (-1)) (.ite 3 (decide (a0>a1)) (.ret 1 1) (.ret 1 0))))
def bDE(a0:Int)(a1:Int):=(bIE a0 a1).den
theorem Pi(a0:Int)(a1:Int):Con Tryz.prog 157 [tI a0,tI a1] (bDE a0 a1) tI:=con Tryz.func157 aR (bIE a0 a1)
def bFZ(a0:aE)(a1:aE):TP Int:=.dc 4 [tI a0.Kind,tI a1.Kind] (Pi a0.Kind a1.Kind) fun r1=>.dc 9 [tI a0.N,tI a1.N] (Pi a0.N a1.N) fun r2=>.dc 14 [.t (.str (a0.S)),.t (.str (a1.S))] (aYB a0.S a1.S) fun r3=>.dc 16 [.t (.sl 3 (jJ [.int .i64 r1,.int .i64 r2,.int .i64 r3] 1))] (aDU [r1,r2,r3]) fun r4=>.dr 3 0 [(2,false,[]),(3,false,[])] [0,1,2,3] <| .ret 0 r4
def bFK(a0:aE)(a1:aE):=(bFZ a0 a1).den
theorem Pu(a0:aE)(a1:aE):Con Tryz.prog 177 [.t (cH a0),.t (cH a1)] (bFK a0 a1) tI:=con Tryz.func177 aR (bFZ a0 a1)
def Lb(a0:List aE)(a1:List aE):Int->TP ((Int)⊕((Unit)⊕Int))
 | v1=>.ite 1 (decide (v1<a0.length)) (.grd 2 (0<=v1/\v1<a0.length) <| .ite 8 (decide (v1>=(a1.length:Int))) (.ret 1 (.inr (.inr 1))) (.grd 3 (0<=v1/\v1<a1.length) <| .ca 6 (Pu (a0.getD v1.toNat default) (a1.getD v1.toNat default)) fun r2=>.ite 3 (r2 != 0) (.ret 2 (.inr (.inr r2))) (.ret 2 (.inl (i64.wrap (v1+1)))))) (.ret 0 (.inr (.inl ())))
def aAM(a0:List aE)(a1:List aE):TP Int:=.lp 4 (fun v1=>⟨[(0,tV a0),(1,tV a1),(2,.fn (.func 177) 0 []),(11,tV a0),(12,tI (a0.length:Int)),(13,tI v1)],[]⟩) (fun _=>⟨[(0,tV a0),(1,tV a1)],[]⟩) 0 0 (Lb a0 a1) fun _=>.ite 5 (decide ((a0.length:Int)<a1.length)) (.ret 1 (-1)) (.ret 1 0)
def Ww(a0:List aE)(a1:List aE):=(aAM a0 a1).den
theorem aGP(a0:List aE)(a1:List aE):dD Tryz.prog 216 [tV a0,tV a1,.fn (.func 177) 0 []] [] [] (Ww a0 a1) tI (fun y=>[]):=eC Tryz.func216 aR (aAM a0 a1)
def bIW(a0:List aE)(a1:List aE):TP Int:=.ch 3 [] (aGP a0 a1) fun r1=>.ret 1 r1
def bIC(a0:List aE)(a1:List aE):=(bIW a0 a1).den
theorem aVA(a0:List aE)(a1:List aE):Con Tryz.prog 158 [tV a0,tV a1] (bIC a0 a1) tI:=con Tryz.func158 aR (bIW a0 a1)
def T61(a0:aC)(a1:aC):TP Int:=.dc 4 [tI a0.Time,tI a1.Time] (Pi a0.Time a1.Time) fun r1=>.dc 9 [tV a0.Row,tV a1.Row] (aVA a0.Row a1.Row) fun r2=>.dc 11 [.t (.sl 2 (jJ [.int .i64 r1,.int .i64 r2] 1))] (aDU [r1,r2]) fun r3=>.dr 3 0 [(2,false,[]),(3,false,[])] [0,1,2,3] <| .ret 0 r3
def G61(a0:aC)(a1:aC):=(T61 a0 a1).den
theorem wR(a0:aC)(a1:aC):Con Tryz.prog 69 [.t (cO a0),.t (cO a1)] (G61 a0 a1) tI:=con Tryz.func69 aR (T61 a0 a1)
def mZ(a1:Int)(a2:Int)(v2:Int):(LD×Int)->TP ((LD×Int)⊕((LD)⊕((LD×Int)⊕((LD)⊕LD))))
 | (v4,v5)=>.jn 0 0 (fun j7=>⟨[(0,.own 30000),(1,tI a1),(2,tI a2),(3,.fn (.func 69) 0 []),(8,tI v2),(9,tI v5),(34,tB j7)],[(30000,aD v4)]⟩) (.dl 3 (decide (v5>a1)) (.dg 7 (0<=v5/\v5<v4.length) <| .dg 8 ((v5).toNat<v4.length) <| .dg 12 (0<=(i64.wrap (v5-1))/\(i64.wrap (v5-1))<v4.length) <| .dg 13 ((i64.wrap (v5-1)).toNat<v4.length) <| .dc 14 [.t (cO (v4.getD v5.toNat default)),.t (cO (v4.getD (i64.wrap (v5-1)).toNat default))] (wR (v4.getD v5.toNat default) (v4.getD (i64.wrap (v5-1)).toNat default)) fun r8=>.dr 0 0 [(30000,false,[])] [0,1,2,3,8,9] <| .ret 0 (decide (r8<0))) (.dr 0 0 [(30000,false,[])] [0,1,2,3,8,9] <| .ret 0 false)) fun j7=>.ite 0 j7 (.dg 8 (0<=(i64.wrap (v5-1))/\(i64.wrap (v5-1))<v4.length) <| .dg 9 ((i64.wrap (v5-1)).toNat<v4.length) <| .dg 12 (0<=v5/\v5<v4.length) <| .dg 13 ((v5).toNat<v4.length) <| .dg 14 (0<=v5/\v5<v4.length) <| .dg 15 ((v5).toNat<v4.length) <| .dg 16 (0<=(i64.wrap (v5-1))/\(i64.wrap (v5-1))<v4.length) <| .dg 17 ((i64.wrap (v5-1)).toNat<v4.length) <| .dr 0 0 [(30000,false,[15,17])] [0,1,2,3,8,9,34] <| .sto 0 30000 aK v4 [((v5).toNat,v4.getD (i64.wrap (v5-1)).toNat default),((i64.wrap (v5-1)).toNat,v4.getD v5.toNat default)] <| .ret 3 (.inl ((v4.set v5.toNat (v4.getD (i64.wrap (v5-1)).toNat default)).set (i64.wrap (v5-1)).toNat (v4.getD v5.toNat default),i64.wrap (v5-1)))) (.ret 0 (.inr (.inl v4)))
def uW(a1:Int)(a2:Int):(LD×Int)->TP ((LD×Int)⊕((LD)⊕LD))
 | (v1,v2)=>.ite 3 (decide (v2<a2)) (.lp 2 (fun (v4,v5)=>⟨[(0,.own 30000),(1,tI a1),(2,tI a2),(3,.fn (.func 69) 0 []),(8,tI v2),(9,tI v5)],[(30000,aD v4)]⟩) (fun b6=>⟨[(0,.own 30000),(1,tI a1),(2,tI a2),(3,.fn (.func 69) 0 []),(8,tI v2)],[(30000,aD b6)]⟩) 2 (v1,v2) (mZ a1 a2 v2) fun b6=>.ret 3 (.inl (b6,i64.wrap (v2+1)))) (.ret 0 (.inr (.inl v1)))
def Ya(a1:Int)(a2:Int)(qul:LD):TP LD:=.lp 3 (fun (v1,v2)=>⟨[(0,.own 30000),(1,tI a1),(2,tI a2),(3,.fn (.func 69) 0 []),(8,tI v2)],[(30000,aD v1)]⟩) (fun b3=>⟨[],[(30000,aD b3)]⟩) 0 (qul,i64.wrap (a1+1)) (uW a1 a2) fun b3=>.ret 0 b3
def Nf(a1:Int)(a2:Int)(qul:LD):=(Ya a1 a2 qul).den
theorem Me(a1:Int)(a2:Int)(qul:LD):dD Tryz.prog 271 [.own 30000,tI a1,tI a2,.fn (.func 69) 0 []] [(30000,aD qul)] [30000] (Nf a1 a2 qul) (fun y=>.tup []) (fun y=>[(30000,aD y)]):=eC Tryz.func271 aR (Ya a1 a2 qul)
def uG(a1:Int)(a2:Int)(a3:Int):(LD×Int)->TP ((LD×Int)⊕((LD)⊕LD))
 | (v1,v2)=>.ite 3 (decide (v2<a3)) (.dg 12 (0<=(i64.wrap (a2+v2))/\(i64.wrap (a2+v2))<v1.length) <| .dg 13 ((i64.wrap (a2+v2)).toNat<v1.length) <| .dg 18 (0<=(i64.wrap (a1+v2))/\(i64.wrap (a1+v2))<v1.length) <| .dg 19 ((i64.wrap (a1+v2)).toNat<v1.length) <| .dg 20 (0<=(i64.wrap (a1+v2))/\(i64.wrap (a1+v2))<v1.length) <| .dg 21 ((i64.wrap (a1+v2)).toNat<v1.length) <| .dg 22 (0<=(i64.wrap (a2+v2))/\(i64.wrap (a2+v2))<v1.length) <| .dg 23 ((i64.wrap (a2+v2)).toNat<v1.length) <| .dr 0 0 [(30000,false,[21,23])] [0,1,2,3,10,11,12,13] <| .sto 0 30000 aK v1 [((i64.wrap (a1+v2)).toNat,v1.getD (i64.wrap (a2+v2)).toNat default),((i64.wrap (a2+v2)).toNat,v1.getD (i64.wrap (a1+v2)).toNat default)] <| .ret 3 (.inl ((v1.set (i64.wrap (a1+v2)).toNat (v1.getD (i64.wrap (a2+v2)).toNat default)).set (i64.wrap (a2+v2)).toNat (v1.getD (i64.wrap (a1+v2)).toNat default),i64.wrap (v2+1)))) (.ret 0 (.inr (.inl v1)))
def Zp(a1:Int)(a2:Int)(a3:Int)(qul:LD):TP LD:=.lp 1 (fun (v1,v2)=>⟨[(0,.own 30000),(1,tI a1),(2,tI a2),(3,tI a3),(10,tI v2)],[(30000,aD v1)]⟩) (fun b3=>⟨[],[(30000,aD b3)]⟩) 0 (qul,0) (uG a1 a2 a3) fun b3=>.ret 0 b3
def Xq(a1:Int)(a2:Int)(a3:Int)(qul:LD):=(Zp a1 a2 a3 qul).den
theorem Aa(a1:Int)(a2:Int)(a3:Int)(qul:LD):dD Tryz.prog 320 [.own 30000,tI a1,tI a2,tI a3,.fn (.func 69) 0 []] [(30000,aD qul)] [30000] (Xq a1 a2 a3 qul) (fun y=>.tup []) (fun y=>[(30000,aD y)]):=eC Tryz.func320 aR (Zp a1 a2 a3 qul)
def Js(a2:Int):(LD×Int×Int)->TP ((LD×Int×Int)⊕((LD×Int)⊕LD))
 | (v1,v2,v3)=>.ite 3 (v2 != v3) (.jn 3 0 (fun (j6,j7,j8)=>⟨[(0,.own 30000),(2,tI a2),(4,.fn (.func 69) 0 []),(10,tI j7),(11,tI j8)],[(30000,aD j6)]⟩) (.ite 0 (decide (v2>v3)) (.ch 7 [] (Aa (i64.wrap (a2-v2)) a2 v3 v1) fun r9=>.ret 4 (r9,i64.wrap (v2-v3),v3)) (.ch 11 [] (Aa (i64.wrap (a2-v2)) (i64.wrap ((i64.wrap (a2+v3))-v2)) v2 v1) fun r10=>.ret 4 (r10,v2,i64.wrap (v3-v2)))) fun (j6,j7,j8)=>.ret 0 (.inl (j6,j7,j8))) (.ret 0 (.inr (.inl (v1,v2))))
def Zi(a1:Int)(a2:Int)(a3:Int)(qul:LD):TP LD:=.lp 8 (fun (v1,v2,v3)=>⟨[(0,.own 30000),(2,tI a2),(4,.fn (.func 69) 0 []),(10,tI v2),(11,tI v3)],[(30000,aD v1)]⟩) (fun (b4,b5)=>⟨[(0,.own 30000),(2,tI a2),(4,.fn (.func 69) 0 []),(10,tI b5)],[(30000,aD b4)]⟩) 0 (qul,i64.wrap (a2-a1),i64.wrap (a3-a2)) (Js a2) fun (b4,b5)=>.ch 7 [] (Aa (i64.wrap (a2-b5)) a2 b5 b4) fun r11=>.ret 0 r11
def Pa(a1:Int)(a2:Int)(a3:Int)(qul:LD):=(Zi a1 a2 a3 qul).den
theorem aHR(a1:Int)(a2:Int)(a3:Int)(qul:LD):dD Tryz.prog 294 [.own 30000,tI a1,tI a2,tI a3,.fn (.func 69) 0 []] [(30000,aD qul)] [30000] (Pa a1 a2 a3 qul) (fun y=>.tup []) (fun y=>[(30000,aD y)]):=eC Tryz.func294 aR (Zi a1 a2 a3 qul)
abbrev aAI:={f:(Int×Int×Int×LD)->Option LD // ∀ a:Int×Int×Int×LD,dD Tryz.prog 272 [.own 30000,tI a.1,tI a.2.1,tI a.2.2.1,.fn (.func 69) 0 []] [(30000,.arr 50 3 (a.2.2.2.length) (eF aK a.2.2.2))] [30000] (f a) (fun (y:LD)=>.tup []) (fun (y:LD)=>[(30000,aD y)])}
def vQ(a1:Int)(qul:LD):(Int×Int)->TP ((Int×Int)⊕((Int)⊕LD))
 | (v1,v2)=>.ite 3 (decide (v1<v2)) (.gd 5 (0<=(1:Int)) (by decide) <| .dg 3 (0<=(i64.wrap (dO .u64 (u64.wrap (i64.wrap (v1+v2))) 1))/\(i64.wrap (dO .u64 (u64.wrap (i64.wrap (v1+v2))) 1))<qul.length) <| .dg 4 ((i64.wrap (dO .u64 (u64.wrap (i64.wrap (v1+v2))) 1)).toNat<qul.length) <| .dg 7 (0<=a1/\a1<qul.length) <| .dg 8 ((a1).toNat<qul.length) <| .dc 9 [.t (cO (qul.getD (i64.wrap (dO .u64 (u64.wrap (i64.wrap (v1+v2))) 1)).toNat default)),.t (cO (qul.getD a1.toNat default))] (wR (qul.getD (i64.wrap (dO .u64 (u64.wrap (i64.wrap (v1+v2))) 1)).toNat default) (qul.getD a1.toNat default)) fun r4=>.dr 2 0 [(30000,false,[])] [0,1,4,10,11,12,31,32,33,34,35,36,37,38,39] <| .jn 0 0 (fun (j5,j6)=>⟨[(0,.own 30000),(1,tI a1),(4,.fn (.func 69) 0 []),(10,tI j5),(11,tI j6)],[(30000,aD qul)]⟩) (.ite 0 (decide (r4<0)) (.ret 3 (i64.wrap ((i64.wrap (dO .u64 (u64.wrap (i64.wrap (v1+v2))) 1))+1),v2)) (.ret 2 (v1,i64.wrap (dO .u64 (u64.wrap (i64.wrap (v1+v2))) 1)))) fun (j5,j6)=>.ret 0 (.inl (j5,j6))) (.ret 0 (.inr (.inl v1)))
def pL(b3:Int):(LD×Int)->TP ((LD×Int)⊕((LD)⊕LD))
 | (v7,v8)=>.ite 4 (decide (v8<(i64.wrap (b3-1)))) (.dg 8 (0<=(i64.wrap (v8+1))/\(i64.wrap (v8+1))<v7.length) <| .dg 9 ((i64.wrap (v8+1)).toNat<v7.length) <| .dg 12 (0<=v8/\v8<v7.length) <| .dg 13 ((v8).toNat<v7.length) <| .dg 14 (0<=v8/\v8<v7.length) <| .dg 15 ((v8).toNat<v7.length) <| .dg 16 (0<=(i64.wrap (v8+1))/\(i64.wrap (v8+1))<v7.length) <| .dg 17 ((i64.wrap (v8+1)).toNat<v7.length) <| .dr 0 0 [(30000,false,[15,17])] [0,10,13,55,56,57,58] <| .sto 0 30000 aK v7 [((v8).toNat,v7.getD (i64.wrap (v8+1)).toNat default),((i64.wrap (v8+1)).toNat,v7.getD v8.toNat default)] <| .ret 3 (.inl ((v7.set v8.toNat (v7.getD (i64.wrap (v8+1)).toNat default)).set (i64.wrap (v8+1)).toNat (v7.getD v8.toNat default),i64.wrap (v8+1)))) (.ret 0 (.inr (.inl v7)))
def vS(a2:Int)(qul:LD):(Int×Int)->TP ((Int×Int)⊕((Int)⊕LD))
 | (v10,v11)=>.ite 3 (decide (v10<v11)) (.gd 5 (0<=(1:Int)) (by decide) <| .dg 3 (0<=a2/\a2<qul.length) <| .dg 4 ((a2).toNat<qul.length) <| .dg 7 (0<=(i64.wrap (dO .u64 (u64.wrap (i64.wrap (v10+v11))) 1))/\(i64.wrap (dO .u64 (u64.wrap (i64.wrap (v10+v11))) 1))<qul.length) <| .dg 8 ((i64.wrap (dO .u64 (u64.wrap (i64.wrap (v10+v11))) 1)).toNat<qul.length) <| .dc 9 [.t (cO (qul.getD a2.toNat default)),.t (cO (qul.getD (i64.wrap (dO .u64 (u64.wrap (i64.wrap (v10+v11))) 1)).toNat default))] (wR (qul.getD a2.toNat default) (qul.getD (i64.wrap (dO .u64 (u64.wrap (i64.wrap (v10+v11))) 1)).toNat default)) fun r13=>.dr 2 0 [(30000,false,[])] [0,2,4,14,15,16,83,84,85,86,87,88,89,90,91] <| .jn 0 0 (fun (j14,j15)=>⟨[(0,.own 30000),(2,tI a2),(4,.fn (.func 69) 0 []),(14,tI j14),(15,tI j15)],[(30000,aD qul)]⟩) (.ite 0 (!(decide (r13<0))) (.ret 3 (i64.wrap ((i64.wrap (dO .u64 (u64.wrap (i64.wrap (v10+v11))) 1))+1),v11)) (.ret 2 (v10,i64.wrap (dO .u64 (u64.wrap (i64.wrap (v10+v11))) 1)))) fun (j14,j15)=>.ret 0 (.inl (j14,j15))) (.ret 0 (.inr (.inl v10)))
def pO(b12:Int):(LD×Int)->TP ((LD×Int)⊕((LD)⊕LD))
 | (v16,v17)=>.ite 3 (decide (v17>b12)) (.dg 8 (0<=(i64.wrap (v17-1))/\(i64.wrap (v17-1))<v16.length) <| .dg 9 ((i64.wrap (v17-1)).toNat<v16.length) <| .dg 12 (0<=v17/\v17<v16.length) <| .dg 13 ((v17).toNat<v16.length) <| .dg 14 (0<=v17/\v17<v16.length) <| .dg 15 ((v17).toNat<v16.length) <| .dg 16 (0<=(i64.wrap (v17-1))/\(i64.wrap (v17-1))<v16.length) <| .dg 17 ((i64.wrap (v17-1)).toNat<v16.length) <| .dr 0 0 [(30000,false,[15,17])] [0,14,17,108,109,110] <| .sto 0 30000 aK v16 [((v17).toNat,v16.getD (i64.wrap (v17-1)).toNat default),((i64.wrap (v17-1)).toNat,v16.getD v17.toNat default)] <| .ret 3 (.inl ((v16.set v17.toNat (v16.getD (i64.wrap (v17-1)).toNat default)).set (i64.wrap (v17-1)).toNat (v16.getD v17.toNat default),i64.wrap (v17-1)))) (.ret 0 (.inr (.inl v16)))
def qD(a1:Int)(a2:Int)(a3:Int)(qul:LD):(Int×Int)->TP ((Int×Int)⊕((Int)⊕LD))
 | (v21,v22)=>.ite 3 (decide (v21<v22)) (.gd 5 (0<=(1:Int)) (by decide) <| .dg 5 (0<=(i64.wrap ((i64.wrap ((i64.wrap ((i64.wrap (dO .u64 (u64.wrap (i64.wrap (a1+a3))) 1))+a2))-1))-(i64.wrap (dO .u64 (u64.wrap (i64.wrap (v21+v22))) 1))))/\(i64.wrap ((i64.wrap ((i64.wrap ((i64.wrap (dO .u64 (u64.wrap (i64.wrap (a1+a3))) 1))+a2))-1))-(i64.wrap (dO .u64 (u64.wrap (i64.wrap (v21+v22))) 1))))<qul.length) <| .dg 6 ((i64.wrap ((i64.wrap ((i64.wrap ((i64.wrap (dO .u64 (u64.wrap (i64.wrap (a1+a3))) 1))+a2))-1))-(i64.wrap (dO .u64 (u64.wrap (i64.wrap (v21+v22))) 1)))).toNat<qul.length) <| .dg 9 (0<=(i64.wrap (dO .u64 (u64.wrap (i64.wrap (v21+v22))) 1))/\(i64.wrap (dO .u64 (u64.wrap (i64.wrap (v21+v22))) 1))<qul.length) <| .dg 10 ((i64.wrap (dO .u64 (u64.wrap (i64.wrap (v21+v22))) 1)).toNat<qul.length) <| .dc 11 [.t (cO (qul.getD (i64.wrap ((i64.wrap ((i64.wrap ((i64.wrap (dO .u64 (u64.wrap (i64.wrap (a1+a3))) 1))+a2))-1))-(i64.wrap (dO .u64 (u64.wrap (i64.wrap (v21+v22))) 1)))).toNat default)),.t (cO (qul.getD (i64.wrap (dO .u64 (u64.wrap (i64.wrap (v21+v22))) 1)).toNat default))] (wR (qul.getD (i64.wrap ((i64.wrap ((i64.wrap ((i64.wrap (dO .u64 (u64.wrap (i64.wrap (a1+a3))) 1))+a2))-1))-(i64.wrap (dO .u64 (u64.wrap (i64.wrap (v21+v22))) 1)))).toNat default) (qul.getD (i64.wrap (dO .u64 (u64.wrap (i64.wrap (v21+v22))) 1)).toNat default)) fun r24=>.dr 2 0 [(30000,false,[])] [0,1,2,3,4,18,19,20,21,22,23,149,150,151,152,153,154,155,156,157] <| .jn 0 0 (fun (j25,j26)=>⟨[(0,.own 30000),(1,tI a1),(2,tI a2),(3,tI a3),(4,.fn (.func 69) 0 []),(18,tI (i64.wrap (dO .u64 (u64.wrap (i64.wrap (a1+a3))) 1))),(19,tI (i64.wrap ((i64.wrap (dO .u64 (u64.wrap (i64.wrap (a1+a3))) 1))+a2))),(20,tI j25),(21,tI j26),(22,tI (i64.wrap ((i64.wrap ((i64.wrap (dO .u64 (u64.wrap (i64.wrap (a1+a3))) 1))+a2))-1)))],[(30000,aD qul)]⟩) (.ite 0 (!(decide (r24<0))) (.ret 3 (i64.wrap ((i64.wrap (dO .u64 (u64.wrap (i64.wrap (v21+v22))) 1))+1),v22)) (.ret 2 (v21,i64.wrap (dO .u64 (u64.wrap (i64.wrap (v21+v22))) 1)))) fun (j25,j26)=>.ret 0 (.inl (j25,j26))) (.ret 0 (.inr (.inl v21)))
def Bv(rec:aAI)(a1:Int)(a2:Int)(a3:Int)(qul:LD):TP LD:=.ite 4 ((i64.wrap (a2-a1))==1) (.lp 4 (fun (v1,v2)=>⟨[(0,.own 30000),(1,tI a1),(4,.fn (.func 69) 0 []),(10,tI v1),(11,tI v2)],[(30000,aD qul)]⟩) (fun b3=>⟨[(0,.own 30000),(1,tI a1),(10,tI b3)],[(30000,aD qul)]⟩) 0 (a2,a3) (vQ a1 qul) fun b3=>.lp 2 (fun (v7,v8)=>⟨[(0,.own 30000),(10,tI b3),(13,tI v8)],[(30000,aD v7)]⟩) (fun b9=>⟨[],[(30000,aD b9)]⟩) 2 (qul,a1) (pL b3) fun b9=>.ret 0 b9) (.ite 4 ((i64.wrap (a3-a2))==1) (.lp 4 (fun (v10,v11)=>⟨[(0,.own 30000),(2,tI a2),(4,.fn (.func 69) 0 []),(14,tI v10),(15,tI v11)],[(30000,aD qul)]⟩) (fun b12=>⟨[(0,.own 30000),(2,tI a2),(14,tI b12)],[(30000,aD qul)]⟩) 4 (a1,a2) (vS a2 qul) fun b12=>.lp 2 (fun (v16,v17)=>⟨[(0,.own 30000),(14,tI b12),(17,tI v17)],[(30000,aD v16)]⟩) (fun b18=>⟨[],[(30000,aD b18)]⟩) 6 (qul,a2) (pO b12) fun b18=>.ret 0 b18) (.gd 5 (0<=(1:Int)) (by decide) <| .jn 11 0 (fun (j19,j20)=>⟨[(0,.own 30000),(1,tI a1),(2,tI a2),(3,tI a3),(4,.fn (.func 69) 0 []),(18,tI (i64.wrap (dO .u64 (u64.wrap (i64.wrap (a1+a3))) 1))),(19,tI (i64.wrap ((i64.wrap (dO .u64 (u64.wrap (i64.wrap (a1+a3))) 1))+a2))),(20,tI j19),(21,tI j20)],[(30000,aD qul)]⟩) (.ite 0 (decide (a2>(i64.wrap (dO .u64 (u64.wrap (i64.wrap (a1+a3))) 1)))) (.ret 6 (i64.wrap ((i64.wrap ((i64.wrap (dO .u64 (u64.wrap (i64.wrap (a1+a3))) 1))+a2))-a3),i64.wrap (dO .u64 (u64.wrap (i64.wrap (a1+a3))) 1))) (.ret 4 (a1,a2))) fun (j19,j20)=>.lp 3 (fun (v21,v22)=>⟨[(0,.own 30000),(1,tI a1),(2,tI a2),(3,tI a3),(4,.fn (.func 69) 0 []),(18,tI (i64.wrap (dO .u64 (u64.wrap (i64.wrap (a1+a3))) 1))),(19,tI (i64.wrap ((i64.wrap (dO .u64 (u64.wrap (i64.wrap (a1+a3))) 1))+a2))),(20,tI v21),(21,tI v22),(22,tI (i64.wrap ((i64.wrap ((i64.wrap (dO .u64 (u64.wrap (i64.wrap (a1+a3))) 1))+a2))-1)))],[(30000,aD qul)]⟩) (fun b23=>⟨[(0,.own 30000),(1,tI a1),(2,tI a2),(3,tI a3),(4,.fn (.func 69) 0 []),(18,tI (i64.wrap (dO .u64 (u64.wrap (i64.wrap (a1+a3))) 1))),(19,tI (i64.wrap ((i64.wrap (dO .u64 (u64.wrap (i64.wrap (a1+a3))) 1))+a2))),(20,tI b23)],[(30000,aD qul)]⟩) 8 (j19,j20) (qD a1 a2 a3 qul) fun b23=>.jn 8 0 (fun j27=>⟨[(0,.own 30000),(1,tI a1),(2,tI a2),(3,tI a3),(4,.fn (.func 69) 0 []),(18,tI (i64.wrap (dO .u64 (u64.wrap (i64.wrap (a1+a3))) 1))),(20,tI b23),(24,tI (i64.wrap ((i64.wrap ((i64.wrap (dO .u64 (u64.wrap (i64.wrap (a1+a3))) 1))+a2))-b23))),(185,tB j27)],[(30000,aD qul)]⟩) (.ite 0 (decide (b23<a2)) (.ret 4 (decide (a2<(i64.wrap ((i64.wrap ((i64.wrap (dO .u64 (u64.wrap (i64.wrap (a1+a3))) 1))+a2))-b23))))) (.ret 4 false)) fun j27=>.jn 0 0 (fun j28=>⟨[(0,.own 30000),(1,tI a1),(3,tI a3),(4,.fn (.func 69) 0 []),(18,tI (i64.wrap (dO .u64 (u64.wrap (i64.wrap (a1+a3))) 1))),(20,tI b23),(24,tI (i64.wrap ((i64.wrap ((i64.wrap (dO .u64 (u64.wrap (i64.wrap (a1+a3))) 1))+a2))-b23)))],[(30000,aD j28)]⟩) (.ite 0 j27 (.ch 5 [] (aHR b23 a2 (i64.wrap ((i64.wrap ((i64.wrap (dO .u64 (u64.wrap (i64.wrap (a1+a3))) 1))+a2))-b23)) qul) fun r29=>.ret 0 r29) (.ret 0 qul)) fun j28=>.jn 4 0 (fun j30=>⟨[(0,.own 30000),(1,tI a1),(3,tI a3),(4,.fn (.func 69) 0 []),(18,tI (i64.wrap (dO .u64 (u64.wrap (i64.wrap (a1+a3))) 1))),(20,tI b23),(24,tI (i64.wrap ((i64.wrap ((i64.wrap (dO .u64 (u64.wrap (i64.wrap (a1+a3))) 1))+a2))-b23))),(199,tB j30)],[(30000,aD j28)]⟩) (.ite 0 (decide (a1<b23)) (.ret 4 (decide (b23<(i64.wrap (dO .u64 (u64.wrap (i64.wrap (a1+a3))) 1))))) (.ret 4 false)) fun j30=>.jn 0 0 (fun j31=>⟨[(0,.own 30000),(3,tI a3),(4,.fn (.func 69) 0 []),(18,tI (i64.wrap (dO .u64 (u64.wrap (i64.wrap (a1+a3))) 1))),(24,tI (i64.wrap ((i64.wrap ((i64.wrap (dO .u64 (u64.wrap (i64.wrap (a1+a3))) 1))+a2))-b23)))],[(30000,aD j31)]⟩) (.ite 0 j30 (.ch 5 [] (rec.2 (a1,b23,i64.wrap (dO .u64 (u64.wrap (i64.wrap (a1+a3))) 1),j28)) fun r32=>.ret 0 r32) (.ret 0 j28)) fun j31=>.jn 4 0 (fun j33=>⟨[(0,.own 30000),(3,tI a3),(4,.fn (.func 69) 0 []),(18,tI (i64.wrap (dO .u64 (u64.wrap (i64.wrap (a1+a3))) 1))),(24,tI (i64.wrap ((i64.wrap ((i64.wrap (dO .u64 (u64.wrap (i64.wrap (a1+a3))) 1))+a2))-b23))),(213,tB j33)],[(30000,aD j31)]⟩) (.ite 0 (decide ((i64.wrap (dO .u64 (u64.wrap (i64.wrap (a1+a3))) 1))<(i64.wrap ((i64.wrap ((i64.wrap (dO .u64 (u64.wrap (i64.wrap (a1+a3))) 1))+a2))-b23)))) (.ret 4 (decide ((i64.wrap ((i64.wrap ((i64.wrap (dO .u64 (u64.wrap (i64.wrap (a1+a3))) 1))+a2))-b23))<a3))) (.ret 4 false)) fun j33=>.jn 0 0 (fun j34=>⟨[],[(30000,aD j34)]⟩) (.ite 0 j33 (.ch 5 [] (rec.2 (i64.wrap (dO .u64 (u64.wrap (i64.wrap (a1+a3))) 1),i64.wrap ((i64.wrap ((i64.wrap (dO .u64 (u64.wrap (i64.wrap (a1+a3))) 1))+a2))-b23),a3,j31)) fun r35=>.ret 0 r35) (.ret 0 j31)) fun j34=>.ret 0 j34))
theorem Mb(rec:aAI)(a1:Int)(a2:Int)(a3:Int)(qul:LD):dD Tryz.prog 272 [.own 30000,tI a1,tI a2,tI a3,.fn (.func 69) 0 []] [(30000,aD qul)] [30000] (Bv rec a1 a2 a3 qul).den (fun (y:LD)=>.tup []) (fun (y:LD)=>[(30000,aD y)]):=eC Tryz.func272 aR (Bv rec a1 a2 a3 qul)
def aOE(a:Int×Int×Int×LD):Option LD:=sG (C:=fun (a:Int×Int×Int×LD) (x:Option LD)=>dD Tryz.prog 272 [.own 30000,tI a.1,tI a.2.1,tI a.2.2.1,.fn (.func 69) 0 []] [(30000,.arr 50 3 (a.2.2.2.length) (eF aK a.2.2.2))] [30000] x (fun (y:LD)=>.tup []) (fun (y:LD)=>[(30000,aD y)])) (fun a=>⟨bL Tryz.func272 (by kernel_rfl),fun _ h=>nomatch h⟩) (fun rec a=>Bv rec a.1 a.2.1 a.2.2.1 a.2.2.2) (fun rec a=>Mb rec a.1 a.2.1 a.2.2.1 a.2.2.2) a
theorem aHL(a:Int×Int×Int×LD):dD Tryz.prog 272 [.own 30000,tI a.1,tI a.2.1,tI a.2.2.1,.fn (.func 69) 0 []] [(30000,.arr 50 3 (a.2.2.2.length) (eF aK a.2.2.2))] [30000] (aOE a) (fun (y:LD)=>.tup []) (fun (y:LD)=>[(30000,aD y)]):=lX (C:=fun (a:Int×Int×Int×LD) (x:Option LD)=>dD Tryz.prog 272 [.own 30000,tI a.1,tI a.2.1,tI a.2.2.1,.fn (.func 69) 0 []] [(30000,.arr 50 3 (a.2.2.2.length) (eF aK a.2.2.2))] [30000] x (fun (y:LD)=>.tup []) (fun (y:LD)=>[(30000,aD y)])) _ _ _ a
def Xf(a1:Int)(a2:Int)(a3:Int)(qul:LD):Option LD:=aOE (a1,a2,a3,qul)
theorem Lg(a1:Int)(a2:Int)(a3:Int)(qul:LD):dD Tryz.prog 272 [.own 30000,tI a1,tI a2,tI a3,.fn (.func 69) 0 []] [(30000,aD qul)] [30000] (Xf a1 a2 a3 qul) (fun y=>.tup []) (fun y=>[(30000,aD y)]):=aHL (a1,a2,a3,qul)
def Kx(a1:Int):(LD×Int×Int)->TP ((LD×Int×Int)⊕((LD×Int)⊕LD))
 | (v1,v2,v3)=>.ite 3 (decide (v3<=a1)) (.ch 4 [] (Me v2 v3 v1) fun r6=>.ret 6 (.inl (r6,v3,i64.wrap (v3+20)))) (.ret 0 (.inr (.inl (v1,v2))))
def Jn(a1:Int)(v9:Int):(LD×Int×Int)->TP ((LD×Int×Int)⊕((LD×Int)⊕((LD×Int)⊕((LD)⊕LD))))
 | (v11,v12,v13)=>.ite 3 (decide (v13<=a1)) (.ch 7 [] (Lg v12 (i64.wrap (v12+v9)) v13 v11) fun r16=>.ret 7 (.inl (r16,v13,i64.wrap (v13+(i64.wrap (2*v9)))))) (.ret 0 (.inr (.inl (v11,v12))))
def Kh(a1:Int):(LD×Int)->TP ((LD×Int)⊕((LD)⊕LD))
 | (v8,v9)=>.ite 3 (decide (v9<a1)) (.lp 4 (fun (v11,v12,v13)=>⟨[(0,.own 30000),(1,tI a1),(2,.fn (.func 69) 0 []),(6,tI v9),(7,tI v12),(8,tI v13)],[(30000,aD v11)]⟩) (fun (b14,b15)=>⟨[(0,.own 30000),(1,tI a1),(2,.fn (.func 69) 0 []),(6,tI v9),(7,tI b15)],[(30000,aD b14)]⟩) 4 (v8,0,i64.wrap (2*v9)) (Jn a1 v9) fun (b14,b15)=>.jn 7 0 (fun j17=>⟨[(0,.own 30000),(1,tI a1),(2,.fn (.func 69) 0 []),(6,tI v9)],[(30000,aD j17)]⟩) (.ite 0 (decide ((i64.wrap (b15+v9))<a1)) (.ch 5 [] (Lg b15 (i64.wrap (b15+v9)) a1 b14) fun r18=>.ret 0 r18) (.ret 0 b14)) fun j17=>.ret 3 (.inl (j17,i64.wrap (v9*2)))) (.ret 0 (.inr (.inl v8)))
def Yq(a1:Int)(qul:LD):TP LD:=.lp 4 (fun (v1,v2,v3)=>⟨[(0,.own 30000),(1,tI a1),(2,.fn (.func 69) 0 []),(6,tI 20),(7,tI v2),(8,tI v3)],[(30000,aD v1)]⟩) (fun (b4,b5)=>⟨[(0,.own 30000),(1,tI a1),(2,.fn (.func 69) 0 []),(6,tI 20),(7,tI b5)],[(30000,aD b4)]⟩) 0 (qul,0,20) (Kx a1) fun (b4,b5)=>.ch 4 [] (Me b5 a1 b4) fun r7=>.lp 0 (fun (v8,v9)=>⟨[(0,.own 30000),(1,tI a1),(2,.fn (.func 69) 0 []),(6,tI v9)],[(30000,aD v8)]⟩) (fun b10=>⟨[],[(30000,aD b10)]⟩) 2 (r7,20) (Kh a1) fun b10=>.ret 0 b10
def aAS(a1:Int)(qul:LD):=(Yq a1 qul).den
theorem aIX(a1:Int)(qul:LD):dD Tryz.prog 214 [.own 30000,tI a1,.fn (.func 69) 0 []] [(30000,aD qul)] [30000] (aAS a1 qul) (fun y=>.tup []) (fun y=>[(30000,aD y)]):=eC Tryz.func214 aR (Yq a1 qul)
def aKX(qul:LD):TP LD:=.ch 4 [] (aIX (qul.length:Int) qul) fun r1=>.ret 0 r1
def aPM(qul:LD):=(aKX qul).den
theorem Sk(qul:LD):dD Tryz.prog 153 [.own 30000,.fn (.func 69) 0 []] [(30000,aD qul)] [30000] (aPM qul) (fun y=>.tup []) (fun y=>[(30000,aD y)]):=eC Tryz.func153 aR (aKX qul)
def aRD(a0:List aE):TP (List aE):=.jn 2 0 (fun j1=>⟨[(0,tV a0),(4,tB j1)],[]⟩) (.ndb 0 a0.length (.ret 0 true) (.ret 0 false)) fun j1=>.ite 0 j1 (.cv 1 [.th 2 40000 67 3 (eF bA ([]:List aE))] <| .ret 0 ([]:List aE)) (.bs 0 true bA ([]:List aE) <| .grd 2 ((([]:List aE).length+a0.length)*32<=140737488355328) <| .cv 0 [.ap 7 bA ([]:List aE) a0] <| .cv 1 [.rn 7 40000] <| .ret 0 (([]:List aE)++a0))
def aNB(a0:List aE):Option (List aE):=Det (aRD a0)
theorem Gr(a0:List aE):dD Tryz.prog 154 [tV a0] [] [] (aNB a0) (fun y=>.own 40000) (fun y=>[(40000,.arr 67 3 (y.length) (eF bA y))]):=So Tryz.func154 aR (aRD a0)
def aPF(a0:LD):TP LD:=.jn 2 0 (fun j1=>⟨[(0,tD a0),(4,tB j1)],[]⟩) (.ndb 0 a0.length (.ret 0 true) (.ret 0 false)) fun j1=>.ite 0 j1 (.cv 1 [.th 2 40000 50 3 (eF aK ([]:LD))] <| .ret 0 ([]:LD)) (.bs 0 true aK ([]:LD) <| .grd 2 ((([]:LD).length+a0.length)*40<=140737488355328) <| .cv 0 [.ap 7 aK ([]:LD) a0] <| .cv 1 [.rn 7 40000] <| .ret 0 (([]:LD)++a0))
def aQR(a0:LD):Option LD:=Det (aPF a0)
theorem yN(a0:LD):dD Tryz.prog 75 [tD a0] [] [] (aQR a0) (fun y=>.own 40000) (fun y=>[(40000,aD y)]):=So Tryz.func75 aR (aPF a0)
def aLS(v3:LD):(Int×LD×Int)->TP ((Int×LD×Int)⊕((Int×LD×Int)⊕((LD×LD)⊕((LD)⊕LD))))
 | (v6,v7,v8)=>.jn 0 0 (fun (j12,j13)=>⟨[(3,tD v3),(4,.own 4),(5,.ptr 5 0),(6,tI v8),(29,tB j13)],[(4,aD j12),(5,.box [tI ((v3.getD (0:Int).toNat default).Time),tV ((v3.getD (0:Int).toNat default).Row),tI v6])]⟩) (.dl 4 (decide (v8<v3.length)) (.dg 8 (0<=v8/\v8<v3.length) <| .dc 10 [.t (cO (aC.mk ((v3.getD (0:Int).toNat default).Time) ((v3.getD (0:Int).toNat default).Row) v6)),.t (cO (v3.getD v8.toNat default))] (wR (aC.mk ((v3.getD (0:Int).toNat default).Time) ((v3.getD (0:Int).toNat default).Row) v6) (v3.getD v8.toNat default)) fun r14=>.dr 0 0 [(4,false,[]),(5,false,[])] [3,4,5,6] <| .ret 0 (v7,r14==0)) (.dr 0 0 [(4,false,[]),(5,false,[])] [3,4,5,6] <| .ret 0 (v7,false))) fun (j12,j13)=>.ite 0 j13 (.dg 4 (0<=v8/\v8<v3.length) <| .dr 0 0 [(4,false,[]),(5,false,[9])] [3,4,5,6,29] <| .ret 3 (.inl (i64.wrap (v6+((v3.getD v8.toNat default).N)),j12,i64.wrap (v8+1)))) (.ret 0 (.inr (.inl (v6,j12,v8))))
def aRF:(LD×LD)->TP ((LD×LD)⊕((LD)⊕LD))
 | (v3,v4)=>.ite 3 (decide ((v3.length:Int)>0)) (.grd 2 (0<=(0:Int)/\(0:Int)<v3.length) <| .lp 4 (fun (v6,v7,v8)=>⟨[(3,tD v3),(4,.own 4),(5,.ptr 5 0),(6,tI v8)],[(4,aD v7),(5,.box [tI ((v3.getD (0:Int).toNat default).Time),tV ((v3.getD (0:Int).toNat default).Row),tI v6])]⟩) (fun (b9,b10,b11)=>⟨[(3,tD v3),(4,.own 4),(5,.ptr 5 0),(6,tI b11)],[(4,aD b10),(5,.box [tI ((v3.getD (0:Int).toNat default).Time),tV ((v3.getD (0:Int).toNat default).Row),tI b9])]⟩) 2 ((v3.getD (0:Int).toNat default).N,v4,1) (aLS v3) fun (b9,b10,b11)=>.jn 3 0 (fun j15=>⟨[(3,tD v3),(4,.own 4),(6,tI b11)],[(4,aD j15)]⟩) (.ite 0 (b9 != 0) (.ch 2 [40000] (Gr ((v3.getD (0:Int).toNat default).Row)) fun r16=>.cv 0 [.rn 40000 46] <| .cv 3 [.fr 46 (eL bA r16)] <| .bs 1 true aK ([(aC.mk ((v3.getD (0:Int).toNat default).Time) r16 b9)]:LD) <| .grd 1 ((b10.length+([(aC.mk ((v3.getD (0:Int).toNat default).Time) r16 b9)]:LD).length)*40<=140737488355328) <| .cv 0 [.ap 51 aK b10 ([(aC.mk ((v3.getD (0:Int).toNat default).Time) r16 b9)]:LD)] <| .cv 1 [.rn 51 4] <| .ret 0 (b10++([(aC.mk ((v3.getD (0:Int).toNat default).Time) r16 b9)]:LD))) (.ret 0 b10)) fun j15=>.slc 3 54 aK v3 (b11:Int) (v3.length:Int) <| .ret 1 (.inl ((v3.drop (b11:Int).toNat).take ((v3.length:Int)-(b11:Int)).toNat,j15))) (.ret 0 (.inr (.inl v4)))
def bBU(a0:LD):TP LD:=.ch 2 [40000] (yN a0) fun r1=>.cv 0 [.rn 40000 8] <| .cv 2 [.rn 8 30000] <| .ch 0 [] (Sk r1) fun r2=>.cv 1 [.fr 30000 (eL aK r2),.th 4 4 50 3 (eF aK ([]:LD))] <| .lp 0 (fun (v3,v4)=>⟨[(3,tD v3),(4,.own 4)],[(4,aD v4)]⟩) (fun b5=>⟨[(4,.own 4)],[(4,aD b5)]⟩) 0 (r2,([]:LD)) aRF fun b5=>.cv 2 [.rn 4 40000] <| .ret 0 b5
def aPX(a0:LD):=(bBU a0).den
theorem Vm(a0:LD):dD Tryz.prog 66 [tD a0] [] [] (aPX a0) (fun y=>.own 40000) (fun y=>[(40000,aD y)]):=eC Tryz.func66 aR (bBU a0)
def aMJ(a0:aC)(qv0:Int):TP Bool:=.ret 7 (decide (a0.Time<=qv0))
def aOV(a0:aC)(qv0:Int):=(aMJ a0 qv0).den
theorem Vi(a0:aC)(qv0:Int):dD Tryz.prog 73 [.t (cO a0),.ptr 30001 0] [(30001,.box (([.int .i64 qv0]).map .t))] [30001] (aOV a0 qv0) tB (fun y=>[(30001,.box (([.int .i64 qv0]).map .t))]):=eC Tryz.func73 aR (aMJ a0 qv0)
def Kz(qul:LD)(qv0:Int):Int->TP ((Int)⊕((Unit)⊕Int))
 | v1=>.ite 1 (decide (v1<qul.length)) (.grd 6 (0<=v1/\v1<qul.length) <| .grd 1 ((v1).toNat<qul.length) <| .ch 0 [] (Vi (qul.getD v1.toNat default) qv0) fun r2=>.ite 0 r2 (.ret 2 (.inr (.inr v1))) (.ret 2 (.inl (i64.wrap (v1+1))))) (.ret 0 (.inr (.inl ())))
def Wq(qul:LD)(qv0:Int):TP Int:=.lp 4 (fun v1=>⟨[(0,.own 30000),(1,.fn (.func 73) 0 [.ptr 30001 0]),(7,tI (qul.length:Int)),(8,tI v1)],[(30000,aD qul),(30001,.box (([.int .i64 qv0]).map .t))]⟩) (fun _=>⟨[],[(30000,aD qul),(30001,.box (([.int .i64 qv0]).map .t))]⟩) 0 0 (Kz qul qv0) fun _=>.ret 1 (-1)
def Zn(qul:LD)(qv0:Int):=(Wq qul qv0).den
theorem aIJ(qul:LD)(qv0:Int):dD Tryz.prog 165 [.own 30000,.fn (.func 73) 0 [.ptr 30001 0]] [(30000,aD qul),(30001,.box (([.int .i64 qv0]).map .t))] [30000,30001] (Zn qul qv0) tI (fun y=>[(30000,aD qul),(30001,.box (([.int .i64 qv0]).map .t))]):=eC Tryz.func165 aR (Wq qul qv0)
def Uu(qv0:Int):(LD×Int×Int)->TP ((LD×Int×Int)⊕((LD×Int)⊕LD))
 | (v2,v3,v4)=>.ite 4 (decide (v4<v2.length)) (.grd 3 (0<=v4/\v4<v2.length) <| .grd 1 ((v4).toNat<v2.length) <| .ch 4 [] (Vi (v2.getD v4.toNat default) qv0) fun r7=>.jn 1 0 (fun (j8,j9)=>⟨[(0,.own 0),(1,.fn (.func 73) 0 [.ptr 30001 0]),(5,tI j9),(6,tI v4)],[(0,aD j8),(30001,.box (([.int .i64 qv0]).map .t))]⟩) (.ite 0 (!r7) (.grd 4 (0<=v3/\v3<v2.length) <| .grd 1 ((v3).toNat<v2.length) <| .sto 0 0 aK v2 [((v3).toNat,v2.getD v4.toNat default)] <| .ret 3 (v2.set v3.toNat (v2.getD v4.toNat default),i64.wrap (v3+1))) (.ret 0 (v2,v3))) fun (j8,j9)=>.ret 3 (.inl (j8,j9,i64.wrap (v4+1)))) (.ret 0 (.inr (.inl (v2,v3))))
def aQM(qul:LD)(qv0:Int):TP LD:=.ch 3 [] (aIJ qul qv0) fun r1=>.ite 3 (r1==(-1)) (.cv 2 [.fr 30000 (eL aK qul)] <| .ret 0 qul) (.cv 3 [.rn 30000 0] <| .lp 0 (fun (v2,v3,v4)=>⟨[(0,.own 0),(1,.fn (.func 73) 0 [.ptr 30001 0]),(5,tI v3),(6,tI v4)],[(0,aD v2),(30001,.box (([.int .i64 qv0]).map .t))]⟩) (fun (b5,b6)=>⟨[(0,.own 0),(5,tI b6)],[(0,aD b5),(30001,.box (([.int .i64 qv0]).map .t))]⟩) 0 (qul,r1,i64.wrap (r1+1)) (Uu qv0) fun (b5,b6)=>.clr 2 aK b5 b6 <| .cut 2 aK (b5.take b6.toNat++List.replicate (b5.length-b6.toNat) default) b6 <| .cv 1 [.fr 41 (eL aK ((b5.take b6.toNat++List.replicate (b5.length-b6.toNat) default).take b6.toNat))] <| .ret 0 ((b5.take b6.toNat++List.replicate (b5.length-b6.toNat) default).take b6.toNat))
def aNF(qul:LD)(qv0:Int):=(aQM qul qv0).den
theorem aOZ(qul:LD)(qv0:Int):dD Tryz.prog 74 [.own 30000,.fn (.func 73) 0 [.ptr 30001 0]] [(30000,aD qul),(30001,.box (([.int .i64 qv0]).map .t))] [30001] (aNF qul qv0) tD (fun y=>[(30001,.box (([.int .i64 qv0]).map .t))]):=eC Tryz.func74 aR (aQM qul qv0)
def T14(a0:LD)(a1:Int):TP LD:=.ch 5 [40000] (yN a0) fun r1=>.cv 0 [.rn 40000 8] <| .cv 1 [.rn 8 30000] <| .cv 0 [.rn 3 30001] <| .ch 0 [] (aOZ r1 a1) fun r2=>.ch 0 [40000] (Vm r2) fun r3=>.cv 0 [.rn 40000 11] <| .cv 1 [.fr 11 (eL aK r3)] <| .ret 0 r3
def G14(a0:LD)(a1:Int):=(T14 a0 a1).den
theorem bGP(a0:LD)(a1:Int):Con Tryz.prog 22 [tD a0,tI a1] (G14 a0 a1) tD:=con Tryz.func22 aR (T14 a0 a1)
def aAH(a1:ByteArray)(a2:LD)(qu0:List aI)(qu1:aG)(qu2:Int)(qum:LM)(hi30001:List ByteArray):TP LM:=.cv 6 [.gp 30001 mD (qum:LM) a1] <| .upd 0 mD (mdel qum a1:LM) a1 <| .jn 3 0 (fun j1=>⟨[],[(30000,bP qu0 qu1 30001 qu2),(30001,.mp (some ⟨30,kTs (hi30001:List ByteArray),none⟩) (eM mD (j1:LM)) none)]⟩) (.ite 0 ((a2.length:Int)==0) (.dlt 5 mD (mdel qum a1:LM) a1 (some (tD a2)) <| .ret 0 (mdel qum a1)) (.cv 0 [.fd 30001 vD (qum:LM) a1 (a2:LD),.nc 30001] <| .ret 0 (mput qum a1 (a2:LD)))) fun j1=>.ret 0 j1
def aAW(a1:ByteArray)(a2:LD)(qu0:List aI)(qu1:aG)(qu2:Int)(qum:LM)(hi30001:List ByteArray):=(aAH a1 a2 qu0 qu1 qu2 qum hi30001).den
theorem aJS(a1:ByteArray)(a2:LD)(qu0:List aI)(qu1:aG)(qu2:Int)(qum:LM)(hi30001:List ByteArray):dD Tryz.prog 65 [.ptr 30000 0,.t (.str a1),tD a2] [(30000,bP qu0 qu1 30001 qu2),(30001,.mp (some ⟨30,kTs (hi30001:List ByteArray),some (.str a1)⟩) (eM mD (qum:LM)) none)] [30000,30001,30] (aAW a1 a2 qu0 qu1 qu2 qum hi30001) (fun y=>.tup []) (fun y=>[(30000,bP qu0 qu1 30001 qu2),(30001,.mp (some ⟨30,kTs (hi30001:List ByteArray),none⟩) (eM mD (y:LM)) none)]):=eC Tryz.func65 aR (aAH a1 a2 qu0 qu1 qu2 qum hi30001)
def Jv(a1:Int)(qu0:List aI)(qu1:aG)(r1:Int×Int):((List ByteArray)×LM)->TP (((List ByteArray)×LM)⊕(((List ByteArray)×LM)⊕(LM×Int)))
 | (v2,v3)=>.nxd 0 vD (v3:LM) (v2:List ByteArray) (.ret 2 (.inr (.inl (v2,v3)))) fun k6 c7=>.gd 3 ((.str k6:T) = .str k6) rfl <| .ca 10 (bGP c7 (i64.wrap (a1-r1.1))) fun r8=>.cv 0 [.fd 30001 vD (v3:LM) k6 (c7:LD)] <| .ch 0 [] (aJS k6 r8 qu0 qu1 a1 (mput v3 k6 (c7:LD)) (jL v2 k6)) fun r9=>.ret 0 (.inl (jL v2 k6,r9))
def Ri(a1:Int)(qu0:List aI)(qu1:aG)(qu2:Int)(qum:LM):TP (LM×Int):=.ite 6 (decide (a1<=qu2)) (.ret 0 (qum,qu2)) (.ca 9 (aSM qu1) fun r1=>.rng 9 mD (qum:LM) <| .lp 0 (fun (v2,v3)=>⟨[(0,.ptr 30000 0),(1,tI a1),(4,tI r1.1),(30,.ptr 30 0)],[(30000,bP qu0 qu1 30001 a1),(30001,.mp (some ⟨30,kTs (v2:List ByteArray),none⟩) (eM mD (v3:LM)) none)]⟩) (fun (b4,b5)=>⟨[],[(30000,bP qu0 qu1 30001 a1),(30001,.mp (some ⟨30,kTs (b4:List ByteArray),none⟩) (eM mD (b5:LM)) none)]⟩) 0 (cU qum,qum) (Jv a1 qu0 qu1 r1) fun (b4,b5)=>.cv 0 [.ni 30001] <| .ret 0 (b5,a1))
def Ab(a1:Int)(qu0:List aI)(qu1:aG)(qu2:Int)(qum:LM):Option (LM×Int):=Det (Ri a1 qu0 qu1 qu2 qum)
theorem Ld(a1:Int)(qu0:List aI)(qu1:aG)(qu2:Int)(qum:LM):dD Tryz.prog 18 [.ptr 30000 0,tI a1] [(30000,bP qu0 qu1 30001 qu2),(30001,pD qum)] [30000,30001] (Ab a1 qu0 qu1 qu2 qum) (fun y=>.tup []) (fun y=>[(30000,bP qu0 qu1 30001 y.2),(30001,.mp none (eM mD (y.1:LM)) none)]):=So Tryz.func18 aR (Ri a1 qu0 qu1 qu2 qum)
def Xy(v3:LD):(Int×LD×Int)->TP ((Int×LD×Int)⊕((Int×LD×Int)⊕((LD×LD)⊕((LD)⊕LD))))
 | (v6,v7,v8)=>.jn 0 0 (fun (j12,j13)=>⟨[(3,tD v3),(4,.own 4),(5,.ptr 5 0),(6,tI v8),(29,tB j13)],[(4,aD j12),(5,.box [tI ((v3.getD (0:Int).toNat default).Time),tV ((v3.getD (0:Int).toNat default).Row),tI v6])]⟩) (.dl 4 (decide (v8<v3.length)) (.dg 8 (0<=v8/\v8<v3.length) <| .dc 10 [.t (cO (aC.mk ((v3.getD (0:Int).toNat default).Time) ((v3.getD (0:Int).toNat default).Row) v6)),.t (cO (v3.getD v8.toNat default))] (wR (aC.mk ((v3.getD (0:Int).toNat default).Time) ((v3.getD (0:Int).toNat default).Row) v6) (v3.getD v8.toNat default)) fun r14=>.dr 0 0 [(4,false,[]),(5,false,[])] [3,4,5,6] <| .ret 0 (v7,r14==0)) (.dr 0 0 [(4,false,[]),(5,false,[])] [3,4,5,6] <| .ret 0 (v7,false))) fun (j12,j13)=>.ite 0 j13 (.dg 4 (0<=v8/\v8<v3.length) <| .dr 0 0 [(4,false,[]),(5,false,[9])] [3,4,5,6,29] <| .ret 3 (.inl (i64.wrap (v6+((v3.getD v8.toNat default).N)),j12,i64.wrap (v8+1)))) (.ret 0 (.inr (.inl (v6,j12,v8))))
def Zu:(LD×LD)->TP ((LD×LD)⊕((LD)⊕LD))
 | (v3,v4)=>.ite 3 (decide ((v3.length:Int)>0)) (.grd 2 (0<=(0:Int)/\(0:Int)<v3.length) <| .lp 4 (fun (v6,v7,v8)=>⟨[(3,tD v3),(4,.own 4),(5,.ptr 5 0),(6,tI v8)],[(4,aD v7),(5,.box [tI ((v3.getD (0:Int).toNat default).Time),tV ((v3.getD (0:Int).toNat default).Row),tI v6])]⟩) (fun (b9,b10,b11)=>⟨[(3,tD v3),(4,.own 4),(5,.ptr 5 0),(6,tI b11)],[(4,aD b10),(5,.box [tI ((v3.getD (0:Int).toNat default).Time),tV ((v3.getD (0:Int).toNat default).Row),tI b9])]⟩) 2 ((v3.getD (0:Int).toNat default).N,v4,1) (Xy v3) fun (b9,b10,b11)=>.jn 3 0 (fun j15=>⟨[(3,tD v3),(4,.own 4),(6,tI b11)],[(4,aD j15)]⟩) (.ite 0 (b9 != 0) (.ch 2 [40000] (Gr ((v3.getD (0:Int).toNat default).Row)) fun r16=>.cv 0 [.rn 40000 46] <| .cv 3 [.fr 46 (eL bA r16)] <| .bs 1 true aK ([(aC.mk ((v3.getD (0:Int).toNat default).Time) r16 b9)]:LD) <| .grd 1 ((b10.length+([(aC.mk ((v3.getD (0:Int).toNat default).Time) r16 b9)]:LD).length)*40<=140737488355328) <| .cv 0 [.ap 51 aK b10 ([(aC.mk ((v3.getD (0:Int).toNat default).Time) r16 b9)]:LD)] <| .cv 1 [.rn 51 4] <| .ret 0 (b10++([(aC.mk ((v3.getD (0:Int).toNat default).Time) r16 b9)]:LD))) (.ret 0 b10)) fun j15=>.slc 3 54 aK v3 (b11:Int) (v3.length:Int) <| .ret 1 (.inl ((v3.drop (b11:Int).toNat).take ((v3.length:Int)-(b11:Int)).toNat,j15))) (.ret 0 (.inr (.inl v4)))
def T27(a0:LD):TP LD:=.ch 2 [40000] (yN a0) fun r1=>.cv 0 [.rn 40000 8] <| .cv 2 [.rn 8 30000] <| .ch 0 [] (Sk r1) fun r2=>.cv 1 [.fr 30000 (eL aK r2),.th 4 4 50 3 (eF aK ([]:LD))] <| .lp 0 (fun (v3,v4)=>⟨[(3,tD v3),(4,.own 4)],[(4,aD v4)]⟩) (fun b5=>⟨[(4,.own 4)],[(4,aD b5)]⟩) 0 (r2,([]:LD)) Zu fun b5=>.cv 2 [.fr 4 (eL aK b5)] <| .ret 0 b5
def G27(a0:LD):=(T27 a0).den
theorem Br(a0:LD):Con Tryz.prog 66 [tD a0] (G27 a0) tD:=con Tryz.func66 aR (T27 a0)
def Xr(a1:Int):TP LD:=.ite 3 (decide (a1<0)) (.no) (.jn 10 0 (fun j1=>⟨[(0,.own 0)],[(0,aD j1)]⟩) (.ite 0 (decide ((i64.wrap (a1-0))>0)) (.gd 4 (0<=(0:Int)/\(0:Int)<=(0:Int)/\(0:Int)<=0) (by decide) <| .apz 1 aK 40 (i64.wrap (a1-0)) <| .cut 2 aK (List.replicate (i64.wrap (a1-0)).toNat (default:aC)) (0:Int) <| .cv 1 [.rn 25 0] <| .ret 0 ((List.replicate (i64.wrap (a1-0)).toNat (default:aC)).take (0:Int).toNat)) (.cv 0 [.th 0 0 50 3 (eF aK ([]:LD))] <| .ret 0 ([]:LD))) fun j1=>.cv 2 [.rn 0 40000] <| .ret 0 j1)
def Xk(a1:Int):=(Xr a1).den
theorem aIU(a1:Int):dD Tryz.prog 155 [.nil,tI a1] [] [] (Xk a1) (fun y=>.own 40000) (fun y=>[(40000,aD y)]):=eC Tryz.func155 aR (Xr a1)
def Oq(a0:List LD):(Int×Int)->TP ((Int×Int)⊕((Int)⊕LD))
 | (v1,v2)=>.ite 1 (decide (v2<a0.length)) (.grd 1 (0<=v2/\v2<a0.length) <| .ite 9 (decide ((i64.wrap (v1+((a0.getD v2.toNat default).length:Int)))<0)) (.no) (.ret 2 (.inl (i64.wrap (v1+((a0.getD v2.toNat default).length:Int)),i64.wrap (v2+1))))) (.ret 0 (.inr (.inl v1)))
def Pc(a0:List LD):(LD×Int)->TP ((LD×Int)⊕((LD)⊕LD))
 | (v5,v6)=>.ite 1 (decide (v6<a0.length)) (.grd 1 (0<=v6/\v6<a0.length) <| .grd 5 ((v5.length+(a0.getD v6.toNat default).length)*40<=140737488355328) <| .cv 0 [.ap 33 aK v5 (a0.getD v6.toNat default)] <| .cv 3 [.rn 33 6] <| .ret 0 (.inl (v5++(a0.getD v6.toNat default),i64.wrap (v6+1)))) (.ret 0 (.inr (.inl v5)))
def T39(a0:List LD):TP LD:=.lp 5 (fun (v1,v2)=>⟨[(0,.t (eL jE a0)),(3,tI v1),(9,.t (eL jE a0)),(10,tI (a0.length:Int)),(11,tI v2)],[]⟩) (fun b3=>⟨[(0,.t (eL jE a0)),(3,tI b3)],[]⟩) 0 (0,0) (Oq a0) fun b3=>.ch 1 [40000] (aIU b3) fun r4=>.cv 0 [.rn 40000 24] <| .cv 4 [.rn 24 6] <| .lp 0 (fun (v5,v6)=>⟨[(6,.own 6),(25,.t (eL jE a0)),(26,tI (a0.length:Int)),(27,tI v6)],[(6,aD v5)]⟩) (fun b7=>⟨[(6,.own 6)],[(6,aD b7)]⟩) 2 (r4,0) (Pc a0) fun b7=>.cv 2 [.fr 6 (eL aK b7)] <| .ret 0 b7
def G39(a0:List LD):=(T39 a0).den
theorem bGH(a0:List LD):Con Tryz.prog 67 [.t (eL jE a0)] (G39 a0) tD:=con Tryz.func67 aR (T39 a0)
def T12(a0:LD)(a1:LD):TP LD:=.bs 3 false jE [a0,a1] <| .ca 0 (bGH [a0,a1]) fun r1=>.ca 0 (Br r1) fun r2=>.ret 1 r2
def G12(a0:LD)(a1:LD):=(T12 a0 a1).den
theorem bGW(a0:LD)(a1:LD):Con Tryz.prog 19 [tD a0,tD a1] (G12 a0 a1) tD:=con Tryz.func19 aR (T12 a0 a1)
def Dk(a1:LD):(LD×Int)->TP ((LD×Int)⊕((LD)⊕LD))
 | (v2,v3)=>.ite 1 (decide (v3<a1.length)) (.grd 1 (0<=v3/\v3<a1.length) <| .bs 10 true aK [(aC.mk ((a1.getD v3.toNat default).Time) ((a1.getD v3.toNat default).Row) (i64.wrap (0-((a1.getD v3.toNat default).N))))] <| .grd 1 ((v2.length+[(aC.mk ((a1.getD v3.toNat default).Time) ((a1.getD v3.toNat default).Row) (i64.wrap (0-((a1.getD v3.toNat default).N))))].length)*40<=140737488355328) <| .cv 0 [.ap 23 aK v2 [(aC.mk ((a1.getD v3.toNat default).Time) ((a1.getD v3.toNat default).Row) (i64.wrap (0-((a1.getD v3.toNat default).N))))]] <| .cv 3 [.rn 23 5] <| .ret 0 (.inl (v2++[(aC.mk ((a1.getD v3.toNat default).Time) ((a1.getD v3.toNat default).Row) (i64.wrap (0-((a1.getD v3.toNat default).N))))],i64.wrap (v3+1)))) (.ret 0 (.inr (.inl v2)))
def bEL(a0:LD)(a1:LD):TP LD:=.ch 2 [40000] (yN a0) fun r1=>.cv 0 [.rn 40000 9] <| .cv 4 [.rn 9 5] <| .lp 0 (fun (v2,v3)=>⟨[(5,.own 5),(10,tD a1),(11,tI (a1.length:Int)),(12,tI v3)],[(5,aD v2)]⟩) (fun b4=>⟨[(5,.own 5)],[(5,aD b4)]⟩) 0 (r1,0) (Dk a1) fun b4=>.cv 1 [.fr 5 (eL aK b4)] <| .ch 0 [40000] (Vm b4) fun r5=>.cv 0 [.rn 40000 26] <| .cv 1 [.fr 26 (eL aK r5)] <| .ret 0 r5
def bGX(a0:LD)(a1:LD):=(bEL a0 a1).den
theorem aYI(a0:LD)(a1:LD):Con Tryz.prog 29 [tD a0,tD a1] (bGX a0 a1) tD:=con Tryz.func29 aR (bEL a0 a1)
def Yu(a1:ByteArray)(a2:LD)(qu0:List aI)(qu1:aG)(qu2:Int)(qum:LM):TP LM:=.cv 6 [.gp 30001 mD (qum:LM) a1] <| .upd 0 mD (mdel qum a1:LM) a1 <| .jn 3 0 (fun j1=>⟨[],[(30000,bP qu0 qu1 30001 qu2),(30001,pD j1)]⟩) (.ite 0 ((a2.length:Int)==0) (.dlt 5 mD (mdel qum a1:LM) a1 (some (tD a2)) <| .ret 0 (mdel qum a1)) (.cv 0 [.fd 30001 vD (qum:LM) a1 (a2:LD)] <| .ret 0 (mput qum a1 (a2:LD)))) fun j1=>.ret 0 j1
def Xe(a1:ByteArray)(a2:LD)(qu0:List aI)(qu1:aG)(qu2:Int)(qum:LM):=(Yu a1 a2 qu0 qu1 qu2 qum).den
theorem aIN(a1:ByteArray)(a2:LD)(qu0:List aI)(qu1:aG)(qu2:Int)(qum:LM):dD Tryz.prog 65 [.ptr 30000 0,.t (.str a1),tD a2] [(30000,bP qu0 qu1 30001 qu2),(30001,pD qum)] [30000,30001] (Xe a1 a2 qu0 qu1 qu2 qum) (fun y=>.tup []) (fun y=>[(30000,bP qu0 qu1 30001 qu2),(30001,pD y)]):=eC Tryz.func65 aR (Yu a1 a2 qu0 qu1 qu2 qum)
def T51(a0:Int):TP ByteArray:=.ca 2 (Nm a0) fun r1=>.grd 1 (((r1.size+((⟨#[59]⟩):ByteArray).size:Nat):Int)<=9223372036854775807) <| .ret 1 (r1++((⟨#[59]⟩):ByteArray))
def G51(a0:Int):=(T51 a0).den
theorem xT(a0:Int):Con Tryz.prog 78 [tI a0] (G51 a0) (fun y=>.t (.str y)):=con Tryz.func78 aR (T51 a0)
def bFG(a0:Int):TP ByteArray:=.ite 3 (decide (a0<0)) (.ret 1 (⟨#[]⟩)) (.ca 1 (xT a0) fun r1=>.ret 1 r1)
def bEW(a0:Int):=(bFG a0).den
theorem aBK(a0:Int):Con Tryz.prog 168 [tI a0] (bEW a0) (fun y=>.t (.str y)):=con Tryz.func168 aR (bFG a0)
def T52(a0:ByteArray):TP ByteArray:=.ca 3 (Nm ((a0:ByteArray).size:Int)) fun r1=>.grd 1 (((r1.size+((⟨#[58]⟩):ByteArray).size:Nat):Int)<=9223372036854775807) <| .grd 2 (((((r1++((⟨#[58]⟩):ByteArray)):ByteArray).size+a0.size:Nat):Int)<=9223372036854775807) <| .grd 1 (((((((r1++((⟨#[58]⟩):ByteArray)):ByteArray)++a0):ByteArray).size+((⟨#[44]⟩):ByteArray).size:Nat):Int)<=9223372036854775807) <| .ret 1 (((((r1++((⟨#[58]⟩):ByteArray)):ByteArray)++a0):ByteArray)++((⟨#[44]⟩):ByteArray))
def G52(a0:ByteArray):=(T52 a0).den
theorem aKL(a0:ByteArray):Con Tryz.prog 169 [.t (.str a0)] (G52 a0) (fun y=>.t (.str y)):=con Tryz.func169 aR (T52 a0)
def bDA(a0:aE):TP ByteArray:=.dc 2 [tI a0.Kind] (xT a0.Kind) fun r1=>.dc 5 [tI a0.N] (xT a0.N) fun r2=>.dg 6 (((r1.size+r2.size:Nat):Int)<=9223372036854775807) <| .dc 9 [.t (.str (a0.S))] (aKL a0.S) fun r3=>.dg 10 ((((r1++r2).size+r3.size:Nat):Int)<=9223372036854775807) <| .dr 2 0 [(1,false,[])] [0,1] <| .ret 0 ((r1++r2)++r3)
def bHC(a0:aE):=(bDA a0).den
theorem bBI(a0:aE):Con Tryz.prog 217 [.t (cH a0)] (bHC a0) (fun y=>.t (.str y)):=con Tryz.func217 aR (bDA a0)
def Dz(a0:List aE):(ByteArray×Int)->TP ((ByteArray×Int)⊕((ByteArray)⊕ByteArray))
 | (v2,v3)=>.ite 1 (decide (v3<a0.length)) (.grd 1 (0<=v3/\v3<a0.length) <| .ca 4 (bBI (a0.getD v3.toNat default)) fun r5=>.ch 0 [] (On v2 r5) fun _=>.ret 2 (.inl (v2++r5,i64.wrap (v3+1)))) (.ret 0 (.inr (.inl v2)))
def bDV(a0:List aE):TP ByteArray:=.abl 1 5 <| .ca 2 (aBK (a0.length:Int)) fun r1=>.cv 0 [.rn 3 30000] <| .ch 0 [] (On (⟨#[]⟩:ByteArray) r1) fun _=>.lp 3 (fun (v2,v3)=>⟨[(3,.ptr 30000 0),(10,tV a0),(11,tI (a0.length:Int)),(12,tI v3)],[(30000,.bld 177 5 v2)]⟩) (fun b4=>⟨[(3,.ptr 30000 0)],[(30000,.bld 177 5 b4)]⟩) 0 ((⟨#[]⟩:ByteArray)++r1,0) (Dz a0) fun b4=>.ch 0 [] (aNR b4) fun r6=>.ret 1 r6
def bGU(a0:List aE):=(bDV a0).den
theorem Nh(a0:List aE):Con Tryz.prog 159 [tV a0] (bGU a0) (fun y=>.t (.str y)):=con Tryz.func159 aR (bDV a0)
def vM(a1:List aE)(qu1:aG):((List aE)×Int)->TP (((List aE)×Int)⊕((List aE)⊕(List aE)))
 | (v1,v2)=>.ite 1 (decide (v2<qu1.Key.length)) (.grd 1 (0<=v2/\v2<qu1.Key.length) <| .grd 6 (0<=(qu1.Key.getD v2.toNat default)/\(qu1.Key.getD v2.toNat default)<a1.length) <| .bs 1 false bA [a1.getD (qu1.Key.getD v2.toNat default).toNat default] <| .grd 1 ((v1.length+[a1.getD (qu1.Key.getD v2.toNat default).toNat default].length)*32<=140737488355328) <| .cv 0 [.ap 32 bA v1 [a1.getD (qu1.Key.getD v2.toNat default).toNat default]] <| .cv 3 [.rn 32 5] <| .ret 0 (.inl (v1++[a1.getD (qu1.Key.getD v2.toNat default).toNat default],i64.wrap (v2+1)))) (.ret 0 (.inr (.inl v1)))
def Xm(a1:List aE)(qu0:List aI)(qu1:aG)(qu2:Int)(qum:LM):TP (List aE):=.mks 8 bA 32 (0:Int) (i64.wrap ((qu1.Key.length:Int)+2)) <| .cv 8 [.rn 15 5] <| .lp 0 (fun (v1,v2)=>⟨[(1,tV a1),(5,.own 5),(20,.t (eL bK (qu1.Key))),(21,tI (qu1.Key.length:Int)),(22,tI v2)],[(5,.arr 67 3 (v1.length) (eF bA v1)),(30000,bP qu0 qu1 30001 qu2),(30001,pD qum)]⟩) (fun b3=>⟨[(5,.own 5)],[(5,.arr 67 3 (b3.length) (eF bA b3)),(30000,bP qu0 qu1 30001 qu2),(30001,pD qum)]⟩) 0 (([]:List aE),0) (vM a1 qu1) fun b3=>.cv 2 [.fr 5 (eL bA b3)] <| .ret 0 b3
def Wo(a1:List aE)(qu0:List aI)(qu1:aG)(qu2:Int)(qum:LM):=(Xm a1 qu0 qu1 qu2 qum).den
theorem Mr(a1:List aE)(qu0:List aI)(qu1:aG)(qu2:Int)(qum:LM):dD Tryz.prog 160 [.ptr 30000 0,tV a1] [(30000,bP qu0 qu1 30001 qu2),(30001,pD qum)] [30000,30001] (Wo a1 qu0 qu1 qu2 qum) (fun y=>tV y) (fun y=>[(30000,bP qu0 qu1 30001 qu2),(30001,pD qum)]):=eC Tryz.func160 aR (Xm a1 qu0 qu1 qu2 qum)
def pN(a1:LD)(qu0:List aI)(qu1:aG)(qu2:Int)(qum:LM):(LM×Int)->TP ((LM×Int)⊕((LM)⊕LM))
 | (v1,v2)=>.ite 1 (decide (v2<a1.length)) (.grd 1 (0<=v2/\v2<a1.length) <| .ch 6 [] (Mr ((a1.getD v2.toNat default).Row) qu0 qu1 qu2 qum) fun r4=>.ca 0 (Nh r4) fun r5=>.lkr 5 50 3 (fun c:LD=>c.length) (fun c:LD=>eF aK c) ([]:LD) (v1:LM) r5 <| .bs 1 false aK [a1.getD v2.toNat default] <| .grd 1 ((((cB (v1:LM) r5).getD ([]:LD)).length+[a1.getD v2.toNat default].length)*40<=140737488355328) <| .cv 0 [.ap 28 aK ((cB (v1:LM) r5).getD ([]:LD)) [a1.getD v2.toNat default]] <| .upd 0 mR (mdel v1 r5:LM) r5 <| .cv 2 [.fw 9 28 50 3 (fun c:LD=>c.length) (fun c:LD=>eF aK c) (v1:LM) r5 (((cB (v1:LM) r5).getD ([]:LD))++[a1.getD v2.toNat default]:LD)] <| .ret 0 (.inl (mput v1 r5 (((cB (v1:LM) r5).getD ([]:LD))++[a1.getD v2.toNat default]:LD),i64.wrap (v2+1)))) (.ret 0 (.inr (.inl v1)))
def Xc(a1:LD)(qu0:List aI)(qu1:aG)(qu2:Int)(qum:LM):TP LM:=.mk (K:=ByteArray) 1 mR <| .lp 4 (fun (v1,v2)=>⟨[(0,.ptr 30000 0),(5,.map 9),(10,tD a1),(11,tI (a1.length:Int)),(12,tI v2)],[(9,pR v1),(30000,bP qu0 qu1 30001 qu2),(30001,pD qum)]⟩) (fun b3=>⟨[(5,.map 9)],[(9,pR b3),(30000,bP qu0 qu1 30001 qu2),(30001,pD qum)]⟩) 0 (([]:LM),0) (pN a1 qu0 qu1 qu2 qum) fun b3=>.cv 2 [.rn 9 40000] <| .ret 0 b3
def Rz(a1:LD)(qu0:List aI)(qu1:aG)(qu2:Int)(qum:LM):=(Xc a1 qu0 qu1 qu2 qum).den
theorem aHQ(a1:LD)(qu0:List aI)(qu1:aG)(qu2:Int)(qum:LM):dD Tryz.prog 71 [.ptr 30000 0,tD a1] [(30000,bP qu0 qu1 30001 qu2),(30001,pD qum)] [30000,30001] (Rz a1 qu0 qu1 qu2 qum) (fun y=>.map 40000) (fun y=>[(30000,bP qu0 qu1 30001 qu2),(30001,pD qum),(40000,pR y)]):=eC Tryz.func71 aR (Xc a1 qu0 qu1 qu2 qum)
def bKI(a0:Int):TP aE:=.ret 4 (aE.mk 0 a0 (⟨#[]⟩))
def bLI(a0:Int):=(bKI a0).den
theorem aFA(a0:Int):Con Tryz.prog 164 [tI a0] (bLI a0) (fun y=>.t (cH y)):=con Tryz.func164 aR (bKI a0)
def bKP(a0:Int):TP aE:=.ret 4 (aE.mk 0 a0 (⟨#[]⟩))
def bLK(a0:Int):=(bKP a0).den
theorem kI(a0:Int):Con Tryz.prog 223 [tI a0] (bLK a0) (fun y=>.t (cH y)):=con Tryz.func223 aR (bKP a0)
def bDG(a0:Bool):TP aE:=.ite 2 a0 (.ret 2 (aE.mk 2 1 (⟨#[]⟩))) (.ret 2 (aE.mk 2 0 (⟨#[]⟩)))
def bIA(a0:Bool):=(bDG a0).den
theorem lW(a0:Bool):Con Tryz.prog 224 [tB a0] (bIA a0) (fun y=>.t (cH y)):=con Tryz.func224 aR (bDG a0)
def bLP(a0:cF):TP aE:=.ca 9 (kI (i64.wrap (a0.a_.N+a0.b_.N))) fun r1=>.ret 1 r1
def bKW(a0:cF):=(bLP a0).den
theorem aVL(a0:cF):Con Tryz.prog 225 [.t (fI a0)] (bKW a0) (fun y=>.t (cH y)):=con Tryz.func225 aR (bLP a0)
def bKR(a0:cF):TP aE:=.ca 9 (kI (i64.wrap (a0.a_.N-a0.b_.N))) fun r1=>.ret 1 r1
def bJK(a0:cF):=(bKR a0).den
theorem aTM(a0:cF):Con Tryz.prog 226 [.t (fI a0)] (bJK a0) (fun y=>.t (cH y)):=con Tryz.func226 aR (bKR a0)
def bJP(a0:cF):TP aE:=.ca 9 (kI (i64.wrap (a0.a_.N*a0.b_.N))) fun r1=>.ret 1 r1
def bKD(a0:cF):=(bJP a0).den
theorem aYM(a0:cF):Con Tryz.prog 227 [.t (fI a0)] (bKD a0) (fun y=>.t (cH y)):=con Tryz.func227 aR (bJP a0)
def aZW(a0:cF):TP aE:=.ite 6 (a0.b_.N==0) (.ca 0 (kI 0) fun r1=>.ret 1 r1) (.grd 7 (a0.b_.N≠0) <| .ca 0 (kI (i64.wrap (Int.tdiv a0.a_.N a0.b_.N))) fun r2=>.ret 1 r2)
def aUC(a0:cF):=(aZW a0).den
theorem aTF(a0:cF):Con Tryz.prog 228 [.t (fI a0)] (aUC a0) (fun y=>.t (cH y)):=con Tryz.func228 aR (aZW a0)
def aVV(a0:cF):TP aE:=.ite 6 (a0.b_.N==0) (.ca 0 (kI 0) fun r1=>.ret 1 r1) (.grd 7 (a0.b_.N≠0) <| .ca 0 (kI (Int.tmod a0.a_.N a0.b_.N)) fun r2=>.ret 1 r2)
def aTW(a0:cF):=(aVV a0).den
theorem bAW(a0:cF):Con Tryz.prog 229 [.t (fI a0)] (aTW a0) (fun y=>.t (cH y)):=con Tryz.func229 aR (aVV a0)
def bIF(a0:cF):TP aE:=.ca 7 (lW ((a0.a_.Kind==a0.b_.Kind)&&((a0.a_.N==a0.b_.N)&&((a0.a_.S.toList==a0.b_.S.toList)&&true)))) fun r1=>.ret 1 r1
def bCC(a0:cF):=(bIF a0).den
theorem aVI(a0:cF):Con Tryz.prog 230 [.t (fI a0)] (bCC a0) (fun y=>.t (cH y)):=con Tryz.func230 aR (bIF a0)
def bHU(a0:cF):TP aE:=.ca 7 (lW (!((a0.a_.Kind==a0.b_.Kind)&&((a0.a_.N==a0.b_.N)&&((a0.a_.S.toList==a0.b_.S.toList)&&true))))) fun r1=>.ret 1 r1
def bFB(a0:cF):=(bHU a0).den
theorem aST(a0:cF):Con Tryz.prog 231 [.t (fI a0)] (bFB a0) (fun y=>.t (cH y)):=con Tryz.func231 aR (bHU a0)
def bDF(a0:cF):TP aE:=.ca 6 (Pu a0.a_ a0.b_) fun r1=>.ca 1 (lW (decide (r1<0))) fun r2=>.ret 1 r2
def bHL(a0:cF):=(bDF a0).den
theorem aTB(a0:cF):Con Tryz.prog 232 [.t (fI a0)] (bHL a0) (fun y=>.t (cH y)):=con Tryz.func232 aR (bDF a0)
def bHV(a0:cF):TP aE:=.ca 6 (Pu a0.a_ a0.b_) fun r1=>.ca 1 (lW (decide (r1<=0))) fun r2=>.ret 1 r2
def bIB(a0:cF):=(bHV a0).den
theorem bAJ(a0:cF):Con Tryz.prog 233 [.t (fI a0)] (bIB a0) (fun y=>.t (cH y)):=con Tryz.func233 aR (bHV a0)
def aZO(a0:cF):TP aE:=.jn 7 0 (fun (j1,j2,j3)=>⟨[(2,.ptr 2 0)],[(2,.box [tI j1,tI j2,.t (.str j3)])]⟩) (.ite 0 (a0.a_.N==1) (.ca 5 (lW (a0.b_.N==1)) fun r4=>.ret 1 (r4.Kind,r4.N,r4.S)) (.ca 5 (lW false) fun r5=>.ret 1 (r5.Kind,r5.N,r5.S))) fun (j1,j2,j3)=>.ret 0 (aE.mk j1 j2 j3)
def aWS(a0:cF):=(aZO a0).den
theorem aUH(a0:cF):Con Tryz.prog 234 [.t (fI a0)] (aWS a0) (fun y=>.t (cH y)):=con Tryz.func234 aR (aZO a0)
def aVK(a0:cF):TP aE:=.jn 7 0 (fun (j1,j2,j3)=>⟨[(2,.ptr 2 0)],[(2,.box [tI j1,tI j2,.t (.str j3)])]⟩) (.ite 0 (a0.a_.N==1) (.ca 5 (lW true) fun r4=>.ret 1 (r4.Kind,r4.N,r4.S)) (.ca 5 (lW (a0.b_.N==1)) fun r5=>.ret 1 (r5.Kind,r5.N,r5.S))) fun (j1,j2,j3)=>.ret 0 (aE.mk j1 j2 j3)
def aUD(a0:cF):=(aVK a0).den
theorem aYZ(a0:cF):Con Tryz.prog 235 [.t (fI a0)] (aUD a0) (fun y=>.t (cH y)):=con Tryz.func235 aR (aVK a0)
def aJJ(a0:cF):TP aE:=.grd 9 (((a0.a_.S.size+a0.b_.S.size:Nat):Int)<=9223372036854775807) <| .grd 6 (0<=(0:Int)/\(0:Int)<=(if (200:Int)<(a0.a_.S++a0.b_.S:ByteArray).size then (200:Int) else ((a0.a_.S++a0.b_.S:ByteArray).size:Int))/\(if (200:Int)<(a0.a_.S++a0.b_.S:ByteArray).size then (200:Int) else ((a0.a_.S++a0.b_.S:ByteArray).size:Int))<=((a0.a_.S++a0.b_.S).size:Int)) <| .ret 2 (aE.mk 1 0 ((a0.a_.S++a0.b_.S).extract (0:Int).toNat (if (200:Int)<(a0.a_.S++a0.b_.S:ByteArray).size then (200:Int) else ((a0.a_.S++a0.b_.S:ByteArray).size:Int)).toNat))
def Vx(a0:cF):=(aJJ a0).den
theorem aYL(a0:cF):Con Tryz.prog 236 [.t (fI a0)] (Vx a0) (fun y=>.t (cH y)):=con Tryz.func236 aR (aJJ a0)
abbrev bFP:={f:(fD×bB)->Option aE // ∀ a:fD×bB,Con Tryz.prog 171 [.t (iQ a.1),.t (cQ a.2)] (f a) (fun (y:aE)=>.t (cH y))}
def zS(rec:bFP)(a0:fD)(a1:bB):((List aE)×Int)->TP (((List aE)×Int)⊕((List aE)⊕aE))
 | (v4,v5)=>.ite 1 (decide (v5<a1.Args.length)) (.grd 1 (0<=v5/\v5<a1.Args.length) <| .ca 6 (rec.2 (a0,a1.Args.getD v5.toNat default)) fun r7=>.bs 0 false bA [r7] <| .grd 1 ((v4.length+[r7].length)*32<=140737488355328) <| .cv 0 [.ap 44 bA v4 [r7]] <| .cv 3 [.rn 44 5] <| .ret 0 (.inl (v4++[r7],i64.wrap (v5+1)))) (.ret 0 (.inr (.inl v4)))
def zY(rec:bFP)(a0:fD)(a1:bB):TP aE:=.ite 6 (a1.Op==21) (.dg 3 (0<=(0:Int)/\(0:Int)<a1.Args.length) <| .dc 5 [.t (iQ a0),.t (cQ (a1.Args.getD (0:Int).toNat default))] (rec.2 (a0,a1.Args.getD (0:Int).toNat default)) fun r1=>.dr 0 0 [(2,false,[]),(3,false,[]),(4,false,[])] [0,1,2,3,4,9,10,11] <| .ite 0 (r1.N==1) (.dg 3 (0<=(1:Int)/\(1:Int)<a1.Args.length) <| .dc 5 [.t (iQ a0),.t (cQ (a1.Args.getD (1:Int).toNat default))] (rec.2 (a0,a1.Args.getD (1:Int).toNat default)) fun r2=>.dr 0 0 [(2,false,[]),(3,false,[]),(4,false,[6])] [0,1,2,3,4,9,10,11,12,13,14,15,16,17,18,19] <| .ret 0 r2) (.dg 3 (0<=(2:Int)/\(2:Int)<a1.Args.length) <| .dc 5 [.t (iQ a0),.t (cQ (a1.Args.getD (2:Int).toNat default))] (rec.2 (a0,a1.Args.getD (2:Int).toNat default)) fun r3=>.dr 0 0 [(2,false,[]),(3,false,[]),(4,false,[6])] [0,1,2,3,4,9,10,11,12,13,14,15,16,17,18,19] <| .ret 0 r3)) (.cv 5 [.th 5 5 67 3 (eF bA ([]:List aE))] <| .lp 0 (fun (v4,v5)=>⟨[(2,.ptr 2 0),(3,.ptr 3 0),(4,.ptr 4 0),(5,.own 5),(33,.t (.lz (.exprs (a1.Args)))),(34,tI (a1.Args.length:Int)),(35,tI v5)],[(2,.box ((Sc a0).map .t)),(3,.box ((dA a1).map .t)),(4,.box [tI 0,tI 0,.t (.str (⟨#[]⟩))]),(5,.arr 67 3 (v4.length) (eF bA v4))]⟩) (fun b6=>⟨[(2,.ptr 2 0),(3,.ptr 3 0),(4,.ptr 4 0),(5,.own 5)],[(2,.box ((Sc a0).map .t)),(3,.box ((dA a1).map .t)),(4,.box [tI 0,tI 0,.t (.str (⟨#[]⟩))]),(5,.arr 67 3 (b6.length) (eF bA b6))]⟩) 0 (([]:List aE),0) (zS rec a0 a1) fun b6=>.ite 4 (a1.Op==0) (.ca 2 (kI a1.N) fun r8=>.ret 1 r8) (.ite 2 (a1.Op==1) (.ret 4 (aE.mk 1 0 a1.S)) (.ite 2 (a1.Op==2) (.ca 3 (lW (a1.N==1)) fun r9=>.ret 1 r9) (.ite 2 (a1.Op==3) (.grd 5 (0<=a1.N/\a1.N<a0.row_.length) <| .ret 2 (a0.row_.getD (a1.N).toNat default)) (.ite 2 (a1.Op==4) (.grd 5 (0<=a1.N/\a1.N<a0.params_.length) <| .ret 2 (a0.params_.getD (a1.N).toNat default)) (.ite 2 (a1.Op==5) (.ca 2 (kI a0.time_) fun r10=>.ret 1 r10) (.ite 2 (a1.Op==6) (.grd 2 (0<=(0:Int)/\(0:Int)<b6.length) <| .grd 2 ((0:Int).toNat<b6.length) <| .ca 1 (lW (((b6.getD (0:Int).toNat default).N)==0)) fun r11=>.ret 1 r11) (.ite 2 (a1.Op==7) (.grd 2 (0<=(0:Int)/\(0:Int)<b6.length) <| .grd 2 ((0:Int).toNat<b6.length) <| .ca 1 (kI (i64.wrap (0-((b6.getD (0:Int).toNat default).N)))) fun r12=>.ret 1 r12) (.ite 2 (a1.Op==20) (.grd 2 (0<=(0:Int)/\(0:Int)<b6.length) <| .grd 2 ((0:Int).toNat<b6.length) <| .ca 1 (kI (((b6.getD (0:Int).toNat default).S:ByteArray).size:Int)) fun r13=>.ret 1 r13) (.ite 2 (a1.Op==22) (.cv 0 [.fr 5 (eL bA b6)] <| .dg 10 (0<=a1.N/\a1.N<a0.funcs_.length) <| .dc 13 [.agg [.t (eL aV (a0.funcs_)),tI a0.time_,.nil,tV b6],.t (cQ ((a0.funcs_.getD (a1.N).toNat default).Body))] (rec.2 ((fD.mk a0.funcs_ a0.time_ ([]:List aE) b6),(a0.funcs_.getD (a1.N).toNat default).Body)) fun r14=>.dr 0 0 [(2,false,[]),(3,false,[]),(4,false,[14])] [2,3,4,5,46,47,48,49,53,54,58,59,64,65,72,73,80,81,85,86,93,94,101,102,109,110] <| .ret 0 r14) (.mk (K:=Int) 0 mF <| .cv 0 [.gp 125 mF (([]:List (Int×Nat)):List (Int×Nat)) (8:Int)] <| .upd 0 mF (mdel ([]:List (Int×Nat)) (8:Int):List (Int×Nat)) (8:Int) <| .cv 0 [.fd 125 (fun c:Nat=>T.fv c) (([]:List (Int×Nat)):List (Int×Nat)) (8:Int) (225:Nat)] <| .cv 0 [.gp 125 mF (fm1:List (Int×Nat)) (9:Int)] <| .upd 0 mF (mdel fm1 (9:Int):List (Int×Nat)) (9:Int) <| .cv 0 [.fd 125 (fun c:Nat=>T.fv c) (fm1:List (Int×Nat)) (9:Int) (226:Nat)] <| .cv 0 [.gp 125 mF (fm2:List (Int×Nat)) (10:Int)] <| .upd 0 mF (mdel fm2 (10:Int):List (Int×Nat)) (10:Int) <| .cv 0 [.fd 125 (fun c:Nat=>T.fv c) (fm2:List (Int×Nat)) (10:Int) (227:Nat)] <| .cv 0 [.gp 125 mF (fm3:List (Int×Nat)) (11:Int)] <| .upd 0 mF (mdel fm3 (11:Int):List (Int×Nat)) (11:Int) <| .cv 0 [.fd 125 (fun c:Nat=>T.fv c) (fm3:List (Int×Nat)) (11:Int) (228:Nat)] <| .cv 0 [.gp 125 mF (fm4:List (Int×Nat)) (12:Int)] <| .upd 0 mF (mdel fm4 (12:Int):List (Int×Nat)) (12:Int) <| .cv 0 [.fd 125 (fun c:Nat=>T.fv c) (fm4:List (Int×Nat)) (12:Int) (229:Nat)] <| .cv 0 [.gp 125 mF (fm5:List (Int×Nat)) (13:Int)] <| .upd 0 mF (mdel fm5 (13:Int):List (Int×Nat)) (13:Int) <| .cv 0 [.fd 125 (fun c:Nat=>T.fv c) (fm5:List (Int×Nat)) (13:Int) (230:Nat)] <| .cv 0 [.gp 125 mF (fm6:List (Int×Nat)) (14:Int)] <| .upd 0 mF (mdel fm6 (14:Int):List (Int×Nat)) (14:Int) <| .cv 0 [.fd 125 (fun c:Nat=>T.fv c) (fm6:List (Int×Nat)) (14:Int) (231:Nat)] <| .cv 0 [.gp 125 mF (fm7:List (Int×Nat)) (15:Int)] <| .upd 0 mF (mdel fm7 (15:Int):List (Int×Nat)) (15:Int) <| .cv 0 [.fd 125 (fun c:Nat=>T.fv c) (fm7:List (Int×Nat)) (15:Int) (232:Nat)] <| .cv 0 [.gp 125 mF (fm8:List (Int×Nat)) (16:Int)] <| .upd 0 mF (mdel fm8 (16:Int):List (Int×Nat)) (16:Int) <| .cv 0 [.fd 125 (fun c:Nat=>T.fv c) (fm8:List (Int×Nat)) (16:Int) (233:Nat)] <| .cv 0 [.gp 125 mF (fm9:List (Int×Nat)) (17:Int)] <| .upd 0 mF (mdel fm9 (17:Int):List (Int×Nat)) (17:Int) <| .cv 0 [.fd 125 (fun c:Nat=>T.fv c) (fm9:List (Int×Nat)) (17:Int) (234:Nat)] <| .cv 0 [.gp 125 mF (aUI:List (Int×Nat)) (18:Int)] <| .upd 0 mF (mdel aUI (18:Int):List (Int×Nat)) (18:Int) <| .cv 0 [.fd 125 (fun c:Nat=>T.fv c) (aUI:List (Int×Nat)) (18:Int) (235:Nat)] <| .cv 0 [.gp 125 mF (aWB:List (Int×Nat)) (19:Int)] <| .upd 0 mF (mdel aWB (19:Int):List (Int×Nat)) (19:Int) <| .jn 2 0 (fun (j15,j16,j17)=>⟨[(4,.ptr 4 0)],[(4,.box [tI j15,tI j16,.t (.str j17)])]⟩) (.cv 0 [.fd 125 (fun c:Nat=>T.fv c) (aWB:List (Int×Nat)) (19:Int) (236:Nat)] <| .dlk 3 240 125 (bLZ:List (Int×Nat)) a1.Op fun c18=>match c18 with | 225=>.dg 5 (0<=(0:Int)/\(0:Int)<b6.length) <| .dg 6 ((0:Int).toNat<b6.length) <| .dg 8 (0<=(1:Int)/\(1:Int)<b6.length) <| .dg 9 ((1:Int).toNat<b6.length) <| .dc 11 [.t (fI (cF.mk (b6.getD (0:Int).toNat default) (b6.getD (1:Int).toNat default)))] (aVL (cF.mk (b6.getD (0:Int).toNat default) (b6.getD (1:Int).toNat default))) fun r19=>.dr 0 0 [(2,false,[]),(3,false,[]),(4,false,[12]),(5,false,[]),(125,false,[])] [2,3,4,5,8,46,47,48,49,53,54,58,59,64,65,72,73,80,81,85,86,93,94,101,102,109,110,125,126] <| .ret 0 (r19.Kind,r19.N,r19.S) | 226=>.dg 5 (0<=(0:Int)/\(0:Int)<b6.length) <| .dg 6 ((0:Int).toNat<b6.length) <| .dg 8 (0<=(1:Int)/\(1:Int)<b6.length) <| .dg 9 ((1:Int).toNat<b6.length) <| .dc 11 [.t (fI (cF.mk (b6.getD (0:Int).toNat default) (b6.getD (1:Int).toNat default)))] (aTM (cF.mk (b6.getD (0:Int).toNat default) (b6.getD (1:Int).toNat default))) fun r20=>.dr 0 0 [(2,false,[]),(3,false,[]),(4,false,[12]),(5,false,[]),(125,false,[])] [2,3,4,5,8,46,47,48,49,53,54,58,59,64,65,72,73,80,81,85,86,93,94,101,102,109,110,125,126] <| .ret 0 (r20.Kind,r20.N,r20.S) | 227=>.dg 5 (0<=(0:Int)/\(0:Int)<b6.length) <| .dg 6 ((0:Int).toNat<b6.length) <| .dg 8 (0<=(1:Int)/\(1:Int)<b6.length) <| .dg 9 ((1:Int).toNat<b6.length) <| .dc 11 [.t (fI (cF.mk (b6.getD (0:Int).toNat default) (b6.getD (1:Int).toNat default)))] (aYM (cF.mk (b6.getD (0:Int).toNat default) (b6.getD (1:Int).toNat default))) fun r21=>.dr 0 0 [(2,false,[]),(3,false,[]),(4,false,[12]),(5,false,[]),(125,false,[])] [2,3,4,5,8,46,47,48,49,53,54,58,59,64,65,72,73,80,81,85,86,93,94,101,102,109,110,125,126] <| .ret 0 (r21.Kind,r21.N,r21.S) | 228=>.dg 5 (0<=(0:Int)/\(0:Int)<b6.length) <| .dg 6 ((0:Int).toNat<b6.length) <| .dg 8 (0<=(1:Int)/\(1:Int)<b6.length) <| .dg 9 ((1:Int).toNat<b6.length) <| .dc 11 [.t (fI (cF.mk (b6.getD (0:Int).toNat default) (b6.getD (1:Int).toNat default)))] (aTF (cF.mk (b6.getD (0:Int).toNat default) (b6.getD (1:Int).toNat default))) fun r22=>.dr 0 0 [(2,false,[]),(3,false,[]),(4,false,[12]),(5,false,[]),(125,false,[])] [2,3,4,5,8,46,47,48,49,53,54,58,59,64,65,72,73,80,81,85,86,93,94,101,102,109,110,125,126] <| .ret 0 (r22.Kind,r22.N,r22.S) | 229=>.dg 5 (0<=(0:Int)/\(0:Int)<b6.length) <| .dg 6 ((0:Int).toNat<b6.length) <| .dg 8 (0<=(1:Int)/\(1:Int)<b6.length) <| .dg 9 ((1:Int).toNat<b6.length) <| .dc 11 [.t (fI (cF.mk (b6.getD (0:Int).toNat default) (b6.getD (1:Int).toNat default)))] (bAW (cF.mk (b6.getD (0:Int).toNat default) (b6.getD (1:Int).toNat default))) fun r23=>.dr 0 0 [(2,false,[]),(3,false,[]),(4,false,[12]),(5,false,[]),(125,false,[])] [2,3,4,5,8,46,47,48,49,53,54,58,59,64,65,72,73,80,81,85,86,93,94,101,102,109,110,125,126] <| .ret 0 (r23.Kind,r23.N,r23.S) | 230=>.dg 5 (0<=(0:Int)/\(0:Int)<b6.length) <| .dg 6 ((0:Int).toNat<b6.length) <| .dg 8 (0<=(1:Int)/\(1:Int)<b6.length) <| .dg 9 ((1:Int).toNat<b6.length) <| .dc 11 [.t (fI (cF.mk (b6.getD (0:Int).toNat default) (b6.getD (1:Int).toNat default)))] (aVI (cF.mk (b6.getD (0:Int).toNat default) (b6.getD (1:Int).toNat default))) fun r24=>.dr 0 0 [(2,false,[]),(3,false,[]),(4,false,[12]),(5,false,[]),(125,false,[])] [2,3,4,5,8,46,47,48,49,53,54,58,59,64,65,72,73,80,81,85,86,93,94,101,102,109,110,125,126] <| .ret 0 (r24.Kind,r24.N,r24.S) | 231=>.dg 5 (0<=(0:Int)/\(0:Int)<b6.length) <| .dg 6 ((0:Int).toNat<b6.length) <| .dg 8 (0<=(1:Int)/\(1:Int)<b6.length) <| .dg 9 ((1:Int).toNat<b6.length) <| .dc 11 [.t (fI (cF.mk (b6.getD (0:Int).toNat default) (b6.getD (1:Int).toNat default)))] (aST (cF.mk (b6.getD (0:Int).toNat default) (b6.getD (1:Int).toNat default))) fun r25=>.dr 0 0 [(2,false,[]),(3,false,[]),(4,false,[12]),(5,false,[]),(125,false,[])] [2,3,4,5,8,46,47,48,49,53,54,58,59,64,65,72,73,80,81,85,86,93,94,101,102,109,110,125,126] <| .ret 0 (r25.Kind,r25.N,r25.S) | 232=>.dg 5 (0<=(0:Int)/\(0:Int)<b6.length) <| .dg 6 ((0:Int).toNat<b6.length) <| .dg 8 (0<=(1:Int)/\(1:Int)<b6.length) <| .dg 9 ((1:Int).toNat<b6.length) <| .dc 11 [.t (fI (cF.mk (b6.getD (0:Int).toNat default) (b6.getD (1:Int).toNat default)))] (aTB (cF.mk (b6.getD (0:Int).toNat default) (b6.getD (1:Int).toNat default))) fun r26=>.dr 0 0 [(2,false,[]),(3,false,[]),(4,false,[12]),(5,false,[]),(125,false,[])] [2,3,4,5,8,46,47,48,49,53,54,58,59,64,65,72,73,80,81,85,86,93,94,101,102,109,110,125,126] <| .ret 0 (r26.Kind,r26.N,r26.S) | 233=>.dg 5 (0<=(0:Int)/\(0:Int)<b6.length) <| .dg 6 ((0:Int).toNat<b6.length) <| .dg 8 (0<=(1:Int)/\(1:Int)<b6.length) <| .dg 9 ((1:Int).toNat<b6.length) <| .dc 11 [.t (fI (cF.mk (b6.getD (0:Int).toNat default) (b6.getD (1:Int).toNat default)))] (bAJ (cF.mk (b6.getD (0:Int).toNat default) (b6.getD (1:Int).toNat default))) fun r27=>.dr 0 0 [(2,false,[]),(3,false,[]),(4,false,[12]),(5,false,[]),(125,false,[])] [2,3,4,5,8,46,47,48,49,53,54,58,59,64,65,72,73,80,81,85,86,93,94,101,102,109,110,125,126] <| .ret 0 (r27.Kind,r27.N,r27.S) | 234=>.dg 5 (0<=(0:Int)/\(0:Int)<b6.length) <| .dg 6 ((0:Int).toNat<b6.length) <| .dg 8 (0<=(1:Int)/\(1:Int)<b6.length) <| .dg 9 ((1:Int).toNat<b6.length) <| .dc 11 [.t (fI (cF.mk (b6.getD (0:Int).toNat default) (b6.getD (1:Int).toNat default)))] (aUH (cF.mk (b6.getD (0:Int).toNat default) (b6.getD (1:Int).toNat default))) fun r28=>.dr 0 0 [(2,false,[]),(3,false,[]),(4,false,[12]),(5,false,[]),(125,false,[])] [2,3,4,5,8,46,47,48,49,53,54,58,59,64,65,72,73,80,81,85,86,93,94,101,102,109,110,125,126] <| .ret 0 (r28.Kind,r28.N,r28.S) | 235=>.dg 5 (0<=(0:Int)/\(0:Int)<b6.length) <| .dg 6 ((0:Int).toNat<b6.length) <| .dg 8 (0<=(1:Int)/\(1:Int)<b6.length) <| .dg 9 ((1:Int).toNat<b6.length) <| .dc 11 [.t (fI (cF.mk (b6.getD (0:Int).toNat default) (b6.getD (1:Int).toNat default)))] (aYZ (cF.mk (b6.getD (0:Int).toNat default) (b6.getD (1:Int).toNat default))) fun r29=>.dr 0 0 [(2,false,[]),(3,false,[]),(4,false,[12]),(5,false,[]),(125,false,[])] [2,3,4,5,8,46,47,48,49,53,54,58,59,64,65,72,73,80,81,85,86,93,94,101,102,109,110,125,126] <| .ret 0 (r29.Kind,r29.N,r29.S) | 236=>.dg 5 (0<=(0:Int)/\(0:Int)<b6.length) <| .dg 6 ((0:Int).toNat<b6.length) <| .dg 8 (0<=(1:Int)/\(1:Int)<b6.length) <| .dg 9 ((1:Int).toNat<b6.length) <| .dc 11 [.t (fI (cF.mk (b6.getD (0:Int).toNat default) (b6.getD (1:Int).toNat default)))] (aYL (cF.mk (b6.getD (0:Int).toNat default) (b6.getD (1:Int).toNat default))) fun r30=>.dr 0 0 [(2,false,[]),(3,false,[]),(4,false,[12]),(5,false,[]),(125,false,[])] [2,3,4,5,8,46,47,48,49,53,54,58,59,64,65,72,73,80,81,85,86,93,94,101,102,109,110,125,126] <| .ret 0 (r30.Kind,r30.N,r30.S) | _=>.no) fun (j15,j16,j17)=>.ret 0 (aE.mk j15 j16 j17))))))))))))
theorem yL(rec:bFP)(a0:fD)(a1:bB):Con Tryz.prog 171 [.t (iQ a0),.t (cQ a1)] (zY rec a0 a1).den (fun (y:aE)=>.t (cH y)):=con Tryz.func171 aR (zY rec a0 a1)
def bJQ(a:fD×bB):Option aE:=sG (C:=fun (a:fD×bB) (x:Option aE)=>Con Tryz.prog 171 [.t (iQ a.1),.t (cQ a.2)] x (fun (y:aE)=>.t (cH y))) (fun a=>⟨bL Tryz.func171 (by kernel_rfl),fun _ h=>nomatch h⟩) (fun rec a=>zY rec a.1 a.2) (fun rec a=>yL rec a.1 a.2) a
theorem aZX(a:fD×bB):Con Tryz.prog 171 [.t (iQ a.1),.t (cQ a.2)] (bJQ a) (fun (y:aE)=>.t (cH y)):=lX (C:=fun (a:fD×bB) (x:Option aE)=>Con Tryz.prog 171 [.t (iQ a.1),.t (cQ a.2)] x (fun (y:aE)=>.t (cH y))) _ _ _ a
def Ny(a0:fD)(a1:bB):Option aE:=bJQ (a0,a1)
theorem aYH(a0:fD)(a1:bB):Con Tryz.prog 171 [.t (iQ a0),.t (cQ a1)] (Ny a0 a1) (fun y=>.t (cH y)):=aZX (a0,a1)
def aOJ(a0:List aI)(a1:bB)(a2:Int)(a3:List aE):TP aE:=.cv 7 [.sl 12 (iQ (fD.mk a0 a2 a3 ([]:List aE)))] <| .ca 0 (aYH (fD.mk a0 a2 a3 ([]:List aE)) a1) fun r1=>.ret 1 r1
def sQ(a0:List aI)(a1:bB)(a2:Int)(a3:List aE):=(aOJ a0 a1 a2 a3).den
theorem bBK(a0:List aI)(a1:bB)(a2:Int)(a3:List aE):Con Tryz.prog 83 [.t (eL aV a0),.t (cQ a1),tI a2,tV a3] (sQ a0 a1 a2 a3) (fun y=>.t (cH y)):=con Tryz.func83 aR (aOJ a0 a1 a2 a3)
def pW(a1:LD)(a2:Int)(a3:Int)(qu0:List aI)(qu1:aG)(qu2:Int)(qum:LM)(v2:Int):((List aX)×Int×Int)->TP (((List aX)×Int×Int)⊕(((List aX)×Int)⊕(List aX)))
 | (v7,v8,v9)=>.ite 1 (decide (v9<qu1.Seq.length)) (.grd 2 (0<=v9/\v9<qu1.Seq.length) <| .dc 10 [.t (eL aV qu0),.t (cQ ((qu1.Seq.getD v9.toNat default).Pred)),tI ((a1.getD v2.toNat default).Time),tV ((a1.getD v2.toNat default).Row)] (bBK qu0 ((qu1.Seq.getD v9.toNat default).Pred) ((a1.getD v2.toNat default).Time) ((a1.getD v2.toNat default).Row)) fun r12=>.dr 4 0 [(9,false,[]),(11,false,[]),(14,false,[]),(30000,false,[]),(30001,false,[])] [0,2,3,9,11,12,13,14,15,16,17,41,42,43,44,45,46,47] <| .jn 0 0 (fun (j13,j14)=>⟨[(0,.ptr 30000 0),(2,tI a2),(3,tI a3),(9,.own 9),(11,.ptr 11 0),(12,tI j14),(15,tD a1),(16,tI (a1.length:Int)),(17,tI v2),(41,.t (eL fN (qu1.Seq))),(42,tI (qu1.Seq.length:Int)),(43,tI v9)],[(9,.arr 171 2 (j13.length) (eF cV j13)),(11,.box ((aK (a1.getD v2.toNat default)).map .t)),(30000,bP qu0 qu1 30001 qu2),(30001,pD qum)]⟩) (.ite 0 (r12.N==1) (.grd 3 (0<=(v9:Int)) <| .ret 2 (v7,zD .i64 v8 (lF .i64 1 v9))) (.ret 0 (v7,v8))) fun (j13,j14)=>.ret 2 (.inl (j13,j14,i64.wrap (v9+1)))) (.ret 0 (.inr (.inl (v7,v8))))
def qL(a1:LD)(v2:Int)(b11:Int):((List aX)×Int)->TP (((List aX)×Int)⊕((List aX)⊕(List aX)))
 | (v15,v16)=>.ite 1 (decide (v16<((a1.getD v2.toNat default).N))) (.bs 5 false cV [(aX.mk ((a1.getD v2.toNat default).Time) b11)] <| .grd 1 ((v15.length+[(aX.mk ((a1.getD v2.toNat default).Time) b11)].length)*16<=140737488355328) <| .cv 0 [.ap 76 cV v15 [(aX.mk ((a1.getD v2.toNat default).Time) b11)]] <| .cv 3 [.rn 76 9] <| .ret 0 (.inl (v15++[(aX.mk ((a1.getD v2.toNat default).Time) b11)],i64.wrap (v16+1)))) (.ret 0 (.inr (.inl v15)))
def uK(a1:LD)(a2:Int)(a3:Int)(qu0:List aI)(qu1:aG)(qu2:Int)(qum:LM):((List aX)×Int)->TP (((List aX)×Int)⊕((List aX)⊕(List aX)))
 | (v1,v2)=>.ite 1 (decide (v2<a1.length)) (.jn 0 2 (fun j4=>⟨[(0,.ptr 30000 0),(2,tI a2),(3,tI a3),(9,.own 9),(15,tD a1),(16,tI (a1.length:Int)),(17,tI v2)],[(9,.arr 171 2 (j4.length) (eF cV j4)),(30000,bP qu0 qu1 30001 qu2),(30001,pD qum)]⟩) (.grd 1 (0<=v2/\v2<a1.length) <| .jn 3 0 (fun (j5,j6)=>⟨[(0,.ptr 30000 0),(2,tI a2),(3,tI a3),(9,.own 9),(11,.ptr 11 0),(15,tD a1),(16,tI (a1.length:Int)),(17,tI v2),(36,tB j6)],[(9,.arr 171 2 (j5.length) (eF cV j5)),(11,.box ((aK (a1.getD v2.toNat default)).map .t)),(30000,bP qu0 qu1 30001 qu2),(30001,pD qum)]⟩) (.dl 10 (decide (((a1.getD v2.toNat default).Time)<=(i64.wrap (a2-qu1.Size)))) (.dr 0 0 [(9,false,[]),(11,false,[]),(30000,false,[]),(30001,false,[])] [0,2,3,9,11,15,16,17,18,19,20] <| .ret 0 (v1,true)) (.dr 0 0 [(9,false,[]),(11,false,[]),(30000,false,[]),(30001,false,[])] [0,2,3,9,11,15,16,17,18,19,20] <| .ret 0 (v1,decide (((a1.getD v2.toNat default).Time)>a3)))) fun (j5,j6)=>.ite 0 j6 (.ret 0 j5) (.lp 8 (fun (v7,v8,v9)=>⟨[(0,.ptr 30000 0),(2,tI a2),(3,tI a3),(9,.own 9),(11,.ptr 11 0),(12,tI v8),(15,tD a1),(16,tI (a1.length:Int)),(17,tI v2),(41,.t (eL fN (qu1.Seq))),(42,tI (qu1.Seq.length:Int)),(43,tI v9)],[(9,.arr 171 2 (v7.length) (eF cV v7)),(11,.box ((aK (a1.getD v2.toNat default)).map .t)),(30000,bP qu0 qu1 30001 qu2),(30001,pD qum)]⟩) (fun (b10,b11)=>⟨[(0,.ptr 30000 0),(2,tI a2),(3,tI a3),(9,.own 9),(11,.ptr 11 0),(12,tI b11),(15,tD a1),(16,tI (a1.length:Int)),(17,tI v2)],[(9,.arr 171 2 (b10.length) (eF cV b10)),(11,.box ((aK (a1.getD v2.toNat default)).map .t)),(30000,bP qu0 qu1 30001 qu2),(30001,pD qum)]⟩) 2 (j5,0,0) (pW a1 a2 a3 qu0 qu1 qu2 qum v2) fun (b10,b11)=>.lp 3 (fun (v15,v16)=>⟨[(0,.ptr 30000 0),(2,tI a2),(3,tI a3),(9,.own 9),(11,.ptr 11 0),(12,tI b11),(15,tD a1),(16,tI (a1.length:Int)),(17,tI v2),(67,tI ((a1.getD v2.toNat default).N)),(68,tI v16)],[(9,.arr 171 2 (v15.length) (eF cV v15)),(11,.box ((aK (a1.getD v2.toNat default)).map .t)),(30000,bP qu0 qu1 30001 qu2),(30001,pD qum)]⟩) (fun b17=>⟨[(0,.ptr 30000 0),(2,tI a2),(3,tI a3),(9,.own 9),(15,tD a1),(16,tI (a1.length:Int)),(17,tI v2)],[(9,.arr 171 2 (b17.length) (eF cV b17)),(30000,bP qu0 qu1 30001 qu2),(30001,pD qum)]⟩) 4 (b10,0) (qL a1 v2 b11) fun b17=>.ret 0 b17)) fun j4=>.ret 2 (.inl (j4,i64.wrap (v2+1)))) (.ret 0 (.inr (.inl v1)))
def Wx(a1:LD)(a2:Int)(a3:Int)(qu0:List aI)(qu1:aG)(qu2:Int)(qum:LM):TP (List aX):=.cv 5 [.th 9 9 171 2 (eF cV ([]:List aX))] <| .lp 0 (fun (v1,v2)=>⟨[(0,.ptr 30000 0),(2,tI a2),(3,tI a3),(9,.own 9),(15,tD a1),(16,tI (a1.length:Int)),(17,tI v2)],[(9,.arr 171 2 (v1.length) (eF cV v1)),(30000,bP qu0 qu1 30001 qu2),(30001,pD qum)]⟩) (fun b3=>⟨[(9,.own 9)],[(9,.arr 171 2 (b3.length) (eF cV b3)),(30000,bP qu0 qu1 30001 qu2),(30001,pD qum)]⟩) 0 (([]:List aX),0) (uK a1 a2 a3 qu0 qu1 qu2 qum) fun b3=>.cv 2 [.fr 9 (eL cV b3)] <| .ret 0 b3
def Wr(a1:LD)(a2:Int)(a3:Int)(qu0:List aI)(qu1:aG)(qu2:Int)(qum:LM):=(Wx a1 a2 a3 qu0 qu1 qu2 qum).den
theorem aGQ(a1:LD)(a2:Int)(a3:Int)(qu0:List aI)(qu1:aG)(qu2:Int)(qum:LM):dD Tryz.prog 161 [.ptr 30000 0,tD a1,tI a2,tI a3] [(30000,bP qu0 qu1 30001 qu2),(30001,pD qum)] [30000,30001] (Wr a1 a2 a3 qu0 qu1 qu2 qum) (fun y=>.t (eL cV y)) (fun y=>[(30000,bP qu0 qu1 30001 qu2),(30001,pD qum)]):=eC Tryz.func161 aR (Wx a1 a2 a3 qu0 qu1 qu2 qum)
def vA(qu0:List aI)(qu1:aG)(qu2:Int)(qum:LM):(Int×Int)->TP ((Int×Int)⊕((Int)⊕Int))
 | (v1,v2)=>.ite 1 (decide (v2<qu1.Seq.length)) (.grd 2 (0<=v2/\v2<qu1.Seq.length) <| .jn 8 0 (fun j4=>⟨[(0,tI v1),(4,tI v2),(10,.t (eL fN (qu1.Seq))),(11,tI (qu1.Seq.length:Int)),(12,tI v2),(26,tB j4)],[(30000,bP qu0 qu1 30001 qu2),(30001,pD qum),(30002,.box [.ptr 30000 0])]⟩) (.ite 0 (((qu1.Seq.getD v2.toNat default).Rep)==2) (.grd 3 (0<=(v2:Int)) <| .ret 3 ((lG .i64 (dO .i64 v1 v2) 1)==1)) (.ret 6 false)) fun j4=>.jn 0 0 (fun j5=>⟨[(0,tI j5),(10,.t (eL fN (qu1.Seq))),(11,tI (qu1.Seq.length:Int)),(12,tI v2)],[(30000,bP qu0 qu1 30001 qu2),(30001,pD qum),(30002,.box [.ptr 30000 0])]⟩) (.ite 0 j4 (.grd 4 (0<=((i64.wrap (v2+1)):Int)) <| .ret 2 (zD .i64 v1 (lF .i64 1 (i64.wrap (v2+1))))) (.ret 0 v1)) fun j5=>.ret 2 (.inl (j5,i64.wrap (v2+1)))) (.ret 0 (.inr (.inl v1)))
def Xv(a0:Int)(qu0:List aI)(qu1:aG)(qu2:Int)(qum:LM):TP Int:=.lp 8 (fun (v1,v2)=>⟨[(0,tI v1),(10,.t (eL fN (qu1.Seq))),(11,tI (qu1.Seq.length:Int)),(12,tI v2)],[(30000,bP qu0 qu1 30001 qu2),(30001,pD qum),(30002,.box [.ptr 30000 0])]⟩) (fun b3=>⟨[(0,tI b3)],[(30000,bP qu0 qu1 30001 qu2),(30001,pD qum),(30002,.box [.ptr 30000 0])]⟩) 0 (a0,0) (vA qu0 qu1 qu2 qum) fun b3=>.ret 2 b3
def Yt(a0:Int)(qu0:List aI)(qu1:aG)(qu2:Int)(qum:LM):=(Xv a0 qu0 qu1 qu2 qum).den
theorem aIA(a0:Int)(qu0:List aI)(qu1:aG)(qu2:Int)(qum:LM):dD Tryz.prog 218 [tI a0,.ptr 30002 0] [(30000,bP qu0 qu1 30001 qu2),(30001,pD qum),(30002,.box [.ptr 30000 0])] [30000,30001,30002] (Yt a0 qu0 qu1 qu2 qum) tI (fun y=>[(30000,bP qu0 qu1 30001 qu2),(30001,pD qum),(30002,.box [.ptr 30000 0])]):=eC Tryz.func218 aR (Xv a0 qu0 qu1 qu2 qum)
def uV(qu0:List aI)(qu1:aG)(qu2:Int)(qum:LM):(Int×Int)->TP ((Int×Int)⊕((Int)⊕(Int×Int)))
 | (v1,v2)=>.ite 1 (decide (v2<qu1.Seq.length)) (.grd 2 (0<=v2/\v2<qu1.Seq.length) <| .jn 7 0 (fun j4=>⟨[(1,.ptr 1 0),(4,.ptr 4 0),(12,.t (eL fN (qu1.Seq))),(13,tI (qu1.Seq.length:Int)),(14,tI v2)],[(1,.box [.ptr 30000 0]),(4,.box (([.int .i64 j4]).map .t)),(30000,bP qu0 qu1 30001 qu2),(30001,pD qum)]⟩) (.ite 0 (((qu1.Seq.getD v2.toNat default).Rep)==1) (.dg 2 (0<=(v2:Int)) <| .dr 0 0 [(1,false,[]),(4,false,[4]),(6,false,[]),(30000,false,[]),(30001,false,[])] [1,4,5,6,12,13,14,15,16,17,18,19,20,21] <| .ret 0 (zD .i64 v1 (lF .i64 1 v2))) (.ret 0 v1)) fun j4=>.ret 2 (.inl (j4,i64.wrap (v2+1)))) (.ret 0 (.inr (.inl v1)))
def Wp(qu0:List aI)(qu1:aG)(qu2:Int)(qum:LM):TP (Int×Int):=.lp 12 (fun (v1,v2)=>⟨[(1,.ptr 1 0),(4,.ptr 4 0),(12,.t (eL fN (qu1.Seq))),(13,tI (qu1.Seq.length:Int)),(14,tI v2)],[(1,.box [.ptr 30000 0]),(4,.box (([.int .i64 v1]).map .t)),(30000,bP qu0 qu1 30001 qu2),(30001,pD qum)]⟩) (fun b3=>⟨[(1,.ptr 1 0),(4,.ptr 4 0)],[(1,.box [.ptr 30000 0]),(4,.box (([.int .i64 b3]).map .t)),(30000,bP qu0 qu1 30001 qu2),(30001,pD qum)]⟩) 0 (0,0) (uV qu0 qu1 qu2 qum) fun b3=>.cv 4 [.rn 1 30002] <| .ch 0 [] (aIA 1 qu0 qu1 qu2 qum) fun r5=>.cv 3 [.rn 4 41011,.rn 7 41012,.rn 30002 41013] <| .ret 0 (r5,b3)
def Yd(qu0:List aI)(qu1:aG)(qu2:Int)(qum:LM):=(Wp qu0 qu1 qu2 qum).den
theorem aGL(qu0:List aI)(qu1:aG)(qu2:Int)(qum:LM):dD Tryz.prog 162 [.ptr 30000 0] [(30000,bP qu0 qu1 30001 qu2),(30001,pD qum)] [30000,30001] (Yd qu0 qu1 qu2 qum) (fun y=>.tup [tI y.1,.fn (.func 219) 0 [.ptr 41012 0,.ptr 41011 0]]) (fun y=>[(30000,bP qu0 qu1 30001 qu2),(30001,pD qum),(41011,.box (([.int .i64 (y.2)]).map .t)),(41012,.box [.fn (.func 218) 0 [.ptr 41013 0]]),(41013,.box [.ptr 30000 0])]):=eC Tryz.func162 aR (Wp qu0 qu1 qu2 qum)
def aGT(qu0:List aI)(qu1:aG)(qu2:Int)(qum:LM):(Int×Int)->TP ((Int×Int)⊕((Int)⊕Int))
 | (v1,v2)=>.ite 1 (decide (v2<qu1.Seq.length)) (.grd 2 (0<=v2/\v2<qu1.Seq.length) <| .jn 8 0 (fun j4=>⟨[(0,tI v1),(4,tI v2),(10,.t (eL fN (qu1.Seq))),(11,tI (qu1.Seq.length:Int)),(12,tI v2),(26,tB j4)],[(30000,bP qu0 qu1 30001 qu2),(30001,pD qum),(30004,.box [.ptr 30000 0])]⟩) (.ite 0 (((qu1.Seq.getD v2.toNat default).Rep)==2) (.grd 3 (0<=(v2:Int)) <| .ret 3 ((lG .i64 (dO .i64 v1 v2) 1)==1)) (.ret 6 false)) fun j4=>.jn 0 0 (fun j5=>⟨[(0,tI j5),(10,.t (eL fN (qu1.Seq))),(11,tI (qu1.Seq.length:Int)),(12,tI v2)],[(30000,bP qu0 qu1 30001 qu2),(30001,pD qum),(30004,.box [.ptr 30000 0])]⟩) (.ite 0 j4 (.grd 4 (0<=((i64.wrap (v2+1)):Int)) <| .ret 2 (zD .i64 v1 (lF .i64 1 (i64.wrap (v2+1))))) (.ret 0 v1)) fun j5=>.ret 2 (.inl (j5,i64.wrap (v2+1)))) (.ret 0 (.inr (.inl v1)))
def aLR(a0:Int)(qu0:List aI)(qu1:aG)(qu2:Int)(qum:LM):TP Int:=.lp 8 (fun (v1,v2)=>⟨[(0,tI v1),(10,.t (eL fN (qu1.Seq))),(11,tI (qu1.Seq.length:Int)),(12,tI v2)],[(30000,bP qu0 qu1 30001 qu2),(30001,pD qum),(30004,.box [.ptr 30000 0])]⟩) (fun b3=>⟨[(0,tI b3)],[(30000,bP qu0 qu1 30001 qu2),(30001,pD qum),(30004,.box [.ptr 30000 0])]⟩) 0 (a0,0) (aGT qu0 qu1 qu2 qum) fun b3=>.ret 2 b3
def aNW(a0:Int)(qu0:List aI)(qu1:aG)(qu2:Int)(qum:LM):=(aLR a0 qu0 qu1 qu2 qum).den
theorem aJH(a0:Int)(qu0:List aI)(qu1:aG)(qu2:Int)(qum:LM):dD Tryz.prog 218 [tI a0,.ptr 30004 0] [(30000,bP qu0 qu1 30001 qu2),(30001,pD qum),(30004,.box [.ptr 30000 0])] [30000,30001,30004] (aNW a0 qu0 qu1 qu2 qum) tI (fun y=>[(30000,bP qu0 qu1 30001 qu2),(30001,pD qum),(30004,.box [.ptr 30000 0])]):=eC Tryz.func218 aR (aLR a0 qu0 qu1 qu2 qum)
def aAC(a0:Int)(a1:aX)(qu0:List aI)(qu1:aG)(qu2:Int)(qum:LM)(qx0:Int):TP Int:=.gd 10 (0<=(1:Int)) (by decide) <| .ch 4 [] (aJH (zD .i64 (lF .i64 (lG .i64 a0 a1.fits_) 1) (lG .i64 (lG .i64 a0 a1.fits_) qx0)) qu0 qu1 qu2 qum) fun r1=>.ret 1 r1
def Zd(a0:Int)(a1:aX)(qu0:List aI)(qu1:aG)(qu2:Int)(qum:LM)(qx0:Int):=(aAC a0 a1 qu0 qu1 qu2 qum qx0).den
theorem aGI(a0:Int)(a1:aX)(qu0:List aI)(qu1:aG)(qu2:Int)(qum:LM)(qx0:Int):dD Tryz.prog 219 [tI a0,.t (bBD a1),.ptr 30002 0,.ptr 30003 0] [(30000,bP qu0 qu1 30001 qu2),(30001,pD qum),(30002,.box [.fn (.func 218) 0 [.ptr 30004 0]]),(30003,.box (([.int .i64 qx0]).map .t)),(30004,.box [.ptr 30000 0])] [30000,30001,30002,30003,30004] (Zd a0 a1 qu0 qu1 qu2 qum qx0) tI (fun y=>[(30000,bP qu0 qu1 30001 qu2),(30001,pD qum),(30002,.box [.fn (.func 218) 0 [.ptr 30004 0]]),(30003,.box (([.int .i64 qx0]).map .t)),(30004,.box [.ptr 30000 0])]):=eC Tryz.func219 aR (aAC a0 a1 qu0 qu1 qu2 qum qx0)
def Bh(a1:LD)(a2:Int)(qu0:List aI)(qu1:aG)(qu2:Int)(qum:LM)(r1:(List aX))(r2:Int×Int)(v5:Int):((List Int)×Int×Int)->TP (((List Int)×Int×Int)⊕((List Int)⊕(((List Int)×Int)⊕((List Int)⊕LD))))
 | (v7,v8,v9)=>.jn 0 0 (fun (j11,j12)=>⟨[(0,.ptr 30000 0),(1,tD a1),(2,tI a2),(9,.t (eL cV r1)),(10,tI r2.1),(11,.fn (.func 219) 0 [.ptr 18212 0,.ptr 18211 0]),(12,tI (lF .i64 1 (qu1.Seq.length:Int))),(13,.own 13),(14,tI v5),(15,.ptr 15 0),(16,tI v8),(17,tI v9),(46,.t (eL cV r1)),(47,tI (r1.length:Int)),(48,tI v5),(78,tB j12)],[(13,.arr 3 1 (j11.length) (eF bK j11)),(15,.box ((cV (r1.getD v5.toNat default)).map .t)),(18211,.box (([.int .i64 (r2.2)]).map .t)),(18212,.box [.fn (.func 218) 0 [.ptr 18213 0]]),(18213,.box [.ptr 30000 0]),(30000,bP qu0 qu1 30001 qu2),(30001,pD qum)]⟩) (.dl 4 (decide (v9<r1.length)) (.dg 7 (0<=v9/\v9<r1.length) <| .dl 20 (decide ((i64.wrap (((r1.getD v9.toNat default).time_)-((r1.getD v5.toNat default).time_)))<qu1.Size)) (.dr 0 0 [(13,false,[]),(15,false,[]),(18211,false,[]),(18212,false,[]),(18213,false,[]),(30000,false,[]),(30001,false,[])] [0,1,2,9,10,11,12,13,14,15,16,17,46,47,48] <| .ret 0 (v7,v8 != 0)) (.dr 0 0 [(13,false,[]),(15,false,[]),(18211,false,[]),(18212,false,[]),(18213,false,[]),(30000,false,[]),(30001,false,[])] [0,1,2,9,10,11,12,13,14,15,16,17,46,47,48] <| .ret 0 (v7,false))) (.dr 0 0 [(13,false,[]),(15,false,[]),(18211,false,[]),(18212,false,[]),(18213,false,[]),(30000,false,[]),(30001,false,[])] [0,1,2,9,10,11,12,13,14,15,16,17,46,47,48] <| .ret 0 (v7,false))) fun (j11,j12)=>.ite 0 j12 (.grd 5 (0<=v9/\v9<r1.length) <| .cv 1 [.rn 18212 30002] <| .cv 0 [.rn 18211 30003] <| .cv 0 [.rn 18213 30004] <| .ch 0 [] (aGI v8 (r1.getD v9.toNat default) qu0 qu1 qu2 qum r2.2) fun r13=>.jn 6 0 (fun (j14,j15)=>⟨[(0,.ptr 30000 0),(1,tD a1),(2,tI a2),(9,.t (eL cV r1)),(10,tI r2.1),(11,.fn (.func 219) 0 [.ptr 30002 0,.ptr 30003 0]),(12,tI (lF .i64 1 (qu1.Seq.length:Int))),(13,.own 13),(14,tI v5),(15,.ptr 15 0),(16,tI r13),(17,tI v9),(46,.t (eL cV r1)),(47,tI (r1.length:Int)),(48,tI v5),(98,tB j15)],[(13,.arr 3 1 (j14.length) (eF bK j14)),(15,.box ((cV (r1.getD v5.toNat default)).map .t)),(30000,bP qu0 qu1 30001 qu2),(30001,pD qum),(30002,.box [.fn (.func 218) 0 [.ptr 30004 0]]),(30003,.box (([.int .i64 (r2.2)]).map .t)),(30004,.box [.ptr 30000 0])]⟩) (.ite 0 ((lG .i64 r13 (lF .i64 1 (qu1.Seq.length:Int))) != 0) (.grd 3 (0<=v9/\v9<j11.length) <| .grd 1 ((v9).toNat<j11.length) <| .ret 2 (j11,decide ((j11.getD v9.toNat default)<0))) (.ret 6 (j11,false))) fun (j14,j15)=>.jn 0 0 (fun j16=>⟨[(0,.ptr 30000 0),(1,tD a1),(2,tI a2),(9,.t (eL cV r1)),(10,tI r2.1),(11,.fn (.func 219) 0 [.ptr 30002 0,.ptr 30003 0]),(12,tI (lF .i64 1 (qu1.Seq.length:Int))),(13,.own 13),(14,tI v5),(15,.ptr 15 0),(16,tI r13),(17,tI v9),(46,.t (eL cV r1)),(47,tI (r1.length:Int)),(48,tI v5)],[(13,.arr 3 1 (j16.length) (eF bK j16)),(15,.box ((cV (r1.getD v5.toNat default)).map .t)),(30000,bP qu0 qu1 30001 qu2),(30001,pD qum),(30002,.box [.fn (.func 218) 0 [.ptr 30004 0]]),(30003,.box (([.int .i64 (r2.2)]).map .t)),(30004,.box [.ptr 30000 0])]⟩) (.ite 0 j15 (.grd 4 (0<=v9/\v9<j14.length) <| .grd 1 ((v9).toNat<j14.length) <| .sto 0 13 bK j14 [((v9).toNat,v5)] <| .ret 0 (j14.set v9.toNat v5)) (.ret 0 j14)) fun j16=>.cv 3 [.rn 30002 18212,.rn 30003 18211,.rn 30004 18213] <| .ret 0 (.inl (j16,r13,i64.wrap (v9+1)))) (.ret 0 (.inr (.inl j11)))
def Aw(a1:LD)(a2:Int)(qu0:List aI)(qu1:aG)(qu2:Int)(qum:LM)(r1:(List aX))(r2:Int×Int):((List Int)×Int)->TP (((List Int)×Int)⊕((List Int)⊕LD))
 | (v4,v5)=>.ite 1 (decide (v5<r1.length)) (.grd 2 (0<=v5/\v5<r1.length) <| .lp 8 (fun (v7,v8,v9)=>⟨[(0,.ptr 30000 0),(1,tD a1),(2,tI a2),(9,.t (eL cV r1)),(10,tI r2.1),(11,.fn (.func 219) 0 [.ptr 18212 0,.ptr 18211 0]),(12,tI (lF .i64 1 (qu1.Seq.length:Int))),(13,.own 13),(14,tI v5),(15,.ptr 15 0),(16,tI v8),(17,tI v9),(46,.t (eL cV r1)),(47,tI (r1.length:Int)),(48,tI v5)],[(13,.arr 3 1 (v7.length) (eF bK v7)),(15,.box ((cV (r1.getD v5.toNat default)).map .t)),(18211,.box (([.int .i64 (r2.2)]).map .t)),(18212,.box [.fn (.func 218) 0 [.ptr 18213 0]]),(18213,.box [.ptr 30000 0]),(30000,bP qu0 qu1 30001 qu2),(30001,pD qum)]⟩) (fun b10=>⟨[(0,.ptr 30000 0),(1,tD a1),(2,tI a2),(9,.t (eL cV r1)),(10,tI r2.1),(11,.fn (.func 219) 0 [.ptr 18212 0,.ptr 18211 0]),(12,tI (lF .i64 1 (qu1.Seq.length:Int))),(13,.own 13),(46,.t (eL cV r1)),(47,tI (r1.length:Int)),(48,tI v5)],[(13,.arr 3 1 (b10.length) (eF bK b10)),(18211,.box (([.int .i64 (r2.2)]).map .t)),(18212,.box [.fn (.func 218) 0 [.ptr 18213 0]]),(18213,.box [.ptr 30000 0]),(30000,bP qu0 qu1 30001 qu2),(30001,pD qum)]⟩) 2 (v4,r2.1,v5) (Bh a1 a2 qu0 qu1 qu2 qum r1 r2 v5) fun b10=>.ret 2 (.inl (b10,i64.wrap (v5+1)))) (.ret 0 (.inr (.inl v4)))
def Ak(a2:Int)(qu0:List aI)(qu1:aG)(qu2:Int)(qum:LM)(r1:(List aX))(b6:List Int)(r17:(List aE)):(LD×(List Int)×Int)->TP ((LD×(List Int)×Int)⊕((LD)⊕LD))
 | (v18,v19,v20)=>.ite 1 (decide (v20<b6.length)) (.grd 2 (0<=v20/\v20<v19.length) <| .grd 1 ((v20).toNat<v19.length) <| .jn 5 0 (fun (j22,j23,j24)=>⟨[(2,tI a2),(9,.t (eL cV r1)),(18,tV r17),(19,.own 19),(20,tI v20),(21,tI (v19.getD v20.toNat default)),(110,.own 110),(111,tI (b6.length:Int)),(112,tI v20),(127,tB j24)],[(19,aD j22),(110,.arr 3 1 (j23.length) (eF bK j23)),(30000,bP qu0 qu1 30001 qu2),(30001,pD qum)]⟩) (.ite 0 (decide ((v19.getD v20.toNat default)>=0)) (.grd 3 (0<=v20/\v20<r1.length) <| .ret 5 (v18,v19,decide (((r1.getD v20.toNat default).time_)>=a2))) (.ret 8 (v18,v19,false))) fun (j22,j23,j24)=>.jn 0 0 (fun (j25,j26)=>⟨[(2,tI a2),(9,.t (eL cV r1)),(18,tV r17),(19,.own 19),(110,.own 110),(111,tI (b6.length:Int)),(112,tI v20)],[(19,aD j25),(110,.arr 3 1 (j26.length) (eF bK j26)),(30000,bP qu0 qu1 30001 qu2),(30001,pD qum)]⟩) (.ite 0 j24 (.dg 3 (0<=v20/\v20<r1.length) <| .dcn 7 135 [tV r17] (Gr r17) fun r27=>.dg 10 (0<=(v19.getD v20.toNat default)/\(v19.getD v20.toNat default)<r1.length) <| .dc 13 [tI ((r1.getD (v19.getD v20.toNat default).toNat default).time_)] (aFA ((r1.getD (v19.getD v20.toNat default).toNat default).time_)) fun r28=>.dc 18 [tI (i64.wrap ((i64.wrap (v20-(v19.getD v20.toNat default)))+1))] (aFA (i64.wrap ((i64.wrap (v20-(v19.getD v20.toNat default)))+1))) fun r29=>.dap 20 (aJW bA r27 [r28,r29] 2 (jJ [.int .i64 (r28.Kind),.int .i64 (r28.N),.str (r28.S),.int .i64 (r29.Kind),.int .i64 (r29.N),.str (r29.S)] 3) rfl (by kernel_rfl)) <| .dg 20 ((r27.length+2)*32<=140737488355328) <| .dg 23 ((j22.length+1)*40<=140737488355328) <| .dr 0 0 [(135,true,[7,20]),(148,true,[20]),(151,true,[23]),(19,false,[23]),(110,false,[]),(30000,false,[]),(30001,false,[])] [2,9,18,19,20,21,110,111,112,127] <| .cv 0 [.apl 151 aK j22 ([(aC.mk ((r1.getD v20.toNat default).time_) (r27++([r28,r29]:List aE)) 1)]:LD)] <| .cv 0 [.rn 151 19] <| .ret 0 (j22++([(aC.mk ((r1.getD v20.toNat default).time_) (r27++([r28,r29]:List aE)) 1)]:LD),j23)) (.ret 0 (j22,j23))) fun (j25,j26)=>.ret 2 (.inl (j25,j26,i64.wrap (v20+1)))) (.ret 0 (.inr (.inl v18)))
def Yg(a1:LD)(a2:Int)(a3:Int)(qu0:List aI)(qu1:aG)(qu2:Int)(qum:LM):TP LD:=.ch 5 [] (aGQ a1 a2 a3 qu0 qu1 qu2 qum) fun r1=>.ite 4 ((r1.length:Int)==0) (.cv 1 [.sl 8 (eL aK ([]:LD))] <| .ret 0 ([]:LD)) (.ch 1 [41011,41012,41013] (aGL qu0 qu1 qu2 qum) fun r2=>.cv 0 [.rn 41011 18211,.rn 41012 18212,.rn 41013 18213] <| .grd 12 (0<=((qu1.Seq.length:Int):Int)) <| .bs 1 false bK ([(-1)]:List Int) <| .ch 2 [40000] (bGF ([(-1)]:List Int) (r1.length:Int)) fun r3=>.cv 0 [.rn 40000 45] <| .cv 4 [.rn 45 13] <| .lp 0 (fun (v4,v5)=>⟨[(0,.ptr 30000 0),(1,tD a1),(2,tI a2),(9,.t (eL cV r1)),(10,tI r2.1),(11,.fn (.func 219) 0 [.ptr 18212 0,.ptr 18211 0]),(12,tI (lF .i64 1 (qu1.Seq.length:Int))),(13,.own 13),(46,.t (eL cV r1)),(47,tI (r1.length:Int)),(48,tI v5)],[(13,.arr 3 1 (v4.length) (eF bK v4)),(18211,.box (([.int .i64 (r2.2)]).map .t)),(18212,.box [.fn (.func 218) 0 [.ptr 18213 0]]),(18213,.box [.ptr 30000 0]),(30000,bP qu0 qu1 30001 qu2),(30001,pD qum)]⟩) (fun b6=>⟨[(0,.ptr 30000 0),(1,tD a1),(2,tI a2),(9,.t (eL cV r1)),(13,.own 13)],[(13,.arr 3 1 (b6.length) (eF bK b6)),(30000,bP qu0 qu1 30001 qu2),(30001,pD qum)]⟩) 0 (r3,0) (Aw a1 a2 qu0 qu1 qu2 qum r1 r2) fun b6=>.grd 3 (0<=(0:Int)/\(0:Int)<a1.length) <| .ch 2 [] (Mr ((a1.getD (0:Int).toNat default).Row) qu0 qu1 qu2 qum) fun r17=>.cv 5 [.rn 13 110,.th 19 19 50 3 (eF aK ([]:LD))] <| .lp 0 (fun (v18,v19,v20)=>⟨[(2,tI a2),(9,.t (eL cV r1)),(18,tV r17),(19,.own 19),(110,.own 110),(111,tI (b6.length:Int)),(112,tI v20)],[(19,aD v18),(110,.arr 3 1 (v19.length) (eF bK v19)),(30000,bP qu0 qu1 30001 qu2),(30001,pD qum)]⟩) (fun b21=>⟨[(19,.own 19)],[(19,aD b21),(30000,bP qu0 qu1 30001 qu2),(30001,pD qum)]⟩) 4 (([]:LD),b6,0) (Ak a2 qu0 qu1 qu2 qum r1 b6 r17) fun b21=>.cv 2 [.fr 19 (eL aK b21)] <| .ret 0 b21)
def aAG(a1:LD)(a2:Int)(a3:Int)(qu0:List aI)(qu1:aG)(qu2:Int)(qum:LM):=(Yg a1 a2 a3 qu0 qu1 qu2 qum).den
theorem Mg(a1:LD)(a2:Int)(a3:Int)(qu0:List aI)(qu1:aG)(qu2:Int)(qum:LM):dD Tryz.prog 72 [.ptr 30000 0,tD a1,tI a2,tI a3] [(30000,bP qu0 qu1 30001 qu2),(30001,pD qum)] [30000,30001] (aAG a1 a2 a3 qu0 qu1 qu2 qum) tD (fun y=>[(30000,bP qu0 qu1 30001 qu2),(30001,pD qum)]):=eC Tryz.func72 aR (Yg a1 a2 a3 qu0 qu1 qu2 qum)
def Mo(qu0:List aI)(qu1:aG)(qu2:Int):((List ByteArray)×LM×LM×LD)->TP (((List ByteArray)×LM×LM×LD)⊕((LM×LD)⊕(LD×LM)))
 | (v3,v4,v5,v6)=>.nxd 0 vD (v4:LM) (v3:List ByteArray) (.ret 2 (.inr (.inl (v5,v6)))) fun k9 c10=>.gd 3 ((.str k9:T) = .str k9) rfl <| .jn 9 0 (fun (j11,j12)=>⟨[(0,.ptr 30000 0),(7,.own 7),(8,.t (.str k9)),(9,tD c10),(10,tD j12),(18,.ptr 18 0)],[(7,aD j11),(17,.mp (some ⟨18,kTs (jL v3 k9:List ByteArray),some (.str k9)⟩) (eM mD (mdel v4 k9:LM)) (some (.str k9,some (tD c10)))),(30000,bP qu0 qu1 30001 qu2),(30001,pD v5)]⟩) (.lkd 0 (.slice none 0 0) vD (v5:LM) k9 (.cv 1 [.sl 10 (eL aK ([]:LD))] <| .ret 0 (v6,([]:LD))) fun c13=>.ret 1 (v6,c13)) fun (j11,j12)=>.ca 2 (bGW j12 c10) fun r14=>.dg 1 (0<=(0:Int)/\(0:Int)<c10.length) <| .dg 8 (0<=(i64.wrap ((c10.length:Int)-1))/\(i64.wrap ((c10.length:Int)-1))<c10.length) <| .dr 1 0 [(7,false,[]),(17,false,[]),(30000,false,[]),(30001,false,[])] [0,7,8,9,10,11,18,30,31,32] <| .ch 5 [] (Mg r14 ((c10.getD (0:Int).toNat default).Time) (i64.wrap ((i64.wrap (((c10.getD (i64.wrap ((c10.length:Int)-1)).toNat default).Time)+qu1.Size))-1)) qu0 qu1 qu2 v5) fun r15=>.ch 4 [] (Mg j12 ((c10.getD (0:Int).toNat default).Time) (i64.wrap ((i64.wrap (((c10.getD (i64.wrap ((c10.length:Int)-1)).toNat default).Time)+qu1.Size))-1)) qu0 qu1 qu2 v5) fun r16=>.ca 0 (aYI r15 r16) fun r17=>.grd 1 ((j11.length+r17.length)*40<=140737488355328) <| .cv 0 [.ap 63 aK j11 r17] <| .ch 4 [] (aIN k9 r14 qu0 qu1 qu2 v5) fun r18=>.cv 0 [.rn 63 7,.fd 17 vD (v4:LM) k9 (c10:LD),.nc 17] <| .ret 0 (.inl (jL v3 k9,mput v4 k9 (c10:LD),r18,j11++r17))
def Xo(a1:Int)(a2:LD)(qu0:List aI)(qu1:aG)(qu2:Int)(qum:LM):TP (LD×LM):=.ca 4 (Br a2) fun r1=>.ch 0 [40000] (aHQ r1 qu0 qu1 qu2 qum) fun r2=>.cv 0 [.rn 40000 17,.fz 17 50 3 (fun c:LD=>c.length) (fun c:LD=>eF aK c) vD (r2:LM)] <| .rng 0 mD (r2:LM) <| .cv 0 [.th 7 7 50 3 (eF aK ([]:LD))] <| .lp 0 (fun (v3,v4,v5,v6)=>⟨[(0,.ptr 30000 0),(7,.own 7),(18,.ptr 18 0)],[(7,aD v6),(17,.mp (some ⟨18,kTs (v3:List ByteArray),none⟩) (eM mD (v4:LM)) none),(30000,bP qu0 qu1 30001 qu2),(30001,pD v5)]⟩) (fun (b7,b8)=>⟨[(7,.own 7)],[(7,aD b8),(30000,bP qu0 qu1 30001 qu2),(30001,pD b7)]⟩) 0 (cU r2,r2,qum,([]:LD)) (Mo qu0 qu1 qu2) fun (b7,b8)=>.cv 1 [.fr 7 (eL aK b8)] <| .ca 0 (Br b8) fun r19=>.ret 1 (r19,b7)
def Ap(a1:Int)(a2:LD)(qu0:List aI)(qu1:aG)(qu2:Int)(qum:LM):Option (LD×LM):=Det (Xo a1 a2 qu0 qu1 qu2 qum)
theorem uO(a1:Int)(a2:LD)(qu0:List aI)(qu1:aG)(qu2:Int)(qum:LM):dD Tryz.prog 21 [.ptr 30000 0,tI a1,tD a2] [(30000,bP qu0 qu1 30001 qu2),(30001,pD qum)] [30000,30001] (Ap a1 a2 qu0 qu1 qu2 qum) (fun y=>tD y.1) (fun y=>[(30000,bP qu0 qu1 30001 qu2),(30001,.mp none (eM mD (y.2:LM)) none)]):=So Tryz.func21 aR (Xo a1 a2 qu0 qu1 qu2 qum)
def Np(a0:LD):(Int×Int)->TP ((Int×Int)⊕((Int)⊕Int))
 | (v1,v2)=>.ite 1 (decide (v2<a0.length)) (.grd 1 (0<=v2/\v2<a0.length) <| .ret 10 (.inl (i64.wrap (v1+((a0.getD v2.toNat default).N)),i64.wrap (v2+1)))) (.ret 0 (.inr (.inl v1)))
def T13(a0:LD):TP Int:=.lp 5 (fun (v1,v2)=>⟨[(3,tI v1),(6,tD a0),(7,tI (a0.length:Int)),(8,tI v2)],[]⟩) (fun b3=>⟨[(3,tI b3)],[]⟩) 0 (0,0) (Np a0) fun b3=>.ret 2 b3
def G13(a0:LD):=(T13 a0).den
theorem bCR(a0:LD):Con Tryz.prog 24 [tD a0] (G13 a0) tI:=con Tryz.func24 aR (T13 a0)
def Ml:((List ByteArray)×LM×LD)->TP (((List ByteArray)×LM×LD)⊕(((List ByteArray)×LM×LD)⊕(LD×LM)))
 | (v1,v2,v3)=>.nxd 0 vD (v2:LM) (v1:List ByteArray) (.ret 2 (.inr (.inl (v1,v2,v3)))) fun k7 c8=>.gd 3 ((.str k7:T) = .str k7) rfl <| .grd 5 ((v3.length+c8.length)*40<=140737488355328) <| .cv 0 [.ap 17 aK v3 c8] <| .cv 1 [.rn 17 3,.fd 30001 vD (v2:LM) k7 (c8:LD),.nc 30001] <| .ret 0 (.inl (jL v1 k7,mput v2 k7 (c8:LD),v3++c8))
def Zt(qu0:List aI)(qu1:aG)(qu2:Int)(qum:LM):TP (LD×LM):=.rng 6 mD (qum:LM) <| .cv 0 [.th 3 3 50 3 (eF aK ([]:LD))] <| .lp 0 (fun (v1,v2,v3)=>⟨[(3,.own 3),(10,.ptr 10 0)],[(3,aD v3),(30000,bP qu0 qu1 30001 qu2),(30001,.mp (some ⟨10,kTs (v1:List ByteArray),none⟩) (eM mD (v2:LM)) none)]⟩) (fun (b4,b5,b6)=>⟨[(3,.own 3)],[(3,aD b6),(30000,bP qu0 qu1 30001 qu2),(30001,.mp (some ⟨10,kTs (b4:List ByteArray),none⟩) (eM mD (b5:LM)) none)]⟩) 0 (cU qum,qum,([]:LD)) Ml fun (b4,b5,b6)=>.cv 1 [.fr 3 (eL aK b6)] <| .ca 0 (Br b6) fun r9=>.cv 1 [.ni 30001] <| .ret 0 (r9,b5)
def Rq(qu0:List aI)(qu1:aG)(qu2:Int)(qum:LM):Option (LD×LM):=Det (Zt qu0 qu1 qu2 qum)
theorem Ms(qu0:List aI)(qu1:aG)(qu2:Int)(qum:LM):dD Tryz.prog 76 [.ptr 30000 0] [(30000,bP qu0 qu1 30001 qu2),(30001,pD qum)] [30000,30001] (Rq qu0 qu1 qu2 qum) (fun y=>tD y.1) (fun y=>[(30000,bP qu0 qu1 30001 qu2),(30001,.mp none (eM mD (y.2:LM)) none)]):=So Tryz.func76 aR (Zt qu0 qu1 qu2 qum)
def Xa(qu0:List aI)(qu1:aG)(qu2:Int)(qum:LM):TP (Int×LM):=.ch 2 [] (Ms qu0 qu1 qu2 qum) fun r1=>.ca 0 (bCR r1.1) fun r2=>.ret 1 (r2,r1.2)
def Ek(qu0:List aI)(qu1:aG)(qu2:Int)(qum:LM):=(Xa qu0 qu1 qu2 qum).den
theorem Bf(qu0:List aI)(qu1:aG)(qu2:Int)(qum:LM):dD Tryz.prog 23 [.ptr 30000 0] [(30000,bP qu0 qu1 30001 qu2),(30001,pD qum)] [30000,30001] (Ek qu0 qu1 qu2 qum) (fun y=>tI y.1) (fun y=>[(30000,bP qu0 qu1 30001 qu2),(30001,.mp none (eM mD (y.2:LM)) none)]):=eC Tryz.func23 aR (Xa qu0 qu1 qu2 qum)
def Se(qu0:List aI)(qu1:aG)(qu2:Int)(qum:LM):TP Bool:=.mlen 5 mD (qum:LM) <| .ret 2 ((qum.length:Int)==0)
def Iq(qu0:List aI)(qu1:aG)(qu2:Int)(qum:LM):=(Se qu0 qu1 qu2 qum).den
theorem Ka(qu0:List aI)(qu1:aG)(qu2:Int)(qum:LM):dD Tryz.prog 30 [.ptr 30000 0] [(30000,bP qu0 qu1 30001 qu2),(30001,pD qum)] [30000,30001] (Iq qu0 qu1 qu2 qum) tB (fun y=>[(30000,bP qu0 qu1 30001 qu2),(30001,pD qum)]):=eC Tryz.func30 aR (Se qu0 qu1 qu2 qum)
def bDS:TP Bool:=.bs 1 false bK ([0]:List Int) <| .ca 0 (aCO 1) fun r1=>.ca 1 (aCO 2) fun r2=>.bs 1 false fN [(jZ.mk r1 0),(jZ.mk r2 1)] <| .cv 1 [.sl 14 (fM (aG.mk 8 ([]:List Int) (⟨#[]⟩) 0 ([]:List bB) 0 10 0 ([0]:List Int) ([]:List Int) 0 0 0 ([]:List Uf) [(jZ.mk r1 0),(jZ.mk r2 1)] ([]:List Ux)))] <| .ch 0 [40000,41001] (Bc ([]:List aI) (aG.mk 8 ([]:List Int) (⟨#[]⟩) 0 ([]:List bB) 0 10 0 ([0]:List Int) ([]:List Int) 0 0 0 ([]:List Uf) [(jZ.mk r1 0),(jZ.mk r2 1)] ([]:List Ux))) fun r3=>.cv 0 [.rn 40000 15,.rn 41001 16501,.fz 16501 50 3 (fun c:LD=>c.length) (fun c:LD=>eF aK c) vD (r3.2.2.2:LM)] <| .ca 5 (Dq 3 7 1) fun r4=>.bs 0 false aK [r4] <| .cv 0 [.rn 15 30000] <| .cv 0 [.rn 16501 30001] <| .ch 0 [] (uO 0 [r4] r3.1 r3.2.1 r3.2.2.1 r3.2.2.2) fun r5=>.ca 2 (Dq 5 7 2) fun r6=>.ca 0 (Dq 8 7 2) fun r7=>.bs 0 false aK [r6,r7] <| .ch 0 [] (uO 0 [r6,r7] r3.1 r3.2.1 r3.2.2.1 r5.2) fun r8=>.ca 2 (Dq 4 7 1) fun r9=>.bs 0 false aK [r9] <| .ch 0 [] (uO 0 [r9] r3.1 r3.2.1 r3.2.2.1 r8.2) fun r10=>.ch 2 [] (Bf r3.1 r3.2.1 r3.2.2.1 r10.2) fun r11=>.ch 2 [] (Ld 17 r3.1 r3.2.1 r3.2.2.1 r11.2) fun r12=>.jn 4 0 (fun j13=>⟨[(1,.ptr 30000 0),(4,tD r10.1),(5,tI r11.1),(6,tB j13)],[(30000,bP r3.1 r3.2.1 30001 r12.2),(30001,.mp none (eM mD (r12.1:LM)) none)]⟩) (.ite 0 ((r5.1.length:Int)==0) (.ca 1 (vR 5 3 2 1) fun r14=>.ca 0 (vR 8 3 3 1) fun r15=>.bs 0 false aK [r14,r15] <| .ca 0 (Wz r8.1 [r14,r15]) fun r16=>.ret 2 r16) (.ret 7 false)) fun j13=>.ca 1 (vR 5 3 2 (-1)) fun r17=>.ca 0 (vR 5 4 2 1) fun r18=>.ca 0 (vR 8 3 3 (-1)) fun r19=>.ca 0 (vR 8 4 3 1) fun r20=>.bs 0 false aK [r17,r18,r19,r20] <| .ca 0 (Wz r10.1 [r17,r18,r19,r20]) fun r21=>.jn 3 0 (fun j22=>⟨[(0,tB j22)],[]⟩) (.ite 0 j13 (.ite 3 r21 (.ite 4 (r11.1==4) (.ch 1 [] (Bf r3.1 r3.2.1 r12.2 r12.1) fun r23=>.ite 3 (r23.1==0) (.ch 1 [] (Ka r3.1 r3.2.1 r12.2 r23.2) fun r24=>.ret 2 r24) (.ret 4 false)) (.ret 9 false)) (.ret 13 false)) (.ret 16 false)) fun j22=>.ret 0 j22
def bEN:=bDS.den
theorem aZR:Con Tryz.prog 14 [] bEN tB:=con Tryz.func14 aR (bDS)
abbrev R79:={f:bB->Option Int // ∀ a:bB,Con Tryz.prog 129 [.t (cQ a)] (f a) tI}
def aRL(rec:R79)(a0:bB):(Int×Int)->TP ((Int×Int)⊕((Int)⊕Int))
 | (v1,v2)=>.ite 5 (decide (v2<a0.Args.length)) (.grd 5 (0<=v2/\v2<a0.Args.length) <| .ca 1 (rec.2 (a0.Args.getD v2.toNat default)) fun r4=>.ret 5 (.inl (i64.wrap (v1+r4),i64.wrap (v2+1)))) (.ret 0 (.inr (.inl v1)))
def T79(rec:R79)(a0:bB):TP Int:=.lp 4 (fun (v1,v2)=>⟨[(1,.ptr 1 0),(3,tI v1),(4,tI v2)],[(1,.box ((dA a0).map .t))]⟩) (fun b3=>⟨[(3,tI b3)],[]⟩) 0 (1,0) (aRL rec a0) fun b3=>.ret 2 b3
theorem aRE(rec:R79)(a0:bB):Con Tryz.prog 129 [.t (cQ a0)] (T79 rec a0).den tI:=con Tryz.func129 aR (T79 rec a0)
def H79(a:bB):Option Int:=sG (C:=fun (a:bB) (x:Option Int)=>Con Tryz.prog 129 [.t (cQ a)] x tI) (fun a=>⟨bL Tryz.func129 (by kernel_rfl),fun _ h=>nomatch h⟩) (fun rec a=>T79 rec a) (fun rec a=>aRE rec a) a
theorem bGZ(a:bB):Con Tryz.prog 129 [.t (cQ a)] (H79 a) tI:=lX (C:=fun (a:bB) (x:Option Int)=>Con Tryz.prog 129 [.t (cQ a)] x tI) _ _ _ a
def G79(a0:bB):Option Int:=H79 a0
theorem Wu(a0:bB):Con Tryz.prog 129 [.t (cQ a0)] (G79 a0) tI:=bGZ a0
abbrev R80:={f:bB->Option Int // ∀ a:bB,Con Tryz.prog 130 [.t (cQ a)] (f a) tI}
def Zv(rec:R80)(a0:bB):(Int×Int)->TP ((Int×Int)⊕((Int)⊕Int))
 | (v1,v2)=>.ite 5 (decide (v2<a0.Args.length)) (.grd 5 (0<=v2/\v2<a0.Args.length) <| .ca 1 (rec.2 (a0.Args.getD v2.toNat default)) fun r4=>.ret 5 (.inl (if r4>v1 then r4 else v1,i64.wrap (v2+1)))) (.ret 0 (.inr (.inl v1)))
def T80(rec:R80)(a0:bB):TP Int:=.lp 4 (fun (v1,v2)=>⟨[(1,.ptr 1 0),(3,tI v1),(4,tI v2)],[(1,.box ((dA a0).map .t))]⟩) (fun b3=>⟨[(3,tI b3)],[]⟩) 0 (0,0) (Zv rec a0) fun b3=>.ret 3 (i64.wrap (b3+1))
theorem Zj(rec:R80)(a0:bB):Con Tryz.prog 130 [.t (cQ a0)] (T80 rec a0).den tI:=con Tryz.func130 aR (T80 rec a0)
def H80(a:bB):Option Int:=sG (C:=fun (a:bB) (x:Option Int)=>Con Tryz.prog 130 [.t (cQ a)] x tI) (fun a=>⟨bL Tryz.func130 (by kernel_rfl),fun _ h=>nomatch h⟩) (fun rec a=>T80 rec a) (fun rec a=>Zj rec a) a
theorem bEF(a:bB):Con Tryz.prog 130 [.t (cQ a)] (H80 a) tI:=lX (C:=fun (a:bB) (x:Option Int)=>Con Tryz.prog 130 [.t (cQ a)] x tI) _ _ _ a
def G80(a0:bB):Option Int:=H80 a0
theorem Xb(a0:bB):Con Tryz.prog 130 [.t (cQ a0)] (G80 a0) tI:=bEF a0
abbrev bHJ:={f:((List Int)×bB)->Option Int // ∀ a:(List Int)×bB,Con Tryz.prog 211 [.t (eL bK (a.1)),.t (cQ a.2)] (f a) tI}
def aBS(rec:bHJ)(a0:List Int)(a1:bB):((List Int)×Int)->TP (((List Int)×Int)⊕((List Int)⊕Int))
 | (v1,v2)=>.ite 5 (decide (v2<a1.Args.length)) (.grd 6 (0<=v2/\v2<a1.Args.length) <| .ca 1 (rec.2 (a0,a1.Args.getD v2.toNat default)) fun r4=>.bs 0 false bK [r4] <| .grd 1 ((v1.length+[r4].length)*8<=140737488355328) <| .cv 0 [.ap 25 bK v1 [r4]] <| .cv 4 [.rn 25 6] <| .ret 0 (.inl (v1++[r4],i64.wrap (v2+1)))) (.ret 0 (.inr (.inl v1)))
def Ot:(Int×(List Int)×Int)->TP ((Int×(List Int)×Int)⊕((Int)⊕Int))
 | (v7,v8,v9)=>.ite 4 (decide (v9<v8.length)) (.grd 4 (0<=v9/\v9<v8.length) <| .grd 1 ((v9).toNat<v8.length) <| .ret 6 (.inl (if (1099511627776:Int)<(i64.wrap (v7+(v8.getD v9.toNat default))) then (1099511627776:Int) else (i64.wrap (v7+(v8.getD v9.toNat default))),v8,i64.wrap (v9+1)))) (.ret 0 (.inr (.inl v7)))
def aSE(rec:bHJ)(a0:List Int)(a1:bB):TP Int:=.cv 5 [.th 6 6 3 1 (eF bK ([]:List Int))] <| .lp 0 (fun (v1,v2)=>⟨[(0,.t (eL bK a0)),(3,.ptr 3 0),(5,tI 1),(6,.own 6),(7,tI v2)],[(3,.box ((dA a1).map .t)),(6,.arr 3 1 (v1.length) (eF bK v1))]⟩) (fun b3=>⟨[(0,.t (eL bK a0)),(3,.ptr 3 0),(5,tI 1),(6,.own 6)],[(3,.box ((dA a1).map .t)),(6,.arr 3 1 (b3.length) (eF bK b3))]⟩) 0 (([]:List Int),0) (aBS rec a0 a1) fun b3=>.jn 4 0 (fun (j5,j6)=>⟨[(0,.t (eL bK a0)),(3,.ptr 3 0),(5,tI 1),(6,.own 6),(33,tB j6)],[(3,.box ((dA a1).map .t)),(6,.arr 3 1 (j5.length) (eF bK j5))]⟩) (.ite 0 (a1.Op==21) (.ret 4 (b3,(b3.length:Int)==3)) (.ret 4 (b3,false))) fun (j5,j6)=>.ite 0 j6 (.dg 1 (0<=(0:Int)/\(0:Int)<j5.length) <| .dg 2 ((0:Int).toNat<j5.length) <| .dg 5 (0<=(1:Int)/\(1:Int)<j5.length) <| .dg 6 ((1:Int).toNat<j5.length) <| .dg 8 (0<=(2:Int)/\(2:Int)<j5.length) <| .dg 9 ((2:Int).toNat<j5.length) <| .dr 0 0 [(3,false,[]),(6,false,[])] [0,3,5,6,33] <| .ret 0 (if (1099511627776:Int)<(i64.wrap ((i64.wrap (1+(j5.getD (0:Int).toNat default)))+(if (j5.getD (2:Int).toNat default)>(j5.getD (1:Int).toNat default) then (j5.getD (2:Int).toNat default) else (j5.getD (1:Int).toNat default)))) then (1099511627776:Int) else (i64.wrap ((i64.wrap (1+(j5.getD (0:Int).toNat default)))+(if (j5.getD (2:Int).toNat default)>(j5.getD (1:Int).toNat default) then (j5.getD (2:Int).toNat default) else (j5.getD (1:Int).toNat default)))))) (.lp 1 (fun (v7,v8,v9)=>⟨[(0,.t (eL bK a0)),(3,.ptr 3 0),(5,tI v7),(6,.own 6),(8,tI v9)],[(3,.box ((dA a1).map .t)),(6,.arr 3 1 (v8.length) (eF bK v8))]⟩) (fun b10=>⟨[(0,.t (eL bK a0)),(3,.ptr 3 0),(5,tI b10)],[(3,.box ((dA a1).map .t))]⟩) 2 (1,j5,0) Ot fun b10=>.jn 4 0 (fun j11=>⟨[(0,.t (eL bK a0)),(3,.ptr 3 0),(5,tI b10),(74,tB j11)],[(3,.box ((dA a1).map .t))]⟩) (.ite 0 (a1.Op==22) (.ite 5 (decide (a1.N>=0)) (.ret 6 (decide (a1.N<a0.length))) (.ret 6 false)) (.ret 11 false)) fun j11=>.jn 0 0 (fun j12=>⟨[(5,tI j12)],[]⟩) (.ite 0 j11 (.grd 5 (0<=a1.N/\a1.N<a0.length) <| .ret 4 (if (1099511627776:Int)<(i64.wrap (b10+(a0.getD (a1.N).toNat default))) then (1099511627776:Int) else (i64.wrap (b10+(a0.getD (a1.N).toNat default))))) (.ret 0 b10)) fun j12=>.ret 2 j12)
theorem aBT(rec:bHJ)(a0:List Int)(a1:bB):Con Tryz.prog 211 [.t (eL bK a0),.t (cQ a1)] (aSE rec a0 a1).den tI:=con Tryz.func211 aR (aSE rec a0 a1)
def bIY(a:(List Int)×bB):Option Int:=sG (C:=fun (a:(List Int)×bB) (x:Option Int)=>Con Tryz.prog 211 [.t (eL bK (a.1)),.t (cQ a.2)] x tI) (fun a=>⟨bL Tryz.func211 (by kernel_rfl),fun _ h=>nomatch h⟩) (fun rec a=>aSE rec a.1 a.2) (fun rec a=>aBT rec a.1 a.2) a
theorem aZH(a:(List Int)×bB):Con Tryz.prog 211 [.t (eL bK (a.1)),.t (cQ a.2)] (bIY a) tI:=lX (C:=fun (a:(List Int)×bB) (x:Option Int)=>Con Tryz.prog 211 [.t (eL bK (a.1)),.t (cQ a.2)] x tI) _ _ _ a
def bJN(a0:List Int)(a1:bB):Option Int:=bIY (a0,a1)
theorem aEK(a0:List Int)(a1:bB):Con Tryz.prog 211 [.t (eL bK a0),.t (cQ a1)] (bJN a0 a1) tI:=aZH (a0,a1)
def aMG(a0:List aI):((List Int)×Int)->TP (((List Int)×Int)⊕((List Int)⊕Int))
 | (v1,v2)=>.ite 4 (decide (v2<a0.length)) (.grd 5 (0<=v2/\v2<a0.length) <| .ca 2 (aEK v1 ((a0.getD v2.toNat default).Body)) fun r4=>.bs 0 false bK [r4] <| .grd 1 ((v1.length+[r4].length)*8<=140737488355328) <| .cv 0 [.ap 22 bK v1 [r4]] <| .cv 4 [.rn 22 5] <| .ret 0 (.inl (v1++[r4],i64.wrap (v2+1)))) (.ret 0 (.inr (.inl v1)))
def T81(a0:List aI)(a1:bB):TP Int:=.cv 4 [.th 5 5 3 1 (eF bK ([]:List Int))] <| .lp 0 (fun (v1,v2)=>⟨[(0,.t (eL aV a0)),(3,.ptr 3 0),(5,.own 5),(6,tI v2)],[(3,.box ((dA a1).map .t)),(5,.arr 3 1 (v1.length) (eF bK v1))]⟩) (fun b3=>⟨[(3,.ptr 3 0),(5,.own 5)],[(3,.box ((dA a1).map .t)),(5,.arr 3 1 (b3.length) (eF bK b3))]⟩) 0 (([]:List Int),0) (aMG a0) fun b3=>.ca 2 (aEK b3 a1) fun r5=>.ret 1 r5
def G81(a0:List aI)(a1:bB):=(T81 a0 a1).den
theorem aLF(a0:List aI)(a1:bB):Con Tryz.prog 131 [.t (eL aV a0),.t (cQ a1)] (G81 a0 a1) tI:=con Tryz.func131 aR (T81 a0 a1)
def aPV(a0:List aI)(a1:aG):Int->TP ((Int)⊕((Unit)⊕Bool))
 | v1=>.jn 5 0 (fun j2=>⟨[(0,.t (eL aV a0)),(3,.ptr 3 0),(5,tI v1),(15,tB j2)],[(3,bN a1)]⟩) (.ite 0 (decide (v1<a0.length)) (.ret 3 (decide (v1<6))) (.ret 3 false)) fun j2=>.ite 0 j2 (.grd 3 (0<=v1/\v1<a0.length) <| .ca 2 (Wu ((a0.getD v1.toNat default).Body)) fun r3=>.jn 2 0 (fun j4=>⟨[(0,.t (eL aV a0)),(3,.ptr 3 0),(5,tI v1),(33,tB j4)],[(3,bN a1)]⟩) (.ite 0 (decide (r3>100)) (.ret 8 true) (.grd 3 (0<=v1/\v1<a0.length) <| .ret 5 (decide ((((a0.getD v1.toNat default).Params).length:Int)>10)))) fun j4=>.ite 0 j4 (.ret 1 (.inr (.inr false))) (.ret 3 (.inl (i64.wrap (v1+1))))) (.ret 0 (.inr (.inl ())))
def aNS(a0:List aI)(a1:aG):Int->TP ((Int)⊕((Unit)⊕Bool))
 | v5=>.jn 6 0 (fun j6=>⟨[(0,.t (eL aV a0)),(3,.ptr 3 0),(6,tI v5),(42,tB j6)],[(3,bN a1)]⟩) (.ite 0 (decide (v5<a1.Exprs.length)) (.ret 3 (decide (v5<13))) (.ret 3 false)) fun j6=>.ite 0 j6 (.grd 4 (0<=v5/\v5<a1.Exprs.length) <| .ca 1 (Wu (a1.Exprs.getD v5.toNat default)) fun r7=>.jn 2 0 (fun j8=>⟨[(0,.t (eL aV a0)),(3,.ptr 3 0),(6,tI v5),(70,tB j8)],[(3,bN a1)]⟩) (.ite 0 (decide (r7>200)) (.ret 18 true) (.grd 4 (0<=v5/\v5<a1.Exprs.length) <| .ca 1 (Xb (a1.Exprs.getD v5.toNat default)) fun r9=>.ite 3 (decide (r9>12)) (.ret 9 true) (.grd 5 (0<=v5/\v5<a1.Exprs.length) <| .ca 1 (aLF a0 (a1.Exprs.getD v5.toNat default)) fun r10=>.ret 2 (decide (r10>1000))))) fun j8=>.ite 0 j8 (.ret 1 (.inr (.inr false))) (.ret 3 (.inl (i64.wrap (v5+1))))) (.ret 0 (.inr (.inl ())))
def aRG(a0:List aI)(a1:aG):Int->TP ((Int)⊕((Unit)⊕Bool))
 | v11=>.jn 6 0 (fun j12=>⟨[(0,.t (eL aV a0)),(3,.ptr 3 0),(7,tI v11),(79,tB j12)],[(3,bN a1)]⟩) (.ite 0 (decide (v11<a1.Seq.length)) (.ret 3 (decide (v11<9))) (.ret 3 false)) fun j12=>.ite 0 j12 (.grd 4 (0<=v11/\v11<a1.Seq.length) <| .ca 2 (Wu ((a1.Seq.getD v11.toNat default).Pred)) fun r13=>.jn 2 0 (fun j14=>⟨[(0,.t (eL aV a0)),(3,.ptr 3 0),(7,tI v11),(110,tB j14)],[(3,bN a1)]⟩) (.ite 0 (decide (r13>200)) (.ret 20 true) (.grd 4 (0<=v11/\v11<a1.Seq.length) <| .ca 2 (Xb ((a1.Seq.getD v11.toNat default).Pred)) fun r15=>.ite 3 (decide (r15>12)) (.ret 10 true) (.grd 5 (0<=v11/\v11<a1.Seq.length) <| .ca 2 (aLF a0 ((a1.Seq.getD v11.toNat default).Pred)) fun r16=>.ret 2 (decide (r16>1000))))) fun j14=>.ite 0 j14 (.ret 1 (.inr (.inr false))) (.ret 3 (.inl (i64.wrap (v11+1))))) (.ret 0 (.inr (.inl ())))
def T33(a0:List aI)(a1:aG):TP Bool:=.lp 3 (fun v1=>⟨[(0,.t (eL aV a0)),(3,.ptr 3 0),(5,tI v1)],[(3,bN a1)]⟩) (fun _=>⟨[(0,.t (eL aV a0)),(3,.ptr 3 0)],[(3,bN a1)]⟩) 0 0 (aPV a0 a1) fun _=>.lp 1 (fun v5=>⟨[(0,.t (eL aV a0)),(3,.ptr 3 0),(6,tI v5)],[(3,bN a1)]⟩) (fun _=>⟨[(0,.t (eL aV a0)),(3,.ptr 3 0)],[(3,bN a1)]⟩) 2 0 (aNS a0 a1) fun _=>.lp 1 (fun v11=>⟨[(0,.t (eL aV a0)),(3,.ptr 3 0),(7,tI v11)],[(3,bN a1)]⟩) (fun _=>⟨[(0,.t (eL aV a0)),(3,.ptr 3 0)],[(3,bN a1)]⟩) 4 0 (aRG a0 a1) fun _=>.jn 4 0 (fun j17=>⟨[(4,tB j17)],[]⟩) (.ite 0 (decide ((a0.length:Int)<=5)) (.ite 6 (decide ((a1.Exprs.length:Int)<=12)) (.ite 6 (decide ((a1.Seq.length:Int)<=8)) (.ite 6 (decide ((a1.Key.length:Int)<=20)) (.ite 6 (decide ((a1.Key2.length:Int)<=20)) (.ret 6 (decide ((a1.Aggs.length:Int)<=20))) (.ret 6 false)) (.ret 12 false)) (.ret 18 false)) (.ret 24 false)) (.ret 30 false)) fun j17=>.ret 0 j17
def G33(a0:List aI)(a1:aG):=(T33 a0 a1).den
theorem bGR(a0:List aI)(a1:aG):Con Tryz.prog 59 [.t (eL aV a0),.t (fM a1)] (G33 a0 a1) tB:=con Tryz.func59 aR (T33 a0 a1)
def aYC(a0:Int):TP Bool:=.jn 4 0 (fun j1=>⟨[(2,tB j1)],[]⟩) (.ite 0 (decide (a0>=0)) (.ret 4 (decide (a0<3))) (.ret 4 false)) fun j1=>.ret 0 j1
def bAD(a0:Int):=(aYC a0).den
theorem aDX(a0:Int):Con Tryz.prog 132 [tI a0] (bAD a0) tB:=con Tryz.func132 aR (aYC a0)
def Nl(a0:List aI)(a1:Int)(a2:List Int):Int->TP ((Int)⊕((Unit)⊕(Int×Bool)))
 | v2=>.ite 4 (decide (v2<a2.length)) (.dg 2 (0<=v2/\v2<a2.length) <| .dg 7 (0<=v2/\v2<(((a0.getD a1.toNat default).Params).length:Int)) <| .dr 0 0 [(8,false,[])] [2,8,9,28,29,30,31] <| .ite 0 ((a2.getD v2.toNat default) != (((a0.getD a1.toNat default).Params).getD v2.toNat default)) (.ret 2 (.inr (.inr (0,false)))) (.ret 3 (.inl (i64.wrap (v2+1))))) (.ret 0 (.inr (.inl ())))
def aWC(a0:List aI)(a1:Int)(a2:List Int):TP (Int×Bool):=.jn 5 0 (fun j1=>⟨[(0,.t (eL aV a0)),(1,tI a1),(2,.t (eL bK a2)),(17,tB j1)],[]⟩) (.ite 0 (decide (a1<0)) (.ret 5 true) (.ret 5 (decide (a1>=(a0.length:Int))))) fun j1=>.ite 0 j1 (.ret 2 (0,false)) (.grd 3 (0<=a1/\a1<a0.length) <| .ite 9 ((((a0.getD a1.toNat default).Params).length:Int) != (a2.length:Int)) (.ret 2 (0,false)) (.lp 1 (fun v2=>⟨[(2,.t (eL bK a2)),(8,.ptr 8 0),(9,tI v2)],[(8,.box ((aV (a0.getD a1.toNat default)).map .t))]⟩) (fun _=>⟨[(8,.ptr 8 0)],[(8,.box ((aV (a0.getD a1.toNat default)).map .t))]⟩) 0 0 (Nl a0 a1 a2) fun _=>.ret 4 ((a0.getD a1.toNat default).Result,true)))
def aMA(a0:List aI)(a1:Int)(a2:List Int):=(aWC a0 a1 a2).den
theorem bAB(a0:List aI)(a1:Int)(a2:List Int):Con Tryz.prog 268 [.t (eL aV a0),tI a1,.t (eL bK a2)] (aMA a0 a1 a2) (fun y=>.tup [tI y.1,tB y.2]):=con Tryz.func268 aR (aWC a0 a1 a2)
def bGG(a0:Int):TP Int:=.jn 4 0 (fun j1=>⟨[(0,tI a0),(3,tI a0),(4,tB j1)],[]⟩) (.ite 0 (a0==0) (.ret 0 (a0==0)) (.jn 2 0 (fun j2=>⟨[(0,tI a0),(3,tI a0),(4,tB j2)],[]⟩) (.ite 0 (a0==1) (.ret 0 (a0==1)) (.jn 2 0 (fun j3=>⟨[(0,tI a0),(3,tI a0),(4,tB j3)],[]⟩) (.ite 0 (a0==2) (.ret 0 (a0==2)) (.jn 2 0 (fun j4=>⟨[(0,tI a0),(3,tI a0),(4,tB j4)],[]⟩) (.ite 0 (a0==3) (.ret 0 (a0==3)) (.jn 2 0 (fun j5=>⟨[(0,tI a0),(3,tI a0),(4,tB j5)],[]⟩) (.ite 0 (a0==4) (.ret 0 (a0==4)) (.ret 2 (a0==5))) fun j5=>.ret 0 j5)) fun j4=>.ret 0 j4)) fun j3=>.ret 0 j3)) fun j2=>.ret 0 j2)) fun j1=>.ite 0 j1 (.ret 1 0) (.jn 2 0 (fun j6=>⟨[(0,tI a0),(3,tI a0),(11,tB j6)],[]⟩) (.ite 0 (a0==6) (.ret 0 (a0==6)) (.jn 2 0 (fun j7=>⟨[(0,tI a0),(3,tI a0),(11,tB j7)],[]⟩) (.ite 0 (a0==7) (.ret 0 (a0==7)) (.ret 2 (a0==20))) fun j7=>.ret 0 j7)) fun j6=>.ite 0 j6 (.ret 1 1) (.ite 2 (a0==21) (.ret 1 3) (.ite 2 (a0==22) (.ret 1 (-1)) (.jn 3 0 (fun j8=>⟨[(24,tB j8)],[]⟩) (.ite 0 (decide (a0>5)) (.ret 3 (decide (a0<21))) (.ret 3 false)) fun j8=>.ite 0 j8 (.ret 1 2) (.ret 1 (-1))))))
def bCQ(a0:Int):=(bGG a0).den
theorem aXW(a0:Int):Con Tryz.prog 269 [tI a0] (bCQ a0) tI:=con Tryz.func269 aR (bGG a0)
def aUM(a0:List Int)(a1:Int):TP (Int×Bool):=.jn 5 0 (fun j1=>⟨[(0,.t (eL bK a0)),(1,tI a1),(13,tB j1)],[]⟩) (.ite 0 (decide (a1<0)) (.ret 5 true) (.ret 5 (decide (a1>=(a0.length:Int))))) fun j1=>.ite 0 j1 (.ret 2 (0,false)) (.dg 2 (0<=a1/\a1<a0.length) <| .dg 6 (0<=a1/\a1<a0.length) <| .dc 8 [tI (a0.getD a1.toNat default)] (aDX (a0.getD a1.toNat default)) fun r2=>.dr 0 0 [] [0,1,13] <| .ret 0 (a0.getD a1.toNat default,r2))
def aKS(a0:List Int)(a1:Int):=(aUM a0 a1).den
theorem aEL(a0:List Int)(a1:Int):Con Tryz.prog 270 [.t (eL bK a0),tI a1] (aKS a0 a1) (fun y=>.tup [tI y.1,tB y.2]):=con Tryz.func270 aR (aUM a0 a1)
abbrev bGK:={f:((List aI)×(List Int)×(List Int)×bB)->Option (Int×Bool) // ∀ a:(List aI)×(List Int)×(List Int)×bB,Con Tryz.prog 212 [.t (eL aV (a.1)),.t (eL bK (a.2.1)),.t (eL bK (a.2.2.1)),.t (cQ a.2.2.2)] (f a) (fun (y:Int×Bool)=>.tup [tI y.1,tB y.2])}
def Rg(rec:bGK)(a0:List aI)(a1:List Int)(a2:List Int)(a3:bB):((List Int)×Int)->TP (((List Int)×Int)⊕((List Int)⊕(Int×Bool)))
 | (v1,v2)=>.ite 5 (decide (v2<a3.Args.length)) (.grd 7 (0<=v2/\v2<a3.Args.length) <| .ca 1 (rec.2 (a0,a1,a2,a3.Args.getD v2.toNat default)) fun r4=>.ite 7 (!r4.2) (.ret 2 (.inr (.inr (0,false)))) (.bs 2 false bK [r4.1] <| .grd 1 ((v1.length+[r4.1].length)*8<=140737488355328) <| .cv 0 [.ap 38 bK v1 [r4.1]] <| .cv 4 [.rn 38 10] <| .ret 0 (.inl (v1++[r4.1],i64.wrap (v2+1))))) (.ret 0 (.inr (.inl v1)))
def Xs(rec:bGK)(a0:List aI)(a1:List Int)(a2:List Int)(a3:bB):TP (Int×Bool):=.cv 5 [.th 10 10 3 1 (eF bK ([]:List Int))] <| .lp 0 (fun (v1,v2)=>⟨[(0,.t (eL aV a0)),(1,.t (eL bK a1)),(2,.t (eL bK a2)),(7,.ptr 7 0),(10,.own 10),(11,tI v2)],[(7,.box ((dA a3).map .t)),(10,.arr 3 1 (v1.length) (eF bK v1))]⟩) (fun b3=>⟨[(0,.t (eL aV a0)),(1,.t (eL bK a1)),(2,.t (eL bK a2)),(7,.ptr 7 0),(10,.own 10)],[(7,.box ((dA a3).map .t)),(10,.arr 3 1 (b3.length) (eF bK b3))]⟩) 0 (([]:List Int),0) (Rg rec a0 a1 a2 a3) fun b3=>.jn 4 0 (fun (j5,j6)=>⟨[(0,.t (eL aV a0)),(1,.t (eL bK a1)),(2,.t (eL bK a2)),(7,.ptr 7 0),(10,.own 10),(46,tB j6)],[(7,.box ((dA a3).map .t)),(10,.arr 3 1 (j5.length) (eF bK j5))]⟩) (.ite 0 (!((a3.S:ByteArray).toList==(⟨#[]⟩:ByteArray).toList)) (.ret 4 (b3,a3.Op != 1)) (.ret 4 (b3,false))) fun (j5,j6)=>.ite 0 j6 (.ret 2 (0,false)) (.ite 3 (a3.Op==22) (.ca 4 (bAB a0 a3.N j5) fun r7=>.ret 4 (r7.1,r7.2)) (.ca 2 (aXW a3.Op) fun r8=>.ite 3 (r8 != (j5.length:Int)) (.ret 2 (0,false)) (.ite 4 (a3.Op==0) (.ret 2 (0,true)) (.ite 2 (a3.Op==2) (.jn 0 0 (fun j9=>⟨[(8,tI 2),(9,tB j9)],[]⟩) (.dl 3 (a3.N==0) (.dr 0 0 [(7,false,[]),(10,false,[])] [0,1,2,7,10,46,47,48,49,57,58,59,60,61,62,63,64,65,66,67,68] <| .ret 0 true) (.dr 0 0 [(7,false,[]),(10,false,[])] [0,1,2,7,10,46,47,48,49,57,58,59,60,61,62,63,64,65,66,67,68] <| .ret 0 (a3.N==1))) fun j9=>.ret 0 (2,j9)) (.ite 2 (a3.Op==3) (.ca 3 (aEL a1 a3.N) fun r10=>.ret 4 (r10.1,r10.2)) (.ite 2 (a3.Op==4) (.ca 3 (aEL a2 a3.N) fun r11=>.ret 4 (r11.1,r11.2)) (.ite 3 (a3.N != 0) (.ret 2 (0,false)) (.ite 4 (a3.Op==1) (.dr 0 0 [(7,false,[]),(10,false,[])] [0,1,2,7,10,46,47,48,49,57,58,59,60,61,62,63,64,65,66,67,68,77,78,85,86,93,94,95,96,97,98,99] <| .ret 0 (1,decide (((a3.S:ByteArray).size:Int)<=200))) (.ite 2 (a3.Op==5) (.ret 2 (0,true)) (.ite 2 (a3.Op==6) (.dg 1 (0<=(0:Int)/\(0:Int)<j5.length) <| .dg 2 ((0:Int).toNat<j5.length) <| .dr 0 0 [(7,false,[]),(10,false,[])] [0,1,2,7,10,46,47,48,49,57,58,59,60,61,62,63,64,65,66,67,68,77,78,85,86,93,94,95,96,97,98,99,104,105,106,107] <| .ret 0 (2,(j5.getD (0:Int).toNat default)==2)) (.ite 2 (a3.Op==7) (.dg 1 (0<=(0:Int)/\(0:Int)<j5.length) <| .dg 2 ((0:Int).toNat<j5.length) <| .dr 0 0 [(7,false,[]),(10,false,[])] [0,1,2,7,10,46,47,48,49,57,58,59,60,61,62,63,64,65,66,67,68,77,78,85,86,93,94,95,96,97,98,99,104,105,106,107,112,113] <| .ret 0 (0,(j5.getD (0:Int).toNat default)==0)) (.ite 2 (a3.Op==20) (.dg 1 (0<=(0:Int)/\(0:Int)<j5.length) <| .dg 2 ((0:Int).toNat<j5.length) <| .dr 0 0 [(7,false,[]),(10,false,[])] [0,1,2,7,10,46,47,48,49,57,58,59,60,61,62,63,64,65,66,67,68,77,78,85,86,93,94,95,96,97,98,99,104,105,106,107,112,113,118,119] <| .ret 0 (0,(j5.getD (0:Int).toNat default)==1)) (.jn 2 0 (fun (j12,j13)=>⟨[(10,.own 10),(97,tI a3.Op),(124,tB j13)],[(10,.arr 3 1 (j12.length) (eF bK j12))]⟩) (.ite 0 (a3.Op==8) (.ret 0 (j5,a3.Op==8)) (.jn 2 0 (fun (j14,j15)=>⟨[(10,.own 10),(97,tI a3.Op),(124,tB j15)],[(10,.arr 3 1 (j14.length) (eF bK j14))]⟩) (.ite 0 (a3.Op==9) (.ret 0 (j5,a3.Op==9)) (.jn 2 0 (fun (j16,j17)=>⟨[(10,.own 10),(97,tI a3.Op),(124,tB j17)],[(10,.arr 3 1 (j16.length) (eF bK j16))]⟩) (.ite 0 (a3.Op==10) (.ret 0 (j5,a3.Op==10)) (.jn 2 0 (fun (j18,j19)=>⟨[(10,.own 10),(97,tI a3.Op),(124,tB j19)],[(10,.arr 3 1 (j18.length) (eF bK j18))]⟩) (.ite 0 (a3.Op==11) (.ret 0 (j5,a3.Op==11)) (.ret 2 (j5,a3.Op==12))) fun (j18,j19)=>.ret 0 (j18,j19))) fun (j16,j17)=>.ret 0 (j16,j17))) fun (j14,j15)=>.ret 0 (j14,j15))) fun (j12,j13)=>.ite 0 j13 (.jn 0 0 (fun j20=>⟨[(8,tI 0),(9,tB j20)],[]⟩) (.dg 1 (0<=(0:Int)/\(0:Int)<j12.length) <| .dg 2 ((0:Int).toNat<j12.length) <| .dl 4 ((j12.getD (0:Int).toNat default)==0) (.dg 6 (0<=(1:Int)/\(1:Int)<j12.length) <| .dg 7 ((1:Int).toNat<j12.length) <| .dr 0 0 [(10,false,[])] [10,97,124] <| .ret 0 ((j12.getD (1:Int).toNat default)==0)) (.dr 0 0 [(10,false,[])] [10,97,124] <| .ret 0 false)) fun j20=>.ret 0 (0,j20)) (.jn 2 0 (fun (j21,j22)=>⟨[(10,.own 10),(97,tI a3.Op),(140,tB j22)],[(10,.arr 3 1 (j21.length) (eF bK j21))]⟩) (.ite 0 (a3.Op==13) (.ret 0 (j12,a3.Op==13)) (.jn 2 0 (fun (j23,j24)=>⟨[(10,.own 10),(97,tI a3.Op),(140,tB j24)],[(10,.arr 3 1 (j23.length) (eF bK j23))]⟩) (.ite 0 (a3.Op==14) (.ret 0 (j12,a3.Op==14)) (.jn 2 0 (fun (j25,j26)=>⟨[(10,.own 10),(97,tI a3.Op),(140,tB j26)],[(10,.arr 3 1 (j25.length) (eF bK j25))]⟩) (.ite 0 (a3.Op==15) (.ret 0 (j12,a3.Op==15)) (.ret 2 (j12,a3.Op==16))) fun (j25,j26)=>.ret 0 (j25,j26))) fun (j23,j24)=>.ret 0 (j23,j24))) fun (j21,j22)=>.ite 0 j22 (.dg 1 (0<=(0:Int)/\(0:Int)<j21.length) <| .dg 2 ((0:Int).toNat<j21.length) <| .dg 4 (0<=(1:Int)/\(1:Int)<j21.length) <| .dg 5 ((1:Int).toNat<j21.length) <| .dr 0 0 [(10,false,[])] [10,97,140] <| .ret 0 (2,(j21.getD (0:Int).toNat default)==(j21.getD (1:Int).toNat default))) (.jn 2 0 (fun (j27,j28)=>⟨[(10,.own 10),(97,tI a3.Op),(152,tB j28)],[(10,.arr 3 1 (j27.length) (eF bK j27))]⟩) (.ite 0 (a3.Op==17) (.ret 0 (j21,a3.Op==17)) (.ret 2 (j21,a3.Op==18))) fun (j27,j28)=>.ite 0 j28 (.jn 0 0 (fun j29=>⟨[(8,tI 2),(9,tB j29)],[]⟩) (.dg 1 (0<=(0:Int)/\(0:Int)<j27.length) <| .dg 2 ((0:Int).toNat<j27.length) <| .dl 4 ((j27.getD (0:Int).toNat default)==2) (.dg 6 (0<=(1:Int)/\(1:Int)<j27.length) <| .dg 7 ((1:Int).toNat<j27.length) <| .dr 0 0 [(10,false,[])] [10,97,152] <| .ret 0 ((j27.getD (1:Int).toNat default)==2)) (.dr 0 0 [(10,false,[])] [10,97,152] <| .ret 0 false)) fun j29=>.ret 0 (2,j29)) (.ite 2 (a3.Op==19) (.jn 0 0 (fun j30=>⟨[(8,tI 1),(9,tB j30)],[]⟩) (.dg 1 (0<=(0:Int)/\(0:Int)<j27.length) <| .dg 2 ((0:Int).toNat<j27.length) <| .dl 4 ((j27.getD (0:Int).toNat default)==1) (.dg 6 (0<=(1:Int)/\(1:Int)<j27.length) <| .dg 7 ((1:Int).toNat<j27.length) <| .dr 0 0 [(10,false,[])] [10,97,152,165,166] <| .ret 0 ((j27.getD (1:Int).toNat default)==1)) (.dr 0 0 [(10,false,[])] [10,97,152,165,166] <| .ret 0 false)) fun j30=>.ret 0 (1,j30)) (.jn 0 0 (fun j31=>⟨[(8,tI (j27.getD (1:Int).toNat default)),(9,tB j31)],[]⟩) (.dg 1 (0<=(1:Int)/\(1:Int)<j27.length) <| .dg 2 ((1:Int).toNat<j27.length) <| .dg 4 (0<=(0:Int)/\(0:Int)<j27.length) <| .dg 5 ((0:Int).toNat<j27.length) <| .dl 7 ((j27.getD (0:Int).toNat default)==2) (.dg 9 (0<=(1:Int)/\(1:Int)<j27.length) <| .dg 10 ((1:Int).toNat<j27.length) <| .dg 12 (0<=(2:Int)/\(2:Int)<j27.length) <| .dg 13 ((2:Int).toNat<j27.length) <| .dr 0 0 [(10,false,[])] [10,97,152,165,166] <| .ret 0 ((j27.getD (1:Int).toNat default)==(j27.getD (2:Int).toNat default))) (.dr 0 0 [(10,false,[])] [10,97,152,165,166] <| .ret 0 false)) fun j31=>.ret 0 (j27.getD (1:Int).toNat default,j31))))))))))))))))))
theorem Px(rec:bGK)(a0:List aI)(a1:List Int)(a2:List Int)(a3:bB):Con Tryz.prog 212 [.t (eL aV a0),.t (eL bK a1),.t (eL bK a2),.t (cQ a3)] (Xs rec a0 a1 a2 a3).den (fun (y:Int×Bool)=>.tup [tI y.1,tB y.2]):=con Tryz.func212 aR (Xs rec a0 a1 a2 a3)
def bLC(a:(List aI)×(List Int)×(List Int)×bB):Option (Int×Bool):=sG (C:=fun (a:(List aI)×(List Int)×(List Int)×bB) (x:Option (Int×Bool))=>Con Tryz.prog 212 [.t (eL aV (a.1)),.t (eL bK (a.2.1)),.t (eL bK (a.2.2.1)),.t (cQ a.2.2.2)] x (fun (y:Int×Bool)=>.tup [tI y.1,tB y.2])) (fun a=>⟨bL Tryz.func212 (by kernel_rfl),fun _ h=>nomatch h⟩) (fun rec a=>Xs rec a.1 a.2.1 a.2.2.1 a.2.2.2) (fun rec a=>Px rec a.1 a.2.1 a.2.2.1 a.2.2.2) a
theorem aUK(a:(List aI)×(List Int)×(List Int)×bB):Con Tryz.prog 212 [.t (eL aV (a.1)),.t (eL bK (a.2.1)),.t (eL bK (a.2.2.1)),.t (cQ a.2.2.2)] (bLC a) (fun (y:Int×Bool)=>.tup [tI y.1,tB y.2]):=lX (C:=fun (a:(List aI)×(List Int)×(List Int)×bB) (x:Option (Int×Bool))=>Con Tryz.prog 212 [.t (eL aV (a.1)),.t (eL bK (a.2.1)),.t (eL bK (a.2.2.1)),.t (cQ a.2.2.2)] x (fun (y:Int×Bool)=>.tup [tI y.1,tB y.2])) _ _ _ a
def bFT(a0:List aI)(a1:List Int)(a2:List Int)(a3:bB):Option (Int×Bool):=bLC (a0,a1,a2,a3)
theorem aXH(a0:List aI)(a1:List Int)(a2:List Int)(a3:bB):Con Tryz.prog 212 [.t (eL aV a0),.t (eL bK a1),.t (eL bK a2),.t (cQ a3)] (bFT a0 a1 a2 a3) (fun y=>.tup [tI y.1,tB y.2]):=aUK (a0,a1,a2,a3)
end
end Go.PL
