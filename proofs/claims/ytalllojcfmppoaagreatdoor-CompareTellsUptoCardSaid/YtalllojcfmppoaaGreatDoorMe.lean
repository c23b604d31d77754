/-
  Parts: The data types of the seat, as the program logic reads them, and its type table. Printed by a program of our own. Rows, and arrays of rows, that are lent to a call of a function of data where the order is open. Own work. Contracts of library functions, as the kit tools lay-shelf and lay-plain wrote them for this seat, cut down to what is used. Contracts of strconv.Itoa, strings.IndexByte and strconv.Atoi in the form of trees. Own work. Functions of the seat as trees, and that the program computes them. Printed by a program of our own.
-/
import Derived.Test.YtalllojcfmppoaaGreatDoorMd
import Derived.Test.YtalllojcfmppoaaGreatDoorProg
import Derived.Shelf.Small.Strs
import Derived.Shelf.Strconv.Atoi
import Derived.Shelf.Strconv.Itoa0
import Derived.Shelf.Strconv.Itoa1
import Derived.Shelf.LaysM
import Derived.Shelf.Strconv.Itoa2
import Derived.Shelf.Strconv.Itoa3
import Derived.Shelf.Strconv.AtoiErrFast
import Derived.Shelf.Strconv.ParseIntEmpty
import Derived.Shelf.Strconv.AtoiFail
import Derived.Shelf.Strconv.Clone
import Derived.Shelf.Strconv.SyntaxError
import Derived.Shelf.LaysC
import Derived.Shelf.Strconv.ToError
import Derived.Shelf.Strconv.Lower
import Derived.Shelf.Strconv.ParseUint10
import Derived.Shelf.Strconv.ParseUint10Empty
import Derived.Shelf.Strconv.ParseUint10Any
import Derived.Shelf.Strconv.ParseInt10
import Derived.Shelf.Strconv.AtoiLong
import Derived.Shelf.Strconv.AtoiInnerAll
import Derived.Shelf.Strconv.RangeError
import Derived.Shelf.Strconv.ToErrorRange
import Derived.Shelf.Strconv.AtoiAll
import Derived.Shelf.Strings.Search1
set_option maxHeartbeats 4000000
namespace Go.PL
open Go
def aT(x:aE):T:=.agg (aN x)
def gR(x:List Int):List T:=[eL aQ (x)]
structure aO where
 Name:ByteArray
 Params:List Int
 Result:Int
 Body:aE
 deriving Inhabited
def aJ(x:aO):List T:=[.str (x.Name)]++[eL aQ (x.Params)]++[.int .i64 (x.Result)]++aN (x.Body)
structure fM where
 Kind:Int
 Col:Int
 Name:ByteArray
 deriving Inhabited
def iY(x:fM):List T:=[.int .i64 (x.Kind),.int .i64 (x.Col),.str (x.Name)]
def aLJ(x:fM):T:=.agg (iY x)
structure gZ where
 Pred:aE
 Rep:Int
 deriving Inhabited
def oE(x:gZ):List T:=aN (x.Pred)++[.int .i64 (x.Rep)]
def aLI(x:gZ):T:=.agg (oE x)
structure cU where
 Name:ByteArray
 Type_:Int
 Unit:ByteArray
 deriving Inhabited
def dH(x:cU):List T:=[.str (x.Name),.int .i64 (x.Type_),.str (x.Unit)]
def aLL(x:cU):T:=.agg (dH x)
structure aG where
 Op:Int
 In:List Int
 Source:ByteArray
 Schema:Int
 Exprs:List aE
 Kind:Int
 Size:Int
 Step:Int
 Key:List Int
 Key2:List Int
 Before:Int
 After:Int
 Keep:Int
 Aggs:List fM
 Seq:List gZ
 Cols:List cU
 deriving Inhabited
def aL(x:aG):List T:=[.int .i64 (x.Op),eL aQ (x.In),.str (x.Source),.int .i64 (x.Schema),.lz (.exprs (x.Exprs)),.int .i64 (x.Kind),.int .i64 (x.Size),.int .i64 (x.Step),eL aQ (x.Key),eL aQ (x.Key2),.int .i64 (x.Before),.int .i64 (x.After),.int .i64 (x.Keep),eL iY (x.Aggs),eL oE (x.Seq),eL dH (x.Cols)]
def cD(x:aG):T:=.agg (aL x)
structure aD where
 Funcs:List aO
 Nodes:List aG
 deriving Inhabited
def aH(x:aD):List T:=[eL aJ (x.Funcs),eL aL (x.Nodes)]
def bJ(x:aD):T:=.agg (aH x)
structure aV where
 Old:Int
 New:Int
 Why:Int
 deriving Inhabited
def aW(x:aV):List T:=[.int .i64 (x.Old),.int .i64 (x.New),.int .i64 (x.Why)]
def aJX(x:aV):T:=.agg (aW x)
def dV(x:List Bool):List T:=[eL eW (x)]
def fC(x:List Bool):List Cel:=[.row 4 1 x.length (eF eW x)]
structure bX where
 rest_:ByteArray
 bad_:Bool
 deriving Inhabited
def gM(x:bX):List T:=[.str (x.rest_),.bool (x.bad_)]
structure Fo where
 e0:Int
 e1:Int
 e2:Int
 e3:Int
 e4:Int
 e5:Int
 e6:Int
 e7:Int
 deriving Inhabited
def aJK(x:Fo):List T:=[.int .i64 (x.e0),.int .i64 (x.e1),.int .i64 (x.e2),.int .i64 (x.e3),.int .i64 (x.e4),.int .i64 (x.e5),.int .i64 (x.e6),.int .i64 (x.e7)]
def aIR(x:Fo):T:=.agg (aJK x)
structure aF where
 Rest:ByteArray
 Bad:Bool
 deriving Inhabited
def bI(x:aF):List T:=[.str (x.Rest),.bool (x.Bad)]
structure dS where
 e_:aE
 ok_:Bool
 deriving Inhabited
def eZ(x:dS):List T:=aN (x.e_)++[.bool (x.ok_)]
def tH(x:dS):T:=.agg (eZ x)
def tiL:List (Nat×dA):=[
 (2,⟨1,8,.int .i64,[.t (.int .i64 0)],0,0⟩),
 (3,⟨1,8,.int .i64,[.t (.int .i64 0)],0,0⟩),
 (4,⟨1,1,.bool,[.t (.bool false)],0,0⟩),
 (5,⟨1,1,.int .u8,[.t (.int .u8 0)],0,0⟩),
 (9,⟨1,16,.str,[.t (.str ⟨#[]⟩)],0,0⟩),
 (12,⟨1,8,.int .u64,[.t (.int .u64 0)],0,0⟩),
 (15,⟨1,8,.ptr 195,[.np],0,0⟩),
 (16,⟨1,8,.ptr 198,[.np],0,0⟩),
 (17,⟨1,8,.ptr 205,[.np],0,0⟩),
 (21,⟨1,4,.int .i32,[.t (.int .i32 0)],0,0⟩),
 (22,⟨1,24,.sl 100,[.nil],0,0⟩),
 (23,⟨1,24,.sl 43,[.nil],0,0⟩),
 (25,⟨2,48,.st [(0,22),(1,23)],[.nil,.nil],0,0⟩),
 (26,⟨1,24,.sl 52,[.nil],0,0⟩),
 (31,⟨1,8,.int .i64,[.t (.int .i64 0)],0,0⟩),
 (33,⟨1,24,.sl 3,[.nil],0,0⟩),
 (38,⟨1,24,.sl 49,[.nil],0,0⟩),
 (39,⟨1,24,.sl 47,[.nil],0,0⟩),
 (40,⟨1,24,.sl 103,[.nil],0,0⟩),
 (41,⟨1,24,.sl 77,[.nil],0,0⟩),
 (43,⟨16,248,.st [(0,3),(1,33),(2,9),(3,3),(4,38),(5,3),(6,3),(7,3),(8,33),(9,33),(10,3),(11,3),(12,3),(13,39),(14,40),(15,41)],[.t (.int .i64 0),.nil,.t (.str ⟨#[]⟩),.t (.int .i64 0),.nil,.t (.int .i64 0),.t (.int .i64 0),.t (.int .i64 0),.nil,.nil,.t (.int .i64 0),.t (.int .i64 0),.t (.int .i64 0),.nil,.nil,.nil],0,0⟩),
 (47,⟨3,32,.st [(0,3),(1,3),(2,9)],[.t (.int .i64 0),.t (.int .i64 0),.t (.str ⟨#[]⟩)],0,37⟩),
 (49,⟨4,56,.st [(0,3),(1,3),(2,9),(3,38)],[.t (.int .i64 0),.t (.int .i64 0),.t (.str ⟨#[]⟩),.nil],0,0⟩),
 (52,⟨3,24,.st [(0,3),(1,3),(2,3)],[.t (.int .i64 0),.t (.int .i64 0),.t (.int .i64 0)],3,0⟩),
 (54,⟨1,8,.ptr 57,[.np],0,0⟩),
 (55,⟨1,8,.mp 80 4,[.lit (.map none)],0,0⟩),
 (57,⟨5,104,.st [(0,25),(2,25),(4,55)],[.nil,.nil,.nil,.nil,.lit (.map none)],0,0⟩),
 (59,⟨1,8,.other,[.lit .nilFunc],0,0⟩),
 (60,⟨1,24,.sl 63,[.nil],0,0⟩),
 (63,⟨1,24,.sl 4,[.nil],0,0⟩),
 (65,⟨1,8,.other,[.lit .nilFunc],0,0⟩),
 (66,⟨1,8,.other,[.lit .nilFunc],0,0⟩),
 (67,⟨1,8,.ptr 88,[.np],0,0⟩),
 (70,⟨1,24,.sl 9,[.nil],0,0⟩),
 (77,⟨3,40,.st [(0,9),(1,3),(2,9)],[.t (.str ⟨#[]⟩),.t (.int .i64 0),.t (.str ⟨#[]⟩)],0,38⟩),
 (80,⟨2,16,.arr 2 3,[.t (.int .i64 0),.t (.int .i64 0)],2,0⟩),
 (83,⟨1,8,.other,[.lit .nilFunc],0,0⟩),
 (88,⟨2,24,.st [(0,9),(1,4)],[.t (.str ⟨#[]⟩),.t (.bool false)],0,14⟩),
 (91,⟨1,8,.ptr 128,[.np],0,0⟩),
 (100,⟨7,104,.st [(0,9),(1,33),(2,3),(3,49)],[.t (.str ⟨#[]⟩),.nil,.t (.int .i64 0),.t (.int .i64 0),.t (.int .i64 0),.t (.str ⟨#[]⟩),.nil],0,0⟩),
 (103,⟨5,64,.st [(0,49),(4,3)],[.t (.int .i64 0),.t (.int .i64 0),.t (.str ⟨#[]⟩),.nil,.t (.int .i64 0)],0,0⟩),
 (104,⟨8,64,.arr 8 3,[.t (.int .i64 0),.t (.int .i64 0),.t (.int .i64 0),.t (.int .i64 0),.t (.int .i64 0),.t (.int .i64 0),.t (.int .i64 0),.t (.int .i64 0)],8,0⟩),
 (107,⟨1,8,.other,[.lit .nilFunc],0,0⟩),
 (109,⟨1,8,.other,[.lit .nilFunc],0,0⟩),
 (111,⟨1,8,.other,[.lit .nilFunc],0,0⟩),
 (113,⟨1,8,.other,[.lit .nilFunc],0,0⟩),
 (116,⟨4,32,.st [(0,3),(1,66),(2,83),(3,4)],[.t (.int .i64 0),.lit .nilFunc,.lit .nilFunc,.t (.bool false)],0,0⟩),
 (122,⟨1,16,.ifc,[.lit .nilIface],0,0⟩),
 (128,⟨2,24,.st [(0,9),(1,4)],[.t (.str ⟨#[]⟩),.t (.bool false)],0,14⟩),
 (131,⟨1,24,.sl 5,[.nil],0,0⟩),
 (133,⟨1,24,.sl 33,[.nil],0,0⟩),
 (139,⟨36,288,.arr 9 116,[.t (.int .i64 0),.lit .nilFunc,.lit .nilFunc,.t (.bool false),.t (.int .i64 0),.lit .nilFunc,.lit .nilFunc,.t (.bool false),.t (.int .i64 0),.lit .nilFunc,.lit .nilFunc,.t (.bool false),.t (.int .i64 0),.lit .nilFunc,.lit .nilFunc,.t (.bool false),.t (.int .i64 0),.lit .nilFunc,.lit .nilFunc,.t (.bool false),.t (.int .i64 0),.lit .nilFunc,.lit .nilFunc,.t (.bool false),.t (.int .i64 0),.lit .nilFunc,.lit .nilFunc,.t (.bool false),.t (.int .i64 0),.lit .nilFunc,.lit .nilFunc,.t (.bool false),.t (.int .i64 0),.lit .nilFunc,.lit .nilFunc,.t (.bool false)],0,0⟩),
 (150,⟨1,24,.sl 152,[.nil],0,0⟩),
 (152,⟨5,64,.st [(0,49),(4,4)],[.t (.int .i64 0),.t (.int .i64 0),.t (.str ⟨#[]⟩),.nil,.t (.bool false)],0,0⟩),
 (155,⟨1,8,.int .i64,[.t (.int .i64 0)],0,0⟩),
 (158,⟨1,8,.ptr 176,[.np],0,0⟩),
 (162,⟨24,24,.arr 24 5,[.t (.int .u8 0),.t (.int .u8 0),.t (.int .u8 0),.t (.int .u8 0),.t (.int .u8 0),.t (.int .u8 0),.t (.int .u8 0),.t (.int .u8 0),.t (.int .u8 0),.t (.int .u8 0),.t (.int .u8 0),.t (.int .u8 0),.t (.int .u8 0),.t (.int .u8 0),.t (.int .u8 0),.t (.int .u8 0),.t (.int .u8 0),.t (.int .u8 0),.t (.int .u8 0),.t (.int .u8 0),.t (.int .u8 0),.t (.int .u8 0),.t (.int .u8 0),.t (.int .u8 0)],0,0⟩),
 (163,⟨1,8,.int .u64,[.t (.int .u64 0)],0,0⟩),
 (171,⟨1,8,.other,[.lit .nilFunc],0,0⟩),
 (174,⟨1,8,.int .u64,[.t (.int .u64 0)],0,0⟩),
 (176,⟨3,48,.st [(0,9),(1,9),(2,122)],[.t (.str ⟨#[]⟩),.t (.str ⟨#[]⟩),.lit .nilIface],0,0⟩),
 (179,⟨20,160,.arr 20 163,[.t (.int .u64 0),.t (.int .u64 0),.t (.int .u64 0),.t (.int .u64 0),.t (.int .u64 0),.t (.int .u64 0),.t (.int .u64 0),.t (.int .u64 0),.t (.int .u64 0),.t (.int .u64 0),.t (.int .u64 0),.t (.int .u64 0),.t (.int .u64 0),.t (.int .u64 0),.t (.int .u64 0),.t (.int .u64 0),.t (.int .u64 0),.t (.int .u64 0),.t (.int .u64 0),.t (.int .u64 0)],0,0⟩),
 (180,⟨1,4,.int .u32,[.t (.int .u32 0)],0,0⟩),
 (181,⟨65,65,.arr 65 5,[.t (.int .u8 0),.t (.int .u8 0),.t (.int .u8 0),.t (.int .u8 0),.t (.int .u8 0),.t (.int .u8 0),.t (.int .u8 0),.t (.int .u8 0),.t (.int .u8 0),.t (.int .u8 0),.t (.int .u8 0),.t (.int .u8 0),.t (.int .u8 0),.t (.int .u8 0),.t (.int .u8 0),.t (.int .u8 0),.t (.int .u8 0),.t (.int .u8 0),.t (.int .u8 0),.t (.int .u8 0),.t (.int .u8 0),.t (.int .u8 0),.t (.int .u8 0),.t (.int .u8 0),.t (.int .u8 0),.t (.int .u8 0),.t (.int .u8 0),.t (.int .u8 0),.t (.int .u8 0),.t (.int .u8 0),.t (.int .u8 0),.t (.int .u8 0),.t (.int .u8 0),.t (.int .u8 0),.t (.int .u8 0),.t (.int .u8 0),.t (.int .u8 0),.t (.int .u8 0),.t (.int .u8 0),.t (.int .u8 0),.t (.int .u8 0),.t (.int .u8 0),.t (.int .u8 0),.t (.int .u8 0),.t (.int .u8 0),.t (.int .u8 0),.t (.int .u8 0),.t (.int .u8 0),.t (.int .u8 0),.t (.int .u8 0),.t (.int .u8 0),.t (.int .u8 0),.t (.int .u8 0),.t (.int .u8 0),.t (.int .u8 0),.t (.int .u8 0),.t (.int .u8 0),.t (.int .u8 0),.t (.int .u8 0),.t (.int .u8 0),.t (.int .u8 0),.t (.int .u8 0),.t (.int .u8 0),.t (.int .u8 0),.t (.int .u8 0)],0,0⟩),
 (187,⟨1,8,.ptr 5,[.np],0,0⟩),
 (188,⟨1,8,.ptr 190,[.np],0,0⟩),
 (190,⟨1,16,.st [(0,9)],[.t (.str ⟨#[]⟩)],0,2⟩),
 (192,⟨32,32,.arr 32 5,[.t (.int .u8 0),.t (.int .u8 0),.t (.int .u8 0),.t (.int .u8 0),.t (.int .u8 0),.t (.int .u8 0),.t (.int .u8 0),.t (.int .u8 0),.t (.int .u8 0),.t (.int .u8 0),.t (.int .u8 0),.t (.int .u8 0),.t (.int .u8 0),.t (.int .u8 0),.t (.int .u8 0),.t (.int .u8 0),.t (.int .u8 0),.t (.int .u8 0),.t (.int .u8 0),.t (.int .u8 0),.t (.int .u8 0),.t (.int .u8 0),.t (.int .u8 0),.t (.int .u8 0),.t (.int .u8 0),.t (.int .u8 0),.t (.int .u8 0),.t (.int .u8 0),.t (.int .u8 0),.t (.int .u8 0),.t (.int .u8 0),.t (.int .u8 0)],0,0⟩),
 (193,⟨64,64,.arr 64 5,[.t (.int .u8 0),.t (.int .u8 0),.t (.int .u8 0),.t (.int .u8 0),.t (.int .u8 0),.t (.int .u8 0),.t (.int .u8 0),.t (.int .u8 0),.t (.int .u8 0),.t (.int .u8 0),.t (.int .u8 0),.t (.int .u8 0),.t (.int .u8 0),.t (.int .u8 0),.t (.int .u8 0),.t (.int .u8 0),.t (.int .u8 0),.t (.int .u8 0),.t (.int .u8 0),.t (.int .u8 0),.t (.int .u8 0),.t (.int .u8 0),.t (.int .u8 0),.t (.int .u8 0),.t (.int .u8 0),.t (.int .u8 0),.t (.int .u8 0),.t (.int .u8 0),.t (.int .u8 0),.t (.int .u8 0),.t (.int .u8 0),.t (.int .u8 0),.t (.int .u8 0),.t (.int .u8 0),.t (.int .u8 0),.t (.int .u8 0),.t (.int .u8 0),.t (.int .u8 0),.t (.int .u8 0),.t (.int .u8 0),.t (.int .u8 0),.t (.int .u8 0),.t (.int .u8 0),.t (.int .u8 0),.t (.int .u8 0),.t (.int .u8 0),.t (.int .u8 0),.t (.int .u8 0),.t (.int .u8 0),.t (.int .u8 0),.t (.int .u8 0),.t (.int .u8 0),.t (.int .u8 0),.t (.int .u8 0),.t (.int .u8 0),.t (.int .u8 0),.t (.int .u8 0),.t (.int .u8 0),.t (.int .u8 0),.t (.int .u8 0),.t (.int .u8 0),.t (.int .u8 0),.t (.int .u8 0),.t (.int .u8 0)],0,0⟩)]
set_option maxRecDepth 100000 in
theorem aX:lE Proofs.Tryz.prog (look tiL):=
 aHH (aR (bM (by kernel_rfl) (by kernel_rfl) (by kernel_rfl)) (aR (bM (by kernel_rfl) (by kernel_rfl) (by kernel_rfl)) (aR (bM (by kernel_rfl) (by kernel_rfl) (by kernel_rfl)) (aR (bM (by kernel_rfl) (by kernel_rfl) (by kernel_rfl)) (aR (bM (by kernel_rfl) (by kernel_rfl) (by kernel_rfl)) (aR (bM (by kernel_rfl) (by kernel_rfl) (by kernel_rfl)) (aR (bM (by kernel_rfl) (by kernel_rfl) (by kernel_rfl)) (aR (bM (by kernel_rfl) (by kernel_rfl) (by kernel_rfl)) (aR (bM (by kernel_rfl) (by kernel_rfl) (by kernel_rfl)) (aR (bM (by kernel_rfl) (by kernel_rfl) (by kernel_rfl)) (aR (bM (by kernel_rfl) (by kernel_rfl) (by kernel_rfl)) (aR (bM (by kernel_rfl) (by kernel_rfl) (by kernel_rfl)) (aR (bM (by kernel_rfl) (by kernel_rfl) (by kernel_rfl)) (aR (bM (by kernel_rfl) (by kernel_rfl) (by kernel_rfl)) (aR (bM (by kernel_rfl) (by kernel_rfl) (by kernel_rfl)) (aR (bM (by kernel_rfl) (by kernel_rfl) (by kernel_rfl)) (aR (bM (by kernel_rfl) (by kernel_rfl) (by kernel_rfl)) (aR (bM (by kernel_rfl) (by kernel_rfl) (by kernel_rfl)) (aR (bM (by kernel_rfl) (by kernel_rfl) (by kernel_rfl)) (aR (bM (by kernel_rfl) (by kernel_rfl) (by kernel_rfl)) (aR (bM (by kernel_rfl) (by kernel_rfl) (by kernel_rfl)) (aR (bM (by kernel_rfl) (by kernel_rfl) (by kernel_rfl)) (aR (bM (by kernel_rfl) (by kernel_rfl) (by kernel_rfl)) (aR (bM (by kernel_rfl) (by kernel_rfl) (by kernel_rfl)) (aR (bM (by kernel_rfl) (by kernel_rfl) (by kernel_rfl)) (aR (bM (by kernel_rfl) (by kernel_rfl) (by kernel_rfl)) (aR (bM (by kernel_rfl) (by kernel_rfl) (by kernel_rfl)) (aR (bM (by kernel_rfl) (by kernel_rfl) (by kernel_rfl)) (aR (bM (by kernel_rfl) (by kernel_rfl) (by kernel_rfl)) (aR (bM (by kernel_rfl) (by kernel_rfl) (by kernel_rfl)) (aR (bM (by kernel_rfl) (by kernel_rfl) (by kernel_rfl)) (aR (bM (by kernel_rfl) (by kernel_rfl) (by kernel_rfl)) (aR (bM (by kernel_rfl) (by kernel_rfl) (by kernel_rfl)) (aR (bM (by kernel_rfl) (by kernel_rfl) (by kernel_rfl)) (aR (bM (by kernel_rfl) (by kernel_rfl) (by kernel_rfl)) (aR (bM (by kernel_rfl) (by kernel_rfl) (by kernel_rfl)) (aR (bM (by kernel_rfl) (by kernel_rfl) (by kernel_rfl)) (aR (bM (by kernel_rfl) (by kernel_rfl) (by kernel_rfl)) (aR (bM (by kernel_rfl) (by kernel_rfl) (by kernel_rfl)) (aR (bM (by kernel_rfl) (by kernel_rfl) (by kernel_rfl)) (aR (bM (by kernel_rfl) (by kernel_rfl) (by kernel_rfl)) (aR (bM (by kernel_rfl) (by kernel_rfl) (by kernel_rfl)) (aR (bM (by kernel_rfl) (by kernel_rfl) (by kernel_rfl)) (aR (bM (by kernel_rfl) (by kernel_rfl) (by kernel_rfl)) (aR (bM (by kernel_rfl) (by kernel_rfl) (by kernel_rfl)) (aR (bM (by kernel_rfl) (by kernel_rfl) (by kernel_rfl)) (aR (bM (by kernel_rfl) (by kernel_rfl) (by kernel_rfl)) (aR (bM (by kernel_rfl) (by kernel_rfl) (by kernel_rfl)) (aR (bM (by kernel_rfl) (by kernel_rfl) (by kernel_rfl)) (aR (bM (by kernel_rfl) (by kernel_rfl) (by kernel_rfl)) (aR (bM (by kernel_rfl) (by kernel_rfl) (by kernel_rfl)) (aR (bM (by kernel_rfl) (by kernel_rfl) (by kernel_rfl)) (aR (bM (by kernel_rfl) (by kernel_rfl) (by kernel_rfl)) (aR (bM (by kernel_rfl) (by kernel_rfl) (by kernel_rfl)) (aR (bM (by kernel_rfl) (by kernel_rfl) (by kernel_rfl)) (aR (bM (by kernel_rfl) (by kernel_rfl) (by kernel_rfl)) (aR (bM (by kernel_rfl) (by kernel_rfl) (by kernel_rfl)) (aR (bM (by kernel_rfl) (by kernel_rfl) (by kernel_rfl)) (aR (bM (by kernel_rfl) (by kernel_rfl) (by kernel_rfl)) (aR (bM (by kernel_rfl) (by kernel_rfl) (by kernel_rfl)) (aR (bM (by kernel_rfl) (by kernel_rfl) (by kernel_rfl)) (aR (bM (by kernel_rfl) (by kernel_rfl) (by kernel_rfl)) (aR (bM (by kernel_rfl) (by kernel_rfl) (by kernel_rfl)) (aR (bM (by kernel_rfl) (by kernel_rfl) (by kernel_rfl)) (aR (bM (by kernel_rfl) (by kernel_rfl) (by kernel_rfl)) (aR (bM (by kernel_rfl) (by kernel_rfl) (by kernel_rfl)) (aR (bM (by kernel_rfl) (by kernel_rfl) (by kernel_rfl)) (aR (bM (by kernel_rfl) (by kernel_rfl) (by kernel_rfl)) (aR (bM (by kernel_rfl) (by kernel_rfl) (by kernel_rfl)) Yg)))))))))))))))))))))))))))))))))))))))))))))))))))))))))))))))))))))
abbrev TP:=Tr Proofs.Tryz.prog
inductive aEX (Hs:Hp):PV->PV->Prop
 | arg {p q:PV} (h:Dh ⟨[],Hs⟩ (cY Hs) p q):aEX Hs p q
 | opn {α:Type} [Inhabited α] (c:α->List Cel) (cW:α->List T) {xs:List α} {i j:Nat} {x:α} {o q e s e' s' m:Nat} {f':Nat->List T}
   (ho:look Hs o=some (.arm e s xs.length (kW (iU c xs) i j .any) (some (i,j,.own q)))) (hq:look Hs q=some (.arr e' s' m f'))
   (hc:Kj (c (xs.getD i default)) [(j,.row e' s' m f')]=c x) (hW:∀ y,(c y).map zK=(cW y).map some):aEX Hs (.own o) (.t (eL cW (xs.set i x)))
inductive yA (Hs:Hp):List PV->List PV->Prop
 | nil:yA Hs [] []
 | cons {p q:PV} {l r:List PV} (h:aEX Hs p q) (t:yA Hs l r):yA Hs (p::l) (q::r)
theorem yA.get{Hs:Hp}{l r:List PV}(h:yA Hs l r):r.length=l.length/\∀ (j:Nat) q,r[j]? = some q->∃ p,l[j]? = some p/\aEX Hs p q:=by
 induction h with
 | nil=>simp
 | cons h _ ih=>
  refine⟨by simp[ih.1],fun j q hj=>?_⟩;cases j with
  | zero=>simp at hj; subst hj; exact⟨_,by simp,h⟩
  | succ j=>simpa using ih.2 j q (by simpa using hj)
section
variable {F:Nat->Prop} {g:Nat->Value} {w:World}
theorem aNU{α:Type}[Inhabited α]{c:α->List Cel}{cW:α->List T}{xs:List α}{i j:Nat}{x:α}{o q e s e' s' m:Nat}{f':Nat->List T}{F':Nat->Prop}
  (ho:cI F g w o (.arm e s xs.length (kW (iU c xs) i j .any) (some (i,j,.own q))))(hq:cI F g w q (.arr e' s' m f'))
  (hc:Kj (c (xs.getD i default)) [(j,.row e' s' m f')]=c x)(hW:∀ y,(c y).map zK=(cW y).map some)(hF:∀ b,F b->F' b)
  (h1:∀ b,aZ g w o (.arm e s xs.length (kW (iU c xs) i j .any) (some (i,j,.own q))) b->F' b)(h2:∀ b,blk (g q)=some b->F' b):Rd F' w (eL cW (xs.set i x)) (g o):=by
 rcases ho with⟨_,_,h⟩ | ⟨b,cap,cur,a1,a2,a3,a4,a5,hC⟩
 ·cases h
 have hn:(xs.set i x).length=xs.length:=List.length_set;have self:=h1 b (.self (by rw[a1]; rfl));have hc':(c (xs.getD i default)).set j (.row e' s' m f')=c x:=hc;have hlenW:∀ y,(cW y).length=(c y).length:=fun y=>by have:=congrArg List.length (hW y);simpa using this.symm
 obtain⟨hi,hij,hov⟩:=hC.ov i j (.own q) rfl;have hget:∀ k,k<xs.length->(xs.set i x).getD k default=if k=i then x else xs.getD k default:=fun k hk=>by
  by_cases hki:k=i
  ·subst hki; simp[hk]
  ·rw[aC hki,cC,cC,List.getElem?_set_ne (fun h=>hki h.symm)]
 have hs:∀ k,k<xs.length->(c ((xs.set i x).getD k default)).length=s:=fun k hk=>by
  have hl:=hC.len k hk;rw[rW]at hl;rw[hget k hk];split
  ·rename_i hki; subst hki; rw[<-hc']; simpa[iU] using hl
  ·exact hl
 have hcell:∀ (k l:Nat) (z:Cel),k<xs.length->(c ((xs.set i x).getD k default))[l]? = some z->(k=i/\l=j/\z = .row e' s' m f')\/(kW (iU c xs) i j .any k)[l]? = some z:=fun k l z hk hz=>by
  rw[hget k hk]at hz;by_cases hki:k=i
  ·subst hki;rw[aA rfl,<-hc']at hz;by_cases hlj:l=j
   ·subst hlj;have hlt:l<(c (xs.getD k default)).length:=by have:=(dE.1 hz).1;simpa using this
    rw[List.getElem?_set_self hlt]at hz;cases hz; exact .inl ⟨rfl,rfl,rfl⟩
   ·rw[List.getElem?_set_ne (fun h=>hlj h.symm)]at hz;exact .inr (by rw[rR (fun h=>hlj h.2)]; exact hz)
  ·rw[aC hki]at hz;exact .inr (by rw[rR (fun h=>hki h.1)]; exact hz)
 rw[a1,<-hn];refine .sl ⟨b,0,none⟩ cap s (fun k l=>(cur[k*s+l]?).getD undef) rfl (by omega) (fun _=>self) (fun k hk=>?_) (fun k l hk hl=>?_) (fun k l z hk hz=>?_)
 ·rw[hlenW]; exact hs k (by omega)
 ·have hk':k*s+l<cur.size:=by rw[a5];have:(k+1)*s<=cap*s:=fJ _ (by omega);rw[fT]at this;omega
  rw[Addr.add_none];simp[World.cell?,a2,hk']
 ·have hk:k<xs.length:=by omega
  have h3:=congrArg (·[l]?) (hW ((xs.set i x).getD k default));simp only[eR,hz,kZ]at h3;cases hcl:(c ((xs.set i x).getD k default))[l]? with
  | none=>rw[hcl]at h3; cases h3
  | some y=>
   rw[hcl]at h3;have hy:zK y=some z:=by simpa using h3
   rcases hcell k l y hk hcl with⟨rfl,rfl,rfl⟩ | hu
   ·cases hy;have hk':k*s+l<cur.size:=by
     have hl:l<s:=by rw[<-hs k (by omega)]; exact(dE.1 hcl).1
     rw[a5];have:(k+1)*s<=cap*s:=fJ _ (by omega);rw[fT]at this;omega
    have hv:cur[k*s+l]? = some cur[k*s+l]:=Ai hk';have hg:=hov _ hv;simp only[hv,oL];generalize cur[k*s+l]=u at hg;cases hg with
    | own e=>rw[<-e]; exact rC hq hF h2 rfl
   ·obtain⟨v,hv,hR⟩:=hC.cell k l y hk hu;simp only[hv,oL];exact Rj hR hy hF fun b' ho' hb'=>h1 b' (.arm a1 a2 hk hu ho' hv hb')
end
section
variable {P:Program} {k:FuncId}
theorem eX.lend{args bps:List PV}{Hs:Hp}(N:List Nat){ret:PV}(hcall:eX P k bps [] [] (Ret ret))(has:yA Hs args bps)(hsc:ret.scalar=true):eX P k args Hs N (qN ret Hs):=by
 intro F g w vs hsz hv hH hF hgl;have hlt:∀ b,Own g w Hs b->b<w.heap.size:=fun b ⟨o,x,hx,hb⟩=>hb.block (hH.obj o x hx);have hFO:∀ b,F b->¬ Own g w Hs b:=fun b hb ⟨o,x,hx,h⟩=>(hH.own o x b hx h).1 hb;have hin:∀ {o x b},look Hs o=some x->aZ g w o x b->Own g w Hs b:=fun hx hb=>⟨_,_,aS hx,hb⟩;have hl:=has.get.1;have hc:=hcall (fun b=>F b\/Own g w Hs b) g w vs (by omega) (fun j q v hqj hvj=>by
  obtain⟨p,hp,hpq⟩:=has.get.2 j q hqj;have hpv:=hv j p v hp hvj;have hob:∀ {o x},look Hs o=some x->cI F g w o x:=fun h=>hH.obj _ _ (aS h);cases hpq with
  | arg h=>
   cases h with
   | same=>exact hpv.mono (fun b hb=>⟨.inl hb,rfl⟩) (fun _ _=>rfl)
   | nil hx=>cases hpv; exact .t (.nil hx)
   | imp h=>exact(h _ _ _ _ hpv).mono (fun b hb=>⟨.inl hb,rfl⟩) (fun _ _=>rfl)
   | @lend o e s n f x ho hl hx=>
    have:=rC (F':=fun b=>F b\/Own g w Hs b) (hob hl) (fun b hb=>.inl hb) (fun b hb=>.inr (hin hl (.self hb))) hx;cases hpv with
    | own hg=>rw[hg]at this; exact .t this
   | @lendA o e s n f gf x ho hl hc hx=>
    have:=(Kl (hob hl) hc hx).mono (F':=fun b=>F b\/Own g w Hs b) (fun b hb=>⟨hb.elim .inl (fun hb=>.inr (hin hl hb)),rfl⟩);cases hpv with
    | own hg=>rw[hg]at this; exact .t this
  | opn c cW ho hq hc hW=>
   have:=aNU (F':=fun b=>F b\/Own g w Hs b) (hob ho) (hob hq) hc hW (fun b hb=>.inl hb) (fun b hb=>.inr (hin ho hb)) (fun b hb=>.inr (hin hq (.self hb)));cases hpv with
   | own hg=>rw[hg]at this; exact .t this) ⟨by simp,by simp,by simp⟩ (fun b hb=>hb.elim (hF b) (hlt b)) (hgl.mono fun b hb=>⟨.inl hb,rfl⟩)
 refine hc.mono ?_;rintro e w' ⟨v,res,H',F',g',rfl,hQ,hvr,hW⟩;have hQ:res=ret:=hQ;subst hQ;have hext:=hW.ext;have hblk:∀ b,b<w.heap.size->w'.heap[b]? = w.heap[b]?:=fun b hb=>hext.block b hb (by rintro⟨o,x,hx,_⟩; simp at hx);have hFF:∀ b,F b->(F' b/\¬ Own g w Hs b)/\w'.heap[b]? = w.heap[b]?:=fun b hb=>⟨⟨hW.f0 b (.inl hb),hFO b hb⟩,hblk b (hF b hb)⟩;have hft:∀ o x b,(o,x)∈Hs->aZ g w' o x b->aZ g w o x b:=fun o x b hx hb=>hb.mono rfl (fun _ _=>rfl) (fun c hc=>hblk c ((hH.obj o x hx).block hc));refine⟨v,res,Hs,fun b=>F' b/\¬ Own g w Hs b,g,rfl,⟨rfl,rfl⟩,hvr.scalar_F hsc _ _,⟨⟨fun o x hx=>?_,fun o x b hx hb=>⟨fun hb'=>hb'.2 ⟨o,x,hx,hft o x b hx hb⟩,.inl ⟨o,x,hx,hft o x b hx hb⟩⟩,
  fun o x o' y b hx hy hne hb hb'=>hH.sep o x o' y b hx hy hne (hft o x b hx hb) (hft o' y b hy hb')⟩,fun b hb=>(hFF b hb).1,fun b hb=>⟨(hW.f1 b hb.1).1,?_⟩,
  ⟨hext.os,hext.tape,hext.output,hext.size,fun b hb _=>hblk b hb⟩,fun _ _=>rfl,hlt⟩⟩
 ·exact(hH.obj o x hx).mono hFF rfl (fun _ _=>rfl) (fun b hb=>hblk b (hb.block (hH.obj o x hx)))
 ·rcases (hW.f1 b hb.1).2 with h | h | h
  ·exact .inl (h.resolve_right hb.2)
  ·obtain⟨o',x',hx',_⟩:=h; simp at hx'
  ·exact .inr (.inr h)
theorem aGC{args bps:List PV}(Hs:Hp)(N:List Nat){R:Type}{x:Option R}{ret:R->PV}(has:yA Hs args bps)(hsc:∀ y,(ret y).scalar=true)(h:Con P k bps x ret):cX P k args Hs N x ret (fun _=>Hs):=
 ⟨h.c,fun y hy=>(h.h y hy).lend N has (hsc y)⟩
end
end Go.PL
namespace Go.Proofs
open Go.Shelf
def Tryz.lays137_ren:Go.Shelf.Ren:=⟨fun | 137=>86 | 217=>117 | 266=>134 | n=>n,fun | 9=>9 | 5=>5 | 3=>3 | n=>n,fun | n=>n⟩
theorem Tryz.lays137:Go.Proofs.Lays.n137 Tryz.prog Tryz.lays137_ren:={
 mixed:=by kernel_rfl
 f137:=Tryz.func86.trans (congrArg some (by kernel_rfl))
 f217:=Tryz.func117.trans (congrArg some (by kernel_rfl))
 f266:=Tryz.func134.trans (congrArg some (by kernel_rfl))
 t3:=Tryz.underlying3
 a3:=Tryz.isAgg3
 z3:=Tryz.sizeOf3
 v3:=Tryz.zeroValue3
 t5:=Tryz.underlying5
 a5:=Tryz.isAgg5
 z5:=Tryz.sizeOf5
 v5:=Tryz.zeroValue5
 t9:=Tryz.underlying9
 a9:=Tryz.isAgg9
 z9:=Tryz.sizeOf9
 v9:=Tryz.zeroValue9 }
open Go.RowKit in
theorem Tryz.strings_IndexByte(s:ByteArray)(c:Int)(w:World):
  Calls Tryz.prog 86 #[.string s,.int .u8 c] w fun e w'=>e = .returned (.int .i64 (Lib.indexByte s.data.toList c.toNat.toUInt8))/\w'=w:=Any.strings_IndexByte Tryz.lays137 s c w
def Tryz.laysM171_ren:Go.Shelf.Ren:=⟨fun | 171=>57 | 243=>89 | 246=>121 | 283=>141 | 284=>142 | 285=>143 | 286=>144 | 129=>157 | 317=>156 | 318=>158 | 319=>159 | 320=>160 | 337=>169 | 338=>170 | n=>n,fun | 3=>3 | 9=>9 | 2=>2 | 4=>4 | 171=>162 | 0=>0 | 53=>163 | 37=>131 | 5=>5 | 173=>166 | 212=>179 | 51=>180 | 20=>20 | 213=>181 | 46=>174 | 232=>192 | 233=>193 | n=>n,fun | 17=>3 | 18=>4 | 19=>5 | n=>n⟩
theorem Tryz.laysM171:Go.Proofs.LaysM.n171 Tryz.prog Tryz.laysM171_ren:={
 mixed:=by kernel_rfl
 f129:=Tryz.func157.trans (congrArg some (by kernel_rfl))
 f171:=Tryz.func57.trans (congrArg some (by kernel_rfl))
 f243:=Tryz.func89.trans (congrArg some (by kernel_rfl))
 f246:=Tryz.func121.trans (congrArg some (by kernel_rfl))
 f283:=Tryz.func141.trans (congrArg some (by kernel_rfl))
 f284:=Tryz.func142.trans (congrArg some (by kernel_rfl))
 f285:=Tryz.func143.trans (congrArg some (by kernel_rfl))
 f286:=Tryz.func144.trans (congrArg some (by kernel_rfl))
 f317:=Tryz.func156.trans (congrArg some (by kernel_rfl))
 f318:=Tryz.func158.trans (congrArg some (by kernel_rfl))
 f319:=Tryz.func159.trans (congrArg some (by kernel_rfl))
 f320:=Tryz.func160.trans (congrArg some (by kernel_rfl))
 f337:=Tryz.func169.trans (congrArg some (by kernel_rfl))
 f338:=Tryz.func170.trans (congrArg some (by kernel_rfl))
 t0:=Tryz.underlying0
 a0:=Tryz.isAgg0
 z0:=Tryz.sizeOf0
 v0:=Tryz.zeroValue0
 t2:=Tryz.underlying2
 a2:=Tryz.isAgg2
 z2:=Tryz.sizeOf2
 v2:=Tryz.zeroValue2
 t3:=Tryz.underlying3
 a3:=Tryz.isAgg3
 z3:=Tryz.sizeOf3
 v3:=Tryz.zeroValue3
 t4:=Tryz.underlying4
 a4:=Tryz.isAgg4
 z4:=Tryz.sizeOf4
 v4:=Tryz.zeroValue4
 t5:=Tryz.underlying5
 a5:=Tryz.isAgg5
 z5:=Tryz.sizeOf5
 v5:=Tryz.zeroValue5
 t9:=Tryz.underlying9
 a9:=Tryz.isAgg9
 z9:=Tryz.sizeOf9
 v9:=Tryz.zeroValue9
 t20:=Tryz.underlying20
 a20:=Tryz.isAgg20
 z20:=Tryz.sizeOf20
 v20:=Tryz.zeroValue20
 t37:=Tryz.underlying131
 a37:=Tryz.isAgg131
 z37:=Tryz.sizeOf131
 v37:=Tryz.zeroValue131
 t46:=Tryz.underlying174
 a46:=Tryz.isAgg174
 z46:=Tryz.sizeOf174
 v46:=Tryz.zeroValue174
 t51:=Tryz.underlying180
 a51:=Tryz.isAgg180
 z51:=Tryz.sizeOf180
 v51:=Tryz.zeroValue180
 t53:=Tryz.underlying163
 a53:=Tryz.isAgg163
 z53:=Tryz.sizeOf163
 v53:=Tryz.zeroValue163
 t171:=Tryz.underlying162
 a171:=Tryz.isAgg162
 z171:=Tryz.sizeOf162
 v171:=Tryz.zeroValue162
 t173:=Tryz.underlying166
 a173:=Tryz.isAgg166
 z173:=Tryz.sizeOf166
 v173:=Tryz.zeroValue166
 t212:=Tryz.underlying179
 a212:=Tryz.isAgg179
 z212:=Tryz.sizeOf179
 v212:=Tryz.zeroValue179
 t213:=Tryz.underlying181
 a213:=Tryz.isAgg181
 z213:=Tryz.sizeOf181
 t232:=Tryz.underlying192
 a232:=Tryz.isAgg192
 z232:=Tryz.sizeOf192
 v232:=Tryz.zeroValue192
 t233:=Tryz.underlying193
 a233:=Tryz.isAgg193
 z233:=Tryz.sizeOf193
 v233:=Tryz.zeroValue193
 g17:=by kernel_rfl
 g18:=by kernel_rfl
 g19:=by kernel_rfl
 i0:=by kernel_rfl
 i2:=by kernel_rfl
 i3:=by kernel_rfl
 i4:=by kernel_rfl
 i5:=by kernel_rfl
 i9:=by kernel_rfl
 i20:=by kernel_rfl
 i37:=by kernel_rfl
 i46:=by kernel_rfl
 i51:=by kernel_rfl
 i53:=by kernel_rfl
 i171:=by kernel_rfl
 i173:=by kernel_rfl
 i212:=by kernel_rfl
 i232:=by kernel_rfl
 i233:=by kernel_rfl
 m17:=by kernel_rfl
 m18:=by kernel_rfl
 m19:=by kernel_rfl }
open Go.RowKit Go.Sort Go.Lib in
theorem Tryz.strconv_Itoa(n:Int)(h0:-9223372036854775808<=n)(h1:n<=9223372036854775807)(w:World)(htab:Lib.TabIs Tryz.prog w "internal/strconv.uint64pow10" .u64 Lib.pow10Tab):
  Calls Tryz.prog 57 #[.int .i64 n] w fun e w'=>e = .returned (.string ⟨(Lib.itoa n).toArray⟩)/\∃ k os,w'=grow (w.drewN k) os:=Any.strconv_Itoa Tryz.laysM171 n h0 h1 w htab
def Tryz.laysC172_ren:Go.Shelf.Ren:=⟨fun | 172=>87 | 244=>118 | 245=>119 | 247=>135 | 279=>136 | 280=>137 | 281=>138 | 282=>139 | 287=>153 | 316=>154 | 171=>57 | 205=>155 | 321=>167 | 322=>168 | 243=>89 | 246=>121 | 283=>141 | 284=>142 | 285=>143 | 286=>144 | 129=>157 | 317=>156 | 318=>158 | 319=>159 | 320=>160 | 337=>169 | 338=>170 | n=>n,fun | 9=>9 | 3=>3 | 75=>122 | 76=>123 | 4=>4 | 5=>5 | 167=>155 | 37=>131 | 0=>0 | 85=>156 | 2=>2 | 168=>158 | 53=>163 | 175=>172 | 46=>174 | 210=>176 | 127=>187 | 145=>190 | 143=>188 | 21=>21 | 171=>162 | 173=>166 | 212=>179 | 51=>180 | 20=>20 | 213=>181 | 232=>192 | 233=>193 | 80=>71 | n=>n,fun | 15=>1 | 16=>2 | 17=>3 | 18=>4 | 19=>5 | n=>n⟩
theorem Tryz.laysC172:Go.Proofs.LaysC.n172 Tryz.prog Tryz.laysC172_ren:={
 mixed:=by kernel_rfl
 f129:=Tryz.func157.trans (congrArg some (by kernel_rfl))
 f171:=Tryz.func57.trans (congrArg some (by kernel_rfl))
 f172:=Tryz.func87.trans (congrArg some (by kernel_rfl))
 f205:=Tryz.func155.trans (congrArg some (by kernel_rfl))
 f243:=Tryz.func89.trans (congrArg some (by kernel_rfl))
 f244:=Tryz.func118.trans (congrArg some (by kernel_rfl))
 f245:=Tryz.func119.trans (congrArg some (by kernel_rfl))
 f246:=Tryz.func121.trans (congrArg some (by kernel_rfl))
 f247:=Tryz.func135.trans (congrArg some (by kernel_rfl))
 f279:=Tryz.func136.trans (congrArg some (by kernel_rfl))
 f280:=Tryz.func137.trans (congrArg some (by kernel_rfl))
 f281:=Tryz.func138.trans (congrArg some (by kernel_rfl))
 f282:=Tryz.func139.trans (congrArg some (by kernel_rfl))
 f283:=Tryz.func141.trans (congrArg some (by kernel_rfl))
 f284:=Tryz.func142.trans (congrArg some (by kernel_rfl))
 f285:=Tryz.func143.trans (congrArg some (by kernel_rfl))
 f286:=Tryz.func144.trans (congrArg some (by kernel_rfl))
 f287:=Tryz.func153.trans (congrArg some (by kernel_rfl))
 f316:=Tryz.func154.trans (congrArg some (by kernel_rfl))
 f317:=Tryz.func156.trans (congrArg some (by kernel_rfl))
 f318:=Tryz.func158.trans (congrArg some (by kernel_rfl))
 f319:=Tryz.func159.trans (congrArg some (by kernel_rfl))
 f320:=Tryz.func160.trans (congrArg some (by kernel_rfl))
 f321:=Tryz.func167.trans (congrArg some (by kernel_rfl))
 f322:=Tryz.func168.trans (congrArg some (by kernel_rfl))
 f337:=Tryz.func169.trans (congrArg some (by kernel_rfl))
 f338:=Tryz.func170.trans (congrArg some (by kernel_rfl))
 t0:=Tryz.underlying0
 a0:=Tryz.isAgg0
 z0:=Tryz.sizeOf0
 v0:=Tryz.zeroValue0
 t2:=Tryz.underlying2
 a2:=Tryz.isAgg2
 z2:=Tryz.sizeOf2
 v2:=Tryz.zeroValue2
 t3:=Tryz.underlying3
 a3:=Tryz.isAgg3
 z3:=Tryz.sizeOf3
 v3:=Tryz.zeroValue3
 t4:=Tryz.underlying4
 a4:=Tryz.isAgg4
 z4:=Tryz.sizeOf4
 v4:=Tryz.zeroValue4
 t5:=Tryz.underlying5
 a5:=Tryz.isAgg5
 z5:=Tryz.sizeOf5
 v5:=Tryz.zeroValue5
 t9:=Tryz.underlying9
 a9:=Tryz.isAgg9
 z9:=Tryz.sizeOf9
 v9:=Tryz.zeroValue9
 t20:=Tryz.underlying20
 a20:=Tryz.isAgg20
 z20:=Tryz.sizeOf20
 v20:=Tryz.zeroValue20
 t21:=Tryz.underlying21
 a21:=Tryz.isAgg21
 z21:=Tryz.sizeOf21
 v21:=Tryz.zeroValue21
 t37:=Tryz.underlying131
 a37:=Tryz.isAgg131
 z37:=Tryz.sizeOf131
 v37:=Tryz.zeroValue131
 t46:=Tryz.underlying174
 a46:=Tryz.isAgg174
 z46:=Tryz.sizeOf174
 v46:=Tryz.zeroValue174
 t51:=Tryz.underlying180
 a51:=Tryz.isAgg180
 z51:=Tryz.sizeOf180
 v51:=Tryz.zeroValue180
 t53:=Tryz.underlying163
 a53:=Tryz.isAgg163
 z53:=Tryz.sizeOf163
 v53:=Tryz.zeroValue163
 t75:=Tryz.underlying122
 a75:=Tryz.isAgg122
 z75:=Tryz.sizeOf122
 v75:=Tryz.zeroValue122
 t76:=Tryz.underlying123
 a76:=Tryz.isAgg123
 z76:=Tryz.sizeOf123
 v76:=Tryz.zeroValue123
 t85:=Tryz.underlying156
 a85:=Tryz.isAgg156
 z85:=Tryz.sizeOf156
 v85:=Tryz.zeroValue156
 t127:=Tryz.underlying187
 a127:=Tryz.isAgg187
 z127:=Tryz.sizeOf187
 v127:=Tryz.zeroValue187
 t143:=Tryz.underlying188
 a143:=Tryz.isAgg188
 z143:=Tryz.sizeOf188
 v143:=Tryz.zeroValue188
 t145:=Tryz.underlying190
 a145:=Tryz.isAgg190
 z145:=Tryz.sizeOf190
 v145:=Tryz.zeroValue190
 t167:=Tryz.underlying155
 a167:=Tryz.isAgg155
 z167:=Tryz.sizeOf155
 v167:=Tryz.zeroValue155
 t168:=Tryz.underlying158
 a168:=Tryz.isAgg158
 z168:=Tryz.sizeOf158
 v168:=Tryz.zeroValue158
 t171:=Tryz.underlying162
 a171:=Tryz.isAgg162
 z171:=Tryz.sizeOf162
 v171:=Tryz.zeroValue162
 t173:=Tryz.underlying166
 a173:=Tryz.isAgg166
 z173:=Tryz.sizeOf166
 v173:=Tryz.zeroValue166
 t175:=Tryz.underlying172
 a175:=Tryz.isAgg172
 z175:=Tryz.sizeOf172
 v175:=Tryz.zeroValue172
 t210:=Tryz.underlying176
 a210:=Tryz.isAgg176
 z210:=Tryz.sizeOf176
 v210:=Tryz.zeroValue176
 t212:=Tryz.underlying179
 a212:=Tryz.isAgg179
 z212:=Tryz.sizeOf179
 v212:=Tryz.zeroValue179
 t213:=Tryz.underlying181
 a213:=Tryz.isAgg181
 z213:=Tryz.sizeOf181
 t232:=Tryz.underlying192
 a232:=Tryz.isAgg192
 z232:=Tryz.sizeOf192
 v232:=Tryz.zeroValue192
 t233:=Tryz.underlying193
 a233:=Tryz.isAgg193
 z233:=Tryz.sizeOf193
 v233:=Tryz.zeroValue193
 g15:=by kernel_rfl
 g16:=by kernel_rfl
 g17:=by kernel_rfl
 g18:=by kernel_rfl
 g19:=by kernel_rfl
 t80:=Tryz.underlying71
 a80:=Tryz.isAgg71
 z80:=Tryz.sizeOf71
 v80:=Tryz.zeroValue71
 i0:=by kernel_rfl
 i2:=by kernel_rfl
 i3:=by kernel_rfl
 i4:=by kernel_rfl
 i5:=by kernel_rfl
 i9:=by kernel_rfl
 i20:=by kernel_rfl
 i21:=by kernel_rfl
 i37:=by kernel_rfl
 i46:=by kernel_rfl
 i51:=by kernel_rfl
 i53:=by kernel_rfl
 i75:=by kernel_rfl
 i76:=by kernel_rfl
 i80:=by kernel_rfl
 i85:=by kernel_rfl
 i127:=by kernel_rfl
 i143:=by kernel_rfl
 i145:=by kernel_rfl
 i167:=by kernel_rfl
 i168:=by kernel_rfl
 i171:=by kernel_rfl
 i173:=by kernel_rfl
 i175:=by kernel_rfl
 i210:=by kernel_rfl
 i212:=by kernel_rfl
 i232:=by kernel_rfl
 i233:=by kernel_rfl
 m15:=by kernel_rfl
 m16:=by kernel_rfl
 m17:=by kernel_rfl
 m18:=by kernel_rfl
 m19:=by kernel_rfl
 c0:=by kernel_rfl
 c2:=by kernel_rfl
 c3:=by kernel_rfl
 c4:=by kernel_rfl
 c5:=by kernel_rfl
 c9:=by kernel_rfl
 c20:=by kernel_rfl
 c21:=by kernel_rfl
 c37:=by kernel_rfl
 c46:=by kernel_rfl
 c51:=by kernel_rfl
 c53:=by kernel_rfl
 c75:=by kernel_rfl
 c76:=by kernel_rfl
 c80:=by kernel_rfl
 c85:=by kernel_rfl
 c127:=by kernel_rfl
 c143:=by kernel_rfl
 c145:=by kernel_rfl
 c167:=by kernel_rfl
 c168:=by kernel_rfl
 c171:=by kernel_rfl
 c173:=by kernel_rfl
 c175:=by kernel_rfl
 c210:=by kernel_rfl
 c212:=by kernel_rfl
 c213:=by kernel_rfl
 c232:=by kernel_rfl
 c233:=by kernel_rfl }
open Go.RowKit in
theorem Tryz.strconv_Atoi_ok(s:ByteArray)(hmax:s.size<=9223372036854775806)(v:Int)(h:Lib.atoiAll s.data.toList = .ok v)(w:World):
  Calls Tryz.prog 87 #[.string s] w fun e w'=>e = .returned (.tuple #[.int .i64 v,.nilIface])/\(w'=w\/∃ t,w'=Lib.bytesWorld w 5 t):=Any.strconv_Atoi_ok Tryz.laysC172 s hmax v h w
open Go.RowKit in
theorem Tryz.strconv_Atoi_syntax(s:ByteArray)(hlim:s.size<=281474976710656)(h:Lib.atoiAll s.data.toList=Lib.atoiAll [])(ev:Value)(w:World)(hv:w.cell? ⟨1,0,none⟩=some ev)(hev:ev = .nilIface\/∃ te pe,ev = .iface te pe):
  Calls Tryz.prog 87 #[.string s] w fun e w'=>∃ N,e = .returned (.tuple #[.int .i64 (0),.iface 158 (.pointer (some ⟨N,0,none⟩))])/\w.heap.size<=N/\w'.heap[N]? = some (.cells #[.string ⟨#[65,116,111,105]⟩,.string s,ev] 176 (0,0))/\Below w.heap.size w w':=Any.strconv_Atoi_syntax Tryz.laysC172 s hlim (h.trans (by rfl)) ev w hv hev
open Go.RowKit in
theorem Tryz.strconv_Atoi_range(s:ByteArray)(hlim:s.size<=281474976710656)(h:Lib.atoiAll s.data.toList = .range)(ev:Value)(w:World)(hv:w.cell? ⟨2,0,none⟩=some ev)(hev:ev = .nilIface\/∃ te pe,ev = .iface te pe):
  Calls Tryz.prog 87 #[.string s] w fun e w'=>∃ N,e = .returned (.tuple #[.int .i64 (Lib.atoiSat s.data.toList),.iface 158 (.pointer (some ⟨N,0,none⟩))])/\w.heap.size<=N/\w'.heap[N]? = some (.cells #[.string ⟨#[65,116,111,105]⟩,.string s,ev] 176 (0,0))/\Below w.heap.size w w':=Any.strconv_Atoi_range Tryz.laysC172 s hlim h ev w hv hev
end Go.Proofs
namespace Go.PL
open Go
set_option linter.unusedVariables false
variable {F:Nat->Prop} {g:Nat->Value} {w:World}
theorem mP{w':World}{H:Hp}(hH:HpR F g w (fun _=>True) H)(hF:∀ b,F b->b<w.heap.size)
  (hos:w'.os=w.os)(htp:w'.tape=w.tape)(hout:w'.output=w.output)(hsz:w.heap.size<=w'.heap.size)(hb:∀ b,b<w.heap.size->¬ Own g w H b->w'.heap[b]? = w.heap[b]?):
  Us { w0:=w,F0:=F,B0:=Own g w H,g0:=g,N:=[],nt:=0 } F g [] w':=by
 refine⟨⟨fun o x h=>by simp at h,fun o x b h=>by simp at h,fun o x o' y b h=>by simp at h⟩,fun b h=>h,fun b h=>⟨Ov (hF b h) hsz,.inl h⟩,⟨hos,htp,hout,hsz,hb⟩,fun o h=>by simp at h,?_⟩;rintro b ⟨o,x,h1,h2⟩;exact h2.block (hH.obj o x h1)
theorem hv1{vs:Array Value}{p:PV}{u:Value}(hs:vs.size=[p].length)(hv:∀ (j:Nat) x v,[p][j]? = some x->vs[j]? = some v->VR F g w x v)(hu:∀ v,VR F g w p v->v=u):vs=#[u]:=by
 have h1:vs.size=1:=hs;have e0:=hu _ (hv 0 _ (vs[0]'(by omega)) rfl (by simp[h1]));apply Array.ext
 ·rw[h1]; rfl
 ·intro q hq _;have:q=0:=by omega
  subst this;simpa using e0
theorem hv2{vs:Array Value}{p p':PV}{u u':Value}(hs:vs.size=[p,p'].length)(hv:∀ (j:Nat) x v,[p,p'][j]? = some x->vs[j]? = some v->VR F g w x v)(hu:∀ v,VR F g w p v->v=u)
  (hu':∀ v,VR F g w p' v->v=u'):vs=#[u,u']:=by
 have h1:vs.size=2:=hs;have e0:=hu _ (hv 0 _ (vs[0]'(by omega)) rfl (by simp[h1]));have e1:=hu' _ (hv 1 _ (vs[1]'(by omega)) rfl (by simp[h1]));apply Array.ext
 ·rw[h1]; rfl
 ·intro q hq _
  match q,hq with
  | 0,_=>simpa using e0
  | 1,_=>simpa using e1
  | q+2,hq=>omega
def Ws(a0:Int):Option ByteArray:=if -9223372036854775808<=a0/\a0<=9223372036854775807 then some ⟨(Lib.itoa a0).toArray⟩ else none
theorem Eg(a0:Int):Con Proofs.Tryz.prog 57 [.t (.int .i64 a0)] (Ws a0) (fun (y:ByteArray)=>.t (.str y)):=by
 refine⟨bP Proofs.Tryz.func57 (by kernel_rfl),fun y hy=>?_⟩;unfold Ws at hy;split at hy
 case isFalse=>cases hy
 rename_i hr;cases hy;intro F g w vs hs hv hH hF hgl;have hvs:=hv1 hs hv (u:=.int .i64 a0) (fun v h=>h.inv_int);subst hvs;have hname:∃ b,Proofs.Tryz.prog.globalNamed Ly=some b:=Cq.1 (by kernel_rfl);obtain⟨b,hb⟩:=hname;refine(Proofs.Tryz.strconv_Itoa a0 hr.1 hr.2 w (hgl.tab b hb).1).mono ?_;rintro e w' ⟨rfl,k,os,rfl⟩;refine⟨_,_,[],F,g,rfl,rfl,.t (.str _),mP hH hF rfl rfl rfl ?_ (fun q hq _=>?_)⟩
 ·show w.heap.size<=(w.heap++os).size;rw[pO]; exact Nat.le_add_right _ _
 ·show (w.heap++os)[q]? = w.heap[q]?;exact lS hq
def Zp(s:ByteArray)(c:Int):Option Int:=some (Lib.indexByte s.data.toList c.toNat.toUInt8)
theorem aGT(s:ByteArray)(c:Int):Con Proofs.Tryz.prog 86 [.t (.str s),.t (.int .u8 c)] (Zp s c) (fun (y:Int)=>.t (.int .i64 y)):=by refine⟨bP Proofs.Tryz.func86 (by kernel_rfl),fun y hy=>?_⟩;cases hy;intro F g w vs hs hv hH hF hgl;have hvs:=hv2 hs hv (u:=.string s) (u':=.int .u8 c) (fun v h=>h.inv_str) (fun v h=>h.inv_int);subst hvs;refine(Proofs.Tryz.strings_IndexByte s c w).mono ?_;rintro e w' ⟨rfl,rfl⟩;exact⟨_,_,[],F,g,rfl,rfl,.t (.int _ _),mP hH hF rfl rfl rfl (eT _) (fun _ _ _=>rfl)⟩
theorem aAF{name:String}{b:Nat}(h:GLE Proofs.Tryz.prog F w name)(hb:Proofs.Tryz.prog.globalNamed name=some b):∃ ev,w.cell? ⟨b,0,none⟩=some ev/\(ev = .nilIface\/∃ te pe,ev = .iface te pe):=(h b hb).1
def aDH(s:ByteArray):Option (Int⊕Int):=if s.size<=1000000000000 then some (match Lib.atoiAll s.data.toList with
 | .ok v=>.inl v
 | .range=>.inr (Lib.atoiSat s.data.toList)
 | _=>.inr 0) else none
theorem aPJ(s:ByteArray):cX Proofs.Tryz.prog 87 [.t (.str s)] [] [] (aDH s) (sel (fun (y:Int)=>.tup [.t (.int .i64 y),.lit .nilIface]) (fun (y:Int)=>.tup [.t (.int .i64 y),.ifx])) (sel (fun _=>[]) (fun _=>[])):=by
 refine⟨bP Proofs.Tryz.func87 (by kernel_rfl),fun y hy=>?_⟩;unfold aDH at hy;split at hy
 case isFalse=>cases hy
 rename_i hs0;cases hy;intro F g w vs hs hv hH hF hgl;have hvs:=hv1 hs hv (u:=.string s) (fun v h=>h.inv_str);subst hvs;obtain⟨hsy,hra⟩:=hgl.err rfl;cases hr:Lib.atoiAll s.data.toList with
 | ok v=>
  refine(Proofs.Tryz.strconv_Atoi_ok s (by omega) v hr w).mono ?_;rintro e w' ⟨rfl,hW⟩;have hb:RowKit.Below w.heap.size w w':=by
   rcases hW with rfl | ⟨t,rfl⟩
   ·exact RowKit.Below.refl _ _
   ·exact Lib.bytesWorld_below _ _ _
  refine⟨_,_,[],F,g,rfl,⟨rfl,rfl⟩,?_,mP hH hF hb.os hb.tape hb.output hb.size (fun q hq _=>hb.block q hq)⟩;refine .tup (by rfl) fun j x v hx hv=>?_
  match j,hx,hv with
  | 0,hx,hv=>simp at hx hv; subst hx hv; exact .t (.int _ _)
  | 1,hx,hv=>simp at hx hv; subst hx hv; exact .lit rfl
  | j+2,hx,hv=>simp at hx
 | range=>
  obtain⟨ev,h1,h2⟩:=aAF hra (b:=2) (by kernel_rfl);refine(Proofs.Tryz.strconv_Atoi_range s (by omega) hr ev w h1 h2).mono ?_;rintro e w' ⟨N,rfl,_,_,hb⟩;refine⟨_,_,[],F,g,rfl,⟨rfl,rfl⟩,?_,mP hH hF hb.os hb.tape hb.output hb.size (fun q hq _=>hb.block q hq)⟩;refine .tup (by rfl) fun j x v hx hv=>?_
  match j,hx,hv with
  | 0,hx,hv=>simp at hx hv; subst hx hv; exact .t (.int _ _)
  | 1,hx,hv=>simp at hx hv; subst hx hv; exact .ifx
  | j+2,hx,hv=>simp at hx
 | _=>
  obtain⟨ev,h1,h2⟩:=aAF hsy (b:=1) (by kernel_rfl);refine(Proofs.Tryz.strconv_Atoi_syntax s (by omega) (hr.trans (by rfl)) ev w h1 h2).mono ?_;rintro e w' ⟨N,rfl,_,_,hb⟩;refine⟨_,_,[],F,g,rfl,⟨rfl,rfl⟩,?_,mP hH hF hb.os hb.tape hb.output hb.size (fun q hq _=>hb.block q hq)⟩;refine .tup (by rfl) fun j x v hx hv=>?_
  match j,hx,hv with
  | 0,hx,hv=>simp at hx hv; subst hx hv; exact .t (.int _ _)
  | 1,hx,hv=>simp at hx hv; subst hx hv; exact .ifx
  | j+2,hx,hv=>simp at hx
end Go.PL
namespace Go.PL
open Go Go.Proofs IntKind
set_option linter.unusedVariables false
set_option maxRecDepth 20000
abbrev tI (x:Int):PV:=.t (.int .i64 x)
abbrev tB (x:Bool):PV:=.t (.bool x)
abbrev bN (x:aG):bC:=.box ((aL x).map .t)
noncomputable section
def Fl(a0:List Int)(a1:List Int):Int->TP ((Int)⊕((Unit)⊕Bool))
 | v1=>.ite 4 (decide (v1<a0.length)) (.dg 2 (0<=v1/\v1<a0.length) <| .dg 6 (0<=v1/\v1<a1.length) <| .dr 0 0 [] [0,1,5,11,12,13,14] <| .ite 0 ((a0.getD v1.toNat default) != (a1.getD v1.toNat default)) (.ret 1 (.inr (.inr false))) (.ret 3 (.inl (i64.wrap (v1+1))))) (.ret 0 (.inr (.inl ())))
def aQL(a0:List Int)(a1:List Int):TP Bool:=.ite 6 ((a0.length:Int) != (a1.length:Int)) (.ret 1 false) (.lp 1 (fun v1=>⟨[(0,.t (eL aQ a0)),(1,.t (eL aQ a1)),(5,tI v1)],[]⟩) (fun _=>⟨[],[]⟩) 0 0 (Fl a0 a1) fun _=>.ret 1 true)
def aPY(a0:List Int)(a1:List Int):=(aQL a0 a1).den
theorem vP(a0:List Int)(a1:List Int):Con Tryz.prog 52 [.t (eL aQ a0),.t (eL aQ a1)] (aPY a0 a1) tB:=con Tryz.func52 aX (aQL a0 a1)
abbrev R80:={f:aE->Option Int // ∀ a:aE,Con Tryz.prog 71 [.t (aT a)] (f a) tI}
def wJ(rec:R80)(a0:aE):(Int×Int)->TP ((Int×Int)⊕((Int)⊕Int))
 | (v1,v2)=>.ite 5 (decide (v2<a0.Args.length)) (.grd 5 (0<=v2/\v2<a0.Args.length) <| .ca 1 (rec.2 (a0.Args.getD v2.toNat default)) fun r4=>.ret 5 (.inl (if r4>v1 then r4 else v1,i64.wrap (v2+1)))) (.ret 0 (.inr (.inl v1)))
def T80(rec:R80)(a0:aE):TP Int:=.lp 4 (fun (v1,v2)=>⟨[(1,.ptr 1 0),(3,tI v1),(4,tI v2)],[(1,.box ((aN a0).map .t))]⟩) (fun b3=>⟨[(3,tI b3)],[]⟩) 0 (0,0) (wJ rec a0) fun b3=>.ret 3 (i64.wrap (b3+1))
theorem Md(rec:R80)(a0:aE):Con Tryz.prog 71 [.t (aT a0)] (T80 rec a0).den tI:=con Tryz.func71 aX (T80 rec a0)
def H80(a:aE):Option Int:=kB (C:=fun (a:aE) (x:Option Int)=>Con Tryz.prog 71 [.t (aT a)] x tI) (fun a=>⟨bP Tryz.func71 (by kernel_rfl),fun _ h=>nomatch h⟩) (fun rec a=>T80 rec a) (fun rec a=>Md rec a) a
theorem aQN(a:aE):Con Tryz.prog 71 [.t (aT a)] (H80 a) tI:=fB (C:=fun (a:aE) (x:Option Int)=>Con Tryz.prog 71 [.t (aT a)] x tI) _ _ _ a
def G80(a0:aE):Option Int:=H80 a0
theorem Dy(a0:aE):Con Tryz.prog 71 [.t (aT a0)] (G80 a0) tI:=aQN a0
abbrev aNP:={f:aE->Option aE // ∀ a:aE,Con Tryz.prog 166 [.t (aT a)] (f a) (fun (y:aE)=>.t (aT y))}
def Sn(rec:aNP)(a0:aE):((List aE)×Int)->TP (((List aE)×Int)⊕((List aE)⊕aE))
 | (v1,v2)=>.ite 5 (decide (v2<a0.Args.length)) (.dg 5 (0<=v2/\v2<a0.Args.length) <| .dc 7 [.t (aT (a0.Args.getD v2.toNat default))] (rec.2 (a0.Args.getD v2.toNat default)) fun r4=>.dg 9 ((v1.length+1)*56<=140737488355328) <| .dr 0 0 [(28,true,[9]),(1,false,[]),(2,false,[]),(3,false,[11]),(10303,false,[9])] [1,2,3,4,12,13,14,15,16] <| .cv 0 [.apl 28 aN v1 [r4]] <| .cv 3 [.rn 28 10303] <| .ret 0 (.inl (v1++[r4],i64.wrap (v2+1)))) (.ret 0 (.inr (.inl v1)))
def aIY(rec:aNP)(a0:aE):TP aE:=.cv 12 [.thc 3 3 10303 49 4 (eF aN ([]:List aE))] <| .lp 0 (fun (v1,v2)=>⟨[(1,.ptr 1 0),(2,.ptr 2 0),(3,.ptr 3 0),(4,tI v2)],[(1,.box ((aN a0).map .t)),(2,.box [tI 0,tI 0,.t (.str (⟨#[]⟩)),.nil]),(3,.box [tI a0.Op,tI a0.N,.t (.str (a0.S)),.own 10303]),(10303,.arr 49 4 (v1.length) (eF aN v1))]⟩) (fun b3=>⟨[(2,.ptr 2 0),(3,.ptr 3 0)],[(2,.box [tI 0,tI 0,.t (.str (⟨#[]⟩)),.nil]),(3,.box [tI a0.Op,tI a0.N,.t (.str (a0.S)),.own 10303]),(10303,.arr 49 4 (b3.length) (eF aN b3))]⟩) 0 (([]:List aE),0) (Sn rec a0) fun b3=>.cv 0 [.fr 10303 (.lz (.exprs b3))] <| .ret 2 (aE.mk a0.Op a0.N a0.S b3)
theorem aFL(rec:aNP)(a0:aE):Con Tryz.prog 166 [.t (aT a0)] (aIY rec a0).den (fun (y:aE)=>.t (aT y)):=con Tryz.func166 aX (aIY rec a0)
def aQG(a:aE):Option aE:=kB (C:=fun (a:aE) (x:Option aE)=>Con Tryz.prog 166 [.t (aT a)] x (fun (y:aE)=>.t (aT y))) (fun a=>⟨bP Tryz.func166 (by kernel_rfl),fun _ h=>nomatch h⟩) (fun rec a=>aIY rec a) (fun rec a=>aFL rec a) a
theorem aFI(a:aE):Con Tryz.prog 166 [.t (aT a)] (aQG a) (fun (y:aE)=>.t (aT y)):=fB (C:=fun (a:aE) (x:Option aE)=>Con Tryz.prog 166 [.t (aT a)] x (fun (y:aE)=>.t (aT y))) _ _ _ a
def aMA(a0:aE):Option aE:=aQG a0
theorem aKP(a0:aE):Con Tryz.prog 166 [.t (aT a0)] (aMA a0) (fun y=>.t (aT y)):=aFI a0
abbrev aOF:={f:(aE×Int×(List aE))->Option (aE×Bool) // ∀ a:aE×Int×(List aE),Con Tryz.prog 152 [.t (aT a.1),tI a.2.1,.t (.lz (.exprs (a.2.2)))] (f a) (fun (y:aE×Bool)=>.tup [.t (aT y.1),tB y.2])}
def Er(rec:aOF)(a0:aE)(a1:Int)(a2:List aE):((List aE)×Int)->TP (((List aE)×Int)⊕((List aE)⊕(aE×Bool)))
 | (v3,v4)=>.ite 5 (decide (v4<a0.Args.length)) (.grd 4 (0<=v4/\v4<a0.Args.length) <| .ca 3 (rec.2 (a0.Args.getD v4.toNat default,a1,a2)) fun r6=>.ite 8 (!r6.2) (.cv 3 [.bx 6 [.int .i64 0,.int .i64 0,.str (⟨#[]⟩),.lz (.exprs ([]:List aE))]] <| .ret 0 (.inr (.inr ((aE.mk 0 0 (⟨#[]⟩) ([]:List aE)),false)))) (.bs 3 false aN [r6.1] <| .cv 0 [.sl 64 (.lz (.exprs [r6.1]))] <| .grd 1 ((v3.length+[r6.1].length)*56<=140737488355328) <| .cv 0 [.ap 65 aN v3 [r6.1]] <| .cv 5 [.rn 65 10803] <| .ret 0 (.inl (v3++[r6.1],i64.wrap (v4+1))))) (.ret 0 (.inr (.inl v3)))
def aDT(rec:aOF)(a0:aE)(a1:Int)(a2:List aE):TP (aE×Bool):=.ite 7 (a0.Op==a1) (.jn 4 0 (fun j1=>⟨[(2,.t (.lz (.exprs a2))),(3,.ptr 3 0),(6,.ptr 6 0),(25,tB j1)],[(3,.box ((aN a0).map .t)),(6,.box [tI 0,tI 0,.t (.str (⟨#[]⟩)),.nil])]⟩) (.ite 0 (decide (a0.N<0)) (.ret 6 true) (.ret 6 (decide (a0.N>=(a2.length:Int))))) fun j1=>.ite 0 j1 (.cv 3 [.bx 6 [.int .i64 0,.int .i64 0,.str (⟨#[]⟩),.lz (.exprs ([]:List aE))]] <| .ret 0 ((aE.mk 0 0 (⟨#[]⟩) ([]:List aE)),false)) (.grd 4 (0<=a0.N/\a0.N<a2.length) <| .ca 1 (aKP (a2.getD (a0.N).toNat default)) fun r2=>.ret 2 (r2,true))) (.cv 10 [.thc 8 3 10803 49 4 (eF aN ([]:List aE))] <| .lp 0 (fun (v3,v4)=>⟨[(1,tI a1),(2,.t (.lz (.exprs a2))),(3,.ptr 3 0),(6,.ptr 6 0),(8,.ptr 8 0),(9,tI v4)],[(3,.box ((aN a0).map .t)),(6,.box [tI 0,tI 0,.t (.str (⟨#[]⟩)),.nil]),(8,.box [tI a0.Op,tI a0.N,.t (.str (a0.S)),.own 10803]),(10803,.arr 49 4 (v3.length) (eF aN v3))]⟩) (fun b5=>⟨[(6,.ptr 6 0),(8,.ptr 8 0)],[(6,.box [tI 0,tI 0,.t (.str (⟨#[]⟩)),.nil]),(8,.box [tI a0.Op,tI a0.N,.t (.str (a0.S)),.own 10803]),(10803,.arr 49 4 (b5.length) (eF aN b5))]⟩) 0 (([]:List aE),0) (Er rec a0 a1 a2) fun b5=>.cv 0 [.fr 10803 (.lz (.exprs b5))] <| .ret 3 ((aE.mk a0.Op a0.N a0.S b5),true))
theorem aGO(rec:aOF)(a0:aE)(a1:Int)(a2:List aE):Con Tryz.prog 152 [.t (aT a0),tI a1,.t (.lz (.exprs a2))] (aDT rec a0 a1 a2).den (fun (y:aE×Bool)=>.tup [.t (aT y.1),tB y.2]):=con Tryz.func152 aX (aDT rec a0 a1 a2)
def aOC(a:aE×Int×(List aE)):Option (aE×Bool):=kB (C:=fun (a:aE×Int×(List aE)) (x:Option (aE×Bool))=>Con Tryz.prog 152 [.t (aT a.1),tI a.2.1,.t (.lz (.exprs (a.2.2)))] x (fun (y:aE×Bool)=>.tup [.t (aT y.1),tB y.2])) (fun a=>⟨bP Tryz.func152 (by kernel_rfl),fun _ h=>nomatch h⟩) (fun rec a=>aDT rec a.1 a.2.1 a.2.2) (fun rec a=>aGO rec a.1 a.2.1 a.2.2) a
theorem aJP(a:aE×Int×(List aE)):Con Tryz.prog 152 [.t (aT a.1),tI a.2.1,.t (.lz (.exprs (a.2.2)))] (aOC a) (fun (y:aE×Bool)=>.tup [.t (aT y.1),tB y.2]):=fB (C:=fun (a:aE×Int×(List aE)) (x:Option (aE×Bool))=>Con Tryz.prog 152 [.t (aT a.1),tI a.2.1,.t (.lz (.exprs (a.2.2)))] x (fun (y:aE×Bool)=>.tup [.t (aT y.1),tB y.2])) _ _ _ a
def aOW(a0:aE)(a1:Int)(a2:List aE):Option (aE×Bool):=aOC (a0,a1,a2)
theorem aIE(a0:aE)(a1:Int)(a2:List aE):Con Tryz.prog 152 [.t (aT a0),tI a1,.t (.lz (.exprs a2))] (aOW a0 a1 a2) (fun y=>.tup [.t (aT y.1),tB y.2]):=aJP (a0,a1,a2)
abbrev R79:={f:aE->Option Int // ∀ a:aE,Con Tryz.prog 70 [.t (aT a)] (f a) tI}
def Lv(rec:R79)(a0:aE):(Int×Int)->TP ((Int×Int)⊕((Int)⊕Int))
 | (v1,v2)=>.ite 5 (decide (v2<a0.Args.length)) (.grd 5 (0<=v2/\v2<a0.Args.length) <| .ca 1 (rec.2 (a0.Args.getD v2.toNat default)) fun r4=>.ret 5 (.inl (i64.wrap (v1+r4),i64.wrap (v2+1)))) (.ret 0 (.inr (.inl v1)))
def T79(rec:R79)(a0:aE):TP Int:=.lp 4 (fun (v1,v2)=>⟨[(1,.ptr 1 0),(3,tI v1),(4,tI v2)],[(1,.box ((aN a0).map .t))]⟩) (fun b3=>⟨[(3,tI b3)],[]⟩) 0 (1,0) (Lv rec a0) fun b3=>.ret 2 b3
theorem aDD(rec:R79)(a0:aE):Con Tryz.prog 70 [.t (aT a0)] (T79 rec a0).den tI:=con Tryz.func70 aX (T79 rec a0)
def H79(a:aE):Option Int:=kB (C:=fun (a:aE) (x:Option Int)=>Con Tryz.prog 70 [.t (aT a)] x tI) (fun a=>⟨bP Tryz.func70 (by kernel_rfl),fun _ h=>nomatch h⟩) (fun rec a=>T79 rec a) (fun rec a=>aDD rec a) a
theorem aOQ(a:aE):Con Tryz.prog 70 [.t (aT a)] (H79 a) tI:=fB (C:=fun (a:aE) (x:Option Int)=>Con Tryz.prog 70 [.t (aT a)] x tI) _ _ _ a
def G79(a0:aE):Option Int:=H79 a0
theorem Ev(a0:aE):Con Tryz.prog 70 [.t (aT a0)] (G79 a0) tI:=aOQ a0
abbrev Nh:={f:(aE×(List aE)×(List Bool))->Option (aE×Bool) // ∀ a:aE×(List aE)×(List Bool),cX Tryz.prog 133 [.t (aT a.1),.own 30000,.own 30001] [(30000,.arr 49 4 (a.2.1.length) (eF aN a.2.1)),(30001,.arr 4 1 (a.2.2.length) (eF eW a.2.2))] [30000,30001] (f a) (fun (y:aE×Bool)=>.tup [.t (aT y.1),tB y.2]) (fun (y:aE×Bool)=>[(30000,.arr 49 4 (a.2.1.length) (eF aN a.2.1)),(30001,.arr 4 1 (a.2.2.length) (eF eW a.2.2))])}
def tJ(rec:Nh)(a0:aE)(qul:List aE)(qum:List Bool):((List aE)×Int)->TP (((List aE)×Int)⊕((List aE)⊕(aE×Bool)))
 | (v1,v2)=>.ite 5 (decide (v2<a0.Args.length)) (.grd 4 (0<=v2/\v2<a0.Args.length) <| .ch 3 [] (rec.2 (a0.Args.getD v2.toNat default,qul,qum)) fun r4=>.ite 8 (!r4.2) (.cv 3 [.bx 6 [.int .i64 0,.int .i64 0,.str (⟨#[]⟩),.lz (.exprs ([]:List aE))]] <| .ret 0 (.inr (.inr ((aE.mk 0 0 (⟨#[]⟩) ([]:List aE)),false)))) (.bs 3 false aN [r4.1] <| .cv 0 [.sl 43 (.lz (.exprs [r4.1]))] <| .grd 1 ((v1.length+[r4.1].length)*56<=140737488355328) <| .cv 0 [.ap 44 aN v1 [r4.1]] <| .cv 5 [.rn 44 10803] <| .ret 0 (.inl (v1++[r4.1],i64.wrap (v2+1))))) (.ret 0 (.inr (.inl v1)))
def Fc(rec:Nh)(a0:aE)(qul:List aE)(qum:List Bool):TP (aE×Bool):=.cv 13 [.thc 8 3 10803 49 4 (eF aN ([]:List aE))] <| .lp 0 (fun (v1,v2)=>⟨[(1,.own 30000),(2,.own 30001),(3,.ptr 3 0),(6,.ptr 6 0),(8,.ptr 8 0),(9,tI v2)],[(3,.box ((aN a0).map .t)),(6,.box [tI 0,tI 0,.t (.str (⟨#[]⟩)),.nil]),(8,.box [tI a0.Op,tI a0.N,.t (.str (a0.S)),.own 10803]),(10803,.arr 49 4 (v1.length) (eF aN v1)),(30000,.arr 49 4 (qul.length) (eF aN qul)),(30001,.arr 4 1 (qum.length) (eF eW qum))]⟩) (fun b3=>⟨[(1,.own 30000),(2,.own 30001),(3,.ptr 3 0),(6,.ptr 6 0),(8,.ptr 8 0)],[(3,.box ((aN a0).map .t)),(6,.box [tI 0,tI 0,.t (.str (⟨#[]⟩)),.nil]),(8,.box [tI a0.Op,tI a0.N,.t (.str (a0.S)),.own 10803]),(10803,.arr 49 4 (b3.length) (eF aN b3)),(30000,.arr 49 4 (qul.length) (eF aN qul)),(30001,.arr 4 1 (qum.length) (eF eW qum))]⟩) 0 (([]:List aE),0) (tJ rec a0 qul qum) fun b3=>.jn 4 0 (fun (j5,j6)=>⟨[(1,.own 30000),(2,.own 30001),(3,.ptr 3 0),(6,.ptr 6 0),(8,.ptr 8 0),(60,tB j6)],[(3,.box ((aN a0).map .t)),(6,.box [tI 0,tI 0,.t (.str (⟨#[]⟩)),.nil]),(8,.box [tI a0.Op,tI a0.N,.t (.str (a0.S)),.own 10803]),(10803,.arr 49 4 (j5.length) (eF aN j5)),(30000,.arr 49 4 (qul.length) (eF aN qul)),(30001,.arr 4 1 (qum.length) (eF eW qum))]⟩) (.ite 0 (a0.Op==22) (.ite 5 (decide (a0.N>=0)) (.ret 6 (b3,decide (a0.N<qul.length))) (.ret 6 (b3,false))) (.ret 11 (b3,false))) fun (j5,j6)=>.pc 0 0 (fun ((j7,j8,j9,j10):Int×Int×ByteArray×(List aE))=>⟨[(6,.ptr 6 0),(8,.ptr 8 0)],[(6,.box [tI 0,tI 0,.t (.str (⟨#[]⟩)),.nil]),(8,.box [tI j7,tI j8,.t (.str j9),.t (.lz (.exprs j10))]),(30000,.arr 49 4 (qul.length) (eF aN qul)),(30001,.arr 4 1 (qum.length) (eF eW qum))]⟩) (.ite 0 j6 (.grd 4 (0<=a0.N/\a0.N<qum.length) <| .grd 1 ((a0.N).toNat<qum.length) <| .ite 1 (!(qum.getD (a0.N).toNat default)) (.cv 3 [.bx 6 [.int .i64 0,.int .i64 0,.str (⟨#[]⟩),.lz (.exprs ([]:List aE))]] <| .ret 0 (.inr ((aE.mk 0 0 (⟨#[]⟩) ([]:List aE)),false))) (.cv 0 [.fr 10803 (.lz (.exprs j5))] <| .dg 3 (0<=a0.N/\a0.N<qul.length) <| .dg 4 ((a0.N).toNat<qul.length) <| .dc 7 [.t (aT (qul.getD (a0.N).toNat default)),tI 4,.t (.lz (.exprs j5))] (aIE (qul.getD (a0.N).toNat default) 4 j5) fun r11=>.dr 0 0 [(3,false,[]),(6,false,[]),(8,false,[11]),(30000,false,[]),(30001,false,[])] [1,2,3,6,8,60,61,62,63,64,65,66] <| .ret 0 (.inl (r11.1.Op,r11.1.N,r11.1.S,r11.1.Args)))) (.cv 0 [.fr 10803 (.lz (.exprs j5))] <| .ret 0 (.inl (a0.Op,a0.N,a0.S,j5)))) fun (j7,j8,j9,j10)=>.ca 1 (Ev (aE.mk j7 j8 j9 j10)) fun r12=>.ite 1 (decide (r12>1000)) (.cv 3 [.bx 6 [.int .i64 0,.int .i64 0,.str (⟨#[]⟩),.lz (.exprs ([]:List aE))]] <| .ret 0 ((aE.mk 0 0 (⟨#[]⟩) ([]:List aE)),false)) (.ret 3 ((aE.mk j7 j8 j9 j10),true))
theorem Sz(rec:Nh)(a0:aE)(qul:List aE)(qum:List Bool):cX Tryz.prog 133 [.t (aT a0),.own 30000,.own 30001] [(30000,.arr 49 4 (qul.length) (eF aN qul)),(30001,.arr 4 1 (qum.length) (eF eW qum))] [30000,30001] (Fc rec a0 qul qum).den (fun (y:aE×Bool)=>.tup [.t (aT y.1),tB y.2]) (fun (y:aE×Bool)=>[(30000,.arr 49 4 (qul.length) (eF aN qul)),(30001,.arr 4 1 (qum.length) (eF eW qum))]):=fU Tryz.func133 aX (Fc rec a0 qul qum)
def Ln(a:aE×(List aE)×(List Bool)):Option (aE×Bool):=kB (C:=fun (a:aE×(List aE)×(List Bool)) (x:Option (aE×Bool))=>cX Tryz.prog 133 [.t (aT a.1),.own 30000,.own 30001] [(30000,.arr 49 4 (a.2.1.length) (eF aN a.2.1)),(30001,.arr 4 1 (a.2.2.length) (eF eW a.2.2))] [30000,30001] x (fun (y:aE×Bool)=>.tup [.t (aT y.1),tB y.2]) (fun (y:aE×Bool)=>[(30000,.arr 49 4 (a.2.1.length) (eF aN a.2.1)),(30001,.arr 4 1 (a.2.2.length) (eF eW a.2.2))])) (fun a=>⟨bP Tryz.func133 (by kernel_rfl),fun _ h=>nomatch h⟩) (fun rec a=>Fc rec a.1 a.2.1 a.2.2) (fun rec a=>Sz rec a.1 a.2.1 a.2.2) a
theorem Vd(a:aE×(List aE)×(List Bool)):cX Tryz.prog 133 [.t (aT a.1),.own 30000,.own 30001] [(30000,.arr 49 4 (a.2.1.length) (eF aN a.2.1)),(30001,.arr 4 1 (a.2.2.length) (eF eW a.2.2))] [30000,30001] (Ln a) (fun (y:aE×Bool)=>.tup [.t (aT y.1),tB y.2]) (fun (y:aE×Bool)=>[(30000,.arr 49 4 (a.2.1.length) (eF aN a.2.1)),(30001,.arr 4 1 (a.2.2.length) (eF eW a.2.2))]):=fB (C:=fun (a:aE×(List aE)×(List Bool)) (x:Option (aE×Bool))=>cX Tryz.prog 133 [.t (aT a.1),.own 30000,.own 30001] [(30000,.arr 49 4 (a.2.1.length) (eF aN a.2.1)),(30001,.arr 4 1 (a.2.2.length) (eF eW a.2.2))] [30000,30001] x (fun (y:aE×Bool)=>.tup [.t (aT y.1),tB y.2]) (fun (y:aE×Bool)=>[(30000,.arr 49 4 (a.2.1.length) (eF aN a.2.1)),(30001,.arr 4 1 (a.2.2.length) (eF eW a.2.2))])) _ _ _ a
def Jk(a0:aE)(qul:List aE)(qum:List Bool):Option (aE×Bool):=Ln (a0,qul,qum)
theorem As(a0:aE)(qul:List aE)(qum:List Bool):cX Tryz.prog 133 [.t (aT a0),.own 30000,.own 30001] [(30000,.arr 49 4 (qul.length) (eF aN qul)),(30001,.arr 4 1 (qum.length) (eF eW qum))] [30000,30001] (Jk a0 qul qum) (fun y=>.tup [.t (aT y.1),tB y.2]) (fun y=>[(30000,.arr 49 4 (qul.length) (eF aN qul)),(30001,.arr 4 1 (qum.length) (eF eW qum))]):=Vd (a0,qul,qum)
def Qf(a0:List aO):((List aE)×(List Bool)×Int)->TP (((List aE)×(List Bool)×Int)⊕(((List aE)×(List Bool))⊕(aE×Bool)))
 | (v1,v2,v3)=>.ite 4 (decide (v3<a0.length)) (.grd 3 (0<=v3/\v3<a0.length) <| .cv 4 [.rn 6 30000] <| .cv 0 [.rn 7 30001] <| .ch 0 [] (As ((a0.getD v3.toNat default).Body) v1 v2) fun r6=>.bs 8 true aN [r6.1] <| .grd 1 ((v1.length+[r6.1].length)*56<=140737488355328) <| .cv 0 [.ap 33 aN v1 [r6.1]] <| .bs 3 true eW [r6.2] <| .grd 1 ((v2.length+[r6.2].length)*1<=140737488355328) <| .cv 0 [.ap 37 eW v2 [r6.2]] <| .cv 4 [.rn 33 6,.rn 37 7] <| .ret 0 (.inl (v1++[r6.1],v2++[r6.2],i64.wrap (v3+1)))) (.ret 0 (.inr (.inl (v1,v2))))
def aMB(a0:List aO)(a1:aE):TP (aE×Bool):=.cv 6 [.th 6 6 49 4 (eF aN ([]:List aE)),.th 7 7 4 1 (eF eW ([]:List Bool))] <| .lp 0 (fun (v1,v2,v3)=>⟨[(0,.t (eL aJ a0)),(3,.ptr 3 0),(4,.ptr 4 0),(6,.own 6),(7,.own 7),(8,tI v3)],[(3,.box ((aN a1).map .t)),(4,.box [tI 0,tI 0,.t (.str (⟨#[]⟩)),.nil]),(6,.arr 49 4 (v1.length) (eF aN v1)),(7,.arr 4 1 (v2.length) (eF eW v2))]⟩) (fun (b4,b5)=>⟨[(3,.ptr 3 0),(4,.ptr 4 0),(6,.own 6),(7,.own 7)],[(3,.box ((aN a1).map .t)),(4,.box [tI 0,tI 0,.t (.str (⟨#[]⟩)),.nil]),(6,.arr 49 4 (b4.length) (eF aN b4)),(7,.arr 4 1 (b5.length) (eF eW b5))]⟩) 0 (([]:List aE),([]:List Bool),0) (Qf a0) fun (b4,b5)=>.cv 3 [.rn 6 30000] <| .cv 0 [.rn 7 30001] <| .ch 0 [] (As a1 b4 b5) fun r7=>.jn 9 0 (fun j8=>⟨[(4,.ptr 4 0),(11,.ptr 11 0),(51,tB j8)],[(4,.box [tI 0,tI 0,.t (.str (⟨#[]⟩)),.nil]),(11,.box ((aN (r7.1)).map .t))]⟩) (.ite 0 (!r7.2) (.ret 4 true) (.ca 1 (Dy r7.1) fun r9=>.ret 2 (decide (r9>12)))) fun j8=>.ite 0 j8 (.cv 3 [.bx 4 [.int .i64 0,.int .i64 0,.str (⟨#[]⟩),.lz (.exprs ([]:List aE))]] <| .ret 0 ((aE.mk 0 0 (⟨#[]⟩) ([]:List aE)),false)) (.ret 3 (r7.1,true))
def aPE(a0:List aO)(a1:aE):=(aMB a0 a1).den
theorem Rx(a0:List aO)(a1:aE):Con Tryz.prog 115 [.t (eL aJ a0),.t (aT a1)] (aPE a0 a1) (fun y=>.tup [.t (aT y.1),tB y.2]):=con Tryz.func115 aX (aMB a0 a1)
abbrev aQT:={f:(aE×aE)->Option Bool // ∀ a:aE×aE,Con Tryz.prog 116 [.t (aT a.1),.t (aT a.2)] (f a) tB}
def vR(rec:aQT)(a0:aE)(a1:aE):Int->TP ((Int)⊕((Unit)⊕Bool))
 | v2=>.ite 5 (decide (v2<a0.Args.length)) (.dg 3 (0<=v2/\v2<a0.Args.length) <| .dg 8 (0<=v2/\v2<a1.Args.length) <| .dc 10 [.t (aT (a0.Args.getD v2.toNat default)),.t (aT (a1.Args.getD v2.toNat default))] (rec.2 (a0.Args.getD v2.toNat default,a1.Args.getD v2.toNat default)) fun r3=>.dr 0 0 [(2,false,[]),(3,false,[])] [2,3,5,34,35,36,37,38] <| .ite 0 (!r3) (.ret 1 (.inr (.inr false))) (.ret 3 (.inl (i64.wrap (v2+1))))) (.ret 0 (.inr (.inl ())))
def aEE(rec:aQT)(a0:aE)(a1:aE):TP Bool:=.jn 9 0 (fun j1=>⟨[(2,.ptr 2 0),(3,.ptr 3 0),(33,tB j1)],[(2,.box ((aN a0).map .t)),(3,.box ((aN a1).map .t))]⟩) (.ite 0 (a0.Op != a1.Op) (.ret 22 true) (.ite 7 (a0.N != a1.N) (.ret 15 true) (.ite 7 (!((a0.S:ByteArray).toList==(a1.S:ByteArray).toList)) (.ret 8 true) (.ret 8 ((a0.Args.length:Int) != (a1.Args.length:Int)))))) fun j1=>.ite 0 j1 (.ret 1 false) (.lp 1 (fun v2=>⟨[(2,.ptr 2 0),(3,.ptr 3 0),(5,tI v2)],[(2,.box ((aN a0).map .t)),(3,.box ((aN a1).map .t))]⟩) (fun _=>⟨[],[]⟩) 0 0 (vR rec a0 a1) fun _=>.ret 1 true)
theorem aGS(rec:aQT)(a0:aE)(a1:aE):Con Tryz.prog 116 [.t (aT a0),.t (aT a1)] (aEE rec a0 a1).den tB:=con Tryz.func116 aX (aEE rec a0 a1)
def aOZ(a:aE×aE):Option Bool:=kB (C:=fun (a:aE×aE) (x:Option Bool)=>Con Tryz.prog 116 [.t (aT a.1),.t (aT a.2)] x tB) (fun a=>⟨bP Tryz.func116 (by kernel_rfl),fun _ h=>nomatch h⟩) (fun rec a=>aEE rec a.1 a.2) (fun rec a=>aGS rec a.1 a.2) a
theorem aGI(a:aE×aE):Con Tryz.prog 116 [.t (aT a.1),.t (aT a.2)] (aOZ a) tB:=fB (C:=fun (a:aE×aE) (x:Option Bool)=>Con Tryz.prog 116 [.t (aT a.1),.t (aT a.2)] x tB) _ _ _ a
def aRH(a0:aE)(a1:aE):Option Bool:=aOZ (a0,a1)
theorem aKC(a0:aE)(a1:aE):Con Tryz.prog 116 [.t (aT a0),.t (aT a1)] (aRH a0 a1) tB:=aGI (a0,a1)
def aPF(a0:aD)(a1:aE)(a2:aD)(a3:aE):TP Bool:=.ca 8 (Rx a0.Funcs a1) fun r1=>.ca 9 (Rx a2.Funcs a3) fun r2=>.jn 8 0 (fun j3=>⟨[(8,tB j3)],[]⟩) (.ite 0 (r1.2) (.ite 3 (r2.2) (.ca 2 (aKC r1.1 r2.1) fun r4=>.ret 2 r4) (.ret 5 false)) (.ret 8 false)) fun j3=>.ret 0 j3
def aPT(a0:aD)(a1:aE)(a2:aD)(a3:aE):=(aPF a0 a1 a2 a3).den
theorem Pp(a0:aD)(a1:aE)(a2:aD)(a3:aE):Con Tryz.prog 85 [.t (bJ a0),.t (aT a1),.t (bJ a2),.t (aT a3)] (aPT a0 a1 a2 a3) tB:=con Tryz.func85 aX (aPF a0 a1 a2 a3)
def vU(a0:aD)(a1:aG)(a2:aD)(a3:aG):Int->TP ((Int)⊕((Unit)⊕Bool))
 | v6=>.ite 5 (decide (v6<a1.Exprs.length)) (.dg 4 (0<=v6/\v6<a1.Exprs.length) <| .dg 10 (0<=v6/\v6<a3.Exprs.length) <| .dc 12 [.t (bJ a0),.t (aT (a1.Exprs.getD v6.toNat default)),.t (bJ a2),.t (aT (a3.Exprs.getD v6.toNat default))] (Pp a0 (a1.Exprs.getD v6.toNat default) a2 (a3.Exprs.getD v6.toNat default)) fun r7=>.dr 0 0 [(4,false,[]),(5,false,[]),(6,false,[]),(7,false,[])] [4,5,6,7,11,121,122,123,124,125] <| .ite 0 (!r7) (.ret 1 (.inr (.inr false))) (.ret 3 (.inl (i64.wrap (v6+1))))) (.ret 0 (.inr (.inl ())))
def wA(a0:aD)(a1:aG)(a2:aD)(a3:aG):Int->TP ((Int)⊕((Unit)⊕Bool))
 | v8=>.ite 5 (decide (v8<a1.Aggs.length)) (.jn 0 0 (fun j9=>⟨[(4,.ptr 4 0),(5,.ptr 5 0),(6,.ptr 6 0),(7,.ptr 7 0),(12,tI v8),(176,tB j9)],[(4,.box ((aH a0).map .t)),(5,bN a1),(6,.box ((aH a2).map .t)),(7,bN a3)]⟩) (.dg 3 (0<=v8/\v8<a1.Aggs.length) <| .dg 9 (0<=v8/\v8<a3.Aggs.length) <| .dl 13 (((a1.Aggs.getD v8.toNat default).Kind) != ((a3.Aggs.getD v8.toNat default).Kind)) (.dr 0 0 [(4,false,[]),(5,false,[]),(6,false,[]),(7,false,[])] [4,5,6,7,12,142,143,144,145,146] <| .ret 0 true) (.dg 17 (0<=v8/\v8<a1.Aggs.length) <| .dg 23 (0<=v8/\v8<a3.Aggs.length) <| .dr 0 0 [(4,false,[]),(5,false,[]),(6,false,[]),(7,false,[])] [4,5,6,7,12,142,143,144,145,146] <| .ret 0 (((a1.Aggs.getD v8.toNat default).Col) != ((a3.Aggs.getD v8.toNat default).Col)))) fun j9=>.ite 0 j9 (.ret 1 (.inr (.inr false))) (.ret 3 (.inl (i64.wrap (v8+1))))) (.ret 0 (.inr (.inl ())))
def vV(a0:aD)(a1:aG)(a2:aD)(a3:aG):Int->TP ((Int)⊕((Unit)⊕Bool))
 | v10=>.ite 5 (decide (v10<a1.Seq.length)) (.jn 0 0 (fun j11=>⟨[(4,.ptr 4 0),(5,.ptr 5 0),(6,.ptr 6 0),(7,.ptr 7 0),(13,tI v10),(214,tB j11)],[(4,.box ((aH a0).map .t)),(5,bN a1),(6,.box ((aH a2).map .t)),(7,bN a3)]⟩) (.dg 3 (0<=v10/\v10<a1.Seq.length) <| .dg 9 (0<=v10/\v10<a3.Seq.length) <| .dl 13 (((a1.Seq.getD v10.toNat default).Rep) != ((a3.Seq.getD v10.toNat default).Rep)) (.dr 0 0 [(4,false,[]),(5,false,[]),(6,false,[]),(7,false,[])] [4,5,6,7,13,177,178,179,180,181] <| .ret 0 true) (.dg 18 (0<=v10/\v10<a1.Seq.length) <| .dg 25 (0<=v10/\v10<a3.Seq.length) <| .dc 28 [.t (bJ a0),.t (aT ((a1.Seq.getD v10.toNat default).Pred)),.t (bJ a2),.t (aT ((a3.Seq.getD v10.toNat default).Pred))] (Pp a0 ((a1.Seq.getD v10.toNat default).Pred) a2 ((a3.Seq.getD v10.toNat default).Pred)) fun r12=>.dr 0 0 [(4,false,[]),(5,false,[]),(6,false,[]),(7,false,[])] [4,5,6,7,13,177,178,179,180,181] <| .ret 0 (!r12))) fun j11=>.ite 0 j11 (.ret 1 (.inr (.inr false))) (.ret 3 (.inl (i64.wrap (v10+1))))) (.ret 0 (.inr (.inl ())))
def Bx(a1:aG)(a3:aG):Int->TP ((Int)⊕((Unit)⊕Bool))
 | v13=>.ite 5 (decide (v13<a1.Cols.length)) (.dg 3 (0<=v13/\v13<a1.Cols.length) <| .dg 9 (0<=v13/\v13<a3.Cols.length) <| .dr 0 0 [(5,false,[]),(7,false,[])] [5,7,14,225,226,227,228,229] <| .ite 0 (((a1.Cols.getD v13.toNat default).Type_) != ((a3.Cols.getD v13.toNat default).Type_)) (.ret 1 (.inr (.inr false))) (.ret 3 (.inl (i64.wrap (v13+1))))) (.ret 0 (.inr (.inl ())))
def aNS(a0:aD)(a1:aG)(a2:aD)(a3:aG):TP Bool:=.jn 11 0 (fun j1=>⟨[(4,.ptr 4 0),(5,.ptr 5 0),(6,.ptr 6 0),(7,.ptr 7 0),(9,tB j1)],[(4,.box ((aH a0).map .t)),(5,bN a1),(6,.box ((aH a2).map .t)),(7,bN a3)]⟩) (.ite 0 (a1.Op==a3.Op) (.ite 7 ((a1.Source:ByteArray).toList==(a3.Source:ByteArray).toList) (.ite 7 (a1.Schema==a3.Schema) (.ite 7 (a1.Kind==a3.Kind) (.ite 7 (a1.Size==a3.Size) (.ret 7 (a1.Step==a3.Step)) (.ret 7 false)) (.ret 14 false)) (.ret 21 false)) (.ret 28 false)) (.ret 35 false)) fun j1=>.jn 6 0 (fun j2=>⟨[(4,.ptr 4 0),(5,.ptr 5 0),(6,.ptr 6 0),(7,.ptr 7 0),(9,tB j1),(10,tB j2)],[(4,.box ((aH a0).map .t)),(5,bN a1),(6,.box ((aH a2).map .t)),(7,bN a3)]⟩) (.ite 0 (a1.Before==a3.Before) (.ite 7 (a1.After==a3.After) (.ite 7 (a1.Keep==a3.Keep) (.ca 4 (vP a1.Key a3.Key) fun r3=>.ite 2 r3 (.ca 4 (vP a1.Key2 a3.Key2) fun r4=>.ret 2 r4) (.ret 7 false)) (.ret 14 false)) (.ret 21 false)) (.ret 28 false)) fun j2=>.jn 3 0 (fun j5=>⟨[(4,.ptr 4 0),(5,.ptr 5 0),(6,.ptr 6 0),(7,.ptr 7 0),(120,tB j5)],[(4,.box ((aH a0).map .t)),(5,bN a1),(6,.box ((aH a2).map .t)),(7,bN a3)]⟩) (.ite 0 (!j1) (.ret 30 true) (.ite 4 (!j2) (.ret 26 true) (.ite 9 ((a1.Exprs.length:Int) != (a3.Exprs.length:Int)) (.ret 17 true) (.ite 9 ((a1.Aggs.length:Int) != (a3.Aggs.length:Int)) (.ret 8 true) (.ret 8 ((a1.Seq.length:Int) != (a3.Seq.length:Int))))))) fun j5=>.ite 0 j5 (.ret 1 false) (.lp 1 (fun v6=>⟨[(4,.ptr 4 0),(5,.ptr 5 0),(6,.ptr 6 0),(7,.ptr 7 0),(11,tI v6)],[(4,.box ((aH a0).map .t)),(5,bN a1),(6,.box ((aH a2).map .t)),(7,bN a3)]⟩) (fun _=>⟨[(4,.ptr 4 0),(5,.ptr 5 0),(6,.ptr 6 0),(7,.ptr 7 0)],[(4,.box ((aH a0).map .t)),(5,bN a1),(6,.box ((aH a2).map .t)),(7,bN a3)]⟩) 0 0 (vU a0 a1 a2 a3) fun _=>.lp 1 (fun v8=>⟨[(4,.ptr 4 0),(5,.ptr 5 0),(6,.ptr 6 0),(7,.ptr 7 0),(12,tI v8)],[(4,.box ((aH a0).map .t)),(5,bN a1),(6,.box ((aH a2).map .t)),(7,bN a3)]⟩) (fun _=>⟨[(4,.ptr 4 0),(5,.ptr 5 0),(6,.ptr 6 0),(7,.ptr 7 0)],[(4,.box ((aH a0).map .t)),(5,bN a1),(6,.box ((aH a2).map .t)),(7,bN a3)]⟩) 2 0 (wA a0 a1 a2 a3) fun _=>.lp 1 (fun v10=>⟨[(4,.ptr 4 0),(5,.ptr 5 0),(6,.ptr 6 0),(7,.ptr 7 0),(13,tI v10)],[(4,.box ((aH a0).map .t)),(5,bN a1),(6,.box ((aH a2).map .t)),(7,bN a3)]⟩) (fun _=>⟨[(5,.ptr 5 0),(7,.ptr 7 0)],[(5,bN a1),(7,bN a3)]⟩) 4 0 (vV a0 a1 a2 a3) fun _=>.ite 3 (a1.Op != 0) (.ret 1 true) (.ite 7 ((a1.Cols.length:Int) != (a3.Cols.length:Int)) (.ret 1 false) (.lp 1 (fun v13=>⟨[(5,.ptr 5 0),(7,.ptr 7 0),(14,tI v13)],[(5,bN a1),(7,bN a3)]⟩) (fun _=>⟨[],[]⟩) 6 0 (Bx a1 a3) fun _=>.ret 1 true)))
def aLP(a0:aD)(a1:aG)(a2:aD)(a3:aG):=(aNS a0 a1 a2 a3).den
theorem aJT(a0:aD)(a1:aG)(a2:aD)(a3:aG):Con Tryz.prog 49 [.t (bJ a0),.t (cD a1),.t (bJ a2),.t (cD a3)] (aLP a0 a1 a2 a3) tB:=con Tryz.func49 aX (aNS a0 a1 a2 a3)
def Di(a0:List (List Bool))(a1:aG)(a2:aG):Int->TP ((Int)⊕((Unit)⊕Bool))
 | v1=>.ite 5 (decide (v1<a1.In.length)) (.dg 4 (0<=v1/\v1<a1.In.length) <| .dg 6 (0<=(a1.In.getD v1.toNat default)/\(a1.In.getD v1.toNat default)<a0.length) <| .dg 11 (0<=v1/\v1<a2.In.length) <| .dg 13 (0<=(a2.In.getD v1.toNat default)/\(a2.In.getD v1.toNat default)<((a0.getD (a1.In.getD v1.toNat default).toNat default).length:Int)) <| .dr 0 0 [(4,false,[]),(5,false,[])] [0,4,5,7,15,16,17,18,19] <| .ite 0 (!((a0.getD (a1.In.getD v1.toNat default).toNat default).getD (a2.In.getD v1.toNat default).toNat default)) (.ret 1 (.inr (.inr false))) (.ret 3 (.inl (i64.wrap (v1+1))))) (.ret 0 (.inr (.inl ())))
def aNX(a0:List (List Bool))(a1:aG)(a2:aG):TP Bool:=.ite 10 ((a1.In.length:Int) != (a2.In.length:Int)) (.ret 1 false) (.lp 1 (fun v1=>⟨[(0,.t (eL dV a0)),(4,.ptr 4 0),(5,.ptr 5 0),(7,tI v1)],[(4,bN a1),(5,bN a2)]⟩) (fun _=>⟨[],[]⟩) 0 0 (Di a0 a1 a2) fun _=>.ret 1 true)
def aFD(a0:List (List Bool))(a1:aG)(a2:aG):=(aNX a0 a1 a2).den
theorem Qr(a0:List (List Bool))(a1:aG)(a2:aG):Con Tryz.prog 50 [.t (eL dV a0),.t (cD a1),.t (cD a2)] (aFD a0 a1 a2) tB:=con Tryz.func50 aX (aNX a0 a1 a2)
def Rl(a0:aD)(a1:aD)(v2:Int):((List (List Bool))×Int)->TP (((List (List Bool))×Int)⊕((List (List Bool))⊕(((List (List Bool))×Int)⊕((List (List Bool))⊕(List (List Bool))))))
 | (v4,v5)=>.ite 5 (decide (v5<a1.Nodes.length)) (.jn 0 0 (fun j7=>⟨[(2,.ptr 2 0),(3,.ptr 3 0),(5,.own 5),(6,tI v2),(7,tI v5)],[(2,.box ((aH a0).map .t)),(3,.box ((aH a1).map .t)),(5,.arm 63 1 j7.length (iU fC j7) none)]⟩) (.foc 0 5 20050 ((v2).toNat) 0 fC v4 <| .dg 2 (0<=v2/\v2<v4.length) <| .dg 3 ((v2).toNat<v4.length/\v2.toNat=v2.toNat/\True) <| .dg 9 (0<=v2/\v2<a0.Nodes.length) <| .dg 15 (0<=v5/\v5<a1.Nodes.length) <| .dc 17 [.t (bJ a0),.t (cD (a0.Nodes.getD v2.toNat default)),.t (bJ a1),.t (cD (a1.Nodes.getD v5.toNat default))] (aJT a0 (a0.Nodes.getD v2.toNat default) a1 (a1.Nodes.getD v5.toNat default)) fun r8=>.dl 18 r8 (.dg 23 (0<=v2/\v2<a0.Nodes.length) <| .dg 28 (0<=v5/\v5<a1.Nodes.length) <| .dch 30 [.own 5,.t (cD (a0.Nodes.getD v2.toNat default)),.t (cD (a1.Nodes.getD v5.toNat default))] (aGC [(5,.arm 63 1 v4.length (kW (iU fC v4) ((v2).toNat) 0 (.any)) (some ((v2).toNat,0,.own 20050))),(20050,.arr 4 1 ((v4.getD v2.toNat default).length) (eF eW (v4.getD v2.toNat default)))] [5,20050] (.cons (.opn fC dV (o:=5) (xs:=v4) (i:=v2.toNat) (j:=0) (x:=v4.getD v2.toNat default) (q:=20050) (e:=63) (s:=1) (e':=4) (s':=1) (m:=(v4.getD v2.toNat default).length) (f':=eF eW (v4.getD v2.toNat default)) (by kernel_rfl) (by kernel_rfl) (by kernel_rfl) (fun _=>rfl)) (.cons (.arg (.same _)) (.cons (.arg (.same _)) (.nil)))) (fun _=>rfl) (Qr (v4.set ((v2).toNat) (v4.getD v2.toNat default)) (a0.Nodes.getD v2.toNat default) (a1.Nodes.getD v5.toNat default))) (fun _=>none) fun r9=>.dr 0 2 [(2,false,[]),(3,false,[]),(5,false,[]),(20050,false,[])] [2,3,5,6,7,22,23,24,25,26] <| .grd 1 (0<=v5/\v5<(((v4.getD v2.toNat default).length):Int)) <| .grd 1 ((v5).toNat<(v4.getD v2.toNat default).length) <| .sto 0 20050 eW (v4.getD v2.toNat default) [((v5).toNat,r9)] <| .cv 0 [.mg 5 20050,.upr 5 fC v4 ((v2).toNat) ((v4.getD v2.toNat default).set v5.toNat r9) [(0,.any),(0,.row 4 1 ((v4.getD v2.toNat default).set v5.toNat r9).length (eF eW ((v4.getD v2.toNat default).set v5.toNat r9)))]] <| .ret 0 (v4.set ((v2).toNat) ((v4.getD v2.toNat default).set v5.toNat r9))) (.dr 0 2 [(2,false,[]),(3,false,[]),(5,false,[]),(20050,false,[])] [2,3,5,6,7,22,23,24,25,26] <| .grd 1 (0<=v5/\v5<(((v4.getD v2.toNat default).length):Int)) <| .grd 1 ((v5).toNat<(v4.getD v2.toNat default).length) <| .sto 0 20050 eW (v4.getD v2.toNat default) [((v5).toNat,false)] <| .cv 0 [.mg 5 20050,.upr 5 fC v4 ((v2).toNat) ((v4.getD v2.toNat default).set v5.toNat false) [(0,.any),(0,.row 4 1 ((v4.getD v2.toNat default).set v5.toNat false).length (eF eW ((v4.getD v2.toNat default).set v5.toNat false)))]] <| .ret 0 (v4.set ((v2).toNat) ((v4.getD v2.toNat default).set v5.toNat false)))) fun j7=>.ret 3 (.inl (j7,i64.wrap (v5+1)))) (.ret 0 (.inr (.inl v4)))
def Sj(a0:aD)(a1:aD):((List (List Bool))×Int)->TP (((List (List Bool))×Int)⊕((List (List Bool))⊕(List (List Bool))))
 | (v1,v2)=>.ite 5 (decide (v2<a0.Nodes.length)) (.mks 4 eW 1 (a1.Nodes.length:Int) (a1.Nodes.length:Int) <| .cv 1 [.mg 20 19,.la 20 fC ([List.replicate (a1.Nodes.length:Int).toNat (default:Bool)]:List (List Bool))] <| .grd 1 ((v1.length+([List.replicate (a1.Nodes.length:Int).toNat (default:Bool)]:List (List Bool)).length)*24<=140737488355328) <| .cv 0 [.apr 21 fC v1 ([List.replicate (a1.Nodes.length:Int).toNat (default:Bool)]:List (List Bool))] <| .cv 2 [.rn 21 5] <| .lp 0 (fun (v4,v5)=>⟨[(2,.ptr 2 0),(3,.ptr 3 0),(5,.own 5),(6,tI v2),(7,tI v5)],[(2,.box ((aH a0).map .t)),(3,.box ((aH a1).map .t)),(5,.arm 63 1 v4.length (iU fC v4) none)]⟩) (fun b6=>⟨[(2,.ptr 2 0),(3,.ptr 3 0),(5,.own 5),(6,tI v2)],[(2,.box ((aH a0).map .t)),(3,.box ((aH a1).map .t)),(5,.arm 63 1 b6.length (iU fC b6) none)]⟩) 2 (v1++([List.replicate (a1.Nodes.length:Int).toNat (default:Bool)]:List (List Bool)),0) (Rl a0 a1 v2) fun b6=>.ret 3 (.inl (b6,i64.wrap (v2+1)))) (.ret 0 (.inr (.inl v1)))
def aRI(a0:aD)(a1:aD):TP (List (List Bool)):=.cv 5 [.tha 5 5 63 1 (iU fC ([]:List (List Bool)))] <| .lp 0 (fun (v1,v2)=>⟨[(2,.ptr 2 0),(3,.ptr 3 0),(5,.own 5),(6,tI v2)],[(2,.box ((aH a0).map .t)),(3,.box ((aH a1).map .t)),(5,.arm 63 1 v1.length (iU fC v1) none)]⟩) (fun b3=>⟨[(5,.own 5)],[(5,.arm 63 1 b3.length (iU fC b3) none)]⟩) 0 (([]:List (List Bool)),0) (Sj a0 a1) fun b3=>.cv 2 [.fza 5 fC dV b3] <| .ret 0 b3
def aQM(a0:aD)(a1:aD):=(aRI a0 a1).den
theorem Pg(a0:aD)(a1:aD):Con Tryz.prog 23 [.t (bJ a0),.t (bJ a1)] (aQM a0 a1) (fun y=>.t (eL dV y)):=con Tryz.func23 aX (aRI a0 a1)
def aOO(a0:aG):TP Bool:=.jn 6 0 (fun j1=>⟨[(2,tB j1)],[]⟩) (.ite 0 (decide (a0.Op>=4)) (.ret 5 (decide (a0.Op<=8))) (.ret 5 false)) fun j1=>.ret 0 j1
def aOL(a0:aG):=(aOO a0).den
theorem Bz(a0:aG):Con Tryz.prog 28 [.t (cD a0)] (aOL a0) tB:=con Tryz.func28 aX (aOO a0)
def aDY(a0:Int)(a1:Int)(a2:Int):TP Bool:=.jn 5 0 (fun j1=>⟨[(6,tB j1)],[]⟩) (.ite 0 (decide (a0>=a1)) (.ret 5 (decide (a0<=a2))) (.ret 5 false)) fun j1=>.ret 0 j1
def Zy(a0:Int)(a1:Int)(a2:Int):=(aDY a0 a1 a2).den
theorem jK(a0:Int)(a1:Int)(a2:Int):Con Tryz.prog 69 [tI a0,tI a1,tI a2] (Zy a0 a1 a2) tB:=con Tryz.func69 aX (aDY a0 a1 a2)
def T83(a0:aG):TP Bool:=.ite 6 (a0.Op==4) (.ca 2 (jK a0.Size 1 10000) fun r1=>.ite 1 (!r1) (.ret 1 false) (.ite 4 (a0.Kind==0) (.ret 1 true) (.ite 2 (a0.Kind==1) (.ite 3 (decide (a0.Step<1)) (.ret 1 false) (.grd 5 (a0.Step≠0) <| .ret 2 ((Int.tmod a0.Size a0.Step)==0))) (.ite 2 (a0.Kind==2) (.ca 4 (jK a0.Step 1 a0.Size) fun r2=>.ret 1 r2) (.ret 1 false))))) (.ite 2 (a0.Op==5) (.ca 2 (jK a0.Size 1 10000) fun r3=>.jn 1 0 (fun j4=>⟨[(2,tB j4)],[]⟩) (.ite 0 r3 (.ca 2 (jK a0.Keep 1 100) fun r5=>.ret 2 r5) (.ret 5 false)) fun j4=>.ret 0 j4) (.ite 2 (a0.Op==6) (.ca 2 (jK a0.Before 0 10000) fun r6=>.jn 1 0 (fun j7=>⟨[(2,tB j7)],[]⟩) (.ite 0 r6 (.ca 2 (jK a0.After 0 10000) fun r8=>.ret 2 r8) (.ret 5 false)) fun j7=>.ret 0 j7) (.ite 2 (a0.Op==7) (.ca 2 (jK a0.Keep 1 10000) fun r9=>.ret 1 r9) (.ite 2 (a0.Op==8) (.ca 2 (jK a0.Size 1 10000) fun r10=>.jn 1 0 (fun j11=>⟨[(2,tB j11)],[]⟩) (.ite 0 r10 (.ca 3 (jK (a0.Seq.length:Int) 1 8) fun r12=>.ret 2 r12) (.ret 6 false)) fun j11=>.ret 0 j11) (.ca 2 (jK a0.Op 0 8) fun r13=>.ret 1 r13)))))
def G83(a0:aG):=(T83 a0).den
theorem aCM(a0:aG):Con Tryz.prog 43 [.t (cD a0)] (G83 a0) tB:=con Tryz.func43 aX (T83 a0)
def T44(a0:aG):TP (Int×Int):=.ca 4 (aCM a0) fun r1=>.ite 1 (!r1) (.ret 2 (0,0)) (.ite 4 (a0.Op==4) (.ite 3 (a0.Kind==2) (.dr 0 0 [(1,false,[])] [0,1,4,5,6,7,8,9,10,11,12,13] <| .ret 0 (i64.wrap (a0.Size-1),i64.wrap (a0.Step-1))) (.dr 0 0 [(1,false,[])] [0,1,4,5,6,7,8,9,10,11,12,13] <| .ret 0 (i64.wrap (a0.Size-1),i64.wrap (a0.Size-1)))) (.ite 2 (a0.Op==5) (.dr 0 0 [(1,false,[])] [0,1,4,5,6,7,8,9,10,26,27] <| .ret 0 (i64.wrap (a0.Size-1),i64.wrap (a0.Size-1))) (.ite 2 (a0.Op==6) (.ret 7 (if a0.After>a0.Before then a0.After else a0.Before,0)) (.ite 2 (a0.Op==7) (.ret 5 (i64.wrap (a0.Keep-1),0)) (.ite 2 (a0.Op==8) (.ret 5 (i64.wrap (a0.Size-1),0)) (.ret 2 (0,0)))))))
def G44(a0:aG):=(T44 a0).den
theorem aBL(a0:aG):Con Tryz.prog 51 [.t (cD a0)] (G44 a0) (fun y=>.tup [tI y.1,tI y.2]):=con Tryz.func51 aX (T44 a0)
def aNC(a0:List (List Bool))(a1:aG)(a2:aG):TP Bool:=.ca 4 (aBL a1) fun r1=>.ca 6 (aBL a2) fun r2=>.ca 6 (Bz a1) fun r3=>.jn 1 0 (fun j4=>⟨[(6,tB j4)],[]⟩) (.ite 0 r3 (.ite 7 (a1.Op==a2.Op) (.ca 4 (vP a1.Key a2.Key) fun r5=>.ite 2 r5 (.ca 4 (vP a1.Key2 a2.Key2) fun r6=>.ite 2 r6 (.ite 5 (r1.1==r2.1) (.ca 3 (Qr a0 a1 a2) fun r7=>.ret 2 r7) (.ret 6 false)) (.ret 11 false)) (.ret 18 false)) (.ret 25 false)) (.ret 32 false)) fun j4=>.ret 0 j4
def aPB(a0:List (List Bool))(a1:aG)(a2:aG):=(aNC a0 a1 a2).den
theorem Ro(a0:List (List Bool))(a1:aG)(a2:aG):Con Tryz.prog 24 [.t (eL dV a0),.t (cD a1),.t (cD a2)] (aPB a0 a1 a2) tB:=con Tryz.func24 aX (aNC a0 a1 a2)
def Cr(a0:aD)(a1:aD)(a2:List aV):Int->TP ((Int)⊕((Unit)⊕Int))
 | v1=>.ite 4 (decide (v1<a2.length)) (.grd 3 (0<=v1/\v1<a2.length) <| .jn 8 0 (fun j2=>⟨[(2,.t (eL aW a2)),(3,.ptr 3 0),(4,.ptr 4 0),(7,tI v1),(69,tB j2)],[(3,.box ((aH a0).map .t)),(4,.box ((aH a1).map .t))]⟩) (.ite 0 (((a2.getD v1.toNat default).New) != v1) (.ret 37 true) (.ite 5 (decide (((a2.getD v1.toNat default).Why)<0)) (.ret 32 true) (.ite 5 (decide (((a2.getD v1.toNat default).Why)>=3)) (.ret 27 true) (.ite 4 (((a2.getD v1.toNat default).Why)==2) (.ite 6 (((a2.getD v1.toNat default).Old) != (-1)) (.ret 17 true) (.ite 4 (((a2.getD v1.toNat default).Why) != 2) (.ite 4 (decide (((a2.getD v1.toNat default).Old)<0)) (.ret 9 true) (.ret 9 (decide (((a2.getD v1.toNat default).Old)>=(a0.Nodes.length:Int))))) (.ret 13 false))) (.ite 10 (((a2.getD v1.toNat default).Why) != 2) (.ite 4 (decide (((a2.getD v1.toNat default).Old)<0)) (.ret 9 true) (.ret 9 (decide (((a2.getD v1.toNat default).Old)>=(a0.Nodes.length:Int))))) (.ret 13 false)))))) fun j2=>.ite 0 j2 (.ret 1 (.inr (.inr 2))) (.ret 3 (.inl (i64.wrap (v1+1))))) (.ret 0 (.inr (.inl ())))
def Fh(a0:aD)(a1:aD)(a2:List aV)(r3:(List (List Bool))):Int->TP ((Int)⊕((Unit)⊕Int))
 | v4=>.ite 4 (decide (v4<a2.length)) (.grd 3 (0<=v4/\v4<a2.length) <| .jn 7 0 (fun j5=>⟨[(2,.t (eL aW a2)),(3,.ptr 3 0),(4,.ptr 4 0),(9,.t (eL dV r3)),(10,tI v4),(11,.ptr 11 0),(97,tB j5)],[(3,.box ((aH a0).map .t)),(4,.box ((aH a1).map .t)),(11,.box ((aW (a2.getD v4.toNat default)).map .t))]⟩) (.ite 0 (((a2.getD v4.toNat default).Why)==0) (.grd 5 (0<=(if ((a2.getD v4.toNat default).Old)>(0:Int) then ((a2.getD v4.toNat default).Old) else (0:Int))/\(if ((a2.getD v4.toNat default).Old)>(0:Int) then ((a2.getD v4.toNat default).Old) else (0:Int))<r3.length) <| .grd 3 (0<=v4/\v4<((r3.getD (if ((a2.getD v4.toNat default).Old)>(0:Int) then ((a2.getD v4.toNat default).Old) else (0:Int)).toNat default).length:Int)) <| .ret 3 (!((r3.getD (if ((a2.getD v4.toNat default).Old)>(0:Int) then ((a2.getD v4.toNat default).Old) else (0:Int)).toNat default).getD v4.toNat default))) (.ret 11 false)) fun j5=>.ite 0 j5 (.ret 1 (.inr (.inr 26))) (.jn 0 0 (fun j6=>⟨[(2,.t (eL aW a2)),(3,.ptr 3 0),(4,.ptr 4 0),(9,.t (eL dV r3)),(10,tI v4),(117,tB j6)],[(3,.box ((aH a0).map .t)),(4,.box ((aH a1).map .t))]⟩) (.dl 3 (((a2.getD v4.toNat default).Why)==1) (.dg 10 (0<=(if ((a2.getD v4.toNat default).Old)>(0:Int) then ((a2.getD v4.toNat default).Old) else (0:Int))/\(if ((a2.getD v4.toNat default).Old)>(0:Int) then ((a2.getD v4.toNat default).Old) else (0:Int))<a0.Nodes.length) <| .dg 15 (0<=v4/\v4<a1.Nodes.length) <| .dc 17 [.t (eL dV r3),.t (cD (a0.Nodes.getD (if ((a2.getD v4.toNat default).Old)>(0:Int) then ((a2.getD v4.toNat default).Old) else (0:Int)).toNat default)),.t (cD (a1.Nodes.getD v4.toNat default))] (Ro r3 (a0.Nodes.getD (if ((a2.getD v4.toNat default).Old)>(0:Int) then ((a2.getD v4.toNat default).Old) else (0:Int)).toNat default) (a1.Nodes.getD v4.toNat default)) fun r7=>.dr 0 0 [(3,false,[]),(4,false,[]),(11,false,[])] [2,3,4,9,10,11,97] <| .ret 0 (!r7)) (.dr 0 0 [(3,false,[]),(4,false,[]),(11,false,[])] [2,3,4,9,10,11,97] <| .ret 0 false)) fun j6=>.ite 0 j6 (.ret 1 (.inr (.inr 26))) (.ret 3 (.inl (i64.wrap (v4+1)))))) (.ret 0 (.inr (.inl ())))
def aQC(a0:aD)(a1:aD)(a2:List aV):TP Int:=.ite 9 ((a2.length:Int) != (a1.Nodes.length:Int)) (.ret 1 2) (.lp 1 (fun v1=>⟨[(2,.t (eL aW a2)),(3,.ptr 3 0),(4,.ptr 4 0),(7,tI v1)],[(3,.box ((aH a0).map .t)),(4,.box ((aH a1).map .t))]⟩) (fun _=>⟨[(2,.t (eL aW a2)),(3,.ptr 3 0),(4,.ptr 4 0)],[(3,.box ((aH a0).map .t)),(4,.box ((aH a1).map .t))]⟩) 0 0 (Cr a0 a1 a2) fun _=>.ca 2 (Pg a0 a1) fun r3=>.lp 2 (fun v4=>⟨[(2,.t (eL aW a2)),(3,.ptr 3 0),(4,.ptr 4 0),(9,.t (eL dV r3)),(10,tI v4)],[(3,.box ((aH a0).map .t)),(4,.box ((aH a1).map .t))]⟩) (fun _=>⟨[],[]⟩) 2 0 (Fh a0 a1 a2 r3) fun _=>.ret 1 0)
def aMR(a0:aD)(a1:aD)(a2:List aV):=(aQC a0 a1 a2).den
theorem Oz(a0:aD)(a1:aD)(a2:List aV):Con Tryz.prog 10 [.t (bJ a0),.t (bJ a1),.t (eL aW a2)] (aMR a0 a1 a2) tI:=con Tryz.func10 aX (aQC a0 a1 a2)
def aMN(a0:aG):TP Bool:=.jn 6 0 (fun j1=>⟨[(2,tB j1)],[]⟩) (.ite 0 (decide (a0.Op>=4)) (.ret 5 (decide (a0.Op<=8))) (.ret 5 false)) fun j1=>.ret 0 j1
def aOR(a0:aG):=(aMN a0).den
theorem Ck(a0:aG):Con Tryz.prog 27 [.t (cD a0)] (aOR a0) tB:=con Tryz.func27 aX (aMN a0)
def Ns(a0:aV)(qu0:Int):TP Bool:=.jn 7 0 (fun j1=>⟨[(3,tB j1)],[(30000,.box (([.int .i64 qu0]).map .t))]⟩) (.ite 0 (a0.New==qu0) (.ret 5 (a0.Why != 2)) (.ret 5 false)) fun j1=>.ret 0 j1
def Zq(a0:aV)(qu0:Int):=(Ns a0 qu0).den
theorem Uz(a0:aV)(qu0:Int):cX Tryz.prog 26 [.t (aJX a0),.ptr 30000 0] [(30000,.box (([.int .i64 qu0]).map .t))] [30000] (Zq a0 qu0) tB (fun y=>[(30000,.box (([.int .i64 qu0]).map .t))]):=fU Tryz.func26 aX (Ns a0 qu0)
def Bl(a0:List aV)(qu0:Int):Int->TP ((Int)⊕((Unit)⊕Int))
 | v1=>.ite 1 (decide (v1<a0.length)) (.grd 6 (0<=v1/\v1<a0.length) <| .ch 1 [] (Uz (a0.getD v1.toNat default) qu0) fun r2=>.ite 0 r2 (.ret 2 (.inr (.inr v1))) (.ret 2 (.inl (i64.wrap (v1+1))))) (.ret 0 (.inr (.inl ())))
def Js(a0:List aV)(qu0:Int):TP Int:=.lp 4 (fun v1=>⟨[(0,.t (eL aW a0)),(1,.fn (.func 26) 0 [.ptr 30000 0]),(7,tI (a0.length:Int)),(8,tI v1)],[(30000,.box (([.int .i64 qu0]).map .t))]⟩) (fun _=>⟨[],[(30000,.box (([.int .i64 qu0]).map .t))]⟩) 0 0 (Bl a0 qu0) fun _=>.ret 1 (-1)
def aCO(a0:List aV)(qu0:Int):=(Js a0 qu0).den
theorem Vz(a0:List aV)(qu0:Int):cX Tryz.prog 53 [.t (eL aW a0),.fn (.func 26) 0 [.ptr 30000 0]] [(30000,.box (([.int .i64 qu0]).map .t))] [30000] (aCO a0 qu0) tI (fun y=>[(30000,.box (([.int .i64 qu0]).map .t))]):=fU Tryz.func53 aX (Js a0 qu0)
def Ku(a0:List aV)(qu0:Int):TP Bool:=.ch 3 [] (Vz a0 qu0) fun r1=>.ret 2 (decide (r1>=0))
def Mm(a0:List aV)(qu0:Int):=(Ku a0 qu0).den
theorem Te(a0:List aV)(qu0:Int):cX Tryz.prog 25 [.t (eL aW a0),.fn (.func 26) 0 [.ptr 30000 0]] [(30000,.box (([.int .i64 qu0]).map .t))] [30000] (Mm a0 qu0) tB (fun y=>[(30000,.box (([.int .i64 qu0]).map .t))]):=fU Tryz.func25 aX (Ku a0 qu0)
def So(a0:aD)(a1:List aV):((List Int)×Int)->TP (((List Int)×Int)⊕((List Int)⊕(List Int)))
 | (v1,v2)=>.ite 1 (decide (v2<a0.Nodes.length)) (.grd 2 (0<=v2/\v2<a0.Nodes.length) <| .cv 7 [.rn 6 30000] <| .ch 0 [] (Te a1 v2) fun r4=>.ca 2 (Ck (a0.Nodes.getD v2.toNat default)) fun r5=>.jn 1 0 (fun (j6,j7)=>⟨[(1,.t (eL aW a1)),(5,.own 5),(6,.ptr 30000 0),(10,.t (eL aL (a0.Nodes))),(11,tI (a0.Nodes.length:Int)),(12,tI v2),(25,tB j7)],[(5,.arr 3 1 (j6.length) (eF aQ j6)),(30000,.box (([.int .i64 v2]).map .t))]⟩) (.ite 0 r5 (.ret 3 (v1,!r4)) (.ret 3 (v1,false))) fun (j6,j7)=>.jn 0 0 (fun j8=>⟨[(1,.t (eL aW a1)),(5,.own 5),(10,.t (eL aL (a0.Nodes))),(11,tI (a0.Nodes.length:Int)),(12,tI v2)],[(5,.arr 3 1 (j8.length) (eF aQ j8))]⟩) (.ite 0 j7 (.bs 2 false aQ [v2] <| .grd 1 ((j6.length+[v2].length)*8<=140737488355328) <| .cv 0 [.ap 29 aQ j6 [v2]] <| .cv 1 [.rn 29 5] <| .ret 0 (j6++[v2])) (.ret 0 j6)) fun j8=>.ret 2 (.inl (j8,i64.wrap (v2+1)))) (.ret 0 (.inr (.inl v1)))
def aQK(a0:aD)(a1:List aV):TP (List Int):=.cv 7 [.th 5 5 3 1 (eF aQ ([]:List Int))] <| .lp 0 (fun (v1,v2)=>⟨[(1,.t (eL aW a1)),(5,.own 5),(10,.t (eL aL (a0.Nodes))),(11,tI (a0.Nodes.length:Int)),(12,tI v2)],[(5,.arr 3 1 (v1.length) (eF aQ v1))]⟩) (fun b3=>⟨[(5,.own 5)],[(5,.arr 3 1 (b3.length) (eF aQ b3))]⟩) 0 (([]:List Int),0) (So a0 a1) fun b3=>.cv 2 [.fr 5 (eL aQ b3)] <| .ret 0 b3
def aIQ(a0:aD)(a1:List aV):=(aQK a0 a1).den
theorem Bw(a0:aD)(a1:List aV):Con Tryz.prog 11 [.t (bJ a0),.t (eL aW a1)] (aIQ a0 a1) (fun y=>.t (eL aQ y)):=con Tryz.func11 aX (aQK a0 a1)
def Pb(a0:aD)(a1:List aV)(v2:Int):((List Int)×Bool×Int)->TP (((List Int)×Bool×Int)⊕(((List Int)×Bool)⊕(((List Int)×Int)⊕((List Int)⊕(List Int)))))
 | (v4,v5,v6)=>.ite 4 (decide (v6<a1.length)) (.jn 2 0 (fun (j9,j10)=>⟨[(1,.t (eL aW a1)),(2,.ptr 2 0),(5,.own 5),(6,tI v2),(7,tB j10),(8,tI v6)],[(2,.box ((aH a0).map .t)),(5,.arr 3 1 (j9.length) (eF aQ j9))]⟩) (.ite 0 v5 (.ret 17 (v4,true)) (.grd 3 (0<=v6/\v6<a1.length) <| .ite 5 (((a1.getD v6.toNat default).New)==v2) (.grd 3 (0<=v6/\v6<a1.length) <| .ret 6 (v4,((a1.getD v6.toNat default).Why) != 2)) (.ret 9 (v4,false)))) fun (j9,j10)=>.ret 3 (.inl (j9,j10,i64.wrap (v6+1)))) (.ret 0 (.inr (.inl (v4,v5))))
def Ry(a0:aD)(a1:List aV):((List Int)×Int)->TP (((List Int)×Int)⊕((List Int)⊕(List Int)))
 | (v1,v2)=>.ite 5 (decide (v2<a0.Nodes.length)) (.lp 2 (fun (v4,v5,v6)=>⟨[(1,.t (eL aW a1)),(2,.ptr 2 0),(5,.own 5),(6,tI v2),(7,tB v5),(8,tI v6)],[(2,.box ((aH a0).map .t)),(5,.arr 3 1 (v4.length) (eF aQ v4))]⟩) (fun (b7,b8)=>⟨[(1,.t (eL aW a1)),(2,.ptr 2 0),(5,.own 5),(6,tI v2),(7,tB b8)],[(2,.box ((aH a0).map .t)),(5,.arr 3 1 (b7.length) (eF aQ b7))]⟩) 2 (v1,false,0) (Pb a0 a1 v2) fun (b7,b8)=>.grd 4 (0<=v2/\v2<a0.Nodes.length) <| .ca 1 (Bz (a0.Nodes.getD v2.toNat default)) fun r11=>.jn 1 0 (fun (j12,j13)=>⟨[(1,.t (eL aW a1)),(2,.ptr 2 0),(5,.own 5),(6,tI v2),(49,tB j13)],[(2,.box ((aH a0).map .t)),(5,.arr 3 1 (j12.length) (eF aQ j12))]⟩) (.ite 0 r11 (.ret 3 (b7,!b8)) (.ret 3 (b7,false))) fun (j12,j13)=>.jn 0 0 (fun j14=>⟨[(1,.t (eL aW a1)),(2,.ptr 2 0),(5,.own 5),(6,tI v2)],[(2,.box ((aH a0).map .t)),(5,.arr 3 1 (j14.length) (eF aQ j14))]⟩) (.ite 0 j13 (.bs 2 false aQ [v2] <| .grd 1 ((j12.length+[v2].length)*8<=140737488355328) <| .cv 0 [.ap 53 aQ j12 [v2]] <| .cv 1 [.rn 53 5] <| .ret 0 (j12++[v2])) (.ret 0 j12)) fun j14=>.ret 3 (.inl (j14,i64.wrap (v2+1)))) (.ret 0 (.inr (.inl v1)))
def aOK(a0:aD)(a1:List aV):TP (List Int):=.cv 4 [.th 5 5 3 1 (eF aQ ([]:List Int))] <| .lp 0 (fun (v1,v2)=>⟨[(1,.t (eL aW a1)),(2,.ptr 2 0),(5,.own 5),(6,tI v2)],[(2,.box ((aH a0).map .t)),(5,.arr 3 1 (v1.length) (eF aQ v1))]⟩) (fun b3=>⟨[(5,.own 5)],[(5,.arr 3 1 (b3.length) (eF aQ b3))]⟩) 0 (([]:List Int),0) (Ry a0 a1) fun b3=>.cv 2 [.fr 5 (eL aQ b3)] <| .ret 0 b3
def aQR(a0:aD)(a1:List aV):=(aOK a0 a1).den
theorem Qo(a0:aD)(a1:List aV):Con Tryz.prog 12 [.t (bJ a0),.t (eL aW a1)] (aQR a0 a1) (fun y=>.t (eL aQ y)):=con Tryz.func12 aX (aOK a0 a1)
def T51(a0:Int):TP ByteArray:=.ca 2 (Eg a0) fun r1=>.grd 1 (((r1.size+((⟨#[59]⟩):ByteArray).size:Nat):Int)<=9223372036854775807) <| .ret 1 (r1++((⟨#[59]⟩):ByteArray))
def G51(a0:Int):=(T51 a0).den
theorem Wj(a0:Int):Con Tryz.prog 34 [tI a0] (G51 a0) (fun y=>.t (.str y)):=con Tryz.func34 aX (T51 a0)
def aPM(a0:Int):TP ByteArray:=.ite 3 (decide (a0<0)) (.ret 1 (⟨#[]⟩)) (.ca 1 (Wj a0) fun r1=>.ret 1 r1)
def aMJ(a0:Int):=(aPM a0).den
theorem aJZ(a0:Int):Con Tryz.prog 35 [tI a0] (aMJ a0) (fun y=>.t (.str y)):=con Tryz.func35 aX (aPM a0)
def T52(a0:ByteArray):TP ByteArray:=.ca 3 (Eg ((a0:ByteArray).size:Int)) fun r1=>.grd 1 (((r1.size+((⟨#[58]⟩):ByteArray).size:Nat):Int)<=9223372036854775807) <| .grd 2 (((((r1++((⟨#[58]⟩):ByteArray)):ByteArray).size+a0.size:Nat):Int)<=9223372036854775807) <| .grd 1 (((((((r1++((⟨#[58]⟩):ByteArray)):ByteArray)++a0):ByteArray).size+((⟨#[44]⟩):ByteArray).size:Nat):Int)<=9223372036854775807) <| .ret 1 (((((r1++((⟨#[58]⟩):ByteArray)):ByteArray)++a0):ByteArray)++((⟨#[44]⟩):ByteArray))
def G52(a0:ByteArray):=(T52 a0).den
theorem aPK(a0:ByteArray):Con Tryz.prog 36 [.t (.str a0)] (G52 a0) (fun y=>.t (.str y)):=con Tryz.func36 aX (T52 a0)
def Ef(a0:List Int)(a1:List Int):Int->TP ((Int)⊕((Unit)⊕Bool))
 | v1=>.ite 1 (decide (v1<a0.length)) (.dg 2 (0<=v1/\v1<a0.length) <| .dg 6 (0<=v1/\v1<a1.length) <| .dr 2 0 [] [0,1,5,12,13,14,15] <| .ite 0 ((a0.getD v1.toNat default) != (a1.getD v1.toNat default)) (.ret 1 (.inr (.inr false))) (.ret 2 (.inl (i64.wrap (v1+1))))) (.ret 0 (.inr (.inl ())))
def aRB(a0:List Int)(a1:List Int):TP Bool:=.ite 6 ((a0.length:Int) != (a1.length:Int)) (.ret 1 false) (.lp 3 (fun v1=>⟨[(0,.t (eL aQ a0)),(1,.t (eL aQ a1)),(12,tI (a0.length:Int)),(13,tI v1)],[]⟩) (fun _=>⟨[],[]⟩) 0 0 (Ef a0 a1) fun _=>.ret 1 true)
def aLT(a0:List Int)(a1:List Int):=(aRB a0 a1).den
theorem vZ(a0:List Int)(a1:List Int):Con Tryz.prog 48 [.t (eL aQ a0),.t (eL aQ a1)] (aLT a0 a1) tB:=con Tryz.func48 aX (aRB a0 a1)
def aRL(a0:aG):TP Fo:=.ret 20 (Fo.mk a0.Op a0.Schema a0.Kind a0.Size a0.Step a0.Before a0.After a0.Keep)
def aSY(a0:aG):=(aRL a0).den
theorem Rc(a0:aG):Con Tryz.prog 73 [.t (cD a0)] (aSY a0) (fun y=>.t (aIR y)):=con Tryz.func73 aX (aRL a0)
abbrev aMK:={f:aE->Option Int // ∀ a:aE,Con Tryz.prog 132 [.t (aT a)] (f a) tI}
def Fs(rec:aMK)(a0:aE):(Int×Int)->TP ((Int×Int)⊕((Int)⊕Int))
 | (v1,v2)=>.ite 1 (decide (v2<a0.Args.length)) (.grd 1 (0<=v2/\v2<a0.Args.length) <| .ca 5 (rec.2 (a0.Args.getD v2.toNat default)) fun r4=>.ret 4 (.inl (if r4>v1 then r4 else v1,i64.wrap (v2+1)))) (.ret 0 (.inr (.inl v1)))
def aGY(rec:aMK)(a0:aE):TP Int:=.lp 7 (fun (v1,v2)=>⟨[(3,tI v1),(7,.t (.lz (.exprs (a0.Args)))),(8,tI (a0.Args.length:Int)),(9,tI v2)],[]⟩) (fun b3=>⟨[(3,tI b3)],[]⟩) 0 (0,0) (Fs rec a0) fun b3=>.ret 3 (i64.wrap (b3+1))
theorem aHK(rec:aMK)(a0:aE):Con Tryz.prog 132 [.t (aT a0)] (aGY rec a0).den tI:=con Tryz.func132 aX (aGY rec a0)
def aON(a:aE):Option Int:=kB (C:=fun (a:aE) (x:Option Int)=>Con Tryz.prog 132 [.t (aT a)] x tI) (fun a=>⟨bP Tryz.func132 (by kernel_rfl),fun _ h=>nomatch h⟩) (fun rec a=>aGY rec a) (fun rec a=>aHK rec a) a
theorem aHQ(a:aE):Con Tryz.prog 132 [.t (aT a)] (aON a) tI:=fB (C:=fun (a:aE) (x:Option Int)=>Con Tryz.prog 132 [.t (aT a)] x tI) _ _ _ a
def aNI(a0:aE):Option Int:=aON a0
theorem aIC(a0:aE):Con Tryz.prog 132 [.t (aT a0)] (aNI a0) tI:=aHQ a0
abbrev aOB:={f:aE->Option aE // ∀ a:aE,Con Tryz.prog 165 [.t (aT a)] (f a) (fun (y:aE)=>.t (aT y))}
def Pz(rec:aOB)(a0:aE):((List aE)×Int)->TP (((List aE)×Int)⊕((List aE)⊕aE))
 | (v1,v2)=>.ite 1 (decide (v2<a0.Args.length)) (.grd 1 (0<=v2/\v2<a0.Args.length) <| .dc 3 [.t (aT (a0.Args.getD v2.toNat default))] (rec.2 (a0.Args.getD v2.toNat default)) fun r4=>.dg 5 ((v1.length+1)*56<=140737488355328) <| .dr 3 0 [(25,true,[5]),(2,false,[]),(3,false,[7]),(5,false,[]),(10303,false,[5])] [2,3,5,14,15,16,17,18,19] <| .cv 0 [.apl 25 aN v1 [r4]] <| .cv 2 [.rn 25 10303] <| .ret 0 (.inl (v1++[r4],i64.wrap (v2+1)))) (.ret 0 (.inr (.inl v1)))
def aIS(rec:aOB)(a0:aE):TP aE:=.cv 15 [.thc 3 3 10303 49 4 (eF aN ([]:List aE))] <| .lp 0 (fun (v1,v2)=>⟨[(2,.ptr 2 0),(3,.ptr 3 0),(14,.t (.lz (.exprs (a0.Args)))),(15,tI (a0.Args.length:Int)),(16,tI v2)],[(2,.box [tI 0,tI 0,.t (.str (⟨#[]⟩)),.nil]),(3,.box [tI a0.Op,tI a0.N,.t (.str (a0.S)),.own 10303]),(10303,.arr 49 4 (v1.length) (eF aN v1))]⟩) (fun b3=>⟨[(2,.ptr 2 0),(3,.ptr 3 0)],[(2,.box [tI 0,tI 0,.t (.str (⟨#[]⟩)),.nil]),(3,.box [tI a0.Op,tI a0.N,.t (.str (a0.S)),.own 10303]),(10303,.arr 49 4 (b3.length) (eF aN b3))]⟩) 0 (([]:List aE),0) (Pz rec a0) fun b3=>.cv 0 [.fr 10303 (.lz (.exprs b3))] <| .ret 2 (aE.mk a0.Op a0.N a0.S b3)
theorem aJY(rec:aOB)(a0:aE):Con Tryz.prog 165 [.t (aT a0)] (aIS rec a0).den (fun (y:aE)=>.t (aT y)):=con Tryz.func165 aX (aIS rec a0)
def aMG(a:aE):Option aE:=kB (C:=fun (a:aE) (x:Option aE)=>Con Tryz.prog 165 [.t (aT a)] x (fun (y:aE)=>.t (aT y))) (fun a=>⟨bP Tryz.func165 (by kernel_rfl),fun _ h=>nomatch h⟩) (fun rec a=>aIS rec a) (fun rec a=>aJY rec a) a
theorem aEU(a:aE):Con Tryz.prog 165 [.t (aT a)] (aMG a) (fun (y:aE)=>.t (aT y)):=fB (C:=fun (a:aE) (x:Option aE)=>Con Tryz.prog 165 [.t (aT a)] x (fun (y:aE)=>.t (aT y))) _ _ _ a
def aLX(a0:aE):Option aE:=aMG a0
theorem aJV(a0:aE):Con Tryz.prog 165 [.t (aT a0)] (aLX a0) (fun y=>.t (aT y)):=aEU a0
abbrev aPH:={f:(aE×Int×(List aE))->Option (aE×Bool) // ∀ a:aE×Int×(List aE),Con Tryz.prog 149 [.t (aT a.1),tI a.2.1,.t (.lz (.exprs (a.2.2)))] (f a) (fun (y:aE×Bool)=>.tup [.t (aT y.1),tB y.2])}
def Dw(rec:aPH)(a0:aE)(a1:Int)(a2:List aE):((List aE)×Int)->TP (((List aE)×Int)⊕((List aE)⊕(aE×Bool)))
 | (v3,v4)=>.ite 1 (decide (v4<a0.Args.length)) (.grd 1 (0<=v4/\v4<a0.Args.length) <| .ca 6 (rec.2 (a0.Args.getD v4.toNat default,a1,a2)) fun r6=>.ite 8 (!r6.2) (.cv 3 [.bx 6 [.int .i64 0,.int .i64 0,.str (⟨#[]⟩),.lz (.exprs ([]:List aE))]] <| .ret 0 (.inr (.inr ((aE.mk 0 0 (⟨#[]⟩) ([]:List aE)),false)))) (.bs 3 false aN [r6.1] <| .cv 0 [.sl 61 (.lz (.exprs [r6.1]))] <| .grd 1 ((v3.length+[r6.1].length)*56<=140737488355328) <| .cv 0 [.ap 62 aN v3 [r6.1]] <| .cv 4 [.rn 62 10803] <| .ret 0 (.inl (v3++[r6.1],i64.wrap (v4+1))))) (.ret 0 (.inr (.inl v3)))
def aFQ(rec:aPH)(a0:aE)(a1:Int)(a2:List aE):TP (aE×Bool):=.ite 7 (a0.Op==a1) (.jn 4 0 (fun j1=>⟨[(2,.t (.lz (.exprs a2))),(3,.ptr 3 0),(6,.ptr 6 0),(26,tB j1)],[(3,.box ((aN a0).map .t)),(6,.box [tI 0,tI 0,.t (.str (⟨#[]⟩)),.nil])]⟩) (.ite 0 (decide (a0.N<0)) (.ret 6 true) (.ret 6 (decide (a0.N>=(a2.length:Int))))) fun j1=>.ite 0 j1 (.cv 3 [.bx 6 [.int .i64 0,.int .i64 0,.str (⟨#[]⟩),.lz (.exprs ([]:List aE))]] <| .ret 0 ((aE.mk 0 0 (⟨#[]⟩) ([]:List aE)),false)) (.grd 4 (0<=a0.N/\a0.N<a2.length) <| .ca 1 (aJV (a2.getD (a0.N).toNat default)) fun r2=>.ret 2 (r2,true))) (.cv 13 [.thc 8 3 10803 49 4 (eF aN ([]:List aE))] <| .lp 0 (fun (v3,v4)=>⟨[(1,tI a1),(2,.t (.lz (.exprs a2))),(6,.ptr 6 0),(8,.ptr 8 0),(42,.t (.lz (.exprs (a0.Args)))),(43,tI (a0.Args.length:Int)),(44,tI v4)],[(6,.box [tI 0,tI 0,.t (.str (⟨#[]⟩)),.nil]),(8,.box [tI a0.Op,tI a0.N,.t (.str (a0.S)),.own 10803]),(10803,.arr 49 4 (v3.length) (eF aN v3))]⟩) (fun b5=>⟨[(6,.ptr 6 0),(8,.ptr 8 0)],[(6,.box [tI 0,tI 0,.t (.str (⟨#[]⟩)),.nil]),(8,.box [tI a0.Op,tI a0.N,.t (.str (a0.S)),.own 10803]),(10803,.arr 49 4 (b5.length) (eF aN b5))]⟩) 0 (([]:List aE),0) (Dw rec a0 a1 a2) fun b5=>.cv 0 [.fr 10803 (.lz (.exprs b5))] <| .ret 3 ((aE.mk a0.Op a0.N a0.S b5),true))
theorem aFR(rec:aPH)(a0:aE)(a1:Int)(a2:List aE):Con Tryz.prog 149 [.t (aT a0),tI a1,.t (.lz (.exprs a2))] (aFQ rec a0 a1 a2).den (fun (y:aE×Bool)=>.tup [.t (aT y.1),tB y.2]):=con Tryz.func149 aX (aFQ rec a0 a1 a2)
def aMS(a:aE×Int×(List aE)):Option (aE×Bool):=kB (C:=fun (a:aE×Int×(List aE)) (x:Option (aE×Bool))=>Con Tryz.prog 149 [.t (aT a.1),tI a.2.1,.t (.lz (.exprs (a.2.2)))] x (fun (y:aE×Bool)=>.tup [.t (aT y.1),tB y.2])) (fun a=>⟨bP Tryz.func149 (by kernel_rfl),fun _ h=>nomatch h⟩) (fun rec a=>aFQ rec a.1 a.2.1 a.2.2) (fun rec a=>aFR rec a.1 a.2.1 a.2.2) a
theorem aLC(a:aE×Int×(List aE)):Con Tryz.prog 149 [.t (aT a.1),tI a.2.1,.t (.lz (.exprs (a.2.2)))] (aMS a) (fun (y:aE×Bool)=>.tup [.t (aT y.1),tB y.2]):=fB (C:=fun (a:aE×Int×(List aE)) (x:Option (aE×Bool))=>Con Tryz.prog 149 [.t (aT a.1),tI a.2.1,.t (.lz (.exprs (a.2.2)))] x (fun (y:aE×Bool)=>.tup [.t (aT y.1),tB y.2])) _ _ _ a
def aMC(a0:aE)(a1:Int)(a2:List aE):Option (aE×Bool):=aMS (a0,a1,a2)
theorem aKY(a0:aE)(a1:Int)(a2:List aE):Con Tryz.prog 149 [.t (aT a0),tI a1,.t (.lz (.exprs a2))] (aMC a0 a1 a2) (fun y=>.tup [.t (aT y.1),tB y.2]):=aLC (a0,a1,a2)
def Mo(a0:aE)(qv0:Int):TP Int:=.ret 4 (i64.wrap (qv0+1))
def Yy(a0:aE)(qv0:Int):=(Mo a0 qv0).den
theorem Vg(a0:aE)(qv0:Int):cX Tryz.prog 151 [.t (aT a0),.ptr 30001 0] [(30001,.box (([.int .i64 qv0]).map .t))] [30001] (Yy a0 qv0) (fun y=>.tup []) (fun y=>[(30001,.box (([.int .i64 y]).map .t))]):=fU Tryz.func151 aX (Mo a0 qv0)
abbrev Km:={f:(aE×Int)->Option Int // ∀ a:aE×Int,cX Tryz.prog 150 [.t (aT a.1),.fn (.func 151) 0 [.ptr 30001 0]] [(30001,.box (([.int .i64 (a.2)]).map .t))] [30001] (f a) (fun (y:Int)=>.tup []) (fun (y:Int)=>[(30001,.box (([.int .i64 y]).map .t))])}
def Aj(rec:Km)(a0:aE):(Int×Int)->TP ((Int×Int)⊕((Int)⊕Int))
 | (v2,v3)=>.ite 1 (decide (v3<a0.Args.length)) (.grd 1 (0<=v3/\v3<a0.Args.length) <| .ch 5 [] (rec.2 (a0.Args.getD v3.toNat default,v2)) fun r5=>.ret 2 (.inl (r5,i64.wrap (v3+1)))) (.ret 0 (.inr (.inl v2)))
def Cf(rec:Km)(a0:aE)(qv0:Int):TP Int:=.ch 3 [] (Vg a0 qv0) fun r1=>.lp 4 (fun (v2,v3)=>⟨[(1,.fn (.func 151) 0 [.ptr 30001 0]),(10,.t (.lz (.exprs (a0.Args)))),(11,tI (a0.Args.length:Int)),(12,tI v3)],[(30001,.box (([.int .i64 v2]).map .t))]⟩) (fun b4=>⟨[],[(30001,.box (([.int .i64 b4]).map .t))]⟩) 0 (r1,0) (Aj rec a0) fun b4=>.ret 0 b4
theorem Uu(rec:Km)(a0:aE)(qv0:Int):cX Tryz.prog 150 [.t (aT a0),.fn (.func 151) 0 [.ptr 30001 0]] [(30001,.box (([.int .i64 qv0]).map .t))] [30001] (Cf rec a0 qv0).den (fun (y:Int)=>.tup []) (fun (y:Int)=>[(30001,.box (([.int .i64 y]).map .t))]):=fU Tryz.func150 aX (Cf rec a0 qv0)
def Jv(a:aE×Int):Option Int:=kB (C:=fun (a:aE×Int) (x:Option Int)=>cX Tryz.prog 150 [.t (aT a.1),.fn (.func 151) 0 [.ptr 30001 0]] [(30001,.box (([.int .i64 (a.2)]).map .t))] [30001] x (fun (y:Int)=>.tup []) (fun (y:Int)=>[(30001,.box (([.int .i64 y]).map .t))])) (fun a=>⟨bP Tryz.func150 (by kernel_rfl),fun _ h=>nomatch h⟩) (fun rec a=>Cf rec a.1 a.2) (fun rec a=>Uu rec a.1 a.2) a
theorem Vo(a:aE×Int):cX Tryz.prog 150 [.t (aT a.1),.fn (.func 151) 0 [.ptr 30001 0]] [(30001,.box (([.int .i64 (a.2)]).map .t))] [30001] (Jv a) (fun (y:Int)=>.tup []) (fun (y:Int)=>[(30001,.box (([.int .i64 y]).map .t))]):=fB (C:=fun (a:aE×Int) (x:Option Int)=>cX Tryz.prog 150 [.t (aT a.1),.fn (.func 151) 0 [.ptr 30001 0]] [(30001,.box (([.int .i64 (a.2)]).map .t))] [30001] x (fun (y:Int)=>.tup []) (fun (y:Int)=>[(30001,.box (([.int .i64 y]).map .t))])) _ _ _ a
def Jg(a0:aE)(qv0:Int):Option Int:=Jv (a0,qv0)
theorem Ud(a0:aE)(qv0:Int):cX Tryz.prog 150 [.t (aT a0),.fn (.func 151) 0 [.ptr 30001 0]] [(30001,.box (([.int .i64 qv0]).map .t))] [30001] (Jg a0 qv0) (fun y=>.tup []) (fun y=>[(30001,.box (([.int .i64 y]).map .t))]):=Vo (a0,qv0)
abbrev Lx:={f:(aE×(List dS))->Option dS // ∀ a:aE×(List dS),cX Tryz.prog 131 [.t (aT a.1),.own 30000] [(30000,.arr 152 5 (a.2.length) (eF eZ a.2))] [30000] (f a) (fun (y:dS)=>.t (tH y)) (fun (y:dS)=>[(30000,.arr 152 5 (a.2.length) (eF eZ a.2))])}
def uG(rec:Lx)(a0:aE)(qul:List dS):((List aE)×Int)->TP (((List aE)×Int)⊕((List aE)⊕dS))
 | (v1,v2)=>.ite 1 (decide (v2<a0.Args.length)) (.grd 1 (0<=v2/\v2<a0.Args.length) <| .ch 5 [] (rec.2 (a0.Args.getD v2.toNat default,qul)) fun r4=>.ite 5 (!r4.ok_) (.ret 2 (.inr (.inr r4))) (.bs 4 false aN [r4.e_] <| .cv 0 [.sl 36 (.lz (.exprs [r4.e_]))] <| .grd 1 ((v1.length+[r4.e_].length)*56<=140737488355328) <| .cv 0 [.ap 37 aN v1 [r4.e_]] <| .cv 4 [.rn 37 10503] <| .ret 0 (.inl (v1++[r4.e_],i64.wrap (v2+1))))) (.ret 0 (.inr (.inl v1)))
def Dx(rec:Lx)(a0:aE)(qul:List dS):TP dS:=.cv 15 [.thc 5 3 10503 49 4 (eF aN ([]:List aE))] <| .lp 0 (fun (v1,v2)=>⟨[(1,.own 30000),(2,.ptr 2 0),(4,.ptr 4 0),(5,.ptr 5 0),(19,.t (.lz (.exprs (a0.Args)))),(20,tI (a0.Args.length:Int)),(21,tI v2)],[(2,.box ((aN a0).map .t)),(4,.box [tI 0,tI 0,.t (.str (⟨#[]⟩)),.nil,tB false]),(5,.box [tI a0.Op,tI a0.N,.t (.str (a0.S)),.own 10503]),(10503,.arr 49 4 (v1.length) (eF aN v1)),(30000,.arr 152 5 (qul.length) (eF eZ qul))]⟩) (fun b3=>⟨[(1,.own 30000),(2,.ptr 2 0),(4,.ptr 4 0),(5,.ptr 5 0)],[(2,.box ((aN a0).map .t)),(4,.box [tI 0,tI 0,.t (.str (⟨#[]⟩)),.nil,tB false]),(5,.box [tI a0.Op,tI a0.N,.t (.str (a0.S)),.own 10503]),(10503,.arr 49 4 (b3.length) (eF aN b3)),(30000,.arr 152 5 (qul.length) (eF eZ qul))]⟩) 0 (([]:List aE),0) (uG rec a0 qul) fun b3=>.pc 3 0 (fun ((j5,j6,j7,j8):Int×Int×ByteArray×(List aE))=>⟨[(4,.ptr 4 0),(5,.ptr 5 0)],[(4,.box [tI 0,tI 0,.t (.str (⟨#[]⟩)),.nil,tB false]),(5,.box [tI j5,tI j6,.t (.str j7),.t (.lz (.exprs j8))]),(30000,.arr 152 5 (qul.length) (eF eZ qul))]⟩) (.ite 0 (a0.Op==22) (.grd 4 (0<=a0.N/\a0.N<qul.length) <| .grd 1 ((a0.N).toNat<qul.length) <| .ite 5 (!((qul.getD (a0.N).toNat default).ok_)) (.ret 2 (.inr (qul.getD (a0.N).toNat default))) (.cv 4 [.fr 10503 (.lz (.exprs b3))] <| .ca 0 (aKY ((qul.getD (a0.N).toNat default).e_) 4 b3) fun r9=>.ret 4 (.inl (r9.1.Op,r9.1.N,r9.1.S,r9.1.Args)))) (.cv 0 [.fr 10503 (.lz (.exprs b3))] <| .ret 0 (.inl (a0.Op,a0.N,a0.S,b3)))) fun (j5,j6,j7,j8)=>.cv 4 [.rn 10 30001] <| .ch 0 [] (Ud (aE.mk j5 j6 j7 j8) 0) fun r10=>.ite 2 (decide (r10>1000)) (.cv 2 [.bx 4 [.int .i64 0,.int .i64 0,.str (⟨#[]⟩),.lz (.exprs ([]:List aE)),.bool false]] <| .ret 0 (dS.mk (aE.mk 0 0 (⟨#[]⟩) ([]:List aE)) false)) (.ret 3 (dS.mk (aE.mk j5 j6 j7 j8) true))
theorem Tx(rec:Lx)(a0:aE)(qul:List dS):cX Tryz.prog 131 [.t (aT a0),.own 30000] [(30000,.arr 152 5 (qul.length) (eF eZ qul))] [30000] (Dx rec a0 qul).den (fun (y:dS)=>.t (tH y)) (fun (y:dS)=>[(30000,.arr 152 5 (qul.length) (eF eZ qul))]):=fU Tryz.func131 aX (Dx rec a0 qul)
def Jj(a:aE×(List dS)):Option dS:=kB (C:=fun (a:aE×(List dS)) (x:Option dS)=>cX Tryz.prog 131 [.t (aT a.1),.own 30000] [(30000,.arr 152 5 (a.2.length) (eF eZ a.2))] [30000] x (fun (y:dS)=>.t (tH y)) (fun (y:dS)=>[(30000,.arr 152 5 (a.2.length) (eF eZ a.2))])) (fun a=>⟨bP Tryz.func131 (by kernel_rfl),fun _ h=>nomatch h⟩) (fun rec a=>Dx rec a.1 a.2) (fun rec a=>Tx rec a.1 a.2) a
theorem Vr(a:aE×(List dS)):cX Tryz.prog 131 [.t (aT a.1),.own 30000] [(30000,.arr 152 5 (a.2.length) (eF eZ a.2))] [30000] (Jj a) (fun (y:dS)=>.t (tH y)) (fun (y:dS)=>[(30000,.arr 152 5 (a.2.length) (eF eZ a.2))]):=fB (C:=fun (a:aE×(List dS)) (x:Option dS)=>cX Tryz.prog 131 [.t (aT a.1),.own 30000] [(30000,.arr 152 5 (a.2.length) (eF eZ a.2))] [30000] x (fun (y:dS)=>.t (tH y)) (fun (y:dS)=>[(30000,.arr 152 5 (a.2.length) (eF eZ a.2))])) _ _ _ a
def Li(a0:aE)(qul:List dS):Option dS:=Jj (a0,qul)
theorem Ba(a0:aE)(qul:List dS):cX Tryz.prog 131 [.t (aT a0),.own 30000] [(30000,.arr 152 5 (qul.length) (eF eZ qul))] [30000] (Li a0 qul) (fun y=>.t (tH y)) (fun y=>[(30000,.arr 152 5 (qul.length) (eF eZ qul))]):=Vr (a0,qul)
def Nz(a0:List aO):((List dS)×Int)->TP (((List dS)×Int)⊕((List dS)⊕(aE×Bool)))
 | (v1,v2)=>.ite 1 (decide (v2<a0.length)) (.grd 1 (0<=v2/\v2<a0.length) <| .cv 7 [.rn 6 30000] <| .ch 0 [] (Ba ((a0.getD v2.toNat default).Body) v1) fun r4=>.bs 0 true eZ [r4] <| .grd 1 ((v1.length+[r4].length)*64<=140737488355328) <| .cv 0 [.ap 22 eZ v1 [r4]] <| .cv 3 [.rn 22 6] <| .ret 0 (.inl (v1++[r4],i64.wrap (v2+1)))) (.ret 0 (.inr (.inl v1)))
def aMD(a0:List aO)(a1:aE):TP (aE×Bool):=.cv 7 [.th 6 6 152 5 (eF eZ ([]:List dS))] <| .lp 0 (fun (v1,v2)=>⟨[(3,.ptr 3 0),(4,.ptr 4 0),(6,.own 6),(10,.t (eL aJ a0)),(11,tI (a0.length:Int)),(12,tI v2)],[(3,.box ((aN a1).map .t)),(4,.box [tI 0,tI 0,.t (.str (⟨#[]⟩)),.nil]),(6,.arr 152 5 (v1.length) (eF eZ v1))]⟩) (fun b3=>⟨[(3,.ptr 3 0),(4,.ptr 4 0),(6,.own 6)],[(3,.box ((aN a1).map .t)),(4,.box [tI 0,tI 0,.t (.str (⟨#[]⟩)),.nil]),(6,.arr 152 5 (b3.length) (eF eZ b3))]⟩) 0 (([]:List dS),0) (Nz a0) fun b3=>.cv 2 [.rn 6 30000] <| .ch 0 [] (Ba a1 b3) fun r5=>.jn 6 0 (fun j6=>⟨[(4,.ptr 4 0),(9,.ptr 9 0),(35,tB j6)],[(4,.box [tI 0,tI 0,.t (.str (⟨#[]⟩)),.nil]),(9,.box ((eZ r5).map .t))]⟩) (.ite 0 (!r5.ok_) (.ret 5 true) (.ca 2 (aIC r5.e_) fun r7=>.ret 2 (decide (r7>12)))) fun j6=>.ite 0 j6 (.cv 3 [.bx 4 [.int .i64 0,.int .i64 0,.str (⟨#[]⟩),.lz (.exprs ([]:List aE))]] <| .ret 0 ((aE.mk 0 0 (⟨#[]⟩) ([]:List aE)),false)) (.ret 4 (r5.e_,true))
def aMI(a0:List aO)(a1:aE):=(aMD a0 a1).den
theorem Ql(a0:List aO)(a1:aE):Con Tryz.prog 100 [.t (eL aJ a0),.t (aT a1)] (aMI a0 a1) (fun y=>.tup [.t (aT y.1),tB y.2]):=con Tryz.func100 aX (aMD a0 a1)
abbrev Tk:={f:(aE×aE)->Option Bool // ∀ a:aE×aE,Con Tryz.prog 101 [.t (aT a.1),.t (aT a.2)] (f a) tB}
def tT(recF101:Tk)(a0:List aE)(a1:List aE):Int->TP ((Int)⊕((Unit)⊕Bool))
 | v1=>.ite 1 (decide (v1<a0.length)) (.grd 2 (0<=v1/\v1<a0.length) <| .grd 7 (0<=v1/\v1<a1.length) <| .ca 6 (recF101.2 (a0.getD v1.toNat default,a1.getD v1.toNat default)) fun r2=>.ite 1 (!r2) (.ret 1 (.inr (.inr false))) (.ret 2 (.inl (i64.wrap (v1+1))))) (.ret 0 (.inr (.inl ())))
def Kz(recF101:Tk)(a0:List aE)(a1:List aE):TP Bool:=.ite 6 ((a0.length:Int) != (a1.length:Int)) (.ret 1 false) (.lp 3 (fun v1=>⟨[(1,.t (.lz (.exprs a1))),(2,.fn (.func 101) 0 []),(15,.t (.lz (.exprs a0))),(16,tI (a0.length:Int)),(17,tI v1)],[]⟩) (fun _=>⟨[],[]⟩) 0 0 (tT recF101 a0 a1) fun _=>.ret 1 true)
def Ni(recF101:Tk)(a0:List aE)(a1:List aE):=(Kz recF101 a0 a1).den
theorem Uf(recF101:Tk)(a0:List aE)(a1:List aE):cX Tryz.prog 74 [.t (.lz (.exprs a0)),.t (.lz (.exprs a1)),.fn (.func 101) 0 []] [] [] (Ni recF101 a0 a1) tB (fun y=>[]):=fU Tryz.func74 aX (Kz recF101 a0 a1)
def aKI(rec:Tk)(a0:aE)(a1:aE):TP Bool:=.jn 9 0 (fun j1=>⟨[(4,tB j1)],[]⟩) (.ite 0 (a0.Op==a1.Op) (.ite 7 (a0.N==a1.N) (.ite 7 ((a0.S:ByteArray).toList==(a1.S:ByteArray).toList) (.ch 4 [] (Uf rec a0.Args a1.Args) fun r2=>.ret 2 r2) (.ret 7 false)) (.ret 14 false)) (.ret 21 false)) fun j1=>.ret 0 j1
theorem aFM(rec:Tk)(a0:aE)(a1:aE):Con Tryz.prog 101 [.t (aT a0),.t (aT a1)] (aKI rec a0 a1).den tB:=con Tryz.func101 aX (aKI rec a0 a1)
def aPO(a:aE×aE):Option Bool:=kB (C:=fun (a:aE×aE) (x:Option Bool)=>Con Tryz.prog 101 [.t (aT a.1),.t (aT a.2)] x tB) (fun a=>⟨bP Tryz.func101 (by kernel_rfl),fun _ h=>nomatch h⟩) (fun rec a=>aKI rec a.1 a.2) (fun rec a=>aFM rec a.1 a.2) a
theorem aKT(a:aE×aE):Con Tryz.prog 101 [.t (aT a.1),.t (aT a.2)] (aPO a) tB:=fB (C:=fun (a:aE×aE) (x:Option Bool)=>Con Tryz.prog 101 [.t (aT a.1),.t (aT a.2)] x tB) _ _ _ a
def aPN(a0:aE)(a1:aE):Option Bool:=aPO (a0,a1)
theorem aFX(a0:aE)(a1:aE):Con Tryz.prog 101 [.t (aT a0),.t (aT a1)] (aPN a0 a1) tB:=aKT (a0,a1)
def Lj(a1:aE)(a2:aE)(qu0:aD)(qu1:aD)(qum:List (List Int×Bool)):TP Bool:=.dc 6 [.t (eL aJ (qu0.Funcs)),.t (aT a1)] (Ql qu0.Funcs a1) fun r1=>.dr 3 0 [(7,true,[10,11]),(4,false,[]),(5,false,[]),(30000,false,[]),(30001,false,[])] [0,1,2,4,5,6] <| .dc 6 [.t (eL aJ (qu1.Funcs)),.t (aT a2)] (Ql qu1.Funcs a2) fun r2=>.dr 0 0 [(9,true,[10,11]),(4,false,[]),(5,false,[]),(7,false,[]),(30000,false,[]),(30001,false,[])] [0,1,2,4,5,6,7,8,11,12,13,14,15,16,17,18,19,20] <| .jn 2 0 (fun j3=>⟨[(6,tB j3)],[(30000,.box [.t (eL aJ (qu0.Funcs)),.t (eL aL (qu0.Nodes)),.t (eL aJ (qu1.Funcs)),.t (eL aL (qu1.Nodes)),.map 30001]),(30001,.mpb 2 qum)]⟩) (.ite 0 (r1.2) (.ite 3 (r2.2) (.ca 2 (aFX r1.1 r2.1) fun r4=>.ret 2 r4) (.ret 5 false)) (.ret 8 false)) fun j3=>.ret 0 j3
def Mk(a1:aE)(a2:aE)(qu0:aD)(qu1:aD)(qum:List (List Int×Bool)):=(Lj a1 a2 qu0 qu1 qum).den
theorem Bh(a1:aE)(a2:aE)(qu0:aD)(qu1:aD)(qum:List (List Int×Bool)):cX Tryz.prog 75 [.ptr 30000 0,.t (aT a1),.t (aT a2)] [(30000,.box [.t (eL aJ (qu0.Funcs)),.t (eL aL (qu0.Nodes)),.t (eL aJ (qu1.Funcs)),.t (eL aL (qu1.Nodes)),.map 30001]),(30001,.mpb 2 qum)] [30000,30001] (Mk a1 a2 qu0 qu1 qum) tB (fun y=>[(30000,.box [.t (eL aJ (qu0.Funcs)),.t (eL aL (qu0.Nodes)),.t (eL aJ (qu1.Funcs)),.t (eL aL (qu1.Nodes)),.map 30001]),(30001,.mpb 2 qum)]):=fU Tryz.func75 aX (Lj a1 a2 qu0 qu1 qum)
def tY(a0:List aE)(a1:List aE)(qu0:aD)(qu1:aD)(qum:List (List Int×Bool)):Int->TP ((Int)⊕((Unit)⊕Bool))
 | v1=>.ite 1 (decide (v1<a0.length)) (.grd 2 (0<=v1/\v1<a0.length) <| .grd 7 (0<=v1/\v1<a1.length) <| .ch 6 [] (Bh (a0.getD v1.toNat default) (a1.getD v1.toNat default) qu0 qu1 qum) fun r2=>.ite 1 (!r2) (.ret 1 (.inr (.inr false))) (.ret 2 (.inl (i64.wrap (v1+1))))) (.ret 0 (.inr (.inl ())))
def Kb(a0:List aE)(a1:List aE)(qu0:aD)(qu1:aD)(qum:List (List Int×Bool)):TP Bool:=.ite 6 ((a0.length:Int) != (a1.length:Int)) (.ret 1 false) (.lp 3 (fun v1=>⟨[(1,.t (.lz (.exprs a1))),(2,.fn (.func 75) 1 [.ptr 30000 0]),(15,.t (.lz (.exprs a0))),(16,tI (a0.length:Int)),(17,tI v1)],[(30000,.box [.t (eL aJ (qu0.Funcs)),.t (eL aL (qu0.Nodes)),.t (eL aJ (qu1.Funcs)),.t (eL aL (qu1.Nodes)),.map 30001]),(30001,.mpb 2 qum)]⟩) (fun _=>⟨[],[(30000,.box [.t (eL aJ (qu0.Funcs)),.t (eL aL (qu0.Nodes)),.t (eL aJ (qu1.Funcs)),.t (eL aL (qu1.Nodes)),.map 30001]),(30001,.mpb 2 qum)]⟩) 0 0 (tY a0 a1 qu0 qu1 qum) fun _=>.ret 1 true)
def Lo(a0:List aE)(a1:List aE)(qu0:aD)(qu1:aD)(qum:List (List Int×Bool)):=(Kb a0 a1 qu0 qu1 qum).den
theorem Tz(a0:List aE)(a1:List aE)(qu0:aD)(qu1:aD)(qum:List (List Int×Bool)):cX Tryz.prog 74 [.t (.lz (.exprs a0)),.t (.lz (.exprs a1)),.fn (.func 75) 1 [.ptr 30000 0]] [(30000,.box [.t (eL aJ (qu0.Funcs)),.t (eL aL (qu0.Nodes)),.t (eL aJ (qu1.Funcs)),.t (eL aL (qu1.Nodes)),.map 30001]),(30001,.mpb 2 qum)] [30000,30001] (Lo a0 a1 qu0 qu1 qum) tB (fun y=>[(30000,.box [.t (eL aJ (qu0.Funcs)),.t (eL aL (qu0.Nodes)),.t (eL aJ (qu1.Funcs)),.t (eL aL (qu1.Nodes)),.map 30001]),(30001,.mpb 2 qum)]):=fU Tryz.func74 aX (Kb a0 a1 qu0 qu1 qum)
def aNA(a0:fM)(a1:fM):TP Bool:=.jn 9 0 (fun j1=>⟨[(4,tB j1)],[]⟩) (.ite 0 (a0.Kind==a1.Kind) (.ret 7 (a0.Col==a1.Col)) (.ret 7 false)) fun j1=>.ret 0 j1
def aPP(a0:fM)(a1:fM):=(aNA a0 a1).den
theorem aHS(a0:fM)(a1:fM):Con Tryz.prog 77 [.t (aLJ a0),.t (aLJ a1)] (aPP a0 a1) tB:=con Tryz.func77 aX (aNA a0 a1)
def uF(a0:List fM)(a1:List fM):Int->TP ((Int)⊕((Unit)⊕Bool))
 | v1=>.ite 1 (decide (v1<a0.length)) (.grd 2 (0<=v1/\v1<a0.length) <| .grd 7 (0<=v1/\v1<a1.length) <| .ca 6 (aHS (a0.getD v1.toNat default) (a1.getD v1.toNat default)) fun r2=>.ite 1 (!r2) (.ret 1 (.inr (.inr false))) (.ret 2 (.inl (i64.wrap (v1+1))))) (.ret 0 (.inr (.inl ())))
def Jq(a0:List fM)(a1:List fM):TP Bool:=.ite 6 ((a0.length:Int) != (a1.length:Int)) (.ret 1 false) (.lp 3 (fun v1=>⟨[(1,.t (eL iY a1)),(2,.fn (.func 77) 0 []),(15,.t (eL iY a0)),(16,tI (a0.length:Int)),(17,tI v1)],[]⟩) (fun _=>⟨[],[]⟩) 0 0 (uF a0 a1) fun _=>.ret 1 true)
def Kt(a0:List fM)(a1:List fM):=(Jq a0 a1).den
theorem Uj(a0:List fM)(a1:List fM):cX Tryz.prog 76 [.t (eL iY a0),.t (eL iY a1),.fn (.func 77) 0 []] [] [] (Kt a0 a1) tB (fun y=>[]):=fU Tryz.func76 aX (Jq a0 a1)
def Kq(a0:gZ)(a1:gZ)(qu0:aD)(qu1:aD)(qum:List (List Int×Bool)):TP Bool:=.jn 9 0 (fun j1=>⟨[(5,tB j1)],[(30000,.box [.t (eL aJ (qu0.Funcs)),.t (eL aL (qu0.Nodes)),.t (eL aJ (qu1.Funcs)),.t (eL aL (qu1.Nodes)),.map 30001]),(30001,.mpb 2 qum),(30002,.box [.ptr 30000 0])]⟩) (.ite 0 (a0.Rep==a1.Rep) (.ch 5 [] (Bh a0.Pred a1.Pred qu0 qu1 qum) fun r2=>.ret 2 r2) (.ret 8 false)) fun j1=>.ret 0 j1
def Mj(a0:gZ)(a1:gZ)(qu0:aD)(qu1:aD)(qum:List (List Int×Bool)):=(Kq a0 a1 qu0 qu1 qum).den
theorem Tg(a0:gZ)(a1:gZ)(qu0:aD)(qu1:aD)(qum:List (List Int×Bool)):cX Tryz.prog 79 [.t (aLI a0),.t (aLI a1),.ptr 30002 0] [(30000,.box [.t (eL aJ (qu0.Funcs)),.t (eL aL (qu0.Nodes)),.t (eL aJ (qu1.Funcs)),.t (eL aL (qu1.Nodes)),.map 30001]),(30001,.mpb 2 qum),(30002,.box [.ptr 30000 0])] [30000,30001,30002] (Mj a0 a1 qu0 qu1 qum) tB (fun y=>[(30000,.box [.t (eL aJ (qu0.Funcs)),.t (eL aL (qu0.Nodes)),.t (eL aJ (qu1.Funcs)),.t (eL aL (qu1.Nodes)),.map 30001]),(30001,.mpb 2 qum),(30002,.box [.ptr 30000 0])]):=fU Tryz.func79 aX (Kq a0 a1 qu0 qu1 qum)
def tP(a0:List gZ)(a1:List gZ)(qu0:aD)(qu1:aD)(qum:List (List Int×Bool)):Int->TP ((Int)⊕((Unit)⊕Bool))
 | v1=>.ite 1 (decide (v1<a0.length)) (.grd 2 (0<=v1/\v1<a0.length) <| .grd 7 (0<=v1/\v1<a1.length) <| .ch 6 [] (Tg (a0.getD v1.toNat default) (a1.getD v1.toNat default) qu0 qu1 qum) fun r2=>.ite 1 (!r2) (.ret 1 (.inr (.inr false))) (.ret 2 (.inl (i64.wrap (v1+1))))) (.ret 0 (.inr (.inl ())))
def Kk(a0:List gZ)(a1:List gZ)(qu0:aD)(qu1:aD)(qum:List (List Int×Bool)):TP Bool:=.ite 6 ((a0.length:Int) != (a1.length:Int)) (.ret 1 false) (.lp 3 (fun v1=>⟨[(1,.t (eL oE a1)),(2,.fn (.func 79) 0 [.ptr 30002 0]),(15,.t (eL oE a0)),(16,tI (a0.length:Int)),(17,tI v1)],[(30000,.box [.t (eL aJ (qu0.Funcs)),.t (eL aL (qu0.Nodes)),.t (eL aJ (qu1.Funcs)),.t (eL aL (qu1.Nodes)),.map 30001]),(30001,.mpb 2 qum),(30002,.box [.ptr 30000 0])]⟩) (fun _=>⟨[],[(30000,.box [.t (eL aJ (qu0.Funcs)),.t (eL aL (qu0.Nodes)),.t (eL aJ (qu1.Funcs)),.t (eL aL (qu1.Nodes)),.map 30001]),(30001,.mpb 2 qum),(30002,.box [.ptr 30000 0])]⟩) 0 0 (tP a0 a1 qu0 qu1 qum) fun _=>.ret 1 true)
def Nv(a0:List gZ)(a1:List gZ)(qu0:aD)(qu1:aD)(qum:List (List Int×Bool)):=(Kk a0 a1 qu0 qu1 qum).den
theorem Vc(a0:List gZ)(a1:List gZ)(qu0:aD)(qu1:aD)(qum:List (List Int×Bool)):cX Tryz.prog 78 [.t (eL oE a0),.t (eL oE a1),.fn (.func 79) 0 [.ptr 30002 0]] [(30000,.box [.t (eL aJ (qu0.Funcs)),.t (eL aL (qu0.Nodes)),.t (eL aJ (qu1.Funcs)),.t (eL aL (qu1.Nodes)),.map 30001]),(30001,.mpb 2 qum),(30002,.box [.ptr 30000 0])] [30000,30001,30002] (Nv a0 a1 qu0 qu1 qum) tB (fun y=>[(30000,.box [.t (eL aJ (qu0.Funcs)),.t (eL aL (qu0.Nodes)),.t (eL aJ (qu1.Funcs)),.t (eL aL (qu1.Nodes)),.map 30001]),(30001,.mpb 2 qum),(30002,.box [.ptr 30000 0])]):=fU Tryz.func78 aX (Kk a0 a1 qu0 qu1 qum)
def aSS(a0:cU)(a1:cU):TP Bool:=.ret 9 (a0.Type_==a1.Type_)
def aTB(a0:cU)(a1:cU):=(aSS a0 a1).den
theorem aHZ(a0:cU)(a1:cU):Con Tryz.prog 81 [.t (aLL a0),.t (aLL a1)] (aTB a0 a1) tB:=con Tryz.func81 aX (aSS a0 a1)
def tG(a0:List cU)(a1:List cU):Int->TP ((Int)⊕((Unit)⊕Bool))
 | v1=>.ite 1 (decide (v1<a0.length)) (.grd 2 (0<=v1/\v1<a0.length) <| .grd 7 (0<=v1/\v1<a1.length) <| .ca 6 (aHZ (a0.getD v1.toNat default) (a1.getD v1.toNat default)) fun r2=>.ite 1 (!r2) (.ret 1 (.inr (.inr false))) (.ret 2 (.inl (i64.wrap (v1+1))))) (.ret 0 (.inr (.inl ())))
def Jf(a0:List cU)(a1:List cU):TP Bool:=.ite 6 ((a0.length:Int) != (a1.length:Int)) (.ret 1 false) (.lp 3 (fun v1=>⟨[(1,.t (eL dH a1)),(2,.fn (.func 81) 0 []),(15,.t (eL dH a0)),(16,tI (a0.length:Int)),(17,tI v1)],[]⟩) (fun _=>⟨[],[]⟩) 0 0 (tG a0 a1) fun _=>.ret 1 true)
def Ll(a0:List cU)(a1:List cU):=(Jf a0 a1).den
theorem Wh(a0:List cU)(a1:List cU):cX Tryz.prog 80 [.t (eL dH a0),.t (eL dH a1),.fn (.func 81) 0 []] [] [] (Ll a0 a1) tB (fun y=>[]):=fU Tryz.func80 aX (Jf a0 a1)
def Nk(a1:aG)(a2:aG)(qu0:aD)(qu1:aD)(qum:List (List Int×Bool)):TP Bool:=.ca 9 (vZ a1.Key a2.Key) fun r1=>.jn 1 0 (fun j2=>⟨[(3,.ptr 3 0),(4,.ptr 4 0),(5,.ptr 5 0),(7,.fn (.func 73) 0 []),(8,tB j2)],[(3,.box [.ptr 30000 0]),(4,bN a1),(5,bN a2),(30000,.box [.t (eL aJ (qu0.Funcs)),.t (eL aL (qu0.Nodes)),.t (eL aJ (qu1.Funcs)),.t (eL aL (qu1.Nodes)),.map 30001]),(30001,.mpb 2 qum)]⟩) (.ite 0 r1 (.ca 4 (vZ a1.Key2 a2.Key2) fun r3=>.ite 2 r3 (.ch 6 [] (Tz a1.Exprs a2.Exprs qu0 qu1 qum) fun r4=>.ret 2 r4) (.ret 9 false)) (.ret 16 false)) fun j2=>.ch 4 [] (Uj a1.Aggs a2.Aggs) fun r5=>.cv 6 [.rn 3 30002] <| .ch 0 [] (Vc a1.Seq a2.Seq qu0 qu1 qum) fun r6=>.jn 5 0 (fun j7=>⟨[(4,.ptr 4 0),(5,.ptr 5 0),(7,.fn (.func 73) 0 []),(8,tB j2),(9,tB r5),(10,tB r6),(11,tB j7)],[(4,bN a1),(5,bN a2),(30000,.box [.t (eL aJ (qu0.Funcs)),.t (eL aL (qu0.Nodes)),.t (eL aJ (qu1.Funcs)),.t (eL aL (qu1.Nodes)),.map 30001]),(30001,.mpb 2 qum)]⟩) (.ite 0 (a1.Op != 0) (.ret 7 true) (.ch 4 [] (Wh a1.Cols a2.Cols) fun r8=>.ret 2 r8)) fun j7=>.jn 0 0 (fun j9=>⟨[(6,tB j9)],[(30000,.box [.t (eL aJ (qu0.Funcs)),.t (eL aL (qu0.Nodes)),.t (eL aJ (qu1.Funcs)),.t (eL aL (qu1.Nodes)),.map 30001]),(30001,.mpb 2 qum)]⟩) (.dc 2 [.t (cD a1)] (Rc a1) fun r10=>.dc 5 [.t (cD a2)] (Rc a2) fun r11=>.dl 7 ([r10.e0,r10.e1,r10.e2,r10.e3,r10.e4,r10.e5,r10.e6,r10.e7]==[r11.e0,r11.e1,r11.e2,r11.e3,r11.e4,r11.e5,r11.e6,r11.e7]) (.dl 14 ((a1.Source:ByteArray).toList==(a2.Source:ByteArray).toList) (.dl 17 j2 (.dl 20 r5 (.dl 23 r6 (.dr 0 0 [(4,false,[]),(5,false,[]),(30000,false,[]),(30001,false,[])] [4,5,7,8,9,10,11] <| .ret 0 j7) (.dr 0 0 [(4,false,[]),(5,false,[]),(30000,false,[]),(30001,false,[])] [4,5,7,8,9,10,11] <| .ret 0 false)) (.dr 0 0 [(4,false,[]),(5,false,[]),(30000,false,[]),(30001,false,[])] [4,5,7,8,9,10,11] <| .ret 0 false)) (.dr 0 0 [(4,false,[]),(5,false,[]),(30000,false,[]),(30001,false,[])] [4,5,7,8,9,10,11] <| .ret 0 false)) (.dr 0 0 [(4,false,[]),(5,false,[]),(30000,false,[]),(30001,false,[])] [4,5,7,8,9,10,11] <| .ret 0 false)) (.dr 0 0 [(4,false,[]),(5,false,[]),(30000,false,[]),(30001,false,[])] [4,5,7,8,9,10,11] <| .ret 0 false)) fun j9=>.ret 0 j9
def Mw(a1:aG)(a2:aG)(qu0:aD)(qu1:aD)(qum:List (List Int×Bool)):=(Nk a1 a2 qu0 qu1 qum).den
theorem Tt(a1:aG)(a2:aG)(qu0:aD)(qu1:aD)(qum:List (List Int×Bool)):cX Tryz.prog 45 [.ptr 30000 0,.t (cD a1),.t (cD a2)] [(30000,.box [.t (eL aJ (qu0.Funcs)),.t (eL aL (qu0.Nodes)),.t (eL aJ (qu1.Funcs)),.t (eL aL (qu1.Nodes)),.map 30001]),(30001,.mpb 2 qum)] [30000,30001] (Mw a1 a2 qu0 qu1 qum) tB (fun y=>[(30000,.box [.t (eL aJ (qu0.Funcs)),.t (eL aL (qu0.Nodes)),.t (eL aJ (qu1.Funcs)),.t (eL aL (qu1.Nodes)),.map 30001]),(30001,.mpb 2 qum)]):=fU Tryz.func45 aX (Nk a1 a2 qu0 qu1 qum)
abbrev kV:={f:(Int×Int×aD×aD×(List (List Int×Bool)))->Option (Bool×(List (List Int×Bool))) // ∀ a:Int×Int×aD×aD×(List (List Int×Bool)),cX Tryz.prog 21 [.ptr 30000 0,tI a.1,tI a.2.1] [(30000,.box [.t (eL aJ (a.2.2.1.Funcs)),.t (eL aL (a.2.2.1.Nodes)),.t (eL aJ (a.2.2.2.1.Funcs)),.t (eL aL (a.2.2.2.1.Nodes)),.map 30001]),(30001,.mpb 2 (a.2.2.2.2))] [30000,30001] (f a) (fun (y:Bool×(List (List Int×Bool)))=>tB y.1) (fun (y:Bool×(List (List Int×Bool)))=>[(30000,.box [.t (eL aJ (a.2.2.1.Funcs)),.t (eL aL (a.2.2.1.Nodes)),.t (eL aJ (a.2.2.2.1.Funcs)),.t (eL aL (a.2.2.2.1.Nodes)),.map 30001]),(30001,.mpb 2 (y.2))])}
def An(recF21s0:kV)(a0:List Int)(a1:List Int)(qu0:aD)(qu1:aD):((List (List Int×Bool))×Int)->TP (((List (List Int×Bool))×Int)⊕((List (List Int×Bool))⊕(Bool×(List (List Int×Bool)))))
 | (v1,v2)=>.ite 1 (decide (v2<a0.length)) (.grd 2 (0<=v2/\v2<a0.length) <| .grd 6 (0<=v2/\v2<a1.length) <| .ch 5 [] (recF21s0.2 (a0.getD v2.toNat default,a1.getD v2.toNat default,qu0,qu1,v1)) fun r4=>.ite 1 (!r4.1) (.ret 1 (.inr (.inr (false,r4.2)))) (.ret 2 (.inl (r4.2,i64.wrap (v2+1))))) (.ret 0 (.inr (.inl v1)))
def Mg(recF21s0:kV)(a0:List Int)(a1:List Int)(qu0:aD)(qu1:aD)(qum:List (List Int×Bool)):TP (Bool×(List (List Int×Bool))):=.ite 6 ((a0.length:Int) != (a1.length:Int)) (.ret 1 (false,qum)) (.lp 3 (fun (v1,v2)=>⟨[(1,.t (eL aQ a1)),(2,.fn (.func 21) 1 [.ptr 30000 0]),(15,.t (eL aQ a0)),(16,tI (a0.length:Int)),(17,tI v2)],[(30000,.box [.t (eL aJ (qu0.Funcs)),.t (eL aL (qu0.Nodes)),.t (eL aJ (qu1.Funcs)),.t (eL aL (qu1.Nodes)),.map 30001]),(30001,.mpb 2 v1)]⟩) (fun b3=>⟨[],[(30000,.box [.t (eL aJ (qu0.Funcs)),.t (eL aL (qu0.Nodes)),.t (eL aJ (qu1.Funcs)),.t (eL aL (qu1.Nodes)),.map 30001]),(30001,.mpb 2 b3)]⟩) 0 (qum,0) (An recF21s0 a0 a1 qu0 qu1) fun b3=>.ret 1 (true,b3))
def Nj(recF21s0:kV)(a0:List Int)(a1:List Int)(qu0:aD)(qu1:aD)(qum:List (List Int×Bool)):=(Mg recF21s0 a0 a1 qu0 qu1 qum).den
theorem Ts(recF21s0:kV)(a0:List Int)(a1:List Int)(qu0:aD)(qu1:aD)(qum:List (List Int×Bool)):cX Tryz.prog 82 [.t (eL aQ a0),.t (eL aQ a1),.fn (.func 21) 1 [.ptr 30000 0]] [(30000,.box [.t (eL aJ (qu0.Funcs)),.t (eL aL (qu0.Nodes)),.t (eL aJ (qu1.Funcs)),.t (eL aL (qu1.Nodes)),.map 30001]),(30001,.mpb 2 qum)] [30000,30001] (Nj recF21s0 a0 a1 qu0 qu1 qum) (fun y=>tB y.1) (fun y=>[(30000,.box [.t (eL aJ (qu0.Funcs)),.t (eL aL (qu0.Nodes)),.t (eL aJ (qu1.Funcs)),.t (eL aL (qu1.Nodes)),.map 30001]),(30001,.mpb 2 (y.2))]):=fU Tryz.func82 aX (Mg recF21s0 a0 a1 qu0 qu1 qum)
def Ki(recF21s0:kV)(a1:aG)(a2:aG)(qu0:aD)(qu1:aD)(qum:List (List Int×Bool)):TP (Bool×(List (List Int×Bool))):=.ch 9 [] (Ts recF21s0 a1.In a2.In qu0 qu1 qum) fun r1=>.ret 1 (r1.1,r1.2)
def Jw(recF21s0:kV)(a1:aG)(a2:aG)(qu0:aD)(qu1:aD)(qum:List (List Int×Bool)):=(Ki recF21s0 a1 a2 qu0 qu1 qum).den
theorem Bi(recF21s0:kV)(a1:aG)(a2:aG)(qu0:aD)(qu1:aD)(qum:List (List Int×Bool)):cX Tryz.prog 46 [.ptr 30000 0,.t (cD a1),.t (cD a2)] [(30000,.box [.t (eL aJ (qu0.Funcs)),.t (eL aL (qu0.Nodes)),.t (eL aJ (qu1.Funcs)),.t (eL aL (qu1.Nodes)),.map 30001]),(30001,.mpb 2 qum)] [30000,30001] (Jw recF21s0 a1 a2 qu0 qu1 qum) (fun y=>tB y.1) (fun y=>[(30000,.box [.t (eL aJ (qu0.Funcs)),.t (eL aL (qu0.Nodes)),.t (eL aJ (qu1.Funcs)),.t (eL aL (qu1.Nodes)),.map 30001]),(30001,.mpb 2 (y.2))]):=fU Tryz.func46 aX (Ki recF21s0 a1 a2 qu0 qu1 qum)
def Cx(rec:kV)(a1:Int)(a2:Int)(qu0:aD)(qu1:aD)(qum:List (List Int×Bool)):TP (Bool×(List (List Int×Bool))):=.jn 16 0 (fun (j1,j2)=>⟨[(7,tB j2)],[(30000,.box [.t (eL aJ (qu0.Funcs)),.t (eL aL (qu0.Nodes)),.t (eL aJ (qu1.Funcs)),.t (eL aL (qu1.Nodes)),.map 30001]),(30001,.mpb 2 j1)]⟩) (.ite 0 (!(Gu qum [a1,a2])) (.dg 6 (0<=a1/\a1<qu0.Nodes.length) <| .dg 14 (0<=a2/\a2<qu1.Nodes.length) <| .dr 0 0 [(9,true,[16,18]),(10,true,[17,19]),(30000,false,[]),(30001,false,[])] [0,1,2,6,7,8,11,12,13,14,15,16,17,18,19,20,21,22,23] <| .ch 3 [] (Tt (qu0.Nodes.getD a1.toNat default) (qu1.Nodes.getD a2.toNat default) qu0 qu1 qum) fun r3=>.jn 1 0 (fun (j4,j5)=>⟨[(0,.ptr 30000 0),(1,tI a1),(2,tI a2),(7,tB j5)],[(30000,.box [.t (eL aJ (qu0.Funcs)),.t (eL aL (qu0.Nodes)),.t (eL aJ (qu1.Funcs)),.t (eL aL (qu1.Nodes)),.map 30001]),(30001,.mpb 2 j4)]⟩) (.ite 0 r3 (.ch 3 [] (Bi rec (qu0.Nodes.getD a1.toNat default) (qu1.Nodes.getD a2.toNat default) qu0 qu1 qum) fun r6=>.ret 2 (r6.2,r6.1)) (.ret 6 (qum,false))) fun (j4,j5)=>.ret 9 (sC j4 [a1,a2] j5,j5)) (.ret 0 (qum,Mb qum [a1,a2]))) fun (j1,j2)=>.ret 2 (j2,j1)
theorem Vm(rec:kV)(a1:Int)(a2:Int)(qu0:aD)(qu1:aD)(qum:List (List Int×Bool)):cX Tryz.prog 21 [.ptr 30000 0,tI a1,tI a2] [(30000,.box [.t (eL aJ (qu0.Funcs)),.t (eL aL (qu0.Nodes)),.t (eL aJ (qu1.Funcs)),.t (eL aL (qu1.Nodes)),.map 30001]),(30001,.mpb 2 qum)] [30000,30001] (Cx rec a1 a2 qu0 qu1 qum).den (fun (y:Bool×(List (List Int×Bool)))=>tB y.1) (fun (y:Bool×(List (List Int×Bool)))=>[(30000,.box [.t (eL aJ (qu0.Funcs)),.t (eL aL (qu0.Nodes)),.t (eL aJ (qu1.Funcs)),.t (eL aL (qu1.Nodes)),.map 30001]),(30001,.mpb 2 (y.2))]):=fU Tryz.func21 aX (Cx rec a1 a2 qu0 qu1 qum)
def Nf(a:Int×Int×aD×aD×(List (List Int×Bool))):Option (Bool×(List (List Int×Bool))):=kB (C:=fun (a:Int×Int×aD×aD×(List (List Int×Bool))) (x:Option (Bool×(List (List Int×Bool))))=>cX Tryz.prog 21 [.ptr 30000 0,tI a.1,tI a.2.1] [(30000,.box [.t (eL aJ (a.2.2.1.Funcs)),.t (eL aL (a.2.2.1.Nodes)),.t (eL aJ (a.2.2.2.1.Funcs)),.t (eL aL (a.2.2.2.1.Nodes)),.map 30001]),(30001,.mpb 2 (a.2.2.2.2))] [30000,30001] x (fun (y:Bool×(List (List Int×Bool)))=>tB y.1) (fun (y:Bool×(List (List Int×Bool)))=>[(30000,.box [.t (eL aJ (a.2.2.1.Funcs)),.t (eL aL (a.2.2.1.Nodes)),.t (eL aJ (a.2.2.2.1.Funcs)),.t (eL aL (a.2.2.2.1.Nodes)),.map 30001]),(30001,.mpb 2 (y.2))])) (fun a=>⟨bP Tryz.func21 (by kernel_rfl),fun _ h=>nomatch h⟩) (fun rec a=>Cx rec a.1 a.2.1 a.2.2.1 a.2.2.2.1 a.2.2.2.2) (fun rec a=>Vm rec a.1 a.2.1 a.2.2.1 a.2.2.2.1 a.2.2.2.2) a
theorem tV(a:Int×Int×aD×aD×(List (List Int×Bool))):cX Tryz.prog 21 [.ptr 30000 0,tI a.1,tI a.2.1] [(30000,.box [.t (eL aJ (a.2.2.1.Funcs)),.t (eL aL (a.2.2.1.Nodes)),.t (eL aJ (a.2.2.2.1.Funcs)),.t (eL aL (a.2.2.2.1.Nodes)),.map 30001]),(30001,.mpb 2 (a.2.2.2.2))] [30000,30001] (Nf a) (fun (y:Bool×(List (List Int×Bool)))=>tB y.1) (fun (y:Bool×(List (List Int×Bool)))=>[(30000,.box [.t (eL aJ (a.2.2.1.Funcs)),.t (eL aL (a.2.2.1.Nodes)),.t (eL aJ (a.2.2.2.1.Funcs)),.t (eL aL (a.2.2.2.1.Nodes)),.map 30001]),(30001,.mpb 2 (y.2))]):=fB (C:=fun (a:Int×Int×aD×aD×(List (List Int×Bool))) (x:Option (Bool×(List (List Int×Bool))))=>cX Tryz.prog 21 [.ptr 30000 0,tI a.1,tI a.2.1] [(30000,.box [.t (eL aJ (a.2.2.1.Funcs)),.t (eL aL (a.2.2.1.Nodes)),.t (eL aJ (a.2.2.2.1.Funcs)),.t (eL aL (a.2.2.2.1.Nodes)),.map 30001]),(30001,.mpb 2 (a.2.2.2.2))] [30000,30001] x (fun (y:Bool×(List (List Int×Bool)))=>tB y.1) (fun (y:Bool×(List (List Int×Bool)))=>[(30000,.box [.t (eL aJ (a.2.2.1.Funcs)),.t (eL aL (a.2.2.1.Nodes)),.t (eL aJ (a.2.2.2.1.Funcs)),.t (eL aL (a.2.2.2.1.Nodes)),.map 30001]),(30001,.mpb 2 (y.2))])) _ _ _ a
def Nl(a1:Int)(a2:Int)(qu0:aD)(qu1:aD)(qum:List (List Int×Bool)):Option (Bool×(List (List Int×Bool))):=Nf (a1,a2,qu0,qu1,qum)
theorem Ak(a1:Int)(a2:Int)(qu0:aD)(qu1:aD)(qum:List (List Int×Bool)):cX Tryz.prog 21 [.ptr 30000 0,tI a1,tI a2] [(30000,.box [.t (eL aJ (qu0.Funcs)),.t (eL aL (qu0.Nodes)),.t (eL aJ (qu1.Funcs)),.t (eL aL (qu1.Nodes)),.map 30001]),(30001,.mpb 2 qum)] [30000,30001] (Nl a1 a2 qu0 qu1 qum) (fun y=>tB y.1) (fun y=>[(30000,.box [.t (eL aJ (qu0.Funcs)),.t (eL aL (qu0.Nodes)),.t (eL aJ (qu1.Funcs)),.t (eL aL (qu1.Nodes)),.map 30001]),(30001,.mpb 2 (y.2))]):=tV (a1,a2,qu0,qu1,qum)
def T92(a0:aG):TP (Int×Int):=.ret 5 (0,0)
def G92(a0:aG):=(T92 a0).den
theorem Ml(a0:aG):Con Tryz.prog 103 [.t (cD a0)] (G92 a0) (fun y=>.tup [tI y.1,tI y.2]):=con Tryz.func103 aX (T92 a0)
def T94(a0:aG):TP (Int×Int):=.jn 7 0 (fun j1=>⟨[(1,.ptr 1 0),(11,tB j1)],[(1,bN a0)]⟩) (.ite 0 (a0.Op==4) (.ret 4 (a0.Kind==2)) (.ret 4 false)) fun j1=>.ite 0 j1 (.dr 0 0 [(1,false,[])] [1,11] <| .ret 0 (i64.wrap (a0.Size-1),i64.wrap (a0.Step-1))) (.dr 0 0 [(1,false,[])] [1,11] <| .ret 0 (i64.wrap (a0.Size-1),i64.wrap (a0.Size-1)))
def G94(a0:aG):=(T94 a0).den
theorem Xg(a0:aG):Con Tryz.prog 105 [.t (cD a0)] (G94 a0) (fun y=>.tup [tI y.1,tI y.2]):=con Tryz.func105 aX (T94 a0)
def T99(a0:aG):TP (Int×Int):=.ret 10 (if a0.After>a0.Before then a0.After else a0.Before,0)
def G99(a0:aG):=(T99 a0).den
theorem aQB(a0:aG):Con Tryz.prog 110 [.t (cD a0)] (G99 a0) (fun y=>.tup [tI y.1,tI y.2]):=con Tryz.func110 aX (T99 a0)
def aRS(a0:aG):TP (Int×Int):=.ret 8 (i64.wrap (a0.Keep-1),0)
def aUA(a0:aG):=(aRS a0).den
theorem aIG(a0:aG):Con Tryz.prog 112 [.t (cD a0)] (aUA a0) (fun y=>.tup [tI y.1,tI y.2]):=con Tryz.func112 aX (aRS a0)
def aTM(a0:aG):TP (Int×Int):=.ret 8 (i64.wrap (a0.Size-1),0)
def aTO(a0:aG):=(aTM a0).den
theorem aIF(a0:aG):Con Tryz.prog 114 [.t (cD a0)] (aTO a0) (fun y=>.tup [tI y.1,tI y.2]):=con Tryz.func114 aX (aTM a0)
def T91(a0:aG):TP Bool:=.ret 3 true
def G91(a0:aG):=(T91 a0).den
theorem Kr(a0:aG):Con Tryz.prog 102 [.t (cD a0)] (G91 a0) tB:=con Tryz.func102 aX (T91 a0)
def T97(a0:Int)(a1:Int)(a2:Int):TP Bool:=.jn 5 0 (fun j1=>⟨[(6,tB j1)],[]⟩) (.ite 0 (decide (a0>=a1)) (.ret 5 (decide (a0<=a2))) (.ret 5 false)) fun j1=>.ret 0 j1
def G97(a0:Int)(a1:Int)(a2:Int):=(T97 a0 a1 a2).den
theorem pE(a0:Int)(a1:Int)(a2:Int):Con Tryz.prog 108 [tI a0,tI a1,tI a2] (G97 a0 a1 a2) tB:=con Tryz.func108 aX (T97 a0 a1 a2)
def T96(a0:aG):TP Bool:=.ca 4 (pE a0.Size 1 10000) fun r1=>.ret 1 r1
def G96(a0:aG):=(T96 a0).den
theorem yF(a0:aG):Con Tryz.prog 107 [.t (cD a0)] (G96 a0) tB:=con Tryz.func107 aX (T96 a0)
def T93(a0:aG):TP Bool:=.ite 6 (a0.Kind==0) (.ca 1 (yF a0) fun r1=>.ret 1 r1) (.ite 2 (a0.Kind==1) (.ca 1 (yF a0) fun r2=>.jn 1 0 (fun j3=>⟨[(2,tB j3)],[]⟩) (.ite 0 r2 (.ite 5 (decide (a0.Step>0)) (.grd 5 (a0.Step≠0) <| .ret 3 ((Int.tmod a0.Size a0.Step)==0)) (.ret 8 false)) (.ret 13 false)) fun j3=>.ret 0 j3) (.ite 2 (a0.Kind==2) (.ca 1 (yF a0) fun r4=>.jn 1 0 (fun j5=>⟨[(2,tB j5)],[]⟩) (.ite 0 r4 (.ca 4 (pE a0.Step 1 a0.Size) fun r6=>.ret 2 r6) (.ret 7 false)) fun j5=>.ret 0 j5) (.ret 1 false)))
def G93(a0:aG):=(T93 a0).den
theorem aQH(a0:aG):Con Tryz.prog 104 [.t (cD a0)] (G93 a0) tB:=con Tryz.func104 aX (T93 a0)
def T95(a0:aG):TP Bool:=.ca 3 (yF a0) fun r1=>.jn 1 0 (fun j2=>⟨[(2,tB j2)],[]⟩) (.ite 0 r1 (.ca 2 (pE a0.Keep 1 100) fun r3=>.ret 2 r3) (.ret 5 false)) fun j2=>.ret 0 j2
def G95(a0:aG):=(T95 a0).den
theorem aLW(a0:aG):Con Tryz.prog 106 [.t (cD a0)] (G95 a0) tB:=con Tryz.func106 aX (T95 a0)
def T98(a0:aG):TP Bool:=.ca 4 (pE a0.Before 0 10000) fun r1=>.jn 1 0 (fun j2=>⟨[(2,tB j2)],[]⟩) (.ite 0 r1 (.ca 2 (pE a0.After 0 10000) fun r3=>.ret 2 r3) (.ret 5 false)) fun j2=>.ret 0 j2
def G98(a0:aG):=(T98 a0).den
theorem aQS(a0:aG):Con Tryz.prog 109 [.t (cD a0)] (G98 a0) tB:=con Tryz.func109 aX (T98 a0)
def aRC(a0:aG):TP Bool:=.ca 4 (pE a0.Keep 1 10000) fun r1=>.ret 1 r1
def aRU(a0:aG):=(aRC a0).den
theorem aKF(a0:aG):Con Tryz.prog 111 [.t (cD a0)] (aRU a0) tB:=con Tryz.func111 aX (aRC a0)
def aMT(a0:aG):TP Bool:=.ca 3 (yF a0) fun r1=>.jn 1 0 (fun j2=>⟨[(2,tB j2)],[]⟩) (.ite 0 r1 (.ca 3 (pE (a0.Seq.length:Int) 1 8) fun r3=>.ret 2 r3) (.ret 6 false)) fun j2=>.ret 0 j2
def aSA(a0:aG):=(aMT a0).den
theorem aKV(a0:aG):Con Tryz.prog 113 [.t (cD a0)] (aSA a0) tB:=con Tryz.func113 aX (aMT a0)
def V38:Nat->PV
 | 0=>.tup [.agg [tI 0,.lit (.nilFunc),.lit (.nilFunc),tB false],tB false]
 | 1=>.tup [.agg [tI 0,.fn (.func 102) 0 [],.fn (.func 103) 0 [],tB false],tB true]
 | 2=>.tup [.agg [tI 1,.fn (.func 102) 0 [],.fn (.func 103) 0 [],tB false],tB true]
 | 3=>.tup [.agg [tI 2,.fn (.func 102) 0 [],.fn (.func 103) 0 [],tB false],tB true]
 | 4=>.tup [.agg [tI 1,.fn (.func 104) 0 [],.fn (.func 105) 0 [],tB true],tB true]
 | 5=>.tup [.agg [tI 1,.fn (.func 106) 0 [],.fn (.func 105) 0 [],tB true],tB true]
 | 6=>.tup [.agg [tI 2,.fn (.func 109) 0 [],.fn (.func 110) 0 [],tB true],tB true]
 | 7=>.tup [.agg [tI 2,.fn (.func 111) 0 [],.fn (.func 112) 0 [],tB true],tB true]
 | 8=>.tup [.agg [tI 1,.fn (.func 113) 0 [],.fn (.func 114) 0 [],tB true],tB true]
 | _=>.any
def T38(a0:Int):TP Nat:=.ca 15 (pE a0 0 8) fun r1=>.ite 1 (!r1) (.ret 3 0) (.sp 1 19 a0 0 (.gd 1 (0<=(0:Int)/\(0:Int)<(9:Int)) (by decide) <| .ret 3 1) (.sp 0 19 a0 1 (.gd 1 (0<=(1:Int)/\(1:Int)<(9:Int)) (by decide) <| .ret 3 2) (.sp 0 19 a0 2 (.gd 1 (0<=(2:Int)/\(2:Int)<(9:Int)) (by decide) <| .ret 3 2) (.sp 0 19 a0 3 (.gd 1 (0<=(3:Int)/\(3:Int)<(9:Int)) (by decide) <| .ret 3 3) (.sp 0 19 a0 4 (.gd 1 (0<=(4:Int)/\(4:Int)<(9:Int)) (by decide) <| .ret 3 4) (.sp 0 19 a0 5 (.gd 1 (0<=(5:Int)/\(5:Int)<(9:Int)) (by decide) <| .ret 3 5) (.sp 0 19 a0 6 (.gd 1 (0<=(6:Int)/\(6:Int)<(9:Int)) (by decide) <| .ret 3 6) (.sp 0 19 a0 7 (.gd 1 (0<=(7:Int)/\(7:Int)<(9:Int)) (by decide) <| .ret 3 7) (.sp 0 19 a0 8 (.gd 1 (0<=(8:Int)/\(8:Int)<(9:Int)) (by decide) <| .ret 3 8) (.no))))))))))
def G38(a0:Int):=(T38 a0).den
theorem Yj(a0:Int):Con Tryz.prog 84 [tI a0] (G38 a0) (fun y=>V38 y):=con Tryz.func84 aX (T38 a0)
def T37(a0:aG):TP Bool:=.cas 4 (Yj a0.Op) 9 fun r1=>match r1 with | 0=>.ret 14 false | 1=>.ca 11 (Kr a0) fun r2=>.ret 2 r2 | 2=>.ca 11 (Kr a0) fun r3=>.ret 2 r3 | 3=>.ca 11 (Kr a0) fun r4=>.ret 2 r4 | 4=>.ca 11 (aQH a0) fun r5=>.ret 2 r5 | 5=>.ca 11 (aLW a0) fun r6=>.ret 2 r6 | 6=>.ca 11 (aQS a0) fun r7=>.ret 2 r7 | 7=>.ca 11 (aKF a0) fun r8=>.ret 2 r8 | 8=>.ca 11 (aKV a0) fun r9=>.ret 2 r9 | _=>.no
def G37(a0:aG):=(T37 a0).den
theorem aPV(a0:aG):Con Tryz.prog 83 [.t (cD a0)] (G37 a0) tB:=con Tryz.func83 aX (T37 a0)
def T10(a0:aG):TP (Int×Int):=.ca 4 (aPV a0) fun r1=>.ite 1 (!r1) (.ret 2 (0,0)) (.cas 2 (Yj a0.Op) 9 fun r2=>match r2 with | 0=>.no | 1=>.ca 9 (Ml a0) fun r3=>.ret 4 (r3.1,r3.2) | 2=>.ca 9 (Ml a0) fun r4=>.ret 4 (r4.1,r4.2) | 3=>.ca 9 (Ml a0) fun r5=>.ret 4 (r5.1,r5.2) | 4=>.ca 9 (Xg a0) fun r6=>.ret 4 (r6.1,r6.2) | 5=>.ca 9 (Xg a0) fun r7=>.ret 4 (r7.1,r7.2) | 6=>.ca 9 (aQB a0) fun r8=>.ret 4 (r8.1,r8.2) | 7=>.ca 9 (aIG a0) fun r9=>.ret 4 (r9.1,r9.2) | 8=>.ca 9 (aIF a0) fun r10=>.ret 4 (r10.1,r10.2) | _=>.no)
def G10(a0:aG):=(T10 a0).den
theorem aCZ(a0:aG):Con Tryz.prog 47 [.t (cD a0)] (G10 a0) (fun y=>.tup [tI y.1,tI y.2]):=con Tryz.func47 aX (T10 a0)
def Kx(a1:Int)(a2:Int)(qu0:aD)(qu1:aD)(qum:List (List Int×Bool)):TP (Bool×(List (List Int×Bool))):=.dg 6 (0<=a1/\a1<qu0.Nodes.length) <| .dg 14 (0<=a2/\a2<qu1.Nodes.length) <| .dr 1 0 [(7,true,[16,18]),(8,true,[17,19]),(30000,false,[]),(30001,false,[])] [0,1,2,6] <| .ca 1 (aCZ (qu0.Nodes.getD a1.toNat default)) fun r1=>.ca 6 (aCZ (qu1.Nodes.getD a2.toNat default)) fun r2=>.ca 6 (Ck (qu0.Nodes.getD a1.toNat default)) fun r3=>.jn 1 0 (fun (j4,j5)=>⟨[(6,tB j5)],[(30000,.box [.t (eL aJ (qu0.Funcs)),.t (eL aL (qu0.Nodes)),.t (eL aJ (qu1.Funcs)),.t (eL aL (qu1.Nodes)),.map 30001]),(30001,.mpb 2 j4)]⟩) (.ite 0 r3 (.ite 7 (((qu0.Nodes.getD a1.toNat default).Op)==((qu1.Nodes.getD a2.toNat default).Op)) (.ca 4 (vZ ((qu0.Nodes.getD a1.toNat default).Key) ((qu1.Nodes.getD a2.toNat default).Key)) fun r6=>.ite 2 r6 (.ca 4 (vZ ((qu0.Nodes.getD a1.toNat default).Key2) ((qu1.Nodes.getD a2.toNat default).Key2)) fun r7=>.ite 2 r7 (.ite 5 (r1.1==r2.1) (.ch 3 [] (Bi ⟨_,tV⟩ (qu0.Nodes.getD a1.toNat default) (qu1.Nodes.getD a2.toNat default) qu0 qu1 qum) fun r8=>.ret 2 (r8.2,r8.1)) (.ret 6 (qum,false))) (.ret 11 (qum,false))) (.ret 18 (qum,false))) (.ret 25 (qum,false))) (.ret 32 (qum,false))) fun (j4,j5)=>.ret 0 (j5,j4)
def Jm(a1:Int)(a2:Int)(qu0:aD)(qu1:aD)(qum:List (List Int×Bool)):=(Kx a1 a2 qu0 qu1 qum).den
theorem sU(a1:Int)(a2:Int)(qu0:aD)(qu1:aD)(qum:List (List Int×Bool)):cX Tryz.prog 22 [.ptr 30000 0,tI a1,tI a2] [(30000,.box [.t (eL aJ (qu0.Funcs)),.t (eL aL (qu0.Nodes)),.t (eL aJ (qu1.Funcs)),.t (eL aL (qu1.Nodes)),.map 30001]),(30001,.mpb 2 qum)] [30000,30001] (Jm a1 a2 qu0 qu1 qum) (fun y=>tB y.1) (fun y=>[(30000,.box [.t (eL aJ (qu0.Funcs)),.t (eL aL (qu0.Nodes)),.t (eL aJ (qu1.Funcs)),.t (eL aL (qu1.Nodes)),.map 30001]),(30001,.mpb 2 (y.2))]):=fU Tryz.func22 aX (Kx a1 a2 qu0 qu1 qum)
def Ej(a0:aD)(a1:aD)(a2:List aV):Int->TP ((Int)⊕((Unit)⊕Int))
 | v1=>.ite 1 (decide (v1<a2.length)) (.grd 2 (0<=v1/\v1<a2.length) <| .jn 8 0 (fun j2=>⟨[(2,.t (eL aW a2)),(3,.ptr 3 0),(4,.ptr 4 0),(7,tI v1),(8,.ptr 8 0),(9,tB j2),(19,.t (eL aW a2)),(20,tI (a2.length:Int)),(21,tI v1)],[(3,.box ((aH a0).map .t)),(4,.box ((aH a1).map .t)),(8,.box ((aW (a2.getD v1.toNat default)).map .t))]⟩) (.ite 0 (decide (((a2.getD v1.toNat default).Old)>=0)) (.ret 8 (decide (((a2.getD v1.toNat default).Old)<a0.Nodes.length))) (.ret 8 false)) fun j2=>.jn 5 0 (fun j3=>⟨[(2,.t (eL aW a2)),(3,.ptr 3 0),(4,.ptr 4 0),(19,.t (eL aW a2)),(20,tI (a2.length:Int)),(21,tI v1),(69,tB j3)],[(3,.box ((aH a0).map .t)),(4,.box ((aH a1).map .t))]⟩) (.ite 0 (((a2.getD v1.toNat default).New) != v1) (.ret 28 true) (.ite 5 (decide (((a2.getD v1.toNat default).Why)<0)) (.ret 23 true) (.ite 5 (decide (((a2.getD v1.toNat default).Why)>=3)) (.ret 18 true) (.ite 4 (((a2.getD v1.toNat default).Why)==2) (.ite 6 (((a2.getD v1.toNat default).Old) != (-1)) (.ret 8 true) (.ite 4 (((a2.getD v1.toNat default).Why) != 2) (.ret 4 (!j2)) (.ret 4 false))) (.ite 10 (((a2.getD v1.toNat default).Why) != 2) (.ret 4 (!j2)) (.ret 4 false)))))) fun j3=>.ite 0 j3 (.ret 1 (.inr (.inr 2))) (.ret 2 (.inl (i64.wrap (v1+1))))) (.ret 0 (.inr (.inl ())))
def Ea(a0:aD)(a1:aD)(a2:List aV):((List (List Int×Bool))×Int)->TP (((List (List Int×Bool))×Int)⊕((Unit)⊕Int))
 | (v4,v5)=>.ite 1 (decide (v5<a2.length)) (.grd 2 (0<=v5/\v5<a2.length) <| .jn 8 0 (fun (j6,j7)=>⟨[(10,.ptr 30000 0),(76,.t (eL aW a2)),(77,tI (a2.length:Int)),(78,tI v5),(106,tB j7)],[(30000,.box [.t (eL aJ (a0.Funcs)),.t (eL aL (a0.Nodes)),.t (eL aJ (a1.Funcs)),.t (eL aL (a1.Nodes)),.map 30001]),(30001,.mpb 2 j6)]⟩) (.ite 0 (((a2.getD v5.toNat default).Why)==0) (.cv 4 [.rn 75 30000] <| .cv 0 [.rn 73 30001] <| .ch 0 [] (Ak ((a2.getD v5.toNat default).Old) v5 a0 a1 v4) fun r8=>.ite 3 (!r8.1) (.ret 12 (r8.2,true)) (.ite 4 (((a2.getD v5.toNat default).Why)==1) (.ch 4 [] (sU ((a2.getD v5.toNat default).Old) v5 a0 a1 r8.2) fun r9=>.ret 3 (r9.2,!r9.1)) (.ret 8 (r8.2,false)))) (.ite 12 (((a2.getD v5.toNat default).Why)==1) (.cv 4 [.rn 75 30000] <| .cv 0 [.rn 73 30001] <| .ch 0 [] (sU ((a2.getD v5.toNat default).Old) v5 a0 a1 v4) fun r10=>.ret 3 (r10.2,!r10.1)) (.cv 8 [.rn 73 30001,.rn 75 30000] <| .ret 0 (v4,false)))) fun (j6,j7)=>.ite 0 j7 (.ret 1 (.inr (.inr 26))) (.cv 2 [.rn 30000 75,.rn 30001 73] <| .ret 0 (.inl (j6,i64.wrap (v5+1))))) (.ret 0 (.inr (.inl ())))
def aRN(a0:aD)(a1:aD)(a2:List aV):TP Int:=.ite 9 ((a2.length:Int) != (a1.Nodes.length:Int)) (.ret 1 2) (.lp 3 (fun v1=>⟨[(2,.t (eL aW a2)),(3,.ptr 3 0),(4,.ptr 4 0),(19,.t (eL aW a2)),(20,tI (a2.length:Int)),(21,tI v1)],[(3,.box ((aH a0).map .t)),(4,.box ((aH a1).map .t))]⟩) (fun _=>⟨[(2,.t (eL aW a2)),(3,.ptr 3 0),(4,.ptr 4 0)],[(3,.box ((aH a0).map .t)),(4,.box ((aH a1).map .t))]⟩) 0 0 (Ej a0 a1 a2) fun _=>.lp 9 (fun (v4,v5)=>⟨[(10,.ptr 75 0),(76,.t (eL aW a2)),(77,tI (a2.length:Int)),(78,tI v5)],[(73,.mpb 2 v4),(75,.box [.t (eL aJ (a0.Funcs)),.t (eL aL (a0.Nodes)),.t (eL aJ (a1.Funcs)),.t (eL aL (a1.Nodes)),.map 73])]⟩) (fun _=>⟨[],[]⟩) 2 (([]:List (List Int×Bool)),0) (Ea a0 a1 a2) fun _=>.ret 1 0)
def aER(a0:aD)(a1:aD)(a2:List aV):=(aRN a0 a1 a2).den
theorem Eo(a0:aD)(a1:aD)(a2:List aV):Con Tryz.prog 9 [.t (bJ a0),.t (bJ a1),.t (eL aW a2)] (aER a0 a1 a2) tI:=con Tryz.func9 aX (aRN a0 a1 a2)
def aLH(a0:ByteArray):TP bX:=.cv 5 [.rn 5 40000] <| .ret 0 (bX.mk a0 false)
def aCQ(a0:ByteArray):=(aLH a0).den
theorem Ze(a0:ByteArray):cX Tryz.prog 29 [.t (.str a0)] [] [] (aCQ a0) (fun y=>.ptr 40000 0) (fun y=>[(40000,.box ((gM y).map .t))]):=fU Tryz.func29 aX (aLH a0)
def aAA(qu0:bX):TP (ByteArray×Bool):=.ret 8 (⟨#[]⟩,true)
def Zk(qu0:bX):=(aAA qu0).den
theorem mV(qu0:bX):cX Tryz.prog 55 [.ptr 30000 0] [(30000,.box ((gM qu0).map .t))] [30000] (Zk qu0) (fun y=>.tup []) (fun y=>[(30000,.box [.t (.str (y.1)),tB y.2])]):=fU Tryz.func55 aX (aAA qu0)
def By(a1:Int)(a2:Int)(qu0:bX):TP (Int×ByteArray×Bool):=.dg 10 (0<=(0:Int)/\(0:Int)<=(if (21:Int)<(qu0.rest_:ByteArray).size then (21:Int) else ((qu0.rest_:ByteArray).size:Int))/\(if (21:Int)<(qu0.rest_:ByteArray).size then (21:Int) else ((qu0.rest_:ByteArray).size:Int))<=(qu0.rest_.size:Int)) <| .dr 1 0 [(30000,false,[])] [0,1,2,6] <| .ca 2 (aGT (qu0.rest_.extract (0:Int).toNat (if (21:Int)<(qu0.rest_:ByteArray).size then (21:Int) else ((qu0.rest_:ByteArray).size:Int)).toNat) a1) fun r1=>.ite 3 (decide (r1<0)) (.ch 1 [] (mV qu0) fun r2=>.ret 1 (0,r2.1,r2.2)) (.grd 3 (0<=(0:Int)/\(0:Int)<=r1/\r1<=((qu0.rest_.extract (0:Int).toNat (if (21:Int)<(qu0.rest_:ByteArray).size then (21:Int) else ((qu0.rest_:ByteArray).size:Int)).toNat).size:Int)) <| .ch 0 [] (aPJ ((qu0.rest_.extract (0:Int).toNat (if (21:Int)<(qu0.rest_:ByteArray).size then (21:Int) else ((qu0.rest_:ByteArray).size:Int)).toNat).extract (0:Int).toNat r1.toNat)) (sel (fun r3=>.jn 5 0 (fun j5=>⟨[(0,.ptr 30000 0),(8,tI r1),(9,tI r3),(50,tB j5)],[(30000,.box ((gM qu0).map .t))]⟩) (.dc 4 [tI r3] (Eg r3) fun r6=>.dg 7 (0<=(0:Int)/\(0:Int)<=r1/\r1<=((qu0.rest_.extract (0:Int).toNat (if (21:Int)<(qu0.rest_:ByteArray).size then (21:Int) else ((qu0.rest_:ByteArray).size:Int)).toNat).size:Int)) <| .dl 10 (!((r6:ByteArray).toList==((qu0.rest_.extract (0:Int).toNat (if (21:Int)<(qu0.rest_:ByteArray).size then (21:Int) else ((qu0.rest_:ByteArray).size:Int)).toNat).extract (0:Int).toNat r1.toNat:ByteArray).toList)) (.dr 0 0 [(30000,false,[])] [0,1,2,6,7,8,9,10,11,12,13,14,15,16,17,18,19,20,21,22,23,24,25,26,29,30,31,32,33,34,35] <| .ret 0 true) (.dr 0 0 [(30000,false,[])] [0,1,2,6,7,8,9,10,11,12,13,14,15,16,17,18,19,20,21,22,23,24,25,26,29,30,31,32,33,34,35] <| .ret 0 (decide (r3<a2)))) fun j5=>.ite 0 j5 (.ch 1 [] (mV qu0) fun r7=>.ret 1 (0,r7.1,r7.2)) (.grd 8 (0<=(i64.wrap (r1+1):Int)/\(i64.wrap (r1+1):Int)<=(qu0.rest_.size:Int)/\(qu0.rest_.size:Int)<=(qu0.rest_.size:Int)) <| .ret 5 (r3,qu0.rest_.extract (i64.wrap (r1+1):Int).toNat (qu0.rest_.size:Int).toNat,qu0.bad_))) (fun r4=>.dr 5 0 [(30000,false,[])] [0,1,2,6,7,8,9,10,11,12,13,14,15,16,17,18,19,20,21,22,23,24,25,26,29,30,31,32,33,34,35] <| .ch 2 [] (mV qu0) fun r8=>.ret 1 (0,r8.1,r8.2))))
def yH(a1:Int)(a2:Int)(qu0:bX):=(By a1 a2 qu0).den
theorem tF(a1:Int)(a2:Int)(qu0:bX):cX Tryz.prog 54 [.ptr 30000 0,.t (.int .u8 a1),tI a2] [(30000,.box ((gM qu0).map .t))] [30000] (yH a1 a2 qu0) (fun y=>tI y.1) (fun y=>[(30000,.box [.t (.str (y.2.1)),tB y.2.2])]):=fU Tryz.func54 aX (By a1 a2 qu0)
def Qs(qu0:bX):TP (Int×ByteArray×Bool):=.ch 2 [] (tF 59 (-9223372036854775808) qu0) fun r1=>.ret 1 (r1.1,r1.2.1,r1.2.2)
def Ge(qu0:bX):=(Qs qu0).den
theorem Zj(qu0:bX):cX Tryz.prog 30 [.ptr 30000 0] [(30000,.box ((gM qu0).map .t))] [30000] (Ge qu0) (fun y=>tI y.1) (fun y=>[(30000,.box [.t (.str (y.2.1)),tB y.2.2])]):=fU Tryz.func30 aX (Qs qu0)
def Dz(qu0:bX):TP (Int×ByteArray×Bool):=.ch 2 [] (tF 59 0 qu0) fun r1=>.ret 1 (r1.1,r1.2.1,r1.2.2)
def yW(qu0:bX):=(Dz qu0).den
theorem Vh(qu0:bX):cX Tryz.prog 31 [.ptr 30000 0] [(30000,.box ((gM qu0).map .t))] [30000] (yW qu0) (fun y=>tI y.1) (fun y=>[(30000,.box [.t (.str (y.2.1)),tB y.2.2])]):=fU Tryz.func31 aX (Dz qu0)
def aID(a0:ByteArray)(a1:ByteArray):TP Bool:=.jn 7 0 (fun j1=>⟨[(4,tB j1)],[]⟩) (.ite 0 (decide (((a0:ByteArray).size:Int)>=((a1:ByteArray).size:Int))) (.grd 4 (0<=(0:Int)/\(0:Int)<=((a1:ByteArray).size:Int)/\((a1:ByteArray).size:Int)<=(a0.size:Int)) <| .ret 4 ((a0.extract (0:Int).toNat ((a1:ByteArray).size:Int).toNat:ByteArray).toList==(a1:ByteArray).toList)) (.ret 8 false)) fun j1=>.ret 0 j1
def aBP(a0:ByteArray)(a1:ByteArray):=(aID a0 a1).den
theorem aKB(a0:ByteArray)(a1:ByteArray):Con Tryz.prog 140 [.t (.str a0),.t (.str a1)] (aBP a0 a1) tB:=con Tryz.func140 aX (aID a0 a1)
def aDZ(a0:ByteArray)(a1:ByteArray):TP (ByteArray×Bool):=.ca 4 (aKB a0 a1) fun r1=>.ite 1 (!r1) (.ret 3 (a0,false)) (.grd 4 (0<=(((a1:ByteArray).size:Int):Int)/\(((a1:ByteArray).size:Int):Int)<=(a0.size:Int)/\(a0.size:Int)<=(a0.size:Int)) <| .ret 2 (a0.extract (((a1:ByteArray).size:Int):Int).toNat (a0.size:Int).toNat,true))
def aHG(a0:ByteArray)(a1:ByteArray):=(aDZ a0 a1).den
theorem aIJ(a0:ByteArray)(a1:ByteArray):Con Tryz.prog 120 [.t (.str a0),.t (.str a1)] (aHG a0 a1) (fun y=>.tup [.t (.str (y.1)),tB y.2]):=con Tryz.func120 aX (aDZ a0 a1)
def aIM(a0:ByteArray)(a1:ByteArray):TP (ByteArray×Bool):=.ca 4 (aIJ a0 a1) fun r1=>.ret 4 (r1.1,r1.2)
def Wm(a0:ByteArray)(a1:ByteArray):=(aIM a0 a1).den
theorem aGJ(a0:ByteArray)(a1:ByteArray):Con Tryz.prog 88 [.t (.str a0),.t (.str a1)] (Wm a0 a1) (fun y=>.tup [.t (.str (y.1)),tB y.2]):=con Tryz.func88 aX (aIM a0 a1)
def Dc(a1:ByteArray)(qu0:bX):TP (ByteArray×Bool):=.ca 5 (aGJ qu0.rest_ a1) fun r1=>.jn 12 0 (fun (j2,j3)=>⟨[],[(30000,.box [.t (.str j2),tB j3])]⟩) (.ite 0 (!r1.2) (.ch 1 [] (mV (bX.mk r1.1 qu0.bad_)) fun r4=>.ret 0 (r4.1,r4.2)) (.ret 0 (r1.1,qu0.bad_))) fun (j2,j3)=>.ret 0 (j2,j3)
def zC(a1:ByteArray)(qu0:bX):=(Dc a1 qu0).den
theorem Tc(a1:ByteArray)(qu0:bX):cX Tryz.prog 56 [.ptr 30000 0,.t (.str a1)] [(30000,.box ((gM qu0).map .t))] [30000] (zC a1 qu0) (fun y=>.tup []) (fun y=>[(30000,.box [.t (.str (y.1)),tB y.2])]):=fU Tryz.func56 aX (Dc a1 qu0)
def Sl(qu0:bX):TP (ByteArray×ByteArray×Bool):=.ch 2 [] (tF 58 0 qu0) fun r1=>.ite 8 (decide (r1.1>((r1.2.1:ByteArray).size:Int))) (.ch 1 [] (mV (bX.mk r1.2.1 r1.2.2)) fun r2=>.ret 1 (⟨#[]⟩,r2.1,r2.2)) (.grd 6 (0<=(0:Int)/\(0:Int)<=r1.1/\r1.1<=(r1.2.1.size:Int)) <| .grd 8 (0<=(r1.1:Int)/\(r1.1:Int)<=(r1.2.1.size:Int)/\(r1.2.1.size:Int)<=(r1.2.1.size:Int)) <| .ch 4 [] (Tc (⟨#[44]⟩) (bX.mk (r1.2.1.extract (r1.1:Int).toNat (r1.2.1.size:Int).toNat) r1.2.2)) fun r3=>.ite 4 (r3.2) (.ret 1 (⟨#[]⟩,r3.1,r3.2)) (.ret 2 (r1.2.1.extract (0:Int).toNat (r1.1).toNat,r3.1,r3.2)))
def Hd(qu0:bX):=(Sl qu0).den
theorem aBF(qu0:bX):cX Tryz.prog 32 [.ptr 30000 0] [(30000,.box ((gM qu0).map .t))] [30000] (Hd qu0) (fun y=>.t (.str (y.1))) (fun y=>[(30000,.box [.t (.str (y.2.1)),tB y.2.2])]):=fU Tryz.func32 aX (Sl qu0)
def Ri(qu0:bX):TP Bool:=.jn 7 0 (fun j1=>⟨[(2,tB j1)],[(30000,.box ((gM qu0).map .t))]⟩) (.ite 0 (!qu0.bad_) (.ret 7 ((qu0.rest_:ByteArray).toList==(⟨#[]⟩:ByteArray).toList)) (.ret 7 false)) fun j1=>.ret 0 j1
def Iu(qu0:bX):=(Ri qu0).den
theorem aCI(qu0:bX):cX Tryz.prog 33 [.ptr 30000 0] [(30000,.box ((gM qu0).map .t))] [30000] (Iu qu0) tB (fun y=>[(30000,.box ((gM qu0).map .t))]):=fU Tryz.func33 aX (Ri qu0)
def oA(a0:aD)(r4:Int×ByteArray×Bool):(ByteArray×Bool×(List ByteArray))->TP ((ByteArray×Bool×(List ByteArray))⊕((ByteArray×Bool×(List ByteArray))⊕(ByteArray×Int)))
 | (v5,v6,v7)=>.ite 8 (decide ((v7.length:Int)<(if (a0.Nodes.length:Int)<r4.1 then (a0.Nodes.length:Int) else r4.1))) (.ch 2 [] (aBF (bX.mk v5 v6)) fun r11=>.bs 0 false mJ [r11.1] <| .grd 1 ((v7.length+[r11.1].length)*16<=140737488355328) <| .cv 0 [.ap 44 mJ v7 [r11.1]] <| .cv 1 [.rn 44 14] <| .ret 0 (.inl (r11.2.1,r11.2.2,v7++[r11.1]))) (.ret 0 (.inr (.inl (v5,v6,v7))))
def Ft(a1:aD)(a2:List aV):((List ByteArray)×ByteArray×Int)->TP (((List ByteArray)×ByteArray×Int)⊕((ByteArray)⊕(ByteArray×Int)))
 | (v18,v19,v20)=>.ite 1 (decide (v20<a1.Nodes.length)) (.grd 2 (0<=v20/\v20<a1.Nodes.length) <| .ca 6 (Ck (a1.Nodes.getD v20.toNat default)) fun r22=>.jn 0 0 (fun (j23,j24)=>⟨[(2,.t (eL aW a2)),(14,.own 14),(15,.t (.str v19)),(18,.t (.str j24)),(70,.t (eL aL (a1.Nodes))),(71,tI (a1.Nodes.length:Int)),(72,tI v20)],[(14,.arr 9 1 (j23.length) (eF mJ j23))]⟩) (.ite 0 r22 (.grd 4 (0<=v20/\v20<a2.length) <| .grd 3 (0<=((a2.getD v20.toNat default).Old)/\((a2.getD v20.toNat default).Old)<v18.length) <| .grd 1 (((a2.getD v20.toNat default).Old).toNat<v18.length) <| .ret 1 (v18,v18.getD ((a2.getD v20.toNat default).Old).toNat default)) (.ret 0 (v18,⟨#[]⟩))) fun (j23,j24)=>.ca 2 (aPK j24) fun r25=>.grd 1 (((v19.size+r25.size:Nat):Int)<=9223372036854775807) <| .ret 3 (.inl (j23,v19++r25,i64.wrap (v20+1)))) (.ret 0 (.inr (.inl v19)))
def Xh(a0:aD)(a1:aD)(a2:List aV)(a3:ByteArray):TP (ByteArray×Int):=.ca 7 (Eo a0 a1 a2) fun r1=>.ite 3 (r1 != 0) (.ret 3 (⟨#[]⟩,r1)) (.ch 1 [40000] (Ze a3) fun r2=>.cv 0 [.rn 40000 27] <| .cv 2 [.rn 27 30000] <| .ch 0 [] (Zj r2) fun r3=>.ch 1 [] (Vh (bX.mk r3.2.1 r3.2.2)) fun r4=>.cv 3 [.th 14 14 9 1 (eF mJ ([]:List ByteArray))] <| .lp 0 (fun (v5,v6,v7)=>⟨[(2,.t (eL aW a2)),(4,.ptr 4 0),(5,.ptr 5 0),(11,.ptr 30000 0),(12,tI r3.1),(13,tI r4.1),(14,.own 14)],[(4,.box ((aH a0).map .t)),(5,.box ((aH a1).map .t)),(14,.arr 9 1 (v7.length) (eF mJ v7)),(30000,.box [.t (.str v5),tB v6])]⟩) (fun (b8,b9,b10)=>⟨[(2,.t (eL aW a2)),(4,.ptr 4 0),(5,.ptr 5 0),(11,.ptr 30000 0),(12,tI r3.1),(13,tI r4.1),(14,.own 14)],[(4,.box ((aH a0).map .t)),(5,.box ((aH a1).map .t)),(14,.arr 9 1 (b10.length) (eF mJ b10)),(30000,.box [.t (.str b8),tB b9])]⟩) 0 (r4.2.1,r4.2.2,([]:List ByteArray)) (oA a0 r4) fun (b8,b9,b10)=>.ch 1 [] (aCI (bX.mk b8 b9)) fun r12=>.jn 2 0 (fun (j13,j14)=>⟨[(2,.t (eL aW a2)),(5,.ptr 5 0),(12,tI r3.1),(14,.own 14),(45,tB j14)],[(5,.box ((aH a1).map .t)),(14,.arr 9 1 (j13.length) (eF mJ j13))]⟩) (.ite 0 (!r12) (.ret 7 (b10,true)) (.ret 7 (b10,r4.1 != (a0.Nodes.length:Int)))) fun (j13,j14)=>.ite 0 j14 (.ret 2 (⟨#[]⟩,2)) (.ca 2 (Bw a1 a2) fun r15=>.ite 3 (decide ((r15.length:Int)>0)) (.ret 2 (⟨#[]⟩,4)) (.dc 1 [tI r3.1] (Wj r3.1) fun r16=>.dc 5 [tI (a1.Nodes.length:Int)] (aJZ (a1.Nodes.length:Int)) fun r17=>.dg 6 (((r16.size+r17.size:Nat):Int)<=9223372036854775807) <| .dr 0 0 [(5,false,[]),(14,false,[])] [2,5,12,14,45,56,57,58,59,60,61] <| .lp 4 (fun (v18,v19,v20)=>⟨[(2,.t (eL aW a2)),(14,.own 14),(15,.t (.str v19)),(70,.t (eL aL (a1.Nodes))),(71,tI (a1.Nodes.length:Int)),(72,tI v20)],[(14,.arr 9 1 (v18.length) (eF mJ v18))]⟩) (fun b21=>⟨[(15,.t (.str b21))],[]⟩) 3 (j13,r16++r17,0) (Ft a1 a2) fun b21=>.ret 3 (b21,0))))
def zJ(a0:aD)(a1:aD)(a2:List aV)(a3:ByteArray):=(Xh a0 a1 a2 a3).den
theorem Qe(a0:aD)(a1:aD)(a2:List aV)(a3:ByteArray):Con Tryz.prog 13 [.t (bJ a0),.t (bJ a1),.t (eL aW a2),.t (.str a3)] (zJ a0 a1 a2 a3) (fun y=>.tup [.t (.str (y.1)),tI y.2]):=con Tryz.func13 aX (Xh a0 a1 a2 a3)
def aLK(a0:ByteArray):TP aF:=.cv 5 [.rn 5 40000] <| .ret 0 (aF.mk a0 false)
def aAX(a0:ByteArray):=(aLK a0).den
theorem aBJ(a0:ByteArray):cX Tryz.prog 58 [.t (.str a0)] [] [] (aAX a0) (fun y=>.ptr 40000 0) (fun y=>[(40000,.box ((bI y).map .t))]):=fU Tryz.func58 aX (aLK a0)
abbrev aRT:={f:Int->Option ByteArray // ∀ a:Int,Con Tryz.prog 64 [tI a] (f a) (fun (y:ByteArray)=>.t (.str y))}
def aAW(rec:aRT)(a0:Int):TP ByteArray:=.gd 3 ((10:Int)≠0) (by decide) <| .bs 2 false cU8 [IntKind.u8.wrap (i64.wrap (48-(Int.tmod a0 10)))] <| .gd 1 (∀ i,i<[IntKind.u8.wrap (i64.wrap (48-(Int.tmod a0 10)))].length->Wc ((eF cU8 [IntKind.u8.wrap (i64.wrap (48-(Int.tmod a0 10)))]) i)=true) (fun _ _=>rfl) <| .ite 3 (decide (a0>(-10))) (.ret 2 (zY ([IntKind.u8.wrap (i64.wrap (48-(Int.tmod a0 10)))].length) (eF cU8 [IntKind.u8.wrap (i64.wrap (48-(Int.tmod a0 10)))]))) (.gd 2 ((10:Int)≠0) (by decide) <| .ca 0 (rec.2 (i64.wrap (Int.tdiv a0 10))) fun r1=>.grd 2 (((r1.size+(zY ([IntKind.u8.wrap (i64.wrap (48-(Int.tmod a0 10)))].length) (eF cU8 [IntKind.u8.wrap (i64.wrap (48-(Int.tmod a0 10)))])).size:Nat):Int)<=9223372036854775807) <| .ret 1 (r1++(zY ([IntKind.u8.wrap (i64.wrap (48-(Int.tmod a0 10)))].length) (eF cU8 [IntKind.u8.wrap (i64.wrap (48-(Int.tmod a0 10)))]))))
theorem Rg(rec:aRT)(a0:Int):Con Tryz.prog 64 [tI a0] (aAW rec a0).den (fun (y:ByteArray)=>.t (.str y)):=con Tryz.func64 aX (aAW rec a0)
def aST(a:Int):Option ByteArray:=kB (C:=fun (a:Int) (x:Option ByteArray)=>Con Tryz.prog 64 [tI a] x (fun (y:ByteArray)=>.t (.str y))) (fun a=>⟨bP Tryz.func64 (by kernel_rfl),fun _ h=>nomatch h⟩) (fun rec a=>aAW rec a) (fun rec a=>Rg rec a) a
theorem aLB(a:Int):Con Tryz.prog 64 [tI a] (aST a) (fun (y:ByteArray)=>.t (.str y)):=fB (C:=fun (a:Int) (x:Option ByteArray)=>Con Tryz.prog 64 [tI a] x (fun (y:ByteArray)=>.t (.str y))) _ _ _ a
def aJM(a0:Int):Option ByteArray:=aST a0
theorem De(a0:Int):Con Tryz.prog 64 [tI a0] (aJM a0) (fun y=>.t (.str y)):=aLB a0
def T55(a0:Int):TP ByteArray:=.ite 3 (decide (a0<0)) (.ca 1 (De a0) fun r1=>.grd 1 (((((⟨#[45]⟩):ByteArray).size+r1.size:Nat):Int)<=9223372036854775807) <| .grd 1 (((((((⟨#[45]⟩):ByteArray)++r1):ByteArray).size+((⟨#[59]⟩):ByteArray).size:Nat):Int)<=9223372036854775807) <| .ret 1 (((((⟨#[45]⟩):ByteArray)++r1):ByteArray)++((⟨#[59]⟩):ByteArray))) (.ca 2 (De (i64.wrap (0-a0))) fun r2=>.grd 1 (((r2.size+((⟨#[59]⟩):ByteArray).size:Nat):Int)<=9223372036854775807) <| .ret 1 (r2++((⟨#[59]⟩):ByteArray)))
def G55(a0:Int):=(T55 a0).den
theorem Kw(a0:Int):Con Tryz.prog 38 [tI a0] (G55 a0) (fun y=>.t (.str y)):=con Tryz.func38 aX (T55 a0)
def pW(a0:ByteArray)(j2:Int):(Int×Int)->TP ((Int×Int)⊕((Int)⊕(Int×Bool)))
 | (v3,v4)=>.ite 4 (decide (v4<(a0:ByteArray).size)) (.grd 3 (0<=v4/\v4<a0.size) <| .jn 2 0 (fun j6=>⟨[(0,.t (.str a0)),(4,tI j2),(5,tI v3),(6,tI v4),(35,tB j6)],[]⟩) (.ite 0 (decide (((a0[v4.toNat]?.getD 0).toNat:Int)<48)) (.ret 9 true) (.grd 3 (0<=v4/\v4<a0.size) <| .ite 3 (decide (((a0[v4.toNat]?.getD 0).toNat:Int)>57)) (.ret 3 true) (.ret 3 (decide (v4>20))))) fun j6=>.ite 0 j6 (.ret 2 (.inr (.inr (0,false)))) (.grd 5 (0<=v4/\v4<a0.size) <| .ret 7 (.inl (i64.wrap ((i64.wrap (10*v3))-(i64.wrap (IntKind.u8.wrap (((a0[v4.toNat]?.getD 0).toNat:Int)-48)))),i64.wrap (v4+1))))) (.ret 0 (.inr (.inl v3)))
def aJL(a0:ByteArray):TP (Int×Bool):=.jn 7 0 (fun j1=>⟨[(0,.t (.str a0)),(4,tI 0),(14,tB j1)],[]⟩) (.ite 0 (decide (((a0:ByteArray).size:Int)>0)) (.grd 2 (0<=(0:Int)/\(0:Int)<a0.size) <| .ret 2 (((a0[(0:Int).toNat]?.getD 0).toNat:Int)==45)) (.ret 4 false)) fun j1=>.jn 0 0 (fun j2=>⟨[(0,.t (.str a0)),(4,tI j2)],[]⟩) (.ite 0 j1 (.ret 1 1) (.ret 0 0)) fun j2=>.lp 3 (fun (v3,v4)=>⟨[(0,.t (.str a0)),(4,tI j2),(5,tI v3),(6,tI v4)],[]⟩) (fun b5=>⟨[(0,.t (.str a0)),(4,tI j2),(5,tI b5)],[]⟩) 0 (0,j2) (pW a0 j2) fun b5=>.jn 2 0 (fun j7=>⟨[(0,.t (.str a0)),(5,tI j7)],[]⟩) (.ite 0 (j2==0) (.ret 3 (i64.wrap (0-b5))) (.ret 0 b5)) fun j7=>.ca 2 (Kw j7) fun r8=>.grd 2 (((a0.size+((⟨#[59]⟩):ByteArray).size:Nat):Int)<=9223372036854775807) <| .ret 3 (j7,(r8:ByteArray).toList==(a0++((⟨#[59]⟩):ByteArray):ByteArray).toList)
def Zf(a0:ByteArray):=(aJL a0).den
theorem aEM(a0:ByteArray):Con Tryz.prog 122 [.t (.str a0)] (Zf a0) (fun y=>.tup [tI y.1,tB y.2]):=con Tryz.func122 aX (aJL a0)
def aDE(qu0:aF):TP (Int×ByteArray×Bool):=.ret 10 (0,⟨#[]⟩,true)
def nL(qu0:aF):=(aDE qu0).den
theorem jE(qu0:aF):cX Tryz.prog 92 [.ptr 30000 0] [(30000,.box ((bI qu0).map .t))] [30000] (nL qu0) (fun y=>tI y.1) (fun y=>[(30000,.box [.t (.str (y.2.1)),tB y.2.2])]):=fU Tryz.func92 aX (aDE qu0)
def kC(a1:Int)(qu0:aF):Int->TP ((Int)⊕((Int)⊕(Int×ByteArray×Bool)))
 | v1=>.jn 8 0 (fun j3=>⟨[(0,.ptr 30000 0),(1,.t (.int .u8 a1)),(5,tI v1),(28,tB j3)],[(30000,.box ((bI qu0).map .t))]⟩) (.ite 0 (decide (v1<(qu0.Rest:ByteArray).size)) (.ite 4 (decide (v1<21)) (.grd 6 (0<=v1/\v1<qu0.Rest.size) <| .ret 3 (((qu0.Rest[v1.toNat]?.getD 0).toNat:Int) != a1)) (.ret 9 false)) (.ret 13 false)) fun j3=>.ite 0 j3 (.ret 3 (.inl (i64.wrap (v1+1)))) (.ret 0 (.inr (.inl v1)))
def xZ(a1:Int)(qu0:aF):TP (Int×ByteArray×Bool):=.lp 2 (fun v1=>⟨[(0,.ptr 30000 0),(1,.t (.int .u8 a1)),(5,tI v1)],[(30000,.box ((bI qu0).map .t))]⟩) (fun b2=>⟨[(0,.ptr 30000 0),(1,.t (.int .u8 a1)),(5,tI b2)],[(30000,.box ((bI qu0).map .t))]⟩) 0 0 (kC a1 qu0) fun b2=>.ite 7 (decide (b2>=((qu0.Rest:ByteArray).size:Int))) (.ch 1 [] (jE qu0) fun r4=>.ret 1 (r4.1,r4.2.1,r4.2.2)) (.grd 6 (0<=b2/\b2<qu0.Rest.size) <| .ite 2 (((qu0.Rest[b2.toNat]?.getD 0).toNat:Int) != a1) (.ch 1 [] (jE qu0) fun r5=>.ret 1 (r5.1,r5.2.1,r5.2.2)) (.grd 6 (0<=(0:Int)/\(0:Int)<=b2/\b2<=(qu0.Rest.size:Int)) <| .ca 0 (aEM (qu0.Rest.extract (0:Int).toNat b2.toNat)) fun r6=>.ite 7 (!r6.2) (.ch 1 [] (jE qu0) fun r7=>.ret 1 (r7.1,r7.2.1,r7.2.2)) (.grd 8 (0<=(i64.wrap (b2+1):Int)/\(i64.wrap (b2+1):Int)<=(qu0.Rest.size:Int)/\(qu0.Rest.size:Int)<=(qu0.Rest.size:Int)) <| .ret 5 (r6.1,qu0.Rest.extract (i64.wrap (b2+1):Int).toNat (qu0.Rest.size:Int).toNat,qu0.Bad))))
def rG(a1:Int)(qu0:aF):=(xZ a1 qu0).den
theorem Bt(a1:Int)(qu0:aF):cX Tryz.prog 90 [.ptr 30000 0,.t (.int .u8 a1)] [(30000,.box ((bI qu0).map .t))] [30000] (rG a1 qu0) (fun y=>tI y.1) (fun y=>[(30000,.box [.t (.str (y.2.1)),tB y.2.2])]):=fU Tryz.func90 aX (xZ a1 qu0)
def Hi(qu0:aF):TP (Int×ByteArray×Bool):=.ch 2 [] (Bt 59 qu0) fun r1=>.ret 1 (r1.1,r1.2.1,r1.2.2)
def xF(qu0:aF):=(Hi qu0).den
theorem Xl(qu0:aF):cX Tryz.prog 59 [.ptr 30000 0] [(30000,.box ((bI qu0).map .t))] [30000] (xF qu0) (fun y=>tI y.1) (fun y=>[(30000,.box [.t (.str (y.2.1)),tB y.2.2])]):=fU Tryz.func59 aX (Hi qu0)
def wI(a1:Int)(qu0:aF):TP (Int×ByteArray×Bool):=.ch 3 [] (Bt a1 qu0) fun r1=>.ite 3 (decide (r1.1<0)) (.ch 1 [] (jE (aF.mk r1.2.1 r1.2.2)) fun r2=>.ret 1 (r2.1,r2.2.1,r2.2.2)) (.ret 2 (r1.1,r1.2.1,r1.2.2))
def rQ(a1:Int)(qu0:aF):=(wI a1 qu0).den
theorem Bp(a1:Int)(qu0:aF):cX Tryz.prog 91 [.ptr 30000 0,.t (.int .u8 a1)] [(30000,.box ((bI qu0).map .t))] [30000] (rQ a1 qu0) (fun y=>tI y.1) (fun y=>[(30000,.box [.t (.str (y.2.1)),tB y.2.2])]):=fU Tryz.func91 aX (wI a1 qu0)
def yM(qu0:aF):TP (Int×ByteArray×Bool):=.ch 2 [] (Bp 59 qu0) fun r1=>.ret 1 (r1.1,r1.2.1,r1.2.2)
def rH(qu0:aF):=(yM qu0).den
theorem Wi(qu0:aF):cX Tryz.prog 60 [.ptr 30000 0] [(30000,.box ((bI qu0).map .t))] [30000] (rH qu0) (fun y=>tI y.1) (fun y=>[(30000,.box [.t (.str (y.2.1)),tB y.2.2])]):=fU Tryz.func60 aX (yM qu0)
def Xt(qu0:aF):TP Int:=.ret 7 ((qu0.Rest:ByteArray).size:Int)
def Jb(qu0:aF):=(Xt qu0).den
theorem Ub(qu0:aF):cX Tryz.prog 61 [.ptr 30000 0] [(30000,.box ((bI qu0).map .t))] [30000] (Jb qu0) tI (fun y=>[(30000,.box ((bI qu0).map .t))]):=fU Tryz.func61 aX (Xt qu0)
def yQ(a1:Int)(qu0:aF):TP (Bool×ByteArray×Bool):=.ite 7 (((qu0.Rest:ByteArray).size:Int)==0) (.ch 1 [] (jE qu0) fun r1=>.ret 1 (false,r1.2.1,r1.2.2)) (.grd 5 (0<=(0:Int)/\(0:Int)<qu0.Rest.size) <| .ite 2 (((qu0.Rest[(0:Int).toNat]?.getD 0).toNat:Int) != a1) (.ch 1 [] (jE qu0) fun r2=>.ret 1 (false,r2.2.1,r2.2.2)) (.grd 6 (0<=(1:Int)/\(1:Int)<=(qu0.Rest.size:Int)/\(qu0.Rest.size:Int)<=(qu0.Rest.size:Int)) <| .ret 4 (true,qu0.Rest.extract (1:Int).toNat (qu0.Rest.size:Int).toNat,qu0.Bad)))
def rJ(a1:Int)(qu0:aF):=(yQ a1 qu0).den
theorem Tp(a1:Int)(qu0:aF):cX Tryz.prog 93 [.ptr 30000 0,.t (.int .u8 a1)] [(30000,.box ((bI qu0).map .t))] [30000] (rJ a1 qu0) (fun y=>tB y.1) (fun y=>[(30000,.box [.t (.str (y.2.1)),tB y.2.2])]):=fU Tryz.func93 aX (yQ a1 qu0)
def Iv(qu0:aF):TP (ByteArray×ByteArray×Bool):=.ch 2 [] (Bp 58 qu0) fun r1=>.jn 6 0 (fun j2=>⟨[(0,.ptr 30000 0),(3,tI r1.1),(19,tB j2)],[(30000,.box [.t (.str (r1.2.1)),tB r1.2.2])]⟩) (.ite 0 (r1.2.2) (.ret 8 true) (.ret 8 (decide (r1.1>=((r1.2.1:ByteArray).size:Int))))) fun j2=>.ite 0 j2 (.ch 1 [] (jE (aF.mk r1.2.1 r1.2.2)) fun r3=>.ret 1 (⟨#[]⟩,r3.2.1,r3.2.2)) (.grd 6 (0<=(0:Int)/\(0:Int)<=r1.1/\r1.1<=(r1.2.1.size:Int)) <| .grd 8 (0<=(r1.1:Int)/\(r1.1:Int)<=(r1.2.1.size:Int)/\(r1.2.1.size:Int)<=(r1.2.1.size:Int)) <| .ch 4 [] (Tp 44 (aF.mk (r1.2.1.extract (r1.1:Int).toNat (r1.2.1.size:Int).toNat) r1.2.2)) fun r4=>.ite 1 (!r4.1) (.ret 1 (⟨#[]⟩,r4.2.1,r4.2.2)) (.ret 2 (r1.2.1.extract (0:Int).toNat (r1.1).toNat,r4.2.1,r4.2.2)))
def uJ(qu0:aF):=(Iv qu0).den
theorem Za(qu0:aF):cX Tryz.prog 62 [.ptr 30000 0] [(30000,.box ((bI qu0).map .t))] [30000] (uJ qu0) (fun y=>.t (.str (y.1))) (fun y=>[(30000,.box [.t (.str (y.2.1)),tB y.2.2])]):=fU Tryz.func62 aX (Iv qu0)
def Qn(qu0:aF):TP Bool:=.jn 7 0 (fun j1=>⟨[(2,tB j1)],[(30000,.box ((bI qu0).map .t))]⟩) (.ite 0 (!qu0.Bad) (.ret 7 ((qu0.Rest:ByteArray).toList==(⟨#[]⟩:ByteArray).toList)) (.ret 7 false)) fun j1=>.ret 0 j1
def Hv(qu0:aF):=(Qn qu0).den
theorem Wx(qu0:aF):cX Tryz.prog 63 [.ptr 30000 0] [(30000,.box ((bI qu0).map .t))] [30000] (Hv qu0) tB (fun y=>[(30000,.box ((bI qu0).map .t))]):=fU Tryz.func63 aX (Qn qu0)
def nT(r2:Int×ByteArray×Bool)(r3:Int×ByteArray×Bool):(ByteArray×Bool×(List ByteArray)×Int)->TP ((ByteArray×Bool×(List ByteArray)×Int)⊕((ByteArray×Bool×(List ByteArray))⊕(Int×(List ByteArray)×Bool)))
 | (v4,v5,v6,v7)=>.jn 4 0 (fun (j11,j12)=>⟨[(5,.ptr 30000 0),(6,tI r2.1),(7,tI r3.1),(8,.own 8),(9,tI v7),(23,tB j12)],[(8,.arr 9 1 (j11.length) (eF mJ j11)),(30000,.box [.t (.str v4),tB v5])]⟩) (.ite 0 (decide (v7<r3.1)) (.ch 1 [] (Ub (aF.mk v4 v5)) fun r13=>.ret 2 (v6,decide (r13>0))) (.ret 4 (v6,false))) fun (j11,j12)=>.ite 0 j12 (.ch 2 [] (Za (aF.mk v4 v5)) fun r14=>.bs 0 false mJ [r14.1] <| .grd 1 ((j11.length+[r14.1].length)*16<=140737488355328) <| .cv 0 [.ap 30 mJ j11 [r14.1]] <| .cv 4 [.rn 30 8] <| .ret 0 (.inl (r14.2.1,r14.2.2,j11++[r14.1],i64.wrap (v7+1)))) (.ret 0 (.inr (.inl (v4,v5,j11))))
def aJG(a0:ByteArray):TP (Int×(List ByteArray)×Bool):=.ch 4 [40000] (aBJ a0) fun r1=>.cv 0 [.rn 40000 11] <| .cv 2 [.rn 11 30000] <| .ch 0 [] (Xl r1) fun r2=>.ch 2 [] (Wi (aF.mk r2.2.1 r2.2.2)) fun r3=>.cv 3 [.th 8 8 9 1 (eF mJ ([]:List ByteArray))] <| .lp 0 (fun (v4,v5,v6,v7)=>⟨[(5,.ptr 30000 0),(6,tI r2.1),(7,tI r3.1),(8,.own 8),(9,tI v7)],[(8,.arr 9 1 (v6.length) (eF mJ v6)),(30000,.box [.t (.str v4),tB v5])]⟩) (fun (b8,b9,b10)=>⟨[(5,.ptr 30000 0),(6,tI r2.1),(7,tI r3.1),(8,.own 8)],[(8,.arr 9 1 (b10.length) (eF mJ b10)),(30000,.box [.t (.str b8),tB b9])]⟩) 0 (r3.2.1,r3.2.2,([]:List ByteArray),0) (nT r2 r3) fun (b8,b9,b10)=>.ch 3 [] (Wx (aF.mk b8 b9)) fun r15=>.jn 1 0 (fun (j16,j17)=>⟨[(2,tI r2.1),(3,.own 3),(4,tB j17)],[(3,.arr 9 1 (j16.length) (eF mJ j16))]⟩) (.ite 0 r15 (.cv 8 [.rn 8 3] <| .ret 0 (b10,(b10.length:Int)==r3.1)) (.cv 8 [.rn 8 3] <| .ret 0 (b10,false))) fun (j16,j17)=>.cv 0 [.fr 3 (eL mJ j16)] <| .ret 0 (r2.1,j16,j17)
def Xv(a0:ByteArray):=(aJG a0).den
theorem aGQ(a0:ByteArray):Con Tryz.prog 37 [.t (.str a0)] (Xv a0) (fun y=>.tup [tI y.1,.t (eL mJ (y.2.1)),tB y.2.2]):=con Tryz.func37 aX (aJG a0)
def aNQ(a0:Int):TP ByteArray:=.ite 3 (decide (a0<0)) (.ret 1 (⟨#[]⟩)) (.ca 1 (Kw a0) fun r1=>.ret 1 r1)
def aRG(a0:Int):=(aNQ a0).den
theorem aFO(a0:Int):Con Tryz.prog 39 [tI a0] (aRG a0) (fun y=>.t (.str y)):=con Tryz.func39 aX (aNQ a0)
def T56(a0:ByteArray):TP ByteArray:=.ca 4 (De (i64.wrap (0-((a0:ByteArray).size:Int)))) fun r1=>.grd 1 (((r1.size+((⟨#[58]⟩):ByteArray).size:Nat):Int)<=9223372036854775807) <| .grd 2 (((((r1++((⟨#[58]⟩):ByteArray)):ByteArray).size+a0.size:Nat):Int)<=9223372036854775807) <| .grd 1 (((((((r1++((⟨#[58]⟩):ByteArray)):ByteArray)++a0):ByteArray).size+((⟨#[44]⟩):ByteArray).size:Nat):Int)<=9223372036854775807) <| .ret 1 (((((r1++((⟨#[58]⟩):ByteArray)):ByteArray)++a0):ByteArray)++((⟨#[44]⟩):ByteArray))
def G56(a0:ByteArray):=(T56 a0).den
theorem aPG(a0:ByteArray):Con Tryz.prog 40 [.t (.str a0)] (G56 a0) (fun y=>.t (.str y)):=con Tryz.func40 aX (T56 a0)
def Cm(a1:aD)(a2:List aV)(r2:Int×(List ByteArray)×Bool):(ByteArray×Int)->TP ((ByteArray×Int)⊕((ByteArray)⊕(ByteArray×Int)))
 | (v7,v8)=>.ite 5 (decide (v8<a1.Nodes.length)) (.grd 5 (0<=v8/\v8<a1.Nodes.length) <| .ca 1 (Bz (a1.Nodes.getD v8.toNat default)) fun r10=>.jn 0 0 (fun j11=>⟨[(2,.t (eL aW a2)),(5,.ptr 5 0),(12,.t (eL mJ (r2.2.1))),(14,.t (.str v7)),(15,tI v8),(16,.t (.str j11))],[(5,.box ((aH a1).map .t))]⟩) (.ite 0 r10 (.grd 4 (0<=v8/\v8<a2.length) <| .grd 4 (0<=(if ((a2.getD v8.toNat default).Old)>(0:Int) then ((a2.getD v8.toNat default).Old) else (0:Int))/\(if ((a2.getD v8.toNat default).Old)>(0:Int) then ((a2.getD v8.toNat default).Old) else (0:Int))<r2.2.1.length) <| .ret 2 (r2.2.1.getD (if ((a2.getD v8.toNat default).Old)>(0:Int) then ((a2.getD v8.toNat default).Old) else (0:Int)).toNat default)) (.ret 0 (⟨#[]⟩))) fun j11=>.ca 2 (aPG j11) fun r12=>.grd 1 (((v7.size+r12.size:Nat):Int)<=9223372036854775807) <| .ret 4 (.inl (v7++r12,i64.wrap (v8+1)))) (.ret 0 (.inr (.inl v7)))
def aBH(a0:aD)(a1:aD)(a2:List aV)(a3:ByteArray):TP (ByteArray×Int):=.ca 7 (Oz a0 a1 a2) fun r1=>.ite 3 (r1 != 0) (.ret 3 (⟨#[]⟩,r1)) (.ca 1 (aGQ a3) fun r2=>.jn 10 0 (fun j3=>⟨[(2,.t (eL aW a2)),(5,.ptr 5 0),(11,tI r2.1),(12,.t (eL mJ (r2.2.1))),(39,tB j3)],[(5,.box ((aH a1).map .t))]⟩) (.ite 0 (!r2.2.2) (.ret 7 true) (.ret 7 ((r2.2.1.length:Int) != (a0.Nodes.length:Int)))) fun j3=>.ite 0 j3 (.ret 2 (⟨#[]⟩,2)) (.ca 2 (Qo a1 a2) fun r4=>.ite 2 (decide ((r4.length:Int)>0)) (.ret 2 (⟨#[]⟩,4)) (.dc 1 [tI r2.1] (Kw r2.1) fun r5=>.dc 5 [tI (a1.Nodes.length:Int)] (aFO (a1.Nodes.length:Int)) fun r6=>.dg 6 (((r5.size+r6.size:Nat):Int)<=9223372036854775807) <| .dr 0 0 [(5,false,[])] [2,5,11,12,39,40,41,42,43,44] <| .lp 1 (fun (v7,v8)=>⟨[(2,.t (eL aW a2)),(5,.ptr 5 0),(12,.t (eL mJ (r2.2.1))),(14,.t (.str v7)),(15,tI v8)],[(5,.box ((aH a1).map .t))]⟩) (fun b9=>⟨[(14,.t (.str b9))],[]⟩) 0 (r5++r6,0) (Cm a1 a2 r2) fun b9=>.ret 3 (b9,0))))
def zH(a0:aD)(a1:aD)(a2:List aV)(a3:ByteArray):=(aBH a0 a1 a2 a3).den
theorem Rb(a0:aD)(a1:aD)(a2:List aV)(a3:ByteArray):Con Tryz.prog 14 [.t (bJ a0),.t (bJ a1),.t (eL aW a2),.t (.str a3)] (zH a0 a1 a2 a3) (fun y=>.tup [.t (.str (y.1)),tI y.2]):=con Tryz.func14 aX (aBH a0 a1 a2 a3)
def aMH:TP aG:=.bs 2 false dH [(cU.mk (⟨#[110]⟩) 0 (⟨#[]⟩))] <| .cv 2 [.bx 0 [.int .i64 0,eL aQ ([]:List Int),.str (⟨#[115]⟩),.int .i64 1,.lz (.exprs ([]:List aE)),.int .i64 0,.int .i64 0,.int .i64 0,eL aQ ([]:List Int),eL aQ ([]:List Int),.int .i64 0,.int .i64 0,.int .i64 0,eL iY ([]:List fM),eL oE ([]:List gZ),eL dH [(cU.mk (⟨#[110]⟩) 0 (⟨#[]⟩))]]] <| .ret 0 (aG.mk 0 ([]:List Int) (⟨#[115]⟩) 1 ([]:List aE) 0 0 0 ([]:List Int) ([]:List Int) 0 0 0 ([]:List fM) ([]:List gZ) [(cU.mk (⟨#[110]⟩) 0 (⟨#[]⟩))])
def aLV:=aMH.den
theorem Dq:Con Tryz.prog 15 [] aLV (fun y=>.t (cD y)):=con Tryz.func15 aX (aMH)
def aGV(a1:List fM):((List cU)×Int)->TP (((List cU)×Int)⊕((List cU)⊕aG))
 | (v1,v2)=>.ite 4 (decide (v2<a1.length)) (.grd 4 (0<=v2/\v2<a1.length) <| .bs 3 true dH [(cU.mk ((a1.getD v2.toNat default).Name) 0 (⟨#[]⟩))] <| .grd 1 ((v1.length+[(cU.mk ((a1.getD v2.toNat default).Name) 0 (⟨#[]⟩))].length)*40<=140737488355328) <| .cv 0 [.ap 23 dH v1 [(cU.mk ((a1.getD v2.toNat default).Name) 0 (⟨#[]⟩))]] <| .cv 4 [.rn 23 5] <| .ret 0 (.inl (v1++[(cU.mk ((a1.getD v2.toNat default).Name) 0 (⟨#[]⟩))],i64.wrap (v2+1)))) (.ret 0 (.inr (.inl v1)))
def aHO(a0:Int)(a1:List fM):TP aG:=.bs 2 true dH [(cU.mk (⟨#[98,101,103,105,110]⟩) 0 (⟨#[]⟩))] <| .cv 2 [.rn 8 5] <| .lp 0 (fun (v1,v2)=>⟨[(0,tI a0),(1,.t (eL iY a1)),(4,.ptr 4 0),(5,.own 5),(6,tI v2)],[(4,.box [tI 0,.nil,.t (.str (⟨#[]⟩)),tI 0,.nil,tI 0,tI 0,tI 0,.nil,.nil,tI 0,tI 0,tI 0,.nil,.nil,.nil]),(5,.arr 77 3 (v1.length) (eF dH v1))]⟩) (fun b3=>⟨[(0,tI a0),(1,.t (eL iY a1)),(4,.ptr 4 0),(5,.own 5)],[(4,.box [tI 0,.nil,.t (.str (⟨#[]⟩)),tI 0,.nil,tI 0,tI 0,tI 0,.nil,.nil,tI 0,tI 0,tI 0,.nil,.nil,.nil]),(5,.arr 77 3 (b3.length) (eF dH b3))]⟩) 0 ([(cU.mk (⟨#[98,101,103,105,110]⟩) 0 (⟨#[]⟩))],0) (aGV a1) fun b3=>.bs 1 true aQ [a0] <| .cv 4 [.fr 25 (eL aQ [a0]),.fr 5 (eL dH b3),.bx 4 [.int .i64 4,eL aQ [a0],.str (⟨#[]⟩),.int .i64 0,.lz (.exprs ([]:List aE)),.int .i64 0,.int .i64 60,.int .i64 0,eL aQ ([]:List Int),eL aQ ([]:List Int),.int .i64 0,.int .i64 0,.int .i64 0,eL iY a1,eL oE ([]:List gZ),eL dH b3]] <| .ret 0 (aG.mk 4 [a0] (⟨#[]⟩) 0 ([]:List aE) 0 60 0 ([]:List Int) ([]:List Int) 0 0 0 a1 ([]:List gZ) b3)
def Wp(a0:Int)(a1:List fM):=(aHO a0 a1).den
theorem Rs(a0:Int)(a1:List fM):Con Tryz.prog 16 [tI a0,.t (eL iY a1)] (Wp a0 a1) (fun y=>.t (cD y)):=con Tryz.func16 aX (aHO a0 a1)
end
end Go.PL
