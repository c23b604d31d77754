/-
  Parts: The data types of the seat, as the program logic reads them, and its type table. Printed by a program of our own. Rows, and arrays of rows, that are lent to a call of a function of data where the order is open. Own work. Structs as arguments of calls in regions of open order. Own work. Functions of Go's library, given to the trees by hand. Own work; two walks are lines of the shelf's, turned to this program. (*strings.Builder).WriteString, exactly. Own work; the walk is lines of the shelf's, turned to this program. Contracts of functions of Go's library, for the trees. Own work. Contracts of functions of Go's library, for the trees: WriteString. Own work. The contracts of the library that this seat leans on, as the kit's tools lay them (lay-shelf, lay-plain), cut down. Contracts of the library and of functions that defer, in the form of trees (seat r7). Own work. Functions of the seat as trees, and that the program computes them. Printed by a program of our own.  Functions of the seat as trees, and that the program computes them. Printed by a program of our own. Functions of the seat as trees, and that the program computes them. Printed by a program of our own.
-/
import Derived.Test.YtkgmkgldfjdlaaaGreatDoorMd
import Derived.Test.YtkgmkgldfjdlaaaGreatDoorProg
import Derived.Shelf.Strings.Builder1
import Derived.Shelf.Strconv.Itoa0
import Derived.Shelf.Strconv.Itoa1
import Derived.Shelf.LaysM
import Derived.Shelf.Strconv.Itoa2
import Derived.Shelf.Strconv.Itoa3
import Derived.Shelf.Strconv.Itoa4
import Derived.Shelf.Strconv.ParseIntEmpty
import Derived.Shelf.Strconv.Clone
import Derived.Shelf.Strconv.SyntaxError
import Derived.Shelf.LaysC
import Derived.Shelf.Strconv.ToError
import Derived.Shelf.Strconv.Lower
import Derived.Shelf.Strconv.ParseUint10
import Derived.Shelf.Strconv.ParseUint10Empty
import Derived.Shelf.Strconv.ParseUint10Any
import Derived.Shelf.Strconv.ParseInt10
import Derived.Shelf.Strconv.RangeError
import Derived.Shelf.Strconv.ToErrorRange
import Derived.Shelf.Strconv.ParseUintEmpty
import Derived.Shelf.Strconv.ParseUint10b64
import Derived.Shelf.Strconv.ParseUint10b32
import Derived.Shelf.Strconv.ParseUint10b16
import Derived.Shelf.Strconv.ParseUint10b8
import Derived.Shelf.Strconv.ParseUint10At
import Derived.Shelf.Strconv.ParseInt10At64
import Derived.Shelf.Strconv.ParseInt10At32
import Derived.Shelf.Strconv.ParseInt10At16
import Derived.Shelf.Strconv.ParseInt10At8
import Derived.Shelf.Strconv.ParseInt10All
import Derived.Shelf.Strconv.ParseIntPublic10
import Derived.Shelf.Strings.Search1
import Derived.Shelf.Strings.Search2
import Derived.Shelf.Strings.Search3
import Derived.Shelf.Strings.Count
import Derived.Shelf.Strings.Shaped
import Derived.Shelf.Strings.Prefix
import Derived.Shelf.Strings.Split
import Derived.Shelf.Strings.Fields
import Derived.Shelf.Unicode.Latin
import Derived.Shelf.Unicode.DecodeSlow
import Derived.Recover
import Derived.RangeFuncRecord
import Derived.RangeFuncLeaves
set_option maxHeartbeats 4000000
namespace Go.PL
open Go
def bP(x:aM):T:=.agg (bQ x)
structure aF where
 Node:Int
 Rule:Int
 N:Int
 deriving Inhabited
def aV(x:aF):List T:=[.int .i64 (x.Node),.int .i64 (x.Rule),.int .i64 (x.N)]
def Ev(x:aF):T:=.agg (aV x)
structure aY where
 Name:ByteArray
 Type_:Int
 Unit:ByteArray
 deriving Inhabited
def bK(x:aY):List T:=[.str (x.Name),.int .i64 (x.Type_),.str (x.Unit)]
def Tq(x:aY):T:=.agg (bK x)
def bR(x:List Int):List T:=[eL aD (x)]
structure dG where
 Kind:Int
 Col:Int
 Name:ByteArray
 deriving Inhabited
def cD(x:dG):List T:=[.int .i64 (x.Kind),.int .i64 (x.Col),.str (x.Name)]
structure cM where
 Pred:aM
 Rep:Int
 deriving Inhabited
def cG(x:cM):List T:=bQ (x.Pred)++[.int .i64 (x.Rep)]
def Pn(x:cM):T:=.agg (cG x)
structure aG where
 Op:Int
 In:List Int
 Source:ByteArray
 Schema:Int
 Exprs:List aM
 Kind:Int
 Size:Int
 Step:Int
 Key:List Int
 Key2:List Int
 Before:Int
 After:Int
 Keep:Int
 Aggs:List dG
 Seq:List cM
 Cols:List aY
 deriving Inhabited
def aW(x:aG):List T:=[.int .i64 (x.Op),eL aD (x.In),.str (x.Source),.int .i64 (x.Schema),.lz (.exprs (x.Exprs)),.int .i64 (x.Kind),.int .i64 (x.Size),.int .i64 (x.Step),eL aD (x.Key),eL aD (x.Key2),.int .i64 (x.Before),.int .i64 (x.After),.int .i64 (x.Keep),eL cD (x.Aggs),eL cG (x.Seq),eL bK (x.Cols)]
def eH(x:aG):T:=.agg (aW x)
def fS(x:List aG):List T:=[eL aW (x)]
structure bF where
 Name:ByteArray
 Params:List Int
 Result:Int
 Body:aM
 deriving Inhabited
def bG(x:bF):List T:=[.str (x.Name)]++[eL aD (x.Params)]++[.int .i64 (x.Result)]++bQ (x.Body)
def Hr(x:bF):T:=.agg (bG x)
structure aS where
 Funcs:List bF
 Nodes:List aG
 deriving Inhabited
def bE(x:aS):List T:=[eL bG (x.Funcs),eL aW (x.Nodes)]
def eV(x:aS):T:=.agg (bE x)
structure fM where
 p_:aS
 k_:Int
 n_:Int
 node_:aG
 deriving Inhabited
def dX(x:fM):List T:=bE (x.p_)++[.int .i64 (x.k_)]++[.int .i64 (x.n_)]++aW (x.node_)
structure dC where
 funcs_:List bF
 cols_:List Int
 params_:List Int
 deriving Inhabited
def lZ(x:dC):List T:=[eL bG (x.funcs_),eL aD (x.cols_),eL aD (x.params_)]
def iO(x:dC):T:=.agg (lZ x)
def tiL:List (Nat×bV):=[
 (2,⟨1,8,.int .i64,[.t (.int .i64 0)],0,0⟩),
 (3,⟨1,8,.int .i64,[.t (.int .i64 0)],0,0⟩),
 (4,⟨1,1,.bool,[.t (.bool false)],0,0⟩),
 (5,⟨1,1,.int .u8,[.t (.int .u8 0)],0,0⟩),
 (9,⟨1,16,.str,[.t (.str ⟨#[]⟩)],0,0⟩),
 (12,⟨1,8,.int .u64,[.t (.int .u64 0)],0,0⟩),
 (15,⟨1,8,.ptr 260,[.np],0,0⟩),
 (16,⟨1,8,.ptr 263,[.np],0,0⟩),
 (17,⟨1,8,.ptr 271,[.np],0,0⟩),
 (20,⟨1,16,.ifc,[.lit .nilIface],0,0⟩),
 (21,⟨1,4,.int .i32,[.t (.int .i32 0)],0,0⟩),
 (22,⟨1,24,.sl 25,[.nil],0,0⟩),
 (25,⟨3,24,.st [(0,3),(1,3),(2,3)],[.t (.int .i64 0),.t (.int .i64 0),.t (.int .i64 0)],3,0⟩),
 (32,⟨3,40,.st [(0,9),(1,3),(2,9)],[.t (.str ⟨#[]⟩),.t (.int .i64 0),.t (.str ⟨#[]⟩)],0,38⟩),
 (33,⟨1,24,.sl 32,[.nil],0,0⟩),
 (34,⟨1,24,.sl 3,[.nil],0,0⟩),
 (35,⟨1,24,.sl 41,[.nil],0,0⟩),
 (36,⟨1,24,.sl 129,[.nil],0,0⟩),
 (37,⟨1,24,.sl 138,[.nil],0,0⟩),
 (39,⟨16,248,.st [(0,3),(1,34),(2,9),(3,3),(4,35),(5,3),(6,3),(7,3),(8,34),(9,34),(10,3),(11,3),(12,3),(13,36),(14,37),(15,33)],[.t (.int .i64 0),.nil,.t (.str ⟨#[]⟩),.t (.int .i64 0),.nil,.t (.int .i64 0),.t (.int .i64 0),.t (.int .i64 0),.nil,.nil,.t (.int .i64 0),.t (.int .i64 0),.t (.int .i64 0),.nil,.nil,.nil],0,0⟩),
 (41,⟨4,56,.st [(0,3),(1,3),(2,9),(3,35)],[.t (.int .i64 0),.t (.int .i64 0),.t (.str ⟨#[]⟩),.nil],0,0⟩),
 (43,⟨1,24,.sl 39,[.nil],0,0⟩),
 (44,⟨1,24,.sl 93,[.nil],0,0⟩),
 (46,⟨2,48,.st [(0,44),(1,43)],[.nil,.nil],0,0⟩),
 (47,⟨1,8,.int .i64,[.t (.int .i64 0)],0,0⟩),
 (50,⟨1,8,.ptr 53,[.np],0,0⟩),
 (51,⟨1,24,.sl 5,[.nil],0,0⟩),
 (53,⟨2,32,.st [(0,50),(1,51)],[.np,.nil],0,0⟩),
 (55,⟨1,16,.ifc,[.lit .nilIface],0,0⟩),
 (58,⟨1,24,.sl 9,[.nil],0,0⟩),
 (71,⟨1,8,.ptr 5,[.np],0,0⟩),
 (80,⟨1,8,.other,[.lit .nilFunc],0,0⟩),
 (82,⟨0,0,.st [],[],0,0⟩),
 (84,⟨1,8,.other,[.lit .nilFunc],0,0⟩),
 (86,⟨1,8,.ptr 90,[.np],0,0⟩),
 (87,⟨9,72,.arr 9 84,[.lit .nilFunc,.lit .nilFunc,.lit .nilFunc,.lit .nilFunc,.lit .nilFunc,.lit .nilFunc,.lit .nilFunc,.lit .nilFunc,.lit .nilFunc],0,0⟩),
 (90,⟨20,312,.st [(0,46),(2,3),(3,3),(4,39)],[.nil,.nil,.t (.int .i64 0),.t (.int .i64 0),.t (.int .i64 0),.nil,.t (.str ⟨#[]⟩),.t (.int .i64 0),.nil,.t (.int .i64 0),.t (.int .i64 0),.t (.int .i64 0),.nil,.nil,.t (.int .i64 0),.t (.int .i64 0),.t (.int .i64 0),.nil,.nil,.nil],0,0⟩),
 (93,⟨7,104,.st [(0,9),(1,34),(2,3),(3,41)],[.t (.str ⟨#[]⟩),.nil,.t (.int .i64 0),.t (.int .i64 0),.t (.int .i64 0),.t (.str ⟨#[]⟩),.nil],0,0⟩),
 (95,⟨1,8,.other,[.lit .nilFunc],0,0⟩),
 (96,⟨1,8,.other,[.lit .nilFunc],0,0⟩),
 (98,⟨1,8,.other,[.lit .nilFunc],0,0⟩),
 (101,⟨256,256,.arr 256 5,[.t (.int .u8 0),.t (.int .u8 0),.t (.int .u8 0),.t (.int .u8 0),.t (.int .u8 0),.t (.int .u8 0),.t (.int .u8 0),.t (.int .u8 0),.t (.int .u8 0),.t (.int .u8 0),.t (.int .u8 0),.t (.int .u8 0),.t (.int .u8 0),.t (.int .u8 0),.t (.int .u8 0),.t (.int .u8 0),.t (.int .u8 0),.t (.int .u8 0),.t (.int .u8 0),.t (.int .u8 0),.t (.int .u8 0),.t (.int .u8 0),.t (.int .u8 0),.t (.int .u8 0),.t (.int .u8 0),.t (.int .u8 0),.t (.int .u8 0),.t (.int .u8 0),.t (.int .u8 0),.t (.int .u8 0),.t (.int .u8 0),.t (.int .u8 0),.t (.int .u8 0),.t (.int .u8 0),.t (.int .u8 0),.t (.int .u8 0),.t (.int .u8 0),.t (.int .u8 0),.t (.int .u8 0),.t (.int .u8 0),.t (.int .u8 0),.t (.int .u8 0),.t (.int .u8 0),.t (.int .u8 0),.t (.int .u8 0),.t (.int .u8 0),.t (.int .u8 0),.t (.int .u8 0),.t (.int .u8 0),.t (.int .u8 0),.t (.int .u8 0),.t (.int .u8 0),.t (.int .u8 0),.t (.int .u8 0),.t (.int .u8 0),.t (.int .u8 0),.t (.int .u8 0),.t (.int .u8 0),.t (.int .u8 0),.t (.int .u8 0),.t (.int .u8 0),.t (.int .u8 0),.t (.int .u8 0),.t (.int .u8 0),.t (.int .u8 0),.t (.int .u8 0),.t (.int .u8 0),.t (.int .u8 0),.t (.int .u8 0),.t (.int .u8 0),.t (.int .u8 0),.t (.int .u8 0),.t (.int .u8 0),.t (.int .u8 0),.t (.int .u8 0),.t (.int .u8 0),.t (.int .u8 0),.t (.int .u8 0),.t (.int .u8 0),.t (.int .u8 0),.t (.int .u8 0),.t (.int .u8 0),.t (.int .u8 0),.t (.int .u8 0),.t (.int .u8 0),.t (.int .u8 0),.t (.int .u8 0),.t (.int .u8 0),.t (.int .u8 0),.t (.int .u8 0),.t (.int .u8 0),.t (.int .u8 0),.t (.int .u8 0),.t (.int .u8 0),.t (.int .u8 0),.t (.int .u8 0),.t (.int .u8 0),.t (.int .u8 0),.t (.int .u8 0),.t (.int .u8 0),.t (.int .u8 0),.t (.int .u8 0),.t (.int .u8 0),.t (.int .u8 0),.t (.int .u8 0),.t (.int .u8 0),.t (.int .u8 0),.t (.int .u8 0),.t (.int .u8 0),.t (.int .u8 0),.t (.int .u8 0),.t (.int .u8 0),.t (.int .u8 0),.t (.int .u8 0),.t (.int .u8 0),.t (.int .u8 0),.t (.int .u8 0),.t (.int .u8 0),.t (.int .u8 0),.t (.int .u8 0),.t (.int .u8 0),.t (.int .u8 0),.t (.int .u8 0),.t (.int .u8 0),.t (.int .u8 0),.t (.int .u8 0),.t (.int .u8 0),.t (.int .u8 0),.t (.int .u8 0),.t (.int .u8 0),.t (.int .u8 0),.t (.int .u8 0),.t (.int .u8 0),.t (.int .u8 0),.t (.int .u8 0),.t (.int .u8 0),.t (.int .u8 0),.t (.int .u8 0),.t (.int .u8 0),.t (.int .u8 0),.t (.int .u8 0),.t (.int .u8 0),.t (.int .u8 0),.t (.int .u8 0),.t (.int .u8 0),.t (.int .u8 0),.t (.int .u8 0),.t (.int .u8 0),.t (.int .u8 0),.t (.int .u8 0),.t (.int .u8 0),.t (.int .u8 0),.t (.int .u8 0),.t (.int .u8 0),.t (.int .u8 0),.t (.int .u8 0),.t (.int .u8 0),.t (.int .u8 0),.t (.int .u8 0),.t (.int .u8 0),.t (.int .u8 0),.t (.int .u8 0),.t (.int .u8 0),.t (.int .u8 0),.t (.int .u8 0),.t (.int .u8 0),.t (.int .u8 0),.t (.int .u8 0),.t (.int .u8 0),.t (.int .u8 0),.t (.int .u8 0),.t (.int .u8 0),.t (.int .u8 0),.t (.int .u8 0),.t (.int .u8 0),.t (.int .u8 0),.t (.int .u8 0),.t (.int .u8 0),.t (.int .u8 0),.t (.int .u8 0),.t (.int .u8 0),.t (.int .u8 0),.t (.int .u8 0),.t (.int .u8 0),.t (.int .u8 0),.t (.int .u8 0),.t (.int .u8 0),.t (.int .u8 0),.t (.int .u8 0),.t (.int .u8 0),.t (.int .u8 0),.t (.int .u8 0),.t (.int .u8 0),.t (.int .u8 0),.t (.int .u8 0),.t (.int .u8 0),.t (.int .u8 0),.t (.int .u8 0),.t (.int .u8 0),.t (.int .u8 0),.t (.int .u8 0),.t (.int .u8 0),.t (.int .u8 0),.t (.int .u8 0),.t (.int .u8 0),.t (.int .u8 0),.t (.int .u8 0),.t (.int .u8 0),.t (.int .u8 0),.t (.int .u8 0),.t (.int .u8 0),.t (.int .u8 0),.t (.int .u8 0),.t (.int .u8 0),.t (.int .u8 0),.t (.int .u8 0),.t (.int .u8 0),.t (.int .u8 0),.t (.int .u8 0),.t (.int .u8 0),.t (.int .u8 0),.t (.int .u8 0),.t (.int .u8 0),.t (.int .u8 0),.t (.int .u8 0),.t (.int .u8 0),.t (.int .u8 0),.t (.int .u8 0),.t (.int .u8 0),.t (.int .u8 0),.t (.int .u8 0),.t (.int .u8 0),.t (.int .u8 0),.t (.int .u8 0),.t (.int .u8 0),.t (.int .u8 0),.t (.int .u8 0),.t (.int .u8 0),.t (.int .u8 0),.t (.int .u8 0),.t (.int .u8 0),.t (.int .u8 0),.t (.int .u8 0),.t (.int .u8 0),.t (.int .u8 0),.t (.int .u8 0),.t (.int .u8 0),.t (.int .u8 0),.t (.int .u8 0),.t (.int .u8 0),.t (.int .u8 0),.t (.int .u8 0),.t (.int .u8 0),.t (.int .u8 0),.t (.int .u8 0),.t (.int .u8 0)],0,0⟩),
 (103,⟨1,8,.other,[.lit .nilFunc],0,0⟩),
 (108,⟨1,24,.sl 34,[.nil],0,0⟩),
 (109,⟨1,8,.other,[.lit .nilFunc],0,0⟩),
 (121,⟨1,8,.other,[.lit .nilFunc],0,0⟩),
 (124,⟨1,8,.other,[.lit .nilFunc],0,0⟩),
 (129,⟨3,32,.st [(0,3),(1,3),(2,9)],[.t (.int .i64 0),.t (.int .i64 0),.t (.str ⟨#[]⟩)],0,37⟩),
 (133,⟨8,64,.arr 8 3,[.t (.int .i64 0),.t (.int .i64 0),.t (.int .i64 0),.t (.int .i64 0),.t (.int .i64 0),.t (.int .i64 0),.t (.int .i64 0),.t (.int .i64 0)],8,0⟩),
 (138,⟨5,64,.st [(0,41),(4,3)],[.t (.int .i64 0),.t (.int .i64 0),.t (.str ⟨#[]⟩),.nil,.t (.int .i64 0)],0,0⟩),
 (139,⟨1,8,.other,[.lit .nilFunc],0,0⟩),
 (140,⟨1,24,.sl 142,[.nil],0,0⟩),
 (142,⟨2,16,.st [(0,3),(1,3)],[.t (.int .i64 0),.t (.int .i64 0)],2,0⟩),
 (143,⟨1,4,.int .u32,[.t (.int .u32 0)],0,0⟩),
 (145,⟨1,8,.ptr 188,[.np],0,0⟩),
 (152,⟨1,8,.int .u64,[.t (.int .u64 0)],0,0⟩),
 (155,⟨1,8,.int .u64,[.t (.int .u64 0)],0,0⟩),
 (156,⟨1,8,.ptr 199,[.np],0,0⟩),
 (159,⟨24,24,.arr 24 5,[.t (.int .u8 0),.t (.int .u8 0),.t (.int .u8 0),.t (.int .u8 0),.t (.int .u8 0),.t (.int .u8 0),.t (.int .u8 0),.t (.int .u8 0),.t (.int .u8 0),.t (.int .u8 0),.t (.int .u8 0),.t (.int .u8 0),.t (.int .u8 0),.t (.int .u8 0),.t (.int .u8 0),.t (.int .u8 0),.t (.int .u8 0),.t (.int .u8 0),.t (.int .u8 0),.t (.int .u8 0),.t (.int .u8 0),.t (.int .u8 0),.t (.int .u8 0),.t (.int .u8 0)],0,0⟩),
 (166,⟨3,72,.st [(0,44),(1,34),(2,34)],[.nil,.nil,.nil],0,0⟩),
 (168,⟨7,56,.arr 7 3,[.t (.int .i64 0),.t (.int .i64 0),.t (.int .i64 0),.t (.int .i64 0),.t (.int .i64 0),.t (.int .i64 0),.t (.int .i64 0)],7,0⟩),
 (183,⟨1,24,.sl 33,[.nil],0,0⟩),
 (185,⟨1,24,.sl 191,[.nil],0,0⟩),
 (186,⟨1,24,.sl 194,[.nil],0,0⟩),
 (188,⟨3,56,.st [(0,185),(1,186),(2,3)],[.nil,.nil,.t (.int .i64 0)],0,0⟩),
 (189,⟨1,2,.int .u16,[.t (.int .u16 0)],0,0⟩),
 (191,⟨3,6,.st [(0,189),(1,189),(2,189)],[.t (.int .u16 0),.t (.int .u16 0),.t (.int .u16 0)],0,0⟩),
 (194,⟨3,12,.st [(0,143),(1,143),(2,143)],[.t (.int .u32 0),.t (.int .u32 0),.t (.int .u32 0)],0,0⟩),
 (199,⟨3,48,.st [(0,9),(1,9),(2,55)],[.t (.str ⟨#[]⟩),.t (.str ⟨#[]⟩),.lit .nilIface],0,0⟩),
 (202,⟨20,160,.arr 20 152,[.t (.int .u64 0),.t (.int .u64 0),.t (.int .u64 0),.t (.int .u64 0),.t (.int .u64 0),.t (.int .u64 0),.t (.int .u64 0),.t (.int .u64 0),.t (.int .u64 0),.t (.int .u64 0),.t (.int .u64 0),.t (.int .u64 0),.t (.int .u64 0),.t (.int .u64 0),.t (.int .u64 0),.t (.int .u64 0),.t (.int .u64 0),.t (.int .u64 0),.t (.int .u64 0),.t (.int .u64 0)],0,0⟩),
 (203,⟨65,65,.arr 65 5,[.t (.int .u8 0),.t (.int .u8 0),.t (.int .u8 0),.t (.int .u8 0),.t (.int .u8 0),.t (.int .u8 0),.t (.int .u8 0),.t (.int .u8 0),.t (.int .u8 0),.t (.int .u8 0),.t (.int .u8 0),.t (.int .u8 0),.t (.int .u8 0),.t (.int .u8 0),.t (.int .u8 0),.t (.int .u8 0),.t (.int .u8 0),.t (.int .u8 0),.t (.int .u8 0),.t (.int .u8 0),.t (.int .u8 0),.t (.int .u8 0),.t (.int .u8 0),.t (.int .u8 0),.t (.int .u8 0),.t (.int .u8 0),.t (.int .u8 0),.t (.int .u8 0),.t (.int .u8 0),.t (.int .u8 0),.t (.int .u8 0),.t (.int .u8 0),.t (.int .u8 0),.t (.int .u8 0),.t (.int .u8 0),.t (.int .u8 0),.t (.int .u8 0),.t (.int .u8 0),.t (.int .u8 0),.t (.int .u8 0),.t (.int .u8 0),.t (.int .u8 0),.t (.int .u8 0),.t (.int .u8 0),.t (.int .u8 0),.t (.int .u8 0),.t (.int .u8 0),.t (.int .u8 0),.t (.int .u8 0),.t (.int .u8 0),.t (.int .u8 0),.t (.int .u8 0),.t (.int .u8 0),.t (.int .u8 0),.t (.int .u8 0),.t (.int .u8 0),.t (.int .u8 0),.t (.int .u8 0),.t (.int .u8 0),.t (.int .u8 0),.t (.int .u8 0),.t (.int .u8 0),.t (.int .u8 0),.t (.int .u8 0),.t (.int .u8 0)],0,0⟩),
 (207,⟨1,8,.other,[.lit .nilFunc],0,0⟩),
 (211,⟨1,24,.sl 43,[.nil],0,0⟩),
 (214,⟨1,24,.sl 4,[.nil],0,0⟩),
 (217,⟨1,8,.mp 3 4,[.lit (.map none)],0,0⟩),
 (223,⟨2,2,.st [(0,5),(1,5)],[.t (.int .u8 0),.t (.int .u8 0)],0,0⟩),
 (224,⟨32,32,.arr 16 223,[.t (.int .u8 0),.t (.int .u8 0),.t (.int .u8 0),.t (.int .u8 0),.t (.int .u8 0),.t (.int .u8 0),.t (.int .u8 0),.t (.int .u8 0),.t (.int .u8 0),.t (.int .u8 0),.t (.int .u8 0),.t (.int .u8 0),.t (.int .u8 0),.t (.int .u8 0),.t (.int .u8 0),.t (.int .u8 0),.t (.int .u8 0),.t (.int .u8 0),.t (.int .u8 0),.t (.int .u8 0),.t (.int .u8 0),.t (.int .u8 0),.t (.int .u8 0),.t (.int .u8 0),.t (.int .u8 0),.t (.int .u8 0),.t (.int .u8 0),.t (.int .u8 0),.t (.int .u8 0),.t (.int .u8 0),.t (.int .u8 0),.t (.int .u8 0)],0,0⟩),
 (229,⟨1,16,.st [(0,9)],[.t (.str ⟨#[]⟩)],0,2⟩),
 (235,⟨32,32,.arr 32 5,[.t (.int .u8 0),.t (.int .u8 0),.t (.int .u8 0),.t (.int .u8 0),.t (.int .u8 0),.t (.int .u8 0),.t (.int .u8 0),.t (.int .u8 0),.t (.int .u8 0),.t (.int .u8 0),.t (.int .u8 0),.t (.int .u8 0),.t (.int .u8 0),.t (.int .u8 0),.t (.int .u8 0),.t (.int .u8 0),.t (.int .u8 0),.t (.int .u8 0),.t (.int .u8 0),.t (.int .u8 0),.t (.int .u8 0),.t (.int .u8 0),.t (.int .u8 0),.t (.int .u8 0),.t (.int .u8 0),.t (.int .u8 0),.t (.int .u8 0),.t (.int .u8 0),.t (.int .u8 0),.t (.int .u8 0),.t (.int .u8 0),.t (.int .u8 0)],0,0⟩),
 (236,⟨64,64,.arr 64 5,[.t (.int .u8 0),.t (.int .u8 0),.t (.int .u8 0),.t (.int .u8 0),.t (.int .u8 0),.t (.int .u8 0),.t (.int .u8 0),.t (.int .u8 0),.t (.int .u8 0),.t (.int .u8 0),.t (.int .u8 0),.t (.int .u8 0),.t (.int .u8 0),.t (.int .u8 0),.t (.int .u8 0),.t (.int .u8 0),.t (.int .u8 0),.t (.int .u8 0),.t (.int .u8 0),.t (.int .u8 0),.t (.int .u8 0),.t (.int .u8 0),.t (.int .u8 0),.t (.int .u8 0),.t (.int .u8 0),.t (.int .u8 0),.t (.int .u8 0),.t (.int .u8 0),.t (.int .u8 0),.t (.int .u8 0),.t (.int .u8 0),.t (.int .u8 0),.t (.int .u8 0),.t (.int .u8 0),.t (.int .u8 0),.t (.int .u8 0),.t (.int .u8 0),.t (.int .u8 0),.t (.int .u8 0),.t (.int .u8 0),.t (.int .u8 0),.t (.int .u8 0),.t (.int .u8 0),.t (.int .u8 0),.t (.int .u8 0),.t (.int .u8 0),.t (.int .u8 0),.t (.int .u8 0),.t (.int .u8 0),.t (.int .u8 0),.t (.int .u8 0),.t (.int .u8 0),.t (.int .u8 0),.t (.int .u8 0),.t (.int .u8 0),.t (.int .u8 0),.t (.int .u8 0),.t (.int .u8 0),.t (.int .u8 0),.t (.int .u8 0),.t (.int .u8 0),.t (.int .u8 0),.t (.int .u8 0),.t (.int .u8 0)],0,0⟩),
 (240,⟨1,8,.other,[.lit .nilFunc],0,0⟩),
 (244,⟨1,8,.int .i64,[.t (.int .i64 0)],0,0⟩),
 (250,⟨1,8,.int .u64,[.t (.int .u64 0)],0,0⟩),
 (254,⟨1,8,.ptr 3,[.np],0,0⟩),
 (256,⟨1,8,.ptr 250,[.np],0,0⟩)]
set_option maxRecDepth 100000 in
theorem aX:gE Proofs.Tryz.prog (look tiL):=
 Ns (aC (aO (by kernel_rfl) (by kernel_rfl) (by kernel_rfl)) (aC (aO (by kernel_rfl) (by kernel_rfl) (by kernel_rfl)) (aC (aO (by kernel_rfl) (by kernel_rfl) (by kernel_rfl)) (aC (aO (by kernel_rfl) (by kernel_rfl) (by kernel_rfl)) (aC (aO (by kernel_rfl) (by kernel_rfl) (by kernel_rfl)) (aC (aO (by kernel_rfl) (by kernel_rfl) (by kernel_rfl)) (aC (aO (by kernel_rfl) (by kernel_rfl) (by kernel_rfl)) (aC (aO (by kernel_rfl) (by kernel_rfl) (by kernel_rfl)) (aC (aO (by kernel_rfl) (by kernel_rfl) (by kernel_rfl)) (aC (aO (by kernel_rfl) (by kernel_rfl) (by kernel_rfl)) (aC (aO (by kernel_rfl) (by kernel_rfl) (by kernel_rfl)) (aC (aO (by kernel_rfl) (by kernel_rfl) (by kernel_rfl)) (aC (aO (by kernel_rfl) (by kernel_rfl) (by kernel_rfl)) (aC (aO (by kernel_rfl) (by kernel_rfl) (by kernel_rfl)) (aC (aO (by kernel_rfl) (by kernel_rfl) (by kernel_rfl)) (aC (aO (by kernel_rfl) (by kernel_rfl) (by kernel_rfl)) (aC (aO (by kernel_rfl) (by kernel_rfl) (by kernel_rfl)) (aC (aO (by kernel_rfl) (by kernel_rfl) (by kernel_rfl)) (aC (aO (by kernel_rfl) (by kernel_rfl) (by kernel_rfl)) (aC (aO (by kernel_rfl) (by kernel_rfl) (by kernel_rfl)) (aC (aO (by kernel_rfl) (by kernel_rfl) (by kernel_rfl)) (aC (aO (by kernel_rfl) (by kernel_rfl) (by kernel_rfl)) (aC (aO (by kernel_rfl) (by kernel_rfl) (by kernel_rfl)) (aC (aO (by kernel_rfl) (by kernel_rfl) (by kernel_rfl)) (aC (aO (by kernel_rfl) (by kernel_rfl) (by kernel_rfl)) (aC (aO (by kernel_rfl) (by kernel_rfl) (by kernel_rfl)) (aC (aO (by kernel_rfl) (by kernel_rfl) (by kernel_rfl)) (aC (aO (by kernel_rfl) (by kernel_rfl) (by kernel_rfl)) (aC (aO (by kernel_rfl) (by kernel_rfl) (by kernel_rfl)) (aC (aO (by kernel_rfl) (by kernel_rfl) (by kernel_rfl)) (aC (aO (by kernel_rfl) (by kernel_rfl) (by kernel_rfl)) (aC (aO (by kernel_rfl) (by kernel_rfl) (by kernel_rfl)) (aC (aO (by kernel_rfl) (by kernel_rfl) (by kernel_rfl)) (aC (aO (by kernel_rfl) (by kernel_rfl) (by kernel_rfl)) (aC (aO (by kernel_rfl) (by kernel_rfl) (by kernel_rfl)) (aC (aO (by kernel_rfl) (by kernel_rfl) (by kernel_rfl)) (aC (aO (by kernel_rfl) (by kernel_rfl) (by kernel_rfl)) (aC (aO (by kernel_rfl) (by kernel_rfl) (by kernel_rfl)) (aC (aO (by kernel_rfl) (by kernel_rfl) (by kernel_rfl)) (aC (aO (by kernel_rfl) (by kernel_rfl) (by kernel_rfl)) (aC (aO (by kernel_rfl) (by kernel_rfl) (by kernel_rfl)) (aC (aO (by kernel_rfl) (by kernel_rfl) (by kernel_rfl)) (aC (aO (by kernel_rfl) (by kernel_rfl) (by kernel_rfl)) (aC (aO (by kernel_rfl) (by kernel_rfl) (by kernel_rfl)) (aC (aO (by kernel_rfl) (by kernel_rfl) (by kernel_rfl)) (aC (aO (by kernel_rfl) (by kernel_rfl) (by kernel_rfl)) (aC (aO (by kernel_rfl) (by kernel_rfl) (by kernel_rfl)) (aC (aO (by kernel_rfl) (by kernel_rfl) (by kernel_rfl)) (aC (aO (by kernel_rfl) (by kernel_rfl) (by kernel_rfl)) (aC (aO (by kernel_rfl) (by kernel_rfl) (by kernel_rfl)) (aC (aO (by kernel_rfl) (by kernel_rfl) (by kernel_rfl)) (aC (aO (by kernel_rfl) (by kernel_rfl) (by kernel_rfl)) (aC (aO (by kernel_rfl) (by kernel_rfl) (by kernel_rfl)) (aC (aO (by kernel_rfl) (by kernel_rfl) (by kernel_rfl)) (aC (aO (by kernel_rfl) (by kernel_rfl) (by kernel_rfl)) (aC (aO (by kernel_rfl) (by kernel_rfl) (by kernel_rfl)) (aC (aO (by kernel_rfl) (by kernel_rfl) (by kernel_rfl)) (aC (aO (by kernel_rfl) (by kernel_rfl) (by kernel_rfl)) (aC (aO (by kernel_rfl) (by kernel_rfl) (by kernel_rfl)) (aC (aO (by kernel_rfl) (by kernel_rfl) (by kernel_rfl)) (aC (aO (by kernel_rfl) (by kernel_rfl) (by kernel_rfl)) (aC (aO (by kernel_rfl) (by kernel_rfl) (by kernel_rfl)) (aC (aO (by kernel_rfl) (by kernel_rfl) (by kernel_rfl)) (aC (aO (by kernel_rfl) (by kernel_rfl) (by kernel_rfl)) (aC (aO (by kernel_rfl) (by kernel_rfl) (by kernel_rfl)) (aC (aO (by kernel_rfl) (by kernel_rfl) (by kernel_rfl)) (aC (aO (by kernel_rfl) (by kernel_rfl) (by kernel_rfl)) (aC (aO (by kernel_rfl) (by kernel_rfl) (by kernel_rfl)) (aC (aO (by kernel_rfl) (by kernel_rfl) (by kernel_rfl)) (aC (aO (by kernel_rfl) (by kernel_rfl) (by kernel_rfl)) (aC (aO (by kernel_rfl) (by kernel_rfl) (by kernel_rfl)) (aC (aO (by kernel_rfl) (by kernel_rfl) (by kernel_rfl)) (aC (aO (by kernel_rfl) (by kernel_rfl) (by kernel_rfl)) (aC (aO (by kernel_rfl) (by kernel_rfl) (by kernel_rfl)) (aC (aO (by kernel_rfl) (by kernel_rfl) (by kernel_rfl)) (aC (aO (by kernel_rfl) (by kernel_rfl) (by kernel_rfl)) (aC (aO (by kernel_rfl) (by kernel_rfl) (by kernel_rfl)) (aC (aO (by kernel_rfl) (by kernel_rfl) (by kernel_rfl)) (aC (aO (by kernel_rfl) (by kernel_rfl) (by kernel_rfl)) (aC (aO (by kernel_rfl) (by kernel_rfl) (by kernel_rfl)) (aC (aO (by kernel_rfl) (by kernel_rfl) (by kernel_rfl)) (aC (aO (by kernel_rfl) (by kernel_rfl) (by kernel_rfl)) (aC (aO (by kernel_rfl) (by kernel_rfl) (by kernel_rfl)) (aC (aO (by kernel_rfl) (by kernel_rfl) (by kernel_rfl)) (aC (aO (by kernel_rfl) (by kernel_rfl) (by kernel_rfl)) Is)))))))))))))))))))))))))))))))))))))))))))))))))))))))))))))))))))))))))))))))))))))
abbrev TP:=Tr Proofs.Tryz.prog
section
variable {F:Nat->Prop} {g:Nat->Value} {w:World}
end
section
variable {P:Program} {k:FuncId}
end
section
variable {P:Program} {k:Nat} {R:Type} {x:Option R} {ret:R->PV}
theorem Rn{l1 l2:List PV}{p p':PV}(hp:∀ F g w v,VR F g w p v->VR F g w p' v)(h:Con P k (l1++p'::l2) x ret):Con P k (l1++p::l2) x ret:=by
 refine⟨h.c,fun y hy=>?_⟩;intro F g w vs hs hv;refine h.h y hy F g w vs (by simpa using hs) fun j q v hj hvj=>?_;by_cases hj1:j=l1.length
 ·subst hj1;have hj:p'=q:=by simpa using hj
  subst hj;exact hp F g w v (hv l1.length _ v (by simp) hvj)
 ·refine hv j q v ?_ hvj;rw[List.getElem?_append]at hj ⊢;split at hj
  ·rename_i hlt; rw[aH hlt]; exact hj
  ·rename_i hlt;rw[aT hlt];obtain⟨m,hm⟩:∃ m,j-l1.length=m+1:=⟨j-l1.length-1,by omega⟩;rw[hm]at hj ⊢;simpa using hj
theorem Vw(l1 cs l2:List PV){ts:List T}(hc:fG cs ts)(h:Con P k (l1 ++ .t (.agg ts)::l2) x ret):Con P k (l1 ++ .agg cs::l2) x ret:=Rn (tX hc) h
theorem Qb{α:Type}[Inhabited α](l1 cs:List PV)(xs:List α)(lo hi:Int)(l2:List PV){ts:List T}(hc:0<=lo/\lo<=hi/\hi<=(xs.length:Int)->fG cs ts)(h:Con P k (l1 ++ .t (.agg ts)::l2) x ret):
  Con P k (l1 ++ .agg cs::l2) (if 0<=lo/\lo<=hi/\hi<=(xs.length:Int) then x else none) ret:=by
 by_cases hg:0<=lo/\lo<=hi/\hi<=(xs.length:Int)
 ·rw[aH hg]; exact Vw l1 cs l2 (hc hg) h
 ·rw[aT hg]; exact⟨h.c,fun y hy=>by cases hy⟩
end
end Go.PL
namespace Go.Proofs
open Go.Shelf Go.RowKit
set_option maxRecDepth 100000 in
theorem Tryz.copyCheck_used(b:Nat)(w:World)(h0:w.cell? ⟨b,0,none⟩=some (.pointer (some ⟨b,0,none⟩))):
  Calls Tryz.prog 21 #[.pointer (some ⟨b,0,none⟩)] w fun e w'=>e = .returned (.tuple #[])/\w'=w:=by
 have hsz:(Tryz.prog.info? 53).map (·.size)=some 2:=by kernel_rfl
 obtain⟨j,hj,_⟩:=Option.map_eq_some_iff.1 hsz;have mixed:Tryz.prog.follows .mixedOrders=true:=by kernel_rfl
 have t72:=Tryz.underlying53; have a72:=Tryz.isAgg53; have z72:=Tryz.sizeOf53; have v72:=Tryz.zeroValue53; have u72:=run_underlying t72;have t70:=Tryz.underlying50; have a70:=Tryz.isAgg50; have z70:=Tryz.sizeOf50; have v70:=Tryz.zeroValue50; have u70:=run_underlying t70;have t4:=Tryz.underlying4; have a4:=Tryz.isAgg4; have z4:=Tryz.sizeOf4; have v4:=Tryz.zeroValue4; have u4:=run_underlying t4;have t164:=Tryz.underlying99; have a164:=Tryz.isAgg99; have z164:=Tryz.sizeOf99; have v164:=Tryz.zeroValue99; have u164:=run_underlying t164
 go_enter Tryz.func21,Tryz.ntmps21
 go_wp2
 rw[Lib.run_neq_ptr_same w _ t70 hj]
 go_wp2
 go_end0
 exact⟨rfl,rfl⟩
set_option maxRecDepth 100000 in
theorem Tryz.copyCheck_fresh(b:Nat)(w:World)(h0:w.cell? ⟨b,0,none⟩=some (.pointer none))(hsh:w.shape? b=some (53,2))(hfz:w.frozen? ⟨b,0,none⟩=false):
  Calls Tryz.prog 21 #[.pointer (some ⟨b,0,none⟩)] w fun e w'=>e = .returned (.tuple #[])/\w'=w.setCell ⟨b,0,none⟩ (.pointer (some ⟨b,0,none⟩)):=by
 have hsz:(Tryz.prog.info? 53).map (·.size)=some 2:=by kernel_rfl
 obtain⟨j,hj,hjs⟩:=Option.map_eq_some_iff.1 hsz;have lies:liesAt Tryz.prog Tryz.prog.depth 53 (2 / Tryz.prog.cellsOf 53) 0 53 1=true:=by kernel_rfl
 have mixed:Tryz.prog.follows .mixedOrders=true:=by kernel_rfl
 have t72:=Tryz.underlying53; have a72:=Tryz.isAgg53; have z72:=Tryz.sizeOf53; have v72:=Tryz.zeroValue53; have u72:=run_underlying t72;have t70:=Tryz.underlying50; have a70:=Tryz.isAgg50; have z70:=Tryz.sizeOf50; have v70:=Tryz.zeroValue50; have u70:=run_underlying t70;have t4:=Tryz.underlying4; have a4:=Tryz.isAgg4; have z4:=Tryz.sizeOf4; have v4:=Tryz.zeroValue4; have u4:=run_underlying t4;have t164:=Tryz.underlying99; have a164:=Tryz.isAgg99; have z164:=Tryz.sizeOf99; have v164:=Tryz.zeroValue99; have u164:=run_underlying t164
 go_enter Tryz.func21,Tryz.ntmps21
 go_wp2
 rw[Lib.run_to_unsafe w ⟨b,0,none⟩ t70 t164 hj (by rw[hjs]; decide) hsh (Nat.zero_lt_succ 1)];simp only[Result.andThen];rw[Oper.upon_value]
 go_wp2
 rw[run_callFunc_extern Tryz.func49 (by kernel_rfl) (by kernel_rfl) (by kernel_rfl) (e:=Extern.AbiNoEscape.same) (by kernel_rfl)];rw[Lib.run_noEscape];simp only[Result.andThen];rw[Oper.upon_value]
 go_wp2
 rw[Lib.run_from_unsafe w ⟨b,0,none⟩ t164 t70 hj hsh lies];simp only[Result.andThen];rw[Oper.upon_value]
 go_wp2
 go_end0
 exact⟨rfl,rfl⟩
set_option maxRecDepth 100000 in
theorem Tryz.String_row(b g cap:Nat)(p:Value)(cur:Array Value)(l:List UInt8)(h0:l≠[])(w:World)(hbk:w.heap[b]? = some (.cells #[p,.slice (some ⟨g,0,none⟩) l.length cap] 53 (0,0)))
  (hg:w.heap[g]? = some (.cells cur 5 (0,0)))(hnc:l.length<=cap)(hcm:cap<=maxLen)(hcs:cur.size=cap*1)(hcell:∀ (j:Nat) (x:UInt8),l[j]? = some x->cur[j]? = some (Value.int .u8 (x.toNat:Int))):
  Calls Tryz.prog 13 #[.pointer (some ⟨b,0,none⟩)] w fun e w'=>e = .returned (.string ⟨l.toArray⟩)/\w'=w.drew.freeze ⟨g,0,none⟩ l.length:=by
 have hl0:l.length≠0:=by simpa using h0
 have c1:w.drew.cell? ⟨b,1,none⟩=some (.slice (some ⟨g,0,none⟩) l.length cap):=by have:w.drew.heap[b]? = some (.cells #[p,.slice (some ⟨g,0,none⟩) l.length cap] 53 (0,0)):=hbk;rw[Lib.cell_of_heap this]; rfl
 have hSD:(Builtin.unsafeSliceData_ #[51] 71 #[.slice (some ⟨g,0,none⟩) l.length cap]).run Tryz.prog w.drew = .ok (.pointer (some ⟨g,0,none⟩)) w.drew:=
  Lib.run_unsafeSliceData_row _ _ _ _ _ _ (by omega)
 have hUS:(Builtin.unsafeString_ #[71,3] 9 #[.pointer (some ⟨g,0,none⟩),.int .i64 l.length]).run Tryz.prog w.drew = .ok (.string ⟨l.toArray⟩) (w.drew.freeze ⟨g,0,none⟩ l.length):=by refine Lib.run_unsafeString_row w.drew 71 3 9 5 Tryz.underlying71 (by kernel_rfl) g cur.size (by have hg':w.drew.heap[g]? = some (.cells cur 5 (0,0)):=hg; simp[World.shape?,hg']) l h0 (by omega) (by unfold maxLen at hcm; omega) ?_;intro j x hx;have hg':w.drew.heap[g]? = some (.cells cur 5 (0,0)):=hg;rw[Go.PL.Addr.add_none,Nat.zero_add,Lib.cell_of_heap hg'];exact hcell j x hx
 have mixed:Tryz.prog.follows .mixedOrders=true:=by kernel_rfl
 have t72:=Tryz.underlying53; have a72:=Tryz.isAgg53; have z72:=Tryz.sizeOf53; have v72:=Tryz.zeroValue53; have u72:=run_underlying t72;have t70:=Tryz.underlying50; have a70:=Tryz.isAgg50; have z70:=Tryz.sizeOf50; have v70:=Tryz.zeroValue50; have u70:=run_underlying t70;have t37:=Tryz.underlying51; have a37:=Tryz.isAgg51; have z37:=Tryz.sizeOf51; have v37:=Tryz.zeroValue51; have u37:=run_underlying t37;have t127:=Tryz.underlying71; have a127:=Tryz.isAgg71; have z127:=Tryz.sizeOf71; have v127:=Tryz.zeroValue71; have u127:=run_underlying t127;have t3:=Tryz.underlying3; have a3:=Tryz.isAgg3; have z3:=Tryz.sizeOf3; have v3:=Tryz.zeroValue3; have u3:=run_underlying t3;have t9:=Tryz.underlying9; have a9:=Tryz.isAgg9; have z9:=Tryz.sizeOf9; have v9:=Tryz.zeroValue9; have u9:=run_underlying t9;have t5:=Tryz.underlying5; have a5:=Tryz.isAgg5; have z5:=Tryz.sizeOf5; have v5:=Tryz.zeroValue5; have u5:=run_underlying t5
 go_enter Tryz.func13,Tryz.ntmps13
 go_wp2
 go_region_o
 all_goals (go_wp2; go_ret; exact⟨rfl,rfl⟩)
set_option maxRecDepth 100000 in
theorem Tryz.String_nil(b:Nat)(p:Value)(w:World)(hbk:w.heap[b]? = some (.cells #[p,.slice none 0 0] 53 (0,0))):
  Calls Tryz.prog 13 #[.pointer (some ⟨b,0,none⟩)] w fun e w'=>e = .returned (.string ⟨#[]⟩)/\w'=w.drew:=by
 have hUS:∀ W q,(Builtin.unsafeString_ #[71,3] 9 #[.pointer q,.int .i64 0]).run Tryz.prog W = .ok (.string .empty) W:=fun W q=>Lib.run_unsafeString_none W _ _ _ q;have c1:w.drew.cell? ⟨b,1,none⟩=some (.slice none 0 0):=by have:w.drew.heap[b]? = some (.cells #[p,.slice none 0 0] 53 (0,0)):=hbk;rw[Lib.cell_of_heap this]; rfl
 have hSD:(Builtin.unsafeSliceData_ #[51] 71 #[.slice none 0 0]).run Tryz.prog w.drew = .ok (.pointer none) w.drew:=rfl;have mixed:Tryz.prog.follows .mixedOrders=true:=by kernel_rfl
 have t72:=Tryz.underlying53; have a72:=Tryz.isAgg53; have z72:=Tryz.sizeOf53; have v72:=Tryz.zeroValue53; have u72:=run_underlying t72;have t70:=Tryz.underlying50; have a70:=Tryz.isAgg50; have z70:=Tryz.sizeOf50; have v70:=Tryz.zeroValue50; have u70:=run_underlying t70;have t37:=Tryz.underlying51; have a37:=Tryz.isAgg51; have z37:=Tryz.sizeOf51; have v37:=Tryz.zeroValue51; have u37:=run_underlying t37;have t127:=Tryz.underlying71; have a127:=Tryz.isAgg71; have z127:=Tryz.sizeOf71; have v127:=Tryz.zeroValue71; have u127:=run_underlying t127;have t3:=Tryz.underlying3; have a3:=Tryz.isAgg3; have z3:=Tryz.sizeOf3; have v3:=Tryz.zeroValue3; have u3:=run_underlying t3;have t9:=Tryz.underlying9; have a9:=Tryz.isAgg9; have z9:=Tryz.sizeOf9; have v9:=Tryz.zeroValue9; have u9:=run_underlying t9;have t5:=Tryz.underlying5; have a5:=Tryz.isAgg5; have z5:=Tryz.sizeOf5; have v5:=Tryz.zeroValue5; have u5:=run_underlying t5
 go_enter Tryz.func13,Tryz.ntmps13
 go_wp2
 go_region_o
 all_goals (go_wp2; go_ret; exact⟨rfl,rfl⟩)
set_option maxRecDepth 100000 in
theorem Tryz.String_noroom(b g:Nat)(p:Value)(cur:Array Value)(w:World)(hlt:b<w.heap.size)(hbk:w.heap[b]? = some (.cells #[p,.slice (some ⟨g,0,none⟩) 0 0] 53 (0,0)))(hg:w.heap[g]? = some (.cells cur 5 (0,0))):
  Calls Tryz.prog 13 #[.pointer (some ⟨b,0,none⟩)] w fun e w'=>e = .returned (.string ⟨#[]⟩)/\w'=w.drew.alloc (.view ⟨g,0,none⟩ 5):=by
 have hUS:∀ W q,(Builtin.unsafeString_ #[71,3] 9 #[.pointer q,.int .i64 0]).run Tryz.prog W = .ok (.string .empty) W:=fun W q=>Lib.run_unsafeString_none W _ _ _ q;have c1:w.drew.cell? ⟨b,1,none⟩=some (.slice (some ⟨g,0,none⟩) 0 0):=by have:w.drew.heap[b]? = some (.cells #[p,.slice (some ⟨g,0,none⟩) 0 0] 53 (0,0)):=hbk;rw[Lib.cell_of_heap this]; rfl
 have hSD:(Builtin.unsafeSliceData_ #[51] 71 #[.slice (some ⟨g,0,none⟩) 0 0]).run Tryz.prog w.drew = .ok (.pointer (some ⟨w.drew.heap.size,0,none⟩)) (w.drew.alloc (.view ⟨g,0,none⟩ 5)):=
  Lib.run_unsafeSliceData_zero w.drew _ _ 5 Tryz.underlying71 ⟨g,0,none⟩ 0 (5,cur.size) (by have hg':w.drew.heap[g]? = some (.cells cur 5 (0,0)):=hg; simp[World.shape?,hg'])
 have c2:(w.drew.alloc (.view ⟨g,0,none⟩ 5)).cell? ⟨b,1,none⟩=some (.slice (some ⟨g,0,none⟩) 0 0):=by have:(w.drew.alloc (.view ⟨g,0,none⟩ 5)).heap[b]? = _:=(Lib.alloc_old w.drew _ b hlt).trans hbk;rw[Lib.cell_of_heap this]; rfl
 have c3:(w.alloc (.view ⟨g,0,none⟩ 5)).drew.cell? ⟨b,1,none⟩=some (.slice (some ⟨g,0,none⟩) 0 0):=c2;have c0:w.cell? ⟨b,1,none⟩=some (.slice (some ⟨g,0,none⟩) 0 0):=c1;have mixed:Tryz.prog.follows .mixedOrders=true:=by kernel_rfl
 have t72:=Tryz.underlying53; have a72:=Tryz.isAgg53; have z72:=Tryz.sizeOf53; have v72:=Tryz.zeroValue53; have u72:=run_underlying t72;have t70:=Tryz.underlying50; have a70:=Tryz.isAgg50; have z70:=Tryz.sizeOf50; have v70:=Tryz.zeroValue50; have u70:=run_underlying t70;have t37:=Tryz.underlying51; have a37:=Tryz.isAgg51; have z37:=Tryz.sizeOf51; have v37:=Tryz.zeroValue51; have u37:=run_underlying t37;have t127:=Tryz.underlying71; have a127:=Tryz.isAgg71; have z127:=Tryz.sizeOf71; have v127:=Tryz.zeroValue71; have u127:=run_underlying t127;have t3:=Tryz.underlying3; have a3:=Tryz.isAgg3; have z3:=Tryz.sizeOf3; have v3:=Tryz.zeroValue3; have u3:=run_underlying t3;have t9:=Tryz.underlying9; have a9:=Tryz.isAgg9; have z9:=Tryz.sizeOf9; have v9:=Tryz.zeroValue9; have u9:=run_underlying t9;have t5:=Tryz.underlying5; have a5:=Tryz.isAgg5; have z5:=Tryz.sizeOf5; have v5:=Tryz.zeroValue5; have u5:=run_underlying t5
 go_enter Tryz.func13,Tryz.ntmps13
 go_wp2
 go_region_o
 all_goals (go_wp2; go_ret; exact⟨rfl,rfl⟩)
set_option maxRecDepth 100000 in
theorem Tryz.String_room(b g cap:Nat)(p:Value)(w:World)(hc0:cap≠0)(hbk:w.heap[b]? = some (.cells #[p,.slice (some ⟨g,0,none⟩) 0 cap] 53 (0,0))):
  Calls Tryz.prog 13 #[.pointer (some ⟨b,0,none⟩)] w fun e w'=>e = .returned (.string ⟨#[]⟩)/\w'=w.drew:=by
 have hUS:∀ W q,(Builtin.unsafeString_ #[71,3] 9 #[.pointer q,.int .i64 0]).run Tryz.prog W = .ok (.string .empty) W:=fun W q=>Lib.run_unsafeString_none W _ _ _ q;have c1:w.drew.cell? ⟨b,1,none⟩=some (.slice (some ⟨g,0,none⟩) 0 cap):=by have:w.drew.heap[b]? = some (.cells #[p,.slice (some ⟨g,0,none⟩) 0 cap] 53 (0,0)):=hbk;rw[Lib.cell_of_heap this]; rfl
 have hSD:(Builtin.unsafeSliceData_ #[51] 71 #[.slice (some ⟨g,0,none⟩) 0 cap]).run Tryz.prog w.drew = .ok (.pointer (some ⟨g,0,none⟩)) w.drew:=
  Lib.run_unsafeSliceData_row _ _ _ _ _ _ hc0
 clear hc0;have mixed:Tryz.prog.follows .mixedOrders=true:=by kernel_rfl
 have t72:=Tryz.underlying53; have a72:=Tryz.isAgg53; have z72:=Tryz.sizeOf53; have v72:=Tryz.zeroValue53; have u72:=run_underlying t72;have t70:=Tryz.underlying50; have a70:=Tryz.isAgg50; have z70:=Tryz.sizeOf50; have v70:=Tryz.zeroValue50; have u70:=run_underlying t70;have t37:=Tryz.underlying51; have a37:=Tryz.isAgg51; have z37:=Tryz.sizeOf51; have v37:=Tryz.zeroValue51; have u37:=run_underlying t37;have t127:=Tryz.underlying71; have a127:=Tryz.isAgg71; have z127:=Tryz.sizeOf71; have v127:=Tryz.zeroValue71; have u127:=run_underlying t127;have t3:=Tryz.underlying3; have a3:=Tryz.isAgg3; have z3:=Tryz.sizeOf3; have v3:=Tryz.zeroValue3; have u3:=run_underlying t3;have t9:=Tryz.underlying9; have a9:=Tryz.isAgg9; have z9:=Tryz.sizeOf9; have v9:=Tryz.zeroValue9; have u9:=run_underlying t9;have t5:=Tryz.underlying5; have a5:=Tryz.isAgg5; have z5:=Tryz.sizeOf5; have v5:=Tryz.zeroValue5; have u5:=run_underlying t5
 go_enter Tryz.func13,Tryz.ntmps13
 go_wp2
 go_region_o
 all_goals (go_wp2; go_ret; exact⟨rfl,rfl⟩)
end Go.Proofs
namespace Go.Proofs
open Go.Shelf Go.RowKit
theorem nE{P:Program}{w:World}{ops:Array Oper}{rest:List Oper}{o:Oper}{a:Act}{Q:Exit->Act->World->Prop}(hgd:o.guard=none)(sl x:Operand)(t u:TypeId)
  (ho:o.op = .call { callee:=.builtin .append,args:=#[sl,x],argTypes:=#[t,u] })(ty:TypeId)(hty:o.type=ty)(v:Value)(s:ByteArray)(hs:a.eval sl=v)(hx:a.eval x = .string s)(v':Value)(w':World)
  (hr:(Builtin.append_ #[t,u] ty #[v,.string s]).run P w = .ok v' w')(h:wpList P ops Q rest (a.put o.dst v') w'):wpList P ops Q (o::rest) a w:=by
 refine wpList_plain hgd fun K hK=>?_;unfold Oper.wp execOp;simp only[ho,hty,resolve,invoke,builtin,Sem.run_bind,Sem.run_pure,Result.andThen_ok,List.map_toArray,List.map_cons,List.map_nil,hs,hx,hr];exact hK _ _ h
set_option maxRecDepth 100000 in
theorem Tryz.WriteString_ex(b:Nat)(v:Value)(ao:Option Addr)(n' cap:Nat)(s:ByteArray)(w w1 w2:World)(hcc:Calls Tryz.prog 21 #[.pointer (some ⟨b,0,none⟩)] w fun e w'=>e = .returned (.tuple #[])/\w'=w1)
  (hbk:w1.heap[b]? = some (.cells #[.pointer (some ⟨b,0,none⟩),v] 53 (0,0)))(hap:(Builtin.append_ #[51,9] 51 #[v,.string s]).run Tryz.prog w1 = .ok (.slice ao n' cap) w2)
  (hb2:w2.heap[b]? = some (.cells #[.pointer (some ⟨b,0,none⟩),v] 53 (0,0))):
  Calls Tryz.prog 10 #[.pointer (some ⟨b,0,none⟩),.string s] w fun e w'=>e = .returned (.tuple #[.int .i64 s.size,.nilIface])/\w'=w2.setCell ⟨b,1,none⟩ (.slice ao n' cap):=by
 have mixed:Tryz.prog.follows .mixedOrders=true:=by kernel_rfl
 have t72:=Tryz.underlying53; have a72:=Tryz.isAgg53; have z72:=Tryz.sizeOf53; have v72:=Tryz.zeroValue53; have u72:=run_underlying t72;have t70:=Tryz.underlying50; have a70:=Tryz.isAgg50; have z70:=Tryz.sizeOf50; have v70:=Tryz.zeroValue50; have u70:=run_underlying t70;have t37:=Tryz.underlying51; have a37:=Tryz.isAgg51; have z37:=Tryz.sizeOf51; have v37:=Tryz.zeroValue51; have u37:=run_underlying t37;have t3:=Tryz.underlying3; have a3:=Tryz.isAgg3; have z3:=Tryz.sizeOf3; have v3:=Tryz.zeroValue3; have u3:=run_underlying t3;have t9:=Tryz.underlying9; have a9:=Tryz.isAgg9; have z9:=Tryz.sizeOf9; have v9:=Tryz.zeroValue9; have u9:=run_underlying t9;have t4:=Tryz.underlying4; have a4:=Tryz.isAgg4; have z4:=Tryz.sizeOf4; have v4:=Tryz.zeroValue4; have u4:=run_underlying t4;have t5:=Tryz.underlying5; have a5:=Tryz.isAgg5; have z5:=Tryz.sizeOf5; have v5:=Tryz.zeroValue5; have u5:=run_underlying t5;have e167:∀ args w,(callFunc 21 args).run Tryz.prog w = .ok (.enter 21 args) w:=enters_of Tryz.func21 (by kernel_rfl) rfl
 go_enter Tryz.func10,Tryz.ntmps10
 go_wp2_with (go_at_fn 21; refine hcc.mono ?_)
 rintro e w' ⟨rfl,rfl⟩;have c0:w'.cell? ⟨b,0,none⟩=some (.pointer (some ⟨b,0,none⟩)):=by rw[Lib.cell_of_heap hbk]; rfl
 have c1:w'.cell? ⟨b,1,none⟩=some v:=by rw[Lib.cell_of_heap hbk]; rfl
 have d0:w2.cell? ⟨b,0,none⟩=some (.pointer (some ⟨b,0,none⟩)):=by rw[Lib.cell_of_heap hb2]; rfl
 have d1:w2.cell? ⟨b,1,none⟩=some v:=by rw[Lib.cell_of_heap hb2]; rfl
 have f1:w2.frozen? ⟨b,1,none⟩=false:=Lib.frozen_of_heap hb2 1
 go_wp2_with (at_builtin; refine nE rfl _ _ 51 9 rfl 51 rfl _ s rfl rfl _ _ hap ?_)
 go_wp2
 go_ret2
 exact⟨rfl,rfl⟩
end Go.Proofs
namespace Go.PL
open Go
theorem Dw(x:ByteArray):(⟨x.data.toList.toArray⟩:ByteArray)=x:=by cases x; simp
theorem Ph{x:ByteArray}(h:x.size=0):x=⟨#[]⟩:=by
 cases x with
 | mk d=>have:d=#[]:=rO h; rw[this]
theorem eX{g:Nat->Value}{w w':World}{F:Nat->Prop}{H:Hp}(hH:HpR F g w (fun _=>True) H)(hF:∀ b,F b->b<w.heap.size)
  (hos:w'.os=w.os)(htp:w'.tape=w.tape)(hout:w'.output=w.output)(hsz:w.heap.size<=w'.heap.size)(hb:∀ b,b<w.heap.size->¬ Own g w H b->w'.heap[b]? = w.heap[b]?):
  wQ { w0:=w,F0:=F,B0:=Own g w H,g0:=g,N:=[],nt:=0 } F g [] w':=by
 refine⟨⟨fun o x h=>by simp at h,fun o x b h=>by simp at h,fun o x o' y b h=>by simp at h⟩,fun b h=>h,fun b h=>⟨zW (hF b h) hsz,.inl h⟩,⟨hos,htp,hout,hsz,hb⟩,fun o h=>by simp at h,?_⟩;rintro b ⟨o,x,h1,h2⟩;exact h2.block (hH.obj o x h1)
theorem Rv(x:ByteArray):eA Proofs.Tryz.prog 13 [.ptr 30000 0] [(30000,.bld 53 5 x)] [] (some x) (fun y=>.t (.str y)) (fun _=>[]):=by
 refine⟨bH Proofs.Tryz.func13 (by kernel_rfl),fun y hy=>?_⟩;cases hy;intro F g w vs hs hv hH hF hgl;obtain⟨b,p,v,h1,h2,h3,h4⟩:=hH.obj 30000 _ (bX.2 rfl);have h0:0<vs.size:=by rw[hs]; decide
 have hv0:=hv 0 _ vs[0] rfl (by simp[h0]);have hvs:vs=#[.pointer (some ⟨b,0,none⟩)]:=by
  have e0:vs[0] = .pointer (some ⟨b,0,none⟩):=by
   generalize vs[0]=u at hv0;cases hv0 with
   | ptr hg=>rw[h1]at hg; injection hg with hg; injection hg with hg; injection hg with hg; subst hg; rfl
  apply Array.ext
  ·rw[hs]; rfl
  ·intro q hq _;have:q=0:=by rw[hs]at hq; simp at hq; omega
   subst this;simpa using e0
 subst hvs;have post:∀ {w':World},w'.os=w.os->w'.tape=w.tape->w'.output=w.output->w.heap.size<=w'.heap.size->(∀ q,q<w.heap.size->¬ Own g w [(30000,.bld 53 5 x)] q->w'.heap[q]? = w.heap[q]?) ->
   ∃ v r H' F' g',Ending.returned (.string x) = .returned v/\mB (.t (.str x)) [] r H'/\VR F' g' w' r v/\wQ { w0:=w,F0:=F,B0:=Own g w [(30000,.bld 53 5 x)],g0:=g,N:=[],nt:=0 } F' g' H' w':=
  fun e1 e2 e3 e4 e5=>⟨_,_,_,F,g,rfl,⟨rfl,rfl⟩,.t (.str _),eX hH hF e1 e2 e3 e4 e5⟩
 rcases h4 with⟨rfl,hx0⟩ | ⟨r,cap,cur,rfl,k1,k2,k3,k4,k5,k6⟩
 ·have hx:x=⟨#[]⟩:=Ph hx0;refine(Proofs.Tryz.String_nil b p w h2).mono ?_;rintro e w' ⟨rfl,rfl⟩;rw[<-hx];exact post rfl rfl rfl (cY _) (fun _ _ _=>rfl)
 ·have hblt:b<w.heap.size:=(sL.1 h2).1;by_cases hx0:x.size=0
  ·have hx:x=⟨#[]⟩:=Ph hx0;rw[hx0]at h2;by_cases hc:cap=0
   ·subst hc;refine(Proofs.Tryz.String_noroom b r p cur w hblt h2 k1).mono ?_;rintro e w' ⟨rfl,rfl⟩;rw[<-hx];exact post rfl rfl rfl (by show w.heap.size<=(w.heap.push _).size; rw[Array.size_push]; exact Nat.le_succ _) (fun q hq _=>heap_alloc_old w.drew _ hq)
   ·refine(Proofs.Tryz.String_room b r cap p w hc h2).mono ?_;rintro e w' ⟨rfl,rfl⟩;rw[<-hx];exact post rfl rfl rfl (cY _) (fun _ _ _=>rfl)
  ·have hl:x.data.toList.length=x.size:=by simp
   have hne:x.data.toList≠[]:=by intro h;rw[h]at hl;exact hx0 hl.symm
   have h2':=h2;rw[<-hl]at h2';refine(Proofs.Tryz.String_row b r cap p cur x.data.toList hne w h2' k1 (by omega) k4 (by omega) (fun q u hu=>?_)).mono ?_
   ·have hq:q<x.size:=by rw[<-hl]; exact(bZ.1 hu).1
    have:=congrArg (·[q]?) k6;simp only[dZ,aH hq,eJ,cR,hu]at this;simpa using this
   ·rintro e w' ⟨rfl,rfl⟩;rw[Dw];have hn:x.data.toList.length≠0:=by omega
    refine post ?_ ?_ ?_ ?_ (fun q hq ho=>?_)
    ·simp only[World.freeze,aT hn]; rfl
    ·simp only[World.freeze,aT hn]; rfl
    ·simp only[World.freeze,aT hn]; rfl
    ·simp only[World.freeze,aT hn];rw[Array.size_modify];exact cY _
    ·have hqr:q≠r:=fun e=>ho ⟨30000,_,bX.2 rfl,.bld h1 h2 (by rw[e]; rfl)⟩;simp only[World.freeze,aT hn];rw[wL,aT (fun e=>hqr e.symm)];rfl
end Go.PL
namespace Go.PL
open Go Go.Lib
theorem jV(w:World)(b q:Nat)(u c0 c1:Value)(ty:Nat)(hb:w.heap[b]? = some (.cells #[c0,c1] ty (0,0)))(_hq:q<2):
  (w.setCell ⟨b,q,none⟩ u).heap[b]? = some (.cells (#[c0,c1].setIfInBounds q u) ty (0,0)):=by
 simp[World.setCell,wL,hb]
theorem eS(w:World)(b q k:Nat)(u:Value)(hk:k≠b):(w.setCell ⟨b,q,none⟩ u).heap[k]? = w.heap[k]?:=by simp[World.setCell,wL,Ne.symm hk]
theorem kB(w:World)(b q:Nat)(u:Value):(w.setCell ⟨b,q,none⟩ u).heap.size=w.heap.size:=by simp[World.setCell]
def Pa(w:World)(v:Value)(s:ByteArray):Prop:=
 (v = .slice none 0 0/\s.size=0)\/∃ r cap cur,v = .slice (some ⟨r,0,none⟩) s.size cap/\w.heap[r]? = some (.cells cur 5 (0,0))/\s.size<=cap/\cap<=maxLen/\cur.size=cap/\cur.toList.take s.size=eJ s
theorem mN(x s:ByteArray):eJ (x++s)=eJ x++eJ s:=by simp[eJ,ByteArray.data_append]
theorem gT(s:ByteArray):(eJ s).length=s.size:=by simp[eJ]
theorem yJ(x s:ByteArray)(w:World)(v:Value)(hr:Pa w v x)(hC:x.size+s.size<=140737488355328):
  ∃ ao n cap w2,(Builtin.append_ #[51,9] 51 #[v,.string s]).run Proofs.Tryz.prog w = .ok (.slice ao n cap) w2/\Pa w2 (.slice ao n cap) (x++s)/\(∀ k,k<w.heap.size->blk v≠some k->w2.heap[k]? = w.heap[k]?) /\
   w.heap.size<=w2.heap.size/\w2.os=w.os/\w2.tape=w.tape/\w2.output=w.output/\(∀ k,blk (.slice ao n cap)=some k->blk v=some k\/w.heap.size<=k):=by
 have htx:Proofs.Tryz.prog.underlying 9=some .string:=Proofs.Tryz.underlying9;have ht:Proofs.Tryz.prog.underlying 51=some (.slice 5):=Proofs.Tryz.underlying51;have hi0:(Proofs.Tryz.prog.info? 5).map (fun i=>(i.zero,i.size,i.bytes))=some (some (.int .u8 0),1,1):=by kernel_rfl
 obtain⟨i,hi,hi1⟩:=fJ.1 hi0;injection hi1 with hz hi2;injection hi2 with hs hb;have hsz:(x++s).size=x.size+s.size:=nU;have hsc:strCells s=eJ s:=rfl;rcases hr with⟨rfl,hx0⟩ | ⟨r,cap,cur,rfl,h1,h2,h3,h4,h5⟩
 ·have hx:eJ (x++s)=eJ s:=by have h0:eJ x=[]:=xF (by rw[gT]; exact hx0);rw[mN,h0,List.nil_append]
  by_cases hs0:s.size=0
  ·refine⟨none,0,0,w,?_,.inl ⟨rfl,by omega⟩,fun _ _ _=>rfl,cY _,rfl,rfl,rfl,fun k h=>by simp[blk]at h⟩;simp[Builtin.append_,run_underlying ht,run_underlying htx,sizeOf,typeInfo,hi,Builtin.lenOf,hs0,Builtin.firstCells]
  ·have hrun:=jC (P:=Proofs.Tryz.prog) w 51 9 51 5 i _ ht htx hi hz s (by omega) (by omega) (by rw[hb]; omega);refine⟨_,_,_,_,hrun,.inr ⟨_,_,_,by rw[hsz,hx0,cH]; rfl,heap_alloc_new w.drew _,?_,?_,?_,?_⟩,fun k hk _=>heap_alloc_old w.drew _ hk,?_,rfl,rfl,rfl,fun k h=>?_⟩
   ·rw[hsz,hx0,cH]; exact grownCap_ge w s.size 0 5
   ·exact grownCap_le_maxLen w s.size 0 5 (by simp only[maxLen]; omega)
   ·have:=grownCap_ge w s.size 0 5;simp only[gP,hJ,strCells_length,size_zeroCells];simp[Value.cells]; omega
   ·rw[hx,hsz,hx0,cH];simp only[Array.toList_append];rw[Gc (by simp[strCells_length]),Ar (by simp[strCells_length])];simp[hsc]
   ·show w.heap.size<=(w.heap.push _).size; rw[Array.size_push]; exact Nat.le_succ _
   ·simp[blk]at h; right; omega
 ·have hrl:r<w.heap.size:=(sL.1 h1).1;by_cases hroom:x.size+s.size<=cap
  ·have hrun:=run_append_room_string (P:=Proofs.Tryz.prog) w 51 9 51 5 i ht htx hi hs r x.size cap cur h1 s hroom (by omega);refine⟨_,_,_,_,hrun,.inr ⟨r,cap,_,by rw[hsz],setRow_heap w r cur _ 5 _ h1,by omega,h3,?_,?_⟩,fun k hk hne=>setRow_other w r k _ (fun e=>hne (by rw[e]; rfl)),by simp,rfl,rfl,rfl,fun k h=>.inl h⟩
   ·simp only[hJ,gB,cL,fC,strCells_length,dY]; omega
   ·rw[hsz,mN,hsc,h5];have hl1:(eJ x++eJ s).length=x.size+s.size:=by simp[gT]
    rw[Gc (by omega),Ar (by omega)]
  ·have hol:(cur.toList.take x.size).length=x.size*i.size:=by rw[hs]; simp only[cL,dY]; omega
   have hrun:=run_append_grow_string (P:=Proofs.Tryz.prog) w 51 9 51 5 i _ ht htx hi hz ⟨r,0,none⟩ x.size cap (cur.toList.take x.size) hol (fun k u hu=>by
    rw[Addr.add_none,cH];rw[dZ]at hu;split at hu
    ·simpa[World.cell?,h1] using hu
    ·cases hu) s (by omega) (by omega) (growslice_fits (by omega) (by rw[hb]; omega))
   refine⟨_,_,_,_,hrun,.inr ⟨_,_,_,by rw[hsz]; rfl,heap_alloc_new w.drew _,?_,?_,?_,?_⟩,fun k hk _=>heap_alloc_old w.drew _ hk,?_,rfl,rfl,rfl,fun k h=>?_⟩
   ·rw[hsz]; exact grownCap_ge w (x.size+s.size) cap 5
   ·exact grownCap_le_maxLen w (x.size+s.size) cap 5 (by simp only[maxLen]; omega)
   ·have:=grownCap_ge w (x.size+s.size) cap 5;rw[hs,Nat.mul_one]at hol;simp only[gP,hJ,hol,strCells_length,size_zeroCells];simp[Value.cells]; omega
   ·rw[hsz,mN,hsc,h5];have hl1:(eJ x++eJ s).length=x.size+s.size:=by simp[gT]
    simp only[Array.toList_append];rw[Gc (by simp[gT]),Ar (by simp[gT])]
   ·show w.heap.size<=(w.heap.push _).size; rw[Array.size_push]; exact Nat.le_succ _
   ·simp[blk]at h; right; omega
theorem Rw(x s:ByteArray):eA Proofs.Tryz.prog 10 [.ptr 30000 0,.t (.str s)] [(30000,.bld 53 5 x)] [30000] (if x.size+s.size<=140737488355328 then some () else none)
  (fun _:Unit=>.tup [.t (.int .i64 s.size),.lit .nilIface]) (fun _=>[(30000,.bld 53 5 (x++s))]):=by
 refine⟨bH Proofs.Tryz.func10 (by kernel_rfl),fun y hy=>?_⟩;split at hy
 case isFalse=>cases hy
 rename_i hC;intro F g w vs hs hv hH hF hgl;have hmem:(30000,aN.bld 53 5 x)∈([(30000,.bld 53 5 x)]:Hp):=bX.2 rfl;obtain⟨b,p,v,h1,h2,h3,h4⟩:=hH.obj 30000 _ hmem;have hs2:vs.size=2:=hs;have hv0:=hv 0 _ (vs[0]'(by omega)) rfl (by simp[hs2]);have hv1:=hv 1 _ (vs[1]'(by omega)) rfl (by simp[hs2]);have hvs:vs=#[.pointer (some ⟨b,0,none⟩),.string s]:=by
  have e0:vs[0]'(by omega) = .pointer (some ⟨b,0,none⟩):=by
   generalize vs[0]'(by omega)=u at hv0;cases hv0 with
   | ptr hg=>rw[h1]at hg; injection hg with hg; injection hg with hg; injection hg with hg; subst hg; rfl
  have e1:vs[1]'(by omega) = .string s:=hv1.inv_str;apply Array.ext
  ·rw[hs2]; rfl
  ·intro q hq _
   match q,hq with
   | 0,_=>simpa using e0
   | 1,_=>simpa using e1
   | q+2,hq=>omega
 subst hvs;have hblt:b<w.heap.size:=(sL.1 h2).1;have rowb:Pa w v x:=by
  rcases h4 with h4 | ⟨r,cap,cur,k1,k2,k3,k4⟩
  ·exact .inl h4
  ·exact .inr ⟨r,cap,cur,k1,k2,k4⟩
 have hvb:blk v≠some b:=by
  rcases h4 with⟨rfl,_⟩ | ⟨r,cap,cur,rfl,k2,k3,k4⟩
  ·simp[blk]
  ·simp[blk]; exact k3
 obtain⟨w1,c1,c2,c3,c4,c5,c6,c7⟩:∃ w1,(Calls Proofs.Tryz.prog 21 #[.pointer (some ⟨b,0,none⟩)] w fun e w'=>e = .returned (.tuple #[])/\w'=w1)/\w1.heap[b]? = some (.cells #[.pointer (some ⟨b,0,none⟩),v] 53 (0,0)) /\
   (∀ k,k≠b->w1.heap[k]? = w.heap[k]?)/\w1.heap.size=w.heap.size/\w1.os=w.os/\w1.tape=w.tape/\w1.output=w.output:=by
  rcases h3 with rfl | rfl
  ·refine⟨_,Proofs.Tryz.copyCheck_fresh b w (by rw[Lib.cell_of_heap h2]; rfl) (by simp[World.shape?,h2]) (Lib.frozen_of_heap h2 0),?_,fun k hk=>eS w b 0 k _ hk,kB ..,rfl,rfl,rfl⟩;rw[jV w b 0 _ _ _ _ h2 (by decide)];rfl
  ·exact⟨w,Proofs.Tryz.copyCheck_used b w (by rw[Lib.cell_of_heap h2]; rfl),h2,fun _ _=>rfl,rfl,rfl,rfl,rfl⟩
 have rowb1:Pa w1 v x:=by
  rcases rowb with h | ⟨r,cap,cur,k1,k2,k3⟩
  ·exact .inl h
  ·refine .inr ⟨r,cap,cur,k1,?_,k3⟩;rw[c3 r (fun e=>hvb (by rw[k1,e]; rfl))]; exact k2
 obtain⟨ao,n',cap',w2,d1,d2,d3,d4,d5,d6,d7,d8⟩:=yJ x s w1 v rowb1 hC;have hb2:w2.heap[b]? = some (.cells #[.pointer (some ⟨b,0,none⟩),v] 53 (0,0)):=by rw[d3 b (by omega) hvb]; exact c2
 have hv'b:blk (.slice ao n' cap')≠some b:=fun e=>by
  rcases d8 b e with h | h
  ·exact hvb h
  ·omega
 refine(Proofs.Tryz.WriteString_ex b v ao n' cap' s w w1 w2 c1 c2 d1 hb2).mono ?_;rintro e w' ⟨rfl,rfl⟩;have hold:∀ k,k<w.heap.size->k≠b->blk v≠some k->(w2.setCell ⟨b,1,none⟩ (.slice ao n' cap')).heap[k]? = w.heap[k]?:=fun k hk hkb hkv=>by rw[eS w2 b 1 k _ hkb,d3 k (by omega) hkv,c3 k hkb]
 have hbld:Vq (w2.setCell ⟨b,1,none⟩ (.slice ao n' cap')) (g 30000) 53 5 (x++s):=by
  refine⟨b,.pointer (some ⟨b,0,none⟩),.slice ao n' cap',h1,?_,.inr rfl,?_⟩
  ·rw[jV w2 b 1 _ _ _ _ hb2 (by decide)]; rfl
  ·rcases d2 with h | ⟨r,cap,cur,k1,k2,k3⟩
   ·exact .inl h
   ·have hrb:r≠b:=fun e=>hv'b (by rw[k1,e]; rfl);exact .inr ⟨r,cap,cur,k1,by rw[eS w2 b 1 r _ hrb]; exact k2,hrb,k3⟩
 have hfoot:∀ q,aK g (w2.setCell ⟨b,1,none⟩ (.slice ao n' cap')) 30000 (.bld 53 5 (x++s)) q->q=b\/blk (.slice ao n' cap')=some q:=by
  intro q hq;cases hq with
  | self h=>rw[h1]at h; simp[blk]at h; exact .inl h.symm
  | bld k1 k2 k3=>rw[h1]at k1; injection k1 with k1; injection k1 with k1; injection k1 with k1; subst k1;rw[jV w2 b 1 _ _ _ _ hb2 (by decide)]at k2;injection k2 with k2; injection k2 with k2; injection k2 with k2; injection k2 with k2 k4; injection k4 with k4;subst k4;exact .inr k3
 have hown:∀ q,blk v=some q->aK g w 30000 (.bld 53 5 x) q:=fun q hq=>.bld h1 h2 hq;have hself:aK g w 30000 (.bld 53 5 x) b:=.self (by rw[h1]; rfl);refine⟨_,_,_,F,g,rfl,⟨rfl,rfl⟩,.tup rfl fun j q u hq hu=>?_,⟨⟨fun o q hq=>?_,fun o q c hq hc=>?_,fun o q o' q' c hq hq' hne=>?_⟩,fun b h=>h,fun c hc=>⟨?_,.inl hc⟩,⟨?_,?_,?_,?_,fun c hc hn=>?_⟩,fun _ _=>rfl,?_⟩⟩
 ·match j,hq,hu with
  | 0,hq,hu=>simp at hq hu; subst hq; subst hu; exact .t (.int _ _)
  | 1,hq,hu=>simp at hq hu; subst hq; subst hu; exact .lit rfl
  | j+2,hq,_=>simp at hq
 ·cases bX.1 hq; exact hbld
 ·cases bX.1 hq;rcases hfoot c hc with rfl | h
  ·exact⟨(hH.own _ _ _ hmem hself).1,.inl ⟨_,_,hmem,hself⟩⟩
  ·rcases d8 c h with h | h
   ·exact⟨(hH.own _ _ _ hmem (hown c h)).1,.inl ⟨_,_,hmem,hown c h⟩⟩
   ·exact⟨fun hf=>by have:=hF c hf; omega,.inr (by simpa[c4] using h)⟩
 ·cases bX.1 hq; cases bX.1 hq'; exact absurd rfl hne
 ·rw[kB]; have:=hF c hc; omega
 ·show w2.os=w.os; rw[d5,c5]
 ·show w2.tape=w.tape; rw[d6,c6]
 ·show w2.output=w.output; rw[d7,c7]
 ·rw[kB]; show w.heap.size<=_; omega
 ·exact hold c hc (fun e=>hn ⟨_,_,hmem,e▸hself⟩) (fun e=>hn ⟨_,_,hmem,hown c e⟩)
 ·rintro c ⟨o,q,k1,k2⟩;exact k2.block (hH.obj o q k1)
end Go.PL
namespace Go.Proofs
open Go.Shelf
def Tryz.laysM171_ren:Go.Shelf.Ren:=⟨fun | 171=>23 | 243=>52 | 246=>59 | 283=>100 | 284=>101 | 285=>102 | 286=>103 | 129=>138 | 317=>137 | 318=>139 | 319=>140 | 320=>141 | 337=>158 | 338=>159 | n=>n,fun | 3=>3 | 9=>9 | 2=>2 | 4=>4 | 171=>159 | 0=>0 | 53=>152 | 37=>51 | 5=>5 | 173=>162 | 212=>202 | 51=>143 | 20=>20 | 213=>203 | 46=>155 | 232=>235 | 233=>236 | n=>n,fun | 17=>5 | 18=>8 | 19=>9 | n=>n⟩
theorem Tryz.laysM171:Go.Proofs.LaysM.n171 Tryz.prog Tryz.laysM171_ren:={
 mixed:=by kernel_rfl
 f129:=Tryz.func138.trans (congrArg some (by kernel_rfl))
 f171:=Tryz.func23.trans (congrArg some (by kernel_rfl))
 f243:=Tryz.func52.trans (congrArg some (by kernel_rfl))
 f246:=Tryz.func59.trans (congrArg some (by kernel_rfl))
 f283:=Tryz.func100.trans (congrArg some (by kernel_rfl))
 f284:=Tryz.func101.trans (congrArg some (by kernel_rfl))
 f285:=Tryz.func102.trans (congrArg some (by kernel_rfl))
 f286:=Tryz.func103.trans (congrArg some (by kernel_rfl))
 f317:=Tryz.func137.trans (congrArg some (by kernel_rfl))
 f318:=Tryz.func139.trans (congrArg some (by kernel_rfl))
 f319:=Tryz.func140.trans (congrArg some (by kernel_rfl))
 f320:=Tryz.func141.trans (congrArg some (by kernel_rfl))
 f337:=Tryz.func158.trans (congrArg some (by kernel_rfl))
 f338:=Tryz.func159.trans (congrArg some (by kernel_rfl))
 t0:=Tryz.underlying0
 a0:=Tryz.isAgg0
 z0:=Tryz.sizeOf0
 v0:=Tryz.zeroValue0
 t2:=Tryz.underlying2
 a2:=Tryz.isAgg2
 z2:=Tryz.sizeOf2
 v2:=Tryz.zeroValue2
 t3:=Tryz.underlying3
 a3:=Tryz.isAgg3
 z3:=Tryz.sizeOf3
 v3:=Tryz.zeroValue3
 t4:=Tryz.underlying4
 a4:=Tryz.isAgg4
 z4:=Tryz.sizeOf4
 v4:=Tryz.zeroValue4
 t5:=Tryz.underlying5
 a5:=Tryz.isAgg5
 z5:=Tryz.sizeOf5
 v5:=Tryz.zeroValue5
 t9:=Tryz.underlying9
 a9:=Tryz.isAgg9
 z9:=Tryz.sizeOf9
 v9:=Tryz.zeroValue9
 t20:=Tryz.underlying20
 a20:=Tryz.isAgg20
 z20:=Tryz.sizeOf20
 v20:=Tryz.zeroValue20
 t37:=Tryz.underlying51
 a37:=Tryz.isAgg51
 z37:=Tryz.sizeOf51
 v37:=Tryz.zeroValue51
 t46:=Tryz.underlying155
 a46:=Tryz.isAgg155
 z46:=Tryz.sizeOf155
 v46:=Tryz.zeroValue155
 t51:=Tryz.underlying143
 a51:=Tryz.isAgg143
 z51:=Tryz.sizeOf143
 v51:=Tryz.zeroValue143
 t53:=Tryz.underlying152
 a53:=Tryz.isAgg152
 z53:=Tryz.sizeOf152
 v53:=Tryz.zeroValue152
 t171:=Tryz.underlying159
 a171:=Tryz.isAgg159
 z171:=Tryz.sizeOf159
 v171:=Tryz.zeroValue159
 t173:=Tryz.underlying162
 a173:=Tryz.isAgg162
 z173:=Tryz.sizeOf162
 v173:=Tryz.zeroValue162
 t212:=Tryz.underlying202
 a212:=Tryz.isAgg202
 z212:=Tryz.sizeOf202
 v212:=Tryz.zeroValue202
 t213:=Tryz.underlying203
 a213:=Tryz.isAgg203
 z213:=Tryz.sizeOf203
 t232:=Tryz.underlying235
 a232:=Tryz.isAgg235
 z232:=Tryz.sizeOf235
 v232:=Tryz.zeroValue235
 t233:=Tryz.underlying236
 a233:=Tryz.isAgg236
 z233:=Tryz.sizeOf236
 v233:=Tryz.zeroValue236
 g17:=by kernel_rfl
 g18:=by kernel_rfl
 g19:=by kernel_rfl
 i0:=by kernel_rfl
 i2:=by kernel_rfl
 i3:=by kernel_rfl
 i4:=by kernel_rfl
 i5:=by kernel_rfl
 i9:=by kernel_rfl
 i20:=by kernel_rfl
 i37:=by kernel_rfl
 i46:=by kernel_rfl
 i51:=by kernel_rfl
 i53:=by kernel_rfl
 i171:=by kernel_rfl
 i173:=by kernel_rfl
 i212:=by kernel_rfl
 i232:=by kernel_rfl
 i233:=by kernel_rfl
 m17:=by kernel_rfl
 m18:=by kernel_rfl
 m19:=by kernel_rfl }
open Go.RowKit Go.Sort Go.Lib in
theorem Tryz.strconv_Itoa(n:Int)(h0:-9223372036854775808<=n)(h1:n<=9223372036854775807)(w:World)(htab:Lib.TabIs Tryz.prog w "internal/strconv.uint64pow10" .u64 Lib.pow10Tab):
  Calls Tryz.prog 23 #[.int .i64 n] w fun e w'=>e = .returned (.string ⟨(Lib.itoa n).toArray⟩)/\∃ k os,w'=grow (w.drewN k) os:=Any.strconv_Itoa Tryz.laysM171 n h0 h1 w htab
def Tryz.laysM173_ren:Go.Shelf.Ren:=⟨fun | 173=>27 | 246=>59 | 283=>100 | 284=>101 | 285=>102 | 286=>103 | 129=>138 | 317=>137 | 318=>139 | 319=>140 | 320=>141 | 337=>158 | 338=>159 | n=>n,fun | 2=>2 | 3=>3 | 9=>9 | 4=>4 | 171=>159 | 0=>0 | 53=>152 | 37=>51 | 5=>5 | 173=>162 | 212=>202 | 51=>143 | 20=>20 | 213=>203 | 46=>155 | 232=>235 | 233=>236 | n=>n,fun | 17=>5 | 18=>8 | 19=>9 | n=>n⟩
theorem Tryz.laysM173:Go.Proofs.LaysM.n173 Tryz.prog Tryz.laysM173_ren:={
 mixed:=by kernel_rfl
 f129:=Tryz.func138.trans (congrArg some (by kernel_rfl))
 f173:=Tryz.func27.trans (congrArg some (by kernel_rfl))
 f246:=Tryz.func59.trans (congrArg some (by kernel_rfl))
 f283:=Tryz.func100.trans (congrArg some (by kernel_rfl))
 f284:=Tryz.func101.trans (congrArg some (by kernel_rfl))
 f285:=Tryz.func102.trans (congrArg some (by kernel_rfl))
 f286:=Tryz.func103.trans (congrArg some (by kernel_rfl))
 f317:=Tryz.func137.trans (congrArg some (by kernel_rfl))
 f318:=Tryz.func139.trans (congrArg some (by kernel_rfl))
 f319:=Tryz.func140.trans (congrArg some (by kernel_rfl))
 f320:=Tryz.func141.trans (congrArg some (by kernel_rfl))
 f337:=Tryz.func158.trans (congrArg some (by kernel_rfl))
 f338:=Tryz.func159.trans (congrArg some (by kernel_rfl))
 t0:=Tryz.underlying0
 a0:=Tryz.isAgg0
 z0:=Tryz.sizeOf0
 v0:=Tryz.zeroValue0
 t2:=Tryz.underlying2
 a2:=Tryz.isAgg2
 z2:=Tryz.sizeOf2
 v2:=Tryz.zeroValue2
 t3:=Tryz.underlying3
 a3:=Tryz.isAgg3
 z3:=Tryz.sizeOf3
 v3:=Tryz.zeroValue3
 t4:=Tryz.underlying4
 a4:=Tryz.isAgg4
 z4:=Tryz.sizeOf4
 v4:=Tryz.zeroValue4
 t5:=Tryz.underlying5
 a5:=Tryz.isAgg5
 z5:=Tryz.sizeOf5
 v5:=Tryz.zeroValue5
 t9:=Tryz.underlying9
 a9:=Tryz.isAgg9
 z9:=Tryz.sizeOf9
 v9:=Tryz.zeroValue9
 t20:=Tryz.underlying20
 a20:=Tryz.isAgg20
 z20:=Tryz.sizeOf20
 v20:=Tryz.zeroValue20
 t37:=Tryz.underlying51
 a37:=Tryz.isAgg51
 z37:=Tryz.sizeOf51
 v37:=Tryz.zeroValue51
 t46:=Tryz.underlying155
 a46:=Tryz.isAgg155
 z46:=Tryz.sizeOf155
 v46:=Tryz.zeroValue155
 t51:=Tryz.underlying143
 a51:=Tryz.isAgg143
 z51:=Tryz.sizeOf143
 v51:=Tryz.zeroValue143
 t53:=Tryz.underlying152
 a53:=Tryz.isAgg152
 z53:=Tryz.sizeOf152
 v53:=Tryz.zeroValue152
 t171:=Tryz.underlying159
 a171:=Tryz.isAgg159
 z171:=Tryz.sizeOf159
 v171:=Tryz.zeroValue159
 t173:=Tryz.underlying162
 a173:=Tryz.isAgg162
 z173:=Tryz.sizeOf162
 v173:=Tryz.zeroValue162
 t212:=Tryz.underlying202
 a212:=Tryz.isAgg202
 z212:=Tryz.sizeOf202
 v212:=Tryz.zeroValue202
 t213:=Tryz.underlying203
 a213:=Tryz.isAgg203
 z213:=Tryz.sizeOf203
 t232:=Tryz.underlying235
 a232:=Tryz.isAgg235
 z232:=Tryz.sizeOf235
 v232:=Tryz.zeroValue235
 t233:=Tryz.underlying236
 a233:=Tryz.isAgg236
 z233:=Tryz.sizeOf236
 v233:=Tryz.zeroValue236
 g17:=by kernel_rfl
 g18:=by kernel_rfl
 g19:=by kernel_rfl
 i0:=by kernel_rfl
 i2:=by kernel_rfl
 i3:=by kernel_rfl
 i4:=by kernel_rfl
 i5:=by kernel_rfl
 i9:=by kernel_rfl
 i20:=by kernel_rfl
 i37:=by kernel_rfl
 i46:=by kernel_rfl
 i51:=by kernel_rfl
 i53:=by kernel_rfl
 i171:=by kernel_rfl
 i173:=by kernel_rfl
 i212:=by kernel_rfl
 i232:=by kernel_rfl
 i233:=by kernel_rfl
 m17:=by kernel_rfl
 m18:=by kernel_rfl
 m19:=by kernel_rfl }
open Go.RowKit Go.Sort Go.Lib in
theorem Tryz.strconv_FormatInt_10(n:Int)(h0:-9223372036854775808<=n)(h1:n<=9223372036854775807)(w:World)(htab:Lib.TabIs Tryz.prog w "internal/strconv.uint64pow10" .u64 Lib.pow10Tab):
  Calls Tryz.prog 27 #[.int .i64 n,.int .i64 10] w fun e w'=>e = .returned (.string ⟨(Lib.itoa n).toArray⟩)/\∃ k os,w'=grow (w.drewN k) os:=Any.strconv_FormatInt_10 Tryz.laysM173 n h0 h1 w htab
def Tryz.laysC174_ren:Go.Shelf.Ren:=⟨fun | 174=>26 | 247=>57 | 245=>58 | 287=>95 | 279=>96 | 280=>97 | 281=>98 | 282=>99 | 321=>133 | 322=>134 | 316=>135 | 171=>23 | 205=>136 | 243=>52 | 246=>59 | 283=>100 | 284=>101 | 285=>102 | 286=>103 | 129=>138 | 317=>137 | 318=>139 | 319=>140 | 320=>141 | 337=>158 | 338=>159 | n=>n,fun | 9=>9 | 3=>3 | 2=>2 | 75=>55 | 85=>74 | 4=>4 | 167=>151 | 5=>5 | 53=>152 | 175=>153 | 46=>155 | 168=>156 | 37=>51 | 0=>0 | 210=>199 | 21=>21 | 127=>71 | 145=>229 | 143=>227 | 171=>159 | 173=>162 | 212=>202 | 51=>143 | 20=>20 | 213=>203 | 232=>235 | 233=>236 | 80=>61 | n=>n,fun | 15=>3 | 16=>4 | 17=>5 | 18=>8 | 19=>9 | n=>n⟩
theorem Tryz.laysC174:Go.Proofs.LaysC.n174 Tryz.prog Tryz.laysC174_ren:={
 mixed:=by kernel_rfl
 f129:=Tryz.func138.trans (congrArg some (by kernel_rfl))
 f171:=Tryz.func23.trans (congrArg some (by kernel_rfl))
 f174:=Tryz.func26.trans (congrArg some (by kernel_rfl))
 f205:=Tryz.func136.trans (congrArg some (by kernel_rfl))
 f243:=Tryz.func52.trans (congrArg some (by kernel_rfl))
 f245:=Tryz.func58.trans (congrArg some (by kernel_rfl))
 f246:=Tryz.func59.trans (congrArg some (by kernel_rfl))
 f247:=Tryz.func57.trans (congrArg some (by kernel_rfl))
 f279:=Tryz.func96.trans (congrArg some (by kernel_rfl))
 f280:=Tryz.func97.trans (congrArg some (by kernel_rfl))
 f281:=Tryz.func98.trans (congrArg some (by kernel_rfl))
 f282:=Tryz.func99.trans (congrArg some (by kernel_rfl))
 f283:=Tryz.func100.trans (congrArg some (by kernel_rfl))
 f284:=Tryz.func101.trans (congrArg some (by kernel_rfl))
 f285:=Tryz.func102.trans (congrArg some (by kernel_rfl))
 f286:=Tryz.func103.trans (congrArg some (by kernel_rfl))
 f287:=Tryz.func95.trans (congrArg some (by kernel_rfl))
 f316:=Tryz.func135.trans (congrArg some (by kernel_rfl))
 f317:=Tryz.func137.trans (congrArg some (by kernel_rfl))
 f318:=Tryz.func139.trans (congrArg some (by kernel_rfl))
 f319:=Tryz.func140.trans (congrArg some (by kernel_rfl))
 f320:=Tryz.func141.trans (congrArg some (by kernel_rfl))
 f321:=Tryz.func133.trans (congrArg some (by kernel_rfl))
 f322:=Tryz.func134.trans (congrArg some (by kernel_rfl))
 f337:=Tryz.func158.trans (congrArg some (by kernel_rfl))
 f338:=Tryz.func159.trans (congrArg some (by kernel_rfl))
 t0:=Tryz.underlying0
 a0:=Tryz.isAgg0
 z0:=Tryz.sizeOf0
 v0:=Tryz.zeroValue0
 t2:=Tryz.underlying2
 a2:=Tryz.isAgg2
 z2:=Tryz.sizeOf2
 v2:=Tryz.zeroValue2
 t3:=Tryz.underlying3
 a3:=Tryz.isAgg3
 z3:=Tryz.sizeOf3
 v3:=Tryz.zeroValue3
 t4:=Tryz.underlying4
 a4:=Tryz.isAgg4
 z4:=Tryz.sizeOf4
 v4:=Tryz.zeroValue4
 t5:=Tryz.underlying5
 a5:=Tryz.isAgg5
 z5:=Tryz.sizeOf5
 v5:=Tryz.zeroValue5
 t9:=Tryz.underlying9
 a9:=Tryz.isAgg9
 z9:=Tryz.sizeOf9
 v9:=Tryz.zeroValue9
 t20:=Tryz.underlying20
 a20:=Tryz.isAgg20
 z20:=Tryz.sizeOf20
 v20:=Tryz.zeroValue20
 t21:=Tryz.underlying21
 a21:=Tryz.isAgg21
 z21:=Tryz.sizeOf21
 v21:=Tryz.zeroValue21
 t37:=Tryz.underlying51
 a37:=Tryz.isAgg51
 z37:=Tryz.sizeOf51
 v37:=Tryz.zeroValue51
 t46:=Tryz.underlying155
 a46:=Tryz.isAgg155
 z46:=Tryz.sizeOf155
 v46:=Tryz.zeroValue155
 t51:=Tryz.underlying143
 a51:=Tryz.isAgg143
 z51:=Tryz.sizeOf143
 v51:=Tryz.zeroValue143
 t53:=Tryz.underlying152
 a53:=Tryz.isAgg152
 z53:=Tryz.sizeOf152
 v53:=Tryz.zeroValue152
 t75:=Tryz.underlying55
 a75:=Tryz.isAgg55
 z75:=Tryz.sizeOf55
 v75:=Tryz.zeroValue55
 t85:=Tryz.underlying74
 a85:=Tryz.isAgg74
 z85:=Tryz.sizeOf74
 v85:=Tryz.zeroValue74
 t127:=Tryz.underlying71
 a127:=Tryz.isAgg71
 z127:=Tryz.sizeOf71
 v127:=Tryz.zeroValue71
 t143:=Tryz.underlying227
 a143:=Tryz.isAgg227
 z143:=Tryz.sizeOf227
 v143:=Tryz.zeroValue227
 t145:=Tryz.underlying229
 a145:=Tryz.isAgg229
 z145:=Tryz.sizeOf229
 v145:=Tryz.zeroValue229
 t167:=Tryz.underlying151
 a167:=Tryz.isAgg151
 z167:=Tryz.sizeOf151
 v167:=Tryz.zeroValue151
 t168:=Tryz.underlying156
 a168:=Tryz.isAgg156
 z168:=Tryz.sizeOf156
 v168:=Tryz.zeroValue156
 t171:=Tryz.underlying159
 a171:=Tryz.isAgg159
 z171:=Tryz.sizeOf159
 v171:=Tryz.zeroValue159
 t173:=Tryz.underlying162
 a173:=Tryz.isAgg162
 z173:=Tryz.sizeOf162
 v173:=Tryz.zeroValue162
 t175:=Tryz.underlying153
 a175:=Tryz.isAgg153
 z175:=Tryz.sizeOf153
 v175:=Tryz.zeroValue153
 t210:=Tryz.underlying199
 a210:=Tryz.isAgg199
 z210:=Tryz.sizeOf199
 v210:=Tryz.zeroValue199
 t212:=Tryz.underlying202
 a212:=Tryz.isAgg202
 z212:=Tryz.sizeOf202
 v212:=Tryz.zeroValue202
 t213:=Tryz.underlying203
 a213:=Tryz.isAgg203
 z213:=Tryz.sizeOf203
 t232:=Tryz.underlying235
 a232:=Tryz.isAgg235
 z232:=Tryz.sizeOf235
 v232:=Tryz.zeroValue235
 t233:=Tryz.underlying236
 a233:=Tryz.isAgg236
 z233:=Tryz.sizeOf236
 v233:=Tryz.zeroValue236
 g15:=by kernel_rfl
 g16:=by kernel_rfl
 g17:=by kernel_rfl
 g18:=by kernel_rfl
 g19:=by kernel_rfl
 t80:=Tryz.underlying61
 a80:=Tryz.isAgg61
 z80:=Tryz.sizeOf61
 v80:=Tryz.zeroValue61
 i0:=by kernel_rfl
 i2:=by kernel_rfl
 i3:=by kernel_rfl
 i4:=by kernel_rfl
 i5:=by kernel_rfl
 i9:=by kernel_rfl
 i20:=by kernel_rfl
 i21:=by kernel_rfl
 i37:=by kernel_rfl
 i46:=by kernel_rfl
 i51:=by kernel_rfl
 i53:=by kernel_rfl
 i75:=by kernel_rfl
 i80:=by kernel_rfl
 i85:=by kernel_rfl
 i127:=by kernel_rfl
 i143:=by kernel_rfl
 i145:=by kernel_rfl
 i167:=by kernel_rfl
 i168:=by kernel_rfl
 i171:=by kernel_rfl
 i173:=by kernel_rfl
 i175:=by kernel_rfl
 i210:=by kernel_rfl
 i212:=by kernel_rfl
 i232:=by kernel_rfl
 i233:=by kernel_rfl
 m15:=by kernel_rfl
 m16:=by kernel_rfl
 m17:=by kernel_rfl
 m18:=by kernel_rfl
 m19:=by kernel_rfl
 c0:=by kernel_rfl
 c2:=by kernel_rfl
 c3:=by kernel_rfl
 c4:=by kernel_rfl
 c5:=by kernel_rfl
 c9:=by kernel_rfl
 c20:=by kernel_rfl
 c21:=by kernel_rfl
 c37:=by kernel_rfl
 c46:=by kernel_rfl
 c51:=by kernel_rfl
 c53:=by kernel_rfl
 c75:=by kernel_rfl
 c80:=by kernel_rfl
 c85:=by kernel_rfl
 c127:=by kernel_rfl
 c143:=by kernel_rfl
 c145:=by kernel_rfl
 c167:=by kernel_rfl
 c168:=by kernel_rfl
 c171:=by kernel_rfl
 c173:=by kernel_rfl
 c175:=by kernel_rfl
 c210:=by kernel_rfl
 c212:=by kernel_rfl
 c213:=by kernel_rfl
 c232:=by kernel_rfl
 c233:=by kernel_rfl }
open Go.RowKit in
theorem Tryz.strconv_ParseInt_10_at64_ok(s:ByteArray)(hmax:s.size<=9223372036854775806)(v:Int)(h:Lib.parseIntB 64 s.data.toList = .ok v)(w:World):
  Calls Tryz.prog 26 #[.string s,.int .i64 10,.int .i64 64] w fun e w'=>e = .returned (.tuple #[.int .i64 v,.nilIface])/\(w'=w\/∃ t,w'=Lib.bytesWorld w 5 t):=Any.strconv_ParseInt_10_at64_ok Tryz.laysC174 s hmax v h w
open Go.RowKit in
theorem Tryz.strconv_ParseInt_10_at64_syntax(s:ByteArray)(hlim:s.size<=281474976710656)(h:Lib.parseIntB 64 s.data.toList=Lib.parseIntB 64 [])(ev:Value)(w:World)(hv:w.cell? ⟨3,0,none⟩=some ev)(hev:ev = .nilIface\/∃ te pe,ev = .iface te pe):
  Calls Tryz.prog 26 #[.string s,.int .i64 10,.int .i64 64] w fun e w'=>∃ N,e = .returned (.tuple #[.int .i64 (0),.iface 156 (.pointer (some ⟨N,0,none⟩))])/\w.heap.size<=N/\w'.heap[N]? = some (.cells #[.string ⟨#[80,97,114,115,101,73,110,116]⟩,.string s,ev] 199 (0,0))/\Below w.heap.size w w':=Any.strconv_ParseInt_10_at64_syntax Tryz.laysC174 s hlim (h.trans (by rfl)) ev w hv hev
open Go.RowKit in
theorem Tryz.strconv_ParseInt_10_at64_range(s:ByteArray)(hlim:s.size<=281474976710656)(h:Lib.parseIntB 64 s.data.toList = .range)(ev:Value)(w:World)(hv:w.cell? ⟨4,0,none⟩=some ev)(hev:ev = .nilIface\/∃ te pe,ev = .iface te pe):
  Calls Tryz.prog 26 #[.string s,.int .i64 10,.int .i64 64] w fun e w'=>∃ N,e = .returned (.tuple #[.int .i64 (Lib.intSat 64 s.data.toList),.iface 156 (.pointer (some ⟨N,0,none⟩))])/\w.heap.size<=N/\w'.heap[N]? = some (.cells #[.string ⟨#[80,97,114,115,101,73,110,116]⟩,.string s,ev] 199 (0,0))/\Below w.heap.size w w':=Any.strconv_ParseInt_10_at64_range Tryz.laysC174 s hlim h ev w hv hev
def Tryz.lays102_ren:Go.Shelf.Ren:=⟨fun | 102=>24 | 209=>53 | 207=>90 | n=>n,fun | 9=>9 | 4=>4 | 3=>3 | n=>n,fun | n=>n⟩
theorem Tryz.lays102:Go.Proofs.Lays.n102 Tryz.prog Tryz.lays102_ren:={
 mixed:=by kernel_rfl
 f102:=Tryz.func24.trans (congrArg some (by kernel_rfl))
 f207:=Tryz.func90.trans (congrArg some (by kernel_rfl))
 f209:=Tryz.func53.trans (congrArg some (by kernel_rfl))
 t3:=Tryz.underlying3
 a3:=Tryz.isAgg3
 z3:=Tryz.sizeOf3
 v3:=Tryz.zeroValue3
 t4:=Tryz.underlying4
 a4:=Tryz.isAgg4
 z4:=Tryz.sizeOf4
 v4:=Tryz.zeroValue4
 t9:=Tryz.underlying9
 a9:=Tryz.isAgg9
 z9:=Tryz.sizeOf9
 v9:=Tryz.zeroValue9 }
open Go.RowKit Go.Lib in
theorem Tryz.strings_TrimSuffix(s p:ByteArray)(w:World)(hs:s.size<=9223372036854775807):
  Calls Tryz.prog 24 #[.string s,.string p] w fun e w'=>e = .returned (.string ⟨(Lib.trimSuffix s.data.toList p.data.toList).toArray⟩)/\w'=w:=Any.strings_TrimSuffix Tryz.lays102 s p w hs
def Tryz.lays146_ren:Go.Shelf.Ren:=⟨fun | 146=>15 | 221=>25 | 268=>54 | 138=>55 | 143=>56 | 195=>91 | 197=>92 | 218=>93 | 219=>94 | 260=>128 | 217=>129 | 225=>130 | 224=>131 | 267=>132 | 266=>156 | 314=>157 | n=>n,fun | 9=>9 | 31=>58 | 3=>3 | 4=>4 | 0=>0 | 105=>148 | 21=>21 | 5=>5 | 46=>155 | 119=>101 | 139=>224 | 138=>223 | 146=>225 | 51=>143 | n=>n,fun | 1=>2 | 3=>6 | 4=>7 | n=>n⟩
theorem Tryz.lays146:Go.Proofs.Lays.n146 Tryz.prog Tryz.lays146_ren:={
 mixed:=by kernel_rfl
 f138:=Tryz.func55.trans (congrArg some (by kernel_rfl))
 f143:=Tryz.func56.trans (congrArg some (by kernel_rfl))
 f146:=Tryz.func15.trans (congrArg some (by kernel_rfl))
 f195:=Tryz.func91.trans (congrArg some (by kernel_rfl))
 f197:=Tryz.func92.trans (congrArg some (by kernel_rfl))
 f217:=Tryz.func129.trans (congrArg some (by kernel_rfl))
 f218:=Tryz.func93.trans (congrArg some (by kernel_rfl))
 f219:=Tryz.func94.trans (congrArg some (by kernel_rfl))
 f221:=Tryz.func25.trans (congrArg some (by kernel_rfl))
 f224:=Tryz.func131.trans (congrArg some (by kernel_rfl))
 f225:=Tryz.func130.trans (congrArg some (by kernel_rfl))
 f260:=Tryz.func128.trans (congrArg some (by kernel_rfl))
 f266:=Tryz.func156.trans (congrArg some (by kernel_rfl))
 f267:=Tryz.func132.trans (congrArg some (by kernel_rfl))
 f268:=Tryz.func54.trans (congrArg some (by kernel_rfl))
 f314:=Tryz.func157.trans (congrArg some (by kernel_rfl))
 t0:=Tryz.underlying0
 a0:=Tryz.isAgg0
 z0:=Tryz.sizeOf0
 v0:=Tryz.zeroValue0
 t3:=Tryz.underlying3
 a3:=Tryz.isAgg3
 z3:=Tryz.sizeOf3
 v3:=Tryz.zeroValue3
 t4:=Tryz.underlying4
 a4:=Tryz.isAgg4
 z4:=Tryz.sizeOf4
 v4:=Tryz.zeroValue4
 t5:=Tryz.underlying5
 a5:=Tryz.isAgg5
 z5:=Tryz.sizeOf5
 v5:=Tryz.zeroValue5
 t9:=Tryz.underlying9
 a9:=Tryz.isAgg9
 z9:=Tryz.sizeOf9
 v9:=Tryz.zeroValue9
 t21:=Tryz.underlying21
 a21:=Tryz.isAgg21
 z21:=Tryz.sizeOf21
 v21:=Tryz.zeroValue21
 t31:=Tryz.underlying58
 a31:=Tryz.isAgg58
 z31:=Tryz.sizeOf58
 v31:=Tryz.zeroValue58
 t46:=Tryz.underlying155
 a46:=Tryz.isAgg155
 z46:=Tryz.sizeOf155
 v46:=Tryz.zeroValue155
 t51:=Tryz.underlying143
 a51:=Tryz.isAgg143
 z51:=Tryz.sizeOf143
 v51:=Tryz.zeroValue143
 t105:=Tryz.underlying148
 a105:=Tryz.isAgg148
 z105:=Tryz.sizeOf148
 v105:=Tryz.zeroValue148
 t119:=Tryz.underlying101
 a119:=Tryz.isAgg101
 z119:=Tryz.sizeOf101
 t138:=Tryz.underlying223
 a138:=Tryz.isAgg223
 z138:=Tryz.sizeOf223
 v138:=Tryz.zeroValue223
 t139:=Tryz.underlying224
 a139:=Tryz.isAgg224
 z139:=Tryz.sizeOf224
 v139:=Tryz.zeroValue224
 t146:=Tryz.underlying225
 a146:=Tryz.isAgg225
 z146:=Tryz.sizeOf225
 v146:=Tryz.zeroValue225
 g1:=by kernel_rfl
 g3:=by kernel_rfl
 g4:=by kernel_rfl }
open Go.RowKit Go.Lib in
theorem Tryz.strings_Split(s sep:ByteArray)(m:Int)(w:World)(hs:s.size<4294967281)(hm:w.cell? ⟨2,0,none⟩=some (.int .i64 m))(h1:1<=sep.size):
  Calls Tryz.prog 15 #[.string s,.string sep] w fun e w'=>
   e = .returned (.slice (some ⟨w.heap.size,0,none⟩) (Lib.countB s sep+1) (Lib.countB s sep+1))/\w'=w.alloc (.cells ((Lib.splitB sep 0 (Lib.countB s sep) s).map Value.string).toArray 9):=Any.strings_Split Tryz.lays146 (by kernel_rfl) s sep m w hs hm h1
def Tryz.lays157_ren:Go.Shelf.Ren:=⟨fun | 157=>22 | 229=>50 | 199=>51 | 261=>89 | 311=>126 | 312=>127 | n=>n,fun | 9=>9 | 31=>58 | 3=>3 | 5=>5 | 4=>4 | 119=>101 | 0=>0 | 40=>103 | 152=>140 | 21=>21 | 154=>142 | 51=>143 | 141=>145 | 196=>188 | 193=>185 | 198=>191 | 49=>189 | 194=>186 | 201=>194 | 226=>220 | 46=>155 | 227=>221 | n=>n,fun | 0=>0 | 6=>1 | n=>n⟩
theorem Tryz.lays157:Go.Proofs.Lays.n157 Tryz.prog Tryz.lays157_ren:={
 mixed:=by kernel_rfl
 f157:=Tryz.func22.trans (congrArg some (by kernel_rfl))
 f199:=Tryz.func51.trans (congrArg some (by kernel_rfl))
 f229:=Tryz.func50.trans (congrArg some (by kernel_rfl))
 f261:=Tryz.func89.trans (congrArg some (by kernel_rfl))
 f311:=Tryz.func126.trans (congrArg some (by kernel_rfl))
 f312:=Tryz.func127.trans (congrArg some (by kernel_rfl))
 t0:=Tryz.underlying0
 a0:=Tryz.isAgg0
 z0:=Tryz.sizeOf0
 v0:=Tryz.zeroValue0
 t3:=Tryz.underlying3
 a3:=Tryz.isAgg3
 z3:=Tryz.sizeOf3
 v3:=Tryz.zeroValue3
 t4:=Tryz.underlying4
 a4:=Tryz.isAgg4
 z4:=Tryz.sizeOf4
 v4:=Tryz.zeroValue4
 t5:=Tryz.underlying5
 a5:=Tryz.isAgg5
 z5:=Tryz.sizeOf5
 v5:=Tryz.zeroValue5
 t9:=Tryz.underlying9
 a9:=Tryz.isAgg9
 z9:=Tryz.sizeOf9
 v9:=Tryz.zeroValue9
 t21:=Tryz.underlying21
 a21:=Tryz.isAgg21
 z21:=Tryz.sizeOf21
 v21:=Tryz.zeroValue21
 t31:=Tryz.underlying58
 a31:=Tryz.isAgg58
 z31:=Tryz.sizeOf58
 v31:=Tryz.zeroValue58
 t40:=Tryz.underlying103
 a40:=Tryz.isAgg103
 z40:=Tryz.sizeOf103
 v40:=Tryz.zeroValue103
 t46:=Tryz.underlying155
 a46:=Tryz.isAgg155
 z46:=Tryz.sizeOf155
 v46:=Tryz.zeroValue155
 t49:=Tryz.underlying189
 a49:=Tryz.isAgg189
 z49:=Tryz.sizeOf189
 v49:=Tryz.zeroValue189
 t51:=Tryz.underlying143
 a51:=Tryz.isAgg143
 z51:=Tryz.sizeOf143
 v51:=Tryz.zeroValue143
 t119:=Tryz.underlying101
 a119:=Tryz.isAgg101
 z119:=Tryz.sizeOf101
 t141:=Tryz.underlying145
 a141:=Tryz.isAgg145
 z141:=Tryz.sizeOf145
 v141:=Tryz.zeroValue145
 t152:=Tryz.underlying140
 a152:=Tryz.isAgg140
 z152:=Tryz.sizeOf140
 v152:=Tryz.zeroValue140
 t154:=Tryz.underlying142
 a154:=Tryz.isAgg142
 z154:=Tryz.sizeOf142
 v154:=Tryz.zeroValue142
 t193:=Tryz.underlying185
 a193:=Tryz.isAgg185
 z193:=Tryz.sizeOf185
 v193:=Tryz.zeroValue185
 t194:=Tryz.underlying186
 a194:=Tryz.isAgg186
 z194:=Tryz.sizeOf186
 v194:=Tryz.zeroValue186
 t196:=Tryz.underlying188
 a196:=Tryz.isAgg188
 z196:=Tryz.sizeOf188
 v196:=Tryz.zeroValue188
 t198:=Tryz.underlying191
 a198:=Tryz.isAgg191
 z198:=Tryz.sizeOf191
 v198:=Tryz.zeroValue191
 t201:=Tryz.underlying194
 a201:=Tryz.isAgg194
 z201:=Tryz.sizeOf194
 v201:=Tryz.zeroValue194
 t226:=Tryz.underlying220
 a226:=Tryz.isAgg220
 z226:=Tryz.sizeOf220
 v226:=Tryz.zeroValue220
 t227:=Tryz.underlying221
 a227:=Tryz.isAgg221
 z227:=Tryz.sizeOf221
 v227:=Tryz.zeroValue221
 g0:=by kernel_rfl
 g6:=by kernel_rfl }
open Go.RowKit Go.Lib in
theorem Tryz.strings_Fields(s:ByteArray)(w:World)(hs:s.size<4294967281)(hascii:∀ (j:Nat) b,s.data.toList[j]? = some b->b.toNat<128)(htab:Lib.TabIs Tryz.prog w "strings.asciiSpace" .u8 Lib.asciiSpaceTab):
  Calls Tryz.prog 22 #[.string s] w fun e w'=>
   e = .returned (.slice (some ⟨w.heap.size,0,none⟩) (Lib.fields s.data.toList).length (Lib.fields s.data.toList).length)/\w'=w.alloc (.cells ((Lib.fields s.data.toList).map fun l=>Value.string ⟨l.toArray⟩).toArray 9):=Any.strings_Fields Tryz.lays157 (by kernel_rfl) (by kernel_rfl) s w hs hascii htab
end Go.Proofs
namespace Go.PL
open Go
set_option linter.unusedVariables false
variable {F:Nat->Prop} {g:Nat->Value} {p:PV} {u:Value} {vs:Array Value} {w:World}
theorem hv1(hs:vs.size=[p].length)(hv:∀ (j:Nat) x v,[p][j]? = some x->vs[j]? = some v->VR F g w x v)(hu:∀ v,VR F g w p v->v=u):vs=#[u]:=by
 have h1:vs.size=1:=hs;have e0:=hu _ (hv 0 _ (vs[0]'(by omega)) rfl (by simp[h1]));apply Array.ext
 ·rw[h1]; rfl
 ·intro q hq _;have:q=0:=by omega
  subst this;simpa using e0
theorem hv2{p':PV}{u':Value}(hs:vs.size=[p,p'].length)(hv:∀ (j:Nat) x v,[p,p'][j]? = some x->vs[j]? = some v->VR F g w x v)(hu:∀ v,VR F g w p v->v=u)
  (hu':∀ v,VR F g w p' v->v=u'):vs=#[u,u']:=by
 have h1:vs.size=2:=hs;have e0:=hu _ (hv 0 _ (vs[0]'(by omega)) rfl (by simp[h1]));have e1:=hu' _ (hv 1 _ (vs[1]'(by omega)) rfl (by simp[h1]));apply Array.ext
 ·rw[h1]; rfl
 ·intro q hq _
  match q,hq with
  | 0,_=>simpa using e0
  | 1,_=>simpa using e1
  | q+2,hq=>omega
def Pv(a0:Int):Option ByteArray:=if -9223372036854775808<=a0/\a0<=9223372036854775807 then some ⟨(Lib.itoa a0).toArray⟩ else none
theorem My(a0:Int):Con Proofs.Tryz.prog 23 [.t (.int .i64 a0)] (Pv a0) (fun (y:ByteArray)=>.t (.str y)):=by
 refine⟨bH Proofs.Tryz.func23 (by kernel_rfl),fun y hy=>?_⟩;unfold Pv at hy;split at hy
 case isFalse=>cases hy
 rename_i hr;cases hy;intro F g w vs hs hv hH hF hgl;have hvs:=hv1 hs hv (u:=.int .i64 a0) (fun v h=>h.inv_int);subst hvs;have hname:∃ b,Proofs.Tryz.prog.globalNamed uF=some b:=wJ.1 (by kernel_rfl);obtain⟨b,hb⟩:=hname;refine(Proofs.Tryz.strconv_Itoa a0 hr.1 hr.2 w (hgl.tab b hb).1).mono ?_;rintro e w' ⟨rfl,k,os,rfl⟩;refine⟨_,_,[],F,g,rfl,rfl,.t (.str _),eX hH hF rfl rfl rfl ?_ (fun q hq _=>?_)⟩
 ·show w.heap.size<=(w.heap++os).size;rw[gP]; exact Nat.le_add_right _ _
 ·show (w.heap++os)[q]? = w.heap[q]?;exact hS hq
theorem hv3{p' p'':PV}{u' u'':Value}(hs:vs.size=[p,p',p''].length)(hv:∀ (j:Nat) x v,[p,p',p''][j]? = some x->vs[j]? = some v->VR F g w x v)(hu:∀ v,VR F g w p v->v=u)
  (hu':∀ v,VR F g w p' v->v=u')(hu'':∀ v,VR F g w p'' v->v=u''):vs=#[u,u',u'']:=by
 have h1:vs.size=3:=hs;have e0:=hu _ (hv 0 _ (vs[0]'(by omega)) rfl (by simp[h1]));have e1:=hu' _ (hv 1 _ (vs[1]'(by omega)) rfl (by simp[h1]));have e2:=hu'' _ (hv 2 _ (vs[2]'(by omega)) rfl (by simp[h1]));apply Array.ext
 ·rw[h1]; rfl
 ·intro q hq _
  match q,hq with
  | 0,_=>simpa using e0
  | 1,_=>simpa using e1
  | 2,_=>simpa using e2
  | q+3,hq=>omega
theorem Ge{name:String}{b:Nat}(h:GLE Proofs.Tryz.prog F w name)(hb:Proofs.Tryz.prog.globalNamed name=some b):∃ ev,w.cell? ⟨b,0,none⟩=some ev/\(ev = .nilIface\/∃ te pe,ev = .iface te pe):=(h b hb).1
def Ta(s:ByteArray):Option (Int⊕Int):=if s.size<=1000000000000 then some (match Lib.parseIntB 64 s.data.toList with
 | .ok v=>.inl v
 | .range=>.inr (Lib.intSat 64 s.data.toList)
 | _=>.inr 0) else none
theorem Sw(s:ByteArray):eA Proofs.Tryz.prog 26 [.t (.str s),.t (.int .i64 10),.t (.int .i64 64)] [] [] (Ta s) (sel (fun (y:Int)=>.tup [.t (.int .i64 y),.lit .nilIface]) (fun (y:Int)=>.tup [.t (.int .i64 y),.ifx])) (sel (fun _=>[]) (fun _=>[])):=by
 refine⟨bH Proofs.Tryz.func26 (by kernel_rfl),fun y hy=>?_⟩;unfold Ta at hy;split at hy
 case isFalse=>cases hy
 rename_i hs0;cases hy;intro F g w vs hs hv hH hF hgl;have hvs:=hv3 hs hv (u:=.string s) (u':=.int .i64 10) (u'':=.int .i64 64) (fun v h=>h.inv_str) (fun v h=>h.inv_int) (fun v h=>h.inv_int);subst hvs;obtain⟨hsy,hra⟩:=hgl.err rfl;cases hr:Lib.parseIntB 64 s.data.toList with
 | ok v=>
  refine(Proofs.Tryz.strconv_ParseInt_10_at64_ok s (by omega) v hr w).mono ?_;rintro e w' ⟨rfl,hW⟩;have hb:RowKit.Below w.heap.size w w':=by
   rcases hW with rfl | ⟨t,rfl⟩
   ·exact RowKit.Below.refl _ _
   ·exact Lib.bytesWorld_below _ _ _
  refine⟨_,_,[],F,g,rfl,⟨rfl,rfl⟩,?_,eX hH hF hb.os hb.tape hb.output hb.size (fun q hq _=>hb.block q hq)⟩;refine .tup (by rfl) fun j x v hx hv=>?_
  match j,hx,hv with
  | 0,hx,hv=>simp at hx hv; subst hx hv; exact .t (.int _ _)
  | 1,hx,hv=>simp at hx hv; subst hx hv; exact .lit rfl
  | j+2,hx,hv=>simp at hx
 | range=>
  obtain⟨ev,h1,h2⟩:=Ge hra (b:=4) (by kernel_rfl);refine(Proofs.Tryz.strconv_ParseInt_10_at64_range s (by omega) hr ev w h1 h2).mono ?_;rintro e w' ⟨N,rfl,_,_,hb⟩;refine⟨_,_,[],F,g,rfl,⟨rfl,rfl⟩,?_,eX hH hF hb.os hb.tape hb.output hb.size (fun q hq _=>hb.block q hq)⟩;refine .tup (by rfl) fun j x v hx hv=>?_
  match j,hx,hv with
  | 0,hx,hv=>simp at hx hv; subst hx hv; exact .t (.int _ _)
  | 1,hx,hv=>simp at hx hv; subst hx hv; exact .ifx
  | j+2,hx,hv=>simp at hx
 | _=>
  obtain⟨ev,h1,h2⟩:=Ge hsy (b:=3) (by kernel_rfl);refine(Proofs.Tryz.strconv_ParseInt_10_at64_syntax s (by omega) (hr.trans (by rfl)) ev w h1 h2).mono ?_;rintro e w' ⟨N,rfl,_,_,hb⟩;refine⟨_,_,[],F,g,rfl,⟨rfl,rfl⟩,?_,eX hH hF hb.os hb.tape hb.output hb.size (fun q hq _=>hb.block q hq)⟩;refine .tup (by rfl) fun j x v hx hv=>?_
  match j,hx,hv with
  | 0,hx,hv=>simp at hx hv; subst hx hv; exact .t (.int _ _)
  | 1,hx,hv=>simp at hx hv; subst hx hv; exact .ifx
  | j+2,hx,hv=>simp at hx
def Ip(n b:Int):Option ByteArray:=if b=10 /\ -9223372036854775808<=n/\n<=9223372036854775807 then some ⟨(Lib.itoa n).toArray⟩ else none
theorem Kj(n b:Int):Con Proofs.Tryz.prog 27 [.t (.int .i64 n),.t (.int .i64 b)] (Ip n b) (fun (y:ByteArray)=>.t (.str y)):=by
 refine⟨bH Proofs.Tryz.func27 (by kernel_rfl),fun y hy=>?_⟩;unfold Ip at hy;split at hy
 case isFalse=>cases hy
 rename_i hr;cases hy;obtain⟨rfl,h0,h1⟩:=hr;intro F g w vs hs hv hH hF hgl;have hvs:=hv2 hs hv (u:=.int .i64 n) (u':=.int .i64 10) (fun v h=>h.inv_int) (fun v h=>h.inv_int);subst hvs;have hname:∃ b,Proofs.Tryz.prog.globalNamed uF=some b:=wJ.1 (by kernel_rfl);obtain⟨b,hb⟩:=hname;refine(Proofs.Tryz.strconv_FormatInt_10 n h0 h1 w (hgl.tab b hb).1).mono ?_;rintro e w' ⟨rfl,k,os,rfl⟩;refine⟨_,_,[],F,g,rfl,rfl,.t (.str _),eX hH hF rfl rfl rfl ?_ (fun q hq _=>?_)⟩
 ·show w.heap.size<=(w.heap++os).size;rw[gP]; exact Nat.le_add_right _ _
 ·show (w.heap++os)[q]? = w.heap[q]?;exact hS hq
def Mm(s p:ByteArray):Option ByteArray:=if s.size<=1000000000000 then some ⟨(Lib.trimSuffix s.data.toList p.data.toList).toArray⟩ else none
theorem Lt(s p:ByteArray):Con Proofs.Tryz.prog 24 [.t (.str s),.t (.str p)] (Mm s p) (fun (y:ByteArray)=>.t (.str y)):=by
 refine⟨bH Proofs.Tryz.func24 (by kernel_rfl),fun y hy=>?_⟩;unfold Mm at hy;split at hy
 case isFalse=>cases hy
 rename_i hr;cases hy;intro F g w vs hs hv hH hF hgl;have hvs:=hv2 hs hv (u:=.string s) (u':=.string p) (fun v h=>h.inv_str) (fun v h=>h.inv_str);subst hvs;refine(Proofs.Tryz.strings_TrimSuffix s p w (by omega)).mono ?_;rintro e w' ⟨rfl,rfl⟩;exact⟨_,_,[],F,g,rfl,rfl,.t (.str _),eX hH hF rfl rfl rfl (cY _) (fun _ _ _=>rfl)⟩
theorem Zb:∀ cap,jI Proofs.Tryz.prog { target:=.fn (.func 32) cap,args:=#[] }:=by
 intro cap;refine⟨_,cap,32,cap,rfl,fun w=>by simp[invoke,go_sem],fun w=>?_⟩;refine callsD_of_wpS Proofs.Tryz.func32 rfl fun c₀ cs hu=>?_;have hT:17<=(cap++Array.replicate (Proofs.Tryz.f32.ntmps-cap.size) undef).size:=by rw[gP,Array.size_replicate];show 17<=cap.size+(17-cap.size);omega
 generalize (cap++Array.replicate (Proofs.Tryz.f32.ntmps-cap.size) undef)=T at hT;have h5:5<T.size:=by omega
 have h2:2<T.size:=by omega
 have h6:6<T.size:=by omega
 have h7:7<T.size:=by omega
 apply wpS_seq;apply wpS_region;simp[wpOpsS,go_sem,recoverD,hu,Exit.thenS,h5];apply wpS_seq;apply wpS_region;simp[wpOpsS,go_sem,Exit.thenS,h2,h6];refine wpS_cond (t:=false) (by simp[go_sem,Act.eval,h7]) ?_;refine wpS_of_wp (Go.wp_skip ?_);refine⟨rfl,.returning,?_,.tuple #[],?_,⟨_,rfl⟩,rfl,rfl⟩
 ·rw[<-hu]
 ·simp[results,Proofs.Tryz.f32,go_sem]
theorem xI{H:Hp}(hH:HpR F g w (fun _=>True) H)(hF:∀ b,F b->b<w.heap.size)(l:List ByteArray)(t:TypeId)(n:Nat)(hn:n=l.length):
  VR (fun b=>F b\/b=w.heap.size) g (w.alloc (.cells (l.map Value.string).toArray t)) (.t (eL nS l)) (.slice (some ⟨w.heap.size,0,none⟩) n n) /\
  wQ { w0:=w,F0:=F,B0:=Own g w H,g0:=g,N:=[],nt:=0 } (fun b=>F b\/b=w.heap.size) g [] (w.alloc (.cells (l.map Value.string).toArray t)):=by
 subst hn;have hold:∀ b,b<w.heap.size->(w.alloc (.cells (l.map Value.string).toArray t)).heap[b]? = w.heap[b]?:=fun b hb=>by show (w.heap.push _)[b]? = w.heap[b]?; simp[tE,Nat.ne_of_lt hb]
 have hsz:(w.alloc (.cells (l.map Value.string).toArray t)).heap.size=w.heap.size+1:=by show (w.heap.push _).size=_; simp
 refine⟨.t (.sl ⟨w.heap.size,0,none⟩ l.length 1 (fun i _=>.string (l.getD i default)) rfl (cY _) (fun _=>.inr rfl) (fun i hi=>rfl) (fun i j hi hj=>?_) (fun i j x hi hx=>?_)),?_⟩
 ·have:j=0:=by omega
  subst this;rw[show (Addr.mk w.heap.size 0 none).add (i*1+0)=⟨w.heap.size,i,none⟩ by simp[Addr.add]; intro h; exact h.symm,World.cell?_alloc_new];simp[hi,List.getD]
 ·match j,hx with
  | 0,hx=>cases hx; exact .str _
 ·refine⟨⟨fun o x h=>by simp at h,fun o x b h=>by simp at h,fun o x o' y b h=>by simp at h⟩,fun b h=>.inl h,fun b h=>?_,⟨rfl,rfl,rfl,Nat.le_of_lt (by show w.heap.size<_; omega),fun b hb _=>hold b hb⟩,fun o h=>by simp at h,?_⟩
  ·rcases h with h | rfl
   ·exact⟨by have:=hF b h; omega,.inl h⟩
   ·exact⟨by omega,.inr (.inr (cY _))⟩
  ·rintro b ⟨o,x,h1,h2⟩;exact h2.block (hH.obj o x h1)
def Na(s p:ByteArray):Option (List ByteArray):=if s.size<4294967281/\1<=p.size then some (Lib.splitB p 0 (Lib.countB s p) s) else none
theorem Ay(s p:ByteArray):Con Proofs.Tryz.prog 15 [.t (.str s),.t (.str p)] (Na s p) (fun (y:List ByteArray)=>.t (eL nS y)):=by
 refine⟨bH Proofs.Tryz.func15 (by kernel_rfl),fun y hy=>?_⟩;unfold Na at hy;split at hy
 case isFalse=>cases hy
 rename_i hr;cases hy;intro F g w vs hs hv hH hF hgl;have hvs:=hv2 hs hv (u:=.string s) (u':=.string p) (fun v h=>h.inv_str) (fun v h=>h.inv_str);subst hvs;obtain⟨m,hm⟩:=((hgl.sp rfl).2 2 (by kernel_rfl)).1;refine(Proofs.Tryz.strings_Split s p m w hr.1 hm hr.2).mono ?_;rintro e w' ⟨rfl,rfl⟩;obtain⟨h1,h2⟩:=xI hH hF (Lib.splitB p 0 (Lib.countB s p) s) 9 (Lib.countB s p+1) (Lib.splitB_all p hr.2 0 _ s rfl).symm;exact⟨_,_,[],_,g,rfl,rfl,h1,h2⟩
def Tk(s:ByteArray):Bool:=s.data.toList.all fun b=>Nat.blt b.toNat 128
def Wd(s:ByteArray):Option (List ByteArray):=if s.size<4294967281/\Tk s=true then some ((Lib.fields s.data.toList).map fun l=>⟨l.toArray⟩) else none
theorem Nq(s:ByteArray):Con Proofs.Tryz.prog 22 [.t (.str s)] (Wd s) (fun (y:List ByteArray)=>.t (eL nS y)):=by
 refine⟨bH Proofs.Tryz.func22 (by kernel_rfl),fun y hy=>?_⟩;unfold Wd at hy;split at hy
 case isFalse=>cases hy
 rename_i hr;cases hy;intro F g w vs hs hv hH hF hgl;have hvs:=hv1 hs hv (u:=.string s) (fun v h=>h.inv_str);subst hvs
 have hname:∃ b,Proofs.Tryz.prog.globalNamed "strings.asciiSpace" = some b:=wJ.1 (by kernel_rfl)
 obtain⟨b,hb⟩:=hname;refine(Proofs.Tryz.strings_Fields s w hr.1 (fun j c hc=>?_) ((hgl.sp rfl).1 b hb).1).mono ?_
 ·have h:=cU.1 hr.2 c (eE hc);exact cP h
 rintro e w' ⟨rfl,rfl⟩;obtain⟨h1,h2⟩:=xI hH hF ((Lib.fields s.data.toList).map fun l=>(⟨l.toArray⟩:ByteArray)) 9 (Lib.fields s.data.toList).length (by simp);rw[List.map_map]at h1 h2;exact⟨_,_,[],_,g,rfl,rfl,h1,h2⟩
end Go.PL
namespace Go.PL
open Go
set_option linter.unusedVariables false
set_option maxRecDepth 20000
noncomputable def Kn (a0:ByteArray):Int->TP ((Int)⊕((Unit)⊕(Bool)))
 | v2=>.ite 1 (decide (v2<(((cK a0).length:Int)))) (.grd 1 (0<=v2/\v2<((cK a0).length:Int)) <| .jn 5 0 (fun (j3:Bool)=>(⟨[(23,.t (eL cU8 (cK a0))),(24,.t (.int .i64 (((cK a0).length:Int)))),(25,.t (.int .i64 (v2))),(48,.t (.bool (j3)))],[]⟩:St)) (.ite 0 (((cK a0).getD (v2).toNat default) != 95) (.ite 3 (decide (((cK a0).getD (v2).toNat default)<48)) (.ite 9 (decide ((Ep .u8 ((cK a0).getD (v2).toNat default) 32)<97)) (.ret 5 true) (.ret 5 (decide ((Ep .u8 ((cK a0).getD (v2).toNat default) 32)>122)))) (.ite 5 (decide (((cK a0).getD (v2).toNat default)>57)) (.ite 4 (decide ((Ep .u8 ((cK a0).getD (v2).toNat default) 32)<97)) (.ret 5 true) (.ret 5 (decide ((Ep .u8 ((cK a0).getD (v2).toNat default) 32)>122)))) (.ret 9 false))) (.ret 17 false)) fun j3=>.ite 0 (j3) (.ret 1 (.inr (.inr false))) (.ret 2 (.inl (IntKind.i64.wrap (v2+1))))) (.ret 0 (.inr (.inl ())))
noncomputable def Uw (a0:ByteArray):TP (Bool):=.jn 4 0 (fun (j1:Bool)=>(⟨[(0,.t (.str (a0))),(21,.t (.bool (j1)))],[]⟩:St)) (.ite 0 ((a0:ByteArray).toList==(⟨#[]⟩:ByteArray).toList) (.ret 14 true) (.ite 5 (decide ((((a0:ByteArray).size:Int))>20)) (.ret 9 true) (.grd 2 (0<=((0:Int))/\((0:Int))<(a0.size:Int)) <| .ite 2 (decide ((((a0[((0:Int)).toNat]?.getD 0).toNat:Int))>=48)) (.grd 2 (0<=((0:Int))/\((0:Int))<(a0.size:Int)) <| .ret 3 (decide ((((a0[((0:Int)).toNat]?.getD 0).toNat:Int))<=57))) (.ret 5 false)))) fun j1=>.ite 0 (j1) (.ret 1 false) (.cb 1 a0 <| .lp 2 (fun (v2:Int)=>(⟨[(23,.t (eL cU8 (cK a0))),(24,.t (.int .i64 (((cK a0).length:Int)))),(25,.t (.int .i64 (v2)))],[]⟩:St)) (fun (_:Unit)=>(⟨[],[]⟩:St)) 0 0 (Kn a0) fun _=>.ret 1 true)
noncomputable def Yw (a0:ByteArray):Option (Bool):=(Uw a0).den
theorem Bq(a0:ByteArray):Con Proofs.Tryz.prog 108 [.t (.str (a0))] (Yw a0) (fun (y:Bool)=>.t (.bool (y))):=con Proofs.Tryz.func108 aX (Uw a0)
noncomputable def Ad (a0:List ByteArray)(a1:ByteArray):Int->TP ((Int)⊕((Unit)⊕(Int)))
 | v1=>.ite 1 (decide (v1<((a0.length:Int)))) (.grd 6 (0<=v1/\v1<(a0.length:Int)) <| .ite 2 ((a1:ByteArray).toList==(a0.getD (v1).toNat default:ByteArray).toList) (.ret 2 (.inr (.inr v1))) (.ret 2 (.inl (IntKind.i64.wrap (v1+1))))) (.ret 0 (.inr (.inl ())))
noncomputable def Ss (a0:List ByteArray)(a1:ByteArray):TP (Int):=.lp 4 (fun (v1:Int)=>(⟨[(0,.t (eL nS (a0))),(1,.t (.str (a1))),(7,.t (.int .i64 ((a0.length:Int)))),(8,.t (.int .i64 (v1)))],[]⟩:St)) (fun (_:Unit)=>(⟨[],[]⟩:St)) 0 0 (Ad a0 a1) fun _=>.ret 1 (-1)
noncomputable def Nh (a0:List ByteArray)(a1:ByteArray):Option (Int):=(Ss a0 a1).den
theorem zL(a0:List ByteArray)(a1:ByteArray):Con Proofs.Tryz.prog 17 [.t (eL nS (a0)),.t (.str (a1))] (Nh a0 a1) (fun (y:Int)=>.t (.int .i64 (y))):=con Proofs.Tryz.func17 aX (Ss a0 a1)
noncomputable def Um:TP ((List ByteArray)):=.bs 1 false nS ([⟨#[105,110,116]⟩,⟨#[116,101,120,116]⟩,⟨#[98,111,111,108]⟩]:List ByteArray) <| .ret 1 ([⟨#[105,110,116]⟩,⟨#[116,101,120,116]⟩,⟨#[98,111,111,108]⟩]:List ByteArray)
noncomputable def Yd:Option ((List ByteArray)):=(Um).den
theorem zN:Con Proofs.Tryz.prog 174 [] (Yd) (fun (y:(List ByteArray))=>.t (eL nS (y))):=con Proofs.Tryz.func174 aX (Um)
noncomputable def Tu (a0:ByteArray):TP (Int×Bool):=.ca 2 (zN) fun r1=>.ca 1 (zL r1 a0) fun r2=>.ret 7 (if (0:Int)>r2 then (0:Int) else r2,decide (r2>=0))
noncomputable def Xu (a0:ByteArray):Option (Int×Bool):=(Tu a0).den
theorem Oz(a0:ByteArray):Con Proofs.Tryz.prog 173 [.t (.str (a0))] (Xu a0) (fun (y:Int×Bool)=>.tup [.t (.int .i64 (y.1)),.t (.bool (y.2))]):=con Proofs.Tryz.func173 aX (Tu a0)
noncomputable def Tx (a0:ByteArray):TP (Bool):=.ca 2 (Oz a0) fun r1=>.ca 6 (Bq a0) fun r2=>.jn 1 0 (fun (j3:Bool)=>(⟨[(2,.t (.bool (j3)))],[]⟩:St)) (.ite 0 (r2) (.ret 4 (!r1.2)) (.ret 4 false)) fun j3=>.ret 0 j3
noncomputable def Xp (a0:ByteArray):Option (Bool):=(Tx a0).den
theorem zK(a0:ByteArray):Con Proofs.Tryz.prog 163 [.t (.str (a0))] (Xp a0) (fun (y:Bool)=>.t (.bool (y))):=con Proofs.Tryz.func163 aX (Tx a0)
noncomputable def Wt (a0:Int):TP (ByteArray):=.jn 4 0 (fun (j1:Bool)=>(⟨[(0,.t (.int .i64 (a0))),(8,.t (.bool (j1)))],[]⟩:St)) (.ite 0 (decide (a0<0)) (.ret 3 true) (.ret 3 (decide (a0>=3)))) fun j1=>.ite 0 (j1) (.ret 1 (⟨#[]⟩)) (.ca 0 (zN) fun r2=>.grd 2 (0<=a0/\a0<(r2.length:Int)) <| .ret 2 (r2.getD (a0).toNat default))
noncomputable def Yu (a0:Int):Option (ByteArray):=(Wt a0).den
theorem Mx(a0:Int):Con Proofs.Tryz.prog 164 [.t (.int .i64 (a0))] (Yu a0) (fun (y:ByteArray)=>.t (.str (y))):=con Proofs.Tryz.func164 aX (Wt a0)
noncomputable def Jr (a0:aY)(h30000_0:ByteArray):TP (Bool):=.ret 7 ((a0.Name:ByteArray).toList==(h30000_0:ByteArray).toList)
noncomputable def Rt (a0:aY)(h30000_0:ByteArray):Option (Bool):=(Jr a0 h30000_0).den
theorem Cj(a0:aY)(h30000_0:ByteArray):eA Proofs.Tryz.prog 176 [.t (Tq a0),.ptr 30000 0] [(30000,.box (([.str (h30000_0)]).map .t))] [30000] (Rt a0 h30000_0) (fun (y:Bool)=>.t (.bool (y))) (fun (y:Bool)=>[(30000,.box (([.str (h30000_0)]).map .t))]):=fW Proofs.Tryz.func176 aX (Jr a0 h30000_0)
noncomputable def Cd (a0:List aY)(h30000_0:ByteArray):Int->TP ((Int)⊕((Unit)⊕(Int)))
 | v1=>.ite 1 (decide (v1<((a0.length:Int)))) (.grd 6 (0<=v1/\v1<(a0.length:Int)) <| .ch 1 [] (Cj (a0.getD (v1).toNat default) h30000_0) fun r2=>.ite 0 (r2) (.ret 2 (.inr (.inr v1))) (.ret 2 (.inl (IntKind.i64.wrap (v1+1))))) (.ret 0 (.inr (.inl ())))
noncomputable def Gy (a0:List aY)(h30000_0:ByteArray):TP (Int):=.lp 4 (fun (v1:Int)=>(⟨[(0,.t (eL bK (a0))),(1,.fn (.func 176) 0 [.ptr 30000 0]),(7,.t (.int .i64 ((a0.length:Int)))),(8,.t (.int .i64 (v1)))],[(30000,.box (([.str (h30000_0)]).map .t))]⟩:St)) (fun (_:Unit)=>(⟨[],[(30000,.box (([.str (h30000_0)]).map .t))]⟩:St)) 0 0 (Cd a0 h30000_0) fun _=>.ret 1 (-1)
noncomputable def Rf (a0:List aY)(h30000_0:ByteArray):Option (Int):=(Gy a0 h30000_0).den
theorem Df(a0:List aY)(h30000_0:ByteArray):eA Proofs.Tryz.prog 175 [.t (eL bK (a0)),.fn (.func 176) 0 [.ptr 30000 0]] [(30000,.box (([.str (h30000_0)]).map .t))] [30000] (Rf a0 h30000_0) (fun (y:Int)=>.t (.int .i64 (y))) (fun (y:Int)=>[(30000,.box (([.str (h30000_0)]).map .t))]):=fW Proofs.Tryz.func175 aX (Gy a0 h30000_0)
noncomputable def Wi (a0:List aY)(a1:ByteArray):TP (Int):=.cv 4 [.rn 3 30000] <| .ch 0 [] (Df a0 a1) fun r1=>.ret 1 r1
noncomputable def Yf (a0:List aY)(a1:ByteArray):Option (Int):=(Wi a0 a1).den
theorem Ot(a0:List aY)(a1:ByteArray):Con Proofs.Tryz.prog 165 [.t (eL bK (a0)),.t (.str (a1))] (Yf a0 a1) (fun (y:Int)=>.t (.int .i64 (y))):=con Proofs.Tryz.func165 aX (Wi a0 a1)
noncomputable def Dh (h30000_0:List aY):Int->TP ((Int)⊕((Unit)⊕(Unit)))
 | v1=>.ite 1 (decide (v1<((h30000_0.length:Int)))) (.grd 2 (0<=v1/\v1<(h30000_0.length:Int)) <| .jn 8 0 (fun (j2:Bool)=>(⟨[(0,.any),(1,.ptr 30000 0),(3,.t (.int .i64 (v1))),(4,.ptr 4 0),(5,.t (.bool (j2))),(6,.t (eL bK (h30000_0))),(7,.t (.int .i64 ((h30000_0.length:Int)))),(8,.t (.int .i64 (v1)))],[(4,.box ((bK (h30000_0.getD (v1).toNat default)).map .t)),(30000,.box (([eL bK (h30000_0)]).map .t))]⟩:St)) (.ite 0 (((h30000_0.getD (v1).toNat default).Unit:ByteArray).toList==(⟨#[]⟩:ByteArray).toList) (.ret 10 true) (.ite 4 (((h30000_0.getD (v1).toNat default).Type_)==0) (.ca 2 (zK ((h30000_0.getD (v1).toNat default).Unit)) fun r3=>.ret 3 r3) (.ret 6 false))) fun j2=>.jn 0 0 (fun (j4:Bool)=>(⟨[(0,.any),(1,.ptr 30000 0),(3,.t (.int .i64 (v1))),(6,.t (eL bK (h30000_0))),(7,.t (.int .i64 ((h30000_0.length:Int)))),(8,.t (.int .i64 (v1))),(46,.t (.bool (j4)))],[(30000,.box (([eL bK (h30000_0)]).map .t))]⟩:St)) (.dc 2 [.t (.str ((h30000_0.getD (v1).toNat default).Name))] (zK ((h30000_0.getD (v1).toNat default).Name)) fun r5=>.dl 3 (r5) (.dc 6 [.t (.int .i64 ((h30000_0.getD (v1).toNat default).Type_))] (Mx ((h30000_0.getD (v1).toNat default).Type_)) fun r6=>.dl 9 (!((r6:ByteArray).toList==(⟨#[]⟩:ByteArray).toList)) (.dl 12 (j2) (.dg 15 (0<=((0:Int))/\((0:Int))<=v1/\v1<=(h30000_0.length:Int)) <| .dc 18 [.t (.sl (v1-((0:Int))).toNat (fun k=>eF bK h30000_0 (((0:Int)).toNat+k))),.t (.str ((h30000_0.getD (v1).toNat default).Name))] (Tn [] bK h30000_0 ((0:Int)) v1 [.t (.str ((h30000_0.getD (v1).toNat default).Name))] (Ot ((h30000_0.drop ((0:Int)).toNat).take (v1-((0:Int))).toNat) ((h30000_0.getD (v1).toNat default).Name))) fun r7=>.dr 0 0 [(4,false,[]),(30000,false,[])] [0,1,3,4,5,6,7,8] <| .ret 0 (decide (r7<0))) (.dr 0 0 [(4,false,[]),(30000,false,[])] [0,1,3,4,5,6,7,8] <| .ret 0 false)) (.dr 0 0 [(4,false,[]),(30000,false,[])] [0,1,3,4,5,6,7,8] <| .ret 0 false)) (.dr 0 0 [(4,false,[]),(30000,false,[])] [0,1,3,4,5,6,7,8] <| .ret 0 false)) fun j4=>.ite 0 (j4) (.ret 2 (.inl (IntKind.i64.wrap (v1+1)))) (.no)) (.ret 0 (.inr (.inl ())))
noncomputable def Fs (h30000_0:List aY):TP (Unit):=.lp 3 (fun (v1:Int)=>(⟨[(0,.any),(1,.ptr 30000 0),(6,.t (eL bK (h30000_0))),(7,.t (.int .i64 ((h30000_0.length:Int)))),(8,.t (.int .i64 (v1)))],[(30000,.box (([eL bK (h30000_0)]).map .t))]⟩:St)) (fun (_:Unit)=>(⟨[],[(30000,.box (([eL bK (h30000_0)]).map .t))]⟩:St)) 0 0 (Dh h30000_0) fun _=>.ret 0 ()
noncomputable def yK (h30000_0:List aY):Option (Unit):=(Fs h30000_0).den
theorem Br(h30000_0:List aY):eA Proofs.Tryz.prog 162 [.any,.ptr 30000 0] [(30000,.box (([eL bK (h30000_0)]).map .t))] [30000] (yK h30000_0) (fun (y:Unit)=>.tup []) (fun (y:Unit)=>[(30000,.box (([eL bK (h30000_0)]).map .t))]):=fW Proofs.Tryz.func162 aX (Fs h30000_0)
def pS(a:Act)(ps:Array Tmp)(assign body:Code)(d:Nat)(fn:FuncId):Loop:={ state:=.ready,pending:=none,fn,tmps:=a.tmps,params:=ps,assign,body,defers:=d }
theorem pM{P:Program}{g:Operand}{ps:Array Tmp}{assign body:Code}{Q:Exit->Act->World->Prop}{a:Act}{w:World}{f:FuncId}{cap:Array Value}
  (hg:a.eval g = .func (.func f) #[] cap)(hc:∀ args w,(callFunc f args).run P w = .ok (.enter f args) w)
  (h:∀ fn,Calls P f (#[.func (.yield (w.heap.size+1)) #[] #[]]++cap) ((w.alloc (.deferred (some []))).alloc (.loop (pS a ps assign body w.heap.size fn))) fun e w'=>
   (∃ v,e = .returned v)/\w'.heap[w.heap.size+1]? = some (.loop (pS a ps assign body w.heap.size fn)) /\
    ∀ ob,Q .normal { a with defers:={ target:=.collected w.heap.size,args:=#[] }::a.defers } (w'.putObj (w.heap.size+1) ob)):
  (Code.rangeFunc g ps assign body).wpIn Fence.wide 0 P Q a w:=by
 refine wpIn_rangeFunc fun fn _=>?_;have h:=h fn;have he:=run_enterLoop_outer (P:=P) (w:=w) fn a.tmps ps assign body;generalize hW:(w.alloc (.deferred (some []))).alloc (.loop (pS a ps assign body w.heap.size fn))=W at h;have he':(Instr.enterLoop fn a.tmps ps assign body none).run P w = .ok (w.heap.size+1,[{ target:=.collected w.heap.size,args:=#[] }]) W:=by rw[he,<-hW]; rfl
 clear he hW;generalize hl:w.heap.size+1=l at h he';refine⟨l,[{ target:=.collected w.heap.size,args:=#[] }],W,{ target:=.fn (.func f) cap,args:=#[.func (.yield l) #[] #[]] },W,f,#[.func (.yield l) #[] #[]]++cap,W,he',?_,fun _ _=>trivial,?_,(fun h=>by cases h),callsIn_wide.2 ?_⟩
 ·simp[resolve,hg];rfl
 ·simp[invoke,hc]
 ·refine h.mono ?_;rintro e w' ⟨⟨v,rfl⟩,h1,h2⟩;exact⟨none,_,run_endLoop h1 (by simp[pS]),h2 _⟩
theorem xG(o:Option Addr)(n c:Nat)(w:World):Calls Proofs.Tryz.prog 144 #[.slice o n c] w fun e w'=>e = .returned (.func (.func 162) #[] #[.pointer (some ⟨w.heap.size,0,none⟩)])/\w'=w.alloc (.cells #[.slice o n c] 33):=by
 refine calls_of_wp Proofs.Tryz.func144 rfl ?_;apply wp_seq;apply wp_region;simp[wpOps,go_sem,Exit.then]
 repeat left
 apply wp_seq;apply wp_region;simp[wpOps,go_sem,Exit.then]
 repeat left
 apply wp_ret;simp[bodyPost,results,Proofs.Tryz.f144,go_sem]
def Uf(b:Nat)(w w':World):Prop:=w'.os=w.os/\w'.tape=w.tape/\w'.output=w.output/\w.heap.size<=w'.heap.size/\∀ k,k<w.heap.size->k≠b->w'.heap[k]? = w.heap[k]?
theorem dA(w:World)(ob:Obj){k:Nat}(h:k<w.heap.size):(w.alloc ob).heap[k]? = w.heap[k]?:=by show (w.heap.push ob)[k]? = _;simp[tE,Nat.ne_of_lt h]
theorem vP(o:Option Addr)(n c:Nat)(w:World)
  (h:∀ ob1 ob2,Calls Proofs.Tryz.prog 162 #[.func (.yield (w.heap.size+3)) #[] #[],.pointer (some ⟨w.heap.size+1,0,none⟩)] ((((w.alloc (.cells #[.bool false] 4)).alloc (.cells #[.slice o n c] 33)).alloc ob1).alloc ob2) fun e w'=>
   (∃ v,e = .returned v)/\Uf (w.heap.size+1) ((((w.alloc (.cells #[.bool false] 4)).alloc (.cells #[.slice o n c] 33)).alloc ob1).alloc ob2) w'):
  Calls Proofs.Tryz.prog 109 #[.slice o n c] w fun e w'=>e = .returned (.bool (decide (1<=n)&&decide (n<=12)))/\Uf w.heap.size w w':=by
 refine callsIn_wide.1 (callsIn_of_wp_marks (F:=Fence.wide) (n:=0) Proofs.Tryz.func109 rfl trivial ?_);apply wpIn_seq;refine wpIn_wide.2 (wp_region ?_);simp[wpOps,go_sem,Exit.then]
 repeat left
 apply wpIn_seq;apply wpIn_seq;refine wpIn_wide.2 (wp_region ?_);simp[wpOps,go_sem,Exit.then]
 repeat left
 refine(xG o n c _).mono ?_;rintro e w' ⟨rfl,rfl⟩
 dsimp only
 apply wpIn_block;refine pM (f:=162) (cap:=#[.pointer (some ⟨w.heap.size+1,0,none⟩)]) (by simp[go_sem,Act.eval]) (fun args w=>by simp[go_sem]) (fun fn=>?_);simp only[World.size_alloc];refine(h _ _).mono ?_;rintro e w4 ⟨⟨v,rfl⟩,k1,k2,k3,k4,k5⟩;have hsz:w4.heap.size>=w.heap.size+4:=by simpa using k4
 have h0:w4.heap[w.heap.size]? = some (.cells #[.bool false] 4):=by rw[k5 _ (by simp; omega) (by omega)];rw[dA _ _ (by simp; omega),dA _ _ (by simp; omega),dA _ _ (by simp),World.alloc_heap_new]
 have hD:w4.heap[w.heap.size+2]? = some (.deferred (some [])):=by rw[k5 _ (by simp) (by omega)];rw[dA _ _ (by simp)];have:=World.alloc_heap_new ((w.alloc (.cells #[.bool false] 4)).alloc (.cells #[.slice o n c] 33)) (.deferred (some []));rw[World.size_alloc,World.size_alloc]at this;exact this
 have hold:∀ k,k<w.heap.size->w4.heap[k]? = w.heap[k]?:=fun k hk=>by rw[k5 _ (by simp; omega) (by omega)];rw[dA _ _ (by simp; omega),dA _ _ (by simp; omega),dA _ _ (by simp; omega),dA _ _ hk]
 refine⟨⟨v,rfl⟩,?_,?_⟩
 ·rw[k5 _ (by simp) (by omega)];have:=fun ob=>World.alloc_heap_new (((w.alloc (.cells #[.bool false] 4)).alloc (.cells #[.slice o n c] 33)).alloc (.deferred (some []))) ob;simp only[World.size_alloc]at this;exact this _
 ·intro ob;have k1':w4.os=w.os:=k1;have k2':w4.tape=w.tape:=k2;have k3':w4.output=w.output:=k3;clear k1 k2 k3 k4 k5 h;have h0':(w4.putObj (w.heap.size+1+1+1) ob).heap[w.heap.size]? = some (.cells #[.bool false] 4):=by rw[World.putObj_heap_other (by omega)]; exact h0
  have hD':(w4.putObj (w.heap.size+1+1+1) ob).heap[w.heap.size+2]? = some (.deferred (some [])):=by rw[World.putObj_heap_other (by omega)]; exact hD
  have hold':∀ k,k<w.heap.size->(w4.putObj (w.heap.size+1+1+1) ob).heap[k]? = w.heap[k]?:=fun k hk=>by rw[World.putObj_heap_other (by omega)]; exact hold k hk
  have hsz':(w4.putObj (w.heap.size+1+1+1) ob).heap.size>=w.heap.size+4:=by rw[World.putObj_size]; exact hsz
  have e1:(w4.putObj (w.heap.size+1+1+1) ob).os=w.os:=k1';have e2:(w4.putObj (w.heap.size+1+1+1) ob).tape=w.tape:=k2';have e3:(w4.putObj (w.heap.size+1+1+1) ob).output=w.output:=k3';generalize w4.putObj (w.heap.size+1+1+1) ob=w5 at h0' hD' hold' hsz' e1 e2 e3;clear h0 hD hold hsz k1' k2' k3';have hc0:w5.cell? ⟨w.heap.size,0,none⟩=some (.bool false):=by simp[World.cell?,h0']
  have hf0:w5.frozen? ⟨w.heap.size,0,none⟩=false:=by simp[World.frozen?,h0']
  simp only[Exit.inBlock,Exit.then];apply wpIn_seq;refine wpIn_mono (Q:=fun e a w'=>e = .normal/\a.defers=[{ target:=.collected (w.heap.size+1+1),args:=#[] }]/\a.tmps.size=14/\a.tmps[2]? = some (.pointer (some ⟨w.heap.size,0,none⟩))/\w'=w5.setCell ⟨w.heap.size,0,none⟩ (.bool (decide (1<=n)&&decide (n<=12)))) ?_ ?_
  ·apply wpIn_region_list;by_cases h1:1<=n <;> by_cases h2:n<=12
   ·have z1:(1:Int)<=(n:Int):=by omega
    have z2:(n:Int)<=12:=by omega
    simp[wpListIn,go_sem,hc0,hf0,h1,h2,z1,z2,Oper.wpIn,Oper.uponIn,Act.put]
   ·have z1:(1:Int)<=(n:Int):=by omega
    have z2:¬ (n:Int)<=12:=by omega
    simp[wpListIn,go_sem,hc0,hf0,h1,h2,z1,z2,Oper.wpIn,Oper.uponIn,Act.put]
   ·have z1:¬ (1:Int)<=(n:Int):=by omega
    have z2:(n:Int)<=12:=by omega
    simp[wpListIn,go_sem,hc0,hf0,h1,h2,z1,Oper.wpIn,Oper.uponIn,Act.put]
   ·omega
  ·rintro e a w' ⟨rfl,hd,hts,ht2,rfl⟩;simp only[Exit.then];apply wpIn_ret;rw[setCell_eq_setRow w5 w.heap.size 0 _ _ _ _ h0'];generalize hB:(decide (1<=n)&&decide (n<=12))=B;have r0:=setRow_heap w5 w.heap.size _ ((#[Value.bool false]).setIfInBounds 0 (.bool B)) _ _ h0';have rD:(w5.setRow w.heap.size ((#[Value.bool false]).setIfInBounds 0 (.bool B))).heap[w.heap.size+1+1]? = some (.deferred (some [])):=by rw[setRow_other _ _ _ _ (by omega)]; exact hD'
   have rold:∀ k,k<w.heap.size->(w5.setRow w.heap.size ((#[Value.bool false]).setIfInBounds 0 (.bool B))).heap[k]? = w.heap[k]?:=fun k hk=>by rw[setRow_other _ _ _ _ (by omega)]; exact hold' k hk
   have rs:(w5.setRow w.heap.size ((#[Value.bool false]).setIfInBounds 0 (.bool B))).heap.size>=w.heap.size+4:=by rw[setRow_size]; exact hsz'
   have q1:(w5.setRow w.heap.size ((#[Value.bool false]).setIfInBounds 0 (.bool B))).os=w.os:=e1;have q2:(w5.setRow w.heap.size ((#[Value.bool false]).setIfInBounds 0 (.bool B))).tape=w.tape:=e2;have q3:(w5.setRow w.heap.size ((#[Value.bool false]).setIfInBounds 0 (.bool B))).output=w.output:=e3;generalize w5.setRow w.heap.size ((#[Value.bool false]).setIfInBounds 0 (.bool B))=w6 at r0 rD rold rs q1 q2 q3;simp only[bodyPostM,hd];refine⟨by simp,.inl ⟨_,_,rfl,run_takeDeferred rD,?_⟩⟩;have s0:(w6.putObj (w.heap.size+1+1) (.deferred none)).cell? ⟨w.heap.size,0,none⟩=some (.bool B):=by simp[World.cell?,World.putObj_heap_other (show w.heap.size≠w.heap.size+1+1 by omega),r0]
   refine⟨.bool B,?_,rfl,q1,q2,q3,?_,fun k hk _=>?_⟩
   ·simp[results,Proofs.Tryz.f109,go_sem,ht2,s0]
   ·rw[World.putObj_size]; omega
   ·rw[World.putObj_heap_other (by omega)]; exact rold k hk
noncomputable def Vy (l:List aY):Option Bool:=(yK l).map fun _=>decide (1<=l.length)&&decide (l.length<=12)
theorem Pf(l:List aY):Con Proofs.Tryz.prog 109 [.t (eL bK l)] (Vy l) (fun (y:Bool)=>.t (.bool y)):=by
 refine⟨bH Proofs.Tryz.func109 (by kernel_rfl),fun y hy=>?_⟩;unfold Vy at hy;cases hG:yK l with
 | none=>rw[hG]at hy; cases hy
 | some z=>
  rw[hG]at hy;cases hy;intro F g w vs hs hv hH hF hgl;have h1:vs.size=1:=hs;obtain⟨u,rfl⟩:∃ u,vs=#[u]:=by
   cases vs with
   | mk L=>match L,h1 with
    | [u],_=>exact⟨u,rfl⟩
  have e0:=hv 0 _ u rfl rfl;cases e0 with
  | t hu=>
  have:∃ o c,u = .slice o l.length c:=by
   cases hu with
   | nil h=>
    have h0:l.length=0:=by have:=congrArg (Option.map Prod.fst) h;exact pF this
    exact⟨none,0,by rw[h0]⟩
   | sl a cap size vs h hc hF' hs' hv' hr'=>have h0:=congrArg (Option.map Prod.fst) h;have h0:l.length=_:=pF h0;exact⟨some a,cap,by rw[h0]⟩
  obtain⟨o,c,rfl⟩:=this;refine(vP o l.length c w fun ob1 ob2=>?_).mono ?_
  ·have hq:=(Br l).h z hG;have hold:∀ k,k<w.heap.size->((((w.alloc (.cells #[.bool false] 4)).alloc (.cells #[.slice o l.length c] 33)).alloc ob1).alloc ob2).heap[k]? = w.heap[k]?:=fun k hk=>by rw[dA _ _ (by simp; omega),dA _ _ (by simp; omega),dA _ _ (by simp; omega),dA _ _ hk]
   have hbx:((((w.alloc (.cells #[.bool false] 4)).alloc (.cells #[.slice o l.length c] 33)).alloc ob1).alloc ob2).heap[w.heap.size+1]? = some (.cells #[.slice o l.length c] 33 (0,0)):=by rw[dA _ _ (by simp),dA _ _ (by simp)];have:=World.alloc_heap_new (w.alloc (.cells #[.bool false] 4)) (.cells #[.slice o l.length c] 33);rw[World.size_alloc]at this;exact this
   have hsz:((((w.alloc (.cells #[.bool false] 4)).alloc (.cells #[.slice o l.length c] 33)).alloc ob1).alloc ob2).heap.size=w.heap.size+4:=by simp
   generalize (((w.alloc (.cells #[.bool false] 4)).alloc (.cells #[.slice o l.length c] 33)).alloc ob1).alloc ob2=W at hold hbx hsz;have hfoot:∀ k x b,(k,x)∈[((30000:Nat),aN.box (([eL bK l]).map .t))]->aK (fun _=>.pointer (some ⟨w.heap.size+1,0,none⟩)) W k x b->b=w.heap.size+1:=by intro k x b hx hb;cases bX.1 hx;have:=hb.toBlk rfl;simpa[blk] using this.symm
   refine(hq F (fun _=>.pointer (some ⟨w.heap.size+1,0,none⟩)) W #[.func (.yield (w.heap.size+3)) #[] #[],.pointer (some ⟨w.heap.size+1,0,none⟩)] rfl (fun j x v hx hv=>?_) ⟨fun k x hx=>?_,fun k x b hx hb=>⟨fun hF'=>?_,trivial⟩,fun k x k' x' b hx hx' hne=>?_⟩ (fun b hb=>?_) ?_).mono ?_
   ·match j,hx,hv with
    | 0,hx,hv=>cases hx; cases hv; exact .any rfl
    | 1,hx,hv=>cases hx; cases hv; exact .ptr rfl
   ·cases bX.1 hx;refine⟨w.heap.size+1,_,_,rfl,hbx,rfl,fun j y v hy hv=>?_⟩
    match j,hy,hv with
    | 0,hy,hv=>cases hy; cases hv; exact .t (hu.mono fun b hb=>⟨hb,hold b (hF b hb)⟩)
   ·have:=hfoot k x b hx hb;have:=hF b hF';omega
   ·cases bX.1 hx;cases bX.1 hx';exact absurd rfl hne
   ·have:=hF b hb; omega
   ·exact hgl.mono fun b hb=>⟨hb,hold b (hF b hb)⟩
   ·rintro e w' ⟨v,r,H',F',g',rfl,hr,hvr,hw⟩;refine⟨⟨v,rfl⟩,hw.ext.os,hw.ext.tape,hw.ext.output,hw.ext.size,fun k hk hne=>hw.ext.block k hk ?_⟩;rintro⟨k',x,hx,hb⟩;exact hne (hfoot k' x k hx hb)
  ·rintro e w' ⟨rfl,k1,k2,k3,k4,k5⟩;exact⟨_,_,[],F,g,rfl,rfl,.t (.bool _),eX hH hF k1 k2 k3 k4 fun b hb _=>k5 b hb (by omega)⟩
end Go.PL
namespace Go.PL
open Go Go.Proofs IntKind
set_option linter.unusedVariables false
set_option maxRecDepth 20000
abbrev tI (x:Int):PV:=.t (.int .i64 x)
abbrev tB (x:Bool):PV:=.t (.bool x)
abbrev bN (x:aG):aN:=.box ((aW x).map .t)
noncomputable section
def Tv:TP (List ByteArray):=.ca 1 (Nq (⟨#[109,101,114,103,101,32,109,97,112,32,117,110,105,111,110,32,119,105,110,100,111,119,32,106,111,105,110,32,112,97,110,101,115,32,115,119,97,112,32,115,104,97,114,101,32,100,114,111,112]⟩)) fun r1=>.ret 1 r1
def Wj:=Tv.den
theorem Be:Con Tryz.prog 11 [] Wj (fun y=>.t (eL nS y)):=con Tryz.func11 aX (Tv)
def Rm(a0:Int):TP ByteArray:=.ca 2 (My a0) fun r1=>.ret 1 r1
def Qo(a0:Int):=(Rm a0).den
theorem zF(a0:Int):Con Tryz.prog 12 [tI a0] (Qo a0) (fun y=>.t (.str y)):=con Tryz.func12 aX (Rm a0)
def zH(a0:List aF):(ByteArray×Int)->TP ((ByteArray×Int)⊕((ByteArray)⊕ByteArray))
 | (v1,v2)=>.ite 1 (decide (v2<a0.length)) (.grd 1 (0<=v2/\v2<a0.length) <| .jn 7 0 (fun j4=>⟨[(3,.ptr 3 0),(5,.ptr 5 0),(6,.t (eL aV a0)),(7,tI (a0.length:Int)),(8,tI v2),(19,tB j4)],[(3,.bld 53 5 v1),(5,.box ((aV (a0.getD v2.toNat default)).map .t))]⟩) (.ite 0 (decide (((a0.getD v2.toNat default).Rule)<0)) (.ret 4 true) (.ret 4 (decide (((a0.getD v2.toNat default).Rule)>=9)))) fun j4=>.ite 0 j4 (.ret 1 (.inr (.inr (⟨#[]⟩)))) (.cv 0 [.rn 3 30000] <| .dc 0 [] Be fun r8=>.dg 3 (0<=((a0.getD v2.toNat default).Rule)/\((a0.getD v2.toNat default).Rule)<r8.length) <| .dg 5 ((((r8.getD ((a0.getD v2.toNat default).Rule).toNat default).size+((⟨#[32]⟩):ByteArray).size:Nat):Int)<=9223372036854775807) <| .dc 8 [tI ((a0.getD v2.toNat default).Node)] (zF ((a0.getD v2.toNat default).Node)) fun r9=>.dg 9 ((((((r8.getD ((a0.getD v2.toNat default).Rule).toNat default)++((⟨#[32]⟩):ByteArray)):ByteArray).size+r9.size:Nat):Int)<=9223372036854775807) <| .dg 10 ((((((((r8.getD ((a0.getD v2.toNat default).Rule).toNat default)++((⟨#[32]⟩):ByteArray)):ByteArray)++r9):ByteArray).size+((⟨#[32]⟩):ByteArray).size:Nat):Int)<=9223372036854775807) <| .dc 13 [tI ((a0.getD v2.toNat default).N)] (zF ((a0.getD v2.toNat default).N)) fun r10=>.dg 14 ((((((((((r8.getD ((a0.getD v2.toNat default).Rule).toNat default)++((⟨#[32]⟩):ByteArray)):ByteArray)++r9):ByteArray)++((⟨#[32]⟩):ByteArray)):ByteArray).size+r10.size:Nat):Int)<=9223372036854775807) <| .dg 15 ((((((((((((r8.getD ((a0.getD v2.toNat default).Rule).toNat default)++((⟨#[32]⟩):ByteArray)):ByteArray)++r9):ByteArray)++((⟨#[32]⟩):ByteArray)):ByteArray)++r10):ByteArray).size+((⟨#[10]⟩):ByteArray).size:Nat):Int)<=9223372036854775807) <| .dch 16 [.ptr 30000 0,.t (.str ((((((((((r8.getD ((a0.getD v2.toNat default).Rule).toNat default)++((⟨#[32]⟩):ByteArray)):ByteArray)++r9):ByteArray)++((⟨#[32]⟩):ByteArray)):ByteArray)++r10):ByteArray)++((⟨#[10]⟩):ByteArray)))] (Rw v1 ((((((((((r8.getD ((a0.getD v2.toNat default).Rule).toNat default)++((⟨#[32]⟩):ByteArray)):ByteArray)++r9):ByteArray)++((⟨#[32]⟩):ByteArray)):ByteArray)++r10):ByteArray)++((⟨#[10]⟩):ByteArray):ByteArray)) (fun _=>some (30000,.bld 53 5 (v1++((((((((((r8.getD ((a0.getD v2.toNat default).Rule).toNat default)++((⟨#[32]⟩):ByteArray)):ByteArray)++r9):ByteArray)++((⟨#[32]⟩):ByteArray)):ByteArray)++r10):ByteArray)++((⟨#[10]⟩):ByteArray):ByteArray)))) fun _=>.dr 0 0 [(5,false,[]),(30000,false,[16])] [3,5,6,7,8,19] <| .cv 2 [.rn 30000 3] <| .ret 0 (.inl (v1++((((((((((r8.getD ((a0.getD v2.toNat default).Rule).toNat default)++((⟨#[32]⟩):ByteArray)):ByteArray)++r9):ByteArray)++((⟨#[32]⟩):ByteArray)):ByteArray)++r10):ByteArray)++((⟨#[10]⟩):ByteArray):ByteArray),i64.wrap (v2+1))))) (.ret 0 (.inr (.inl v1)))
def Qe(a0:List aF):TP ByteArray:=.abl 1 5 <| .lp 3 (fun (v1,v2)=>⟨[(3,.ptr 3 0),(6,.t (eL aV a0)),(7,tI (a0.length:Int)),(8,tI v2)],[(3,.bld 53 5 v1)]⟩) (fun b3=>⟨[(3,.ptr 3 0)],[(3,.bld 53 5 b3)]⟩) 0 ((⟨#[]⟩:ByteArray),0) (zH a0) fun b3=>.cv 0 [.rn 3 30000] <| .ch 0 [] (Rv b3) fun r11=>.ret 1 r11
def Jv(a0:List aF):=(Qe a0).den
theorem nM(a0:List aF):Con Tryz.prog 5 [.t (eL aV a0)] (Jv a0) (fun y=>.t (.str y)):=con Tryz.func5 aX (Qe a0)
def Uo(a0:Int)(a1:Int)(a2:Int):TP aM:=.bs 6 false bQ ([(aM.mk 3 a1 (⟨#[]⟩) ([]:List aM)),(aM.mk 0 a2 (⟨#[]⟩) ([]:List aM))]:List aM) <| .cv 0 [.sl 12 (.lz (.exprs ([(aM.mk 3 a1 (⟨#[]⟩) ([]:List aM)),(aM.mk 0 a2 (⟨#[]⟩) ([]:List aM))]:List aM)))] <| .ret 2 (aM.mk a0 0 (⟨#[]⟩) ([(aM.mk 3 a1 (⟨#[]⟩) ([]:List aM)),(aM.mk 0 a2 (⟨#[]⟩) ([]:List aM))]:List aM))
def Gl(a0:Int)(a1:Int)(a2:Int):=(Uo a0 a1 a2).den
theorem pT(a0:Int)(a1:Int)(a2:Int):Con Tryz.prog 8 [tI a0,tI a1,tI a2] (Gl a0 a1 a2) (fun y=>.t (bP y)):=con Tryz.func8 aX (Uo a0 a1 a2)
abbrev Rr:={f:aM->Option Int // ∀ a:aM,Con Tryz.prog 120 [.t (bP a)] (f a) tI}
def Kt(rec:Rr)(a0:aM):(Int×Int)->TP ((Int×Int)⊕((Int)⊕Int))
 | (v1,v2)=>.ite 1 (decide (v2<a0.Args.length)) (.grd 1 (0<=v2/\v2<a0.Args.length) <| .ca 5 (rec.2 (a0.Args.getD v2.toNat default)) fun r4=>.ret 4 (.inl (if r4>v1 then r4 else v1,i64.wrap (v2+1)))) (.ret 0 (.inr (.inl v1)))
def Ry(rec:Rr)(a0:aM):TP Int:=.lp 7 (fun (v1,v2)=>⟨[(3,tI v1),(7,.t (.lz (.exprs (a0.Args)))),(8,tI (a0.Args.length:Int)),(9,tI v2)],[]⟩) (fun b3=>⟨[(3,tI b3)],[]⟩) 0 (0,0) (Kt rec a0) fun b3=>.ret 3 (i64.wrap (b3+1))
theorem Mb(rec:Rr)(a0:aM):Con Tryz.prog 120 [.t (bP a0)] (Ry rec a0).den tI:=con Tryz.func120 aX (Ry rec a0)
def Uk(a:aM):Option Int:=zD (C:=fun (a:aM) (x:Option Int)=>Con Tryz.prog 120 [.t (bP a)] x tI) (fun a=>⟨bH Tryz.func120 (by kernel_rfl),fun _ h=>nomatch h⟩) (fun rec a=>Ry rec a) (fun rec a=>Mb rec a) a
theorem Kh(a:aM):Con Tryz.prog 120 [.t (bP a)] (Uk a) tI:=nH (C:=fun (a:aM) (x:Option Int)=>Con Tryz.prog 120 [.t (bP a)] x tI) _ _ _ a
def Xg(a0:aM):Option Int:=Uk a0
theorem Mn(a0:aM):Con Tryz.prog 120 [.t (bP a0)] (Xg a0) tI:=Kh a0
def Vl(a0:Int):TP Bool:=.jn 4 0 (fun j1=>⟨[(2,tB j1)],[]⟩) (.ite 0 (decide (a0>=0)) (.ret 4 (decide (a0<3))) (.ret 4 false)) fun j1=>.ret 0 j1
def Yj(a0:Int):=(Vl a0).den
theorem zJ(a0:Int):Con Tryz.prog 105 [tI a0] (Yj a0) tB:=con Tryz.func105 aX (Vl a0)
def Ur(a0:List Int)(a1:Int):TP (Int×Bool):=.jn 5 0 (fun j1=>⟨[(0,.t (eL aD a0)),(1,tI a1),(21,tB j1)],[]⟩) (.ite 0 (decide (a1<0)) (.ret 13 true) (.ite 6 (decide (a1>=(a0.length:Int))) (.ret 7 true) (.grd 3 (0<=a1/\a1<a0.length) <| .ca 1 (zJ (a0.getD a1.toNat default)) fun r2=>.ret 2 (!r2)))) fun j1=>.ite 0 j1 (.ret 2 (0,false)) (.grd 3 (0<=a1/\a1<a0.length) <| .ret 3 (a0.getD a1.toNat default,true))
def Xl(a0:List Int)(a1:Int):=(Ur a0 a1).den
theorem Bi(a0:List Int)(a1:Int):Con Tryz.prog 170 [.t (eL aD a0),tI a1] (Xl a0 a1) (fun y=>.tup [tI y.1,tB y.2]):=con Tryz.func170 aX (Ur a0 a1)
def Wp(a0:dC)(a1:aM):TP (Int×Bool):=.ite 8 (a1.Op==0) (.ret 2 (0,true)) (.ite 2 (a1.Op==2) (.jn 0 0 (fun j1=>⟨[(4,tI 2),(5,tB j1)],[]⟩) (.dl 3 (a1.N==0) (.dr 0 0 [(2,false,[]),(3,false,[])] [0,1,2,3,6,7,8,9,10,11] <| .ret 0 true) (.dr 0 0 [(2,false,[]),(3,false,[])] [0,1,2,3,6,7,8,9,10,11] <| .ret 0 (a1.N==1))) fun j1=>.ret 0 (2,j1)) (.ite 2 (a1.Op==3) (.ca 4 (Bi a0.cols_ a1.N) fun r2=>.ret 4 (r2.1,r2.2)) (.ite 2 (a1.Op==4) (.ca 4 (Bi a0.params_ a1.N) fun r3=>.ret 4 (r3.1,r3.2)) (.ite 2 (a1.Op==1) (.jn 0 0 (fun j4=>⟨[(4,tI 1),(5,tB j4)],[]⟩) (.dl 3 (a1.N==0) (.dr 0 0 [(2,false,[]),(3,false,[])] [0,1,2,3,6,7,8,9,10,11,20,21,29,30,38,39] <| .ret 0 (decide (((a1.S:ByteArray).size:Int)<=200))) (.dr 0 0 [(2,false,[]),(3,false,[])] [0,1,2,3,6,7,8,9,10,11,20,21,29,30,38,39] <| .ret 0 false)) fun j4=>.ret 0 (1,j4)) (.ite 2 (a1.Op==5) (.dr 0 0 [(2,false,[]),(3,false,[])] [0,1,2,3,6,7,8,9,10,11,20,21,29,30,38,39,49,50] <| .ret 0 (0,a1.N==0)) (.ret 2 (0,false)))))))
def Zd(a0:dC)(a1:aM):=(Wp a0 a1).den
theorem Ow(a0:dC)(a1:aM):Con Tryz.prog 160 [.t (iO a0),.t (bP a1)] (Zd a0 a1) (fun y=>.tup [tI y.1,tB y.2]):=con Tryz.func160 aX (Wp a0 a1)
def Jx(a0:Int)(qv0:Int):TP Bool:=.ret 5 (a0 != qv0)
def Po(a0:Int)(qv0:Int):=(Jx a0 qv0).den
theorem Ea(a0:Int)(qv0:Int):eA Tryz.prog 172 [tI a0,.ptr 30001 0] [(30001,.box (([.int .i64 qv0]).map .t))] [30001] (Po a0 qv0) tB (fun y=>[(30001,.box (([.int .i64 qv0]).map .t))]):=fW Tryz.func172 aX (Jx a0 qv0)
def Cf(a0:List Int)(qv0:Int):Int->TP ((Int)⊕((Unit)⊕Int))
 | v1=>.ite 1 (decide (v1<a0.length)) (.grd 6 (0<=v1/\v1<a0.length) <| .ch 1 [] (Ea (a0.getD v1.toNat default) qv0) fun r2=>.ite 0 r2 (.ret 2 (.inr (.inr v1))) (.ret 2 (.inl (i64.wrap (v1+1))))) (.ret 0 (.inr (.inl ())))
def Ey(a0:List Int)(qv0:Int):TP Int:=.lp 4 (fun v1=>⟨[(0,.t (eL aD a0)),(1,.fn (.func 172) 0 [.ptr 30001 0]),(7,tI (a0.length:Int)),(8,tI v1)],[(30001,.box (([.int .i64 qv0]).map .t))]⟩) (fun _=>⟨[],[(30001,.box (([.int .i64 qv0]).map .t))]⟩) 0 0 (Cf a0 qv0) fun _=>.ret 1 (-1)
def Qf(a0:List Int)(qv0:Int):=(Ey a0 qv0).den
theorem Cx(a0:List Int)(qv0:Int):eA Tryz.prog 142 [.t (eL aD a0),.fn (.func 172) 0 [.ptr 30001 0]] [(30001,.box (([.int .i64 qv0]).map .t))] [30001] (Qf a0 qv0) tI (fun y=>[(30001,.box (([.int .i64 qv0]).map .t))]):=fW Tryz.func142 aX (Ey a0 qv0)
def Gi(a0:List Int)(qv0:Int):TP Bool:=.ch 3 [] (Cx a0 qv0) fun r1=>.ret 2 (decide (r1>=0))
def Rl(a0:List Int)(qv0:Int):=(Gi a0 qv0).den
theorem Co(a0:List Int)(qv0:Int):eA Tryz.prog 106 [.t (eL aD a0),.fn (.func 172) 0 [.ptr 30001 0]] [(30001,.box (([.int .i64 qv0]).map .t))] [30001] (Rl a0 qv0) tB (fun y=>[(30001,.box (([.int .i64 qv0]).map .t))]):=fW Tryz.func106 aX (Gi a0 qv0)
def Iz(a0:Int)(a1:Int)(qu0:List Int):TP Bool:=.jn 9 0 (fun j1=>⟨[(5,tB j1)],[(30000,.box (([eL aD qu0]).map .t))]⟩) (.ite 0 ((qu0.length:Int)==a1) (.cv 2 [.rn 3 30001] <| .ch 0 [] (Co qu0 a0) fun r2=>.ret 3 (!r2)) (.ret 6 false)) fun j1=>.ret 0 j1
def Rb(a0:Int)(a1:Int)(qu0:List Int):=(Iz a0 a1 qu0).den
theorem fR(a0:Int)(a1:Int)(qu0:List Int):eA Tryz.prog 171 [tI a0,tI a1,.ptr 30000 0] [(30000,.box (([eL aD qu0]).map .t))] [30000] (Rb a0 a1 qu0) tB (fun y=>[(30000,.box (([eL aD qu0]).map .t))]):=fW Tryz.func171 aX (Iz a0 a1 qu0)
def Uj(a0:aM)(a1:List Int):TP (Int×Bool):=.ite 9 (a0.N != 0) (.ret 2 (0,false)) (.ite 4 (a0.Op==6) (.cv 1 [.rn 3 30000] <| .ch 0 [] (fR 2 1 a1) fun r1=>.ret 2 (2,r1)) (.ite 2 (a0.Op==7) (.cv 1 [.rn 3 30000] <| .ch 0 [] (fR 0 1 a1) fun r2=>.ret 2 (0,r2)) (.ite 2 (a0.Op==20) (.cv 1 [.rn 3 30000] <| .ch 0 [] (fR 1 1 a1) fun r3=>.ret 2 (0,r3)) (.jn 2 0 (fun j4=>⟨[(3,.ptr 3 0),(6,.fn (.func 171) 0 [.ptr 3 0]),(12,tI a0.Op),(25,tB j4)],[(3,.box (([eL aD a1]).map .t))]⟩) (.ite 0 (a0.Op==8) (.ret 0 (a0.Op==8)) (.jn 2 0 (fun j5=>⟨[(3,.ptr 3 0),(6,.fn (.func 171) 0 [.ptr 3 0]),(12,tI a0.Op),(25,tB j5)],[(3,.box (([eL aD a1]).map .t))]⟩) (.ite 0 (a0.Op==9) (.ret 0 (a0.Op==9)) (.jn 2 0 (fun j6=>⟨[(3,.ptr 3 0),(6,.fn (.func 171) 0 [.ptr 3 0]),(12,tI a0.Op),(25,tB j6)],[(3,.box (([eL aD a1]).map .t))]⟩) (.ite 0 (a0.Op==10) (.ret 0 (a0.Op==10)) (.jn 2 0 (fun j7=>⟨[(3,.ptr 3 0),(6,.fn (.func 171) 0 [.ptr 3 0]),(12,tI a0.Op),(25,tB j7)],[(3,.box (([eL aD a1]).map .t))]⟩) (.ite 0 (a0.Op==11) (.ret 0 (a0.Op==11)) (.ret 2 (a0.Op==12))) fun j7=>.ret 0 j7)) fun j6=>.ret 0 j6)) fun j5=>.ret 0 j5)) fun j4=>.ite 0 j4 (.cv 1 [.rn 3 30000] <| .ch 0 [] (fR 0 2 a1) fun r8=>.ret 2 (0,r8)) (.jn 2 0 (fun j9=>⟨[(3,.ptr 3 0),(6,.fn (.func 171) 0 [.ptr 3 0]),(12,tI a0.Op),(33,tB j9)],[(3,.box (([eL aD a1]).map .t))]⟩) (.ite 0 (a0.Op==13) (.ret 0 (a0.Op==13)) (.jn 2 0 (fun j10=>⟨[(3,.ptr 3 0),(6,.fn (.func 171) 0 [.ptr 3 0]),(12,tI a0.Op),(33,tB j10)],[(3,.box (([eL aD a1]).map .t))]⟩) (.ite 0 (a0.Op==14) (.ret 0 (a0.Op==14)) (.jn 2 0 (fun j11=>⟨[(3,.ptr 3 0),(6,.fn (.func 171) 0 [.ptr 3 0]),(12,tI a0.Op),(33,tB j11)],[(3,.box (([eL aD a1]).map .t))]⟩) (.ite 0 (a0.Op==15) (.ret 0 (a0.Op==15)) (.ret 2 (a0.Op==16))) fun j11=>.ret 0 j11)) fun j10=>.ret 0 j10)) fun j9=>.ite 0 j9 (.grd 3 (0<=(0:Int)/\(0:Int)<a1.length) <| .cv 1 [.rn 3 30000] <| .ch 0 [] (fR (a1.getD (0:Int).toNat default) 2 a1) fun r12=>.ret 2 (2,r12)) (.jn 2 0 (fun j13=>⟨[(3,.ptr 3 0),(6,.fn (.func 171) 0 [.ptr 3 0]),(12,tI a0.Op),(43,tB j13)],[(3,.box (([eL aD a1]).map .t))]⟩) (.ite 0 (a0.Op==17) (.ret 0 (a0.Op==17)) (.ret 2 (a0.Op==18))) fun j13=>.ite 0 j13 (.cv 1 [.rn 3 30000] <| .ch 0 [] (fR 2 2 a1) fun r14=>.ret 2 (2,r14)) (.ite 2 (a0.Op==19) (.cv 1 [.rn 3 30000] <| .ch 0 [] (fR 1 2 a1) fun r15=>.ret 2 (1,r15)) (.ite 2 (a0.Op==21) (.jn 0 0 (fun j16=>⟨[(4,tI (a1.getD (i64.wrap ((a1.length:Int)-1)).toNat default)),(5,tB j16)],[]⟩) (.dg 4 (0<=(i64.wrap ((a1.length:Int)-1))/\(i64.wrap ((a1.length:Int)-1))<a1.length) <| .dl 9 ((a1.length:Int)==3) (.dg 11 (0<=(0:Int)/\(0:Int)<a1.length) <| .dl 15 ((a1.getD (0:Int).toNat default)==2) (.dg 17 (0<=(1:Int)/\(1:Int)<a1.length) <| .dg 20 (0<=(2:Int)/\(2:Int)<a1.length) <| .dr 0 0 [(3,false,[])] [3,6,12,43,48,49,52,53] <| .ret 0 ((a1.getD (1:Int).toNat default)==(a1.getD (2:Int).toNat default))) (.dr 0 0 [(3,false,[])] [3,6,12,43,48,49,52,53] <| .ret 0 false)) (.dr 0 0 [(3,false,[])] [3,6,12,43,48,49,52,53] <| .ret 0 false)) fun j16=>.ret 0 (a1.getD (i64.wrap ((a1.length:Int)-1)).toNat default,j16)) (.ret 2 (0,false))))))))))
def Yh(a0:aM)(a1:List Int):=(Uj a0 a1).den
theorem Lk(a0:aM)(a1:List Int):Con Tryz.prog 161 [.t (bP a0),.t (eL aD a1)] (Yh a0 a1) (fun y=>.tup [tI y.1,tB y.2]):=con Tryz.func161 aX (Uj a0 a1)
def Ld(a0:List Int)(a1:List Int):Int->TP ((Int)⊕((Unit)⊕Bool))
 | v1=>.ite 1 (decide (v1<a0.length)) (.dg 2 (0<=v1/\v1<a0.length) <| .dg 6 (0<=v1/\v1<a1.length) <| .dr 2 0 [] [0,1,5,12,13,14,15] <| .ite 0 ((a0.getD v1.toNat default) != (a1.getD v1.toNat default)) (.ret 1 (.inr (.inr false))) (.ret 2 (.inl (i64.wrap (v1+1))))) (.ret 0 (.inr (.inl ())))
def Va(a0:List Int)(a1:List Int):TP Bool:=.ite 6 ((a0.length:Int) != (a1.length:Int)) (.ret 1 false) (.lp 3 (fun v1=>⟨[(0,.t (eL aD a0)),(1,.t (eL aD a1)),(12,tI (a0.length:Int)),(13,tI v1)],[]⟩) (fun _=>⟨[],[]⟩) 0 0 (Ld a0 a1) fun _=>.ret 1 true)
def Yl(a0:List Int)(a1:List Int):=(Va a0 a1).den
theorem iQ(a0:List Int)(a1:List Int):Con Tryz.prog 30 [.t (eL aD a0),.t (eL aD a1)] (Yl a0 a1) tB:=con Tryz.func30 aX (Va a0 a1)
abbrev Qd:={f:(dC×aM)->Option (Int×Bool) // ∀ a:dC×aM,Con Tryz.prog 143 [.t (iO a.1),.t (bP a.2)] (f a) (fun (y:Int×Bool)=>.tup [tI y.1,tB y.2])}
def Md(rec:Qd)(a0:dC)(a1:aM):((List Int)×Int)->TP (((List Int)×Int)⊕((List Int)⊕(Int×Bool)))
 | (v1,v2)=>.ite 1 (decide (v2<a1.Args.length)) (.grd 1 (0<=v2/\v2<a1.Args.length) <| .ca 5 (rec.2 (a0,a1.Args.getD v2.toNat default)) fun r4=>.ite 7 (!r4.2) (.ret 2 (.inr (.inr (0,false)))) (.bs 2 false aD [r4.1] <| .grd 1 ((v1.length+[r4.1].length)*8<=140737488355328) <| .cv 0 [.ap 29 aD v1 [r4.1]] <| .cv 3 [.rn 29 6] <| .ret 0 (.inl (v1++[r4.1],i64.wrap (v2+1))))) (.ret 0 (.inr (.inl v1)))
def Qw(rec:Qd)(a0:dC)(a1:aM):TP (Int×Bool):=.cv 9 [.th 6 6 3 1 (eF aD ([]:List Int))] <| .lp 0 (fun (v1,v2)=>⟨[(2,.ptr 2 0),(3,.ptr 3 0),(6,.own 6),(12,.t (.lz (.exprs (a1.Args)))),(13,tI (a1.Args.length:Int)),(14,tI v2)],[(2,.box ((lZ a0).map .t)),(3,.box ((bQ a1).map .t)),(6,.arr 3 1 (v1.length) (eF aD v1))]⟩) (fun b3=>⟨[(2,.ptr 2 0),(3,.ptr 3 0),(6,.own 6)],[(2,.box ((lZ a0).map .t)),(3,.box ((bQ a1).map .t)),(6,.arr 3 1 (b3.length) (eF aD b3))]⟩) 0 (([]:List Int),0) (Md rec a0 a1) fun b3=>.jn 4 0 (fun (j5,j6)=>⟨[(2,.ptr 2 0),(3,.ptr 3 0),(6,.own 6),(38,tB j6)],[(2,.box ((lZ a0).map .t)),(3,.box ((bQ a1).map .t)),(6,.arr 3 1 (j5.length) (eF aD j5))]⟩) (.ite 0 (!((a1.S:ByteArray).toList==(⟨#[]⟩:ByteArray).toList)) (.ret 4 (b3,a1.Op != 1)) (.ret 4 (b3,false))) fun (j5,j6)=>.ite 0 j6 (.ret 2 (0,false)) (.jn 4 0 (fun (j7,j8)=>⟨[(2,.ptr 2 0),(3,.ptr 3 0),(6,.own 6),(46,tB j8)],[(2,.box ((lZ a0).map .t)),(3,.box ((bQ a1).map .t)),(6,.arr 3 1 (j7.length) (eF aD j7))]⟩) (.ite 0 ((j5.length:Int)==0) (.ret 4 (j5,a1.Op != 22)) (.ret 4 (j5,false))) fun (j7,j8)=>.ite 0 j8 (.ca 2 (Ow a0 a1) fun r9=>.ret 4 (r9.1,r9.2)) (.ite 3 (a1.Op==22) (.jn 4 0 (fun j10=>⟨[(2,.ptr 2 0),(3,.ptr 3 0),(77,tB j10)],[(2,.box ((lZ a0).map .t)),(3,.box ((bQ a1).map .t))]⟩) (.ite 0 (decide (a1.N<0)) (.ret 19 true) (.ite 8 (decide (a1.N>=(a0.funcs_.length:Int))) (.ret 11 true) (.grd 5 (0<=a1.N/\a1.N<a0.funcs_.length) <| .ca 3 (iQ ((a0.funcs_.getD (a1.N).toNat default).Params) j7) fun r11=>.ret 2 (!r11)))) fun j10=>.ite 0 j10 (.ret 2 (0,false)) (.grd 5 (0<=a1.N/\a1.N<a0.funcs_.length) <| .ret 4 ((a0.funcs_.getD (a1.N).toNat default).Result,true))) (.ca 2 (Lk a1 j7) fun r12=>.ret 4 (r12.1,r12.2))))
theorem Nf(rec:Qd)(a0:dC)(a1:aM):Con Tryz.prog 143 [.t (iO a0),.t (bP a1)] (Qw rec a0 a1).den (fun (y:Int×Bool)=>.tup [tI y.1,tB y.2]):=con Tryz.func143 aX (Qw rec a0 a1)
def Wy(a:dC×aM):Option (Int×Bool):=zD (C:=fun (a:dC×aM) (x:Option (Int×Bool))=>Con Tryz.prog 143 [.t (iO a.1),.t (bP a.2)] x (fun (y:Int×Bool)=>.tup [tI y.1,tB y.2])) (fun a=>⟨bH Tryz.func143 (by kernel_rfl),fun _ h=>nomatch h⟩) (fun rec a=>Qw rec a.1 a.2) (fun rec a=>Nf rec a.1 a.2) a
theorem Ov(a:dC×aM):Con Tryz.prog 143 [.t (iO a.1),.t (bP a.2)] (Wy a) (fun (y:Int×Bool)=>.tup [tI y.1,tB y.2]):=nH (C:=fun (a:dC×aM) (x:Option (Int×Bool))=>Con Tryz.prog 143 [.t (iO a.1),.t (bP a.2)] x (fun (y:Int×Bool)=>.tup [tI y.1,tB y.2])) _ _ _ a
def Yx(a0:dC)(a1:aM):Option (Int×Bool):=Wy (a0,a1)
theorem Kr(a0:dC)(a1:aM):Con Tryz.prog 143 [.t (iO a0),.t (bP a1)] (Yx a0 a1) (fun y=>.tup [tI y.1,tB y.2]):=Ov (a0,a1)
def Vp(a0:dC)(a1:aM):TP (Int×Bool):=.ca 5 (Mn a1) fun r1=>.ite 1 (decide (r1>12)) (.ret 2 (0,false)) (.ca 2 (Kr a0 a1) fun r2=>.ite 6 (r2.2) (.ret 3 (r2.1,true)) (.ret 2 (0,false)))
def Yt(a0:dC)(a1:aM):=(Vp a0 a1).den
theorem Bf(a0:dC)(a1:aM):Con Tryz.prog 107 [.t (iO a0),.t (bP a1)] (Yt a0 a1) (fun y=>.tup [tI y.1,tB y.2]):=con Tryz.func107 aX (Vp a0 a1)
def Wq(a0:Int):TP Bool:=.ca 2 (zJ a0) fun r1=>.ret 2 (!r1)
def Yg(a0:Int):=(Wq a0).den
theorem Kq(a0:Int):Con Tryz.prog 104 [tI a0] (Yg a0) tB:=con Tryz.func104 aX (Wq a0)
def Cq(a0:List Int):Int->TP ((Int)⊕((Unit)⊕Int))
 | v1=>.ite 1 (decide (v1<a0.length)) (.grd 6 (0<=v1/\v1<a0.length) <| .ca 1 (Kq (a0.getD v1.toNat default)) fun r2=>.ite 0 r2 (.ret 2 (.inr (.inr v1))) (.ret 2 (.inl (i64.wrap (v1+1))))) (.ret 0 (.inr (.inl ())))
def Gh(a0:List Int):TP Int:=.lp 4 (fun v1=>⟨[(0,.t (eL aD a0)),(1,.fn (.func 104) 0 []),(7,tI (a0.length:Int)),(8,tI v1)],[]⟩) (fun _=>⟨[],[]⟩) 0 0 (Cq a0) fun _=>.ret 1 (-1)
def Tb(a0:List Int):=(Gh a0).den
theorem Eb(a0:List Int):eA Tryz.prog 142 [.t (eL aD a0),.fn (.func 104) 0 []] [] [] (Tb a0) tI (fun y=>[]):=fW Tryz.func142 aX (Gh a0)
def Hl(a0:List Int):TP Bool:=.ch 3 [] (Eb a0) fun r1=>.ret 2 (decide (r1>=0))
def Qm(a0:List Int):=(Hl a0).den
theorem Dv(a0:List Int):eA Tryz.prog 106 [.t (eL aD a0),.fn (.func 104) 0 []] [] [] (Qm a0) tB (fun y=>[]):=fW Tryz.func106 aX (Hl a0)
def Ly(a0:List bF):Int->TP ((Int)⊕((Unit)⊕Bool))
 | v1=>.ite 1 (decide (v1<a0.length)) (.grd 2 (0<=v1/\v1<a0.length) <| .jn 10 0 (fun j2=>⟨[(0,.t (eL bG a0)),(3,tI v1),(4,.ptr 4 0),(11,.t (eL bG a0)),(12,tI (a0.length:Int)),(13,tI v1),(27,tB j2)],[(4,.box ((bG (a0.getD v1.toNat default)).map .t))]⟩) (.ite 0 (decide ((((a0.getD v1.toNat default).Params).length:Int)>6)) (.ret 5 true) (.ch 3 [] (Dv ((a0.getD v1.toNat default).Params)) fun r3=>.ret 1 r3)) fun j2=>.ite 0 j2 (.ret 1 (.inr (.inr false))) (.dg 2 (0<=(0:Int)/\(0:Int)<=v1/\v1<=(a0.length:Int)) <| .dc 8 [.agg [.t (.sl (v1-(0:Int)).toNat (fun k=>eF bG a0 ((0:Int).toNat+k))),.nil,.t (eL aD ((a0.getD v1.toNat default).Params))],.t (bP ((a0.getD v1.toNat default).Body))] (Qb [] [.t (.sl (v1-(0:Int)).toNat (fun k=>eF bG a0 ((0:Int).toNat+k))),.nil,.t (eL aD ((a0.getD v1.toNat default).Params))] a0 (0:Int) v1 [.t (bP ((a0.getD v1.toNat default).Body))] (fun hc=>.imp (rY hc rfl) (.empty rfl (.same (.nil)))) (Bf (dC.mk ((a0.drop (0:Int).toNat).take (v1-(0:Int)).toNat) ([]:List Int) ((a0.getD v1.toNat default).Params)) ((a0.getD v1.toNat default).Body))) fun r4=>.dr 0 0 [(4,false,[])] [0,3,4,11,12,13,27] <| .jn 3 0 (fun j5=>⟨[(0,.t (eL bG a0)),(11,.t (eL bG a0)),(12,tI (a0.length:Int)),(13,tI v1),(47,tB j5)],[]⟩) (.ite 0 (!r4.2) (.ret 5 true) (.ret 5 (r4.1 != ((a0.getD v1.toNat default).Result)))) fun j5=>.ite 0 j5 (.ret 1 (.inr (.inr false))) (.ret 2 (.inl (i64.wrap (v1+1)))))) (.ret 0 (.inr (.inl ())))
def Xb(a0:List bF):TP Bool:=.ite 4 (decide ((a0.length:Int)>20)) (.ret 1 false) (.lp 3 (fun v1=>⟨[(0,.t (eL bG a0)),(11,.t (eL bG a0)),(12,tI (a0.length:Int)),(13,tI v1)],[]⟩) (fun _=>⟨[],[]⟩) 0 0 (Ly a0) fun _=>.ret 1 true)
def Yz(a0:List bF):=(Xb a0).den
theorem Bc(a0:List bF):Con Tryz.prog 60 [.t (eL bG a0)] (Yz a0) tB:=con Tryz.func60 aX (Xb a0)
def Uu(a0:Int):TP Int:=.ite 4 (a0==0) (.ret 1 0) (.jn 2 0 (fun j1=>⟨[(6,tB j1)],[]⟩) (.ite 0 (a0==3) (.ret 0 (a0==3)) (.jn 2 0 (fun j2=>⟨[(6,tB j2)],[]⟩) (.ite 0 (a0==6) (.ret 0 (a0==6)) (.ret 2 (a0==7))) fun j2=>.ret 0 j2)) fun j1=>.ite 0 j1 (.ret 1 2) (.ret 1 1))
def Xo(a0:Int):=(Uu a0).den
theorem Mf(a0:Int):Con Tryz.prog 61 [tI a0] (Xo a0) tI:=con Tryz.func61 aX (Uu a0)
def Tt(a0:aG):TP Bool:=.jn 37 0 (fun j1=>⟨[(2,tB j1)],[]⟩) (.ite 0 ((i64.wrap ((i64.wrap ((i64.wrap ((i64.wrap ((i64.wrap ((i64.wrap ((i64.wrap ((a0.In.length:Int)+(a0.Exprs.length:Int)))+(a0.Key.length:Int)))+(a0.Key2.length:Int)))+(a0.Aggs.length:Int)))+(a0.Seq.length:Int)))+(a0.Cols.length:Int)))+((a0.Source:ByteArray).size:Int)))==0) (.ret 19 ([a0.Schema,a0.Kind,a0.Size,a0.Step,a0.Before,a0.After,a0.Keep]==[0,0,0,0,0,0,0])) (.ret 19 false)) fun j1=>.ret 0 j1
def Xn(a0:aG):=(Tt a0).den
theorem Lm(a0:aG):Con Tryz.prog 62 [.t (eH a0)] (Xn a0) tB:=con Tryz.func62 aX (Tt a0)
def Wz(a0:aG):TP aG:=.jn 7 0 (fun j1=>⟨[(1,.ptr 1 0),(2,.ptr 2 0)],[(1,.box [tI a0.Op,.t (eL aD j1),.t (.str (a0.Source)),tI a0.Schema,.t (.lz (.exprs (a0.Exprs))),tI a0.Kind,tI a0.Size,tI a0.Step,.t (eL aD (a0.Key)),.t (eL aD (a0.Key2)),tI a0.Before,tI a0.After,tI a0.Keep,.t (eL cD (a0.Aggs)),.t (eL cG (a0.Seq)),.t (eL bK ([]:List aY))]),(2,.box [tI 0,.nil,.t (.str (⟨#[]⟩)),tI 0,.nil,tI 0,tI 0,tI 0,.nil,.nil,tI 0,tI 0,tI 0,.nil,.nil,.nil])]⟩) (.ite 0 (a0.Op != 0) (.cv 2 [.bx 1 [.int .i64 (a0.Op),eL aD ([]:List Int),.str (a0.Source),.int .i64 (a0.Schema),.lz (.exprs (a0.Exprs)),.int .i64 (a0.Kind),.int .i64 (a0.Size),.int .i64 (a0.Step),eL aD (a0.Key),eL aD (a0.Key2),.int .i64 (a0.Before),.int .i64 (a0.After),.int .i64 (a0.Keep),eL cD (a0.Aggs),eL cG (a0.Seq),eL bK ([]:List aY)]] <| .ret 0 ([]:List Int)) (.cv 0 [.bx 1 [.int .i64 (a0.Op),eL aD (a0.In),.str (a0.Source),.int .i64 (a0.Schema),.lz (.exprs (a0.Exprs)),.int .i64 (a0.Kind),.int .i64 (a0.Size),.int .i64 (a0.Step),eL aD (a0.Key),eL aD (a0.Key2),.int .i64 (a0.Before),.int .i64 (a0.After),.int .i64 (a0.Keep),eL cD (a0.Aggs),eL cG (a0.Seq),eL bK ([]:List aY)]] <| .ret 0 a0.In)) fun j1=>.jn 4 0 (fun (j2,j3,j4,j5,j6,j7,j8,j9,j10,j11,j12,j13,j14)=>⟨[(1,.ptr 1 0),(2,.ptr 2 0)],[(1,.box [tI a0.Op,.t (eL aD j1),.t (.str j2),tI j3,.t (.lz (.exprs j4)),tI j5,tI j6,tI j7,.t (eL aD j8),.t (eL aD j9),tI j10,tI j11,tI j12,.t (eL cD j13),.t (eL cG j14),.t (eL bK ([]:List aY))]),(2,.box [tI 0,.nil,.t (.str (⟨#[]⟩)),tI 0,.nil,tI 0,tI 0,tI 0,.nil,.nil,tI 0,tI 0,tI 0,.nil,.nil,.nil])]⟩) (.ite 0 (a0.Op==0) (.ret 4 (⟨#[]⟩,0,a0.Exprs,a0.Kind,a0.Size,a0.Step,a0.Key,a0.Key2,a0.Before,a0.After,a0.Keep,a0.Aggs,a0.Seq)) (.jn 2 0 (fun j15=>⟨[(1,.ptr 1 0),(2,.ptr 2 0),(9,tI a0.Op),(14,tB j15)],[(1,.box [tI a0.Op,.t (eL aD j1),.t (.str (a0.Source)),tI a0.Schema,.t (.lz (.exprs (a0.Exprs))),tI a0.Kind,tI a0.Size,tI a0.Step,.t (eL aD (a0.Key)),.t (eL aD (a0.Key2)),tI a0.Before,tI a0.After,tI a0.Keep,.t (eL cD (a0.Aggs)),.t (eL cG (a0.Seq)),.t (eL bK ([]:List aY))]),(2,.box [tI 0,.nil,.t (.str (⟨#[]⟩)),tI 0,.nil,tI 0,tI 0,tI 0,.nil,.nil,tI 0,tI 0,tI 0,.nil,.nil,.nil])]⟩) (.ite 0 (a0.Op==1) (.ret 0 (a0.Op==1)) (.ret 2 (a0.Op==2))) fun j15=>.jn 0 0 (fun (j16,j17,j18,j19,j20,j21,j22,j23,j24,j25,j26)=>⟨[(1,.ptr 1 0),(2,.ptr 2 0)],[(1,.box [tI a0.Op,.t (eL aD j1),.t (.str (a0.Source)),tI a0.Schema,.t (.lz (.exprs j16)),tI j17,tI j18,tI j19,.t (eL aD j20),.t (eL aD j21),tI j22,tI j23,tI j24,.t (eL cD j25),.t (eL cG j26),.t (eL bK ([]:List aY))]),(2,.box [tI 0,.nil,.t (.str (⟨#[]⟩)),tI 0,.nil,tI 0,tI 0,tI 0,.nil,.nil,tI 0,tI 0,tI 0,.nil,.nil,.nil])]⟩) (.ite 0 j15 (.cv 2 [.bx 1 [.int .i64 (a0.Op),eL aD j1,.str (a0.Source),.int .i64 (a0.Schema),.lz (.exprs ([]:List aM)),.int .i64 (a0.Kind),.int .i64 (a0.Size),.int .i64 (a0.Step),eL aD (a0.Key),eL aD (a0.Key2),.int .i64 (a0.Before),.int .i64 (a0.After),.int .i64 (a0.Keep),eL cD (a0.Aggs),eL cG (a0.Seq),eL bK ([]:List aY)]] <| .ret 0 (([]:List aM),a0.Kind,a0.Size,a0.Step,a0.Key,a0.Key2,a0.Before,a0.After,a0.Keep,a0.Aggs,a0.Seq)) (.jn 2 0 (fun (j27,j28,j29,j30,j31,j32,j33,j34,j35,j36)=>⟨[(1,.ptr 1 0),(2,.ptr 2 0)],[(1,.box [tI a0.Op,.t (eL aD j1),.t (.str (a0.Source)),tI a0.Schema,.t (.lz (.exprs (a0.Exprs))),tI j27,tI j28,tI j29,.t (eL aD j30),.t (eL aD j31),tI j32,tI j33,tI j34,.t (eL cD j35),.t (eL cG j36),.t (eL bK ([]:List aY))]),(2,.box [tI 0,.nil,.t (.str (⟨#[]⟩)),tI 0,.nil,tI 0,tI 0,tI 0,.nil,.nil,tI 0,tI 0,tI 0,.nil,.nil,.nil])]⟩) (.ite 0 (a0.Op==4) (.jn 3 0 (fun j37=>⟨[(1,.ptr 1 0),(2,.ptr 2 0)],[(1,.box [tI a0.Op,.t (eL aD j1),.t (.str (a0.Source)),tI a0.Schema,.t (.lz (.exprs (a0.Exprs))),tI a0.Kind,tI a0.Size,tI j37,.t (eL aD (a0.Key)),.t (eL aD (a0.Key2)),tI a0.Before,tI a0.After,tI a0.Keep,.t (eL cD (a0.Aggs)),.t (eL cG (a0.Seq)),.t (eL bK ([]:List aY))]),(2,.box [tI 0,.nil,.t (.str (⟨#[]⟩)),tI 0,.nil,tI 0,tI 0,tI 0,.nil,.nil,tI 0,tI 0,tI 0,.nil,.nil,.nil])]⟩) (.ite 0 (a0.Kind != 0) (.ret 2 0) (.ret 0 a0.Step)) fun j37=>.cv 8 [.bx 1 [.int .i64 (a0.Op),eL aD j1,.str (a0.Source),.int .i64 (a0.Schema),.lz (.exprs (a0.Exprs)),.int .i64 0,.int .i64 0,.int .i64 j37,eL aD ([]:List Int),eL aD (a0.Key2),.int .i64 (a0.Before),.int .i64 (a0.After),.int .i64 (a0.Keep),eL cD ([]:List dG),eL cG (a0.Seq),eL bK ([]:List aY)]] <| .ret 0 (0,0,j37,([]:List Int),a0.Key2,a0.Before,a0.After,a0.Keep,([]:List dG),a0.Seq)) (.jn 2 0 (fun (j38,j39,j40,j41,j42,j43,j44,j45)=>⟨[(1,.ptr 1 0),(2,.ptr 2 0)],[(1,.box [tI a0.Op,.t (eL aD j1),.t (.str (a0.Source)),tI a0.Schema,.t (.lz (.exprs (a0.Exprs))),tI a0.Kind,tI j38,tI j39,.t (eL aD j40),.t (eL aD j41),tI j42,tI j43,tI j44,.t (eL cD (a0.Aggs)),.t (eL cG j45),.t (eL bK ([]:List aY))]),(2,.box [tI 0,.nil,.t (.str (⟨#[]⟩)),tI 0,.nil,tI 0,tI 0,tI 0,.nil,.nil,tI 0,tI 0,tI 0,.nil,.nil,.nil])]⟩) (.ite 0 (a0.Op==5) (.cv 8 [.bx 1 [.int .i64 (a0.Op),eL aD j1,.str (a0.Source),.int .i64 (a0.Schema),.lz (.exprs (a0.Exprs)),.int .i64 (a0.Kind),.int .i64 0,.int .i64 0,eL aD ([]:List Int),eL aD (a0.Key2),.int .i64 (a0.Before),.int .i64 (a0.After),.int .i64 0,eL cD (a0.Aggs),eL cG (a0.Seq),eL bK ([]:List aY)]] <| .ret 0 (0,0,([]:List Int),a0.Key2,a0.Before,a0.After,0,a0.Seq)) (.jn 2 0 (fun (j46,j47,j48,j49,j50,j51,j52)=>⟨[(1,.ptr 1 0),(2,.ptr 2 0)],[(1,.box [tI a0.Op,.t (eL aD j1),.t (.str (a0.Source)),tI a0.Schema,.t (.lz (.exprs (a0.Exprs))),tI a0.Kind,tI j46,tI a0.Step,.t (eL aD j47),.t (eL aD j48),tI j49,tI j50,tI j51,.t (eL cD (a0.Aggs)),.t (eL cG j52),.t (eL bK ([]:List aY))]),(2,.box [tI 0,.nil,.t (.str (⟨#[]⟩)),tI 0,.nil,tI 0,tI 0,tI 0,.nil,.nil,tI 0,tI 0,tI 0,.nil,.nil,.nil])]⟩) (.ite 0 (a0.Op==6) (.cv 8 [.bx 1 [.int .i64 (a0.Op),eL aD j1,.str (a0.Source),.int .i64 (a0.Schema),.lz (.exprs (a0.Exprs)),.int .i64 (a0.Kind),.int .i64 (a0.Size),.int .i64 (a0.Step),eL aD ([]:List Int),eL aD ([]:List Int),.int .i64 0,.int .i64 0,.int .i64 (a0.Keep),eL cD (a0.Aggs),eL cG (a0.Seq),eL bK ([]:List aY)]] <| .ret 0 (a0.Size,([]:List Int),([]:List Int),0,0,a0.Keep,a0.Seq)) (.jn 2 0 (fun (j53,j54,j55,j56,j57)=>⟨[(1,.ptr 1 0),(2,.ptr 2 0)],[(1,.box [tI a0.Op,.t (eL aD j1),.t (.str (a0.Source)),tI a0.Schema,.t (.lz (.exprs (a0.Exprs))),tI a0.Kind,tI j53,tI a0.Step,.t (eL aD j54),.t (eL aD j55),tI a0.Before,tI a0.After,tI j56,.t (eL cD (a0.Aggs)),.t (eL cG j57),.t (eL bK ([]:List aY))]),(2,.box [tI 0,.nil,.t (.str (⟨#[]⟩)),tI 0,.nil,tI 0,tI 0,tI 0,.nil,.nil,tI 0,tI 0,tI 0,.nil,.nil,.nil])]⟩) (.ite 0 (a0.Op==7) (.cv 6 [.bx 1 [.int .i64 (a0.Op),eL aD j1,.str (a0.Source),.int .i64 (a0.Schema),.lz (.exprs (a0.Exprs)),.int .i64 (a0.Kind),.int .i64 (a0.Size),.int .i64 (a0.Step),eL aD ([]:List Int),eL aD ([]:List Int),.int .i64 (a0.Before),.int .i64 (a0.After),.int .i64 0,eL cD (a0.Aggs),eL cG (a0.Seq),eL bK ([]:List aY)]] <| .ret 0 (a0.Size,([]:List Int),([]:List Int),0,a0.Seq)) (.jn 2 0 (fun (j58,j59,j60)=>⟨[(1,.ptr 1 0),(2,.ptr 2 0)],[(1,.box [tI a0.Op,.t (eL aD j1),.t (.str (a0.Source)),tI a0.Schema,.t (.lz (.exprs (a0.Exprs))),tI a0.Kind,tI j58,tI a0.Step,.t (eL aD j59),.t (eL aD (a0.Key2)),tI a0.Before,tI a0.After,tI a0.Keep,.t (eL cD (a0.Aggs)),.t (eL cG j60),.t (eL bK ([]:List aY))]),(2,.box [tI 0,.nil,.t (.str (⟨#[]⟩)),tI 0,.nil,tI 0,tI 0,tI 0,.nil,.nil,tI 0,tI 0,tI 0,.nil,.nil,.nil])]⟩) (.ite 0 (a0.Op==8) (.cv 6 [.bx 1 [.int .i64 (a0.Op),eL aD j1,.str (a0.Source),.int .i64 (a0.Schema),.lz (.exprs (a0.Exprs)),.int .i64 (a0.Kind),.int .i64 0,.int .i64 (a0.Step),eL aD ([]:List Int),eL aD (a0.Key2),.int .i64 (a0.Before),.int .i64 (a0.After),.int .i64 (a0.Keep),eL cD (a0.Aggs),eL cG ([]:List cM),eL bK ([]:List aY)]] <| .ret 0 (0,([]:List Int),([]:List cM))) (.ret 0 (a0.Size,a0.Key,a0.Seq))) fun (j58,j59,j60)=>.ret 0 (j58,j59,a0.Key2,a0.Keep,j60))) fun (j53,j54,j55,j56,j57)=>.ret 0 (j53,j54,j55,a0.Before,a0.After,j56,j57))) fun (j46,j47,j48,j49,j50,j51,j52)=>.ret 0 (j46,a0.Step,j47,j48,j49,j50,j51,j52))) fun (j38,j39,j40,j41,j42,j43,j44,j45)=>.ret 0 (a0.Kind,j38,j39,j40,j41,j42,j43,j44,a0.Aggs,j45))) fun (j27,j28,j29,j30,j31,j32,j33,j34,j35,j36)=>.ret 0 (a0.Exprs,j27,j28,j29,j30,j31,j32,j33,j34,j35,j36))) fun (j16,j17,j18,j19,j20,j21,j22,j23,j24,j25,j26)=>.ret 0 (a0.Source,a0.Schema,j16,j17,j18,j19,j20,j21,j22,j23,j24,j25,j26))) fun (j2,j3,j4,j5,j6,j7,j8,j9,j10,j11,j12,j13,j14)=>.ret 2 (aG.mk a0.Op j1 j2 j3 j4 j5 j6 j7 j8 j9 j10 j11 j12 j13 j14 ([]:List aY))
def Yi(a0:aG):=(Wz a0).den
theorem Ke(a0:aG):Con Tryz.prog 63 [.t (eH a0)] (Yi a0) (fun y=>.t (eH y)):=con Tryz.func63 aX (Wz a0)
def Xa(a0:List bF)(a1:List Int)(a2:List Int)(a3:aM):TP (Int×Bool):=.ca 4 (Bc a0) fun r1=>.ite 1 (!r1) (.ret 2 (0,false)) (.ca 5 (Bf (dC.mk a0 a1 a2) a3) fun r2=>.ret 4 (r2.1,r2.2))
def Yr(a0:List bF)(a1:List Int)(a2:List Int)(a3:aM):=(Xa a0 a1 a2 a3).den
theorem zP(a0:List bF)(a1:List Int)(a2:List Int)(a3:aM):Con Tryz.prog 111 [.t (eL bG a0),.t (eL aD a1),.t (eL aD a2),.t (bP a3)] (Yr a0 a1 a2 a3) (fun y=>.tup [tI y.1,tB y.2]):=con Tryz.func111 aX (Xa a0 a1 a2 a3)
def Vr(a0:List bF)(a1:List Int)(a2:aM):TP Bool:=.ca 5 (zP a0 a1 ([]:List Int) a2) fun r1=>.jn 7 0 (fun j2=>⟨[(6,tB j2)],[]⟩) (.ite 0 (r1.2) (.ret 4 (r1.1==2)) (.ret 4 false)) fun j2=>.ret 0 j2
def Zc(a0:List bF)(a1:List Int)(a2:aM):=(Vr a0 a1 a2).den
theorem zR(a0:List bF)(a1:List Int)(a2:aM):Con Tryz.prog 110 [.t (eL bG a0),.t (eL aD a1),.t (bP a2)] (Zc a0 a1 a2) tB:=con Tryz.func110 aX (Vr a0 a1 a2)
def Ix(a0:Int)(qu0:List Int):TP Bool:=.jn 4 0 (fun j1=>⟨[(3,tB j1)],[(30000,.box (([eL aD qu0]).map .t))]⟩) (.ite 0 (decide (a0<0)) (.ret 6 true) (.ret 6 (decide (a0>=(qu0.length:Int))))) fun j1=>.ret 0 j1
def Te(a0:Int)(qu0:List Int):=(Ix a0 qu0).den
theorem Cb(a0:Int)(qu0:List Int):eA Tryz.prog 145 [tI a0,.ptr 30000 0] [(30000,.box (([eL aD qu0]).map .t))] [30000] (Te a0 qu0) tB (fun y=>[(30000,.box (([eL aD qu0]).map .t))]):=fW Tryz.func145 aX (Ix a0 qu0)
def Cp(a0:List Int)(qu0:List Int):Int->TP ((Int)⊕((Unit)⊕Int))
 | v1=>.ite 1 (decide (v1<a0.length)) (.grd 6 (0<=v1/\v1<a0.length) <| .ch 1 [] (Cb (a0.getD v1.toNat default) qu0) fun r2=>.ite 0 r2 (.ret 2 (.inr (.inr v1))) (.ret 2 (.inl (i64.wrap (v1+1))))) (.ret 0 (.inr (.inl ())))
def Gp(a0:List Int)(qu0:List Int):TP Int:=.lp 4 (fun v1=>⟨[(0,.t (eL aD a0)),(1,.fn (.func 145) 0 [.ptr 30000 0]),(7,tI (a0.length:Int)),(8,tI v1)],[(30000,.box (([eL aD qu0]).map .t))]⟩) (fun _=>⟨[],[(30000,.box (([eL aD qu0]).map .t))]⟩) 0 0 (Cp a0 qu0) fun _=>.ret 1 (-1)
def Pr(a0:List Int)(qu0:List Int):=(Gp a0 qu0).den
theorem Ca(a0:List Int)(qu0:List Int):eA Tryz.prog 142 [.t (eL aD a0),.fn (.func 145) 0 [.ptr 30000 0]] [(30000,.box (([eL aD qu0]).map .t))] [30000] (Pr a0 qu0) tI (fun y=>[(30000,.box (([eL aD qu0]).map .t))]):=fW Tryz.func142 aX (Gp a0 qu0)
def Fw(a0:List Int)(qu0:List Int):TP Bool:=.ch 3 [] (Ca a0 qu0) fun r1=>.ret 2 (decide (r1>=0))
def Se(a0:List Int)(qu0:List Int):=(Fw a0 qu0).den
theorem Dg(a0:List Int)(qu0:List Int):eA Tryz.prog 106 [.t (eL aD a0),.fn (.func 145) 0 [.ptr 30000 0]] [(30000,.box (([eL aD qu0]).map .t))] [30000] (Se a0 qu0) tB (fun y=>[(30000,.box (([eL aD qu0]).map .t))]):=fW Tryz.func106 aX (Fw a0 qu0)
def Vg(a0:List Int)(a1:List Int):TP Bool:=.cv 4 [.rn 3 30000] <| .ch 0 [] (Dg a0 a1) fun r1=>.ret 2 (!r1)
def Xq(a0:List Int)(a1:List Int):=(Vg a0 a1).den
theorem jQ(a0:List Int)(a1:List Int):Con Tryz.prog 113 [.t (eL aD a0),.t (eL aD a1)] (Xq a0 a1) tB:=con Tryz.func113 aX (Vg a0 a1)
def Cz(a0:List Int)(a1:List Int):((List Int)×Int)->TP (((List Int)×Int)⊕((List Int)⊕(List Int)))
 | (v1,v2)=>.ite 1 (decide (v2<a1.length)) (.grd 1 (0<=v2/\v2<a1.length) <| .grd 6 (0<=(a1.getD v2.toNat default)/\(a1.getD v2.toNat default)<a0.length) <| .bs 1 false aD [a0.getD (a1.getD v2.toNat default).toNat default] <| .grd 1 ((v1.length+[a0.getD (a1.getD v2.toNat default).toNat default].length)*8<=140737488355328) <| .cv 0 [.ap 20 aD v1 [a0.getD (a1.getD v2.toNat default).toNat default]] <| .cv 3 [.rn 20 5] <| .ret 0 (.inl (v1++[a0.getD (a1.getD v2.toNat default).toNat default],i64.wrap (v2+1)))) (.ret 0 (.inr (.inl v1)))
def Hv(a0:List Int)(a1:List Int):TP (List Int):=.cv 5 [.th 5 5 3 1 (eF aD ([]:List Int))] <| .lp 0 (fun (v1,v2)=>⟨[(0,.t (eL aD a0)),(5,.own 5),(8,.t (eL aD a1)),(9,tI (a1.length:Int)),(10,tI v2)],[(5,.arr 3 1 (v1.length) (eF aD v1))]⟩) (fun b3=>⟨[(5,.own 5)],[(5,.arr 3 1 (b3.length) (eF aD b3))]⟩) 0 (([]:List Int),0) (Cz a0 a1) fun b3=>.cv 2 [.rn 5 40000] <| .ret 0 b3
def Sf(a0:List Int)(a1:List Int):=(Hv a0 a1).den
theorem tR(a0:List Int)(a1:List Int):eA Tryz.prog 114 [.t (eL aD a0),.t (eL aD a1)] [] [] (Sf a0 a1) (fun y=>.own 40000) (fun y=>[(40000,.arr 3 1 (y.length) (eF aD y))]):=fW Tryz.func114 aX (Hv a0 a1)
def Kk(a0:aG)(a1:List Int):((List Int)×Int)->TP (((List Int)×Int)⊕((List Int)⊕((List Int)×Bool)))
 | (v4,v5)=>.ite 1 (decide (v5<a0.Aggs.length)) (.pc 0 2 (fun (j7:(List Int))=>⟨[(1,.t (eL aD a1)),(6,.own 6),(31,.t (eL cD (a0.Aggs))),(32,tI (a0.Aggs.length:Int)),(33,tI v5)],[(6,.arr 3 1 (j7.length) (eF aD j7))]⟩) (.grd 1 (0<=v5/\v5<a0.Aggs.length) <| .jn 7 0 (fun (j8,j9)=>⟨[(1,.t (eL aD a1)),(6,.own 6),(8,.ptr 8 0),(31,.t (eL cD (a0.Aggs))),(32,tI (a0.Aggs.length:Int)),(33,tI v5),(37,tB j9)],[(6,.arr 3 1 (j8.length) (eF aD j8)),(8,.box ((cD (a0.Aggs.getD v5.toNat default)).map .t))]⟩) (.ite 0 (decide (((a0.Aggs.getD v5.toNat default).Kind)<0)) (.ret 15 (v4,true)) (.ite 5 (decide (((a0.Aggs.getD v5.toNat default).Kind)>=4)) (.ret 10 (v4,true)) (.ite 4 (((a0.Aggs.getD v5.toNat default).Kind)==0) (.ret 6 (v4,((a0.Aggs.getD v5.toNat default).Col) != 0)) (.ret 6 (v4,false))))) fun (j8,j9)=>.ite 0 j9 (.cv 2 [.sl 4 (eL aD ([]:List Int))] <| .ret 0 (.inr (.inr (.inr (([]:List Int),false))))) (.ite 4 (((a0.Aggs.getD v5.toNat default).Kind)==0) (.bs 1 true aD ([0]:List Int) <| .grd 1 ((j8.length+([0]:List Int).length)*8<=140737488355328) <| .cv 0 [.ap 62 aD j8 ([0]:List Int)] <| .cv 1 [.rn 62 6] <| .ret 0 (.inl (j8++([0]:List Int)))) (.bs 2 true aD [(a0.Aggs.getD v5.toNat default).Col] <| .ca 1 (jQ [(a0.Aggs.getD v5.toNat default).Col] a1) fun r10=>.jn 2 0 (fun (j11,j12)=>⟨[(1,.t (eL aD a1)),(6,.own 6),(8,.ptr 8 0),(31,.t (eL cD (a0.Aggs))),(32,tI (a0.Aggs.length:Int)),(33,tI v5),(63,tB j12)],[(6,.arr 3 1 (j11.length) (eF aD j11)),(8,.box ((cD (a0.Aggs.getD v5.toNat default)).map .t))]⟩) (.ite 0 (!r10) (.ret 13 (j8,true)) (.ite 4 (((a0.Aggs.getD v5.toNat default).Kind)==1) (.grd 4 (0<=((a0.Aggs.getD v5.toNat default).Col)/\((a0.Aggs.getD v5.toNat default).Col)<a1.length) <| .ret 5 (j8,(a1.getD ((a0.Aggs.getD v5.toNat default).Col).toNat default) != 0)) (.ret 9 (j8,false)))) fun (j11,j12)=>.ite 0 j12 (.cv 2 [.sl 4 (eL aD ([]:List Int))] <| .ret 0 (.inr (.inr (.inr (([]:List Int),false))))) (.grd 5 (0<=((a0.Aggs.getD v5.toNat default).Col)/\((a0.Aggs.getD v5.toNat default).Col)<a1.length) <| .bs 1 true aD [a1.getD ((a0.Aggs.getD v5.toNat default).Col).toNat default] <| .grd 1 ((j11.length+[a1.getD ((a0.Aggs.getD v5.toNat default).Col).toNat default].length)*8<=140737488355328) <| .cv 0 [.ap 90 aD j11 [a1.getD ((a0.Aggs.getD v5.toNat default).Col).toNat default]] <| .cv 1 [.rn 90 6] <| .ret 0 (.inl (j11++[a1.getD ((a0.Aggs.getD v5.toNat default).Col).toNat default])))))) fun j7=>.ret 2 (.inl (j7,i64.wrap (v5+1)))) (.ret 0 (.inr (.inl v4)))
def To(a0:aG)(a1:List Int):TP ((List Int)×Bool):=.jn 7 0 (fun j1=>⟨[(1,.t (eL aD a1)),(2,.ptr 2 0),(23,tB j1)],[(2,bN a0)]⟩) (.ite 0 (decide (a0.Kind<0)) (.ret 11 true) (.ite 5 (decide (a0.Kind>=3)) (.ret 6 true) (.ca 3 (jQ a0.Key a1) fun r2=>.ret 2 (!r2)))) fun j1=>.ite 0 j1 (.cv 2 [.sl 4 (eL aD ([]:List Int))] <| .ret 0 (([]:List Int),false)) (.ch 3 [40000] (tR a1 a0.Key) fun r3=>.cv 0 [.rn 40000 27] <| .bs 0 true aD ([0]:List Int) <| .grd 1 ((r3.length+([0]:List Int).length)*8<=140737488355328) <| .cv 0 [.ap 29 aD r3 ([0]:List Int)] <| .cv 5 [.rn 29 6] <| .lp 0 (fun (v4,v5)=>⟨[(1,.t (eL aD a1)),(6,.own 6),(31,.t (eL cD (a0.Aggs))),(32,tI (a0.Aggs.length:Int)),(33,tI v5)],[(6,.arr 3 1 (v4.length) (eF aD v4))]⟩) (fun b6=>⟨[(6,.own 6)],[(6,.arr 3 1 (b6.length) (eF aD b6))]⟩) 0 (r3++([0]:List Int),0) (Kk a0 a1) fun b6=>.cv 3 [.fr 6 (eL aD b6)] <| .ret 0 (b6,true))
def Ye(a0:aG)(a1:List Int):=(To a0 a1).den
theorem Mz(a0:aG)(a1:List Int):Con Tryz.prog 112 [.t (eH a0),.t (eL aD a1)] (Ye a0 a1) (fun y=>.tup [.t (eL aD (y.1)),tB y.2]):=con Tryz.func112 aX (To a0 a1)
def Mi(a0:List Int)(a1:List Int):((List Int)×Int)->TP (((List Int)×Int)⊕((List Int)⊕(List Int)))
 | (v1,v2)=>.ite 1 (decide (v2<a1.length)) (.grd 1 (0<=v2/\v2<a1.length) <| .grd 6 (0<=(a1.getD v2.toNat default)/\(a1.getD v2.toNat default)<a0.length) <| .bs 1 false aD [a0.getD (a1.getD v2.toNat default).toNat default] <| .grd 1 ((v1.length+[a0.getD (a1.getD v2.toNat default).toNat default].length)*8<=140737488355328) <| .cv 0 [.ap 20 aD v1 [a0.getD (a1.getD v2.toNat default).toNat default]] <| .cv 3 [.rn 20 5] <| .ret 0 (.inl (v1++[a0.getD (a1.getD v2.toNat default).toNat default],i64.wrap (v2+1)))) (.ret 0 (.inr (.inl v1)))
def Ug(a0:List Int)(a1:List Int):TP (List Int):=.cv 5 [.th 5 5 3 1 (eF aD ([]:List Int))] <| .lp 0 (fun (v1,v2)=>⟨[(0,.t (eL aD a0)),(5,.own 5),(8,.t (eL aD a1)),(9,tI (a1.length:Int)),(10,tI v2)],[(5,.arr 3 1 (v1.length) (eF aD v1))]⟩) (fun b3=>⟨[(5,.own 5)],[(5,.arr 3 1 (b3.length) (eF aD b3))]⟩) 0 (([]:List Int),0) (Mi a0 a1) fun b3=>.cv 2 [.fr 5 (eL aD b3)] <| .ret 0 b3
def Xs(a0:List Int)(a1:List Int):=(Ug a0 a1).den
theorem Bh(a0:List Int)(a1:List Int):Con Tryz.prog 114 [.t (eL aD a0),.t (eL aD a1)] (Xs a0 a1) (fun y=>.t (eL aD y)):=con Tryz.func114 aX (Ug a0 a1)
def Hh(a1:Int):TP (List Int):=.ite 3 (decide (a1<0)) (.no) (.jn 10 0 (fun j1=>⟨[(0,.own 0)],[(0,.arr 3 1 (j1.length) (eF aD j1))]⟩) (.ite 0 (decide ((i64.wrap (a1-0))>0)) (.gd 4 (0<=(0:Int)/\(0:Int)<=(0:Int)/\(0:Int)<=0) (by decide) <| .apz 1 aD 8 (i64.wrap (a1-0)) <| .cut 2 aD (List.replicate (i64.wrap (a1-0)).toNat (default:Int)) (0:Int) <| .cv 1 [.rn 25 0] <| .ret 0 ((List.replicate (i64.wrap (a1-0)).toNat (default:Int)).take (0:Int).toNat)) (.cv 0 [.th 0 0 3 1 (eF aD ([]:List Int))] <| .ret 0 ([]:List Int))) fun j1=>.cv 2 [.rn 0 40000] <| .ret 0 j1)
def Rg(a1:Int):=(Hh a1).den
theorem Dj(a1:Int):eA Tryz.prog 146 [.nil,tI a1] [] [] (Rg a1) (fun y=>.own 40000) (fun y=>[(40000,.arr 3 1 (y.length) (eF aD y))]):=fW Tryz.func146 aX (Hh a1)
def Nx(a0:List (List Int)):(Int×Int)->TP ((Int×Int)⊕((Int)⊕(List Int)))
 | (v1,v2)=>.ite 1 (decide (v2<a0.length)) (.grd 1 (0<=v2/\v2<a0.length) <| .ite 9 (decide ((i64.wrap (v1+((a0.getD v2.toNat default).length:Int)))<0)) (.no) (.ret 2 (.inl (i64.wrap (v1+((a0.getD v2.toNat default).length:Int)),i64.wrap (v2+1))))) (.ret 0 (.inr (.inl v1)))
def Oc(a0:List (List Int)):((List Int)×Int)->TP (((List Int)×Int)⊕((List Int)⊕(List Int)))
 | (v5,v6)=>.ite 1 (decide (v6<a0.length)) (.grd 1 (0<=v6/\v6<a0.length) <| .grd 5 ((v5.length+(a0.getD v6.toNat default).length)*8<=140737488355328) <| .cv 0 [.ap 33 aD v5 (a0.getD v6.toNat default)] <| .cv 3 [.rn 33 6] <| .ret 0 (.inl (v5++(a0.getD v6.toNat default),i64.wrap (v6+1)))) (.ret 0 (.inr (.inl v5)))
def Ub(a0:List (List Int)):TP (List Int):=.lp 5 (fun (v1,v2)=>⟨[(0,.t (eL bR a0)),(3,tI v1),(9,.t (eL bR a0)),(10,tI (a0.length:Int)),(11,tI v2)],[]⟩) (fun b3=>⟨[(0,.t (eL bR a0)),(3,tI b3)],[]⟩) 0 (0,0) (Nx a0) fun b3=>.ch 1 [40000] (Dj b3) fun r4=>.cv 0 [.rn 40000 24] <| .cv 4 [.rn 24 6] <| .lp 0 (fun (v5,v6)=>⟨[(6,.own 6),(25,.t (eL bR a0)),(26,tI (a0.length:Int)),(27,tI v6)],[(6,.arr 3 1 (v5.length) (eF aD v5))]⟩) (fun b7=>⟨[(6,.own 6)],[(6,.arr 3 1 (b7.length) (eF aD b7))]⟩) 2 (r4,0) (Oc a0) fun b7=>.cv 2 [.fr 6 (eL aD b7)] <| .ret 0 b7
def Yo(a0:List (List Int)):=(Ub a0).den
theorem Lg(a0:List (List Int)):Con Tryz.prog 115 [.t (eL bR a0)] (Yo a0) (fun y=>.t (eL aD y)):=con Tryz.func115 aX (Ub a0)
def Kl(a0:List aY):((List Int)×Int)->TP (((List Int)×Int)⊕((List Int)⊕(List Int)))
 | (v1,v2)=>.ite 1 (decide (v2<a0.length)) (.grd 1 (0<=v2/\v2<a0.length) <| .bs 6 false aD [(a0.getD v2.toNat default).Type_] <| .grd 1 ((v1.length+[(a0.getD v2.toNat default).Type_].length)*8<=140737488355328) <| .cv 0 [.ap 16 aD v1 [(a0.getD v2.toNat default).Type_]] <| .cv 3 [.rn 16 3] <| .ret 0 (.inl (v1++[(a0.getD v2.toNat default).Type_],i64.wrap (v2+1)))) (.ret 0 (.inr (.inl v1)))
def Ut(a0:List aY):TP (List Int):=.cv 5 [.th 3 3 3 1 (eF aD ([]:List Int))] <| .lp 0 (fun (v1,v2)=>⟨[(3,.own 3),(6,.t (eL bK a0)),(7,tI (a0.length:Int)),(8,tI v2)],[(3,.arr 3 1 (v1.length) (eF aD v1))]⟩) (fun b3=>⟨[(3,.own 3)],[(3,.arr 3 1 (b3.length) (eF aD b3))]⟩) 0 (([]:List Int),0) (Kl a0) fun b3=>.cv 2 [.fr 3 (eL aD b3)] <| .ret 0 b3
def Za(a0:List aY):=(Ut a0).den
theorem Bn(a0:List aY):Con Tryz.prog 31 [.t (eL bK a0)] (Za a0) (fun y=>.t (eL aD y)):=con Tryz.func31 aX (Ut a0)
def Nd(a0:List bF)(a1:aG)(a2:List (List Int)):((List Int)×Int)->TP (((List Int)×Int)⊕((List Int)⊕((List Int)×Bool)))
 | (v8,v9)=>.ite 1 (decide (v9<a1.Exprs.length)) (.grd 1 (0<=v9/\v9<a1.Exprs.length) <| .dg 2 (0<=(0:Int)/\(0:Int)<a2.length) <| .dc 5 [.t (eL bG a0),.t (eL aD (a2.getD (0:Int).toNat default)),.nil,.t (bP (a1.Exprs.getD v9.toNat default))] (zP a0 (a2.getD (0:Int).toNat default) ([]:List Int) (a1.Exprs.getD v9.toNat default)) fun r11=>.dr 3 0 [(8,false,[]),(10,false,[])] [0,2,8,10,64,65,66,67,68,69] <| .ite 2 (!r11.2) (.cv 2 [.sl 6 (eL aD ([]:List Int))] <| .ret 0 (.inr (.inr (([]:List Int),false)))) (.bs 2 false aD [r11.1] <| .grd 1 ((v8.length+[r11.1].length)*8<=140737488355328) <| .cv 0 [.ap 84 aD v8 [r11.1]] <| .cv 3 [.rn 84 8] <| .ret 0 (.inl (v8++[r11.1],i64.wrap (v9+1))))) (.ret 0 (.inr (.inl v8)))
def Lw(a0:List bF)(a1:aG)(a2:List (List Int)):Int->TP ((Int)⊕((Unit)⊕((List Int)×Bool)))
 | v26=>.ite 1 (decide (v26<a1.Seq.length)) (.grd 1 (0<=v26/\v26<a1.Seq.length) <| .jn 3 0 (fun j27=>⟨[(0,.t (eL bG a0)),(2,.t (eL bR a2)),(4,.ptr 4 0),(177,.t (eL cG (a1.Seq))),(178,tI (a1.Seq.length:Int)),(179,tI v26),(200,tB j27)],[(4,bN a1)]⟩) (.dl 3 (decide (((a1.Seq.getD v26.toNat default).Rep)<0)) (.dr 0 0 [(4,false,[]),(15,false,[])] [0,2,4,15,177,178,179,180,181,182] <| .ret 0 true) (.dl 8 (decide (((a1.Seq.getD v26.toNat default).Rep)>=3)) (.dr 0 0 [(4,false,[]),(15,false,[])] [0,2,4,15,177,178,179,180,181,182] <| .ret 0 true) (.dg 11 (0<=(0:Int)/\(0:Int)<a2.length) <| .dc 15 [.t (eL bG a0),.t (eL aD (a2.getD (0:Int).toNat default)),.t (bP ((a1.Seq.getD v26.toNat default).Pred))] (zR a0 (a2.getD (0:Int).toNat default) ((a1.Seq.getD v26.toNat default).Pred)) fun r28=>.dr 0 0 [(4,false,[]),(15,false,[])] [0,2,4,15,177,178,179,180,181,182] <| .ret 0 (!r28)))) fun j27=>.ite 0 j27 (.cv 2 [.sl 6 (eL aD ([]:List Int))] <| .ret 0 (.inr (.inr (([]:List Int),false)))) (.ret 2 (.inl (i64.wrap (v26+1))))) (.ret 0 (.inr (.inl ())))
def Wk(a0:List bF)(a1:aG)(a2:List (List Int)):TP ((List Int)×Bool):=.ite 7 (a1.Op==0) (.jn 0 0 (fun (j1,j2)=>⟨[(6,.t (eL aD j1)),(7,tB j2)],[]⟩) (.dc 2 [.t (eL bK (a1.Cols))] (Bn a1.Cols) fun r3=>.dc 5 [.t (.str (a1.Source))] (Bq a1.Source) fun r4=>.dl 6 r4 (.dl 11 (decide (a1.Schema>=1)) (.dl 16 (decide (a1.Schema<=50)) (.dc 19 [.t (eL bK (a1.Cols))] (Pf a1.Cols) fun r5=>.dr 0 0 [(4,false,[])] [0,1,2,4,16,17,18,19] <| .ret 0 (r3,r5)) (.dr 0 0 [(4,false,[])] [0,1,2,4,16,17,18,19] <| .ret 0 (r3,false))) (.dr 0 0 [(4,false,[])] [0,1,2,4,16,17,18,19] <| .ret 0 (r3,false))) (.dr 0 0 [(4,false,[])] [0,1,2,4,16,17,18,19] <| .ret 0 (r3,false))) fun (j1,j2)=>.ret 0 (j1,j2)) (.ite 2 (a1.Op==1) (.jn 0 0 (fun j6=>⟨[(6,.t (eL aD (a2.getD (0:Int).toNat default))),(7,tB j6)],[]⟩) (.dg 1 (0<=(0:Int)/\(0:Int)<a2.length) <| .dl 7 ((a1.Exprs.length:Int)==1) (.dg 10 (0<=(0:Int)/\(0:Int)<a2.length) <| .dg 14 (0<=(0:Int)/\(0:Int)<a1.Exprs.length) <| .dc 16 [.t (eL bG a0),.t (eL aD (a2.getD (0:Int).toNat default)),.t (bP (a1.Exprs.getD (0:Int).toNat default))] (zR a0 (a2.getD (0:Int).toNat default) (a1.Exprs.getD (0:Int).toNat default)) fun r7=>.dr 0 0 [(4,false,[])] [0,1,2,4,16,17,18,19,41,42] <| .ret 0 r7) (.dr 0 0 [(4,false,[])] [0,1,2,4,16,17,18,19,41,42] <| .ret 0 false)) fun j6=>.ret 0 (a2.getD (0:Int).toNat default,j6)) (.ite 2 (a1.Op==2) (.cv 5 [.th 8 8 3 1 (eF aD ([]:List Int))] <| .lp 0 (fun (v8,v9)=>⟨[(0,.t (eL bG a0)),(2,.t (eL bR a2)),(8,.own 8),(64,.t (.lz (.exprs (a1.Exprs)))),(65,tI (a1.Exprs.length:Int)),(66,tI v9)],[(8,.arr 3 1 (v8.length) (eF aD v8))]⟩) (fun b10=>⟨[(8,.own 8)],[(8,.arr 3 1 (b10.length) (eF aD b10))]⟩) 1 (([]:List Int),0) (Nd a0 a1 a2) fun b10=>.cv 3 [.fr 8 (eL aD b10)] <| .ret 0 (b10,true)) (.ite 2 (a1.Op==3) (.dg 1 (0<=(0:Int)/\(0:Int)<a2.length) <| .dg 4 (0<=(0:Int)/\(0:Int)<a2.length) <| .dg 7 (0<=(1:Int)/\(1:Int)<a2.length) <| .dc 9 [.t (eL aD (a2.getD (0:Int).toNat default)),.t (eL aD (a2.getD (1:Int).toNat default))] (iQ (a2.getD (0:Int).toNat default) (a2.getD (1:Int).toNat default)) fun r12=>.dr 0 0 [(4,false,[])] [0,1,2,4,16,17,18,19,41,42,61,62,87,88] <| .ret 0 (a2.getD (0:Int).toNat default,r12)) (.ite 2 (a1.Op==4) (.dg 2 (0<=(0:Int)/\(0:Int)<a2.length) <| .dc 4 [.t (eH a1),.t (eL aD (a2.getD (0:Int).toNat default))] (Mz a1 (a2.getD (0:Int).toNat default)) fun r13=>.dr 0 0 [(4,false,[])] [0,1,2,4,16,17,18,19,41,42,61,62,87,88,99,100] <| .ret 0 (r13.1,r13.2)) (.ite 2 (a1.Op==5) (.jn 0 0 (fun j14=>⟨[(6,.t (eL aD (a2.getD (0:Int).toNat default))),(7,tB j14)],[]⟩) (.dg 1 (0<=(0:Int)/\(0:Int)<a2.length) <| .dg 6 (0<=(0:Int)/\(0:Int)<a2.length) <| .dc 8 [.t (eL aD (a1.Key)),.t (eL aD (a2.getD (0:Int).toNat default))] (jQ a1.Key (a2.getD (0:Int).toNat default)) fun r15=>.dl 9 r15 (.dg 14 (0<=(0:Int)/\(0:Int)<a2.length) <| .dc 16 [.t (.sl 1 (eT [.int .i64 (a1.Step)] 1)),.t (eL aD (a2.getD (0:Int).toNat default))] (jQ [a1.Step] (a2.getD (0:Int).toNat default)) fun r16=>.dr 0 0 [(4,false,[])] [0,1,2,4,16,17,18,19,41,42,61,62,87,88,99,100,108,109] <| .ret 0 r16) (.dr 0 0 [(4,false,[])] [0,1,2,4,16,17,18,19,41,42,61,62,87,88,99,100,108,109] <| .ret 0 false)) fun j14=>.ret 0 (a2.getD (0:Int).toNat default,j14)) (.jn 2 0 (fun j17=>⟨[(0,.t (eL bG a0)),(2,.t (eL bR a2)),(4,.ptr 4 0),(128,tB j17)],[(4,bN a1)]⟩) (.ite 0 (a1.Op==6) (.ret 0 (a1.Op==6)) (.ret 2 (a1.Op==7))) fun j17=>.ite 0 j17 (.jn 0 0 (fun j18=>⟨[(2,.t (eL bR a2)),(13,tB j18)],[]⟩) (.dg 3 (0<=(0:Int)/\(0:Int)<a2.length) <| .dc 5 [.t (eL aD (a1.Key)),.t (eL aD (a2.getD (0:Int).toNat default))] (jQ a1.Key (a2.getD (0:Int).toNat default)) fun r19=>.dl 6 r19 (.dg 10 (0<=(1:Int)/\(1:Int)<a2.length) <| .dc 12 [.t (eL aD (a1.Key2)),.t (eL aD (a2.getD (1:Int).toNat default))] (jQ a1.Key2 (a2.getD (1:Int).toNat default)) fun r20=>.dl 14 r20 (.dg 16 (0<=(0:Int)/\(0:Int)<a2.length) <| .dc 20 [.t (eL aD (a2.getD (0:Int).toNat default)),.t (eL aD (a1.Key))] (Bh (a2.getD (0:Int).toNat default) a1.Key) fun r21=>.dg 22 (0<=(1:Int)/\(1:Int)<a2.length) <| .dc 26 [.t (eL aD (a2.getD (1:Int).toNat default)),.t (eL aD (a1.Key2))] (Bh (a2.getD (1:Int).toNat default) a1.Key2) fun r22=>.dc 27 [.t (eL aD r21),.t (eL aD r22)] (iQ r21 r22) fun r23=>.dr 0 0 [(4,false,[])] [0,2,4,128] <| .ret 0 r23) (.dr 0 0 [(4,false,[])] [0,2,4,128] <| .ret 0 false)) (.dr 0 0 [(4,false,[])] [0,2,4,128] <| .ret 0 false)) fun j18=>.dg 1 (0<=(0:Int)/\(0:Int)<a2.length) <| .dg 4 (0<=(1:Int)/\(1:Int)<a2.length) <| .dc 7 [.t (.sl 2 (eT [eL aD (a2.getD (0:Int).toNat default),eL aD (a2.getD (1:Int).toNat default)] 1))] (Lg ([a2.getD (0:Int).toNat default,a2.getD (1:Int).toNat default]:List (List Int))) fun r24=>.dr 0 0 [] [2,13] <| .ret 0 (r24,j18)) (.dg 3 (0<=(0:Int)/\(0:Int)<a2.length) <| .dc 5 [.t (eL aD (a1.Key)),.t (eL aD (a2.getD (0:Int).toNat default))] (jQ a1.Key (a2.getD (0:Int).toNat default)) fun r25=>.dr 0 0 [(4,false,[])] [0,2,4,128] <| .ite 0 (!r25) (.cv 2 [.sl 6 (eL aD ([]:List Int))] <| .ret 0 (([]:List Int),false)) (.lp 4 (fun v26=>⟨[(0,.t (eL bG a0)),(2,.t (eL bR a2)),(4,.ptr 4 0),(177,.t (eL cG (a1.Seq))),(178,tI (a1.Seq.length:Int)),(179,tI v26)],[(4,bN a1)]⟩) (fun _=>⟨[(2,.t (eL bR a2)),(4,.ptr 4 0)],[(4,bN a1)]⟩) 3 0 (Lw a0 a1 a2) fun _=>.dg 1 (0<=(0:Int)/\(0:Int)<a2.length) <| .dcn 5 207 [.t (eL aD (a2.getD (0:Int).toNat default)),.t (eL aD (a1.Key))] (tR (a2.getD (0:Int).toNat default) a1.Key) fun r29=>.dg 7 ((r29.length+2)*8<=140737488355328) <| .dr 0 0 [(207,true,[5,7]),(209,true,[7]),(4,false,[])] [2,4] <| .cv 0 [.apl 209 aD r29 ([0,0]:List Int)] <| .cv 0 [.fr 209 (eL aD (r29++([0,0]:List Int)))] <| .ret 0 (r29++([0,0]:List Int),true)))))))))
def Yb(a0:List bF)(a1:aG)(a2:List (List Int)):=(Wk a0 a1 a2).den
theorem Mq(a0:List bF)(a1:aG)(a2:List (List Int)):Con Tryz.prog 64 [.t (eL bG a0),.t (eH a1),.t (eL bR a2)] (Yb a0 a1 a2) (fun y=>.tup [.t (eL aD (y.1)),tB y.2]):=con Tryz.func64 aX (Wk a0 a1 a2)
def Ja(a0:Int)(a1:List Int)(qu0:aS):TP Bool:=.grd 5 (0<=a0/\a0<qu0.Nodes.length) <| .ca 2 (Bn ((qu0.Nodes.getD a0.toNat default).Cols)) fun r1=>.ca 1 (iQ r1 a1) fun r2=>.ret 1 r2
def Sx(a0:Int)(a1:List Int)(qu0:aS):=(Ja a0 a1 qu0).den
theorem Cg(a0:Int)(a1:List Int)(qu0:aS):eA Tryz.prog 29 [tI a0,.t (eL aD a1),.ptr 30000 0] [(30000,.box ((bE qu0).map .t))] [30000] (Sx a0 a1 qu0) tB (fun y=>[(30000,.box ((bE qu0).map .t))]):=fW Tryz.func29 aX (Ja a0 a1 qu0)
def Dq(a0:aS)(qu0:aS)(v4:Int):((List (List Int))×(List (List Int))×Int)->TP (((List (List Int))×(List (List Int))×Int)⊕(((List (List Int))×(List (List Int)))⊕(((List (List Int))×Int)⊕((Unit)⊕Bool))))
 | (v10,v11,v12)=>.ite 1 (decide (v12<(((a0.Nodes.getD v4.toNat default).In).length:Int))) (.grd 1 (0<=v12/\v12<(((a0.Nodes.getD v4.toNat default).In).length:Int)) <| .jn 5 0 (fun (j15,j16,j17)=>⟨[(1,.fn (.func 29) 0 [.ptr 30000 0]),(2,.ptr 2 0),(5,.own 5),(6,tI v4),(7,.ptr 7 0),(8,.own 8),(10,tI (((a0.Nodes.getD v4.toNat default).In).getD v12.toNat default)),(30,.t (eL aW (a0.Nodes))),(31,tI (a0.Nodes.length:Int)),(32,tI v4),(61,.t (eL aD ((a0.Nodes.getD v4.toNat default).In))),(62,tI (((a0.Nodes.getD v4.toNat default).In).length:Int)),(63,tI v12),(73,tB j17)],[(2,.box ((bE a0).map .t)),(5,.arr 34 1 (j15.length) (eF bR j15)),(7,bN (a0.Nodes.getD v4.toNat default)),(8,.arr 34 1 (j16.length) (eF bR j16)),(30000,.box ((bE qu0).map .t))]⟩) (.ite 0 (decide ((((a0.Nodes.getD v4.toNat default).In).getD v12.toNat default)<0)) (.ret 4 (v10,v11,true)) (.ret 4 (v10,v11,decide ((((a0.Nodes.getD v4.toNat default).In).getD v12.toNat default)>=v4)))) fun (j15,j16,j17)=>.ite 0 j17 (.ret 1 (.inr (.inr (.inr (.inr false))))) (.grd 4 (0<=(((a0.Nodes.getD v4.toNat default).In).getD v12.toNat default)/\(((a0.Nodes.getD v4.toNat default).In).getD v12.toNat default)<j15.length) <| .grd 1 ((((a0.Nodes.getD v4.toNat default).In).getD v12.toNat default).toNat<j15.length) <| .bs 0 false bR [j15.getD (((a0.Nodes.getD v4.toNat default).In).getD v12.toNat default).toNat default] <| .grd 1 ((j16.length+[j15.getD (((a0.Nodes.getD v4.toNat default).In).getD v12.toNat default).toNat default].length)*24<=140737488355328) <| .cv 0 [.ap 80 bR j16 [j15.getD (((a0.Nodes.getD v4.toNat default).In).getD v12.toNat default).toNat default]] <| .cv 3 [.rn 80 8] <| .ret 0 (.inl (j15,j16++[j15.getD (((a0.Nodes.getD v4.toNat default).In).getD v12.toNat default).toNat default],i64.wrap (v12+1))))) (.ret 0 (.inr (.inl (v10,v11))))
def Do(a0:aS)(qu0:aS):((List (List Int))×Int)->TP (((List (List Int))×Int)⊕((Unit)⊕Bool))
 | (v3,v4)=>.ite 1 (decide (v4<a0.Nodes.length)) (.grd 2 (0<=v4/\v4<a0.Nodes.length) <| .jn 4 0 (fun (j5,j6)=>⟨[(1,.fn (.func 29) 0 [.ptr 30000 0]),(2,.ptr 2 0),(5,.own 5),(6,tI v4),(7,.ptr 7 0),(30,.t (eL aW (a0.Nodes))),(31,tI (a0.Nodes.length:Int)),(32,tI v4),(59,tB j6)],[(2,.box ((bE a0).map .t)),(5,.arr 34 1 (j5.length) (eF bR j5)),(7,bN (a0.Nodes.getD v4.toNat default)),(30000,.box ((bE qu0).map .t))]⟩) (.dl 3 (decide (((a0.Nodes.getD v4.toNat default).Op)<0)) (.dr 0 0 [(2,false,[]),(5,false,[]),(7,false,[]),(30000,false,[])] [1,2,5,6,7,30,31,32,33,34,35,36] <| .ret 0 (v3,true)) (.dl 8 (decide (((a0.Nodes.getD v4.toNat default).Op)>=9)) (.dr 0 0 [(2,false,[]),(5,false,[]),(7,false,[]),(30000,false,[])] [1,2,5,6,7,30,31,32,33,34,35,36] <| .ret 0 (v3,true)) (.dc 14 [tI ((a0.Nodes.getD v4.toNat default).Op)] (Mf ((a0.Nodes.getD v4.toNat default).Op)) fun r7=>.dl 17 ((((a0.Nodes.getD v4.toNat default).In).length:Int) != r7) (.dr 0 0 [(2,false,[]),(5,false,[]),(7,false,[]),(30000,false,[])] [1,2,5,6,7,30,31,32,33,34,35,36] <| .ret 0 (v3,true)) (.dc 19 [.t (eH (a0.Nodes.getD v4.toNat default))] (Ke (a0.Nodes.getD v4.toNat default)) fun r8=>.dc 20 [.t (eH r8)] (Lm r8) fun r9=>.dr 0 0 [(2,false,[]),(5,false,[]),(7,false,[]),(30000,false,[])] [1,2,5,6,7,30,31,32,33,34,35,36] <| .ret 0 (v3,!r9))))) fun (j5,j6)=>.ite 0 j6 (.ret 1 (.inr (.inr false))) (.cv 5 [.th 8 8 34 1 (eF bR ([]:List (List Int)))] <| .lp 0 (fun (v10,v11,v12)=>⟨[(1,.fn (.func 29) 0 [.ptr 30000 0]),(2,.ptr 2 0),(5,.own 5),(6,tI v4),(7,.ptr 7 0),(8,.own 8),(30,.t (eL aW (a0.Nodes))),(31,tI (a0.Nodes.length:Int)),(32,tI v4),(61,.t (eL aD ((a0.Nodes.getD v4.toNat default).In))),(62,tI (((a0.Nodes.getD v4.toNat default).In).length:Int)),(63,tI v12)],[(2,.box ((bE a0).map .t)),(5,.arr 34 1 (v10.length) (eF bR v10)),(7,bN (a0.Nodes.getD v4.toNat default)),(8,.arr 34 1 (v11.length) (eF bR v11)),(30000,.box ((bE qu0).map .t))]⟩) (fun (b13,b14)=>⟨[(1,.fn (.func 29) 0 [.ptr 30000 0]),(2,.ptr 2 0),(5,.own 5),(6,tI v4),(7,.ptr 7 0),(8,.own 8),(30,.t (eL aW (a0.Nodes))),(31,tI (a0.Nodes.length:Int)),(32,tI v4)],[(2,.box ((bE a0).map .t)),(5,.arr 34 1 (b13.length) (eF bR b13)),(7,bN (a0.Nodes.getD v4.toNat default)),(8,.arr 34 1 (b14.length) (eF bR b14)),(30000,.box ((bE qu0).map .t))]⟩) 2 (j5,([]:List (List Int)),0) (Dq a0 qu0 v4) fun (b13,b14)=>.cv 4 [.fr 8 (eL bR b14)] <| .ca 0 (Mq a0.Funcs (a0.Nodes.getD v4.toNat default) b14) fun r18=>.jn 8 0 (fun (j19,j20)=>⟨[(1,.fn (.func 29) 0 [.ptr 30000 0]),(2,.ptr 2 0),(5,.own 5),(11,.t (eL aD (r18.1))),(30,.t (eL aW (a0.Nodes))),(31,tI (a0.Nodes.length:Int)),(32,tI v4),(108,tB j20)],[(2,.box ((bE a0).map .t)),(5,.arr 34 1 (j19.length) (eF bR j19)),(30000,.box ((bE qu0).map .t))]⟩) (.ite 0 (!r18.2) (.ret 16 (b13,true)) (.ite 5 (decide ((r18.1.length:Int)<1)) (.ret 11 (b13,true)) (.ite 5 (decide ((r18.1.length:Int)>12)) (.ret 6 (b13,true)) (.ch 3 [] (Cg v4 r18.1 qu0) fun r21=>.ret 2 (b13,!r21))))) fun (j19,j20)=>.ite 0 j20 (.ret 1 (.inr (.inr false))) (.bs 2 false bR [r18.1] <| .grd 1 ((j19.length+[r18.1].length)*24<=140737488355328) <| .cv 0 [.ap 112 bR j19 [r18.1]] <| .cv 3 [.rn 112 5] <| .ret 0 (.inl (j19++[r18.1],i64.wrap (v4+1)))))) (.ret 0 (.inr (.inl ())))
def Fh(a0:aS)(qu0:aS):TP Bool:=.jn 7 0 (fun j1=>⟨[(1,.fn (.func 29) 0 [.ptr 30000 0]),(2,.ptr 2 0),(28,tB j1)],[(2,.box ((bE a0).map .t)),(30000,.box ((bE qu0).map .t))]⟩) (.ite 0 (decide ((a0.Nodes.length:Int)<1)) (.ret 11 true) (.ite 6 (decide ((a0.Nodes.length:Int)>40)) (.ret 5 true) (.ca 2 (Bc a0.Funcs) fun r2=>.ret 2 (!r2)))) fun j1=>.ite 0 j1 (.ret 1 false) (.cv 5 [.th 5 5 34 1 (eF bR ([]:List (List Int)))] <| .lp 0 (fun (v3,v4)=>⟨[(1,.fn (.func 29) 0 [.ptr 30000 0]),(2,.ptr 2 0),(5,.own 5),(30,.t (eL aW (a0.Nodes))),(31,tI (a0.Nodes.length:Int)),(32,tI v4)],[(2,.box ((bE a0).map .t)),(5,.arr 34 1 (v3.length) (eF bR v3)),(30000,.box ((bE qu0).map .t))]⟩) (fun _=>⟨[],[(30000,.box ((bE qu0).map .t))]⟩) 0 (([]:List (List Int)),0) (Do a0 qu0) fun _=>.ret 1 true)
def Sr(a0:aS)(qu0:aS):=(Fh a0 qu0).den
theorem Bx(a0:aS)(qu0:aS):eA Tryz.prog 28 [.t (eV a0),.fn (.func 29) 0 [.ptr 30000 0]] [(30000,.box ((bE qu0).map .t))] [30000] (Sr a0 qu0) tB (fun y=>[(30000,.box ((bE qu0).map .t))]):=fW Tryz.func28 aX (Fh a0 qu0)
def Vd(a0:aS):TP Bool:=.cv 4 [.rn 1 30000] <| .ch 0 [] (Bx a0 a0) fun r1=>.ret 1 r1
def Qz(a0:aS):=(Vd a0).den
theorem Km(a0:aS):Con Tryz.prog 18 [.t (eV a0)] (Qz a0) tB:=con Tryz.func18 aX (Vd a0)
def Wu(a0:Bool):TP Unit:=.ite 2 (!a0) (.no) (.ret 0 ())
def Yq(a0:Bool):=(Wu a0).den
theorem eN(a0:Bool):Con Tryz.prog 42 [tB a0] (Yq a0) (fun y=>.tup []):=con Tryz.func42 aX (Wu a0)
def Rz(a0:List bF):TP (List bF):=.jn 2 0 (fun j1=>⟨[(0,.t (eL bG a0)),(4,tB j1)],[]⟩) (.ndb 0 a0.length (.ret 0 true) (.ret 0 false)) fun j1=>.ite 0 j1 (.cv 1 [.sl 2 (eL bG ([]:List bF))] <| .ret 0 ([]:List bF)) (.bs 0 true bG ([]:List bF) <| .grd 2 ((([]:List bF).length+a0.length)*104<=140737488355328) <| .cv 0 [.ap 7 bG ([]:List bF) a0] <| .cv 1 [.fr 7 (eL bG (([]:List bF)++a0))] <| .ret 0 (([]:List bF)++a0))
def Mk(a0:List bF):Option (List bF):=Det (Rz a0)
theorem Ku(a0:List bF):Con Tryz.prog 43 [.t (eL bG a0)] (Mk a0) (fun y=>.t (eL bG y)):=Xx Tryz.func43 aX (Rz a0)
def Wf(a0:aG)(a1:List Int):TP aG:=.ret 7 (aG.mk a0.Op a1 a0.Source a0.Schema a0.Exprs a0.Kind a0.Size a0.Step a0.Key a0.Key2 a0.Before a0.After a0.Keep a0.Aggs a0.Seq a0.Cols)
def Yc(a0:aG)(a1:List Int):=(Wf a0 a1).den
theorem Lp(a0:aG)(a1:List Int):Con Tryz.prog 66 [.t (eH a0),.t (eL aD a1)] (Yc a0 a1) (fun y=>.t (eH y)):=con Tryz.func66 aX (Wf a0 a1)
def Js(a1:aG)(a2:Int)(qu0:fM):TP aG:=.dg 8 (0<=a2/\a2<a1.In.length) <| .dg 10 (0<=(a1.In.getD a2.toNat default)/\(a1.In.getD a2.toNat default)<qu0.p_.Nodes.length) <| .dr 2 0 [(4,false,[]),(6,false,[12]),(30000,false,[])] [0,1,2,4,6] <| .ret 0 (qu0.p_.Nodes.getD (a1.In.getD a2.toNat default).toNat default)
def Re(a1:aG)(a2:Int)(qu0:fM):=(Js a1 a2 qu0).den
theorem Eg(a1:aG)(a2:Int)(qu0:fM):eA Tryz.prog 78 [.ptr 30000 0,.t (eH a1),tI a2] [(30000,.box ((dX qu0).map .t))] [30000] (Re a1 a2 qu0) (fun y=>.t (eH y)) (fun y=>[(30000,.box ((dX qu0).map .t))]):=fW Tryz.func78 aX (Js a1 a2 qu0)
def Hx(qu0:fM):TP (aG×aM):=.ca 8 (eN (qu0.node_.Op==1)) fun r1=>.dch 5 [.ptr 30000 0,.t (eH qu0.node_),tI 0] (Eg qu0.node_ 0 qu0) (fun _=>none) fun r2=>.dg 11 (0<=(0:Int)/\(0:Int)<qu0.node_.Exprs.length) <| .dr 0 0 [(2,false,[13]),(3,false,[14]),(30000,false,[])] [0,2,3,4,5,6,7,8,9,10] <| .ret 0 (r2,qu0.node_.Exprs.getD (0:Int).toNat default)
def Qq(qu0:fM):=(Hx qu0).den
theorem Eu(qu0:fM):eA Tryz.prog 65 [.ptr 30000 0] [(30000,.box ((dX qu0).map .t))] [30000] (Qq qu0) (fun y=>.tup [.t (eH y.1),.t (bP y.2)]) (fun y=>[(30000,.box ((dX qu0).map .t))]):=fW Tryz.func65 aX (Hx qu0)
abbrev Si:={f:aM->Option Int // ∀ a:aM,Con Tryz.prog 116 [.t (bP a)] (f a) tI}
def Oy(rec:Si)(a0:aM):(Int×Int)->TP ((Int×Int)⊕((Int)⊕Int))
 | (v1,v2)=>.ite 1 (decide (v2<a0.Args.length)) (.grd 1 (0<=v2/\v2<a0.Args.length) <| .ca 5 (rec.2 (a0.Args.getD v2.toNat default)) fun r4=>.ret 4 (.inl (if r4>v1 then r4 else v1,i64.wrap (v2+1)))) (.ret 0 (.inr (.inl v1)))
def Tg(rec:Si)(a0:aM):TP Int:=.lp 7 (fun (v1,v2)=>⟨[(3,tI v1),(7,.t (.lz (.exprs (a0.Args)))),(8,tI (a0.Args.length:Int)),(9,tI v2)],[]⟩) (fun b3=>⟨[(3,tI b3)],[]⟩) 0 (0,0) (Oy rec a0) fun b3=>.ret 3 (i64.wrap (b3+1))
theorem Of(rec:Si)(a0:aM):Con Tryz.prog 116 [.t (bP a0)] (Tg rec a0).den tI:=con Tryz.func116 aX (Tg rec a0)
def Vb(a:aM):Option Int:=zD (C:=fun (a:aM) (x:Option Int)=>Con Tryz.prog 116 [.t (bP a)] x tI) (fun a=>⟨bH Tryz.func116 (by kernel_rfl),fun _ h=>nomatch h⟩) (fun rec a=>Tg rec a) (fun rec a=>Of rec a) a
theorem Nr(a:aM):Con Tryz.prog 116 [.t (bP a)] (Vb a) tI:=nH (C:=fun (a:aM) (x:Option Int)=>Con Tryz.prog 116 [.t (bP a)] x tI) _ _ _ a
def Xv(a0:aM):Option Int:=Vb a0
theorem No(a0:aM):Con Tryz.prog 116 [.t (bP a0)] (Xv a0) tI:=Nr a0
def Xd(a0:Int)(a1:Int):TP Int:=.ret 6 (if (1099511627776:Int)<(i64.wrap (a0+a1)) then (1099511627776:Int) else (i64.wrap (a0+a1)))
def Ze(a0:Int)(a1:Int):=(Xd a0 a1).den
theorem uG(a0:Int)(a1:Int):Con Tryz.prog 166 [tI a0,tI a1] (Ze a0 a1) tI:=con Tryz.func166 aX (Xd a0 a1)
abbrev Tf:={f:((List Int)×aM)->Option Int // ∀ a:(List Int)×aM,Con Tryz.prog 147 [.t (eL aD (a.1)),.t (bP a.2)] (f a) tI}
def Ml(rec:Tf)(a0:List Int)(a1:aM):((List Int)×Int)->TP (((List Int)×Int)⊕((List Int)⊕Int))
 | (v1,v2)=>.ite 1 (decide (v2<a1.Args.length)) (.grd 1 (0<=v2/\v2<a1.Args.length) <| .ca 6 (rec.2 (a0,a1.Args.getD v2.toNat default)) fun r4=>.bs 0 false aD [r4] <| .grd 1 ((v1.length+[r4].length)*8<=140737488355328) <| .cv 0 [.ap 23 aD v1 [r4]] <| .cv 3 [.rn 23 5] <| .ret 0 (.inl (v1++[r4],i64.wrap (v2+1)))) (.ret 0 (.inr (.inl v1)))
def Lb(j6:List Int):(Int×(List Int)×Int)->TP ((Int×(List Int)×Int)⊕((Int)⊕Int))
 | (v9,v10,v11)=>.ite 1 (decide (v11<j6.length)) (.grd 1 (0<=v11/\v11<v10.length) <| .grd 1 ((v11).toNat<v10.length) <| .ca 3 (uG v9 (v10.getD v11.toNat default)) fun r13=>.ret 3 (.inl (r13,v10,i64.wrap (v11+1)))) (.ret 0 (.inr (.inl v9)))
def Sj(rec:Tf)(a0:List Int)(a1:aM):TP Int:=.cv 7 [.th 5 5 3 1 (eF aD ([]:List Int))] <| .lp 0 (fun (v1,v2)=>⟨[(0,.t (eL aD a0)),(3,.ptr 3 0),(5,.own 5),(12,.t (.lz (.exprs (a1.Args)))),(13,tI (a1.Args.length:Int)),(14,tI v2)],[(3,.box ((bQ a1).map .t)),(5,.arr 3 1 (v1.length) (eF aD v1))]⟩) (fun b3=>⟨[(0,.t (eL aD a0)),(3,.ptr 3 0),(5,.own 5)],[(3,.box ((bQ a1).map .t)),(5,.arr 3 1 (b3.length) (eF aD b3))]⟩) 0 (([]:List Int),0) (Ml rec a0 a1) fun b3=>.ite 3 (a1.Op==21) (.dg 1 (0<=(0:Int)/\(0:Int)<b3.length) <| .dg 2 ((0:Int).toNat<b3.length) <| .dg 5 (0<=(1:Int)/\(1:Int)<b3.length) <| .dg 6 ((1:Int).toNat<b3.length) <| .dg 8 (0<=(2:Int)/\(2:Int)<b3.length) <| .dg 9 ((2:Int).toNat<b3.length) <| .dc 11 [tI (i64.wrap (1+(b3.getD (0:Int).toNat default))),tI (if (b3.getD (2:Int).toNat default)>(b3.getD (1:Int).toNat default) then (b3.getD (2:Int).toNat default) else (b3.getD (1:Int).toNat default))] (uG (i64.wrap (1+(b3.getD (0:Int).toNat default))) (if (b3.getD (2:Int).toNat default)>(b3.getD (1:Int).toNat default) then (b3.getD (2:Int).toNat default) else (b3.getD (1:Int).toNat default))) fun r5=>.dr 0 0 [(3,false,[]),(5,false,[])] [0,3,5,25,26,27] <| .ret 0 r5) (.jn 4 0 (fun (j6,j7)=>⟨[(5,.own 5),(8,tI j7)],[(5,.arr 3 1 (j6.length) (eF aD j6))]⟩) (.ite 0 (a1.Op==22) (.grd 5 (0<=a1.N/\a1.N<a0.length) <| .ca 1 (uG 1 (a0.getD (a1.N).toNat default)) fun r8=>.ret 1 (b3,r8)) (.ret 0 (b3,1))) fun (j6,j7)=>.cv 3 [.rn 5 50] <| .lp 0 (fun (v9,v10,v11)=>⟨[(8,tI v9),(50,.own 50),(51,tI (j6.length:Int)),(52,tI v11)],[(50,.arr 3 1 (v10.length) (eF aD v10))]⟩) (fun b12=>⟨[(8,tI b12)],[]⟩) 2 (j7,j6,0) (Lb j6) fun b12=>.ret 2 b12)
theorem Mr(rec:Tf)(a0:List Int)(a1:aM):Con Tryz.prog 147 [.t (eL aD a0),.t (bP a1)] (Sj rec a0 a1).den tI:=con Tryz.func147 aX (Sj rec a0 a1)
def Wa(a:(List Int)×aM):Option Int:=zD (C:=fun (a:(List Int)×aM) (x:Option Int)=>Con Tryz.prog 147 [.t (eL aD (a.1)),.t (bP a.2)] x tI) (fun a=>⟨bH Tryz.func147 (by kernel_rfl),fun _ h=>nomatch h⟩) (fun rec a=>Sj rec a.1 a.2) (fun rec a=>Mr rec a.1 a.2) a
theorem Ka(a:(List Int)×aM):Con Tryz.prog 147 [.t (eL aD (a.1)),.t (bP a.2)] (Wa a) tI:=nH (C:=fun (a:(List Int)×aM) (x:Option Int)=>Con Tryz.prog 147 [.t (eL aD (a.1)),.t (bP a.2)] x tI) _ _ _ a
def Xj(a0:List Int)(a1:aM):Option Int:=Wa (a0,a1)
theorem Bg(a0:List Int)(a1:aM):Con Tryz.prog 147 [.t (eL aD a0),.t (bP a1)] (Xj a0 a1) tI:=Ka (a0,a1)
def Mv(a0:List bF):((List Int)×Int)->TP (((List Int)×Int)⊕((List Int)⊕Int))
 | (v1,v2)=>.ite 1 (decide (v2<a0.length)) (.grd 1 (0<=v2/\v2<a0.length) <| .ca 7 (Bg v1 ((a0.getD v2.toNat default).Body)) fun r4=>.bs 0 false aD [r4] <| .grd 1 ((v1.length+[r4].length)*8<=140737488355328) <| .cv 0 [.ap 20 aD v1 [r4]] <| .cv 3 [.rn 20 5] <| .ret 0 (.inl (v1++[r4],i64.wrap (v2+1)))) (.ret 0 (.inr (.inl v1)))
def Wv(a0:List bF)(a1:aM):TP Int:=.cv 6 [.th 5 5 3 1 (eF aD ([]:List Int))] <| .lp 0 (fun (v1,v2)=>⟨[(3,.ptr 3 0),(5,.own 5),(8,.t (eL bG a0)),(9,tI (a0.length:Int)),(10,tI v2)],[(3,.box ((bQ a1).map .t)),(5,.arr 3 1 (v1.length) (eF aD v1))]⟩) (fun b3=>⟨[(3,.ptr 3 0),(5,.own 5)],[(3,.box ((bQ a1).map .t)),(5,.arr 3 1 (b3.length) (eF aD b3))]⟩) 0 (([]:List Int),0) (Mv a0) fun b3=>.ca 2 (Bg b3 a1) fun r5=>.ret 1 r5
def Yv(a0:List bF)(a1:aM):=(Wv a0 a1).den
theorem Mp(a0:List bF)(a1:aM):Con Tryz.prog 117 [.t (eL bG a0),.t (bP a1)] (Yv a0 a1) tI:=con Tryz.func117 aX (Wv a0 a1)
def Hw(a1:Int):TP (List aG):=.ite 3 (decide (a1<0)) (.no) (.jn 10 0 (fun j1=>⟨[(0,.own 0)],[(0,.arr 39 16 (j1.length) (eF aW j1))]⟩) (.ite 0 (decide ((i64.wrap (a1-0))>0)) (.gd 4 (0<=(0:Int)/\(0:Int)<=(0:Int)/\(0:Int)<=0) (by decide) <| .apz 1 aW 248 (i64.wrap (a1-0)) <| .cut 2 aW (List.replicate (i64.wrap (a1-0)).toNat (default:aG)) (0:Int) <| .cv 1 [.rn 25 0] <| .ret 0 ((List.replicate (i64.wrap (a1-0)).toNat (default:aG)).take (0:Int).toNat)) (.cv 0 [.th 0 0 39 16 (eF aW ([]:List aG))] <| .ret 0 ([]:List aG))) fun j1=>.cv 2 [.rn 0 40000] <| .ret 0 j1)
def Tj(a1:Int):=(Hw a1).den
theorem Bu(a1:Int):eA Tryz.prog 148 [.nil,tI a1] [] [] (Tj a1) (fun y=>.own 40000) (fun y=>[(40000,.arr 39 16 (y.length) (eF aW y))]):=fW Tryz.func148 aX (Hw a1)
def Ee(a0:List (List aG)):(Int×Int)->TP ((Int×Int)⊕((Int)⊕(List aG)))
 | (v1,v2)=>.ite 1 (decide (v2<a0.length)) (.grd 1 (0<=v2/\v2<a0.length) <| .ite 9 (decide ((i64.wrap (v1+((a0.getD v2.toNat default).length:Int)))<0)) (.no) (.ret 2 (.inl (i64.wrap (v1+((a0.getD v2.toNat default).length:Int)),i64.wrap (v2+1))))) (.ret 0 (.inr (.inl v1)))
def Bv(a0:List (List aG)):((List aG)×Int)->TP (((List aG)×Int)⊕((List aG)⊕(List aG)))
 | (v5,v6)=>.ite 1 (decide (v6<a0.length)) (.grd 1 (0<=v6/\v6<a0.length) <| .grd 5 ((v5.length+(a0.getD v6.toNat default).length)*248<=140737488355328) <| .cv 0 [.ap 33 aW v5 (a0.getD v6.toNat default)] <| .cv 3 [.rn 33 6] <| .ret 0 (.inl (v5++(a0.getD v6.toNat default),i64.wrap (v6+1)))) (.ret 0 (.inr (.inl v5)))
def Gb(a0:List (List aG)):TP (List aG):=.lp 5 (fun (v1,v2)=>⟨[(0,.t (eL fS a0)),(3,tI v1),(9,.t (eL fS a0)),(10,tI (a0.length:Int)),(11,tI v2)],[]⟩) (fun b3=>⟨[(0,.t (eL fS a0)),(3,tI b3)],[]⟩) 0 (0,0) (Ee a0) fun b3=>.ch 1 [40000] (Bu b3) fun r4=>.cv 0 [.rn 40000 24] <| .cv 4 [.rn 24 6] <| .lp 0 (fun (v5,v6)=>⟨[(6,.own 6),(25,.t (eL fS a0)),(26,tI (a0.length:Int)),(27,tI v6)],[(6,.arr 39 16 (v5.length) (eF aW v5))]⟩) (fun b7=>⟨[(6,.own 6)],[(6,.arr 39 16 (b7.length) (eF aW b7))]⟩) 2 (r4,0) (Bv a0) fun b7=>.cv 2 [.rn 6 40000] <| .ret 0 b7
def Sl(a0:List (List aG)):=(Gb a0).den
theorem Es(a0:List (List aG)):eA Tryz.prog 118 [.t (eL fS a0)] [] [] (Sl a0) (fun y=>.own 40000) (fun y=>[(40000,.arr 39 16 (y.length) (eF aW y))]):=fW Tryz.func118 aX (Gb a0)
def Pm(a0:List Int):TP (List Int):=.jn 2 0 (fun j1=>⟨[(0,.t (eL aD a0)),(4,tB j1)],[]⟩) (.ndb 0 a0.length (.ret 0 true) (.ret 0 false)) fun j1=>.ite 0 j1 (.cv 1 [.th 2 40000 3 1 (eF aD ([]:List Int))] <| .ret 0 ([]:List Int)) (.bs 0 true aD ([]:List Int) <| .grd 2 ((([]:List Int).length+a0.length)*8<=140737488355328) <| .cv 0 [.ap 7 aD ([]:List Int) a0] <| .cv 1 [.rn 7 40000] <| .ret 0 (([]:List Int)++a0))
def Uh(a0:List Int):Option (List Int):=Det (Pm a0)
theorem Ir(a0:List Int):eA Tryz.prog 81 [.t (eL aD a0)] [] [] (Uh a0) (fun y=>.own 40000) (fun y=>[(40000,.arr 3 1 (y.length) (eF aD y))]):=Up Tryz.func81 aX (Pm a0)
def En(a1:List aG)(qu0:fM)(v1:Int):Int->TP ((Int)⊕((Unit)⊕((Int)⊕((Unit)⊕(List aG)))))
 | v2=>.ite 1 (decide (v2<(((a1.getD v1.toNat default).Exprs).length:Int))) (.grd 1 (0<=v2/\v2<(((a1.getD v1.toNat default).Exprs).length:Int)) <| .jn 3 0 (fun _=>⟨[(0,.ptr 30000 0),(1,.t (eL aW a1)),(13,.t (eL aW a1)),(14,tI (a1.length:Int)),(15,tI v1),(20,.t (.lz (.exprs ((a1.getD v1.toNat default).Exprs)))),(21,tI (((a1.getD v1.toNat default).Exprs).length:Int)),(22,tI v2)],[(30000,.box ((dX qu0).map .t))]⟩) (.dc 1 [.t (bP (((a1.getD v1.toNat default).Exprs).getD v2.toNat default))] (No (((a1.getD v1.toNat default).Exprs).getD v2.toNat default)) fun r3=>.dl 3 (decide (r3<=12)) (.dc 10 [.t (eL bG (qu0.p_.Funcs)),.t (bP (((a1.getD v1.toNat default).Exprs).getD v2.toNat default))] (Mp qu0.p_.Funcs (((a1.getD v1.toNat default).Exprs).getD v2.toNat default)) fun r4=>.dc 13 [tB (decide (r4<=10000))] (eN (decide (r4<=10000))) fun r5=>.dr 0 0 [(8,false,[]),(30000,false,[])] [0,1,8,13,14,15,20,21,22,23,24,25] <| .ret 0 ()) (.dc 13 [tB false] (eN false) fun r6=>.dr 0 0 [(8,false,[]),(30000,false,[])] [0,1,8,13,14,15,20,21,22,23,24,25] <| .ret 0 ())) fun _=>.ret 2 (.inl (i64.wrap (v2+1)))) (.ret 0 (.inr (.inl ())))
def Dx(a1:List aG)(qu0:fM):Int->TP ((Int)⊕((Unit)⊕(List aG)))
 | v1=>.ite 1 (decide (v1<a1.length)) (.grd 1 (0<=v1/\v1<a1.length) <| .lp 7 (fun v2=>⟨[(0,.ptr 30000 0),(1,.t (eL aW a1)),(13,.t (eL aW a1)),(14,tI (a1.length:Int)),(15,tI v1),(20,.t (.lz (.exprs ((a1.getD v1.toNat default).Exprs)))),(21,tI (((a1.getD v1.toNat default).Exprs).length:Int)),(22,tI v2)],[(30000,.box ((dX qu0).map .t))]⟩) (fun _=>⟨[(0,.ptr 30000 0),(1,.t (eL aW a1)),(13,.t (eL aW a1)),(14,tI (a1.length:Int)),(15,tI v1)],[(30000,.box ((dX qu0).map .t))]⟩) 2 0 (En a1 qu0 v1) fun _=>.ret 2 (.inl (i64.wrap (v1+1)))) (.ret 0 (.inr (.inl ())))
def Er(a1:List aG)(qu0:fM)(v9:Int)(r11:(List Int)):((List Int)×(List aG)×Int)->TP (((List Int)×(List aG)×Int)⊕(((List Int)×(List aG))⊕(((List aG)×Int)⊕((List aG)⊕(List aG)))))
 | (v12,v13,v14)=>.ite 1 (decide (v14<r11.length)) (.dg 3 (0<=v14/\v14<v12.length) <| .dg 4 ((v14).toNat<v12.length) <| .dr 2 0 [(9,false,[]),(11,false,[]),(11101,false,[]),(30000,false,[])] [0,1,9,11,12,65,66,67,77,78,79,80] <| .jn 0 0 (fun (j17,j18)=>⟨[(0,.ptr 30000 0),(1,.t (eL aW a1)),(9,.own 9),(11,.ptr 11 0),(65,.t (eL aW ((qu0.p_.Nodes.drop (i64.wrap (qu0.k_+1):Int).toNat).take ((qu0.p_.Nodes.length:Int)-(i64.wrap (qu0.k_+1):Int)).toNat))),(66,tI (((qu0.p_.Nodes.length:Int)-(i64.wrap (qu0.k_+1):Int)).toNat:Int)),(67,tI v9),(77,tI (r11.length:Int)),(78,tI v14)],[(9,.arr 39 16 (j18.length) (eF aW j18)),(11,.box [tI ((((qu0.p_.Nodes.drop (i64.wrap (qu0.k_+1):Int).toNat).take ((qu0.p_.Nodes.length:Int)-(i64.wrap (qu0.k_+1):Int)).toNat).getD v9.toNat default).Op),.own 11101,.t (.str ((((qu0.p_.Nodes.drop (i64.wrap (qu0.k_+1):Int).toNat).take ((qu0.p_.Nodes.length:Int)-(i64.wrap (qu0.k_+1):Int)).toNat).getD v9.toNat default).Source)),tI ((((qu0.p_.Nodes.drop (i64.wrap (qu0.k_+1):Int).toNat).take ((qu0.p_.Nodes.length:Int)-(i64.wrap (qu0.k_+1):Int)).toNat).getD v9.toNat default).Schema),.t (.lz (.exprs ((((qu0.p_.Nodes.drop (i64.wrap (qu0.k_+1):Int).toNat).take ((qu0.p_.Nodes.length:Int)-(i64.wrap (qu0.k_+1):Int)).toNat).getD v9.toNat default).Exprs))),tI ((((qu0.p_.Nodes.drop (i64.wrap (qu0.k_+1):Int).toNat).take ((qu0.p_.Nodes.length:Int)-(i64.wrap (qu0.k_+1):Int)).toNat).getD v9.toNat default).Kind),tI ((((qu0.p_.Nodes.drop (i64.wrap (qu0.k_+1):Int).toNat).take ((qu0.p_.Nodes.length:Int)-(i64.wrap (qu0.k_+1):Int)).toNat).getD v9.toNat default).Size),tI ((((qu0.p_.Nodes.drop (i64.wrap (qu0.k_+1):Int).toNat).take ((qu0.p_.Nodes.length:Int)-(i64.wrap (qu0.k_+1):Int)).toNat).getD v9.toNat default).Step),.t (eL aD ((((qu0.p_.Nodes.drop (i64.wrap (qu0.k_+1):Int).toNat).take ((qu0.p_.Nodes.length:Int)-(i64.wrap (qu0.k_+1):Int)).toNat).getD v9.toNat default).Key)),.t (eL aD ((((qu0.p_.Nodes.drop (i64.wrap (qu0.k_+1):Int).toNat).take ((qu0.p_.Nodes.length:Int)-(i64.wrap (qu0.k_+1):Int)).toNat).getD v9.toNat default).Key2)),tI ((((qu0.p_.Nodes.drop (i64.wrap (qu0.k_+1):Int).toNat).take ((qu0.p_.Nodes.length:Int)-(i64.wrap (qu0.k_+1):Int)).toNat).getD v9.toNat default).Before),tI ((((qu0.p_.Nodes.drop (i64.wrap (qu0.k_+1):Int).toNat).take ((qu0.p_.Nodes.length:Int)-(i64.wrap (qu0.k_+1):Int)).toNat).getD v9.toNat default).After),tI ((((qu0.p_.Nodes.drop (i64.wrap (qu0.k_+1):Int).toNat).take ((qu0.p_.Nodes.length:Int)-(i64.wrap (qu0.k_+1):Int)).toNat).getD v9.toNat default).Keep),.t (eL cD ((((qu0.p_.Nodes.drop (i64.wrap (qu0.k_+1):Int).toNat).take ((qu0.p_.Nodes.length:Int)-(i64.wrap (qu0.k_+1):Int)).toNat).getD v9.toNat default).Aggs)),.t (eL cG ((((qu0.p_.Nodes.drop (i64.wrap (qu0.k_+1):Int).toNat).take ((qu0.p_.Nodes.length:Int)-(i64.wrap (qu0.k_+1):Int)).toNat).getD v9.toNat default).Seq)),.t (eL bK ((((qu0.p_.Nodes.drop (i64.wrap (qu0.k_+1):Int).toNat).take ((qu0.p_.Nodes.length:Int)-(i64.wrap (qu0.k_+1):Int)).toNat).getD v9.toNat default).Cols))]),(11101,.arr 3 1 (j17.length) (eF aD j17)),(30000,.box ((dX qu0).map .t))]⟩) (.ite 0 (decide ((v12.getD v14.toNat default)>=qu0.k_)) (.grd 4 (0<=v14/\v14<v12.length) <| .grd 1 ((v14).toNat<v12.length) <| .grd 5 (0<=v14/\v14<v12.length) <| .grd 1 ((v14).toNat<v12.length) <| .sto 0 11101 aD v12 [((v14).toNat,i64.wrap ((v12.getD v14.toNat default)+(i64.wrap ((a1.length:Int)-1))))] <| .ret 0 (v12.set v14.toNat (i64.wrap ((v12.getD v14.toNat default)+(i64.wrap ((a1.length:Int)-1)))),v13)) (.ret 0 (v12,v13))) fun (j17,j18)=>.ret 2 (.inl (j17,j18,i64.wrap (v14+1)))) (.ret 0 (.inr (.inl (v12,v13))))
def Du(a1:List aG)(qu0:fM):((List aG)×Int)->TP (((List aG)×Int)⊕((List aG)⊕(List aG)))
 | (v8,v9)=>.ite 1 (decide (v9<(((qu0.p_.Nodes.length:Int)-(i64.wrap (qu0.k_+1):Int)).toNat:Int))) (.grd 1 (0<=v9/\v9<(((qu0.p_.Nodes.drop (i64.wrap (qu0.k_+1):Int).toNat).take ((qu0.p_.Nodes.length:Int)-(i64.wrap (qu0.k_+1):Int)).toNat).length:Int)) <| .ch 5 [40000] (Ir ((((qu0.p_.Nodes.drop (i64.wrap (qu0.k_+1):Int).toNat).take ((qu0.p_.Nodes.length:Int)-(i64.wrap (qu0.k_+1):Int)).toNat).getD v9.toNat default).In)) fun r11=>.cv 0 [.rn 40000 73] <| .cv 6 [.rn 73 11101] <| .lp 0 (fun (v12,v13,v14)=>⟨[(0,.ptr 30000 0),(1,.t (eL aW a1)),(9,.own 9),(11,.ptr 11 0),(65,.t (eL aW ((qu0.p_.Nodes.drop (i64.wrap (qu0.k_+1):Int).toNat).take ((qu0.p_.Nodes.length:Int)-(i64.wrap (qu0.k_+1):Int)).toNat))),(66,tI (((qu0.p_.Nodes.length:Int)-(i64.wrap (qu0.k_+1):Int)).toNat:Int)),(67,tI v9),(77,tI (r11.length:Int)),(78,tI v14)],[(9,.arr 39 16 (v13.length) (eF aW v13)),(11,.box [tI ((((qu0.p_.Nodes.drop (i64.wrap (qu0.k_+1):Int).toNat).take ((qu0.p_.Nodes.length:Int)-(i64.wrap (qu0.k_+1):Int)).toNat).getD v9.toNat default).Op),.own 11101,.t (.str ((((qu0.p_.Nodes.drop (i64.wrap (qu0.k_+1):Int).toNat).take ((qu0.p_.Nodes.length:Int)-(i64.wrap (qu0.k_+1):Int)).toNat).getD v9.toNat default).Source)),tI ((((qu0.p_.Nodes.drop (i64.wrap (qu0.k_+1):Int).toNat).take ((qu0.p_.Nodes.length:Int)-(i64.wrap (qu0.k_+1):Int)).toNat).getD v9.toNat default).Schema),.t (.lz (.exprs ((((qu0.p_.Nodes.drop (i64.wrap (qu0.k_+1):Int).toNat).take ((qu0.p_.Nodes.length:Int)-(i64.wrap (qu0.k_+1):Int)).toNat).getD v9.toNat default).Exprs))),tI ((((qu0.p_.Nodes.drop (i64.wrap (qu0.k_+1):Int).toNat).take ((qu0.p_.Nodes.length:Int)-(i64.wrap (qu0.k_+1):Int)).toNat).getD v9.toNat default).Kind),tI ((((qu0.p_.Nodes.drop (i64.wrap (qu0.k_+1):Int).toNat).take ((qu0.p_.Nodes.length:Int)-(i64.wrap (qu0.k_+1):Int)).toNat).getD v9.toNat default).Size),tI ((((qu0.p_.Nodes.drop (i64.wrap (qu0.k_+1):Int).toNat).take ((qu0.p_.Nodes.length:Int)-(i64.wrap (qu0.k_+1):Int)).toNat).getD v9.toNat default).Step),.t (eL aD ((((qu0.p_.Nodes.drop (i64.wrap (qu0.k_+1):Int).toNat).take ((qu0.p_.Nodes.length:Int)-(i64.wrap (qu0.k_+1):Int)).toNat).getD v9.toNat default).Key)),.t (eL aD ((((qu0.p_.Nodes.drop (i64.wrap (qu0.k_+1):Int).toNat).take ((qu0.p_.Nodes.length:Int)-(i64.wrap (qu0.k_+1):Int)).toNat).getD v9.toNat default).Key2)),tI ((((qu0.p_.Nodes.drop (i64.wrap (qu0.k_+1):Int).toNat).take ((qu0.p_.Nodes.length:Int)-(i64.wrap (qu0.k_+1):Int)).toNat).getD v9.toNat default).Before),tI ((((qu0.p_.Nodes.drop (i64.wrap (qu0.k_+1):Int).toNat).take ((qu0.p_.Nodes.length:Int)-(i64.wrap (qu0.k_+1):Int)).toNat).getD v9.toNat default).After),tI ((((qu0.p_.Nodes.drop (i64.wrap (qu0.k_+1):Int).toNat).take ((qu0.p_.Nodes.length:Int)-(i64.wrap (qu0.k_+1):Int)).toNat).getD v9.toNat default).Keep),.t (eL cD ((((qu0.p_.Nodes.drop (i64.wrap (qu0.k_+1):Int).toNat).take ((qu0.p_.Nodes.length:Int)-(i64.wrap (qu0.k_+1):Int)).toNat).getD v9.toNat default).Aggs)),.t (eL cG ((((qu0.p_.Nodes.drop (i64.wrap (qu0.k_+1):Int).toNat).take ((qu0.p_.Nodes.length:Int)-(i64.wrap (qu0.k_+1):Int)).toNat).getD v9.toNat default).Seq)),.t (eL bK ((((qu0.p_.Nodes.drop (i64.wrap (qu0.k_+1):Int).toNat).take ((qu0.p_.Nodes.length:Int)-(i64.wrap (qu0.k_+1):Int)).toNat).getD v9.toNat default).Cols))]),(11101,.arr 3 1 (v12.length) (eF aD v12)),(30000,.box ((dX qu0).map .t))]⟩) (fun (b15,b16)=>⟨[(0,.ptr 30000 0),(1,.t (eL aW a1)),(9,.own 9),(11,.ptr 11 0),(65,.t (eL aW ((qu0.p_.Nodes.drop (i64.wrap (qu0.k_+1):Int).toNat).take ((qu0.p_.Nodes.length:Int)-(i64.wrap (qu0.k_+1):Int)).toNat))),(66,tI (((qu0.p_.Nodes.length:Int)-(i64.wrap (qu0.k_+1):Int)).toNat:Int)),(67,tI v9)],[(9,.arr 39 16 (b16.length) (eF aW b16)),(11,.box [tI ((((qu0.p_.Nodes.drop (i64.wrap (qu0.k_+1):Int).toNat).take ((qu0.p_.Nodes.length:Int)-(i64.wrap (qu0.k_+1):Int)).toNat).getD v9.toNat default).Op),.own 11101,.t (.str ((((qu0.p_.Nodes.drop (i64.wrap (qu0.k_+1):Int).toNat).take ((qu0.p_.Nodes.length:Int)-(i64.wrap (qu0.k_+1):Int)).toNat).getD v9.toNat default).Source)),tI ((((qu0.p_.Nodes.drop (i64.wrap (qu0.k_+1):Int).toNat).take ((qu0.p_.Nodes.length:Int)-(i64.wrap (qu0.k_+1):Int)).toNat).getD v9.toNat default).Schema),.t (.lz (.exprs ((((qu0.p_.Nodes.drop (i64.wrap (qu0.k_+1):Int).toNat).take ((qu0.p_.Nodes.length:Int)-(i64.wrap (qu0.k_+1):Int)).toNat).getD v9.toNat default).Exprs))),tI ((((qu0.p_.Nodes.drop (i64.wrap (qu0.k_+1):Int).toNat).take ((qu0.p_.Nodes.length:Int)-(i64.wrap (qu0.k_+1):Int)).toNat).getD v9.toNat default).Kind),tI ((((qu0.p_.Nodes.drop (i64.wrap (qu0.k_+1):Int).toNat).take ((qu0.p_.Nodes.length:Int)-(i64.wrap (qu0.k_+1):Int)).toNat).getD v9.toNat default).Size),tI ((((qu0.p_.Nodes.drop (i64.wrap (qu0.k_+1):Int).toNat).take ((qu0.p_.Nodes.length:Int)-(i64.wrap (qu0.k_+1):Int)).toNat).getD v9.toNat default).Step),.t (eL aD ((((qu0.p_.Nodes.drop (i64.wrap (qu0.k_+1):Int).toNat).take ((qu0.p_.Nodes.length:Int)-(i64.wrap (qu0.k_+1):Int)).toNat).getD v9.toNat default).Key)),.t (eL aD ((((qu0.p_.Nodes.drop (i64.wrap (qu0.k_+1):Int).toNat).take ((qu0.p_.Nodes.length:Int)-(i64.wrap (qu0.k_+1):Int)).toNat).getD v9.toNat default).Key2)),tI ((((qu0.p_.Nodes.drop (i64.wrap (qu0.k_+1):Int).toNat).take ((qu0.p_.Nodes.length:Int)-(i64.wrap (qu0.k_+1):Int)).toNat).getD v9.toNat default).Before),tI ((((qu0.p_.Nodes.drop (i64.wrap (qu0.k_+1):Int).toNat).take ((qu0.p_.Nodes.length:Int)-(i64.wrap (qu0.k_+1):Int)).toNat).getD v9.toNat default).After),tI ((((qu0.p_.Nodes.drop (i64.wrap (qu0.k_+1):Int).toNat).take ((qu0.p_.Nodes.length:Int)-(i64.wrap (qu0.k_+1):Int)).toNat).getD v9.toNat default).Keep),.t (eL cD ((((qu0.p_.Nodes.drop (i64.wrap (qu0.k_+1):Int).toNat).take ((qu0.p_.Nodes.length:Int)-(i64.wrap (qu0.k_+1):Int)).toNat).getD v9.toNat default).Aggs)),.t (eL cG ((((qu0.p_.Nodes.drop (i64.wrap (qu0.k_+1):Int).toNat).take ((qu0.p_.Nodes.length:Int)-(i64.wrap (qu0.k_+1):Int)).toNat).getD v9.toNat default).Seq)),.t (eL bK ((((qu0.p_.Nodes.drop (i64.wrap (qu0.k_+1):Int).toNat).take ((qu0.p_.Nodes.length:Int)-(i64.wrap (qu0.k_+1):Int)).toNat).getD v9.toNat default).Cols))]),(11101,.arr 3 1 (b15.length) (eF aD b15)),(30000,.box ((dX qu0).map .t))]⟩) 6 (r11,v8,0) (Er a1 qu0 v9 r11) fun (b15,b16)=>.cv 1 [.fr 11101 (eL aD b15)] <| .bs 1 true aW ([(aG.mk ((((qu0.p_.Nodes.drop (i64.wrap (qu0.k_+1):Int).toNat).take ((qu0.p_.Nodes.length:Int)-(i64.wrap (qu0.k_+1):Int)).toNat).getD v9.toNat default).Op) b15 ((((qu0.p_.Nodes.drop (i64.wrap (qu0.k_+1):Int).toNat).take ((qu0.p_.Nodes.length:Int)-(i64.wrap (qu0.k_+1):Int)).toNat).getD v9.toNat default).Source) ((((qu0.p_.Nodes.drop (i64.wrap (qu0.k_+1):Int).toNat).take ((qu0.p_.Nodes.length:Int)-(i64.wrap (qu0.k_+1):Int)).toNat).getD v9.toNat default).Schema) ((((qu0.p_.Nodes.drop (i64.wrap (qu0.k_+1):Int).toNat).take ((qu0.p_.Nodes.length:Int)-(i64.wrap (qu0.k_+1):Int)).toNat).getD v9.toNat default).Exprs) ((((qu0.p_.Nodes.drop (i64.wrap (qu0.k_+1):Int).toNat).take ((qu0.p_.Nodes.length:Int)-(i64.wrap (qu0.k_+1):Int)).toNat).getD v9.toNat default).Kind) ((((qu0.p_.Nodes.drop (i64.wrap (qu0.k_+1):Int).toNat).take ((qu0.p_.Nodes.length:Int)-(i64.wrap (qu0.k_+1):Int)).toNat).getD v9.toNat default).Size) ((((qu0.p_.Nodes.drop (i64.wrap (qu0.k_+1):Int).toNat).take ((qu0.p_.Nodes.length:Int)-(i64.wrap (qu0.k_+1):Int)).toNat).getD v9.toNat default).Step) ((((qu0.p_.Nodes.drop (i64.wrap (qu0.k_+1):Int).toNat).take ((qu0.p_.Nodes.length:Int)-(i64.wrap (qu0.k_+1):Int)).toNat).getD v9.toNat default).Key) ((((qu0.p_.Nodes.drop (i64.wrap (qu0.k_+1):Int).toNat).take ((qu0.p_.Nodes.length:Int)-(i64.wrap (qu0.k_+1):Int)).toNat).getD v9.toNat default).Key2) ((((qu0.p_.Nodes.drop (i64.wrap (qu0.k_+1):Int).toNat).take ((qu0.p_.Nodes.length:Int)-(i64.wrap (qu0.k_+1):Int)).toNat).getD v9.toNat default).Before) ((((qu0.p_.Nodes.drop (i64.wrap (qu0.k_+1):Int).toNat).take ((qu0.p_.Nodes.length:Int)-(i64.wrap (qu0.k_+1):Int)).toNat).getD v9.toNat default).After) ((((qu0.p_.Nodes.drop (i64.wrap (qu0.k_+1):Int).toNat).take ((qu0.p_.Nodes.length:Int)-(i64.wrap (qu0.k_+1):Int)).toNat).getD v9.toNat default).Keep) ((((qu0.p_.Nodes.drop (i64.wrap (qu0.k_+1):Int).toNat).take ((qu0.p_.Nodes.length:Int)-(i64.wrap (qu0.k_+1):Int)).toNat).getD v9.toNat default).Aggs) ((((qu0.p_.Nodes.drop (i64.wrap (qu0.k_+1):Int).toNat).take ((qu0.p_.Nodes.length:Int)-(i64.wrap (qu0.k_+1):Int)).toNat).getD v9.toNat default).Seq) ((((qu0.p_.Nodes.drop (i64.wrap (qu0.k_+1):Int).toNat).take ((qu0.p_.Nodes.length:Int)-(i64.wrap (qu0.k_+1):Int)).toNat).getD v9.toNat default).Cols))]:List aG) <| .grd 1 ((b16.length+([(aG.mk ((((qu0.p_.Nodes.drop (i64.wrap (qu0.k_+1):Int).toNat).take ((qu0.p_.Nodes.length:Int)-(i64.wrap (qu0.k_+1):Int)).toNat).getD v9.toNat default).Op) b15 ((((qu0.p_.Nodes.drop (i64.wrap (qu0.k_+1):Int).toNat).take ((qu0.p_.Nodes.length:Int)-(i64.wrap (qu0.k_+1):Int)).toNat).getD v9.toNat default).Source) ((((qu0.p_.Nodes.drop (i64.wrap (qu0.k_+1):Int).toNat).take ((qu0.p_.Nodes.length:Int)-(i64.wrap (qu0.k_+1):Int)).toNat).getD v9.toNat default).Schema) ((((qu0.p_.Nodes.drop (i64.wrap (qu0.k_+1):Int).toNat).take ((qu0.p_.Nodes.length:Int)-(i64.wrap (qu0.k_+1):Int)).toNat).getD v9.toNat default).Exprs) ((((qu0.p_.Nodes.drop (i64.wrap (qu0.k_+1):Int).toNat).take ((qu0.p_.Nodes.length:Int)-(i64.wrap (qu0.k_+1):Int)).toNat).getD v9.toNat default).Kind) ((((qu0.p_.Nodes.drop (i64.wrap (qu0.k_+1):Int).toNat).take ((qu0.p_.Nodes.length:Int)-(i64.wrap (qu0.k_+1):Int)).toNat).getD v9.toNat default).Size) ((((qu0.p_.Nodes.drop (i64.wrap (qu0.k_+1):Int).toNat).take ((qu0.p_.Nodes.length:Int)-(i64.wrap (qu0.k_+1):Int)).toNat).getD v9.toNat default).Step) ((((qu0.p_.Nodes.drop (i64.wrap (qu0.k_+1):Int).toNat).take ((qu0.p_.Nodes.length:Int)-(i64.wrap (qu0.k_+1):Int)).toNat).getD v9.toNat default).Key) ((((qu0.p_.Nodes.drop (i64.wrap (qu0.k_+1):Int).toNat).take ((qu0.p_.Nodes.length:Int)-(i64.wrap (qu0.k_+1):Int)).toNat).getD v9.toNat default).Key2) ((((qu0.p_.Nodes.drop (i64.wrap (qu0.k_+1):Int).toNat).take ((qu0.p_.Nodes.length:Int)-(i64.wrap (qu0.k_+1):Int)).toNat).getD v9.toNat default).Before) ((((qu0.p_.Nodes.drop (i64.wrap (qu0.k_+1):Int).toNat).take ((qu0.p_.Nodes.length:Int)-(i64.wrap (qu0.k_+1):Int)).toNat).getD v9.toNat default).After) ((((qu0.p_.Nodes.drop (i64.wrap (qu0.k_+1):Int).toNat).take ((qu0.p_.Nodes.length:Int)-(i64.wrap (qu0.k_+1):Int)).toNat).getD v9.toNat default).Keep) ((((qu0.p_.Nodes.drop (i64.wrap (qu0.k_+1):Int).toNat).take ((qu0.p_.Nodes.length:Int)-(i64.wrap (qu0.k_+1):Int)).toNat).getD v9.toNat default).Aggs) ((((qu0.p_.Nodes.drop (i64.wrap (qu0.k_+1):Int).toNat).take ((qu0.p_.Nodes.length:Int)-(i64.wrap (qu0.k_+1):Int)).toNat).getD v9.toNat default).Seq) ((((qu0.p_.Nodes.drop (i64.wrap (qu0.k_+1):Int).toNat).take ((qu0.p_.Nodes.length:Int)-(i64.wrap (qu0.k_+1):Int)).toNat).getD v9.toNat default).Cols))]:List aG).length)*248<=140737488355328) <| .cv 0 [.ap 105 aW b16 ([(aG.mk ((((qu0.p_.Nodes.drop (i64.wrap (qu0.k_+1):Int).toNat).take ((qu0.p_.Nodes.length:Int)-(i64.wrap (qu0.k_+1):Int)).toNat).getD v9.toNat default).Op) b15 ((((qu0.p_.Nodes.drop (i64.wrap (qu0.k_+1):Int).toNat).take ((qu0.p_.Nodes.length:Int)-(i64.wrap (qu0.k_+1):Int)).toNat).getD v9.toNat default).Source) ((((qu0.p_.Nodes.drop (i64.wrap (qu0.k_+1):Int).toNat).take ((qu0.p_.Nodes.length:Int)-(i64.wrap (qu0.k_+1):Int)).toNat).getD v9.toNat default).Schema) ((((qu0.p_.Nodes.drop (i64.wrap (qu0.k_+1):Int).toNat).take ((qu0.p_.Nodes.length:Int)-(i64.wrap (qu0.k_+1):Int)).toNat).getD v9.toNat default).Exprs) ((((qu0.p_.Nodes.drop (i64.wrap (qu0.k_+1):Int).toNat).take ((qu0.p_.Nodes.length:Int)-(i64.wrap (qu0.k_+1):Int)).toNat).getD v9.toNat default).Kind) ((((qu0.p_.Nodes.drop (i64.wrap (qu0.k_+1):Int).toNat).take ((qu0.p_.Nodes.length:Int)-(i64.wrap (qu0.k_+1):Int)).toNat).getD v9.toNat default).Size) ((((qu0.p_.Nodes.drop (i64.wrap (qu0.k_+1):Int).toNat).take ((qu0.p_.Nodes.length:Int)-(i64.wrap (qu0.k_+1):Int)).toNat).getD v9.toNat default).Step) ((((qu0.p_.Nodes.drop (i64.wrap (qu0.k_+1):Int).toNat).take ((qu0.p_.Nodes.length:Int)-(i64.wrap (qu0.k_+1):Int)).toNat).getD v9.toNat default).Key) ((((qu0.p_.Nodes.drop (i64.wrap (qu0.k_+1):Int).toNat).take ((qu0.p_.Nodes.length:Int)-(i64.wrap (qu0.k_+1):Int)).toNat).getD v9.toNat default).Key2) ((((qu0.p_.Nodes.drop (i64.wrap (qu0.k_+1):Int).toNat).take ((qu0.p_.Nodes.length:Int)-(i64.wrap (qu0.k_+1):Int)).toNat).getD v9.toNat default).Before) ((((qu0.p_.Nodes.drop (i64.wrap (qu0.k_+1):Int).toNat).take ((qu0.p_.Nodes.length:Int)-(i64.wrap (qu0.k_+1):Int)).toNat).getD v9.toNat default).After) ((((qu0.p_.Nodes.drop (i64.wrap (qu0.k_+1):Int).toNat).take ((qu0.p_.Nodes.length:Int)-(i64.wrap (qu0.k_+1):Int)).toNat).getD v9.toNat default).Keep) ((((qu0.p_.Nodes.drop (i64.wrap (qu0.k_+1):Int).toNat).take ((qu0.p_.Nodes.length:Int)-(i64.wrap (qu0.k_+1):Int)).toNat).getD v9.toNat default).Aggs) ((((qu0.p_.Nodes.drop (i64.wrap (qu0.k_+1):Int).toNat).take ((qu0.p_.Nodes.length:Int)-(i64.wrap (qu0.k_+1):Int)).toNat).getD v9.toNat default).Seq) ((((qu0.p_.Nodes.drop (i64.wrap (qu0.k_+1):Int).toNat).take ((qu0.p_.Nodes.length:Int)-(i64.wrap (qu0.k_+1):Int)).toNat).getD v9.toNat default).Cols))]:List aG)] <| .cv 3 [.rn 105 9] <| .ret 0 (.inl (b16++([(aG.mk ((((qu0.p_.Nodes.drop (i64.wrap (qu0.k_+1):Int).toNat).take ((qu0.p_.Nodes.length:Int)-(i64.wrap (qu0.k_+1):Int)).toNat).getD v9.toNat default).Op) b15 ((((qu0.p_.Nodes.drop (i64.wrap (qu0.k_+1):Int).toNat).take ((qu0.p_.Nodes.length:Int)-(i64.wrap (qu0.k_+1):Int)).toNat).getD v9.toNat default).Source) ((((qu0.p_.Nodes.drop (i64.wrap (qu0.k_+1):Int).toNat).take ((qu0.p_.Nodes.length:Int)-(i64.wrap (qu0.k_+1):Int)).toNat).getD v9.toNat default).Schema) ((((qu0.p_.Nodes.drop (i64.wrap (qu0.k_+1):Int).toNat).take ((qu0.p_.Nodes.length:Int)-(i64.wrap (qu0.k_+1):Int)).toNat).getD v9.toNat default).Exprs) ((((qu0.p_.Nodes.drop (i64.wrap (qu0.k_+1):Int).toNat).take ((qu0.p_.Nodes.length:Int)-(i64.wrap (qu0.k_+1):Int)).toNat).getD v9.toNat default).Kind) ((((qu0.p_.Nodes.drop (i64.wrap (qu0.k_+1):Int).toNat).take ((qu0.p_.Nodes.length:Int)-(i64.wrap (qu0.k_+1):Int)).toNat).getD v9.toNat default).Size) ((((qu0.p_.Nodes.drop (i64.wrap (qu0.k_+1):Int).toNat).take ((qu0.p_.Nodes.length:Int)-(i64.wrap (qu0.k_+1):Int)).toNat).getD v9.toNat default).Step) ((((qu0.p_.Nodes.drop (i64.wrap (qu0.k_+1):Int).toNat).take ((qu0.p_.Nodes.length:Int)-(i64.wrap (qu0.k_+1):Int)).toNat).getD v9.toNat default).Key) ((((qu0.p_.Nodes.drop (i64.wrap (qu0.k_+1):Int).toNat).take ((qu0.p_.Nodes.length:Int)-(i64.wrap (qu0.k_+1):Int)).toNat).getD v9.toNat default).Key2) ((((qu0.p_.Nodes.drop (i64.wrap (qu0.k_+1):Int).toNat).take ((qu0.p_.Nodes.length:Int)-(i64.wrap (qu0.k_+1):Int)).toNat).getD v9.toNat default).Before) ((((qu0.p_.Nodes.drop (i64.wrap (qu0.k_+1):Int).toNat).take ((qu0.p_.Nodes.length:Int)-(i64.wrap (qu0.k_+1):Int)).toNat).getD v9.toNat default).After) ((((qu0.p_.Nodes.drop (i64.wrap (qu0.k_+1):Int).toNat).take ((qu0.p_.Nodes.length:Int)-(i64.wrap (qu0.k_+1):Int)).toNat).getD v9.toNat default).Keep) ((((qu0.p_.Nodes.drop (i64.wrap (qu0.k_+1):Int).toNat).take ((qu0.p_.Nodes.length:Int)-(i64.wrap (qu0.k_+1):Int)).toNat).getD v9.toNat default).Aggs) ((((qu0.p_.Nodes.drop (i64.wrap (qu0.k_+1):Int).toNat).take ((qu0.p_.Nodes.length:Int)-(i64.wrap (qu0.k_+1):Int)).toNat).getD v9.toNat default).Seq) ((((qu0.p_.Nodes.drop (i64.wrap (qu0.k_+1):Int).toNat).take ((qu0.p_.Nodes.length:Int)-(i64.wrap (qu0.k_+1):Int)).toNat).getD v9.toNat default).Cols))]:List aG),i64.wrap (v9+1)))) (.ret 0 (.inr (.inl v8)))
def Gq(a1:List aG)(qu0:fM):TP (List aG):=.lp 4 (fun v1=>⟨[(0,.ptr 30000 0),(1,.t (eL aW a1)),(13,.t (eL aW a1)),(14,tI (a1.length:Int)),(15,tI v1)],[(30000,.box ((dX qu0).map .t))]⟩) (fun _=>⟨[(0,.ptr 30000 0),(1,.t (eL aW a1))],[(30000,.box ((dX qu0).map .t))]⟩) 0 0 (Dx a1 qu0) fun _=>.dg 9 (0<=(0:Int)/\(0:Int)<=qu0.k_/\qu0.k_<=(qu0.p_.Nodes.length:Int)) <| .dr 0 3 [(30000,false,[])] [0,1] <| .slc 0 51 aW qu0.p_.Nodes (0:Int) qu0.k_ <| .bs 0 true fS ([(qu0.p_.Nodes.drop (0:Int).toNat).take (qu0.k_-(0:Int)).toNat,a1]:List (List aG)) <| .cv 0 [.fr 53 (eL fS ([(qu0.p_.Nodes.drop (0:Int).toNat).take (qu0.k_-(0:Int)).toNat,a1]:List (List aG)))] <| .ch 0 [40000] (Es ([(qu0.p_.Nodes.drop (0:Int).toNat).take (qu0.k_-(0:Int)).toNat,a1]:List (List aG))) fun r7=>.cv 0 [.rn 40000 54] <| .dg 10 (0<=(i64.wrap (qu0.k_+1):Int)/\(i64.wrap (qu0.k_+1):Int)<=(qu0.p_.Nodes.length:Int)/\(qu0.p_.Nodes.length:Int)<=(qu0.p_.Nodes.length:Int)) <| .dr 1 0 [(54,false,[]),(30000,false,[])] [0,1,9,42,43,44,45,46,47,48,49,50,51,52,53,54] <| .slc 0 65 aW qu0.p_.Nodes (i64.wrap (qu0.k_+1):Int) (qu0.p_.Nodes.length:Int) <| .cv 0 [.rn 54 9] <| .lp 0 (fun (v8,v9)=>⟨[(0,.ptr 30000 0),(1,.t (eL aW a1)),(9,.own 9),(65,.t (eL aW ((qu0.p_.Nodes.drop (i64.wrap (qu0.k_+1):Int).toNat).take ((qu0.p_.Nodes.length:Int)-(i64.wrap (qu0.k_+1):Int)).toNat))),(66,tI (((qu0.p_.Nodes.length:Int)-(i64.wrap (qu0.k_+1):Int)).toNat:Int)),(67,tI v9)],[(9,.arr 39 16 (v8.length) (eF aW v8)),(30000,.box ((dX qu0).map .t))]⟩) (fun b10=>⟨[(9,.own 9)],[(9,.arr 39 16 (b10.length) (eF aW b10)),(30000,.box ((dX qu0).map .t))]⟩) 4 (r7,0) (Du a1 qu0) fun b10=>.cv 2 [.fr 9 (eL aW b10)] <| .ret 0 b10
def Qu(a1:List aG)(qu0:fM):=(Gq a1 qu0).den
theorem De(a1:List aG)(qu0:fM):eA Tryz.prog 67 [.ptr 30000 0,.t (eL aW a1)] [(30000,.box ((dX qu0).map .t))] [30000] (Qu a1 qu0) (fun y=>.t (eL aW y)) (fun y=>[(30000,.box ((dX qu0).map .t))]):=fW Tryz.func67 aX (Gq a1 qu0)
end
noncomputable section
def Ju(qu0:fM):TP (List aG):=.ch 2 [] (Eu qu0) fun r1=>.ca 10 (eN (r1.1.Op==1)) fun r2=>.dg 6 (0<=(0:Int)/\(0:Int)<r1.1.In.length) <| .dc 9 [.t (eH qu0.node_),.t (.sl 1 (eT [.int .i64 (r1.1.In.getD (0:Int).toNat default)] 1))] (Lp qu0.node_ ([r1.1.In.getD (0:Int).toNat default]:List Int)) fun r3=>.dr 0 0 [(5,true,[10,11]),(3,false,[]),(4,false,[]),(30000,false,[])] [0,2,3,4,6,7,8,9,10,11,12,13,14] <| .dg 2 (0<=(0:Int)/\(0:Int)<r1.1.Exprs.length) <| .dr 0 5 [(3,false,[]),(4,false,[]),(5,false,[]),(30000,false,[])] [0,2,3,4,5,6,7,8,9,10,11,12,13,14,15,16,17,18,19,20,21,22,23,24] <| .bs 0 false bQ ([r1.1.Exprs.getD (0:Int).toNat default,r1.2]:List aM) <| .cv 0 [.sl 30 (.lz (.exprs ([r1.1.Exprs.getD (0:Int).toNat default,r1.2]:List aM)))] <| .bs 1 false bQ ([(aM.mk 17 0 (⟨#[]⟩) ([r1.1.Exprs.getD (0:Int).toNat default,r1.2]:List aM))]:List aM) <| .cv 0 [.sl 32 (.lz (.exprs ([(aM.mk 17 0 (⟨#[]⟩) ([r1.1.Exprs.getD (0:Int).toNat default,r1.2]:List aM))]:List aM)))] <| .bs 4 false aW ([(aG.mk r3.Op r3.In r3.Source r3.Schema ([(aM.mk 17 0 (⟨#[]⟩) ([r1.1.Exprs.getD (0:Int).toNat default,r1.2]:List aM))]:List aM) r3.Kind r3.Size r3.Step r3.Key r3.Key2 r3.Before r3.After r3.Keep r3.Aggs r3.Seq r3.Cols)]:List aG) <| .ch 0 [] (De ([(aG.mk r3.Op r3.In r3.Source r3.Schema ([(aM.mk 17 0 (⟨#[]⟩) ([r1.1.Exprs.getD (0:Int).toNat default,r1.2]:List aM))]:List aM) r3.Kind r3.Size r3.Step r3.Key r3.Key2 r3.Before r3.After r3.Keep r3.Aggs r3.Seq r3.Cols)]:List aG) qu0) fun r4=>.ret 1 r4
def Sc(qu0:fM):=(Ju qu0).den
theorem Dn(qu0:fM):eA Tryz.prog 33 [.ptr 30000 0] [(30000,.box ((dX qu0).map .t))] [30000] (Sc qu0) (fun y=>.t (eL aW y)) (fun y=>[(30000,.box ((dX qu0).map .t))]):=fW Tryz.func33 aX (Ju qu0)
def Td(a0:aS)(a1:aF):TP (aS×Bool):=.dfr 5 Zb <| .jn 7 0 (fun _=>⟨[(2,.ptr 2 0),(3,.ptr 3 0),(4,.ptr 4 0),(5,.ptr 5 0),(6,.ptr 6 0)],[(2,.box ((bE a0).map .t)),(3,.box ((aV a1).map .t)),(4,.box [.nil,.nil]),(5,.box (([.bool false]).map .t)),(6,.box [.fn (.func 33) 0 [],.fn (.func 34) 0 [],.fn (.func 35) 0 [],.fn (.func 36) 0 [],.fn (.func 37) 0 [],.fn (.func 38) 0 [],.fn (.func 39) 0 [],.fn (.func 40) 0 [],.fn (.func 41) 0 []])]⟩) (.ite 0 (decide (a1.Node>=0)) (.ite 8 (decide (a1.Node<a0.Nodes.length)) (.ite 5 (decide (a1.Rule>=0)) (.ca 4 (eN (decide (a1.Rule<9))) fun r1=>.ret 0 ()) (.ca 4 (eN false) fun r2=>.ret 0 ())) (.ca 9 (eN false) fun r3=>.ret 0 ())) (.ca 17 (eN false) fun r4=>.ret 0 ())) fun _=>.dg 9 (0<=a1.Node/\a1.Node<a0.Nodes.length) <| .dr 0 2 [(2,false,[]),(3,false,[]),(4,false,[]),(5,false,[]),(6,false,[])] [2,3,4,5,6] <| .jn 6 0 (fun _=>⟨[(2,.ptr 2 0),(3,.ptr 3 0),(4,.ptr 4 0),(5,.ptr 5 0),(6,.ptr 6 0),(7,.ptr 45 0)],[(2,.box ((bE a0).map .t)),(3,.box ((aV a1).map .t)),(4,.box [.nil,.nil]),(5,.box (([.bool false]).map .t)),(6,.box [.fn (.func 33) 0 [],.fn (.func 34) 0 [],.fn (.func 35) 0 [],.fn (.func 36) 0 [],.fn (.func 37) 0 [],.fn (.func 38) 0 [],.fn (.func 39) 0 [],.fn (.func 40) 0 [],.fn (.func 41) 0 []]),(45,.box [.t (eL bG (a0.Funcs)),.t (eL aW (a0.Nodes)),tI a1.Node,tI a1.N,tI ((a0.Nodes.getD (a1.Node).toNat default).Op),.t (eL aD ((a0.Nodes.getD (a1.Node).toNat default).In)),.t (.str ((a0.Nodes.getD (a1.Node).toNat default).Source)),tI ((a0.Nodes.getD (a1.Node).toNat default).Schema),.t (.lz (.exprs ((a0.Nodes.getD (a1.Node).toNat default).Exprs))),tI ((a0.Nodes.getD (a1.Node).toNat default).Kind),tI ((a0.Nodes.getD (a1.Node).toNat default).Size),tI ((a0.Nodes.getD (a1.Node).toNat default).Step),.t (eL aD ((a0.Nodes.getD (a1.Node).toNat default).Key)),.t (eL aD ((a0.Nodes.getD (a1.Node).toNat default).Key2)),tI ((a0.Nodes.getD (a1.Node).toNat default).Before),tI ((a0.Nodes.getD (a1.Node).toNat default).After),tI ((a0.Nodes.getD (a1.Node).toNat default).Keep),.t (eL cD ((a0.Nodes.getD (a1.Node).toNat default).Aggs)),.t (eL cG ((a0.Nodes.getD (a1.Node).toNat default).Seq)),.t (eL bK ((a0.Nodes.getD (a1.Node).toNat default).Cols))])]⟩) (.ite 0 (a1.N==0) (.ca 9 (eN true) fun r5=>.ret 0 ()) (.ite 5 (a1.Rule==4) (.ca 4 (eN true) fun r6=>.ret 0 ()) (.ca 4 (eN (a1.Rule==7)) fun r7=>.ret 0 ()))) fun _=>.sp 2 61 a1.Rule 0 (.gd 1 (0<=(0:Int)/\(0:Int)<(9:Int)) (by decide) <| .cv 2 [.rn 45 30000] <| .ch 0 [] (Dn (fM.mk a0 a1.Node a1.N (a0.Nodes.getD (a1.Node).toNat default))) fun r8=>.ca 4 (eN (decide ((r8.length:Int)<=40))) fun r9=>.ca 2 (Ku a0.Funcs) fun r10=>.ret 4 ((aS.mk r10 r8),true)) (.sp 0 61 a1.Rule 1 (.gd 1 (0<=(1:Int)/\(1:Int)<(9:Int)) (by decide) <| .no) (.sp 0 61 a1.Rule 2 (.gd 1 (0<=(2:Int)/\(2:Int)<(9:Int)) (by decide) <| .no) (.sp 0 61 a1.Rule 3 (.gd 1 (0<=(3:Int)/\(3:Int)<(9:Int)) (by decide) <| .no) (.sp 0 61 a1.Rule 4 (.gd 1 (0<=(4:Int)/\(4:Int)<(9:Int)) (by decide) <| .no) (.sp 0 61 a1.Rule 5 (.gd 1 (0<=(5:Int)/\(5:Int)<(9:Int)) (by decide) <| .no) (.sp 0 61 a1.Rule 6 (.gd 1 (0<=(6:Int)/\(6:Int)<(9:Int)) (by decide) <| .no) (.sp 0 61 a1.Rule 7 (.gd 1 (0<=(7:Int)/\(7:Int)<(9:Int)) (by decide) <| .no) (.sp 0 61 a1.Rule 8 (.gd 1 (0<=(8:Int)/\(8:Int)<(9:Int)) (by decide) <| .no) (.no)))))))))
def Mg(a0:aS)(a1:aF):=(Td a0 a1).den
theorem Ll(a0:aS)(a1:aF):Con Tryz.prog 19 [.t (eV a0),.t (Ev a1)] (Mg a0 a1) (fun y=>.tup [.t (eV y.1),tB y.2]):=con Tryz.func19 aX (Td a0 a1)
abbrev Dk:={f:(aM×aM)->Option Bool // ∀ a:aM×aM,Con Tryz.prog 46 [.t (bP a.1),.t (bP a.2)] (f a) tB}
def El(recF46:Dk)(a0:List aM)(a1:List aM):Int->TP ((Int)⊕((Unit)⊕Bool))
 | v1=>.ite 1 (decide (v1<a0.length)) (.grd 2 (0<=v1/\v1<a0.length) <| .grd 7 (0<=v1/\v1<a1.length) <| .ca 6 (recF46.2 (a0.getD v1.toNat default,a1.getD v1.toNat default)) fun r2=>.ite 1 (!r2) (.ret 1 (.inr (.inr false))) (.ret 2 (.inl (i64.wrap (v1+1))))) (.ret 0 (.inr (.inl ())))
def Ia(recF46:Dk)(a0:List aM)(a1:List aM):TP Bool:=.ite 6 ((a0.length:Int) != (a1.length:Int)) (.ret 1 false) (.lp 3 (fun v1=>⟨[(1,.t (.lz (.exprs a1))),(2,.fn (.func 46) 0 []),(15,.t (.lz (.exprs a0))),(16,tI (a0.length:Int)),(17,tI v1)],[]⟩) (fun _=>⟨[],[]⟩) 0 0 (El recF46 a0 a1) fun _=>.ret 1 true)
def Ps(recF46:Dk)(a0:List aM)(a1:List aM):=(Ia recF46 a0 a1).den
theorem tG(recF46:Dk)(a0:List aM)(a1:List aM):eA Tryz.prog 84 [.t (.lz (.exprs a0)),.t (.lz (.exprs a1)),.fn (.func 46) 0 []] [] [] (Ps recF46 a0 a1) tB (fun y=>[]):=fW Tryz.func84 aX (Ia recF46 a0 a1)
def Sa(rec:Dk)(a0:aM)(a1:aM):TP Bool:=.jn 9 0 (fun j1=>⟨[(4,tB j1)],[]⟩) (.ite 0 (a0.Op==a1.Op) (.ite 7 (a0.N==a1.N) (.ite 7 ((a0.S:ByteArray).toList==(a1.S:ByteArray).toList) (.ch 4 [] (tG rec a0.Args a1.Args) fun r2=>.ret 2 r2) (.ret 7 false)) (.ret 14 false)) (.ret 21 false)) fun j1=>.ret 0 j1
theorem Ox(rec:Dk)(a0:aM)(a1:aM):Con Tryz.prog 46 [.t (bP a0),.t (bP a1)] (Sa rec a0 a1).den tB:=con Tryz.func46 aX (Sa rec a0 a1)
def Tp(a:aM×aM):Option Bool:=zD (C:=fun (a:aM×aM) (x:Option Bool)=>Con Tryz.prog 46 [.t (bP a.1),.t (bP a.2)] x tB) (fun a=>⟨bH Tryz.func46 (by kernel_rfl),fun _ h=>nomatch h⟩) (fun rec a=>Sa rec a.1 a.2) (fun rec a=>Ox rec a.1 a.2) a
theorem Bl(a:aM×aM):Con Tryz.prog 46 [.t (bP a.1),.t (bP a.2)] (Tp a) tB:=nH (C:=fun (a:aM×aM) (x:Option Bool)=>Con Tryz.prog 46 [.t (bP a.1),.t (bP a.2)] x tB) _ _ _ a
def Yk(a0:aM)(a1:aM):Option Bool:=Tp (a0,a1)
theorem Bm(a0:aM)(a1:aM):Con Tryz.prog 46 [.t (bP a0),.t (bP a1)] (Yk a0 a1) tB:=Bl (a0,a1)
def Wh(a0:bF)(a1:bF):TP Bool:=.jn 9 0 (fun j1=>⟨[(4,tB j1)],[]⟩) (.ite 0 ((a0.Name:ByteArray).toList==(a1.Name:ByteArray).toList) (.ite 7 (a0.Result==a1.Result) (.ca 4 (iQ a0.Params a1.Params) fun r2=>.ite 2 r2 (.ca 4 (Bm a0.Body a1.Body) fun r3=>.ret 2 r3) (.ret 7 false)) (.ret 14 false)) (.ret 21 false)) fun j1=>.ret 0 j1
def Ys(a0:bF)(a1:bF):=(Wh a0 a1).den
theorem Ki(a0:bF)(a1:bF):Con Tryz.prog 45 [.t (Hr a0),.t (Hr a1)] (Ys a0 a1) tB:=con Tryz.func45 aX (Wh a0 a1)
def Ej(a0:List bF)(a1:List bF):Int->TP ((Int)⊕((Unit)⊕Bool))
 | v1=>.ite 1 (decide (v1<a0.length)) (.grd 2 (0<=v1/\v1<a0.length) <| .grd 7 (0<=v1/\v1<a1.length) <| .ca 6 (Ki (a0.getD v1.toNat default) (a1.getD v1.toNat default)) fun r2=>.ite 1 (!r2) (.ret 1 (.inr (.inr false))) (.ret 2 (.inl (i64.wrap (v1+1))))) (.ret 0 (.inr (.inl ())))
def Jj(a0:List bF)(a1:List bF):TP Bool:=.ite 6 ((a0.length:Int) != (a1.length:Int)) (.ret 1 false) (.lp 3 (fun v1=>⟨[(1,.t (eL bG a1)),(2,.fn (.func 45) 0 []),(15,.t (eL bG a0)),(16,tI (a0.length:Int)),(17,tI v1)],[]⟩) (fun _=>⟨[],[]⟩) 0 0 (Ej a0 a1) fun _=>.ret 1 true)
def Qx(a0:List bF)(a1:List bF):=(Jj a0 a1).den
theorem Cr(a0:List bF)(a1:List bF):eA Tryz.prog 44 [.t (eL bG a0),.t (eL bG a1),.fn (.func 45) 0 []] [] [] (Qx a0 a1) tB (fun y=>[]):=fW Tryz.func44 aX (Jj a0 a1)
def Ob(a0:List dG)(a1:List dG):Int->TP ((Int)⊕((Unit)⊕Bool))
 | v1=>.ite 1 (decide (v1<a0.length)) (.dg 2 (0<=v1/\v1<a0.length) <| .dg 6 (0<=v1/\v1<a1.length) <| .dr 2 0 [] [0,1,5,12,13,14,15] <| .ite 0 (!((((a0.getD v1.toNat default).Kind)==((a1.getD v1.toNat default).Kind))&&((((a0.getD v1.toNat default).Col)==((a1.getD v1.toNat default).Col))&&((((a0.getD v1.toNat default).Name).toList==((a1.getD v1.toNat default).Name).toList)&&true)))) (.ret 1 (.inr (.inr false))) (.ret 2 (.inl (i64.wrap (v1+1))))) (.ret 0 (.inr (.inl ())))
def Vf(a0:List dG)(a1:List dG):TP Bool:=.ite 6 ((a0.length:Int) != (a1.length:Int)) (.ret 1 false) (.lp 3 (fun v1=>⟨[(0,.t (eL cD a0)),(1,.t (eL cD a1)),(12,tI (a0.length:Int)),(13,tI v1)],[]⟩) (fun _=>⟨[],[]⟩) 0 0 (Ob a0 a1) fun _=>.ret 1 true)
def Xk(a0:List dG)(a1:List dG):=(Vf a0 a1).den
theorem Me(a0:List dG)(a1:List dG):Con Tryz.prog 85 [.t (eL cD a0),.t (eL cD a1)] (Xk a0 a1) tB:=con Tryz.func85 aX (Vf a0 a1)
def Ko(a0:List aY)(a1:List aY):Int->TP ((Int)⊕((Unit)⊕Bool))
 | v1=>.ite 1 (decide (v1<a0.length)) (.dg 2 (0<=v1/\v1<a0.length) <| .dg 6 (0<=v1/\v1<a1.length) <| .dr 2 0 [] [0,1,5,12,13,14,15] <| .ite 0 (!((((a0.getD v1.toNat default).Name).toList==((a1.getD v1.toNat default).Name).toList)&&((((a0.getD v1.toNat default).Type_)==((a1.getD v1.toNat default).Type_))&&((((a0.getD v1.toNat default).Unit).toList==((a1.getD v1.toNat default).Unit).toList)&&true)))) (.ret 1 (.inr (.inr false))) (.ret 2 (.inl (i64.wrap (v1+1))))) (.ret 0 (.inr (.inl ())))
def Xc(a0:List aY)(a1:List aY):TP Bool:=.ite 6 ((a0.length:Int) != (a1.length:Int)) (.ret 1 false) (.lp 3 (fun v1=>⟨[(0,.t (eL bK a0)),(1,.t (eL bK a1)),(12,tI (a0.length:Int)),(13,tI v1)],[]⟩) (fun _=>⟨[],[]⟩) 0 0 (Ko a0 a1) fun _=>.ret 1 true)
def Ym(a0:List aY)(a1:List aY):=(Xc a0 a1).den
theorem Kc(a0:List aY)(a1:List aY):Con Tryz.prog 86 [.t (eL bK a0),.t (eL bK a1)] (Ym a0 a1) tB:=con Tryz.func86 aX (Xc a0 a1)
def Ui(a0:cM)(a1:cM):TP Bool:=.jn 9 0 (fun j1=>⟨[(4,tB j1)],[]⟩) (.ite 0 (a0.Rep==a1.Rep) (.ca 4 (Bm a0.Pred a1.Pred) fun r2=>.ret 2 r2) (.ret 7 false)) fun j1=>.ret 0 j1
def Xy(a0:cM)(a1:cM):=(Ui a0 a1).den
theorem Nn(a0:cM)(a1:cM):Con Tryz.prog 88 [.t (Pn a0),.t (Pn a1)] (Xy a0 a1) tB:=con Tryz.func88 aX (Ui a0 a1)
def Da(a0:List cM)(a1:List cM):Int->TP ((Int)⊕((Unit)⊕Bool))
 | v1=>.ite 1 (decide (v1<a0.length)) (.grd 2 (0<=v1/\v1<a0.length) <| .grd 7 (0<=v1/\v1<a1.length) <| .ca 6 (Nn (a0.getD v1.toNat default) (a1.getD v1.toNat default)) fun r2=>.ite 1 (!r2) (.ret 1 (.inr (.inr false))) (.ret 2 (.inl (i64.wrap (v1+1))))) (.ret 0 (.inr (.inl ())))
def Fg(a0:List cM)(a1:List cM):TP Bool:=.ite 6 ((a0.length:Int) != (a1.length:Int)) (.ret 1 false) (.lp 3 (fun v1=>⟨[(1,.t (eL cG a1)),(2,.fn (.func 88) 0 []),(15,.t (eL cG a0)),(16,tI (a0.length:Int)),(17,tI v1)],[]⟩) (fun _=>⟨[],[]⟩) 0 0 (Da a0 a1) fun _=>.ret 1 true)
def Rk(a0:List cM)(a1:List cM):=(Fg a0 a1).den
theorem Dy(a0:List cM)(a1:List cM):eA Tryz.prog 87 [.t (eL cG a0),.t (eL cG a1),.fn (.func 88) 0 []] [] [] (Rk a0 a1) tB (fun y=>[]):=fW Tryz.func87 aX (Fg a0 a1)
def Ua(a0:aG)(a1:aG):TP Bool:=.ca 43 (iQ a0.In a1.In) fun r1=>.jn 1 0 (fun j2=>⟨[(2,.ptr 2 0),(3,.ptr 3 0),(5,tB ([a0.Op,a0.Schema,a0.Kind,a0.Size,a0.Step,a0.Before,a0.After,a0.Keep]==[a1.Op,a1.Schema,a1.Kind,a1.Size,a1.Step,a1.Before,a1.After,a1.Keep])),(6,tB j2)],[(2,bN a0),(3,bN a1)]⟩) (.ite 0 r1 (.ca 4 (iQ a0.Key a1.Key) fun r3=>.ite 2 r3 (.ca 4 (iQ a0.Key2 a1.Key2) fun r4=>.ite 2 r4 (.ca 4 (Me a0.Aggs a1.Aggs) fun r5=>.ite 2 r5 (.ca 4 (Kc a0.Cols a1.Cols) fun r6=>.ret 2 r6) (.ret 7 false)) (.ret 14 false)) (.ret 21 false)) (.ret 28 false)) fun j2=>.ch 4 [] (Dy a0.Seq a1.Seq) fun r7=>.jn 3 0 (fun j8=>⟨[(4,tB j8)],[]⟩) (.ite 0 ([a0.Op,a0.Schema,a0.Kind,a0.Size,a0.Step,a0.Before,a0.After,a0.Keep]==[a1.Op,a1.Schema,a1.Kind,a1.Size,a1.Step,a1.Before,a1.After,a1.Keep]) (.ite 3 j2 (.ite 3 r7 (.ite 7 ((a0.Source:ByteArray).toList==(a1.Source:ByteArray).toList) (.ch 4 [] (tG ⟨_,Bl⟩ a0.Exprs a1.Exprs) fun r9=>.ret 2 r9) (.ret 7 false)) (.ret 14 false)) (.ret 17 false)) (.ret 20 false)) fun j8=>.ret 0 j8
def Xz(a0:aG)(a1:aG):=(Ua a0 a1).den
theorem Ny(a0:aG)(a1:aG):Con Tryz.prog 48 [.t (eH a0),.t (eH a1)] (Xz a0 a1) tB:=con Tryz.func48 aX (Ua a0 a1)
def Ed(a0:List aG)(a1:List aG):Int->TP ((Int)⊕((Unit)⊕Bool))
 | v1=>.ite 1 (decide (v1<a0.length)) (.grd 2 (0<=v1/\v1<a0.length) <| .grd 7 (0<=v1/\v1<a1.length) <| .ca 6 (Ny (a0.getD v1.toNat default) (a1.getD v1.toNat default)) fun r2=>.ite 1 (!r2) (.ret 1 (.inr (.inr false))) (.ret 2 (.inl (i64.wrap (v1+1))))) (.ret 0 (.inr (.inl ())))
def Hu(a0:List aG)(a1:List aG):TP Bool:=.ite 6 ((a0.length:Int) != (a1.length:Int)) (.ret 1 false) (.lp 3 (fun v1=>⟨[(1,.t (eL aW a1)),(2,.fn (.func 48) 0 []),(15,.t (eL aW a0)),(16,tI (a0.length:Int)),(17,tI v1)],[]⟩) (fun _=>⟨[],[]⟩) 0 0 (Ed a0 a1) fun _=>.ret 1 true)
def Sz(a0:List aG)(a1:List aG):=(Hu a0 a1).den
theorem Bt(a0:List aG)(a1:List aG):eA Tryz.prog 47 [.t (eL aW a0),.t (eL aW a1),.fn (.func 48) 0 []] [] [] (Sz a0 a1) tB (fun y=>[]):=fW Tryz.func47 aX (Hu a0 a1)
def Ww(a0:aS)(a1:aS):TP Bool:=.ch 7 [] (Cr a0.Funcs a1.Funcs) fun r1=>.jn 3 0 (fun j2=>⟨[(4,tB j2)],[]⟩) (.ite 0 r1 (.ch 4 [] (Bt a0.Nodes a1.Nodes) fun r3=>.ret 2 r3) (.ret 7 false)) fun j2=>.ret 0 j2
def Vc(a0:aS)(a1:aS):=(Ww a0 a1).den
theorem Ln(a0:aS)(a1:aS):Con Tryz.prog 20 [.t (eV a0),.t (eV a1)] (Vc a0 a1) tB:=con Tryz.func20 aX (Ww a0 a1)
def fT(a1:List aF):((List bF)×(List aG)×Int)->TP (((List bF)×(List aG)×Int)⊕(((List bF)×(List aG))⊕(Int×Int)))
 | (v2,v3,v4)=>.ite 1 (decide (v4<a1.length)) (.grd 2 (0<=v4/\v4<a1.length) <| .ca 6 (Ll (aS.mk v2 v3) (a1.getD v4.toNat default)) fun r7=>.ite 8 (!r7.2) (.ret 3 (.inr (.inr (v4,26)))) (.ret 4 (.inl (r7.1.Funcs,r7.1.Nodes,i64.wrap (v4+1))))) (.ret 0 (.inr (.inl (v2,v3))))
def Np(a0:aS)(a1:List aF)(a2:aS):TP (Int×Int):=.ca 5 (Km a0) fun r1=>.ite 1 (!r1) (.ret 2 (0,2)) (.lp 3 (fun (v2,v3,v4)=>⟨[(1,.t (eL aV a1)),(3,.ptr 3 0),(5,.ptr 5 0),(15,.t (eL aV a1)),(16,tI (a1.length:Int)),(17,tI v4)],[(3,.box [.t (eL bG v2),.t (eL aW v3)]),(5,.box ((bE a2).map .t))]⟩) (fun (b5,b6)=>⟨[(1,.t (eL aV a1)),(3,.ptr 3 0),(5,.ptr 5 0)],[(3,.box [.t (eL bG b5),.t (eL aW b6)]),(5,.box ((bE a2).map .t))]⟩) 0 (a0.Funcs,a0.Nodes,0) (fT a1) fun (b5,b6)=>.ca 2 (Ln (aS.mk b5 b6) a2) fun r8=>.ite 1 (!r8) (.ret 4 ((a1.length:Int),26)) (.ret 2 ((-1),0)))
def Fv(a0:aS)(a1:List aF)(a2:aS):=(Np a0 a1 a2).den
theorem Ac(a0:aS)(a1:List aF)(a2:aS):Con Tryz.prog 9 [.t (eV a0),.t (eL aV a1),.t (eV a2)] (Fv a0 a1 a2) (fun y=>.tup [tI y.1,tI y.2]):=con Tryz.func9 aX (Np a0 a1 a2)
def Ro:TP Bool:=.bs 3 false bK [(aY.mk (⟨#[97]⟩) 0 (⟨#[]⟩)),(aY.mk (⟨#[98]⟩) 0 (⟨#[]⟩))] <| .bs 5 false aD ([0]:List Int) <| .ca 0 (pT 15 0 5) fun r1=>.bs 0 false bQ [r1] <| .cv 0 [.sl 20 (.lz (.exprs [r1]))] <| .bs 4 false aD ([1]:List Int) <| .ca 0 (pT 13 1 2) fun r2=>.bs 0 false bQ [r2] <| .cv 0 [.sl 25 (.lz (.exprs [r2]))] <| .bs 4 false aD ([0]:List Int) <| .ca 0 (pT 15 0 5) fun r3=>.ca 0 (pT 13 1 2) fun r4=>.bs 0 false bQ [r3,r4] <| .cv 0 [.sl 31 (.lz (.exprs [r3,r4]))] <| .bs 1 false bQ ([(aM.mk 17 0 (⟨#[]⟩) ([r3,r4]:List aM))]:List aM) <| .cv 0 [.sl 33 (.lz (.exprs ([(aM.mk 17 0 (⟨#[]⟩) ([r3,r4]:List aM))]:List aM)))] <| .cv 4 [.bx 2 [.int .i64 0,eL aD ([]:List Int),.str (⟨#[115]⟩),.int .i64 1,.lz (.exprs ([]:List aM)),.int .i64 0,.int .i64 0,.int .i64 0,eL aD ([]:List Int),eL aD ([]:List Int),.int .i64 0,.int .i64 0,.int .i64 0,eL cD ([]:List dG),eL cG ([]:List cM),eL bK [(aY.mk (⟨#[97]⟩) 0 (⟨#[]⟩)),(aY.mk (⟨#[98]⟩) 0 (⟨#[]⟩))]]] <| .cv 1 [.bx 3 [.int .i64 1,eL aD ([0]:List Int),.str (⟨#[]⟩),.int .i64 0,.lz (.exprs [r1]),.int .i64 0,.int .i64 0,.int .i64 0,eL aD ([]:List Int),eL aD ([]:List Int),.int .i64 0,.int .i64 0,.int .i64 0,eL cD ([]:List dG),eL cG ([]:List cM),eL bK [(aY.mk (⟨#[97]⟩) 0 (⟨#[]⟩)),(aY.mk (⟨#[98]⟩) 0 (⟨#[]⟩))]]] <| .cv 1 [.bx 4 [.int .i64 1,eL aD ([1]:List Int),.str (⟨#[]⟩),.int .i64 0,.lz (.exprs [r2]),.int .i64 0,.int .i64 0,.int .i64 0,eL aD ([]:List Int),eL aD ([]:List Int),.int .i64 0,.int .i64 0,.int .i64 0,eL cD ([]:List dG),eL cG ([]:List cM),eL bK [(aY.mk (⟨#[97]⟩) 0 (⟨#[]⟩)),(aY.mk (⟨#[98]⟩) 0 (⟨#[]⟩))]]] <| .bs 1 false aW ([(aG.mk 0 ([]:List Int) (⟨#[115]⟩) 1 ([]:List aM) 0 0 0 ([]:List Int) ([]:List Int) 0 0 0 ([]:List dG) ([]:List cM) [(aY.mk (⟨#[97]⟩) 0 (⟨#[]⟩)),(aY.mk (⟨#[98]⟩) 0 (⟨#[]⟩))]),(aG.mk 1 ([0]:List Int) (⟨#[]⟩) 0 [r1] 0 0 0 ([]:List Int) ([]:List Int) 0 0 0 ([]:List dG) ([]:List cM) [(aY.mk (⟨#[97]⟩) 0 (⟨#[]⟩)),(aY.mk (⟨#[98]⟩) 0 (⟨#[]⟩))]),(aG.mk 1 ([1]:List Int) (⟨#[]⟩) 0 [r2] 0 0 0 ([]:List Int) ([]:List Int) 0 0 0 ([]:List dG) ([]:List cM) [(aY.mk (⟨#[97]⟩) 0 (⟨#[]⟩)),(aY.mk (⟨#[98]⟩) 0 (⟨#[]⟩))])]:List aG) <| .cv 5 [.bx 5 [.int .i64 1,eL aD ([0]:List Int),.str (⟨#[]⟩),.int .i64 0,.lz (.exprs ([(aM.mk 17 0 (⟨#[]⟩) ([r3,r4]:List aM))]:List aM)),.int .i64 0,.int .i64 0,.int .i64 0,eL aD ([]:List Int),eL aD ([]:List Int),.int .i64 0,.int .i64 0,.int .i64 0,eL cD ([]:List dG),eL cG ([]:List cM),eL bK [(aY.mk (⟨#[97]⟩) 0 (⟨#[]⟩)),(aY.mk (⟨#[98]⟩) 0 (⟨#[]⟩))]]] <| .bs 1 false aW ([(aG.mk 0 ([]:List Int) (⟨#[115]⟩) 1 ([]:List aM) 0 0 0 ([]:List Int) ([]:List Int) 0 0 0 ([]:List dG) ([]:List cM) [(aY.mk (⟨#[97]⟩) 0 (⟨#[]⟩)),(aY.mk (⟨#[98]⟩) 0 (⟨#[]⟩))]),(aG.mk 1 ([0]:List Int) (⟨#[]⟩) 0 [r1] 0 0 0 ([]:List Int) ([]:List Int) 0 0 0 ([]:List dG) ([]:List cM) [(aY.mk (⟨#[97]⟩) 0 (⟨#[]⟩)),(aY.mk (⟨#[98]⟩) 0 (⟨#[]⟩))]),(aG.mk 1 ([0]:List Int) (⟨#[]⟩) 0 ([(aM.mk 17 0 (⟨#[]⟩) ([r3,r4]:List aM))]:List aM) 0 0 0 ([]:List Int) ([]:List Int) 0 0 0 ([]:List dG) ([]:List cM) [(aY.mk (⟨#[97]⟩) 0 (⟨#[]⟩)),(aY.mk (⟨#[98]⟩) 0 (⟨#[]⟩))])]:List aG) <| .bs 4 false aV [(aF.mk 2 0 0)] <| .cv 1 [.bx 6 [eL bG ([]:List bF),eL aW ([(aG.mk 0 ([]:List Int) (⟨#[115]⟩) 1 ([]:List aM) 0 0 0 ([]:List Int) ([]:List Int) 0 0 0 ([]:List dG) ([]:List cM) [(aY.mk (⟨#[97]⟩) 0 (⟨#[]⟩)),(aY.mk (⟨#[98]⟩) 0 (⟨#[]⟩))]),(aG.mk 1 ([0]:List Int) (⟨#[]⟩) 0 [r1] 0 0 0 ([]:List Int) ([]:List Int) 0 0 0 ([]:List dG) ([]:List cM) [(aY.mk (⟨#[97]⟩) 0 (⟨#[]⟩)),(aY.mk (⟨#[98]⟩) 0 (⟨#[]⟩))]),(aG.mk 1 ([1]:List Int) (⟨#[]⟩) 0 [r2] 0 0 0 ([]:List Int) ([]:List Int) 0 0 0 ([]:List dG) ([]:List cM) [(aY.mk (⟨#[97]⟩) 0 (⟨#[]⟩)),(aY.mk (⟨#[98]⟩) 0 (⟨#[]⟩))])]:List aG)]] <| .cv 2 [.bx 7 [eL bG ([]:List bF),eL aW ([(aG.mk 0 ([]:List Int) (⟨#[115]⟩) 1 ([]:List aM) 0 0 0 ([]:List Int) ([]:List Int) 0 0 0 ([]:List dG) ([]:List cM) [(aY.mk (⟨#[97]⟩) 0 (⟨#[]⟩)),(aY.mk (⟨#[98]⟩) 0 (⟨#[]⟩))]),(aG.mk 1 ([0]:List Int) (⟨#[]⟩) 0 [r1] 0 0 0 ([]:List Int) ([]:List Int) 0 0 0 ([]:List dG) ([]:List cM) [(aY.mk (⟨#[97]⟩) 0 (⟨#[]⟩)),(aY.mk (⟨#[98]⟩) 0 (⟨#[]⟩))]),(aG.mk 1 ([0]:List Int) (⟨#[]⟩) 0 ([(aM.mk 17 0 (⟨#[]⟩) ([r3,r4]:List aM))]:List aM) 0 0 0 ([]:List Int) ([]:List Int) 0 0 0 ([]:List dG) ([]:List cM) [(aY.mk (⟨#[97]⟩) 0 (⟨#[]⟩)),(aY.mk (⟨#[98]⟩) 0 (⟨#[]⟩))])]:List aG)]] <| .ca 1 (Ac (aS.mk ([]:List bF) ([(aG.mk 0 ([]:List Int) (⟨#[115]⟩) 1 ([]:List aM) 0 0 0 ([]:List Int) ([]:List Int) 0 0 0 ([]:List dG) ([]:List cM) [(aY.mk (⟨#[97]⟩) 0 (⟨#[]⟩)),(aY.mk (⟨#[98]⟩) 0 (⟨#[]⟩))]),(aG.mk 1 ([0]:List Int) (⟨#[]⟩) 0 [r1] 0 0 0 ([]:List Int) ([]:List Int) 0 0 0 ([]:List dG) ([]:List cM) [(aY.mk (⟨#[97]⟩) 0 (⟨#[]⟩)),(aY.mk (⟨#[98]⟩) 0 (⟨#[]⟩))]),(aG.mk 1 ([1]:List Int) (⟨#[]⟩) 0 [r2] 0 0 0 ([]:List Int) ([]:List Int) 0 0 0 ([]:List dG) ([]:List cM) [(aY.mk (⟨#[97]⟩) 0 (⟨#[]⟩)),(aY.mk (⟨#[98]⟩) 0 (⟨#[]⟩))])]:List aG)) [(aF.mk 2 0 0)] (aS.mk ([]:List bF) ([(aG.mk 0 ([]:List Int) (⟨#[115]⟩) 1 ([]:List aM) 0 0 0 ([]:List Int) ([]:List Int) 0 0 0 ([]:List dG) ([]:List cM) [(aY.mk (⟨#[97]⟩) 0 (⟨#[]⟩)),(aY.mk (⟨#[98]⟩) 0 (⟨#[]⟩))]),(aG.mk 1 ([0]:List Int) (⟨#[]⟩) 0 [r1] 0 0 0 ([]:List Int) ([]:List Int) 0 0 0 ([]:List dG) ([]:List cM) [(aY.mk (⟨#[97]⟩) 0 (⟨#[]⟩)),(aY.mk (⟨#[98]⟩) 0 (⟨#[]⟩))]),(aG.mk 1 ([0]:List Int) (⟨#[]⟩) 0 ([(aM.mk 17 0 (⟨#[]⟩) ([r3,r4]:List aM))]:List aM) 0 0 0 ([]:List Int) ([]:List Int) 0 0 0 ([]:List dG) ([]:List cM) [(aY.mk (⟨#[97]⟩) 0 (⟨#[]⟩)),(aY.mk (⟨#[98]⟩) 0 (⟨#[]⟩))])]:List aG))) fun r5=>.ca 7 (Ac (aS.mk ([]:List bF) ([(aG.mk 0 ([]:List Int) (⟨#[115]⟩) 1 ([]:List aM) 0 0 0 ([]:List Int) ([]:List Int) 0 0 0 ([]:List dG) ([]:List cM) [(aY.mk (⟨#[97]⟩) 0 (⟨#[]⟩)),(aY.mk (⟨#[98]⟩) 0 (⟨#[]⟩))]),(aG.mk 1 ([0]:List Int) (⟨#[]⟩) 0 [r1] 0 0 0 ([]:List Int) ([]:List Int) 0 0 0 ([]:List dG) ([]:List cM) [(aY.mk (⟨#[97]⟩) 0 (⟨#[]⟩)),(aY.mk (⟨#[98]⟩) 0 (⟨#[]⟩))]),(aG.mk 1 ([1]:List Int) (⟨#[]⟩) 0 [r2] 0 0 0 ([]:List Int) ([]:List Int) 0 0 0 ([]:List dG) ([]:List cM) [(aY.mk (⟨#[97]⟩) 0 (⟨#[]⟩)),(aY.mk (⟨#[98]⟩) 0 (⟨#[]⟩))])]:List aG)) ([]:List aF) (aS.mk ([]:List bF) ([(aG.mk 0 ([]:List Int) (⟨#[115]⟩) 1 ([]:List aM) 0 0 0 ([]:List Int) ([]:List Int) 0 0 0 ([]:List dG) ([]:List cM) [(aY.mk (⟨#[97]⟩) 0 (⟨#[]⟩)),(aY.mk (⟨#[98]⟩) 0 (⟨#[]⟩))]),(aG.mk 1 ([0]:List Int) (⟨#[]⟩) 0 [r1] 0 0 0 ([]:List Int) ([]:List Int) 0 0 0 ([]:List dG) ([]:List cM) [(aY.mk (⟨#[97]⟩) 0 (⟨#[]⟩)),(aY.mk (⟨#[98]⟩) 0 (⟨#[]⟩))]),(aG.mk 1 ([0]:List Int) (⟨#[]⟩) 0 ([(aM.mk 17 0 (⟨#[]⟩) ([r3,r4]:List aM))]:List aM) 0 0 0 ([]:List Int) ([]:List Int) 0 0 0 ([]:List dG) ([]:List cM) [(aY.mk (⟨#[97]⟩) 0 (⟨#[]⟩)),(aY.mk (⟨#[98]⟩) 0 (⟨#[]⟩))])]:List aG))) fun r6=>.jn 8 0 (fun j7=>⟨[(0,tB j7)],[]⟩) (.ite 0 (r5.1==(-1)) (.ite 4 (r5.2==0) (.ite 4 (r6.1==0) (.ite 4 (r6.2==26) (.ca 1 (nM [(aF.mk 2 0 0)]) fun r8=>.ret 3 ((r8:ByteArray).toList==(⟨#[109,101,114,103,101,32,50,32,48,10]⟩:ByteArray).toList)) (.ret 5 false)) (.ret 9 false)) (.ret 13 false)) (.ret 17 false)) fun j7=>.ret 0 j7
def Qn:=Ro.den
theorem Lv:Con Tryz.prog 4 [] Qn tB:=con Tryz.func4 aX (Ro)
def Rq(a0:ByteArray):TP (List ByteArray):=.ite 3 ((a0:ByteArray).toList==(⟨#[]⟩:ByteArray).toList) (.cv 1 [.sl 2 (eL nS ([]:List ByteArray))] <| .ret 0 ([]:List ByteArray)) (.ca 1 (Lt a0 (⟨#[10]⟩)) fun r1=>.ca 0 (Ay r1 (⟨#[10]⟩)) fun r2=>.ret 1 r2)
def Pt(a0:ByteArray):=(Rq a0).den
theorem On(a0:ByteArray):Con Tryz.prog 14 [.t (.str a0)] (Pt a0) (fun y=>.t (eL nS y)):=con Tryz.func14 aX (Rq a0)
def Rj(a0:ByteArray):TP (Int×Bool):=.ch 3 [] (Sw a0) (sel (fun r1=>.ca 9 (Kj r1 10) fun r3=>.ite 3 (!((r3:ByteArray).toList==(a0:ByteArray).toList)) (.ret 2 (0,false)) (.ret 3 (r1,true))) (fun r2=>.ret 16 (0,false)))
def Fz(a0:ByteArray):=(Rj a0).den
theorem zG(a0:ByteArray):Con Tryz.prog 16 [.t (.str a0)] (Fz a0) (fun y=>.tup [tI y.1,tB y.2]):=con Tryz.func16 aX (Rj a0)
def vE(a0:ByteArray)(r1:(List ByteArray)):((List aF)×Int)->TP (((List aF)×Int)⊕((List aF)⊕((List aF)×Bool)))
 | (v2,v3)=>.ite 1 (decide (v3<r1.length)) (.grd 1 (0<=v3/\v3<r1.length) <| .ca 3 (Ay (r1.getD v3.toNat default) (⟨#[32]⟩)) fun r5=>.ite 4 ((r5.length:Int) != 3) (.cv 2 [.sl 2 (eL aV ([]:List aF))] <| .ret 0 (.inr (.inr (([]:List aF),false)))) (.grd 2 (0<=(1:Int)/\(1:Int)<r5.length) <| .ca 1 (zG (r5.getD (1:Int).toNat default)) fun r6=>.grd 7 (0<=(2:Int)/\(2:Int)<r5.length) <| .ca 1 (zG (r5.getD (2:Int).toNat default)) fun r7=>.dc 1 [] Be fun r8=>.dg 3 (0<=(0:Int)/\(0:Int)<r5.length) <| .dc 5 [.t (eL nS r8),.t (.str (r5.getD (0:Int).toNat default))] (zL r8 (r5.getD (0:Int).toNat default)) fun r9=>.dr 5 0 [(12,true,[8,9]),(4,false,[])] [0,4,6,7,8,9,10,11,14,15,16,17,18,19,20,21,22,23,24,25,26,27,28,29,30,31,32,33,34,35,36,37,38] <| .jn 4 0 (fun (j10,j11)=>⟨[(0,.t (.str a0)),(4,.own 4),(12,.ptr 12 0),(14,.t (eL nS r1)),(15,tI (r1.length:Int)),(16,tI v3),(57,tB j11)],[(4,.arr 25 3 (j10.length) (eF aV j10)),(12,.box [tI r6.1,tI r9,tI r7.1])]⟩) (.ite 0 (decide (r9<0)) (.ret 7 (v2,true)) (.ite 4 (!r6.2) (.ret 3 (v2,true)) (.ret 3 (v2,!r7.2)))) fun (j10,j11)=>.ite 0 j11 (.cv 2 [.sl 2 (eL aV ([]:List aF))] <| .ret 0 (.inr (.inr (([]:List aF),false)))) (.bs 2 false aV [(aF.mk r6.1 r9 r7.1)] <| .grd 1 ((j10.length+[(aF.mk r6.1 r9 r7.1)].length)*24<=140737488355328) <| .cv 0 [.ap 61 aV j10 [(aF.mk r6.1 r9 r7.1)]] <| .cv 3 [.rn 61 4] <| .ret 0 (.inl (j10++[(aF.mk r6.1 r9 r7.1)],i64.wrap (v3+1)))))) (.ret 0 (.inr (.inl v2)))
def Pw(a0:ByteArray):TP ((List aF)×Bool):=.ca 4 (On a0) fun r1=>.cv 2 [.th 4 4 25 3 (eF aV ([]:List aF))] <| .lp 0 (fun (v2,v3)=>⟨[(0,.t (.str a0)),(4,.own 4),(14,.t (eL nS r1)),(15,tI (r1.length:Int)),(16,tI v3)],[(4,.arr 25 3 (v2.length) (eF aV v2))]⟩) (fun b4=>⟨[(0,.t (.str a0)),(4,.own 4)],[(4,.arr 25 3 (b4.length) (eF aV b4))]⟩) 0 (([]:List aF),0) (vE a0 r1) fun b4=>.ca 1 (nM b4) fun r12=>.ite 2 (!((r12:ByteArray).toList==(a0:ByteArray).toList)) (.cv 2 [.sl 2 (eL aV ([]:List aF))] <| .ret 0 (([]:List aF),false)) (.cv 3 [.fr 4 (eL aV b4)] <| .ret 0 (b4,true))
def Pq(a0:ByteArray):=(Pw a0).den
theorem Bp(a0:ByteArray):Con Tryz.prog 6 [.t (.str a0)] (Pq a0) (fun y=>.tup [.t (eL aV (y.1)),tB y.2]):=con Tryz.func6 aX (Pw a0)
def pU(a0:List aF)(a1:List aF):Int->TP ((Int)⊕((Unit)⊕Bool))
 | v1=>.ite 4 (decide (v1<a0.length)) (.dg 2 (0<=v1/\v1<a0.length) <| .dg 6 (0<=v1/\v1<a1.length) <| .dr 0 0 [] [0,1,5,11,12,13,14] <| .ite 0 (!([(a0.getD v1.toNat default).Node,(a0.getD v1.toNat default).Rule,(a0.getD v1.toNat default).N]==[(a1.getD v1.toNat default).Node,(a1.getD v1.toNat default).Rule,(a1.getD v1.toNat default).N])) (.ret 1 (.inr (.inr false))) (.ret 3 (.inl (i64.wrap (v1+1))))) (.ret 0 (.inr (.inl ())))
def So(a0:List aF)(a1:List aF):TP Bool:=.ite 6 ((a0.length:Int) != (a1.length:Int)) (.ret 1 false) (.lp 1 (fun v1=>⟨[(0,.t (eL aV a0)),(1,.t (eL aV a1)),(5,tI v1)],[]⟩) (fun _=>⟨[],[]⟩) 0 0 (pU a0 a1) fun _=>.ret 1 true)
def Sb(a0:List aF)(a1:List aF):=(So a0 a1).den
theorem Lr(a0:List aF)(a1:List aF):Con Tryz.prog 7 [.t (eL aV a0),.t (eL aV a1)] (Sb a0 a1) tB:=con Tryz.func7 aX (So a0 a1)
def uJ(a0:List aF)(a1:ByteArray)(r1:Bool):(Bool×Int)->TP ((Bool×Int)⊕((Bool)⊕Bool))
 | (v3,v4)=>.ite 4 (decide (v4<a0.length)) (.jn 2 0 (fun j6=>⟨[(0,.t (eL aV a0)),(1,.t (.str a1)),(5,tB r1),(6,tB j6),(7,tI v4)],[]⟩) (.ite 0 v3 (.grd 3 (0<=v4/\v4<a0.length) <| .ite 5 (decide (((a0.getD v4.toNat default).Rule)>=0)) (.grd 3 (0<=v4/\v4<a0.length) <| .ret 5 (decide (((a0.getD v4.toNat default).Rule)<9))) (.ret 8 false)) (.ret 16 false)) fun j6=>.ret 3 (.inl (j6,i64.wrap (v4+1)))) (.ret 0 (.inr (.inl v3)))
def Qp(a0:List aF)(a1:ByteArray):TP Bool:=.ca 1 Lv fun r1=>.jn 5 0 (fun j2=>⟨[(0,.t (eL aV a0)),(1,.t (.str a1)),(5,tB r1),(21,tB j2)],[]⟩) (.ite 0 (decide ((a0.length:Int)>20)) (.ret 4 true) (.ret 4 (decide (((a1:ByteArray).size:Int)>300)))) fun j2=>.ite 0 j2 (.ret 2 r1) (.lp 2 (fun (v3,v4)=>⟨[(0,.t (eL aV a0)),(1,.t (.str a1)),(5,tB r1),(6,tB v3),(7,tI v4)],[]⟩) (fun b5=>⟨[(0,.t (eL aV a0)),(1,.t (.str a1)),(5,tB r1),(6,tB b5)],[]⟩) 0 (true,0) (uJ a0 a1 r1) fun b5=>.ca 1 (nM a0) fun r7=>.ca 2 (Bp r7) fun r8=>.jn 7 0 (fun j9=>⟨[(1,.t (.str a1)),(5,tB r1),(71,tB j9)],[]⟩) (.ite 0 b5 (.ite 3 (!r8.2) (.ret 14 true) (.ca 2 (Lr a0 r8.1) fun r10=>.ite 4 (!r10) (.ret 7 true) (.ite 3 (!b5) (.ret 4 (!((r7:ByteArray).toList==(⟨#[]⟩:ByteArray).toList))) (.ret 4 false)))) (.ite 13 (!b5) (.ret 4 (!((r7:ByteArray).toList==(⟨#[]⟩:ByteArray).toList))) (.ret 4 false))) fun j9=>.ite 0 j9 (.ret 1 false) (.ca 1 (Bp a1) fun r11=>.jn 7 0 (fun j12=>⟨[(4,tB j12)],[]⟩) (.ite 0 r1 (.ite 2 (r11.2) (.ite 9 (!r11.2) (.ret 7 true) (.ca 1 (nM r11.1) fun r13=>.ret 5 ((r13:ByteArray).toList==(a1:ByteArray).toList))) (.ite 6 ((r11.1.length:Int)==0) (.ite 3 (!r11.2) (.ret 7 true) (.ca 1 (nM r11.1) fun r14=>.ret 5 ((r14:ByteArray).toList==(a1:ByteArray).toList))) (.ret 10 false))) (.ret 18 false)) fun j12=>.ret 0 j12))
def Ci(a0:List aF)(a1:ByteArray):=(Qp a0 a1).den
theorem Lo(a0:List aF)(a1:ByteArray):Con Tryz.prog 3 [.t (eL aV a0),.t (.str a1)] (Ci a0 a1) tB:=con Tryz.func3 aX (Qp a0 a1)
end
end Go.PL
