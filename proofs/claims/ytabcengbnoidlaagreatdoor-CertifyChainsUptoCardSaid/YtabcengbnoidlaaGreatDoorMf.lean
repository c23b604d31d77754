/-
  Parts: The data types of the seat, as the program logic reads them, and its type table. Printed by a program of our own. Rows, and arrays of rows, that are lent to a call of a function of data where the order is open. Own work. Structs as arguments of calls in regions of open order. Own work. Functions of Go's library, given to the trees by hand. Own work; two walks are lines of the shelf's, turned to this program. (*strings.Builder).WriteString, exactly. Own work; the walk is lines of the shelf's, turned to this program. Contracts of functions of Go's library, for the trees. Own work. Contracts of functions of Go's library, for the trees: WriteString. Own work. Contracts of library functions, as the kit tools lay-shelf and lay-plain wrote them for this seat, cut down to what is used. Contracts of the library and of functions that defer, in the form of trees (seat r7). Own work. Functions of the seat as trees, and that the program computes them. Printed by a program of our own. Contracts, by hand, of certify.demand and certify.Step: the first panics where its condition fails; the other defers a function that recovers. Own work. shape.wrong$1, by hand over trees of its pieces: it asks for a round at the first wrong column. Own work. slices.Sorted(maps.Keys(m)) at keys that are integers: contracts of the library laid at this program, in any world. Laid by the kit's lay-iter, turned to any world by us. Contracts of maps.Keys and slices.Sorted at it, for a map whose keys are integers. Own work. Loops over functions: the loop, its rounds. Own work. Loops over functions: the loop, its rounds (rules). Own work. Loops over functions: a round, from its body; the call of a round. Own work. shape.Right: whether columns are right; a loop over shape.wrong, left in its first round. Own work.
-/
import Derived.Test.YtabcengbnoidlaaGreatDoorMe
import Derived.Test.YtabcengbnoidlaaGreatDoorProg
import Derived.Shelf.Strings.Builder1
import Derived.Shelf.Strconv.Itoa0
import Derived.Shelf.Strconv.Itoa1
import Derived.Shelf.LaysM
import Derived.Shelf.Strconv.Itoa2
import Derived.Shelf.Strconv.Itoa3
import Derived.Shelf.Strings.Fields
import Derived.Shelf.Unicode.Latin
import Derived.Shelf.Unicode.Is16White
import Derived.Shelf.Unicode.IsSpaceAny
import Derived.Shelf.Unicode.Is16Any
import Derived.Shelf.Unicode.Is32Any
import Derived.Shelf.Unicode.ExclAny
import Derived.Ground.SlgmProg
import Derived.Shelf.SortM.Plain
import Derived.Shelf.SortM.SortNone
import Derived.RecoverIn
import Derived.RangeFuncRecord
import Derived.RangeFuncLeaves
import Derived.LoopNIn
import Derived.Shelf.SlIterI.Nil
import Derived.RangeFuncIn
set_option maxHeartbeats 4000000
namespace Go.PL
open Go
def aL(x:aE):T:=.agg (aH x)
def dH(x:List Int):List T:=[eL aG (x)]
structure aS where
 Name:ByteArray
 Params:List Int
 Result:Int
 Body:aE
 deriving Inhabited
def aV(x:aS):List T:=[.str (x.Name)]++[eL aG (x.Params)]++[.int .i64 (x.Result)]++aH (x.Body)
def aEF(x:aS):T:=.agg (aV x)
structure cF where
 Kind:Int
 Col:Int
 Name:ByteArray
 deriving Inhabited
def bE(x:cF):List T:=[.int .i64 (x.Kind),.int .i64 (x.Col),.str (x.Name)]
structure cC where
 Pred:aE
 Rep:Int
 deriving Inhabited
def bJ(x:cC):List T:=aH (x.Pred)++[.int .i64 (x.Rep)]
def Vo(x:cC):T:=.agg (bJ x)
structure aT where
 Name:ByteArray
 Type_:Int
 Unit:ByteArray
 deriving Inhabited
def aR(x:aT):List T:=[.str (x.Name),.int .i64 (x.Type_),.str (x.Unit)]
def bAY(x:aT):T:=.agg (aR x)
def gF(x:List aT):List T:=[eL aR (x)]
structure aC where
 Op:Int
 In:List Int
 Source:ByteArray
 Schema:Int
 Exprs:List aE
 Kind:Int
 Size:Int
 Step:Int
 Key:List Int
 Key2:List Int
 Before:Int
 After:Int
 Keep:Int
 Aggs:List cF
 Seq:List cC
 Cols:List aT
 deriving Inhabited
def aI(x:aC):List T:=[.int .i64 (x.Op),eL aG (x.In),.str (x.Source),.int .i64 (x.Schema),.lz (.exprs (x.Exprs)),.int .i64 (x.Kind),.int .i64 (x.Size),.int .i64 (x.Step),eL aG (x.Key),eL aG (x.Key2),.int .i64 (x.Before),.int .i64 (x.After),.int .i64 (x.Keep),eL bE (x.Aggs),eL bJ (x.Seq),eL aR (x.Cols)]
def bZ(x:aC):T:=.agg (aI x)
def gG(x:aC):List Cel:=[.d (.int .i64 (x.Op)),.row 3 1 (x.In).length (eF aG (x.In)),.d (.str (x.Source)),.d (.int .i64 (x.Schema)),.d (.lz (.exprs (x.Exprs))),.d (.int .i64 (x.Kind)),.d (.int .i64 (x.Size)),.d (.int .i64 (x.Step)),.d (eL aG (x.Key)),.d (eL aG (x.Key2)),.d (.int .i64 (x.Before)),.d (.int .i64 (x.After)),.d (.int .i64 (x.Keep)),.d (eL bE (x.Aggs)),.d (eL bJ (x.Seq)),.d (eL aR (x.Cols))]
def eQ(x:List aC):List T:=[eL aI (x)]
structure aB where
 Funcs:List aS
 Nodes:List aC
 deriving Inhabited
def aY(x:aB):List T:=[eL aV (x.Funcs),eL aI (x.Nodes)]
def cA(x:aB):T:=.agg (aY x)
structure aW where
 Node:Int
 Rule:Int
 N:Int
 deriving Inhabited
def cH(x:aW):List T:=[.int .i64 (x.Node),.int .i64 (x.Rule),.int .i64 (x.N)]
def nM(x:aW):T:=.agg (cH x)
structure bV where
 p_:aB
 k_:Int
 n_:Int
 node_:aC
 deriving Inhabited
def aZ(x:bV):List T:=aY (x.p_)++[.int .i64 (x.k_)]++[.int .i64 (x.n_)]++aI (x.node_)
structure bP where
 Program:aB
 deriving Inhabited
def dX(x:bP):List T:=aY (x.Program)
def cD(x:bP):T:=.agg (dX x)
structure eZ where
 funcs_:List aS
 cols_:List Int
 params_:List Int
 deriving Inhabited
def rE(x:eZ):List T:=[eL aV (x.funcs_),eL aG (x.cols_),eL aG (x.params_)]
def mD(x:eZ):T:=.agg (rE x)
structure Fa where
 e0:Int
 e1:Int
 e2:Int
 e3:Int
 e4:Int
 e5:Int
 e6:Int
 e7:Int
 deriving Inhabited
def aKJ(x:Fa):List T:=[.int .i64 (x.e0),.int .i64 (x.e1),.int .i64 (x.e2),.int .i64 (x.e3),.int .i64 (x.e4),.int .i64 (x.e5),.int .i64 (x.e6),.int .i64 (x.e7)]
def aKC(x:Fa):T:=.agg (aKJ x)
def tiL:List (Nat×eG):=[
 (2,⟨1,8,.int .i64,[.t (.int .i64 0)],0,0⟩),
 (3,⟨1,8,.int .i64,[.t (.int .i64 0)],0,0⟩),
 (4,⟨1,1,.bool,[.t (.bool false)],0,0⟩),
 (5,⟨1,1,.int .u8,[.t (.int .u8 0)],0,0⟩),
 (9,⟨1,16,.str,[.t (.str ⟨#[]⟩)],0,0⟩),
 (12,⟨1,8,.int .u64,[.t (.int .u64 0)],0,0⟩),
 (15,⟨1,8,.ptr 253,[.np],0,0⟩),
 (16,⟨1,8,.ptr 256,[.np],0,0⟩),
 (17,⟨1,8,.ptr 264,[.np],0,0⟩),
 (20,⟨1,16,.ifc,[.lit .nilIface],0,0⟩),
 (21,⟨1,4,.int .i32,[.t (.int .i32 0)],0,0⟩),
 (22,⟨1,24,.sl 74,[.nil],0,0⟩),
 (23,⟨1,24,.sl 52,[.nil],0,0⟩),
 (25,⟨2,48,.st [(0,22),(1,23)],[.nil,.nil],0,0⟩),
 (27,⟨3,24,.st [(0,3),(1,3),(2,3)],[.t (.int .i64 0),.t (.int .i64 0),.t (.int .i64 0)],3,0⟩),
 (33,⟨1,8,.int .i64,[.t (.int .i64 0)],0,0⟩),
 (38,⟨1,24,.sl 27,[.nil],0,0⟩),
 (45,⟨3,40,.st [(0,9),(1,3),(2,9)],[.t (.str ⟨#[]⟩),.t (.int .i64 0),.t (.str ⟨#[]⟩)],0,38⟩),
 (46,⟨1,24,.sl 45,[.nil],0,0⟩),
 (47,⟨1,24,.sl 3,[.nil],0,0⟩),
 (48,⟨1,24,.sl 54,[.nil],0,0⟩),
 (49,⟨1,24,.sl 121,[.nil],0,0⟩),
 (50,⟨1,24,.sl 98,[.nil],0,0⟩),
 (52,⟨16,248,.st [(0,3),(1,47),(2,9),(3,3),(4,48),(5,3),(6,3),(7,3),(8,47),(9,47),(10,3),(11,3),(12,3),(13,49),(14,50),(15,46)],[.t (.int .i64 0),.nil,.t (.str ⟨#[]⟩),.t (.int .i64 0),.nil,.t (.int .i64 0),.t (.int .i64 0),.t (.int .i64 0),.nil,.nil,.t (.int .i64 0),.t (.int .i64 0),.t (.int .i64 0),.nil,.nil,.nil],0,0⟩),
 (54,⟨4,56,.st [(0,3),(1,3),(2,9),(3,48)],[.t (.int .i64 0),.t (.int .i64 0),.t (.str ⟨#[]⟩),.nil],0,0⟩),
 (61,⟨1,8,.other,[.lit .nilFunc],0,0⟩),
 (63,⟨0,0,.st [],[],0,0⟩),
 (65,⟨1,8,.other,[.lit .nilFunc],0,0⟩),
 (67,⟨1,8,.ptr 71,[.np],0,0⟩),
 (68,⟨9,72,.arr 9 65,[.lit .nilFunc,.lit .nilFunc,.lit .nilFunc,.lit .nilFunc,.lit .nilFunc,.lit .nilFunc,.lit .nilFunc,.lit .nilFunc,.lit .nilFunc],0,0⟩),
 (71,⟨20,312,.st [(0,25),(2,3),(3,3),(4,52)],[.nil,.nil,.t (.int .i64 0),.t (.int .i64 0),.t (.int .i64 0),.nil,.t (.str ⟨#[]⟩),.t (.int .i64 0),.nil,.t (.int .i64 0),.t (.int .i64 0),.t (.int .i64 0),.nil,.nil,.t (.int .i64 0),.t (.int .i64 0),.t (.int .i64 0),.nil,.nil,.nil],0,0⟩),
 (74,⟨7,104,.st [(0,9),(1,47),(2,3),(3,54)],[.t (.str ⟨#[]⟩),.nil,.t (.int .i64 0),.t (.int .i64 0),.t (.int .i64 0),.t (.str ⟨#[]⟩),.nil],0,0⟩),
 (76,⟨2,48,.st [(0,25)],[.nil,.nil],0,0⟩),
 (77,⟨1,8,.other,[.lit .nilFunc],0,0⟩),
 (78,⟨9,72,.arr 9 77,[.lit .nilFunc,.lit .nilFunc,.lit .nilFunc,.lit .nilFunc,.lit .nilFunc,.lit .nilFunc,.lit .nilFunc,.lit .nilFunc,.lit .nilFunc],0,0⟩),
 (80,⟨1,8,.other,[.lit .nilFunc],0,0⟩),
 (81,⟨1,8,.other,[.lit .nilFunc],0,0⟩),
 (83,⟨1,8,.ptr 86,[.np],0,0⟩),
 (84,⟨1,24,.sl 5,[.nil],0,0⟩),
 (86,⟨2,32,.st [(0,83),(1,84)],[.np,.nil],0,0⟩),
 (88,⟨1,16,.ifc,[.lit .nilIface],0,0⟩),
 (91,⟨1,24,.sl 9,[.nil],0,0⟩),
 (98,⟨5,64,.st [(0,54),(4,3)],[.t (.int .i64 0),.t (.int .i64 0),.t (.str ⟨#[]⟩),.nil,.t (.int .i64 0)],0,0⟩),
 (100,⟨1,24,.sl 47,[.nil],0,0⟩),
 (101,⟨1,8,.other,[.lit .nilFunc],0,0⟩),
 (102,⟨1,8,.other,[.lit .nilFunc],0,0⟩),
 (113,⟨1,8,.other,[.lit .nilFunc],0,0⟩),
 (116,⟨1,8,.other,[.lit .nilFunc],0,0⟩),
 (121,⟨3,32,.st [(0,3),(1,3),(2,9)],[.t (.int .i64 0),.t (.int .i64 0),.t (.str ⟨#[]⟩)],0,37⟩),
 (134,⟨1,8,.other,[.lit .nilFunc],0,0⟩),
 (137,⟨1,8,.ptr 5,[.np],0,0⟩),
 (142,⟨3,72,.st [(0,22),(1,47),(2,47)],[.nil,.nil,.nil],0,0⟩),
 (144,⟨7,56,.arr 7 3,[.t (.int .i64 0),.t (.int .i64 0),.t (.int .i64 0),.t (.int .i64 0),.t (.int .i64 0),.t (.int .i64 0),.t (.int .i64 0)],7,0⟩),
 (155,⟨1,24,.sl 46,[.nil],0,0⟩),
 (157,⟨8,64,.arr 8 3,[.t (.int .i64 0),.t (.int .i64 0),.t (.int .i64 0),.t (.int .i64 0),.t (.int .i64 0),.t (.int .i64 0),.t (.int .i64 0),.t (.int .i64 0)],8,0⟩),
 (160,⟨1,8,.other,[.lit .nilFunc],0,0⟩),
 (163,⟨1,8,.other,[.lit .nilFunc],0,0⟩),
 (164,⟨1,24,.sl 4,[.nil],0,0⟩),
 (166,⟨1,8,.mp 3 4,[.lit (.map none)],0,0⟩),
 (169,⟨1,8,.other,[.lit .nilFunc],0,0⟩),
 (181,⟨256,256,.arr 256 5,[.t (.int .u8 0),.t (.int .u8 0),.t (.int .u8 0),.t (.int .u8 0),.t (.int .u8 0),.t (.int .u8 0),.t (.int .u8 0),.t (.int .u8 0),.t (.int .u8 0),.t (.int .u8 0),.t (.int .u8 0),.t (.int .u8 0),.t (.int .u8 0),.t (.int .u8 0),.t (.int .u8 0),.t (.int .u8 0),.t (.int .u8 0),.t (.int .u8 0),.t (.int .u8 0),.t (.int .u8 0),.t (.int .u8 0),.t (.int .u8 0),.t (.int .u8 0),.t (.int .u8 0),.t (.int .u8 0),.t (.int .u8 0),.t (.int .u8 0),.t (.int .u8 0),.t (.int .u8 0),.t (.int .u8 0),.t (.int .u8 0),.t (.int .u8 0),.t (.int .u8 0),.t (.int .u8 0),.t (.int .u8 0),.t (.int .u8 0),.t (.int .u8 0),.t (.int .u8 0),.t (.int .u8 0),.t (.int .u8 0),.t (.int .u8 0),.t (.int .u8 0),.t (.int .u8 0),.t (.int .u8 0),.t (.int .u8 0),.t (.int .u8 0),.t (.int .u8 0),.t (.int .u8 0),.t (.int .u8 0),.t (.int .u8 0),.t (.int .u8 0),.t (.int .u8 0),.t (.int .u8 0),.t (.int .u8 0),.t (.int .u8 0),.t (.int .u8 0),.t (.int .u8 0),.t (.int .u8 0),.t (.int .u8 0),.t (.int .u8 0),.t (.int .u8 0),.t (.int .u8 0),.t (.int .u8 0),.t (.int .u8 0),.t (.int .u8 0),.t (.int .u8 0),.t (.int .u8 0),.t (.int .u8 0),.t (.int .u8 0),.t (.int .u8 0),.t (.int .u8 0),.t (.int .u8 0),.t (.int .u8 0),.t (.int .u8 0),.t (.int .u8 0),.t (.int .u8 0),.t (.int .u8 0),.t (.int .u8 0),.t (.int .u8 0),.t (.int .u8 0),.t (.int .u8 0),.t (.int .u8 0),.t (.int .u8 0),.t (.int .u8 0),.t (.int .u8 0),.t (.int .u8 0),.t (.int .u8 0),.t (.int .u8 0),.t (.int .u8 0),.t (.int .u8 0),.t (.int .u8 0),.t (.int .u8 0),.t (.int .u8 0),.t (.int .u8 0),.t (.int .u8 0),.t (.int .u8 0),.t (.int .u8 0),.t (.int .u8 0),.t (.int .u8 0),.t (.int .u8 0),.t (.int .u8 0),.t (.int .u8 0),.t (.int .u8 0),.t (.int .u8 0),.t (.int .u8 0),.t (.int .u8 0),.t (.int .u8 0),.t (.int .u8 0),.t (.int .u8 0),.t (.int .u8 0),.t (.int .u8 0),.t (.int .u8 0),.t (.int .u8 0),.t (.int .u8 0),.t (.int .u8 0),.t (.int .u8 0),.t (.int .u8 0),.t (.int .u8 0),.t (.int .u8 0),.t (.int .u8 0),.t (.int .u8 0),.t (.int .u8 0),.t (.int .u8 0),.t (.int .u8 0),.t (.int .u8 0),.t (.int .u8 0),.t (.int .u8 0),.t (.int .u8 0),.t (.int .u8 0),.t (.int .u8 0),.t (.int .u8 0),.t (.int .u8 0),.t (.int .u8 0),.t (.int .u8 0),.t (.int .u8 0),.t (.int .u8 0),.t (.int .u8 0),.t (.int .u8 0),.t (.int .u8 0),.t (.int .u8 0),.t (.int .u8 0),.t (.int .u8 0),.t (.int .u8 0),.t (.int .u8 0),.t (.int .u8 0),.t (.int .u8 0),.t (.int .u8 0),.t (.int .u8 0),.t (.int .u8 0),.t (.int .u8 0),.t (.int .u8 0),.t (.int .u8 0),.t (.int .u8 0),.t (.int .u8 0),.t (.int .u8 0),.t (.int .u8 0),.t (.int .u8 0),.t (.int .u8 0),.t (.int .u8 0),.t (.int .u8 0),.t (.int .u8 0),.t (.int .u8 0),.t (.int .u8 0),.t (.int .u8 0),.t (.int .u8 0),.t (.int .u8 0),.t (.int .u8 0),.t (.int .u8 0),.t (.int .u8 0),.t (.int .u8 0),.t (.int .u8 0),.t (.int .u8 0),.t (.int .u8 0),.t (.int .u8 0),.t (.int .u8 0),.t (.int .u8 0),.t (.int .u8 0),.t (.int .u8 0),.t (.int .u8 0),.t (.int .u8 0),.t (.int .u8 0),.t (.int .u8 0),.t (.int .u8 0),.t (.int .u8 0),.t (.int .u8 0),.t (.int .u8 0),.t (.int .u8 0),.t (.int .u8 0),.t (.int .u8 0),.t (.int .u8 0),.t (.int .u8 0),.t (.int .u8 0),.t (.int .u8 0),.t (.int .u8 0),.t (.int .u8 0),.t (.int .u8 0),.t (.int .u8 0),.t (.int .u8 0),.t (.int .u8 0),.t (.int .u8 0),.t (.int .u8 0),.t (.int .u8 0),.t (.int .u8 0),.t (.int .u8 0),.t (.int .u8 0),.t (.int .u8 0),.t (.int .u8 0),.t (.int .u8 0),.t (.int .u8 0),.t (.int .u8 0),.t (.int .u8 0),.t (.int .u8 0),.t (.int .u8 0),.t (.int .u8 0),.t (.int .u8 0),.t (.int .u8 0),.t (.int .u8 0),.t (.int .u8 0),.t (.int .u8 0),.t (.int .u8 0),.t (.int .u8 0),.t (.int .u8 0),.t (.int .u8 0),.t (.int .u8 0),.t (.int .u8 0),.t (.int .u8 0),.t (.int .u8 0),.t (.int .u8 0),.t (.int .u8 0),.t (.int .u8 0),.t (.int .u8 0),.t (.int .u8 0),.t (.int .u8 0),.t (.int .u8 0),.t (.int .u8 0),.t (.int .u8 0),.t (.int .u8 0),.t (.int .u8 0),.t (.int .u8 0),.t (.int .u8 0),.t (.int .u8 0),.t (.int .u8 0),.t (.int .u8 0),.t (.int .u8 0),.t (.int .u8 0),.t (.int .u8 0),.t (.int .u8 0),.t (.int .u8 0),.t (.int .u8 0),.t (.int .u8 0),.t (.int .u8 0),.t (.int .u8 0),.t (.int .u8 0),.t (.int .u8 0),.t (.int .u8 0),.t (.int .u8 0)],0,0⟩),
 (183,⟨1,8,.other,[.lit .nilFunc],0,0⟩),
 (187,⟨1,24,.sl 23,[.nil],0,0⟩),
 (191,⟨1,24,.sl 193,[.nil],0,0⟩),
 (193,⟨2,16,.st [(0,3),(1,3)],[.t (.int .i64 0),.t (.int .i64 0)],2,0⟩),
 (194,⟨1,4,.int .u32,[.t (.int .u32 0)],0,0⟩),
 (196,⟨1,8,.ptr 208,[.np],0,0⟩),
 (204,⟨1,8,.int .u64,[.t (.int .u64 0)],0,0⟩),
 (205,⟨1,24,.sl 211,[.nil],0,0⟩),
 (206,⟨1,24,.sl 214,[.nil],0,0⟩),
 (208,⟨3,56,.st [(0,205),(1,206),(2,3)],[.nil,.nil,.t (.int .i64 0)],0,0⟩),
 (209,⟨1,2,.int .u16,[.t (.int .u16 0)],0,0⟩),
 (211,⟨3,6,.st [(0,209),(1,209),(2,209)],[.t (.int .u16 0),.t (.int .u16 0),.t (.int .u16 0)],0,0⟩),
 (214,⟨3,12,.st [(0,194),(1,194),(2,194)],[.t (.int .u32 0),.t (.int .u32 0),.t (.int .u32 0)],0,0⟩),
 (216,⟨24,24,.arr 24 5,[.t (.int .u8 0),.t (.int .u8 0),.t (.int .u8 0),.t (.int .u8 0),.t (.int .u8 0),.t (.int .u8 0),.t (.int .u8 0),.t (.int .u8 0),.t (.int .u8 0),.t (.int .u8 0),.t (.int .u8 0),.t (.int .u8 0),.t (.int .u8 0),.t (.int .u8 0),.t (.int .u8 0),.t (.int .u8 0),.t (.int .u8 0),.t (.int .u8 0),.t (.int .u8 0),.t (.int .u8 0),.t (.int .u8 0),.t (.int .u8 0),.t (.int .u8 0),.t (.int .u8 0)],0,0⟩),
 (217,⟨1,8,.int .u64,[.t (.int .u64 0)],0,0⟩),
 (226,⟨1,8,.other,[.lit .nilFunc],0,0⟩),
 (228,⟨1,8,.int .i64,[.t (.int .i64 0)],0,0⟩),
 (238,⟨20,160,.arr 20 217,[.t (.int .u64 0),.t (.int .u64 0),.t (.int .u64 0),.t (.int .u64 0),.t (.int .u64 0),.t (.int .u64 0),.t (.int .u64 0),.t (.int .u64 0),.t (.int .u64 0),.t (.int .u64 0),.t (.int .u64 0),.t (.int .u64 0),.t (.int .u64 0),.t (.int .u64 0),.t (.int .u64 0),.t (.int .u64 0),.t (.int .u64 0),.t (.int .u64 0),.t (.int .u64 0),.t (.int .u64 0)],0,0⟩),
 (239,⟨65,65,.arr 65 5,[.t (.int .u8 0),.t (.int .u8 0),.t (.int .u8 0),.t (.int .u8 0),.t (.int .u8 0),.t (.int .u8 0),.t (.int .u8 0),.t (.int .u8 0),.t (.int .u8 0),.t (.int .u8 0),.t (.int .u8 0),.t (.int .u8 0),.t (.int .u8 0),.t (.int .u8 0),.t (.int .u8 0),.t (.int .u8 0),.t (.int .u8 0),.t (.int .u8 0),.t (.int .u8 0),.t (.int .u8 0),.t (.int .u8 0),.t (.int .u8 0),.t (.int .u8 0),.t (.int .u8 0),.t (.int .u8 0),.t (.int .u8 0),.t (.int .u8 0),.t (.int .u8 0),.t (.int .u8 0),.t (.int .u8 0),.t (.int .u8 0),.t (.int .u8 0),.t (.int .u8 0),.t (.int .u8 0),.t (.int .u8 0),.t (.int .u8 0),.t (.int .u8 0),.t (.int .u8 0),.t (.int .u8 0),.t (.int .u8 0),.t (.int .u8 0),.t (.int .u8 0),.t (.int .u8 0),.t (.int .u8 0),.t (.int .u8 0),.t (.int .u8 0),.t (.int .u8 0),.t (.int .u8 0),.t (.int .u8 0),.t (.int .u8 0),.t (.int .u8 0),.t (.int .u8 0),.t (.int .u8 0),.t (.int .u8 0),.t (.int .u8 0),.t (.int .u8 0),.t (.int .u8 0),.t (.int .u8 0),.t (.int .u8 0),.t (.int .u8 0),.t (.int .u8 0),.t (.int .u8 0),.t (.int .u8 0),.t (.int .u8 0),.t (.int .u8 0)],0,0⟩),
 (241,⟨1,8,.int .u64,[.t (.int .u64 0)],0,0⟩),
 (245,⟨1,8,.ptr 3,[.np],0,0⟩),
 (247,⟨1,8,.ptr 241,[.np],0,0⟩),
 (250,⟨32,32,.arr 32 5,[.t (.int .u8 0),.t (.int .u8 0),.t (.int .u8 0),.t (.int .u8 0),.t (.int .u8 0),.t (.int .u8 0),.t (.int .u8 0),.t (.int .u8 0),.t (.int .u8 0),.t (.int .u8 0),.t (.int .u8 0),.t (.int .u8 0),.t (.int .u8 0),.t (.int .u8 0),.t (.int .u8 0),.t (.int .u8 0),.t (.int .u8 0),.t (.int .u8 0),.t (.int .u8 0),.t (.int .u8 0),.t (.int .u8 0),.t (.int .u8 0),.t (.int .u8 0),.t (.int .u8 0),.t (.int .u8 0),.t (.int .u8 0),.t (.int .u8 0),.t (.int .u8 0),.t (.int .u8 0),.t (.int .u8 0),.t (.int .u8 0),.t (.int .u8 0)],0,0⟩),
 (251,⟨64,64,.arr 64 5,[.t (.int .u8 0),.t (.int .u8 0),.t (.int .u8 0),.t (.int .u8 0),.t (.int .u8 0),.t (.int .u8 0),.t (.int .u8 0),.t (.int .u8 0),.t (.int .u8 0),.t (.int .u8 0),.t (.int .u8 0),.t (.int .u8 0),.t (.int .u8 0),.t (.int .u8 0),.t (.int .u8 0),.t (.int .u8 0),.t (.int .u8 0),.t (.int .u8 0),.t (.int .u8 0),.t (.int .u8 0),.t (.int .u8 0),.t (.int .u8 0),.t (.int .u8 0),.t (.int .u8 0),.t (.int .u8 0),.t (.int .u8 0),.t (.int .u8 0),.t (.int .u8 0),.t (.int .u8 0),.t (.int .u8 0),.t (.int .u8 0),.t (.int .u8 0),.t (.int .u8 0),.t (.int .u8 0),.t (.int .u8 0),.t (.int .u8 0),.t (.int .u8 0),.t (.int .u8 0),.t (.int .u8 0),.t (.int .u8 0),.t (.int .u8 0),.t (.int .u8 0),.t (.int .u8 0),.t (.int .u8 0),.t (.int .u8 0),.t (.int .u8 0),.t (.int .u8 0),.t (.int .u8 0),.t (.int .u8 0),.t (.int .u8 0),.t (.int .u8 0),.t (.int .u8 0),.t (.int .u8 0),.t (.int .u8 0),.t (.int .u8 0),.t (.int .u8 0),.t (.int .u8 0),.t (.int .u8 0),.t (.int .u8 0),.t (.int .u8 0),.t (.int .u8 0),.t (.int .u8 0),.t (.int .u8 0),.t (.int .u8 0)],0,0⟩)]
set_option maxRecDepth 100000 in
theorem aN:kL Proofs.Tryz.prog (bK tiL):=
 aQX (aM (bB (by kernel_rfl) (by kernel_rfl) (by kernel_rfl)) (aM (bB (by kernel_rfl) (by kernel_rfl) (by kernel_rfl)) (aM (bB (by kernel_rfl) (by kernel_rfl) (by kernel_rfl)) (aM (bB (by kernel_rfl) (by kernel_rfl) (by kernel_rfl)) (aM (bB (by kernel_rfl) (by kernel_rfl) (by kernel_rfl)) (aM (bB (by kernel_rfl) (by kernel_rfl) (by kernel_rfl)) (aM (bB (by kernel_rfl) (by kernel_rfl) (by kernel_rfl)) (aM (bB (by kernel_rfl) (by kernel_rfl) (by kernel_rfl)) (aM (bB (by kernel_rfl) (by kernel_rfl) (by kernel_rfl)) (aM (bB (by kernel_rfl) (by kernel_rfl) (by kernel_rfl)) (aM (bB (by kernel_rfl) (by kernel_rfl) (by kernel_rfl)) (aM (bB (by kernel_rfl) (by kernel_rfl) (by kernel_rfl)) (aM (bB (by kernel_rfl) (by kernel_rfl) (by kernel_rfl)) (aM (bB (by kernel_rfl) (by kernel_rfl) (by kernel_rfl)) (aM (bB (by kernel_rfl) (by kernel_rfl) (by kernel_rfl)) (aM (bB (by kernel_rfl) (by kernel_rfl) (by kernel_rfl)) (aM (bB (by kernel_rfl) (by kernel_rfl) (by kernel_rfl)) (aM (bB (by kernel_rfl) (by kernel_rfl) (by kernel_rfl)) (aM (bB (by kernel_rfl) (by kernel_rfl) (by kernel_rfl)) (aM (bB (by kernel_rfl) (by kernel_rfl) (by kernel_rfl)) (aM (bB (by kernel_rfl) (by kernel_rfl) (by kernel_rfl)) (aM (bB (by kernel_rfl) (by kernel_rfl) (by kernel_rfl)) (aM (bB (by kernel_rfl) (by kernel_rfl) (by kernel_rfl)) (aM (bB (by kernel_rfl) (by kernel_rfl) (by kernel_rfl)) (aM (bB (by kernel_rfl) (by kernel_rfl) (by kernel_rfl)) (aM (bB (by kernel_rfl) (by kernel_rfl) (by kernel_rfl)) (aM (bB (by kernel_rfl) (by kernel_rfl) (by kernel_rfl)) (aM (bB (by kernel_rfl) (by kernel_rfl) (by kernel_rfl)) (aM (bB (by kernel_rfl) (by kernel_rfl) (by kernel_rfl)) (aM (bB (by kernel_rfl) (by kernel_rfl) (by kernel_rfl)) (aM (bB (by kernel_rfl) (by kernel_rfl) (by kernel_rfl)) (aM (bB (by kernel_rfl) (by kernel_rfl) (by kernel_rfl)) (aM (bB (by kernel_rfl) (by kernel_rfl) (by kernel_rfl)) (aM (bB (by kernel_rfl) (by kernel_rfl) (by kernel_rfl)) (aM (bB (by kernel_rfl) (by kernel_rfl) (by kernel_rfl)) (aM (bB (by kernel_rfl) (by kernel_rfl) (by kernel_rfl)) (aM (bB (by kernel_rfl) (by kernel_rfl) (by kernel_rfl)) (aM (bB (by kernel_rfl) (by kernel_rfl) (by kernel_rfl)) (aM (bB (by kernel_rfl) (by kernel_rfl) (by kernel_rfl)) (aM (bB (by kernel_rfl) (by kernel_rfl) (by kernel_rfl)) (aM (bB (by kernel_rfl) (by kernel_rfl) (by kernel_rfl)) (aM (bB (by kernel_rfl) (by kernel_rfl) (by kernel_rfl)) (aM (bB (by kernel_rfl) (by kernel_rfl) (by kernel_rfl)) (aM (bB (by kernel_rfl) (by kernel_rfl) (by kernel_rfl)) (aM (bB (by kernel_rfl) (by kernel_rfl) (by kernel_rfl)) (aM (bB (by kernel_rfl) (by kernel_rfl) (by kernel_rfl)) (aM (bB (by kernel_rfl) (by kernel_rfl) (by kernel_rfl)) (aM (bB (by kernel_rfl) (by kernel_rfl) (by kernel_rfl)) (aM (bB (by kernel_rfl) (by kernel_rfl) (by kernel_rfl)) (aM (bB (by kernel_rfl) (by kernel_rfl) (by kernel_rfl)) (aM (bB (by kernel_rfl) (by kernel_rfl) (by kernel_rfl)) (aM (bB (by kernel_rfl) (by kernel_rfl) (by kernel_rfl)) (aM (bB (by kernel_rfl) (by kernel_rfl) (by kernel_rfl)) (aM (bB (by kernel_rfl) (by kernel_rfl) (by kernel_rfl)) (aM (bB (by kernel_rfl) (by kernel_rfl) (by kernel_rfl)) (aM (bB (by kernel_rfl) (by kernel_rfl) (by kernel_rfl)) (aM (bB (by kernel_rfl) (by kernel_rfl) (by kernel_rfl)) (aM (bB (by kernel_rfl) (by kernel_rfl) (by kernel_rfl)) (aM (bB (by kernel_rfl) (by kernel_rfl) (by kernel_rfl)) (aM (bB (by kernel_rfl) (by kernel_rfl) (by kernel_rfl)) (aM (bB (by kernel_rfl) (by kernel_rfl) (by kernel_rfl)) (aM (bB (by kernel_rfl) (by kernel_rfl) (by kernel_rfl)) (aM (bB (by kernel_rfl) (by kernel_rfl) (by kernel_rfl)) (aM (bB (by kernel_rfl) (by kernel_rfl) (by kernel_rfl)) (aM (bB (by kernel_rfl) (by kernel_rfl) (by kernel_rfl)) (aM (bB (by kernel_rfl) (by kernel_rfl) (by kernel_rfl)) (aM (bB (by kernel_rfl) (by kernel_rfl) (by kernel_rfl)) (aM (bB (by kernel_rfl) (by kernel_rfl) (by kernel_rfl)) (aM (bB (by kernel_rfl) (by kernel_rfl) (by kernel_rfl)) (aM (bB (by kernel_rfl) (by kernel_rfl) (by kernel_rfl)) (aM (bB (by kernel_rfl) (by kernel_rfl) (by kernel_rfl)) (aM (bB (by kernel_rfl) (by kernel_rfl) (by kernel_rfl)) (aM (bB (by kernel_rfl) (by kernel_rfl) (by kernel_rfl)) (aM (bB (by kernel_rfl) (by kernel_rfl) (by kernel_rfl)) (aM (bB (by kernel_rfl) (by kernel_rfl) (by kernel_rfl)) (aM (bB (by kernel_rfl) (by kernel_rfl) (by kernel_rfl)) (aM (bB (by kernel_rfl) (by kernel_rfl) (by kernel_rfl)) (aM (bB (by kernel_rfl) (by kernel_rfl) (by kernel_rfl)) (aM (bB (by kernel_rfl) (by kernel_rfl) (by kernel_rfl)) (aM (bB (by kernel_rfl) (by kernel_rfl) (by kernel_rfl)) (aM (bB (by kernel_rfl) (by kernel_rfl) (by kernel_rfl)) (aM (bB (by kernel_rfl) (by kernel_rfl) (by kernel_rfl)) (aM (bB (by kernel_rfl) (by kernel_rfl) (by kernel_rfl)) (aM (bB (by kernel_rfl) (by kernel_rfl) (by kernel_rfl)) (aM (bB (by kernel_rfl) (by kernel_rfl) (by kernel_rfl)) aID)))))))))))))))))))))))))))))))))))))))))))))))))))))))))))))))))))))))))))))))))))))
abbrev TP:=Tr Proofs.Tryz.prog
section
variable {F:Nat->Prop} {g:Nat->Value} {w:World}
end
section
variable {P:Program} {k:FuncId}
end
section
variable {P:Program} {k:Nat} {R:Type} {x:Option R} {ret:R->PV}
theorem aDF{l1 l2:List PV}{p p':PV}(hp:∀ F g w v,VR F g w p v->VR F g w p' v)(h:Con P k (l1++p'::l2) x ret):Con P k (l1++p::l2) x ret:=by
 refine⟨h.c,fun y hy=>?_⟩;intro F g w vs hs hv;refine h.h y hy F g w vs (by simpa using hs) fun j q v hj hvj=>?_;by_cases hj1:j=l1.length
 ·subst hj1;have hj:p'=q:=by simpa using hj
  subst hj;exact hp F g w v (hv l1.length _ v (by simp) hvj)
 ·refine hv j q v ?_ hvj;rw[List.getElem?_append]at hj ⊢;split at hj
  ·rename_i hlt; rw[aA hlt]; exact hj
  ·rename_i hlt;rw[aF hlt];obtain⟨m,hm⟩:∃ m,j-l1.length=m+1:=⟨j-l1.length-1,by omega⟩;rw[hm]at hj ⊢;simpa using hj
theorem bAR(l1 cs l2:List PV){ts:List T}(hc:jE cs ts)(h:Con P k (l1 ++ .t (.agg ts)::l2) x ret):Con P k (l1 ++ .agg cs::l2) x ret:=aDF (Ae hc) h
theorem aYZ(l1:List PV)(us:List T)(l2:List PV){ts:List T}(hc:jE (us.map PV.t) ts)(h:Con P k (l1 ++ .t (.agg ts)::l2) x ret):Con P k (l1 ++ .t (.agg us)::l2) x ret:=
 aDF (fun F g w v hv=>by
  cases hv with
  | t hv=>cases hv with
   | nil hv=>cases hv
   | sl a cap size vs hv=>cases hv
   | agg hs hr=>exact Ae hc F g w _ (.agg (by simpa using hs) fun j p u hp hu=>by simp only[fD,gB]at hp;obtain⟨y,hy,rfl⟩:=hp;exact .t (hr j y u hy hu))) h
theorem aTJ{α:Type}[Inhabited α](l1 cs:List PV)(xs:List α)(lo hi:Int)(l2:List PV){ts:List T}(hc:0<=lo/\lo<=hi/\hi<=(xs.length:Int)->jE cs ts)(h:Con P k (l1 ++ .t (.agg ts)::l2) x ret):
  Con P k (l1 ++ .agg cs::l2) (if 0<=lo/\lo<=hi/\hi<=(xs.length:Int) then x else none) ret:=by
 by_cases hg:0<=lo/\lo<=hi/\hi<=(xs.length:Int)
 ·rw[aA hg]; exact bAR l1 cs l2 (hc hg) h
 ·rw[aF hg]; exact⟨h.c,fun y hy=>by cases hy⟩
end
end Go.PL
namespace Go.Proofs
open Go.Shelf Go.RowKit
set_option maxRecDepth 100000 in
theorem Tryz.copyCheck_used(b:Nat)(w:World)(h0:w.cell? ⟨b,0,none⟩=some (.pointer (some ⟨b,0,none⟩))):
  Calls Tryz.prog 97 #[.pointer (some ⟨b,0,none⟩)] w fun e w'=>e = .returned (.tuple #[])/\w'=w:=by
 have hsz:(Tryz.prog.info? 86).map (·.size)=some 2:=by kernel_rfl
 obtain⟨j,hj,_⟩:=Option.map_eq_some_iff.1 hsz;have mixed:Tryz.prog.follows .mixedOrders=true:=by kernel_rfl
 have t72:=Tryz.underlying86; have a72:=Tryz.isAgg86; have z72:=Tryz.sizeOf86; have v72:=Tryz.zeroValue86; have u72:=run_underlying t72;have t70:=Tryz.underlying83; have a70:=Tryz.isAgg83; have z70:=Tryz.sizeOf83; have v70:=Tryz.zeroValue83; have u70:=run_underlying t70;have t4:=Tryz.underlying4; have a4:=Tryz.isAgg4; have z4:=Tryz.sizeOf4; have v4:=Tryz.zeroValue4; have u4:=run_underlying t4;have t164:=Tryz.underlying179; have a164:=Tryz.isAgg179; have z164:=Tryz.sizeOf179; have v164:=Tryz.zeroValue179; have u164:=run_underlying t164
 go_enter Tryz.func97,Tryz.ntmps97
 go_wp2
 rw[Lib.run_neq_ptr_same w _ t70 hj]
 go_wp2
 go_end0
 exact⟨rfl,rfl⟩
set_option maxRecDepth 100000 in
theorem Tryz.copyCheck_fresh(b:Nat)(w:World)(h0:w.cell? ⟨b,0,none⟩=some (.pointer none))(hsh:w.shape? b=some (86,2))(hfz:w.frozen? ⟨b,0,none⟩=false):
  Calls Tryz.prog 97 #[.pointer (some ⟨b,0,none⟩)] w fun e w'=>e = .returned (.tuple #[])/\w'=w.setCell ⟨b,0,none⟩ (.pointer (some ⟨b,0,none⟩)):=by
 have hsz:(Tryz.prog.info? 86).map (·.size)=some 2:=by kernel_rfl
 obtain⟨j,hj,hjs⟩:=Option.map_eq_some_iff.1 hsz;have lies:liesAt Tryz.prog Tryz.prog.depth 86 (2 / Tryz.prog.cellsOf 86) 0 86 1=true:=by kernel_rfl
 have mixed:Tryz.prog.follows .mixedOrders=true:=by kernel_rfl
 have t72:=Tryz.underlying86; have a72:=Tryz.isAgg86; have z72:=Tryz.sizeOf86; have v72:=Tryz.zeroValue86; have u72:=run_underlying t72;have t70:=Tryz.underlying83; have a70:=Tryz.isAgg83; have z70:=Tryz.sizeOf83; have v70:=Tryz.zeroValue83; have u70:=run_underlying t70;have t4:=Tryz.underlying4; have a4:=Tryz.isAgg4; have z4:=Tryz.sizeOf4; have v4:=Tryz.zeroValue4; have u4:=run_underlying t4;have t164:=Tryz.underlying179; have a164:=Tryz.isAgg179; have z164:=Tryz.sizeOf179; have v164:=Tryz.zeroValue179; have u164:=run_underlying t164
 go_enter Tryz.func97,Tryz.ntmps97
 go_wp2
 rw[Lib.run_to_unsafe w ⟨b,0,none⟩ t70 t164 hj (by rw[hjs]; decide) hsh (Nat.zero_lt_succ 1)];simp only[Result.andThen];rw[Oper.upon_value]
 go_wp2
 rw[run_callFunc_extern Tryz.func144 (by kernel_rfl) (by kernel_rfl) (by kernel_rfl) (e:=Extern.AbiNoEscape.same) (by kernel_rfl)];rw[Lib.run_noEscape];simp only[Result.andThen];rw[Oper.upon_value]
 go_wp2
 rw[Lib.run_from_unsafe w ⟨b,0,none⟩ t164 t70 hj hsh lies];simp only[Result.andThen];rw[Oper.upon_value]
 go_wp2
 go_end0
 exact⟨rfl,rfl⟩
set_option maxRecDepth 100000 in
theorem Tryz.String_row(b g cap:Nat)(p:Value)(cur:Array Value)(l:List UInt8)(h0:l≠[])(w:World)(hbk:w.heap[b]? = some (.cells #[p,.slice (some ⟨g,0,none⟩) l.length cap] 86 (0,0)))
  (hg:w.heap[g]? = some (.cells cur 5 (0,0)))(hnc:l.length<=cap)(hcm:cap<=maxLen)(hcs:cur.size=cap*1)(hcell:∀ (j:Nat) (x:UInt8),l[j]? = some x->cur[j]? = some (Value.int .u8 (x.toNat:Int))):
  Calls Tryz.prog 50 #[.pointer (some ⟨b,0,none⟩)] w fun e w'=>e = .returned (.string ⟨l.toArray⟩)/\w'=w.drew.freeze ⟨g,0,none⟩ l.length:=by
 have hl0:l.length≠0:=by simpa using h0
 have c1:w.drew.cell? ⟨b,1,none⟩=some (.slice (some ⟨g,0,none⟩) l.length cap):=by have:w.drew.heap[b]? = some (.cells #[p,.slice (some ⟨g,0,none⟩) l.length cap] 86 (0,0)):=hbk;rw[Lib.cell_of_heap this]; rfl
 have hSD:(Builtin.unsafeSliceData_ #[84] 137 #[.slice (some ⟨g,0,none⟩) l.length cap]).run Tryz.prog w.drew = .ok (.pointer (some ⟨g,0,none⟩)) w.drew:=
  Lib.run_unsafeSliceData_row _ _ _ _ _ _ (by omega)
 have hUS:(Builtin.unsafeString_ #[137,3] 9 #[.pointer (some ⟨g,0,none⟩),.int .i64 l.length]).run Tryz.prog w.drew = .ok (.string ⟨l.toArray⟩) (w.drew.freeze ⟨g,0,none⟩ l.length):=by refine Lib.run_unsafeString_row w.drew 137 3 9 5 Tryz.underlying137 (by kernel_rfl) g cur.size (by have hg':w.drew.heap[g]? = some (.cells cur 5 (0,0)):=hg; simp[World.shape?,hg']) l h0 (by omega) (by unfold maxLen at hcm; omega) ?_;intro j x hx;have hg':w.drew.heap[g]? = some (.cells cur 5 (0,0)):=hg;rw[Go.PL.Addr.add_none,Nat.zero_add,Lib.cell_of_heap hg'];exact hcell j x hx
 have mixed:Tryz.prog.follows .mixedOrders=true:=by kernel_rfl
 have t72:=Tryz.underlying86; have a72:=Tryz.isAgg86; have z72:=Tryz.sizeOf86; have v72:=Tryz.zeroValue86; have u72:=run_underlying t72;have t70:=Tryz.underlying83; have a70:=Tryz.isAgg83; have z70:=Tryz.sizeOf83; have v70:=Tryz.zeroValue83; have u70:=run_underlying t70;have t37:=Tryz.underlying84; have a37:=Tryz.isAgg84; have z37:=Tryz.sizeOf84; have v37:=Tryz.zeroValue84; have u37:=run_underlying t37;have t127:=Tryz.underlying137; have a127:=Tryz.isAgg137; have z127:=Tryz.sizeOf137; have v127:=Tryz.zeroValue137; have u127:=run_underlying t127;have t3:=Tryz.underlying3; have a3:=Tryz.isAgg3; have z3:=Tryz.sizeOf3; have v3:=Tryz.zeroValue3; have u3:=run_underlying t3;have t9:=Tryz.underlying9; have a9:=Tryz.isAgg9; have z9:=Tryz.sizeOf9; have v9:=Tryz.zeroValue9; have u9:=run_underlying t9;have t5:=Tryz.underlying5; have a5:=Tryz.isAgg5; have z5:=Tryz.sizeOf5; have v5:=Tryz.zeroValue5; have u5:=run_underlying t5
 go_enter Tryz.func50,Tryz.ntmps50
 go_wp2
 go_region_o
 all_goals (go_wp2; go_ret; exact⟨rfl,rfl⟩)
set_option maxRecDepth 100000 in
theorem Tryz.String_nil(b:Nat)(p:Value)(w:World)(hbk:w.heap[b]? = some (.cells #[p,.slice none 0 0] 86 (0,0))):
  Calls Tryz.prog 50 #[.pointer (some ⟨b,0,none⟩)] w fun e w'=>e = .returned (.string ⟨#[]⟩)/\w'=w.drew:=by
 have hUS:∀ W q,(Builtin.unsafeString_ #[137,3] 9 #[.pointer q,.int .i64 0]).run Tryz.prog W = .ok (.string .empty) W:=fun W q=>Lib.run_unsafeString_none W _ _ _ q;have c1:w.drew.cell? ⟨b,1,none⟩=some (.slice none 0 0):=by have:w.drew.heap[b]? = some (.cells #[p,.slice none 0 0] 86 (0,0)):=hbk;rw[Lib.cell_of_heap this]; rfl
 have hSD:(Builtin.unsafeSliceData_ #[84] 137 #[.slice none 0 0]).run Tryz.prog w.drew = .ok (.pointer none) w.drew:=rfl;have mixed:Tryz.prog.follows .mixedOrders=true:=by kernel_rfl
 have t72:=Tryz.underlying86; have a72:=Tryz.isAgg86; have z72:=Tryz.sizeOf86; have v72:=Tryz.zeroValue86; have u72:=run_underlying t72;have t70:=Tryz.underlying83; have a70:=Tryz.isAgg83; have z70:=Tryz.sizeOf83; have v70:=Tryz.zeroValue83; have u70:=run_underlying t70;have t37:=Tryz.underlying84; have a37:=Tryz.isAgg84; have z37:=Tryz.sizeOf84; have v37:=Tryz.zeroValue84; have u37:=run_underlying t37;have t127:=Tryz.underlying137; have a127:=Tryz.isAgg137; have z127:=Tryz.sizeOf137; have v127:=Tryz.zeroValue137; have u127:=run_underlying t127;have t3:=Tryz.underlying3; have a3:=Tryz.isAgg3; have z3:=Tryz.sizeOf3; have v3:=Tryz.zeroValue3; have u3:=run_underlying t3;have t9:=Tryz.underlying9; have a9:=Tryz.isAgg9; have z9:=Tryz.sizeOf9; have v9:=Tryz.zeroValue9; have u9:=run_underlying t9;have t5:=Tryz.underlying5; have a5:=Tryz.isAgg5; have z5:=Tryz.sizeOf5; have v5:=Tryz.zeroValue5; have u5:=run_underlying t5
 go_enter Tryz.func50,Tryz.ntmps50
 go_wp2
 go_region_o
 all_goals (go_wp2; go_ret; exact⟨rfl,rfl⟩)
set_option maxRecDepth 100000 in
theorem Tryz.String_noroom(b g:Nat)(p:Value)(cur:Array Value)(w:World)(hlt:b<w.heap.size)(hbk:w.heap[b]? = some (.cells #[p,.slice (some ⟨g,0,none⟩) 0 0] 86 (0,0)))(hg:w.heap[g]? = some (.cells cur 5 (0,0))):
  Calls Tryz.prog 50 #[.pointer (some ⟨b,0,none⟩)] w fun e w'=>e = .returned (.string ⟨#[]⟩)/\w'=w.drew.alloc (.view ⟨g,0,none⟩ 5):=by
 have hUS:∀ W q,(Builtin.unsafeString_ #[137,3] 9 #[.pointer q,.int .i64 0]).run Tryz.prog W = .ok (.string .empty) W:=fun W q=>Lib.run_unsafeString_none W _ _ _ q;have c1:w.drew.cell? ⟨b,1,none⟩=some (.slice (some ⟨g,0,none⟩) 0 0):=by have:w.drew.heap[b]? = some (.cells #[p,.slice (some ⟨g,0,none⟩) 0 0] 86 (0,0)):=hbk;rw[Lib.cell_of_heap this]; rfl
 have hSD:(Builtin.unsafeSliceData_ #[84] 137 #[.slice (some ⟨g,0,none⟩) 0 0]).run Tryz.prog w.drew = .ok (.pointer (some ⟨w.drew.heap.size,0,none⟩)) (w.drew.alloc (.view ⟨g,0,none⟩ 5)):=
  Lib.run_unsafeSliceData_zero w.drew _ _ 5 Tryz.underlying137 ⟨g,0,none⟩ 0 (5,cur.size) (by have hg':w.drew.heap[g]? = some (.cells cur 5 (0,0)):=hg; simp[World.shape?,hg'])
 have c2:(w.drew.alloc (.view ⟨g,0,none⟩ 5)).cell? ⟨b,1,none⟩=some (.slice (some ⟨g,0,none⟩) 0 0):=by have:(w.drew.alloc (.view ⟨g,0,none⟩ 5)).heap[b]? = _:=(Lib.alloc_old w.drew _ b hlt).trans hbk;rw[Lib.cell_of_heap this]; rfl
 have c3:(w.alloc (.view ⟨g,0,none⟩ 5)).drew.cell? ⟨b,1,none⟩=some (.slice (some ⟨g,0,none⟩) 0 0):=c2;have c0:w.cell? ⟨b,1,none⟩=some (.slice (some ⟨g,0,none⟩) 0 0):=c1;have mixed:Tryz.prog.follows .mixedOrders=true:=by kernel_rfl
 have t72:=Tryz.underlying86; have a72:=Tryz.isAgg86; have z72:=Tryz.sizeOf86; have v72:=Tryz.zeroValue86; have u72:=run_underlying t72;have t70:=Tryz.underlying83; have a70:=Tryz.isAgg83; have z70:=Tryz.sizeOf83; have v70:=Tryz.zeroValue83; have u70:=run_underlying t70;have t37:=Tryz.underlying84; have a37:=Tryz.isAgg84; have z37:=Tryz.sizeOf84; have v37:=Tryz.zeroValue84; have u37:=run_underlying t37;have t127:=Tryz.underlying137; have a127:=Tryz.isAgg137; have z127:=Tryz.sizeOf137; have v127:=Tryz.zeroValue137; have u127:=run_underlying t127;have t3:=Tryz.underlying3; have a3:=Tryz.isAgg3; have z3:=Tryz.sizeOf3; have v3:=Tryz.zeroValue3; have u3:=run_underlying t3;have t9:=Tryz.underlying9; have a9:=Tryz.isAgg9; have z9:=Tryz.sizeOf9; have v9:=Tryz.zeroValue9; have u9:=run_underlying t9;have t5:=Tryz.underlying5; have a5:=Tryz.isAgg5; have z5:=Tryz.sizeOf5; have v5:=Tryz.zeroValue5; have u5:=run_underlying t5
 go_enter Tryz.func50,Tryz.ntmps50
 go_wp2
 go_region_o
 all_goals (go_wp2; go_ret; exact⟨rfl,rfl⟩)
set_option maxRecDepth 100000 in
theorem Tryz.String_room(b g cap:Nat)(p:Value)(w:World)(hc0:cap≠0)(hbk:w.heap[b]? = some (.cells #[p,.slice (some ⟨g,0,none⟩) 0 cap] 86 (0,0))):
  Calls Tryz.prog 50 #[.pointer (some ⟨b,0,none⟩)] w fun e w'=>e = .returned (.string ⟨#[]⟩)/\w'=w.drew:=by
 have hUS:∀ W q,(Builtin.unsafeString_ #[137,3] 9 #[.pointer q,.int .i64 0]).run Tryz.prog W = .ok (.string .empty) W:=fun W q=>Lib.run_unsafeString_none W _ _ _ q;have c1:w.drew.cell? ⟨b,1,none⟩=some (.slice (some ⟨g,0,none⟩) 0 cap):=by have:w.drew.heap[b]? = some (.cells #[p,.slice (some ⟨g,0,none⟩) 0 cap] 86 (0,0)):=hbk;rw[Lib.cell_of_heap this]; rfl
 have hSD:(Builtin.unsafeSliceData_ #[84] 137 #[.slice (some ⟨g,0,none⟩) 0 cap]).run Tryz.prog w.drew = .ok (.pointer (some ⟨g,0,none⟩)) w.drew:=
  Lib.run_unsafeSliceData_row _ _ _ _ _ _ hc0
 clear hc0;have mixed:Tryz.prog.follows .mixedOrders=true:=by kernel_rfl
 have t72:=Tryz.underlying86; have a72:=Tryz.isAgg86; have z72:=Tryz.sizeOf86; have v72:=Tryz.zeroValue86; have u72:=run_underlying t72;have t70:=Tryz.underlying83; have a70:=Tryz.isAgg83; have z70:=Tryz.sizeOf83; have v70:=Tryz.zeroValue83; have u70:=run_underlying t70;have t37:=Tryz.underlying84; have a37:=Tryz.isAgg84; have z37:=Tryz.sizeOf84; have v37:=Tryz.zeroValue84; have u37:=run_underlying t37;have t127:=Tryz.underlying137; have a127:=Tryz.isAgg137; have z127:=Tryz.sizeOf137; have v127:=Tryz.zeroValue137; have u127:=run_underlying t127;have t3:=Tryz.underlying3; have a3:=Tryz.isAgg3; have z3:=Tryz.sizeOf3; have v3:=Tryz.zeroValue3; have u3:=run_underlying t3;have t9:=Tryz.underlying9; have a9:=Tryz.isAgg9; have z9:=Tryz.sizeOf9; have v9:=Tryz.zeroValue9; have u9:=run_underlying t9;have t5:=Tryz.underlying5; have a5:=Tryz.isAgg5; have z5:=Tryz.sizeOf5; have v5:=Tryz.zeroValue5; have u5:=run_underlying t5
 go_enter Tryz.func50,Tryz.ntmps50
 go_wp2
 go_region_o
 all_goals (go_wp2; go_ret; exact⟨rfl,rfl⟩)
end Go.Proofs
namespace Go.Proofs
open Go.Shelf Go.RowKit
theorem uK{P:Program}{w:World}{ops:Array Oper}{rest:List Oper}{o:Oper}{a:Act}{Q:Exit->Act->World->Prop}(hgd:o.guard=none)(sl x:Operand)(t u:TypeId)
  (ho:o.op = .call { callee:=.builtin .append,args:=#[sl,x],argTypes:=#[t,u] })(ty:TypeId)(hty:o.type=ty)(v:Value)(s:ByteArray)(hs:a.eval sl=v)(hx:a.eval x = .string s)(v':Value)(w':World)
  (hr:(Builtin.append_ #[t,u] ty #[v,.string s]).run P w = .ok v' w')(h:wpList P ops Q rest (a.put o.dst v') w'):wpList P ops Q (o::rest) a w:=by
 refine wpList_plain hgd fun K hK=>?_;unfold Oper.wp execOp;simp only[ho,hty,resolve,invoke,builtin,Sem.run_bind,Sem.run_pure,Result.andThen_ok,List.map_toArray,List.map_cons,List.map_nil,hs,hx,hr];exact hK _ _ h
set_option maxRecDepth 100000 in
theorem Tryz.WriteString_ex(b:Nat)(v:Value)(ao:Option Addr)(n' cap:Nat)(s:ByteArray)(w w1 w2:World)(hcc:Calls Tryz.prog 97 #[.pointer (some ⟨b,0,none⟩)] w fun e w'=>e = .returned (.tuple #[])/\w'=w1)
  (hbk:w1.heap[b]? = some (.cells #[.pointer (some ⟨b,0,none⟩),v] 86 (0,0)))(hap:(Builtin.append_ #[84,9] 84 #[v,.string s]).run Tryz.prog w1 = .ok (.slice ao n' cap) w2)
  (hb2:w2.heap[b]? = some (.cells #[.pointer (some ⟨b,0,none⟩),v] 86 (0,0))):
  Calls Tryz.prog 47 #[.pointer (some ⟨b,0,none⟩),.string s] w fun e w'=>e = .returned (.tuple #[.int .i64 s.size,.nilIface])/\w'=w2.setCell ⟨b,1,none⟩ (.slice ao n' cap):=by
 have mixed:Tryz.prog.follows .mixedOrders=true:=by kernel_rfl
 have t72:=Tryz.underlying86; have a72:=Tryz.isAgg86; have z72:=Tryz.sizeOf86; have v72:=Tryz.zeroValue86; have u72:=run_underlying t72;have t70:=Tryz.underlying83; have a70:=Tryz.isAgg83; have z70:=Tryz.sizeOf83; have v70:=Tryz.zeroValue83; have u70:=run_underlying t70;have t37:=Tryz.underlying84; have a37:=Tryz.isAgg84; have z37:=Tryz.sizeOf84; have v37:=Tryz.zeroValue84; have u37:=run_underlying t37;have t3:=Tryz.underlying3; have a3:=Tryz.isAgg3; have z3:=Tryz.sizeOf3; have v3:=Tryz.zeroValue3; have u3:=run_underlying t3;have t9:=Tryz.underlying9; have a9:=Tryz.isAgg9; have z9:=Tryz.sizeOf9; have v9:=Tryz.zeroValue9; have u9:=run_underlying t9;have t4:=Tryz.underlying4; have a4:=Tryz.isAgg4; have z4:=Tryz.sizeOf4; have v4:=Tryz.zeroValue4; have u4:=run_underlying t4;have t5:=Tryz.underlying5; have a5:=Tryz.isAgg5; have z5:=Tryz.sizeOf5; have v5:=Tryz.zeroValue5; have u5:=run_underlying t5;have e167:∀ args w,(callFunc 97 args).run Tryz.prog w = .ok (.enter 97 args) w:=enters_of Tryz.func97 (by kernel_rfl) rfl
 go_enter Tryz.func47,Tryz.ntmps47
 go_wp2_with (go_at_fn 97; refine hcc.mono ?_)
 rintro e w' ⟨rfl,rfl⟩;have c0:w'.cell? ⟨b,0,none⟩=some (.pointer (some ⟨b,0,none⟩)):=by rw[Lib.cell_of_heap hbk]; rfl
 have c1:w'.cell? ⟨b,1,none⟩=some v:=by rw[Lib.cell_of_heap hbk]; rfl
 have d0:w2.cell? ⟨b,0,none⟩=some (.pointer (some ⟨b,0,none⟩)):=by rw[Lib.cell_of_heap hb2]; rfl
 have d1:w2.cell? ⟨b,1,none⟩=some v:=by rw[Lib.cell_of_heap hb2]; rfl
 have f1:w2.frozen? ⟨b,1,none⟩=false:=Lib.frozen_of_heap hb2 1
 go_wp2_with (at_builtin; refine uK rfl _ _ 84 9 rfl 84 rfl _ s rfl rfl _ _ hap ?_)
 go_wp2
 go_ret2
 exact⟨rfl,rfl⟩
end Go.Proofs
namespace Go.PL
open Go
theorem Zt(x:ByteArray):(⟨x.data.toList.toArray⟩:ByteArray)=x:=by cases x; simp
theorem aRF{x:ByteArray}(h:x.size=0):x=⟨#[]⟩:=by
 cases x with
 | mk d=>have:d=#[]:=xU h; rw[this]
theorem rG{g:Nat->Value}{w w':World}{F:Nat->Prop}{H:Hp}(hH:HpR F g w (fun _=>True) H)(hF:∀ b,F b->b<w.heap.size)
  (hos:w'.os=w.os)(htp:w'.tape=w.tape)(hout:w'.output=w.output)(hsz:w.heap.size<=w'.heap.size)(hb:∀ b,b<w.heap.size->¬ Own g w H b->w'.heap[b]? = w.heap[b]?):
  nC { w0:=w,F0:=F,B0:=Own g w H,g0:=g,N:=[],nt:=0 } F g [] w':=by
 refine⟨⟨fun o x h=>by simp at h,fun o x b h=>by simp at h,fun o x o' y b h=>by simp at h⟩,fun b h=>h,fun b h=>⟨zT (hF b h) hsz,.inl h⟩,⟨hos,htp,hout,hsz,hb⟩,fun o h=>by simp at h,?_⟩;rintro b ⟨o,x,h1,h2⟩;exact h2.block (hH.obj o x h1)
theorem aSR(x:ByteArray):cO Proofs.Tryz.prog 50 [.ptr 30000 0] [(30000,.bld 86 5 x)] [] (some x) (fun y=>.t (.str y)) (fun _=>[]):=by
 refine⟨bL Proofs.Tryz.func50 (by kernel_rfl),fun y hy=>?_⟩;cases hy;intro F g w vs hs hv hH hF hgl;obtain⟨b,p,v,h1,h2,h3,h4⟩:=hH.obj 30000 _ (cG.2 rfl);have h0:0<vs.size:=by rw[hs]; decide
 have hv0:=hv 0 _ vs[0] rfl (by simp[h0]);have hvs:vs=#[.pointer (some ⟨b,0,none⟩)]:=by
  have e0:vs[0] = .pointer (some ⟨b,0,none⟩):=by
   generalize vs[0]=u at hv0;cases hv0 with
   | ptr hg=>rw[h1]at hg; injection hg with hg; injection hg with hg; injection hg with hg; subst hg; rfl
  apply Array.ext
  ·rw[hs]; rfl
  ·intro q hq _;have:q=0:=by rw[hs]at hq; simp at hq; omega
   subst this;simpa using e0
 subst hvs;have post:∀ {w':World},w'.os=w.os->w'.tape=w.tape->w'.output=w.output->w.heap.size<=w'.heap.size->(∀ q,q<w.heap.size->¬ Own g w [(30000,.bld 86 5 x)] q->w'.heap[q]? = w.heap[q]?) ->
   ∃ v r H' F' g',Ending.returned (.string x) = .returned v/\pY (.t (.str x)) [] r H'/\VR F' g' w' r v/\nC { w0:=w,F0:=F,B0:=Own g w [(30000,.bld 86 5 x)],g0:=g,N:=[],nt:=0 } F' g' H' w':=
  fun e1 e2 e3 e4 e5=>⟨_,_,_,F,g,rfl,⟨rfl,rfl⟩,.t (.str _),rG hH hF e1 e2 e3 e4 e5⟩
 rcases h4 with⟨rfl,hx0⟩ | ⟨r,cap,cur,rfl,k1,k2,k3,k4,k5,k6⟩
 ·have hx:x=⟨#[]⟩:=aRF hx0;refine(Proofs.Tryz.String_nil b p w h2).mono ?_;rintro e w' ⟨rfl,rfl⟩;rw[<-hx];exact post rfl rfl rfl (fK _) (fun _ _ _=>rfl)
 ·have hblt:b<w.heap.size:=(oU.1 h2).1;by_cases hx0:x.size=0
  ·have hx:x=⟨#[]⟩:=aRF hx0;rw[hx0]at h2;by_cases hc:cap=0
   ·subst hc;refine(Proofs.Tryz.String_noroom b r p cur w hblt h2 k1).mono ?_;rintro e w' ⟨rfl,rfl⟩;rw[<-hx];exact post rfl rfl rfl (by show w.heap.size<=(w.heap.push _).size; rw[Array.size_push]; exact Nat.le_succ _) (fun q hq _=>heap_alloc_old w.drew _ hq)
   ·refine(Proofs.Tryz.String_room b r cap p w hc h2).mono ?_;rintro e w' ⟨rfl,rfl⟩;rw[<-hx];exact post rfl rfl rfl (fK _) (fun _ _ _=>rfl)
  ·have hl:x.data.toList.length=x.size:=by simp
   have hne:x.data.toList≠[]:=by intro h;rw[h]at hl;exact hx0 hl.symm
   have h2':=h2;rw[<-hl]at h2';refine(Proofs.Tryz.String_row b r cap p cur x.data.toList hne w h2' k1 (by omega) k4 (by omega) (fun q u hu=>?_)).mono ?_
   ·have hq:q<x.size:=by rw[<-hl]; exact(eK.1 hu).1
    have:=congrArg (·[q]?) k6;simp only[iR,aA hq,iF,fD,hu]at this;simpa using this
   ·rintro e w' ⟨rfl,rfl⟩;rw[Zt];have hn:x.data.toList.length≠0:=by omega
    refine post ?_ ?_ ?_ ?_ (fun q hq ho=>?_)
    ·simp only[World.freeze,aF hn]; rfl
    ·simp only[World.freeze,aF hn]; rfl
    ·simp only[World.freeze,aF hn]; rfl
    ·simp only[World.freeze,aF hn];rw[Array.size_modify];exact fK _
    ·have hqr:q≠r:=fun e=>ho ⟨30000,_,cG.2 rfl,.bld h1 h2 (by rw[e]; rfl)⟩;simp only[World.freeze,aF hn];rw[Jd,aF (fun e=>hqr e.symm)];rfl
end Go.PL
namespace Go.PL
open Go Go.Lib
theorem pH(w:World)(b q:Nat)(u c0 c1:Value)(ty:Nat)(hb:w.heap[b]? = some (.cells #[c0,c1] ty (0,0)))(_hq:q<2):
  (w.setCell ⟨b,q,none⟩ u).heap[b]? = some (.cells (#[c0,c1].setIfInBounds q u) ty (0,0)):=by
 simp[World.setCell,Jd,hb]
theorem jD(w:World)(b q k:Nat)(u:Value)(hk:k≠b):(w.setCell ⟨b,q,none⟩ u).heap[k]? = w.heap[k]?:=by simp[World.setCell,Jd,Ne.symm hk]
theorem pB(w:World)(b q:Nat)(u:Value):(w.setCell ⟨b,q,none⟩ u).heap.size=w.heap.size:=by simp[World.setCell]
def aQV(w:World)(v:Value)(s:ByteArray):Prop:=
 (v = .slice none 0 0/\s.size=0)\/∃ r cap cur,v = .slice (some ⟨r,0,none⟩) s.size cap/\w.heap[r]? = some (.cells cur 5 (0,0))/\s.size<=cap/\cap<=maxLen/\cur.size=cap/\cur.toList.take s.size=iF s
theorem tF(x s:ByteArray):iF (x++s)=iF x++iF s:=by simp[iF,ByteArray.data_append]
theorem lM(s:ByteArray):(iF s).length=s.size:=by simp[iF]
theorem Pf(x s:ByteArray)(w:World)(v:Value)(hr:aQV w v x)(hC:x.size+s.size<=140737488355328):
  ∃ ao n cap w2,(Builtin.append_ #[84,9] 84 #[v,.string s]).run Proofs.Tryz.prog w = .ok (.slice ao n cap) w2/\aQV w2 (.slice ao n cap) (x++s)/\(∀ k,k<w.heap.size->blk v≠some k->w2.heap[k]? = w.heap[k]?) /\
   w.heap.size<=w2.heap.size/\w2.os=w.os/\w2.tape=w.tape/\w2.output=w.output/\(∀ k,blk (.slice ao n cap)=some k->blk v=some k\/w.heap.size<=k):=by
 have htx:Proofs.Tryz.prog.underlying 9=some .string:=Proofs.Tryz.underlying9;have ht:Proofs.Tryz.prog.underlying 84=some (.slice 5):=Proofs.Tryz.underlying84;have hi0:(Proofs.Tryz.prog.info? 5).map (fun i=>(i.zero,i.size,i.bytes))=some (some (.int .u8 0),1,1):=by kernel_rfl
 obtain⟨i,hi,hi1⟩:=gB.1 hi0;injection hi1 with hz hi2;injection hi2 with hs hb;have hsz:(x++s).size=x.size+s.size:=ByteArray.size_append;have hsc:strCells s=iF s:=rfl;rcases hr with⟨rfl,hx0⟩ | ⟨r,cap,cur,rfl,h1,h2,h3,h4,h5⟩
 ·have hx:iF (x++s)=iF s:=by have h0:iF x=[]:=lW (by rw[lM]; exact hx0);rw[tF,h0,pC]
  by_cases hs0:s.size=0
  ·refine⟨none,0,0,w,?_,.inl ⟨rfl,by omega⟩,fun _ _ _=>rfl,fK _,rfl,rfl,rfl,fun k h=>by simp[blk]at h⟩;simp[Builtin.append_,run_underlying ht,run_underlying htx,sizeOf,typeInfo,hi,Builtin.lenOf,hs0,Builtin.firstCells]
  ·have hrun:=oG (P:=Proofs.Tryz.prog) w 84 9 84 5 i _ ht htx hi hz s (by omega) (by omega) (by rw[hb]; omega);refine⟨_,_,_,_,hrun,.inr ⟨_,_,_,by rw[hsz,hx0,eW]; rfl,heap_alloc_new w.drew _,?_,?_,?_,?_⟩,fun k hk _=>heap_alloc_old w.drew _ hk,?_,rfl,rfl,rfl,fun k h=>?_⟩
   ·rw[hsz,hx0,eW]; exact grownCap_ge w s.size 0 5
   ·exact grownCap_le_maxLen w s.size 0 5 (by simp only[maxLen]; omega)
   ·have:=grownCap_ge w s.size 0 5;simp only[jO,lX,strCells_length,size_zeroCells];simp[Value.cells]; omega
   ·rw[hx,hsz,hx0,eW];simp only[Array.toList_append];rw[Pz (by simp[strCells_length]),fS (by simp[strCells_length])];simp[hsc]
   ·show w.heap.size<=(w.heap.push _).size; rw[Array.size_push]; exact Nat.le_succ _
   ·simp[blk]at h; right; omega
 ·have hrl:r<w.heap.size:=(oU.1 h1).1;by_cases hroom:x.size+s.size<=cap
  ·have hrun:=run_append_room_string (P:=Proofs.Tryz.prog) w 84 9 84 5 i ht htx hi hs r x.size cap cur h1 s hroom (by omega);refine⟨_,_,_,_,hrun,.inr ⟨r,cap,_,by rw[hsz],setRow_heap w r cur _ 5 _ h1,by omega,h3,?_,?_⟩,fun k hk hne=>setRow_other w r k _ (fun e=>hne (by rw[e]; rfl)),by simp,rfl,rfl,rfl,fun k h=>.inl h⟩
   ·simp only[lX,cZ,dM,fI,strCells_length,jH]; omega
   ·rw[hsz,tF,hsc,h5];have hl1:(iF x++iF s).length=x.size+s.size:=by simp[lM]
    rw[Pz (by omega),fS (by omega)]
  ·have hol:(cur.toList.take x.size).length=x.size*i.size:=by rw[hs]; simp only[dM,jH]; omega
   have hrun:=run_append_grow_string (P:=Proofs.Tryz.prog) w 84 9 84 5 i _ ht htx hi hz ⟨r,0,none⟩ x.size cap (cur.toList.take x.size) hol (fun k u hu=>by
    rw[Addr.add_none,eW];rw[iR]at hu;split at hu
    ·simpa[World.cell?,h1] using hu
    ·cases hu) s (by omega) (by omega) (growslice_fits (by omega) (by rw[hb]; omega))
   refine⟨_,_,_,_,hrun,.inr ⟨_,_,_,by rw[hsz]; rfl,heap_alloc_new w.drew _,?_,?_,?_,?_⟩,fun k hk _=>heap_alloc_old w.drew _ hk,?_,rfl,rfl,rfl,fun k h=>?_⟩
   ·rw[hsz]; exact grownCap_ge w (x.size+s.size) cap 5
   ·exact grownCap_le_maxLen w (x.size+s.size) cap 5 (by simp only[maxLen]; omega)
   ·have:=grownCap_ge w (x.size+s.size) cap 5;rw[hs,Nat.mul_one]at hol;simp only[jO,lX,hol,strCells_length,size_zeroCells];simp[Value.cells]; omega
   ·rw[hsz,tF,hsc,h5];have hl1:(iF x++iF s).length=x.size+s.size:=by simp[lM]
    simp only[Array.toList_append];rw[Pz (by simp[lM]),fS (by simp[lM])]
   ·show w.heap.size<=(w.heap.push _).size; rw[Array.size_push]; exact Nat.le_succ _
   ·simp[blk]at h; right; omega
theorem aZC(x s:ByteArray):cO Proofs.Tryz.prog 47 [.ptr 30000 0,.t (.str s)] [(30000,.bld 86 5 x)] [30000] (if x.size+s.size<=140737488355328 then some () else none)
  (fun _:Unit=>.tup [.t (.int .i64 s.size),.lit .nilIface]) (fun _=>[(30000,.bld 86 5 (x++s))]):=by
 refine⟨bL Proofs.Tryz.func47 (by kernel_rfl),fun y hy=>?_⟩;split at hy
 case isFalse=>cases hy
 rename_i hC;intro F g w vs hs hv hH hF hgl;have hmem:(30000,bA.bld 86 5 x)∈([(30000,.bld 86 5 x)]:Hp):=cG.2 rfl;obtain⟨b,p,v,h1,h2,h3,h4⟩:=hH.obj 30000 _ hmem;have hs2:vs.size=2:=hs;have hv0:=hv 0 _ (vs[0]'(by omega)) rfl (by simp[hs2]);have hv1:=hv 1 _ (vs[1]'(by omega)) rfl (by simp[hs2]);have hvs:vs=#[.pointer (some ⟨b,0,none⟩),.string s]:=by
  have e0:vs[0]'(by omega) = .pointer (some ⟨b,0,none⟩):=by
   generalize vs[0]'(by omega)=u at hv0;cases hv0 with
   | ptr hg=>rw[h1]at hg; injection hg with hg; injection hg with hg; injection hg with hg; subst hg; rfl
  have e1:vs[1]'(by omega) = .string s:=hv1.inv_str;apply Array.ext
  ·rw[hs2]; rfl
  ·intro q hq _
   match q,hq with
   | 0,_=>simpa using e0
   | 1,_=>simpa using e1
   | q+2,hq=>omega
 subst hvs;have hblt:b<w.heap.size:=(oU.1 h2).1;have rowb:aQV w v x:=by
  rcases h4 with h4 | ⟨r,cap,cur,k1,k2,k3,k4⟩
  ·exact .inl h4
  ·exact .inr ⟨r,cap,cur,k1,k2,k4⟩
 have hvb:blk v≠some b:=by
  rcases h4 with⟨rfl,_⟩ | ⟨r,cap,cur,rfl,k2,k3,k4⟩
  ·simp[blk]
  ·simp[blk]; exact k3
 obtain⟨w1,c1,c2,c3,c4,c5,c6,c7⟩:∃ w1,(Calls Proofs.Tryz.prog 97 #[.pointer (some ⟨b,0,none⟩)] w fun e w'=>e = .returned (.tuple #[])/\w'=w1)/\w1.heap[b]? = some (.cells #[.pointer (some ⟨b,0,none⟩),v] 86 (0,0)) /\
   (∀ k,k≠b->w1.heap[k]? = w.heap[k]?)/\w1.heap.size=w.heap.size/\w1.os=w.os/\w1.tape=w.tape/\w1.output=w.output:=by
  rcases h3 with rfl | rfl
  ·refine⟨_,Proofs.Tryz.copyCheck_fresh b w (by rw[Lib.cell_of_heap h2]; rfl) (by simp[World.shape?,h2]) (Lib.frozen_of_heap h2 0),?_,fun k hk=>jD w b 0 k _ hk,pB ..,rfl,rfl,rfl⟩;rw[pH w b 0 _ _ _ _ h2 (by decide)];rfl
  ·exact⟨w,Proofs.Tryz.copyCheck_used b w (by rw[Lib.cell_of_heap h2]; rfl),h2,fun _ _=>rfl,rfl,rfl,rfl,rfl⟩
 have rowb1:aQV w1 v x:=by
  rcases rowb with h | ⟨r,cap,cur,k1,k2,k3⟩
  ·exact .inl h
  ·refine .inr ⟨r,cap,cur,k1,?_,k3⟩;rw[c3 r (fun e=>hvb (by rw[k1,e]; rfl))]; exact k2
 obtain⟨ao,n',cap',w2,d1,d2,d3,d4,d5,d6,d7,d8⟩:=Pf x s w1 v rowb1 hC;have hb2:w2.heap[b]? = some (.cells #[.pointer (some ⟨b,0,none⟩),v] 86 (0,0)):=by rw[d3 b (by omega) hvb]; exact c2
 have hv'b:blk (.slice ao n' cap')≠some b:=fun e=>by
  rcases d8 b e with h | h
  ·exact hvb h
  ·omega
 refine(Proofs.Tryz.WriteString_ex b v ao n' cap' s w w1 w2 c1 c2 d1 hb2).mono ?_;rintro e w' ⟨rfl,rfl⟩;have hold:∀ k,k<w.heap.size->k≠b->blk v≠some k->(w2.setCell ⟨b,1,none⟩ (.slice ao n' cap')).heap[k]? = w.heap[k]?:=fun k hk hkb hkv=>by rw[jD w2 b 1 k _ hkb,d3 k (by omega) hkv,c3 k hkb]
 have hbld:bBE (w2.setCell ⟨b,1,none⟩ (.slice ao n' cap')) (g 30000) 86 5 (x++s):=by
  refine⟨b,.pointer (some ⟨b,0,none⟩),.slice ao n' cap',h1,?_,.inr rfl,?_⟩
  ·rw[pH w2 b 1 _ _ _ _ hb2 (by decide)]; rfl
  ·rcases d2 with h | ⟨r,cap,cur,k1,k2,k3⟩
   ·exact .inl h
   ·have hrb:r≠b:=fun e=>hv'b (by rw[k1,e]; rfl);exact .inr ⟨r,cap,cur,k1,by rw[jD w2 b 1 r _ hrb]; exact k2,hrb,k3⟩
 have hfoot:∀ q,bG g (w2.setCell ⟨b,1,none⟩ (.slice ao n' cap')) 30000 (.bld 86 5 (x++s)) q->q=b\/blk (.slice ao n' cap')=some q:=by
  intro q hq;cases hq with
  | self h=>rw[h1]at h; simp[blk]at h; exact .inl h.symm
  | bld k1 k2 k3=>rw[h1]at k1; injection k1 with k1; injection k1 with k1; injection k1 with k1; subst k1;rw[pH w2 b 1 _ _ _ _ hb2 (by decide)]at k2;injection k2 with k2; injection k2 with k2; injection k2 with k2; injection k2 with k2 k4; injection k4 with k4;subst k4;exact .inr k3
 have hown:∀ q,blk v=some q->bG g w 30000 (.bld 86 5 x) q:=fun q hq=>.bld h1 h2 hq;have hself:bG g w 30000 (.bld 86 5 x) b:=.self (by rw[h1]; rfl);refine⟨_,_,_,F,g,rfl,⟨rfl,rfl⟩,.tup rfl fun j q u hq hu=>?_,⟨⟨fun o q hq=>?_,fun o q c hq hc=>?_,fun o q o' q' c hq hq' hne=>?_⟩,fun b h=>h,fun c hc=>⟨?_,.inl hc⟩,⟨?_,?_,?_,?_,fun c hc hn=>?_⟩,fun _ _=>rfl,?_⟩⟩
 ·match j,hq,hu with
  | 0,hq,hu=>simp at hq hu; subst hq; subst hu; exact .t (.int _ _)
  | 1,hq,hu=>simp at hq hu; subst hq; subst hu; exact .lit rfl
  | j+2,hq,_=>simp at hq
 ·cases cG.1 hq; exact hbld
 ·cases cG.1 hq;rcases hfoot c hc with rfl | h
  ·exact⟨(hH.own _ _ _ hmem hself).1,.inl ⟨_,_,hmem,hself⟩⟩
  ·rcases d8 c h with h | h
   ·exact⟨(hH.own _ _ _ hmem (hown c h)).1,.inl ⟨_,_,hmem,hown c h⟩⟩
   ·exact⟨fun hf=>by have:=hF c hf; omega,.inr (by simpa[c4] using h)⟩
 ·cases cG.1 hq; cases cG.1 hq'; exact absurd rfl hne
 ·rw[pB]; have:=hF c hc; omega
 ·show w2.os=w.os; rw[d5,c5]
 ·show w2.tape=w.tape; rw[d6,c6]
 ·show w2.output=w.output; rw[d7,c7]
 ·rw[pB]; show w.heap.size<=_; omega
 ·exact hold c hc (fun e=>hn ⟨_,_,hmem,e▸hself⟩) (fun e=>hn ⟨_,_,hmem,hown c e⟩)
 ·rintro c ⟨o,q,k1,k2⟩;exact k2.block (hH.obj o q k1)
end Go.PL
namespace Go.Proofs
open Go.Shelf
def Tryz.laysM171_ren:Go.Shelf.Ren:=⟨fun | 171=>99 | 243=>147 | 246=>161 | 283=>174 | 284=>175 | 285=>176 | 286=>177 | 129=>195 | 317=>196 | 318=>197 | 319=>198 | 320=>199 | 337=>207 | 338=>208 | n=>n,fun | 3=>3 | 9=>9 | 2=>2 | 4=>4 | 171=>216 | 0=>0 | 53=>217 | 37=>84 | 5=>5 | 173=>220 | 212=>238 | 51=>194 | 20=>20 | 213=>239 | 46=>204 | 232=>250 | 233=>251 | n=>n,fun | 17=>2 | 18=>3 | 19=>4 | n=>n⟩
theorem Tryz.laysM171:Go.Proofs.LaysM.n171 Tryz.prog Tryz.laysM171_ren:={
 mixed:=by kernel_rfl
 f129:=Tryz.func195.trans (congrArg some (by kernel_rfl))
 f171:=Tryz.func99.trans (congrArg some (by kernel_rfl))
 f243:=Tryz.func147.trans (congrArg some (by kernel_rfl))
 f246:=Tryz.func161.trans (congrArg some (by kernel_rfl))
 f283:=Tryz.func174.trans (congrArg some (by kernel_rfl))
 f284:=Tryz.func175.trans (congrArg some (by kernel_rfl))
 f285:=Tryz.func176.trans (congrArg some (by kernel_rfl))
 f286:=Tryz.func177.trans (congrArg some (by kernel_rfl))
 f317:=Tryz.func196.trans (congrArg some (by kernel_rfl))
 f318:=Tryz.func197.trans (congrArg some (by kernel_rfl))
 f319:=Tryz.func198.trans (congrArg some (by kernel_rfl))
 f320:=Tryz.func199.trans (congrArg some (by kernel_rfl))
 f337:=Tryz.func207.trans (congrArg some (by kernel_rfl))
 f338:=Tryz.func208.trans (congrArg some (by kernel_rfl))
 t0:=Tryz.underlying0
 a0:=Tryz.isAgg0
 z0:=Tryz.sizeOf0
 v0:=Tryz.zeroValue0
 t2:=Tryz.underlying2
 a2:=Tryz.isAgg2
 z2:=Tryz.sizeOf2
 v2:=Tryz.zeroValue2
 t3:=Tryz.underlying3
 a3:=Tryz.isAgg3
 z3:=Tryz.sizeOf3
 v3:=Tryz.zeroValue3
 t4:=Tryz.underlying4
 a4:=Tryz.isAgg4
 z4:=Tryz.sizeOf4
 v4:=Tryz.zeroValue4
 t5:=Tryz.underlying5
 a5:=Tryz.isAgg5
 z5:=Tryz.sizeOf5
 v5:=Tryz.zeroValue5
 t9:=Tryz.underlying9
 a9:=Tryz.isAgg9
 z9:=Tryz.sizeOf9
 v9:=Tryz.zeroValue9
 t20:=Tryz.underlying20
 a20:=Tryz.isAgg20
 z20:=Tryz.sizeOf20
 v20:=Tryz.zeroValue20
 t37:=Tryz.underlying84
 a37:=Tryz.isAgg84
 z37:=Tryz.sizeOf84
 v37:=Tryz.zeroValue84
 t46:=Tryz.underlying204
 a46:=Tryz.isAgg204
 z46:=Tryz.sizeOf204
 v46:=Tryz.zeroValue204
 t51:=Tryz.underlying194
 a51:=Tryz.isAgg194
 z51:=Tryz.sizeOf194
 v51:=Tryz.zeroValue194
 t53:=Tryz.underlying217
 a53:=Tryz.isAgg217
 z53:=Tryz.sizeOf217
 v53:=Tryz.zeroValue217
 t171:=Tryz.underlying216
 a171:=Tryz.isAgg216
 z171:=Tryz.sizeOf216
 v171:=Tryz.zeroValue216
 t173:=Tryz.underlying220
 a173:=Tryz.isAgg220
 z173:=Tryz.sizeOf220
 v173:=Tryz.zeroValue220
 t212:=Tryz.underlying238
 a212:=Tryz.isAgg238
 z212:=Tryz.sizeOf238
 v212:=Tryz.zeroValue238
 t213:=Tryz.underlying239
 a213:=Tryz.isAgg239
 z213:=Tryz.sizeOf239
 t232:=Tryz.underlying250
 a232:=Tryz.isAgg250
 z232:=Tryz.sizeOf250
 v232:=Tryz.zeroValue250
 t233:=Tryz.underlying251
 a233:=Tryz.isAgg251
 z233:=Tryz.sizeOf251
 v233:=Tryz.zeroValue251
 g17:=by kernel_rfl
 g18:=by kernel_rfl
 g19:=by kernel_rfl
 i0:=by kernel_rfl
 i2:=by kernel_rfl
 i3:=by kernel_rfl
 i4:=by kernel_rfl
 i5:=by kernel_rfl
 i9:=by kernel_rfl
 i20:=by kernel_rfl
 i37:=by kernel_rfl
 i46:=by kernel_rfl
 i51:=by kernel_rfl
 i53:=by kernel_rfl
 i171:=by kernel_rfl
 i173:=by kernel_rfl
 i212:=by kernel_rfl
 i232:=by kernel_rfl
 i233:=by kernel_rfl
 m17:=by kernel_rfl
 m18:=by kernel_rfl
 m19:=by kernel_rfl }
open Go.RowKit Go.Sort Go.Lib in
theorem Tryz.strconv_Itoa(n:Int)(h0:-9223372036854775808<=n)(h1:n<=9223372036854775807)(w:World)(htab:Lib.TabIs Tryz.prog w "internal/strconv.uint64pow10" .u64 Lib.pow10Tab):
  Calls Tryz.prog 99 #[.int .i64 n] w fun e w'=>e = .returned (.string ⟨(Lib.itoa n).toArray⟩)/\∃ k os,w'=grow (w.drewN k) os:=Any.strconv_Itoa Tryz.laysM171 n h0 h1 w htab
def Tryz.lays157_ren:Go.Shelf.Ren:=⟨fun | 157=>98 | 229=>145 | 199=>146 | 261=>160 | 311=>172 | 312=>173 | n=>n,fun | 9=>9 | 31=>91 | 3=>3 | 5=>5 | 4=>4 | 119=>181 | 0=>0 | 40=>183 | 152=>191 | 21=>21 | 154=>193 | 51=>194 | 141=>196 | 196=>208 | 193=>205 | 198=>211 | 49=>209 | 194=>206 | 201=>214 | 226=>235 | 46=>204 | 227=>236 | n=>n,fun | 0=>0 | 6=>1 | n=>n⟩
theorem Tryz.lays157:Go.Proofs.Lays.n157 Tryz.prog Tryz.lays157_ren:={
 mixed:=by kernel_rfl
 f157:=Tryz.func98.trans (congrArg some (by kernel_rfl))
 f199:=Tryz.func146.trans (congrArg some (by kernel_rfl))
 f229:=Tryz.func145.trans (congrArg some (by kernel_rfl))
 f261:=Tryz.func160.trans (congrArg some (by kernel_rfl))
 f311:=Tryz.func172.trans (congrArg some (by kernel_rfl))
 f312:=Tryz.func173.trans (congrArg some (by kernel_rfl))
 t0:=Tryz.underlying0
 a0:=Tryz.isAgg0
 z0:=Tryz.sizeOf0
 v0:=Tryz.zeroValue0
 t3:=Tryz.underlying3
 a3:=Tryz.isAgg3
 z3:=Tryz.sizeOf3
 v3:=Tryz.zeroValue3
 t4:=Tryz.underlying4
 a4:=Tryz.isAgg4
 z4:=Tryz.sizeOf4
 v4:=Tryz.zeroValue4
 t5:=Tryz.underlying5
 a5:=Tryz.isAgg5
 z5:=Tryz.sizeOf5
 v5:=Tryz.zeroValue5
 t9:=Tryz.underlying9
 a9:=Tryz.isAgg9
 z9:=Tryz.sizeOf9
 v9:=Tryz.zeroValue9
 t21:=Tryz.underlying21
 a21:=Tryz.isAgg21
 z21:=Tryz.sizeOf21
 v21:=Tryz.zeroValue21
 t31:=Tryz.underlying91
 a31:=Tryz.isAgg91
 z31:=Tryz.sizeOf91
 v31:=Tryz.zeroValue91
 t40:=Tryz.underlying183
 a40:=Tryz.isAgg183
 z40:=Tryz.sizeOf183
 v40:=Tryz.zeroValue183
 t46:=Tryz.underlying204
 a46:=Tryz.isAgg204
 z46:=Tryz.sizeOf204
 v46:=Tryz.zeroValue204
 t49:=Tryz.underlying209
 a49:=Tryz.isAgg209
 z49:=Tryz.sizeOf209
 v49:=Tryz.zeroValue209
 t51:=Tryz.underlying194
 a51:=Tryz.isAgg194
 z51:=Tryz.sizeOf194
 v51:=Tryz.zeroValue194
 t119:=Tryz.underlying181
 a119:=Tryz.isAgg181
 z119:=Tryz.sizeOf181
 t141:=Tryz.underlying196
 a141:=Tryz.isAgg196
 z141:=Tryz.sizeOf196
 v141:=Tryz.zeroValue196
 t152:=Tryz.underlying191
 a152:=Tryz.isAgg191
 z152:=Tryz.sizeOf191
 v152:=Tryz.zeroValue191
 t154:=Tryz.underlying193
 a154:=Tryz.isAgg193
 z154:=Tryz.sizeOf193
 v154:=Tryz.zeroValue193
 t193:=Tryz.underlying205
 a193:=Tryz.isAgg205
 z193:=Tryz.sizeOf205
 v193:=Tryz.zeroValue205
 t194:=Tryz.underlying206
 a194:=Tryz.isAgg206
 z194:=Tryz.sizeOf206
 v194:=Tryz.zeroValue206
 t196:=Tryz.underlying208
 a196:=Tryz.isAgg208
 z196:=Tryz.sizeOf208
 v196:=Tryz.zeroValue208
 t198:=Tryz.underlying211
 a198:=Tryz.isAgg211
 z198:=Tryz.sizeOf211
 v198:=Tryz.zeroValue211
 t201:=Tryz.underlying214
 a201:=Tryz.isAgg214
 z201:=Tryz.sizeOf214
 v201:=Tryz.zeroValue214
 t226:=Tryz.underlying235
 a226:=Tryz.isAgg235
 z226:=Tryz.sizeOf235
 v226:=Tryz.zeroValue235
 t227:=Tryz.underlying236
 a227:=Tryz.isAgg236
 z227:=Tryz.sizeOf236
 v227:=Tryz.zeroValue236
 g0:=by kernel_rfl
 g6:=by kernel_rfl }
open Go.RowKit Go.Lib in
theorem Tryz.strings_Fields(s:ByteArray)(w:World)(hs:s.size<4294967281)(hascii:∀ (j:Nat) b,s.data.toList[j]? = some b->b.toNat<128)(htab:Lib.TabIs Tryz.prog w "strings.asciiSpace" .u8 Lib.asciiSpaceTab):
  Calls Tryz.prog 98 #[.string s] w fun e w'=>
   e = .returned (.slice (some ⟨w.heap.size,0,none⟩) (Lib.fields s.data.toList).length (Lib.fields s.data.toList).length)/\w'=w.alloc (.cells ((Lib.fields s.data.toList).map fun l=>Value.string ⟨l.toArray⟩).toArray 9):=Any.strings_Fields Tryz.lays157 (by kernel_rfl) (by kernel_rfl) s w hs hascii htab
end Go.Proofs
namespace Go.PL
open Go
set_option linter.unusedVariables false
theorem hv1{F:Nat->Prop}{g:Nat->Value}{w:World}{vs:Array Value}{p:PV}{u:Value}(hs:vs.size=[p].length)(hv:∀ (j:Nat) x v,[p][j]? = some x->vs[j]? = some v->VR F g w x v)(hu:∀ v,VR F g w p v->v=u):vs=#[u]:=by
 have h1:vs.size=1:=hs;have e0:=hu _ (hv 0 _ (vs[0]'(by omega)) rfl (by simp[h1]));apply Array.ext
 ·rw[h1]; rfl
 ·intro q hq _;have:q=0:=by omega
  subst this;simpa using e0
def bBP(a0:Int):Option ByteArray:=if -9223372036854775808<=a0/\a0<=9223372036854775807 then some ⟨(Lib.itoa a0).toArray⟩ else none
theorem aOY(a0:Int):Con Proofs.Tryz.prog 99 [.t (.int .i64 a0)] (bBP a0) (fun (y:ByteArray)=>.t (.str y)):=by
 refine⟨bL Proofs.Tryz.func99 (by kernel_rfl),fun y hy=>?_⟩;unfold bBP at hy;split at hy
 case isFalse=>cases hy
 rename_i hr;cases hy;intro F g w vs hs hv hH hF hgl;have hvs:=hv1 hs hv (u:=.int .i64 a0) (fun v h=>h.inv_int);subst hvs;have hname:∃ b,Proofs.Tryz.prog.globalNamed Pq=some b:=vJ.1 (by kernel_rfl);obtain⟨b,hb⟩:=hname;refine(Proofs.Tryz.strconv_Itoa a0 hr.1 hr.2 w (hgl.tab b hb).1).mono ?_;rintro e w' ⟨rfl,k,os,rfl⟩;refine⟨_,_,[],F,g,rfl,rfl,.t (.str _),rG hH hF rfl rfl rfl ?_ (fun q hq _=>?_)⟩
 ·show w.heap.size<=(w.heap++os).size;rw[jO]; exact Nat.le_add_right _ _
 ·show (w.heap++os)[q]? = w.heap[q]?;exact kO hq
theorem bBR:∀ cap,lS Proofs.Tryz.prog { target:=.fn (.func 20) cap,args:=#[] }:=by
 intro cap;refine⟨_,cap,20,cap,rfl,fun w=>by simp[invoke,go_sem],fun w=>?_⟩;refine callsDIn_of_wpSIn Proofs.Tryz.func20 rfl trivial fun c₀ cs hu=>?_;have hT:17<=(cap++Array.replicate (Proofs.Tryz.f20.ntmps-cap.size) undef).size:=by rw[jO,Kj];show 17<=cap.size+(17-cap.size);omega
 generalize (cap++Array.replicate (Proofs.Tryz.f20.ntmps-cap.size) undef)=T at hT;have h5:5<T.size:=by omega
 have h2:2<T.size:=by omega
 have h6:6<T.size:=by omega
 have h7:7<T.size:=by omega
 apply wpSIn_seq;apply wpSIn_region;simp[wpOpsSIn,go_sem,recoverD,hu,Exit.thenS,h5,Fence.wide];apply wpSIn_seq;apply wpSIn_region;simp[wpOpsSIn,go_sem,Exit.thenS,h2,h6];refine wpSIn_cond (t:=false) (by simp[go_sem,Act.eval,h7]) ?_;refine wpSIn_of_wpIn rfl (wpIn_wide.2 (Go.wp_skip ?_));refine⟨rfl,.returning,?_,.tuple #[],?_,⟨_,rfl⟩,rfl,rfl⟩
 ·rw[<-hu]
 ·simp[results,Proofs.Tryz.f20,go_sem]
theorem aCI{F:Nat->Prop}{g:Nat->Value}{w:World}{H:Hp}(hH:HpR F g w (fun _=>True) H)(hF:∀ b,F b->b<w.heap.size)(l:List ByteArray)(t:TypeId)(n:Nat)(hn:n=l.length):
  VR (fun b=>F b\/b=w.heap.size) g (w.alloc (.cells (l.map Value.string).toArray t)) (.t (eL Iw l)) (.slice (some ⟨w.heap.size,0,none⟩) n n) /\
  nC { w0:=w,F0:=F,B0:=Own g w H,g0:=g,N:=[],nt:=0 } (fun b=>F b\/b=w.heap.size) g [] (w.alloc (.cells (l.map Value.string).toArray t)):=by
 subst hn;have hold:∀ b,b<w.heap.size->(w.alloc (.cells (l.map Value.string).toArray t)).heap[b]? = w.heap[b]?:=fun b hb=>by show (w.heap.push _)[b]? = w.heap[b]?; simp[Dp,Nat.ne_of_lt hb]
 have hsz:(w.alloc (.cells (l.map Value.string).toArray t)).heap.size=w.heap.size+1:=by show (w.heap.push _).size=_; simp
 refine⟨.t (.sl ⟨w.heap.size,0,none⟩ l.length 1 (fun i _=>.string (l.getD i default)) rfl (fK _) (fun _=>.inr rfl) (fun i hi=>rfl) (fun i j hi hj=>?_) (fun i j x hi hx=>?_)),?_⟩
 ·have:j=0:=by omega
  subst this;rw[show (Addr.mk w.heap.size 0 none).add (i*1+0)=⟨w.heap.size,i,none⟩ by simp[Addr.add]; intro h; exact h.symm,World.cell?_alloc_new];simp[hi,List.getD]
 ·match j,hx with
  | 0,hx=>cases hx; exact .str _
 ·refine⟨⟨fun o x h=>by simp at h,fun o x b h=>by simp at h,fun o x o' y b h=>by simp at h⟩,fun b h=>.inl h,fun b h=>?_,⟨rfl,rfl,rfl,Nat.le_of_lt (by show w.heap.size<_; omega),fun b hb _=>hold b hb⟩,fun o h=>by simp at h,?_⟩
  ·rcases h with h | rfl
   ·exact⟨by have:=hF b h; omega,.inl h⟩
   ·exact⟨by omega,.inr (.inr (fK _))⟩
  ·rintro b ⟨o,x,h1,h2⟩;exact h2.block (hH.obj o x h1)
def aVH(s:ByteArray):Bool:=s.data.toList.all fun b=>Nat.blt b.toNat 128
def aZQ(s:ByteArray):Option (List ByteArray):=if s.size<4294967281/\aVH s=true then some ((Lib.fields s.data.toList).map fun l=>⟨l.toArray⟩) else none
theorem aQQ(s:ByteArray):Con Proofs.Tryz.prog 98 [.t (.str s)] (aZQ s) (fun (y:List ByteArray)=>.t (eL Iw y)):=by
 refine⟨bL Proofs.Tryz.func98 (by kernel_rfl),fun y hy=>?_⟩;unfold aZQ at hy;split at hy
 case isFalse=>cases hy
 rename_i hr;cases hy;intro F g w vs hs hv hH hF hgl;have hvs:=hv1 hs hv (u:=.string s) (fun v h=>h.inv_str);subst hvs
 have hname:∃ b,Proofs.Tryz.prog.globalNamed "strings.asciiSpace" = some b:=vJ.1 (by kernel_rfl)
 obtain⟨b,hb⟩:=hname;refine(Proofs.Tryz.strings_Fields s w hr.1 (fun j c hc=>?_) ((hgl.sp rfl).1 b hb).1).mono ?_
 ·have h:=dQ.1 hr.2 c (kW hc);exact fH h
 rintro e w' ⟨rfl,rfl⟩;obtain⟨h1,h2⟩:=aCI hH hF ((Lib.fields s.data.toList).map fun l=>(⟨l.toArray⟩:ByteArray)) 9 (Lib.fields s.data.toList).length (by simp);rw[List.map_map]at h1 h2;exact⟨_,_,[],_,g,rfl,rfl,h1,h2⟩
end Go.PL
namespace Go.PL
open Go
set_option linter.unusedVariables false
set_option maxRecDepth 20000
variable {w:World}
noncomputable def Tg (a0:ByteArray):Int->TP ((Int)⊕((Unit)⊕(Bool)))
 | v2=>.ite 1 (decide (v2<(((eA a0).length:Int)))) (.grd 1 (0<=v2/\v2<((eA a0).length:Int)) <| .jn 5 0 (fun (j3:Bool)=>(⟨[(23,.t (eL cU8 (eA a0))),(24,.t (.int .i64 (((eA a0).length:Int)))),(25,.t (.int .i64 (v2))),(48,.t (.bool (j3)))],[]⟩:St)) (.ite 0 (((eA a0).getD (v2).toNat default) != 95) (.ite 3 (decide (((eA a0).getD (v2).toNat default)<48)) (.ite 9 (decide ((aBK .u8 ((eA a0).getD (v2).toNat default) 32)<97)) (.ret 5 true) (.ret 5 (decide ((aBK .u8 ((eA a0).getD (v2).toNat default) 32)>122)))) (.ite 5 (decide (((eA a0).getD (v2).toNat default)>57)) (.ite 4 (decide ((aBK .u8 ((eA a0).getD (v2).toNat default) 32)<97)) (.ret 5 true) (.ret 5 (decide ((aBK .u8 ((eA a0).getD (v2).toNat default) 32)>122)))) (.ret 9 false))) (.ret 17 false)) fun j3=>.ite 0 (j3) (.ret 1 (.inr (.inr false))) (.ret 2 (.inl (IntKind.i64.wrap (v2+1))))) (.ret 0 (.inr (.inl ())))
noncomputable def aTY (a0:ByteArray):TP (Bool):=.jn 4 0 (fun (j1:Bool)=>(⟨[(0,.t (.str (a0))),(21,.t (.bool (j1)))],[]⟩:St)) (.ite 0 ((a0:ByteArray).toList==(⟨#[]⟩:ByteArray).toList) (.ret 14 true) (.ite 5 (decide ((((a0:ByteArray).size:Int))>20)) (.ret 9 true) (.grd 2 (0<=((0:Int))/\((0:Int))<(a0.size:Int)) <| .ite 2 (decide ((((a0[((0:Int)).toNat]?.getD 0).toNat:Int))>=48)) (.grd 2 (0<=((0:Int))/\((0:Int))<(a0.size:Int)) <| .ret 3 (decide ((((a0[((0:Int)).toNat]?.getD 0).toNat:Int))<=57))) (.ret 5 false)))) fun j1=>.ite 0 (j1) (.ret 1 false) (.cb 1 a0 <| .lp 2 (fun (v2:Int)=>(⟨[(23,.t (eL cU8 (eA a0))),(24,.t (.int .i64 (((eA a0).length:Int)))),(25,.t (.int .i64 (v2)))],[]⟩:St)) (fun (_:Unit)=>(⟨[],[]⟩:St)) 0 0 (Tg a0) fun _=>.ret 1 true)
noncomputable def aXF (a0:ByteArray):Option (Bool):=(aTY a0).den
theorem Vz(a0:ByteArray):Con Proofs.Tryz.prog 105 [.t (.str (a0))] (aXF a0) (fun (y:Bool)=>.t (.bool (y))):=con Proofs.Tryz.func105 aN (aTY a0)
noncomputable def bAL:TP ((List ByteArray)):=.bs 1 false Iw ([⟨#[105,110,116]⟩,⟨#[116,101,120,116]⟩,⟨#[98,111,111,108]⟩]:List ByteArray) <| .ret 1 ([⟨#[105,110,116]⟩,⟨#[116,101,120,116]⟩,⟨#[98,111,111,108]⟩]:List ByteArray)
noncomputable def bCG:Option ((List ByteArray)):=(bAL).den
theorem Sr:Con Proofs.Tryz.prog 182 [] (bCG) (fun (y:(List ByteArray))=>.t (eL Iw (y))):=con Proofs.Tryz.func182 aN (bAL)
noncomputable def Ty (a0:List ByteArray)(a1:ByteArray):Int->TP ((Int)⊕((Unit)⊕(Int)))
 | v1=>.ite 1 (decide (v1<((a0.length:Int)))) (.grd 6 (0<=v1/\v1<(a0.length:Int)) <| .ite 2 ((a1:ByteArray).toList==(a0.getD (v1).toNat default:ByteArray).toList) (.ret 2 (.inr (.inr v1))) (.ret 2 (.inl (IntKind.i64.wrap (v1+1))))) (.ret 0 (.inr (.inl ())))
noncomputable def aUV (a0:List ByteArray)(a1:ByteArray):TP (Int):=.lp 4 (fun (v1:Int)=>(⟨[(0,.t (eL Iw (a0))),(1,.t (.str (a1))),(7,.t (.int .i64 ((a0.length:Int)))),(8,.t (.int .i64 (v1)))],[]⟩:St)) (fun (_:Unit)=>(⟨[],[]⟩:St)) 0 0 (Ty a0 a1) fun _=>.ret 1 (-1)
noncomputable def bBT (a0:List ByteArray)(a1:ByteArray):Option (Int):=(aUV a0 a1).den
theorem aOE(a0:List ByteArray)(a1:ByteArray):Con Proofs.Tryz.prog 200 [.t (eL Iw (a0)),.t (.str (a1))] (bBT a0 a1) (fun (y:Int)=>.t (.int .i64 (y))):=con Proofs.Tryz.func200 aN (aUV a0 a1)
noncomputable def aST (a0:ByteArray):TP (Int×Bool):=.ca 2 (Sr) fun r1=>.ca 1 (aOE r1 a0) fun r2=>.ret 7 (if (0:Int)>r2 then (0:Int) else r2,decide (r2>=0))
noncomputable def aWM (a0:ByteArray):Option (Int×Bool):=(aST a0).den
theorem aPN(a0:ByteArray):Con Proofs.Tryz.prog 181 [.t (.str (a0))] (aWM a0) (fun (y:Int×Bool)=>.tup [.t (.int .i64 (y.1)),.t (.bool (y.2))]):=con Proofs.Tryz.func181 aN (aST a0)
noncomputable def aTM (a0:ByteArray):TP (Bool):=.ca 2 (aPN a0) fun r1=>.ca 6 (Vz a0) fun r2=>.jn 1 0 (fun (j3:Bool)=>(⟨[(2,.t (.bool (j3)))],[]⟩:St)) (.ite 0 (r2) (.ret 4 (!r1.2)) (.ret 4 false)) fun j3=>.ret 0 j3
noncomputable def aRX (a0:ByteArray):Option (Bool):=(aTM a0).den
theorem Vu(a0:ByteArray):Con Proofs.Tryz.prog 165 [.t (.str (a0))] (aRX a0) (fun (y:Bool)=>.t (.bool (y))):=con Proofs.Tryz.func165 aN (aTM a0)
noncomputable def aRW (a0:Int):TP (ByteArray):=.jn 4 0 (fun (j1:Bool)=>(⟨[(0,.t (.int .i64 (a0))),(8,.t (.bool (j1)))],[]⟩:St)) (.ite 0 (decide (a0<0)) (.ret 3 true) (.ret 3 (decide (a0>=3)))) fun j1=>.ite 0 (j1) (.ret 1 (⟨#[]⟩)) (.ca 0 (Sr) fun r2=>.grd 2 (0<=a0/\a0<(r2.length:Int)) <| .ret 2 (r2.getD (a0).toNat default))
noncomputable def aTX (a0:Int):Option (ByteArray):=(aRW a0).den
theorem aQU(a0:Int):Con Proofs.Tryz.prog 166 [.t (.int .i64 (a0))] (aTX a0) (fun (y:ByteArray)=>.t (.str (y))):=con Proofs.Tryz.func166 aN (aRW a0)
noncomputable def Mn (a0:aT)(h30000_0:ByteArray):TP (Bool):=.ret 7 ((a0.Name:ByteArray).toList==(h30000_0:ByteArray).toList)
noncomputable def aDY (a0:aT)(h30000_0:ByteArray):Option (Bool):=(Mn a0 h30000_0).den
theorem aAP(a0:aT)(h30000_0:ByteArray):cO Proofs.Tryz.prog 184 [.t (bAY a0),.ptr 30000 0] [(30000,.box (([.str (h30000_0)]).map .t))] [30000] (aDY a0 h30000_0) (fun (y:Bool)=>.t (.bool (y))) (fun (y:Bool)=>[(30000,.box (([.str (h30000_0)]).map .t))]):=dS Proofs.Tryz.func184 aN (Mn a0 h30000_0)
noncomputable def Do (a0:List aT)(h30000_0:ByteArray):Int->TP ((Int)⊕((Unit)⊕(Int)))
 | v1=>.ite 1 (decide (v1<((a0.length:Int)))) (.grd 6 (0<=v1/\v1<(a0.length:Int)) <| .ch 1 [] (aAP (a0.getD (v1).toNat default) h30000_0) fun r2=>.ite 0 (r2) (.ret 2 (.inr (.inr v1))) (.ret 2 (.inl (IntKind.i64.wrap (v1+1))))) (.ret 0 (.inr (.inl ())))
noncomputable def Qb (a0:List aT)(h30000_0:ByteArray):TP (Int):=.lp 4 (fun (v1:Int)=>(⟨[(0,.t (eL aR (a0))),(1,.fn (.func 184) 0 [.ptr 30000 0]),(7,.t (.int .i64 ((a0.length:Int)))),(8,.t (.int .i64 (v1)))],[(30000,.box (([.str (h30000_0)]).map .t))]⟩:St)) (fun (_:Unit)=>(⟨[],[(30000,.box (([.str (h30000_0)]).map .t))]⟩:St)) 0 0 (Do a0 h30000_0) fun _=>.ret 1 (-1)
noncomputable def aGN (a0:List aT)(h30000_0:ByteArray):Option (Int):=(Qb a0 h30000_0).den
theorem Zs(a0:List aT)(h30000_0:ByteArray):cO Proofs.Tryz.prog 183 [.t (eL aR (a0)),.fn (.func 184) 0 [.ptr 30000 0]] [(30000,.box (([.str (h30000_0)]).map .t))] [30000] (aGN a0 h30000_0) (fun (y:Int)=>.t (.int .i64 (y))) (fun (y:Int)=>[(30000,.box (([.str (h30000_0)]).map .t))]):=dS Proofs.Tryz.func183 aN (Qb a0 h30000_0)
noncomputable def aXK (a0:List aT)(a1:ByteArray):TP (Int):=.cv 4 [.rn 3 30000] <| .ch 0 [] (Zs a0 a1) fun r1=>.ret 1 r1
noncomputable def aWQ (a0:List aT)(a1:ByteArray):Option (Int):=(aXK a0 a1).den
theorem aOW(a0:List aT)(a1:ByteArray):Con Proofs.Tryz.prog 167 [.t (eL aR (a0)),.t (.str (a1))] (aWQ a0 a1) (fun (y:Int)=>.t (.int .i64 (y))):=con Proofs.Tryz.func167 aN (aXK a0 a1)
theorem dL(b:Bool):oL Proofs.Tryz.prog 30 [.t (.bool b)] [] [] (some (if b then some () else none)) (fun _:Unit=>.tup []) (fun _=>[]) 63:=by
 refine⟨bL Proofs.Tryz.func30 (by kernel_rfl),fun y hy=>?_⟩;injection hy with hy;intro F g w vs hs hv hH hF hgl;have hvs:=hv1 hs hv (u:=.bool b) (fun v h=>h.inv_bool);subst hvs;have hR:=rG (g:=g) hH hF (w':=w) rfl rfl rfl (fK _) (fun _ _ _=>rfl);refine calls_of_wp Proofs.Tryz.func30 rfl ?_;apply wp_seq;apply wp_region;cases b with
 | true=>
  simp[wpOps,go_sem,Exit.then]
  repeat left
  refine wp_cond (t:=false) (by simp[go_sem,Act.eval]) ?_;refine Go.wp_skip ?_;simp[bodyPost,results,Proofs.Tryz.f30,go_sem];subst hy;exact⟨_,_,⟨⟨(),rfl⟩,rfl,rfl⟩,F,g,.tup rfl (fun j x v hx=>by simp at hx),hR⟩
 | false=>
  simp[wpOps,go_sem,Exit.then]
  repeat left
  refine wp_cond (t:=true) (by simp[go_sem,Act.eval]) ?_;apply wp_region;simp[wpOps,go_sem,bodyPost];subst hy
  repeat left
  exact⟨rfl,.inr ⟨rfl,rfl,F,g,hR⟩⟩
theorem gA(w:World)(ob:Obj){k:Nat}(h:k<w.heap.size):(w.alloc ob).heap[k]? = w.heap[k]?:=by show (w.heap.push ob)[k]? = _;simp[Dp,Nat.ne_of_lt h]
theorem qE{P:Program}{fn:Func}{tmps:Array Value}{R:Ending->World->Prop}{w:World}:∀ (ds:List Deferred),(∀ d,d∈ds->lS P d) ->
  LeavesInM Fence.wide 0 P fn tmps R [] .returning w->LeavesInM Fence.wide 0 P fn tmps R ds .returning w
 | [],_,h=>h
 | d::ds,hd,h=>by obtain⟨fv,cap,f,args,h1,h2,h3⟩:=hd d dJ;refine⟨by simp,.inr ⟨fun hd=>(by cases hd),fv,cap,f,args,h1,h2 w,fun _ _=>trivial,(h3 w).mono ?_⟩⟩;rintro e u' w' ⟨⟨v',rfl⟩,rfl,rfl⟩;exact qE ds (fun d h=>hd d (cV _ h)) h
set_option maxRecDepth 100000 in
theorem Gf{w:World}{b4 b5:Nat}{v4 v5:Array Value}{t4 t5:TypeId}(h4:w.heap[b4]? = some (.cells v4 t4 (0,0)))(h5:w.heap[b5]? = some (.cells v5 t5 (0,0)))(s4:v4.size=2)(s5:v5.size=1)(hne:b4≠b5):
  CallsDIn Fence.wide 0 Proofs.Tryz.prog 20 #[.pointer (some ⟨b4,0,none⟩),.pointer (some ⟨b5,0,none⟩)] (.panicking (vV 63)) w fun e u' w'=>(∃ v,e = .returned v)/\settle u' = .returning /\
   w'.os=w.os/\w'.tape=w.tape/\w'.output=w.output/\w.heap.size<=w'.heap.size/\(∀ b,b<w.heap.size->b≠b4->b≠b5->w'.heap[b]? = w.heap[b]?) /\
   w'.heap[b4]? = some (.cells #[.slice none 0 0,.slice none 0 0] t4 (0,0))/\w'.heap[b5]? = some (.cells #[.bool false] t5 (0,0)):=by
 refine callsDIn_of_wpSIn Proofs.Tryz.func20 rfl trivial fun c₀ cs hu=>?_;have hw:∀ f,Fence.wide.fn f=True:=fun _=>rfl;apply wpSIn_seq;apply wpSIn_region;simp[wpOpsSIn,go_sem,recoverD,hu,vV,Exit.thenS,hw];apply wpSIn_seq;apply wpSIn_region;simp[wpOpsSIn,go_sem,Exit.thenS,hw];refine wpSIn_cond (t:=true) (by simp[go_sem,Act.eval]) ?_;refine wpSIn_of_wpIn rfl (wpIn_wide.2 ?_);rw[aA rfl];have hta:∀ w,(Instr.typeAssert (.iface 63 (.agg #[])) 20 63 true).run Proofs.Tryz.prog w = .ok (.tuple #[.agg #[],.bool true]) w:=by intro w;simp[Instr.typeAssert,go_sem]
 apply wp_seq;apply wp_seq;apply wp_region;simp[wpOps,go_sem,Exit.then,hta]
 iterate 8 left
 generalize hW:w.alloc _=W;have k4:W.heap[b4]? = some (Obj.cells v4 t4):=by have hlt:=(oU.1 h4).1;rw[<-hW,gA _ _ hlt,h4]
 have k5:W.heap[b5]? = some (Obj.cells v5 t5):=by have hlt:=(oU.1 h5).1;rw[<-hW,gA _ _ hlt,h5]
 have c40:W.cell? ⟨b4,0,none⟩=some v4[0]:=by simp[World.cell?,k4,s4]
 have c41:W.cell? ⟨b4,1,none⟩=some v4[1]:=by simp[World.cell?,k4,s4]
 have c50:W.cell? ⟨b5,0,none⟩=some v5[0]:=by simp[World.cell?,k5,s5]
 have f40:W.frozen? ⟨b4,0,none⟩=false:=by simp[World.frozen?,k4]
 have f41:W.frozen? ⟨b4,1,none⟩=false:=by simp[World.frozen?,k4]
 have f50:W.frozen? ⟨b5,0,none⟩=false:=by simp[World.frozen?,k5]
 apply wp_seq;apply wp_region;simp[wpOps,go_sem,Exit.then];left; left;refine wp_cond (t:=false) (by simp[go_sem,Act.eval]) ?_;refine Go.wp_skip ?_;apply wp_region;simp[wpOps,go_sem,c40,c41,c50,f40,f41,f50];left; left; left;obtain⟨x,y,rfl⟩:∃ x y,v4=#[x,y]:=by
  cases v4 with
  | mk l=>match l,s4 with
   | [x,y],_=>exact⟨x,y,rfl⟩
 obtain⟨z,rfl⟩:∃ z,v5=#[z]:=by
  cases v5 with
  | mk l=>match l,s5 with
   | [z],_=>exact⟨z,rfl⟩
 rw[setCell_eq_setRow W b4 0 _ _ _ _ k4,setCell_eq_setRow _ b4 1 _ _ _ _ (setRow_heap _ _ _ _ _ _ k4),
  setCell_eq_setRow _ b5 0 _ _ _ _ (by rw[setRow_other _ _ _ _ (Ne.symm hne),setRow_other _ _ _ _ (Ne.symm hne)]; exact k5)]
 refine⟨rfl,_,rfl,.tuple #[],by simp[results,Proofs.Tryz.f20,go_sem],⟨_,rfl⟩,rfl,?_,?_,?_,?_,fun b hb h1 h2=>?_,?_,?_⟩
 ·subst hW; rfl
 ·subst hW; rfl
 ·subst hW; rfl
 ·simp only[setRow_size]; subst hW; simp
 ·rw[setRow_other _ _ _ _ h2,setRow_other _ _ _ _ h1,setRow_other _ _ _ _ h1];subst hW;exact gA _ _ hb
 ·rw[setRow_other _ _ _ _ hne];exact setRow_heap _ _ _ _ _ _ (setRow_heap _ _ _ _ _ _ k4)
 ·exact setRow_heap _ _ _ _ _ _ (by rw[setRow_other _ _ _ _ (Ne.symm hne),setRow_other _ _ _ _ (Ne.symm hne)]; exact k5)
def bxn(hp:Hp)(o:Nat):Option Nat:=match bK hp o with
 | some (.box l)=>some l.length
 | _=>none
def Hv{Y:Type}(b:Bool)(I:Inf)(rs:List ResultVar)(ret:Y->PV)(tr:TypeId)(y:Option Y)(e:Exit)(s:St):VT:=
 match y,e with
 | some y,.normal=>vt b (yC I rs s) (some (ret y))
 | some y,.ret=>vt b (yC I rs s) (some (ret y))
 | none,.panic ch=>.and (vt b ch (vV tr)) (.and (vt b (bK s.fr 4,bK s.fr 5) (some (.ptr 4 0),some (.ptr 5 0))) (vt b (bxn s.hp 4,bxn s.hp 5) (some 2,some 1)))
 | _,_=>bad b
def Ay(fn:Func):Code:=match fn.body with
 | some (.seq _ (.seq _ c))=>c
 | _=>.skip
noncomputable abbrev I8:Inf:=⟨bK tiL,[4,5],Proofs.Tryz.f8.ntmps,fx0,false⟩
noncomputable abbrev I80:Inf:=⟨bK tiL,[],Proofs.Tryz.f8.ntmps,fx0,false⟩
abbrev Gs (y:aB×Bool):PV:=.tup [.t (cA y.1),.t (.bool y.2)]
abbrev s8 (a0:aB)(a1:aW):St:=⟨[(2,.ptr 2 0),(3,.ptr 3 0),(4,.ptr 4 0),(5,.ptr 5 0)],[(2,.box ((aY a0).map .t)),(3,.box ((cH a1).map .t)),(4,.box [.nil,.nil]),(5,.box ([.bool false].map .t))]⟩
theorem Kw(a0:aB)(a1p:aW)(t:TP (Option (aB×Bool)))
  (h:chk Proofs.Tryz.prog I8 true t (Hv true I8 Proofs.Tryz.f8.results.toList Gs 63) kR (.c (Ay Proofs.Tryz.f8) []) (s8 a0 a1p)=chk Proofs.Tryz.prog I8 false t (Hv false I8 Proofs.Tryz.f8.results.toList Gs 63) kR (.c (Ay Proofs.Tryz.f8) []) (s8 a0 a1p))
  (z:Option (aB×Bool))(hz:t.wpT (·=z)):fV Proofs.Tryz.prog 8 [.t (cA a0),.t (nM a1p)] [] [] (Ret (Gs (z.getD default))):=by
 intro F g w vs hs hvs hH hF hgl;refine(callsIn_wide (n:=0)).1 (callsIn_of_wp_marks (F:=Fence.wide) Proofs.Tryz.func8 rfl trivial ?_);have hI:=aN;have hG1:fF Proofs.Tryz.prog { w0:=w,F0:=F,B0:=Own g w [],g0:=g,N:=[],nt:=Proofs.Tryz.f8.ntmps,mkA:=false } I80:=
  ⟨fun e=>(by cases e),hI,rfl,rfl,hgl,fun b hb=>⟨fun⟨o,x,h1,h2⟩=>(hH.own o x b h1 h2).1 hb,hF b hb⟩,trivial,fun e=>(by cases e),fun _ _ h=>h⟩
 have r0:Rel { w0:=w,F0:=F,B0:=Own g w [],g0:=g,N:=[],nt:=Proofs.Tryz.f8.ntmps,mkA:=false } ⟨fL [.t (cA a0),.t (nM a1p)] 0,[]⟩
   { tmps:=vs++Array.replicate (Proofs.Tryz.f8.ntmps-vs.size) undef,defers:=[] } w:=by
  refine⟨F,g,?_,⟨fun d hd=>by simp at hd,.nil,fun _ h=>h.elim⟩,?_,⟨⟨hH.obj,fun o x b hx hb=>⟨(hH.own o x b hx hb).1,.inl ⟨o,x,hx,hb⟩⟩,hH.sep⟩,fun _ h=>h,fun b hb=>⟨hF b hb,.inl hb⟩,
   ⟨rfl,rfl,rfl,fK _,fun _ _ _=>rfl⟩,fun _ _=>rfl,fun b ⟨o,x,hx,hb⟩=>hb.block (hH.obj o x hx)⟩⟩
  ·have:vs.size=2:=hs;simp only[jO,Kj,this]; rfl
  ·intro t x hx;obtain⟨j,rfl,hj⟩:=oX hx;have hlt:j<vs.size:=by rw[hs]; exact(eK.1 hj).1
   have:(vs++Array.replicate (Proofs.Tryz.f8.ntmps-vs.size) undef).getD (0+j) undef=vs[j]:=by simp[Array.getD,hlt];omega
   rw[this];exact hvs j x vs[j] hj (by simp[hlt])
 generalize ({ tmps:=vs++Array.replicate (Proofs.Tryz.f8.ntmps-vs.size) undef,defers:=[] }:Act)=A0 at r0;apply wpIn_seq;refine wpIn_mono (rL (Q:=fun e s=>e = .normal/\s=s8 a0 a1p) (st':=s8 a0 a1p) hG1 [2,3,4,5] [2,3,4,5] (Cs:=[]) (by kernel_rfl) trivial ⟨rfl,rfl⟩ (.inl rfl) A0 w r0) ?_;rintro e a1 w1 ⟨st,⟨rfl,rfl⟩,_,r1⟩;show Code.wpIn _ _ _ (.seq _ _) _ a1 w1;apply wpIn_seq;let Q1:Exit->Act->World->Prop:=fun e a w'=>e = .normal/\∃ F1 g1 cap,cL { w0:=w,F0:=F,B0:=Own g w [],g0:=g,N:=[],nt:=Proofs.Tryz.f8.ntmps,mkA:=false } F1 g1 (s8 a0 a1p) { a with defers:=[] } w' /\
  a.defers=[{ target:=.fn (.func 20) cap,args:=#[] }]/\cap.size=2/\∀ (j:Nat) x v,[PV.ptr 4 0,.ptr 5 0][j]? = some x->cap[j]? = some v->VR F1 g1 w' x v
 have hreg:∀ (o1 o2:Oper),(Yj I80 [o1,o2] [o1] (s8 a0 a1p)=some (⟨(9,.fn (.func 20) 0 [.ptr 4 0,.ptr 5 0])::(s8 a0 a1p).fr,(s8 a0 a1p).hp⟩,[])) ->
   (∃ c,o2.op = .defer c/\c.callee = .value (.tmp 9)/\c.args=#[]/\o2.dst=none/\cQ [o1,o2] o2 (⟨(9,.fn (.func 20) 0 [.ptr 4 0,.ptr 5 0])::(s8 a0 a1p).fr,(s8 a0 a1p).hp⟩:St)=some true) ->
   ∀ id,(Code.region id [o1,o2].toArray false).wpIn (Fz none) 0 Proofs.Tryz.prog Q1 a1 w1:=by
  rintro o1 o2 h1 ⟨c,hop,hc,ha,hd,hw⟩ id;refine wpIn_region_lit (uG (by rintro⟨a,w,h,_⟩; cases h) [o1,o2] a1 w1 (.inl rfl) (El hG1 (ops:=[o1,o2].toArray) (rest:=[o2]) [o1] _ _ [] h1 trivial a1 w1 r1 ?_));rintro a2 w2 ⟨F1,g1,r⟩;refine wpList_step fun K hK=>?_;have hwt:=fU (ops:=[o1,o2].toArray) r (by simpa using hw);rw[aA hwt];have hv:=r.fr 9 _ dJ;obtain⟨u,hu⟩:∃ u,a2.tmps.getD 9 undef=u:=⟨_,rfl⟩;rw[hu]at hv;cases hv with
  | @fn _ _ _ us vs hn hs hr=>
   have hus:us=#[]:=xU hn;subst hus;unfold Oper.wp;have hrun:(execOp a2.eval o2).run Proofs.Tryz.prog w2 = .ok (.defer { target:=.fn (.func 20) vs,args:=#[] }) w2:=by unfold execOp;simp[hop,resolve,hc,ha,Act.eval,hu,Deferred.ofValue]
   rw[hrun];show K _ w2;have hd0:a2.defers=[]:=by
    refine Ij.2 fun d hd=>?_;rcases r.df.ok d hd with h | ⟨h,_⟩
    ·exact h
    ·cases h
   refine hK _ _ ⟨rfl,F1,g1,vs,⟨?_,⟨fun d hd=>by simp at hd,.nil,fun _ h=>h.elim⟩,?_,r.w⟩,?_,by simpa using hs,fun j x v hx hv=>hr j x v hx (by simpa using hv)⟩
   ·rw[hd]; exact r.nt
   ·rw[hd]; exact fun t x hx=>r.fr t x (cV _ hx)
   ·rw[hd];show _::a2.defers=_;rw[hd0]
 refine wpIn_mono (hreg _ _ (by kernel_rfl) ⟨_,rfl,rfl,rfl,rfl,by kernel_rfl⟩ _) ?_;rintro e a2 w2 ⟨rfl,F1,g1,cap,r2,hdf,hcs,hcap⟩;have hG2:fF Proofs.Tryz.prog { w0:=w2,F0:=F1,B0:=Own g1 w2 (s8 a0 a1p).hp,g0:=g1,N:=[4,5],nt:=Proofs.Tryz.f8.ntmps,dok:=fun d=>d={ target:=.fn (.func 20) cap,args:=#[] },mkA:=false,dms:=fun d=>d={ target:=.fn (.func 20) cap,args:=#[] } } I8:=
  ⟨fun e=>(by cases e),hI,rfl,rfl,hG1.glw r2.w,fun b hb=>⟨fun⟨o,x,h1,h2⟩=>(r2.w.hp.own o x b h1 h2).1 hb,(r2.w.f1 b hb).1⟩,trivial,fun e=>(by cases e),fun _ D h=>(by injection h with h; cases h)⟩
 have rr:Rel { w0:=w2,F0:=F1,B0:=Own g1 w2 (s8 a0 a1p).hp,g0:=g1,N:=[4,5],nt:=Proofs.Tryz.f8.ntmps,dok:=fun d=>d={ target:=.fn (.func 20) cap,args:=#[] },mkA:=false,dms:=fun d=>d={ target:=.fn (.func 20) cap,args:=#[] } } (s8 a0 a1p) a2 w2:=by
  refine⟨F1,g1,r2.nt,⟨fun d hd=>?_,?_,fun d hd=>?_⟩,r2.fr,⟨⟨r2.w.hp.obj,fun o x b hx hb=>⟨(r2.w.hp.own o x b hx hb).1,.inl ⟨o,x,hx,hb⟩⟩,r2.w.hp.sep⟩,fun _ h=>h,fun b hb=>⟨(r2.w.f1 b hb).1,.inl hb⟩,
   ⟨rfl,rfl,rfl,fK _,fun _ _ _=>rfl⟩,fun _ _=>rfl,fun b ⟨o,x,hx,hb⟩=>hb.block (r2.w.hp.obj o x hx)⟩⟩
  ·rw[hdf]at hd; exact .inl (cG.1 hd)
  ·rw[hdf]; exact List.pairwise_singleton _ _
  ·rw[hdf]; exact cG.2 hd
 let Qf:gL:=fun e s=>((e = .normal\/e = .ret)/\∃ y,z=some y/\yC I8 Proofs.Tryz.f8.results.toList s=some (Gs y)) \/
  (z=none/\e = .panic (vV 63)/\bK s.fr 4=some (.ptr 4 0)/\bK s.fr 5=some (.ptr 5 0)/\bxn s.hp 4=some 2/\bxn s.hp 5=some 1)
 have hrest:pwp Proofs.Tryz.prog _ (Ay Proofs.Tryz.f8) Qf (s8 a0 a1p):=vA (t.sound hG2 ⟨.nil,.nil,.nil⟩ h hz (Q:=Qf) (fun y e s hy he=>by
  subst hy;refine⟨s,.refl,?_⟩;unfold Hv at he;cases y with
  | none=>
   cases e with
   | panic ch=>obtain⟨h1,h2⟩:=aO he;obtain⟨h2,h3⟩:=aO h2;have h2:=bH h2;have h3:=bH h3;injection h2 with h2 h4;injection h3 with h3 h5;exact .inr ⟨rfl,by rw[bH h1],h2,h4,h3,h5⟩
   | _=>exact(aP he).elim
  | some y=>
   cases e with
   | normal=>exact .inl ⟨.inl rfl,y,rfl,bH he⟩
   | ret=>exact .inl ⟨.inr rfl,y,rfl,bH he⟩
   | _=>exact(aP he).elim)) fun e s he=>⟨s,.refl,he⟩
 refine wpIn_mono (hrest (.inl rfl) a2 w2 rr) ?_;rintro e a3 w3 ⟨s,hq,_,F3,g3,r3⟩;have hfin:∀ w4 F4 g4,nC { w0:=w2,F0:=F1,B0:=Own g1 w2 (s8 a0 a1p).hp,g0:=g1,N:=[4,5],nt:=Proofs.Tryz.f8.ntmps,dok:=fun d=>d={ target:=.fn (.func 20) cap,args:=#[] },mkA:=false,dms:=fun d=>d={ target:=.fn (.func 20) cap,args:=#[] } } F4 g4 [] w4 ->
   nC { w0:=w,F0:=F,B0:=Own g w [],g0:=g,N:=[],nt:=0 } F4 g4 [] w4:=by
  intro w4 F4 g4 r4;refine⟨⟨fun o x h=>by simp at h,fun o x b h=>by simp at h,fun o x o' y b h=>by simp at h⟩,fun b hb=>r4.f0 b (r2.w.f0 b hb),fun b hb=>⟨(r4.f1 b hb).1,?_⟩,?_,fun o ho=>by simp at ho,r2.w.b0⟩
  ·rcases (r4.f1 b hb).2 with h | ⟨o,x,hx,h⟩ | h
   ·exact(r2.w.f1 b h).2
   ·exact .inr (r2.w.hp.own o x b hx h).2
   ·exact .inr (.inr (gV r2.w.ext.size h))
  ·refine r2.w.ext.trans r4.ext.os r4.ext.tape r4.ext.output r4.ext.size (fun b hb hB=>r4.ext.block b (by have:=r2.w.ext.size; simp only at this hb ⊢; omega) ?_);rintro⟨o,x,hx,h⟩;rcases (r2.w.hp.own o x b hx h).2 with h | h
   ·exact hB h
   ·simp only at hb h; omega
 have hall:∀ d,d∈a3.defers->d={ target:=.fn (.func 20) cap,args:=#[] }:=fun d hd=>by
  rcases r3.df.ok d hd with h | ⟨h,_⟩
  ·exact h
  ·cases h
 have hres:∀ s4 w4,cL { w0:=w2,F0:=F1,B0:=Own g1 w2 (s8 a0 a1p).hp,g0:=g1,N:=[4,5],nt:=Proofs.Tryz.f8.ntmps,dok:=fun d=>d={ target:=.fn (.func 20) cap,args:=#[] },mkA:=false,dms:=fun d=>d={ target:=.fn (.func 20) cap,args:=#[] } } F3 g3 s4 a3 w4 ->
   yC I8 Proofs.Tryz.f8.results.toList s4=some (Gs (z.getD default))->∃ v,(results Proofs.Tryz.f8 a3.tmps).run Proofs.Tryz.prog w4 = .ok v w4/\∃ v' r H' F' g',Ending.returned v = .returned v'/\Ret (Gs (z.getD default)) r H'/\VR F' g' w4 r v'/\nC { w0:=w,F0:=F,B0:=Own g w [],g0:=g,N:=[],nt:=0 } F' g' H' w4:=by
  intro s4 w4 r4 hr;obtain⟨v,hv1,hv2⟩:=Em hI r4 hr;exact⟨v,hv1,v,_,[],F3,g3,rfl,rfl,hv2,hfin _ _ _ ⟨r4.w.hp.sub fun e he=>(by cases he),r4.w.f0,r4.w.f1,r4.w.ext,r4.w.names,r4.w.b0⟩⟩
 rcases hq with⟨he,y,hy,hr⟩ | ⟨hz0,rfl,l4,l5,n4,n5⟩
 ·have:=qE (fn:=Proofs.Tryz.f8) (tmps:=a3.tmps) (R:=fun e w'=>∃ v r H' F' g',e = .returned v/\Ret (Gs (z.getD default)) r H'/\VR F' g' w' r v/\nC { w0:=w,F0:=F,B0:=Own g w [],g0:=g,N:=[],nt:=0 } F' g' H' w') (w:=w3) a3.defers
   (fun d hd=>by rw[hall d hd]; exact bBR cap) (hres s w3 r3 (by rw[hy]; exact hr))
  rcases he with rfl | rfl
  ·exact this
  ·exact this
 ·obtain⟨m4,hm4,hn4⟩:∃ l,bK s.hp 4=some (.box l)/\l.length=2:=by
   unfold bxn at n4;split at n4
   ·rename_i l hl; injection n4 with n4; exact⟨l,hl,n4⟩
   ·cases n4
  obtain⟨m5,hm5,hn5⟩:∃ l,bK s.hp 5=some (.box l)/\l.length=1:=by
   unfold bxn at n5;split at n5
   ·rename_i l hl; injection n5 with n5; exact⟨l,hl,n5⟩
   ·cases n5
  obtain⟨b4,v4,t4,e4,h4,s4,_⟩:pR F3 g3 w3 (g3 4) m4:=r3.w.hp.obj 4 _ (aU hm4);obtain⟨b5,v5,t5,e5,h5,s5,_⟩:pR F3 g3 w3 (g3 5) m5:=r3.w.hp.obj 5 _ (aU hm5);have f4:bG g3 w3 4 (.box m4) b4:=.self (by rw[e4]; rfl);have f5:bG g3 w3 5 (.box m5) b5:=.self (by rw[e5]; rfl);have hne:b4≠b5:=fun e=>r3.w.hp.sep 4 _ 5 _ b4 (aU hm4) (aU hm5) (by decide) f4 (e▸f5);have o4:=r3.w.hp.own 4 _ b4 (aU hm4) f4;have o5:=r3.w.hp.own 5 _ b5 (aU hm5) f5;have hc:cap=#[.pointer (some ⟨b4,0,none⟩),.pointer (some ⟨b5,0,none⟩)]:=by
   have g4:g1 4 = .pointer (some ⟨b4,0,none⟩):=by rw[<-e4]; exact(r3.w.names 4 (by simp)).symm
   have g5:g1 5 = .pointer (some ⟨b5,0,none⟩):=by rw[<-e5]; exact(r3.w.names 5 (by simp)).symm
   obtain⟨x,y,rfl⟩:∃ x y,cap=#[x,y]:=by
    cases cap with
    | mk l=>match l,hcs with
     | [x,y],_=>exact⟨x,y,rfl⟩
   have q4:=hcap 0 _ x rfl rfl;have q5:=hcap 1 _ y rfl rfl;cases q4 with
   | ptr h=>cases q5 with
    | ptr h'=>rw[h]at g4;rw[h']at g5;injection g4 with g4;injection g5 with g5;injection g4 with g4;injection g5 with g5;injection g4 with g4;injection g5 with g5;rw[g4,g5]
  have hF4:∀ b,F3 b->b≠b4/\b≠b5:=fun b hb=>⟨fun e=>o4.1 (e▸hb),fun e=>o5.1 (e▸hb)⟩;obtain⟨ds,hds⟩:∃ ds,a3.defers={ target:=.fn (.func 20) cap,args:=#[] }::ds:=by
   have h1:=r3.df.mu _ rfl;cases hl:a3.defers with
   | nil=>rw[hl]at h1; cases h1
   | cons d ds=>exact⟨ds,by rw[hall d (by rw[hl]; exact dJ)]⟩
  show LeavesInM Fence.wide 0 Proofs.Tryz.prog Proofs.Tryz.f8 a3.tmps _ a3.defers (.panicking (vV 63)) w3;rw[hds];refine⟨by simp,.inr ⟨fun hd=>(by cases hd),_,cap,20,cap,rfl,by simp[invoke,go_sem],fun _ _=>trivial,?_⟩⟩;rw[hc];refine(Gf h4 h5 (s4.trans hn4) (s5.trans hn5) hne).mono ?_;rintro e u' w4 ⟨⟨v',rfl⟩,hsu,k1,k2,k3,k4,k5,k6,k7⟩;show LeavesInM _ _ _ _ _ _ ds (settle u') w4;rw[hsu];have hF5:∀ b,F3 b->F3 b/\w4.heap[b]? = w3.heap[b]?:=fun b hb=>⟨hb,k5 b (r3.w.f1 b hb).1 (hF4 b hb).1 (hF4 b hb).2⟩;have hsz3:=r3.w.ext.size;refine qE ds (fun d hd=>by rw[hall d (by rw[hds]; exact cV _ hd)]; exact bBR cap)
   (hres ⟨[(4,.ptr 4 0),(5,.ptr 5 0)],[(4,.box ((aY default).map .t)),(5,.box ([.bool false].map .t))]⟩ w4 ⟨r3.nt,r3.df.mono hF5,fun t x hx=>?_,⟨⟨fun o x hx=>?_,fun o x b hx hb=>?_,fun o x o' y b hx hy hn hb hb'=>?_⟩,r3.w.f0,fun b hb=>⟨zT (r3.w.f1 b hb).1 k4,(r3.w.f1 b hb).2⟩,?_,r3.w.names,r3.w.b0⟩⟩ (by rw[hz0]; kernel_rfl))
  ·rcases aX.1 hx with e | hx
   ·cases e;exact(r3.fr 4 _ (aU l4)).mono hF5 (fun _ _=>rfl)
   ·cases cG.1 hx;exact(r3.fr 5 _ (aU l5)).mono hF5 (fun _ _=>rfl)
  ·rcases aX.1 hx with e | hx
   ·cases e;refine⟨b4,_,t4,e4,k6,rfl,fun j x v hx hv=>?_⟩
    match j,hx,hv with
    | 0,hx,hv=>cases hx; cases hv; exact .t (.nil rfl)
    | 1,hx,hv=>cases hx; cases hv; exact .t (.nil rfl)
   ·cases cG.1 hx;refine⟨b5,_,t5,e5,k7,rfl,fun j x v hx hv=>?_⟩
    match j,hx,hv with
    | 0,hx,hv=>cases hx; cases hv; exact .t (.bool _)
  ·rcases aX.1 hx with e | hx
   ·cases e;have:=hb.toBlk rfl;rw[e4]at this;cases this;exact o4
   ·cases cG.1 hx;have:=hb.toBlk rfl;rw[e5]at this;cases this;exact o5
  ·rcases aX.1 hx with e | hx <;> rcases aX.1 hy with e' | hy
   ·cases e; cases e'; exact hn rfl
   ·cases e; cases cG.1 hy;have q1:=hb.toBlk rfl;have q2:=hb'.toBlk rfl;rw[e4]at q1;rw[e5]at q2;cases q1; cases q2; exact hne rfl
   ·cases e'; cases cG.1 hx;have q1:=hb.toBlk rfl;have q2:=hb'.toBlk rfl;rw[e5]at q1;rw[e4]at q2;cases q1; cases q2; exact hne rfl
   ·cases cG.1 hx; cases cG.1 hy; exact hn rfl
  ·refine r3.w.ext.trans k1 k2 k3 k4 fun b hb hB=>?_;refine k5 b (zT hb hsz3) (fun e=>?_) (fun e=>?_)
   ·rcases o4.2 with h | h
    ·exact hB (e▸h)
    ·simp only at hb h; omega
   ·rcases o5.2 with h | h
    ·exact hB (e▸h)
    ·simp only at hb h; omega
theorem aJT(a0:aB)(a1:aW)(t:TP (Option (aB×Bool)))
  (h:chk Proofs.Tryz.prog I8 true t (Hv true I8 Proofs.Tryz.f8.results.toList Gs 63) kR (.c (Ay Proofs.Tryz.f8) []) (s8 a0 a1)=chk Proofs.Tryz.prog I8 false t (Hv false I8 Proofs.Tryz.f8.results.toList Gs 63) kR (.c (Ay Proofs.Tryz.f8) []) (s8 a0 a1)):
  Con Proofs.Tryz.prog 8 [.t (cA a0),.t (nM a1)] (t.den.map fun y=>y.getD default) (fun (y:aB×Bool)=>.tup [.t (cA y.1),.t (.bool (y.2))]):=by
 refine⟨bL Proofs.Tryz.func8 (by kernel_rfl),fun y hy=>?_⟩;obtain⟨z,hz,rfl⟩:=gB.1 hy;exact Kw a0 a1 t h z (t.of_den hz rfl)
noncomputable def aCB:Code:=match Proofs.Tryz.f164.body with
 | some (.seq _ (.block _ (.loop c)))=>c
 | _=>.skip
noncomputable def aMJ:Code:=match aCB with
 | .seq _ (.seq _ (.seq (.block _ c) _))=>c
 | _=>.skip
def aNZ:Code->Code
 | .seq x _=>x
 | _=>.skip
def Zg:Code->Code
 | .seq _ y=>y
 | _=>.skip
noncomputable def rW:Nat->Code
 | 0=>aNZ aMJ
 | 1=>aNZ (Zg aMJ)
 | 2=>aNZ (aNZ (Zg (Zg aMJ)))
 | _=>Zg (Zg (Zg aMJ))
noncomputable abbrev aBO:Inf:=⟨bK tiL,[30000],Proofs.Tryz.f164.ntmps,fx0,false⟩
abbrev tmW (yv:Value)(l:List aT)(i:Int):St:=⟨[(0,.lit yv),(1,.ptr 30000 0),(6,.t (eL aR l)),(7,.t (.int .i64 (l.length:Int))),(8,.t (.int .i64 i))],[(30000,.box ([eL aR l].map .t))]⟩
abbrev tmA (yv:Value)(l:List aT)(i:Int):St:=⟨[(0,.lit yv),(1,.ptr 30000 0),(3,.t (.int .i64 i)),(4,.ptr 4 0),(6,.t (eL aR l)),(7,.t (.int .i64 (l.length:Int))),(8,.t (.int .i64 i))],[(4,.box ((aR (l.getD i.toNat default)).map .t)),(30000,.box ([eL aR l].map .t))]⟩
abbrev tmB (yv:Value)(l:List aT)(i:Int)(y:Bool):St:=⟨[(0,.lit yv),(1,.ptr 30000 0),(3,.t (.int .i64 i)),(4,.ptr 4 0),(5,.t (.bool y)),(6,.t (eL aR l)),(7,.t (.int .i64 (l.length:Int))),(8,.t (.int .i64 i))],[(4,.box ((aR (l.getD i.toNat default)).map .t)),(30000,.box ([eL aR l].map .t))]⟩
abbrev tmC (yv:Value)(l:List aT)(i:Int)(y:Bool):St:=⟨[(0,.lit yv),(1,.ptr 30000 0),(3,.t (.int .i64 i)),(6,.t (eL aR l)),(7,.t (.int .i64 (l.length:Int))),(8,.t (.int .i64 i)),(46,.t (.bool y))],[(30000,.box ([eL aR l].map .t))]⟩
noncomputable def TWB (l:List aT)(i:Int):TP Bool:=
 .ite 4 (((l.getD i.toNat default).Unit:ByteArray).toList==(⟨#[]⟩:ByteArray).toList) (.ret 10 true) (.ite 4 (((l.getD i.toNat default).Type_)==0) (.ca 2 (Vu ((l.getD i.toNat default).Unit)) fun r3=>.ret 3 r3) (.ret 6 false))
noncomputable def TWC (l:List aT)(i:Int)(j2:Bool):TP Bool:=
 .dc 2 [.t (.str ((l.getD i.toNat default).Name))] (Vu ((l.getD i.toNat default).Name)) fun r5=>.dl 3 (r5) (.dc 6 [.t (.int .i64 ((l.getD i.toNat default).Type_))] (aQU ((l.getD i.toNat default).Type_)) fun r6=>.dl 9 (!((r6:ByteArray).toList==(⟨#[]⟩:ByteArray).toList)) (.dl 12 (j2) (.dg 15 (0<=((0:Int))/\((0:Int))<=i/\i<=(l.length:Int)) <| .dc 18 [.t (.sl (i-((0:Int))).toNat (fun k=>eF aR l (((0:Int)).toNat+k))),.t (.str ((l.getD i.toNat default).Name))] (bBY [] aR l ((0:Int)) i [.t (.str ((l.getD i.toNat default).Name))] (aOW ((l.drop ((0:Int)).toNat).take (i-((0:Int))).toNat) ((l.getD i.toNat default).Name))) fun r7=>.dr 0 0 [(4,false,[]),(30000,false,[])] [0,1,3,4,5,6,7,8] <| .ret 0 (decide (r7<0))) (.dr 0 0 [(4,false,[]),(30000,false,[])] [0,1,3,4,5,6,7,8] <| .ret 0 false)) (.dr 0 0 [(4,false,[]),(30000,false,[])] [0,1,3,4,5,6,7,8] <| .ret 0 false)) (.dr 0 0 [(4,false,[]),(30000,false,[])] [0,1,3,4,5,6,7,8] <| .ret 0 false)
def Lt(b:Bool)(ts os:List Nat)(f:Bool->St)(y:Bool)(e:Exit)(s:St):VT:=match e with
 | .normal=>vt b (s.keep ts os) (some (f y))
 | _=>bad b
theorem bCF(yv:Value)(l:List aT)(i:Int):chk Proofs.Tryz.prog aBO true (TWB l i) (Lt true [0,1,3,4,5,6,7,8] [4,30000] (tmB yv l i)) kR (.c (rW 1) []) (tmA yv l i)=chk Proofs.Tryz.prog aBO false (TWB l i) (Lt false [0,1,3,4,5,6,7,8] [4,30000] (tmB yv l i)) kR (.c (rW 1) []) (tmA yv l i):=by kernel_rfl
theorem bCL(yv:Value)(l:List aT)(i:Int)(y:Bool):chk Proofs.Tryz.prog aBO true (TWC l i y) (Lt true [0,1,3,6,7,8,46] [30000] (tmC yv l i)) kR (.c (rW 2) []) (tmB yv l i y)=chk Proofs.Tryz.prog aBO false (TWC l i y) (Lt false [0,1,3,6,7,8,46] [30000] (tmC yv l i)) kR (.c (rW 2) []) (tmB yv l i y):=by kernel_rfl
theorem aAO(n:Int):IntKind.i64.wrap n=(n+9223372036854775808) % 18446744073709551616-9223372036854775808:=by simp only[IntKind.wrap,IntKind.bits,IntKind.signed];simp;omega
theorem Uc{E:Env}{ts os:List Nat}{f:Bool->St}{y z:Bool}{e:Exit}{s:St}(hy:y=z)(he:Lt true ts os f y e s=Lt false ts os f y e s):∃ u,Le E s u/\e = .normal/\u=f z:=by
 subst hy;unfold Lt at he;cases e with
 | normal=>exact⟨_,Le.keep (bH he),rfl,rfl⟩
 | _=>exact(aP he).elim
noncomputable def pZ (l:List aT):Nat->Nat->Option Bool
 | 0,_=>some true
 | n+1,i=>(TWB l i).den.bind fun j2=>(TWC l i j2).den.bind fun j4=>if j4=true then pZ l n (i+1) else some false
noncomputable abbrev EW (F:Nat->Prop)(g:Nat->Value)(w:World)(B:Nat->Prop):Env:={ w0:=w,F0:=F,B0:=B,g0:=g,N:=[30000],nt:=Proofs.Tryz.f164.ntmps,mkA:=false }
abbrev s9 (yv:Value)(l:List aT)(i:Nat):St:=⟨(9,.t (.bool (decide ((i:Int)<(l.length:Int)))))::(tmW yv l i).fr,(tmW yv l i).hp⟩
theorem Hu{yv:Value}{F:Nat->Prop}{g:Nat->Value}{B:Nat->Prop}(hG:fF Proofs.Tryz.prog (EW F g w B) aBO)(l:List aT)(hl:l.length<=1000000000000)(Q0:Exit->Act->World->Prop)(bb:Bool)
  (hQ:bb=true->∀ a w',Rel (EW F g w B) (tmW yv l l.length) a w'->Q0 (.exit 0) a w')(hY:bb=false->∀ i a w',Rel (EW F g w B) (tmC yv l i false) a w'->(rW 3).wpIn (Fz none) 0 Proofs.Tryz.prog (fun e a w'=>e = .ret/\Q0 .ret a w') a w'):
  ∀ (n i:Nat),i+n=l.length->pZ l n i=some bb->∀ a w',Rel (EW F g w B) (tmW yv l i) a w'->Code.roundsIn (Fz none) 0 Proofs.Tryz.prog aCB Q0 (n+1) a w':=by
 intro n
 induction n with
 | zero=>
  intro i hi hr a w' r;rw[roundsIn_succ];show Code.wpIn _ _ _ (.seq _ _) _ a w';apply wpIn_seq;refine wpIn_mono (rL (Q:=fun e s=>e = .normal/\s=s9 yv l i) (st':=s9 yv l i) hG [9,0,1,6,7,8] [30000] (Cs:=[]) (by kernel_rfl) trivial ⟨rfl,rfl⟩ (.inl rfl) a w' r) ?_;rintro e a1 w1 ⟨st,⟨rfl,rfl⟩,_,F1,g1,r1⟩;show Code.wpIn _ _ _ (.seq _ _) _ a1 w1;apply wpIn_seq;have hc:=(r1.fr 9 _ dJ).inv_bool;refine wpIn_cond (t:=false) (by rw[eC (by omega)]at hc; exact hc) ?_;refine wpIn_exit ?_;have hi0:i=l.length:=by omega
  have hb:bb=true:=by cases hr; rfl
  subst hi0;exact hQ hb a1 w1 ⟨F1,g1,r1.nt,r1.df,fun t x h=>r1.fr t x (cV _ h),r1.w⟩
 | succ n ih=>
  intro i hi hr a w' r;rw[roundsIn_succ];show Code.wpIn _ _ _ (.seq _ _) _ a w';apply wpIn_seq;refine wpIn_mono (rL (Q:=fun e s=>e = .normal/\s=s9 yv l i) (st':=s9 yv l i) hG [9,0,1,6,7,8] [30000] (Cs:=[]) (by kernel_rfl) trivial ⟨rfl,rfl⟩ (.inl rfl) a w' r) ?_;rintro e a1 w1 ⟨st,⟨rfl,rfl⟩,_,F1,g1,r1⟩;show Code.wpIn _ _ _ (.seq _ _) _ a1 w1;apply wpIn_seq;have hc:=(r1.fr 9 _ dJ).inv_bool;refine wpIn_cond (t:=true) (by rw[cY (by omega)]at hc; exact hc) ?_;refine wpIn_skip ?_;show Code.wpIn _ _ _ (.seq _ _) _ a1 w1;apply wpIn_seq;apply wpIn_block;apply wpIn_seq;refine wpIn_mono (rL (Q:=fun e s=>e = .normal/\s=tmA yv l i) (st':=tmA yv l i) hG [0,1,3,4,6,7,8] [4,30000] (Cs:=[0<=(i:Int)/\(i:Int)<(l.length:Int)]) (by kernel_rfl) ⟨by omega,by omega⟩ ⟨rfl,rfl⟩ (.inl rfl) a1 w1 ⟨F1,g1,r1⟩) ?_;rintro e a2 w2 ⟨st,⟨rfl,rfl⟩,_,r2⟩;unfold pZ at hr;obtain⟨j2,h2,hr⟩:=oN.1 hr;obtain⟨j4,h4,hr⟩:=oN.1 hr;show Code.wpIn _ _ _ (.seq _ _) _ a2 w2;apply wpIn_seq;refine wpIn_mono (((TWB l i).sound hG ⟨.nil,.nil,.nil⟩ (bCF yv l i) ((TWB l i).of_den (Q:=(·=j2)) h2 rfl) (Q:=fun e s=>e = .normal/\s=tmB yv l i j2) (fun y e s hy he=>Uc hy he)) (.inl rfl) a2 w2 r2) ?_;rintro e a3 w3 ⟨st,⟨rfl,rfl⟩,_,r3⟩;show Code.wpIn _ _ _ (.seq _ _) _ a3 w3;apply wpIn_seq;apply wpIn_seq;refine wpIn_mono (((TWC l i j2).sound hG ⟨.nil,.nil,.nil⟩ (bCL yv l i j2) ((TWC l i j2).of_den (Q:=(·=j4)) h4 rfl) (Q:=fun e s=>e = .normal/\s=tmC yv l i j4) (fun y e s hy he=>Uc hy he)) (.inl rfl) a3 w3 r3) ?_;rintro e a4 w4 ⟨st,⟨rfl,rfl⟩,_,F4,g4,r4⟩;have hc4:=(r4.fr 46 (.t (.bool j4)) (by simp)).inv_bool;show Code.wpIn _ _ _ (.cond _ _ _) _ a4 w4;cases j4 with
  | true=>refine wpIn_cond (t:=true) hc4 ?_;refine wpIn_exit ?_;show Code.wpIn _ _ _ (.region _ _ _) _ a4 w4;refine wpIn_mono (rL (Q:=fun e s=>e = .normal/\s=tmW yv l (IntKind.i64.wrap ((i:Int)+1))) (st':=tmW yv l (IntKind.i64.wrap ((i:Int)+1))) hG [0,1,6,7,8] [30000] (Cs:=[]) (by kernel_rfl) trivial ⟨rfl,rfl⟩ (.inl rfl) a4 w4 ⟨F4,g4,r4⟩) ?_;rintro e a5 w5 ⟨st,⟨rfl,rfl⟩,_,r5⟩;rw[show IntKind.i64.wrap ((i:Int)+1)=((i+1:Nat):Int) by rw[show IntKind.i64.wrap ((i:Int)+1)=(i:Int)+1 by rw[aAO]; omega]; omega]at r5;exact ih (i+1) (by omega) (by simpa using hr) a5 w5 r5
  | false=>
   have hb:bb=false:=by simpa using hr.symm
   refine wpIn_cond (t:=false) hc4 ?_;refine wpIn_skip ?_;refine wpIn_mono (hY hb i a4 w4 ⟨F4,g4,r4⟩) ?_;rintro e a5 w5 ⟨rfl,hq⟩;exact hq
def Co(X:Nat->Prop)(w w':World):Prop:=w'.os=w.os/\w'.tape=w.tape/\w'.output=w.output/\w.heap.size<=w'.heap.size/\∀ k,k<w.heap.size->¬ X k->w'.heap[k]? = w.heap[k]?
noncomputable def xA:Code:=match Proofs.Tryz.f106.body with
 | some (.seq _ (.seq (.seq _ (.block _ (.rangeFunc _ _ _ b))) _))=>b
 | _=>.skip
theorem Ji{rc:Loop}{lp tb:Nat}(hl:w.heap[lp]? = some (.loop rc))(hst:rc.state = .ready)(has:rc.assign = .skip)(hbd:rc.body=xA)(hps:rc.params=#[5])(hsz:rc.tmps.size=14)
  (h2:rc.tmps[2]? = some (.pointer (some ⟨tb,0,none⟩))){b0:Value}(htb:w.heap[tb]? = some (.cells #[b0] 4 (0,0)))(hne:tb≠lp)(u:Value):
  RoundIn Fence.wide 0 Proofs.Tryz.prog lp rc.fn (rc.tmps.setIfInBounds 5 u) rc.assign rc.body w fun e w'=>
   e = .returned (.bool false)/\Co (fun k=>k=lp\/k=tb) w w'/\w'.heap[lp]? = some (.loop { rc with state:=.done,pending:=some .ret })/\w'.heap[tb]? = some (.cells #[.bool false] 4 (0,0)):=by
 refine roundIn_of_wpIn (F:=Fence.wide) trivial ?_;rw[has,hbd];refine wpIn_skip ?_;refine⟨_,run_beginRound hl hst,?_⟩;have hlt:lp<w.heap.size:=(oU.1 hl).1;have k1:(w.putObj lp (.loop { rc with state:=.busy })).heap[tb]? = some (.cells #[b0] 4 (0,0)):=by rw[World.putObj_heap_other hne]; exact htb
 have k2:(w.putObj lp (.loop { rc with state:=.busy })).heap[lp]? = some (.loop { rc with state:=.busy }):=World.putObj_heap_same hlt;have k3:Co (fun k=>k=lp) w (w.putObj lp (.loop { rc with state:=.busy })):=⟨rfl,rfl,rfl,by rw[show (w.putObj lp _).heap.size=w.heap.size by simp[World.putObj]]; exact fK _,fun k _ hk=>World.putObj_heap_other hk⟩;generalize w.putObj lp (.loop { rc with state:=.busy })=W at k1 k2 k3;show Code.wpIn _ _ _ (.block _ (.seq _ _)) _ _ W;apply wpIn_block;apply wpIn_seq;have c0:W.cell? ⟨tb,0,none⟩=some b0:=by simp[World.cell?,k1]
 have f0:W.frozen? ⟨tb,0,none⟩=false:=by simp[World.frozen?,k1]
 refine wpIn_region_lit (uG (r:=some lp) (by rintro⟨a,w,h⟩; exact h) _ _ W (.inr (by intro o ho; rw[cG.1 ho]; rfl)) ?_);simp[wpList,go_sem,Oper.wp,Oper.upon,Act.put,h2,c0,f0,Exit.then];refine .inl (wpIn_ret ?_);rw[setCell_eq_setRow W tb 0 _ _ _ _ k1];have k4:(W.setRow tb ((#[b0]:Array Value).setIfInBounds 0 (.bool false))).heap[lp]? = some (.loop { rc with state:=.busy }):=by rw[setRow_other _ _ _ _ (Ne.symm hne)]; exact k2
 refine⟨_,_,run_endRound (some .ret) k4,rfl,⟨k3.1,k3.2.1,k3.2.2.1,?_,fun k hk hx=>?_⟩,?_,?_⟩
 ·rw[show ∀ (X:World) o,(X.putObj lp o).heap.size=X.heap.size from fun X o=>by simp[World.putObj],setRow_size]; exact k3.2.2.2.1
 ·rw[World.putObj_heap_other (fun e=>hx (.inl e)),setRow_other _ _ _ _ (fun e=>hx (.inr e))];exact k3.2.2.2.2 k hk (fun e=>hx (.inl e))
 ·rw[World.putObj_heap_same (oU.1 k4).1];simp[has,hbd,hps]
 ·rw[World.putObj_heap_other hne];exact setRow_heap _ _ _ _ _ _ k1
theorem Hm{l:List aT}{bb:Bool}(hl:l.length<=1000000000000)(hr:pZ l l.length 0=some bb){F:Nat->Prop}{lp cb tb:Nat}{u:Value}{rc:Loop}(hF:∀ b,F b->b<w.heap.size)(hgl:GLP Proofs.Tryz.prog F w)
  (hcb:w.heap[cb]? = some (.cells #[u] 46 (0,0)))(hFc:¬ F cb)(hu:∀ g,VR F g w (.t (eL aR l)) u)(hlp:w.heap[lp]? = some (.loop rc))(hne1:lp≠cb)(hne2:tb≠cb)(hne:tb≠lp)
  (hst:rc.state = .ready)(has:rc.assign = .skip)(hbd:rc.body=xA)(hps:rc.params=#[5])(hsz:rc.tmps.size=14)(h2:rc.tmps[2]? = some (.pointer (some ⟨tb,0,none⟩))){b0:Value}(htb:w.heap[tb]? = some (.cells #[b0] 4 (0,0))):
  Calls Proofs.Tryz.prog 164 #[.func (.yield lp) #[] #[],.pointer (some ⟨cb,0,none⟩)] w fun e w'=>(∃ v,e = .returned v) /\
   (bb=true->Co (fun k=>k=cb) w w') /\
   (bb=false->Co (fun k=>k=cb\/k=lp\/k=tb) w w'/\w'.heap[lp]? = some (.loop { rc with state:=.done,pending:=some .ret })/\w'.heap[tb]? = some (.cells #[.bool false] 4 (0,0))):=by
 refine(callsIn_wide (n:=0)).1 (callsIn_of_wp_marks (F:=Fence.wide) Proofs.Tryz.func164 rfl trivial ?_);let g:Nat->Value:=fun _=>.pointer (some ⟨cb,0,none⟩);have hlc:cb<w.heap.size:=(oU.1 hcb).1;have hfoot:∀ k x b,(k,x)∈[((30000:Nat),bA.box (([eL aR l]).map .t))]->bG g w k x b->b=cb:=by intro k x b hx hb;cases cG.1 hx;have:=hb.toBlk rfl;simpa[blk,g] using this.symm
 have hG:fF Proofs.Tryz.prog (EW F g w (fun b=>b=cb)) aBO:=
  ⟨fun e=>(by cases e),aN,rfl,rfl,hgl,fun b hb=>⟨fun e=>hFc (e▸hb),hF b hb⟩,trivial,fun e=>(by cases e),fun _ _ h=>h⟩
 have r0:cL (EW F g w (fun b=>b=cb)) F g ⟨[(0,.lit (.func (.yield lp) #[] #[])),(1,.ptr 30000 0)],[(30000,.box (([eL aR l]).map .t))]⟩
   { tmps:=#[.func (.yield lp) #[] #[],.pointer (some ⟨cb,0,none⟩)]++Array.replicate (Proofs.Tryz.f164.ntmps-2) undef,defers:=[] } w:=by
  have e0:(#[Value.func (.yield lp) #[] #[],.pointer (some ⟨cb,0,none⟩)]++Array.replicate (Proofs.Tryz.f164.ntmps-2) undef).getD 0 undef = .func (.yield lp) #[] #[]:=by simp[Array.getD]
  have e1:(#[Value.func (.yield lp) #[] #[],.pointer (some ⟨cb,0,none⟩)]++Array.replicate (Proofs.Tryz.f164.ntmps-2) undef).getD 1 undef = .pointer (some ⟨cb,0,none⟩):=by simp[Array.getD]
  refine⟨by simp only[jO,Kj]; rfl,⟨fun d hd=>by simp at hd,.nil,fun _ h=>h.elim⟩,fun t x hx=>?_,⟨⟨fun k x hx=>?_,fun k x b hx hb=>⟨fun hF'=>?_,.inl (hfoot k x b hx hb)⟩,fun k x k' x' b hx hx' hn=>?_⟩,fun _ h=>h,fun b hb=>⟨hF b hb,.inl hb⟩,
   ⟨rfl,rfl,rfl,fK _,fun _ _ _=>rfl⟩,fun _ _=>rfl,fun b hb=>hb▸hlc⟩⟩
  ·rcases aX.1 hx with e | hx
   ·cases e; show VR _ _ _ _ (Array.getD _ 0 undef); rw[e0]; exact .lit rfl
   ·cases cG.1 hx; show VR _ _ _ _ (Array.getD _ 1 undef); rw[e1]; exact .ptr rfl
  ·cases cG.1 hx;refine⟨cb,_,_,rfl,hcb,rfl,fun j y v hy hv=>?_⟩
   match j,hy,hv with
   | 0,hy,hv=>cases hy; cases hv; exact hu g
  ·exact hFc (hfoot k x b hx hb▸hF')
  ·cases cG.1 hx;cases cG.1 hx';exact absurd rfl hn
 have hdf:∀ {F' g' st a w'},cL (EW F g w (fun b=>b=cb)) F' g' st a w'->a.defers=[]:=fun r=>by
  refine Ij.2 fun d hd=>?_;rcases r.df.ok d hd with h | ⟨h,_⟩
  ·exact h
  ·cases h
 apply wpIn_seq;refine wpIn_mono (rL (Q:=fun e s=>e = .normal/\s=tmW (.func (.yield lp) #[] #[]) l 0) (st':=tmW (.func (.yield lp) #[] #[]) l 0) hG [0,1,6,7,8] [30000] (Cs:=[]) (by kernel_rfl) trivial ⟨rfl,rfl⟩ (.inl rfl) _ w ⟨F,g,r0⟩) ?_;rintro e a1 w1 ⟨st,⟨rfl,rfl⟩,_,r1⟩;show Code.wpIn _ _ _ (.block _ (.loop aCB)) _ a1 w1;apply wpIn_block;refine wpIn_loop_rounds _ (Hu hG l hl _ bb (fun hb a w' r=>?_) (fun hb i a w' r=>?_) l.length 0 (by omega) hr a1 w1 r1)
 ·obtain⟨F',g',r⟩:=r;show LeavesInM Fence.wide 0 _ _ _ _ a.defers .returning w';rw[hdf r];refine⟨.tuple #[],by simp[results,Proofs.Tryz.f164,go_sem],⟨_,rfl⟩,fun _=>⟨r.w.ext.os,r.w.ext.tape,r.w.ext.output,r.w.ext.size,fun k hk hx=>r.w.ext.block k hk hx⟩,fun h=>by rw[hb]at h; cases h⟩
 ·obtain⟨F',g',r⟩:=r;have hsz0:a.tmps.size=52:=r.nt;have t0:a.tmps[0]? = some (.func (.yield lp) #[] #[]):=by have h:=r.fr 0 (.lit (.func (.yield lp) #[] #[])) (by simp);generalize hz:a.tmps.getD 0 undef=z at h;cases h;rw[Dh]at hz;rw[uN (by omega)]at hz ⊢;exact congrArg some hz
  have t3:a.tmps[3]? = some (.int .i64 i):=by have h:=(r.fr 3 (.t (.int .i64 i)) (by simp)).inv_int;rw[Dh]at h;rw[uN (by omega)]at h ⊢;exact congrArg some h
  have q0:∀ (h:0<a.tmps.size),a.tmps[0] = .func (.yield lp) #[] #[]:=fun h=>by rw[uN h]at t0; exact pN t0
  have q3:∀ (h:3<a.tmps.size),a.tmps[3] = .int .i64 i:=fun h=>by rw[uN h]at t3; exact pN t3
  have hl':w'.heap[lp]? = some (.loop rc):=(r.w.ext.block lp (oU.1 hlp).1 hne1).trans hlp;have htb':w'.heap[tb]? = some (.cells #[b0] 4 (0,0)):=(r.w.ext.block tb (oU.1 htb).1 hne2).trans htb;have hyy:=run_yield (P:=Proofs.Tryz.prog) (args:=#[.int .i64 i]) hl' (by rw[hps]; rfl);show Code.wpIn _ _ _ (.seq _ _) _ a w';apply wpIn_seq;apply wpIn_region_lit;simp[wpListIn,go_sem,Oper.wpIn,Oper.uponIn,Oper.semAt_none,Fz,q0,q3,hsz0,Act.put,hyy,hps];refine⟨rfl,RoundIn.mono (Ji hl' hst has hbd hps hsz h2 htb' hne _) ?_⟩;rintro e w2 ⟨rfl,k1,k2,k3⟩;simp[go_sem];refine wpIn_cond (t:=true) (by simp[go_sem,Act.eval,hsz0]) ?_;refine wpIn_ret ⟨rfl,?_⟩;show LeavesInM Fence.wide 0 _ _ _ _ a.defers .returning w2;rw[hdf r];refine⟨.tuple #[],by simp[results,Proofs.Tryz.f164,go_sem],⟨_,rfl⟩,fun h=>(by rw[hb]at h; cases h),fun _=>⟨⟨k1.1.trans r.w.ext.os,k1.2.1.trans r.w.ext.tape,k1.2.2.1.trans r.w.ext.output,gV r.w.ext.size k1.2.2.2.1,fun k hk hx=>?_⟩,hps▸k2,k3⟩⟩;rw[k1.2.2.2.2 k (zT hk r.w.ext.size) (fun e=>hx (.inr e))];exact r.w.ext.block k hk (fun e=>hx (.inl e))
end Go.PL
namespace Go.Proofs
open Go.RowKit Go.Maps Go.Sort Go.Shelf
def Tryz.keys134_ren:Go.Shelf.Ren:=⟨fun | 7=>134 | 10=>159 | n=>n,fun | 23=>166 | 26=>3 | 3=>4 | 28=>169 | 0=>0 | 27=>168 | 33=>116 | 4=>4 | n=>n,fun n=>n⟩
theorem Tryz.keys134:Go.Proofs.SlLaysZI.n7 Tryz.prog Tryz.keys134_ren:={
 mixed:=by kernel_rfl
 f7:=⟨Tryz.f134.name,by kernel_rfl,Tryz.func134.trans (congrArg some (by kernel_rfl))⟩
 f10:=⟨Tryz.f159.name,by kernel_rfl,Tryz.func159.trans (congrArg some (by kernel_rfl))⟩
 t0:=Tryz.underlying0
 a0:=Tryz.isAgg0
 z0:=Tryz.sizeOf0
 v0:=Tryz.zeroValue0
 t4:=Tryz.underlying4
 a4:=Tryz.isAgg4
 z4:=Tryz.sizeOf4
 v4:=Tryz.zeroValue4
 t23:=Tryz.underlying166
 a23:=Tryz.isAgg166
 z23:=Tryz.sizeOf166
 v23:=Tryz.zeroValue166
 t26:=Tryz.underlying3
 a26:=Tryz.isAgg3
 z26:=Tryz.sizeOf3
 v26:=Tryz.zeroValue3
 t27:=Tryz.underlying168
 a27:=Tryz.isAgg168
 z27:=Tryz.sizeOf168
 v27:=Tryz.zeroValue168
 t28:=Tryz.underlying169
 a28:=Tryz.isAgg169
 z28:=Tryz.sizeOf169
 v28:=Tryz.zeroValue169
 t33:=Tryz.underlying116
 a33:=Tryz.isAgg116
 z33:=Tryz.sizeOf116
 v33:=Tryz.zeroValue116 }
def Tryz.sorted133_ren:Go.Shelf.Ren:=⟨fun | 6=>133 | 8=>157 | 9=>158 | 11=>169 | 13=>171 | 12=>170 | 23=>194 | 24=>195 | 14=>185 | 15=>186 | 16=>187 | 17=>188 | 18=>189 | 19=>190 | 20=>191 | 21=>192 | 22=>193 | 25=>201 | 26=>202 | 27=>203 | 28=>204 | 29=>205 | 30=>206 | 31=>209 | n=>n,fun | 26=>3 | 28=>169 | 24=>47 | 0=>0 | 3=>3 | 37=>204 | 48=>194 | 50=>217 | 4=>4 | 40=>229 | 39=>228 | 45=>140 | 5=>5 | 9=>9 | 51=>241 | 55=>245 | 57=>247 | 58=>248 | 33=>116 | n=>n,fun n=>n⟩
theorem Tryz.sorted133:Go.Proofs.SlLaysZI.n6 Tryz.prog Tryz.sorted133_ren:={
 mixed:=by kernel_rfl
 f6:=⟨Tryz.f133.name,by kernel_rfl,Tryz.func133.trans (congrArg some (by kernel_rfl))⟩
 f8:=⟨Tryz.f157.name,by kernel_rfl,Tryz.func157.trans (congrArg some (by kernel_rfl))⟩
 f11:=⟨Tryz.f169.name,by kernel_rfl,Tryz.func169.trans (congrArg some (by kernel_rfl))⟩
 t0:=Tryz.underlying0
 a0:=Tryz.isAgg0
 z0:=Tryz.sizeOf0
 v0:=Tryz.zeroValue0
 t24:=Tryz.underlying47
 a24:=Tryz.isAgg47
 z24:=Tryz.sizeOf47
 v24:=Tryz.zeroValue47
 t26:=Tryz.underlying3
 a26:=Tryz.isAgg3
 z26:=Tryz.sizeOf3
 v26:=Tryz.zeroValue3
 t28:=Tryz.underlying169
 a28:=Tryz.isAgg169
 z28:=Tryz.sizeOf169
 v28:=Tryz.zeroValue169
 i26:=by kernel_rfl }
def Tryz.sort158_ren:Go.Shelf.Ren:=⟨fun | 5=>158 | 8=>171 | 7=>170 | 19=>194 | 20=>195 | 10=>185 | 11=>186 | 12=>187 | 13=>188 | 14=>189 | 15=>190 | 16=>191 | 17=>192 | 18=>193 | 30=>201 | 31=>202 | 32=>203 | 33=>204 | 34=>205 | 35=>206 | 40=>209 | n=>n,fun | 23=>47 | 25=>3 | 3=>3 | 32=>204 | 22=>47 | 0=>0 | 44=>194 | 46=>217 | 4=>4 | 36=>229 | 35=>228 | 41=>140 | 5=>5 | 9=>9 | 53=>241 | 57=>245 | 63=>247 | 64=>248 | n=>n,fun n=>n⟩
theorem Tryz.sort158:Go.Proofs.SlLaysM.n5 Tryz.prog Tryz.sort158_ren:={
 mixed:=by kernel_rfl
 f5:=⟨Tryz.f158.name,by kernel_rfl,Tryz.func158.trans (congrArg some (by kernel_rfl))⟩
 f7:=⟨Tryz.f170.name,by kernel_rfl,Tryz.func170.trans (congrArg some (by kernel_rfl))⟩
 f8:=Tryz.func171.trans (congrArg some (by kernel_rfl))
 f10:=⟨Tryz.f185.name,by kernel_rfl,Tryz.func185.trans (congrArg some (by kernel_rfl))⟩
 f11:=⟨Tryz.f186.name,by kernel_rfl,Tryz.func186.trans (congrArg some (by kernel_rfl))⟩
 f12:=⟨Tryz.f187.name,by kernel_rfl,Tryz.func187.trans (congrArg some (by kernel_rfl))⟩
 f13:=⟨Tryz.f188.name,by kernel_rfl,Tryz.func188.trans (congrArg some (by kernel_rfl))⟩
 f14:=⟨Tryz.f189.name,by kernel_rfl,Tryz.func189.trans (congrArg some (by kernel_rfl))⟩
 f15:=⟨Tryz.f190.name,by kernel_rfl,Tryz.func190.trans (congrArg some (by kernel_rfl))⟩
 f16:=⟨Tryz.f191.name,by kernel_rfl,Tryz.func191.trans (congrArg some (by kernel_rfl))⟩
 f17:=⟨Tryz.f192.name,by kernel_rfl,Tryz.func192.trans (congrArg some (by kernel_rfl))⟩
 f18:=⟨Tryz.f193.name,by kernel_rfl,Tryz.func193.trans (congrArg some (by kernel_rfl))⟩
 f19:=Tryz.func194.trans (congrArg some (by kernel_rfl))
 f20:=Tryz.func195.trans (congrArg some (by kernel_rfl))
 f30:=⟨Tryz.f201.name,by kernel_rfl,Tryz.func201.trans (congrArg some (by kernel_rfl))⟩
 f31:=Tryz.func202.trans (congrArg some (by kernel_rfl))
 f32:=Tryz.func203.trans (congrArg some (by kernel_rfl))
 f33:=⟨Tryz.f204.name,by kernel_rfl,Tryz.func204.trans (congrArg some (by kernel_rfl))⟩
 f34:=⟨Tryz.f205.name,by kernel_rfl,Tryz.func205.trans (congrArg some (by kernel_rfl))⟩
 f35:=⟨Tryz.f206.name,by kernel_rfl,Tryz.func206.trans (congrArg some (by kernel_rfl))⟩
 f40:=⟨Tryz.f209.name,by kernel_rfl,Tryz.func209.trans (congrArg some (by kernel_rfl))⟩
 t0:=Tryz.underlying0
 a0:=Tryz.isAgg0
 z0:=Tryz.sizeOf0
 v0:=Tryz.zeroValue0
 t3:=Tryz.underlying3
 a3:=Tryz.isAgg3
 z3:=Tryz.sizeOf3
 v3:=Tryz.zeroValue3
 t4:=Tryz.underlying4
 a4:=Tryz.isAgg4
 z4:=Tryz.sizeOf4
 v4:=Tryz.zeroValue4
 t5:=Tryz.underlying5
 a5:=Tryz.isAgg5
 z5:=Tryz.sizeOf5
 v5:=Tryz.zeroValue5
 t9:=Tryz.underlying9
 a9:=Tryz.isAgg9
 z9:=Tryz.sizeOf9
 v9:=Tryz.zeroValue9
 t22:=Tryz.underlying47
 a22:=Tryz.isAgg47
 z22:=Tryz.sizeOf47
 v22:=Tryz.zeroValue47
 t23:=Tryz.underlying47
 a23:=Tryz.isAgg47
 z23:=Tryz.sizeOf47
 v23:=Tryz.zeroValue47
 t25:=Tryz.underlying3
 a25:=Tryz.isAgg3
 z25:=Tryz.sizeOf3
 v25:=Tryz.zeroValue3
 t32:=Tryz.underlying204
 a32:=Tryz.isAgg204
 z32:=Tryz.sizeOf204
 v32:=Tryz.zeroValue204
 t35:=Tryz.underlying228
 a35:=Tryz.isAgg228
 z35:=Tryz.sizeOf228
 v35:=Tryz.zeroValue228
 t36:=Tryz.underlying229
 a36:=Tryz.isAgg229
 z36:=Tryz.sizeOf229
 v36:=Tryz.zeroValue229
 t41:=Tryz.underlying140
 a41:=Tryz.isAgg140
 z41:=Tryz.sizeOf140
 v41:=Tryz.zeroValue140
 t44:=Tryz.underlying194
 a44:=Tryz.isAgg194
 z44:=Tryz.sizeOf194
 v44:=Tryz.zeroValue194
 t46:=Tryz.underlying217
 a46:=Tryz.isAgg217
 z46:=Tryz.sizeOf217
 v46:=Tryz.zeroValue217
 t53:=Tryz.underlying241
 a53:=Tryz.isAgg241
 z53:=Tryz.sizeOf241
 v53:=Tryz.zeroValue241
 t57:=Tryz.underlying245
 a57:=Tryz.isAgg245
 z57:=Tryz.sizeOf245
 v57:=Tryz.zeroValue245
 t63:=Tryz.underlying247
 a63:=Tryz.isAgg247
 z63:=Tryz.sizeOf247
 v63:=Tryz.zeroValue247
 t64:=Tryz.underlying248
 a64:=Tryz.isAgg248
 z64:=Tryz.sizeOf248
 v64:=Tryz.zeroValue248 }
theorem Tryz.sorts133(m:Nat):AnyZI.SortsIn Tryz.prog Tryz.sorted133_ren Fence.wide m:=
 ⟨fun blk off cap ss W hH hblk hsz=>callsIn_wide.2 (AnyM.slices_Sort_int Tryz.sort158 blk off cap ss W hH hblk hsz),
  fun p cap W=>callsIn_wide.2 (AnyM.slices_Sort_int_none Tryz.sort158 p cap W)⟩
theorem Tryz.maps_Keys_134(mb:Option Nat)(W:World):CallsIn Fence.wide 5 Tryz.prog 134 #[.map mb] W fun e w'=>e = .returned (.func (.func 159) #[] #[.pointer (some ⟨W.heap.size,0,none⟩)])/\w'=W.alloc (.cells #[.map mb] 166):=
 AnyZI.keys_in Tryz.keys134 Fence.wide 5 trivial rfl mb W
theorem Tryz.sorted_ikeys{H:Type}(Bm b nn:Nat)(D0:DataW H)(R:Value->Option (DataW H×List MemPlace))(w:World)(hBm:Bm<w.heap.size)(hm:w.cell? ⟨Bm,0,none⟩=some (.map (some b)))(hown:w.ownsMap Tryz.prog 3 R b nn D0)(hmax:Maps.size D0<=maxLen)(hbytes:Maps.size D0*8<=140737488355328):
  CallsIn Fence.wide 5 Tryz.prog 133 #[.func (.func 159) #[] #[.pointer (some ⟨Bm,0,none⟩)]] w fun e w'=>∃ (v:Value) (ss:List Int),e = .returned v/\ss.Perm (intKeys D0) /\
   w'.ownsRow w.heap.size 3 1 v ss.length ((ss.mergeSort (fun x y=>decide (x<=y))).map encZ)/\(v = .slice none 0 0↔ss=[])/\Below w.heap.size w w':=by
 have hseq:SeqGives Fence.wide 2 Tryz.prog 159 #[.pointer (some ⟨Bm,0,none⟩)] encZ (fun ss=>ss.Perm (intKeys D0)) (Maps.size D0) w:=
  AnyZI.keys_gives (ρ:=Tryz.keys134_ren) { Tryz.keys134 with } Fence.wide _ trivial rfl (by omega) Bm b nn D0 w hBm hm hown
 exact AnyZI.sorted_in Tryz.sorted133 Fence.wide 5 trivial trivial trivial trivial rfl (by omega) (Tryz.sorts133 _) (enters_of Tryz.func158 (by kernel_rfl) rfl) 159 #[.pointer (some ⟨Bm,0,none⟩)] trivial (enters_of Tryz.func159 (by kernel_rfl) rfl) _ _ hmax hbytes _ hseq
end Go.Proofs
namespace Go.PL
open Go
set_option linter.unusedVariables false
theorem Vn{F:Nat->Prop}{g g':Nat->Value}{w w':World}{H:Hp}{N:List Nat}{o':Nat}{x':bA}(hH:HpR F g w (fun _=>True) H)(hF:∀ b,F b->b<w.heap.size)(hb:Go.RowKit.Below w.heap.size w w')
  (hg:∀ o,o≠o'->g' o=g o)(hn:∀ o x,(o,x)∈H->o≠o'/\∀ k,k∈x.names->k≠o')(hN:∀ o,o∈N->o≠o')(hx:dD F g' w' o' x')(hf:∀ b,bG g' w' o' x' b->w.heap.size<=b/\b<w'.heap.size):
  nC { w0:=w,F0:=F,B0:=Own g w H,g0:=g,N:=N,nt:=0 } F g' (H++[(o',x')]) w':=by
 have same:∀ b,b<w.heap.size->w'.heap[b]? = w.heap[b]?:=hb.block;have old:∀ o x,(o,x)∈H->dD F g' w' o x:=fun o x hox=>by obtain⟨h1,h2⟩:=hn o x hox;exact(hH.obj o x hox).mono (fun b hbF=>⟨hbF,same b (hF b hbF)⟩) (hg o h1) (fun k hk=>hg k (h2 k hk)) (fun b hbf=>same b (hbf.block (hH.obj o x hox)))
 have ft:∀ o x b,(o,x)∈H->bG g' w' o x b->bG g w o x b:=fun o x b hox h=>by obtain⟨h1,h2⟩:=hn o x hox;exact h.mono (hg o h1) (fun k hk=>hg k (h2 k hk)) (fun c hc=>same c ((hH.obj o x hox).block hc))
 refine⟨⟨fun o x hox=>?_,fun o x b hox hfb=>?_,fun o x o2 y b hox hoy hne h1 h2=>?_⟩,fun b h=>h,fun b h=>⟨zT (hF b h) hb.size,.inl h⟩,⟨hb.os,hb.tape,hb.output,hb.size,fun b h _=>same b h⟩,fun o ho=>hg o (hN o ho),fun b ⟨o,x,hox,hfo⟩=>hfo.block (hH.obj o x hox)⟩
 ·rcases dZ.1 hox with h | h
  ·exact old o x h
  ·cases cG.1 h; exact hx
 ·rcases dZ.1 hox with h | h
  ·have h3:=ft o x b h hfb;exact⟨(hH.own o x b h h3).1,.inl ⟨o,x,h,h3⟩⟩
  ·cases cG.1 h;have h3:=hf b hfb;exact⟨fun hFb=>by have:=hF b hFb; omega,.inr h3.1⟩
 ·rcases dZ.1 hox with h | h
  ·rcases dZ.1 hoy with h' | h'
   ·exact hH.sep o x o2 y b h h' hne (ft o x b h h1) (ft o2 y b h' h2)
   ·cases cG.1 h';have h3:=(ft o x b h h1).block (hH.obj o x h);have h4:=hf b h2;omega
  ·cases cG.1 h;rcases dZ.1 hoy with h' | h'
   ·have h3:=(ft o2 y b h' h2).block (hH.obj o2 y h');have h4:=hf b h1;omega
   ·cases cG.1 h'; exact absurd rfl hne
def kJ(ks:List Int):List Int:=ks.mergeSort (fun x y=>decide (x<=y))
def aFL(ks:List Int):Bool:=decide (ks.length<=1000000000000)&&ks.all fun k=>decide (-9223372036854775808<=k/\k<=9223372036854775807)
theorem aHW{n:Int}{v:Value}(h:KeyR (.int .i64 n) v):v = .int .i64 n:=by cases h; rfl
def Yn:Value->Int
 | .int _ n=>n
 | _=>0
theorem Cw{V:Type}{F:Nat->Prop}{w:World}{enc:V->Mem}:∀ {v:List (Int×V)} {l:List MapEntry},lV (aUP F w) (eM enc v) l->l.map (fun e=>Yn e.key)=dI v/\∀ e,e∈l->∃ k,k∈dI v/\e.key = .int .i64 k
 | [],l,h=>by cases h;exact⟨rfl,fun e he=>by simp at he⟩
 | (k,c)::v,l,h=>by
  generalize hm:eM enc ((k,c)::v)=m at h;cases h with
  | nil=>simp[eM]at hm
  | @cons a b la lb hr ht=>
   simp only[eM,kY,List.cons.injEq]at hm;obtain⟨rfl,rfl⟩:=hm;have hk:=aHW hr.1;obtain⟨q1,q2⟩:=Cw (v:=v) (l:=lb) ht;refine⟨?_,fun e he=>?_⟩
   ·simp only[kY,dI]at q1 ⊢;rw[q1,hk]; rfl
   ·rcases aX.1 he with rfl | he
    ·exact⟨k,dJ,hk⟩
    ·obtain⟨k',h1,h2⟩:=q2 e he;exact⟨k',cV _ h1,h2⟩
open Go.RowKit Go.Maps Go.Sort Go.Shelf Go.Proofs in
theorem Mx{V:Type}{F:Nat->Prop}{g:Nat->Value}{w:World}{b clock:Nat}{es:Array MapEntry}{enc:V->Mem}{v:List (Int×V)}{l r:List MapEntry}(hb:w.heap[b]? = some (.map es clock))(h:MpR F g w b es clock none (eM enc v) none l r)(hk:aFL (dI v)=true)(hnd:(dI v).Nodup):
  ∃ D0:DataW Unit,w.ownsMap Proofs.Tryz.prog 3 (fun _=>some (.nil,[])) b es.size D0/\(intKeys D0).Perm ((dI v))/\Maps.size D0<=1000000000000:=by
 unfold aFL at hk;rw[cP,pQ,dQ]at hk;obtain⟨hlen,hsz⟩:=hk;have hr:r=[]:=h.hole;subst hr;have hp:=h.perm;rw[jJ]at hp;obtain⟨q1,q2⟩:=Cw h.ent;have hes:es.size=(dI v).length:=by have:=congrArg List.length q1;rw[iG,hp.length_eq,jH]at this;exact this
 have key:∀ e,e∈es.toList->∃ k,k∈dI v/\e.key = .int .i64 k:=fun e he=>q2 e (hp.mem_iff.2 he);have rdk:∀ e,e∈es.toList->WideElems.rd Proofs.Tryz.prog 3 (fun _=>some ((DataW.nil:DataW Unit),[])) e=some (Lit.int .i64 (Yn e.key),DataW.nil):=fun e he=>by
  obtain⟨k,hk,hke⟩:=key e he;have hs:=wI (hsz k hk);have e1:keyOf Proofs.Tryz.prog 3 e.key=some (Lit.int .i64 (Yn e.key)):=by
   rw[hke];unfold keyOf mapKey;rw[Proofs.Tryz.underlying3];show (if IntKind.i64=IntKind.i64/\(Lit.int .i64 k).wf=true then some (Lit.int .i64 k) else none)=_;rw[aA ⟨rfl,by
    have h1:IntKind.i64.min = -9223372036854775808:=by rfl
    have h2:IntKind.i64.max=9223372036854775807:=by rfl
    simp only[Lit.wf,cP,pQ];omega⟩]
   rfl
  unfold WideElems.rd;rw[e1]; rfl
 have hnk:(es.toList.map (·.key)).Nodup:=by
  have h1:(es.toList.map fun e=>Yn e.key).Nodup:=by
   have h2:(l.map fun e=>Yn e.key).Nodup:=by rw[q1];exact hnd
   exact(hp.map _).nodup_iff.1 h2
  exact List.pairwise_map.2 ((List.pairwise_map.1 h1).imp fun hab e=>hab (by rw[e]))
 have hperm:(intKeys (DataW.map ((es.toList.map (WideElems.rg Proofs.Tryz.prog 3 (fun _=>some ((DataW.nil:DataW Unit),[])))).foldr DataW.insert []))).Perm ((dI v)):=by
  rw[<-q1];unfold intKeys;have h1:=(WideShapes.sorted_perm (es.toList.map (WideElems.rg Proofs.Tryz.prog 3 (fun _=>some ((DataW.nil:DataW Unit),[]))))).map (fun p=>intOf p.1);refine h1.trans ?_;rw[List.map_map];have h2:es.toList.map ((fun p=>intOf p.1) ∘ WideElems.rg Proofs.Tryz.prog 3 (fun _=>some ((DataW.nil:DataW Unit),[])))=es.toList.map fun e=>Yn e.key:=by refine List.map_congr_left fun e he=>?_;simp only[Function.comp];rw[WideElems.rg_of (rdk e he)]; rfl
  rw[h2];exact(hp.map _).symm
 refine⟨_,⟨es,clock,hb,⟨by rw[hes]; simp only[maxLen]; omega,⟨h.old,h.born,hnk⟩,fun x hx=>⟨_,rdk x hx⟩⟩,fK _,rfl⟩,hperm,?_⟩;have:=length_read (H:=Unit) (P:=Proofs.Tryz.prog) (k:=3) (R0:=fun _=>some (DataW.nil,[])) es;show ((es.toList.map _).foldr DataW.insert []).length<=_;rw[this,hes]; exact hlen
theorem aYU{V:Type}(enc:V->Mem)(v:List (Int×V)):cO Proofs.Tryz.prog 134 [.map 30000] [(30000,.mp none (eM enc v) none)] [30000] (some ()) (fun _:Unit=>.fn (.func 159) 0 [.ptr 40000 0])
  (fun _=>[(30000,.mp none (eM enc v) none),(40000,.box [.map 30000])]):=by
 refine⟨bL Proofs.Tryz.func134 (by kernel_rfl),fun y hy=>?_⟩;intro F g w vs hs hv hH hF hgl;have hs1:vs.size=1:=hs;have hv0:=hv 0 _ (vs[0]'(by omega)) rfl (by simp[hs1]);obtain⟨b,e0,hgb⟩:∃ b,vs[0]'(by omega) = .map (some b)/\g 30000 = .map (some b):=by
  generalize vs[0]'(by omega)=u at hv0;cases hv0 with
  | map h=>exact⟨_,rfl,h⟩
 have hvs:vs=#[.map (some b)]:=by
  apply Array.ext
  ·rw[hs1]; rfl
  ·intro q hq _
   match q,hq with
   | 0,_=>simpa using e0
   | q+1,hq=>omega
 subst hvs;refine((callsIn_wide (n:=5)).1 (Proofs.Tryz.maps_Keys_134 (some b) w)).mono ?_;rintro e w' ⟨rfl,rfl⟩;have hlt:(w.alloc (.cells #[.map (some b)] 166)).heap.size=w.heap.size+1:=by simp
 have hbl:Go.RowKit.Below w.heap.size w (w.alloc (.cells #[.map (some b)] 166)):=(Go.RowKit.Below.refl _ w).alloc (fK _) _;have hcell:(w.alloc (.cells #[.map (some b)] 166)).heap[w.heap.size]? = some (.cells #[.map (some b)] 166 (0,0)):=by rw[show (w.alloc (.cells #[.map (some b)] 166)).heap=w.heap.push (.cells #[.map (some b)] 166) from rfl]; simp
 refine⟨_,_,_,F,upd g 40000 (.pointer (some ⟨w.heap.size,0,none⟩)),rfl,⟨rfl,rfl⟩,?_,Vn hH hF hbl (fun o ho=>by simp[upd,ho]) (fun o x h=>?_) (fun o h=>?_) ?_ (fun c hc=>?_)⟩
 ·refine .fn (us:=#[]) rfl rfl fun j x u hj hu=>?_
  match j,hj,hu with
  | 0,hj,hu=>simp at hj hu;subst hj hu;exact .ptr (by simp[upd])
 ·cases cG.1 h;exact⟨by decide,fun k hk=>by simp[bA.names,itN,hoN]at hk⟩
 ·cases cG.1 h; decide
 ·refine⟨w.heap.size,_,_,by simp[upd],hcell,rfl,fun j x u hj hu=>?_⟩
  match j,hj,hu with
  | 0,hj,hu=>simp at hj hu;subst hj hu;exact .map (by simp[upd,hgb])
 ·have:=hc.toBlk rfl;simp[upd,blk]at this;omega
theorem Wr(ks:List Int):(kJ ks).length=ks.length:=by unfold kJ;rw[List.length_mergeSort]
theorem xG{V:Type}{enc:V->Mem}:∀ {v:List (Int×V)},((eM enc v).map (·.1)).Nodup->(dI v).Nodup
 | [],_=>List.nodup_nil
 | (k,c)::v,h=>by simp only[eM,kY]at h;have h':=wK.1 h;refine wK.2 ⟨fun hk=>h'.1 ?_,xG h'.2⟩;obtain⟨x,hx,e⟩:=dW.1 hk;rw[List.map_map];exact dW.2 ⟨x,hx,by simp only[Function.comp]; rw[e]⟩
theorem aYI{V:Type}(enc:V->Mem)(v:List (Int×V)):cO Proofs.Tryz.prog 133 [.fn (.func 159) 0 [.ptr 30001 0]] [(30000,.mp none (eM enc v) none),(30001,.box [.map 30000])] [30000,30001] (if aFL (dI v)=true then some (kJ (dI v)) else none) (fun _:List Int=>.own 40000)
  (fun ks=>[(30000,.mp none (eM enc v) none),(30001,.box [.map 30000]),(40000,.arr 3 1 ks.length (eF aG ks))]):=by
 refine⟨bL Proofs.Tryz.func133 (by kernel_rfl),fun y hy=>?_⟩;split at hy
 case isFalse=>cases hy
 rename_i hC;injection hy with hy;subst hy;intro F g w vs hs hv hH hF hgl;have hs1:vs.size=1:=hs;have hv0:=hv 0 _ (vs[0]'(by omega)) rfl (by simp[hs1]);obtain⟨Bm,e0,hgB⟩:∃ Bm,vs[0]'(by omega) = .func (.func 159) #[] #[.pointer (some ⟨Bm,0,none⟩)]/\g 30001 = .pointer (some ⟨Bm,0,none⟩):=by
  generalize vs[0]'(by omega)=u at hv0;cases hv0 with
  | @fn f n cs us ws hn hs hr=>
   have hu:us=#[]:=xU hn;subst hu;have hw:ws.size=1:=by simpa using hs
   obtain⟨z,rfl⟩:=Array.size_eq_one_iff.1 hw;have h0:=hr 0 _ z rfl (by simp);cases h0 with
   | ptr h=>exact⟨_,rfl,h⟩
 have hvs:vs=#[.func (.func 159) #[] #[.pointer (some ⟨Bm,0,none⟩)]]:=by
  apply Array.ext
  ·rw[hs1]; rfl
  ·intro q hq _
   match q,hq with
   | 0,_=>simpa using e0
   | q+1,hq=>omega
 subst hvs;obtain⟨b1,vs1,ty1,k1,k2,k3,k4⟩:pR F g w (g 30001) [.map 30000]:=hH.obj 30001 (.box [.map 30000]) (by simp);rw[hgB]at k1;injection k1 with k1;injection k1 with k1;injection k1 with k1 _ _;subst k1;obtain⟨b,es,clock,m1,m2,l,r,hM⟩:∃ b es clock,g 30000 = .map (some b)/\w.heap[b]? = some (.map es clock)/\∃ l r,MpR F g w b es clock none (eM enc v) none l r:=hH.obj 30000 (.mp none (eM enc v) none) (by simp);have hv1:vs1=#[.map (some b)]:=by
  obtain⟨z,rfl⟩:=Array.size_eq_one_iff.1 (show vs1.size=1 from k3);have h0:=k4 0 _ z rfl (by simp);cases h0 with
  | map h=>rw[m1]at h;cases h; rfl
 subst hv1;have hlB:Bm<w.heap.size:=(oU.1 k2).1;have hcell:w.cell? ⟨Bm,0,none⟩=some (.map (some b)):=by simp[World.cell?,k2]
 have hnd:(dI v).Nodup:=xG (enc:=enc) (Kc.1 hM.keys).1;obtain⟨D0,hown,hpm,hsz⟩:=Mx m2 hM hC hnd;refine((callsIn_wide (n:=5)).1 (Proofs.Tryz.sorted_ikeys Bm b es.size D0 _ w hlB hcell hown (by simp only[maxLen]; omega) (by omega))).mono ?_;rintro e w' ⟨u,ss,rfl,hss,⟨hrl,hrow⟩,_,hbl⟩;have hms:ss.mergeSort (fun x y=>decide (x<=y))=((dI v)).mergeSort (fun x y=>decide (x<=y)):=mergeSort_of_perm_i (hss.trans hpm);have hlen:ss.length=(kJ (dI v)).length:=by rw[Wr];exact(hss.trans hpm).length_eq
 have fin:∀ a cap,u = .slice a ss.length cap->kZ F w' u 3 1 (kJ (dI v)).length (eF aG (kJ (dI v)))->(∀ c,blk u=some c->w.heap.size<=c/\c<w'.heap.size)->∃ v_1 r H' F' g',Ending.returned u = .returned v_1/\pY (.own 40000) [(30000,.mp none (eM enc v) none),(30001,.box [.map 30000]),(40000,.arr 3 1 (kJ (dI v)).length (eF aG (kJ (dI v))))] r H'/\VR F' g' w' r v_1 /\
   nC { w0:=w,F0:=F,B0:=Own g w [(30000,.mp none (eM enc v) none),(30001,.box [.map 30000])],g0:=g,N:=[30000,30001],nt:=0 } F' g' H' w':=fun a cap hu hA hfo=>by
  refine⟨_,_,_,F,upd g 40000 u,rfl,⟨rfl,rfl⟩,?_,Vn (g':=upd g 40000 u) (o':=40000) (x':=.arr 3 1 (kJ (dI v)).length (eF aG (kJ (dI v)))) hH hF hbl (fun o ho=>by simp[upd,ho]) (fun o x h=>?_) (fun o h=>?_) ?_ (fun c hc=>?_)⟩
  ·rw[hu];exact .own (by simp[upd])
  ·simp only[aX,vU,or_false]at h;rcases h with h | h <;> cases h
   ·exact⟨by decide,fun k hk=>by simp[bA.names,itN,hoN]at hk⟩
   ·refine⟨by decide,fun k hk=>?_⟩;simp[bA.names,PV.names.go,PV.names]at hk;subst hk; decide
  ·simp only[aX,vU,or_false]at h;rcases h with rfl | rfl <;> decide
  ·show kZ F w' (upd g 40000 u 40000) 3 1 _ _;rw[show upd g 40000 u 40000=u by simp[upd]];exact hA
  ·have:=hc.toBlk rfl;rw[show upd g 40000 u 40000=u by simp[upd]]at this;exact hfo c this
 rcases hrow with⟨rfl,hz⟩ | ⟨gb,cap,cur,rfl,r1,r2,r3,r4,r5,r6⟩
 ·refine fin none 0 (by rw[hz]) (.inl ⟨rfl,by rw[<-hlen]; exact hz⟩) (fun c hc=>by simp[blk]at hc)
 ·refine fin _ _ rfl (.inr ⟨gb,cap,cur,by rw[hlen],r2,by rw[<-hlen]; exact r3,r4,r5,fun i hi=>rfl,fun i j x hi hx=>?_⟩) (fun c hc=>?_)
  ·match j,hx with
   | 0,hx=>
    simp[eF,aG]at hx;subst hx;rw[Nat.mul_one]at r6;have hi':i<ss.length:=by rw[hlen]; exact hi
    have hi2:i<(kJ (dI v)).length:=hi;have h1:cur.toList[i]? = some (Value.int .i64 ((kJ (dI v))[i]'hi2)):=by have h2:=congrArg (fun l:List Value=>l[i]?) r6;simp only[Cc hi']at h2;rw[h2,hms];show ((kJ (dI v)).map (Value.int .i64))[i]? = _;rw[fD,gJ hi2]; rfl
    refine⟨Value.int .i64 ((kJ (dI v))[i]'hi2),?_,?_⟩
    ·rw[Nat.mul_one,tV,<-zN]; exact h1
    ·have h3:(kJ (dI v))[i]?.getD 0=(kJ (dI v))[i]'hi2:=by rw[gJ hi2]; rfl
     rw[h3];exact .int _ _
  ·simp[blk]at hc;subst hc;exact⟨r1,(oU.1 r2).1⟩
section
variable {P:Program} {E:Env} {I:Inf} {Q:gL} {st st':St}
end
section
variable {P:Program} {E:Env} {I:Inf} {Q:gL} {st st':St}
end
section
variable {P:Program} {E:Env} {I:Inf} {Q:gL} {st st':St}
end
def mA(a:Act)(ps:Array Tmp)(assign body:Code)(d:Nat)(fn:FuncId):Loop:={ state:=.ready,pending:=none,fn,tmps:=a.tmps,params:=ps,assign,body,defers:=d }
theorem Bp{P:Program}{g:Operand}{ps:Array Tmp}{assign body:Code}{Q:Exit->Act->World->Prop}{a:Act}{w:World}{f:FuncId}{cap:Array Value}
  (hg:a.eval g = .func (.func f) #[] cap)(hc:∀ args w,(callFunc f args).run P w = .ok (.enter f args) w)
  (h:∀ fn,Calls P f (#[.func (.yield (w.heap.size+1)) #[] #[]]++cap) ((w.alloc (.deferred (some []))).alloc (.loop (mA a ps assign body w.heap.size fn))) fun e w'=>
   (∃ v,e = .returned v)/\((w'.heap[w.heap.size+1]? = some (.loop (mA a ps assign body w.heap.size fn))/\∀ ob,Q .normal { a with defers:={ target:=.collected w.heap.size,args:=#[] }::a.defers } (w'.putObj (w.heap.size+1) ob)) \/
    (w'.heap[w.heap.size+1]? = some (.loop { mA a ps assign body w.heap.size fn with state:=.done,pending:=some .ret })/\∀ ob,Q .ret { a with defers:={ target:=.collected w.heap.size,args:=#[] }::a.defers } (w'.putObj (w.heap.size+1) ob)))):
  (Code.rangeFunc g ps assign body).wpIn Fence.wide 0 P Q a w:=by
 refine wpIn_rangeFunc fun fn _=>?_;have h:=h fn;have he:=run_enterLoop_outer (P:=P) (w:=w) fn a.tmps ps assign body;generalize hW:(w.alloc (.deferred (some []))).alloc (.loop (mA a ps assign body w.heap.size fn))=W at h;have he':(Instr.enterLoop fn a.tmps ps assign body none).run P w = .ok (w.heap.size+1,[{ target:=.collected w.heap.size,args:=#[] }]) W:=by rw[he,<-hW]; rfl
 clear he hW;generalize hl:w.heap.size+1=l at h he';refine⟨l,[{ target:=.collected w.heap.size,args:=#[] }],W,{ target:=.fn (.func f) cap,args:=#[.func (.yield l) #[] #[]] },W,f,#[.func (.yield l) #[] #[]]++cap,W,he',?_,fun _ _=>trivial,?_,(fun h=>by cases h),callsIn_wide.2 ?_⟩
 ·simp[resolve,hg];rfl
 ·simp[invoke,hc]
 ·refine h.mono ?_;rintro e w' ⟨⟨v,rfl⟩,⟨h1,h2⟩ | ⟨h1,h2⟩⟩
  ·exact⟨none,_,run_endLoop h1 (by simp[mA]),h2 _⟩
  ·exact⟨some .ret,_,run_endLoop h1 (by simp),wpIn_ret (h2 _)⟩
theorem It(o:Option Addr)(n c:Nat)(w:World):Calls Proofs.Tryz.prog 150 #[.slice o n c] w fun e w'=>e = .returned (.func (.func 164) #[] #[.pointer (some ⟨w.heap.size,0,none⟩)])/\w'=w.alloc (.cells #[.slice o n c] 46):=by
 refine calls_of_wp Proofs.Tryz.func150 rfl ?_;apply wp_seq;apply wp_region;simp[wpOps,go_sem,Exit.then]
 repeat left
 apply wp_seq;apply wp_region;simp[wpOps,go_sem,Exit.then]
 repeat left
 apply wp_ret;simp[bodyPost,results,Proofs.Tryz.f150,go_sem]
theorem wT(w:World)(l:Nat)(o:Obj):(w.putObj l o).heap.size=w.heap.size:=by simp[World.putObj]
theorem Gh{l:List aT}{bb:Bool}(hl:l.length<=1000000000000)(hr:pZ l l.length 0=some bb){F:Nat->Prop}{w:World}(hF:∀ b,F b->b<w.heap.size)(hgl:GLP Proofs.Tryz.prog F w){o:Option Addr}{n c:Nat}(hn:n=l.length)
  (hu:∀ g,VR F g w (.t (eL aR l)) (.slice o n c)):Calls Proofs.Tryz.prog 106 #[.slice o n c] w fun e w'=>e = .returned (.bool (bb&&(decide (1<=n)&&decide (n<=12))))/\Co (fun _=>False) w w':=by
 refine callsIn_wide.1 (callsIn_of_wp_marks (F:=Fence.wide) (n:=0) Proofs.Tryz.func106 rfl trivial ?_);apply wpIn_seq;refine wpIn_wide.2 (wp_region ?_);simp[wpOps,go_sem,Exit.then]
 repeat left
 apply wpIn_seq;apply wpIn_seq;refine wpIn_wide.2 (wp_region ?_);simp[wpOps,go_sem,Exit.then]
 repeat left
 refine(It o n c _).mono ?_;rintro e w' ⟨rfl,rfl⟩
 dsimp only
 apply wpIn_block;refine Bp (f:=164) (cap:=#[.pointer (some ⟨w.heap.size+1,0,none⟩)]) (by simp[go_sem,Act.eval]) (fun args w=>by simp[go_sem]) (fun fn=>?_);simp only[World.size_alloc];have hold:∀ (a b c d:Obj) k,k<w.heap.size->((((w.alloc a).alloc b).alloc c).alloc d).heap[k]? = w.heap[k]?:=fun a b c d k hk=>by rw[gA _ _ (by simp; omega),gA _ _ (by simp; omega),gA _ _ (by simp; omega),gA _ _ hk]
 have w0:∀ (a b c d:Obj),((((w.alloc a).alloc b).alloc c).alloc d).heap[w.heap.size]? = some a:=fun a b c d=>by rw[gA _ _ (by simp; omega),gA _ _ (by simp; omega),gA _ _ (by simp),World.alloc_heap_new]
 have w1:∀ (a b c d:Obj),((((w.alloc a).alloc b).alloc c).alloc d).heap[w.heap.size+1]? = some b:=fun a b c d=>by rw[gA _ _ (by simp),gA _ _ (by simp)];have:=World.alloc_heap_new (w.alloc a) b;rw[World.size_alloc]at this;exact this
 have w2:∀ (a b c d:Obj),((((w.alloc a).alloc b).alloc c).alloc d).heap[w.heap.size+2]? = some c:=fun a b c d=>by rw[gA _ _ (by simp)];have:=World.alloc_heap_new ((w.alloc a).alloc b) c;rw[World.size_alloc,World.size_alloc]at this;exact this
 have w3:∀ (a b c d:Obj),((((w.alloc a).alloc b).alloc c).alloc d).heap[w.heap.size+3]? = some d:=fun a b c d=>by have:=World.alloc_heap_new (((w.alloc a).alloc b).alloc c) d;rw[World.size_alloc,World.size_alloc,World.size_alloc]at this;exact this
 generalize hrc:mA _ _ _ _ _ _=rc;generalize hW:(World.alloc (World.alloc (World.alloc (World.alloc w _) _) _) _)=W;have wsz:W.heap.size=w.heap.size+4:=by subst hW; simp
 have x0:W.heap[w.heap.size]? = some (.cells #[.bool false] 4):=by subst hW; exact w0 _ _ _ _
 have x1:W.heap[w.heap.size+1]? = some (.cells #[.slice o n c] 46):=by subst hW; exact w1 _ _ _ _
 have x2:W.heap[w.heap.size+2]? = some (.deferred (some [])):=by subst hW; exact w2 _ _ _ _
 have x3:W.heap[w.heap.size+3]? = some (.loop rc):=by subst hW; exact w3 _ _ _ _
 have xo:∀ k,k<w.heap.size->W.heap[k]? = w.heap[k]?:=fun k hk=>by subst hW; exact hold _ _ _ _ k hk
 have xs:W.os=w.os/\W.tape=w.tape/\W.output=w.output:=by subst hW; exact⟨rfl,rfl,rfl⟩
 clear hold w0 w1 w2 w3;have hrc':rc.state = .ready/\rc.assign = .skip/\rc.body=xA/\rc.params=#[5]/\rc.tmps.size=14/\rc.tmps[2]? = some (.pointer (some ⟨w.heap.size,0,none⟩)):=by subst hrc;exact⟨rfl,rfl,rfl,rfl,by simp[mA],by simp[mA]⟩
 obtain⟨c1,c2,c3,c4,c5,c6⟩:=hrc';refine(Hm (rc:=rc) (F:=F) (w:=W) (lp:=w.heap.size+3) (cb:=w.heap.size+1) (tb:=w.heap.size) hl hr (fun b hb=>by have:=hF b hb; omega) (hgl.mono fun b hb=>⟨hb,xo b (hF b hb)⟩) x1 (fun h=>by have:=hF _ h; omega)
  (fun g=>(hu g).mono (fun b hb=>⟨hb,xo b (hF b hb)⟩) (fun _ _=>rfl)) x3 (by omega) (by omega) (by omega) c1 c2 c3 c4 c5 c6 x0).mono ?_
 rintro e w4 ⟨⟨v,rfl⟩,hT,hFf⟩;refine⟨⟨v,rfl⟩,?_⟩;have fin:∀ (w5:World) (ds:Act) (b:Bool),ds.defers=[{ target:=.collected (w.heap.size+2),args:=#[] }]->ds.tmps[2]? = some (.pointer (some ⟨w.heap.size,0,none⟩))->w5.os=w.os->w5.tape=w.tape->w5.output=w.output->w.heap.size+4<=w5.heap.size ->
   (∀ k,k<w.heap.size->w5.heap[k]? = w.heap[k]?)->w5.heap[w.heap.size]? = some (.cells #[.bool b] 4)->w5.heap[w.heap.size+2]? = some (.deferred (some [])) ->
   LeavesInM Fence.wide 0 Proofs.Tryz.prog Proofs.Tryz.f106 ds.tmps (fun e w'=>e = .returned (.bool b)/\Co (fun _=>False) w w') ds.defers .returning w5:=by
  intro w5 ds b hd ht e1 e2 e3 rs rold r0 rD;rw[hd];refine⟨by simp,.inl ⟨_,_,rfl,run_takeDeferred rD,?_⟩⟩;have s0:(w5.putObj (w.heap.size+2) (.deferred none)).cell? ⟨w.heap.size,0,none⟩=some (.bool b):=by simp[World.cell?,World.putObj_heap_other (show w.heap.size≠w.heap.size+2 by omega),r0]
  refine⟨.bool b,?_,rfl,e1,e2,e3,?_,fun k hk _=>?_⟩
  ·simp[results,Proofs.Tryz.f106,go_sem,ht,s0]
  ·rw[wT]; omega
  ·rw[World.putObj_heap_other (by omega)]; exact rold k hk
 cases bb with
 | false=>
  obtain⟨⟨k1,k2,k3,k4,k5⟩,k6,k7⟩:=hFf rfl;refine .inr ⟨k6,fun ob=>?_⟩;simp only[Exit.inBlock,Exit.then,bodyPostM,Bool.false_and];refine fin (w4.putObj (w.heap.size+1+1+1) ob) ⟨_,_⟩ false rfl (by simp) (k1.trans xs.1) (k2.trans xs.2.1) (k3.trans xs.2.2) (by rw[wT]; omega) (fun k hk=>?_) ?_ ?_
  ·rw[World.putObj_heap_other (by omega),k5 k (by omega) (by omega)]; exact xo k hk
  ·rw[World.putObj_heap_other (by omega)]; exact k7
  ·rw[World.putObj_heap_other (by omega),k5 _ (by omega) (by omega)]; exact x2
 | true=>
  obtain⟨k1,k2,k3,k4,k5⟩:=hT rfl;refine .inl ⟨(k5 _ (by omega) (by omega)).trans x3,fun ob=>?_⟩;simp only[Exit.inBlock,Exit.then,Ec];have y0:(w4.putObj (w.heap.size+1+1+1) ob).heap[w.heap.size]? = some (.cells #[.bool false] 4):=by rw[World.putObj_heap_other (by omega),k5 _ (by omega) (by omega)]; exact x0
  have y2:(w4.putObj (w.heap.size+1+1+1) ob).heap[w.heap.size+2]? = some (.deferred (some [])):=by rw[World.putObj_heap_other (by omega),k5 _ (by omega) (by omega)]; exact x2
  have yo:∀ k,k<w.heap.size->(w4.putObj (w.heap.size+1+1+1) ob).heap[k]? = w.heap[k]?:=fun k hk=>by rw[World.putObj_heap_other (by omega),k5 _ (by omega) (by omega)]; exact xo k hk
  have ys:(w4.putObj (w.heap.size+1+1+1) ob).heap.size>=w.heap.size+4:=by rw[wT]; omega
  have z1:(w4.putObj (w.heap.size+1+1+1) ob).os=w.os:=k1.trans xs.1;have z2:(w4.putObj (w.heap.size+1+1+1) ob).tape=w.tape:=k2.trans xs.2.1;have z3:(w4.putObj (w.heap.size+1+1+1) ob).output=w.output:=k3.trans xs.2.2;generalize w4.putObj (w.heap.size+1+1+1) ob=w5 at y0 y2 yo ys z1 z2 z3;have hc0:w5.cell? ⟨w.heap.size,0,none⟩=some (.bool false):=by simp[World.cell?,y0]
  have hf0:w5.frozen? ⟨w.heap.size,0,none⟩=false:=by simp[World.frozen?,y0]
  apply wpIn_seq;refine wpIn_mono (Q:=fun e a w'=>e = .normal/\a.defers=[{ target:=.collected (w.heap.size+2),args:=#[] }]/\a.tmps[2]? = some (.pointer (some ⟨w.heap.size,0,none⟩))/\w'=w5.setCell ⟨w.heap.size,0,none⟩ (.bool (decide (1<=n)&&decide (n<=12)))) ?_ ?_
  ·apply wpIn_region_list;by_cases h1:1<=n <;> by_cases h2:n<=12
   ·have z1:(1:Int)<=(n:Int):=by omega
    have z2:(n:Int)<=12:=by omega
    simp[wpListIn,go_sem,hc0,hf0,h1,h2,z1,z2,Oper.wpIn,Oper.uponIn,Act.put]
   ·have z1:(1:Int)<=(n:Int):=by omega
    have z2:¬ (n:Int)<=12:=by omega
    simp[wpListIn,go_sem,hc0,hf0,h1,h2,z1,z2,Oper.wpIn,Oper.uponIn,Act.put]
   ·have z1:¬ (1:Int)<=(n:Int):=by omega
    simp[wpListIn,go_sem,hc0,hf0,h1,h2,z1,Oper.wpIn,Oper.uponIn,Act.put]
   ·omega
  ·rintro e a w' ⟨rfl,hd,ht2,rfl⟩;simp only[Exit.then];apply wpIn_ret;rw[setCell_eq_setRow w5 w.heap.size 0 _ _ _ _ y0];refine fin _ a _ hd ht2 z1 z2 z3 (by rw[setRow_size]; exact ys) (fun k hk=>?_) (setRow_heap w5 w.heap.size _ _ _ _ y0) ?_
   ·rw[setRow_other _ _ _ _ (by omega)]; exact yo k hk
   ·rw[setRow_other _ _ _ _ (by omega)]; exact y2
noncomputable def aNX (l:List aT):Option Bool:=if l.length<=1000000000000 then (pZ l l.length 0).map fun b=>b&&(decide (1<=l.length)&&decide (l.length<=12)) else none
theorem aPS(l:List aT):Con Proofs.Tryz.prog 106 [.t (eL aR l)] (aNX l) (fun (y:Bool)=>.t (.bool y)):=by
 refine⟨bL Proofs.Tryz.func106 (by kernel_rfl),fun y hy=>?_⟩;unfold aNX at hy;split at hy
 case isFalse=>cases hy
 rename_i hl;obtain⟨bb,hb,rfl⟩:=gB.1 hy;intro F g w vs hs hv hH hF hgl;have h1:vs.size=1:=hs;obtain⟨u,rfl⟩:∃ u,vs=#[u]:=by
  cases vs with
  | mk L=>match L,h1 with
   | [u],_=>exact⟨u,rfl⟩
 have e0:=hv 0 _ u rfl rfl;have hu:∀ g,VR F g w (.t (eL aR l)) u:=fun g=>by cases e0 with | t h=>exact .t h
 have:∃ o c,u = .slice o l.length c:=by
  cases e0 with
  | t hu=>cases hu with
   | nil h=>
    have h0:l.length=0:=by have:=congrArg (Option.map Prod.fst) h;exact pN this
    exact⟨none,0,by rw[h0]⟩
   | sl a cap size vs h hc hF' hs' hv' hr'=>have h0:=congrArg (Option.map Prod.fst) h;have h0:l.length=_:=pN h0;exact⟨some a,cap,by rw[h0]⟩
 obtain⟨o,c,rfl⟩:=this;refine(Gh hl hb hF hgl rfl hu).mono ?_;rintro e w' ⟨rfl,k1,k2,k3,k4,k5⟩;exact⟨_,_,[],F,g,rfl,rfl,.t (.bool _),rG hH hF k1 k2 k3 k4 fun b hb _=>k5 b hb (fun h=>h)⟩
end Go.PL
