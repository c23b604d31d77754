/-
  Parts: The data types of the seat, as the program logic reads them, and its type table. Printed by a program of our own. Functions of Go's library, given to the trees by hand. Own work; two walks are lines of the shelf's, turned to this program. (*strings.Builder).WriteString, exactly. Own work; the walk is lines of the shelf's, turned to this program. Contracts of functions of Go's library, for the trees. Own work. Contracts of functions of Go's library, for the trees: WriteString. Own work. DERIVED: THE SHELF's CONTRACTS AT THIS DUMP, IN PLAIN WORDS (tools/lay-plain.mjs out of 'TryzShelf.lean', which tools/lay-shelf.mjs wrote): THE SAME DECLARATIONS UNDER THE SAME NAMES: 'import', 'namespace', 'open', 'def', 'theorem' AND NOTHING ELSE: no command of the shelf's: FOR A HAND-IN. Each laying: the table of numbers ('.._ren') and one theorem, a field a fact of the dump's own or the kernel's comparison; each contract: ONE APPLICATION. Contracts of functions of Go's library, for the trees: strings.Compare, strconv.Itoa. Own work. Contracts of strings.IndexByte and strconv.Atoi in the form of trees. Own work. Functions of the seat as trees, and that the program computes them. Printed by a program of our own.
-/
import Derived.Test.YthifkbcpnbcenaaGreatDoorMd
import Derived.Test.YthifkbcpnbcenaaGreatDoorProg
import Derived.Shelf.Strings.Builder1
import Derived.Shelf.Small.Strs
import Derived.Shelf.Strconv.Atoi
import Derived.Shelf.Strconv.Itoa0
import Derived.Shelf.Strconv.Itoa1
import Derived.Shelf.LaysM
import Derived.Shelf.Strconv.Itoa2
import Derived.Shelf.Strconv.Itoa3
import Derived.Shelf.Strconv.AtoiErrFast
import Derived.Shelf.Strconv.ParseIntEmpty
import Derived.Shelf.Strconv.AtoiFail
import Derived.Shelf.Strconv.Clone
import Derived.Shelf.Strconv.SyntaxError
import Derived.Shelf.LaysC
import Derived.Shelf.Strconv.ToError
import Derived.Shelf.Strconv.Lower
import Derived.Shelf.Strconv.ParseUint10
import Derived.Shelf.Strconv.ParseUint10Empty
import Derived.Shelf.Strconv.ParseUint10Any
import Derived.Shelf.Strconv.ParseInt10
import Derived.Shelf.Strconv.AtoiLong
import Derived.Shelf.Strconv.AtoiInnerAll
import Derived.Shelf.Strconv.RangeError
import Derived.Shelf.Strconv.ToErrorRange
import Derived.Shelf.Strconv.AtoiAll
import Derived.Shelf.Strings.Search1
import Derived.Ground.Names2Prog
import Derived.Shelf.Slices.Clone
import Derived.Shelf.Slices.SearchI
import Derived.Ground.SlgnProg
import Derived.Shelf.SlicesE.Clone
import Derived.Lib.AtoiAll
namespace Go.PL
open Go
def eExpr(x:Expr):T:=.agg (exprCells x)
def cL_cInt(x:List Int):List T:=[eL cInt (x)]
structure GAgg where
 Kind:Int
 Col:Int
 Name:ByteArray
 deriving Inhabited
def cGAgg(x:GAgg):List T:=[.int .i64 (x.Kind),.int .i64 (x.Col),.str (x.Name)]
structure GPat where
 Pred:Expr
 Rep:Int
 deriving Inhabited
def cGPat(x:GPat):List T:=exprCells (x.Pred)++[.int .i64 (x.Rep)]
structure GCol where
 Name:ByteArray
 Type_:Int
 Unit:ByteArray
 deriving Inhabited
def cGCol(x:GCol):List T:=[.str (x.Name),.int .i64 (x.Type_),.str (x.Unit)]
structure GNode where
 Op:Int
 In:List Int
 Source:ByteArray
 Schema:Int
 Exprs:List Expr
 Kind:Int
 Size:Int
 Step:Int
 Key:List Int
 Key2:List Int
 Before:Int
 After:Int
 Keep:Int
 Aggs:List GAgg
 Seq:List GPat
 Cols:List GCol
 deriving Inhabited
def cGNode(x:GNode):List T:=[.int .i64 (x.Op),eL cInt (x.In),.str (x.Source),.int .i64 (x.Schema),.lz (.exprs (x.Exprs)),.int .i64 (x.Kind),.int .i64 (x.Size),.int .i64 (x.Step),eL cInt (x.Key),eL cInt (x.Key2),.int .i64 (x.Before),.int .i64 (x.After),.int .i64 (x.Keep),eL cGAgg (x.Aggs),eL cGPat (x.Seq),eL cGCol (x.Cols)]
def eGNode(x:GNode):T:=.agg (cGNode x)
structure GValue where
 Kind:Int
 N:Int
 S:ByteArray
 deriving Inhabited
def cGValue(x:GValue):List T:=[.int .i64 (x.Kind),.int .i64 (x.N),.str (x.S)]
def eGValue(x:GValue):T:=.agg (cGValue x)
def cL_cGValue(x:List GValue):List T:=[eL cGValue (x)]
structure GDelta where
 Time:Int
 Row:List GValue
 N:Int
 deriving Inhabited
def cGDelta(x:GDelta):List T:=[.int .i64 (x.Time),eL cGValue (x.Row),.int .i64 (x.N)]
def eGDelta(x:GDelta):T:=.agg (cGDelta x)
def cL_cGDelta(x:List GDelta):List T:=[eL cGDelta (x)]
structure GAct where
 Do:Int
 C:Int
 L:List GDelta
 deriving Inhabited
def cGAct(x:GAct):List T:=[.int .i64 (x.Do),.int .i64 (x.C),eL cGDelta (x.L)]
def eGAct(x:GAct):T:=.agg (cGAct x)
structure GOp where
 N:GNode
 L:List (List GDelta)
 Closed:Int
 deriving Inhabited
def cGOp(x:GOp):List T:=cGNode (x.N)++[eL cL_cGDelta (x.L)]++[.int .i64 (x.Closed)]
structure A2_ListGDelta where
 e0:List GDelta
 e1:List GDelta
 deriving Inhabited
def cA2_ListGDelta(x:A2_ListGDelta):List T:=[eL cGDelta (x.e0),eL cGDelta (x.e1)]
structure GSide where
 rows_:A2_ListGDelta
 deriving Inhabited
def cGSide(x:GSide):List T:=cA2_ListGDelta (x.rows_)
structure GFunc where
 Name:ByteArray
 Params:List Int
 Result:Int
 Body:Expr
 deriving Inhabited
def cGFunc(x:GFunc):List T:=[.str (x.Name)]++[eL cInt (x.Params)]++[.int .i64 (x.Result)]++exprCells (x.Body)
structure GReader where
 rest_:ByteArray
 bad_:Bool
 deriving Inhabited
def cGReader(x:GReader):List T:=[.str (x.rest_),.bool (x.bad_)]
structure GReader_errataref01 where
 Rest:ByteArray
 Bad:Bool
 deriving Inhabited
def cGReader_errataref01(x:GReader_errataref01):List T:=[.str (x.Rest),.bool (x.Bad)]
def tiL:List (Nat×TInf):=[
 (2,⟨1,8,.int .i64,[.t (.int .i64 0)],0,0⟩),
 (3,⟨1,8,.int .i64,[.t (.int .i64 0)],0,0⟩),
 (4,⟨1,1,.bool,[.t (.bool false)],0,0⟩),
 (5,⟨1,1,.int .u8,[.t (.int .u8 0)],0,0⟩),
 (9,⟨1,16,.str,[.t (.str ⟨#[]⟩)],0,0⟩),
 (12,⟨1,8,.int .u64,[.t (.int .u64 0)],0,0⟩),
 (15,⟨1,8,.ptr 219,[.np],0,0⟩),
 (16,⟨1,8,.ptr 222,[.np],0,0⟩),
 (17,⟨1,8,.ptr 229,[.np],0,0⟩),
 (21,⟨1,4,.int .i32,[.t (.int .i32 0)],0,0⟩),
 (22,⟨1,24,.sl 3,[.nil],0,0⟩),
 (23,⟨1,24,.sl 98,[.nil],0,0⟩),
 (24,⟨1,24,.sl 152,[.nil],0,0⟩),
 (25,⟨1,24,.sl 103,[.nil],0,0⟩),
 (26,⟨1,24,.sl 231,[.nil],0,0⟩),
 (28,⟨16,248,.st [(0,3),(1,22),(2,9),(3,3),(4,23),(5,3),(6,3),(7,3),(8,22),(9,22),(10,3),(11,3),(12,3),(13,24),(14,25),(15,26)],[.t (.int .i64 0),.nil,.t (.str ⟨#[]⟩),.t (.int .i64 0),.nil,.t (.int .i64 0),.t (.int .i64 0),.t (.int .i64 0),.nil,.nil,.t (.int .i64 0),.t (.int .i64 0),.t (.int .i64 0),.nil,.nil,.nil],0,0⟩),
 (29,⟨1,24,.sl 22,[.nil],0,0⟩),
 (30,⟨1,24,.sl 41,[.nil],0,0⟩),
 (33,⟨1,8,.ptr 64,[.np],0,0⟩),
 (38,⟨1,24,.sl 52,[.nil],0,0⟩),
 (41,⟨3,40,.st [(0,3),(1,3),(2,38)],[.t (.int .i64 0),.t (.int .i64 0),.nil],0,0⟩),
 (44,⟨1,8,.ptr 49,[.np],0,0⟩),
 (47,⟨1,24,.sl 38,[.nil],0,0⟩),
 (49,⟨18,280,.st [(0,28),(16,47),(17,3)],[.t (.int .i64 0),.nil,.t (.str ⟨#[]⟩),.t (.int .i64 0),.nil,.t (.int .i64 0),.t (.int .i64 0),.t (.int .i64 0),.nil,.nil,.t (.int .i64 0),.t (.int .i64 0),.t (.int .i64 0),.nil,.nil,.nil,.nil,.t (.int .i64 0)],0,0⟩),
 (50,⟨1,24,.sl 90,[.nil],0,0⟩),
 (52,⟨3,40,.st [(0,3),(1,50),(2,3)],[.t (.int .i64 0),.nil,.t (.int .i64 0)],0,0⟩),
 (62,⟨1,8,.mp 9 75,[.lit (.map none)],0,0⟩),
 (64,⟨18,264,.st [(0,28),(16,62),(17,3)],[.t (.int .i64 0),.nil,.t (.str ⟨#[]⟩),.t (.int .i64 0),.nil,.t (.int .i64 0),.t (.int .i64 0),.t (.int .i64 0),.nil,.nil,.t (.int .i64 0),.t (.int .i64 0),.t (.int .i64 0),.nil,.nil,.nil,.lit (.map none),.t (.int .i64 0)],0,0⟩),
 (65,⟨1,8,.ptr 114,[.np],0,0⟩),
 (68,⟨1,8,.other,[.lit .nilFunc],0,0⟩),
 (73,⟨1,8,.mp 9 38,[.lit (.map none)],0,0⟩),
 (75,⟨1,8,.ptr 78,[.np],0,0⟩),
 (76,⟨2,48,.arr 2 38,[.nil,.nil],0,0⟩),
 (78,⟨2,48,.st [(0,76)],[.nil,.nil],0,0⟩),
 (83,⟨1,8,.other,[.lit .nilFunc],0,0⟩),
 (85,⟨1,8,.ptr 138,[.np],0,0⟩),
 (90,⟨3,32,.st [(0,3),(1,3),(2,9)],[.t (.int .i64 0),.t (.int .i64 0),.t (.str ⟨#[]⟩)],0,37⟩),
 (95,⟨1,24,.sl 100,[.nil],0,0⟩),
 (98,⟨4,56,.st [(0,3),(1,3),(2,9),(3,23)],[.t (.int .i64 0),.t (.int .i64 0),.t (.str ⟨#[]⟩),.nil],0,0⟩),
 (100,⟨7,104,.st [(0,9),(1,22),(2,3),(3,98)],[.t (.str ⟨#[]⟩),.nil,.t (.int .i64 0),.t (.int .i64 0),.t (.int .i64 0),.t (.str ⟨#[]⟩),.nil],0,0⟩),
 (103,⟨5,64,.st [(0,98),(4,3)],[.t (.int .i64 0),.t (.int .i64 0),.t (.str ⟨#[]⟩),.nil,.t (.int .i64 0)],0,0⟩),
 (105,⟨1,8,.other,[.lit .nilFunc],0,0⟩),
 (114,⟨2,24,.st [(0,9),(1,4)],[.t (.str ⟨#[]⟩),.t (.bool false)],0,14⟩),
 (117,⟨4,32,.st [(0,3),(1,105),(2,68),(3,4)],[.t (.int .i64 0),.lit .nilFunc,.lit .nilFunc,.t (.bool false)],0,0⟩),
 (124,⟨1,8,.other,[.lit .nilFunc],0,0⟩),
 (125,⟨2,48,.arr 2 22,[.nil,.nil],0,0⟩),
 (127,⟨1,8,.ptr 130,[.np],0,0⟩),
 (128,⟨1,24,.sl 5,[.nil],0,0⟩),
 (130,⟨2,32,.st [(0,127),(1,128)],[.np,.nil],0,0⟩),
 (132,⟨1,16,.ifc,[.lit .nilIface],0,0⟩),
 (138,⟨2,24,.st [(0,9),(1,4)],[.t (.str ⟨#[]⟩),.t (.bool false)],0,14⟩),
 (152,⟨3,32,.st [(0,3),(1,3),(2,9)],[.t (.int .i64 0),.t (.int .i64 0),.t (.str ⟨#[]⟩)],0,37⟩),
 (154,⟨36,288,.arr 9 117,[.t (.int .i64 0),.lit .nilFunc,.lit .nilFunc,.t (.bool false),.t (.int .i64 0),.lit .nilFunc,.lit .nilFunc,.t (.bool false),.t (.int .i64 0),.lit .nilFunc,.lit .nilFunc,.t (.bool false),.t (.int .i64 0),.lit .nilFunc,.lit .nilFunc,.t (.bool false),.t (.int .i64 0),.lit .nilFunc,.lit .nilFunc,.t (.bool false),.t (.int .i64 0),.lit .nilFunc,.lit .nilFunc,.t (.bool false),.t (.int .i64 0),.lit .nilFunc,.lit .nilFunc,.t (.bool false),.t (.int .i64 0),.lit .nilFunc,.lit .nilFunc,.t (.bool false),.t (.int .i64 0),.lit .nilFunc,.lit .nilFunc,.t (.bool false)],0,0⟩),
 (160,⟨1,8,.ptr 5,[.np],0,0⟩),
 (161,⟨1,8,.other,[.lit .nilFunc],0,0⟩),
 (168,⟨1,8,.other,[.lit .nilFunc],0,0⟩),
 (177,⟨1,8,.int .u64,[.t (.int .u64 0)],0,0⟩),
 (184,⟨1,8,.int .i64,[.t (.int .i64 0)],0,0⟩),
 (187,⟨1,8,.ptr 203,[.np],0,0⟩),
 (191,⟨24,24,.arr 24 5,[.t (.int .u8 0),.t (.int .u8 0),.t (.int .u8 0),.t (.int .u8 0),.t (.int .u8 0),.t (.int .u8 0),.t (.int .u8 0),.t (.int .u8 0),.t (.int .u8 0),.t (.int .u8 0),.t (.int .u8 0),.t (.int .u8 0),.t (.int .u8 0),.t (.int .u8 0),.t (.int .u8 0),.t (.int .u8 0),.t (.int .u8 0),.t (.int .u8 0),.t (.int .u8 0),.t (.int .u8 0),.t (.int .u8 0),.t (.int .u8 0),.t (.int .u8 0),.t (.int .u8 0)],0,0⟩),
 (192,⟨1,8,.int .u64,[.t (.int .u64 0)],0,0⟩),
 (197,⟨1,24,.sl 50,[.nil],0,0⟩),
 (203,⟨3,48,.st [(0,9),(1,9),(2,132)],[.t (.str ⟨#[]⟩),.t (.str ⟨#[]⟩),.lit .nilIface],0,0⟩),
 (206,⟨20,160,.arr 20 192,[.t (.int .u64 0),.t (.int .u64 0),.t (.int .u64 0),.t (.int .u64 0),.t (.int .u64 0),.t (.int .u64 0),.t (.int .u64 0),.t (.int .u64 0),.t (.int .u64 0),.t (.int .u64 0),.t (.int .u64 0),.t (.int .u64 0),.t (.int .u64 0),.t (.int .u64 0),.t (.int .u64 0),.t (.int .u64 0),.t (.int .u64 0),.t (.int .u64 0),.t (.int .u64 0),.t (.int .u64 0)],0,0⟩),
 (207,⟨1,4,.int .u32,[.t (.int .u32 0)],0,0⟩),
 (208,⟨65,65,.arr 65 5,[.t (.int .u8 0),.t (.int .u8 0),.t (.int .u8 0),.t (.int .u8 0),.t (.int .u8 0),.t (.int .u8 0),.t (.int .u8 0),.t (.int .u8 0),.t (.int .u8 0),.t (.int .u8 0),.t (.int .u8 0),.t (.int .u8 0),.t (.int .u8 0),.t (.int .u8 0),.t (.int .u8 0),.t (.int .u8 0),.t (.int .u8 0),.t (.int .u8 0),.t (.int .u8 0),.t (.int .u8 0),.t (.int .u8 0),.t (.int .u8 0),.t (.int .u8 0),.t (.int .u8 0),.t (.int .u8 0),.t (.int .u8 0),.t (.int .u8 0),.t (.int .u8 0),.t (.int .u8 0),.t (.int .u8 0),.t (.int .u8 0),.t (.int .u8 0),.t (.int .u8 0),.t (.int .u8 0),.t (.int .u8 0),.t (.int .u8 0),.t (.int .u8 0),.t (.int .u8 0),.t (.int .u8 0),.t (.int .u8 0),.t (.int .u8 0),.t (.int .u8 0),.t (.int .u8 0),.t (.int .u8 0),.t (.int .u8 0),.t (.int .u8 0),.t (.int .u8 0),.t (.int .u8 0),.t (.int .u8 0),.t (.int .u8 0),.t (.int .u8 0),.t (.int .u8 0),.t (.int .u8 0),.t (.int .u8 0),.t (.int .u8 0),.t (.int .u8 0),.t (.int .u8 0),.t (.int .u8 0),.t (.int .u8 0),.t (.int .u8 0),.t (.int .u8 0),.t (.int .u8 0),.t (.int .u8 0),.t (.int .u8 0),.t (.int .u8 0)],0,0⟩),
 (212,⟨1,8,.ptr 214,[.np],0,0⟩),
 (214,⟨1,16,.st [(0,9)],[.t (.str ⟨#[]⟩)],0,2⟩),
 (216,⟨32,32,.arr 32 5,[.t (.int .u8 0),.t (.int .u8 0),.t (.int .u8 0),.t (.int .u8 0),.t (.int .u8 0),.t (.int .u8 0),.t (.int .u8 0),.t (.int .u8 0),.t (.int .u8 0),.t (.int .u8 0),.t (.int .u8 0),.t (.int .u8 0),.t (.int .u8 0),.t (.int .u8 0),.t (.int .u8 0),.t (.int .u8 0),.t (.int .u8 0),.t (.int .u8 0),.t (.int .u8 0),.t (.int .u8 0),.t (.int .u8 0),.t (.int .u8 0),.t (.int .u8 0),.t (.int .u8 0),.t (.int .u8 0),.t (.int .u8 0),.t (.int .u8 0),.t (.int .u8 0),.t (.int .u8 0),.t (.int .u8 0),.t (.int .u8 0),.t (.int .u8 0)],0,0⟩),
 (217,⟨64,64,.arr 64 5,[.t (.int .u8 0),.t (.int .u8 0),.t (.int .u8 0),.t (.int .u8 0),.t (.int .u8 0),.t (.int .u8 0),.t (.int .u8 0),.t (.int .u8 0),.t (.int .u8 0),.t (.int .u8 0),.t (.int .u8 0),.t (.int .u8 0),.t (.int .u8 0),.t (.int .u8 0),.t (.int .u8 0),.t (.int .u8 0),.t (.int .u8 0),.t (.int .u8 0),.t (.int .u8 0),.t (.int .u8 0),.t (.int .u8 0),.t (.int .u8 0),.t (.int .u8 0),.t (.int .u8 0),.t (.int .u8 0),.t (.int .u8 0),.t (.int .u8 0),.t (.int .u8 0),.t (.int .u8 0),.t (.int .u8 0),.t (.int .u8 0),.t (.int .u8 0),.t (.int .u8 0),.t (.int .u8 0),.t (.int .u8 0),.t (.int .u8 0),.t (.int .u8 0),.t (.int .u8 0),.t (.int .u8 0),.t (.int .u8 0),.t (.int .u8 0),.t (.int .u8 0),.t (.int .u8 0),.t (.int .u8 0),.t (.int .u8 0),.t (.int .u8 0),.t (.int .u8 0),.t (.int .u8 0),.t (.int .u8 0),.t (.int .u8 0),.t (.int .u8 0),.t (.int .u8 0),.t (.int .u8 0),.t (.int .u8 0),.t (.int .u8 0),.t (.int .u8 0),.t (.int .u8 0),.t (.int .u8 0),.t (.int .u8 0),.t (.int .u8 0),.t (.int .u8 0),.t (.int .u8 0),.t (.int .u8 0),.t (.int .u8 0)],0,0⟩),
 (231,⟨3,40,.st [(0,9),(1,3),(2,9)],[.t (.str ⟨#[]⟩),.t (.int .i64 0),.t (.str ⟨#[]⟩)],0,38⟩)]
set_option maxRecDepth 100000 in
theorem ti_ok:TIok Proofs.Tryz.prog (look tiL):=
 tiok_of (tiok_cons (tok_of (by kernel_rfl) (by kernel_rfl) (by kernel_rfl)) (tiok_cons (tok_of (by kernel_rfl) (by kernel_rfl) (by kernel_rfl)) (tiok_cons (tok_of (by kernel_rfl) (by kernel_rfl) (by kernel_rfl)) (tiok_cons (tok_of (by kernel_rfl) (by kernel_rfl) (by kernel_rfl)) (tiok_cons (tok_of (by kernel_rfl) (by kernel_rfl) (by kernel_rfl)) (tiok_cons (tok_of (by kernel_rfl) (by kernel_rfl) (by kernel_rfl)) (tiok_cons (tok_of (by kernel_rfl) (by kernel_rfl) (by kernel_rfl)) (tiok_cons (tok_of (by kernel_rfl) (by kernel_rfl) (by kernel_rfl)) (tiok_cons (tok_of (by kernel_rfl) (by kernel_rfl) (by kernel_rfl)) (tiok_cons (tok_of (by kernel_rfl) (by kernel_rfl) (by kernel_rfl)) (tiok_cons (tok_of (by kernel_rfl) (by kernel_rfl) (by kernel_rfl)) (tiok_cons (tok_of (by kernel_rfl) (by kernel_rfl) (by kernel_rfl)) (tiok_cons (tok_of (by kernel_rfl) (by kernel_rfl) (by kernel_rfl)) (tiok_cons (tok_of (by kernel_rfl) (by kernel_rfl) (by kernel_rfl)) (tiok_cons (tok_of (by kernel_rfl) (by kernel_rfl) (by kernel_rfl)) (tiok_cons (tok_of (by kernel_rfl) (by kernel_rfl) (by kernel_rfl)) (tiok_cons (tok_of (by kernel_rfl) (by kernel_rfl) (by kernel_rfl)) (tiok_cons (tok_of (by kernel_rfl) (by kernel_rfl) (by kernel_rfl)) (tiok_cons (tok_of (by kernel_rfl) (by kernel_rfl) (by kernel_rfl)) (tiok_cons (tok_of (by kernel_rfl) (by kernel_rfl) (by kernel_rfl)) (tiok_cons (tok_of (by kernel_rfl) (by kernel_rfl) (by kernel_rfl)) (tiok_cons (tok_of (by kernel_rfl) (by kernel_rfl) (by kernel_rfl)) (tiok_cons (tok_of (by kernel_rfl) (by kernel_rfl) (by kernel_rfl)) (tiok_cons (tok_of (by kernel_rfl) (by kernel_rfl) (by kernel_rfl)) (tiok_cons (tok_of (by kernel_rfl) (by kernel_rfl) (by kernel_rfl)) (tiok_cons (tok_of (by kernel_rfl) (by kernel_rfl) (by kernel_rfl)) (tiok_cons (tok_of (by kernel_rfl) (by kernel_rfl) (by kernel_rfl)) (tiok_cons (tok_of (by kernel_rfl) (by kernel_rfl) (by kernel_rfl)) (tiok_cons (tok_of (by kernel_rfl) (by kernel_rfl) (by kernel_rfl)) (tiok_cons (tok_of (by kernel_rfl) (by kernel_rfl) (by kernel_rfl)) (tiok_cons (tok_of (by kernel_rfl) (by kernel_rfl) (by kernel_rfl)) (tiok_cons (tok_of (by kernel_rfl) (by kernel_rfl) (by kernel_rfl)) (tiok_cons (tok_of (by kernel_rfl) (by kernel_rfl) (by kernel_rfl)) (tiok_cons (tok_of (by kernel_rfl) (by kernel_rfl) (by kernel_rfl)) (tiok_cons (tok_of (by kernel_rfl) (by kernel_rfl) (by kernel_rfl)) (tiok_cons (tok_of (by kernel_rfl) (by kernel_rfl) (by kernel_rfl)) (tiok_cons (tok_of (by kernel_rfl) (by kernel_rfl) (by kernel_rfl)) (tiok_cons (tok_of (by kernel_rfl) (by kernel_rfl) (by kernel_rfl)) (tiok_cons (tok_of (by kernel_rfl) (by kernel_rfl) (by kernel_rfl)) (tiok_cons (tok_of (by kernel_rfl) (by kernel_rfl) (by kernel_rfl)) (tiok_cons (tok_of (by kernel_rfl) (by kernel_rfl) (by kernel_rfl)) (tiok_cons (tok_of (by kernel_rfl) (by kernel_rfl) (by kernel_rfl)) (tiok_cons (tok_of (by kernel_rfl) (by kernel_rfl) (by kernel_rfl)) (tiok_cons (tok_of (by kernel_rfl) (by kernel_rfl) (by kernel_rfl)) (tiok_cons (tok_of (by kernel_rfl) (by kernel_rfl) (by kernel_rfl)) (tiok_cons (tok_of (by kernel_rfl) (by kernel_rfl) (by kernel_rfl)) (tiok_cons (tok_of (by kernel_rfl) (by kernel_rfl) (by kernel_rfl)) (tiok_cons (tok_of (by kernel_rfl) (by kernel_rfl) (by kernel_rfl)) (tiok_cons (tok_of (by kernel_rfl) (by kernel_rfl) (by kernel_rfl)) (tiok_cons (tok_of (by kernel_rfl) (by kernel_rfl) (by kernel_rfl)) (tiok_cons (tok_of (by kernel_rfl) (by kernel_rfl) (by kernel_rfl)) (tiok_cons (tok_of (by kernel_rfl) (by kernel_rfl) (by kernel_rfl)) (tiok_cons (tok_of (by kernel_rfl) (by kernel_rfl) (by kernel_rfl)) (tiok_cons (tok_of (by kernel_rfl) (by kernel_rfl) (by kernel_rfl)) (tiok_cons (tok_of (by kernel_rfl) (by kernel_rfl) (by kernel_rfl)) (tiok_cons (tok_of (by kernel_rfl) (by kernel_rfl) (by kernel_rfl)) (tiok_cons (tok_of (by kernel_rfl) (by kernel_rfl) (by kernel_rfl)) (tiok_cons (tok_of (by kernel_rfl) (by kernel_rfl) (by kernel_rfl)) (tiok_cons (tok_of (by kernel_rfl) (by kernel_rfl) (by kernel_rfl)) (tiok_cons (tok_of (by kernel_rfl) (by kernel_rfl) (by kernel_rfl)) (tiok_cons (tok_of (by kernel_rfl) (by kernel_rfl) (by kernel_rfl)) (tiok_cons (tok_of (by kernel_rfl) (by kernel_rfl) (by kernel_rfl)) (tiok_cons (tok_of (by kernel_rfl) (by kernel_rfl) (by kernel_rfl)) (tiok_cons (tok_of (by kernel_rfl) (by kernel_rfl) (by kernel_rfl)) (tiok_cons (tok_of (by kernel_rfl) (by kernel_rfl) (by kernel_rfl)) (tiok_cons (tok_of (by kernel_rfl) (by kernel_rfl) (by kernel_rfl)) (tiok_cons (tok_of (by kernel_rfl) (by kernel_rfl) (by kernel_rfl)) (tiok_cons (tok_of (by kernel_rfl) (by kernel_rfl) (by kernel_rfl)) (tiok_cons (tok_of (by kernel_rfl) (by kernel_rfl) (by kernel_rfl)) (tiok_cons (tok_of (by kernel_rfl) (by kernel_rfl) (by kernel_rfl)) (tiok_cons (tok_of (by kernel_rfl) (by kernel_rfl) (by kernel_rfl)) tiok_nil)))))))))))))))))))))))))))))))))))))))))))))))))))))))))))))))))))))))
abbrev TP:=Tr Proofs.Tryz.prog
end Go.PL
namespace Go.Proofs
open Go.Shelf Go.RowKit
set_option maxHeartbeats 1000000 in
set_option maxRecDepth 100000 in
theorem Tryz.copyCheck_used(b:Nat)(w:World)(h0:w.cell? ⟨b,0,none⟩=some (.pointer (some ⟨b,0,none⟩))):
  Calls Tryz.prog 126 #[.pointer (some ⟨b,0,none⟩)] w fun e w'=>e = .returned (.tuple #[])∧w'=w:=by
 have hsz:(Tryz.prog.info? 130).map (·.size)=some 2:=by kernel_rfl
 obtain⟨j,hj,_⟩:=Option.map_eq_some_iff.1 hsz
 have mixed:Tryz.prog.follows .mixedOrders=true:=by kernel_rfl
 have t72:=Tryz.underlying130; have a72:=Tryz.isAgg130; have z72:=Tryz.sizeOf130; have v72:=Tryz.zeroValue130; have u72:=run_underlying t72
 have t70:=Tryz.underlying127; have a70:=Tryz.isAgg127; have z70:=Tryz.sizeOf127; have v70:=Tryz.zeroValue127; have u70:=run_underlying t70
 have t4:=Tryz.underlying4; have a4:=Tryz.isAgg4; have z4:=Tryz.sizeOf4; have v4:=Tryz.zeroValue4; have u4:=run_underlying t4
 have t164:=Tryz.underlying174; have a164:=Tryz.isAgg174; have z164:=Tryz.sizeOf174; have v164:=Tryz.zeroValue174; have u164:=run_underlying t164
 go_enter Tryz.func126,Tryz.ntmps126
 go_wp2
 rw[Lib.run_neq_ptr_same w _ t70 hj]
 go_wp2
 go_end0
 exact⟨rfl,rfl⟩
set_option maxHeartbeats 1000000 in
set_option maxRecDepth 100000 in
theorem Tryz.copyCheck_fresh(b:Nat)(w:World)(h0:w.cell? ⟨b,0,none⟩=some (.pointer none))(hsh:w.shape? b=some (130,2))(hfz:w.frozen? ⟨b,0,none⟩=false):
  Calls Tryz.prog 126 #[.pointer (some ⟨b,0,none⟩)] w fun e w'=>e = .returned (.tuple #[])∧w'=w.setCell ⟨b,0,none⟩ (.pointer (some ⟨b,0,none⟩)):=by
 have hsz:(Tryz.prog.info? 130).map (·.size)=some 2:=by kernel_rfl
 obtain⟨j,hj,hjs⟩:=Option.map_eq_some_iff.1 hsz
 have lies:liesAt Tryz.prog Tryz.prog.depth 130 (2 / Tryz.prog.cellsOf 130) 0 130 1=true:=by kernel_rfl
 have mixed:Tryz.prog.follows .mixedOrders=true:=by kernel_rfl
 have t72:=Tryz.underlying130; have a72:=Tryz.isAgg130; have z72:=Tryz.sizeOf130; have v72:=Tryz.zeroValue130; have u72:=run_underlying t72
 have t70:=Tryz.underlying127; have a70:=Tryz.isAgg127; have z70:=Tryz.sizeOf127; have v70:=Tryz.zeroValue127; have u70:=run_underlying t70
 have t4:=Tryz.underlying4; have a4:=Tryz.isAgg4; have z4:=Tryz.sizeOf4; have v4:=Tryz.zeroValue4; have u4:=run_underlying t4
 have t164:=Tryz.underlying174; have a164:=Tryz.isAgg174; have z164:=Tryz.sizeOf174; have v164:=Tryz.zeroValue174; have u164:=run_underlying t164
 go_enter Tryz.func126,Tryz.ntmps126
 go_wp2
 rw[Lib.run_to_unsafe w ⟨b,0,none⟩ t70 t164 hj (by rw[hjs]; decide) hsh (Nat.zero_lt_succ 1)]
 simp only[Result.andThen]
 rw[Oper.upon_value]
 go_wp2
 rw[run_callFunc_extern Tryz.func152 (by kernel_rfl) (by kernel_rfl) (by kernel_rfl) (e:=Extern.AbiNoEscape.same) (by kernel_rfl)]
 rw[Lib.run_noEscape]
 simp only[Result.andThen]
 rw[Oper.upon_value]
 go_wp2
 rw[Lib.run_from_unsafe w ⟨b,0,none⟩ t164 t70 hj hsh lies]
 simp only[Result.andThen]
 rw[Oper.upon_value]
 go_wp2
 go_end0
 exact⟨rfl,rfl⟩
set_option maxHeartbeats 2000000 in
set_option maxRecDepth 100000 in
theorem Tryz.String_row(b g cap:Nat)(p:Value)(cur:Array Value)(l:List UInt8)(h0:l≠[])(w:World)(hbk:w.heap[b]? = some (.cells #[p,.slice (some ⟨g,0,none⟩) l.length cap] 130 (0,0)))
  (hg:w.heap[g]? = some (.cells cur 5 (0,0)))(hnc:l.length≤cap)(hcm:cap≤maxLen)(hcs:cur.size=cap*1)(hcell:∀ (j:Nat) (x:UInt8),l[j]? = some x→cur[j]? = some (Value.int .u8 (x.toNat:Int))):
  Calls Tryz.prog 78 #[.pointer (some ⟨b,0,none⟩)] w fun e w'=>e = .returned (.string ⟨l.toArray⟩)∧w'=w.drew.freeze ⟨g,0,none⟩ l.length:=by
 have hl0:l.length≠0:=by simpa using h0
 have c1:w.drew.cell? ⟨b,1,none⟩=some (.slice (some ⟨g,0,none⟩) l.length cap):=by
  have:w.drew.heap[b]? = some (.cells #[p,.slice (some ⟨g,0,none⟩) l.length cap] 130 (0,0)):=hbk
  rw[Lib.cell_of_heap this]; rfl
 have hSD:(Builtin.unsafeSliceData_ #[128] 160 #[.slice (some ⟨g,0,none⟩) l.length cap]).run Tryz.prog w.drew = .ok (.pointer (some ⟨g,0,none⟩)) w.drew:=
  Lib.run_unsafeSliceData_row _ _ _ _ _ _ (by omega)
 have hUS:(Builtin.unsafeString_ #[160,3] 9 #[.pointer (some ⟨g,0,none⟩),.int .i64 l.length]).run Tryz.prog w.drew = .ok (.string ⟨l.toArray⟩) (w.drew.freeze ⟨g,0,none⟩ l.length):=by
  refine Lib.run_unsafeString_row w.drew 160 3 9 5 Tryz.underlying160 (by kernel_rfl) g cur.size (by have hg':w.drew.heap[g]? = some (.cells cur 5 (0,0)):=hg; simp[World.shape?,hg']) l h0 (by omega) (by unfold maxLen at hcm; omega) ?_
  intro j x hx
  have hg':w.drew.heap[g]? = some (.cells cur 5 (0,0)):=hg
  rw[Go.PL.Addr.add_none,Nat.zero_add,Lib.cell_of_heap hg']
  exact hcell j x hx
 have mixed:Tryz.prog.follows .mixedOrders=true:=by kernel_rfl
 have t72:=Tryz.underlying130; have a72:=Tryz.isAgg130; have z72:=Tryz.sizeOf130; have v72:=Tryz.zeroValue130; have u72:=run_underlying t72
 have t70:=Tryz.underlying127; have a70:=Tryz.isAgg127; have z70:=Tryz.sizeOf127; have v70:=Tryz.zeroValue127; have u70:=run_underlying t70
 have t37:=Tryz.underlying128; have a37:=Tryz.isAgg128; have z37:=Tryz.sizeOf128; have v37:=Tryz.zeroValue128; have u37:=run_underlying t37
 have t127:=Tryz.underlying160; have a127:=Tryz.isAgg160; have z127:=Tryz.sizeOf160; have v127:=Tryz.zeroValue160; have u127:=run_underlying t127
 have t3:=Tryz.underlying3; have a3:=Tryz.isAgg3; have z3:=Tryz.sizeOf3; have v3:=Tryz.zeroValue3; have u3:=run_underlying t3
 have t9:=Tryz.underlying9; have a9:=Tryz.isAgg9; have z9:=Tryz.sizeOf9; have v9:=Tryz.zeroValue9; have u9:=run_underlying t9
 have t5:=Tryz.underlying5; have a5:=Tryz.isAgg5; have z5:=Tryz.sizeOf5; have v5:=Tryz.zeroValue5; have u5:=run_underlying t5
 go_enter Tryz.func78,Tryz.ntmps78
 go_wp2
 go_region_o
 all_goals (go_wp2; go_ret; exact⟨rfl,rfl⟩)
set_option maxHeartbeats 2000000 in
set_option maxRecDepth 100000 in
theorem Tryz.String_nil(b:Nat)(p:Value)(w:World)(hbk:w.heap[b]? = some (.cells #[p,.slice none 0 0] 130 (0,0))):
  Calls Tryz.prog 78 #[.pointer (some ⟨b,0,none⟩)] w fun e w'=>e = .returned (.string ⟨#[]⟩)∧w'=w.drew:=by
 have hUS:∀ W q,(Builtin.unsafeString_ #[160,3] 9 #[.pointer q,.int .i64 0]).run Tryz.prog W = .ok (.string .empty) W:=fun W q=>Lib.run_unsafeString_none W _ _ _ q
 have c1:w.drew.cell? ⟨b,1,none⟩=some (.slice none 0 0):=by
  have:w.drew.heap[b]? = some (.cells #[p,.slice none 0 0] 130 (0,0)):=hbk
  rw[Lib.cell_of_heap this]; rfl
 have hSD:(Builtin.unsafeSliceData_ #[128] 160 #[.slice none 0 0]).run Tryz.prog w.drew = .ok (.pointer none) w.drew:=rfl
 have mixed:Tryz.prog.follows .mixedOrders=true:=by kernel_rfl
 have t72:=Tryz.underlying130; have a72:=Tryz.isAgg130; have z72:=Tryz.sizeOf130; have v72:=Tryz.zeroValue130; have u72:=run_underlying t72
 have t70:=Tryz.underlying127; have a70:=Tryz.isAgg127; have z70:=Tryz.sizeOf127; have v70:=Tryz.zeroValue127; have u70:=run_underlying t70
 have t37:=Tryz.underlying128; have a37:=Tryz.isAgg128; have z37:=Tryz.sizeOf128; have v37:=Tryz.zeroValue128; have u37:=run_underlying t37
 have t127:=Tryz.underlying160; have a127:=Tryz.isAgg160; have z127:=Tryz.sizeOf160; have v127:=Tryz.zeroValue160; have u127:=run_underlying t127
 have t3:=Tryz.underlying3; have a3:=Tryz.isAgg3; have z3:=Tryz.sizeOf3; have v3:=Tryz.zeroValue3; have u3:=run_underlying t3
 have t9:=Tryz.underlying9; have a9:=Tryz.isAgg9; have z9:=Tryz.sizeOf9; have v9:=Tryz.zeroValue9; have u9:=run_underlying t9
 have t5:=Tryz.underlying5; have a5:=Tryz.isAgg5; have z5:=Tryz.sizeOf5; have v5:=Tryz.zeroValue5; have u5:=run_underlying t5
 go_enter Tryz.func78,Tryz.ntmps78
 go_wp2
 go_region_o
 all_goals (go_wp2; go_ret; exact⟨rfl,rfl⟩)
set_option maxHeartbeats 2000000 in
set_option maxRecDepth 100000 in
theorem Tryz.String_noroom(b g:Nat)(p:Value)(cur:Array Value)(w:World)(hlt:b<w.heap.size)(hbk:w.heap[b]? = some (.cells #[p,.slice (some ⟨g,0,none⟩) 0 0] 130 (0,0)))(hg:w.heap[g]? = some (.cells cur 5 (0,0))):
  Calls Tryz.prog 78 #[.pointer (some ⟨b,0,none⟩)] w fun e w'=>e = .returned (.string ⟨#[]⟩)∧w'=w.drew.alloc (.view ⟨g,0,none⟩ 5):=by
 have hUS:∀ W q,(Builtin.unsafeString_ #[160,3] 9 #[.pointer q,.int .i64 0]).run Tryz.prog W = .ok (.string .empty) W:=fun W q=>Lib.run_unsafeString_none W _ _ _ q
 have c1:w.drew.cell? ⟨b,1,none⟩=some (.slice (some ⟨g,0,none⟩) 0 0):=by
  have:w.drew.heap[b]? = some (.cells #[p,.slice (some ⟨g,0,none⟩) 0 0] 130 (0,0)):=hbk
  rw[Lib.cell_of_heap this]; rfl
 have hSD:(Builtin.unsafeSliceData_ #[128] 160 #[.slice (some ⟨g,0,none⟩) 0 0]).run Tryz.prog w.drew = .ok (.pointer (some ⟨w.drew.heap.size,0,none⟩)) (w.drew.alloc (.view ⟨g,0,none⟩ 5)):=
  Lib.run_unsafeSliceData_zero w.drew _ _ 5 Tryz.underlying160 ⟨g,0,none⟩ 0 (5,cur.size) (by have hg':w.drew.heap[g]? = some (.cells cur 5 (0,0)):=hg; simp[World.shape?,hg'])
 have c2:(w.drew.alloc (.view ⟨g,0,none⟩ 5)).cell? ⟨b,1,none⟩=some (.slice (some ⟨g,0,none⟩) 0 0):=by
  have:(w.drew.alloc (.view ⟨g,0,none⟩ 5)).heap[b]? = _:=(Lib.alloc_old w.drew _ b hlt).trans hbk
  rw[Lib.cell_of_heap this]; rfl
 have c3:(w.alloc (.view ⟨g,0,none⟩ 5)).drew.cell? ⟨b,1,none⟩=some (.slice (some ⟨g,0,none⟩) 0 0):=c2
 have c0:w.cell? ⟨b,1,none⟩=some (.slice (some ⟨g,0,none⟩) 0 0):=c1
 have mixed:Tryz.prog.follows .mixedOrders=true:=by kernel_rfl
 have t72:=Tryz.underlying130; have a72:=Tryz.isAgg130; have z72:=Tryz.sizeOf130; have v72:=Tryz.zeroValue130; have u72:=run_underlying t72
 have t70:=Tryz.underlying127; have a70:=Tryz.isAgg127; have z70:=Tryz.sizeOf127; have v70:=Tryz.zeroValue127; have u70:=run_underlying t70
 have t37:=Tryz.underlying128; have a37:=Tryz.isAgg128; have z37:=Tryz.sizeOf128; have v37:=Tryz.zeroValue128; have u37:=run_underlying t37
 have t127:=Tryz.underlying160; have a127:=Tryz.isAgg160; have z127:=Tryz.sizeOf160; have v127:=Tryz.zeroValue160; have u127:=run_underlying t127
 have t3:=Tryz.underlying3; have a3:=Tryz.isAgg3; have z3:=Tryz.sizeOf3; have v3:=Tryz.zeroValue3; have u3:=run_underlying t3
 have t9:=Tryz.underlying9; have a9:=Tryz.isAgg9; have z9:=Tryz.sizeOf9; have v9:=Tryz.zeroValue9; have u9:=run_underlying t9
 have t5:=Tryz.underlying5; have a5:=Tryz.isAgg5; have z5:=Tryz.sizeOf5; have v5:=Tryz.zeroValue5; have u5:=run_underlying t5
 go_enter Tryz.func78,Tryz.ntmps78
 go_wp2
 go_region_o
 all_goals (go_wp2; go_ret; exact⟨rfl,rfl⟩)
set_option maxHeartbeats 2000000 in
set_option maxRecDepth 100000 in
theorem Tryz.String_room(b g cap:Nat)(p:Value)(w:World)(hc0:cap≠0)(hbk:w.heap[b]? = some (.cells #[p,.slice (some ⟨g,0,none⟩) 0 cap] 130 (0,0))):
  Calls Tryz.prog 78 #[.pointer (some ⟨b,0,none⟩)] w fun e w'=>e = .returned (.string ⟨#[]⟩)∧w'=w.drew:=by
 have hUS:∀ W q,(Builtin.unsafeString_ #[160,3] 9 #[.pointer q,.int .i64 0]).run Tryz.prog W = .ok (.string .empty) W:=fun W q=>Lib.run_unsafeString_none W _ _ _ q
 have c1:w.drew.cell? ⟨b,1,none⟩=some (.slice (some ⟨g,0,none⟩) 0 cap):=by
  have:w.drew.heap[b]? = some (.cells #[p,.slice (some ⟨g,0,none⟩) 0 cap] 130 (0,0)):=hbk
  rw[Lib.cell_of_heap this]; rfl
 have hSD:(Builtin.unsafeSliceData_ #[128] 160 #[.slice (some ⟨g,0,none⟩) 0 cap]).run Tryz.prog w.drew = .ok (.pointer (some ⟨g,0,none⟩)) w.drew:=
  Lib.run_unsafeSliceData_row _ _ _ _ _ _ hc0
 clear hc0
 have mixed:Tryz.prog.follows .mixedOrders=true:=by kernel_rfl
 have t72:=Tryz.underlying130; have a72:=Tryz.isAgg130; have z72:=Tryz.sizeOf130; have v72:=Tryz.zeroValue130; have u72:=run_underlying t72
 have t70:=Tryz.underlying127; have a70:=Tryz.isAgg127; have z70:=Tryz.sizeOf127; have v70:=Tryz.zeroValue127; have u70:=run_underlying t70
 have t37:=Tryz.underlying128; have a37:=Tryz.isAgg128; have z37:=Tryz.sizeOf128; have v37:=Tryz.zeroValue128; have u37:=run_underlying t37
 have t127:=Tryz.underlying160; have a127:=Tryz.isAgg160; have z127:=Tryz.sizeOf160; have v127:=Tryz.zeroValue160; have u127:=run_underlying t127
 have t3:=Tryz.underlying3; have a3:=Tryz.isAgg3; have z3:=Tryz.sizeOf3; have v3:=Tryz.zeroValue3; have u3:=run_underlying t3
 have t9:=Tryz.underlying9; have a9:=Tryz.isAgg9; have z9:=Tryz.sizeOf9; have v9:=Tryz.zeroValue9; have u9:=run_underlying t9
 have t5:=Tryz.underlying5; have a5:=Tryz.isAgg5; have z5:=Tryz.sizeOf5; have v5:=Tryz.zeroValue5; have u5:=run_underlying t5
 go_enter Tryz.func78,Tryz.ntmps78
 go_wp2
 go_region_o
 all_goals (go_wp2; go_ret; exact⟨rfl,rfl⟩)
end Go.Proofs
namespace Go.Proofs
open Go.Shelf Go.RowKit
theorem wpList_append_run{P:Program}{w:World}{ops:Array Oper}{rest:List Oper}{o:Oper}{a:Act}{Q:Exit→Act→World→Prop}(hgd:o.guard=none)(sl x:Operand)(t u:TypeId)
  (ho:o.op = .call { callee:=.builtin .append,args:=#[sl,x],argTypes:=#[t,u] })(ty:TypeId)(hty:o.type=ty)(v:Value)(s:ByteArray)(hs:a.eval sl=v)(hx:a.eval x = .string s)(v':Value)(w':World)
  (hr:(Builtin.append_ #[t,u] ty #[v,.string s]).run P w = .ok v' w')(h:wpList P ops Q rest (a.put o.dst v') w'):wpList P ops Q (o::rest) a w:=by
 refine wpList_plain hgd fun K hK=>?_
 unfold Oper.wp execOp
 simp only[ho,hty,resolve,invoke,builtin,Sem.run_bind,Sem.run_pure,Result.andThen_ok,List.map_toArray,List.map_cons,List.map_nil,hs,hx,hr]
 exact hK _ _ h
set_option maxHeartbeats 2000000 in
set_option maxRecDepth 100000 in
theorem Tryz.WriteString_ex(b:Nat)(v:Value)(ao:Option Addr)(n' cap:Nat)(s:ByteArray)(w w1 w2:World)(hcc:Calls Tryz.prog 126 #[.pointer (some ⟨b,0,none⟩)] w fun e w'=>e = .returned (.tuple #[])∧w'=w1)
  (hbk:w1.heap[b]? = some (.cells #[.pointer (some ⟨b,0,none⟩),v] 130 (0,0)))(hap:(Builtin.append_ #[128,9] 128 #[v,.string s]).run Tryz.prog w1 = .ok (.slice ao n' cap) w2)
  (hb2:w2.heap[b]? = some (.cells #[.pointer (some ⟨b,0,none⟩),v] 130 (0,0))):
  Calls Tryz.prog 75 #[.pointer (some ⟨b,0,none⟩),.string s] w fun e w'=>e = .returned (.tuple #[.int .i64 s.size,.nilIface])∧w'=w2.setCell ⟨b,1,none⟩ (.slice ao n' cap):=by
 have mixed:Tryz.prog.follows .mixedOrders=true:=by kernel_rfl
 have t72:=Tryz.underlying130; have a72:=Tryz.isAgg130; have z72:=Tryz.sizeOf130; have v72:=Tryz.zeroValue130; have u72:=run_underlying t72
 have t70:=Tryz.underlying127; have a70:=Tryz.isAgg127; have z70:=Tryz.sizeOf127; have v70:=Tryz.zeroValue127; have u70:=run_underlying t70
 have t37:=Tryz.underlying128; have a37:=Tryz.isAgg128; have z37:=Tryz.sizeOf128; have v37:=Tryz.zeroValue128; have u37:=run_underlying t37
 have t3:=Tryz.underlying3; have a3:=Tryz.isAgg3; have z3:=Tryz.sizeOf3; have v3:=Tryz.zeroValue3; have u3:=run_underlying t3
 have t9:=Tryz.underlying9; have a9:=Tryz.isAgg9; have z9:=Tryz.sizeOf9; have v9:=Tryz.zeroValue9; have u9:=run_underlying t9
 have t4:=Tryz.underlying4; have a4:=Tryz.isAgg4; have z4:=Tryz.sizeOf4; have v4:=Tryz.zeroValue4; have u4:=run_underlying t4
 have t5:=Tryz.underlying5; have a5:=Tryz.isAgg5; have z5:=Tryz.sizeOf5; have v5:=Tryz.zeroValue5; have u5:=run_underlying t5
 have e167:∀ args w,(callFunc 126 args).run Tryz.prog w = .ok (.enter 126 args) w:=enters_of Tryz.func126 (by kernel_rfl) rfl
 go_enter Tryz.func75,Tryz.ntmps75
 go_wp2_with (go_at_fn 126; refine hcc.mono ?_)
 rintro e w' ⟨rfl,rfl⟩
 have c0:w'.cell? ⟨b,0,none⟩=some (.pointer (some ⟨b,0,none⟩)):=by rw[Lib.cell_of_heap hbk]; rfl
 have c1:w'.cell? ⟨b,1,none⟩=some v:=by rw[Lib.cell_of_heap hbk]; rfl
 have d0:w2.cell? ⟨b,0,none⟩=some (.pointer (some ⟨b,0,none⟩)):=by rw[Lib.cell_of_heap hb2]; rfl
 have d1:w2.cell? ⟨b,1,none⟩=some v:=by rw[Lib.cell_of_heap hb2]; rfl
 have f1:w2.frozen? ⟨b,1,none⟩=false:=Lib.frozen_of_heap hb2 1
 go_wp2_with (at_builtin; refine wpList_append_run rfl _ _ 128 9 rfl 128 rfl _ s rfl rfl _ _ hap ?_)
 go_wp2
 go_ret2
 exact⟨rfl,rfl⟩
end Go.Proofs
namespace Go.PL
open Go
theorem bytes_arr(x:ByteArray):(⟨x.data.toList.toArray⟩:ByteArray)=x:=by cases x; simp
theorem size0{x:ByteArray}(h:x.size=0):x=⟨#[]⟩:=by
 cases x with
 | mk d=>have:d=#[]:=Array.eq_empty_of_size_eq_zero h; rw[this]
theorem relw_none{g:Nat→Value}{w w':World}{F:Nat→Prop}{H:Hp}(hH:HpR F g w (fun _=>True) H)(hF:∀ b,F b→b<w.heap.size)
  (hos:w'.os=w.os)(htp:w'.tape=w.tape)(hout:w'.output=w.output)(hsz:w.heap.size≤w'.heap.size)(hb:∀ b,b<w.heap.size→¬ Own g w H b→w'.heap[b]? = w.heap[b]?):
  RelW { w0:=w,F0:=F,B0:=Own g w H,g0:=g,N:=[],nt:=0 } F g [] w':=by
 refine⟨⟨fun o x h=>by simp at h,fun o x b h=>by simp at h,fun o x o' y b h=>by simp at h⟩,fun b h=>h,fun b h=>⟨Nat.lt_of_lt_of_le (hF b h) hsz,.inl h⟩,⟨hos,htp,hout,hsz,hb⟩,fun o h=>by simp at h,?_⟩
 rintro b ⟨o,x,h1,h2⟩
 exact h2.block (hH.obj o x h1)
theorem con121(x:ByteArray):ConH Proofs.Tryz.prog 78 [.ptr 30000 0] [(30000,.bld 130 5 x)] [] (some x) (fun y=>.t (.str y)) (fun _=>[]):=by
 refine⟨callable_of Proofs.Tryz.func78 (by kernel_rfl),fun y hy=>?_⟩
 cases hy
 intro F g w vs hs hv hH hF hgl
 obtain⟨b,p,v,h1,h2,h3,h4⟩:=hH.obj 30000 _ (List.mem_singleton.2 rfl)
 have h0:0<vs.size:=by rw[hs]; decide
 have hv0:=hv 0 _ vs[0] rfl (by simp[h0])
 have hvs:vs=#[.pointer (some ⟨b,0,none⟩)]:=by
  have e0:vs[0] = .pointer (some ⟨b,0,none⟩):=by
   generalize vs[0]=u at hv0
   cases hv0 with
   | ptr hg=>rw[h1]at hg; injection hg with hg; injection hg with hg; injection hg with hg; subst hg; rfl
  apply Array.ext
  ·rw[hs]; rfl
  ·intro q hq _
   have:q=0:=by rw[hs]at hq; simp at hq; omega
   subst this
   simpa using e0
 subst hvs
 have post:∀ {w':World},w'.os=w.os→w'.tape=w.tape→w'.output=w.output→w.heap.size≤w'.heap.size→(∀ q,q<w.heap.size→¬ Own g w [(30000,.bld 130 5 x)] q→w'.heap[q]? = w.heap[q]?) →
   ∃ v r H' F' g',Ending.returned (.string x) = .returned v∧RetH (.t (.str x)) [] r H'∧VR F' g' w' r v∧RelW { w0:=w,F0:=F,B0:=Own g w [(30000,.bld 130 5 x)],g0:=g,N:=[],nt:=0 } F' g' H' w':=
  fun e1 e2 e3 e4 e5=>⟨_,_,_,F,g,rfl,⟨rfl,rfl⟩,.t (.str _),relw_none hH hF e1 e2 e3 e4 e5⟩
 rcases h4 with⟨rfl,hx0⟩ | ⟨r,cap,cur,rfl,k1,k2,k3,k4,k5,k6⟩
 ·have hx:x=⟨#[]⟩:=size0 hx0
  refine(Proofs.Tryz.String_nil b p w h2).mono ?_
  rintro e w' ⟨rfl,rfl⟩
  rw[←hx]
  exact post rfl rfl rfl (Nat.le_refl _) (fun _ _ _=>rfl)
 ·have hblt:b<w.heap.size:=(Array.getElem?_eq_some_iff.1 h2).1
  by_cases hx0:x.size=0
  ·have hx:x=⟨#[]⟩:=size0 hx0
   rw[hx0]at h2
   by_cases hc:cap=0
   ·subst hc
    refine(Proofs.Tryz.String_noroom b r p cur w hblt h2 k1).mono ?_
    rintro e w' ⟨rfl,rfl⟩
    rw[←hx]
    exact post rfl rfl rfl (by show w.heap.size≤(w.heap.push _).size; rw[Array.size_push]; exact Nat.le_succ _) (fun q hq _=>heap_alloc_old w.drew _ hq)
   ·refine(Proofs.Tryz.String_room b r cap p w hc h2).mono ?_
    rintro e w' ⟨rfl,rfl⟩
    rw[←hx]
    exact post rfl rfl rfl (Nat.le_refl _) (fun _ _ _=>rfl)
  ·have hl:x.data.toList.length=x.size:=by simp
   have hne:x.data.toList≠[]:=by
    intro h
    rw[h]at hl
    exact hx0 hl.symm
   have h2':=h2
   rw[←hl]at h2'
   refine(Proofs.Tryz.String_row b r cap p cur x.data.toList hne w h2' k1 (by omega) k4 (by omega) (fun q u hu=>?_)).mono ?_
   ·have hq:q<x.size:=by rw[←hl]; exact(List.getElem?_eq_some_iff.1 hu).1
    have:=congrArg (·[q]?) k6
    simp only[List.getElem?_take,if_pos hq,byteCs,List.getElem?_map,hu]at this
    simpa using this
   ·rintro e w' ⟨rfl,rfl⟩
    rw[bytes_arr]
    have hn:x.data.toList.length≠0:=by omega
    refine post ?_ ?_ ?_ ?_ (fun q hq ho=>?_)
    ·simp only[World.freeze,if_neg hn]; rfl
    ·simp only[World.freeze,if_neg hn]; rfl
    ·simp only[World.freeze,if_neg hn]; rfl
    ·simp only[World.freeze,if_neg hn]
     rw[Array.size_modify]
     exact Nat.le_refl _
    ·have hqr:q≠r:=fun e=>ho ⟨30000,_,List.mem_singleton.2 rfl,.bld h1 h2 (by rw[e]; rfl)⟩
     simp only[World.freeze,if_neg hn]
     rw[Array.getElem?_modify,if_neg (fun e=>hqr e.symm)]
     rfl
end Go.PL
namespace Go.PL
open Go Go.Lib
theorem heap_setCell(w:World)(b q:Nat)(u c0 c1:Value)(ty:Nat)(hb:w.heap[b]? = some (.cells #[c0,c1] ty (0,0)))(_hq:q<2):
  (w.setCell ⟨b,q,none⟩ u).heap[b]? = some (.cells (#[c0,c1].setIfInBounds q u) ty (0,0)):=by
 simp[World.setCell,Array.getElem?_modify,hb]
theorem heap_setCell_other(w:World)(b q k:Nat)(u:Value)(hk:k≠b):(w.setCell ⟨b,q,none⟩ u).heap[k]? = w.heap[k]?:=by
 simp[World.setCell,Array.getElem?_modify,Ne.symm hk]
theorem size_setCell(w:World)(b q:Nat)(u:Value):(w.setCell ⟨b,q,none⟩ u).heap.size=w.heap.size:=by
 simp[World.setCell]
def RowB(w:World)(v:Value)(s:ByteArray):Prop:=
 (v = .slice none 0 0∧s.size=0)∨∃ r cap cur,v = .slice (some ⟨r,0,none⟩) s.size cap∧w.heap[r]? = some (.cells cur 5 (0,0))∧s.size≤cap∧cap≤maxLen∧cur.size=cap∧cur.toList.take s.size=byteCs s
theorem byteCs_app(x s:ByteArray):byteCs (x++s)=byteCs x++byteCs s:=by
 simp[byteCs,ByteArray.data_append]
theorem byteCs_len(s:ByteArray):(byteCs s).length=s.size:=by simp[byteCs]
theorem append_row(x s:ByteArray)(w:World)(v:Value)(hr:RowB w v x)(hC:x.size+s.size≤140737488355328):
  ∃ ao n cap w2,(Builtin.append_ #[128,9] 128 #[v,.string s]).run Proofs.Tryz.prog w = .ok (.slice ao n cap) w2∧RowB w2 (.slice ao n cap) (x++s)∧(∀ k,k<w.heap.size→blk v≠some k→w2.heap[k]? = w.heap[k]?) ∧
   w.heap.size≤w2.heap.size∧w2.os=w.os∧w2.tape=w.tape∧w2.output=w.output∧(∀ k,blk (.slice ao n cap)=some k→blk v=some k∨w.heap.size≤k):=by
 have htx:Proofs.Tryz.prog.underlying 9=some .string:=Proofs.Tryz.underlying9
 have ht:Proofs.Tryz.prog.underlying 128=some (.slice 5):=Proofs.Tryz.underlying128
 have hi0:(Proofs.Tryz.prog.info? 5).map (fun i=>(i.zero,i.size,i.bytes))=some (some (.int .u8 0),1,1):=by kernel_rfl
 obtain⟨i,hi,hi1⟩:=Option.map_eq_some_iff.1 hi0
 injection hi1 with hz hi2
 injection hi2 with hs hb
 have hsz:(x++s).size=x.size+s.size:=ByteArray.size_append
 have hsc:strCells s=byteCs s:=rfl
 rcases hr with⟨rfl,hx0⟩ | ⟨r,cap,cur,rfl,h1,h2,h3,h4,h5⟩
 ·have hx:byteCs (x++s)=byteCs s:=by
   have h0:byteCs x=[]:=List.eq_nil_of_length_eq_zero (by rw[byteCs_len]; exact hx0)
   rw[byteCs_app,h0,List.nil_append]
  by_cases hs0:s.size=0
  ·refine⟨none,0,0,w,?_,.inl ⟨rfl,by omega⟩,fun _ _ _=>rfl,Nat.le_refl _,rfl,rfl,rfl,fun k h=>by simp[blk]at h⟩
   simp[Builtin.append_,run_underlying ht,run_underlying htx,sizeOf,typeInfo,hi,Builtin.lenOf,hs0,Builtin.firstCells]
  ·have hrun:=run_append_grow_string0 (P:=Proofs.Tryz.prog) w 128 9 128 5 i _ ht htx hi hz s (by omega) (by omega) (by rw[hb]; omega)
   refine⟨_,_,_,_,hrun,.inr ⟨_,_,_,by rw[hsz,hx0,Nat.zero_add]; rfl,heap_alloc_new w.drew _,?_,?_,?_,?_⟩,fun k hk _=>heap_alloc_old w.drew _ hk,?_,rfl,rfl,rfl,fun k h=>?_⟩
   ·rw[hsz,hx0,Nat.zero_add]; exact grownCap_ge w s.size 0 5
   ·exact grownCap_le_maxLen w s.size 0 5 (by simp only[maxLen]; omega)
   ·have:=grownCap_ge w s.size 0 5
    simp only[Array.size_append,List.size_toArray,strCells_length,size_zeroCells]
    simp[Value.cells]; omega
   ·rw[hx,hsz,hx0,Nat.zero_add]
    simp only[Array.toList_append]
    rw[List.take_append_of_le_length (by simp[strCells_length]),List.take_of_length_le (by simp[strCells_length])]
    simp[hsc]
   ·show w.heap.size≤(w.heap.push _).size; rw[Array.size_push]; exact Nat.le_succ _
   ·simp[blk]at h; right; omega
 ·have hrl:r<w.heap.size:=(Array.getElem?_eq_some_iff.1 h1).1
  by_cases hroom:x.size+s.size≤cap
  ·have hrun:=run_append_room_string (P:=Proofs.Tryz.prog) w 128 9 128 5 i ht htx hi hs r x.size cap cur h1 s hroom (by omega)
   refine⟨_,_,_,_,hrun,.inr ⟨r,cap,_,by rw[hsz],setRow_heap w r cur _ 5 _ h1,by omega,h3,?_,?_⟩,fun k hk hne=>setRow_other w r k _ (fun e=>hne (by rw[e]; rfl)),by simp,rfl,rfl,rfl,fun k h=>.inl h⟩
   ·simp only[List.size_toArray,List.length_append,List.length_take,List.length_drop,strCells_length,Array.length_toList]; omega
   ·rw[hsz,byteCs_app,hsc,h5]
    have hl1:(byteCs x++byteCs s).length=x.size+s.size:=by simp[byteCs_len]
    rw[List.take_append_of_le_length (by omega),List.take_of_length_le (by omega)]
  ·have hol:(cur.toList.take x.size).length=x.size*i.size:=by rw[hs]; simp only[List.length_take,Array.length_toList]; omega
   have hrun:=run_append_grow_string (P:=Proofs.Tryz.prog) w 128 9 128 5 i _ ht htx hi hz ⟨r,0,none⟩ x.size cap (cur.toList.take x.size) hol (fun k u hu=>by
    rw[Addr.add_none,Nat.zero_add]
    rw[List.getElem?_take]at hu
    split at hu
    ·simpa[World.cell?,h1] using hu
    ·cases hu) s (by omega) (by omega) (growslice_fits (by omega) (by rw[hb]; omega))
   refine⟨_,_,_,_,hrun,.inr ⟨_,_,_,by rw[hsz]; rfl,heap_alloc_new w.drew _,?_,?_,?_,?_⟩,fun k hk _=>heap_alloc_old w.drew _ hk,?_,rfl,rfl,rfl,fun k h=>?_⟩
   ·rw[hsz]; exact grownCap_ge w (x.size+s.size) cap 5
   ·exact grownCap_le_maxLen w (x.size+s.size) cap 5 (by simp only[maxLen]; omega)
   ·have:=grownCap_ge w (x.size+s.size) cap 5
    rw[hs,Nat.mul_one]at hol
    simp only[Array.size_append,List.size_toArray,hol,strCells_length,size_zeroCells]
    simp[Value.cells]; omega
   ·rw[hsz,byteCs_app,hsc,h5]
    have hl1:(byteCs x++byteCs s).length=x.size+s.size:=by simp[byteCs_len]
    simp only[Array.toList_append]
    rw[List.take_append_of_le_length (by simp[byteCs_len]),List.take_of_length_le (by simp[byteCs_len])]
   ·show w.heap.size≤(w.heap.push _).size; rw[Array.size_push]; exact Nat.le_succ _
   ·simp[blk]at h; right; omega
theorem con118(x s:ByteArray):ConH Proofs.Tryz.prog 75 [.ptr 30000 0,.t (.str s)] [(30000,.bld 130 5 x)] [30000] (if x.size+s.size≤140737488355328 then some () else none)
  (fun _:Unit=>.tup [.t (.int .i64 s.size),.lit .nilIface]) (fun _=>[(30000,.bld 130 5 (x++s))]):=by
 refine⟨callable_of Proofs.Tryz.func75 (by kernel_rfl),fun y hy=>?_⟩
 split at hy
 case isFalse=>cases hy
 rename_i hC
 intro F g w vs hs hv hH hF hgl
 have hmem:(30000,PObj.bld 130 5 x)∈([(30000,.bld 130 5 x)]:Hp):=List.mem_singleton.2 rfl
 obtain⟨b,p,v,h1,h2,h3,h4⟩:=hH.obj 30000 _ hmem
 have hs2:vs.size=2:=hs
 have hv0:=hv 0 _ (vs[0]'(by omega)) rfl (by simp[hs2])
 have hv1:=hv 1 _ (vs[1]'(by omega)) rfl (by simp[hs2])
 have hvs:vs=#[.pointer (some ⟨b,0,none⟩),.string s]:=by
  have e0:vs[0]'(by omega) = .pointer (some ⟨b,0,none⟩):=by
   generalize vs[0]'(by omega)=u at hv0
   cases hv0 with
   | ptr hg=>rw[h1]at hg; injection hg with hg; injection hg with hg; injection hg with hg; subst hg; rfl
  have e1:vs[1]'(by omega) = .string s:=hv1.inv_str
  apply Array.ext
  ·rw[hs2]; rfl
  ·intro q hq _
   match q,hq with
   | 0,_=>simpa using e0
   | 1,_=>simpa using e1
   | q+2,hq=>omega
 subst hvs
 have hblt:b<w.heap.size:=(Array.getElem?_eq_some_iff.1 h2).1
 have rowb:RowB w v x:=by
  rcases h4 with h4 | ⟨r,cap,cur,k1,k2,k3,k4⟩
  ·exact .inl h4
  ·exact .inr ⟨r,cap,cur,k1,k2,k4⟩
 have hvb:blk v≠some b:=by
  rcases h4 with⟨rfl,_⟩ | ⟨r,cap,cur,rfl,k2,k3,k4⟩
  ·simp[blk]
  ·simp[blk]; exact k3
 obtain⟨w1,c1,c2,c3,c4,c5,c6,c7⟩:∃ w1,(Calls Proofs.Tryz.prog 126 #[.pointer (some ⟨b,0,none⟩)] w fun e w'=>e = .returned (.tuple #[])∧w'=w1)∧w1.heap[b]? = some (.cells #[.pointer (some ⟨b,0,none⟩),v] 130 (0,0)) ∧
   (∀ k,k≠b→w1.heap[k]? = w.heap[k]?)∧w1.heap.size=w.heap.size∧w1.os=w.os∧w1.tape=w.tape∧w1.output=w.output:=by
  rcases h3 with rfl | rfl
  ·refine⟨_,Proofs.Tryz.copyCheck_fresh b w (by rw[Lib.cell_of_heap h2]; rfl) (by simp[World.shape?,h2]) (Lib.frozen_of_heap h2 0),?_,fun k hk=>heap_setCell_other w b 0 k _ hk,size_setCell ..,rfl,rfl,rfl⟩
   rw[heap_setCell w b 0 _ _ _ _ h2 (by decide)]
   rfl
  ·exact⟨w,Proofs.Tryz.copyCheck_used b w (by rw[Lib.cell_of_heap h2]; rfl),h2,fun _ _=>rfl,rfl,rfl,rfl,rfl⟩
 have rowb1:RowB w1 v x:=by
  rcases rowb with h | ⟨r,cap,cur,k1,k2,k3⟩
  ·exact .inl h
  ·refine .inr ⟨r,cap,cur,k1,?_,k3⟩
   rw[c3 r (fun e=>hvb (by rw[k1,e]; rfl))]; exact k2
 obtain⟨ao,n',cap',w2,d1,d2,d3,d4,d5,d6,d7,d8⟩:=append_row x s w1 v rowb1 hC
 have hb2:w2.heap[b]? = some (.cells #[.pointer (some ⟨b,0,none⟩),v] 130 (0,0)):=by rw[d3 b (by omega) hvb]; exact c2
 have hv'b:blk (.slice ao n' cap')≠some b:=fun e=>by
  rcases d8 b e with h | h
  ·exact hvb h
  ·omega
 refine(Proofs.Tryz.WriteString_ex b v ao n' cap' s w w1 w2 c1 c2 d1 hb2).mono ?_
 rintro e w' ⟨rfl,rfl⟩
 have hold:∀ k,k<w.heap.size→k≠b→blk v≠some k→(w2.setCell ⟨b,1,none⟩ (.slice ao n' cap')).heap[k]? = w.heap[k]?:=fun k hk hkb hkv=>by
  rw[heap_setCell_other w2 b 1 k _ hkb,d3 k (by omega) hkv,c3 k hkb]
 have hbld:BldV (w2.setCell ⟨b,1,none⟩ (.slice ao n' cap')) (g 30000) 130 5 (x++s):=by
  refine⟨b,.pointer (some ⟨b,0,none⟩),.slice ao n' cap',h1,?_,.inr rfl,?_⟩
  ·rw[heap_setCell w2 b 1 _ _ _ _ hb2 (by decide)]; rfl
  ·rcases d2 with h | ⟨r,cap,cur,k1,k2,k3⟩
   ·exact .inl h
   ·have hrb:r≠b:=fun e=>hv'b (by rw[k1,e]; rfl)
    exact .inr ⟨r,cap,cur,k1,by rw[heap_setCell_other w2 b 1 r _ hrb]; exact k2,hrb,k3⟩
 have hfoot:∀ q,Foot g (w2.setCell ⟨b,1,none⟩ (.slice ao n' cap')) 30000 (.bld 130 5 (x++s)) q→q=b∨blk (.slice ao n' cap')=some q:=by
  intro q hq
  cases hq with
  | self h=>rw[h1]at h; simp[blk]at h; exact .inl h.symm
  | bld k1 k2 k3=>
   rw[h1]at k1; injection k1 with k1; injection k1 with k1; injection k1 with k1; subst k1
   rw[heap_setCell w2 b 1 _ _ _ _ hb2 (by decide)]at k2
   injection k2 with k2; injection k2 with k2; injection k2 with k2; injection k2 with k2 k4; injection k4 with k4
   subst k4
   exact .inr k3
 have hown:∀ q,blk v=some q→Foot g w 30000 (.bld 130 5 x) q:=fun q hq=>.bld h1 h2 hq
 have hself:Foot g w 30000 (.bld 130 5 x) b:=.self (by rw[h1]; rfl)
 refine⟨_,_,_,F,g,rfl,⟨rfl,rfl⟩,.tup rfl fun j q u hq hu=>?_,⟨⟨fun o q hq=>?_,fun o q c hq hc=>?_,fun o q o' q' c hq hq' hne=>?_⟩,fun b h=>h,fun c hc=>⟨?_,.inl hc⟩,⟨?_,?_,?_,?_,fun c hc hn=>?_⟩,fun _ _=>rfl,?_⟩⟩
 ·match j,hq,hu with
  | 0,hq,hu=>simp at hq hu; subst hq; subst hu; exact .t (.int _ _)
  | 1,hq,hu=>simp at hq hu; subst hq; subst hu; exact .lit rfl
  | j+2,hq,_=>simp at hq
 ·cases List.mem_singleton.1 hq; exact hbld
 ·cases List.mem_singleton.1 hq
  rcases hfoot c hc with rfl | h
  ·exact⟨(hH.own _ _ _ hmem hself).1,.inl ⟨_,_,hmem,hself⟩⟩
  ·rcases d8 c h with h | h
   ·exact⟨(hH.own _ _ _ hmem (hown c h)).1,.inl ⟨_,_,hmem,hown c h⟩⟩
   ·exact⟨fun hf=>by have:=hF c hf; omega,.inr (by simpa[c4] using h)⟩
 ·cases List.mem_singleton.1 hq; cases List.mem_singleton.1 hq'; exact absurd rfl hne
 ·rw[size_setCell]; have:=hF c hc; omega
 ·show w2.os=w.os; rw[d5,c5]
 ·show w2.tape=w.tape; rw[d6,c6]
 ·show w2.output=w.output; rw[d7,c7]
 ·rw[size_setCell]; show w.heap.size≤_; omega
 ·exact hold c hc (fun e=>hn ⟨_,_,hmem,e▸hself⟩) (fun e=>hn ⟨_,_,hmem,hown c e⟩)
 ·rintro c ⟨o,q,k1,k2⟩
  exact k2.block (hH.obj o q k1)
end Go.PL
namespace Go.Proofs
open Go.Shelf
def Tryz.lays106_ren:Go.Shelf.Ren:=⟨fun | 106=>177 | 213=>187 | 265=>192 | n=>n,fun | 9=>9 | 3=>3 | n=>n,fun | n=>n⟩
theorem Tryz.lays106:Go.Proofs.Lays.n106 Tryz.prog Tryz.lays106_ren:={
 mixed:=by kernel_rfl
 f106:=Tryz.func177.trans (congrArg some (by kernel_rfl))
 f213:=Tryz.func187.trans (congrArg some (by kernel_rfl))
 f265:=Tryz.func192.trans (congrArg some (by kernel_rfl))
 t3:=Tryz.underlying3
 a3:=Tryz.isAgg3
 z3:=Tryz.sizeOf3
 v3:=Tryz.zeroValue3
 t9:=Tryz.underlying9
 a9:=Tryz.isAgg9
 z9:=Tryz.sizeOf9
 v9:=Tryz.zeroValue9 }
open Go.RowKit in
theorem Tryz.strings_Compare(a b:ByteArray)(w:World):
  Calls Tryz.prog 177 #[.string a,.string b] w fun e w'=>e = .returned (.int .i64 (Lib.compareBytes a.data.toList b.data.toList))∧w'=w:=Any.strings_Compare Tryz.lays106 a b w
def Tryz.lays137_ren:Go.Shelf.Ren:=⟨fun | 137=>106 | 217=>147 | 266=>164 | n=>n,fun | 9=>9 | 5=>5 | 3=>3 | n=>n,fun | n=>n⟩
theorem Tryz.lays137:Go.Proofs.Lays.n137 Tryz.prog Tryz.lays137_ren:={
 mixed:=by kernel_rfl
 f137:=Tryz.func106.trans (congrArg some (by kernel_rfl))
 f217:=Tryz.func147.trans (congrArg some (by kernel_rfl))
 f266:=Tryz.func164.trans (congrArg some (by kernel_rfl))
 t3:=Tryz.underlying3
 a3:=Tryz.isAgg3
 z3:=Tryz.sizeOf3
 v3:=Tryz.zeroValue3
 t5:=Tryz.underlying5
 a5:=Tryz.isAgg5
 z5:=Tryz.sizeOf5
 v5:=Tryz.zeroValue5
 t9:=Tryz.underlying9
 a9:=Tryz.isAgg9
 z9:=Tryz.sizeOf9
 v9:=Tryz.zeroValue9 }
open Go.RowKit in
theorem Tryz.strings_IndexByte(s:ByteArray)(c:Int)(w:World):
  Calls Tryz.prog 106 #[.string s,.int .u8 c] w fun e w'=>e = .returned (.int .i64 (Lib.indexByte s.data.toList c.toNat.toUInt8))∧w'=w:=Any.strings_IndexByte Tryz.lays137 s c w
def Tryz.laysM171_ren:Go.Shelf.Ren:=⟨fun | 171=>74 | 243=>125 | 246=>151 | 283=>171 | 284=>172 | 285=>173 | 286=>174 | 129=>182 | 317=>181 | 318=>183 | 319=>184 | 320=>185 | 337=>190 | 338=>191 | n=>n,fun | 3=>3 | 9=>9 | 2=>2 | 4=>4 | 171=>191 | 0=>0 | 53=>192 | 37=>128 | 5=>5 | 173=>195 | 212=>206 | 51=>207 | 20=>20 | 213=>208 | 46=>177 | 232=>216 | 233=>217 | n=>n,fun | 17=>3 | 18=>4 | 19=>5 | n=>n⟩
theorem Tryz.laysM171:Go.Proofs.LaysM.n171 Tryz.prog Tryz.laysM171_ren:={
 mixed:=by kernel_rfl
 f129:=Tryz.func182.trans (congrArg some (by kernel_rfl))
 f171:=Tryz.func74.trans (congrArg some (by kernel_rfl))
 f243:=Tryz.func125.trans (congrArg some (by kernel_rfl))
 f246:=Tryz.func151.trans (congrArg some (by kernel_rfl))
 f283:=Tryz.func171.trans (congrArg some (by kernel_rfl))
 f284:=Tryz.func172.trans (congrArg some (by kernel_rfl))
 f285:=Tryz.func173.trans (congrArg some (by kernel_rfl))
 f286:=Tryz.func174.trans (congrArg some (by kernel_rfl))
 f317:=Tryz.func181.trans (congrArg some (by kernel_rfl))
 f318:=Tryz.func183.trans (congrArg some (by kernel_rfl))
 f319:=Tryz.func184.trans (congrArg some (by kernel_rfl))
 f320:=Tryz.func185.trans (congrArg some (by kernel_rfl))
 f337:=Tryz.func190.trans (congrArg some (by kernel_rfl))
 f338:=Tryz.func191.trans (congrArg some (by kernel_rfl))
 t0:=Tryz.underlying0
 a0:=Tryz.isAgg0
 z0:=Tryz.sizeOf0
 v0:=Tryz.zeroValue0
 t2:=Tryz.underlying2
 a2:=Tryz.isAgg2
 z2:=Tryz.sizeOf2
 v2:=Tryz.zeroValue2
 t3:=Tryz.underlying3
 a3:=Tryz.isAgg3
 z3:=Tryz.sizeOf3
 v3:=Tryz.zeroValue3
 t4:=Tryz.underlying4
 a4:=Tryz.isAgg4
 z4:=Tryz.sizeOf4
 v4:=Tryz.zeroValue4
 t5:=Tryz.underlying5
 a5:=Tryz.isAgg5
 z5:=Tryz.sizeOf5
 v5:=Tryz.zeroValue5
 t9:=Tryz.underlying9
 a9:=Tryz.isAgg9
 z9:=Tryz.sizeOf9
 v9:=Tryz.zeroValue9
 t20:=Tryz.underlying20
 a20:=Tryz.isAgg20
 z20:=Tryz.sizeOf20
 v20:=Tryz.zeroValue20
 t37:=Tryz.underlying128
 a37:=Tryz.isAgg128
 z37:=Tryz.sizeOf128
 v37:=Tryz.zeroValue128
 t46:=Tryz.underlying177
 a46:=Tryz.isAgg177
 z46:=Tryz.sizeOf177
 v46:=Tryz.zeroValue177
 t51:=Tryz.underlying207
 a51:=Tryz.isAgg207
 z51:=Tryz.sizeOf207
 v51:=Tryz.zeroValue207
 t53:=Tryz.underlying192
 a53:=Tryz.isAgg192
 z53:=Tryz.sizeOf192
 v53:=Tryz.zeroValue192
 t171:=Tryz.underlying191
 a171:=Tryz.isAgg191
 z171:=Tryz.sizeOf191
 v171:=Tryz.zeroValue191
 t173:=Tryz.underlying195
 a173:=Tryz.isAgg195
 z173:=Tryz.sizeOf195
 v173:=Tryz.zeroValue195
 t212:=Tryz.underlying206
 a212:=Tryz.isAgg206
 z212:=Tryz.sizeOf206
 v212:=Tryz.zeroValue206
 t213:=Tryz.underlying208
 a213:=Tryz.isAgg208
 z213:=Tryz.sizeOf208
 t232:=Tryz.underlying216
 a232:=Tryz.isAgg216
 z232:=Tryz.sizeOf216
 v232:=Tryz.zeroValue216
 t233:=Tryz.underlying217
 a233:=Tryz.isAgg217
 z233:=Tryz.sizeOf217
 v233:=Tryz.zeroValue217
 g17:=by kernel_rfl
 g18:=by kernel_rfl
 g19:=by kernel_rfl
 i0:=by kernel_rfl
 i2:=by kernel_rfl
 i3:=by kernel_rfl
 i4:=by kernel_rfl
 i5:=by kernel_rfl
 i9:=by kernel_rfl
 i20:=by kernel_rfl
 i37:=by kernel_rfl
 i46:=by kernel_rfl
 i51:=by kernel_rfl
 i53:=by kernel_rfl
 i171:=by kernel_rfl
 i173:=by kernel_rfl
 i212:=by kernel_rfl
 i232:=by kernel_rfl
 i233:=by kernel_rfl
 m17:=by kernel_rfl
 m18:=by kernel_rfl
 m19:=by kernel_rfl }
open Go.RowKit Go.Sort Go.Lib in
theorem Tryz.strconv_Itoa(n:Int)(h0:-9223372036854775808≤n)(h1:n≤9223372036854775807)(w:World)(htab:Lib.TabIs Tryz.prog w "internal/strconv.uint64pow10" .u64 Lib.pow10Tab):
  Calls Tryz.prog 74 #[.int .i64 n] w fun e w'=>e = .returned (.string ⟨(Lib.itoa n).toArray⟩)∧∃ k os,w'=grow (w.drewN k) os:=Any.strconv_Itoa Tryz.laysM171 n h0 h1 w htab
def Tryz.laysC172_ren:Go.Shelf.Ren:=⟨fun | 172=>107 | 244=>148 | 245=>149 | 247=>165 | 279=>166 | 280=>167 | 281=>168 | 282=>169 | 287=>178 | 316=>179 | 171=>74 | 205=>180 | 321=>188 | 322=>189 | 243=>125 | 246=>151 | 283=>171 | 284=>172 | 285=>173 | 286=>174 | 129=>182 | 317=>181 | 318=>183 | 319=>184 | 320=>185 | 337=>190 | 338=>191 | n=>n,fun | 9=>9 | 3=>3 | 75=>132 | 76=>133 | 4=>4 | 5=>5 | 167=>184 | 37=>128 | 0=>0 | 85=>185 | 2=>2 | 168=>187 | 53=>192 | 175=>200 | 46=>177 | 210=>203 | 127=>160 | 145=>214 | 143=>212 | 21=>21 | 171=>191 | 173=>195 | 212=>206 | 51=>207 | 20=>20 | 213=>208 | 232=>216 | 233=>217 | 80=>37 | n=>n,fun | 15=>1 | 16=>2 | 17=>3 | 18=>4 | 19=>5 | n=>n⟩
theorem Tryz.laysC172:Go.Proofs.LaysC.n172 Tryz.prog Tryz.laysC172_ren:={
 mixed:=by kernel_rfl
 f129:=Tryz.func182.trans (congrArg some (by kernel_rfl))
 f171:=Tryz.func74.trans (congrArg some (by kernel_rfl))
 f172:=Tryz.func107.trans (congrArg some (by kernel_rfl))
 f205:=Tryz.func180.trans (congrArg some (by kernel_rfl))
 f243:=Tryz.func125.trans (congrArg some (by kernel_rfl))
 f244:=Tryz.func148.trans (congrArg some (by kernel_rfl))
 f245:=Tryz.func149.trans (congrArg some (by kernel_rfl))
 f246:=Tryz.func151.trans (congrArg some (by kernel_rfl))
 f247:=Tryz.func165.trans (congrArg some (by kernel_rfl))
 f279:=Tryz.func166.trans (congrArg some (by kernel_rfl))
 f280:=Tryz.func167.trans (congrArg some (by kernel_rfl))
 f281:=Tryz.func168.trans (congrArg some (by kernel_rfl))
 f282:=Tryz.func169.trans (congrArg some (by kernel_rfl))
 f283:=Tryz.func171.trans (congrArg some (by kernel_rfl))
 f284:=Tryz.func172.trans (congrArg some (by kernel_rfl))
 f285:=Tryz.func173.trans (congrArg some (by kernel_rfl))
 f286:=Tryz.func174.trans (congrArg some (by kernel_rfl))
 f287:=Tryz.func178.trans (congrArg some (by kernel_rfl))
 f316:=Tryz.func179.trans (congrArg some (by kernel_rfl))
 f317:=Tryz.func181.trans (congrArg some (by kernel_rfl))
 f318:=Tryz.func183.trans (congrArg some (by kernel_rfl))
 f319:=Tryz.func184.trans (congrArg some (by kernel_rfl))
 f320:=Tryz.func185.trans (congrArg some (by kernel_rfl))
 f321:=Tryz.func188.trans (congrArg some (by kernel_rfl))
 f322:=Tryz.func189.trans (congrArg some (by kernel_rfl))
 f337:=Tryz.func190.trans (congrArg some (by kernel_rfl))
 f338:=Tryz.func191.trans (congrArg some (by kernel_rfl))
 t0:=Tryz.underlying0
 a0:=Tryz.isAgg0
 z0:=Tryz.sizeOf0
 v0:=Tryz.zeroValue0
 t2:=Tryz.underlying2
 a2:=Tryz.isAgg2
 z2:=Tryz.sizeOf2
 v2:=Tryz.zeroValue2
 t3:=Tryz.underlying3
 a3:=Tryz.isAgg3
 z3:=Tryz.sizeOf3
 v3:=Tryz.zeroValue3
 t4:=Tryz.underlying4
 a4:=Tryz.isAgg4
 z4:=Tryz.sizeOf4
 v4:=Tryz.zeroValue4
 t5:=Tryz.underlying5
 a5:=Tryz.isAgg5
 z5:=Tryz.sizeOf5
 v5:=Tryz.zeroValue5
 t9:=Tryz.underlying9
 a9:=Tryz.isAgg9
 z9:=Tryz.sizeOf9
 v9:=Tryz.zeroValue9
 t20:=Tryz.underlying20
 a20:=Tryz.isAgg20
 z20:=Tryz.sizeOf20
 v20:=Tryz.zeroValue20
 t21:=Tryz.underlying21
 a21:=Tryz.isAgg21
 z21:=Tryz.sizeOf21
 v21:=Tryz.zeroValue21
 t37:=Tryz.underlying128
 a37:=Tryz.isAgg128
 z37:=Tryz.sizeOf128
 v37:=Tryz.zeroValue128
 t46:=Tryz.underlying177
 a46:=Tryz.isAgg177
 z46:=Tryz.sizeOf177
 v46:=Tryz.zeroValue177
 t51:=Tryz.underlying207
 a51:=Tryz.isAgg207
 z51:=Tryz.sizeOf207
 v51:=Tryz.zeroValue207
 t53:=Tryz.underlying192
 a53:=Tryz.isAgg192
 z53:=Tryz.sizeOf192
 v53:=Tryz.zeroValue192
 t75:=Tryz.underlying132
 a75:=Tryz.isAgg132
 z75:=Tryz.sizeOf132
 v75:=Tryz.zeroValue132
 t76:=Tryz.underlying133
 a76:=Tryz.isAgg133
 z76:=Tryz.sizeOf133
 v76:=Tryz.zeroValue133
 t85:=Tryz.underlying185
 a85:=Tryz.isAgg185
 z85:=Tryz.sizeOf185
 v85:=Tryz.zeroValue185
 t127:=Tryz.underlying160
 a127:=Tryz.isAgg160
 z127:=Tryz.sizeOf160
 v127:=Tryz.zeroValue160
 t143:=Tryz.underlying212
 a143:=Tryz.isAgg212
 z143:=Tryz.sizeOf212
 v143:=Tryz.zeroValue212
 t145:=Tryz.underlying214
 a145:=Tryz.isAgg214
 z145:=Tryz.sizeOf214
 v145:=Tryz.zeroValue214
 t167:=Tryz.underlying184
 a167:=Tryz.isAgg184
 z167:=Tryz.sizeOf184
 v167:=Tryz.zeroValue184
 t168:=Tryz.underlying187
 a168:=Tryz.isAgg187
 z168:=Tryz.sizeOf187
 v168:=Tryz.zeroValue187
 t171:=Tryz.underlying191
 a171:=Tryz.isAgg191
 z171:=Tryz.sizeOf191
 v171:=Tryz.zeroValue191
 t173:=Tryz.underlying195
 a173:=Tryz.isAgg195
 z173:=Tryz.sizeOf195
 v173:=Tryz.zeroValue195
 t175:=Tryz.underlying200
 a175:=Tryz.isAgg200
 z175:=Tryz.sizeOf200
 v175:=Tryz.zeroValue200
 t210:=Tryz.underlying203
 a210:=Tryz.isAgg203
 z210:=Tryz.sizeOf203
 v210:=Tryz.zeroValue203
 t212:=Tryz.underlying206
 a212:=Tryz.isAgg206
 z212:=Tryz.sizeOf206
 v212:=Tryz.zeroValue206
 t213:=Tryz.underlying208
 a213:=Tryz.isAgg208
 z213:=Tryz.sizeOf208
 t232:=Tryz.underlying216
 a232:=Tryz.isAgg216
 z232:=Tryz.sizeOf216
 v232:=Tryz.zeroValue216
 t233:=Tryz.underlying217
 a233:=Tryz.isAgg217
 z233:=Tryz.sizeOf217
 v233:=Tryz.zeroValue217
 g15:=by kernel_rfl
 g16:=by kernel_rfl
 g17:=by kernel_rfl
 g18:=by kernel_rfl
 g19:=by kernel_rfl
 t80:=Tryz.underlying37
 a80:=Tryz.isAgg37
 z80:=Tryz.sizeOf37
 v80:=Tryz.zeroValue37
 i0:=by kernel_rfl
 i2:=by kernel_rfl
 i3:=by kernel_rfl
 i4:=by kernel_rfl
 i5:=by kernel_rfl
 i9:=by kernel_rfl
 i20:=by kernel_rfl
 i21:=by kernel_rfl
 i37:=by kernel_rfl
 i46:=by kernel_rfl
 i51:=by kernel_rfl
 i53:=by kernel_rfl
 i75:=by kernel_rfl
 i76:=by kernel_rfl
 i80:=by kernel_rfl
 i85:=by kernel_rfl
 i127:=by kernel_rfl
 i143:=by kernel_rfl
 i145:=by kernel_rfl
 i167:=by kernel_rfl
 i168:=by kernel_rfl
 i171:=by kernel_rfl
 i173:=by kernel_rfl
 i175:=by kernel_rfl
 i210:=by kernel_rfl
 i212:=by kernel_rfl
 i232:=by kernel_rfl
 i233:=by kernel_rfl
 m15:=by kernel_rfl
 m16:=by kernel_rfl
 m17:=by kernel_rfl
 m18:=by kernel_rfl
 m19:=by kernel_rfl
 c0:=by kernel_rfl
 c2:=by kernel_rfl
 c3:=by kernel_rfl
 c4:=by kernel_rfl
 c5:=by kernel_rfl
 c9:=by kernel_rfl
 c20:=by kernel_rfl
 c21:=by kernel_rfl
 c37:=by kernel_rfl
 c46:=by kernel_rfl
 c51:=by kernel_rfl
 c53:=by kernel_rfl
 c75:=by kernel_rfl
 c76:=by kernel_rfl
 c80:=by kernel_rfl
 c85:=by kernel_rfl
 c127:=by kernel_rfl
 c143:=by kernel_rfl
 c145:=by kernel_rfl
 c167:=by kernel_rfl
 c168:=by kernel_rfl
 c171:=by kernel_rfl
 c173:=by kernel_rfl
 c175:=by kernel_rfl
 c210:=by kernel_rfl
 c212:=by kernel_rfl
 c213:=by kernel_rfl
 c232:=by kernel_rfl
 c233:=by kernel_rfl }
open Go.RowKit in
theorem Tryz.strconv_Atoi_ok(s:ByteArray)(hmax:s.size≤9223372036854775806)(v:Int)(h:Lib.atoiAll s.data.toList = .ok v)(w:World):
  Calls Tryz.prog 107 #[.string s] w fun e w'=>e = .returned (.tuple #[.int .i64 v,.nilIface])∧(w'=w∨∃ t,w'=Lib.bytesWorld w 5 t):=Any.strconv_Atoi_ok Tryz.laysC172 s hmax v h w
end Go.Proofs
namespace Go.PL
open Go
theorem hv1{F:Nat→Prop}{g:Nat→Value}{w:World}{vs:Array Value}{p:PV}{u:Value}(hs:vs.size=[p].length)(hv:∀ (j:Nat) x v,[p][j]? = some x→vs[j]? = some v→VR F g w x v)(hu:∀ v,VR F g w p v→v=u):vs=#[u]:=by
 have h1:vs.size=1:=hs
 have e0:=hu _ (hv 0 _ (vs[0]'(by omega)) rfl (by simp[h1]))
 apply Array.ext
 ·rw[h1]; rfl
 ·intro q hq _
  have:q=0:=by omega
  subst this
  simpa using e0
theorem hv2{F:Nat→Prop}{g:Nat→Value}{w:World}{vs:Array Value}{p p':PV}{u u':Value}(hs:vs.size=[p,p'].length)(hv:∀ (j:Nat) x v,[p,p'][j]? = some x→vs[j]? = some v→VR F g w x v)(hu:∀ v,VR F g w p v→v=u)
  (hu':∀ v,VR F g w p' v→v=u'):vs=#[u,u']:=by
 have h1:vs.size=2:=hs
 have e0:=hu _ (hv 0 _ (vs[0]'(by omega)) rfl (by simp[h1]))
 have e1:=hu' _ (hv 1 _ (vs[1]'(by omega)) rfl (by simp[h1]))
 apply Array.ext
 ·rw[h1]; rfl
 ·intro q hq _
  match q,hq with
  | 0,_=>simpa using e0
  | 1,_=>simpa using e1
  | q+2,hq=>omega
def G194(a0 a1:ByteArray):Option Int:=some (Lib.compareBytes a0.data.toList a1.data.toList)
theorem G194_ok(a0 a1:ByteArray):Con Proofs.Tryz.prog 177 [.t (.str a0),.t (.str a1)] (G194 a0 a1) (fun (y:Int)=>.t (.int .i64 y)):=by
 refine⟨callable_of Proofs.Tryz.func177 (by kernel_rfl),fun y hy=>?_⟩
 cases hy
 intro F g w vs hs hv hH hF hgl
 have hvs:=hv2 hs hv (u:=.string a0) (u':=.string a1) (fun v h=>h.inv_str) (fun v h=>h.inv_str)
 subst hvs
 refine(Proofs.Tryz.strings_Compare a0 a1 w).mono ?_
 rintro e w' ⟨rfl,rfl⟩
 exact⟨_,_,[],F,g,rfl,rfl,.t (.int _ _),relw_none hH hF rfl rfl rfl (Nat.le_refl _) (fun _ _ _=>rfl)⟩
def G117(a0:Int):Option ByteArray:=if -9223372036854775808≤a0∧a0≤9223372036854775807 then some ⟨(Lib.itoa a0).toArray⟩ else none
theorem G117_ok(a0:Int):Con Proofs.Tryz.prog 74 [.t (.int .i64 a0)] (G117 a0) (fun (y:ByteArray)=>.t (.str y)):=by
 refine⟨callable_of Proofs.Tryz.func74 (by kernel_rfl),fun y hy=>?_⟩
 unfold G117 at hy
 split at hy
 case isFalse=>cases hy
 rename_i hr
 cases hy
 intro F g w vs hs hv hH hF hgl
 have hvs:=hv1 hs hv (u:=.int .i64 a0) (fun v h=>h.inv_int)
 subst hvs
 have hname:∃ b,Proofs.Tryz.prog.globalNamed glName=some b:=Option.isSome_iff_exists.1 (by kernel_rfl)
 obtain⟨b,hb⟩:=hname
 refine(Proofs.Tryz.strconv_Itoa a0 hr.1 hr.2 w (hgl b hb).1).mono ?_
 rintro e w' ⟨rfl,k,os,rfl⟩
 refine⟨_,_,[],F,g,rfl,rfl,.t (.str _),relw_none hH hF rfl rfl rfl ?_ (fun q hq _=>?_)⟩
 ·show w.heap.size≤(w.heap++os).size
  rw[Array.size_append]; exact Nat.le_add_right _ _
 ·show (w.heap++os)[q]? = w.heap[q]?
  exact Array.getElem?_append_left hq
end Go.PL
namespace Go.PL
open Go
set_option linter.unusedVariables false
def G178(s:ByteArray)(c:Int):Option Int:=some (Lib.indexByte s.data.toList c.toNat.toUInt8)
theorem G178_ok(s:ByteArray)(c:Int):Con Proofs.Tryz.prog 106 [.t (.str s),.t (.int .u8 c)] (G178 s c) (fun (y:Int)=>.t (.int .i64 y)):=by
 refine⟨callable_of Proofs.Tryz.func106 (by kernel_rfl),fun y hy=>?_⟩
 cases hy
 intro F g w vs hs hv hH hF hgl
 have hvs:=hv2 hs hv (u:=.string s) (u':=.int .u8 c) (fun v h=>h.inv_str) (fun v h=>h.inv_int)
 subst hvs
 refine(Proofs.Tryz.strings_IndexByte s c w).mono ?_
 rintro e w' ⟨rfl,rfl⟩
 exact⟨_,_,[],F,g,rfl,rfl,.t (.int _ _),relw_none hH hF rfl rfl rfl (Nat.le_refl _) (fun _ _ _=>rfl)⟩
def G179(s:ByteArray):Option Int:=match Lib.atoiAll s.data.toList with
 | .ok v=>if s.size≤1000000000000 then some v else none
 | _=>none
theorem con179(s:ByteArray):Con Proofs.Tryz.prog 107 [.t (.str s)] (G179 s) (fun (y:Int)=>.tup [.t (.int .i64 y),.lit .nilIface]):=by
 refine⟨callable_of Proofs.Tryz.func107 (by kernel_rfl),fun y hy=>?_⟩
 unfold G179 at hy
 split at hy
 case h_2=>cases hy
 rename_i v hr
 split at hy
 case isFalse=>cases hy
 rename_i hs0
 cases hy
 intro F g w vs hs hv hH hF hgl
 have hvs:=hv1 hs hv (u:=.string s) (fun v h=>h.inv_str)
 subst hvs
 refine(Proofs.Tryz.strconv_Atoi_ok s (by omega) y hr w).mono ?_
 rintro e w' ⟨rfl,hW⟩
 have hb:RowKit.Below w.heap.size w w':=by
  rcases hW with rfl | ⟨t,rfl⟩
  ·exact RowKit.Below.refl _ _
  ·exact Lib.bytesWorld_below _ _ _
 refine⟨_,_,[],F,g,rfl,rfl,?_,relw_none hH hF hb.os hb.tape hb.output hb.size (fun q hq _=>hb.block q hq)⟩
 refine .tup (by rfl) fun j x v hx hv=>?_
 match j,hx,hv with
 | 0,hx,hv=>simp at hx hv; subst hx hv; exact .t (.int _ _)
 | 1,hx,hv=>simp at hx hv; subst hx hv; exact .lit rfl
 | j+2,hx,hv=>simp at hx
end Go.PL
namespace Go.PL
open Go Go.Proofs IntKind
set_option linter.unusedVariables false
set_option maxRecDepth 20000
def bOp(x:GNode)(k:Nat)(c:Int):PObj:=.box [.t (.int .i64 (x.Op)),.t (eL cInt (x.In)),.t (.str (x.Source)),.t (.int .i64 (x.Schema)),.t (.lz (.exprs (x.Exprs))),.t (.int .i64 (x.Kind)),.t (.int .i64 (x.Size)),.t (.int .i64 (x.Step)),.t (eL cInt (x.Key)),.t (eL cInt (x.Key2)),.t (.int .i64 (x.Before)),.t (.int .i64 (x.After)),.t (.int .i64 (x.Keep)),.t (eL cGAgg (x.Aggs)),.t (eL cGPat (x.Seq)),.t (eL cGCol (x.Cols)),.map k,.t (.int .i64 (c))]
abbrev mS (c:GSide):Mem:=Mem.box (cGSide c)
abbrev LS:=List (ByteArray×GSide)
abbrev LD:=List GDelta
abbrev tI (x:Int):PV:=.t (.int .i64 x)
abbrev tB (x:Bool):PV:=.t (.bool x)
abbrev tD (x:List GDelta):PV:=.t (eL cGDelta x)
abbrev tV (x:List GValue):PV:=.t (eL cGValue x)
abbrev aD (x:List GDelta):PObj:=.arr 52 3 (x.length) (eF cGDelta x)
abbrev bN (x:GNode):PObj:=.box ((cGNode x).map .t)
abbrev mM (x:LS):PObj:=.mp none (eM mS x) none
abbrev LM:=List (ByteArray×LD)
abbrev mD (c:LD):Mem:=Mem.d (eL cGDelta c)
abbrev vD (c:LD):T:=eL cGDelta c
abbrev mR (c:LD):Mem:=Mem.row 52 3 c.length (eF cGDelta c)
abbrev pR (x:LM):PObj:=.mp none (eM mR x) none
noncomputable section
def T159(a0:GValue)(a1:GValue):TP Int:=.ite 8 (decide (a0.Kind<a1.Kind)) (.ret 1 (-1)) (.ite 5 (decide (a0.Kind>a1.Kind)) (.ret 1 1) (.ite 5 (decide (a0.N<a1.N)) (.ret 1 (-1)) (.ite 5 (decide (a0.N>a1.N)) (.ret 1 1) (.ite 5 (Op.bytesLess (a0.S:ByteArray).toList (a1.S:ByteArray).toList) (.ret 1 (-1)) (.ite 5 (!(Op.bytesLess (a0.S:ByteArray).toList (a1.S:ByteArray).toList || (a0.S:ByteArray).toList==(a1.S:ByteArray).toList)) (.ret 1 1) (.ret 1 0))))))
def G159(a0:GValue)(a1:GValue):Option Int:=(T159 a0 a1).den
theorem G159_ok(a0:GValue)(a1:GValue):Con Tryz.prog 128 [.t (eGValue a0),.t (eGValue a1)] (G159 a0 a1) tI:=con Tryz.func128 ti_ok (T159 a0 a1)
def T116_L0(a0:List GValue)(a1:List GValue):Int→TP ((Int)⊕((Unit)⊕Int))
 | v1=>.jn 5 0 (fun (j2:Bool)=>⟨[(0,tV a0),(1,tV a1),(5,tI v1),(16,tB j2)],[]⟩) (.ite 0 (decide (v1<(a0.length:Int))) (.ret 5 (decide (v1<(a1.length:Int)))) (.ret 5 false)) fun j2=>.ite 0 j2 (.dg 2 (0≤v1∧v1<(a0.length:Int)) <| .dg 6 (0≤v1∧v1<(a1.length:Int)) <| .dc 8 [.t (eGValue (a0.getD v1.toNat default)),.t (eGValue (a1.getD v1.toNat default))] (G159_ok (a0.getD v1.toNat default) (a1.getD v1.toNat default)) fun r3=>.dr 0 0 [] [0,1,5,16] <| .ite 2 (r3 != 0) (.ret 2 (.inr (.inr r3))) (.ret 3 (.inl (i64.wrap (v1+1))))) (.ret 0 (.inr (.inl ())))
def T116(a0:List GValue)(a1:List GValue):TP Int:=.lp 2 (fun (v1:Int)=>⟨[(0,tV a0),(1,tV a1),(5,tI v1)],[]⟩) (fun (_:Unit)=>⟨[(0,tV a0),(1,tV a1)],[]⟩) 0 0 (T116_L0 a0 a1) fun _=>.ite 5 (decide ((a0.length:Int)<(a1.length:Int))) (.ret 1 (-1)) (.ite 5 (decide ((a0.length:Int)>(a1.length:Int))) (.ret 1 1) (.ret 1 0))
def G116(a0:List GValue)(a1:List GValue):Option Int:=(T116 a0 a1).den
theorem G116_ok(a0:List GValue)(a1:List GValue):Con Tryz.prog 79 [tV a0,tV a1] (G116 a0 a1) tI:=con Tryz.func79 ti_ok (T116 a0 a1)
def T49(a0:GDelta)(a1:GDelta):TP Int:=.ite 8 (decide (a0.Time<a1.Time)) (.ret 1 (-1)) (.ite 5 (decide (a0.Time>a1.Time)) (.ret 1 1) (.ca 4 (G116_ok a0.Row a1.Row) fun r1=>.ret 1 r1))
def G49(a0:GDelta)(a1:GDelta):Option Int:=(T49 a0 a1).den
theorem G49_ok(a0:GDelta)(a1:GDelta):Con Tryz.prog 35 [.t (eGDelta a0),.t (eGDelta a1)] (G49 a0 a1) tI:=con Tryz.func35 ti_ok (T49 a0 a1)
def T20_L0(a0:LD)(a1:LD):Int→TP ((Int)⊕((Unit)⊕Bool))
 | v1=>.ite 4 (decide (v1<(a0.length:Int))) (.jn 0 0 (fun (j2:Bool)=>⟨[(0,tD a0),(1,tD a1),(5,tI v1),(39,tB j2)],[]⟩) (.dg 2 (0≤v1∧v1<(a0.length:Int)) <| .dg 6 (0≤v1∧v1<(a1.length:Int)) <| .dc 8 [.t (eGDelta (a0.getD v1.toNat default)),.t (eGDelta (a1.getD v1.toNat default))] (G49_ok (a0.getD v1.toNat default) (a1.getD v1.toNat default)) fun r3=>.dl 10 (r3 != 0) (.dr 0 0 [] [0,1,5,11,12,13,14] <| .ret 0 true) (.dg 13 (0≤v1∧v1<(a0.length:Int)) <| .dg 18 (0≤v1∧v1<(a1.length:Int)) <| .dr 0 0 [] [0,1,5,11,12,13,14] <| .ret 0 (((a0.getD v1.toNat default).N) != ((a1.getD v1.toNat default).N)))) fun j2=>.ite 0 j2 (.ret 1 (.inr (.inr false))) (.ret 3 (.inl (i64.wrap (v1+1))))) (.ret 0 (.inr (.inl ())))
def T20(a0:LD)(a1:LD):TP Bool:=.ite 6 ((a0.length:Int) != (a1.length:Int)) (.ret 1 false) (.lp 1 (fun (v1:Int)=>⟨[(0,tD a0),(1,tD a1),(5,tI v1)],[]⟩) (fun (_:Unit)=>⟨[],[]⟩) 0 0 (T20_L0 a0 a1) fun _=>.ret 1 true)
def G20(a0:LD)(a1:LD):Option Bool:=(T20 a0 a1).den
theorem G20_ok(a0:LD)(a1:LD):Con Tryz.prog 10 [tD a0,tD a1] (G20 a0 a1) tB:=con Tryz.func10 ti_ok (T20 a0 a1)
def T184(a0:GValue):TP Bool:=.ite 5 (a0.Kind==0) (.ret 4 ((a0.S:ByteArray).toList==(⟨#[]⟩:ByteArray).toList)) (.ite 3 (a0.Kind==1) (.jn 4 0 (fun (j1:Bool)=>⟨[(2,tB j1)],[]⟩) (.ite 0 (a0.N==0) (.ret 6 (decide (((a0.S:ByteArray).size:Int)≤200))) (.ret 6 false)) fun j1=>.ret 0 j1) (.jn 4 0 (fun (j2:Bool)=>⟨[(2,tB j2)],[]⟩) (.ite 0 (a0.Kind==2) (.ite 4 (a0.N==0) (.ret 11 ((a0.S:ByteArray).toList==(⟨#[]⟩:ByteArray).toList)) (.ite 6 (a0.N==1) (.ret 5 ((a0.S:ByteArray).toList==(⟨#[]⟩:ByteArray).toList)) (.ret 5 false))) (.ret 15 false)) fun j2=>.ret 0 j2))
def G184(a0:GValue):Option Bool:=(T184 a0).den
theorem G184_ok(a0:GValue):Con Tryz.prog 137 [.t (eGValue a0)] (G184 a0) tB:=con Tryz.func137 ti_ok (T184 a0)
def T149_L0(a0:List GValue):Int→TP ((Int)⊕((Unit)⊕Bool))
 | v1=>.ite 4 (decide (v1<(a0.length:Int))) (.grd 3 (0≤v1∧v1<(a0.length:Int)) <| .ca 1 (G184_ok (a0.getD v1.toNat default)) fun r2=>.ite 1 (!r2) (.ret 1 (.inr (.inr false))) (.ret 3 (.inl (i64.wrap (v1+1))))) (.ret 0 (.inr (.inl ())))
def T149(a0:List GValue):TP Bool:=.lp 2 (fun (v1:Int)=>⟨[(0,tV a0),(3,tI v1)],[]⟩) (fun (_:Unit)=>⟨[],[]⟩) 0 0 (T149_L0 a0) fun _=>.ret 1 true
def G149(a0:List GValue):Option Bool:=(T149 a0).den
theorem G149_ok(a0:List GValue):Con Tryz.prog 90 [tV a0] (G149 a0) tB:=con Tryz.func90 ti_ok (T149 a0)
def T78(a0:List GValue):TP Bool:=.jn 5 0 (fun (j1:Bool)=>⟨[(2,tB j1)],[]⟩) (.ite 0 (decide ((a0.length:Int)≤12)) (.ca 1 (G149_ok a0) fun r2=>.ret 2 r2) (.ret 4 false)) fun j1=>.ret 0 j1
def G78(a0:List GValue):Option Bool:=(T78 a0).den
theorem G78_ok(a0:List GValue):Con Tryz.prog 45 [tV a0] (G78 a0) tB:=con Tryz.func45 ti_ok (T78 a0)
def T30_L1(a0:LD)(a1:List Int)(v1:Int):Int→TP ((Int)⊕((Unit)⊕((Int)⊕((Unit)⊕Bool))))
 | v5=>.ite 4 (decide (v5<(a1.length:Int))) (.dg 2 (0≤v1∧v1<(a0.length:Int)) <| .dg 6 (0≤v5∧v5<(((a0.getD v1.toNat default).Row).length:Int)) <| .dg 11 (0≤v5∧v5<(a1.length:Int)) <| .dr 0 0 [] [0,1,2,7,8,70,71,72,73] <| .ite 0 (((((a0.getD v1.toNat default).Row).getD v5.toNat default).Kind) != (a1.getD v5.toNat default)) (.ret 1 (.inr (.inr (.inr (.inr false))))) (.ret 3 (.inl (i64.wrap (v5+1))))) (.ret 0 (.inr (.inl ())))
def T30_L0(a0:LD)(a1:List Int)(a2:Int):Int→TP ((Int)⊕((Unit)⊕Bool))
 | v1=>.jn 5 0 (fun (j2:Bool)=>⟨[(0,tD a0),(1,.t (eL cInt a1)),(2,tI a2),(7,tI v1),(17,tB j2)],[]⟩) (.ite 0 (decide (v1<(a0.length:Int))) (.ret 4 (decide (v1≤a2))) (.ret 4 false)) fun j2=>.ite 0 j2 (.grd 3 (0≤v1∧v1<(a0.length:Int)) <| .jn 4 0 (fun (j3:Bool)=>⟨[(0,tD a0),(1,.t (eL cInt a1)),(2,tI a2),(7,tI v1),(69,tB j3)],[]⟩) (.ite 0 (decide (((a0.getD v1.toNat default).Time)<0)) (.ret 43 true) (.grd 3 (0≤v1∧v1<(a0.length:Int)) <| .ite 5 (decide (((a0.getD v1.toNat default).Time)>2199023255552)) (.ret 35 true) (.grd 3 (0≤v1∧v1<(a0.length:Int)) <| .ite 5 (decide (((a0.getD v1.toNat default).N)<1)) (.ret 27 true) (.grd 3 (0≤v1∧v1<(a0.length:Int)) <| .ite 5 (decide (((a0.getD v1.toNat default).N)>5)) (.ret 19 true) (.grd 3 (0≤v1∧v1<(a0.length:Int)) <| .ite 8 ((((a0.getD v1.toNat default).Row).length:Int) != (a1.length:Int)) (.ret 8 true) (.grd 3 (0≤v1∧v1<(a0.length:Int)) <| .ca 2 (G78_ok ((a0.getD v1.toNat default).Row)) fun r4=>.ret 2 (!r4))))))) fun j3=>.ite 0 j3 (.ret 1 (.inr (.inr false))) (.lp 1 (fun (v5:Int)=>⟨[(0,tD a0),(1,.t (eL cInt a1)),(2,tI a2),(7,tI v1),(8,tI v5)],[]⟩) (fun (_:Unit)=>⟨[(0,tD a0),(1,.t (eL cInt a1)),(2,tI a2),(7,tI v1)],[]⟩) 2 0 (T30_L1 a0 a1 v1) fun _=>.ret 3 (.inl (i64.wrap (v1+1))))) (.ret 0 (.inr (.inl ())))
def T30(a0:LD)(a1:List Int)(a2:Int):TP Bool:=.lp 2 (fun (v1:Int)=>⟨[(0,tD a0),(1,.t (eL cInt a1)),(2,tI a2),(7,tI v1)],[]⟩) (fun (_:Unit)=>⟨[(0,tD a0),(2,tI a2)],[]⟩) 0 0 (T30_L0 a0 a1 a2) fun _=>.ret 5 (decide ((a0.length:Int)≤a2))
def G30(a0:LD)(a1:List Int)(a2:Int):Option Bool:=(T30 a0 a1 a2).den
theorem G30_ok(a0:LD)(a1:List Int)(a2:Int):Con Tryz.prog 13 [tD a0,.t (eL cInt a1),tI a2] (G30 a0 a1 a2) tB:=con Tryz.func13 ti_ok (T30 a0 a1 a2)
def T31(a0:Int)(a1:Int):TP GDelta:=.bs 3 false cGValue ([(GValue.mk 0 7 (⟨#[]⟩))]:List GValue) <| .ret 3 (GDelta.mk a0 ([(GValue.mk 0 7 (⟨#[]⟩))]:List GValue) a1)
def G31(a0:Int)(a1:Int):Option GDelta:=(T31 a0 a1).den
theorem G31_ok(a0:Int)(a1:Int):Con Tryz.prog 15 [tI a0,tI a1] (G31 a0 a1) (fun (y:GDelta)=>.t (eGDelta y)):=con Tryz.func15 ti_ok (T31 a0 a1)
def T13_L0(a0:LD):(Int×Int)→TP ((Int×Int)⊕((Int)⊕Int))
 | (v1,v2)=>.ite 1 (decide (v2<(a0.length:Int))) (.grd 1 (0≤v2∧v2<(a0.length:Int)) <| .ret 10 (.inl (i64.wrap (v1+((a0.getD v2.toNat default).N)),i64.wrap (v2+1)))) (.ret 0 (.inr (.inl v1)))
def T13(a0:LD):TP Int:=.lp 5 (fun ((v1,v2):Int×Int)=>⟨[(3,tI v1),(6,tD a0),(7,tI (a0.length:Int)),(8,tI v2)],[]⟩) (fun (b3:Int)=>⟨[(3,tI b3)],[]⟩) 0 (0,0) (T13_L0 a0) fun b3=>.ret 2 b3
def G13(a0:LD):Option Int:=(T13 a0).den
theorem G13_ok(a0:LD):Con Tryz.prog 36 [tD a0] (G13 a0) tI:=con Tryz.func36 ti_ok (T13 a0)
def T15s0_L0:((List ByteArray)×LS×Int)→TP (((List ByteArray)×LS×Int)⊕(((List ByteArray)×LS×Int)⊕(Int×LS)))
 | (v1,v2,v3)=>.nxb 0 cGSide (v2:LS) (v1:List ByteArray) (.ret 2 (.inr (.inl (v1,v2,v3)))) fun k7 c8=>.gd 3 ((.str k7:T) = .str k7) rfl <| .dg 4 (0≤(0:Int)∧(0:Int)<(2:Int)) <| .dc 6 [tD c8.rows_.e0] (G13_ok c8.rows_.e0) fun r9=>.dg 10 (0≤(1:Int)∧(1:Int)<(2:Int)) <| .dc 12 [tD c8.rows_.e1] (G13_ok c8.rows_.e1) fun r10=>.dr 2 0 [(11,false,[]),(30000,false,[]),(30001,false,[])] [3,5,10,11,12,13,14] <| .cv 0 [.fb 30001 11 cGSide (v2:LS) k7 c8,.nc 30001] <| .ret 0 (.inl (kerase v1 k7,mput v2 k7 (c8:GSide),i64.wrap (v3+(i64.wrap (r9+r10)))))
def T15s0(qu0:GNode)(qu1:Int)(qum:LS):TP (Int×LS):=.rng 6 mS (qum:LS) <| .lp 0 (fun ((v1,v2,v3):(List ByteArray)×LS×Int)=>⟨[(3,tI v3),(10,.ptr 10 0)],[(30000,bOp qu0 30001 qu1),(30001,.mp (some ⟨10,kTs (v1:List ByteArray),none⟩) (eM mS (v2:LS)) none)]⟩) (fun ((b4,b5,b6):(List ByteArray)×LS×Int)=>⟨[(3,tI b6)],[(30000,bOp qu0 30001 qu1),(30001,.mp (some ⟨10,kTs (b4:List ByteArray),none⟩) (eM mS (b5:LS)) none)]⟩) 0 (mkeys qum,qum,0) T15s0_L0 fun (b4,b5,b6)=>.cv 2 [.ni 30001] <| .ret 0 (b6,b5)
def G15s0(qu0:GNode)(qu1:Int)(qum:LS):Option (Int×LS):=Det (T15s0 qu0 qu1 qum)
theorem G15s0_ok(qu0:GNode)(qu1:Int)(qum:LS):ConH Tryz.prog 11 [.ptr 30000 0] [(30000,bOp qu0 30001 qu1),(30001,mM (qum:LS))] [30000,30001] (G15s0 qu0 qu1 qum) (fun (y:Int×LS)=>tI y.1) (fun (y:Int×LS)=>[(30000,bOp qu0 30001 qu1),(30001,mM (y.2:LS))]):=conHD Tryz.func11 ti_ok (T15s0 qu0 qu1 qum)
def T130_L0(a0:List Int):Int→TP ((Int)⊕((Unit)⊕Int))
 | v1=>.ite 1 (decide (v1<(a0.length:Int))) (.grd 1 (0≤v1∧v1<(a0.length:Int)) <| .ite 5 ((a0.getD v1.toNat default) != 0) (.ret 2 (.inr (.inr (a0.getD v1.toNat default)))) (.ret 2 (.inl (i64.wrap (v1+1))))) (.ret 0 (.inr (.inl ())))
def T130(a0:List Int):TP Int:=.lp 5 (fun (v1:Int)=>⟨[(3,tI 0),(6,.t (eL cInt a0)),(7,tI (a0.length:Int)),(8,tI v1)],[]⟩) (fun (_:Unit)=>⟨[(3,tI 0)],[]⟩) 0 0 (T130_L0 a0) fun _=>.ret 2 0
def G130(a0:List Int):Option Int:=(T130 a0).den
theorem G130_ok(a0:List Int):Con Tryz.prog 143 [.t (eL cInt a0)] (G130 a0) tI:=con Tryz.func143 ti_ok (T130 a0)
def T173(a0:Int):TP Bool:=.ret 5 (a0 != a0)
def G173(a0:Int):Option Bool:=(T173 a0).den
theorem G173_ok(a0:Int):Con Tryz.prog 158 [tI a0] (G173 a0) tB:=con Tryz.func158 ti_ok (T173 a0)
def T131(a0:Int)(a1:Int):TP Int:=.ca 2 (G173_ok a0) fun r1=>.ca 2 (G173_ok a1) fun r2=>.ite 2 r1 (.ite 1 r2 (.ret 1 0) (.ret 1 (-1))) (.ite 1 r2 (.ret 1 1) (.ite 3 (decide (a0<a1)) (.ret 1 (-1)) (.ite 3 (decide (a0>a1)) (.ret 1 1) (.ret 1 0))))
def G131(a0:Int)(a1:Int):Option Int:=(T131 a0 a1).den
theorem G131_ok(a0:Int)(a1:Int):Con Tryz.prog 144 [tI a0,tI a1] (G131 a0 a1) tI:=con Tryz.func144 ti_ok (T131 a0 a1)
def T175(a0:GValue)(a1:GValue):TP Int:=.dc 4 [tI a0.Kind,tI a1.Kind] (G131_ok a0.Kind a1.Kind) fun r1=>.dc 9 [tI a0.N,tI a1.N] (G131_ok a0.N a1.N) fun r2=>.dc 14 [.t (.str (a0.S)),.t (.str (a1.S))] (G194_ok a0.S a1.S) fun r3=>.dc 16 [.t (.sl 3 (arrOf [.int .i64 r1,.int .i64 r2,.int .i64 r3] 1))] (G130_ok ([r1,r2,r3]:List Int)) fun r4=>.dr 3 0 [(2,false,[]),(3,false,[])] [0,1,2,3] <| .ret 0 r4
def G175(a0:GValue)(a1:GValue):Option Int:=(T175 a0 a1).den
theorem G175_ok(a0:GValue)(a1:GValue):Con Tryz.prog 160 [.t (eGValue a0),.t (eGValue a1)] (G175 a0 a1) tI:=con Tryz.func160 ti_ok (T175 a0 a1)
def T174s0_L0(a0:List GValue)(a1:List GValue):Int→TP ((Int)⊕((Unit)⊕Int))
 | v1=>.ite 1 (decide (v1<(a0.length:Int))) (.grd 2 (0≤v1∧v1<(a0.length:Int)) <| .ite 8 (decide (v1≥(a1.length:Int))) (.ret 1 (.inr (.inr 1))) (.grd 3 (0≤v1∧v1<(a1.length:Int)) <| .ca 6 (G175_ok (a0.getD v1.toNat default) (a1.getD v1.toNat default)) fun r2=>.ite 3 (r2 != 0) (.ret 2 (.inr (.inr r2))) (.ret 2 (.inl (i64.wrap (v1+1)))))) (.ret 0 (.inr (.inl ())))
def T174s0(a0:List GValue)(a1:List GValue):TP Int:=.lp 4 (fun (v1:Int)=>⟨[(0,tV a0),(1,tV a1),(2,.fn (.func 160) 0 []),(11,tV a0),(12,tI (a0.length:Int)),(13,tI v1)],[]⟩) (fun (_:Unit)=>⟨[(0,tV a0),(1,tV a1)],[]⟩) 0 0 (T174s0_L0 a0 a1) fun _=>.ite 5 (decide ((a0.length:Int)<(a1.length:Int))) (.ret 1 (-1)) (.ret 1 0)
def G174s0(a0:List GValue)(a1:List GValue):Option Int:=(T174s0 a0 a1).den
theorem G174s0_ok(a0:List GValue)(a1:List GValue):ConH Tryz.prog 159 [tV a0,tV a1,.fn (.func 160) 0 []] [] [] (G174s0 a0 a1) tI (fun (y:Int)=>[]):=conH Tryz.func159 ti_ok (T174s0 a0 a1)
def T132(a0:List GValue)(a1:List GValue):TP Int:=.ch 3 [] (G174s0_ok a0 a1) fun r1=>.ret 1 r1
def G132(a0:List GValue)(a1:List GValue):Option Int:=(T132 a0 a1).den
theorem G132_ok(a0:List GValue)(a1:List GValue):Con Tryz.prog 145 [tV a0,tV a1] (G132 a0 a1) tI:=con Tryz.func145 ti_ok (T132 a0 a1)
def T61(a0:GDelta)(a1:GDelta):TP Int:=.dc 4 [tI a0.Time,tI a1.Time] (G131_ok a0.Time a1.Time) fun r1=>.dc 9 [tV a0.Row,tV a1.Row] (G132_ok a0.Row a1.Row) fun r2=>.dc 11 [.t (.sl 2 (arrOf [.int .i64 r1,.int .i64 r2] 1))] (G130_ok ([r1,r2]:List Int)) fun r3=>.dr 3 0 [(2,false,[]),(3,false,[])] [0,1,2,3] <| .ret 0 r3
def G61(a0:GDelta)(a1:GDelta):Option Int:=(T61 a0 a1).den
theorem G61_ok(a0:GDelta)(a1:GDelta):Con Tryz.prog 98 [.t (eGDelta a0),.t (eGDelta a1)] (G61 a0 a1) tI:=con Tryz.func98 ti_ok (T61 a0 a1)
def T42s0(a0:LD):TP LD:=.jn 2 0 (fun (j1:Bool)=>⟨[(0,tD a0),(4,tB j1)],[]⟩) (.ndb 0 a0.length (.ret 0 true) (.ret 0 false)) fun j1=>.ite 0 j1 (.cv 1 [.th 2 40000 52 3 (eF cGDelta ([]:LD))] <| .ret 0 ([]:LD)) (.bs 0 true cGDelta ([]:LD) <| .grd 2 ((([]:LD).length+a0.length)*40≤140737488355328) <| .cv 0 [.ap 7 cGDelta ([]:LD) a0] <| .cv 1 [.rn 7 40000] <| .ret 0 (([]:LD)++a0))
def G42s0(a0:LD):Option LD:=Det (T42s0 a0)
theorem G42s0_ok(a0:LD):ConH Tryz.prog 96 [tD a0] [] [] (G42s0 a0) (fun (y:LD)=>.own 40000) (fun (y:LD)=>[(40000,aD y)]):=conHD Tryz.func96 ti_ok (T42s0 a0)
def T176s1_L1(a1:Int)(a2:Int)(v2:Int):(LD×Int)→TP ((LD×Int)⊕((LD)⊕((LD×Int)⊕((LD)⊕LD))))
 | (v4,v5)=>.jn 0 0 (fun (j7:Bool)=>⟨[(0,.own 30000),(1,tI a1),(2,tI a2),(3,.fn (.func 98) 0 []),(8,tI v2),(9,tI v5),(34,tB j7)],[(30000,aD v4)]⟩) (.dl 3 (decide (v5>a1)) (.dg 7 (0≤v5∧v5<(v4.length:Int)) <| .dg 8 ((v5).toNat<v4.length) <| .dg 12 (0≤(i64.wrap (v5-1))∧(i64.wrap (v5-1))<(v4.length:Int)) <| .dg 13 ((i64.wrap (v5-1)).toNat<v4.length) <| .dc 14 [.t (eGDelta (v4.getD v5.toNat default)),.t (eGDelta (v4.getD (i64.wrap (v5-1)).toNat default))] (G61_ok (v4.getD v5.toNat default) (v4.getD (i64.wrap (v5-1)).toNat default)) fun r8=>.dr 0 0 [(30000,false,[])] [0,1,2,3,8,9] <| .ret 0 (decide (r8<0))) (.dr 0 0 [(30000,false,[])] [0,1,2,3,8,9] <| .ret 0 false)) fun j7=>.ite 0 j7 (.dg 8 (0≤(i64.wrap (v5-1))∧(i64.wrap (v5-1))<(v4.length:Int)) <| .dg 9 ((i64.wrap (v5-1)).toNat<v4.length) <| .dg 12 (0≤v5∧v5<(v4.length:Int)) <| .dg 13 ((v5).toNat<v4.length) <| .dg 14 (0≤v5∧v5<(v4.length:Int)) <| .dg 15 ((v5).toNat<v4.length) <| .dg 16 (0≤(i64.wrap (v5-1))∧(i64.wrap (v5-1))<(v4.length:Int)) <| .dg 17 ((i64.wrap (v5-1)).toNat<v4.length) <| .dr 0 0 [(30000,false,[15,17])] [0,1,2,3,8,9,34] <| .sto 0 30000 cGDelta v4 [((v5).toNat,v4.getD (i64.wrap (v5-1)).toNat default),((i64.wrap (v5-1)).toNat,v4.getD v5.toNat default)] <| .ret 3 (.inl ((v4.set v5.toNat (v4.getD (i64.wrap (v5-1)).toNat default)).set (i64.wrap (v5-1)).toNat (v4.getD v5.toNat default),i64.wrap (v5-1)))) (.ret 0 (.inr (.inl v4)))
def T176s1_L0(a1:Int)(a2:Int):(LD×Int)→TP ((LD×Int)⊕((LD)⊕LD))
 | (v1,v2)=>.ite 3 (decide (v2<a2)) (.lp 2 (fun ((v4,v5):LD×Int)=>⟨[(0,.own 30000),(1,tI a1),(2,tI a2),(3,.fn (.func 98) 0 []),(8,tI v2),(9,tI v5)],[(30000,aD v4)]⟩) (fun (b6:LD)=>⟨[(0,.own 30000),(1,tI a1),(2,tI a2),(3,.fn (.func 98) 0 []),(8,tI v2)],[(30000,aD b6)]⟩) 2 (v1,v2) (T176s1_L1 a1 a2 v2) fun b6=>.ret 3 (.inl (b6,i64.wrap (v2+1)))) (.ret 0 (.inr (.inl v1)))
def T176s1(a1:Int)(a2:Int)(qul:LD):TP LD:=.lp 3 (fun ((v1,v2):LD×Int)=>⟨[(0,.own 30000),(1,tI a1),(2,tI a2),(3,.fn (.func 98) 0 []),(8,tI v2)],[(30000,aD v1)]⟩) (fun (b3:LD)=>⟨[],[(30000,aD b3)]⟩) 0 (qul,i64.wrap (a1+1)) (T176s1_L0 a1 a2) fun b3=>.ret 0 b3
def G176s1(a1:Int)(a2:Int)(qul:LD):Option LD:=(T176s1 a1 a2 qul).den
theorem G176s1_ok(a1:Int)(a2:Int)(qul:LD):ConH Tryz.prog 156 [.own 30000,tI a1,tI a2,.fn (.func 98) 0 []] [(30000,aD qul)] [30000] (G176s1 a1 a2 qul) (fun (y:LD)=>.tup []) (fun (y:LD)=>[(30000,aD y)]):=conH Tryz.func156 ti_ok (T176s1 a1 a2 qul)
def T211s0_L0(a1:Int)(a2:Int)(a3:Int):(LD×Int)→TP ((LD×Int)⊕((LD)⊕LD))
 | (v1,v2)=>.ite 3 (decide (v2<a3)) (.dg 12 (0≤(i64.wrap (a2+v2))∧(i64.wrap (a2+v2))<(v1.length:Int)) <| .dg 13 ((i64.wrap (a2+v2)).toNat<v1.length) <| .dg 18 (0≤(i64.wrap (a1+v2))∧(i64.wrap (a1+v2))<(v1.length:Int)) <| .dg 19 ((i64.wrap (a1+v2)).toNat<v1.length) <| .dg 20 (0≤(i64.wrap (a1+v2))∧(i64.wrap (a1+v2))<(v1.length:Int)) <| .dg 21 ((i64.wrap (a1+v2)).toNat<v1.length) <| .dg 22 (0≤(i64.wrap (a2+v2))∧(i64.wrap (a2+v2))<(v1.length:Int)) <| .dg 23 ((i64.wrap (a2+v2)).toNat<v1.length) <| .dr 0 0 [(30000,false,[21,23])] [0,1,2,3,10,11,12,13] <| .sto 0 30000 cGDelta v1 [((i64.wrap (a1+v2)).toNat,v1.getD (i64.wrap (a2+v2)).toNat default),((i64.wrap (a2+v2)).toNat,v1.getD (i64.wrap (a1+v2)).toNat default)] <| .ret 3 (.inl ((v1.set (i64.wrap (a1+v2)).toNat (v1.getD (i64.wrap (a2+v2)).toNat default)).set (i64.wrap (a2+v2)).toNat (v1.getD (i64.wrap (a1+v2)).toNat default),i64.wrap (v2+1)))) (.ret 0 (.inr (.inl v1)))
def T211s0(a1:Int)(a2:Int)(a3:Int)(qul:LD):TP LD:=.lp 1 (fun ((v1,v2):LD×Int)=>⟨[(0,.own 30000),(1,tI a1),(2,tI a2),(3,tI a3),(10,tI v2)],[(30000,aD v1)]⟩) (fun (b3:LD)=>⟨[],[(30000,aD b3)]⟩) 0 (qul,0) (T211s0_L0 a1 a2 a3) fun b3=>.ret 0 b3
def G211s0(a1:Int)(a2:Int)(a3:Int)(qul:LD):Option LD:=(T211s0 a1 a2 a3 qul).den
theorem G211s0_ok(a1:Int)(a2:Int)(a3:Int)(qul:LD):ConH Tryz.prog 186 [.own 30000,tI a1,tI a2,tI a3,.fn (.func 98) 0 []] [(30000,aD qul)] [30000] (G211s0 a1 a2 a3 qul) (fun (y:LD)=>.tup []) (fun (y:LD)=>[(30000,aD y)]):=conH Tryz.func186 ti_ok (T211s0 a1 a2 a3 qul)
def T195s0_L0(a2:Int):(LD×Int×Int)→TP ((LD×Int×Int)⊕((LD×Int)⊕LD))
 | (v1,v2,v3)=>.ite 3 (v2 != v3) (.jn 3 0 (fun ((j6,j7,j8):LD×Int×Int)=>⟨[(0,.own 30000),(2,tI a2),(4,.fn (.func 98) 0 []),(10,tI j7),(11,tI j8)],[(30000,aD j6)]⟩) (.ite 0 (decide (v2>v3)) (.ch 7 [] (G211s0_ok (i64.wrap (a2-v2)) a2 v3 v1) fun r9=>.ret 4 (r9,i64.wrap (v2-v3),v3)) (.ch 11 [] (G211s0_ok (i64.wrap (a2-v2)) (i64.wrap ((i64.wrap (a2+v3))-v2)) v2 v1) fun r10=>.ret 4 (r10,v2,i64.wrap (v3-v2)))) fun (j6,j7,j8)=>.ret 0 (.inl (j6,j7,j8))) (.ret 0 (.inr (.inl (v1,v2))))
def T195s0(a1:Int)(a2:Int)(a3:Int)(qul:LD):TP LD:=.lp 8 (fun ((v1,v2,v3):LD×Int×Int)=>⟨[(0,.own 30000),(2,tI a2),(4,.fn (.func 98) 0 []),(10,tI v2),(11,tI v3)],[(30000,aD v1)]⟩) (fun ((b4,b5):LD×Int)=>⟨[(0,.own 30000),(2,tI a2),(4,.fn (.func 98) 0 []),(10,tI b5)],[(30000,aD b4)]⟩) 0 (qul,i64.wrap (a2-a1),i64.wrap (a3-a2)) (T195s0_L0 a2) fun (b4,b5)=>.ch 7 [] (G211s0_ok (i64.wrap (a2-b5)) a2 b5 b4) fun r11=>.ret 0 r11
def G195s0(a1:Int)(a2:Int)(a3:Int)(qul:LD):Option LD:=(T195s0 a1 a2 a3 qul).den
theorem G195s0_ok(a1:Int)(a2:Int)(a3:Int)(qul:LD):ConH Tryz.prog 176 [.own 30000,tI a1,tI a2,tI a3,.fn (.func 98) 0 []] [(30000,aD qul)] [30000] (G195s0 a1 a2 a3 qul) (fun (y:LD)=>.tup []) (fun (y:LD)=>[(30000,aD y)]):=conH Tryz.func176 ti_ok (T195s0 a1 a2 a3 qul)
abbrev R177s0:={f:(Int×Int×Int×LD)→Option LD // ∀ a:Int×Int×Int×LD,ConH Tryz.prog 157 [.own 30000,tI a.1,tI a.2.1,tI a.2.2.1,.fn (.func 98) 0 []] [(30000,.arr 52 3 (a.2.2.2.length) (eF cGDelta a.2.2.2))] [30000] (f a) (fun (y:LD)=>.tup []) (fun (y:LD)=>[(30000,aD y)])}
def T177s0_L0(a1:Int)(qul:LD):(Int×Int)→TP ((Int×Int)⊕((Int)⊕LD))
 | (v1,v2)=>.ite 3 (decide (v1<v2)) (.gd 5 (0≤(1:Int)) (by decide) <| .dg 3 (0≤(i64.wrap (shrI .u64 (u64.wrap (i64.wrap (v1+v2))) 1))∧(i64.wrap (shrI .u64 (u64.wrap (i64.wrap (v1+v2))) 1))<(qul.length:Int)) <| .dg 4 ((i64.wrap (shrI .u64 (u64.wrap (i64.wrap (v1+v2))) 1)).toNat<qul.length) <| .dg 7 (0≤a1∧a1<(qul.length:Int)) <| .dg 8 ((a1).toNat<qul.length) <| .dc 9 [.t (eGDelta (qul.getD (i64.wrap (shrI .u64 (u64.wrap (i64.wrap (v1+v2))) 1)).toNat default)),.t (eGDelta (qul.getD a1.toNat default))] (G61_ok (qul.getD (i64.wrap (shrI .u64 (u64.wrap (i64.wrap (v1+v2))) 1)).toNat default) (qul.getD a1.toNat default)) fun r4=>.dr 2 0 [(30000,false,[])] [0,1,4,10,11,12,31,32,33,34,35,36,37,38,39] <| .jn 0 0 (fun ((j5,j6):Int×Int)=>⟨[(0,.own 30000),(1,tI a1),(4,.fn (.func 98) 0 []),(10,tI j5),(11,tI j6)],[(30000,aD qul)]⟩) (.ite 0 (decide (r4<0)) (.ret 3 (i64.wrap ((i64.wrap (shrI .u64 (u64.wrap (i64.wrap (v1+v2))) 1))+1),v2)) (.ret 2 (v1,i64.wrap (shrI .u64 (u64.wrap (i64.wrap (v1+v2))) 1)))) fun (j5,j6)=>.ret 0 (.inl (j5,j6))) (.ret 0 (.inr (.inl v1)))
def T177s0_L1(b3:Int):(LD×Int)→TP ((LD×Int)⊕((LD)⊕LD))
 | (v7,v8)=>.ite 4 (decide (v8<(i64.wrap (b3-1)))) (.dg 8 (0≤(i64.wrap (v8+1))∧(i64.wrap (v8+1))<(v7.length:Int)) <| .dg 9 ((i64.wrap (v8+1)).toNat<v7.length) <| .dg 12 (0≤v8∧v8<(v7.length:Int)) <| .dg 13 ((v8).toNat<v7.length) <| .dg 14 (0≤v8∧v8<(v7.length:Int)) <| .dg 15 ((v8).toNat<v7.length) <| .dg 16 (0≤(i64.wrap (v8+1))∧(i64.wrap (v8+1))<(v7.length:Int)) <| .dg 17 ((i64.wrap (v8+1)).toNat<v7.length) <| .dr 0 0 [(30000,false,[15,17])] [0,10,13,55,56,57,58] <| .sto 0 30000 cGDelta v7 [((v8).toNat,v7.getD (i64.wrap (v8+1)).toNat default),((i64.wrap (v8+1)).toNat,v7.getD v8.toNat default)] <| .ret 3 (.inl ((v7.set v8.toNat (v7.getD (i64.wrap (v8+1)).toNat default)).set (i64.wrap (v8+1)).toNat (v7.getD v8.toNat default),i64.wrap (v8+1)))) (.ret 0 (.inr (.inl v7)))
def T177s0_L2(a2:Int)(qul:LD):(Int×Int)→TP ((Int×Int)⊕((Int)⊕LD))
 | (v10,v11)=>.ite 3 (decide (v10<v11)) (.gd 5 (0≤(1:Int)) (by decide) <| .dg 3 (0≤a2∧a2<(qul.length:Int)) <| .dg 4 ((a2).toNat<qul.length) <| .dg 7 (0≤(i64.wrap (shrI .u64 (u64.wrap (i64.wrap (v10+v11))) 1))∧(i64.wrap (shrI .u64 (u64.wrap (i64.wrap (v10+v11))) 1))<(qul.length:Int)) <| .dg 8 ((i64.wrap (shrI .u64 (u64.wrap (i64.wrap (v10+v11))) 1)).toNat<qul.length) <| .dc 9 [.t (eGDelta (qul.getD a2.toNat default)),.t (eGDelta (qul.getD (i64.wrap (shrI .u64 (u64.wrap (i64.wrap (v10+v11))) 1)).toNat default))] (G61_ok (qul.getD a2.toNat default) (qul.getD (i64.wrap (shrI .u64 (u64.wrap (i64.wrap (v10+v11))) 1)).toNat default)) fun r13=>.dr 2 0 [(30000,false,[])] [0,2,4,14,15,16,83,84,85,86,87,88,89,90,91] <| .jn 0 0 (fun ((j14,j15):Int×Int)=>⟨[(0,.own 30000),(2,tI a2),(4,.fn (.func 98) 0 []),(14,tI j14),(15,tI j15)],[(30000,aD qul)]⟩) (.ite 0 (!(decide (r13<0))) (.ret 3 (i64.wrap ((i64.wrap (shrI .u64 (u64.wrap (i64.wrap (v10+v11))) 1))+1),v11)) (.ret 2 (v10,i64.wrap (shrI .u64 (u64.wrap (i64.wrap (v10+v11))) 1)))) fun (j14,j15)=>.ret 0 (.inl (j14,j15))) (.ret 0 (.inr (.inl v10)))
def T177s0_L3(b12:Int):(LD×Int)→TP ((LD×Int)⊕((LD)⊕LD))
 | (v16,v17)=>.ite 3 (decide (v17>b12)) (.dg 8 (0≤(i64.wrap (v17-1))∧(i64.wrap (v17-1))<(v16.length:Int)) <| .dg 9 ((i64.wrap (v17-1)).toNat<v16.length) <| .dg 12 (0≤v17∧v17<(v16.length:Int)) <| .dg 13 ((v17).toNat<v16.length) <| .dg 14 (0≤v17∧v17<(v16.length:Int)) <| .dg 15 ((v17).toNat<v16.length) <| .dg 16 (0≤(i64.wrap (v17-1))∧(i64.wrap (v17-1))<(v16.length:Int)) <| .dg 17 ((i64.wrap (v17-1)).toNat<v16.length) <| .dr 0 0 [(30000,false,[15,17])] [0,14,17,108,109,110] <| .sto 0 30000 cGDelta v16 [((v17).toNat,v16.getD (i64.wrap (v17-1)).toNat default),((i64.wrap (v17-1)).toNat,v16.getD v17.toNat default)] <| .ret 3 (.inl ((v16.set v17.toNat (v16.getD (i64.wrap (v17-1)).toNat default)).set (i64.wrap (v17-1)).toNat (v16.getD v17.toNat default),i64.wrap (v17-1)))) (.ret 0 (.inr (.inl v16)))
def T177s0_L4(a1:Int)(a2:Int)(a3:Int)(qul:LD):(Int×Int)→TP ((Int×Int)⊕((Int)⊕LD))
 | (v21,v22)=>.ite 3 (decide (v21<v22)) (.gd 5 (0≤(1:Int)) (by decide) <| .dg 5 (0≤(i64.wrap ((i64.wrap ((i64.wrap ((i64.wrap (shrI .u64 (u64.wrap (i64.wrap (a1+a3))) 1))+a2))-1))-(i64.wrap (shrI .u64 (u64.wrap (i64.wrap (v21+v22))) 1))))∧(i64.wrap ((i64.wrap ((i64.wrap ((i64.wrap (shrI .u64 (u64.wrap (i64.wrap (a1+a3))) 1))+a2))-1))-(i64.wrap (shrI .u64 (u64.wrap (i64.wrap (v21+v22))) 1))))<(qul.length:Int)) <| .dg 6 ((i64.wrap ((i64.wrap ((i64.wrap ((i64.wrap (shrI .u64 (u64.wrap (i64.wrap (a1+a3))) 1))+a2))-1))-(i64.wrap (shrI .u64 (u64.wrap (i64.wrap (v21+v22))) 1)))).toNat<qul.length) <| .dg 9 (0≤(i64.wrap (shrI .u64 (u64.wrap (i64.wrap (v21+v22))) 1))∧(i64.wrap (shrI .u64 (u64.wrap (i64.wrap (v21+v22))) 1))<(qul.length:Int)) <| .dg 10 ((i64.wrap (shrI .u64 (u64.wrap (i64.wrap (v21+v22))) 1)).toNat<qul.length) <| .dc 11 [.t (eGDelta (qul.getD (i64.wrap ((i64.wrap ((i64.wrap ((i64.wrap (shrI .u64 (u64.wrap (i64.wrap (a1+a3))) 1))+a2))-1))-(i64.wrap (shrI .u64 (u64.wrap (i64.wrap (v21+v22))) 1)))).toNat default)),.t (eGDelta (qul.getD (i64.wrap (shrI .u64 (u64.wrap (i64.wrap (v21+v22))) 1)).toNat default))] (G61_ok (qul.getD (i64.wrap ((i64.wrap ((i64.wrap ((i64.wrap (shrI .u64 (u64.wrap (i64.wrap (a1+a3))) 1))+a2))-1))-(i64.wrap (shrI .u64 (u64.wrap (i64.wrap (v21+v22))) 1)))).toNat default) (qul.getD (i64.wrap (shrI .u64 (u64.wrap (i64.wrap (v21+v22))) 1)).toNat default)) fun r24=>.dr 2 0 [(30000,false,[])] [0,1,2,3,4,18,19,20,21,22,23,149,150,151,152,153,154,155,156,157] <| .jn 0 0 (fun ((j25,j26):Int×Int)=>⟨[(0,.own 30000),(1,tI a1),(2,tI a2),(3,tI a3),(4,.fn (.func 98) 0 []),(18,tI (i64.wrap (shrI .u64 (u64.wrap (i64.wrap (a1+a3))) 1))),(19,tI (i64.wrap ((i64.wrap (shrI .u64 (u64.wrap (i64.wrap (a1+a3))) 1))+a2))),(20,tI j25),(21,tI j26),(22,tI (i64.wrap ((i64.wrap ((i64.wrap (shrI .u64 (u64.wrap (i64.wrap (a1+a3))) 1))+a2))-1)))],[(30000,aD qul)]⟩) (.ite 0 (!(decide (r24<0))) (.ret 3 (i64.wrap ((i64.wrap (shrI .u64 (u64.wrap (i64.wrap (v21+v22))) 1))+1),v22)) (.ret 2 (v21,i64.wrap (shrI .u64 (u64.wrap (i64.wrap (v21+v22))) 1)))) fun (j25,j26)=>.ret 0 (.inl (j25,j26))) (.ret 0 (.inr (.inl v21)))
def T177s0(rec:R177s0)(a1:Int)(a2:Int)(a3:Int)(qul:LD):TP LD:=.ite 4 ((i64.wrap (a2-a1))==1) (.lp 4 (fun ((v1,v2):Int×Int)=>⟨[(0,.own 30000),(1,tI a1),(4,.fn (.func 98) 0 []),(10,tI v1),(11,tI v2)],[(30000,aD qul)]⟩) (fun (b3:Int)=>⟨[(0,.own 30000),(1,tI a1),(10,tI b3)],[(30000,aD qul)]⟩) 0 (a2,a3) (T177s0_L0 a1 qul) fun b3=>.lp 2 (fun ((v7,v8):LD×Int)=>⟨[(0,.own 30000),(10,tI b3),(13,tI v8)],[(30000,aD v7)]⟩) (fun (b9:LD)=>⟨[],[(30000,aD b9)]⟩) 2 (qul,a1) (T177s0_L1 b3) fun b9=>.ret 0 b9) (.ite 4 ((i64.wrap (a3-a2))==1) (.lp 4 (fun ((v10,v11):Int×Int)=>⟨[(0,.own 30000),(2,tI a2),(4,.fn (.func 98) 0 []),(14,tI v10),(15,tI v11)],[(30000,aD qul)]⟩) (fun (b12:Int)=>⟨[(0,.own 30000),(2,tI a2),(14,tI b12)],[(30000,aD qul)]⟩) 4 (a1,a2) (T177s0_L2 a2 qul) fun b12=>.lp 2 (fun ((v16,v17):LD×Int)=>⟨[(0,.own 30000),(14,tI b12),(17,tI v17)],[(30000,aD v16)]⟩) (fun (b18:LD)=>⟨[],[(30000,aD b18)]⟩) 6 (qul,a2) (T177s0_L3 b12) fun b18=>.ret 0 b18) (.gd 5 (0≤(1:Int)) (by decide) <| .jn 11 0 (fun ((j19,j20):Int×Int)=>⟨[(0,.own 30000),(1,tI a1),(2,tI a2),(3,tI a3),(4,.fn (.func 98) 0 []),(18,tI (i64.wrap (shrI .u64 (u64.wrap (i64.wrap (a1+a3))) 1))),(19,tI (i64.wrap ((i64.wrap (shrI .u64 (u64.wrap (i64.wrap (a1+a3))) 1))+a2))),(20,tI j19),(21,tI j20)],[(30000,aD qul)]⟩) (.ite 0 (decide (a2>(i64.wrap (shrI .u64 (u64.wrap (i64.wrap (a1+a3))) 1)))) (.ret 6 (i64.wrap ((i64.wrap ((i64.wrap (shrI .u64 (u64.wrap (i64.wrap (a1+a3))) 1))+a2))-a3),i64.wrap (shrI .u64 (u64.wrap (i64.wrap (a1+a3))) 1))) (.ret 4 (a1,a2))) fun (j19,j20)=>.lp 3 (fun ((v21,v22):Int×Int)=>⟨[(0,.own 30000),(1,tI a1),(2,tI a2),(3,tI a3),(4,.fn (.func 98) 0 []),(18,tI (i64.wrap (shrI .u64 (u64.wrap (i64.wrap (a1+a3))) 1))),(19,tI (i64.wrap ((i64.wrap (shrI .u64 (u64.wrap (i64.wrap (a1+a3))) 1))+a2))),(20,tI v21),(21,tI v22),(22,tI (i64.wrap ((i64.wrap ((i64.wrap (shrI .u64 (u64.wrap (i64.wrap (a1+a3))) 1))+a2))-1)))],[(30000,aD qul)]⟩) (fun (b23:Int)=>⟨[(0,.own 30000),(1,tI a1),(2,tI a2),(3,tI a3),(4,.fn (.func 98) 0 []),(18,tI (i64.wrap (shrI .u64 (u64.wrap (i64.wrap (a1+a3))) 1))),(19,tI (i64.wrap ((i64.wrap (shrI .u64 (u64.wrap (i64.wrap (a1+a3))) 1))+a2))),(20,tI b23)],[(30000,aD qul)]⟩) 8 (j19,j20) (T177s0_L4 a1 a2 a3 qul) fun b23=>.jn 8 0 (fun (j27:Bool)=>⟨[(0,.own 30000),(1,tI a1),(2,tI a2),(3,tI a3),(4,.fn (.func 98) 0 []),(18,tI (i64.wrap (shrI .u64 (u64.wrap (i64.wrap (a1+a3))) 1))),(20,tI b23),(24,tI (i64.wrap ((i64.wrap ((i64.wrap (shrI .u64 (u64.wrap (i64.wrap (a1+a3))) 1))+a2))-b23))),(185,tB j27)],[(30000,aD qul)]⟩) (.ite 0 (decide (b23<a2)) (.ret 4 (decide (a2<(i64.wrap ((i64.wrap ((i64.wrap (shrI .u64 (u64.wrap (i64.wrap (a1+a3))) 1))+a2))-b23))))) (.ret 4 false)) fun j27=>.jn 0 0 (fun (j28:LD)=>⟨[(0,.own 30000),(1,tI a1),(3,tI a3),(4,.fn (.func 98) 0 []),(18,tI (i64.wrap (shrI .u64 (u64.wrap (i64.wrap (a1+a3))) 1))),(20,tI b23),(24,tI (i64.wrap ((i64.wrap ((i64.wrap (shrI .u64 (u64.wrap (i64.wrap (a1+a3))) 1))+a2))-b23)))],[(30000,aD j28)]⟩) (.ite 0 j27 (.ch 5 [] (G195s0_ok b23 a2 (i64.wrap ((i64.wrap ((i64.wrap (shrI .u64 (u64.wrap (i64.wrap (a1+a3))) 1))+a2))-b23)) qul) fun r29=>.ret 0 r29) (.ret 0 qul)) fun j28=>.jn 4 0 (fun (j30:Bool)=>⟨[(0,.own 30000),(1,tI a1),(3,tI a3),(4,.fn (.func 98) 0 []),(18,tI (i64.wrap (shrI .u64 (u64.wrap (i64.wrap (a1+a3))) 1))),(20,tI b23),(24,tI (i64.wrap ((i64.wrap ((i64.wrap (shrI .u64 (u64.wrap (i64.wrap (a1+a3))) 1))+a2))-b23))),(199,tB j30)],[(30000,aD j28)]⟩) (.ite 0 (decide (a1<b23)) (.ret 4 (decide (b23<(i64.wrap (shrI .u64 (u64.wrap (i64.wrap (a1+a3))) 1))))) (.ret 4 false)) fun j30=>.jn 0 0 (fun (j31:LD)=>⟨[(0,.own 30000),(3,tI a3),(4,.fn (.func 98) 0 []),(18,tI (i64.wrap (shrI .u64 (u64.wrap (i64.wrap (a1+a3))) 1))),(24,tI (i64.wrap ((i64.wrap ((i64.wrap (shrI .u64 (u64.wrap (i64.wrap (a1+a3))) 1))+a2))-b23)))],[(30000,aD j31)]⟩) (.ite 0 j30 (.ch 5 [] (rec.2 (a1,b23,i64.wrap (shrI .u64 (u64.wrap (i64.wrap (a1+a3))) 1),j28)) fun r32=>.ret 0 r32) (.ret 0 j28)) fun j31=>.jn 4 0 (fun (j33:Bool)=>⟨[(0,.own 30000),(3,tI a3),(4,.fn (.func 98) 0 []),(18,tI (i64.wrap (shrI .u64 (u64.wrap (i64.wrap (a1+a3))) 1))),(24,tI (i64.wrap ((i64.wrap ((i64.wrap (shrI .u64 (u64.wrap (i64.wrap (a1+a3))) 1))+a2))-b23))),(213,tB j33)],[(30000,aD j31)]⟩) (.ite 0 (decide ((i64.wrap (shrI .u64 (u64.wrap (i64.wrap (a1+a3))) 1))<(i64.wrap ((i64.wrap ((i64.wrap (shrI .u64 (u64.wrap (i64.wrap (a1+a3))) 1))+a2))-b23)))) (.ret 4 (decide ((i64.wrap ((i64.wrap ((i64.wrap (shrI .u64 (u64.wrap (i64.wrap (a1+a3))) 1))+a2))-b23))<a3))) (.ret 4 false)) fun j33=>.jn 0 0 (fun (j34:LD)=>⟨[],[(30000,aD j34)]⟩) (.ite 0 j33 (.ch 5 [] (rec.2 (i64.wrap (shrI .u64 (u64.wrap (i64.wrap (a1+a3))) 1),i64.wrap ((i64.wrap ((i64.wrap (shrI .u64 (u64.wrap (i64.wrap (a1+a3))) 1))+a2))-b23),a3,j31)) fun r35=>.ret 0 r35) (.ret 0 j31)) fun j34=>.ret 0 j34))
theorem T177s0_ok(rec:R177s0)(a1:Int)(a2:Int)(a3:Int)(qul:LD):ConH Tryz.prog 157 [.own 30000,tI a1,tI a2,tI a3,.fn (.func 98) 0 []] [(30000,aD qul)] [30000] (T177s0 rec a1 a2 a3 qul).den (fun (y:LD)=>.tup []) (fun (y:LD)=>[(30000,aD y)]):=conH Tryz.func157 ti_ok (T177s0 rec a1 a2 a3 qul)
def H177s0(a:Int×Int×Int×LD):Option LD:=fixF (C:=fun (a:Int×Int×Int×LD) (x:Option LD)=>ConH Tryz.prog 157 [.own 30000,tI a.1,tI a.2.1,tI a.2.2.1,.fn (.func 98) 0 []] [(30000,.arr 52 3 (a.2.2.2.length) (eF cGDelta a.2.2.2))] [30000] x (fun (y:LD)=>.tup []) (fun (y:LD)=>[(30000,aD y)])) (fun a=>⟨callable_of Tryz.func157 (by kernel_rfl),fun _ h=>nomatch h⟩) (fun rec a=>T177s0 rec a.1 a.2.1 a.2.2.1 a.2.2.2) (fun rec a=>T177s0_ok rec a.1 a.2.1 a.2.2.1 a.2.2.2) a
theorem H177s0_ok(a:Int×Int×Int×LD):ConH Tryz.prog 157 [.own 30000,tI a.1,tI a.2.1,tI a.2.2.1,.fn (.func 98) 0 []] [(30000,.arr 52 3 (a.2.2.2.length) (eF cGDelta a.2.2.2))] [30000] (H177s0 a) (fun (y:LD)=>.tup []) (fun (y:LD)=>[(30000,aD y)]):=fixF_ok (C:=fun (a:Int×Int×Int×LD) (x:Option LD)=>ConH Tryz.prog 157 [.own 30000,tI a.1,tI a.2.1,tI a.2.2.1,.fn (.func 98) 0 []] [(30000,.arr 52 3 (a.2.2.2.length) (eF cGDelta a.2.2.2))] [30000] x (fun (y:LD)=>.tup []) (fun (y:LD)=>[(30000,aD y)])) _ _ _ a
def G177s0(a1:Int)(a2:Int)(a3:Int)(qul:LD):Option LD:=H177s0 (a1,a2,a3,qul)
theorem G177s0_ok(a1:Int)(a2:Int)(a3:Int)(qul:LD):ConH Tryz.prog 157 [.own 30000,tI a1,tI a2,tI a3,.fn (.func 98) 0 []] [(30000,aD qul)] [30000] (G177s0 a1 a2 a3 qul) (fun (y:LD)=>.tup []) (fun (y:LD)=>[(30000,aD y)]):=H177s0_ok (a1,a2,a3,qul)
def T133s1_L0(a1:Int):(LD×Int×Int)→TP ((LD×Int×Int)⊕((LD×Int)⊕LD))
 | (v1,v2,v3)=>.ite 3 (decide (v3≤a1)) (.ch 4 [] (G176s1_ok v2 v3 v1) fun r6=>.ret 6 (.inl (r6,v3,i64.wrap (v3+20)))) (.ret 0 (.inr (.inl (v1,v2))))
def T133s1_L2(a1:Int)(v9:Int):(LD×Int×Int)→TP ((LD×Int×Int)⊕((LD×Int)⊕((LD×Int)⊕((LD)⊕LD))))
 | (v11,v12,v13)=>.ite 3 (decide (v13≤a1)) (.ch 7 [] (G177s0_ok v12 (i64.wrap (v12+v9)) v13 v11) fun r16=>.ret 7 (.inl (r16,v13,i64.wrap (v13+(i64.wrap (2*v9)))))) (.ret 0 (.inr (.inl (v11,v12))))
def T133s1_L1(a1:Int):(LD×Int)→TP ((LD×Int)⊕((LD)⊕LD))
 | (v8,v9)=>.ite 3 (decide (v9<a1)) (.lp 4 (fun ((v11,v12,v13):LD×Int×Int)=>⟨[(0,.own 30000),(1,tI a1),(2,.fn (.func 98) 0 []),(6,tI v9),(7,tI v12),(8,tI v13)],[(30000,aD v11)]⟩) (fun ((b14,b15):LD×Int)=>⟨[(0,.own 30000),(1,tI a1),(2,.fn (.func 98) 0 []),(6,tI v9),(7,tI b15)],[(30000,aD b14)]⟩) 4 (v8,0,i64.wrap (2*v9)) (T133s1_L2 a1 v9) fun (b14,b15)=>.jn 7 0 (fun (j17:LD)=>⟨[(0,.own 30000),(1,tI a1),(2,.fn (.func 98) 0 []),(6,tI v9)],[(30000,aD j17)]⟩) (.ite 0 (decide ((i64.wrap (b15+v9))<a1)) (.ch 5 [] (G177s0_ok b15 (i64.wrap (b15+v9)) a1 b14) fun r18=>.ret 0 r18) (.ret 0 b14)) fun j17=>.ret 3 (.inl (j17,i64.wrap (v9*2)))) (.ret 0 (.inr (.inl v8)))
def T133s1(a1:Int)(qul:LD):TP LD:=.lp 4 (fun ((v1,v2,v3):LD×Int×Int)=>⟨[(0,.own 30000),(1,tI a1),(2,.fn (.func 98) 0 []),(6,tI 20),(7,tI v2),(8,tI v3)],[(30000,aD v1)]⟩) (fun ((b4,b5):LD×Int)=>⟨[(0,.own 30000),(1,tI a1),(2,.fn (.func 98) 0 []),(6,tI 20),(7,tI b5)],[(30000,aD b4)]⟩) 0 (qul,0,20) (T133s1_L0 a1) fun (b4,b5)=>.ch 4 [] (G176s1_ok b5 a1 b4) fun r7=>.lp 0 (fun ((v8,v9):LD×Int)=>⟨[(0,.own 30000),(1,tI a1),(2,.fn (.func 98) 0 []),(6,tI v9)],[(30000,aD v8)]⟩) (fun (b10:LD)=>⟨[],[(30000,aD b10)]⟩) 2 (r7,20) (T133s1_L1 a1) fun b10=>.ret 0 b10
def G133s1(a1:Int)(qul:LD):Option LD:=(T133s1 a1 qul).den
theorem G133s1_ok(a1:Int)(qul:LD):ConH Tryz.prog 142 [.own 30000,tI a1,.fn (.func 98) 0 []] [(30000,aD qul)] [30000] (G133s1 a1 qul) (fun (y:LD)=>.tup []) (fun (y:LD)=>[(30000,aD y)]):=conH Tryz.func142 ti_ok (T133s1 a1 qul)
def T63s1(qul:LD):TP LD:=.ch 4 [] (G133s1_ok (qul.length:Int) qul) fun r1=>.ret 0 r1
def G63s1(qul:LD):Option LD:=(T63s1 qul).den
theorem G63s1_ok(qul:LD):ConH Tryz.prog 97 [.own 30000,.fn (.func 98) 0 []] [(30000,aD qul)] [30000] (G63s1 qul) (fun (y:LD)=>.tup []) (fun (y:LD)=>[(30000,aD y)]):=conH Tryz.func97 ti_ok (T63s1 qul)
def T64s0(a0:List GValue):TP (List GValue):=.jn 2 0 (fun (j1:Bool)=>⟨[(0,tV a0),(4,tB j1)],[]⟩) (.ndb 0 a0.length (.ret 0 true) (.ret 0 false)) fun j1=>.ite 0 j1 (.cv 1 [.th 2 40000 90 3 (eF cGValue ([]:List GValue))] <| .ret 0 ([]:List GValue)) (.bs 0 true cGValue ([]:List GValue) <| .grd 2 ((([]:List GValue).length+a0.length)*32≤140737488355328) <| .cv 0 [.ap 7 cGValue ([]:List GValue) a0] <| .cv 1 [.rn 7 40000] <| .ret 0 (([]:List GValue)++a0))
def G64s0(a0:List GValue):Option (List GValue):=Det (T64s0 a0)
theorem G64s0_ok(a0:List GValue):ConH Tryz.prog 99 [tV a0] [] [] (G64s0 a0) (fun (y:(List GValue))=>.own 40000) (fun (y:(List GValue))=>[(40000,.arr 90 3 (y.length) (eF cGValue y))]):=conHD Tryz.func99 ti_ok (T64s0 a0)
def T27_L1(v3:LD):(Int×LD×Int)→TP ((Int×LD×Int)⊕((Int×LD×Int)⊕((LD×LD)⊕((LD)⊕LD))))
 | (v6,v7,v8)=>.jn 0 0 (fun ((j12,j13):LD×Bool)=>⟨[(3,tD v3),(4,.own 4),(5,.ptr 5 0),(6,tI v8),(29,tB j13)],[(4,aD j12),(5,.box [tI ((v3.getD (0:Int).toNat default).Time),tV ((v3.getD (0:Int).toNat default).Row),tI v6])]⟩) (.dl 4 (decide (v8<(v3.length:Int))) (.dg 8 (0≤v8∧v8<(v3.length:Int)) <| .dc 10 [.t (eGDelta (GDelta.mk ((v3.getD (0:Int).toNat default).Time) ((v3.getD (0:Int).toNat default).Row) v6)),.t (eGDelta (v3.getD v8.toNat default))] (G61_ok (GDelta.mk ((v3.getD (0:Int).toNat default).Time) ((v3.getD (0:Int).toNat default).Row) v6) (v3.getD v8.toNat default)) fun r14=>.dr 0 0 [(4,false,[]),(5,false,[])] [3,4,5,6] <| .ret 0 (v7,r14==0)) (.dr 0 0 [(4,false,[]),(5,false,[])] [3,4,5,6] <| .ret 0 (v7,false))) fun (j12,j13)=>.ite 0 j13 (.dg 4 (0≤v8∧v8<(v3.length:Int)) <| .dr 0 0 [(4,false,[]),(5,false,[9])] [3,4,5,6,29] <| .ret 3 (.inl (i64.wrap (v6+((v3.getD v8.toNat default).N)),j12,i64.wrap (v8+1)))) (.ret 0 (.inr (.inl (v6,j12,v8))))
def T27_L0:(LD×LD)→TP ((LD×LD)⊕((LD)⊕LD))
 | (v3,v4)=>.ite 3 (decide ((v3.length:Int)>0)) (.grd 2 (0≤(0:Int)∧(0:Int)<(v3.length:Int)) <| .lp 4 (fun ((v6,v7,v8):Int×LD×Int)=>⟨[(3,tD v3),(4,.own 4),(5,.ptr 5 0),(6,tI v8)],[(4,aD v7),(5,.box [tI ((v3.getD (0:Int).toNat default).Time),tV ((v3.getD (0:Int).toNat default).Row),tI v6])]⟩) (fun ((b9,b10,b11):Int×LD×Int)=>⟨[(3,tD v3),(4,.own 4),(5,.ptr 5 0),(6,tI b11)],[(4,aD b10),(5,.box [tI ((v3.getD (0:Int).toNat default).Time),tV ((v3.getD (0:Int).toNat default).Row),tI b9])]⟩) 2 ((v3.getD (0:Int).toNat default).N,v4,1) (T27_L1 v3) fun (b9,b10,b11)=>.jn 3 0 (fun (j15:LD)=>⟨[(3,tD v3),(4,.own 4),(6,tI b11)],[(4,aD j15)]⟩) (.ite 0 (b9 != 0) (.ch 2 [40000] (G64s0_ok ((v3.getD (0:Int).toNat default).Row)) fun r16=>.cv 0 [.rn 40000 46] <| .cv 3 [.fr 46 (eL cGValue r16)] <| .bs 1 true cGDelta ([(GDelta.mk ((v3.getD (0:Int).toNat default).Time) r16 b9)]:LD) <| .grd 1 ((b10.length+([(GDelta.mk ((v3.getD (0:Int).toNat default).Time) r16 b9)]:LD).length)*40≤140737488355328) <| .cv 0 [.ap 51 cGDelta b10 ([(GDelta.mk ((v3.getD (0:Int).toNat default).Time) r16 b9)]:LD)] <| .cv 1 [.rn 51 4] <| .ret 0 (b10++([(GDelta.mk ((v3.getD (0:Int).toNat default).Time) r16 b9)]:LD))) (.ret 0 b10)) fun j15=>.slc 3 54 cGDelta v3 (b11:Int) (v3.length:Int) <| .ret 1 (.inl ((v3.drop (b11:Int).toNat).take ((v3.length:Int)-(b11:Int)).toNat,j15))) (.ret 0 (.inr (.inl v4)))
def T27(a0:LD):TP LD:=.ch 2 [40000] (G42s0_ok a0) fun r1=>.cv 0 [.rn 40000 8] <| .cv 2 [.rn 8 30000] <| .ch 0 [] (G63s1_ok r1) fun r2=>.cv 1 [.fr 30000 (eL cGDelta r2),.th 4 4 52 3 (eF cGDelta ([]:LD))] <| .lp 0 (fun ((v3,v4):LD×LD)=>⟨[(3,tD v3),(4,.own 4)],[(4,aD v4)]⟩) (fun (b5:LD)=>⟨[(4,.own 4)],[(4,aD b5)]⟩) 0 (r2,([]:LD)) T27_L0 fun b5=>.cv 2 [.fr 4 (eL cGDelta b5)] <| .ret 0 b5
def G27(a0:LD):Option LD:=(T27 a0).den
theorem G27_ok(a0:LD):Con Tryz.prog 48 [tD a0] (G27 a0) tD:=con Tryz.func48 ti_ok (T27 a0)
def T104s0(a1:Int):TP LD:=.ite 3 (decide (a1<0)) (.no) (.jn 10 0 (fun (j1:LD)=>⟨[(0,.own 0)],[(0,aD j1)]⟩) (.ite 0 (decide ((i64.wrap (a1-0))>0)) (.gd 4 (0≤(0:Int)∧(0:Int)≤(0:Int)∧(0:Int)≤0) (by decide) <| .apz 1 cGDelta 40 (i64.wrap (a1-0)) <| .cut 2 cGDelta (List.replicate (i64.wrap (a1-0)).toNat (default:GDelta)) (0:Int) <| .cv 1 [.rn 25 0] <| .ret 0 ((List.replicate (i64.wrap (a1-0)).toNat (default:GDelta)).take (0:Int).toNat)) (.cv 0 [.th 0 0 52 3 (eF cGDelta ([]:LD))] <| .ret 0 ([]:LD))) fun j1=>.cv 2 [.rn 0 40000] <| .ret 0 j1)
def G104s0(a1:Int):Option LD:=(T104s0 a1).den
theorem G104s0_ok(a1:Int):ConH Tryz.prog 141 [.nil,tI a1] [] [] (G104s0 a1) (fun (y:LD)=>.own 40000) (fun (y:LD)=>[(40000,aD y)]):=conH Tryz.func141 ti_ok (T104s0 a1)
def T39_L0(a0:List LD):(Int×Int)→TP ((Int×Int)⊕((Int)⊕LD))
 | (v1,v2)=>.ite 1 (decide (v2<(a0.length:Int))) (.grd 1 (0≤v2∧v2<(a0.length:Int)) <| .ite 9 (decide ((i64.wrap (v1+((a0.getD v2.toNat default).length:Int)))<0)) (.no) (.ret 2 (.inl (i64.wrap (v1+((a0.getD v2.toNat default).length:Int)),i64.wrap (v2+1))))) (.ret 0 (.inr (.inl v1)))
def T39_L1(a0:List LD):(LD×Int)→TP ((LD×Int)⊕((LD)⊕LD))
 | (v5,v6)=>.ite 1 (decide (v6<(a0.length:Int))) (.grd 1 (0≤v6∧v6<(a0.length:Int)) <| .grd 5 ((v5.length+(a0.getD v6.toNat default).length)*40≤140737488355328) <| .cv 0 [.ap 33 cGDelta v5 (a0.getD v6.toNat default)] <| .cv 3 [.rn 33 6] <| .ret 0 (.inl (v5++(a0.getD v6.toNat default),i64.wrap (v6+1)))) (.ret 0 (.inr (.inl v5)))
def T39(a0:List LD):TP LD:=.lp 5 (fun ((v1,v2):Int×Int)=>⟨[(0,.t (eL cL_cGDelta a0)),(3,tI v1),(9,.t (eL cL_cGDelta a0)),(10,tI (a0.length:Int)),(11,tI v2)],[]⟩) (fun (b3:Int)=>⟨[(0,.t (eL cL_cGDelta a0)),(3,tI b3)],[]⟩) 0 (0,0) (T39_L0 a0) fun b3=>.ch 1 [40000] (G104s0_ok b3) fun r4=>.cv 0 [.rn 40000 24] <| .cv 4 [.rn 24 6] <| .lp 0 (fun ((v5,v6):LD×Int)=>⟨[(6,.own 6),(25,.t (eL cL_cGDelta a0)),(26,tI (a0.length:Int)),(27,tI v6)],[(6,aD v5)]⟩) (fun (b7:LD)=>⟨[(6,.own 6)],[(6,aD b7)]⟩) 2 (r4,0) (T39_L1 a0) fun b7=>.cv 2 [.fr 6 (eL cGDelta b7)] <| .ret 0 b7
def G39(a0:List LD):Option LD:=(T39 a0).den
theorem G39_ok(a0:List LD):Con Tryz.prog 95 [.t (eL cL_cGDelta a0)] (G39 a0) tD:=con Tryz.func95 ti_ok (T39 a0)
def T12(a0:LD)(a1:LD):TP LD:=.bs 3 false cL_cGDelta ([a0,a1]:List LD) <| .ca 0 (G39_ok ([a0,a1]:List LD)) fun r1=>.ca 0 (G27_ok r1) fun r2=>.ret 1 r2
def G12(a0:LD)(a1:LD):Option LD:=(T12 a0 a1).den
theorem G12_ok(a0:LD)(a1:LD):Con Tryz.prog 47 [tD a0,tD a1] (G12 a0 a1) tD:=con Tryz.func47 ti_ok (T12 a0 a1)
def T51(a0:Int):TP ByteArray:=.ca 2 (G117_ok a0) fun r1=>.grd 1 (((r1.size+((⟨#[59]⟩):ByteArray).size:Nat):Int)≤9223372036854775807) <| .ret 1 (r1++((⟨#[59]⟩):ByteArray))
def G51(a0:Int):Option ByteArray:=(T51 a0).den
theorem G51_ok(a0:Int):Con Tryz.prog 31 [tI a0] (G51 a0) (fun (y:ByteArray)=>.t (.str y)):=con Tryz.func31 ti_ok (T51 a0)
def T52(a0:ByteArray):TP ByteArray:=.ca 3 (G117_ok ((a0:ByteArray).size:Int)) fun r1=>.grd 1 (((r1.size+((⟨#[58]⟩):ByteArray).size:Nat):Int)≤9223372036854775807) <| .grd 2 (((((r1++((⟨#[58]⟩):ByteArray)):ByteArray).size+a0.size:Nat):Int)≤9223372036854775807) <| .grd 1 (((((((r1++((⟨#[58]⟩):ByteArray)):ByteArray)++a0):ByteArray).size+((⟨#[44]⟩):ByteArray).size:Nat):Int)≤9223372036854775807) <| .ret 1 (((((r1++((⟨#[58]⟩):ByteArray)):ByteArray)++a0):ByteArray)++((⟨#[44]⟩):ByteArray))
def G52(a0:ByteArray):Option ByteArray:=(T52 a0).den
theorem G52_ok(a0:ByteArray):Con Tryz.prog 32 [.t (.str a0)] (G52 a0) (fun (y:ByteArray)=>.t (.str y)):=con Tryz.func32 ti_ok (T52 a0)
def T168(a0:GValue):TP ByteArray:=.dc 2 [tI a0.Kind] (G51_ok a0.Kind) fun r1=>.dc 5 [tI a0.N] (G51_ok a0.N) fun r2=>.dg 6 (((r1.size+r2.size:Nat):Int)≤9223372036854775807) <| .dc 9 [.t (.str (a0.S))] (G52_ok a0.S) fun r3=>.dg 10 ((((r1++r2).size+r3.size:Nat):Int)≤9223372036854775807) <| .dr 2 0 [(1,false,[])] [0,1] <| .ret 0 ((r1++r2)++r3)
def G168(a0:GValue):Option ByteArray:=(T168 a0).den
theorem G168_ok(a0:GValue):Con Tryz.prog 127 [.t (eGValue a0)] (G168 a0) (fun (y:ByteArray)=>.t (.str y)):=con Tryz.func127 ti_ok (T168 a0)
def T119(a0:Int):TP ByteArray:=.ite 3 (decide (a0<0)) (.ret 1 (⟨#[]⟩)) (.ca 1 (G51_ok a0) fun r1=>.ret 1 r1)
def G119(a0:Int):Option ByteArray:=(T119 a0).den
theorem G119_ok(a0:Int):Con Tryz.prog 76 [tI a0] (G119 a0) (fun (y:ByteArray)=>.t (.str y)):=con Tryz.func76 ti_ok (T119 a0)
def T120_L0(a0:List GValue):(ByteArray×Int)→TP ((ByteArray×Int)⊕((ByteArray)⊕ByteArray))
 | (v2,v3)=>.ite 1 (decide (v3<(a0.length:Int))) (.grd 1 (0≤v3∧v3<(a0.length:Int)) <| .ca 4 (G168_ok (a0.getD v3.toNat default)) fun r5=>.ch 0 [] (con118 v2 r5) fun _=>.ret 2 (.inl (v2++r5,i64.wrap (v3+1)))) (.ret 0 (.inr (.inl v2)))
def T120(a0:List GValue):TP ByteArray:=.abl 1 5 <| .ca 2 (G119_ok (a0.length:Int)) fun r1=>.cv 0 [.rn 3 30000] <| .ch 0 [] (con118 (⟨#[]⟩:ByteArray) r1) fun _=>.lp 3 (fun ((v2,v3):ByteArray×Int)=>⟨[(3,.ptr 30000 0),(10,tV a0),(11,tI (a0.length:Int)),(12,tI v3)],[(30000,.bld 130 5 v2)]⟩) (fun (b4:ByteArray)=>⟨[(3,.ptr 30000 0)],[(30000,.bld 130 5 b4)]⟩) 0 ((⟨#[]⟩:ByteArray)++r1,0) (T120_L0 a0) fun b4=>.ch 0 [] (con121 b4) fun r6=>.ret 1 r6
def G120(a0:List GValue):Option ByteArray:=(T120 a0).den
theorem G120_ok(a0:List GValue):Con Tryz.prog 77 [tV a0] (G120 a0) (fun (y:ByteArray)=>.t (.str y)):=con Tryz.func77 ti_ok (T120 a0)
def T125s1_L0(a2:List GValue)(j1:List Int)(j2:Int):((List GValue)×Int)→TP (((List GValue)×Int)⊕((List GValue)⊕ByteArray))
 | (v3,v4)=>.ite 1 (decide (v4<j2)) (.grd 1 (0≤v4∧v4<(j1.length:Int)) <| .grd 6 (0≤(j1.getD v4.toNat default)∧(j1.getD v4.toNat default)<(a2.length:Int)) <| .bs 1 false cGValue ([a2.getD (j1.getD v4.toNat default).toNat default]:List GValue) <| .grd 1 ((v3.length+([a2.getD (j1.getD v4.toNat default).toNat default]:List GValue).length)*32≤140737488355328) <| .cv 0 [.ap 34 cGValue v3 ([a2.getD (j1.getD v4.toNat default).toNat default]:List GValue)] <| .cv 3 [.rn 34 7] <| .ret 0 (.inl (v3++([a2.getD (j1.getD v4.toNat default).toNat default]:List GValue),i64.wrap (v4+1)))) (.ret 0 (.inr (.inl v3)))
def T125s1(a1:Int)(a2:List GValue)(qu0:GNode)(qu1:Int)(qum:LS):TP ByteArray:=.jn 2 0 (fun ((j1,j2):(List Int)×Int)=>⟨[(2,tV a2),(7,.nil),(22,.t (eL cInt j1)),(23,tI j2),(24,tI 0)],[(30000,bOp qu0 30001 qu1),(30001,mM (qum:LS))]⟩) (.sp 0 1 a1 0 (.dg 12 (0≤(0:Int)∧(0:Int)<(2:Int)) <| .dr 0 0 [(30000,false,[]),(30001,false,[])] [0,1,2,6,7] <| .ret 0 (qu0.Key,(qu0.Key.length:Int))) (.sp 0 1 a1 1 (.dg 12 (0≤(1:Int)∧(1:Int)<(2:Int)) <| .dr 0 0 [(30000,false,[]),(30001,false,[])] [0,1,2,6,7] <| .ret 0 (qu0.Key2,(qu0.Key2.length:Int))) (.no))) fun (j1,j2)=>.cv 0 [.th 7 7 90 3 (eF cGValue ([]:List GValue))] <| .lp 0 (fun ((v3,v4):(List GValue)×Int)=>⟨[(2,tV a2),(7,.own 7),(22,.t (eL cInt j1)),(23,tI j2),(24,tI v4)],[(7,.arr 90 3 (v3.length) (eF cGValue v3)),(30000,bOp qu0 30001 qu1),(30001,mM (qum:LS))]⟩) (fun (b5:(List GValue))=>⟨[(7,.own 7)],[(7,.arr 90 3 (b5.length) (eF cGValue b5)),(30000,bOp qu0 30001 qu1),(30001,mM (qum:LS))]⟩) 0 (([]:List GValue),0) (T125s1_L0 a2 j1 j2) fun b5=>.ca 1 (G120_ok b5) fun r6=>.ret 1 r6
def G125s1(a1:Int)(a2:List GValue)(qu0:GNode)(qu1:Int)(qum:LS):Option ByteArray:=(T125s1 a1 a2 qu0 qu1 qum).den
theorem G125s1_ok(a1:Int)(a2:List GValue)(qu0:GNode)(qu1:Int)(qum:LS):ConH Tryz.prog 73 [.ptr 30000 0,tI a1,tV a2] [(30000,bOp qu0 30001 qu1),(30001,mM (qum:LS))] [30000,30001] (G125s1 a1 a2 qu0 qu1 qum) (fun (y:ByteArray)=>.t (.str y)) (fun (y:ByteArray)=>[(30000,bOp qu0 30001 qu1),(30001,mM (qum:LS))]):=conH Tryz.func73 ti_ok (T125s1 a1 a2 qu0 qu1 qum)
def T58s1_L0(a1:Int)(qu0:GNode)(qu1:Int)(qum:LS)(r1:LD):(LM×Int)→TP ((LM×Int)⊕((LM)⊕LM))
 | (v2,v3)=>.ite 1 (decide (v3<(r1.length:Int))) (.grd 1 (0≤v3∧v3<(r1.length:Int)) <| .ch 7 [] (G125s1_ok a1 ((r1.getD v3.toNat default).Row) qu0 qu1 qum) fun r5=>.lkr 5 52 3 (fun c:LD=>c.length) (fun c:LD=>eF cGDelta c) ([]:LD) (v2:LM) r5 <| .bs 1 false cGDelta ([r1.getD v3.toNat default]:LD) <| .grd 1 ((((mlook (v2:LM) r5).getD ([]:LD)).length+([r1.getD v3.toNat default]:LD).length)*40≤140737488355328) <| .cv 0 [.ap 31 cGDelta ((mlook (v2:LM) r5).getD ([]:LD)) ([r1.getD v3.toNat default]:LD)] <| .upd 0 mR (mdel v2 r5:LM) r5 <| .cv 2 [.fw 11 31 52 3 (fun c:LD=>c.length) (fun c:LD=>eF cGDelta c) (v2:LM) r5 (((mlook (v2:LM) r5).getD ([]:LD))++([r1.getD v3.toNat default]:LD):LD)] <| .ret 0 (.inl (mput v2 r5 (((mlook (v2:LM) r5).getD ([]:LD))++([r1.getD v3.toNat default]:LD):LD),i64.wrap (v3+1)))) (.ret 0 (.inr (.inl v2)))
def T58s1(a1:Int)(a2:LD)(qu0:GNode)(qu1:Int)(qum:LS):TP LM:=.mk (K:=ByteArray) 1 mR <| .ca 2 (G27_ok a2) fun r1=>.lp 2 (fun ((v2,v3):LM×Int)=>⟨[(0,.ptr 30000 0),(1,tI a1),(7,.map 11),(13,tD r1),(14,tI (r1.length:Int)),(15,tI v3)],[(11,pR v2),(30000,bOp qu0 30001 qu1),(30001,mM (qum:LS))]⟩) (fun (b4:LM)=>⟨[(7,.map 11)],[(11,pR b4),(30000,bOp qu0 30001 qu1),(30001,mM (qum:LS))]⟩) 0 (([]:LM),0) (T58s1_L0 a1 qu0 qu1 qum r1) fun b4=>.cv 2 [.rn 11 40000] <| .ret 0 b4
def G58s1(a1:Int)(a2:LD)(qu0:GNode)(qu1:Int)(qum:LS):Option LM:=(T58s1 a1 a2 qu0 qu1 qum).den
theorem G58s1_ok(a1:Int)(a2:LD)(qu0:GNode)(qu1:Int)(qum:LS):ConH Tryz.prog 29 [.ptr 30000 0,tI a1,tD a2] [(30000,bOp qu0 30001 qu1),(30001,mM (qum:LS))] [30000,30001] (G58s1 a1 a2 qu0 qu1 qum) (fun (y:LM)=>.map 40000) (fun (y:LM)=>[(30000,bOp qu0 30001 qu1),(30001,mM (qum:LS)),(40000,pR y)]):=conH Tryz.func29 ti_ok (T58s1 a1 a2 qu0 qu1 qum)
def T172(a0:GDelta)(a1:Int):TP Int:=.ret 7 (i64.wrap (a0.Time-a1))
def G172(a0:GDelta)(a1:Int):Option Int:=(T172 a0 a1).den
theorem G172_ok(a0:GDelta)(a1:Int):Con Tryz.prog 140 [.t (eGDelta a0),tI a1] (G172 a0 a1) tI:=con Tryz.func140 ti_ok (T172 a0 a1)
def T171s0_L0(a0:LD)(a1:Int):(Int×Int)→TP ((Int×Int)⊕((Int)⊕(Int×Bool)))
 | (v1,v2)=>.ite 3 (decide (v1<v2)) (.gd 5 (0≤(1:Int)) (by decide) <| .grd 6 (0≤(i64.wrap (shrI .u64 (u64.wrap (i64.wrap (v1+v2))) 1))∧(i64.wrap (shrI .u64 (u64.wrap (i64.wrap (v1+v2))) 1))<(a0.length:Int)) <| .ca 2 (G172_ok (a0.getD (i64.wrap (shrI .u64 (u64.wrap (i64.wrap (v1+v2))) 1)).toNat default) a1) fun r4=>.jn 1 0 (fun ((j5,j6):Int×Int)=>⟨[(0,tD a0),(1,tI a1),(2,.fn (.func 140) 0 []),(8,tI (a0.length:Int)),(9,tI j5),(10,tI j6)],[]⟩) (.ite 0 (decide (r4<0)) (.ret 3 (i64.wrap ((i64.wrap (shrI .u64 (u64.wrap (i64.wrap (v1+v2))) 1))+1),v2)) (.ret 2 (v1,i64.wrap (shrI .u64 (u64.wrap (i64.wrap (v1+v2))) 1)))) fun (j5,j6)=>.ret 0 (.inl (j5,j6))) (.ret 0 (.inr (.inl v1)))
def T171s0(a0:LD)(a1:Int):TP (Int×Bool):=.lp 8 (fun ((v1,v2):Int×Int)=>⟨[(0,tD a0),(1,tI a1),(2,.fn (.func 140) 0 []),(8,tI (a0.length:Int)),(9,tI v1),(10,tI v2)],[]⟩) (fun (b3:Int)=>⟨[(0,tD a0),(1,tI a1),(2,.fn (.func 140) 0 []),(8,tI (a0.length:Int)),(9,tI b3)],[]⟩) 0 (0,(a0.length:Int)) (T171s0_L0 a0 a1) fun b3=>.jn 5 0 (fun (j7:Bool)=>⟨[(6,tI b3),(7,tB j7)],[]⟩) (.ite 0 (decide (b3<(a0.length:Int))) (.grd 4 (0≤b3∧b3<(a0.length:Int)) <| .ca 2 (G172_ok (a0.getD b3.toNat default) a1) fun r8=>.ret 4 (r8==0)) (.ret 11 false)) fun j7=>.ret 0 (b3,j7)
def G171s0(a0:LD)(a1:Int):Option (Int×Bool):=(T171s0 a0 a1).den
theorem G171s0_ok(a0:LD)(a1:Int):ConH Tryz.prog 139 [tD a0,tI a1,.fn (.func 140) 0 []] [] [] (G171s0 a0 a1) (fun (y:Int×Bool)=>.tup [tI y.1,tB y.2]) (fun (y:Int×Bool)=>[]):=conH Tryz.func139 ti_ok (T171s0 a0 a1)
def T128_L0(a0:LD)(a2:Int)(r1:Int×Bool):Int→TP ((Int)⊕((Int)⊕LD))
 | v2=>.jn 5 0 (fun (j4:Bool)=>⟨[(0,tD a0),(2,tI a2),(7,tI r1.1),(9,tI v2),(29,tB j4)],[]⟩) (.ite 0 (decide (v2<(a0.length:Int))) (.grd 3 (0≤v2∧v2<(a0.length:Int)) <| .ret 5 (decide (((a0.getD v2.toNat default).Time)≤a2))) (.ret 8 false)) fun j4=>.ite 0 j4 (.ret 3 (.inl (i64.wrap (v2+1)))) (.ret 0 (.inr (.inl v2)))
def T128(a0:LD)(a1:Int)(a2:Int):TP LD:=.ch 3 [] (G171s0_ok a0 a1) fun r1=>.lp 7 (fun (v2:Int)=>⟨[(0,tD a0),(2,tI a2),(7,tI r1.1),(9,tI v2)],[]⟩) (fun (b3:Int)=>⟨[(0,tD a0),(7,tI r1.1),(9,tI b3)],[]⟩) 0 r1.1 (T128_L0 a0 a2 r1) fun b3=>.slc 4 35 cGDelta a0 (r1.1:Int) b3 <| .ret 1 ((a0.drop (r1.1:Int).toNat).take (b3-(r1.1:Int)).toNat)
def G128(a0:LD)(a1:Int)(a2:Int):Option LD:=(T128 a0 a1 a2).den
theorem G128_ok(a0:LD)(a1:Int)(a2:Int):Con Tryz.prog 93 [tD a0,tI a1,tI a2] (G128 a0 a1 a2) tD:=con Tryz.func93 ti_ok (T128 a0 a1 a2)
def T27s0_L1(v3:LD):(Int×LD×Int)→TP ((Int×LD×Int)⊕((Int×LD×Int)⊕((LD×LD)⊕((LD)⊕LD))))
 | (v6,v7,v8)=>.jn 0 0 (fun ((j12,j13):LD×Bool)=>⟨[(3,tD v3),(4,.own 4),(5,.ptr 5 0),(6,tI v8),(29,tB j13)],[(4,aD j12),(5,.box [tI ((v3.getD (0:Int).toNat default).Time),tV ((v3.getD (0:Int).toNat default).Row),tI v6])]⟩) (.dl 4 (decide (v8<(v3.length:Int))) (.dg 8 (0≤v8∧v8<(v3.length:Int)) <| .dc 10 [.t (eGDelta (GDelta.mk ((v3.getD (0:Int).toNat default).Time) ((v3.getD (0:Int).toNat default).Row) v6)),.t (eGDelta (v3.getD v8.toNat default))] (G61_ok (GDelta.mk ((v3.getD (0:Int).toNat default).Time) ((v3.getD (0:Int).toNat default).Row) v6) (v3.getD v8.toNat default)) fun r14=>.dr 0 0 [(4,false,[]),(5,false,[])] [3,4,5,6] <| .ret 0 (v7,r14==0)) (.dr 0 0 [(4,false,[]),(5,false,[])] [3,4,5,6] <| .ret 0 (v7,false))) fun (j12,j13)=>.ite 0 j13 (.dg 4 (0≤v8∧v8<(v3.length:Int)) <| .dr 0 0 [(4,false,[]),(5,false,[9])] [3,4,5,6,29] <| .ret 3 (.inl (i64.wrap (v6+((v3.getD v8.toNat default).N)),j12,i64.wrap (v8+1)))) (.ret 0 (.inr (.inl (v6,j12,v8))))
def T27s0_L0:(LD×LD)→TP ((LD×LD)⊕((LD)⊕LD))
 | (v3,v4)=>.ite 3 (decide ((v3.length:Int)>0)) (.grd 2 (0≤(0:Int)∧(0:Int)<(v3.length:Int)) <| .lp 4 (fun ((v6,v7,v8):Int×LD×Int)=>⟨[(3,tD v3),(4,.own 4),(5,.ptr 5 0),(6,tI v8)],[(4,aD v7),(5,.box [tI ((v3.getD (0:Int).toNat default).Time),tV ((v3.getD (0:Int).toNat default).Row),tI v6])]⟩) (fun ((b9,b10,b11):Int×LD×Int)=>⟨[(3,tD v3),(4,.own 4),(5,.ptr 5 0),(6,tI b11)],[(4,aD b10),(5,.box [tI ((v3.getD (0:Int).toNat default).Time),tV ((v3.getD (0:Int).toNat default).Row),tI b9])]⟩) 2 ((v3.getD (0:Int).toNat default).N,v4,1) (T27s0_L1 v3) fun (b9,b10,b11)=>.jn 3 0 (fun (j15:LD)=>⟨[(3,tD v3),(4,.own 4),(6,tI b11)],[(4,aD j15)]⟩) (.ite 0 (b9 != 0) (.ch 2 [40000] (G64s0_ok ((v3.getD (0:Int).toNat default).Row)) fun r16=>.cv 0 [.rn 40000 46] <| .cv 3 [.fr 46 (eL cGValue r16)] <| .bs 1 true cGDelta ([(GDelta.mk ((v3.getD (0:Int).toNat default).Time) r16 b9)]:LD) <| .grd 1 ((b10.length+([(GDelta.mk ((v3.getD (0:Int).toNat default).Time) r16 b9)]:LD).length)*40≤140737488355328) <| .cv 0 [.ap 51 cGDelta b10 ([(GDelta.mk ((v3.getD (0:Int).toNat default).Time) r16 b9)]:LD)] <| .cv 1 [.rn 51 4] <| .ret 0 (b10++([(GDelta.mk ((v3.getD (0:Int).toNat default).Time) r16 b9)]:LD))) (.ret 0 b10)) fun j15=>.slc 3 54 cGDelta v3 (b11:Int) (v3.length:Int) <| .ret 1 (.inl ((v3.drop (b11:Int).toNat).take ((v3.length:Int)-(b11:Int)).toNat,j15))) (.ret 0 (.inr (.inl v4)))
def T27s0(a0:LD):TP LD:=.ch 2 [40000] (G42s0_ok a0) fun r1=>.cv 0 [.rn 40000 8] <| .cv 2 [.rn 8 30000] <| .ch 0 [] (G63s1_ok r1) fun r2=>.cv 1 [.fr 30000 (eL cGDelta r2),.th 4 4 52 3 (eF cGDelta ([]:LD))] <| .lp 0 (fun ((v3,v4):LD×LD)=>⟨[(3,tD v3),(4,.own 4)],[(4,aD v4)]⟩) (fun (b5:LD)=>⟨[(4,.own 4)],[(4,aD b5)]⟩) 0 (r2,([]:LD)) T27s0_L0 fun b5=>.cv 2 [.rn 4 40000] <| .ret 0 b5
def G27s0(a0:LD):Option LD:=(T27s0 a0).den
theorem G27s0_ok(a0:LD):ConH Tryz.prog 48 [tD a0] [] [] (G27s0 a0) (fun (y:LD)=>.own 40000) (fun (y:LD)=>[(40000,aD y)]):=conH Tryz.func48 ti_ok (T27s0 a0)
def T129_L0(a1:LD):(LD×Int)→TP ((LD×Int)⊕((LD)⊕LD))
 | (v2,v3)=>.ite 1 (decide (v3<(a1.length:Int))) (.grd 1 (0≤v3∧v3<(a1.length:Int)) <| .bs 10 true cGDelta ([(GDelta.mk ((a1.getD v3.toNat default).Time) ((a1.getD v3.toNat default).Row) (i64.wrap (0-((a1.getD v3.toNat default).N))))]:LD) <| .grd 1 ((v2.length+([(GDelta.mk ((a1.getD v3.toNat default).Time) ((a1.getD v3.toNat default).Row) (i64.wrap (0-((a1.getD v3.toNat default).N))))]:LD).length)*40≤140737488355328) <| .cv 0 [.ap 23 cGDelta v2 ([(GDelta.mk ((a1.getD v3.toNat default).Time) ((a1.getD v3.toNat default).Row) (i64.wrap (0-((a1.getD v3.toNat default).N))))]:LD)] <| .cv 3 [.rn 23 5] <| .ret 0 (.inl (v2++([(GDelta.mk ((a1.getD v3.toNat default).Time) ((a1.getD v3.toNat default).Row) (i64.wrap (0-((a1.getD v3.toNat default).N))))]:LD),i64.wrap (v3+1)))) (.ret 0 (.inr (.inl v2)))
def T129(a0:LD)(a1:LD):TP LD:=.ch 2 [40000] (G42s0_ok a0) fun r1=>.cv 0 [.rn 40000 9] <| .cv 4 [.rn 9 5] <| .lp 0 (fun ((v2,v3):LD×Int)=>⟨[(5,.own 5),(10,tD a1),(11,tI (a1.length:Int)),(12,tI v3)],[(5,aD v2)]⟩) (fun (b4:LD)=>⟨[(5,.own 5)],[(5,aD b4)]⟩) 0 (r1,0) (T129_L0 a1) fun b4=>.cv 1 [.fr 5 (eL cGDelta b4)] <| .ch 0 [40000] (G27s0_ok b4) fun r5=>.cv 0 [.rn 40000 26] <| .cv 1 [.fr 26 (eL cGDelta r5)] <| .ret 0 r5
def G129(a0:LD)(a1:LD):Option LD:=(T129 a0 a1).den
theorem G129_ok(a0:LD)(a1:LD):Con Tryz.prog 94 [tD a0,tD a1] (G129 a0 a1) tD:=con Tryz.func94 ti_ok (T129 a0 a1)
def T209s0(a1:Int):TP (List GValue):=.ite 3 (decide (a1<0)) (.no) (.jn 10 0 (fun (j1:(List GValue))=>⟨[(0,.own 0)],[(0,.arr 90 3 (j1.length) (eF cGValue j1))]⟩) (.ite 0 (decide ((i64.wrap (a1-0))>0)) (.gd 4 (0≤(0:Int)∧(0:Int)≤(0:Int)∧(0:Int)≤0) (by decide) <| .apz 1 cGValue 32 (i64.wrap (a1-0)) <| .cut 2 cGValue (List.replicate (i64.wrap (a1-0)).toNat (default:GValue)) (0:Int) <| .cv 1 [.rn 25 0] <| .ret 0 ((List.replicate (i64.wrap (a1-0)).toNat (default:GValue)).take (0:Int).toNat)) (.cv 0 [.th 0 0 90 3 (eF cGValue ([]:List GValue))] <| .ret 0 ([]:List GValue))) fun j1=>.cv 2 [.rn 0 40000] <| .ret 0 j1)
def G209s0(a1:Int):Option (List GValue):=(T209s0 a1).den
theorem G209s0_ok(a1:Int):ConH Tryz.prog 175 [.nil,tI a1] [] [] (G209s0 a1) (fun (y:(List GValue))=>.own 40000) (fun (y:(List GValue))=>[(40000,.arr 90 3 (y.length) (eF cGValue y))]):=conH Tryz.func175 ti_ok (T209s0 a1)
def T193_L0(a0:List (List GValue)):(Int×Int)→TP ((Int×Int)⊕((Int)⊕(List GValue)))
 | (v1,v2)=>.ite 1 (decide (v2<(a0.length:Int))) (.grd 1 (0≤v2∧v2<(a0.length:Int)) <| .ite 9 (decide ((i64.wrap (v1+((a0.getD v2.toNat default).length:Int)))<0)) (.no) (.ret 2 (.inl (i64.wrap (v1+((a0.getD v2.toNat default).length:Int)),i64.wrap (v2+1))))) (.ret 0 (.inr (.inl v1)))
def T193_L1(a0:List (List GValue)):((List GValue)×Int)→TP (((List GValue)×Int)⊕((List GValue)⊕(List GValue)))
 | (v5,v6)=>.ite 1 (decide (v6<(a0.length:Int))) (.grd 1 (0≤v6∧v6<(a0.length:Int)) <| .grd 5 ((v5.length+(a0.getD v6.toNat default).length)*32≤140737488355328) <| .cv 0 [.ap 33 cGValue v5 (a0.getD v6.toNat default)] <| .cv 3 [.rn 33 6] <| .ret 0 (.inl (v5++(a0.getD v6.toNat default),i64.wrap (v6+1)))) (.ret 0 (.inr (.inl v5)))
def T193(a0:List (List GValue)):TP (List GValue):=.lp 5 (fun ((v1,v2):Int×Int)=>⟨[(0,.t (eL cL_cGValue a0)),(3,tI v1),(9,.t (eL cL_cGValue a0)),(10,tI (a0.length:Int)),(11,tI v2)],[]⟩) (fun (b3:Int)=>⟨[(0,.t (eL cL_cGValue a0)),(3,tI b3)],[]⟩) 0 (0,0) (T193_L0 a0) fun b3=>.ch 1 [40000] (G209s0_ok b3) fun r4=>.cv 0 [.rn 40000 24] <| .cv 4 [.rn 24 6] <| .lp 0 (fun ((v5,v6):(List GValue)×Int)=>⟨[(6,.own 6),(25,.t (eL cL_cGValue a0)),(26,tI (a0.length:Int)),(27,tI v6)],[(6,.arr 90 3 (v5.length) (eF cGValue v5))]⟩) (fun (b7:(List GValue))=>⟨[(6,.own 6)],[(6,.arr 90 3 (b7.length) (eF cGValue b7))]⟩) 2 (r4,0) (T193_L1 a0) fun b7=>.cv 2 [.fr 6 (eL cGValue b7)] <| .ret 0 b7
def G193(a0:List (List GValue)):Option (List GValue):=(T193 a0).den
theorem G193_ok(a0:List (List GValue)):Con Tryz.prog 155 [.t (eL cL_cGValue a0)] (G193 a0) (fun (y:(List GValue))=>tV y):=con Tryz.func155 ti_ok (T193 a0)
def T170(a0:GDelta)(a1:GDelta)(a2:Int)(a3:Int):TP GDelta:=.bs 8 false cL_cGValue ([a0.Row,a1.Row]:List (List GValue)) <| .ca 0 (G193_ok ([a0.Row,a1.Row]:List (List GValue))) fun r1=>.ret 3 (GDelta.mk a2 r1 a3)
def G170(a0:GDelta)(a1:GDelta)(a2:Int)(a3:Int):Option GDelta:=(T170 a0 a1 a2 a3).den
theorem G170_ok(a0:GDelta)(a1:GDelta)(a2:Int)(a3:Int):Con Tryz.prog 138 [.t (eGDelta a0),.t (eGDelta a1),tI a2,tI a3] (G170 a0 a1 a2 a3) (fun (y:GDelta)=>.t (eGDelta y)):=con Tryz.func138 ti_ok (T170 a0 a1 a2 a3)
def T126s0_L1(a1:Int)(a2:LD)(a3:LD)(qu0:GNode)(qu1:Int)(qum:LS)(hk30001:ByteArray)(qw0:GSide)(v2:Int)(r7:LD):(LD×Int)→TP ((LD×Int)⊕((LD)⊕((LD×Int)⊕((LD)⊕LD))))
 | (v8,v9)=>.ite 1 (decide (v9<(r7.length:Int))) (.grd 1 (0≤v9∧v9<(r7.length:Int)) <| .dr 3 0 [(16,true,[2,4]),(17,true,[3,5]),(9,false,[]),(11,false,[]),(15,false,[]),(30000,false,[]),(30001,false,[]),(30002,false,[])] [0,1,3,9,11,15,18,19,20,61,62,63,64,65,66] <| .jn 2 0 (fun ((j11,j12,j13,j14,j15,j16,j17):Int×(List GValue)×Int×Int×(List GValue)×Int×LD)=>⟨[(0,.ptr 30000 0),(1,tI a1),(3,tD a3),(9,.own 9),(11,.ptr 11 0),(15,.ptr 15 0),(16,.ptr 16 0),(17,.ptr 17 0),(18,tD a2),(19,tI (a2.length:Int)),(20,tI v2),(61,tD r7),(62,tI (r7.length:Int)),(63,tI v9)],[(9,aD j17),(11,.box ((cGDelta (a2.getD v2.toNat default)).map .t)),(15,.box ((cGDelta (r7.getD v9.toNat default)).map .t)),(16,.box [tI j11,tV j12,tI j13]),(17,.box [tI j14,tV j15,tI j16]),(30000,bOp qu0 30001 qu1),(30001,.mp none (eM mS (qum:LS)) (some (.str hk30001,some (.ptr 30002 0)))),(30002,.box ((cGSide qw0).map .t))]⟩) (.ite 0 (a1==1) (.dr 0 0 [(9,false,[]),(11,false,[]),(15,false,[]),(16,false,[2]),(17,false,[3]),(30000,false,[]),(30001,false,[]),(30002,false,[])] [0,1,3,9,11,15,16,17,18,19,20,61,62,63,64,65,66,67,68,69,70] <| .ret 0 ((r7.getD v9.toNat default).Time,(r7.getD v9.toNat default).Row,(r7.getD v9.toNat default).N,(a2.getD v2.toNat default).Time,(a2.getD v2.toNat default).Row,(a2.getD v2.toNat default).N,v8)) (.ret 0 ((a2.getD v2.toNat default).Time,(a2.getD v2.toNat default).Row,(a2.getD v2.toNat default).N,(r7.getD v9.toNat default).Time,(r7.getD v9.toNat default).Row,(r7.getD v9.toNat default).N,v8))) fun (j11,j12,j13,j14,j15,j16,j17)=>.ca 13 (G170_ok (GDelta.mk j11 j12 j13) (GDelta.mk j14 j15 j16) (if ((r7.getD v9.toNat default).Time)>((a2.getD v2.toNat default).Time) then ((r7.getD v9.toNat default).Time) else ((a2.getD v2.toNat default).Time)) (i64.wrap (((a2.getD v2.toNat default).N)*((r7.getD v9.toNat default).N)))) fun r18=>.bs 0 false cGDelta ([r18]:LD) <| .grd 1 ((j17.length+([r18]:LD).length)*40≤140737488355328) <| .cv 0 [.ap 88 cGDelta j17 ([r18]:LD)] <| .cv 3 [.rn 88 9] <| .ret 0 (.inl (j17++([r18]:LD),i64.wrap (v9+1)))) (.ret 0 (.inr (.inl v8)))
def T126s0_L0(a1:Int)(a2:LD)(a3:LD)(qu0:GNode)(qu1:Int)(qum:LS)(hk30001:ByteArray)(qw0:GSide):(LD×Int)→TP ((LD×Int)⊕((LD)⊕LD))
 | (v1,v2)=>.ite 1 (decide (v2<(a2.length:Int))) (.grd 1 (0≤v2∧v2<(a2.length:Int)) <| .dr 3 0 [(9,false,[]),(11,false,[]),(30000,false,[]),(30001,false,[]),(30002,false,[])] [0,1,3,9,11,18,19,20,21,22,23] <| .jn 2 0 (fun ((j4,j5,j6):LD×Int×Int)=>⟨[(0,.ptr 30000 0),(1,tI a1),(3,tD a3),(9,.own 9),(11,.ptr 11 0),(12,tI j5),(13,tI j6),(18,tD a2),(19,tI (a2.length:Int)),(20,tI v2)],[(9,aD j4),(11,.box ((cGDelta (a2.getD v2.toNat default)).map .t)),(30000,bOp qu0 30001 qu1),(30001,.mp none (eM mS (qum:LS)) (some (.str hk30001,some (.ptr 30002 0)))),(30002,.box ((cGSide qw0).map .t))]⟩) (.ite 0 (a1==1) (.dr 0 0 [(9,false,[]),(11,false,[]),(30000,false,[]),(30001,false,[]),(30002,false,[])] [0,1,3,9,11,18,19,20,21,22,23,24,25,26,27,28,29,30,31,32,33,34,35,36,37,38,39,40,41] <| .ret 0 (v1,i64.wrap (((a2.getD v2.toNat default).Time)-qu0.After),i64.wrap (((a2.getD v2.toNat default).Time)+qu0.Before))) (.ret 0 (v1,i64.wrap (((a2.getD v2.toNat default).Time)-qu0.Before),i64.wrap (((a2.getD v2.toNat default).Time)+qu0.After)))) fun (j4,j5,j6)=>.ca 3 (G128_ok a3 j5 j6) fun r7=>.lp 2 (fun ((v8,v9):LD×Int)=>⟨[(0,.ptr 30000 0),(1,tI a1),(3,tD a3),(9,.own 9),(11,.ptr 11 0),(18,tD a2),(19,tI (a2.length:Int)),(20,tI v2),(61,tD r7),(62,tI (r7.length:Int)),(63,tI v9)],[(9,aD v8),(11,.box ((cGDelta (a2.getD v2.toNat default)).map .t)),(30000,bOp qu0 30001 qu1),(30001,.mp none (eM mS (qum:LS)) (some (.str hk30001,some (.ptr 30002 0)))),(30002,.box ((cGSide qw0).map .t))]⟩) (fun (b10:LD)=>⟨[(0,.ptr 30000 0),(1,tI a1),(3,tD a3),(9,.own 9),(18,tD a2),(19,tI (a2.length:Int)),(20,tI v2)],[(9,aD b10),(30000,bOp qu0 30001 qu1),(30001,.mp none (eM mS (qum:LS)) (some (.str hk30001,some (.ptr 30002 0)))),(30002,.box ((cGSide qw0).map .t))]⟩) 2 (j4,0) (T126s0_L1 a1 a2 a3 qu0 qu1 qum hk30001 qw0 v2 r7) fun b10=>.ret 2 (.inl (b10,i64.wrap (v2+1)))) (.ret 0 (.inr (.inl v1)))
def T126s0(a1:Int)(a2:LD)(a3:LD)(qu0:GNode)(qu1:Int)(qum:LS)(hk30001:ByteArray)(qw0:GSide):TP LD:=.cv 5 [.th 9 9 52 3 (eF cGDelta ([]:LD))] <| .lp 0 (fun ((v1,v2):LD×Int)=>⟨[(0,.ptr 30000 0),(1,tI a1),(3,tD a3),(9,.own 9),(18,tD a2),(19,tI (a2.length:Int)),(20,tI v2)],[(9,aD v1),(30000,bOp qu0 30001 qu1),(30001,.mp none (eM mS (qum:LS)) (some (.str hk30001,some (.ptr 30002 0)))),(30002,.box ((cGSide qw0).map .t))]⟩) (fun (b3:LD)=>⟨[(9,.own 9)],[(9,aD b3),(30000,bOp qu0 30001 qu1),(30001,.mp none (eM mS (qum:LS)) (some (.str hk30001,some (.ptr 30002 0)))),(30002,.box ((cGSide qw0).map .t))]⟩) 0 (([]:LD),0) (T126s0_L0 a1 a2 a3 qu0 qu1 qum hk30001 qw0) fun b3=>.cv 2 [.fr 9 (eL cGDelta b3)] <| .ret 0 b3
def G126s0(a1:Int)(a2:LD)(a3:LD)(qu0:GNode)(qu1:Int)(qum:LS)(hk30001:ByteArray)(qw0:GSide):Option LD:=(T126s0 a1 a2 a3 qu0 qu1 qum hk30001 qw0).den
theorem G126s0_ok(a1:Int)(a2:LD)(a3:LD)(qu0:GNode)(qu1:Int)(qum:LS)(hk30001:ByteArray)(qw0:GSide):ConH Tryz.prog 91 [.ptr 30000 0,tI a1,tD a2,tD a3] [(30000,bOp qu0 30001 qu1),(30001,.mp none (eM mS (qum:LS)) (some (.str hk30001,some (.ptr 30002 0)))),(30002,.box ((cGSide qw0).map .t))] [30000,30001,30002] (G126s0 a1 a2 a3 qu0 qu1 qum hk30001 qw0) tD (fun (y:LD)=>[(30000,bOp qu0 30001 qu1),(30001,.mp none (eM mS (qum:LS)) (some (.str hk30001,some (.ptr 30002 0)))),(30002,.box ((cGSide qw0).map .t))]):=conH Tryz.func91 ti_ok (T126s0 a1 a2 a3 qu0 qu1 qum hk30001 qw0)
def T127s0_L0(a1:LD)(a2:LD)(qu0:GNode)(qu1:Int)(qum:LS)(hk30001:ByteArray)(qw0:GSide):(LD×Int)→TP ((LD×Int)⊕((LD)⊕LD))
 | (v1,v2)=>.ite 1 (decide (v2<(a1.length:Int))) (.grd 1 (0≤v2∧v2<(a1.length:Int)) <| .dc 12 [tD a2,tI (i64.wrap ((i64.wrap (((a1.getD v2.toNat default).Time)-qu0.Keep))+1)),tI ((a1.getD v2.toNat default).Time)] (G128_ok a2 (i64.wrap ((i64.wrap (((a1.getD v2.toNat default).Time)-qu0.Keep))+1)) ((a1.getD v2.toNat default).Time)) fun r4=>.dr 3 0 [(7,false,[]),(9,false,[]),(30000,false,[]),(30001,false,[]),(30002,false,[])] [0,2,7,9,11,12,13,14,15,16] <| .jn 3 0 (fun (j5:LD)=>⟨[(0,.ptr 30000 0),(2,tD a2),(7,.own 7),(11,tD a1),(12,tI (a1.length:Int)),(13,tI v2)],[(7,aD j5),(30000,bOp qu0 30001 qu1),(30001,.mp none (eM mS (qum:LS)) (some (.str hk30001,some (.ptr 30002 0)))),(30002,.box ((cGSide qw0).map .t))]⟩) (.ite 0 (decide ((r4.length:Int)>0)) (.dg 6 (0≤(i64.wrap ((r4.length:Int)-1))∧(i64.wrap ((r4.length:Int)-1))<(r4.length:Int)) <| .dc 12 [.t (eGDelta (a1.getD v2.toNat default)),.t (eGDelta (r4.getD (i64.wrap ((r4.length:Int)-1)).toNat default)),tI ((a1.getD v2.toNat default).Time),tI ((a1.getD v2.toNat default).N)] (G170_ok (a1.getD v2.toNat default) (r4.getD (i64.wrap ((r4.length:Int)-1)).toNat default) ((a1.getD v2.toNat default).Time) ((a1.getD v2.toNat default).N)) fun r6=>.dg 14 ((v1.length+1)*40≤140737488355328) <| .dr 0 0 [(47,true,[14]),(7,false,[14]),(9,false,[]),(30000,false,[]),(30001,false,[]),(30002,false,[])] [0,2,7,9,10,11,12,13,14,15,16,17,18,19,20,21,22,23,24,25,26,27,28,29,30,31,32] <| .cv 0 [.apl 47 cGDelta v1 ([r6]:LD)] <| .cv 0 [.rn 47 7] <| .ret 0 (v1++([r6]:LD))) (.ret 0 v1)) fun j5=>.ret 2 (.inl (j5,i64.wrap (v2+1)))) (.ret 0 (.inr (.inl v1)))
def T127s0(a1:LD)(a2:LD)(qu0:GNode)(qu1:Int)(qum:LS)(hk30001:ByteArray)(qw0:GSide):TP LD:=.cv 5 [.th 7 7 52 3 (eF cGDelta ([]:LD))] <| .lp 0 (fun ((v1,v2):LD×Int)=>⟨[(0,.ptr 30000 0),(2,tD a2),(7,.own 7),(11,tD a1),(12,tI (a1.length:Int)),(13,tI v2)],[(7,aD v1),(30000,bOp qu0 30001 qu1),(30001,.mp none (eM mS (qum:LS)) (some (.str hk30001,some (.ptr 30002 0)))),(30002,.box ((cGSide qw0).map .t))]⟩) (fun (b3:LD)=>⟨[(7,.own 7)],[(7,aD b3),(30000,bOp qu0 30001 qu1),(30001,.mp none (eM mS (qum:LS)) (some (.str hk30001,some (.ptr 30002 0)))),(30002,.box ((cGSide qw0).map .t))]⟩) 0 (([]:LD),0) (T127s0_L0 a1 a2 qu0 qu1 qum hk30001 qw0) fun b3=>.cv 2 [.fr 7 (eL cGDelta b3)] <| .ret 0 b3
def G127s0(a1:LD)(a2:LD)(qu0:GNode)(qu1:Int)(qum:LS)(hk30001:ByteArray)(qw0:GSide):Option LD:=(T127s0 a1 a2 qu0 qu1 qum hk30001 qw0).den
theorem G127s0_ok(a1:LD)(a2:LD)(qu0:GNode)(qu1:Int)(qum:LS)(hk30001:ByteArray)(qw0:GSide):ConH Tryz.prog 92 [.ptr 30000 0,tD a1,tD a2] [(30000,bOp qu0 30001 qu1),(30001,.mp none (eM mS (qum:LS)) (some (.str hk30001,some (.ptr 30002 0)))),(30002,.box ((cGSide qw0).map .t))] [30000,30001,30002] (G127s0 a1 a2 qu0 qu1 qum hk30001 qw0) tD (fun (y:LD)=>[(30000,bOp qu0 30001 qu1),(30001,.mp none (eM mS (qum:LS)) (some (.str hk30001,some (.ptr 30002 0)))),(30002,.box ((cGSide qw0).map .t))]):=conH Tryz.func92 ti_ok (T127s0 a1 a2 qu0 qu1 qum hk30001 qw0)
def T59s0(a2:Int)(a3:LD)(qu0:GNode)(qu1:Int)(qum:LS)(hk30001:ByteArray)(qw0:GSide):TP LD:=.ite 8 (qu0.Op==6) (.sp 8 22 (i64.wrap (1-a2)) 0 (.gd 1 (0≤(0:Int)∧(0:Int)<(2:Int)) (by decide) <| .ch 1 [] (G126s0_ok a2 a3 qw0.rows_.e0 qu0 qu1 qum hk30001 qw0) fun r1=>.ret 1 r1) (.sp 0 22 (i64.wrap (1-a2)) 1 (.gd 1 (0≤(1:Int)∧(1:Int)<(2:Int)) (by decide) <| .ch 1 [] (G126s0_ok a2 a3 qw0.rows_.e1 qu0 qu1 qum hk30001 qw0) fun r2=>.ret 1 r2) (.no))) (.ite 3 (a2==0) (.gd 6 (0≤(1:Int)∧(1:Int)<(2:Int)) (by decide) <| .ch 1 [] (G127s0_ok a3 qw0.rows_.e1 qu0 qu1 qum hk30001 qw0) fun r3=>.ret 1 r3) (.dg 3 (0≤(0:Int)∧(0:Int)<(2:Int)) <| .dg 6 (0≤(0:Int)∧(0:Int)<(a3.length:Int)) <| .dg 13 (0≤(i64.wrap ((a3.length:Int)-1))∧(i64.wrap ((a3.length:Int)-1))<(a3.length:Int)) <| .dc 22 [tD qw0.rows_.e0,tI ((a3.getD (0:Int).toNat default).Time),tI (i64.wrap (((a3.getD (i64.wrap ((a3.length:Int)-1)).toNat default).Time)+qu0.Keep))] (G128_ok qw0.rows_.e0 ((a3.getD (0:Int).toNat default).Time) (i64.wrap (((a3.getD (i64.wrap ((a3.length:Int)-1)).toNat default).Time)+qu0.Keep))) fun r4=>.dr 0 0 [(30000,false,[]),(30001,false,[]),(30002,false,[])] [0,1,2,3,8,10,11,12,13,14,15,16,28,29,30] <| .dg 5 (0≤(1:Int)∧(1:Int)<(2:Int)) <| .dc 8 [tD qw0.rows_.e1,tD a3] (G12_ok qw0.rows_.e1 a3) fun r5=>.dch 9 [.ptr 30000 0,tD r4,tD r5] (G127s0_ok r4 r5 qu0 qu1 qum hk30001 qw0) (fun _=>none) fun r6=>.dg 15 (0≤(1:Int)∧(1:Int)<(2:Int)) <| .dch 17 [.ptr 30000 0,tD r4,tD qw0.rows_.e1] (G127s0_ok r4 qw0.rows_.e1 qu0 qu1 qum hk30001 qw0) (fun _=>none) fun r7=>.dc 18 [tD r6,tD r7] (G129_ok r6 r7) fun r8=>.dr 0 0 [(30000,false,[]),(30001,false,[]),(30002,false,[])] [0,1,2,3,9,10,11,12,13,14,15,16,28,29,30,39,40,41,42,43,44,45,46,47,48,49,50,51,52,53,54,55,56,57,58,59,60,61] <| .ret 0 r8))
def G59s0(a2:Int)(a3:LD)(qu0:GNode)(qu1:Int)(qum:LS)(hk30001:ByteArray)(qw0:GSide):Option LD:=(T59s0 a2 a3 qu0 qu1 qum hk30001 qw0).den
theorem G59s0_ok(a2:Int)(a3:LD)(qu0:GNode)(qu1:Int)(qum:LS)(hk30001:ByteArray)(qw0:GSide):ConH Tryz.prog 46 [.ptr 30000 0,.ptr 30002 0,tI a2,tD a3] [(30000,bOp qu0 30001 qu1),(30001,.mp none (eM mS (qum:LS)) (some (.str hk30001,some (.ptr 30002 0)))),(30002,.box ((cGSide qw0).map .t))] [30000,30001,30002] (G59s0 a2 a3 qu0 qu1 qum hk30001 qw0) tD (fun (y:LD)=>[(30000,bOp qu0 30001 qu1),(30001,.mp none (eM mS (qum:LS)) (some (.str hk30001,some (.ptr 30002 0)))),(30002,.box ((cGSide qw0).map .t))]):=conH Tryz.func46 ti_ok (T59s0 a2 a3 qu0 qu1 qum hk30001 qw0)
def T25s0_L0(qu0:GNode)(qu1:Int):((List ByteArray)×LM×LS×Int×LD)→TP (((List ByteArray)×LM×LS×Int×LD)⊕(((LS)×LD)⊕(LD×LS)))
 | (v2,v3,v4,v5,v6)=>.nxd 0 vD (v3:LM) (v2:List ByteArray) (.ret 2 (.inr (.inl (v4,v6)))) fun k9 c10=>.gd 3 ((.str k9:T) = .str k9) rfl <| .lkb 9 cGSide (v4:LS) k9 (.cv 13 [.gp 30001 mS (v4:LS) k9] <| .upd 0 mS (mdel v4 k9:LS) k9 <| .cv 5 [.rn 30 30002] <| .cv 0 [.bx 30002 [eL cGDelta ([]:LD),eL cGDelta ([]:LD)]] <| .ch 0 [] (G59s0_ok v5 c10 qu0 qu1 (mdel v4 k9) k9 (GSide.mk (A2_ListGDelta.mk ([]:LD) ([]:LD)))) fun r12=>.grd 1 ((v6.length+r12.length)*40≤140737488355328) <| .cv 0 [.ap 43 cGDelta v6 r12] <| .jn 1 0 (fun ((j13,j14,j15,j16):LD×LD×Int×LD)=>⟨[(0,.ptr 30000 0),(1,tI j15),(7,.own 7),(8,.t (.str k9)),(10,.ptr 30002 0),(15,.ptr 15 0)],[(7,aD j16),(14,.mp (some ⟨15,kTs (kerase v2 k9:List ByteArray),some (.str k9)⟩) (eM mD (mdel v3 k9:LM)) (some (.str k9,some (tD c10)))),(30000,bOp qu0 30001 qu1),(30001,.mp none (eM mS (mdel v4 k9:LS)) (some (.str k9,some (.ptr 30002 0)))),(30002,.box [tD j13,tD j14])]⟩) (.sp 0 1 v5 0 (.dg 6 (0≤(0:Int)∧(0:Int)<(2:Int)) <| .dc 9 [tD ([]:LD),tD c10] (G12_ok ([]:LD) c10) fun r17=>.dg 12 (0≤(0:Int)∧(0:Int)<(2:Int)) <| .dr 0 0 [(14,false,[]),(43,false,[]),(30000,false,[]),(30001,false,[]),(30002,false,[13])] [0,1,7,8,9,10,15,16,17,18,19,20,21,22,23,24,25,26,27,28,29,30,31,32,33,34,35,36,38,39,40,41,42,43] <| .cv 0 [.rn 43 7] <| .ret 0 (r17,([]:LD),0,v6++r12)) (.sp 0 1 v5 1 (.dg 6 (0≤(1:Int)∧(1:Int)<(2:Int)) <| .dc 9 [tD ([]:LD),tD c10] (G12_ok ([]:LD) c10) fun r18=>.dg 12 (0≤(1:Int)∧(1:Int)<(2:Int)) <| .dr 0 0 [(14,false,[]),(43,false,[]),(30000,false,[]),(30001,false,[]),(30002,false,[13])] [0,1,7,8,9,10,15,16,17,18,19,20,21,22,23,24,25,26,27,28,29,30,31,32,33,34,35,36,38,39,40,41,42,43] <| .cv 0 [.rn 43 7] <| .ret 0 (([]:LD),r18,1,v6++r12)) (.no))) fun (j13,j14,j15,j16)=>.dg 3 (0≤(0:Int)∧(0:Int)<(2:Int)) <| .dg 9 (0≤(1:Int)∧(1:Int)<(2:Int)) <| .dr 0 0 [(7,false,[]),(14,false,[]),(30000,false,[]),(30001,false,[]),(30002,false,[])] [0,1,7,8,10,15] <| .jn 0 0 (fun ((j19,j20):LS×LD)=>⟨[(0,.ptr 30000 0),(1,tI j15),(7,.own 7),(15,.ptr 15 0)],[(7,aD j20),(14,.mp (some ⟨15,kTs (kerase v2 k9:List ByteArray),some (.str k9)⟩) (eM mD (mdel v3 k9:LM)) (some (.str k9,some (tD c10)))),(30000,bOp qu0 30001 qu1),(30001,mM (j19:LS))]⟩) (.ite 0 ((i64.wrap ((j13.length:Int)+(j14.length:Int)))==0) (.dlt 5 mS (mdel v4 k9:LS) k9 (some (.ptr 30002 0)) <| .ret 0 (mdel v4 k9,j16)) (.cv 0 [.fb 30001 30002 cGSide (v4:LS) k9 (GSide.mk (A2_ListGDelta.mk j13 j14))] <| .ret 0 (mput v4 k9 ((GSide.mk (A2_ListGDelta.mk j13 j14)):GSide),j16))) fun (j19,j20)=>.cv 0 [.fd 14 vD (v3:LM) k9 (c10:LD),.nc 14] <| .ret 0 (.inl (kerase v2 k9,mput v3 k9 (c10:LD),j19,j15,j20))) fun c11=>.cv 9 [.rn 26 30002] <| .ch 0 [] (G59s0_ok v5 c10 qu0 qu1 (mdel v4 k9) k9 c11) fun r21=>.grd 1 ((v6.length+r21.length)*40≤140737488355328) <| .cv 0 [.ap 43 cGDelta v6 r21] <| .jn 1 0 (fun ((j22,j23,j24,j25):LD×LD×Int×LD)=>⟨[(0,.ptr 30000 0),(1,tI j24),(7,.own 7),(8,.t (.str k9)),(10,.ptr 30002 0),(15,.ptr 15 0)],[(7,aD j25),(14,.mp (some ⟨15,kTs (kerase v2 k9:List ByteArray),some (.str k9)⟩) (eM mD (mdel v3 k9:LM)) (some (.str k9,some (tD c10)))),(30000,bOp qu0 30001 qu1),(30001,.mp none (eM mS (mdel v4 k9:LS)) (some (.str k9,some (.ptr 30002 0)))),(30002,.box [tD j22,tD j23])]⟩) (.sp 0 1 v5 0 (.dg 6 (0≤(0:Int)∧(0:Int)<(2:Int)) <| .dc 9 [tD c11.rows_.e0,tD c10] (G12_ok c11.rows_.e0 c10) fun r26=>.dg 12 (0≤(0:Int)∧(0:Int)<(2:Int)) <| .dr 0 0 [(14,false,[]),(43,false,[]),(30000,false,[]),(30001,false,[]),(30002,false,[13])] [0,1,7,8,9,10,15,16,17,18,19,20,21,22,23,24,25,26,27,28,38,39,40,41,42,43] <| .cv 0 [.rn 43 7] <| .ret 0 (r26,c11.rows_.e1,0,v6++r21)) (.sp 0 1 v5 1 (.dg 6 (0≤(1:Int)∧(1:Int)<(2:Int)) <| .dc 9 [tD c11.rows_.e1,tD c10] (G12_ok c11.rows_.e1 c10) fun r27=>.dg 12 (0≤(1:Int)∧(1:Int)<(2:Int)) <| .dr 0 0 [(14,false,[]),(43,false,[]),(30000,false,[]),(30001,false,[]),(30002,false,[13])] [0,1,7,8,9,10,15,16,17,18,19,20,21,22,23,24,25,26,27,28,38,39,40,41,42,43] <| .cv 0 [.rn 43 7] <| .ret 0 (c11.rows_.e0,r27,1,v6++r21)) (.no))) fun (j22,j23,j24,j25)=>.dg 3 (0≤(0:Int)∧(0:Int)<(2:Int)) <| .dg 9 (0≤(1:Int)∧(1:Int)<(2:Int)) <| .dr 0 0 [(7,false,[]),(14,false,[]),(30000,false,[]),(30001,false,[]),(30002,false,[])] [0,1,7,8,10,15] <| .jn 0 0 (fun ((j28,j29):LS×LD)=>⟨[(0,.ptr 30000 0),(1,tI j24),(7,.own 7),(15,.ptr 15 0)],[(7,aD j29),(14,.mp (some ⟨15,kTs (kerase v2 k9:List ByteArray),some (.str k9)⟩) (eM mD (mdel v3 k9:LM)) (some (.str k9,some (tD c10)))),(30000,bOp qu0 30001 qu1),(30001,mM (j28:LS))]⟩) (.ite 0 ((i64.wrap ((j22.length:Int)+(j23.length:Int)))==0) (.dlt 5 mS (mdel v4 k9:LS) k9 (some (.ptr 30002 0)) <| .ret 0 (mdel v4 k9,j25)) (.cv 0 [.fb 30001 30002 cGSide (v4:LS) k9 (GSide.mk (A2_ListGDelta.mk j22 j23))] <| .ret 0 (mput v4 k9 ((GSide.mk (A2_ListGDelta.mk j22 j23)):GSide),j25))) fun (j28,j29)=>.cv 0 [.fd 14 vD (v3:LM) k9 (c10:LD),.nc 14] <| .ret 0 (.inl (kerase v2 k9,mput v3 k9 (c10:LD),j28,j24,j29))
def T25s0(a1:Int)(a2:LD)(qu0:GNode)(qu1:Int)(qum:LS):TP (LD×LS):=.ch 5 [40000] (G58s1_ok a1 a2 qu0 qu1 qum) fun r1=>.cv 0 [.rn 40000 14] <| .cv 0 [.fz 14 52 3 (fun c:LD=>c.length) (fun c:LD=>eF cGDelta c) vD (r1:LM)] <| .rng 0 mD (r1:LM) <| .cv 0 [.th 7 7 52 3 (eF cGDelta ([]:LD))] <| .lp 0 (fun ((v2,v3,v4,v5,v6):(List ByteArray)×LM×LS×Int×LD)=>⟨[(0,.ptr 30000 0),(1,tI v5),(7,.own 7),(15,.ptr 15 0)],[(7,aD v6),(14,.mp (some ⟨15,kTs (v2:List ByteArray),none⟩) (eM mD (v3:LM)) none),(30000,bOp qu0 30001 qu1),(30001,mM (v4:LS))]⟩) (fun ((b7,b8):LS×LD)=>⟨[(7,.own 7)],[(7,aD b8),(30000,bOp qu0 30001 qu1),(30001,mM (b7:LS))]⟩) 0 (mkeys r1,r1,qum,a1,([]:LD)) (T25s0_L0 qu0 qu1) fun (b7,b8)=>.cv 1 [.fr 7 (eL cGDelta b8)] <| .ca 0 (G27_ok b8) fun r30=>.ret 1 (r30,b7)
def G25s0(a1:Int)(a2:LD)(qu0:GNode)(qu1:Int)(qum:LS):Option (LD×LS):=Det (T25s0 a1 a2 qu0 qu1 qum)
theorem G25s0_ok(a1:Int)(a2:LD)(qu0:GNode)(qu1:Int)(qum:LS):ConH Tryz.prog 14 [.ptr 30000 0,tI a1,tD a2] [(30000,bOp qu0 30001 qu1),(30001,mM (qum:LS))] [30000,30001] (G25s0 a1 a2 qu0 qu1 qum) (fun (y:LD×LS)=>tD y.1) (fun (y:LD×LS)=>[(30000,bOp qu0 30001 qu1),(30001,mM (y.2:LS))]):=conHD Tryz.func14 ti_ok (T25s0 a1 a2 qu0 qu1 qum)
def T92(a0:GNode):TP (Int×Int):=.ret 5 (0,0)
def G92(a0:GNode):Option (Int×Int):=(T92 a0).den
theorem G92_ok(a0:GNode):Con Tryz.prog 109 [.t (eGNode a0)] (G92 a0) (fun (y:Int×Int)=>.tup [tI y.1,tI y.2]):=con Tryz.func109 ti_ok (T92 a0)
def T94(a0:GNode):TP (Int×Int):=.jn 7 0 (fun (j1:Bool)=>⟨[(1,.ptr 1 0),(11,tB j1)],[(1,bN a0)]⟩) (.ite 0 (a0.Op==4) (.ret 4 (a0.Kind==2)) (.ret 4 false)) fun j1=>.ite 0 j1 (.dr 0 0 [(1,false,[])] [1,11] <| .ret 0 (i64.wrap (a0.Size-1),i64.wrap (a0.Step-1))) (.dr 0 0 [(1,false,[])] [1,11] <| .ret 0 (i64.wrap (a0.Size-1),i64.wrap (a0.Size-1)))
def G94(a0:GNode):Option (Int×Int):=(T94 a0).den
theorem G94_ok(a0:GNode):Con Tryz.prog 111 [.t (eGNode a0)] (G94 a0) (fun (y:Int×Int)=>.tup [tI y.1,tI y.2]):=con Tryz.func111 ti_ok (T94 a0)
def T99(a0:GNode):TP (Int×Int):=.ret 10 (if a0.After>a0.Before then a0.After else a0.Before,0)
def G99(a0:GNode):Option (Int×Int):=(T99 a0).den
theorem G99_ok(a0:GNode):Con Tryz.prog 116 [.t (eGNode a0)] (G99 a0) (fun (y:Int×Int)=>.tup [tI y.1,tI y.2]):=con Tryz.func116 ti_ok (T99 a0)
def T101(a0:GNode):TP (Int×Int):=.ret 8 (i64.wrap (a0.Keep-1),0)
def G101(a0:GNode):Option (Int×Int):=(T101 a0).den
theorem G101_ok(a0:GNode):Con Tryz.prog 118 [.t (eGNode a0)] (G101 a0) (fun (y:Int×Int)=>.tup [tI y.1,tI y.2]):=con Tryz.func118 ti_ok (T101 a0)
def T103(a0:GNode):TP (Int×Int):=.ret 8 (i64.wrap (a0.Size-1),0)
def G103(a0:GNode):Option (Int×Int):=(T103 a0).den
theorem G103_ok(a0:GNode):Con Tryz.prog 120 [.t (eGNode a0)] (G103 a0) (fun (y:Int×Int)=>.tup [tI y.1,tI y.2]):=con Tryz.func120 ti_ok (T103 a0)
def T91(a0:GNode):TP Bool:=.ret 3 true
def G91(a0:GNode):Option Bool:=(T91 a0).den
theorem G91_ok(a0:GNode):Con Tryz.prog 108 [.t (eGNode a0)] (G91 a0) tB:=con Tryz.func108 ti_ok (T91 a0)
def T97(a0:Int)(a1:Int)(a2:Int):TP Bool:=.jn 5 0 (fun (j1:Bool)=>⟨[(6,tB j1)],[]⟩) (.ite 0 (decide (a0≥a1)) (.ret 5 (decide (a0≤a2))) (.ret 5 false)) fun j1=>.ret 0 j1
def G97(a0:Int)(a1:Int)(a2:Int):Option Bool:=(T97 a0 a1 a2).den
theorem G97_ok(a0:Int)(a1:Int)(a2:Int):Con Tryz.prog 114 [tI a0,tI a1,tI a2] (G97 a0 a1 a2) tB:=con Tryz.func114 ti_ok (T97 a0 a1 a2)
def T96(a0:GNode):TP Bool:=.ca 4 (G97_ok a0.Size 1 10000) fun r1=>.ret 1 r1
def G96(a0:GNode):Option Bool:=(T96 a0).den
theorem G96_ok(a0:GNode):Con Tryz.prog 113 [.t (eGNode a0)] (G96 a0) tB:=con Tryz.func113 ti_ok (T96 a0)
def T93(a0:GNode):TP Bool:=.ite 6 (a0.Kind==0) (.ca 1 (G96_ok a0) fun r1=>.ret 1 r1) (.ite 2 (a0.Kind==1) (.ca 1 (G96_ok a0) fun r2=>.jn 1 0 (fun (j3:Bool)=>⟨[(2,tB j3)],[]⟩) (.ite 0 r2 (.ite 5 (decide (a0.Step>0)) (.grd 5 (a0.Step≠0) <| .ret 3 ((Int.tmod a0.Size a0.Step)==0)) (.ret 8 false)) (.ret 13 false)) fun j3=>.ret 0 j3) (.ite 2 (a0.Kind==2) (.ca 1 (G96_ok a0) fun r4=>.jn 1 0 (fun (j5:Bool)=>⟨[(2,tB j5)],[]⟩) (.ite 0 r4 (.ca 4 (G97_ok a0.Step 1 a0.Size) fun r6=>.ret 2 r6) (.ret 7 false)) fun j5=>.ret 0 j5) (.ret 1 false)))
def G93(a0:GNode):Option Bool:=(T93 a0).den
theorem G93_ok(a0:GNode):Con Tryz.prog 110 [.t (eGNode a0)] (G93 a0) tB:=con Tryz.func110 ti_ok (T93 a0)
def T95(a0:GNode):TP Bool:=.ca 3 (G96_ok a0) fun r1=>.jn 1 0 (fun (j2:Bool)=>⟨[(2,tB j2)],[]⟩) (.ite 0 r1 (.ca 2 (G97_ok a0.Keep 1 100) fun r3=>.ret 2 r3) (.ret 5 false)) fun j2=>.ret 0 j2
def G95(a0:GNode):Option Bool:=(T95 a0).den
theorem G95_ok(a0:GNode):Con Tryz.prog 112 [.t (eGNode a0)] (G95 a0) tB:=con Tryz.func112 ti_ok (T95 a0)
def T98(a0:GNode):TP Bool:=.ca 4 (G97_ok a0.Before 0 10000) fun r1=>.jn 1 0 (fun (j2:Bool)=>⟨[(2,tB j2)],[]⟩) (.ite 0 r1 (.ca 2 (G97_ok a0.After 0 10000) fun r3=>.ret 2 r3) (.ret 5 false)) fun j2=>.ret 0 j2
def G98(a0:GNode):Option Bool:=(T98 a0).den
theorem G98_ok(a0:GNode):Con Tryz.prog 115 [.t (eGNode a0)] (G98 a0) tB:=con Tryz.func115 ti_ok (T98 a0)
def T100(a0:GNode):TP Bool:=.ca 4 (G97_ok a0.Keep 1 10000) fun r1=>.ret 1 r1
def G100(a0:GNode):Option Bool:=(T100 a0).den
theorem G100_ok(a0:GNode):Con Tryz.prog 117 [.t (eGNode a0)] (G100 a0) tB:=con Tryz.func117 ti_ok (T100 a0)
def T102(a0:GNode):TP Bool:=.ca 3 (G96_ok a0) fun r1=>.jn 1 0 (fun (j2:Bool)=>⟨[(2,tB j2)],[]⟩) (.ite 0 r1 (.ca 3 (G97_ok (a0.Seq.length:Int) 1 8) fun r3=>.ret 2 r3) (.ret 6 false)) fun j2=>.ret 0 j2
def G102(a0:GNode):Option Bool:=(T102 a0).den
theorem G102_ok(a0:GNode):Con Tryz.prog 119 [.t (eGNode a0)] (G102 a0) tB:=con Tryz.func119 ti_ok (T102 a0)
def V38:Nat→PV
 | 0=>.tup [.agg [tI 0,.lit (.nilFunc),.lit (.nilFunc),tB false],tB false]
 | 1=>.tup [.agg [tI 0,.fn (.func 108) 0 [],.fn (.func 109) 0 [],tB false],tB true]
 | 2=>.tup [.agg [tI 1,.fn (.func 108) 0 [],.fn (.func 109) 0 [],tB false],tB true]
 | 3=>.tup [.agg [tI 2,.fn (.func 108) 0 [],.fn (.func 109) 0 [],tB false],tB true]
 | 4=>.tup [.agg [tI 1,.fn (.func 110) 0 [],.fn (.func 111) 0 [],tB true],tB true]
 | 5=>.tup [.agg [tI 1,.fn (.func 112) 0 [],.fn (.func 111) 0 [],tB true],tB true]
 | 6=>.tup [.agg [tI 2,.fn (.func 115) 0 [],.fn (.func 116) 0 [],tB true],tB true]
 | 7=>.tup [.agg [tI 2,.fn (.func 117) 0 [],.fn (.func 118) 0 [],tB true],tB true]
 | 8=>.tup [.agg [tI 1,.fn (.func 119) 0 [],.fn (.func 120) 0 [],tB true],tB true]
 | _=>.any
def T38(a0:Int):TP Nat:=.ca 15 (G97_ok a0 0 8) fun r1=>.ite 1 (!r1) (.ret 3 0) (.sp 1 19 a0 0 (.gd 1 (0≤(0:Int)∧(0:Int)<(9:Int)) (by decide) <| .ret 3 1) (.sp 0 19 a0 1 (.gd 1 (0≤(1:Int)∧(1:Int)<(9:Int)) (by decide) <| .ret 3 2) (.sp 0 19 a0 2 (.gd 1 (0≤(2:Int)∧(2:Int)<(9:Int)) (by decide) <| .ret 3 2) (.sp 0 19 a0 3 (.gd 1 (0≤(3:Int)∧(3:Int)<(9:Int)) (by decide) <| .ret 3 3) (.sp 0 19 a0 4 (.gd 1 (0≤(4:Int)∧(4:Int)<(9:Int)) (by decide) <| .ret 3 4) (.sp 0 19 a0 5 (.gd 1 (0≤(5:Int)∧(5:Int)<(9:Int)) (by decide) <| .ret 3 5) (.sp 0 19 a0 6 (.gd 1 (0≤(6:Int)∧(6:Int)<(9:Int)) (by decide) <| .ret 3 6) (.sp 0 19 a0 7 (.gd 1 (0≤(7:Int)∧(7:Int)<(9:Int)) (by decide) <| .ret 3 7) (.sp 0 19 a0 8 (.gd 1 (0≤(8:Int)∧(8:Int)<(9:Int)) (by decide) <| .ret 3 8) (.no))))))))))
def G38(a0:Int):Option Nat:=(T38 a0).den
theorem G38_ok(a0:Int):Con Tryz.prog 65 [tI a0] (G38 a0) (fun (y:Nat)=>V38 y):=con Tryz.func65 ti_ok (T38 a0)
def T37(a0:GNode):TP Bool:=.cas 4 (G38_ok a0.Op) 9 fun r1=>match r1 with | 0=>.ret 14 false | 1=>.ca 11 (G91_ok a0) fun r2=>.ret 2 r2 | 2=>.ca 11 (G91_ok a0) fun r3=>.ret 2 r3 | 3=>.ca 11 (G91_ok a0) fun r4=>.ret 2 r4 | 4=>.ca 11 (G93_ok a0) fun r5=>.ret 2 r5 | 5=>.ca 11 (G95_ok a0) fun r6=>.ret 2 r6 | 6=>.ca 11 (G98_ok a0) fun r7=>.ret 2 r7 | 7=>.ca 11 (G100_ok a0) fun r8=>.ret 2 r8 | 8=>.ca 11 (G102_ok a0) fun r9=>.ret 2 r9 | _=>.no
def G37(a0:GNode):Option Bool:=(T37 a0).den
theorem G37_ok(a0:GNode):Con Tryz.prog 64 [.t (eGNode a0)] (G37 a0) tB:=con Tryz.func64 ti_ok (T37 a0)
def T10(a0:GNode):TP (Int×Int):=.ca 4 (G37_ok a0) fun r1=>.ite 1 (!r1) (.ret 2 (0,0)) (.cas 2 (G38_ok a0.Op) 9 fun r2=>match r2 with | 0=>.no | 1=>.ca 9 (G92_ok a0) fun r3=>.ret 4 (r3.1,r3.2) | 2=>.ca 9 (G92_ok a0) fun r4=>.ret 4 (r4.1,r4.2) | 3=>.ca 9 (G92_ok a0) fun r5=>.ret 4 (r5.1,r5.2) | 4=>.ca 9 (G94_ok a0) fun r6=>.ret 4 (r6.1,r6.2) | 5=>.ca 9 (G94_ok a0) fun r7=>.ret 4 (r7.1,r7.2) | 6=>.ca 9 (G99_ok a0) fun r8=>.ret 4 (r8.1,r8.2) | 7=>.ca 9 (G101_ok a0) fun r9=>.ret 4 (r9.1,r9.2) | 8=>.ca 9 (G103_ok a0) fun r10=>.ret 4 (r10.1,r10.2) | _=>.no)
def G10(a0:GNode):Option (Int×Int):=(T10 a0).den
theorem G10_ok(a0:GNode):Con Tryz.prog 24 [.t (eGNode a0)] (G10 a0) (fun (y:Int×Int)=>.tup [tI y.1,tI y.2]):=con Tryz.func24 ti_ok (T10 a0)
def T40s1(a0:GDelta)(qv0:Int):TP Bool:=.ret 7 (decide (a0.Time≤qv0))
def G40s1(a0:GDelta)(qv0:Int):Option Bool:=(T40s1 a0 qv0).den
theorem G40s1_ok(a0:GDelta)(qv0:Int):ConH Tryz.prog 100 [.t (eGDelta a0),.ptr 30001 0] [(30001,.box (([.int .i64 qv0]).map .t))] [30001] (G40s1 a0 qv0) tB (fun (y:Bool)=>[(30001,.box (([.int .i64 qv0]).map .t))]):=conH Tryz.func100 ti_ok (T40s1 a0 qv0)
def T105s1_L0(qul:LD)(qv0:Int):Int→TP ((Int)⊕((Unit)⊕Int))
 | v1=>.ite 1 (decide (v1<(qul.length:Int))) (.grd 6 (0≤v1∧v1<(qul.length:Int)) <| .grd 1 ((v1).toNat<qul.length) <| .ch 0 [] (G40s1_ok (qul.getD v1.toNat default) qv0) fun r2=>.ite 0 r2 (.ret 2 (.inr (.inr v1))) (.ret 2 (.inl (i64.wrap (v1+1))))) (.ret 0 (.inr (.inl ())))
def T105s1(qul:LD)(qv0:Int):TP Int:=.lp 4 (fun (v1:Int)=>⟨[(0,.own 30000),(1,.fn (.func 100) 0 [.ptr 30001 0]),(7,tI (qul.length:Int)),(8,tI v1)],[(30000,aD qul),(30001,.box (([.int .i64 qv0]).map .t))]⟩) (fun (_:Unit)=>⟨[],[(30000,aD qul),(30001,.box (([.int .i64 qv0]).map .t))]⟩) 0 0 (T105s1_L0 qul qv0) fun _=>.ret 1 (-1)
def G105s1(qul:LD)(qv0:Int):Option Int:=(T105s1 qul qv0).den
theorem G105s1_ok(qul:LD)(qv0:Int):ConH Tryz.prog 124 [.own 30000,.fn (.func 100) 0 [.ptr 30001 0]] [(30000,aD qul),(30001,.box (([.int .i64 qv0]).map .t))] [30000,30001] (G105s1 qul qv0) tI (fun (y:Int)=>[(30000,aD qul),(30001,.box (([.int .i64 qv0]).map .t))]):=conH Tryz.func124 ti_ok (T105s1 qul qv0)
def T41s2_L0(qv0:Int):(LD×Int×Int)→TP ((LD×Int×Int)⊕((LD×Int)⊕LD))
 | (v2,v3,v4)=>.ite 4 (decide (v4<(v2.length:Int))) (.grd 3 (0≤v4∧v4<(v2.length:Int)) <| .grd 1 ((v4).toNat<v2.length) <| .ch 4 [] (G40s1_ok (v2.getD v4.toNat default) qv0) fun r7=>.jn 1 0 (fun ((j8,j9):LD×Int)=>⟨[(0,.own 0),(1,.fn (.func 100) 0 [.ptr 30001 0]),(5,tI j9),(6,tI v4)],[(0,aD j8),(30001,.box (([.int .i64 qv0]).map .t))]⟩) (.ite 0 (!r7) (.grd 4 (0≤v3∧v3<(v2.length:Int)) <| .grd 1 ((v3).toNat<v2.length) <| .sto 0 0 cGDelta v2 [((v3).toNat,v2.getD v4.toNat default)] <| .ret 3 (v2.set v3.toNat (v2.getD v4.toNat default),i64.wrap (v3+1))) (.ret 0 (v2,v3))) fun (j8,j9)=>.ret 3 (.inl (j8,j9,i64.wrap (v4+1)))) (.ret 0 (.inr (.inl (v2,v3))))
def T41s2(qul:LD)(qv0:Int):TP LD:=.ch 3 [] (G105s1_ok qul qv0) fun r1=>.ite 3 (r1==(-1)) (.cv 2 [.fr 30000 (eL cGDelta qul)] <| .ret 0 qul) (.cv 3 [.rn 30000 0] <| .lp 0 (fun ((v2,v3,v4):LD×Int×Int)=>⟨[(0,.own 0),(1,.fn (.func 100) 0 [.ptr 30001 0]),(5,tI v3),(6,tI v4)],[(0,aD v2),(30001,.box (([.int .i64 qv0]).map .t))]⟩) (fun ((b5,b6):LD×Int)=>⟨[(0,.own 0),(5,tI b6)],[(0,aD b5),(30001,.box (([.int .i64 qv0]).map .t))]⟩) 0 (qul,r1,i64.wrap (r1+1)) (T41s2_L0 qv0) fun (b5,b6)=>.clr 2 cGDelta b5 b6 <| .cut 2 cGDelta (b5.take b6.toNat++List.replicate (b5.length-b6.toNat) default) b6 <| .cv 1 [.fr 41 (eL cGDelta ((b5.take b6.toNat++List.replicate (b5.length-b6.toNat) default).take b6.toNat))] <| .ret 0 ((b5.take b6.toNat++List.replicate (b5.length-b6.toNat) default).take b6.toNat))
def G41s2(qul:LD)(qv0:Int):Option LD:=(T41s2 qul qv0).den
theorem G41s2_ok(qul:LD)(qv0:Int):ConH Tryz.prog 101 [.own 30000,.fn (.func 100) 0 [.ptr 30001 0]] [(30000,aD qul),(30001,.box (([.int .i64 qv0]).map .t))] [30001] (G41s2 qul qv0) tD (fun (y:LD)=>[(30001,.box (([.int .i64 qv0]).map .t))]):=conH Tryz.func101 ti_ok (T41s2 qul qv0)
def T14(a0:LD)(a1:Int):TP LD:=.ch 5 [40000] (G42s0_ok a0) fun r1=>.cv 0 [.rn 40000 8] <| .cv 1 [.rn 8 30000] <| .cv 0 [.rn 3 30001] <| .ch 0 [] (G41s2_ok r1 a1) fun r2=>.ch 0 [40000] (G27s0_ok r2) fun r3=>.cv 0 [.rn 40000 11] <| .cv 1 [.fr 11 (eL cGDelta r3)] <| .ret 0 r3
def G14(a0:LD)(a1:Int):Option LD:=(T14 a0 a1).den
theorem G14_ok(a0:LD)(a1:Int):Con Tryz.prog 49 [tD a0,tI a1] (G14 a0 a1) tD:=con Tryz.func49 ti_ok (T14 a0 a1)
def T32s0_L1(a1:Int)(qu0:GNode)(r1:Int×Int)(v2:List ByteArray)(v3:LS)(k6:ByteArray):(LD×LD×Int)→TP ((LD×LD×Int)⊕((LD×LD)⊕(((List ByteArray)×LS)⊕(((List ByteArray)×LS)⊕((LS)×Int)))))
 | (v8,v9,v10)=>.ite 1 (decide (v10<2)) (.jn 2 0 (fun ((j13,j14):LD×LD)=>⟨[(0,.ptr 30000 0),(1,tI a1),(4,tI r1.1),(6,.t (.str k6)),(7,.ptr 32 0),(31,.ptr 31 0),(37,tI v10)],[(32,.box [tD j13,tD j14]),(30000,bOp qu0 30001 a1),(30001,.mp (some ⟨31,kTs (kerase v2 k6:List ByteArray),some (.str k6)⟩) (eM mS (mdel v3 k6:LS)) (some (.str k6,some (.ptr 32 0))))]⟩) (.sp 0 8 v10 0 (.dg 6 (0≤(0:Int)∧(0:Int)<(2:Int)) <| .dc 11 [tD v8,tI (i64.wrap (a1-r1.1))] (G14_ok v8 (i64.wrap (a1-r1.1))) fun r15=>.dg 14 (0≤(0:Int)∧(0:Int)<(2:Int)) <| .dr 0 0 [(32,false,[15]),(30000,false,[]),(30001,false,[])] [0,1,4,6,7,8,31,37,38,39] <| .ret 0 (r15,v9)) (.sp 0 8 v10 1 (.dg 6 (0≤(1:Int)∧(1:Int)<(2:Int)) <| .dc 11 [tD v9,tI (i64.wrap (a1-r1.1))] (G14_ok v9 (i64.wrap (a1-r1.1))) fun r16=>.dg 14 (0≤(1:Int)∧(1:Int)<(2:Int)) <| .dr 0 0 [(32,false,[15]),(30000,false,[]),(30001,false,[])] [0,1,4,6,7,8,31,37,38,39] <| .ret 0 (v8,r16)) (.no))) fun (j13,j14)=>.ret 2 (.inl (j13,j14,i64.wrap (v10+1)))) (.ret 0 (.inr (.inl (v8,v9))))
def T32s0_L0(a1:Int)(qu0:GNode)(r1:Int×Int):((List ByteArray)×LS)→TP (((List ByteArray)×LS)⊕(((List ByteArray)×LS)⊕((LS)×Int)))
 | (v2,v3)=>.nxb 0 cGSide (v3:LS) (v2:List ByteArray) (.ret 2 (.inr (.inl (v2,v3)))) fun k6 c7=>.gd 3 ((.str k6:T) = .str k6) rfl <| .lp 5 (fun ((v8,v9,v10):LD×LD×Int)=>⟨[(0,.ptr 30000 0),(1,tI a1),(4,tI r1.1),(6,.t (.str k6)),(7,.ptr 32 0),(31,.ptr 31 0),(37,tI v10)],[(32,.box [tD v8,tD v9]),(30000,bOp qu0 30001 a1),(30001,.mp (some ⟨31,kTs (kerase v2 k6:List ByteArray),some (.str k6)⟩) (eM mS (mdel v3 k6:LS)) (some (.str k6,some (.ptr 32 0))))]⟩) (fun ((b11,b12):LD×LD)=>⟨[(0,.ptr 30000 0),(1,tI a1),(4,tI r1.1),(6,.t (.str k6)),(7,.ptr 32 0),(31,.ptr 31 0)],[(32,.box [tD b11,tD b12]),(30000,bOp qu0 30001 a1),(30001,.mp (some ⟨31,kTs (kerase v2 k6:List ByteArray),some (.str k6)⟩) (eM mS (mdel v3 k6:LS)) (some (.str k6,some (.ptr 32 0))))]⟩) 2 (c7.rows_.e0,c7.rows_.e1,0) (T32s0_L1 a1 qu0 r1 v2 v3 k6) fun (b11,b12)=>.dg 3 (0≤(0:Int)∧(0:Int)<(2:Int)) <| .dg 9 (0≤(1:Int)∧(1:Int)<(2:Int)) <| .dr 0 0 [(32,false,[]),(30000,false,[]),(30001,false,[])] [0,1,4,6,7,31] <| .jn 0 0 (fun (j17:LS)=>⟨[(0,.ptr 30000 0),(1,tI a1),(4,tI r1.1),(31,.ptr 31 0)],[(30000,bOp qu0 30001 a1),(30001,.mp (some ⟨31,kTs (kerase v2 k6:List ByteArray),none⟩) (eM mS (j17:LS)) none)]⟩) (.ite 0 ((i64.wrap ((b11.length:Int)+(b12.length:Int)))==0) (.dlt 5 mS (mdel v3 k6:LS) k6 (some (.ptr 32 0)) <| .ret 0 (mdel v3 k6)) (.cv 0 [.fb 30001 32 cGSide (v3:LS) k6 (GSide.mk (A2_ListGDelta.mk b11 b12)),.nc 30001] <| .ret 0 (mput v3 k6 ((GSide.mk (A2_ListGDelta.mk b11 b12)):GSide)))) fun j17=>.ret 0 (.inl (kerase v2 k6,j17))
def T32s0(a1:Int)(qu0:GNode)(qu1:Int)(qum:LS):TP ((LS)×Int):=.ite 6 (decide (a1≤qu1)) (.ret 0 (qum,qu1)) (.ca 9 (G10_ok qu0) fun r1=>.rng 9 mS (qum:LS) <| .lp 0 (fun ((v2,v3):(List ByteArray)×LS)=>⟨[(0,.ptr 30000 0),(1,tI a1),(4,tI r1.1),(31,.ptr 31 0)],[(30000,bOp qu0 30001 a1),(30001,.mp (some ⟨31,kTs (v2:List ByteArray),none⟩) (eM mS (v3:LS)) none)]⟩) (fun ((b4,b5):(List ByteArray)×LS)=>⟨[],[(30000,bOp qu0 30001 a1),(30001,.mp (some ⟨31,kTs (b4:List ByteArray),none⟩) (eM mS (b5:LS)) none)]⟩) 0 (mkeys qum,qum) (T32s0_L0 a1 qu0 r1) fun (b4,b5)=>.cv 0 [.ni 30001] <| .ret 0 (b5,a1))
def G32s0(a1:Int)(qu0:GNode)(qu1:Int)(qum:LS):Option ((LS)×Int):=Det (T32s0 a1 qu0 qu1 qum)
theorem G32s0_ok(a1:Int)(qu0:GNode)(qu1:Int)(qum:LS):ConH Tryz.prog 16 [.ptr 30000 0,tI a1] [(30000,bOp qu0 30001 qu1),(30001,mM (qum:LS))] [30000,30001] (G32s0 a1 qu0 qu1 qum) (fun (y:LS×Int)=>.tup []) (fun (y:LS×Int)=>[(30000,bOp qu0 30001 y.2),(30001,mM (y.1:LS))]):=conHD Tryz.func16 ti_ok (T32s0 a1 qu0 qu1 qum)
def T16s0(qu0:GNode)(qu1:Int)(qum:LS):TP Bool:=.mlen 5 mS (qum:LS) <| .ret 2 ((qum.length:Int)==0)
def G16s0(qu0:GNode)(qu1:Int)(qum:LS):Option Bool:=(T16s0 qu0 qu1 qum).den
theorem G16s0_ok(qu0:GNode)(qu1:Int)(qum:LS):ConH Tryz.prog 17 [.ptr 30000 0] [(30000,bOp qu0 30001 qu1),(30001,mM (qum:LS))] [30000,30001] (G16s0 qu0 qu1 qum) tB (fun (y:Bool)=>[(30000,bOp qu0 30001 qu1),(30001,mM (qum:LS))]):=conH Tryz.func17 ti_ok (T16s0 qu0 qu1 qum)
def T36(a0:List Int):TP (List Int):=.jn 2 0 (fun (j1:Bool)=>⟨[(0,.t (eL cInt a0)),(4,tB j1)],[]⟩) (.ndb 0 a0.length (.ret 0 true) (.ret 0 false)) fun j1=>.ite 0 j1 (.cv 1 [.sl 2 (eL cInt ([]:List Int))] <| .ret 0 ([]:List Int)) (.bs 0 true cInt ([]:List Int) <| .grd 2 ((([]:List Int).length+a0.length)*8≤140737488355328) <| .cv 0 [.ap 7 cInt ([]:List Int) a0] <| .cv 1 [.fr 7 (eL cInt (([]:List Int)++a0))] <| .ret 0 (([]:List Int)++a0))
def G36(a0:List Int):Option (List Int):=Det (T36 a0)
theorem G36_ok(a0:List Int):Con Tryz.prog 21 [.t (eL cInt a0)] (G36 a0) (fun (y:(List Int))=>.t (eL cInt y)):=conD Tryz.func21 ti_ok (T36 a0)
def T9s0(a0:GNode):TP (GNode×Int×LS):=.dc 2 [.t (eL cInt (a0.Key))] (G36_ok a0.Key) fun r1=>.dc 5 [.t (eL cInt (a0.Key2))] (G36_ok a0.Key2) fun r2=>.dr 2 0 [(1,false,[7,9])] [0,1,2] <| .mk (K:=ByteArray) 1 mS <| .cv 3 [.rn 14 40000,.rn 12 41001] <| .ret 0 ((GNode.mk a0.Op a0.In a0.Source a0.Schema a0.Exprs a0.Kind a0.Size a0.Step r1 r2 a0.Before a0.After a0.Keep a0.Aggs a0.Seq a0.Cols),(-1),([]:LS))
def G9s0(a0:GNode):Option (GNode×Int×LS):=(T9s0 a0).den
theorem G9s0_ok(a0:GNode):ConH Tryz.prog 6 [.t (eGNode a0)] [] [] (G9s0 a0) (fun (y:GNode×Int×LS)=>.ptr 40000 0) (fun (y:GNode×Int×LS)=>[(40000,bOp y.1 41001 y.2.1),(41001,mM (y.2.2:LS))]):=conH Tryz.func6 ti_ok (T9s0 a0)
def T7:TP Bool:=.bs 1 false cInt ([0]:List Int) <| .bs 0 false cInt ([0]:List Int) <| .cv 1 [.sl 7 (eGNode (GNode.mk 6 ([]:List Int) (⟨#[]⟩) 0 ([]:List Expr) 0 0 0 ([0]:List Int) ([0]:List Int) 2 5 0 ([]:List GAgg) ([]:List GPat) ([]:List GCol)))] <| .ch 0 [40000,41001] (G9s0_ok (GNode.mk 6 ([]:List Int) (⟨#[]⟩) 0 ([]:List Expr) 0 0 0 ([0]:List Int) ([0]:List Int) 2 5 0 ([]:List GAgg) ([]:List GPat) ([]:List GCol))) fun r1=>.cv 0 [.rn 40000 8,.rn 41001 15801] <| .ca 5 (G31_ok 3 1) fun r2=>.bs 0 false cGDelta ([r2]:LD) <| .cv 0 [.rn 8 30000] <| .cv 0 [.rn 15801 30001] <| .ch 0 [] (G25s0_ok 0 ([r2]:LD) r1.1 r1.2.1 r1.2.2) fun r3=>.ca 2 (G31_ok 8 1) fun r4=>.ca 0 (G31_ok 9 1) fun r5=>.bs 0 false cGDelta ([r4,r5]:LD) <| .ch 0 [] (G25s0_ok 1 ([r4,r5]:LD) r1.1 r1.2.1 r3.2) fun r6=>.ca 2 (G31_ok 3 (-1)) fun r7=>.bs 0 false cGDelta ([r7]:LD) <| .ch 0 [] (G25s0_ok 0 ([r7]:LD) r1.1 r1.2.1 r6.2) fun r8=>.ch 2 [] (G32s0_ok 13 r1.1 r1.2.1 r8.2) fun r9=>.jn 4 0 (fun (j10:Bool)=>⟨[(1,.ptr 30000 0),(3,tD r6.1),(4,tD r8.1),(38,tB j10)],[(30000,bOp r1.1 30001 r9.2),(30001,mM (r9.1:LS))]⟩) (.ite 0 ((r3.1.length:Int) != 0) (.ret 9 true) (.ite 5 ((r6.1.length:Int) != 1) (.ret 4 true) (.ret 4 ((r8.1.length:Int) != 1)))) fun j10=>.ite 0 j10 (.ret 1 false) (.grd 2 (0≤(0:Int)∧(0:Int)<(r6.1.length:Int)) <| .jn 4 0 (fun (j11:Bool)=>⟨[(0,tB j11)],[]⟩) (.ite 0 (((r6.1.getD (0:Int).toNat default).Time)==8) (.grd 2 (0≤(0:Int)∧(0:Int)<(r6.1.length:Int)) <| .ite 5 (((r6.1.getD (0:Int).toNat default).N)==1) (.grd 2 (0≤(0:Int)∧(0:Int)<(r6.1.length:Int)) <| .ite 6 ((((r6.1.getD (0:Int).toNat default).Row).length:Int)==2) (.grd 2 (0≤(0:Int)∧(0:Int)<(r8.1.length:Int)) <| .ite 5 (((r8.1.getD (0:Int).toNat default).Time)==8) (.grd 2 (0≤(0:Int)∧(0:Int)<(r8.1.length:Int)) <| .ite 5 (((r8.1.getD (0:Int).toNat default).N)==(-1)) (.ch 1 [] (G15s0_ok r1.1 r9.2 r9.1) fun r12=>.ite 3 (r12.1==1) (.ch 1 [] (G16s0_ok r1.1 r9.2 r12.2) fun r13=>.ret 3 (!r13)) (.ret 5 false)) (.ret 10 false)) (.ret 17 false)) (.ret 24 false)) (.ret 32 false)) (.ret 39 false)) fun j11=>.ret 0 j11)
def G7:Option Bool:=T7.den
theorem G7_ok:Con Tryz.prog 4 [] G7 tB:=con Tryz.func4 ti_ok (T7)
abbrev R79:={f:Expr→Option Int // ∀ a:Expr,Con Tryz.prog 50 [.t (eExpr a)] (f a) tI}
def T79_L0(rec:R79)(a0:Expr):(Int×Int)→TP ((Int×Int)⊕((Int)⊕Int))
 | (v1,v2)=>.ite 5 (decide (v2<(a0.Args.length:Int))) (.grd 5 (0≤v2∧v2<(a0.Args.length:Int)) <| .ca 1 (rec.2 (a0.Args.getD v2.toNat default)) fun r4=>.ret 5 (.inl (i64.wrap (v1+r4),i64.wrap (v2+1)))) (.ret 0 (.inr (.inl v1)))
def T79(rec:R79)(a0:Expr):TP Int:=.lp 4 (fun ((v1,v2):Int×Int)=>⟨[(1,.ptr 1 0),(3,tI v1),(4,tI v2)],[(1,.box ((exprCells a0).map .t))]⟩) (fun (b3:Int)=>⟨[(3,tI b3)],[]⟩) 0 (1,0) (T79_L0 rec a0) fun b3=>.ret 2 b3
theorem T79_ok(rec:R79)(a0:Expr):Con Tryz.prog 50 [.t (eExpr a0)] (T79 rec a0).den tI:=con Tryz.func50 ti_ok (T79 rec a0)
def H79(a:Expr):Option Int:=fixF (C:=fun (a:Expr) (x:Option Int)=>Con Tryz.prog 50 [.t (eExpr a)] x tI) (fun a=>⟨callable_of Tryz.func50 (by kernel_rfl),fun _ h=>nomatch h⟩) (fun rec a=>T79 rec a) (fun rec a=>T79_ok rec a) a
theorem H79_ok(a:Expr):Con Tryz.prog 50 [.t (eExpr a)] (H79 a) tI:=fixF_ok (C:=fun (a:Expr) (x:Option Int)=>Con Tryz.prog 50 [.t (eExpr a)] x tI) _ _ _ a
def G79(a0:Expr):Option Int:=H79 a0
theorem G79_ok(a0:Expr):Con Tryz.prog 50 [.t (eExpr a0)] (G79 a0) tI:=H79_ok a0
abbrev R80:={f:Expr→Option Int // ∀ a:Expr,Con Tryz.prog 51 [.t (eExpr a)] (f a) tI}
def T80_L0(rec:R80)(a0:Expr):(Int×Int)→TP ((Int×Int)⊕((Int)⊕Int))
 | (v1,v2)=>.ite 5 (decide (v2<(a0.Args.length:Int))) (.grd 5 (0≤v2∧v2<(a0.Args.length:Int)) <| .ca 1 (rec.2 (a0.Args.getD v2.toNat default)) fun r4=>.ret 5 (.inl (if r4>v1 then r4 else v1,i64.wrap (v2+1)))) (.ret 0 (.inr (.inl v1)))
def T80(rec:R80)(a0:Expr):TP Int:=.lp 4 (fun ((v1,v2):Int×Int)=>⟨[(1,.ptr 1 0),(3,tI v1),(4,tI v2)],[(1,.box ((exprCells a0).map .t))]⟩) (fun (b3:Int)=>⟨[(3,tI b3)],[]⟩) 0 (0,0) (T80_L0 rec a0) fun b3=>.ret 3 (i64.wrap (b3+1))
theorem T80_ok(rec:R80)(a0:Expr):Con Tryz.prog 51 [.t (eExpr a0)] (T80 rec a0).den tI:=con Tryz.func51 ti_ok (T80 rec a0)
def H80(a:Expr):Option Int:=fixF (C:=fun (a:Expr) (x:Option Int)=>Con Tryz.prog 51 [.t (eExpr a)] x tI) (fun a=>⟨callable_of Tryz.func51 (by kernel_rfl),fun _ h=>nomatch h⟩) (fun rec a=>T80 rec a) (fun rec a=>T80_ok rec a) a
theorem H80_ok(a:Expr):Con Tryz.prog 51 [.t (eExpr a)] (H80 a) tI:=fixF_ok (C:=fun (a:Expr) (x:Option Int)=>Con Tryz.prog 51 [.t (eExpr a)] x tI) _ _ _ a
def G80(a0:Expr):Option Int:=H80 a0
theorem G80_ok(a0:Expr):Con Tryz.prog 51 [.t (eExpr a0)] (G80 a0) tI:=H80_ok a0
abbrev R150:={f:((List Int)×Expr)→Option Int // ∀ a:(List Int)×Expr,Con Tryz.prog 102 [.t (eL cInt (a.1)),.t (eExpr a.2)] (f a) tI}
def T150_L0(rec:R150)(a0:List Int)(a1:Expr):((List Int)×Int)→TP (((List Int)×Int)⊕((List Int)⊕Int))
 | (v1,v2)=>.ite 5 (decide (v2<(a1.Args.length:Int))) (.grd 6 (0≤v2∧v2<(a1.Args.length:Int)) <| .ca 1 (rec.2 (a0,a1.Args.getD v2.toNat default)) fun r4=>.bs 0 false cInt ([r4]:List Int) <| .grd 1 ((v1.length+([r4]:List Int).length)*8≤140737488355328) <| .cv 0 [.ap 25 cInt v1 ([r4]:List Int)] <| .cv 4 [.rn 25 6] <| .ret 0 (.inl (v1++([r4]:List Int),i64.wrap (v2+1)))) (.ret 0 (.inr (.inl v1)))
def T150_L1:(Int×(List Int)×Int)→TP ((Int×(List Int)×Int)⊕((Int)⊕Int))
 | (v7,v8,v9)=>.ite 4 (decide (v9<(v8.length:Int))) (.grd 4 (0≤v9∧v9<(v8.length:Int)) <| .grd 1 ((v9).toNat<v8.length) <| .ret 6 (.inl (if (1099511627776:Int)<(i64.wrap (v7+(v8.getD v9.toNat default))) then (1099511627776:Int) else (i64.wrap (v7+(v8.getD v9.toNat default))),v8,i64.wrap (v9+1)))) (.ret 0 (.inr (.inl v7)))
def T150(rec:R150)(a0:List Int)(a1:Expr):TP Int:=.cv 5 [.th 6 6 3 1 (eF cInt ([]:List Int))] <| .lp 0 (fun ((v1,v2):(List Int)×Int)=>⟨[(0,.t (eL cInt a0)),(3,.ptr 3 0),(5,tI 1),(6,.own 6),(7,tI v2)],[(3,.box ((exprCells a1).map .t)),(6,.arr 3 1 (v1.length) (eF cInt v1))]⟩) (fun (b3:(List Int))=>⟨[(0,.t (eL cInt a0)),(3,.ptr 3 0),(5,tI 1),(6,.own 6)],[(3,.box ((exprCells a1).map .t)),(6,.arr 3 1 (b3.length) (eF cInt b3))]⟩) 0 (([]:List Int),0) (T150_L0 rec a0 a1) fun b3=>.jn 4 0 (fun ((j5,j6):(List Int)×Bool)=>⟨[(0,.t (eL cInt a0)),(3,.ptr 3 0),(5,tI 1),(6,.own 6),(33,tB j6)],[(3,.box ((exprCells a1).map .t)),(6,.arr 3 1 (j5.length) (eF cInt j5))]⟩) (.ite 0 (a1.Op==21) (.ret 4 (b3,(b3.length:Int)==3)) (.ret 4 (b3,false))) fun (j5,j6)=>.ite 0 j6 (.dg 1 (0≤(0:Int)∧(0:Int)<(j5.length:Int)) <| .dg 2 ((0:Int).toNat<j5.length) <| .dg 5 (0≤(1:Int)∧(1:Int)<(j5.length:Int)) <| .dg 6 ((1:Int).toNat<j5.length) <| .dg 8 (0≤(2:Int)∧(2:Int)<(j5.length:Int)) <| .dg 9 ((2:Int).toNat<j5.length) <| .dr 0 0 [(3,false,[]),(6,false,[])] [0,3,5,6,33] <| .ret 0 (if (1099511627776:Int)<(i64.wrap ((i64.wrap (1+(j5.getD (0:Int).toNat default)))+(if (j5.getD (2:Int).toNat default)>(j5.getD (1:Int).toNat default) then (j5.getD (2:Int).toNat default) else (j5.getD (1:Int).toNat default)))) then (1099511627776:Int) else (i64.wrap ((i64.wrap (1+(j5.getD (0:Int).toNat default)))+(if (j5.getD (2:Int).toNat default)>(j5.getD (1:Int).toNat default) then (j5.getD (2:Int).toNat default) else (j5.getD (1:Int).toNat default)))))) (.lp 1 (fun ((v7,v8,v9):Int×(List Int)×Int)=>⟨[(0,.t (eL cInt a0)),(3,.ptr 3 0),(5,tI v7),(6,.own 6),(8,tI v9)],[(3,.box ((exprCells a1).map .t)),(6,.arr 3 1 (v8.length) (eF cInt v8))]⟩) (fun (b10:Int)=>⟨[(0,.t (eL cInt a0)),(3,.ptr 3 0),(5,tI b10)],[(3,.box ((exprCells a1).map .t))]⟩) 2 (1,j5,0) T150_L1 fun b10=>.jn 4 0 (fun (j11:Bool)=>⟨[(0,.t (eL cInt a0)),(3,.ptr 3 0),(5,tI b10),(74,tB j11)],[(3,.box ((exprCells a1).map .t))]⟩) (.ite 0 (a1.Op==22) (.ite 5 (decide (a1.N≥0)) (.ret 6 (decide (a1.N<(a0.length:Int)))) (.ret 6 false)) (.ret 11 false)) fun j11=>.jn 0 0 (fun (j12:Int)=>⟨[(5,tI j12)],[]⟩) (.ite 0 j11 (.grd 5 (0≤a1.N∧a1.N<(a0.length:Int)) <| .ret 4 (if (1099511627776:Int)<(i64.wrap (b10+(a0.getD (a1.N).toNat default))) then (1099511627776:Int) else (i64.wrap (b10+(a0.getD (a1.N).toNat default))))) (.ret 0 b10)) fun j12=>.ret 2 j12)
theorem T150_ok(rec:R150)(a0:List Int)(a1:Expr):Con Tryz.prog 102 [.t (eL cInt a0),.t (eExpr a1)] (T150 rec a0 a1).den tI:=con Tryz.func102 ti_ok (T150 rec a0 a1)
def H150(a:(List Int)×Expr):Option Int:=fixF (C:=fun (a:(List Int)×Expr) (x:Option Int)=>Con Tryz.prog 102 [.t (eL cInt (a.1)),.t (eExpr a.2)] x tI) (fun a=>⟨callable_of Tryz.func102 (by kernel_rfl),fun _ h=>nomatch h⟩) (fun rec a=>T150 rec a.1 a.2) (fun rec a=>T150_ok rec a.1 a.2) a
theorem H150_ok(a:(List Int)×Expr):Con Tryz.prog 102 [.t (eL cInt (a.1)),.t (eExpr a.2)] (H150 a) tI:=fixF_ok (C:=fun (a:(List Int)×Expr) (x:Option Int)=>Con Tryz.prog 102 [.t (eL cInt (a.1)),.t (eExpr a.2)] x tI) _ _ _ a
def G150(a0:List Int)(a1:Expr):Option Int:=H150 (a0,a1)
theorem G150_ok(a0:List Int)(a1:Expr):Con Tryz.prog 102 [.t (eL cInt a0),.t (eExpr a1)] (G150 a0 a1) tI:=H150_ok (a0,a1)
def T81_L0(a0:List GFunc):((List Int)×Int)→TP (((List Int)×Int)⊕((List Int)⊕Int))
 | (v1,v2)=>.ite 4 (decide (v2<(a0.length:Int))) (.grd 5 (0≤v2∧v2<(a0.length:Int)) <| .ca 2 (G150_ok v1 ((a0.getD v2.toNat default).Body)) fun r4=>.bs 0 false cInt ([r4]:List Int) <| .grd 1 ((v1.length+([r4]:List Int).length)*8≤140737488355328) <| .cv 0 [.ap 22 cInt v1 ([r4]:List Int)] <| .cv 4 [.rn 22 5] <| .ret 0 (.inl (v1++([r4]:List Int),i64.wrap (v2+1)))) (.ret 0 (.inr (.inl v1)))
def T81(a0:List GFunc)(a1:Expr):TP Int:=.cv 4 [.th 5 5 3 1 (eF cInt ([]:List Int))] <| .lp 0 (fun ((v1,v2):(List Int)×Int)=>⟨[(0,.t (eL cGFunc a0)),(3,.ptr 3 0),(5,.own 5),(6,tI v2)],[(3,.box ((exprCells a1).map .t)),(5,.arr 3 1 (v1.length) (eF cInt v1))]⟩) (fun (b3:(List Int))=>⟨[(3,.ptr 3 0),(5,.own 5)],[(3,.box ((exprCells a1).map .t)),(5,.arr 3 1 (b3.length) (eF cInt b3))]⟩) 0 (([]:List Int),0) (T81_L0 a0) fun b3=>.ca 2 (G150_ok b3 a1) fun r5=>.ret 1 r5
def G81(a0:List GFunc)(a1:Expr):Option Int:=(T81 a0 a1).den
theorem G81_ok(a0:List GFunc)(a1:Expr):Con Tryz.prog 52 [.t (eL cGFunc a0),.t (eExpr a1)] (G81 a0 a1) tI:=con Tryz.func52 ti_ok (T81 a0 a1)
def T33_L0(a0:List GFunc)(a1:GNode):Int→TP ((Int)⊕((Unit)⊕Bool))
 | v1=>.jn 5 0 (fun (j2:Bool)=>⟨[(0,.t (eL cGFunc a0)),(3,.ptr 3 0),(5,tI v1),(15,tB j2)],[(3,bN a1)]⟩) (.ite 0 (decide (v1<(a0.length:Int))) (.ret 3 (decide (v1<6))) (.ret 3 false)) fun j2=>.ite 0 j2 (.grd 3 (0≤v1∧v1<(a0.length:Int)) <| .ca 2 (G79_ok ((a0.getD v1.toNat default).Body)) fun r3=>.jn 2 0 (fun (j4:Bool)=>⟨[(0,.t (eL cGFunc a0)),(3,.ptr 3 0),(5,tI v1),(33,tB j4)],[(3,bN a1)]⟩) (.ite 0 (decide (r3>100)) (.ret 8 true) (.grd 3 (0≤v1∧v1<(a0.length:Int)) <| .ret 5 (decide ((((a0.getD v1.toNat default).Params).length:Int)>10)))) fun j4=>.ite 0 j4 (.ret 1 (.inr (.inr false))) (.ret 3 (.inl (i64.wrap (v1+1))))) (.ret 0 (.inr (.inl ())))
def T33_L1(a0:List GFunc)(a1:GNode):Int→TP ((Int)⊕((Unit)⊕Bool))
 | v5=>.jn 6 0 (fun (j6:Bool)=>⟨[(0,.t (eL cGFunc a0)),(3,.ptr 3 0),(6,tI v5),(42,tB j6)],[(3,bN a1)]⟩) (.ite 0 (decide (v5<(a1.Exprs.length:Int))) (.ret 3 (decide (v5<13))) (.ret 3 false)) fun j6=>.ite 0 j6 (.grd 4 (0≤v5∧v5<(a1.Exprs.length:Int)) <| .ca 1 (G79_ok (a1.Exprs.getD v5.toNat default)) fun r7=>.jn 2 0 (fun (j8:Bool)=>⟨[(0,.t (eL cGFunc a0)),(3,.ptr 3 0),(6,tI v5),(70,tB j8)],[(3,bN a1)]⟩) (.ite 0 (decide (r7>200)) (.ret 18 true) (.grd 4 (0≤v5∧v5<(a1.Exprs.length:Int)) <| .ca 1 (G80_ok (a1.Exprs.getD v5.toNat default)) fun r9=>.ite 3 (decide (r9>12)) (.ret 9 true) (.grd 5 (0≤v5∧v5<(a1.Exprs.length:Int)) <| .ca 1 (G81_ok a0 (a1.Exprs.getD v5.toNat default)) fun r10=>.ret 2 (decide (r10>1000))))) fun j8=>.ite 0 j8 (.ret 1 (.inr (.inr false))) (.ret 3 (.inl (i64.wrap (v5+1))))) (.ret 0 (.inr (.inl ())))
def T33_L2(a0:List GFunc)(a1:GNode):Int→TP ((Int)⊕((Unit)⊕Bool))
 | v11=>.jn 6 0 (fun (j12:Bool)=>⟨[(0,.t (eL cGFunc a0)),(3,.ptr 3 0),(7,tI v11),(79,tB j12)],[(3,bN a1)]⟩) (.ite 0 (decide (v11<(a1.Seq.length:Int))) (.ret 3 (decide (v11<9))) (.ret 3 false)) fun j12=>.ite 0 j12 (.grd 4 (0≤v11∧v11<(a1.Seq.length:Int)) <| .ca 2 (G79_ok ((a1.Seq.getD v11.toNat default).Pred)) fun r13=>.jn 2 0 (fun (j14:Bool)=>⟨[(0,.t (eL cGFunc a0)),(3,.ptr 3 0),(7,tI v11),(110,tB j14)],[(3,bN a1)]⟩) (.ite 0 (decide (r13>200)) (.ret 20 true) (.grd 4 (0≤v11∧v11<(a1.Seq.length:Int)) <| .ca 2 (G80_ok ((a1.Seq.getD v11.toNat default).Pred)) fun r15=>.ite 3 (decide (r15>12)) (.ret 10 true) (.grd 5 (0≤v11∧v11<(a1.Seq.length:Int)) <| .ca 2 (G81_ok a0 ((a1.Seq.getD v11.toNat default).Pred)) fun r16=>.ret 2 (decide (r16>1000))))) fun j14=>.ite 0 j14 (.ret 1 (.inr (.inr false))) (.ret 3 (.inl (i64.wrap (v11+1))))) (.ret 0 (.inr (.inl ())))
def T33(a0:List GFunc)(a1:GNode):TP Bool:=.lp 3 (fun (v1:Int)=>⟨[(0,.t (eL cGFunc a0)),(3,.ptr 3 0),(5,tI v1)],[(3,bN a1)]⟩) (fun (_:Unit)=>⟨[(0,.t (eL cGFunc a0)),(3,.ptr 3 0)],[(3,bN a1)]⟩) 0 0 (T33_L0 a0 a1) fun _=>.lp 1 (fun (v5:Int)=>⟨[(0,.t (eL cGFunc a0)),(3,.ptr 3 0),(6,tI v5)],[(3,bN a1)]⟩) (fun (_:Unit)=>⟨[(0,.t (eL cGFunc a0)),(3,.ptr 3 0)],[(3,bN a1)]⟩) 2 0 (T33_L1 a0 a1) fun _=>.lp 1 (fun (v11:Int)=>⟨[(0,.t (eL cGFunc a0)),(3,.ptr 3 0),(7,tI v11)],[(3,bN a1)]⟩) (fun (_:Unit)=>⟨[(0,.t (eL cGFunc a0)),(3,.ptr 3 0)],[(3,bN a1)]⟩) 4 0 (T33_L2 a0 a1) fun _=>.jn 4 0 (fun (j17:Bool)=>⟨[(4,tB j17)],[]⟩) (.ite 0 (decide ((a0.length:Int)≤5)) (.ite 6 (decide ((a1.Exprs.length:Int)≤12)) (.ite 6 (decide ((a1.Seq.length:Int)≤8)) (.ite 6 (decide ((a1.Key.length:Int)≤20)) (.ite 6 (decide ((a1.Key2.length:Int)≤20)) (.ret 6 (decide ((a1.Aggs.length:Int)≤20))) (.ret 6 false)) (.ret 12 false)) (.ret 18 false)) (.ret 24 false)) (.ret 30 false)) fun j17=>.ret 0 j17
def G33(a0:List GFunc)(a1:GNode):Option Bool:=(T33 a0 a1).den
theorem G33_ok(a0:List GFunc)(a1:GNode):Con Tryz.prog 18 [.t (eL cGFunc a0),.t (eGNode a1)] (G33 a0 a1) tB:=con Tryz.func18 ti_ok (T33 a0 a1)
def T82_L1(a0:List GFunc):Unit→TP ((Unit)⊕((Unit)⊕((Unit)⊕((Unit)⊕Bool))))
 | _=>.ite 5 (decide ((0:Int)<(((a0.getD (0:Int).toNat default).Params).length:Int))) (.grd 4 (0≤(0:Int)∧(0:Int)<(((a0.getD (0:Int).toNat default).Params).length:Int)) <| .no) (.ret 0 (.inr (.inl ())))
def T82_L0(a0:List GFunc):Unit→TP ((Unit)⊕((Unit)⊕Bool))
 | _=>.jn 5 0 (fun (j1:Bool)=>⟨[(0,.t (eL cGFunc a0)),(3,tI 0),(15,tB j1)],[]⟩) (.ite 0 (decide ((0:Int)<(a0.length:Int))) (.ret 3 (decide ((0:Int)≤20))) (.ret 3 false)) fun j1=>.ite 0 j1 (.grd 3 (0≤(0:Int)∧(0:Int)<(a0.length:Int)) <| .lp 4 (fun (_:Unit)=>⟨[(0,.t (eL cGFunc a0)),(3,tI 0),(4,.ptr 4 0),(5,tI 0)],[(4,.box ((cGFunc (a0.getD (0:Int).toNat default)).map .t))]⟩) (fun (_:Unit)=>⟨[(0,.t (eL cGFunc a0)),(3,tI 0),(4,.ptr 4 0)],[(4,.box ((cGFunc (a0.getD (0:Int).toNat default)).map .t))]⟩) 2 () (T82_L1 a0) fun _=>.dg 2 (0≤(0:Int)∧(0:Int)≤(0:Int)∧(0:Int)≤(a0.length:Int)) <| .no) (.ret 0 (.inr (.inl ())))
def T82(a0:List GFunc):TP Bool:=.lp 2 (fun (_:Unit)=>⟨[(0,.t (eL cGFunc a0)),(3,tI 0)],[]⟩) (fun (_:Unit)=>⟨[(0,.t (eL cGFunc a0))],[]⟩) 0 () (T82_L0 a0) fun _=>.ret 4 (decide ((a0.length:Int)≤20))
def G82(a0:List GFunc):Option Bool:=(T82 a0).den
theorem G82_ok(a0:List GFunc):Con Tryz.prog 53 [.t (eL cGFunc a0)] (G82 a0) tB:=con Tryz.func53 ti_ok (T82 a0)
def T153(a0:Int)(a1:Int)(a2:Int):TP Bool:=.jn 5 0 (fun (j1:Bool)=>⟨[(6,tB j1)],[]⟩) (.ite 0 (decide (a0≥a1)) (.ret 5 (decide (a0≤a2))) (.ret 5 false)) fun j1=>.ret 0 j1
def G153(a0:Int)(a1:Int)(a2:Int):Option Bool:=(T153 a0 a1 a2).den
theorem G153_ok(a0:Int)(a1:Int)(a2:Int):Con Tryz.prog 105 [tI a0,tI a1,tI a2] (G153 a0 a1 a2) tB:=con Tryz.func105 ti_ok (T153 a0 a1 a2)
def T83(a0:GNode):TP Bool:=.ite 6 (a0.Op==4) (.ca 2 (G153_ok a0.Size 1 10000) fun r1=>.ite 1 (!r1) (.ret 1 false) (.ite 4 (a0.Kind==0) (.ret 1 true) (.ite 2 (a0.Kind==1) (.ite 3 (decide (a0.Step<1)) (.ret 1 false) (.grd 5 (a0.Step≠0) <| .ret 2 ((Int.tmod a0.Size a0.Step)==0))) (.ite 2 (a0.Kind==2) (.ca 4 (G153_ok a0.Step 1 a0.Size) fun r2=>.ret 1 r2) (.ret 1 false))))) (.ite 2 (a0.Op==5) (.ca 2 (G153_ok a0.Size 1 10000) fun r3=>.jn 1 0 (fun (j4:Bool)=>⟨[(2,tB j4)],[]⟩) (.ite 0 r3 (.ca 2 (G153_ok a0.Keep 1 100) fun r5=>.ret 2 r5) (.ret 5 false)) fun j4=>.ret 0 j4) (.ite 2 (a0.Op==6) (.ca 2 (G153_ok a0.Before 0 10000) fun r6=>.jn 1 0 (fun (j7:Bool)=>⟨[(2,tB j7)],[]⟩) (.ite 0 r6 (.ca 2 (G153_ok a0.After 0 10000) fun r8=>.ret 2 r8) (.ret 5 false)) fun j7=>.ret 0 j7) (.ite 2 (a0.Op==7) (.ca 2 (G153_ok a0.Keep 1 10000) fun r9=>.ret 1 r9) (.ite 2 (a0.Op==8) (.ca 2 (G153_ok a0.Size 1 10000) fun r10=>.jn 1 0 (fun (j11:Bool)=>⟨[(2,tB j11)],[]⟩) (.ite 0 r10 (.ca 3 (G153_ok (a0.Seq.length:Int) 1 8) fun r12=>.ret 2 r12) (.ret 6 false)) fun j11=>.ret 0 j11) (.ca 2 (G153_ok a0.Op 0 8) fun r13=>.ret 1 r13)))))
def G83(a0:GNode):Option Bool:=(T83 a0).den
theorem G83_ok(a0:GNode):Con Tryz.prog 54 [.t (eGNode a0)] (G83 a0) tB:=con Tryz.func54 ti_ok (T83 a0)
def T84(a0:GNode):TP Int:=.ite 6 (a0.Op==0) (.ret 1 0) (.jn 2 0 (fun (j1:Bool)=>⟨[(7,tB j1)],[]⟩) (.ite 0 (a0.Op==3) (.ret 0 (a0.Op==3)) (.jn 2 0 (fun (j2:Bool)=>⟨[(7,tB j2)],[]⟩) (.ite 0 (a0.Op==6) (.ret 0 (a0.Op==6)) (.ret 2 (a0.Op==7))) fun j2=>.ret 0 j2)) fun j1=>.ite 0 j1 (.ret 1 2) (.ret 1 1))
def G84(a0:GNode):Option Int:=(T84 a0).den
theorem G84_ok(a0:GNode):Con Tryz.prog 55 [.t (eGNode a0)] (G84 a0) tI:=con Tryz.func55 ti_ok (T84 a0)
def T88_L0(a0:List Int)(a1:List Int):Int→TP ((Int)⊕((Unit)⊕Bool))
 | v1=>.ite 4 (decide (v1<(a0.length:Int))) (.grd 3 (0≤v1∧v1<(a0.length:Int)) <| .jn 3 0 (fun (j2:Bool)=>⟨[(0,.t (eL cInt a0)),(1,.t (eL cInt a1)),(5,tI v1),(25,tB j2)],[]⟩) (.ite 0 (decide ((a0.getD v1.toNat default)<0)) (.ret 8 true) (.grd 3 (0≤v1∧v1<(a0.length:Int)) <| .ret 5 (decide ((a0.getD v1.toNat default)≥(a1.length:Int))))) fun j2=>.ite 0 j2 (.ret 1 (.inr (.inr false))) (.ret 3 (.inl (i64.wrap (v1+1))))) (.ret 0 (.inr (.inl ())))
def T88(a0:List Int)(a1:List Int):TP Bool:=.lp 2 (fun (v1:Int)=>⟨[(0,.t (eL cInt a0)),(1,.t (eL cInt a1)),(5,tI v1)],[]⟩) (fun (_:Unit)=>⟨[],[]⟩) 0 0 (T88_L0 a0 a1) fun _=>.ret 1 true
def G88(a0:List Int)(a1:List Int):Option Bool:=(T88 a0 a1).den
theorem G88_ok(a0:List Int)(a1:List Int):Con Tryz.prog 59 [.t (eL cInt a0),.t (eL cInt a1)] (G88 a0 a1) tB:=con Tryz.func59 ti_ok (T88 a0 a1)
def T90_L0(a0:GNode)(a1:List Int)(a2:List Int):Int→TP ((Int)⊕((Unit)⊕Bool))
 | v1=>.ite 5 (decide (v1<(a0.Key.length:Int))) (.dg 4 (0≤v1∧v1<(a0.Key.length:Int)) <| .dg 6 (0≤(a0.Key.getD v1.toNat default)∧(a0.Key.getD v1.toNat default)<(a1.length:Int)) <| .dg 12 (0≤v1∧v1<(a0.Key2.length:Int)) <| .dg 14 (0≤(a0.Key2.getD v1.toNat default)∧(a0.Key2.getD v1.toNat default)<(a2.length:Int)) <| .dr 0 0 [(3,false,[])] [1,2,3,7,15,16,17,18,19] <| .ite 0 ((a1.getD (a0.Key.getD v1.toNat default).toNat default) != (a2.getD (a0.Key2.getD v1.toNat default).toNat default)) (.ret 1 (.inr (.inr false))) (.ret 3 (.inl (i64.wrap (v1+1))))) (.ret 0 (.inr (.inl ())))
def T90(a0:GNode)(a1:List Int)(a2:List Int):TP Bool:=.ite 9 ((a0.Key.length:Int) != (a0.Key2.length:Int)) (.ret 1 false) (.lp 1 (fun (v1:Int)=>⟨[(1,.t (eL cInt a1)),(2,.t (eL cInt a2)),(3,.ptr 3 0),(7,tI v1)],[(3,bN a0)]⟩) (fun (_:Unit)=>⟨[],[]⟩) 0 0 (T90_L0 a0 a1 a2) fun _=>.ret 1 true)
def G90(a0:GNode)(a1:List Int)(a2:List Int):Option Bool:=(T90 a0 a1 a2).den
theorem G90_ok(a0:GNode)(a1:List Int)(a2:List Int):Con Tryz.prog 61 [.t (eGNode a0),.t (eL cInt a1),.t (eL cInt a2)] (G90 a0 a1 a2) tB:=con Tryz.func61 ti_ok (T90 a0 a1 a2)
def T34_L0(a1:GNode):Unit→TP ((Unit)⊕((Unit)⊕Bool))
 | _=>.ite 5 (decide ((0:Int)<(a1.Exprs.length:Int))) (.grd 6 (0≤(0:Int)∧(0:Int)<(a1.Exprs.length:Int)) <| .no) (.ret 0 (.inr (.inl ())))
def T34_L1(a1:GNode):Unit→TP ((Unit)⊕((Unit)⊕Bool))
 | _=>.ite 5 (decide ((0:Int)<(a1.Seq.length:Int))) (.grd 5 (0≤(0:Int)∧(0:Int)<(a1.Seq.length:Int)) <| .no) (.ret 0 (.inr (.inl ())))
def T34(a0:List GFunc)(a1:GNode)(a2:List (List Int)):TP Bool:=.ca 3 (G82_ok a0) fun r1=>.jn 2 0 (fun (j2:Bool)=>⟨[(0,.t (eL cGFunc a0)),(2,.t (eL cL_cInt a2)),(4,.ptr 4 0),(32,tB j2)],[(4,bN a1)]⟩) (.ite 0 (!r1) (.ret 16 true) (.ca 1 (G83_ok a1) fun r3=>.ite 3 (!r3) (.ret 11 true) (.ca 3 (G84_ok a1) fun r4=>.ite 3 ((a2.length:Int) != r4) (.ret 4 true) (.ret 4 ((a2.length:Int)==0))))) fun j2=>.ite 0 j2 (.ret 1 false) (.grd 2 (0≤(0:Int)∧(0:Int)<(a2.length:Int)) <| .grd 7 (0≤(i64.wrap ((a2.length:Int)-1))∧(i64.wrap ((a2.length:Int)-1))<(a2.length:Int)) <| .jn 6 0 (fun (j5:Bool)=>⟨[(0,.t (eL cGFunc a0)),(4,.ptr 4 0),(7,.t (eL cInt (a2.getD (0:Int).toNat default))),(8,.t (eL cInt (a2.getD (i64.wrap ((a2.length:Int)-1)).toNat default))),(59,tB j5)],[(4,bN a1)]⟩) (.ite 0 (((a2.getD (0:Int).toNat default).length:Int)==0) (.ret 14 true) (.ite 5 (decide (((a2.getD (0:Int).toNat default).length:Int)>12)) (.ret 9 true) (.ite 5 (((a2.getD (i64.wrap ((a2.length:Int)-1)).toNat default).length:Int)==0) (.ret 4 true) (.ret 4 (decide (((a2.getD (i64.wrap ((a2.length:Int)-1)).toNat default).length:Int)>12)))))) fun j5=>.ite 0 j5 (.ret 1 false) (.ite 4 (a1.Op==1) (.ite 5 ((a1.Exprs.length:Int)==1) (.grd 4 (0≤(0:Int)∧(0:Int)<(a1.Exprs.length:Int)) <| .no) (.ret 9 false)) (.ite 2 (a1.Op==2) (.lp 1 (fun (_:Unit)=>⟨[(0,.t (eL cGFunc a0)),(4,.ptr 4 0),(7,.t (eL cInt (a2.getD (0:Int).toNat default))),(9,tI 0)],[(4,bN a1)]⟩) (fun (_:Unit)=>⟨[(4,.ptr 4 0)],[(4,bN a1)]⟩) 1 () (T34_L0 a1) fun _=>.jn 5 0 (fun (j6:Bool)=>⟨[(6,tB j6)],[]⟩) (.ite 0 (decide ((a1.Exprs.length:Int)≥1)) (.ret 6 (decide ((a1.Exprs.length:Int)≤12))) (.ret 6 false)) fun j6=>.ret 0 j6) (.ite 2 (a1.Op==3) (.no) (.ite 2 (a1.Op==4) (.ca 3 (G88_ok a1.Key (a2.getD (0:Int).toNat default)) fun r7=>.ite 1 r7 (.no) (.ret 16 false)) (.ite 2 (a1.Op==5) (.ca 3 (G88_ok a1.Key (a2.getD (0:Int).toNat default)) fun r8=>.jn 1 0 (fun (j9:Bool)=>⟨[(6,tB j9)],[]⟩) (.ite 0 r8 (.bs 2 false cInt ([a1.Step]:List Int) <| .ca 1 (G88_ok ([a1.Step]:List Int) (a2.getD (0:Int).toNat default)) fun r10=>.ret 2 r10) (.ret 7 false)) fun j9=>.ret 0 j9) (.jn 2 0 (fun (j11:Bool)=>⟨[(0,.t (eL cGFunc a0)),(4,.ptr 4 0),(7,.t (eL cInt (a2.getD (0:Int).toNat default))),(8,.t (eL cInt (a2.getD (i64.wrap ((a2.length:Int)-1)).toNat default))),(61,tI a1.Op),(149,tB j11)],[(4,bN a1)]⟩) (.ite 0 (a1.Op==6) (.ret 0 (a1.Op==6)) (.ret 2 (a1.Op==7))) fun j11=>.ite 0 j11 (.ca 3 (G88_ok a1.Key (a2.getD (0:Int).toNat default)) fun r12=>.jn 1 0 (fun (j13:Bool)=>⟨[(6,tB j13)],[]⟩) (.ite 0 r12 (.ca 3 (G88_ok a1.Key2 (a2.getD (i64.wrap ((a2.length:Int)-1)).toNat default)) fun r14=>.ite 2 r14 (.ca 3 (G90_ok a1 (a2.getD (0:Int).toNat default) (a2.getD (i64.wrap ((a2.length:Int)-1)).toNat default)) fun r15=>.ite 2 r15 (.ret 8 (decide ((i64.wrap (((a2.getD (0:Int).toNat default).length:Int)+((a2.getD (i64.wrap ((a2.length:Int)-1)).toNat default).length:Int)))≤12))) (.ret 8 false)) (.ret 14 false)) (.ret 20 false)) fun j13=>.ret 0 j13) (.ite 2 (a1.Op==8) (.lp 1 (fun (_:Unit)=>⟨[(0,.t (eL cGFunc a0)),(4,.ptr 4 0),(7,.t (eL cInt (a2.getD (0:Int).toNat default))),(12,tI 0)],[(4,bN a1)]⟩) (fun (_:Unit)=>⟨[(4,.ptr 4 0),(7,.t (eL cInt (a2.getD (0:Int).toNat default)))],[(4,bN a1)]⟩) 3 () (T34_L1 a1) fun _=>.ca 3 (G88_ok a1.Key (a2.getD (0:Int).toNat default)) fun r16=>.jn 1 0 (fun (j17:Bool)=>⟨[(6,tB j17)],[]⟩) (.ite 0 r16 (.ret 6 (decide ((a1.Key.length:Int)≤10))) (.ret 6 false)) fun j17=>.ret 0 j17) (.ret 1 false)))))))))
def G34(a0:List GFunc)(a1:GNode)(a2:List (List Int)):Option Bool:=(T34 a0 a1 a2).den
theorem G34_ok(a0:List GFunc)(a1:GNode)(a2:List (List Int)):Con Tryz.prog 19 [.t (eL cGFunc a0),.t (eGNode a1),.t (eL cL_cInt a2)] (G34 a0 a1 a2) tB:=con Tryz.func19 ti_ok (T34 a0 a1 a2)
end
end Go.PL
