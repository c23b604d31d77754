/-
  The data types of the seat, as the program logic reads them, and its type table. Printed by a program of our own.
-/
import Derived.Test.YtlhmdnniolhnjaaPt
import Derived.Test.YtlhmdnniolhnjaaProg
namespace Go.PL
open Go

def eExpr (x : Expr) : T := .agg (exprCells x)
def cL_cInt (x : List Int) : List T := [eL cInt (x)]
structure GFunc where
  Name : ByteArray
  Params : List Int
  Result : Int
  Body : Expr
  deriving Inhabited
def cGFunc (x : GFunc) : List T := [.str (x.Name)] ++ [eL cInt (x.Params)] ++ [.int .i64 (x.Result)] ++ exprCells (x.Body)
def eGFunc (x : GFunc) : T := .agg (cGFunc x)
def cL_cGFunc (x : List GFunc) : List T := [eL cGFunc (x)]
def cL_exprCells (x : List Expr) : List T := [.lz (.exprs (x))]
structure GAgg where
  Kind : Int
  Col : Int
  Name : ByteArray
  deriving Inhabited
def cGAgg (x : GAgg) : List T := [.int .i64 (x.Kind), .int .i64 (x.Col), .str (x.Name)]
def eGAgg (x : GAgg) : T := .agg (cGAgg x)
def cL_cGAgg (x : List GAgg) : List T := [eL cGAgg (x)]
structure GPat where
  Pred : Expr
  Rep : Int
  deriving Inhabited
def cGPat (x : GPat) : List T := exprCells (x.Pred) ++ [.int .i64 (x.Rep)]
def eGPat (x : GPat) : T := .agg (cGPat x)
def cL_cGPat (x : List GPat) : List T := [eL cGPat (x)]
structure GCol where
  Name : ByteArray
  Type_ : Int
  Unit : ByteArray
  deriving Inhabited
def cGCol (x : GCol) : List T := [.str (x.Name), .int .i64 (x.Type_), .str (x.Unit)]
def eGCol (x : GCol) : T := .agg (cGCol x)
def cL_cGCol (x : List GCol) : List T := [eL cGCol (x)]
structure GNode where
  Op : Int
  In : List Int
  Source : ByteArray
  Schema : Int
  Exprs : List Expr
  Kind : Int
  Size : Int
  Step : Int
  Key : List Int
  Key2 : List Int
  Before : Int
  After : Int
  Keep : Int
  Aggs : List GAgg
  Seq : List GPat
  Cols : List GCol
  deriving Inhabited
def cGNode (x : GNode) : List T := [.int .i64 (x.Op), eL cInt (x.In), .str (x.Source), .int .i64 (x.Schema), .lz (.exprs (x.Exprs)), .int .i64 (x.Kind), .int .i64 (x.Size), .int .i64 (x.Step), eL cInt (x.Key), eL cInt (x.Key2), .int .i64 (x.Before), .int .i64 (x.After), .int .i64 (x.Keep), eL cGAgg (x.Aggs), eL cGPat (x.Seq), eL cGCol (x.Cols)]
def eGNode (x : GNode) : T := .agg (cGNode x)
def cL_cGNode (x : List GNode) : List T := [eL cGNode (x)]
structure GProgram where
  Funcs : List GFunc
  Nodes : List GNode
  deriving Inhabited
def cGProgram (x : GProgram) : List T := [eL cGFunc (x.Funcs), eL cGNode (x.Nodes)]
def eGProgram (x : GProgram) : T := .agg (cGProgram x)
structure GMatch where
  Old : Int
  New : Int
  Why : Int
  deriving Inhabited
def cGMatch (x : GMatch) : List T := [.int .i64 (x.Old), .int .i64 (x.New), .int .i64 (x.Why)]
def eGMatch (x : GMatch) : T := .agg (cGMatch x)
def cL_cGMatch (x : List GMatch) : List T := [eL cGMatch (x)]
def cL_cU8 (x : List Int) : List T := [eL cU8 (x)]
def cL_cBool (x : List Bool) : List T := [eL cBool (x)]
structure A2_Int where
  e0 : Int
  e1 : Int
  deriving Inhabited
def cA2_Int (x : A2_Int) : List T := [.int .i64 (x.e0), .int .i64 (x.e1)]
def eA2_Int (x : A2_Int) : T := .agg (cA2_Int x)
structure A8_Int where
  e0 : Int
  e1 : Int
  e2 : Int
  e3 : Int
  e4 : Int
  e5 : Int
  e6 : Int
  e7 : Int
  deriving Inhabited
def cA8_Int (x : A8_Int) : List T := [.int .i64 (x.e0), .int .i64 (x.e1), .int .i64 (x.e2), .int .i64 (x.e3), .int .i64 (x.e4), .int .i64 (x.e5), .int .i64 (x.e6), .int .i64 (x.e7)]
def eA8_Int (x : A8_Int) : T := .agg (cA8_Int x)
def cL_cL_cInt (x : List (List Int)) : List T := [eL cL_cInt (x)]
structure GBody where
  e_ : Expr
  ok_ : Bool
  deriving Inhabited
def cGBody (x : GBody) : List T := exprCells (x.e_) ++ [.bool (x.ok_)]
def eGBody (x : GBody) : T := .agg (cGBody x)
def cL_cGBody (x : List GBody) : List T := [eL cGBody (x)]

def tiL : List (Nat × TInf) := [
  (3, ⟨1, 8, .int .i64, [.t (.int .i64 0)], 0⟩),
  (4, ⟨1, 1, .bool, [.t (.bool false)], 0⟩),
  (5, ⟨1, 1, .int .u8, [.t (.int .u8 0)], 0⟩),
  (9, ⟨1, 16, .str, [.t (.str ⟨#[]⟩)], 0⟩),
  (22, ⟨1, 24, .sl 42, [.nil], 0⟩),
  (23, ⟨1, 24, .sl 47, [.nil], 0⟩),
  (25, ⟨2, 48, .st [(0, 22), (1, 23)], [.nil, .nil], 0⟩),
  (29, ⟨1, 24, .sl 36, [.nil], 0⟩),
  (31, ⟨1, 24, .sl 3, [.nil], 0⟩),
  (33, ⟨1, 8, .int .i64, [.t (.int .i64 0)], 0⟩),
  (36, ⟨3, 24, .st [(0, 3), (1, 3), (2, 3)], [.t (.int .i64 0), .t (.int .i64 0), .t (.int .i64 0)], 3⟩),
  (38, ⟨1, 24, .sl 40, [.nil], 0⟩),
  (40, ⟨4, 56, .st [(0, 3), (1, 3), (2, 9), (3, 38)], [.t (.int .i64 0), .t (.int .i64 0), .t (.str ⟨#[]⟩), .nil], 0⟩),
  (42, ⟨7, 104, .st [(0, 9), (1, 31), (2, 3), (3, 40)], [.t (.str ⟨#[]⟩), .nil, .t (.int .i64 0), .t (.int .i64 0), .t (.int .i64 0), .t (.str ⟨#[]⟩), .nil], 0⟩),
  (43, ⟨1, 24, .sl 52, [.nil], 0⟩),
  (44, ⟨1, 24, .sl 58, [.nil], 0⟩),
  (45, ⟨1, 24, .sl 50, [.nil], 0⟩),
  (47, ⟨16, 248, .st [(0, 3), (1, 31), (2, 9), (3, 3), (4, 38), (5, 3), (6, 3), (7, 3), (8, 31), (9, 31), (10, 3), (11, 3), (12, 3), (13, 43), (14, 44), (15, 45)], [.t (.int .i64 0), .nil, .t (.str ⟨#[]⟩), .t (.int .i64 0), .nil, .t (.int .i64 0), .t (.int .i64 0), .t (.int .i64 0), .nil, .nil, .t (.int .i64 0), .t (.int .i64 0), .t (.int .i64 0), .nil, .nil, .nil], 0⟩),
  (48, ⟨1, 24, .sl 5, [.nil], 0⟩),
  (50, ⟨3, 40, .st [(0, 9), (1, 3), (2, 9)], [.t (.str ⟨#[]⟩), .t (.int .i64 0), .t (.str ⟨#[]⟩)], 0⟩),
  (52, ⟨3, 32, .st [(0, 3), (1, 3), (2, 9)], [.t (.int .i64 0), .t (.int .i64 0), .t (.str ⟨#[]⟩)], 0⟩),
  (58, ⟨5, 64, .st [(0, 40), (4, 3)], [.t (.int .i64 0), .t (.int .i64 0), .t (.str ⟨#[]⟩), .nil, .t (.int .i64 0)], 0⟩),
  (61, ⟨1, 8, .ptr 64, [.np], 0⟩),
  (62, ⟨1, 8, .mp 75 4, [.lit (.map none)], 0⟩),
  (64, ⟨5, 104, .st [(0, 25), (2, 25), (4, 62)], [.nil, .nil, .nil, .nil, .lit (.map none)], 0⟩),
  (66, ⟨1, 8, .other, [.lit .nilFunc], 0⟩),
  (68, ⟨1, 8, .other, [.lit .nilFunc], 0⟩),
  (69, ⟨1, 8, .other, [.lit .nilFunc], 0⟩),
  (71, ⟨1, 24, .sl 4, [.nil], 0⟩),
  (75, ⟨2, 16, .arr 2 3, [.t (.int .i64 0), .t (.int .i64 0)], 2⟩),
  (78, ⟨1, 8, .other, [.lit .nilFunc], 0⟩),
  (88, ⟨8, 64, .arr 8 3, [.t (.int .i64 0), .t (.int .i64 0), .t (.int .i64 0), .t (.int .i64 0), .t (.int .i64 0), .t (.int .i64 0), .t (.int .i64 0), .t (.int .i64 0)], 8⟩),
  (91, ⟨1, 8, .other, [.lit .nilFunc], 0⟩),
  (93, ⟨1, 8, .other, [.lit .nilFunc], 0⟩),
  (95, ⟨1, 8, .other, [.lit .nilFunc], 0⟩),
  (97, ⟨1, 8, .other, [.lit .nilFunc], 0⟩),
  (100, ⟨4, 32, .st [(0, 3), (1, 69), (2, 78), (3, 4)], [.t (.int .i64 0), .lit .nilFunc, .lit .nilFunc, .t (.bool false)], 0⟩),
  (104, ⟨1, 24, .sl 31, [.nil], 0⟩),
  (110, ⟨36, 288, .arr 9 100, [.t (.int .i64 0), .lit .nilFunc, .lit .nilFunc, .t (.bool false), .t (.int .i64 0), .lit .nilFunc, .lit .nilFunc, .t (.bool false), .t (.int .i64 0), .lit .nilFunc, .lit .nilFunc, .t (.bool false), .t (.int .i64 0), .lit .nilFunc, .lit .nilFunc, .t (.bool false), .t (.int .i64 0), .lit .nilFunc, .lit .nilFunc, .t (.bool false), .t (.int .i64 0), .lit .nilFunc, .lit .nilFunc, .t (.bool false), .t (.int .i64 0), .lit .nilFunc, .lit .nilFunc, .t (.bool false), .t (.int .i64 0), .lit .nilFunc, .lit .nilFunc, .t (.bool false), .t (.int .i64 0), .lit .nilFunc, .lit .nilFunc, .t (.bool false)], 0⟩),
  (118, ⟨1, 24, .sl 120, [.nil], 0⟩),
  (120, ⟨5, 64, .st [(0, 40), (4, 4)], [.t (.int .i64 0), .t (.int .i64 0), .t (.str ⟨#[]⟩), .nil, .t (.bool false)], 0⟩),
  (124, ⟨1, 8, .other, [.lit .nilFunc], 0⟩)]
set_option maxRecDepth 100000 in
theorem ti_ok : TIok Proofs.Try.prog (look tiL) :=
  tiok_of (tiok_cons (tok_of (by kernel_rfl) (by kernel_rfl) (by kernel_rfl)) (tiok_cons (tok_of (by kernel_rfl) (by kernel_rfl) (by kernel_rfl)) (tiok_cons (tok_of (by kernel_rfl) (by kernel_rfl) (by kernel_rfl)) (tiok_cons (tok_of (by kernel_rfl) (by kernel_rfl) (by kernel_rfl)) (tiok_cons (tok_of (by kernel_rfl) (by kernel_rfl) (by kernel_rfl)) (tiok_cons (tok_of (by kernel_rfl) (by kernel_rfl) (by kernel_rfl)) (tiok_cons (tok_of (by kernel_rfl) (by kernel_rfl) (by kernel_rfl)) (tiok_cons (tok_of (by kernel_rfl) (by kernel_rfl) (by kernel_rfl)) (tiok_cons (tok_of (by kernel_rfl) (by kernel_rfl) (by kernel_rfl)) (tiok_cons (tok_of (by kernel_rfl) (by kernel_rfl) (by kernel_rfl)) (tiok_cons (tok_of (by kernel_rfl) (by kernel_rfl) (by kernel_rfl)) (tiok_cons (tok_of (by kernel_rfl) (by kernel_rfl) (by kernel_rfl)) (tiok_cons (tok_of (by kernel_rfl) (by kernel_rfl) (by kernel_rfl)) (tiok_cons (tok_of (by kernel_rfl) (by kernel_rfl) (by kernel_rfl)) (tiok_cons (tok_of (by kernel_rfl) (by kernel_rfl) (by kernel_rfl)) (tiok_cons (tok_of (by kernel_rfl) (by kernel_rfl) (by kernel_rfl)) (tiok_cons (tok_of (by kernel_rfl) (by kernel_rfl) (by kernel_rfl)) (tiok_cons (tok_of (by kernel_rfl) (by kernel_rfl) (by kernel_rfl)) (tiok_cons (tok_of (by kernel_rfl) (by kernel_rfl) (by kernel_rfl)) (tiok_cons (tok_of (by kernel_rfl) (by kernel_rfl) (by kernel_rfl)) (tiok_cons (tok_of (by kernel_rfl) (by kernel_rfl) (by kernel_rfl)) (tiok_cons (tok_of (by kernel_rfl) (by kernel_rfl) (by kernel_rfl)) (tiok_cons (tok_of (by kernel_rfl) (by kernel_rfl) (by kernel_rfl)) (tiok_cons (tok_of (by kernel_rfl) (by kernel_rfl) (by kernel_rfl)) (tiok_cons (tok_of (by kernel_rfl) (by kernel_rfl) (by kernel_rfl)) (tiok_cons (tok_of (by kernel_rfl) (by kernel_rfl) (by kernel_rfl)) (tiok_cons (tok_of (by kernel_rfl) (by kernel_rfl) (by kernel_rfl)) (tiok_cons (tok_of (by kernel_rfl) (by kernel_rfl) (by kernel_rfl)) (tiok_cons (tok_of (by kernel_rfl) (by kernel_rfl) (by kernel_rfl)) (tiok_cons (tok_of (by kernel_rfl) (by kernel_rfl) (by kernel_rfl)) (tiok_cons (tok_of (by kernel_rfl) (by kernel_rfl) (by kernel_rfl)) (tiok_cons (tok_of (by kernel_rfl) (by kernel_rfl) (by kernel_rfl)) (tiok_cons (tok_of (by kernel_rfl) (by kernel_rfl) (by kernel_rfl)) (tiok_cons (tok_of (by kernel_rfl) (by kernel_rfl) (by kernel_rfl)) (tiok_cons (tok_of (by kernel_rfl) (by kernel_rfl) (by kernel_rfl)) (tiok_cons (tok_of (by kernel_rfl) (by kernel_rfl) (by kernel_rfl)) (tiok_cons (tok_of (by kernel_rfl) (by kernel_rfl) (by kernel_rfl)) (tiok_cons (tok_of (by kernel_rfl) (by kernel_rfl) (by kernel_rfl)) (tiok_cons (tok_of (by kernel_rfl) (by kernel_rfl) (by kernel_rfl)) (tiok_cons (tok_of (by kernel_rfl) (by kernel_rfl) (by kernel_rfl)) (tiok_cons (tok_of (by kernel_rfl) (by kernel_rfl) (by kernel_rfl)) (tiok_cons (tok_of (by kernel_rfl) (by kernel_rfl) (by kernel_rfl)) tiok_nil))))))))))))))))))))))))))))))))))))))))))

theorem callable2 : Callable Proofs.Try.prog 2 := callable_of Proofs.Try.func2 (by kernel_rfl)
theorem callable3 : Callable Proofs.Try.prog 3 := callable_of Proofs.Try.func3 (by kernel_rfl)
theorem callable4 : Callable Proofs.Try.prog 4 := callable_of Proofs.Try.func4 (by kernel_rfl)
theorem callable5 : Callable Proofs.Try.prog 5 := callable_of Proofs.Try.func5 (by kernel_rfl)
theorem callable6 : Callable Proofs.Try.prog 6 := callable_of Proofs.Try.func6 (by kernel_rfl)
theorem callable7 : Callable Proofs.Try.prog 7 := callable_of Proofs.Try.func7 (by kernel_rfl)
theorem callable8 : Callable Proofs.Try.prog 8 := callable_of Proofs.Try.func8 (by kernel_rfl)
theorem callable9 : Callable Proofs.Try.prog 9 := callable_of Proofs.Try.func9 (by kernel_rfl)
theorem callable10 : Callable Proofs.Try.prog 10 := callable_of Proofs.Try.func10 (by kernel_rfl)
theorem callable11 : Callable Proofs.Try.prog 11 := callable_of Proofs.Try.func11 (by kernel_rfl)
theorem callable12 : Callable Proofs.Try.prog 12 := callable_of Proofs.Try.func12 (by kernel_rfl)
theorem callable13 : Callable Proofs.Try.prog 13 := callable_of Proofs.Try.func13 (by kernel_rfl)
theorem callable14 : Callable Proofs.Try.prog 14 := callable_of Proofs.Try.func14 (by kernel_rfl)
theorem callable15 : Callable Proofs.Try.prog 15 := callable_of Proofs.Try.func15 (by kernel_rfl)
theorem callable16 : Callable Proofs.Try.prog 16 := callable_of Proofs.Try.func16 (by kernel_rfl)
theorem callable17 : Callable Proofs.Try.prog 17 := callable_of Proofs.Try.func17 (by kernel_rfl)
theorem callable18 : Callable Proofs.Try.prog 18 := callable_of Proofs.Try.func18 (by kernel_rfl)
theorem callable19 : Callable Proofs.Try.prog 19 := callable_of Proofs.Try.func19 (by kernel_rfl)
theorem callable20 : Callable Proofs.Try.prog 20 := callable_of Proofs.Try.func20 (by kernel_rfl)
theorem callable21 : Callable Proofs.Try.prog 21 := callable_of Proofs.Try.func21 (by kernel_rfl)
theorem callable22 : Callable Proofs.Try.prog 22 := callable_of Proofs.Try.func22 (by kernel_rfl)
theorem callable23 : Callable Proofs.Try.prog 23 := callable_of Proofs.Try.func23 (by kernel_rfl)
theorem callable24 : Callable Proofs.Try.prog 24 := callable_of Proofs.Try.func24 (by kernel_rfl)
theorem callable25 : Callable Proofs.Try.prog 25 := callable_of Proofs.Try.func25 (by kernel_rfl)
theorem callable26 : Callable Proofs.Try.prog 26 := callable_of Proofs.Try.func26 (by kernel_rfl)
theorem callable27 : Callable Proofs.Try.prog 27 := callable_of Proofs.Try.func27 (by kernel_rfl)
theorem callable28 : Callable Proofs.Try.prog 28 := callable_of Proofs.Try.func28 (by kernel_rfl)
theorem callable29 : Callable Proofs.Try.prog 29 := callable_of Proofs.Try.func29 (by kernel_rfl)
theorem callable30 : Callable Proofs.Try.prog 30 := callable_of Proofs.Try.func30 (by kernel_rfl)
theorem callable31 : Callable Proofs.Try.prog 31 := callable_of Proofs.Try.func31 (by kernel_rfl)
theorem callable32 : Callable Proofs.Try.prog 32 := callable_of Proofs.Try.func32 (by kernel_rfl)
theorem callable33 : Callable Proofs.Try.prog 33 := callable_of Proofs.Try.func33 (by kernel_rfl)
theorem callable34 : Callable Proofs.Try.prog 34 := callable_of Proofs.Try.func34 (by kernel_rfl)
theorem callable35 : Callable Proofs.Try.prog 35 := callable_of Proofs.Try.func35 (by kernel_rfl)
theorem callable36 : Callable Proofs.Try.prog 36 := callable_of Proofs.Try.func36 (by kernel_rfl)
theorem callable37 : Callable Proofs.Try.prog 37 := callable_of Proofs.Try.func37 (by kernel_rfl)
theorem callable38 : Callable Proofs.Try.prog 38 := callable_of Proofs.Try.func38 (by kernel_rfl)
theorem callable39 : Callable Proofs.Try.prog 39 := callable_of Proofs.Try.func39 (by kernel_rfl)
theorem callable40 : Callable Proofs.Try.prog 40 := callable_of Proofs.Try.func40 (by kernel_rfl)
theorem callable41 : Callable Proofs.Try.prog 41 := callable_of Proofs.Try.func41 (by kernel_rfl)
theorem callable42 : Callable Proofs.Try.prog 42 := callable_of Proofs.Try.func42 (by kernel_rfl)
theorem callable43 : Callable Proofs.Try.prog 43 := callable_of Proofs.Try.func43 (by kernel_rfl)
theorem callable44 : Callable Proofs.Try.prog 44 := callable_of Proofs.Try.func44 (by kernel_rfl)
theorem callable45 : Callable Proofs.Try.prog 45 := callable_of Proofs.Try.func45 (by kernel_rfl)
theorem callable46 : Callable Proofs.Try.prog 46 := callable_of Proofs.Try.func46 (by kernel_rfl)
theorem callable47 : Callable Proofs.Try.prog 47 := callable_of Proofs.Try.func47 (by kernel_rfl)
theorem callable48 : Callable Proofs.Try.prog 48 := callable_of Proofs.Try.func48 (by kernel_rfl)
theorem callable49 : Callable Proofs.Try.prog 49 := callable_of Proofs.Try.func49 (by kernel_rfl)
theorem callable50 : Callable Proofs.Try.prog 50 := callable_of Proofs.Try.func50 (by kernel_rfl)
theorem callable51 : Callable Proofs.Try.prog 51 := callable_of Proofs.Try.func51 (by kernel_rfl)
theorem callable52 : Callable Proofs.Try.prog 52 := callable_of Proofs.Try.func52 (by kernel_rfl)
theorem callable53 : Callable Proofs.Try.prog 53 := callable_of Proofs.Try.func53 (by kernel_rfl)
theorem callable54 : Callable Proofs.Try.prog 54 := callable_of Proofs.Try.func54 (by kernel_rfl)
theorem callable55 : Callable Proofs.Try.prog 55 := callable_of Proofs.Try.func55 (by kernel_rfl)
theorem callable56 : Callable Proofs.Try.prog 56 := callable_of Proofs.Try.func56 (by kernel_rfl)
theorem callable57 : Callable Proofs.Try.prog 57 := callable_of Proofs.Try.func57 (by kernel_rfl)
theorem callable58 : Callable Proofs.Try.prog 58 := callable_of Proofs.Try.func58 (by kernel_rfl)
theorem callable59 : Callable Proofs.Try.prog 59 := callable_of Proofs.Try.func59 (by kernel_rfl)
theorem callable60 : Callable Proofs.Try.prog 60 := callable_of Proofs.Try.func60 (by kernel_rfl)
theorem callable61 : Callable Proofs.Try.prog 61 := callable_of Proofs.Try.func61 (by kernel_rfl)
theorem callable62 : Callable Proofs.Try.prog 62 := callable_of Proofs.Try.func62 (by kernel_rfl)
theorem callable63 : Callable Proofs.Try.prog 63 := callable_of Proofs.Try.func63 (by kernel_rfl)
theorem callable64 : Callable Proofs.Try.prog 64 := callable_of Proofs.Try.func64 (by kernel_rfl)
theorem callable65 : Callable Proofs.Try.prog 65 := callable_of Proofs.Try.func65 (by kernel_rfl)
theorem callable66 : Callable Proofs.Try.prog 66 := callable_of Proofs.Try.func66 (by kernel_rfl)
theorem callable67 : Callable Proofs.Try.prog 67 := callable_of Proofs.Try.func67 (by kernel_rfl)
theorem callable68 : Callable Proofs.Try.prog 68 := callable_of Proofs.Try.func68 (by kernel_rfl)
theorem callable69 : Callable Proofs.Try.prog 69 := callable_of Proofs.Try.func69 (by kernel_rfl)
theorem callable70 : Callable Proofs.Try.prog 70 := callable_of Proofs.Try.func70 (by kernel_rfl)
theorem callable71 : Callable Proofs.Try.prog 71 := callable_of Proofs.Try.func71 (by kernel_rfl)
theorem callable72 : Callable Proofs.Try.prog 72 := callable_of Proofs.Try.func72 (by kernel_rfl)
theorem callable73 : Callable Proofs.Try.prog 73 := callable_of Proofs.Try.func73 (by kernel_rfl)
theorem callable74 : Callable Proofs.Try.prog 74 := callable_of Proofs.Try.func74 (by kernel_rfl)
theorem callable75 : Callable Proofs.Try.prog 75 := callable_of Proofs.Try.func75 (by kernel_rfl)
theorem callable76 : Callable Proofs.Try.prog 76 := callable_of Proofs.Try.func76 (by kernel_rfl)
theorem callable77 : Callable Proofs.Try.prog 77 := callable_of Proofs.Try.func77 (by kernel_rfl)
theorem callable78 : Callable Proofs.Try.prog 78 := callable_of Proofs.Try.func78 (by kernel_rfl)
theorem callable79 : Callable Proofs.Try.prog 79 := callable_of Proofs.Try.func79 (by kernel_rfl)
theorem callable80 : Callable Proofs.Try.prog 80 := callable_of Proofs.Try.func80 (by kernel_rfl)
theorem callable81 : Callable Proofs.Try.prog 81 := callable_of Proofs.Try.func81 (by kernel_rfl)
theorem callable82 : Callable Proofs.Try.prog 82 := callable_of Proofs.Try.func82 (by kernel_rfl)
theorem callable83 : Callable Proofs.Try.prog 83 := callable_of Proofs.Try.func83 (by kernel_rfl)
theorem callable84 : Callable Proofs.Try.prog 84 := callable_of Proofs.Try.func84 (by kernel_rfl)
theorem callable85 : Callable Proofs.Try.prog 85 := callable_of Proofs.Try.func85 (by kernel_rfl)
theorem callable86 : Callable Proofs.Try.prog 86 := callable_of Proofs.Try.func86 (by kernel_rfl)
theorem callable87 : Callable Proofs.Try.prog 87 := callable_of Proofs.Try.func87 (by kernel_rfl)
theorem callable88 : Callable Proofs.Try.prog 88 := callable_of Proofs.Try.func88 (by kernel_rfl)
theorem callable89 : Callable Proofs.Try.prog 89 := callable_of Proofs.Try.func89 (by kernel_rfl)
theorem callable90 : Callable Proofs.Try.prog 90 := callable_of Proofs.Try.func90 (by kernel_rfl)
theorem callable91 : Callable Proofs.Try.prog 91 := callable_of Proofs.Try.func91 (by kernel_rfl)
theorem callable92 : Callable Proofs.Try.prog 92 := callable_of Proofs.Try.func92 (by kernel_rfl)
theorem callable93 : Callable Proofs.Try.prog 93 := callable_of Proofs.Try.func93 (by kernel_rfl)
theorem callable94 : Callable Proofs.Try.prog 94 := callable_of Proofs.Try.func94 (by kernel_rfl)
theorem callable95 : Callable Proofs.Try.prog 95 := callable_of Proofs.Try.func95 (by kernel_rfl)
theorem callable96 : Callable Proofs.Try.prog 96 := callable_of Proofs.Try.func96 (by kernel_rfl)
theorem callable97 : Callable Proofs.Try.prog 97 := callable_of Proofs.Try.func97 (by kernel_rfl)
theorem callable98 : Callable Proofs.Try.prog 98 := callable_of Proofs.Try.func98 (by kernel_rfl)
end Go.PL
