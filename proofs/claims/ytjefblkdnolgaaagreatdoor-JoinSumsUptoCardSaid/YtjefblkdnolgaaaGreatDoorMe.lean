/-
  Parts: Functions of the seat as trees, and that the program computes them. Printed by a program of our own. Plain reasoning about functions from trees: what they come to. Own work. Plain facts: numbers that wrap, lists by index, comparisons. Own work. Plain law: how values, rows and deltas are compared. Own work. Plain law: the stable sort of the library: insertion sort, exchanging and rotating parts. Own work. Plain law: the stable sort of the library: merging in place, and the whole. Own work.
-/
import Derived.Test.YtjefblkdnolgaaaGreatDoorMd
import Derived.Sort.LotA
import Derived.Lib.Bytealg
namespace Go.PL
open Go Go.Proofs
set_option linter.unusedVariables false
set_option maxRecDepth 20000
def bOp (x : GNode) (k : Nat) (c : Int) : PObj := .box [.t (.int .i64 (x.Op)), .t (eL cInt (x.In)), .t (.str (x.Source)), .t (.int .i64 (x.Schema)), .t (.lz (.exprs (x.Exprs))), .t (.int .i64 (x.Kind)), .t (.int .i64 (x.Size)), .t (.int .i64 (x.Step)), .t (eL cInt (x.Key)), .t (eL cInt (x.Key2)), .t (.int .i64 (x.Before)), .t (.int .i64 (x.After)), .t (.int .i64 (x.Keep)), .t (eL cGAgg (x.Aggs)), .t (eL cGPat (x.Seq)), .t (eL cGCol (x.Cols)), .map k, .t (.int .i64 (c))]
abbrev mS (c : GSide) : Mem := Mem.box (cGSide c)
abbrev LS := List (ByteArray × GSide)
abbrev LD := List GDelta
abbrev tI (x : Int) : PV := .t (.int .i64 x)
abbrev tB (x : Bool) : PV := .t (.bool x)
abbrev tD (x : List GDelta) : PV := .t (eL cGDelta x)
abbrev tV (x : List GValue) : PV := .t (eL cGValue x)
abbrev aD (x : List GDelta) : PObj := .arr 50 3 (x.length) (eF cGDelta x)
abbrev bN (x : GNode) : PObj := .box ((cGNode x).map .t)
abbrev mM (x : LS) : PObj := .mp none (eM mS x) none
noncomputable section
def T130_L0 (a0 : List Int) : Int → TP ((Int) ⊕ ((Unit) ⊕ (Int)))
 | v1 => .ite 1 (decide (v1 < ((a0.length : Int)))) (.grd 1 (0 ≤ v1 ∧ v1 < (a0.length : Int)) <| .ite 5 ((a0.getD (v1).toNat default) != 0) (.ret 2 (.inr (.inr (a0.getD (v1).toNat default)))) (.ret 2 (.inl (IntKind.i64.wrap (v1 + 1))))) (.ret 0 (.inr (.inl ())))
def T130 (a0 : List Int) : TP (Int) := .lp 5 (fun (v1 : Int) => (⟨[(3, tI 0), (6, .t (eL cInt (a0))), (7, tI ((a0.length : Int))), (8, tI v1)], []⟩ : St)) (fun (_ : Unit) => (⟨[(3, tI 0)], []⟩ : St)) 0 0 (T130_L0 a0) fun _ => .ret 2 0
def G130 (a0 : List Int) : Option (Int) := (T130 a0).den
theorem G130_ok (a0 : List Int) : Con Tryz.prog 156 [.t (eL cInt (a0))] (G130 a0) (fun (y : Int) => tI y) := con Tryz.func156 ti_ok (T130 a0)
def T173 (a0 : Int) : TP (Bool) := .ret 5 (a0 != a0)
def G173 (a0 : Int) : Option (Bool) := (T173 a0).den
theorem G173_ok (a0 : Int) : Con Tryz.prog 215 [tI a0] (G173 a0) (fun (y : Bool) => tB y) := con Tryz.func215 ti_ok (T173 a0)
def T131 (a0 : Int) (a1 : Int) : TP (Int) := .ca 2 (G173_ok a0) fun r1 => .ca 2 (G173_ok a1) fun r2 => .ite 2 (r1) (.ite 1 (r2) (.ret 1 0) (.ret 1 (-1))) (.ite 1 (r2) (.ret 1 1) (.ite 3 (decide (a0 < a1)) (.ret 1 (-1)) (.ite 3 (decide (a0 > a1)) (.ret 1 1) (.ret 1 0))))
def G131 (a0 : Int) (a1 : Int) : Option (Int) := (T131 a0 a1).den
theorem G131_ok (a0 : Int) (a1 : Int) : Con Tryz.prog 157 [tI a0, tI a1] (G131 a0 a1) (fun (y : Int) => tI y) := con Tryz.func157 ti_ok (T131 a0 a1)
def T175 (a0 : GValue) (a1 : GValue) : TP (Int) := .dc 4 [tI a0.Kind, tI a1.Kind] (G131_ok a0.Kind a1.Kind) fun r1 => .dc 9 [tI a0.N, tI a1.N] (G131_ok a0.N a1.N) fun r2 => .dc 14 [.t (.str (a0.S)), .t (.str (a1.S))] (G194_ok a0.S a1.S) fun r3 => .dc 16 [.t (.sl 3 (arrOf [.int .i64 (r1), .int .i64 (r2), .int .i64 (r3)] 1))] (G130_ok (([r1, r2, r3] : List Int))) fun r4 => .dr 3 0 [(2, false, []), (3, false, [])] [0, 1, 2, 3] <| .ret 0 r4
def G175 (a0 : GValue) (a1 : GValue) : Option (Int) := (T175 a0 a1).den
theorem G175_ok (a0 : GValue) (a1 : GValue) : Con Tryz.prog 177 [.t (eGValue a0), .t (eGValue a1)] (G175 a0 a1) (fun (y : Int) => tI y) := con Tryz.func177 ti_ok (T175 a0 a1)
def T174s0_L0 (a0 : List GValue) (a1 : List GValue) : Int → TP ((Int) ⊕ ((Unit) ⊕ (Int)))
 | v1 => .ite 1 (decide (v1 < ((a0.length : Int)))) (.grd 2 (0 ≤ v1 ∧ v1 < (a0.length : Int)) <| .ite 8 (decide (v1 ≥ ((a1.length : Int)))) (.ret 1 (.inr (.inr 1))) (.grd 3 (0 ≤ v1 ∧ v1 < (a1.length : Int)) <| .ca 6 (G175_ok (a0.getD (v1).toNat default) (a1.getD (v1).toNat default)) fun r2 => .ite 3 (r2 != 0) (.ret 2 (.inr (.inr r2))) (.ret 2 (.inl (IntKind.i64.wrap (v1 + 1)))))) (.ret 0 (.inr (.inl ())))
def T174s0 (a0 : List GValue) (a1 : List GValue) : TP (Int) := .lp 4 (fun (v1 : Int) => (⟨[(0, tV a0), (1, tV a1), (2, .fn (.func 177) 0 []), (11, tV a0), (12, tI ((a0.length : Int))), (13, tI v1)], []⟩ : St)) (fun (_ : Unit) => (⟨[(0, tV a0), (1, tV a1)], []⟩ : St)) 0 0 (T174s0_L0 a0 a1) fun _ => .ite 5 (decide (((a0.length : Int)) < ((a1.length : Int)))) (.ret 1 (-1)) (.ret 1 0)
def G174s0 (a0 : List GValue) (a1 : List GValue) : Option (Int) := (T174s0 a0 a1).den
theorem G174s0_ok (a0 : List GValue) (a1 : List GValue) : ConH Tryz.prog 216 [tV a0, tV a1, .fn (.func 177) 0 []] [] [] (G174s0 a0 a1) (fun (y : Int) => tI y) (fun (y : Int) => []) := conH Tryz.func216 ti_ok (T174s0 a0 a1)
def T132 (a0 : List GValue) (a1 : List GValue) : TP (Int) := .ch 3 [] (G174s0_ok a0 a1) fun r1 => .ret 1 r1
def G132 (a0 : List GValue) (a1 : List GValue) : Option (Int) := (T132 a0 a1).den
theorem G132_ok (a0 : List GValue) (a1 : List GValue) : Con Tryz.prog 158 [tV a0, tV a1] (G132 a0 a1) (fun (y : Int) => tI y) := con Tryz.func158 ti_ok (T132 a0 a1)
def T61 (a0 : GDelta) (a1 : GDelta) : TP (Int) := .dc 4 [tI a0.Time, tI a1.Time] (G131_ok a0.Time a1.Time) fun r1 => .dc 9 [tV a0.Row, tV a1.Row] (G132_ok a0.Row a1.Row) fun r2 => .dc 11 [.t (.sl 2 (arrOf [.int .i64 (r1), .int .i64 (r2)] 1))] (G130_ok (([r1, r2] : List Int))) fun r3 => .dr 3 0 [(2, false, []), (3, false, [])] [0, 1, 2, 3] <| .ret 0 r3
def G61 (a0 : GDelta) (a1 : GDelta) : Option (Int) := (T61 a0 a1).den
theorem G61_ok (a0 : GDelta) (a1 : GDelta) : Con Tryz.prog 69 [.t (eGDelta a0), .t (eGDelta a1)] (G61 a0 a1) (fun (y : Int) => tI y) := con Tryz.func69 ti_ok (T61 a0 a1)
def T176s1_L1 (a1 : Int) (a2 : Int) (v2 : Int) : (LD × Int) → TP ((LD × Int) ⊕ ((LD) ⊕ ((LD × Int) ⊕ ((LD) ⊕ (LD)))))
 | (v4, v5) => .jn 0 0 (fun (j7 : Bool) => (⟨[(0, .own 30000), (1, tI a1), (2, tI a2), (3, .fn (.func 69) 0 []), (8, tI v2), (9, tI v5), (34, tB j7)], [(30000, aD v4)]⟩ : St)) (.dl 3 (decide (v5 > a1)) (.dg 7 (0 ≤ v5 ∧ v5 < (v4.length : Int)) <| .dg 8 ((v5).toNat < v4.length) <| .dg 12 (0 ≤ (IntKind.i64.wrap (v5 - 1)) ∧ (IntKind.i64.wrap (v5 - 1)) < (v4.length : Int)) <| .dg 13 ((IntKind.i64.wrap (v5 - 1)).toNat < v4.length) <| .dc 14 [.t (eGDelta (v4.getD (v5).toNat default)), .t (eGDelta (v4.getD (IntKind.i64.wrap (v5 - 1)).toNat default))] (G61_ok (v4.getD (v5).toNat default) (v4.getD (IntKind.i64.wrap (v5 - 1)).toNat default)) fun r8 => .dr 0 0 [(30000, false, [])] [0, 1, 2, 3, 8, 9] <| .ret 0 (decide (r8 < 0))) (.dr 0 0 [(30000, false, [])] [0, 1, 2, 3, 8, 9] <| .ret 0 false)) fun j7 => .ite 0 (j7) (.dg 8 (0 ≤ (IntKind.i64.wrap (v5 - 1)) ∧ (IntKind.i64.wrap (v5 - 1)) < (v4.length : Int)) <| .dg 9 ((IntKind.i64.wrap (v5 - 1)).toNat < v4.length) <| .dg 12 (0 ≤ v5 ∧ v5 < (v4.length : Int)) <| .dg 13 ((v5).toNat < v4.length) <| .dg 14 (0 ≤ v5 ∧ v5 < (v4.length : Int)) <| .dg 15 ((v5).toNat < v4.length) <| .dg 16 (0 ≤ (IntKind.i64.wrap (v5 - 1)) ∧ (IntKind.i64.wrap (v5 - 1)) < (v4.length : Int)) <| .dg 17 ((IntKind.i64.wrap (v5 - 1)).toNat < v4.length) <| .dr 0 0 [(30000, false, [15, 17])] [0, 1, 2, 3, 8, 9, 34] <| .sto 0 30000 cGDelta v4 [((v5).toNat, v4.getD (IntKind.i64.wrap (v5 - 1)).toNat default), ((IntKind.i64.wrap (v5 - 1)).toNat, v4.getD (v5).toNat default)] <| .ret 3 (.inl ((v4.set (v5).toNat (v4.getD (IntKind.i64.wrap (v5 - 1)).toNat default)).set (IntKind.i64.wrap (v5 - 1)).toNat (v4.getD (v5).toNat default), IntKind.i64.wrap (v5 - 1)))) (.ret 0 (.inr (.inl v4)))
def T176s1_L0 (a1 : Int) (a2 : Int) : (LD × Int) → TP ((LD × Int) ⊕ ((LD) ⊕ (LD)))
 | (v1, v2) => .ite 3 (decide (v2 < a2)) (.lp 2 (fun (s : LD × Int) => match s with | (v4, v5) => (⟨[(0, .own 30000), (1, tI a1), (2, tI a2), (3, .fn (.func 69) 0 []), (8, tI v2), (9, tI v5)], [(30000, aD v4)]⟩ : St)) (fun (b6 : LD) => (⟨[(0, .own 30000), (1, tI a1), (2, tI a2), (3, .fn (.func 69) 0 []), (8, tI v2)], [(30000, aD b6)]⟩ : St)) 2 (v1, v2) (T176s1_L1 a1 a2 v2) fun b6 => .ret 3 (.inl (b6, IntKind.i64.wrap (v2 + 1)))) (.ret 0 (.inr (.inl v1)))
def T176s1 (a1 : Int) (a2 : Int) (h30000 : LD) : TP (LD) := .lp 3 (fun (s : LD × Int) => match s with | (v1, v2) => (⟨[(0, .own 30000), (1, tI a1), (2, tI a2), (3, .fn (.func 69) 0 []), (8, tI v2)], [(30000, aD v1)]⟩ : St)) (fun (b3 : LD) => (⟨[], [(30000, aD b3)]⟩ : St)) 0 (h30000, IntKind.i64.wrap (a1 + 1)) (T176s1_L0 a1 a2) fun b3 => .ret 0 b3
def G176s1 (a1 : Int) (a2 : Int) (h30000 : LD) : Option (LD) := (T176s1 a1 a2 h30000).den
theorem G176s1_ok (a1 : Int) (a2 : Int) (h30000 : LD) : ConH Tryz.prog 271 [.own 30000, tI a1, tI a2, .fn (.func 69) 0 []] [(30000, aD h30000)] [30000] (G176s1 a1 a2 h30000) (fun (y : LD) => .tup []) (fun (y : LD) => [(30000, aD y)]) := conH Tryz.func271 ti_ok (T176s1 a1 a2 h30000)
def T211s0_L0 (a1 : Int) (a2 : Int) (a3 : Int) : (LD × Int) → TP ((LD × Int) ⊕ ((LD) ⊕ (LD)))
 | (v1, v2) => .ite 3 (decide (v2 < a3)) (.dg 12 (0 ≤ (IntKind.i64.wrap (a2 + v2)) ∧ (IntKind.i64.wrap (a2 + v2)) < (v1.length : Int)) <| .dg 13 ((IntKind.i64.wrap (a2 + v2)).toNat < v1.length) <| .dg 18 (0 ≤ (IntKind.i64.wrap (a1 + v2)) ∧ (IntKind.i64.wrap (a1 + v2)) < (v1.length : Int)) <| .dg 19 ((IntKind.i64.wrap (a1 + v2)).toNat < v1.length) <| .dg 20 (0 ≤ (IntKind.i64.wrap (a1 + v2)) ∧ (IntKind.i64.wrap (a1 + v2)) < (v1.length : Int)) <| .dg 21 ((IntKind.i64.wrap (a1 + v2)).toNat < v1.length) <| .dg 22 (0 ≤ (IntKind.i64.wrap (a2 + v2)) ∧ (IntKind.i64.wrap (a2 + v2)) < (v1.length : Int)) <| .dg 23 ((IntKind.i64.wrap (a2 + v2)).toNat < v1.length) <| .dr 0 0 [(30000, false, [21, 23])] [0, 1, 2, 3, 10, 11, 12, 13] <| .sto 0 30000 cGDelta v1 [((IntKind.i64.wrap (a1 + v2)).toNat, v1.getD (IntKind.i64.wrap (a2 + v2)).toNat default), ((IntKind.i64.wrap (a2 + v2)).toNat, v1.getD (IntKind.i64.wrap (a1 + v2)).toNat default)] <| .ret 3 (.inl ((v1.set (IntKind.i64.wrap (a1 + v2)).toNat (v1.getD (IntKind.i64.wrap (a2 + v2)).toNat default)).set (IntKind.i64.wrap (a2 + v2)).toNat (v1.getD (IntKind.i64.wrap (a1 + v2)).toNat default), IntKind.i64.wrap (v2 + 1)))) (.ret 0 (.inr (.inl v1)))
def T211s0 (a1 : Int) (a2 : Int) (a3 : Int) (h30000 : LD) : TP (LD) := .lp 1 (fun (s : LD × Int) => match s with | (v1, v2) => (⟨[(0, .own 30000), (1, tI a1), (2, tI a2), (3, tI a3), (10, tI v2)], [(30000, aD v1)]⟩ : St)) (fun (b3 : LD) => (⟨[], [(30000, aD b3)]⟩ : St)) 0 (h30000, 0) (T211s0_L0 a1 a2 a3) fun b3 => .ret 0 b3
def G211s0 (a1 : Int) (a2 : Int) (a3 : Int) (h30000 : LD) : Option (LD) := (T211s0 a1 a2 a3 h30000).den
theorem G211s0_ok (a1 : Int) (a2 : Int) (a3 : Int) (h30000 : LD) : ConH Tryz.prog 320 [.own 30000, tI a1, tI a2, tI a3, .fn (.func 69) 0 []] [(30000, aD h30000)] [30000] (G211s0 a1 a2 a3 h30000) (fun (y : LD) => .tup []) (fun (y : LD) => [(30000, aD y)]) := conH Tryz.func320 ti_ok (T211s0 a1 a2 a3 h30000)
def T195s0_L0 (a2 : Int) : (LD × Int × Int) → TP ((LD × Int × Int) ⊕ ((LD × Int) ⊕ (LD)))
 | (v1, v2, v3) => .ite 3 (v2 != v3) (.jn 3 0 (fun (s : LD × Int × Int) => match s with | (j6, j7, j8) => (⟨[(0, .own 30000), (2, tI a2), (4, .fn (.func 69) 0 []), (10, tI j7), (11, tI j8)], [(30000, aD j6)]⟩ : St)) (.ite 0 (decide (v2 > v3)) (.ch 7 [] (G211s0_ok (IntKind.i64.wrap (a2 - v2)) a2 v3 v1) fun r9 => .ret 4 (r9, IntKind.i64.wrap (v2 - v3), v3)) (.ch 11 [] (G211s0_ok (IntKind.i64.wrap (a2 - v2)) (IntKind.i64.wrap ((IntKind.i64.wrap (a2 + v3)) - v2)) v2 v1) fun r10 => .ret 4 (r10, v2, IntKind.i64.wrap (v3 - v2)))) fun (j6, j7, j8) => .ret 0 (.inl (j6, j7, j8))) (.ret 0 (.inr (.inl (v1, v2))))
def T195s0 (a1 : Int) (a2 : Int) (a3 : Int) (h30000 : LD) : TP (LD) := .lp 8 (fun (s : LD × Int × Int) => match s with | (v1, v2, v3) => (⟨[(0, .own 30000), (2, tI a2), (4, .fn (.func 69) 0 []), (10, tI v2), (11, tI v3)], [(30000, aD v1)]⟩ : St)) (fun (s : LD × Int) => match s with | (b4, b5) => (⟨[(0, .own 30000), (2, tI a2), (4, .fn (.func 69) 0 []), (10, tI b5)], [(30000, aD b4)]⟩ : St)) 0 (h30000, IntKind.i64.wrap (a2 - a1), IntKind.i64.wrap (a3 - a2)) (T195s0_L0 a2) fun (b4, b5) => .ch 7 [] (G211s0_ok (IntKind.i64.wrap (a2 - b5)) a2 b5 b4) fun r11 => .ret 0 r11
def G195s0 (a1 : Int) (a2 : Int) (a3 : Int) (h30000 : LD) : Option (LD) := (T195s0 a1 a2 a3 h30000).den
theorem G195s0_ok (a1 : Int) (a2 : Int) (a3 : Int) (h30000 : LD) : ConH Tryz.prog 294 [.own 30000, tI a1, tI a2, tI a3, .fn (.func 69) 0 []] [(30000, aD h30000)] [30000] (G195s0 a1 a2 a3 h30000) (fun (y : LD) => .tup []) (fun (y : LD) => [(30000, aD y)]) := conH Tryz.func294 ti_ok (T195s0 a1 a2 a3 h30000)
abbrev R177s0 := {f : (Int × Int × Int × LD) → Option (LD) // ∀ a : Int × Int × Int × LD, ConH Tryz.prog 272 [.own 30000, tI a.1, tI a.2.1, tI a.2.2.1, .fn (.func 69) 0 []] [(30000, .arr 50 3 (a.2.2.2.length) (eF cGDelta a.2.2.2))] [30000] (f a) (fun (y : LD) => .tup []) (fun (y : LD) => [(30000, aD y)])}
def T177s0_L0 (a1 : Int) (h30000 : LD) : (Int × Int) → TP ((Int × Int) ⊕ ((Int) ⊕ (LD)))
 | (v1, v2) => .ite 3 (decide (v1 < v2)) (.gd 5 (0 ≤ (1 : Int)) (by decide) <| .dg 3 (0 ≤ (IntKind.i64.wrap (shrI .u64 (IntKind.u64.wrap (IntKind.i64.wrap (v1 + v2))) 1)) ∧ (IntKind.i64.wrap (shrI .u64 (IntKind.u64.wrap (IntKind.i64.wrap (v1 + v2))) 1)) < (h30000.length : Int)) <| .dg 4 ((IntKind.i64.wrap (shrI .u64 (IntKind.u64.wrap (IntKind.i64.wrap (v1 + v2))) 1)).toNat < h30000.length) <| .dg 7 (0 ≤ a1 ∧ a1 < (h30000.length : Int)) <| .dg 8 ((a1).toNat < h30000.length) <| .dc 9 [.t (eGDelta (h30000.getD (IntKind.i64.wrap (shrI .u64 (IntKind.u64.wrap (IntKind.i64.wrap (v1 + v2))) 1)).toNat default)), .t (eGDelta (h30000.getD (a1).toNat default))] (G61_ok (h30000.getD (IntKind.i64.wrap (shrI .u64 (IntKind.u64.wrap (IntKind.i64.wrap (v1 + v2))) 1)).toNat default) (h30000.getD (a1).toNat default)) fun r4 => .dr 2 0 [(30000, false, [])] [0, 1, 4, 10, 11, 12, 31, 32, 33, 34, 35, 36, 37, 38, 39] <| .jn 0 0 (fun (s : Int × Int) => match s with | (j5, j6) => (⟨[(0, .own 30000), (1, tI a1), (4, .fn (.func 69) 0 []), (10, tI j5), (11, tI j6)], [(30000, aD h30000)]⟩ : St)) (.ite 0 (decide (r4 < 0)) (.ret 3 (IntKind.i64.wrap ((IntKind.i64.wrap (shrI .u64 (IntKind.u64.wrap (IntKind.i64.wrap (v1 + v2))) 1)) + 1), v2)) (.ret 2 (v1, IntKind.i64.wrap (shrI .u64 (IntKind.u64.wrap (IntKind.i64.wrap (v1 + v2))) 1)))) fun (j5, j6) => .ret 0 (.inl (j5, j6))) (.ret 0 (.inr (.inl v1)))
def T177s0_L1 (b3 : Int) : (LD × Int) → TP ((LD × Int) ⊕ ((LD) ⊕ (LD)))
 | (v7, v8) => .ite 4 (decide (v8 < (IntKind.i64.wrap (b3 - 1)))) (.dg 8 (0 ≤ (IntKind.i64.wrap (v8 + 1)) ∧ (IntKind.i64.wrap (v8 + 1)) < (v7.length : Int)) <| .dg 9 ((IntKind.i64.wrap (v8 + 1)).toNat < v7.length) <| .dg 12 (0 ≤ v8 ∧ v8 < (v7.length : Int)) <| .dg 13 ((v8).toNat < v7.length) <| .dg 14 (0 ≤ v8 ∧ v8 < (v7.length : Int)) <| .dg 15 ((v8).toNat < v7.length) <| .dg 16 (0 ≤ (IntKind.i64.wrap (v8 + 1)) ∧ (IntKind.i64.wrap (v8 + 1)) < (v7.length : Int)) <| .dg 17 ((IntKind.i64.wrap (v8 + 1)).toNat < v7.length) <| .dr 0 0 [(30000, false, [15, 17])] [0, 10, 13, 55, 56, 57, 58] <| .sto 0 30000 cGDelta v7 [((v8).toNat, v7.getD (IntKind.i64.wrap (v8 + 1)).toNat default), ((IntKind.i64.wrap (v8 + 1)).toNat, v7.getD (v8).toNat default)] <| .ret 3 (.inl ((v7.set (v8).toNat (v7.getD (IntKind.i64.wrap (v8 + 1)).toNat default)).set (IntKind.i64.wrap (v8 + 1)).toNat (v7.getD (v8).toNat default), IntKind.i64.wrap (v8 + 1)))) (.ret 0 (.inr (.inl v7)))
def T177s0_L2 (a2 : Int) (h30000 : LD) : (Int × Int) → TP ((Int × Int) ⊕ ((Int) ⊕ (LD)))
 | (v10, v11) => .ite 3 (decide (v10 < v11)) (.gd 5 (0 ≤ (1 : Int)) (by decide) <| .dg 3 (0 ≤ a2 ∧ a2 < (h30000.length : Int)) <| .dg 4 ((a2).toNat < h30000.length) <| .dg 7 (0 ≤ (IntKind.i64.wrap (shrI .u64 (IntKind.u64.wrap (IntKind.i64.wrap (v10 + v11))) 1)) ∧ (IntKind.i64.wrap (shrI .u64 (IntKind.u64.wrap (IntKind.i64.wrap (v10 + v11))) 1)) < (h30000.length : Int)) <| .dg 8 ((IntKind.i64.wrap (shrI .u64 (IntKind.u64.wrap (IntKind.i64.wrap (v10 + v11))) 1)).toNat < h30000.length) <| .dc 9 [.t (eGDelta (h30000.getD (a2).toNat default)), .t (eGDelta (h30000.getD (IntKind.i64.wrap (shrI .u64 (IntKind.u64.wrap (IntKind.i64.wrap (v10 + v11))) 1)).toNat default))] (G61_ok (h30000.getD (a2).toNat default) (h30000.getD (IntKind.i64.wrap (shrI .u64 (IntKind.u64.wrap (IntKind.i64.wrap (v10 + v11))) 1)).toNat default)) fun r13 => .dr 2 0 [(30000, false, [])] [0, 2, 4, 14, 15, 16, 83, 84, 85, 86, 87, 88, 89, 90, 91] <| .jn 0 0 (fun (s : Int × Int) => match s with | (j14, j15) => (⟨[(0, .own 30000), (2, tI a2), (4, .fn (.func 69) 0 []), (14, tI j14), (15, tI j15)], [(30000, aD h30000)]⟩ : St)) (.ite 0 (!(decide (r13 < 0))) (.ret 3 (IntKind.i64.wrap ((IntKind.i64.wrap (shrI .u64 (IntKind.u64.wrap (IntKind.i64.wrap (v10 + v11))) 1)) + 1), v11)) (.ret 2 (v10, IntKind.i64.wrap (shrI .u64 (IntKind.u64.wrap (IntKind.i64.wrap (v10 + v11))) 1)))) fun (j14, j15) => .ret 0 (.inl (j14, j15))) (.ret 0 (.inr (.inl v10)))
def T177s0_L3 (b12 : Int) : (LD × Int) → TP ((LD × Int) ⊕ ((LD) ⊕ (LD)))
 | (v16, v17) => .ite 3 (decide (v17 > b12)) (.dg 8 (0 ≤ (IntKind.i64.wrap (v17 - 1)) ∧ (IntKind.i64.wrap (v17 - 1)) < (v16.length : Int)) <| .dg 9 ((IntKind.i64.wrap (v17 - 1)).toNat < v16.length) <| .dg 12 (0 ≤ v17 ∧ v17 < (v16.length : Int)) <| .dg 13 ((v17).toNat < v16.length) <| .dg 14 (0 ≤ v17 ∧ v17 < (v16.length : Int)) <| .dg 15 ((v17).toNat < v16.length) <| .dg 16 (0 ≤ (IntKind.i64.wrap (v17 - 1)) ∧ (IntKind.i64.wrap (v17 - 1)) < (v16.length : Int)) <| .dg 17 ((IntKind.i64.wrap (v17 - 1)).toNat < v16.length) <| .dr 0 0 [(30000, false, [15, 17])] [0, 14, 17, 108, 109, 110] <| .sto 0 30000 cGDelta v16 [((v17).toNat, v16.getD (IntKind.i64.wrap (v17 - 1)).toNat default), ((IntKind.i64.wrap (v17 - 1)).toNat, v16.getD (v17).toNat default)] <| .ret 3 (.inl ((v16.set (v17).toNat (v16.getD (IntKind.i64.wrap (v17 - 1)).toNat default)).set (IntKind.i64.wrap (v17 - 1)).toNat (v16.getD (v17).toNat default), IntKind.i64.wrap (v17 - 1)))) (.ret 0 (.inr (.inl v16)))
def T177s0_L4 (a1 : Int) (a2 : Int) (a3 : Int) (h30000 : LD) : (Int × Int) → TP ((Int × Int) ⊕ ((Int) ⊕ (LD)))
 | (v21, v22) => .ite 3 (decide (v21 < v22)) (.gd 5 (0 ≤ (1 : Int)) (by decide) <| .dg 5 (0 ≤ (IntKind.i64.wrap ((IntKind.i64.wrap ((IntKind.i64.wrap ((IntKind.i64.wrap (shrI .u64 (IntKind.u64.wrap (IntKind.i64.wrap (a1 + a3))) 1)) + a2)) - 1)) - (IntKind.i64.wrap (shrI .u64 (IntKind.u64.wrap (IntKind.i64.wrap (v21 + v22))) 1)))) ∧ (IntKind.i64.wrap ((IntKind.i64.wrap ((IntKind.i64.wrap ((IntKind.i64.wrap (shrI .u64 (IntKind.u64.wrap (IntKind.i64.wrap (a1 + a3))) 1)) + a2)) - 1)) - (IntKind.i64.wrap (shrI .u64 (IntKind.u64.wrap (IntKind.i64.wrap (v21 + v22))) 1)))) < (h30000.length : Int)) <| .dg 6 ((IntKind.i64.wrap ((IntKind.i64.wrap ((IntKind.i64.wrap ((IntKind.i64.wrap (shrI .u64 (IntKind.u64.wrap (IntKind.i64.wrap (a1 + a3))) 1)) + a2)) - 1)) - (IntKind.i64.wrap (shrI .u64 (IntKind.u64.wrap (IntKind.i64.wrap (v21 + v22))) 1)))).toNat < h30000.length) <| .dg 9 (0 ≤ (IntKind.i64.wrap (shrI .u64 (IntKind.u64.wrap (IntKind.i64.wrap (v21 + v22))) 1)) ∧ (IntKind.i64.wrap (shrI .u64 (IntKind.u64.wrap (IntKind.i64.wrap (v21 + v22))) 1)) < (h30000.length : Int)) <| .dg 10 ((IntKind.i64.wrap (shrI .u64 (IntKind.u64.wrap (IntKind.i64.wrap (v21 + v22))) 1)).toNat < h30000.length) <| .dc 11 [.t (eGDelta (h30000.getD (IntKind.i64.wrap ((IntKind.i64.wrap ((IntKind.i64.wrap ((IntKind.i64.wrap (shrI .u64 (IntKind.u64.wrap (IntKind.i64.wrap (a1 + a3))) 1)) + a2)) - 1)) - (IntKind.i64.wrap (shrI .u64 (IntKind.u64.wrap (IntKind.i64.wrap (v21 + v22))) 1)))).toNat default)), .t (eGDelta (h30000.getD (IntKind.i64.wrap (shrI .u64 (IntKind.u64.wrap (IntKind.i64.wrap (v21 + v22))) 1)).toNat default))] (G61_ok (h30000.getD (IntKind.i64.wrap ((IntKind.i64.wrap ((IntKind.i64.wrap ((IntKind.i64.wrap (shrI .u64 (IntKind.u64.wrap (IntKind.i64.wrap (a1 + a3))) 1)) + a2)) - 1)) - (IntKind.i64.wrap (shrI .u64 (IntKind.u64.wrap (IntKind.i64.wrap (v21 + v22))) 1)))).toNat default) (h30000.getD (IntKind.i64.wrap (shrI .u64 (IntKind.u64.wrap (IntKind.i64.wrap (v21 + v22))) 1)).toNat default)) fun r24 => .dr 2 0 [(30000, false, [])] [0, 1, 2, 3, 4, 18, 19, 20, 21, 22, 23, 149, 150, 151, 152, 153, 154, 155, 156, 157] <| .jn 0 0 (fun (s : Int × Int) => match s with | (j25, j26) => (⟨[(0, .own 30000), (1, tI a1), (2, tI a2), (3, tI a3), (4, .fn (.func 69) 0 []), (18, tI (IntKind.i64.wrap (shrI .u64 (IntKind.u64.wrap (IntKind.i64.wrap (a1 + a3))) 1))), (19, tI (IntKind.i64.wrap ((IntKind.i64.wrap (shrI .u64 (IntKind.u64.wrap (IntKind.i64.wrap (a1 + a3))) 1)) + a2))), (20, tI j25), (21, tI j26), (22, tI (IntKind.i64.wrap ((IntKind.i64.wrap ((IntKind.i64.wrap (shrI .u64 (IntKind.u64.wrap (IntKind.i64.wrap (a1 + a3))) 1)) + a2)) - 1)))], [(30000, aD h30000)]⟩ : St)) (.ite 0 (!(decide (r24 < 0))) (.ret 3 (IntKind.i64.wrap ((IntKind.i64.wrap (shrI .u64 (IntKind.u64.wrap (IntKind.i64.wrap (v21 + v22))) 1)) + 1), v22)) (.ret 2 (v21, IntKind.i64.wrap (shrI .u64 (IntKind.u64.wrap (IntKind.i64.wrap (v21 + v22))) 1)))) fun (j25, j26) => .ret 0 (.inl (j25, j26))) (.ret 0 (.inr (.inl v21)))
def T177s0 (rec : R177s0) (a1 : Int) (a2 : Int) (a3 : Int) (h30000 : LD) : TP (LD) := .ite 4 ((IntKind.i64.wrap (a2 - a1)) == 1) (.lp 4 (fun (s : Int × Int) => match s with | (v1, v2) => (⟨[(0, .own 30000), (1, tI a1), (4, .fn (.func 69) 0 []), (10, tI v1), (11, tI v2)], [(30000, aD h30000)]⟩ : St)) (fun (b3 : Int) => (⟨[(0, .own 30000), (1, tI a1), (10, tI b3)], [(30000, aD h30000)]⟩ : St)) 0 (a2, a3) (T177s0_L0 a1 h30000) fun b3 => .lp 2 (fun (s : LD × Int) => match s with | (v7, v8) => (⟨[(0, .own 30000), (10, tI b3), (13, tI v8)], [(30000, aD v7)]⟩ : St)) (fun (b9 : LD) => (⟨[], [(30000, aD b9)]⟩ : St)) 2 (h30000, a1) (T177s0_L1 b3) fun b9 => .ret 0 b9) (.ite 4 ((IntKind.i64.wrap (a3 - a2)) == 1) (.lp 4 (fun (s : Int × Int) => match s with | (v10, v11) => (⟨[(0, .own 30000), (2, tI a2), (4, .fn (.func 69) 0 []), (14, tI v10), (15, tI v11)], [(30000, aD h30000)]⟩ : St)) (fun (b12 : Int) => (⟨[(0, .own 30000), (2, tI a2), (14, tI b12)], [(30000, aD h30000)]⟩ : St)) 4 (a1, a2) (T177s0_L2 a2 h30000) fun b12 => .lp 2 (fun (s : LD × Int) => match s with | (v16, v17) => (⟨[(0, .own 30000), (14, tI b12), (17, tI v17)], [(30000, aD v16)]⟩ : St)) (fun (b18 : LD) => (⟨[], [(30000, aD b18)]⟩ : St)) 6 (h30000, a2) (T177s0_L3 b12) fun b18 => .ret 0 b18) (.gd 5 (0 ≤ (1 : Int)) (by decide) <| .jn 11 0 (fun (s : Int × Int) => match s with | (j19, j20) => (⟨[(0, .own 30000), (1, tI a1), (2, tI a2), (3, tI a3), (4, .fn (.func 69) 0 []), (18, tI (IntKind.i64.wrap (shrI .u64 (IntKind.u64.wrap (IntKind.i64.wrap (a1 + a3))) 1))), (19, tI (IntKind.i64.wrap ((IntKind.i64.wrap (shrI .u64 (IntKind.u64.wrap (IntKind.i64.wrap (a1 + a3))) 1)) + a2))), (20, tI j19), (21, tI j20)], [(30000, aD h30000)]⟩ : St)) (.ite 0 (decide (a2 > (IntKind.i64.wrap (shrI .u64 (IntKind.u64.wrap (IntKind.i64.wrap (a1 + a3))) 1)))) (.ret 6 (IntKind.i64.wrap ((IntKind.i64.wrap ((IntKind.i64.wrap (shrI .u64 (IntKind.u64.wrap (IntKind.i64.wrap (a1 + a3))) 1)) + a2)) - a3), IntKind.i64.wrap (shrI .u64 (IntKind.u64.wrap (IntKind.i64.wrap (a1 + a3))) 1))) (.ret 4 (a1, a2))) fun (j19, j20) => .lp 3 (fun (s : Int × Int) => match s with | (v21, v22) => (⟨[(0, .own 30000), (1, tI a1), (2, tI a2), (3, tI a3), (4, .fn (.func 69) 0 []), (18, tI (IntKind.i64.wrap (shrI .u64 (IntKind.u64.wrap (IntKind.i64.wrap (a1 + a3))) 1))), (19, tI (IntKind.i64.wrap ((IntKind.i64.wrap (shrI .u64 (IntKind.u64.wrap (IntKind.i64.wrap (a1 + a3))) 1)) + a2))), (20, tI v21), (21, tI v22), (22, tI (IntKind.i64.wrap ((IntKind.i64.wrap ((IntKind.i64.wrap (shrI .u64 (IntKind.u64.wrap (IntKind.i64.wrap (a1 + a3))) 1)) + a2)) - 1)))], [(30000, aD h30000)]⟩ : St)) (fun (b23 : Int) => (⟨[(0, .own 30000), (1, tI a1), (2, tI a2), (3, tI a3), (4, .fn (.func 69) 0 []), (18, tI (IntKind.i64.wrap (shrI .u64 (IntKind.u64.wrap (IntKind.i64.wrap (a1 + a3))) 1))), (19, tI (IntKind.i64.wrap ((IntKind.i64.wrap (shrI .u64 (IntKind.u64.wrap (IntKind.i64.wrap (a1 + a3))) 1)) + a2))), (20, tI b23)], [(30000, aD h30000)]⟩ : St)) 8 (j19, j20) (T177s0_L4 a1 a2 a3 h30000) fun b23 => .jn 8 0 (fun (j27 : Bool) => (⟨[(0, .own 30000), (1, tI a1), (2, tI a2), (3, tI a3), (4, .fn (.func 69) 0 []), (18, tI (IntKind.i64.wrap (shrI .u64 (IntKind.u64.wrap (IntKind.i64.wrap (a1 + a3))) 1))), (20, tI b23), (24, tI (IntKind.i64.wrap ((IntKind.i64.wrap ((IntKind.i64.wrap (shrI .u64 (IntKind.u64.wrap (IntKind.i64.wrap (a1 + a3))) 1)) + a2)) - b23))), (185, tB j27)], [(30000, aD h30000)]⟩ : St)) (.ite 0 (decide (b23 < a2)) (.ret 4 (decide (a2 < (IntKind.i64.wrap ((IntKind.i64.wrap ((IntKind.i64.wrap (shrI .u64 (IntKind.u64.wrap (IntKind.i64.wrap (a1 + a3))) 1)) + a2)) - b23))))) (.ret 4 false)) fun j27 => .jn 0 0 (fun (j28 : LD) => (⟨[(0, .own 30000), (1, tI a1), (3, tI a3), (4, .fn (.func 69) 0 []), (18, tI (IntKind.i64.wrap (shrI .u64 (IntKind.u64.wrap (IntKind.i64.wrap (a1 + a3))) 1))), (20, tI b23), (24, tI (IntKind.i64.wrap ((IntKind.i64.wrap ((IntKind.i64.wrap (shrI .u64 (IntKind.u64.wrap (IntKind.i64.wrap (a1 + a3))) 1)) + a2)) - b23)))], [(30000, aD j28)]⟩ : St)) (.ite 0 (j27) (.ch 5 [] (G195s0_ok b23 a2 (IntKind.i64.wrap ((IntKind.i64.wrap ((IntKind.i64.wrap (shrI .u64 (IntKind.u64.wrap (IntKind.i64.wrap (a1 + a3))) 1)) + a2)) - b23)) h30000) fun r29 => .ret 0 r29) (.ret 0 h30000)) fun j28 => .jn 4 0 (fun (j30 : Bool) => (⟨[(0, .own 30000), (1, tI a1), (3, tI a3), (4, .fn (.func 69) 0 []), (18, tI (IntKind.i64.wrap (shrI .u64 (IntKind.u64.wrap (IntKind.i64.wrap (a1 + a3))) 1))), (20, tI b23), (24, tI (IntKind.i64.wrap ((IntKind.i64.wrap ((IntKind.i64.wrap (shrI .u64 (IntKind.u64.wrap (IntKind.i64.wrap (a1 + a3))) 1)) + a2)) - b23))), (199, tB j30)], [(30000, aD j28)]⟩ : St)) (.ite 0 (decide (a1 < b23)) (.ret 4 (decide (b23 < (IntKind.i64.wrap (shrI .u64 (IntKind.u64.wrap (IntKind.i64.wrap (a1 + a3))) 1))))) (.ret 4 false)) fun j30 => .jn 0 0 (fun (j31 : LD) => (⟨[(0, .own 30000), (3, tI a3), (4, .fn (.func 69) 0 []), (18, tI (IntKind.i64.wrap (shrI .u64 (IntKind.u64.wrap (IntKind.i64.wrap (a1 + a3))) 1))), (24, tI (IntKind.i64.wrap ((IntKind.i64.wrap ((IntKind.i64.wrap (shrI .u64 (IntKind.u64.wrap (IntKind.i64.wrap (a1 + a3))) 1)) + a2)) - b23)))], [(30000, aD j31)]⟩ : St)) (.ite 0 (j30) (.ch 5 [] (rec.2 (a1, b23, IntKind.i64.wrap (shrI .u64 (IntKind.u64.wrap (IntKind.i64.wrap (a1 + a3))) 1), j28)) fun r32 => .ret 0 r32) (.ret 0 j28)) fun j31 => .jn 4 0 (fun (j33 : Bool) => (⟨[(0, .own 30000), (3, tI a3), (4, .fn (.func 69) 0 []), (18, tI (IntKind.i64.wrap (shrI .u64 (IntKind.u64.wrap (IntKind.i64.wrap (a1 + a3))) 1))), (24, tI (IntKind.i64.wrap ((IntKind.i64.wrap ((IntKind.i64.wrap (shrI .u64 (IntKind.u64.wrap (IntKind.i64.wrap (a1 + a3))) 1)) + a2)) - b23))), (213, tB j33)], [(30000, aD j31)]⟩ : St)) (.ite 0 (decide ((IntKind.i64.wrap (shrI .u64 (IntKind.u64.wrap (IntKind.i64.wrap (a1 + a3))) 1)) < (IntKind.i64.wrap ((IntKind.i64.wrap ((IntKind.i64.wrap (shrI .u64 (IntKind.u64.wrap (IntKind.i64.wrap (a1 + a3))) 1)) + a2)) - b23)))) (.ret 4 (decide ((IntKind.i64.wrap ((IntKind.i64.wrap ((IntKind.i64.wrap (shrI .u64 (IntKind.u64.wrap (IntKind.i64.wrap (a1 + a3))) 1)) + a2)) - b23)) < a3))) (.ret 4 false)) fun j33 => .jn 0 0 (fun (j34 : LD) => (⟨[], [(30000, aD j34)]⟩ : St)) (.ite 0 (j33) (.ch 5 [] (rec.2 (IntKind.i64.wrap (shrI .u64 (IntKind.u64.wrap (IntKind.i64.wrap (a1 + a3))) 1), IntKind.i64.wrap ((IntKind.i64.wrap ((IntKind.i64.wrap (shrI .u64 (IntKind.u64.wrap (IntKind.i64.wrap (a1 + a3))) 1)) + a2)) - b23), a3, j31)) fun r35 => .ret 0 r35) (.ret 0 j31)) fun j34 => .ret 0 j34))
theorem T177s0_ok (rec : R177s0) (a1 : Int) (a2 : Int) (a3 : Int) (h30000 : LD) : ConH Tryz.prog 272 [.own 30000, tI a1, tI a2, tI a3, .fn (.func 69) 0 []] [(30000, aD h30000)] [30000] (T177s0 rec a1 a2 a3 h30000).den (fun (y : LD) => .tup []) (fun (y : LD) => [(30000, aD y)]) := conH Tryz.func272 ti_ok (T177s0 rec a1 a2 a3 h30000)
def H177s0 (a : Int × Int × Int × LD) : Option (LD) := fixF (C := fun (a : Int × Int × Int × LD) (x : Option (LD)) => ConH Tryz.prog 272 [.own 30000, tI a.1, tI a.2.1, tI a.2.2.1, .fn (.func 69) 0 []] [(30000, .arr 50 3 (a.2.2.2.length) (eF cGDelta a.2.2.2))] [30000] x (fun (y : LD) => .tup []) (fun (y : LD) => [(30000, aD y)])) (fun a => ⟨callable_of Tryz.func272 (by kernel_rfl), fun _ h => nomatch h⟩) (fun rec a => T177s0 rec a.1 a.2.1 a.2.2.1 a.2.2.2) (fun rec a => T177s0_ok rec a.1 a.2.1 a.2.2.1 a.2.2.2) a
theorem H177s0_ok (a : Int × Int × Int × LD) : ConH Tryz.prog 272 [.own 30000, tI a.1, tI a.2.1, tI a.2.2.1, .fn (.func 69) 0 []] [(30000, .arr 50 3 (a.2.2.2.length) (eF cGDelta a.2.2.2))] [30000] (H177s0 a) (fun (y : LD) => .tup []) (fun (y : LD) => [(30000, aD y)]) := fixF_ok (C := fun (a : Int × Int × Int × LD) (x : Option (LD)) => ConH Tryz.prog 272 [.own 30000, tI a.1, tI a.2.1, tI a.2.2.1, .fn (.func 69) 0 []] [(30000, .arr 50 3 (a.2.2.2.length) (eF cGDelta a.2.2.2))] [30000] x (fun (y : LD) => .tup []) (fun (y : LD) => [(30000, aD y)])) _ _ _ a
def G177s0 (a1 : Int) (a2 : Int) (a3 : Int) (h30000 : LD) : Option (LD) := H177s0 (a1, a2, a3, h30000)
theorem G177s0_ok (a1 : Int) (a2 : Int) (a3 : Int) (h30000 : LD) : ConH Tryz.prog 272 [.own 30000, tI a1, tI a2, tI a3, .fn (.func 69) 0 []] [(30000, aD h30000)] [30000] (G177s0 a1 a2 a3 h30000) (fun (y : LD) => .tup []) (fun (y : LD) => [(30000, aD y)]) := H177s0_ok (a1, a2, a3, h30000)
def T133s1_L0 (a1 : Int) : (LD × Int × Int) → TP ((LD × Int × Int) ⊕ ((LD × Int) ⊕ (LD)))
 | (v1, v2, v3) => .ite 3 (decide (v3 ≤ a1)) (.ch 4 [] (G176s1_ok v2 v3 v1) fun r6 => .ret 6 (.inl (r6, v3, IntKind.i64.wrap (v3 + 20)))) (.ret 0 (.inr (.inl (v1, v2))))
def T133s1_L2 (a1 : Int) (v9 : Int) : (LD × Int × Int) → TP ((LD × Int × Int) ⊕ ((LD × Int) ⊕ ((LD × Int) ⊕ ((LD) ⊕ (LD)))))
 | (v11, v12, v13) => .ite 3 (decide (v13 ≤ a1)) (.ch 7 [] (G177s0_ok v12 (IntKind.i64.wrap (v12 + v9)) v13 v11) fun r16 => .ret 7 (.inl (r16, v13, IntKind.i64.wrap (v13 + (IntKind.i64.wrap (2 * v9)))))) (.ret 0 (.inr (.inl (v11, v12))))
def T133s1_L1 (a1 : Int) : (LD × Int) → TP ((LD × Int) ⊕ ((LD) ⊕ (LD)))
 | (v8, v9) => .ite 3 (decide (v9 < a1)) (.lp 4 (fun (s : LD × Int × Int) => match s with | (v11, v12, v13) => (⟨[(0, .own 30000), (1, tI a1), (2, .fn (.func 69) 0 []), (6, tI v9), (7, tI v12), (8, tI v13)], [(30000, aD v11)]⟩ : St)) (fun (s : LD × Int) => match s with | (b14, b15) => (⟨[(0, .own 30000), (1, tI a1), (2, .fn (.func 69) 0 []), (6, tI v9), (7, tI b15)], [(30000, aD b14)]⟩ : St)) 4 (v8, 0, IntKind.i64.wrap (2 * v9)) (T133s1_L2 a1 v9) fun (b14, b15) => .jn 7 0 (fun (j17 : LD) => (⟨[(0, .own 30000), (1, tI a1), (2, .fn (.func 69) 0 []), (6, tI v9)], [(30000, aD j17)]⟩ : St)) (.ite 0 (decide ((IntKind.i64.wrap (b15 + v9)) < a1)) (.ch 5 [] (G177s0_ok b15 (IntKind.i64.wrap (b15 + v9)) a1 b14) fun r18 => .ret 0 r18) (.ret 0 b14)) fun j17 => .ret 3 (.inl (j17, IntKind.i64.wrap (v9 * 2)))) (.ret 0 (.inr (.inl v8)))
def T133s1 (a1 : Int) (h30000 : LD) : TP (LD) := .lp 4 (fun (s : LD × Int × Int) => match s with | (v1, v2, v3) => (⟨[(0, .own 30000), (1, tI a1), (2, .fn (.func 69) 0 []), (6, tI 20), (7, tI v2), (8, tI v3)], [(30000, aD v1)]⟩ : St)) (fun (s : LD × Int) => match s with | (b4, b5) => (⟨[(0, .own 30000), (1, tI a1), (2, .fn (.func 69) 0 []), (6, tI 20), (7, tI b5)], [(30000, aD b4)]⟩ : St)) 0 (h30000, 0, 20) (T133s1_L0 a1) fun (b4, b5) => .ch 4 [] (G176s1_ok b5 a1 b4) fun r7 => .lp 0 (fun (s : LD × Int) => match s with | (v8, v9) => (⟨[(0, .own 30000), (1, tI a1), (2, .fn (.func 69) 0 []), (6, tI v9)], [(30000, aD v8)]⟩ : St)) (fun (b10 : LD) => (⟨[], [(30000, aD b10)]⟩ : St)) 2 (r7, 20) (T133s1_L1 a1) fun b10 => .ret 0 b10
def G133s1 (a1 : Int) (h30000 : LD) : Option (LD) := (T133s1 a1 h30000).den
theorem G133s1_ok (a1 : Int) (h30000 : LD) : ConH Tryz.prog 214 [.own 30000, tI a1, .fn (.func 69) 0 []] [(30000, aD h30000)] [30000] (G133s1 a1 h30000) (fun (y : LD) => .tup []) (fun (y : LD) => [(30000, aD y)]) := conH Tryz.func214 ti_ok (T133s1 a1 h30000)
def T63s1 (h30000 : LD) : TP (LD) := .ch 4 [] (G133s1_ok ((h30000.length : Int)) h30000) fun r1 => .ret 0 r1
def G63s1 (h30000 : LD) : Option (LD) := (T63s1 h30000).den
theorem G63s1_ok (h30000 : LD) : ConH Tryz.prog 153 [.own 30000, .fn (.func 69) 0 []] [(30000, aD h30000)] [30000] (G63s1 h30000) (fun (y : LD) => .tup []) (fun (y : LD) => [(30000, aD y)]) := conH Tryz.func153 ti_ok (T63s1 h30000)
def T64s0 (a0 : List GValue) : TP ((List GValue)) := .jn 2 0 (fun (j1 : Bool) => (⟨[(0, tV a0), (4, tB j1)], []⟩ : St)) (.ndb 0 a0.length (.ret 0 true) (.ret 0 false)) fun j1 => .ite 0 (j1) (.cv 1 [.th 2 40000 67 3 (eF cGValue ([] : List GValue))] <| .ret 0 ([] : List GValue)) (.bs 0 true cGValue ([] : List GValue) <| .grd 2 (((([] : List GValue)).length + a0.length) * 32 ≤ 140737488355328) <| .cv 0 [.ap 7 cGValue (([] : List GValue)) a0] <| .cv 1 [.rn 7 40000] <| .ret 0 ((([] : List GValue)) ++ a0))
def G64s0 (a0 : List GValue) : Option ((List GValue)) := Det (T64s0 a0)
theorem G64s0_ok (a0 : List GValue) : ConH Tryz.prog 154 [tV a0] [] [] (G64s0 a0) (fun (y : (List GValue)) => .own 40000) (fun (y : (List GValue)) => [(40000, .arr 67 3 (y.length) (eF cGValue y))]) := conHD Tryz.func154 ti_ok (T64s0 a0)
def T42s0 (a0 : LD) : TP (LD) := .jn 2 0 (fun (j1 : Bool) => (⟨[(0, tD a0), (4, tB j1)], []⟩ : St)) (.ndb 0 a0.length (.ret 0 true) (.ret 0 false)) fun j1 => .ite 0 (j1) (.cv 1 [.th 2 40000 50 3 (eF cGDelta ([] : LD))] <| .ret 0 ([] : LD)) (.bs 0 true cGDelta ([] : LD) <| .grd 2 (((([] : LD)).length + a0.length) * 40 ≤ 140737488355328) <| .cv 0 [.ap 7 cGDelta (([] : LD)) a0] <| .cv 1 [.rn 7 40000] <| .ret 0 ((([] : LD)) ++ a0))
def G42s0 (a0 : LD) : Option (LD) := Det (T42s0 a0)
theorem G42s0_ok (a0 : LD) : ConH Tryz.prog 75 [tD a0] [] [] (G42s0 a0) (fun (y : LD) => .own 40000) (fun (y : LD) => [(40000, aD y)]) := conHD Tryz.func75 ti_ok (T42s0 a0)
def T27_L1 (v3 : LD) : (Int × LD × Int) → TP ((Int × LD × Int) ⊕ ((Int × LD × Int) ⊕ ((LD × LD) ⊕ ((LD) ⊕ (LD)))))
 | (v6, v7, v8) => .jn 0 0 (fun (s : LD × Bool) => match s with | (j12, j13) => (⟨[(3, tD v3), (4, .own 4), (5, .ptr 5 0), (6, tI v8), (29, tB j13)], [(4, aD j12), (5, .box [tI ((v3.getD ((0 : Int)).toNat default).Time), tV ((v3.getD ((0 : Int)).toNat default).Row), tI v6])]⟩ : St)) (.dl 4 (decide (v8 < ((v3.length : Int)))) (.dg 8 (0 ≤ v8 ∧ v8 < (v3.length : Int)) <| .dc 10 [.t (eGDelta ((GDelta.mk ((v3.getD ((0 : Int)).toNat default).Time) ((v3.getD ((0 : Int)).toNat default).Row) v6))), .t (eGDelta (v3.getD (v8).toNat default))] (G61_ok ((GDelta.mk ((v3.getD ((0 : Int)).toNat default).Time) ((v3.getD ((0 : Int)).toNat default).Row) v6)) (v3.getD (v8).toNat default)) fun r14 => .dr 0 0 [(4, false, []), (5, false, [])] [3, 4, 5, 6] <| .ret 0 (v7, r14 == 0)) (.dr 0 0 [(4, false, []), (5, false, [])] [3, 4, 5, 6] <| .ret 0 (v7, false))) fun (j12, j13) => .ite 0 (j13) (.dg 4 (0 ≤ v8 ∧ v8 < (v3.length : Int)) <| .dr 0 0 [(4, false, []), (5, false, [9])] [3, 4, 5, 6, 29] <| .ret 3 (.inl (IntKind.i64.wrap (v6 + ((v3.getD (v8).toNat default).N)), j12, IntKind.i64.wrap (v8 + 1)))) (.ret 0 (.inr (.inl (v6, j12, v8))))
def T27_L0 : (LD × LD) → TP ((LD × LD) ⊕ ((LD) ⊕ (LD)))
 | (v3, v4) => .ite 3 (decide (((v3.length : Int)) > 0)) (.grd 2 (0 ≤ ((0 : Int)) ∧ ((0 : Int)) < (v3.length : Int)) <| .lp 4 (fun (s : Int × LD × Int) => match s with | (v6, v7, v8) => (⟨[(3, tD v3), (4, .own 4), (5, .ptr 5 0), (6, tI v8)], [(4, aD v7), (5, .box [tI ((v3.getD ((0 : Int)).toNat default).Time), tV ((v3.getD ((0 : Int)).toNat default).Row), tI v6])]⟩ : St)) (fun (s : Int × LD × Int) => match s with | (b9, b10, b11) => (⟨[(3, tD v3), (4, .own 4), (5, .ptr 5 0), (6, tI b11)], [(4, aD b10), (5, .box [tI ((v3.getD ((0 : Int)).toNat default).Time), tV ((v3.getD ((0 : Int)).toNat default).Row), tI b9])]⟩ : St)) 2 ((v3.getD ((0 : Int)).toNat default).N, v4, 1) (T27_L1 v3) fun (b9, b10, b11) => .jn 3 0 (fun (j15 : LD) => (⟨[(3, tD v3), (4, .own 4), (6, tI b11)], [(4, aD j15)]⟩ : St)) (.ite 0 (b9 != 0) (.ch 2 [40000] (G64s0_ok ((v3.getD ((0 : Int)).toNat default).Row)) fun r16 => .cv 0 [.rn 40000 46] <| .cv 3 [.fr 46 (eL cGValue (r16))] <| .bs 1 true cGDelta ([(GDelta.mk ((v3.getD ((0 : Int)).toNat default).Time) r16 b9)] : LD) <| .grd 1 ((b10.length + (([(GDelta.mk ((v3.getD ((0 : Int)).toNat default).Time) r16 b9)] : LD)).length) * 40 ≤ 140737488355328) <| .cv 0 [.ap 51 cGDelta b10 (([(GDelta.mk ((v3.getD ((0 : Int)).toNat default).Time) r16 b9)] : LD))] <| .cv 1 [.rn 51 4] <| .ret 0 (b10 ++ (([(GDelta.mk ((v3.getD ((0 : Int)).toNat default).Time) r16 b9)] : LD)))) (.ret 0 b10)) fun j15 => .slc 3 54 cGDelta v3 (((b11 : Int))) (((v3.length : Int))) <| .ret 1 (.inl ((v3.drop ((b11 : Int)).toNat).take (((v3.length : Int)) - ((b11 : Int))).toNat, j15))) (.ret 0 (.inr (.inl v4)))
def T27 (a0 : LD) : TP (LD) := .ch 2 [40000] (G42s0_ok a0) fun r1 => .cv 0 [.rn 40000 8] <| .cv 2 [.rn 8 30000] <| .ch 0 [] (G63s1_ok r1) fun r2 => .cv 1 [.fr 30000 (eL cGDelta (r2)), .th 4 4 50 3 (eF cGDelta ([] : LD))] <| .lp 0 (fun (s : LD × LD) => match s with | (v3, v4) => (⟨[(3, tD v3), (4, .own 4)], [(4, aD v4)]⟩ : St)) (fun (b5 : LD) => (⟨[(4, .own 4)], [(4, aD b5)]⟩ : St)) 0 (r2, ([] : LD)) T27_L0 fun b5 => .cv 2 [.fr 4 (eL cGDelta (b5))] <| .ret 0 b5
def G27 (a0 : LD) : Option (LD) := (T27 a0).den
theorem G27_ok (a0 : LD) : Con Tryz.prog 66 [tD a0] (G27 a0) (fun (y : LD) => tD y) := con Tryz.func66 ti_ok (T27 a0)
def T104s0 (a1 : Int) : TP (LD) := .ite 3 (decide (a1 < 0)) (.no) (.jn 10 0 (fun (j1 : LD) => (⟨[(0, .own 0)], [(0, aD j1)]⟩ : St)) (.ite 0 (decide ((IntKind.i64.wrap (a1 - 0)) > 0)) (.gd 4 (0 ≤ (0 : Int) ∧ (0 : Int) ≤ (0 : Int) ∧ (0 : Int) ≤ 0) (by decide) <| .apz 1 cGDelta 40 (IntKind.i64.wrap (a1 - 0)) <| .cut 2 cGDelta (List.replicate (IntKind.i64.wrap (a1 - 0)).toNat (default : GDelta)) (0 : Int) <| .cv 1 [.rn 25 0] <| .ret 0 ((List.replicate (IntKind.i64.wrap (a1 - 0)).toNat (default : GDelta)).take (0 : Int).toNat)) (.cv 0 [.th 0 0 50 3 (eF cGDelta ([] : LD))] <| .ret 0 ([] : LD))) fun j1 => .cv 2 [.rn 0 40000] <| .ret 0 j1)
def G104s0 (a1 : Int) : Option (LD) := (T104s0 a1).den
theorem G104s0_ok (a1 : Int) : ConH Tryz.prog 155 [.nil, tI a1] [] [] (G104s0 a1) (fun (y : LD) => .own 40000) (fun (y : LD) => [(40000, aD y)]) := conH Tryz.func155 ti_ok (T104s0 a1)
def T39_L0 (a0 : List LD) : (Int × Int) → TP ((Int × Int) ⊕ ((Int) ⊕ (LD)))
 | (v1, v2) => .ite 1 (decide (v2 < ((a0.length : Int)))) (.grd 1 (0 ≤ v2 ∧ v2 < (a0.length : Int)) <| .ite 9 (decide ((IntKind.i64.wrap (v1 + (((a0.getD (v2).toNat default).length : Int)))) < 0)) (.no) (.ret 2 (.inl (IntKind.i64.wrap (v1 + (((a0.getD (v2).toNat default).length : Int))), IntKind.i64.wrap (v2 + 1))))) (.ret 0 (.inr (.inl v1)))
def T39_L1 (a0 : List LD) : (LD × Int) → TP ((LD × Int) ⊕ ((LD) ⊕ (LD)))
 | (v5, v6) => .ite 1 (decide (v6 < ((a0.length : Int)))) (.grd 1 (0 ≤ v6 ∧ v6 < (a0.length : Int)) <| .grd 5 ((v5.length + (a0.getD (v6).toNat default).length) * 40 ≤ 140737488355328) <| .cv 0 [.ap 33 cGDelta v5 (a0.getD (v6).toNat default)] <| .cv 3 [.rn 33 6] <| .ret 0 (.inl (v5 ++ (a0.getD (v6).toNat default), IntKind.i64.wrap (v6 + 1)))) (.ret 0 (.inr (.inl v5)))
def T39 (a0 : List LD) : TP (LD) := .lp 5 (fun (s : Int × Int) => match s with | (v1, v2) => (⟨[(0, .t (eL cL_cGDelta (a0))), (3, tI v1), (9, .t (eL cL_cGDelta (a0))), (10, tI ((a0.length : Int))), (11, tI v2)], []⟩ : St)) (fun (b3 : Int) => (⟨[(0, .t (eL cL_cGDelta (a0))), (3, tI b3)], []⟩ : St)) 0 (0, 0) (T39_L0 a0) fun b3 => .ch 1 [40000] (G104s0_ok b3) fun r4 => .cv 0 [.rn 40000 24] <| .cv 4 [.rn 24 6] <| .lp 0 (fun (s : LD × Int) => match s with | (v5, v6) => (⟨[(6, .own 6), (25, .t (eL cL_cGDelta (a0))), (26, tI ((a0.length : Int))), (27, tI v6)], [(6, aD v5)]⟩ : St)) (fun (b7 : LD) => (⟨[(6, .own 6)], [(6, aD b7)]⟩ : St)) 2 (r4, 0) (T39_L1 a0) fun b7 => .cv 2 [.fr 6 (eL cGDelta (b7))] <| .ret 0 b7
def G39 (a0 : List LD) : Option (LD) := (T39 a0).den
theorem G39_ok (a0 : List LD) : Con Tryz.prog 67 [.t (eL cL_cGDelta (a0))] (G39 a0) (fun (y : LD) => tD y) := con Tryz.func67 ti_ok (T39 a0)
def T12 (a0 : LD) (a1 : LD) : TP (LD) := .bs 3 false cL_cGDelta ([a0, a1] : List LD) <| .ca 0 (G39_ok (([a0, a1] : List LD))) fun r1 => .ca 0 (G27_ok r1) fun r2 => .ret 1 r2
def G12 (a0 : LD) (a1 : LD) : Option (LD) := (T12 a0 a1).den
theorem G12_ok (a0 : LD) (a1 : LD) : Con Tryz.prog 19 [tD a0, tD a1] (G12 a0 a1) (fun (y : LD) => tD y) := con Tryz.func19 ti_ok (T12 a0 a1)
def T60 (a0 : GDelta) (a1 : GDelta) : TP (Bool) := .ca 5 (G61_ok a0 a1) fun r1 => .jn 2 0 (fun (j2 : Bool) => (⟨[(4, tB j2)], []⟩ : St)) (.ite 0 (r1 == 0) (.ret 7 (a0.N == a1.N)) (.ret 7 false)) fun j2 => .ret 0 j2
def G60 (a0 : GDelta) (a1 : GDelta) : Option (Bool) := (T60 a0 a1).den
theorem G60_ok (a0 : GDelta) (a1 : GDelta) : Con Tryz.prog 68 [.t (eGDelta a0), .t (eGDelta a1)] (G60 a0 a1) (fun (y : Bool) => tB y) := con Tryz.func68 ti_ok (T60 a0 a1)
def T62s0_L0 (a0 : LD) (a1 : LD) : Int → TP ((Int) ⊕ ((Unit) ⊕ (Bool)))
 | v1 => .ite 1 (decide (v1 < ((a0.length : Int)))) (.grd 2 (0 ≤ v1 ∧ v1 < (a0.length : Int)) <| .grd 7 (0 ≤ v1 ∧ v1 < (a1.length : Int)) <| .ca 6 (G60_ok (a0.getD (v1).toNat default) (a1.getD (v1).toNat default)) fun r2 => .ite 1 (!r2) (.ret 1 (.inr (.inr false))) (.ret 2 (.inl (IntKind.i64.wrap (v1 + 1))))) (.ret 0 (.inr (.inl ())))
def T62s0 (a0 : LD) (a1 : LD) : TP (Bool) := .ite 6 (((a0.length : Int)) != ((a1.length : Int))) (.ret 1 false) (.lp 3 (fun (v1 : Int) => (⟨[(1, tD a1), (2, .fn (.func 68) 0 []), (15, tD a0), (16, tI ((a0.length : Int))), (17, tI v1)], []⟩ : St)) (fun (_ : Unit) => (⟨[], []⟩ : St)) 0 0 (T62s0_L0 a0 a1) fun _ => .ret 1 true)
def G62s0 (a0 : LD) (a1 : LD) : Option (Bool) := (T62s0 a0 a1).den
theorem G62s0_ok (a0 : LD) (a1 : LD) : ConH Tryz.prog 70 [tD a0, tD a1, .fn (.func 68) 0 []] [] [] (G62s0 a0 a1) (fun (y : Bool) => tB y) (fun (y : Bool) => []) := conH Tryz.func70 ti_ok (T62s0 a0 a1)
def T26 (a0 : LD) (a1 : LD) : TP (Bool) := .ca 3 (G27_ok a0) fun r1 => .ca 1 (G27_ok a1) fun r2 => .ch 1 [] (G62s0_ok r1 r2) fun r3 => .ret 1 r3
def G26 (a0 : LD) (a1 : LD) : Option (Bool) := (T26 a0 a1).den
theorem G26_ok (a0 : LD) (a1 : LD) : Con Tryz.prog 20 [tD a0, tD a1] (G26 a0 a1) (fun (y : Bool) => tB y) := con Tryz.func20 ti_ok (T26 a0 a1)
def T31 (a0 : Int) (a1 : Int) : TP (GDelta) := .bs 3 false cGValue ([(GValue.mk 0 7 (⟨#[]⟩))] : List GValue) <| .ret 3 (GDelta.mk a0 (([(GValue.mk 0 7 (⟨#[]⟩))] : List GValue)) a1)
def G31 (a0 : Int) (a1 : Int) : Option (GDelta) := (T31 a0 a1).den
theorem G31_ok (a0 : Int) (a1 : Int) : Con Tryz.prog 123 [tI a0, tI a1] (G31 a0 a1) (fun (y : GDelta) => .t (eGDelta y)) := con Tryz.func123 ti_ok (T31 a0 a1)
def T51 (a0 : Int) : TP (ByteArray) := .ca 2 (G117_ok a0) fun r1 => .grd 1 (((r1.size + ((⟨#[59]⟩) : ByteArray).size : Nat) : Int) ≤ 9223372036854775807) <| .ret 1 (r1 ++ ((⟨#[59]⟩) : ByteArray))
def G51 (a0 : Int) : Option (ByteArray) := (T51 a0).den
theorem G51_ok (a0 : Int) : Con Tryz.prog 78 [tI a0] (G51 a0) (fun (y : ByteArray) => .t (.str (y))) := con Tryz.func78 ti_ok (T51 a0)
def T119 (a0 : Int) : TP (ByteArray) := .ite 3 (decide (a0 < 0)) (.ret 1 (⟨#[]⟩)) (.ca 1 (G51_ok a0) fun r1 => .ret 1 r1)
def G119 (a0 : Int) : Option (ByteArray) := (T119 a0).den
theorem G119_ok (a0 : Int) : Con Tryz.prog 168 [tI a0] (G119 a0) (fun (y : ByteArray) => .t (.str (y))) := con Tryz.func168 ti_ok (T119 a0)
def T52 (a0 : ByteArray) : TP (ByteArray) := .ca 3 (G117_ok (((a0 : ByteArray).size : Int))) fun r1 => .grd 1 (((r1.size + ((⟨#[58]⟩) : ByteArray).size : Nat) : Int) ≤ 9223372036854775807) <| .grd 2 (((((r1 ++ ((⟨#[58]⟩) : ByteArray)) : ByteArray).size + a0.size : Nat) : Int) ≤ 9223372036854775807) <| .grd 1 (((((((r1 ++ ((⟨#[58]⟩) : ByteArray)) : ByteArray) ++ a0) : ByteArray).size + ((⟨#[44]⟩) : ByteArray).size : Nat) : Int) ≤ 9223372036854775807) <| .ret 1 (((((r1 ++ ((⟨#[58]⟩) : ByteArray)) : ByteArray) ++ a0) : ByteArray) ++ ((⟨#[44]⟩) : ByteArray))
def G52 (a0 : ByteArray) : Option (ByteArray) := (T52 a0).den
theorem G52_ok (a0 : ByteArray) : Con Tryz.prog 169 [.t (.str (a0))] (G52 a0) (fun (y : ByteArray) => .t (.str (y))) := con Tryz.func169 ti_ok (T52 a0)
def T168 (a0 : GValue) : TP (ByteArray) := .dc 2 [tI a0.Kind] (G51_ok a0.Kind) fun r1 => .dc 5 [tI a0.N] (G51_ok a0.N) fun r2 => .dg 6 (((r1.size + r2.size : Nat) : Int) ≤ 9223372036854775807) <| .dc 9 [.t (.str (a0.S))] (G52_ok a0.S) fun r3 => .dg 10 ((((r1 ++ r2).size + r3.size : Nat) : Int) ≤ 9223372036854775807) <| .dr 2 0 [(1, false, [])] [0, 1] <| .ret 0 ((r1 ++ r2) ++ r3)
def G168 (a0 : GValue) : Option (ByteArray) := (T168 a0).den
theorem G168_ok (a0 : GValue) : Con Tryz.prog 217 [.t (eGValue a0)] (G168 a0) (fun (y : ByteArray) => .t (.str (y))) := con Tryz.func217 ti_ok (T168 a0)
def T120_L0 (a0 : List GValue) : (ByteArray × Int) → TP ((ByteArray × Int) ⊕ ((ByteArray) ⊕ (ByteArray)))
 | (v2, v3) => .ite 1 (decide (v3 < ((a0.length : Int)))) (.grd 1 (0 ≤ v3 ∧ v3 < (a0.length : Int)) <| .ca 4 (G168_ok (a0.getD (v3).toNat default)) fun r5 => .ch 0 [] (con118 v2 r5) fun _ => .ret 2 (.inl (v2 ++ r5, IntKind.i64.wrap (v3 + 1)))) (.ret 0 (.inr (.inl v2)))
def T120 (a0 : List GValue) : TP (ByteArray) := .abl 1 5 <| .ca 2 (G119_ok ((a0.length : Int))) fun r1 => .cv 0 [.rn 3 30000] <| .ch 0 [] (con118 ((⟨#[]⟩ : ByteArray)) r1) fun _ => .lp 3 (fun (s : ByteArray × Int) => match s with | (v2, v3) => (⟨[(3, .ptr 30000 0), (10, tV a0), (11, tI ((a0.length : Int))), (12, tI v3)], [(30000, .bld 177 5 (v2))]⟩ : St)) (fun (b4 : ByteArray) => (⟨[(3, .ptr 30000 0)], [(30000, .bld 177 5 (b4))]⟩ : St)) 0 (((⟨#[]⟩ : ByteArray)) ++ r1, 0) (T120_L0 a0) fun b4 => .ch 0 [] (con121 b4) fun r6 => .ret 1 r6
def G120 (a0 : List GValue) : Option (ByteArray) := (T120 a0).den
theorem G120_ok (a0 : List GValue) : Con Tryz.prog 159 [tV a0] (G120 a0) (fun (y : ByteArray) => .t (.str (y))) := con Tryz.func159 ti_ok (T120 a0)
def T125s0_L0 (a2 : List GValue) (j1 : List Int) (j2 : Int) : ((List GValue) × Int) → TP (((List GValue) × Int) ⊕ (((List GValue)) ⊕ (ByteArray)))
 | (v3, v4) => .ite 1 (decide (v4 < j2)) (.grd 1 (0 ≤ v4 ∧ v4 < (j1.length : Int)) <| .grd 6 (0 ≤ (j1.getD (v4).toNat default) ∧ (j1.getD (v4).toNat default) < (a2.length : Int)) <| .bs 1 false cGValue ([a2.getD (j1.getD (v4).toNat default).toNat default] : List GValue) <| .grd 1 ((v3.length + (([a2.getD (j1.getD (v4).toNat default).toNat default] : List GValue)).length) * 32 ≤ 140737488355328) <| .cv 0 [.ap 34 cGValue v3 (([a2.getD (j1.getD (v4).toNat default).toNat default] : List GValue))] <| .cv 3 [.rn 34 7] <| .ret 0 (.inl (v3 ++ (([a2.getD (j1.getD (v4).toNat default).toNat default] : List GValue)), IntKind.i64.wrap (v4 + 1)))) (.ret 0 (.inr (.inl v3)))
def T125s0 (a1 : Int) (a2 : List GValue) (h30000_0 : GNode) (h30000_1 : Int) (h30001 : LS) : TP (ByteArray) := .jn 2 0 (fun (s : (List Int) × Int) => match s with | (j1, j2) => (⟨[(2, tV a2), (7, .nil), (22, .t (eL cInt (j1))), (23, tI j2), (24, tI 0)], [(30000, bOp h30000_0 30001 h30000_1), (30001, mM (h30001 : LS))]⟩ : St)) (.sp 0 1 a1 0 (.dg 12 (0 ≤ (0 : Int) ∧ (0 : Int) < (2 : Int)) <| .dr 0 0 [(30000, false, []), (30001, false, [])] [0, 1, 2, 6, 7] <| .ret 0 (h30000_0.Key, (h30000_0.Key.length : Int))) (.sp 0 1 a1 1 (.dg 12 (0 ≤ (1 : Int) ∧ (1 : Int) < (2 : Int)) <| .dr 0 0 [(30000, false, []), (30001, false, [])] [0, 1, 2, 6, 7] <| .ret 0 (h30000_0.Key2, (h30000_0.Key2.length : Int))) (.no))) fun (j1, j2) => .cv 0 [.th 7 7 67 3 (eF cGValue ([] : List GValue))] <| .lp 0 (fun (s : (List GValue) × Int) => match s with | (v3, v4) => (⟨[(2, tV a2), (7, .own 7), (22, .t (eL cInt (j1))), (23, tI j2), (24, tI v4)], [(7, .arr 67 3 (v3.length) (eF cGValue v3)), (30000, bOp h30000_0 30001 h30000_1), (30001, mM (h30001 : LS))]⟩ : St)) (fun (b5 : (List GValue)) => (⟨[(7, .own 7)], [(7, .arr 67 3 (b5.length) (eF cGValue b5)), (30000, bOp h30000_0 30001 h30000_1), (30001, mM (h30001 : LS))]⟩ : St)) 0 (([] : List GValue), 0) (T125s0_L0 a2 j1 j2) fun b5 => .ca 1 (G120_ok b5) fun r6 => .ret 1 r6
def G125s0 (a1 : Int) (a2 : List GValue) (h30000_0 : GNode) (h30000_1 : Int) (h30001 : LS) : Option (ByteArray) := (T125s0 a1 a2 h30000_0 h30000_1 h30001).den
theorem G125s0_ok (a1 : Int) (a2 : List GValue) (h30000_0 : GNode) (h30000_1 : Int) (h30001 : LS) : ConH Tryz.prog 264 [.ptr 30000 0, tI a1, tV a2] [(30000, bOp h30000_0 30001 h30000_1), (30001, mM (h30001 : LS))] [30000, 30001] (G125s0 a1 a2 h30000_0 h30000_1 h30001) (fun (y : ByteArray) => .t (.str (y))) (fun (y : ByteArray) => [(30000, bOp h30000_0 30001 h30000_1), (30001, mM (h30001 : LS))]) := conH Tryz.func264 ti_ok (T125s0 a1 a2 h30000_0 h30000_1 h30001)
def T58s0_L0 (a1 : Int) (h30000_0 : GNode) (h30000_1 : Int) (h30001 : LS) (r1 : LD) : ((List (ByteArray × LD)) × Int) → TP (((List (ByteArray × LD)) × Int) ⊕ (((List (ByteArray × LD))) ⊕ ((List (ByteArray × LD)))))
 | (v2, v3) => .ite 1 (decide (v3 < ((r1.length : Int)))) (.grd 1 (0 ≤ v3 ∧ v3 < (r1.length : Int)) <| .ch 7 [] (G125s0_ok a1 ((r1.getD (v3).toNat default).Row) h30000_0 h30000_1 h30001) fun r5 => .lkr 5 50 3 (fun c : LD => c.length) (fun c : LD => eF cGDelta c) ([] : LD) (v2 : List (ByteArray × LD)) r5 <| .bs 1 false cGDelta ([r1.getD (v3).toNat default] : LD) <| .grd 1 ((((mlook (v2 : List (ByteArray × LD)) r5).getD ([] : LD)).length + (([r1.getD (v3).toNat default] : LD)).length) * 40 ≤ 140737488355328) <| .cv 0 [.ap 31 cGDelta ((mlook (v2 : List (ByteArray × LD)) r5).getD ([] : LD)) (([r1.getD (v3).toNat default] : LD))] <| .upd 0 (fun c : LD => Mem.row 50 3 c.length (eF cGDelta c)) (mdel v2 r5 : List (ByteArray × LD)) r5 <| .cv 2 [.fw 11 31 50 3 (fun c : LD => c.length) (fun c : LD => eF cGDelta c) (v2 : List (ByteArray × LD)) r5 (((mlook (v2 : List (ByteArray × LD)) r5).getD ([] : LD)) ++ (([r1.getD (v3).toNat default] : LD)) : LD)] <| .ret 0 (.inl (mput v2 r5 (((mlook (v2 : List (ByteArray × LD)) r5).getD ([] : LD)) ++ (([r1.getD (v3).toNat default] : LD)) : LD), IntKind.i64.wrap (v3 + 1)))) (.ret 0 (.inr (.inl v2)))
def T58s0 (a1 : Int) (a2 : LD) (h30000_0 : GNode) (h30000_1 : Int) (h30001 : LS) : TP ((List (ByteArray × LD))) := .mk (K := ByteArray) 1 (fun c : LD => Mem.row 50 3 c.length (eF cGDelta c)) <| .ca 2 (G27_ok a2) fun r1 => .lp 2 (fun (s : (List (ByteArray × LD)) × Int) => match s with | (v2, v3) => (⟨[(0, .ptr 30000 0), (1, tI a1), (7, .map 11), (13, tD r1), (14, tI ((r1.length : Int))), (15, tI v3)], [(11, .mp none (eM (fun c : LD => Mem.row 50 3 c.length (eF cGDelta c)) (v2 : List (ByteArray × LD))) none), (30000, bOp h30000_0 30001 h30000_1), (30001, mM (h30001 : LS))]⟩ : St)) (fun (b4 : (List (ByteArray × LD))) => (⟨[(7, .map 11)], [(11, .mp none (eM (fun c : LD => Mem.row 50 3 c.length (eF cGDelta c)) (b4 : List (ByteArray × LD))) none), (30000, bOp h30000_0 30001 h30000_1), (30001, mM (h30001 : LS))]⟩ : St)) 0 (([] : List (ByteArray × LD)), 0) (T58s0_L0 a1 h30000_0 h30000_1 h30001 r1) fun b4 => .cv 2 [.rn 11 40000] <| .ret 0 b4
def G58s0 (a1 : Int) (a2 : LD) (h30000_0 : GNode) (h30000_1 : Int) (h30001 : LS) : Option ((List (ByteArray × LD))) := (T58s0 a1 a2 h30000_0 h30000_1 h30001).den
theorem G58s0_ok (a1 : Int) (a2 : LD) (h30000_0 : GNode) (h30000_1 : Int) (h30001 : LS) : ConH Tryz.prog 209 [.ptr 30000 0, tI a1, tD a2] [(30000, bOp h30000_0 30001 h30000_1), (30001, mM (h30001 : LS))] [30000, 30001] (G58s0 a1 a2 h30000_0 h30000_1 h30001) (fun (y : (List (ByteArray × LD))) => .map 40000) (fun (y : (List (ByteArray × LD))) => [(30000, bOp h30000_0 30001 h30000_1), (30001, mM (h30001 : LS)), (40000, .mp none (eM (fun c : LD => Mem.row 50 3 c.length (eF cGDelta c)) (y : List (ByteArray × LD))) none)]) := conH Tryz.func209 ti_ok (T58s0 a1 a2 h30000_0 h30000_1 h30001)
def T172 (a0 : GDelta) (a1 : Int) : TP (Int) := .ret 7 (IntKind.i64.wrap (a0.Time - a1))
def G172 (a0 : GDelta) (a1 : Int) : Option (Int) := (T172 a0 a1).den
theorem G172_ok (a0 : GDelta) (a1 : Int) : Con Tryz.prog 293 [.t (eGDelta a0), tI a1] (G172 a0 a1) (fun (y : Int) => tI y) := con Tryz.func293 ti_ok (T172 a0 a1)
def T171s0_L0 (a0 : LD) (a1 : Int) : (Int × Int) → TP ((Int × Int) ⊕ ((Int) ⊕ (Int × Bool)))
 | (v1, v2) => .ite 3 (decide (v1 < v2)) (.gd 5 (0 ≤ (1 : Int)) (by decide) <| .grd 6 (0 ≤ (IntKind.i64.wrap (shrI .u64 (IntKind.u64.wrap (IntKind.i64.wrap (v1 + v2))) 1)) ∧ (IntKind.i64.wrap (shrI .u64 (IntKind.u64.wrap (IntKind.i64.wrap (v1 + v2))) 1)) < (a0.length : Int)) <| .ca 2 (G172_ok (a0.getD (IntKind.i64.wrap (shrI .u64 (IntKind.u64.wrap (IntKind.i64.wrap (v1 + v2))) 1)).toNat default) a1) fun r4 => .jn 1 0 (fun (s : Int × Int) => match s with | (j5, j6) => (⟨[(0, tD a0), (1, tI a1), (2, .fn (.func 293) 0 []), (8, tI ((a0.length : Int))), (9, tI j5), (10, tI j6)], []⟩ : St)) (.ite 0 (decide (r4 < 0)) (.ret 3 (IntKind.i64.wrap ((IntKind.i64.wrap (shrI .u64 (IntKind.u64.wrap (IntKind.i64.wrap (v1 + v2))) 1)) + 1), v2)) (.ret 2 (v1, IntKind.i64.wrap (shrI .u64 (IntKind.u64.wrap (IntKind.i64.wrap (v1 + v2))) 1)))) fun (j5, j6) => .ret 0 (.inl (j5, j6))) (.ret 0 (.inr (.inl v1)))
def T171s0 (a0 : LD) (a1 : Int) : TP (Int × Bool) := .lp 8 (fun (s : Int × Int) => match s with | (v1, v2) => (⟨[(0, tD a0), (1, tI a1), (2, .fn (.func 293) 0 []), (8, tI ((a0.length : Int))), (9, tI v1), (10, tI v2)], []⟩ : St)) (fun (b3 : Int) => (⟨[(0, tD a0), (1, tI a1), (2, .fn (.func 293) 0 []), (8, tI ((a0.length : Int))), (9, tI b3)], []⟩ : St)) 0 (0, (a0.length : Int)) (T171s0_L0 a0 a1) fun b3 => .jn 5 0 (fun (j7 : Bool) => (⟨[(6, tI b3), (7, tB j7)], []⟩ : St)) (.ite 0 (decide (b3 < ((a0.length : Int)))) (.grd 4 (0 ≤ b3 ∧ b3 < (a0.length : Int)) <| .ca 2 (G172_ok (a0.getD (b3).toNat default) a1) fun r8 => .ret 4 (r8 == 0)) (.ret 11 false)) fun j7 => .ret 0 (b3, j7)
def G171s0 (a0 : LD) (a1 : Int) : Option (Int × Bool) := (T171s0 a0 a1).den
theorem G171s0_ok (a0 : LD) (a1 : Int) : ConH Tryz.prog 292 [tD a0, tI a1, .fn (.func 293) 0 []] [] [] (G171s0 a0 a1) (fun (y : Int × Bool) => .tup [tI y.1, tB y.2]) (fun (y : Int × Bool) => []) := conH Tryz.func292 ti_ok (T171s0 a0 a1)
def T128_L0 (a0 : LD) (a2 : Int) (r1 : Int × Bool) : Int → TP ((Int) ⊕ ((Int) ⊕ (LD)))
 | v2 => .jn 5 0 (fun (j4 : Bool) => (⟨[(0, tD a0), (2, tI a2), (7, tI r1.1), (9, tI v2), (29, tB j4)], []⟩ : St)) (.ite 0 (decide (v2 < ((a0.length : Int)))) (.grd 3 (0 ≤ v2 ∧ v2 < (a0.length : Int)) <| .ret 5 (decide (((a0.getD (v2).toNat default).Time) ≤ a2))) (.ret 8 false)) fun j4 => .ite 0 (j4) (.ret 3 (.inl (IntKind.i64.wrap (v2 + 1)))) (.ret 0 (.inr (.inl v2)))
def T128 (a0 : LD) (a1 : Int) (a2 : Int) : TP (LD) := .ch 3 [] (G171s0_ok a0 a1) fun r1 => .lp 7 (fun (v2 : Int) => (⟨[(0, tD a0), (2, tI a2), (7, tI r1.1), (9, tI v2)], []⟩ : St)) (fun (b3 : Int) => (⟨[(0, tD a0), (7, tI r1.1), (9, tI b3)], []⟩ : St)) 0 r1.1 (T128_L0 a0 a2 r1) fun b3 => .slc 4 35 cGDelta a0 (((r1.1 : Int))) b3 <| .ret 1 ((a0.drop ((r1.1 : Int)).toNat).take (b3 - ((r1.1 : Int))).toNat)
def G128 (a0 : LD) (a1 : Int) (a2 : Int) : Option (LD) := (T128 a0 a1 a2).den
theorem G128_ok (a0 : LD) (a1 : Int) (a2 : Int) : Con Tryz.prog 267 [tD a0, tI a1, tI a2] (G128 a0 a1 a2) (fun (y : LD) => tD y) := con Tryz.func267 ti_ok (T128 a0 a1 a2)
def T27s0_L1 (v3 : LD) : (Int × LD × Int) → TP ((Int × LD × Int) ⊕ ((Int × LD × Int) ⊕ ((LD × LD) ⊕ ((LD) ⊕ (LD)))))
 | (v6, v7, v8) => .jn 0 0 (fun (s : LD × Bool) => match s with | (j12, j13) => (⟨[(3, tD v3), (4, .own 4), (5, .ptr 5 0), (6, tI v8), (29, tB j13)], [(4, aD j12), (5, .box [tI ((v3.getD ((0 : Int)).toNat default).Time), tV ((v3.getD ((0 : Int)).toNat default).Row), tI v6])]⟩ : St)) (.dl 4 (decide (v8 < ((v3.length : Int)))) (.dg 8 (0 ≤ v8 ∧ v8 < (v3.length : Int)) <| .dc 10 [.t (eGDelta ((GDelta.mk ((v3.getD ((0 : Int)).toNat default).Time) ((v3.getD ((0 : Int)).toNat default).Row) v6))), .t (eGDelta (v3.getD (v8).toNat default))] (G61_ok ((GDelta.mk ((v3.getD ((0 : Int)).toNat default).Time) ((v3.getD ((0 : Int)).toNat default).Row) v6)) (v3.getD (v8).toNat default)) fun r14 => .dr 0 0 [(4, false, []), (5, false, [])] [3, 4, 5, 6] <| .ret 0 (v7, r14 == 0)) (.dr 0 0 [(4, false, []), (5, false, [])] [3, 4, 5, 6] <| .ret 0 (v7, false))) fun (j12, j13) => .ite 0 (j13) (.dg 4 (0 ≤ v8 ∧ v8 < (v3.length : Int)) <| .dr 0 0 [(4, false, []), (5, false, [9])] [3, 4, 5, 6, 29] <| .ret 3 (.inl (IntKind.i64.wrap (v6 + ((v3.getD (v8).toNat default).N)), j12, IntKind.i64.wrap (v8 + 1)))) (.ret 0 (.inr (.inl (v6, j12, v8))))
def T27s0_L0 : (LD × LD) → TP ((LD × LD) ⊕ ((LD) ⊕ (LD)))
 | (v3, v4) => .ite 3 (decide (((v3.length : Int)) > 0)) (.grd 2 (0 ≤ ((0 : Int)) ∧ ((0 : Int)) < (v3.length : Int)) <| .lp 4 (fun (s : Int × LD × Int) => match s with | (v6, v7, v8) => (⟨[(3, tD v3), (4, .own 4), (5, .ptr 5 0), (6, tI v8)], [(4, aD v7), (5, .box [tI ((v3.getD ((0 : Int)).toNat default).Time), tV ((v3.getD ((0 : Int)).toNat default).Row), tI v6])]⟩ : St)) (fun (s : Int × LD × Int) => match s with | (b9, b10, b11) => (⟨[(3, tD v3), (4, .own 4), (5, .ptr 5 0), (6, tI b11)], [(4, aD b10), (5, .box [tI ((v3.getD ((0 : Int)).toNat default).Time), tV ((v3.getD ((0 : Int)).toNat default).Row), tI b9])]⟩ : St)) 2 ((v3.getD ((0 : Int)).toNat default).N, v4, 1) (T27s0_L1 v3) fun (b9, b10, b11) => .jn 3 0 (fun (j15 : LD) => (⟨[(3, tD v3), (4, .own 4), (6, tI b11)], [(4, aD j15)]⟩ : St)) (.ite 0 (b9 != 0) (.ch 2 [40000] (G64s0_ok ((v3.getD ((0 : Int)).toNat default).Row)) fun r16 => .cv 0 [.rn 40000 46] <| .cv 3 [.fr 46 (eL cGValue (r16))] <| .bs 1 true cGDelta ([(GDelta.mk ((v3.getD ((0 : Int)).toNat default).Time) r16 b9)] : LD) <| .grd 1 ((b10.length + (([(GDelta.mk ((v3.getD ((0 : Int)).toNat default).Time) r16 b9)] : LD)).length) * 40 ≤ 140737488355328) <| .cv 0 [.ap 51 cGDelta b10 (([(GDelta.mk ((v3.getD ((0 : Int)).toNat default).Time) r16 b9)] : LD))] <| .cv 1 [.rn 51 4] <| .ret 0 (b10 ++ (([(GDelta.mk ((v3.getD ((0 : Int)).toNat default).Time) r16 b9)] : LD)))) (.ret 0 b10)) fun j15 => .slc 3 54 cGDelta v3 (((b11 : Int))) (((v3.length : Int))) <| .ret 1 (.inl ((v3.drop ((b11 : Int)).toNat).take (((v3.length : Int)) - ((b11 : Int))).toNat, j15))) (.ret 0 (.inr (.inl v4)))
def T27s0 (a0 : LD) : TP (LD) := .ch 2 [40000] (G42s0_ok a0) fun r1 => .cv 0 [.rn 40000 8] <| .cv 2 [.rn 8 30000] <| .ch 0 [] (G63s1_ok r1) fun r2 => .cv 1 [.fr 30000 (eL cGDelta (r2)), .th 4 4 50 3 (eF cGDelta ([] : LD))] <| .lp 0 (fun (s : LD × LD) => match s with | (v3, v4) => (⟨[(3, tD v3), (4, .own 4)], [(4, aD v4)]⟩ : St)) (fun (b5 : LD) => (⟨[(4, .own 4)], [(4, aD b5)]⟩ : St)) 0 (r2, ([] : LD)) T27s0_L0 fun b5 => .cv 2 [.rn 4 40000] <| .ret 0 b5
def G27s0 (a0 : LD) : Option (LD) := (T27s0 a0).den
theorem G27s0_ok (a0 : LD) : ConH Tryz.prog 66 [tD a0] [] [] (G27s0 a0) (fun (y : LD) => .own 40000) (fun (y : LD) => [(40000, aD y)]) := conH Tryz.func66 ti_ok (T27s0 a0)
def T129_L0 (a1 : LD) : (LD × Int) → TP ((LD × Int) ⊕ ((LD) ⊕ (LD)))
 | (v2, v3) => .ite 1 (decide (v3 < ((a1.length : Int)))) (.grd 1 (0 ≤ v3 ∧ v3 < (a1.length : Int)) <| .bs 10 true cGDelta ([(GDelta.mk ((a1.getD (v3).toNat default).Time) ((a1.getD (v3).toNat default).Row) (IntKind.i64.wrap (0 - ((a1.getD (v3).toNat default).N))))] : LD) <| .grd 1 ((v2.length + (([(GDelta.mk ((a1.getD (v3).toNat default).Time) ((a1.getD (v3).toNat default).Row) (IntKind.i64.wrap (0 - ((a1.getD (v3).toNat default).N))))] : LD)).length) * 40 ≤ 140737488355328) <| .cv 0 [.ap 23 cGDelta v2 (([(GDelta.mk ((a1.getD (v3).toNat default).Time) ((a1.getD (v3).toNat default).Row) (IntKind.i64.wrap (0 - ((a1.getD (v3).toNat default).N))))] : LD))] <| .cv 3 [.rn 23 5] <| .ret 0 (.inl (v2 ++ (([(GDelta.mk ((a1.getD (v3).toNat default).Time) ((a1.getD (v3).toNat default).Row) (IntKind.i64.wrap (0 - ((a1.getD (v3).toNat default).N))))] : LD)), IntKind.i64.wrap (v3 + 1)))) (.ret 0 (.inr (.inl v2)))
def T129 (a0 : LD) (a1 : LD) : TP (LD) := .ch 2 [40000] (G42s0_ok a0) fun r1 => .cv 0 [.rn 40000 9] <| .cv 4 [.rn 9 5] <| .lp 0 (fun (s : LD × Int) => match s with | (v2, v3) => (⟨[(5, .own 5), (10, tD a1), (11, tI ((a1.length : Int))), (12, tI v3)], [(5, aD v2)]⟩ : St)) (fun (b4 : LD) => (⟨[(5, .own 5)], [(5, aD b4)]⟩ : St)) 0 (r1, 0) (T129_L0 a1) fun b4 => .cv 1 [.fr 5 (eL cGDelta (b4))] <| .ch 0 [40000] (G27s0_ok b4) fun r5 => .cv 0 [.rn 40000 26] <| .cv 1 [.fr 26 (eL cGDelta (r5))] <| .ret 0 r5
def G129 (a0 : LD) (a1 : LD) : Option (LD) := (T129 a0 a1).den
theorem G129_ok (a0 : LD) (a1 : LD) : Con Tryz.prog 29 [tD a0, tD a1] (G129 a0 a1) (fun (y : LD) => tD y) := con Tryz.func29 ti_ok (T129 a0 a1)
def T209s0 (a1 : Int) : TP ((List GValue)) := .ite 3 (decide (a1 < 0)) (.no) (.jn 10 0 (fun (j1 : (List GValue)) => (⟨[(0, .own 0)], [(0, .arr 67 3 (j1.length) (eF cGValue j1))]⟩ : St)) (.ite 0 (decide ((IntKind.i64.wrap (a1 - 0)) > 0)) (.gd 4 (0 ≤ (0 : Int) ∧ (0 : Int) ≤ (0 : Int) ∧ (0 : Int) ≤ 0) (by decide) <| .apz 1 cGValue 32 (IntKind.i64.wrap (a1 - 0)) <| .cut 2 cGValue (List.replicate (IntKind.i64.wrap (a1 - 0)).toNat (default : GValue)) (0 : Int) <| .cv 1 [.rn 25 0] <| .ret 0 ((List.replicate (IntKind.i64.wrap (a1 - 0)).toNat (default : GValue)).take (0 : Int).toNat)) (.cv 0 [.th 0 0 67 3 (eF cGValue ([] : List GValue))] <| .ret 0 ([] : List GValue))) fun j1 => .cv 2 [.rn 0 40000] <| .ret 0 j1)
def G209s0 (a1 : Int) : Option ((List GValue)) := (T209s0 a1).den
theorem G209s0_ok (a1 : Int) : ConH Tryz.prog 281 [.nil, tI a1] [] [] (G209s0 a1) (fun (y : (List GValue)) => .own 40000) (fun (y : (List GValue)) => [(40000, .arr 67 3 (y.length) (eF cGValue y))]) := conH Tryz.func281 ti_ok (T209s0 a1)
def T193_L0 (a0 : List (List GValue)) : (Int × Int) → TP ((Int × Int) ⊕ ((Int) ⊕ ((List GValue))))
 | (v1, v2) => .ite 1 (decide (v2 < ((a0.length : Int)))) (.grd 1 (0 ≤ v2 ∧ v2 < (a0.length : Int)) <| .ite 9 (decide ((IntKind.i64.wrap (v1 + (((a0.getD (v2).toNat default).length : Int)))) < 0)) (.no) (.ret 2 (.inl (IntKind.i64.wrap (v1 + (((a0.getD (v2).toNat default).length : Int))), IntKind.i64.wrap (v2 + 1))))) (.ret 0 (.inr (.inl v1)))
def T193_L1 (a0 : List (List GValue)) : ((List GValue) × Int) → TP (((List GValue) × Int) ⊕ (((List GValue)) ⊕ ((List GValue))))
 | (v5, v6) => .ite 1 (decide (v6 < ((a0.length : Int)))) (.grd 1 (0 ≤ v6 ∧ v6 < (a0.length : Int)) <| .grd 5 ((v5.length + (a0.getD (v6).toNat default).length) * 32 ≤ 140737488355328) <| .cv 0 [.ap 33 cGValue v5 (a0.getD (v6).toNat default)] <| .cv 3 [.rn 33 6] <| .ret 0 (.inl (v5 ++ (a0.getD (v6).toNat default), IntKind.i64.wrap (v6 + 1)))) (.ret 0 (.inr (.inl v5)))
def T193 (a0 : List (List GValue)) : TP ((List GValue)) := .lp 5 (fun (s : Int × Int) => match s with | (v1, v2) => (⟨[(0, .t (eL cL_cGValue (a0))), (3, tI v1), (9, .t (eL cL_cGValue (a0))), (10, tI ((a0.length : Int))), (11, tI v2)], []⟩ : St)) (fun (b3 : Int) => (⟨[(0, .t (eL cL_cGValue (a0))), (3, tI b3)], []⟩ : St)) 0 (0, 0) (T193_L0 a0) fun b3 => .ch 1 [40000] (G209s0_ok b3) fun r4 => .cv 0 [.rn 40000 24] <| .cv 4 [.rn 24 6] <| .lp 0 (fun (s : (List GValue) × Int) => match s with | (v5, v6) => (⟨[(6, .own 6), (25, .t (eL cL_cGValue (a0))), (26, tI ((a0.length : Int))), (27, tI v6)], [(6, .arr 67 3 (v5.length) (eF cGValue v5))]⟩ : St)) (fun (b7 : (List GValue)) => (⟨[(6, .own 6)], [(6, .arr 67 3 (b7.length) (eF cGValue b7))]⟩ : St)) 2 (r4, 0) (T193_L1 a0) fun b7 => .cv 2 [.fr 6 (eL cGValue (b7))] <| .ret 0 b7
def G193 (a0 : List (List GValue)) : Option ((List GValue)) := (T193 a0).den
theorem G193_ok (a0 : List (List GValue)) : Con Tryz.prog 241 [.t (eL cL_cGValue (a0))] (G193 a0) (fun (y : (List GValue)) => tV y) := con Tryz.func241 ti_ok (T193 a0)
def T170 (a0 : GDelta) (a1 : GDelta) (a2 : Int) (a3 : Int) : TP (GDelta) := .bs 8 false cL_cGValue ([a0.Row, a1.Row] : List (List GValue)) <| .ca 0 (G193_ok (([a0.Row, a1.Row] : List (List GValue)))) fun r1 => .ret 3 (GDelta.mk a2 r1 a3)
def G170 (a0 : GDelta) (a1 : GDelta) (a2 : Int) (a3 : Int) : Option (GDelta) := (T170 a0 a1 a2 a3).den
theorem G170_ok (a0 : GDelta) (a1 : GDelta) (a2 : Int) (a3 : Int) : Con Tryz.prog 291 [.t (eGDelta a0), .t (eGDelta a1), tI a2, tI a3] (G170 a0 a1 a2 a3) (fun (y : GDelta) => .t (eGDelta y)) := con Tryz.func291 ti_ok (T170 a0 a1 a2 a3)
def T126s0_L1 (a1 : Int) (a2 : LD) (a3 : LD) (h30000_0 : GNode) (h30000_1 : Int) (h30001 : LS) (hk30001 : ByteArray) (h30002_0 : GSide) (v2 : Int) (r7 : LD) : (LD × Int) → TP ((LD × Int) ⊕ ((LD) ⊕ ((LD × Int) ⊕ ((LD) ⊕ (LD)))))
 | (v8, v9) => .ite 1 (decide (v9 < ((r7.length : Int)))) (.grd 1 (0 ≤ v9 ∧ v9 < (r7.length : Int)) <| .dr 3 0 [(16, true, [2, 4]), (17, true, [3, 5]), (9, false, []), (11, false, []), (15, false, []), (30000, false, []), (30001, false, []), (30002, false, [])] [0, 1, 3, 9, 11, 15, 18, 19, 20, 61, 62, 63, 64, 65, 66] <| .jn 2 0 (fun (s : Int × (List GValue) × Int × Int × (List GValue) × Int × LD) => match s with | (j11, j12, j13, j14, j15, j16, j17) => (⟨[(0, .ptr 30000 0), (1, tI a1), (3, tD a3), (9, .own 9), (11, .ptr 11 0), (15, .ptr 15 0), (16, .ptr 16 0), (17, .ptr 17 0), (18, tD a2), (19, tI ((a2.length : Int))), (20, tI v2), (61, tD r7), (62, tI ((r7.length : Int))), (63, tI v9)], [(9, aD j17), (11, .box ((cGDelta (a2.getD (v2).toNat default)).map .t)), (15, .box ((cGDelta (r7.getD (v9).toNat default)).map .t)), (16, .box [tI j11, tV j12, tI j13]), (17, .box [tI j14, tV j15, tI j16]), (30000, bOp h30000_0 30001 h30000_1), (30001, .mp none (eM mS (h30001 : LS)) (some (.str (hk30001), some (.ptr 30002 0)))), (30002, .box ((cGSide (h30002_0)).map .t))]⟩ : St)) (.ite 0 (a1 == 1) (.dr 0 0 [(9, false, []), (11, false, []), (15, false, []), (16, false, [2]), (17, false, [3]), (30000, false, []), (30001, false, []), (30002, false, [])] [0, 1, 3, 9, 11, 15, 16, 17, 18, 19, 20, 61, 62, 63, 64, 65, 66, 67, 68, 69, 70] <| .ret 0 ((r7.getD (v9).toNat default).Time, (r7.getD (v9).toNat default).Row, (r7.getD (v9).toNat default).N, (a2.getD (v2).toNat default).Time, (a2.getD (v2).toNat default).Row, (a2.getD (v2).toNat default).N, v8)) (.ret 0 ((a2.getD (v2).toNat default).Time, (a2.getD (v2).toNat default).Row, (a2.getD (v2).toNat default).N, (r7.getD (v9).toNat default).Time, (r7.getD (v9).toNat default).Row, (r7.getD (v9).toNat default).N, v8))) fun (j11, j12, j13, j14, j15, j16, j17) => .ca 13 (G170_ok ((GDelta.mk j11 j12 j13)) ((GDelta.mk j14 j15 j16)) (if ((r7.getD (v9).toNat default).Time) > ((a2.getD (v2).toNat default).Time) then ((r7.getD (v9).toNat default).Time) else ((a2.getD (v2).toNat default).Time)) (IntKind.i64.wrap (((a2.getD (v2).toNat default).N) * ((r7.getD (v9).toNat default).N)))) fun r18 => .bs 0 false cGDelta ([r18] : LD) <| .grd 1 ((j17.length + (([r18] : LD)).length) * 40 ≤ 140737488355328) <| .cv 0 [.ap 88 cGDelta j17 (([r18] : LD))] <| .cv 3 [.rn 88 9] <| .ret 0 (.inl (j17 ++ (([r18] : LD)), IntKind.i64.wrap (v9 + 1)))) (.ret 0 (.inr (.inl v8)))
def T126s0_L0 (a1 : Int) (a2 : LD) (a3 : LD) (h30000_0 : GNode) (h30000_1 : Int) (h30001 : LS) (hk30001 : ByteArray) (h30002_0 : GSide) : (LD × Int) → TP ((LD × Int) ⊕ ((LD) ⊕ (LD)))
 | (v1, v2) => .ite 1 (decide (v2 < ((a2.length : Int)))) (.grd 1 (0 ≤ v2 ∧ v2 < (a2.length : Int)) <| .dr 3 0 [(9, false, []), (11, false, []), (30000, false, []), (30001, false, []), (30002, false, [])] [0, 1, 3, 9, 11, 18, 19, 20, 21, 22, 23] <| .jn 2 0 (fun (s : LD × Int × Int) => match s with | (j4, j5, j6) => (⟨[(0, .ptr 30000 0), (1, tI a1), (3, tD a3), (9, .own 9), (11, .ptr 11 0), (12, tI j5), (13, tI j6), (18, tD a2), (19, tI ((a2.length : Int))), (20, tI v2)], [(9, aD j4), (11, .box ((cGDelta (a2.getD (v2).toNat default)).map .t)), (30000, bOp h30000_0 30001 h30000_1), (30001, .mp none (eM mS (h30001 : LS)) (some (.str (hk30001), some (.ptr 30002 0)))), (30002, .box ((cGSide (h30002_0)).map .t))]⟩ : St)) (.ite 0 (a1 == 1) (.dr 0 0 [(9, false, []), (11, false, []), (30000, false, []), (30001, false, []), (30002, false, [])] [0, 1, 3, 9, 11, 18, 19, 20, 21, 22, 23, 24, 25, 26, 27, 28, 29, 30, 31, 32, 33, 34, 35, 36, 37, 38, 39, 40, 41] <| .ret 0 (v1, IntKind.i64.wrap (((a2.getD (v2).toNat default).Time) - h30000_0.After), IntKind.i64.wrap (((a2.getD (v2).toNat default).Time) + h30000_0.Before))) (.ret 0 (v1, IntKind.i64.wrap (((a2.getD (v2).toNat default).Time) - h30000_0.Before), IntKind.i64.wrap (((a2.getD (v2).toNat default).Time) + h30000_0.After)))) fun (j4, j5, j6) => .ca 3 (G128_ok a3 j5 j6) fun r7 => .lp 2 (fun (s : LD × Int) => match s with | (v8, v9) => (⟨[(0, .ptr 30000 0), (1, tI a1), (3, tD a3), (9, .own 9), (11, .ptr 11 0), (18, tD a2), (19, tI ((a2.length : Int))), (20, tI v2), (61, tD r7), (62, tI ((r7.length : Int))), (63, tI v9)], [(9, aD v8), (11, .box ((cGDelta (a2.getD (v2).toNat default)).map .t)), (30000, bOp h30000_0 30001 h30000_1), (30001, .mp none (eM mS (h30001 : LS)) (some (.str (hk30001), some (.ptr 30002 0)))), (30002, .box ((cGSide (h30002_0)).map .t))]⟩ : St)) (fun (b10 : LD) => (⟨[(0, .ptr 30000 0), (1, tI a1), (3, tD a3), (9, .own 9), (18, tD a2), (19, tI ((a2.length : Int))), (20, tI v2)], [(9, aD b10), (30000, bOp h30000_0 30001 h30000_1), (30001, .mp none (eM mS (h30001 : LS)) (some (.str (hk30001), some (.ptr 30002 0)))), (30002, .box ((cGSide (h30002_0)).map .t))]⟩ : St)) 2 (j4, 0) (T126s0_L1 a1 a2 a3 h30000_0 h30000_1 h30001 hk30001 h30002_0 v2 r7) fun b10 => .ret 2 (.inl (b10, IntKind.i64.wrap (v2 + 1)))) (.ret 0 (.inr (.inl v1)))
def T126s0 (a1 : Int) (a2 : LD) (a3 : LD) (h30000_0 : GNode) (h30000_1 : Int) (h30001 : LS) (hk30001 : ByteArray) (h30002_0 : GSide) : TP (LD) := .cv 5 [.th 9 9 50 3 (eF cGDelta ([] : LD))] <| .lp 0 (fun (s : LD × Int) => match s with | (v1, v2) => (⟨[(0, .ptr 30000 0), (1, tI a1), (3, tD a3), (9, .own 9), (18, tD a2), (19, tI ((a2.length : Int))), (20, tI v2)], [(9, aD v1), (30000, bOp h30000_0 30001 h30000_1), (30001, .mp none (eM mS (h30001 : LS)) (some (.str (hk30001), some (.ptr 30002 0)))), (30002, .box ((cGSide (h30002_0)).map .t))]⟩ : St)) (fun (b3 : LD) => (⟨[(9, .own 9)], [(9, aD b3), (30000, bOp h30000_0 30001 h30000_1), (30001, .mp none (eM mS (h30001 : LS)) (some (.str (hk30001), some (.ptr 30002 0)))), (30002, .box ((cGSide (h30002_0)).map .t))]⟩ : St)) 0 (([] : LD), 0) (T126s0_L0 a1 a2 a3 h30000_0 h30000_1 h30001 hk30001 h30002_0) fun b3 => .cv 2 [.fr 9 (eL cGDelta (b3))] <| .ret 0 b3
def G126s0 (a1 : Int) (a2 : LD) (a3 : LD) (h30000_0 : GNode) (h30000_1 : Int) (h30001 : LS) (hk30001 : ByteArray) (h30002_0 : GSide) : Option (LD) := (T126s0 a1 a2 a3 h30000_0 h30000_1 h30001 hk30001 h30002_0).den
theorem G126s0_ok (a1 : Int) (a2 : LD) (a3 : LD) (h30000_0 : GNode) (h30000_1 : Int) (h30001 : LS) (hk30001 : ByteArray) (h30002_0 : GSide) : ConH Tryz.prog 265 [.ptr 30000 0, tI a1, tD a2, tD a3] [(30000, bOp h30000_0 30001 h30000_1), (30001, .mp none (eM mS (h30001 : LS)) (some (.str (hk30001), some (.ptr 30002 0)))), (30002, .box ((cGSide (h30002_0)).map .t))] [30000, 30001, 30002] (G126s0 a1 a2 a3 h30000_0 h30000_1 h30001 hk30001 h30002_0) (fun (y : LD) => tD y) (fun (y : LD) => [(30000, bOp h30000_0 30001 h30000_1), (30001, .mp none (eM mS (h30001 : LS)) (some (.str (hk30001), some (.ptr 30002 0)))), (30002, .box ((cGSide (h30002_0)).map .t))]) := conH Tryz.func265 ti_ok (T126s0 a1 a2 a3 h30000_0 h30000_1 h30001 hk30001 h30002_0)
def T127s0_L0 (a1 : LD) (a2 : LD) (h30000_0 : GNode) (h30000_1 : Int) (h30001 : LS) (hk30001 : ByteArray) (h30002_0 : GSide) : (LD × Int) → TP ((LD × Int) ⊕ ((LD) ⊕ (LD)))
 | (v1, v2) => .ite 1 (decide (v2 < ((a1.length : Int)))) (.grd 1 (0 ≤ v2 ∧ v2 < (a1.length : Int)) <| .dc 12 [tD a2, tI (IntKind.i64.wrap ((IntKind.i64.wrap (((a1.getD (v2).toNat default).Time) - h30000_0.Keep)) + 1)), tI ((a1.getD (v2).toNat default).Time)] (G128_ok a2 (IntKind.i64.wrap ((IntKind.i64.wrap (((a1.getD (v2).toNat default).Time) - h30000_0.Keep)) + 1)) ((a1.getD (v2).toNat default).Time)) fun r4 => .dr 3 0 [(7, false, []), (9, false, []), (30000, false, []), (30001, false, []), (30002, false, [])] [0, 2, 7, 9, 11, 12, 13, 14, 15, 16] <| .jn 3 0 (fun (j5 : LD) => (⟨[(0, .ptr 30000 0), (2, tD a2), (7, .own 7), (11, tD a1), (12, tI ((a1.length : Int))), (13, tI v2)], [(7, aD j5), (30000, bOp h30000_0 30001 h30000_1), (30001, .mp none (eM mS (h30001 : LS)) (some (.str (hk30001), some (.ptr 30002 0)))), (30002, .box ((cGSide (h30002_0)).map .t))]⟩ : St)) (.ite 0 (decide (((r4.length : Int)) > 0)) (.dg 6 (0 ≤ (IntKind.i64.wrap (((r4.length : Int)) - 1)) ∧ (IntKind.i64.wrap (((r4.length : Int)) - 1)) < (r4.length : Int)) <| .dc 12 [.t (eGDelta (a1.getD (v2).toNat default)), .t (eGDelta (r4.getD (IntKind.i64.wrap (((r4.length : Int)) - 1)).toNat default)), tI ((a1.getD (v2).toNat default).Time), tI ((a1.getD (v2).toNat default).N)] (G170_ok (a1.getD (v2).toNat default) (r4.getD (IntKind.i64.wrap (((r4.length : Int)) - 1)).toNat default) ((a1.getD (v2).toNat default).Time) ((a1.getD (v2).toNat default).N)) fun r6 => .dg 14 ((v1.length + 1) * 40 ≤ 140737488355328) <| .dr 0 0 [(47, true, [14]), (7, false, [14]), (9, false, []), (30000, false, []), (30001, false, []), (30002, false, [])] [0, 2, 7, 9, 10, 11, 12, 13, 14, 15, 16, 17, 18, 19, 20, 21, 22, 23, 24, 25, 26, 27, 28, 29, 30, 31, 32] <| .cv 0 [.apl 47 cGDelta v1 (([r6] : LD))] <| .cv 0 [.rn 47 7] <| .ret 0 (v1 ++ (([r6] : LD)))) (.ret 0 v1)) fun j5 => .ret 2 (.inl (j5, IntKind.i64.wrap (v2 + 1)))) (.ret 0 (.inr (.inl v1)))
def T127s0 (a1 : LD) (a2 : LD) (h30000_0 : GNode) (h30000_1 : Int) (h30001 : LS) (hk30001 : ByteArray) (h30002_0 : GSide) : TP (LD) := .cv 5 [.th 7 7 50 3 (eF cGDelta ([] : LD))] <| .lp 0 (fun (s : LD × Int) => match s with | (v1, v2) => (⟨[(0, .ptr 30000 0), (2, tD a2), (7, .own 7), (11, tD a1), (12, tI ((a1.length : Int))), (13, tI v2)], [(7, aD v1), (30000, bOp h30000_0 30001 h30000_1), (30001, .mp none (eM mS (h30001 : LS)) (some (.str (hk30001), some (.ptr 30002 0)))), (30002, .box ((cGSide (h30002_0)).map .t))]⟩ : St)) (fun (b3 : LD) => (⟨[(7, .own 7)], [(7, aD b3), (30000, bOp h30000_0 30001 h30000_1), (30001, .mp none (eM mS (h30001 : LS)) (some (.str (hk30001), some (.ptr 30002 0)))), (30002, .box ((cGSide (h30002_0)).map .t))]⟩ : St)) 0 (([] : LD), 0) (T127s0_L0 a1 a2 h30000_0 h30000_1 h30001 hk30001 h30002_0) fun b3 => .cv 2 [.fr 7 (eL cGDelta (b3))] <| .ret 0 b3
def G127s0 (a1 : LD) (a2 : LD) (h30000_0 : GNode) (h30000_1 : Int) (h30001 : LS) (hk30001 : ByteArray) (h30002_0 : GSide) : Option (LD) := (T127s0 a1 a2 h30000_0 h30000_1 h30001 hk30001 h30002_0).den
theorem G127s0_ok (a1 : LD) (a2 : LD) (h30000_0 : GNode) (h30000_1 : Int) (h30001 : LS) (hk30001 : ByteArray) (h30002_0 : GSide) : ConH Tryz.prog 266 [.ptr 30000 0, tD a1, tD a2] [(30000, bOp h30000_0 30001 h30000_1), (30001, .mp none (eM mS (h30001 : LS)) (some (.str (hk30001), some (.ptr 30002 0)))), (30002, .box ((cGSide (h30002_0)).map .t))] [30000, 30001, 30002] (G127s0 a1 a2 h30000_0 h30000_1 h30001 hk30001 h30002_0) (fun (y : LD) => tD y) (fun (y : LD) => [(30000, bOp h30000_0 30001 h30000_1), (30001, .mp none (eM mS (h30001 : LS)) (some (.str (hk30001), some (.ptr 30002 0)))), (30002, .box ((cGSide (h30002_0)).map .t))]) := conH Tryz.func266 ti_ok (T127s0 a1 a2 h30000_0 h30000_1 h30001 hk30001 h30002_0)
def T59s0 (a2 : Int) (a3 : LD) (h30000_0 : GNode) (h30000_1 : Int) (h30001 : LS) (hk30001 : ByteArray) (h30002_0 : GSide) : TP (LD) := .ite 8 (h30000_0.Op == 6) (.sp 8 22 (IntKind.i64.wrap (1 - a2)) 0 (.gd 1 (0 ≤ (0 : Int) ∧ (0 : Int) < (2 : Int)) (by decide) <| .ch 1 [] (G126s0_ok a2 a3 h30002_0.rows_.e0 h30000_0 h30000_1 h30001 hk30001 h30002_0) fun r1 => .ret 1 r1) (.sp 0 22 (IntKind.i64.wrap (1 - a2)) 1 (.gd 1 (0 ≤ (1 : Int) ∧ (1 : Int) < (2 : Int)) (by decide) <| .ch 1 [] (G126s0_ok a2 a3 h30002_0.rows_.e1 h30000_0 h30000_1 h30001 hk30001 h30002_0) fun r2 => .ret 1 r2) (.no))) (.ite 3 (a2 == 0) (.gd 6 (0 ≤ (1 : Int) ∧ (1 : Int) < (2 : Int)) (by decide) <| .ch 1 [] (G127s0_ok a3 h30002_0.rows_.e1 h30000_0 h30000_1 h30001 hk30001 h30002_0) fun r3 => .ret 1 r3) (.dg 3 (0 ≤ (0 : Int) ∧ (0 : Int) < (2 : Int)) <| .dg 6 (0 ≤ ((0 : Int)) ∧ ((0 : Int)) < (a3.length : Int)) <| .dg 13 (0 ≤ (IntKind.i64.wrap (((a3.length : Int)) - 1)) ∧ (IntKind.i64.wrap (((a3.length : Int)) - 1)) < (a3.length : Int)) <| .dc 22 [tD h30002_0.rows_.e0, tI ((a3.getD ((0 : Int)).toNat default).Time), tI (IntKind.i64.wrap (((a3.getD (IntKind.i64.wrap (((a3.length : Int)) - 1)).toNat default).Time) + h30000_0.Keep))] (G128_ok h30002_0.rows_.e0 ((a3.getD ((0 : Int)).toNat default).Time) (IntKind.i64.wrap (((a3.getD (IntKind.i64.wrap (((a3.length : Int)) - 1)).toNat default).Time) + h30000_0.Keep))) fun r4 => .dr 0 0 [(30000, false, []), (30001, false, []), (30002, false, [])] [0, 1, 2, 3, 8, 10, 11, 12, 13, 14, 15, 16, 28, 29, 30] <| .dg 5 (0 ≤ (1 : Int) ∧ (1 : Int) < (2 : Int)) <| .dc 8 [tD h30002_0.rows_.e1, tD a3] (G12_ok h30002_0.rows_.e1 a3) fun r5 => .dch 9 [.ptr 30000 0, tD r4, tD r5] (G127s0_ok r4 r5 h30000_0 h30000_1 h30001 hk30001 h30002_0) (fun _ => none) fun r6 => .dg 15 (0 ≤ (1 : Int) ∧ (1 : Int) < (2 : Int)) <| .dch 17 [.ptr 30000 0, tD r4, tD h30002_0.rows_.e1] (G127s0_ok r4 h30002_0.rows_.e1 h30000_0 h30000_1 h30001 hk30001 h30002_0) (fun _ => none) fun r7 => .dc 18 [tD r6, tD r7] (G129_ok r6 r7) fun r8 => .dr 0 0 [(30000, false, []), (30001, false, []), (30002, false, [])] [0, 1, 2, 3, 9, 10, 11, 12, 13, 14, 15, 16, 28, 29, 30, 39, 40, 41, 42, 43, 44, 45, 46, 47, 48, 49, 50, 51, 52, 53, 54, 55, 56, 57, 58, 59, 60, 61] <| .ret 0 r8))
def G59s0 (a2 : Int) (a3 : LD) (h30000_0 : GNode) (h30000_1 : Int) (h30001 : LS) (hk30001 : ByteArray) (h30002_0 : GSide) : Option (LD) := (T59s0 a2 a3 h30000_0 h30000_1 h30001 hk30001 h30002_0).den
theorem G59s0_ok (a2 : Int) (a3 : LD) (h30000_0 : GNode) (h30000_1 : Int) (h30001 : LS) (hk30001 : ByteArray) (h30002_0 : GSide) : ConH Tryz.prog 210 [.ptr 30000 0, .ptr 30002 0, tI a2, tD a3] [(30000, bOp h30000_0 30001 h30000_1), (30001, .mp none (eM mS (h30001 : LS)) (some (.str (hk30001), some (.ptr 30002 0)))), (30002, .box ((cGSide (h30002_0)).map .t))] [30000, 30001, 30002] (G59s0 a2 a3 h30000_0 h30000_1 h30001 hk30001 h30002_0) (fun (y : LD) => tD y) (fun (y : LD) => [(30000, bOp h30000_0 30001 h30000_1), (30001, .mp none (eM mS (h30001 : LS)) (some (.str (hk30001), some (.ptr 30002 0)))), (30002, .box ((cGSide (h30002_0)).map .t))]) := conH Tryz.func210 ti_ok (T59s0 a2 a3 h30000_0 h30000_1 h30001 hk30001 h30002_0)
def T25s0_L0 (h30000_0 : GNode) (h30000_1 : Int) : ((List ByteArray) × (List (ByteArray × LD)) × (LS) × Int × LD) → TP (((List ByteArray) × (List (ByteArray × LD)) × (LS) × Int × LD) ⊕ (((LS) × LD) ⊕ (LD × (LS))))
 | (v2, v3, v4, v5, v6) => .nxd 0 (fun c : LD => eL cGDelta (c)) (v3 : List (ByteArray × LD)) (v2 : List ByteArray) (.ret 2 (.inr (.inl (v4, v6)))) fun k9 c10 => .gd 3 ((.str (k9) : T) = .str (k9)) rfl <| .lkb 9 cGSide (v4 : LS) k9 (.cv 13 [.gp 30001 mS (v4 : LS) k9] <| .upd 0 mS (mdel v4 k9 : LS) k9 <| .cv 5 [.rn 30 30002] <| .cv 0 [.bx 30002 [eL cGDelta (([] : LD)), eL cGDelta (([] : LD))]] <| .ch 0 [] (G59s0_ok v5 c10 h30000_0 h30000_1 (mdel v4 k9) k9 ((GSide.mk ((A2_ListGDelta.mk (([] : LD)) (([] : LD))))))) fun r12 => .grd 1 ((v6.length + r12.length) * 40 ≤ 140737488355328) <| .cv 0 [.ap 43 cGDelta v6 r12] <| .jn 1 0 (fun (s : LD × LD × Int × LD) => match s with | (j13, j14, j15, j16) => (⟨[(0, .ptr 30000 0), (1, tI j15), (7, .own 7), (8, .t (.str (k9))), (10, .ptr 30002 0), (15, .ptr 15 0)], [(7, aD j16), (14, .mp (some ⟨15, kTs (kerase v2 k9 : List ByteArray), some (.str (k9))⟩) (eM (fun c : LD => Mem.d (eL cGDelta (c))) (mdel v3 k9 : List (ByteArray × LD))) (some (.str (k9), some (tD c10)))), (30000, bOp h30000_0 30001 h30000_1), (30001, .mp none (eM mS (mdel v4 k9 : LS)) (some (.str (k9), some (.ptr 30002 0)))), (30002, .box [tD j13, tD j14])]⟩ : St)) (.sp 0 1 v5 0 (.dg 6 (0 ≤ (0 : Int) ∧ (0 : Int) < (2 : Int)) <| .dc 9 [tD (([] : LD)), tD c10] (G12_ok (([] : LD)) c10) fun r17 => .dg 12 (0 ≤ (0 : Int) ∧ (0 : Int) < (2 : Int)) <| .dr 0 0 [(14, false, []), (43, false, []), (30000, false, []), (30001, false, []), (30002, false, [13])] [0, 1, 7, 8, 9, 10, 15, 16, 17, 18, 19, 20, 21, 22, 23, 24, 25, 26, 27, 28, 29, 30, 31, 32, 33, 34, 35, 36, 38, 39, 40, 41, 42, 43] <| .cv 0 [.rn 43 7] <| .ret 0 (r17, ([] : LD), 0, v6 ++ r12)) (.sp 0 1 v5 1 (.dg 6 (0 ≤ (1 : Int) ∧ (1 : Int) < (2 : Int)) <| .dc 9 [tD (([] : LD)), tD c10] (G12_ok (([] : LD)) c10) fun r18 => .dg 12 (0 ≤ (1 : Int) ∧ (1 : Int) < (2 : Int)) <| .dr 0 0 [(14, false, []), (43, false, []), (30000, false, []), (30001, false, []), (30002, false, [13])] [0, 1, 7, 8, 9, 10, 15, 16, 17, 18, 19, 20, 21, 22, 23, 24, 25, 26, 27, 28, 29, 30, 31, 32, 33, 34, 35, 36, 38, 39, 40, 41, 42, 43] <| .cv 0 [.rn 43 7] <| .ret 0 (([] : LD), r18, 1, v6 ++ r12)) (.no))) fun (j13, j14, j15, j16) => .dg 3 (0 ≤ (0 : Int) ∧ (0 : Int) < (2 : Int)) <| .dg 9 (0 ≤ (1 : Int) ∧ (1 : Int) < (2 : Int)) <| .dr 0 0 [(7, false, []), (14, false, []), (30000, false, []), (30001, false, []), (30002, false, [])] [0, 1, 7, 8, 10, 15] <| .jn 0 0 (fun (s : (LS) × LD) => match s with | (j19, j20) => (⟨[(0, .ptr 30000 0), (1, tI j15), (7, .own 7), (15, .ptr 15 0)], [(7, aD j20), (14, .mp (some ⟨15, kTs (kerase v2 k9 : List ByteArray), some (.str (k9))⟩) (eM (fun c : LD => Mem.d (eL cGDelta (c))) (mdel v3 k9 : List (ByteArray × LD))) (some (.str (k9), some (tD c10)))), (30000, bOp h30000_0 30001 h30000_1), (30001, mM (j19 : LS))]⟩ : St)) (.ite 0 ((IntKind.i64.wrap (((j13.length : Int)) + ((j14.length : Int)))) == 0) (.dlt 5 mS (mdel v4 k9 : LS) k9 (some (.ptr 30002 0)) <| .ret 0 (mdel v4 k9, j16)) (.cv 0 [.fb 30001 30002 cGSide (v4 : LS) k9 ((GSide.mk ((A2_ListGDelta.mk j13 j14))))] <| .ret 0 (mput v4 k9 ((GSide.mk ((A2_ListGDelta.mk j13 j14))) : GSide), j16))) fun (j19, j20) => .cv 0 [.fd 14 (fun c : LD => eL cGDelta (c)) (v3 : List (ByteArray × LD)) k9 (c10 : LD), .nc 14] <| .ret 0 (.inl (kerase v2 k9, mput v3 k9 (c10 : LD), j19, j15, j20))) fun c11 => .cv 9 [.rn 26 30002] <| .ch 0 [] (G59s0_ok v5 c10 h30000_0 h30000_1 (mdel v4 k9) k9 c11) fun r21 => .grd 1 ((v6.length + r21.length) * 40 ≤ 140737488355328) <| .cv 0 [.ap 43 cGDelta v6 r21] <| .jn 1 0 (fun (s : LD × LD × Int × LD) => match s with | (j22, j23, j24, j25) => (⟨[(0, .ptr 30000 0), (1, tI j24), (7, .own 7), (8, .t (.str (k9))), (10, .ptr 30002 0), (15, .ptr 15 0)], [(7, aD j25), (14, .mp (some ⟨15, kTs (kerase v2 k9 : List ByteArray), some (.str (k9))⟩) (eM (fun c : LD => Mem.d (eL cGDelta (c))) (mdel v3 k9 : List (ByteArray × LD))) (some (.str (k9), some (tD c10)))), (30000, bOp h30000_0 30001 h30000_1), (30001, .mp none (eM mS (mdel v4 k9 : LS)) (some (.str (k9), some (.ptr 30002 0)))), (30002, .box [tD j22, tD j23])]⟩ : St)) (.sp 0 1 v5 0 (.dg 6 (0 ≤ (0 : Int) ∧ (0 : Int) < (2 : Int)) <| .dc 9 [tD c11.rows_.e0, tD c10] (G12_ok c11.rows_.e0 c10) fun r26 => .dg 12 (0 ≤ (0 : Int) ∧ (0 : Int) < (2 : Int)) <| .dr 0 0 [(14, false, []), (43, false, []), (30000, false, []), (30001, false, []), (30002, false, [13])] [0, 1, 7, 8, 9, 10, 15, 16, 17, 18, 19, 20, 21, 22, 23, 24, 25, 26, 27, 28, 38, 39, 40, 41, 42, 43] <| .cv 0 [.rn 43 7] <| .ret 0 (r26, c11.rows_.e1, 0, v6 ++ r21)) (.sp 0 1 v5 1 (.dg 6 (0 ≤ (1 : Int) ∧ (1 : Int) < (2 : Int)) <| .dc 9 [tD c11.rows_.e1, tD c10] (G12_ok c11.rows_.e1 c10) fun r27 => .dg 12 (0 ≤ (1 : Int) ∧ (1 : Int) < (2 : Int)) <| .dr 0 0 [(14, false, []), (43, false, []), (30000, false, []), (30001, false, []), (30002, false, [13])] [0, 1, 7, 8, 9, 10, 15, 16, 17, 18, 19, 20, 21, 22, 23, 24, 25, 26, 27, 28, 38, 39, 40, 41, 42, 43] <| .cv 0 [.rn 43 7] <| .ret 0 (c11.rows_.e0, r27, 1, v6 ++ r21)) (.no))) fun (j22, j23, j24, j25) => .dg 3 (0 ≤ (0 : Int) ∧ (0 : Int) < (2 : Int)) <| .dg 9 (0 ≤ (1 : Int) ∧ (1 : Int) < (2 : Int)) <| .dr 0 0 [(7, false, []), (14, false, []), (30000, false, []), (30001, false, []), (30002, false, [])] [0, 1, 7, 8, 10, 15] <| .jn 0 0 (fun (s : (LS) × LD) => match s with | (j28, j29) => (⟨[(0, .ptr 30000 0), (1, tI j24), (7, .own 7), (15, .ptr 15 0)], [(7, aD j29), (14, .mp (some ⟨15, kTs (kerase v2 k9 : List ByteArray), some (.str (k9))⟩) (eM (fun c : LD => Mem.d (eL cGDelta (c))) (mdel v3 k9 : List (ByteArray × LD))) (some (.str (k9), some (tD c10)))), (30000, bOp h30000_0 30001 h30000_1), (30001, mM (j28 : LS))]⟩ : St)) (.ite 0 ((IntKind.i64.wrap (((j22.length : Int)) + ((j23.length : Int)))) == 0) (.dlt 5 mS (mdel v4 k9 : LS) k9 (some (.ptr 30002 0)) <| .ret 0 (mdel v4 k9, j25)) (.cv 0 [.fb 30001 30002 cGSide (v4 : LS) k9 ((GSide.mk ((A2_ListGDelta.mk j22 j23))))] <| .ret 0 (mput v4 k9 ((GSide.mk ((A2_ListGDelta.mk j22 j23))) : GSide), j25))) fun (j28, j29) => .cv 0 [.fd 14 (fun c : LD => eL cGDelta (c)) (v3 : List (ByteArray × LD)) k9 (c10 : LD), .nc 14] <| .ret 0 (.inl (kerase v2 k9, mput v3 k9 (c10 : LD), j28, j24, j29))
def T25s0 (a1 : Int) (a2 : LD) (h30000_0 : GNode) (h30000_1 : Int) (h30001 : LS) : TP (LD × (LS)) := .ch 5 [40000] (G58s0_ok a1 a2 h30000_0 h30000_1 h30001) fun r1 => .cv 0 [.rn 40000 14] <| .cv 0 [.fz 14 50 3 (fun c : LD => c.length) (fun c : LD => eF cGDelta c) (fun c : LD => eL cGDelta (c)) (r1 : List (ByteArray × LD))] <| .rng 0 (fun c : LD => Mem.d (eL cGDelta (c))) (r1 : List (ByteArray × LD)) <| .cv 0 [.th 7 7 50 3 (eF cGDelta ([] : LD))] <| .lp 0 (fun (s : (List ByteArray) × (List (ByteArray × LD)) × (LS) × Int × LD) => match s with | (v2, v3, v4, v5, v6) => (⟨[(0, .ptr 30000 0), (1, tI v5), (7, .own 7), (15, .ptr 15 0)], [(7, aD v6), (14, .mp (some ⟨15, kTs (v2 : List ByteArray), none⟩) (eM (fun c : LD => Mem.d (eL cGDelta (c))) (v3 : List (ByteArray × LD))) none), (30000, bOp h30000_0 30001 h30000_1), (30001, mM (v4 : LS))]⟩ : St)) (fun (s : (LS) × LD) => match s with | (b7, b8) => (⟨[(7, .own 7)], [(7, aD b8), (30000, bOp h30000_0 30001 h30000_1), (30001, mM (b7 : LS))]⟩ : St)) 0 (mkeys r1, r1, h30001, a1, ([] : LD)) (T25s0_L0 h30000_0 h30000_1) fun (b7, b8) => .cv 1 [.fr 7 (eL cGDelta (b8))] <| .ca 0 (G27_ok b8) fun r30 => .ret 1 (r30, b7)
def G25s0 (a1 : Int) (a2 : LD) (h30000_0 : GNode) (h30000_1 : Int) (h30001 : LS) : Option (LD × (LS)) := Det (T25s0 a1 a2 h30000_0 h30000_1 h30001)
theorem G25s0_ok (a1 : Int) (a2 : LD) (h30000_0 : GNode) (h30000_1 : Int) (h30001 : LS) : ConH Tryz.prog 122 [.ptr 30000 0, tI a1, tD a2] [(30000, bOp h30000_0 30001 h30000_1), (30001, mM (h30001 : LS))] [30000, 30001] (G25s0 a1 a2 h30000_0 h30000_1 h30001) (fun (y : LD × (LS)) => tD y.1) (fun (y : LD × (LS)) => [(30000, bOp h30000_0 30001 h30000_1), (30001, mM (y.2 : LS))]) := conHD Tryz.func122 ti_ok (T25s0 a1 a2 h30000_0 h30000_1 h30001)
def T92 (a0 : GNode) : TP (Int × Int) := .ret 5 (0, 0)
def G92 (a0 : GNode) : Option (Int × Int) := (T92 a0).den
theorem G92_ok (a0 : GNode) : Con Tryz.prog 141 [.t (eGNode a0)] (G92 a0) (fun (y : Int × Int) => .tup [tI y.1, tI y.2]) := con Tryz.func141 ti_ok (T92 a0)
def T94 (a0 : GNode) : TP (Int × Int) := .jn 7 0 (fun (j1 : Bool) => (⟨[(1, .ptr 1 0), (11, tB j1)], [(1, bN a0)]⟩ : St)) (.ite 0 (a0.Op == 4) (.ret 4 (a0.Kind == 2)) (.ret 4 false)) fun j1 => .ite 0 (j1) (.dr 0 0 [(1, false, [])] [1, 11] <| .ret 0 (IntKind.i64.wrap (a0.Size - 1), IntKind.i64.wrap (a0.Step - 1))) (.dr 0 0 [(1, false, [])] [1, 11] <| .ret 0 (IntKind.i64.wrap (a0.Size - 1), IntKind.i64.wrap (a0.Size - 1)))
def G94 (a0 : GNode) : Option (Int × Int) := (T94 a0).den
theorem G94_ok (a0 : GNode) : Con Tryz.prog 143 [.t (eGNode a0)] (G94 a0) (fun (y : Int × Int) => .tup [tI y.1, tI y.2]) := con Tryz.func143 ti_ok (T94 a0)
def T99 (a0 : GNode) : TP (Int × Int) := .ret 10 (if a0.After > a0.Before then a0.After else a0.Before, 0)
def G99 (a0 : GNode) : Option (Int × Int) := (T99 a0).den
theorem G99_ok (a0 : GNode) : Con Tryz.prog 148 [.t (eGNode a0)] (G99 a0) (fun (y : Int × Int) => .tup [tI y.1, tI y.2]) := con Tryz.func148 ti_ok (T99 a0)
def T101 (a0 : GNode) : TP (Int × Int) := .ret 8 (IntKind.i64.wrap (a0.Keep - 1), 0)
def G101 (a0 : GNode) : Option (Int × Int) := (T101 a0).den
theorem G101_ok (a0 : GNode) : Con Tryz.prog 150 [.t (eGNode a0)] (G101 a0) (fun (y : Int × Int) => .tup [tI y.1, tI y.2]) := con Tryz.func150 ti_ok (T101 a0)
def T103 (a0 : GNode) : TP (Int × Int) := .ret 8 (IntKind.i64.wrap (a0.Size - 1), 0)
def G103 (a0 : GNode) : Option (Int × Int) := (T103 a0).den
theorem G103_ok (a0 : GNode) : Con Tryz.prog 152 [.t (eGNode a0)] (G103 a0) (fun (y : Int × Int) => .tup [tI y.1, tI y.2]) := con Tryz.func152 ti_ok (T103 a0)
def T91 (a0 : GNode) : TP (Bool) := .ret 3 true
def G91 (a0 : GNode) : Option (Bool) := (T91 a0).den
theorem G91_ok (a0 : GNode) : Con Tryz.prog 140 [.t (eGNode a0)] (G91 a0) (fun (y : Bool) => tB y) := con Tryz.func140 ti_ok (T91 a0)
def T97 (a0 : Int) (a1 : Int) (a2 : Int) : TP (Bool) := .jn 5 0 (fun (j1 : Bool) => (⟨[(6, tB j1)], []⟩ : St)) (.ite 0 (decide (a0 ≥ a1)) (.ret 5 (decide (a0 ≤ a2))) (.ret 5 false)) fun j1 => .ret 0 j1
def G97 (a0 : Int) (a1 : Int) (a2 : Int) : Option (Bool) := (T97 a0 a1 a2).den
theorem G97_ok (a0 : Int) (a1 : Int) (a2 : Int) : Con Tryz.prog 146 [tI a0, tI a1, tI a2] (G97 a0 a1 a2) (fun (y : Bool) => tB y) := con Tryz.func146 ti_ok (T97 a0 a1 a2)
def T96 (a0 : GNode) : TP (Bool) := .ca 4 (G97_ok a0.Size 1 10000) fun r1 => .ret 1 r1
def G96 (a0 : GNode) : Option (Bool) := (T96 a0).den
theorem G96_ok (a0 : GNode) : Con Tryz.prog 145 [.t (eGNode a0)] (G96 a0) (fun (y : Bool) => tB y) := con Tryz.func145 ti_ok (T96 a0)
def T93 (a0 : GNode) : TP (Bool) := .ite 6 (a0.Kind == 0) (.ca 1 (G96_ok a0) fun r1 => .ret 1 r1) (.ite 2 (a0.Kind == 1) (.ca 1 (G96_ok a0) fun r2 => .jn 1 0 (fun (j3 : Bool) => (⟨[(2, tB j3)], []⟩ : St)) (.ite 0 (r2) (.ite 5 (decide (a0.Step > 0)) (.grd 5 (a0.Step ≠ 0) <| .ret 3 ((Int.tmod a0.Size a0.Step) == 0)) (.ret 8 false)) (.ret 13 false)) fun j3 => .ret 0 j3) (.ite 2 (a0.Kind == 2) (.ca 1 (G96_ok a0) fun r4 => .jn 1 0 (fun (j5 : Bool) => (⟨[(2, tB j5)], []⟩ : St)) (.ite 0 (r4) (.ca 4 (G97_ok a0.Step 1 a0.Size) fun r6 => .ret 2 r6) (.ret 7 false)) fun j5 => .ret 0 j5) (.ret 1 false)))
def G93 (a0 : GNode) : Option (Bool) := (T93 a0).den
theorem G93_ok (a0 : GNode) : Con Tryz.prog 142 [.t (eGNode a0)] (G93 a0) (fun (y : Bool) => tB y) := con Tryz.func142 ti_ok (T93 a0)
def T95 (a0 : GNode) : TP (Bool) := .ca 3 (G96_ok a0) fun r1 => .jn 1 0 (fun (j2 : Bool) => (⟨[(2, tB j2)], []⟩ : St)) (.ite 0 (r1) (.ca 2 (G97_ok a0.Keep 1 100) fun r3 => .ret 2 r3) (.ret 5 false)) fun j2 => .ret 0 j2
def G95 (a0 : GNode) : Option (Bool) := (T95 a0).den
theorem G95_ok (a0 : GNode) : Con Tryz.prog 144 [.t (eGNode a0)] (G95 a0) (fun (y : Bool) => tB y) := con Tryz.func144 ti_ok (T95 a0)
def T98 (a0 : GNode) : TP (Bool) := .ca 4 (G97_ok a0.Before 0 10000) fun r1 => .jn 1 0 (fun (j2 : Bool) => (⟨[(2, tB j2)], []⟩ : St)) (.ite 0 (r1) (.ca 2 (G97_ok a0.After 0 10000) fun r3 => .ret 2 r3) (.ret 5 false)) fun j2 => .ret 0 j2
def G98 (a0 : GNode) : Option (Bool) := (T98 a0).den
theorem G98_ok (a0 : GNode) : Con Tryz.prog 147 [.t (eGNode a0)] (G98 a0) (fun (y : Bool) => tB y) := con Tryz.func147 ti_ok (T98 a0)
def T100 (a0 : GNode) : TP (Bool) := .ca 4 (G97_ok a0.Keep 1 10000) fun r1 => .ret 1 r1
def G100 (a0 : GNode) : Option (Bool) := (T100 a0).den
theorem G100_ok (a0 : GNode) : Con Tryz.prog 149 [.t (eGNode a0)] (G100 a0) (fun (y : Bool) => tB y) := con Tryz.func149 ti_ok (T100 a0)
def T102 (a0 : GNode) : TP (Bool) := .ca 3 (G96_ok a0) fun r1 => .jn 1 0 (fun (j2 : Bool) => (⟨[(2, tB j2)], []⟩ : St)) (.ite 0 (r1) (.ca 3 (G97_ok ((a0.Seq.length : Int)) 1 8) fun r3 => .ret 2 r3) (.ret 6 false)) fun j2 => .ret 0 j2
def G102 (a0 : GNode) : Option (Bool) := (T102 a0).den
theorem G102_ok (a0 : GNode) : Con Tryz.prog 151 [.t (eGNode a0)] (G102 a0) (fun (y : Bool) => tB y) := con Tryz.func151 ti_ok (T102 a0)
def V38 : Nat → PV
 | 0 => .tup [.agg [tI 0, .lit (.nilFunc), .lit (.nilFunc), tB false], tB false]
 | 1 => .tup [.agg [tI 0, .fn (.func 140) 0 [], .fn (.func 141) 0 [], tB false], tB true]
 | 2 => .tup [.agg [tI 1, .fn (.func 140) 0 [], .fn (.func 141) 0 [], tB false], tB true]
 | 3 => .tup [.agg [tI 2, .fn (.func 140) 0 [], .fn (.func 141) 0 [], tB false], tB true]
 | 4 => .tup [.agg [tI 1, .fn (.func 142) 0 [], .fn (.func 143) 0 [], tB true], tB true]
 | 5 => .tup [.agg [tI 1, .fn (.func 144) 0 [], .fn (.func 143) 0 [], tB true], tB true]
 | 6 => .tup [.agg [tI 2, .fn (.func 147) 0 [], .fn (.func 148) 0 [], tB true], tB true]
 | 7 => .tup [.agg [tI 2, .fn (.func 149) 0 [], .fn (.func 150) 0 [], tB true], tB true]
 | 8 => .tup [.agg [tI 1, .fn (.func 151) 0 [], .fn (.func 152) 0 [], tB true], tB true]
 | _ => .any
def T38 (a0 : Int) : TP (Nat) := .ca 15 (G97_ok a0 0 8) fun r1 => .ite 1 (!r1) (.ret 3 0) (.sp 1 19 a0 0 (.gd 1 (0 ≤ (0 : Int) ∧ (0 : Int) < (9 : Int)) (by decide) <| .ret 3 1) (.sp 0 19 a0 1 (.gd 1 (0 ≤ (1 : Int) ∧ (1 : Int) < (9 : Int)) (by decide) <| .ret 3 2) (.sp 0 19 a0 2 (.gd 1 (0 ≤ (2 : Int) ∧ (2 : Int) < (9 : Int)) (by decide) <| .ret 3 2) (.sp 0 19 a0 3 (.gd 1 (0 ≤ (3 : Int) ∧ (3 : Int) < (9 : Int)) (by decide) <| .ret 3 3) (.sp 0 19 a0 4 (.gd 1 (0 ≤ (4 : Int) ∧ (4 : Int) < (9 : Int)) (by decide) <| .ret 3 4) (.sp 0 19 a0 5 (.gd 1 (0 ≤ (5 : Int) ∧ (5 : Int) < (9 : Int)) (by decide) <| .ret 3 5) (.sp 0 19 a0 6 (.gd 1 (0 ≤ (6 : Int) ∧ (6 : Int) < (9 : Int)) (by decide) <| .ret 3 6) (.sp 0 19 a0 7 (.gd 1 (0 ≤ (7 : Int) ∧ (7 : Int) < (9 : Int)) (by decide) <| .ret 3 7) (.sp 0 19 a0 8 (.gd 1 (0 ≤ (8 : Int) ∧ (8 : Int) < (9 : Int)) (by decide) <| .ret 3 8) (.no))))))))))
def G38 (a0 : Int) : Option (Nat) := (T38 a0).den
theorem G38_ok (a0 : Int) : Con Tryz.prog 64 [tI a0] (G38 a0) (fun (y : Nat) => V38 y) := con Tryz.func64 ti_ok (T38 a0)
def T37 (a0 : GNode) : TP (Bool) := .cas 4 (G38_ok a0.Op) 9 fun r1 => match r1 with | 0 => .ret 14 false | 1 => .ca 11 (G91_ok a0) fun r2 => .ret 2 r2 | 2 => .ca 11 (G91_ok a0) fun r3 => .ret 2 r3 | 3 => .ca 11 (G91_ok a0) fun r4 => .ret 2 r4 | 4 => .ca 11 (G93_ok a0) fun r5 => .ret 2 r5 | 5 => .ca 11 (G95_ok a0) fun r6 => .ret 2 r6 | 6 => .ca 11 (G98_ok a0) fun r7 => .ret 2 r7 | 7 => .ca 11 (G100_ok a0) fun r8 => .ret 2 r8 | 8 => .ca 11 (G102_ok a0) fun r9 => .ret 2 r9 | _ => .no
def G37 (a0 : GNode) : Option (Bool) := (T37 a0).den
theorem G37_ok (a0 : GNode) : Con Tryz.prog 63 [.t (eGNode a0)] (G37 a0) (fun (y : Bool) => tB y) := con Tryz.func63 ti_ok (T37 a0)
def T10 (a0 : GNode) : TP (Int × Int) := .ca 4 (G37_ok a0) fun r1 => .ite 1 (!r1) (.ret 2 (0, 0)) (.cas 2 (G38_ok a0.Op) 9 fun r2 => match r2 with | 0 => .no | 1 => .ca 9 (G92_ok a0) fun r3 => .ret 4 (r3.1, r3.2) | 2 => .ca 9 (G92_ok a0) fun r4 => .ret 4 (r4.1, r4.2) | 3 => .ca 9 (G92_ok a0) fun r5 => .ret 4 (r5.1, r5.2) | 4 => .ca 9 (G94_ok a0) fun r6 => .ret 4 (r6.1, r6.2) | 5 => .ca 9 (G94_ok a0) fun r7 => .ret 4 (r7.1, r7.2) | 6 => .ca 9 (G99_ok a0) fun r8 => .ret 4 (r8.1, r8.2) | 7 => .ca 9 (G101_ok a0) fun r9 => .ret 4 (r9.1, r9.2) | 8 => .ca 9 (G103_ok a0) fun r10 => .ret 4 (r10.1, r10.2) | _ => .no)
def G10 (a0 : GNode) : Option (Int × Int) := (T10 a0).den
theorem G10_ok (a0 : GNode) : Con Tryz.prog 17 [.t (eGNode a0)] (G10 a0) (fun (y : Int × Int) => .tup [tI y.1, tI y.2]) := con Tryz.func17 ti_ok (T10 a0)
def T40s1 (a0 : GDelta) (h30001_0 : Int) : TP (Bool) := .ret 7 (decide (a0.Time ≤ h30001_0))
def G40s1 (a0 : GDelta) (h30001_0 : Int) : Option (Bool) := (T40s1 a0 h30001_0).den
theorem G40s1_ok (a0 : GDelta) (h30001_0 : Int) : ConH Tryz.prog 73 [.t (eGDelta a0), .ptr 30001 0] [(30001, .box (([.int .i64 (h30001_0)]).map .t))] [30001] (G40s1 a0 h30001_0) (fun (y : Bool) => tB y) (fun (y : Bool) => [(30001, .box (([.int .i64 (h30001_0)]).map .t))]) := conH Tryz.func73 ti_ok (T40s1 a0 h30001_0)
def T105s1_L0 (h30000 : LD) (h30001_0 : Int) : Int → TP ((Int) ⊕ ((Unit) ⊕ (Int)))
 | v1 => .ite 1 (decide (v1 < ((h30000.length : Int)))) (.grd 6 (0 ≤ v1 ∧ v1 < (h30000.length : Int)) <| .grd 1 ((v1).toNat < h30000.length) <| .ch 0 [] (G40s1_ok (h30000.getD (v1).toNat default) h30001_0) fun r2 => .ite 0 (r2) (.ret 2 (.inr (.inr v1))) (.ret 2 (.inl (IntKind.i64.wrap (v1 + 1))))) (.ret 0 (.inr (.inl ())))
def T105s1 (h30000 : LD) (h30001_0 : Int) : TP (Int) := .lp 4 (fun (v1 : Int) => (⟨[(0, .own 30000), (1, .fn (.func 73) 0 [.ptr 30001 0]), (7, tI ((h30000.length : Int))), (8, tI v1)], [(30000, aD h30000), (30001, .box (([.int .i64 (h30001_0)]).map .t))]⟩ : St)) (fun (_ : Unit) => (⟨[], [(30000, aD h30000), (30001, .box (([.int .i64 (h30001_0)]).map .t))]⟩ : St)) 0 0 (T105s1_L0 h30000 h30001_0) fun _ => .ret 1 (-1)
def G105s1 (h30000 : LD) (h30001_0 : Int) : Option (Int) := (T105s1 h30000 h30001_0).den
theorem G105s1_ok (h30000 : LD) (h30001_0 : Int) : ConH Tryz.prog 165 [.own 30000, .fn (.func 73) 0 [.ptr 30001 0]] [(30000, aD h30000), (30001, .box (([.int .i64 (h30001_0)]).map .t))] [30000, 30001] (G105s1 h30000 h30001_0) (fun (y : Int) => tI y) (fun (y : Int) => [(30000, aD h30000), (30001, .box (([.int .i64 (h30001_0)]).map .t))]) := conH Tryz.func165 ti_ok (T105s1 h30000 h30001_0)
def T41s2_L0 (h30001_0 : Int) : (LD × Int × Int) → TP ((LD × Int × Int) ⊕ ((LD × Int) ⊕ (LD)))
 | (v2, v3, v4) => .ite 4 (decide (v4 < ((v2.length : Int)))) (.grd 3 (0 ≤ v4 ∧ v4 < (v2.length : Int)) <| .grd 1 ((v4).toNat < v2.length) <| .ch 4 [] (G40s1_ok (v2.getD (v4).toNat default) h30001_0) fun r7 => .jn 1 0 (fun (s : LD × Int) => match s with | (j8, j9) => (⟨[(0, .own 0), (1, .fn (.func 73) 0 [.ptr 30001 0]), (5, tI j9), (6, tI v4)], [(0, aD j8), (30001, .box (([.int .i64 (h30001_0)]).map .t))]⟩ : St)) (.ite 0 (!r7) (.grd 4 (0 ≤ v3 ∧ v3 < (v2.length : Int)) <| .grd 1 ((v3).toNat < v2.length) <| .sto 0 0 cGDelta v2 [((v3).toNat, v2.getD (v4).toNat default)] <| .ret 3 (v2.set (v3).toNat (v2.getD (v4).toNat default), IntKind.i64.wrap (v3 + 1))) (.ret 0 (v2, v3))) fun (j8, j9) => .ret 3 (.inl (j8, j9, IntKind.i64.wrap (v4 + 1)))) (.ret 0 (.inr (.inl (v2, v3))))
def T41s2 (h30000 : LD) (h30001_0 : Int) : TP (LD) := .ch 3 [] (G105s1_ok h30000 h30001_0) fun r1 => .ite 3 (r1 == ((-1))) (.cv 2 [.fr 30000 (eL cGDelta (h30000))] <| .ret 0 h30000) (.cv 3 [.rn 30000 0] <| .lp 0 (fun (s : LD × Int × Int) => match s with | (v2, v3, v4) => (⟨[(0, .own 0), (1, .fn (.func 73) 0 [.ptr 30001 0]), (5, tI v3), (6, tI v4)], [(0, aD v2), (30001, .box (([.int .i64 (h30001_0)]).map .t))]⟩ : St)) (fun (s : LD × Int) => match s with | (b5, b6) => (⟨[(0, .own 0), (5, tI b6)], [(0, aD b5), (30001, .box (([.int .i64 (h30001_0)]).map .t))]⟩ : St)) 0 (h30000, r1, IntKind.i64.wrap (r1 + 1)) (T41s2_L0 h30001_0) fun (b5, b6) => .clr 2 cGDelta b5 b6 <| .cut 2 cGDelta (b5.take b6.toNat ++ List.replicate (b5.length - b6.toNat) default) b6 <| .cv 1 [.fr 41 (eL cGDelta ((b5.take b6.toNat ++ List.replicate (b5.length - b6.toNat) default).take b6.toNat))] <| .ret 0 ((b5.take b6.toNat ++ List.replicate (b5.length - b6.toNat) default).take b6.toNat))
def G41s2 (h30000 : LD) (h30001_0 : Int) : Option (LD) := (T41s2 h30000 h30001_0).den
theorem G41s2_ok (h30000 : LD) (h30001_0 : Int) : ConH Tryz.prog 74 [.own 30000, .fn (.func 73) 0 [.ptr 30001 0]] [(30000, aD h30000), (30001, .box (([.int .i64 (h30001_0)]).map .t))] [30001] (G41s2 h30000 h30001_0) (fun (y : LD) => tD y) (fun (y : LD) => [(30001, .box (([.int .i64 (h30001_0)]).map .t))]) := conH Tryz.func74 ti_ok (T41s2 h30000 h30001_0)
def T14 (a0 : LD) (a1 : Int) : TP (LD) := .ch 5 [40000] (G42s0_ok a0) fun r1 => .cv 0 [.rn 40000 8] <| .cv 1 [.rn 8 30000] <| .cv 0 [.rn 3 30001] <| .ch 0 [] (G41s2_ok r1 a1) fun r2 => .ch 0 [40000] (G27s0_ok r2) fun r3 => .cv 0 [.rn 40000 11] <| .cv 1 [.fr 11 (eL cGDelta (r3))] <| .ret 0 r3
def G14 (a0 : LD) (a1 : Int) : Option (LD) := (T14 a0 a1).den
theorem G14_ok (a0 : LD) (a1 : Int) : Con Tryz.prog 22 [tD a0, tI a1] (G14 a0 a1) (fun (y : LD) => tD y) := con Tryz.func22 ti_ok (T14 a0 a1)
def T32s0_L1 (a1 : Int) (h30000_0 : GNode) (r1 : Int × Int) (v2 : List ByteArray) (v3 : LS) (k6 : ByteArray) : (LD × LD × Int) → TP ((LD × LD × Int) ⊕ ((LD × LD) ⊕ (((List ByteArray) × (LS)) ⊕ (((List ByteArray) × (LS)) ⊕ ((LS) × Int)))))
 | (v8, v9, v10) => .ite 1 (decide (v10 < 2)) (.jn 2 0 (fun (s : LD × LD) => match s with | (j13, j14) => (⟨[(0, .ptr 30000 0), (1, tI a1), (4, tI r1.1), (6, .t (.str (k6))), (7, .ptr 32 0), (31, .ptr 31 0), (37, tI v10)], [(32, .box [tD j13, tD j14]), (30000, bOp h30000_0 30001 a1), (30001, .mp (some ⟨31, kTs (kerase v2 k6 : List ByteArray), some (.str (k6))⟩) (eM mS (mdel v3 k6 : LS)) (some (.str (k6), some (.ptr 32 0))))]⟩ : St)) (.sp 0 8 v10 0 (.dg 6 (0 ≤ (0 : Int) ∧ (0 : Int) < (2 : Int)) <| .dc 11 [tD v8, tI (IntKind.i64.wrap (a1 - r1.1))] (G14_ok v8 (IntKind.i64.wrap (a1 - r1.1))) fun r15 => .dg 14 (0 ≤ (0 : Int) ∧ (0 : Int) < (2 : Int)) <| .dr 0 0 [(32, false, [15]), (30000, false, []), (30001, false, [])] [0, 1, 4, 6, 7, 8, 31, 37, 38, 39] <| .ret 0 (r15, v9)) (.sp 0 8 v10 1 (.dg 6 (0 ≤ (1 : Int) ∧ (1 : Int) < (2 : Int)) <| .dc 11 [tD v9, tI (IntKind.i64.wrap (a1 - r1.1))] (G14_ok v9 (IntKind.i64.wrap (a1 - r1.1))) fun r16 => .dg 14 (0 ≤ (1 : Int) ∧ (1 : Int) < (2 : Int)) <| .dr 0 0 [(32, false, [15]), (30000, false, []), (30001, false, [])] [0, 1, 4, 6, 7, 8, 31, 37, 38, 39] <| .ret 0 (v8, r16)) (.no))) fun (j13, j14) => .ret 2 (.inl (j13, j14, IntKind.i64.wrap (v10 + 1)))) (.ret 0 (.inr (.inl (v8, v9))))
def T32s0_L0 (a1 : Int) (h30000_0 : GNode) (r1 : Int × Int) : ((List ByteArray) × (LS)) → TP (((List ByteArray) × (LS)) ⊕ (((List ByteArray) × (LS)) ⊕ ((LS) × Int)))
 | (v2, v3) => .nxb 0 cGSide (v3 : LS) (v2 : List ByteArray) (.ret 2 (.inr (.inl (v2, v3)))) fun k6 c7 => .gd 3 ((.str (k6) : T) = .str (k6)) rfl <| .lp 5 (fun (s : LD × LD × Int) => match s with | (v8, v9, v10) => (⟨[(0, .ptr 30000 0), (1, tI a1), (4, tI r1.1), (6, .t (.str (k6))), (7, .ptr 32 0), (31, .ptr 31 0), (37, tI v10)], [(32, .box [tD v8, tD v9]), (30000, bOp h30000_0 30001 a1), (30001, .mp (some ⟨31, kTs (kerase v2 k6 : List ByteArray), some (.str (k6))⟩) (eM mS (mdel v3 k6 : LS)) (some (.str (k6), some (.ptr 32 0))))]⟩ : St)) (fun (s : LD × LD) => match s with | (b11, b12) => (⟨[(0, .ptr 30000 0), (1, tI a1), (4, tI r1.1), (6, .t (.str (k6))), (7, .ptr 32 0), (31, .ptr 31 0)], [(32, .box [tD b11, tD b12]), (30000, bOp h30000_0 30001 a1), (30001, .mp (some ⟨31, kTs (kerase v2 k6 : List ByteArray), some (.str (k6))⟩) (eM mS (mdel v3 k6 : LS)) (some (.str (k6), some (.ptr 32 0))))]⟩ : St)) 2 (c7.rows_.e0, c7.rows_.e1, 0) (T32s0_L1 a1 h30000_0 r1 v2 v3 k6) fun (b11, b12) => .dg 3 (0 ≤ (0 : Int) ∧ (0 : Int) < (2 : Int)) <| .dg 9 (0 ≤ (1 : Int) ∧ (1 : Int) < (2 : Int)) <| .dr 0 0 [(32, false, []), (30000, false, []), (30001, false, [])] [0, 1, 4, 6, 7, 31] <| .jn 0 0 (fun (j17 : (LS)) => (⟨[(0, .ptr 30000 0), (1, tI a1), (4, tI r1.1), (31, .ptr 31 0)], [(30000, bOp h30000_0 30001 a1), (30001, .mp (some ⟨31, kTs (kerase v2 k6 : List ByteArray), none⟩) (eM mS (j17 : LS)) none)]⟩ : St)) (.ite 0 ((IntKind.i64.wrap (((b11.length : Int)) + ((b12.length : Int)))) == 0) (.dlt 5 mS (mdel v3 k6 : LS) k6 (some (.ptr 32 0)) <| .ret 0 (mdel v3 k6)) (.cv 0 [.fb 30001 32 cGSide (v3 : LS) k6 ((GSide.mk ((A2_ListGDelta.mk b11 b12)))), .nc 30001] <| .ret 0 (mput v3 k6 ((GSide.mk ((A2_ListGDelta.mk b11 b12))) : GSide)))) fun j17 => .ret 0 (.inl (kerase v2 k6, j17))
def T32s0 (a1 : Int) (h30000_0 : GNode) (h30000_1 : Int) (h30001 : LS) : TP ((LS) × Int) := .ite 6 (decide (a1 ≤ h30000_1)) (.ret 0 (h30001, h30000_1)) (.ca 9 (G10_ok h30000_0) fun r1 => .rng 9 mS (h30001 : LS) <| .lp 0 (fun (s : (List ByteArray) × (LS)) => match s with | (v2, v3) => (⟨[(0, .ptr 30000 0), (1, tI a1), (4, tI r1.1), (31, .ptr 31 0)], [(30000, bOp h30000_0 30001 a1), (30001, .mp (some ⟨31, kTs (v2 : List ByteArray), none⟩) (eM mS (v3 : LS)) none)]⟩ : St)) (fun (s : (List ByteArray) × (LS)) => match s with | (b4, b5) => (⟨[], [(30000, bOp h30000_0 30001 a1), (30001, .mp (some ⟨31, kTs (b4 : List ByteArray), none⟩) (eM mS (b5 : LS)) none)]⟩ : St)) 0 (mkeys h30001, h30001) (T32s0_L0 a1 h30000_0 r1) fun (b4, b5) => .cv 0 [.ni 30001] <| .ret 0 (b5, a1))
def G32s0 (a1 : Int) (h30000_0 : GNode) (h30000_1 : Int) (h30001 : LS) : Option ((LS) × Int) := Det (T32s0 a1 h30000_0 h30000_1 h30001)
theorem G32s0_ok (a1 : Int) (h30000_0 : GNode) (h30000_1 : Int) (h30001 : LS) : ConH Tryz.prog 124 [.ptr 30000 0, tI a1] [(30000, bOp h30000_0 30001 h30000_1), (30001, mM (h30001 : LS))] [30000, 30001] (G32s0 a1 h30000_0 h30000_1 h30001) (fun (y : (LS) × Int) => .tup []) (fun (y : (LS) × Int) => [(30000, bOp h30000_0 30001 y.2), (30001, mM (y.1 : LS))]) := conHD Tryz.func124 ti_ok (T32s0 a1 h30000_0 h30000_1 h30001)
def T13_L0 (a0 : LD) : (Int × Int) → TP ((Int × Int) ⊕ ((Int) ⊕ (Int)))
 | (v1, v2) => .ite 1 (decide (v2 < ((a0.length : Int)))) (.grd 1 (0 ≤ v2 ∧ v2 < (a0.length : Int)) <| .ret 10 (.inl (IntKind.i64.wrap (v1 + ((a0.getD (v2).toNat default).N)), IntKind.i64.wrap (v2 + 1)))) (.ret 0 (.inr (.inl v1)))
def T13 (a0 : LD) : TP (Int) := .lp 5 (fun (s : Int × Int) => match s with | (v1, v2) => (⟨[(3, tI v1), (6, tD a0), (7, tI ((a0.length : Int))), (8, tI v2)], []⟩ : St)) (fun (b3 : Int) => (⟨[(3, tI b3)], []⟩ : St)) 0 (0, 0) (T13_L0 a0) fun b3 => .ret 2 b3
def G13 (a0 : LD) : Option (Int) := (T13 a0).den
theorem G13_ok (a0 : LD) : Con Tryz.prog 24 [tD a0] (G13 a0) (fun (y : Int) => tI y) := con Tryz.func24 ti_ok (T13 a0)
def T15s0_L0 : ((List ByteArray) × (LS) × Int) → TP (((List ByteArray) × (LS) × Int) ⊕ (((List ByteArray) × (LS) × Int) ⊕ (Int × (LS))))
 | (v1, v2, v3) => .nxb 0 cGSide (v2 : LS) (v1 : List ByteArray) (.ret 2 (.inr (.inl (v1, v2, v3)))) fun k7 c8 => .gd 3 ((.str (k7) : T) = .str (k7)) rfl <| .dg 4 (0 ≤ (0 : Int) ∧ (0 : Int) < (2 : Int)) <| .dc 6 [tD c8.rows_.e0] (G13_ok c8.rows_.e0) fun r9 => .dg 10 (0 ≤ (1 : Int) ∧ (1 : Int) < (2 : Int)) <| .dc 12 [tD c8.rows_.e1] (G13_ok c8.rows_.e1) fun r10 => .dr 2 0 [(11, false, []), (30000, false, []), (30001, false, [])] [3, 5, 10, 11, 12, 13, 14] <| .cv 0 [.fb 30001 11 cGSide (v2 : LS) k7 c8, .nc 30001] <| .ret 0 (.inl (kerase v1 k7, mput v2 k7 (c8 : GSide), IntKind.i64.wrap (v3 + (IntKind.i64.wrap (r9 + r10)))))
def T15s0 (h30000_0 : GNode) (h30000_1 : Int) (h30001 : LS) : TP (Int × (LS)) := .rng 6 mS (h30001 : LS) <| .lp 0 (fun (s : (List ByteArray) × (LS) × Int) => match s with | (v1, v2, v3) => (⟨[(3, tI v3), (10, .ptr 10 0)], [(30000, bOp h30000_0 30001 h30000_1), (30001, .mp (some ⟨10, kTs (v1 : List ByteArray), none⟩) (eM mS (v2 : LS)) none)]⟩ : St)) (fun (s : (List ByteArray) × (LS) × Int) => match s with | (b4, b5, b6) => (⟨[(3, tI b6)], [(30000, bOp h30000_0 30001 h30000_1), (30001, .mp (some ⟨10, kTs (b4 : List ByteArray), none⟩) (eM mS (b5 : LS)) none)]⟩ : St)) 0 (mkeys h30001, h30001, 0) T15s0_L0 fun (b4, b5, b6) => .cv 2 [.ni 30001] <| .ret 0 (b6, b5)
def G15s0 (h30000_0 : GNode) (h30000_1 : Int) (h30001 : LS) : Option (Int × (LS)) := Det (T15s0 h30000_0 h30000_1 h30001)
theorem G15s0_ok (h30000_0 : GNode) (h30000_1 : Int) (h30001 : LS) : ConH Tryz.prog 125 [.ptr 30000 0] [(30000, bOp h30000_0 30001 h30000_1), (30001, mM (h30001 : LS))] [30000, 30001] (G15s0 h30000_0 h30000_1 h30001) (fun (y : Int × (LS)) => tI y.1) (fun (y : Int × (LS)) => [(30000, bOp h30000_0 30001 h30000_1), (30001, mM (y.2 : LS))]) := conHD Tryz.func125 ti_ok (T15s0 h30000_0 h30000_1 h30001)
def T16s0 (h30000_0 : GNode) (h30000_1 : Int) (h30001 : LS) : TP (Bool) := .mlen 5 mS (h30001 : LS) <| .ret 2 (((h30001.length : Int)) == 0)
def G16s0 (h30000_0 : GNode) (h30000_1 : Int) (h30001 : LS) : Option (Bool) := (T16s0 h30000_0 h30000_1 h30001).den
theorem G16s0_ok (h30000_0 : GNode) (h30000_1 : Int) (h30001 : LS) : ConH Tryz.prog 126 [.ptr 30000 0] [(30000, bOp h30000_0 30001 h30000_1), (30001, mM (h30001 : LS))] [30000, 30001] (G16s0 h30000_0 h30000_1 h30001) (fun (y : Bool) => tB y) (fun (y : Bool) => [(30000, bOp h30000_0 30001 h30000_1), (30001, mM (h30001 : LS))]) := conH Tryz.func126 ti_ok (T16s0 h30000_0 h30000_1 h30001)
def T36 (a0 : List Int) : TP ((List Int)) := .jn 2 0 (fun (j1 : Bool) => (⟨[(0, .t (eL cInt (a0))), (4, tB j1)], []⟩ : St)) (.ndb 0 a0.length (.ret 0 true) (.ret 0 false)) fun j1 => .ite 0 (j1) (.cv 1 [.sl 2 (eL cInt (([] : List Int)))] <| .ret 0 ([] : List Int)) (.bs 0 true cInt ([] : List Int) <| .grd 2 (((([] : List Int)).length + a0.length) * 8 ≤ 140737488355328) <| .cv 0 [.ap 7 cInt (([] : List Int)) a0] <| .cv 1 [.fr 7 (eL cInt ((([] : List Int)) ++ a0))] <| .ret 0 ((([] : List Int)) ++ a0))
def G36 (a0 : List Int) : Option ((List Int)) := Det (T36 a0)
theorem G36_ok (a0 : List Int) : Con Tryz.prog 128 [.t (eL cInt (a0))] (G36 a0) (fun (y : (List Int)) => .t (eL cInt (y))) := conD Tryz.func128 ti_ok (T36 a0)
def T9s0 (a0 : GNode) : TP (GNode × Int × (LS)) := .dc 2 [.t (eL cInt (a0.Key))] (G36_ok a0.Key) fun r1 => .dc 5 [.t (eL cInt (a0.Key2))] (G36_ok a0.Key2) fun r2 => .dr 2 0 [(1, false, [7, 9])] [0, 1, 2] <| .mk (K := ByteArray) 1 mS <| .cv 3 [.rn 14 40000, .rn 12 41001] <| .ret 0 ((GNode.mk a0.Op a0.In a0.Source a0.Schema a0.Exprs a0.Kind a0.Size a0.Step r1 r2 a0.Before a0.After a0.Keep a0.Aggs a0.Seq a0.Cols), (-1), ([] : LS))
def G9s0 (a0 : GNode) : Option (GNode × Int × (LS)) := (T9s0 a0).den
theorem G9s0_ok (a0 : GNode) : ConH Tryz.prog 52 [.t (eGNode a0)] [] [] (G9s0 a0) (fun (y : GNode × Int × (LS)) => .ptr 40000 0) (fun (y : GNode × Int × (LS)) => [(40000, bOp y.1 41001 y.2.1), (41001, mM (y.2.2 : LS))]) := conH Tryz.func52 ti_ok (T9s0 a0)
def T7 : TP (Bool) := .bs 1 false cInt ([0] : List Int) <| .bs 0 false cInt ([0] : List Int) <| .cv 1 [.sl 7 (eGNode ((GNode.mk 6 (([] : List Int)) (⟨#[]⟩) 0 (([] : List Expr)) 0 0 0 (([0] : List Int)) (([0] : List Int)) 2 5 0 (([] : List GAgg)) (([] : List GPat)) (([] : List GCol)))))] <| .ch 0 [40000, 41001] (G9s0_ok ((GNode.mk 6 (([] : List Int)) (⟨#[]⟩) 0 (([] : List Expr)) 0 0 0 (([0] : List Int)) (([0] : List Int)) 2 5 0 (([] : List GAgg)) (([] : List GPat)) (([] : List GCol))))) fun r1 => .cv 0 [.rn 40000 8, .rn 41001 15801] <| .ca 5 (G31_ok 3 1) fun r2 => .bs 0 false cGDelta ([r2] : LD) <| .cv 0 [.rn 8 30000] <| .cv 0 [.rn 15801 30001] <| .ch 0 [] (G25s0_ok 0 (([r2] : LD)) r1.1 r1.2.1 r1.2.2) fun r3 => .ca 2 (G31_ok 8 1) fun r4 => .ca 0 (G31_ok 9 1) fun r5 => .bs 0 false cGDelta ([r4, r5] : LD) <| .ch 0 [] (G25s0_ok 1 (([r4, r5] : LD)) r1.1 r1.2.1 r3.2) fun r6 => .ca 2 (G31_ok 3 ((-1))) fun r7 => .bs 0 false cGDelta ([r7] : LD) <| .ch 0 [] (G25s0_ok 0 (([r7] : LD)) r1.1 r1.2.1 r6.2) fun r8 => .ch 2 [] (G32s0_ok 13 r1.1 r1.2.1 r8.2) fun r9 => .jn 4 0 (fun (j10 : Bool) => (⟨[(1, .ptr 30000 0), (3, tD r6.1), (4, tD r8.1), (38, tB j10)], [(30000, bOp r1.1 30001 r9.2), (30001, mM (r9.1 : LS))]⟩ : St)) (.ite 0 (((r3.1.length : Int)) != 0) (.ret 9 true) (.ite 5 (((r6.1.length : Int)) != 1) (.ret 4 true) (.ret 4 (((r8.1.length : Int)) != 1)))) fun j10 => .ite 0 (j10) (.ret 1 false) (.grd 2 (0 ≤ ((0 : Int)) ∧ ((0 : Int)) < (r6.1.length : Int)) <| .jn 4 0 (fun (j11 : Bool) => (⟨[(0, tB j11)], []⟩ : St)) (.ite 0 (((r6.1.getD ((0 : Int)).toNat default).Time) == 8) (.grd 2 (0 ≤ ((0 : Int)) ∧ ((0 : Int)) < (r6.1.length : Int)) <| .ite 5 (((r6.1.getD ((0 : Int)).toNat default).N) == 1) (.grd 2 (0 ≤ ((0 : Int)) ∧ ((0 : Int)) < (r6.1.length : Int)) <| .ite 6 (((((r6.1.getD ((0 : Int)).toNat default).Row).length : Int)) == 2) (.grd 2 (0 ≤ ((0 : Int)) ∧ ((0 : Int)) < (r8.1.length : Int)) <| .ite 5 (((r8.1.getD ((0 : Int)).toNat default).Time) == 8) (.grd 2 (0 ≤ ((0 : Int)) ∧ ((0 : Int)) < (r8.1.length : Int)) <| .ite 5 (((r8.1.getD ((0 : Int)).toNat default).N) == ((-1))) (.ch 1 [] (G15s0_ok r1.1 r9.2 r9.1) fun r12 => .ite 3 (r12.1 == 1) (.ch 1 [] (G16s0_ok r1.1 r9.2 r12.2) fun r13 => .ret 3 (!r13)) (.ret 5 false)) (.ret 10 false)) (.ret 17 false)) (.ret 24 false)) (.ret 32 false)) (.ret 39 false)) fun j11 => .ret 0 j11)
def G7 : Option (Bool) := (T7).den
theorem G7_ok : Con Tryz.prog 50 [] (G7) (fun (y : Bool) => tB y) := con Tryz.func50 ti_ok (T7)
def T159 (a0 : GValue) (a1 : GValue) : TP (Int) := .ite 8 (decide (a0.Kind < a1.Kind)) (.ret 1 (-1)) (.ite 5 (decide (a0.Kind > a1.Kind)) (.ret 1 1) (.ite 5 (decide (a0.N < a1.N)) (.ret 1 (-1)) (.ite 5 (decide (a0.N > a1.N)) (.ret 1 1) (.ite 5 (Op.bytesLess (a0.S : ByteArray).toList (a1.S : ByteArray).toList) (.ret 1 (-1)) (.ite 5 (!(Op.bytesLess (a0.S : ByteArray).toList (a1.S : ByteArray).toList || (a0.S : ByteArray).toList == (a1.S : ByteArray).toList)) (.ret 1 1) (.ret 1 0))))))
def G159 (a0 : GValue) (a1 : GValue) : Option (Int) := (T159 a0 a1).den
theorem G159_ok (a0 : GValue) (a1 : GValue) : Con Tryz.prog 77 [.t (eGValue a0), .t (eGValue a1)] (G159 a0 a1) (fun (y : Int) => tI y) := con Tryz.func77 ti_ok (T159 a0 a1)
def T116_L0 (a0 : List GValue) (a1 : List GValue) : Int → TP ((Int) ⊕ ((Unit) ⊕ (Int)))
 | v1 => .jn 5 0 (fun (j2 : Bool) => (⟨[(0, tV a0), (1, tV a1), (5, tI v1), (16, tB j2)], []⟩ : St)) (.ite 0 (decide (v1 < ((a0.length : Int)))) (.ret 5 (decide (v1 < ((a1.length : Int))))) (.ret 5 false)) fun j2 => .ite 0 (j2) (.dg 2 (0 ≤ v1 ∧ v1 < (a0.length : Int)) <| .dg 6 (0 ≤ v1 ∧ v1 < (a1.length : Int)) <| .dc 8 [.t (eGValue (a0.getD (v1).toNat default)), .t (eGValue (a1.getD (v1).toNat default))] (G159_ok (a0.getD (v1).toNat default) (a1.getD (v1).toNat default)) fun r3 => .dr 0 0 [] [0, 1, 5, 16] <| .ite 2 (r3 != 0) (.ret 2 (.inr (.inr r3))) (.ret 3 (.inl (IntKind.i64.wrap (v1 + 1))))) (.ret 0 (.inr (.inl ())))
def T116 (a0 : List GValue) (a1 : List GValue) : TP (Int) := .lp 2 (fun (v1 : Int) => (⟨[(0, tV a0), (1, tV a1), (5, tI v1)], []⟩ : St)) (fun (_ : Unit) => (⟨[(0, tV a0), (1, tV a1)], []⟩ : St)) 0 0 (T116_L0 a0 a1) fun _ => .ite 5 (decide (((a0.length : Int)) < ((a1.length : Int)))) (.ret 1 (-1)) (.ite 5 (decide (((a0.length : Int)) > ((a1.length : Int)))) (.ret 1 1) (.ret 1 0))
def G116 (a0 : List GValue) (a1 : List GValue) : Option (Int) := (T116 a0 a1).den
theorem G116_ok (a0 : List GValue) (a1 : List GValue) : Con Tryz.prog 102 [tV a0, tV a1] (G116 a0 a1) (fun (y : Int) => tI y) := con Tryz.func102 ti_ok (T116 a0 a1)
def T49 (a0 : GDelta) (a1 : GDelta) : TP (Int) := .ite 8 (decide (a0.Time < a1.Time)) (.ret 1 (-1)) (.ite 5 (decide (a0.Time > a1.Time)) (.ret 1 1) (.ca 4 (G116_ok a0.Row a1.Row) fun r1 => .ret 1 r1))
def G49 (a0 : GDelta) (a1 : GDelta) : Option (Int) := (T49 a0 a1).den
theorem G49_ok (a0 : GDelta) (a1 : GDelta) : Con Tryz.prog 105 [.t (eGDelta a0), .t (eGDelta a1)] (G49 a0 a1) (fun (y : Int) => tI y) := con Tryz.func105 ti_ok (T49 a0 a1)
def T115 (a0 : GDelta) (a1 : Int) : TP (GDelta) := .dg 5 ((0 + a0.Row.length) * 32 ≤ 140737488355328) <| .dr 2 0 [(7, true, [2, 5]), (10, true, [5]), (2, false, []), (4, false, [8])] [0, 1, 2, 4] <| .cv 0 [.fr 10 (eL cGValue (a0.Row))] <| .ret 0 (GDelta.mk a0.Time a0.Row a1)
def G115 (a0 : GDelta) (a1 : Int) : Option (GDelta) := (T115 a0 a1).den
theorem G115_ok (a0 : GDelta) (a1 : Int) : Con Tryz.prog 194 [.t (eGDelta a0), tI a1] (G115 a0 a1) (fun (y : GDelta) => .t (eGDelta y)) := con Tryz.func194 ti_ok (T115 a0 a1)
abbrev R154 := {f : (LD) → Option (LD) // ∀ a : LD, Con Tryz.prog 250 [tD a] (f a) (fun (y : LD) => tD y)}
def T154_L0 (r1 : LD) (r2 : LD) : (LD × Int × Int) → TP ((LD × Int × Int) ⊕ ((LD) ⊕ (LD)))
 | (v3, v4, v5) => .jn 5 0 (fun (s : LD × Bool) => match s with | (j7, j8) => (⟨[(3, tD r1), (4, tD r2), (5, .own 5), (6, tI v4), (7, tI v5), (34, tB j8)], [(5, aD j7)]⟩ : St)) (.ite 0 (decide (v4 < ((r1.length : Int)))) (.ret 5 (v3, true)) (.ret 5 (v3, decide (v5 < ((r2.length : Int)))))) fun (j7, j8) => .ite 0 (j8) (.jn 10 0 (fun (s : LD × Bool) => match s with | (j9, j10) => (⟨[(3, tD r1), (4, tD r2), (5, .own 5), (6, tI v4), (7, tI v5), (8, tB (decide (v5 ≥ ((r2.length : Int))))), (48, tB j10)], [(5, aD j9)]⟩ : St)) (.ite 0 (decide (v4 < ((r1.length : Int)))) (.ret 5 (j7, decide (v5 < ((r2.length : Int))))) (.ret 5 (j7, false))) fun (j9, j10) => .jn 0 0 (fun (s : LD × Bool) => match s with | (j11, j12) => (⟨[(3, tD r1), (4, tD r2), (5, .own 5), (6, tI v4), (7, tI v5), (8, tB j12)], [(5, aD j11)]⟩ : St)) (.ite 0 (j10) (.dg 2 (0 ≤ v4 ∧ v4 < (r1.length : Int)) <| .dg 6 (0 ≤ v5 ∧ v5 < (r2.length : Int)) <| .dc 8 [.t (eGDelta (r1.getD (v4).toNat default)), .t (eGDelta (r2.getD (v5).toNat default))] (G49_ok (r1.getD (v4).toNat default) (r2.getD (v5).toNat default)) fun r13 => .dr 0 0 [(5, false, [])] [3, 4, 5, 6, 7, 48] <| .ret 0 (j9, decide (r13 ≤ 0))) (.ret 0 (j9, decide (v5 ≥ ((r2.length : Int)))))) fun (j11, j12) => .jn 1 0 (fun (s : LD × Int × Int) => match s with | (j14, j15, j16) => (⟨[(3, tD r1), (4, tD r2), (5, .own 5), (6, tI j15), (7, tI j16)], [(5, aD j14)]⟩ : St)) (.ite 0 (j12) (.grd 4 (0 ≤ v4 ∧ v4 < (r1.length : Int)) <| .bs 1 false cGDelta ([r1.getD (v4).toNat default] : LD) <| .grd 1 ((j11.length + (([r1.getD (v4).toNat default] : LD)).length) * 40 ≤ 140737488355328) <| .cv 0 [.ap 66 cGDelta j11 (([r1.getD (v4).toNat default] : LD))] <| .cv 4 [.rn 66 5] <| .ret 0 (j11 ++ (([r1.getD (v4).toNat default] : LD)), IntKind.i64.wrap (v4 + 1), v5)) (.grd 4 (0 ≤ v5 ∧ v5 < (r2.length : Int)) <| .bs 1 false cGDelta ([r2.getD (v5).toNat default] : LD) <| .grd 1 ((j11.length + (([r2.getD (v5).toNat default] : LD)).length) * 40 ≤ 140737488355328) <| .cv 0 [.ap 75 cGDelta j11 (([r2.getD (v5).toNat default] : LD))] <| .cv 4 [.rn 75 5] <| .ret 0 (j11 ++ (([r2.getD (v5).toNat default] : LD)), v4, IntKind.i64.wrap (v5 + 1)))) fun (j14, j15, j16) => .ret 0 (.inl (j14, j15, j16))) (.ret 0 (.inr (.inl j7)))
def T154 (rec : R154) (a0 : LD) : TP (LD) := .ite 4 (decide (((a0.length : Int)) < 2)) (.ret 2 a0) (.gd 4 ((2 : Int) ≠ 0) (by decide) <| .slc 1 17 cGDelta a0 (((0 : Int))) ((IntKind.i64.wrap (Int.tdiv ((a0.length : Int)) 2))) <| .ca 0 (rec.2 ((a0.drop ((0 : Int)).toNat).take ((IntKind.i64.wrap (Int.tdiv ((a0.length : Int)) 2)) - ((0 : Int))).toNat)) fun r1 => .gd 5 ((2 : Int) ≠ 0) (by decide) <| .slc 1 23 cGDelta a0 (((IntKind.i64.wrap (Int.tdiv ((a0.length : Int)) 2) : Int))) (((a0.length : Int))) <| .ca 0 (rec.2 ((a0.drop ((IntKind.i64.wrap (Int.tdiv ((a0.length : Int)) 2) : Int)).toNat).take (((a0.length : Int)) - ((IntKind.i64.wrap (Int.tdiv ((a0.length : Int)) 2) : Int))).toNat)) fun r2 => .cv 4 [.th 5 5 50 3 (eF cGDelta ([] : LD))] <| .lp 0 (fun (s : LD × Int × Int) => match s with | (v3, v4, v5) => (⟨[(3, tD r1), (4, tD r2), (5, .own 5), (6, tI v4), (7, tI v5)], [(5, aD v3)]⟩ : St)) (fun (b6 : LD) => (⟨[(5, .own 5)], [(5, aD b6)]⟩ : St)) 0 (([] : LD), 0, 0) (T154_L0 r1 r2) fun b6 => .cv 2 [.fr 5 (eL cGDelta (b6))] <| .ret 0 b6)
theorem T154_ok (rec : R154) (a0 : LD) : Con Tryz.prog 250 [tD a0] (T154 rec a0).den (fun (y : LD) => tD y) := con Tryz.func250 ti_ok (T154 rec a0)
def H154 (a : LD) : Option (LD) := fixF (C := fun (a : LD) (x : Option (LD)) => Con Tryz.prog 250 [tD a] x (fun (y : LD) => tD y)) (fun a => ⟨callable_of Tryz.func250 (by kernel_rfl), fun _ h => nomatch h⟩) (fun rec a => T154 rec a) (fun rec a => T154_ok rec a) a
theorem H154_ok (a : LD) : Con Tryz.prog 250 [tD a] (H154 a) (fun (y : LD) => tD y) := fixF_ok (C := fun (a : LD) (x : Option (LD)) => Con Tryz.prog 250 [tD a] x (fun (y : LD) => tD y)) _ _ _ a
def G154 (a0 : LD) : Option (LD) := H154 a0
theorem G154_ok (a0 : LD) : Con Tryz.prog 250 [tD a0] (G154 a0) (fun (y : LD) => tD y) := H154_ok a0
def T107_L1 (r1 : LD) (v3 : Int) : (LD × Int × Int) → TP ((LD × Int × Int) ⊕ ((LD × Int × Int) ⊕ ((LD × Int) ⊕ ((LD) ⊕ (LD)))))
 | (v5, v6, v7) => .jn 0 0 (fun (s : LD × Bool) => match s with | (j11, j12) => (⟨[(3, tD r1), (4, .own 4), (5, tI v3), (6, tI v6), (7, tI v7), (34, tB j12)], [(4, aD j11)]⟩ : St)) (.dl 4 (decide (v7 < ((r1.length : Int)))) (.dg 7 (0 ≤ v3 ∧ v3 < (r1.length : Int)) <| .dg 15 (0 ≤ (if (IntKind.i64.wrap (((r1.length : Int)) - 1)) < v7 then (IntKind.i64.wrap (((r1.length : Int)) - 1)) else v7) ∧ (if (IntKind.i64.wrap (((r1.length : Int)) - 1)) < v7 then (IntKind.i64.wrap (((r1.length : Int)) - 1)) else v7) < (r1.length : Int)) <| .dc 17 [.t (eGDelta (r1.getD (v3).toNat default)), .t (eGDelta (r1.getD (if (IntKind.i64.wrap (((r1.length : Int)) - 1)) < v7 then (IntKind.i64.wrap (((r1.length : Int)) - 1)) else v7).toNat default))] (G49_ok (r1.getD (v3).toNat default) (r1.getD (if (IntKind.i64.wrap (((r1.length : Int)) - 1)) < v7 then (IntKind.i64.wrap (((r1.length : Int)) - 1)) else v7).toNat default)) fun r13 => .dr 0 0 [(4, false, [])] [3, 4, 5, 6, 7] <| .ret 0 (v5, r13 == 0)) (.dr 0 0 [(4, false, [])] [3, 4, 5, 6, 7] <| .ret 0 (v5, false))) fun (j11, j12) => .ite 0 (j12) (.grd 4 (0 ≤ v7 ∧ v7 < (r1.length : Int)) <| .ret 7 (.inl (j11, IntKind.i64.wrap (v6 + ((r1.getD (v7).toNat default).N)), IntKind.i64.wrap (v7 + 1)))) (.ret 0 (.inr (.inl (j11, v6, v7))))
def T107_L0 (r1 : LD) : (LD × Int) → TP ((LD × Int) ⊕ ((LD) ⊕ (LD)))
 | (v2, v3) => .ite 4 (decide (v3 < ((r1.length : Int)))) (.lp 3 (fun (s : LD × Int × Int) => match s with | (v5, v6, v7) => (⟨[(3, tD r1), (4, .own 4), (5, tI v3), (6, tI v6), (7, tI v7)], [(4, aD v5)]⟩ : St)) (fun (s : LD × Int × Int) => match s with | (b8, b9, b10) => (⟨[(3, tD r1), (4, .own 4), (5, tI v3), (6, tI b9), (7, tI b10)], [(4, aD b8)]⟩ : St)) 2 (v2, 0, v3) (T107_L1 r1 v3) fun (b8, b9, b10) => .jn 2 0 (fun (j14 : LD) => (⟨[(3, tD r1), (4, .own 4), (7, tI b10)], [(4, aD j14)]⟩ : St)) (.ite 0 (b9 != 0) (.grd 4 (0 ≤ v3 ∧ v3 < (r1.length : Int)) <| .ca 2 (G115_ok (r1.getD (v3).toNat default) b9) fun r15 => .bs 0 false cGDelta ([r15] : LD) <| .grd 1 ((b8.length + (([r15] : LD)).length) * 40 ≤ 140737488355328) <| .cv 0 [.ap 54 cGDelta b8 (([r15] : LD))] <| .cv 1 [.rn 54 4] <| .ret 0 (b8 ++ (([r15] : LD)))) (.ret 0 b8)) fun j14 => .ret 2 (.inl (j14, b10))) (.ret 0 (.inr (.inl v2)))
def T107 (a0 : LD) : TP (LD) := .ca 2 (G154_ok a0) fun r1 => .cv 3 [.th 4 4 50 3 (eF cGDelta ([] : LD))] <| .lp 0 (fun (s : LD × Int) => match s with | (v2, v3) => (⟨[(3, tD r1), (4, .own 4), (5, tI v3)], [(4, aD v2)]⟩ : St)) (fun (b4 : LD) => (⟨[(4, .own 4)], [(4, aD b4)]⟩ : St)) 0 (([] : LD), 0) (T107_L0 r1) fun b4 => .cv 2 [.fr 4 (eL cGDelta (b4))] <| .ret 0 b4
def G107 (a0 : LD) : Option (LD) := (T107 a0).den
theorem G107_ok (a0 : LD) : Con Tryz.prog 193 [tD a0] (G107 a0) (fun (y : LD) => tD y) := con Tryz.func193 ti_ok (T107 a0)
def T47 (a0 : LD) (a1 : LD) : TP (LD) := .bs 1 true cGDelta ([] : LD) <| .grd 2 (((([] : LD)).length + a0.length) * 40 ≤ 140737488355328) <| .cv 0 [.ap 7 cGDelta (([] : LD)) a0] <| .grd 2 ((((([] : LD)) ++ a0).length + a1.length) * 40 ≤ 140737488355328) <| .cv 0 [.ap 9 cGDelta ((([] : LD)) ++ a0) a1] <| .cv 0 [.fr 9 (eL cGDelta (((([] : LD)) ++ a0) ++ a1))] <| .ca 0 (G107_ok (((([] : LD)) ++ a0) ++ a1)) fun r1 => .ret 1 r1
def G47 (a0 : LD) (a1 : LD) : Option (LD) := (T47 a0 a1).den
theorem G47_ok (a0 : LD) (a1 : LD) : Con Tryz.prog 106 [tD a0, tD a1] (G47 a0 a1) (fun (y : LD) => tD y) := con Tryz.func106 ti_ok (T47 a0 a1)
def T184 (a0 : GValue) : TP (Bool) := .ite 5 (a0.Kind == 0) (.ret 4 ((a0.S : ByteArray).toList == (⟨#[]⟩ : ByteArray).toList)) (.ite 3 (a0.Kind == 1) (.jn 4 0 (fun (j1 : Bool) => (⟨[(2, tB j1)], []⟩ : St)) (.ite 0 (a0.N == 0) (.ret 6 (decide ((((a0.S : ByteArray).size : Int)) ≤ 200))) (.ret 6 false)) fun j1 => .ret 0 j1) (.jn 4 0 (fun (j2 : Bool) => (⟨[(2, tB j2)], []⟩ : St)) (.ite 0 (a0.Kind == 2) (.ite 4 (a0.N == 0) (.ret 11 ((a0.S : ByteArray).toList == (⟨#[]⟩ : ByteArray).toList)) (.ite 6 (a0.N == 1) (.ret 5 ((a0.S : ByteArray).toList == (⟨#[]⟩ : ByteArray).toList)) (.ret 5 false))) (.ret 15 false)) fun j2 => .ret 0 j2))
def G184 (a0 : GValue) : Option (Bool) := (T184 a0).den
theorem G184_ok (a0 : GValue) : Con Tryz.prog 101 [.t (eGValue a0)] (G184 a0) (fun (y : Bool) => tB y) := con Tryz.func101 ti_ok (T184 a0)
def T149_L0 (a0 : List GValue) : Int → TP ((Int) ⊕ ((Unit) ⊕ (Bool)))
 | v1 => .ite 4 (decide (v1 < ((a0.length : Int)))) (.grd 3 (0 ≤ v1 ∧ v1 < (a0.length : Int)) <| .ca 1 (G184_ok (a0.getD (v1).toNat default)) fun r2 => .ite 1 (!r2) (.ret 1 (.inr (.inr false))) (.ret 3 (.inl (IntKind.i64.wrap (v1 + 1))))) (.ret 0 (.inr (.inl ())))
def T149 (a0 : List GValue) : TP (Bool) := .lp 2 (fun (v1 : Int) => (⟨[(0, tV a0), (3, tI v1)], []⟩ : St)) (fun (_ : Unit) => (⟨[], []⟩ : St)) 0 0 (T149_L0 a0) fun _ => .ret 1 true
def G149 (a0 : List GValue) : Option (Bool) := (T149 a0).den
theorem G149_ok (a0 : List GValue) : Con Tryz.prog 39 [tV a0] (G149 a0) (fun (y : Bool) => tB y) := con Tryz.func39 ti_ok (T149 a0)
def T78 (a0 : List GValue) : TP (Bool) := .jn 5 0 (fun (j1 : Bool) => (⟨[(2, tB j1)], []⟩ : St)) (.ite 0 (decide (((a0.length : Int)) ≤ 12)) (.ca 1 (G149_ok a0) fun r2 => .ret 2 r2) (.ret 4 false)) fun j1 => .ret 0 j1
def G78 (a0 : List GValue) : Option (Bool) := (T78 a0).den
theorem G78_ok (a0 : List GValue) : Con Tryz.prog 99 [tV a0] (G78 a0) (fun (y : Bool) => tB y) := con Tryz.func99 ti_ok (T78 a0)
def T30_L1 (a0 : LD) (a1 : List Int) (v1 : Int) : Int → TP ((Int) ⊕ ((Unit) ⊕ ((Int) ⊕ ((Unit) ⊕ (Bool)))))
 | v5 => .ite 4 (decide (v5 < ((a1.length : Int)))) (.dg 2 (0 ≤ v1 ∧ v1 < (a0.length : Int)) <| .dg 6 (0 ≤ v5 ∧ v5 < (((a0.getD (v1).toNat default).Row).length : Int)) <| .dg 11 (0 ≤ v5 ∧ v5 < (a1.length : Int)) <| .dr 0 0 [] [0, 1, 2, 7, 8, 70, 71, 72, 73] <| .ite 0 (((((a0.getD (v1).toNat default).Row).getD (v5).toNat default).Kind) != (a1.getD (v5).toNat default)) (.ret 1 (.inr (.inr (.inr (.inr false))))) (.ret 3 (.inl (IntKind.i64.wrap (v5 + 1))))) (.ret 0 (.inr (.inl ())))
def T30_L0 (a0 : LD) (a1 : List Int) (a2 : Int) : Int → TP ((Int) ⊕ ((Unit) ⊕ (Bool)))
 | v1 => .jn 5 0 (fun (j2 : Bool) => (⟨[(0, tD a0), (1, .t (eL cInt (a1))), (2, tI a2), (7, tI v1), (17, tB j2)], []⟩ : St)) (.ite 0 (decide (v1 < ((a0.length : Int)))) (.ret 4 (decide (v1 ≤ a2))) (.ret 4 false)) fun j2 => .ite 0 (j2) (.grd 3 (0 ≤ v1 ∧ v1 < (a0.length : Int)) <| .jn 4 0 (fun (j3 : Bool) => (⟨[(0, tD a0), (1, .t (eL cInt (a1))), (2, tI a2), (7, tI v1), (69, tB j3)], []⟩ : St)) (.ite 0 (decide (((a0.getD (v1).toNat default).Time) < 0)) (.ret 43 true) (.grd 3 (0 ≤ v1 ∧ v1 < (a0.length : Int)) <| .ite 5 (decide (((a0.getD (v1).toNat default).Time) > 2199023255552)) (.ret 35 true) (.grd 3 (0 ≤ v1 ∧ v1 < (a0.length : Int)) <| .ite 5 (decide (((a0.getD (v1).toNat default).N) < 1)) (.ret 27 true) (.grd 3 (0 ≤ v1 ∧ v1 < (a0.length : Int)) <| .ite 5 (decide (((a0.getD (v1).toNat default).N) > 5)) (.ret 19 true) (.grd 3 (0 ≤ v1 ∧ v1 < (a0.length : Int)) <| .ite 8 (((((a0.getD (v1).toNat default).Row).length : Int)) != ((a1.length : Int))) (.ret 8 true) (.grd 3 (0 ≤ v1 ∧ v1 < (a0.length : Int)) <| .ca 2 (G78_ok ((a0.getD (v1).toNat default).Row)) fun r4 => .ret 2 (!r4))))))) fun j3 => .ite 0 (j3) (.ret 1 (.inr (.inr false))) (.lp 1 (fun (v5 : Int) => (⟨[(0, tD a0), (1, .t (eL cInt (a1))), (2, tI a2), (7, tI v1), (8, tI v5)], []⟩ : St)) (fun (_ : Unit) => (⟨[(0, tD a0), (1, .t (eL cInt (a1))), (2, tI a2), (7, tI v1)], []⟩ : St)) 2 0 (T30_L1 a0 a1 v1) fun _ => .ret 3 (.inl (IntKind.i64.wrap (v1 + 1))))) (.ret 0 (.inr (.inl ())))
def T30 (a0 : LD) (a1 : List Int) (a2 : Int) : TP (Bool) := .lp 2 (fun (v1 : Int) => (⟨[(0, tD a0), (1, .t (eL cInt (a1))), (2, tI a2), (7, tI v1)], []⟩ : St)) (fun (_ : Unit) => (⟨[(0, tD a0), (2, tI a2)], []⟩ : St)) 0 0 (T30_L0 a0 a1 a2) fun _ => .ret 5 (decide (((a0.length : Int)) ≤ a2))
def G30 (a0 : LD) (a1 : List Int) (a2 : Int) : Option (Bool) := (T30 a0 a1 a2).den
theorem G30_ok (a0 : LD) (a1 : List Int) (a2 : Int) : Con Tryz.prog 36 [tD a0, .t (eL cInt (a1)), tI a2] (G30 a0 a1 a2) (fun (y : Bool) => tB y) := con Tryz.func36 ti_ok (T30 a0 a1 a2)
def T35_L1 (a0 : List (List Int)) (a1 : List GAct) (v3 : Int) (v4 : Int) : ((List LD) × Int) → TP (((List LD) × Int) ⊕ (((List LD)) ⊕ (((List LD) × Int) ⊕ (((List LD) × Int × Int) ⊕ ((Unit) ⊕ (Bool))))))
 | (v7, v8) => .grd 4 (0 ≤ v4 ∧ v4 < (a1.length : Int)) <| .ite 4 (decide (v8 < ((((a1.getD (v4).toNat default).L).length : Int)))) (.grd 3 (0 ≤ v4 ∧ v4 < (a1.length : Int)) <| .grd 4 (0 ≤ v8 ∧ v8 < (((a1.getD (v4).toNat default).L).length : Int)) <| .jn 8 0 (fun (s : (List LD) × Bool) => match s with | (j10, j11) => (⟨[(0, .t (eL cL_cInt (a0))), (1, .t (eL cGAct (a1))), (7, .own 7), (8, tI v3), (9, tI v4), (10, tI (bitA .i64 ((a1.getD (v4).toNat default).Do) 1)), (11, tI v8), (12, .ptr 12 0), (94, tB j11)], [(7, .arr 37 1 (j10.length) (eF cL_cGDelta j10)), (12, .box ((cGDelta (((a1.getD (v4).toNat default).L).getD (v8).toNat default)).map .t))]⟩ : St)) (.ite 0 (decide (((((a1.getD (v4).toNat default).L).getD (v8).toNat default).Time) ≤ v3)) (.ret 9 (v7, true)) (.ite 5 (decide (((((a1.getD (v4).toNat default).L).getD (v8).toNat default).N) < ((-3)))) (.ret 4 (v7, true)) (.ret 4 (v7, decide (((((a1.getD (v4).toNat default).L).getD (v8).toNat default).N) > 3))))) fun (j10, j11) => .ite 0 (j11) (.ret 1 (.inr (.inr (.inr (.inr (.inr false)))))) (.dg 4 (0 ≤ (bitA .i64 ((a1.getD (v4).toNat default).Do) 1) ∧ (bitA .i64 ((a1.getD (v4).toNat default).Do) 1) < (a0.length : Int)) <| .dc 6 [.t (.sl 1 (arrOf [.int .i64 ((((a1.getD (v4).toNat default).L).getD (v8).toNat default).Time), eL cGValue ((((a1.getD (v4).toNat default).L).getD (v8).toNat default).Row), .int .i64 (1)] 3)), .t (eL cInt (a0.getD (bitA .i64 ((a1.getD (v4).toNat default).Do) 1).toNat default)), tI 1] (G30_ok (([(GDelta.mk ((((a1.getD (v4).toNat default).L).getD (v8).toNat default).Time) ((((a1.getD (v4).toNat default).L).getD (v8).toNat default).Row) 1)] : LD)) (a0.getD (bitA .i64 ((a1.getD (v4).toNat default).Do) 1).toNat default) 1) fun r12 => .dr 2 0 [(7, false, []), (12, false, [])] [0, 1, 7, 8, 9, 10, 11, 12, 94, 95] <| .ite 0 (!r12) (.ret 1 (.inr (.inr (.inr (.inr (.inr false)))))) (.ret 3 (.inl (j10, IntKind.i64.wrap (v8 + 1)))))) (.ret 0 (.inr (.inl v7)))
def T35_L2 (a0 : List (List Int)) (a1 : List GAct) (v3 : Int) (v4 : Int) : ((List LD) × Int) → TP (((List LD) × Int) ⊕ (((List LD)) ⊕ (((List LD) × Int) ⊕ (((List LD) × Int × Int) ⊕ ((Unit) ⊕ (Bool))))))
 | (v14, v15) => .grd 4 (0 ≤ (bitA .i64 ((a1.getD (v4).toNat default).Do) 1) ∧ (bitA .i64 ((a1.getD (v4).toNat default).Do) 1) < (v14.length : Int)) <| .grd 1 ((bitA .i64 ((a1.getD (v4).toNat default).Do) 1).toNat < v14.length) <| .ite 2 (decide (v15 < (((v14.getD (bitA .i64 ((a1.getD (v4).toNat default).Do) 1).toNat default).length : Int)))) (.grd 3 (0 ≤ (bitA .i64 ((a1.getD (v4).toNat default).Do) 1) ∧ (bitA .i64 ((a1.getD (v4).toNat default).Do) 1) < (v14.length : Int)) <| .grd 1 ((bitA .i64 ((a1.getD (v4).toNat default).Do) 1).toNat < v14.length) <| .grd 2 (0 ≤ v15 ∧ v15 < ((v14.getD (bitA .i64 ((a1.getD (v4).toNat default).Do) 1).toNat default).length : Int)) <| .jn 4 0 (fun (s : (List LD) × Bool) => match s with | (j17, j18) => (⟨[(0, .t (eL cL_cInt (a0))), (1, .t (eL cGAct (a1))), (7, .own 7), (8, tI v3), (9, tI v4), (10, tI (bitA .i64 ((a1.getD (v4).toNat default).Do) 1)), (13, tI v15), (145, tB j18)], [(7, .arr 37 1 (j17.length) (eF cL_cGDelta j17))]⟩ : St)) (.ite 0 (decide ((((v14.getD (bitA .i64 ((a1.getD (v4).toNat default).Do) 1).toNat default).getD (v15).toNat default).N) < 1)) (.ret 10 (v14, true)) (.grd 3 (0 ≤ (bitA .i64 ((a1.getD (v4).toNat default).Do) 1) ∧ (bitA .i64 ((a1.getD (v4).toNat default).Do) 1) < (v14.length : Int)) <| .grd 1 ((bitA .i64 ((a1.getD (v4).toNat default).Do) 1).toNat < v14.length) <| .grd 2 (0 ≤ v15 ∧ v15 < ((v14.getD (bitA .i64 ((a1.getD (v4).toNat default).Do) 1).toNat default).length : Int)) <| .ret 4 (v14, decide ((((v14.getD (bitA .i64 ((a1.getD (v4).toNat default).Do) 1).toNat default).getD (v15).toNat default).N) > 20)))) fun (j17, j18) => .ite 0 (j18) (.ret 1 (.inr (.inr (.inr (.inr (.inr false)))))) (.ret 3 (.inl (j17, IntKind.i64.wrap (v15 + 1))))) (.ret 0 (.inr (.inl v14)))
def T35_L0 (a0 : List (List Int)) (a1 : List GAct) : ((List LD) × Int × Int) → TP (((List LD) × Int × Int) ⊕ ((Unit) ⊕ (Bool)))
 | (v2, v3, v4) => .ite 4 (decide (v4 < ((a1.length : Int)))) (.pc 0 3 (fun (s : (List LD) × Int) => match s with | (j5, j6) => (⟨[(0, .t (eL cL_cInt (a0))), (1, .t (eL cGAct (a1))), (7, .own 7), (8, tI j6), (9, tI v4)], [(7, .arr 37 1 (j5.length) (eF cL_cGDelta j5))]⟩ : St)) (.grd 3 (0 ≤ v4 ∧ v4 < (a1.length : Int)) <| .ite 4 ((bitA .i64 ((a1.getD (v4).toNat default).Do) 3) == 3) (.grd 3 (0 ≤ v4 ∧ v4 < (a1.length : Int)) <| .ite 3 (decide (((a1.getD (v4).toNat default).C) > 2199023255552)) (.ret 1 (.inr (.inr (.inr false)))) (.grd 4 (0 ≤ v4 ∧ v4 < (a1.length : Int)) <| .ret 4 (.inl (v2, if ((a1.getD (v4).toNat default).C) > v3 then ((a1.getD (v4).toNat default).C) else v3)))) (.grd 3 (0 ≤ v4 ∧ v4 < (a1.length : Int)) <| .grd 7 (0 ≤ v4 ∧ v4 < (a1.length : Int)) <| .ite 4 (decide (((((a1.getD (v4).toNat default).L).length : Int)) > 8)) (.ret 1 (.inr (.inr (.inr false)))) (.lp 1 (fun (s : (List LD) × Int) => match s with | (v7, v8) => (⟨[(0, .t (eL cL_cInt (a0))), (1, .t (eL cGAct (a1))), (7, .own 7), (8, tI v3), (9, tI v4), (10, tI (bitA .i64 ((a1.getD (v4).toNat default).Do) 1)), (11, tI v8)], [(7, .arr 37 1 (v7.length) (eF cL_cGDelta v7))]⟩ : St)) (fun (b9 : (List LD)) => (⟨[(0, .t (eL cL_cInt (a0))), (1, .t (eL cGAct (a1))), (7, .own 7), (8, tI v3), (9, tI v4), (10, tI (bitA .i64 ((a1.getD (v4).toNat default).Do) 1))], [(7, .arr 37 1 (b9.length) (eF cL_cGDelta b9))]⟩ : St)) 2 (v2, 0) (T35_L1 a0 a1 v3 v4) fun b9 => .dg 4 (0 ≤ (bitA .i64 ((a1.getD (v4).toNat default).Do) 1) ∧ (bitA .i64 ((a1.getD (v4).toNat default).Do) 1) < (b9.length : Int)) <| .dg 5 ((bitA .i64 ((a1.getD (v4).toNat default).Do) 1).toNat < b9.length) <| .dg 8 (0 ≤ v4 ∧ v4 < (a1.length : Int)) <| .dc 11 [tD (b9.getD (bitA .i64 ((a1.getD (v4).toNat default).Do) 1).toNat default), tD ((a1.getD (v4).toNat default).L)] (G47_ok (b9.getD (bitA .i64 ((a1.getD (v4).toNat default).Do) 1).toNat default) ((a1.getD (v4).toNat default).L)) fun r13 => .dg 12 (0 ≤ (bitA .i64 ((a1.getD (v4).toNat default).Do) 1) ∧ (bitA .i64 ((a1.getD (v4).toNat default).Do) 1) < (b9.length : Int)) <| .dg 13 ((bitA .i64 ((a1.getD (v4).toNat default).Do) 1).toNat < b9.length) <| .dr 0 0 [(7, false, [13])] [0, 1, 7, 8, 9, 10] <| .sto 0 7 cL_cGDelta b9 [((bitA .i64 ((a1.getD (v4).toNat default).Do) 1).toNat, r13)] <| .lp 1 (fun (s : (List LD) × Int) => match s with | (v14, v15) => (⟨[(0, .t (eL cL_cInt (a0))), (1, .t (eL cGAct (a1))), (7, .own 7), (8, tI v3), (9, tI v4), (10, tI (bitA .i64 ((a1.getD (v4).toNat default).Do) 1)), (13, tI v15)], [(7, .arr 37 1 (v14.length) (eF cL_cGDelta v14))]⟩ : St)) (fun (b16 : (List LD)) => (⟨[(0, .t (eL cL_cInt (a0))), (1, .t (eL cGAct (a1))), (7, .own 7), (8, tI v3), (9, tI v4)], [(7, .arr 37 1 (b16.length) (eF cL_cGDelta b16))]⟩ : St)) 4 (b9.set (bitA .i64 ((a1.getD (v4).toNat default).Do) 1).toNat r13, 0) (T35_L2 a0 a1 v3 v4) fun b16 => .ret 0 (.inl (b16, v3))))) fun (j5, j6) => .ret 3 (.inl (j5, j6, IntKind.i64.wrap (v4 + 1)))) (.ret 0 (.inr (.inl ())))
def T35 (a0 : List (List Int)) (a1 : List GAct) (a2 : Int) : TP (Bool) := .jn 6 0 (fun (j1 : Bool) => (⟨[(0, .t (eL cL_cInt (a0))), (1, .t (eL cGAct (a1))), (22, tB j1)], []⟩ : St)) (.ite 0 (decide (((a1.length : Int)) > a2)) (.ret 4 true) (.ret 4 (((a0.length : Int)) != 2))) fun j1 => .ite 0 (j1) (.ret 1 false) (.bs 0 true cL_cGDelta ([([] : LD), ([] : LD)] : List LD) <| .cv 3 [.rn 23 7] <| .lp 0 (fun (s : (List LD) × Int × Int) => match s with | (v2, v3, v4) => (⟨[(0, .t (eL cL_cInt (a0))), (1, .t (eL cGAct (a1))), (7, .own 7), (8, tI v3), (9, tI v4)], [(7, .arr 37 1 (v2.length) (eF cL_cGDelta v2))]⟩ : St)) (fun (_ : Unit) => (⟨[], []⟩ : St)) 0 (([([] : LD), ([] : LD)] : List LD), (-1), 0) (T35_L0 a0 a1) fun _ => .ret 1 true)
def G35 (a0 : List (List Int)) (a1 : List GAct) (a2 : Int) : Option (Bool) := (T35 a0 a1 a2).den
theorem G35_ok (a0 : List (List Int)) (a1 : List GAct) (a2 : Int) : Con Tryz.prog 127 [.t (eL cL_cInt (a0)), .t (eL cGAct (a1)), tI a2] (G35 a0 a1 a2) (fun (y : Bool) => tB y) := con Tryz.func127 ti_ok (T35 a0 a1 a2)
abbrev R79 := {f : Expr → Option (Int) // ∀ a : Expr, Con Tryz.prog 129 [.t (eExpr a)] (f a) (fun (y : Int) => tI y)}
def T79_L0 (rec : R79) (a0 : Expr) : (Int × Int) → TP ((Int × Int) ⊕ ((Int) ⊕ (Int)))
 | (v1, v2) => .ite 5 (decide (v2 < ((a0.Args.length : Int)))) (.grd 5 (0 ≤ v2 ∧ v2 < (a0.Args.length : Int)) <| .ca 1 (rec.2 (a0.Args.getD (v2).toNat default)) fun r4 => .ret 5 (.inl (IntKind.i64.wrap (v1 + r4), IntKind.i64.wrap (v2 + 1)))) (.ret 0 (.inr (.inl v1)))
def T79 (rec : R79) (a0 : Expr) : TP (Int) := .lp 4 (fun (s : Int × Int) => match s with | (v1, v2) => (⟨[(1, .ptr 1 0), (3, tI v1), (4, tI v2)], [(1, .box ((exprCells (a0)).map .t))]⟩ : St)) (fun (b3 : Int) => (⟨[(3, tI b3)], []⟩ : St)) 0 (1, 0) (T79_L0 rec a0) fun b3 => .ret 2 b3
theorem T79_ok (rec : R79) (a0 : Expr) : Con Tryz.prog 129 [.t (eExpr a0)] (T79 rec a0).den (fun (y : Int) => tI y) := con Tryz.func129 ti_ok (T79 rec a0)
def H79 (a : Expr) : Option (Int) := fixF (C := fun (a : Expr) (x : Option (Int)) => Con Tryz.prog 129 [.t (eExpr a)] x (fun (y : Int) => tI y)) (fun a => ⟨callable_of Tryz.func129 (by kernel_rfl), fun _ h => nomatch h⟩) (fun rec a => T79 rec a) (fun rec a => T79_ok rec a) a
theorem H79_ok (a : Expr) : Con Tryz.prog 129 [.t (eExpr a)] (H79 a) (fun (y : Int) => tI y) := fixF_ok (C := fun (a : Expr) (x : Option (Int)) => Con Tryz.prog 129 [.t (eExpr a)] x (fun (y : Int) => tI y)) _ _ _ a
def G79 (a0 : Expr) : Option (Int) := H79 a0
theorem G79_ok (a0 : Expr) : Con Tryz.prog 129 [.t (eExpr a0)] (G79 a0) (fun (y : Int) => tI y) := H79_ok a0
abbrev R80 := {f : Expr → Option (Int) // ∀ a : Expr, Con Tryz.prog 130 [.t (eExpr a)] (f a) (fun (y : Int) => tI y)}
def T80_L0 (rec : R80) (a0 : Expr) : (Int × Int) → TP ((Int × Int) ⊕ ((Int) ⊕ (Int)))
 | (v1, v2) => .ite 5 (decide (v2 < ((a0.Args.length : Int)))) (.grd 5 (0 ≤ v2 ∧ v2 < (a0.Args.length : Int)) <| .ca 1 (rec.2 (a0.Args.getD (v2).toNat default)) fun r4 => .ret 5 (.inl (if r4 > v1 then r4 else v1, IntKind.i64.wrap (v2 + 1)))) (.ret 0 (.inr (.inl v1)))
def T80 (rec : R80) (a0 : Expr) : TP (Int) := .lp 4 (fun (s : Int × Int) => match s with | (v1, v2) => (⟨[(1, .ptr 1 0), (3, tI v1), (4, tI v2)], [(1, .box ((exprCells (a0)).map .t))]⟩ : St)) (fun (b3 : Int) => (⟨[(3, tI b3)], []⟩ : St)) 0 (0, 0) (T80_L0 rec a0) fun b3 => .ret 3 (IntKind.i64.wrap (b3 + 1))
theorem T80_ok (rec : R80) (a0 : Expr) : Con Tryz.prog 130 [.t (eExpr a0)] (T80 rec a0).den (fun (y : Int) => tI y) := con Tryz.func130 ti_ok (T80 rec a0)
def H80 (a : Expr) : Option (Int) := fixF (C := fun (a : Expr) (x : Option (Int)) => Con Tryz.prog 130 [.t (eExpr a)] x (fun (y : Int) => tI y)) (fun a => ⟨callable_of Tryz.func130 (by kernel_rfl), fun _ h => nomatch h⟩) (fun rec a => T80 rec a) (fun rec a => T80_ok rec a) a
theorem H80_ok (a : Expr) : Con Tryz.prog 130 [.t (eExpr a)] (H80 a) (fun (y : Int) => tI y) := fixF_ok (C := fun (a : Expr) (x : Option (Int)) => Con Tryz.prog 130 [.t (eExpr a)] x (fun (y : Int) => tI y)) _ _ _ a
def G80 (a0 : Expr) : Option (Int) := H80 a0
theorem G80_ok (a0 : Expr) : Con Tryz.prog 130 [.t (eExpr a0)] (G80 a0) (fun (y : Int) => tI y) := H80_ok a0
abbrev R150 := {f : ((List Int) × Expr) → Option (Int) // ∀ a : (List Int) × Expr, Con Tryz.prog 211 [.t (eL cInt (a.1)), .t (eExpr a.2)] (f a) (fun (y : Int) => tI y)}
def T150_L0 (rec : R150) (a0 : List Int) (a1 : Expr) : ((List Int) × Int) → TP (((List Int) × Int) ⊕ (((List Int)) ⊕ (Int)))
 | (v1, v2) => .ite 5 (decide (v2 < ((a1.Args.length : Int)))) (.grd 6 (0 ≤ v2 ∧ v2 < (a1.Args.length : Int)) <| .ca 1 (rec.2 (a0, a1.Args.getD (v2).toNat default)) fun r4 => .bs 0 false cInt ([r4] : List Int) <| .grd 1 ((v1.length + (([r4] : List Int)).length) * 8 ≤ 140737488355328) <| .cv 0 [.ap 25 cInt v1 (([r4] : List Int))] <| .cv 4 [.rn 25 6] <| .ret 0 (.inl (v1 ++ (([r4] : List Int)), IntKind.i64.wrap (v2 + 1)))) (.ret 0 (.inr (.inl v1)))
def T150_L1 : (Int × (List Int) × Int) → TP ((Int × (List Int) × Int) ⊕ ((Int) ⊕ (Int)))
 | (v7, v8, v9) => .ite 4 (decide (v9 < ((v8.length : Int)))) (.grd 4 (0 ≤ v9 ∧ v9 < (v8.length : Int)) <| .grd 1 ((v9).toNat < v8.length) <| .ret 6 (.inl (if (1099511627776 : Int) < (IntKind.i64.wrap (v7 + (v8.getD (v9).toNat default))) then (1099511627776 : Int) else (IntKind.i64.wrap (v7 + (v8.getD (v9).toNat default))), v8, IntKind.i64.wrap (v9 + 1)))) (.ret 0 (.inr (.inl v7)))
def T150 (rec : R150) (a0 : List Int) (a1 : Expr) : TP (Int) := .cv 5 [.th 6 6 3 1 (eF cInt ([] : List Int))] <| .lp 0 (fun (s : (List Int) × Int) => match s with | (v1, v2) => (⟨[(0, .t (eL cInt (a0))), (3, .ptr 3 0), (5, tI 1), (6, .own 6), (7, tI v2)], [(3, .box ((exprCells (a1)).map .t)), (6, .arr 3 1 (v1.length) (eF cInt v1))]⟩ : St)) (fun (b3 : (List Int)) => (⟨[(0, .t (eL cInt (a0))), (3, .ptr 3 0), (5, tI 1), (6, .own 6)], [(3, .box ((exprCells (a1)).map .t)), (6, .arr 3 1 (b3.length) (eF cInt b3))]⟩ : St)) 0 (([] : List Int), 0) (T150_L0 rec a0 a1) fun b3 => .jn 4 0 (fun (s : (List Int) × Bool) => match s with | (j5, j6) => (⟨[(0, .t (eL cInt (a0))), (3, .ptr 3 0), (5, tI 1), (6, .own 6), (33, tB j6)], [(3, .box ((exprCells (a1)).map .t)), (6, .arr 3 1 (j5.length) (eF cInt j5))]⟩ : St)) (.ite 0 (a1.Op == 21) (.ret 4 (b3, ((b3.length : Int)) == 3)) (.ret 4 (b3, false))) fun (j5, j6) => .ite 0 (j6) (.dg 1 (0 ≤ ((0 : Int)) ∧ ((0 : Int)) < (j5.length : Int)) <| .dg 2 (((0 : Int)).toNat < j5.length) <| .dg 5 (0 ≤ ((1 : Int)) ∧ ((1 : Int)) < (j5.length : Int)) <| .dg 6 (((1 : Int)).toNat < j5.length) <| .dg 8 (0 ≤ ((2 : Int)) ∧ ((2 : Int)) < (j5.length : Int)) <| .dg 9 (((2 : Int)).toNat < j5.length) <| .dr 0 0 [(3, false, []), (6, false, [])] [0, 3, 5, 6, 33] <| .ret 0 (if (1099511627776 : Int) < (IntKind.i64.wrap ((IntKind.i64.wrap (1 + (j5.getD ((0 : Int)).toNat default))) + (if (j5.getD ((2 : Int)).toNat default) > (j5.getD ((1 : Int)).toNat default) then (j5.getD ((2 : Int)).toNat default) else (j5.getD ((1 : Int)).toNat default)))) then (1099511627776 : Int) else (IntKind.i64.wrap ((IntKind.i64.wrap (1 + (j5.getD ((0 : Int)).toNat default))) + (if (j5.getD ((2 : Int)).toNat default) > (j5.getD ((1 : Int)).toNat default) then (j5.getD ((2 : Int)).toNat default) else (j5.getD ((1 : Int)).toNat default)))))) (.lp 1 (fun (s : Int × (List Int) × Int) => match s with | (v7, v8, v9) => (⟨[(0, .t (eL cInt (a0))), (3, .ptr 3 0), (5, tI v7), (6, .own 6), (8, tI v9)], [(3, .box ((exprCells (a1)).map .t)), (6, .arr 3 1 (v8.length) (eF cInt v8))]⟩ : St)) (fun (b10 : Int) => (⟨[(0, .t (eL cInt (a0))), (3, .ptr 3 0), (5, tI b10)], [(3, .box ((exprCells (a1)).map .t))]⟩ : St)) 2 (1, j5, 0) T150_L1 fun b10 => .jn 4 0 (fun (j11 : Bool) => (⟨[(0, .t (eL cInt (a0))), (3, .ptr 3 0), (5, tI b10), (74, tB j11)], [(3, .box ((exprCells (a1)).map .t))]⟩ : St)) (.ite 0 (a1.Op == 22) (.ite 5 (decide (a1.N ≥ 0)) (.ret 6 (decide (a1.N < ((a0.length : Int))))) (.ret 6 false)) (.ret 11 false)) fun j11 => .jn 0 0 (fun (j12 : Int) => (⟨[(5, tI j12)], []⟩ : St)) (.ite 0 (j11) (.grd 5 (0 ≤ a1.N ∧ a1.N < (a0.length : Int)) <| .ret 4 (if (1099511627776 : Int) < (IntKind.i64.wrap (b10 + (a0.getD (a1.N).toNat default))) then (1099511627776 : Int) else (IntKind.i64.wrap (b10 + (a0.getD (a1.N).toNat default))))) (.ret 0 b10)) fun j12 => .ret 2 j12)
theorem T150_ok (rec : R150) (a0 : List Int) (a1 : Expr) : Con Tryz.prog 211 [.t (eL cInt (a0)), .t (eExpr a1)] (T150 rec a0 a1).den (fun (y : Int) => tI y) := con Tryz.func211 ti_ok (T150 rec a0 a1)
def H150 (a : (List Int) × Expr) : Option (Int) := fixF (C := fun (a : (List Int) × Expr) (x : Option (Int)) => Con Tryz.prog 211 [.t (eL cInt (a.1)), .t (eExpr a.2)] x (fun (y : Int) => tI y)) (fun a => ⟨callable_of Tryz.func211 (by kernel_rfl), fun _ h => nomatch h⟩) (fun rec a => T150 rec a.1 a.2) (fun rec a => T150_ok rec a.1 a.2) a
theorem H150_ok (a : (List Int) × Expr) : Con Tryz.prog 211 [.t (eL cInt (a.1)), .t (eExpr a.2)] (H150 a) (fun (y : Int) => tI y) := fixF_ok (C := fun (a : (List Int) × Expr) (x : Option (Int)) => Con Tryz.prog 211 [.t (eL cInt (a.1)), .t (eExpr a.2)] x (fun (y : Int) => tI y)) _ _ _ a
def G150 (a0 : List Int) (a1 : Expr) : Option (Int) := H150 (a0, a1)
theorem G150_ok (a0 : List Int) (a1 : Expr) : Con Tryz.prog 211 [.t (eL cInt (a0)), .t (eExpr a1)] (G150 a0 a1) (fun (y : Int) => tI y) := H150_ok (a0, a1)
def T81_L0 (a0 : List GFunc) : ((List Int) × Int) → TP (((List Int) × Int) ⊕ (((List Int)) ⊕ (Int)))
 | (v1, v2) => .ite 4 (decide (v2 < ((a0.length : Int)))) (.grd 5 (0 ≤ v2 ∧ v2 < (a0.length : Int)) <| .ca 2 (G150_ok v1 ((a0.getD (v2).toNat default).Body)) fun r4 => .bs 0 false cInt ([r4] : List Int) <| .grd 1 ((v1.length + (([r4] : List Int)).length) * 8 ≤ 140737488355328) <| .cv 0 [.ap 22 cInt v1 (([r4] : List Int))] <| .cv 4 [.rn 22 5] <| .ret 0 (.inl (v1 ++ (([r4] : List Int)), IntKind.i64.wrap (v2 + 1)))) (.ret 0 (.inr (.inl v1)))
def T81 (a0 : List GFunc) (a1 : Expr) : TP (Int) := .cv 4 [.th 5 5 3 1 (eF cInt ([] : List Int))] <| .lp 0 (fun (s : (List Int) × Int) => match s with | (v1, v2) => (⟨[(0, .t (eL cGFunc (a0))), (3, .ptr 3 0), (5, .own 5), (6, tI v2)], [(3, .box ((exprCells (a1)).map .t)), (5, .arr 3 1 (v1.length) (eF cInt v1))]⟩ : St)) (fun (b3 : (List Int)) => (⟨[(3, .ptr 3 0), (5, .own 5)], [(3, .box ((exprCells (a1)).map .t)), (5, .arr 3 1 (b3.length) (eF cInt b3))]⟩ : St)) 0 (([] : List Int), 0) (T81_L0 a0) fun b3 => .ca 2 (G150_ok b3 a1) fun r5 => .ret 1 r5
def G81 (a0 : List GFunc) (a1 : Expr) : Option (Int) := (T81 a0 a1).den
theorem G81_ok (a0 : List GFunc) (a1 : Expr) : Con Tryz.prog 131 [.t (eL cGFunc (a0)), .t (eExpr a1)] (G81 a0 a1) (fun (y : Int) => tI y) := con Tryz.func131 ti_ok (T81 a0 a1)
def T33_L0 (a0 : List GFunc) (a1 : GNode) : Int → TP ((Int) ⊕ ((Unit) ⊕ (Bool)))
 | v1 => .jn 5 0 (fun (j2 : Bool) => (⟨[(0, .t (eL cGFunc (a0))), (3, .ptr 3 0), (5, tI v1), (15, tB j2)], [(3, bN a1)]⟩ : St)) (.ite 0 (decide (v1 < ((a0.length : Int)))) (.ret 3 (decide (v1 < 6))) (.ret 3 false)) fun j2 => .ite 0 (j2) (.grd 3 (0 ≤ v1 ∧ v1 < (a0.length : Int)) <| .ca 2 (G79_ok ((a0.getD (v1).toNat default).Body)) fun r3 => .jn 2 0 (fun (j4 : Bool) => (⟨[(0, .t (eL cGFunc (a0))), (3, .ptr 3 0), (5, tI v1), (33, tB j4)], [(3, bN a1)]⟩ : St)) (.ite 0 (decide (r3 > 100)) (.ret 8 true) (.grd 3 (0 ≤ v1 ∧ v1 < (a0.length : Int)) <| .ret 5 (decide (((((a0.getD (v1).toNat default).Params).length : Int)) > 10)))) fun j4 => .ite 0 (j4) (.ret 1 (.inr (.inr false))) (.ret 3 (.inl (IntKind.i64.wrap (v1 + 1))))) (.ret 0 (.inr (.inl ())))
def T33_L1 (a0 : List GFunc) (a1 : GNode) : Int → TP ((Int) ⊕ ((Unit) ⊕ (Bool)))
 | v5 => .jn 6 0 (fun (j6 : Bool) => (⟨[(0, .t (eL cGFunc (a0))), (3, .ptr 3 0), (6, tI v5), (42, tB j6)], [(3, bN a1)]⟩ : St)) (.ite 0 (decide (v5 < ((a1.Exprs.length : Int)))) (.ret 3 (decide (v5 < 13))) (.ret 3 false)) fun j6 => .ite 0 (j6) (.grd 4 (0 ≤ v5 ∧ v5 < (a1.Exprs.length : Int)) <| .ca 1 (G79_ok (a1.Exprs.getD (v5).toNat default)) fun r7 => .jn 2 0 (fun (j8 : Bool) => (⟨[(0, .t (eL cGFunc (a0))), (3, .ptr 3 0), (6, tI v5), (70, tB j8)], [(3, bN a1)]⟩ : St)) (.ite 0 (decide (r7 > 200)) (.ret 18 true) (.grd 4 (0 ≤ v5 ∧ v5 < (a1.Exprs.length : Int)) <| .ca 1 (G80_ok (a1.Exprs.getD (v5).toNat default)) fun r9 => .ite 3 (decide (r9 > 12)) (.ret 9 true) (.grd 5 (0 ≤ v5 ∧ v5 < (a1.Exprs.length : Int)) <| .ca 1 (G81_ok a0 (a1.Exprs.getD (v5).toNat default)) fun r10 => .ret 2 (decide (r10 > 1000))))) fun j8 => .ite 0 (j8) (.ret 1 (.inr (.inr false))) (.ret 3 (.inl (IntKind.i64.wrap (v5 + 1))))) (.ret 0 (.inr (.inl ())))
def T33_L2 (a0 : List GFunc) (a1 : GNode) : Int → TP ((Int) ⊕ ((Unit) ⊕ (Bool)))
 | v11 => .jn 6 0 (fun (j12 : Bool) => (⟨[(0, .t (eL cGFunc (a0))), (3, .ptr 3 0), (7, tI v11), (79, tB j12)], [(3, bN a1)]⟩ : St)) (.ite 0 (decide (v11 < ((a1.Seq.length : Int)))) (.ret 3 (decide (v11 < 9))) (.ret 3 false)) fun j12 => .ite 0 (j12) (.grd 4 (0 ≤ v11 ∧ v11 < (a1.Seq.length : Int)) <| .ca 2 (G79_ok ((a1.Seq.getD (v11).toNat default).Pred)) fun r13 => .jn 2 0 (fun (j14 : Bool) => (⟨[(0, .t (eL cGFunc (a0))), (3, .ptr 3 0), (7, tI v11), (110, tB j14)], [(3, bN a1)]⟩ : St)) (.ite 0 (decide (r13 > 200)) (.ret 20 true) (.grd 4 (0 ≤ v11 ∧ v11 < (a1.Seq.length : Int)) <| .ca 2 (G80_ok ((a1.Seq.getD (v11).toNat default).Pred)) fun r15 => .ite 3 (decide (r15 > 12)) (.ret 10 true) (.grd 5 (0 ≤ v11 ∧ v11 < (a1.Seq.length : Int)) <| .ca 2 (G81_ok a0 ((a1.Seq.getD (v11).toNat default).Pred)) fun r16 => .ret 2 (decide (r16 > 1000))))) fun j14 => .ite 0 (j14) (.ret 1 (.inr (.inr false))) (.ret 3 (.inl (IntKind.i64.wrap (v11 + 1))))) (.ret 0 (.inr (.inl ())))
def T33 (a0 : List GFunc) (a1 : GNode) : TP (Bool) := .lp 3 (fun (v1 : Int) => (⟨[(0, .t (eL cGFunc (a0))), (3, .ptr 3 0), (5, tI v1)], [(3, bN a1)]⟩ : St)) (fun (_ : Unit) => (⟨[(0, .t (eL cGFunc (a0))), (3, .ptr 3 0)], [(3, bN a1)]⟩ : St)) 0 0 (T33_L0 a0 a1) fun _ => .lp 1 (fun (v5 : Int) => (⟨[(0, .t (eL cGFunc (a0))), (3, .ptr 3 0), (6, tI v5)], [(3, bN a1)]⟩ : St)) (fun (_ : Unit) => (⟨[(0, .t (eL cGFunc (a0))), (3, .ptr 3 0)], [(3, bN a1)]⟩ : St)) 2 0 (T33_L1 a0 a1) fun _ => .lp 1 (fun (v11 : Int) => (⟨[(0, .t (eL cGFunc (a0))), (3, .ptr 3 0), (7, tI v11)], [(3, bN a1)]⟩ : St)) (fun (_ : Unit) => (⟨[(0, .t (eL cGFunc (a0))), (3, .ptr 3 0)], [(3, bN a1)]⟩ : St)) 4 0 (T33_L2 a0 a1) fun _ => .jn 4 0 (fun (j17 : Bool) => (⟨[(4, tB j17)], []⟩ : St)) (.ite 0 (decide (((a0.length : Int)) ≤ 5)) (.ite 6 (decide (((a1.Exprs.length : Int)) ≤ 12)) (.ite 6 (decide (((a1.Seq.length : Int)) ≤ 8)) (.ite 6 (decide (((a1.Key.length : Int)) ≤ 20)) (.ite 6 (decide (((a1.Key2.length : Int)) ≤ 20)) (.ret 6 (decide (((a1.Aggs.length : Int)) ≤ 20))) (.ret 6 false)) (.ret 12 false)) (.ret 18 false)) (.ret 24 false)) (.ret 30 false)) fun j17 => .ret 0 j17
def G33 (a0 : List GFunc) (a1 : GNode) : Option (Bool) := (T33 a0 a1).den
theorem G33_ok (a0 : List GFunc) (a1 : GNode) : Con Tryz.prog 59 [.t (eL cGFunc (a0)), .t (eGNode a1)] (G33 a0 a1) (fun (y : Bool) => tB y) := con Tryz.func59 ti_ok (T33 a0 a1)
def T153 (a0 : Int) (a1 : Int) (a2 : Int) : TP (Bool) := .jn 5 0 (fun (j1 : Bool) => (⟨[(6, tB j1)], []⟩ : St)) (.ite 0 (decide (a0 ≥ a1)) (.ret 5 (decide (a0 ≤ a2))) (.ret 5 false)) fun j1 => .ret 0 j1
def G153 (a0 : Int) (a1 : Int) (a2 : Int) : Option (Bool) := (T153 a0 a1 a2).den
theorem G153_ok (a0 : Int) (a1 : Int) (a2 : Int) : Con Tryz.prog 213 [tI a0, tI a1, tI a2] (G153 a0 a1 a2) (fun (y : Bool) => tB y) := con Tryz.func213 ti_ok (T153 a0 a1 a2)
def T83 (a0 : GNode) : TP (Bool) := .ite 6 (a0.Op == 4) (.ca 2 (G153_ok a0.Size 1 10000) fun r1 => .ite 1 (!r1) (.ret 1 false) (.ite 4 (a0.Kind == 0) (.ret 1 true) (.ite 2 (a0.Kind == 1) (.ite 3 (decide (a0.Step < 1)) (.ret 1 false) (.grd 5 (a0.Step ≠ 0) <| .ret 2 ((Int.tmod a0.Size a0.Step) == 0))) (.ite 2 (a0.Kind == 2) (.ca 4 (G153_ok a0.Step 1 a0.Size) fun r2 => .ret 1 r2) (.ret 1 false))))) (.ite 2 (a0.Op == 5) (.ca 2 (G153_ok a0.Size 1 10000) fun r3 => .jn 1 0 (fun (j4 : Bool) => (⟨[(2, tB j4)], []⟩ : St)) (.ite 0 (r3) (.ca 2 (G153_ok a0.Keep 1 100) fun r5 => .ret 2 r5) (.ret 5 false)) fun j4 => .ret 0 j4) (.ite 2 (a0.Op == 6) (.ca 2 (G153_ok a0.Before 0 10000) fun r6 => .jn 1 0 (fun (j7 : Bool) => (⟨[(2, tB j7)], []⟩ : St)) (.ite 0 (r6) (.ca 2 (G153_ok a0.After 0 10000) fun r8 => .ret 2 r8) (.ret 5 false)) fun j7 => .ret 0 j7) (.ite 2 (a0.Op == 7) (.ca 2 (G153_ok a0.Keep 1 10000) fun r9 => .ret 1 r9) (.ite 2 (a0.Op == 8) (.ca 2 (G153_ok a0.Size 1 10000) fun r10 => .jn 1 0 (fun (j11 : Bool) => (⟨[(2, tB j11)], []⟩ : St)) (.ite 0 (r10) (.ca 3 (G153_ok ((a0.Seq.length : Int)) 1 8) fun r12 => .ret 2 r12) (.ret 6 false)) fun j11 => .ret 0 j11) (.ca 2 (G153_ok a0.Op 0 8) fun r13 => .ret 1 r13)))))
def G83 (a0 : GNode) : Option (Bool) := (T83 a0).den
theorem G83_ok (a0 : GNode) : Con Tryz.prog 134 [.t (eGNode a0)] (G83 a0) (fun (y : Bool) => tB y) := con Tryz.func134 ti_ok (T83 a0)
def T88_L0 (a0 : List Int) (a1 : List Int) : Int → TP ((Int) ⊕ ((Unit) ⊕ (Bool)))
 | v1 => .ite 4 (decide (v1 < ((a0.length : Int)))) (.grd 3 (0 ≤ v1 ∧ v1 < (a0.length : Int)) <| .jn 3 0 (fun (j2 : Bool) => (⟨[(0, .t (eL cInt (a0))), (1, .t (eL cInt (a1))), (5, tI v1), (25, tB j2)], []⟩ : St)) (.ite 0 (decide ((a0.getD (v1).toNat default) < 0)) (.ret 8 true) (.grd 3 (0 ≤ v1 ∧ v1 < (a0.length : Int)) <| .ret 5 (decide ((a0.getD (v1).toNat default) ≥ ((a1.length : Int)))))) fun j2 => .ite 0 (j2) (.ret 1 (.inr (.inr false))) (.ret 3 (.inl (IntKind.i64.wrap (v1 + 1))))) (.ret 0 (.inr (.inl ())))
def T88 (a0 : List Int) (a1 : List Int) : TP (Bool) := .lp 2 (fun (v1 : Int) => (⟨[(0, .t (eL cInt (a0))), (1, .t (eL cInt (a1))), (5, tI v1)], []⟩ : St)) (fun (_ : Unit) => (⟨[], []⟩ : St)) 0 0 (T88_L0 a0 a1) fun _ => .ret 1 true
def G88 (a0 : List Int) (a1 : List Int) : Option (Bool) := (T88 a0 a1).den
theorem G88_ok (a0 : List Int) (a1 : List Int) : Con Tryz.prog 137 [.t (eL cInt (a0)), .t (eL cInt (a1))] (G88 a0 a1) (fun (y : Bool) => tB y) := con Tryz.func137 ti_ok (T88 a0 a1)
def T90_L0 (a0 : GNode) (a1 : List Int) (a2 : List Int) : Int → TP ((Int) ⊕ ((Unit) ⊕ (Bool)))
 | v1 => .ite 5 (decide (v1 < ((a0.Key.length : Int)))) (.dg 4 (0 ≤ v1 ∧ v1 < (a0.Key.length : Int)) <| .dg 6 (0 ≤ (a0.Key.getD (v1).toNat default) ∧ (a0.Key.getD (v1).toNat default) < (a1.length : Int)) <| .dg 12 (0 ≤ v1 ∧ v1 < (a0.Key2.length : Int)) <| .dg 14 (0 ≤ (a0.Key2.getD (v1).toNat default) ∧ (a0.Key2.getD (v1).toNat default) < (a2.length : Int)) <| .dr 0 0 [(3, false, [])] [1, 2, 3, 7, 15, 16, 17, 18, 19] <| .ite 0 ((a1.getD (a0.Key.getD (v1).toNat default).toNat default) != (a2.getD (a0.Key2.getD (v1).toNat default).toNat default)) (.ret 1 (.inr (.inr false))) (.ret 3 (.inl (IntKind.i64.wrap (v1 + 1))))) (.ret 0 (.inr (.inl ())))
def T90 (a0 : GNode) (a1 : List Int) (a2 : List Int) : TP (Bool) := .ite 9 (((a0.Key.length : Int)) != ((a0.Key2.length : Int))) (.ret 1 false) (.lp 1 (fun (v1 : Int) => (⟨[(1, .t (eL cInt (a1))), (2, .t (eL cInt (a2))), (3, .ptr 3 0), (7, tI v1)], [(3, bN a0)]⟩ : St)) (fun (_ : Unit) => (⟨[], []⟩ : St)) 0 0 (T90_L0 a0 a1 a2) fun _ => .ret 1 true)
def G90 (a0 : GNode) (a1 : List Int) (a2 : List Int) : Option (Bool) := (T90 a0 a1 a2).den
theorem G90_ok (a0 : GNode) (a1 : List Int) (a2 : List Int) : Con Tryz.prog 139 [.t (eGNode a0), .t (eL cInt (a1)), .t (eL cInt (a2))] (G90 a0 a1 a2) (fun (y : Bool) => tB y) := con Tryz.func139 ti_ok (T90 a0 a1 a2)
def T82_L1 (a0 : List GFunc) : Unit → TP ((Unit) ⊕ ((Unit) ⊕ ((Unit) ⊕ ((Unit) ⊕ (Bool)))))
 | _ => .ite 5 (decide ((0 : Int) < ((((a0.getD ((0 : Int)).toNat default).Params).length : Int)))) (.grd 4 (0 ≤ ((0 : Int)) ∧ ((0 : Int)) < (((a0.getD ((0 : Int)).toNat default).Params).length : Int)) <| .no) (.ret 0 (.inr (.inl ())))
def T82_L0 (a0 : List GFunc) : Unit → TP ((Unit) ⊕ ((Unit) ⊕ (Bool)))
 | _ => .jn 5 0 (fun (j1 : Bool) => (⟨[(0, .t (eL cGFunc (a0))), (3, tI 0), (15, tB j1)], []⟩ : St)) (.ite 0 (decide ((0 : Int) < ((a0.length : Int)))) (.ret 3 (decide ((0 : Int) ≤ 20))) (.ret 3 false)) fun j1 => .ite 0 (j1) (.grd 3 (0 ≤ ((0 : Int)) ∧ ((0 : Int)) < (a0.length : Int)) <| .lp 4 (fun (_ : Unit) => (⟨[(0, .t (eL cGFunc (a0))), (3, tI 0), (4, .ptr 4 0), (5, tI 0)], [(4, .box ((cGFunc (a0.getD ((0 : Int)).toNat default)).map .t))]⟩ : St)) (fun (_ : Unit) => (⟨[(0, .t (eL cGFunc (a0))), (3, tI 0), (4, .ptr 4 0)], [(4, .box ((cGFunc (a0.getD ((0 : Int)).toNat default)).map .t))]⟩ : St)) 2 () (T82_L1 a0) fun _ => .dg 2 (0 ≤ ((0 : Int)) ∧ ((0 : Int)) ≤ ((0 : Int)) ∧ ((0 : Int)) ≤ (a0.length : Int)) <| .no) (.ret 0 (.inr (.inl ())))
def T82 (a0 : List GFunc) : TP (Bool) := .lp 2 (fun (_ : Unit) => (⟨[(0, .t (eL cGFunc (a0))), (3, tI 0)], []⟩ : St)) (fun (_ : Unit) => (⟨[(0, .t (eL cGFunc (a0)))], []⟩ : St)) 0 () (T82_L0 a0) fun _ => .ret 4 (decide (((a0.length : Int)) ≤ 20))
def G82 (a0 : List GFunc) : Option (Bool) := (T82 a0).den
theorem G82_ok (a0 : List GFunc) : Con Tryz.prog 60 [.t (eL cGFunc (a0))] (G82 a0) (fun (y : Bool) => tB y) := con Tryz.func60 ti_ok (T82 a0)
def T84 (a0 : GNode) : TP (Int) := .ite 6 (a0.Op == 0) (.ret 1 0) (.jn 2 0 (fun (j1 : Bool) => (⟨[(7, tB j1)], []⟩ : St)) (.ite 0 (a0.Op == 3) (.ret 0 (a0.Op == 3)) (.jn 2 0 (fun (j2 : Bool) => (⟨[(7, tB j2)], []⟩ : St)) (.ite 0 (a0.Op == 6) (.ret 0 (a0.Op == 6)) (.ret 2 (a0.Op == 7))) fun j2 => .ret 0 j2)) fun j1 => .ite 0 (j1) (.ret 1 2) (.ret 1 1))
def G84 (a0 : GNode) : Option (Int) := (T84 a0).den
theorem G84_ok (a0 : GNode) : Con Tryz.prog 81 [.t (eGNode a0)] (G84 a0) (fun (y : Int) => tI y) := con Tryz.func81 ti_ok (T84 a0)
def T34_L0 (a1 : GNode) : Unit → TP ((Unit) ⊕ ((Unit) ⊕ (Bool)))
 | _ => .ite 5 (decide ((0 : Int) < ((a1.Exprs.length : Int)))) (.grd 6 (0 ≤ ((0 : Int)) ∧ ((0 : Int)) < (a1.Exprs.length : Int)) <| .no) (.ret 0 (.inr (.inl ())))
def T34_L1 (a1 : GNode) : Unit → TP ((Unit) ⊕ ((Unit) ⊕ (Bool)))
 | _ => .ite 5 (decide ((0 : Int) < ((a1.Seq.length : Int)))) (.grd 5 (0 ≤ ((0 : Int)) ∧ ((0 : Int)) < (a1.Seq.length : Int)) <| .no) (.ret 0 (.inr (.inl ())))
def T34 (a0 : List GFunc) (a1 : GNode) (a2 : List (List Int)) : TP (Bool) := .ca 3 (G82_ok a0) fun r1 => .jn 2 0 (fun (j2 : Bool) => (⟨[(0, .t (eL cGFunc (a0))), (2, .t (eL cL_cInt (a2))), (4, .ptr 4 0), (32, tB j2)], [(4, bN a1)]⟩ : St)) (.ite 0 (!r1) (.ret 16 true) (.ca 1 (G83_ok a1) fun r3 => .ite 3 (!r3) (.ret 11 true) (.ca 3 (G84_ok a1) fun r4 => .ite 3 (((a2.length : Int)) != r4) (.ret 4 true) (.ret 4 (((a2.length : Int)) == 0))))) fun j2 => .ite 0 (j2) (.ret 1 false) (.grd 2 (0 ≤ ((0 : Int)) ∧ ((0 : Int)) < (a2.length : Int)) <| .grd 7 (0 ≤ (IntKind.i64.wrap (((a2.length : Int)) - 1)) ∧ (IntKind.i64.wrap (((a2.length : Int)) - 1)) < (a2.length : Int)) <| .jn 6 0 (fun (j5 : Bool) => (⟨[(0, .t (eL cGFunc (a0))), (4, .ptr 4 0), (7, .t (eL cInt (a2.getD ((0 : Int)).toNat default))), (8, .t (eL cInt (a2.getD (IntKind.i64.wrap (((a2.length : Int)) - 1)).toNat default))), (59, tB j5)], [(4, bN a1)]⟩ : St)) (.ite 0 ((((a2.getD ((0 : Int)).toNat default).length : Int)) == 0) (.ret 14 true) (.ite 5 (decide ((((a2.getD ((0 : Int)).toNat default).length : Int)) > 12)) (.ret 9 true) (.ite 5 ((((a2.getD (IntKind.i64.wrap (((a2.length : Int)) - 1)).toNat default).length : Int)) == 0) (.ret 4 true) (.ret 4 (decide ((((a2.getD (IntKind.i64.wrap (((a2.length : Int)) - 1)).toNat default).length : Int)) > 12)))))) fun j5 => .ite 0 (j5) (.ret 1 false) (.ite 4 (a1.Op == 1) (.ite 5 (((a1.Exprs.length : Int)) == 1) (.grd 4 (0 ≤ ((0 : Int)) ∧ ((0 : Int)) < (a1.Exprs.length : Int)) <| .no) (.ret 9 false)) (.ite 2 (a1.Op == 2) (.lp 1 (fun (_ : Unit) => (⟨[(0, .t (eL cGFunc (a0))), (4, .ptr 4 0), (7, .t (eL cInt (a2.getD ((0 : Int)).toNat default))), (9, tI 0)], [(4, bN a1)]⟩ : St)) (fun (_ : Unit) => (⟨[(4, .ptr 4 0)], [(4, bN a1)]⟩ : St)) 1 () (T34_L0 a1) fun _ => .jn 5 0 (fun (j6 : Bool) => (⟨[(6, tB j6)], []⟩ : St)) (.ite 0 (decide (((a1.Exprs.length : Int)) ≥ 1)) (.ret 6 (decide (((a1.Exprs.length : Int)) ≤ 12))) (.ret 6 false)) fun j6 => .ret 0 j6) (.ite 2 (a1.Op == 3) (.no) (.ite 2 (a1.Op == 4) (.ca 3 (G88_ok a1.Key (a2.getD ((0 : Int)).toNat default)) fun r7 => .ite 1 (r7) (.no) (.ret 16 false)) (.ite 2 (a1.Op == 5) (.ca 3 (G88_ok a1.Key (a2.getD ((0 : Int)).toNat default)) fun r8 => .jn 1 0 (fun (j9 : Bool) => (⟨[(6, tB j9)], []⟩ : St)) (.ite 0 (r8) (.bs 2 false cInt ([a1.Step] : List Int) <| .ca 1 (G88_ok (([a1.Step] : List Int)) (a2.getD ((0 : Int)).toNat default)) fun r10 => .ret 2 r10) (.ret 7 false)) fun j9 => .ret 0 j9) (.jn 2 0 (fun (j11 : Bool) => (⟨[(0, .t (eL cGFunc (a0))), (4, .ptr 4 0), (7, .t (eL cInt (a2.getD ((0 : Int)).toNat default))), (8, .t (eL cInt (a2.getD (IntKind.i64.wrap (((a2.length : Int)) - 1)).toNat default))), (61, tI a1.Op), (149, tB j11)], [(4, bN a1)]⟩ : St)) (.ite 0 (a1.Op == 6) (.ret 0 (a1.Op == 6)) (.ret 2 (a1.Op == 7))) fun j11 => .ite 0 (j11) (.ca 3 (G88_ok a1.Key (a2.getD ((0 : Int)).toNat default)) fun r12 => .jn 1 0 (fun (j13 : Bool) => (⟨[(6, tB j13)], []⟩ : St)) (.ite 0 (r12) (.ca 3 (G88_ok a1.Key2 (a2.getD (IntKind.i64.wrap (((a2.length : Int)) - 1)).toNat default)) fun r14 => .ite 2 (r14) (.ca 3 (G90_ok a1 (a2.getD ((0 : Int)).toNat default) (a2.getD (IntKind.i64.wrap (((a2.length : Int)) - 1)).toNat default)) fun r15 => .ite 2 (r15) (.ret 8 (decide ((IntKind.i64.wrap ((((a2.getD ((0 : Int)).toNat default).length : Int)) + (((a2.getD (IntKind.i64.wrap (((a2.length : Int)) - 1)).toNat default).length : Int)))) ≤ 12))) (.ret 8 false)) (.ret 14 false)) (.ret 20 false)) fun j13 => .ret 0 j13) (.ite 2 (a1.Op == 8) (.lp 1 (fun (_ : Unit) => (⟨[(0, .t (eL cGFunc (a0))), (4, .ptr 4 0), (7, .t (eL cInt (a2.getD ((0 : Int)).toNat default))), (12, tI 0)], [(4, bN a1)]⟩ : St)) (fun (_ : Unit) => (⟨[(4, .ptr 4 0), (7, .t (eL cInt (a2.getD ((0 : Int)).toNat default)))], [(4, bN a1)]⟩ : St)) 3 () (T34_L1 a1) fun _ => .ca 3 (G88_ok a1.Key (a2.getD ((0 : Int)).toNat default)) fun r16 => .jn 1 0 (fun (j17 : Bool) => (⟨[(6, tB j17)], []⟩ : St)) (.ite 0 (r16) (.ret 6 (decide (((a1.Key.length : Int)) ≤ 10))) (.ret 6 false)) fun j17 => .ret 0 j17) (.ret 1 false)))))))))
def G34 (a0 : List GFunc) (a1 : GNode) (a2 : List (List Int)) : Option (Bool) := (T34 a0 a1 a2).den
theorem G34_ok (a0 : List GFunc) (a1 : GNode) (a2 : List (List Int)) : Con Tryz.prog 61 [.t (eL cGFunc (a0)), .t (eGNode a1), .t (eL cL_cInt (a2))] (G34 a0 a1 a2) (fun (y : Bool) => tB y) := con Tryz.func61 ti_ok (T34 a0 a1 a2)
def T8 (a0 : GNode) (a1 : List (List Int)) (a2 : List GAct) (a3 : Int) : TP (Bool) := .jn 6 0 (fun (j1 : Bool) => (⟨[(1, .t (eL cL_cInt (a1))), (2, .t (eL cGAct (a2))), (3, tI a3), (4, .ptr 4 0), (26, tB j1)], [(4, bN a0)]⟩ : St)) (.ite 0 (a0.Op != 6) (.ite 5 (a0.Op != 7) (.ret 9 true) (.ite 5 (((a1.length : Int)) != 2) (.ret 4 true) (.ca 1 (G33_ok (([] : List GFunc)) a0) fun r2 => .ret 2 (!r2)))) (.ite 10 (((a1.length : Int)) != 2) (.ret 4 true) (.ca 1 (G33_ok (([] : List GFunc)) a0) fun r3 => .ret 2 (!r3)))) fun j1 => .ite 0 (j1) (.ret 1 false) (.ca 2 (G34_ok (([] : List GFunc)) a0 a1) fun r4 => .jn 1 0 (fun (j5 : Bool) => (⟨[(8, tB j5)], []⟩ : St)) (.ite 0 (r4) (.ca 3 (G35_ok a1 a2 a3) fun r6 => .ret 2 r6) (.ret 6 false)) fun j5 => .ret 0 j5)
def G8 (a0 : GNode) (a1 : List (List Int)) (a2 : List GAct) (a3 : Int) : Option (Bool) := (T8 a0 a1 a2 a3).den
theorem G8_ok (a0 : GNode) (a1 : List (List Int)) (a2 : List GAct) (a3 : Int) : Con Tryz.prog 51 [.t (eGNode a0), .t (eL cL_cInt (a1)), .t (eL cGAct (a2)), tI a3] (G8 a0 a1 a2 a3) (fun (y : Bool) => tB y) := con Tryz.func51 ti_ok (T8 a0 a1 a2 a3)
def T137_L0 (a0 : LD) : Int → TP ((Int) ⊕ ((Unit) ⊕ (Bool)))
 | v1 => .ite 1 (decide (v1 < ((a0.length : Int)))) (.grd 2 (0 ≤ v1 ∧ v1 < (a0.length : Int)) <| .jn 4 0 (fun (j2 : Bool) => (⟨[(0, tD a0), (5, tD a0), (6, tI ((a0.length : Int))), (7, tI v1), (28, tB j2)], []⟩ : St)) (.dl 3 (((a0.getD (v1).toNat default).N) == 0) (.dr 0 0 [(4, false, [])] [0, 3, 4, 5, 6, 7, 8, 9, 10, 11] <| .ret 0 true) (.dl 6 (decide (v1 > 0)) (.dg 10 (0 ≤ (IntKind.i64.wrap (v1 - 1)) ∧ (IntKind.i64.wrap (v1 - 1)) < (a0.length : Int)) <| .dc 13 [.t (eGDelta (a0.getD (IntKind.i64.wrap (v1 - 1)).toNat default)), .t (eGDelta (a0.getD (v1).toNat default))] (G61_ok (a0.getD (IntKind.i64.wrap (v1 - 1)).toNat default) (a0.getD (v1).toNat default)) fun r3 => .dr 0 0 [(4, false, [])] [0, 3, 4, 5, 6, 7, 8, 9, 10, 11] <| .ret 0 (decide (r3 ≥ 0))) (.dr 0 0 [(4, false, [])] [0, 3, 4, 5, 6, 7, 8, 9, 10, 11] <| .ret 0 false))) fun j2 => .ite 0 (j2) (.ret 1 (.inr (.inr false))) (.ret 2 (.inl (IntKind.i64.wrap (v1 + 1))))) (.ret 0 (.inr (.inl ())))
def T137 (a0 : LD) : TP (Bool) := .lp 4 (fun (v1 : Int) => (⟨[(0, tD a0), (5, tD a0), (6, tI ((a0.length : Int))), (7, tI v1)], []⟩ : St)) (fun (_ : Unit) => (⟨[], []⟩ : St)) 0 0 (T137_L0 a0) fun _ => .ret 1 true
def G137 (a0 : LD) : Option (Bool) := (T137 a0).den
theorem G137_ok (a0 : LD) : Con Tryz.prog 54 [tD a0] (G137 a0) (fun (y : Bool) => tB y) := con Tryz.func54 ti_ok (T137 a0)
def T365_L0 (a0 : List GValue) (a1 : List Int) : ((List GValue) × Int) → TP (((List GValue) × Int) ⊕ (((List GValue)) ⊕ ((List GValue))))
 | (v1, v2) => .ite 1 (decide (v2 < ((a1.length : Int)))) (.grd 1 (0 ≤ v2 ∧ v2 < (a1.length : Int)) <| .grd 6 (0 ≤ (a1.getD (v2).toNat default) ∧ (a1.getD (v2).toNat default) < (a0.length : Int)) <| .bs 1 false cGValue ([a0.getD (a1.getD (v2).toNat default).toNat default] : List GValue) <| .grd 1 ((v1.length + (([a0.getD (a1.getD (v2).toNat default).toNat default] : List GValue)).length) * 32 ≤ 140737488355328) <| .cv 0 [.ap 24 cGValue v1 (([a0.getD (a1.getD (v2).toNat default).toNat default] : List GValue))] <| .cv 3 [.rn 24 5] <| .ret 0 (.inl (v1 ++ (([a0.getD (a1.getD (v2).toNat default).toNat default] : List GValue)), IntKind.i64.wrap (v2 + 1)))) (.ret 0 (.inr (.inl v1)))
def T365 (a0 : List GValue) (a1 : List Int) : TP ((List GValue)) := .mks 4 cGValue 32 (0 : Int) (IntKind.i64.wrap (((a1.length : Int)) + 2)) <| .cv 4 [.rn 11 5] <| .lp 0 (fun (s : (List GValue) × Int) => match s with | (v1, v2) => (⟨[(0, tV a0), (5, .own 5), (12, .t (eL cInt (a1))), (13, tI ((a1.length : Int))), (14, tI v2)], [(5, .arr 67 3 (v1.length) (eF cGValue v1))]⟩ : St)) (fun (b3 : (List GValue)) => (⟨[(5, .own 5)], [(5, .arr 67 3 (b3.length) (eF cGValue b3))]⟩ : St)) 0 (([] : List GValue), 0) (T365_L0 a0 a1) fun b3 => .cv 2 [.fr 5 (eL cGValue (b3))] <| .ret 0 b3
def G365 (a0 : List GValue) (a1 : List Int) : Option ((List GValue)) := (T365 a0 a1).den
theorem G365_ok (a0 : List GValue) (a1 : List Int) : Con Tryz.prog 174 [tV a0, .t (eL cInt (a1))] (G365 a0 a1) (fun (y : (List GValue)) => tV y) := con Tryz.func174 ti_ok (T365 a0 a1)
def T369 (a0 : GDelta) (a1 : GDelta) (a2 : Int) (a3 : Int) : TP (GDelta) := .bs 8 false cL_cGValue ([a0.Row, a1.Row] : List (List GValue)) <| .ca 0 (G193_ok (([a0.Row, a1.Row] : List (List GValue)))) fun r1 => .ret 3 (GDelta.mk a2 r1 a3)
def G369 (a0 : GDelta) (a1 : GDelta) (a2 : Int) (a3 : Int) : Option (GDelta) := (T369 a0 a1 a2 a3).den
theorem G369_ok (a0 : GDelta) (a1 : GDelta) (a2 : Int) (a3 : Int) : Con Tryz.prog 179 [.t (eGDelta a0), .t (eGDelta a1), tI a2, tI a3] (G369 a0 a1 a2 a3) (fun (y : GDelta) => .t (eGDelta y)) := con Tryz.func179 ti_ok (T369 a0 a1 a2 a3)
def T368s0_L0 (a0 : LD) (a1 : List Int) : ((List (ByteArray × LD)) × Int) → TP (((List (ByteArray × LD)) × Int) ⊕ (((List (ByteArray × LD))) ⊕ ((List (ByteArray × LD)))))
 | (v1, v2) => .ite 1 (decide (v2 < ((a0.length : Int)))) (.grd 1 (0 ≤ v2 ∧ v2 < (a0.length : Int)) <| .ca 6 (G365_ok ((a0.getD (v2).toNat default).Row) a1) fun r4 => .ca 0 (G120_ok r4) fun r5 => .lkr 5 50 3 (fun c : LD => c.length) (fun c : LD => eF cGDelta c) ([] : LD) (v1 : List (ByteArray × LD)) r5 <| .bs 1 false cGDelta ([a0.getD (v2).toNat default] : LD) <| .grd 1 ((((mlook (v1 : List (ByteArray × LD)) r5).getD ([] : LD)).length + (([a0.getD (v2).toNat default] : LD)).length) * 40 ≤ 140737488355328) <| .cv 0 [.ap 28 cGDelta ((mlook (v1 : List (ByteArray × LD)) r5).getD ([] : LD)) (([a0.getD (v2).toNat default] : LD))] <| .upd 0 (fun c : LD => Mem.row 50 3 c.length (eF cGDelta c)) (mdel v1 r5 : List (ByteArray × LD)) r5 <| .cv 2 [.fw 9 28 50 3 (fun c : LD => c.length) (fun c : LD => eF cGDelta c) (v1 : List (ByteArray × LD)) r5 (((mlook (v1 : List (ByteArray × LD)) r5).getD ([] : LD)) ++ (([a0.getD (v2).toNat default] : LD)) : LD)] <| .ret 0 (.inl (mput v1 r5 (((mlook (v1 : List (ByteArray × LD)) r5).getD ([] : LD)) ++ (([a0.getD (v2).toNat default] : LD)) : LD), IntKind.i64.wrap (v2 + 1)))) (.ret 0 (.inr (.inl v1)))
def T368s0 (a0 : LD) (a1 : List Int) : TP ((List (ByteArray × LD))) := .mk (K := ByteArray) 1 (fun c : LD => Mem.row 50 3 c.length (eF cGDelta c)) <| .lp 4 (fun (s : (List (ByteArray × LD)) × Int) => match s with | (v1, v2) => (⟨[(1, .t (eL cInt (a1))), (5, .map 9), (10, tD a0), (11, tI ((a0.length : Int))), (12, tI v2)], [(9, .mp none (eM (fun c : LD => Mem.row 50 3 c.length (eF cGDelta c)) (v1 : List (ByteArray × LD))) none)]⟩ : St)) (fun (b3 : (List (ByteArray × LD))) => (⟨[(5, .map 9)], [(9, .mp none (eM (fun c : LD => Mem.row 50 3 c.length (eF cGDelta c)) (b3 : List (ByteArray × LD))) none)]⟩ : St)) 0 (([] : List (ByteArray × LD)), 0) (T368s0_L0 a0 a1) fun b3 => .cv 2 [.rn 9 40000] <| .ret 0 b3
def G368s0 (a0 : LD) (a1 : List Int) : Option ((List (ByteArray × LD))) := (T368s0 a0 a1).den
theorem G368s0_ok (a0 : LD) (a1 : List Int) : ConH Tryz.prog 178 [tD a0, .t (eL cInt (a1))] [] [] (G368s0 a0 a1) (fun (y : (List (ByteArray × LD))) => .map 40000) (fun (y : (List (ByteArray × LD))) => [(40000, .mp none (eM (fun c : LD => Mem.row 50 3 c.length (eF cGDelta c)) (y : List (ByteArray × LD))) none)]) := conH Tryz.func178 ti_ok (T368s0 a0 a1)
def T349_L1 (a0 : GNode) (a1 : LD) (r1 : (List (ByteArray × LD))) (v3 : Int) (j8 : LD) (j9 : Int) : (LD × Int) → TP ((LD × Int) ⊕ ((LD) ⊕ ((LD × Int) ⊕ ((LD) ⊕ (LD)))))
 | (v11, v12) => .ite 1 (decide (v12 < j9)) (.grd 1 (0 ≤ v12 ∧ v12 < (j8.length : Int)) <| .jn 12 0 (fun (s : LD × Bool) => match s with | (j14, j15) => (⟨[(3, .ptr 3 0), (7, .own 7), (8, .map 16), (10, .ptr 10 0), (12, .ptr 12 0), (17, tD a1), (18, tI ((a1.length : Int))), (19, tI v3), (30, tD j8), (31, tI j9), (32, tI v12), (53, tB j15)], [(3, bN a0), (7, aD j14), (10, .box ((cGDelta (a1.getD (v3).toNat default)).map .t)), (12, .box ((cGDelta (j8.getD (v12).toNat default)).map .t)), (16, .mp none (eM (fun c : LD => Mem.d (eL cGDelta (c))) (r1 : List (ByteArray × LD))) none)]⟩ : St)) (.ite 0 (decide ((IntKind.i64.wrap (((a1.getD (v3).toNat default).Time) - a0.Before)) ≤ ((j8.getD (v12).toNat default).Time))) (.ret 9 (v11, decide (((j8.getD (v12).toNat default).Time) ≤ (IntKind.i64.wrap (((a1.getD (v3).toNat default).Time) + a0.After))))) (.ret 9 (v11, false))) fun (j14, j15) => .jn 0 0 (fun (j16 : LD) => (⟨[(3, .ptr 3 0), (7, .own 7), (8, .map 16), (10, .ptr 10 0), (17, tD a1), (18, tI ((a1.length : Int))), (19, tI v3), (30, tD j8), (31, tI j9), (32, tI v12)], [(3, bN a0), (7, aD j16), (10, .box ((cGDelta (a1.getD (v3).toNat default)).map .t)), (16, .mp none (eM (fun c : LD => Mem.d (eL cGDelta (c))) (r1 : List (ByteArray × LD))) none)]⟩ : St)) (.ite 0 (j15) (.ca 13 (G369_ok (a1.getD (v3).toNat default) (j8.getD (v12).toNat default) (if ((j8.getD (v12).toNat default).Time) > ((a1.getD (v3).toNat default).Time) then ((j8.getD (v12).toNat default).Time) else ((a1.getD (v3).toNat default).Time)) (IntKind.i64.wrap (((a1.getD (v3).toNat default).N) * ((j8.getD (v12).toNat default).N)))) fun r17 => .bs 0 false cGDelta ([r17] : LD) <| .grd 1 ((j14.length + (([r17] : LD)).length) * 40 ≤ 140737488355328) <| .cv 0 [.ap 69 cGDelta j14 (([r17] : LD))] <| .cv 1 [.rn 69 7] <| .ret 0 (j14 ++ (([r17] : LD)))) (.ret 0 j14)) fun j16 => .ret 2 (.inl (j16, IntKind.i64.wrap (v12 + 1)))) (.ret 0 (.inr (.inl v11)))
def T349_L0 (a0 : GNode) (a1 : LD) (r1 : (List (ByteArray × LD))) : (LD × Int) → TP ((LD × Int) ⊕ ((LD) ⊕ (LD)))
 | (v2, v3) => .ite 1 (decide (v3 < ((a1.length : Int)))) (.grd 1 (0 ≤ v3 ∧ v3 < (a1.length : Int)) <| .ca 8 (G365_ok ((a1.getD (v3).toNat default).Row) a0.Key) fun r5 => .ca 0 (G120_ok r5) fun r6 => .jn 0 0 (fun (s : LD × LD × Int) => match s with | (j7, j8, j9) => (⟨[(3, .ptr 3 0), (7, .own 7), (8, .map 16), (10, .ptr 10 0), (17, tD a1), (18, tI ((a1.length : Int))), (19, tI v3), (30, tD j8), (31, tI j9), (32, tI 0)], [(3, bN a0), (7, aD j7), (10, .box ((cGDelta (a1.getD (v3).toNat default)).map .t)), (16, .mp none (eM (fun c : LD => Mem.d (eL cGDelta (c))) (r1 : List (ByteArray × LD))) none)]⟩ : St)) (.lkd 0 (.slice none 0 0) (fun c : LD => eL cGDelta (c)) (r1 : List (ByteArray × LD)) r6 (.cv 2 [.sl 30 (eL cGDelta (([] : LD)))] <| .ret 0 (v2, ([] : LD), 0)) fun c10 => .ret 2 (v2, c10, (c10.length : Int))) fun (j7, j8, j9) => .lp 0 (fun (s : LD × Int) => match s with | (v11, v12) => (⟨[(3, .ptr 3 0), (7, .own 7), (8, .map 16), (10, .ptr 10 0), (17, tD a1), (18, tI ((a1.length : Int))), (19, tI v3), (30, tD j8), (31, tI j9), (32, tI v12)], [(3, bN a0), (7, aD v11), (10, .box ((cGDelta (a1.getD (v3).toNat default)).map .t)), (16, .mp none (eM (fun c : LD => Mem.d (eL cGDelta (c))) (r1 : List (ByteArray × LD))) none)]⟩ : St)) (fun (b13 : LD) => (⟨[(3, .ptr 3 0), (7, .own 7), (8, .map 16), (17, tD a1), (18, tI ((a1.length : Int))), (19, tI v3)], [(3, bN a0), (7, aD b13), (16, .mp none (eM (fun c : LD => Mem.d (eL cGDelta (c))) (r1 : List (ByteArray × LD))) none)]⟩ : St)) 2 (j7, 0) (T349_L1 a0 a1 r1 v3 j8 j9) fun b13 => .ret 2 (.inl (b13, IntKind.i64.wrap (v3 + 1)))) (.ret 0 (.inr (.inl v2)))
def T349 (a0 : GNode) (a1 : LD) (a2 : LD) : TP (LD) := .ch 6 [40000] (G368s0_ok a2 a0.Key2) fun r1 => .cv 0 [.rn 40000 16, .fz 16 50 3 (fun c : LD => c.length) (fun c : LD => eF cGDelta c) (fun c : LD => eL cGDelta (c)) (r1 : List (ByteArray × LD))] <| .cv 4 [.th 7 7 50 3 (eF cGDelta ([] : LD))] <| .lp 0 (fun (s : LD × Int) => match s with | (v2, v3) => (⟨[(3, .ptr 3 0), (7, .own 7), (8, .map 16), (17, tD a1), (18, tI ((a1.length : Int))), (19, tI v3)], [(3, bN a0), (7, aD v2), (16, .mp none (eM (fun c : LD => Mem.d (eL cGDelta (c))) (r1 : List (ByteArray × LD))) none)]⟩ : St)) (fun (b4 : LD) => (⟨[(7, .own 7)], [(7, aD b4)]⟩ : St)) 0 (([] : LD), 0) (T349_L0 a0 a1 r1) fun b4 => .cv 2 [.fr 7 (eL cGDelta (b4))] <| .ret 0 b4
def G349 (a0 : GNode) (a1 : LD) (a2 : LD) : Option (LD) := (T349 a0 a1 a2).den
theorem G349_ok (a0 : GNode) (a1 : LD) (a2 : LD) : Con Tryz.prog 88 [.t (eGNode a0), tD a1, tD a2] (G349 a0 a1 a2) (fun (y : LD) => tD y) := con Tryz.func88 ti_ok (T349 a0 a1 a2)
def T350_L1 (a0 : GNode) (a1 : LD) (r1 : (List (ByteArray × LD))) (v3 : Int) (j8 : LD) : (LD × Int) → TP ((LD × Int) ⊕ ((LD) ⊕ ((LD × Int) ⊕ ((LD) ⊕ (LD)))))
 | (v10, v11) => .ite 2 (decide (v11 ≥ 0)) (.grd 3 (0 ≤ v11 ∧ v11 < (j8.length : Int)) <| .ite 8 (decide (((j8.getD (v11).toNat default).Time) ≤ ((a1.getD (v3).toNat default).Time))) (.jn 8 0 (fun (j13 : LD) => (⟨[(3, .ptr 3 0), (7, .own 7), (8, .map 17), (18, tD a1), (19, tI ((a1.length : Int))), (20, tI v3)], [(3, bN a0), (7, aD j13), (17, .mp none (eM (fun c : LD => Mem.d (eL cGDelta (c))) (r1 : List (ByteArray × LD))) none)]⟩ : St)) (.ite 0 (decide (((j8.getD (v11).toNat default).Time) > (IntKind.i64.wrap (((a1.getD (v3).toNat default).Time) - a0.Keep)))) (.ca 7 (G369_ok (a1.getD (v3).toNat default) (j8.getD (v11).toNat default) ((a1.getD (v3).toNat default).Time) ((a1.getD (v3).toNat default).N)) fun r14 => .bs 0 false cGDelta ([r14] : LD) <| .grd 1 ((v10.length + (([r14] : LD)).length) * 40 ≤ 140737488355328) <| .cv 0 [.ap 65 cGDelta v10 (([r14] : LD))] <| .cv 1 [.rn 65 7] <| .ret 0 (v10 ++ (([r14] : LD)))) (.ret 0 v10)) fun j13 => .ret 0 (.inr (.inl j13))) (.ret 3 (.inl (v10, IntKind.i64.wrap (v11 - 1))))) (.ret 0 (.inr (.inl v10)))
def T350_L0 (a0 : GNode) (a1 : LD) (r1 : (List (ByteArray × LD))) : (LD × Int) → TP ((LD × Int) ⊕ ((LD) ⊕ (LD)))
 | (v2, v3) => .ite 1 (decide (v3 < ((a1.length : Int)))) (.grd 1 (0 ≤ v3 ∧ v3 < (a1.length : Int)) <| .ca 8 (G365_ok ((a1.getD (v3).toNat default).Row) a0.Key) fun r5 => .ca 0 (G120_ok r5) fun r6 => .jn 0 0 (fun (s : LD × LD) => match s with | (j7, j8) => (⟨[(3, .ptr 3 0), (7, .own 7), (8, .map 17), (10, .ptr 10 0), (11, tD j8), (18, tD a1), (19, tI ((a1.length : Int))), (20, tI v3)], [(3, bN a0), (7, aD j7), (10, .box ((cGDelta (a1.getD (v3).toNat default)).map .t)), (17, .mp none (eM (fun c : LD => Mem.d (eL cGDelta (c))) (r1 : List (ByteArray × LD))) none)]⟩ : St)) (.lkd 0 (.slice none 0 0) (fun c : LD => eL cGDelta (c)) (r1 : List (ByteArray × LD)) r6 (.cv 1 [.sl 11 (eL cGDelta (([] : LD)))] <| .ret 0 (v2, ([] : LD))) fun c9 => .ret 1 (v2, c9)) fun (j7, j8) => .lp 4 (fun (s : LD × Int) => match s with | (v10, v11) => (⟨[(3, .ptr 3 0), (7, .own 7), (8, .map 17), (10, .ptr 10 0), (11, tD j8), (12, tI v11), (18, tD a1), (19, tI ((a1.length : Int))), (20, tI v3)], [(3, bN a0), (7, aD v10), (10, .box ((cGDelta (a1.getD (v3).toNat default)).map .t)), (17, .mp none (eM (fun c : LD => Mem.d (eL cGDelta (c))) (r1 : List (ByteArray × LD))) none)]⟩ : St)) (fun (b12 : LD) => (⟨[(3, .ptr 3 0), (7, .own 7), (8, .map 17), (18, tD a1), (19, tI ((a1.length : Int))), (20, tI v3)], [(3, bN a0), (7, aD b12), (17, .mp none (eM (fun c : LD => Mem.d (eL cGDelta (c))) (r1 : List (ByteArray × LD))) none)]⟩ : St)) 2 (j7, IntKind.i64.wrap (((j8.length : Int)) - 1)) (T350_L1 a0 a1 r1 v3 j8) fun b12 => .ret 2 (.inl (b12, IntKind.i64.wrap (v3 + 1)))) (.ret 0 (.inr (.inl v2)))
def T350 (a0 : GNode) (a1 : LD) (a2 : LD) : TP (LD) := .ch 6 [40000] (G368s0_ok a2 a0.Key2) fun r1 => .cv 0 [.rn 40000 17, .fz 17 50 3 (fun c : LD => c.length) (fun c : LD => eF cGDelta c) (fun c : LD => eL cGDelta (c)) (r1 : List (ByteArray × LD))] <| .cv 4 [.th 7 7 50 3 (eF cGDelta ([] : LD))] <| .lp 0 (fun (s : LD × Int) => match s with | (v2, v3) => (⟨[(3, .ptr 3 0), (7, .own 7), (8, .map 17), (18, tD a1), (19, tI ((a1.length : Int))), (20, tI v3)], [(3, bN a0), (7, aD v2), (17, .mp none (eM (fun c : LD => Mem.d (eL cGDelta (c))) (r1 : List (ByteArray × LD))) none)]⟩ : St)) (fun (b4 : LD) => (⟨[(7, .own 7)], [(7, aD b4)]⟩ : St)) 0 (([] : LD), 0) (T350_L0 a0 a1 r1) fun b4 => .cv 2 [.fr 7 (eL cGDelta (b4))] <| .ret 0 b4
def G350 (a0 : GNode) (a1 : LD) (a2 : LD) : Option (LD) := (T350 a0 a1 a2).den
theorem G350_ok (a0 : GNode) (a1 : LD) (a2 : LD) : Con Tryz.prog 89 [.t (eGNode a0), tD a1, tD a2] (G350 a0 a1 a2) (fun (y : LD) => tD y) := con Tryz.func89 ti_ok (T350 a0 a1 a2)
def T373 (a0 : GDelta) (a1 : GDelta) : TP (Int) := .dc 4 [tI a0.Time, tI a1.Time] (G131_ok a0.Time a1.Time) fun r1 => .dc 9 [tV a0.Row, tV a1.Row] (G132_ok a0.Row a1.Row) fun r2 => .dc 11 [.t (.sl 2 (arrOf [.int .i64 (r1), .int .i64 (r2)] 1))] (G130_ok (([r1, r2] : List Int))) fun r3 => .dr 3 0 [(2, false, []), (3, false, [])] [0, 1, 2, 3] <| .ret 0 r3
def G373 (a0 : GDelta) (a1 : GDelta) : Option (Int) := (T373 a0 a1).den
theorem G373_ok (a0 : GDelta) (a1 : GDelta) : Con Tryz.prog 183 [.t (eGDelta a0), .t (eGDelta a1)] (G373 a0 a1) (fun (y : Int) => tI y) := con Tryz.func183 ti_ok (T373 a0 a1)
def T176s3_L1 (a1 : Int) (a2 : Int) (v2 : Int) : (LD × Int) → TP ((LD × Int) ⊕ ((LD) ⊕ ((LD × Int) ⊕ ((LD) ⊕ (LD)))))
 | (v4, v5) => .jn 0 0 (fun (j7 : Bool) => (⟨[(0, .own 30000), (1, tI a1), (2, tI a2), (3, .fn (.func 183) 0 []), (8, tI v2), (9, tI v5), (34, tB j7)], [(30000, aD v4)]⟩ : St)) (.dl 3 (decide (v5 > a1)) (.dg 7 (0 ≤ v5 ∧ v5 < (v4.length : Int)) <| .dg 8 ((v5).toNat < v4.length) <| .dg 12 (0 ≤ (IntKind.i64.wrap (v5 - 1)) ∧ (IntKind.i64.wrap (v5 - 1)) < (v4.length : Int)) <| .dg 13 ((IntKind.i64.wrap (v5 - 1)).toNat < v4.length) <| .dc 14 [.t (eGDelta (v4.getD (v5).toNat default)), .t (eGDelta (v4.getD (IntKind.i64.wrap (v5 - 1)).toNat default))] (G373_ok (v4.getD (v5).toNat default) (v4.getD (IntKind.i64.wrap (v5 - 1)).toNat default)) fun r8 => .dr 0 0 [(30000, false, [])] [0, 1, 2, 3, 8, 9] <| .ret 0 (decide (r8 < 0))) (.dr 0 0 [(30000, false, [])] [0, 1, 2, 3, 8, 9] <| .ret 0 false)) fun j7 => .ite 0 (j7) (.dg 8 (0 ≤ (IntKind.i64.wrap (v5 - 1)) ∧ (IntKind.i64.wrap (v5 - 1)) < (v4.length : Int)) <| .dg 9 ((IntKind.i64.wrap (v5 - 1)).toNat < v4.length) <| .dg 12 (0 ≤ v5 ∧ v5 < (v4.length : Int)) <| .dg 13 ((v5).toNat < v4.length) <| .dg 14 (0 ≤ v5 ∧ v5 < (v4.length : Int)) <| .dg 15 ((v5).toNat < v4.length) <| .dg 16 (0 ≤ (IntKind.i64.wrap (v5 - 1)) ∧ (IntKind.i64.wrap (v5 - 1)) < (v4.length : Int)) <| .dg 17 ((IntKind.i64.wrap (v5 - 1)).toNat < v4.length) <| .dr 0 0 [(30000, false, [15, 17])] [0, 1, 2, 3, 8, 9, 34] <| .sto 0 30000 cGDelta v4 [((v5).toNat, v4.getD (IntKind.i64.wrap (v5 - 1)).toNat default), ((IntKind.i64.wrap (v5 - 1)).toNat, v4.getD (v5).toNat default)] <| .ret 3 (.inl ((v4.set (v5).toNat (v4.getD (IntKind.i64.wrap (v5 - 1)).toNat default)).set (IntKind.i64.wrap (v5 - 1)).toNat (v4.getD (v5).toNat default), IntKind.i64.wrap (v5 - 1)))) (.ret 0 (.inr (.inl v4)))
def T176s3_L0 (a1 : Int) (a2 : Int) : (LD × Int) → TP ((LD × Int) ⊕ ((LD) ⊕ (LD)))
 | (v1, v2) => .ite 3 (decide (v2 < a2)) (.lp 2 (fun (s : LD × Int) => match s with | (v4, v5) => (⟨[(0, .own 30000), (1, tI a1), (2, tI a2), (3, .fn (.func 183) 0 []), (8, tI v2), (9, tI v5)], [(30000, aD v4)]⟩ : St)) (fun (b6 : LD) => (⟨[(0, .own 30000), (1, tI a1), (2, tI a2), (3, .fn (.func 183) 0 []), (8, tI v2)], [(30000, aD b6)]⟩ : St)) 2 (v1, v2) (T176s3_L1 a1 a2 v2) fun b6 => .ret 3 (.inl (b6, IntKind.i64.wrap (v2 + 1)))) (.ret 0 (.inr (.inl v1)))
def T176s3 (a1 : Int) (a2 : Int) (h30000 : LD) : TP (LD) := .lp 3 (fun (s : LD × Int) => match s with | (v1, v2) => (⟨[(0, .own 30000), (1, tI a1), (2, tI a2), (3, .fn (.func 183) 0 []), (8, tI v2)], [(30000, aD v1)]⟩ : St)) (fun (b3 : LD) => (⟨[], [(30000, aD b3)]⟩ : St)) 0 (h30000, IntKind.i64.wrap (a1 + 1)) (T176s3_L0 a1 a2) fun b3 => .ret 0 b3
def G176s3 (a1 : Int) (a2 : Int) (h30000 : LD) : Option (LD) := (T176s3 a1 a2 h30000).den
theorem G176s3_ok (a1 : Int) (a2 : Int) (h30000 : LD) : ConH Tryz.prog 271 [.own 30000, tI a1, tI a2, .fn (.func 183) 0 []] [(30000, aD h30000)] [30000] (G176s3 a1 a2 h30000) (fun (y : LD) => .tup []) (fun (y : LD) => [(30000, aD y)]) := conH Tryz.func271 ti_ok (T176s3 a1 a2 h30000)
def T211s1_L0 (a1 : Int) (a2 : Int) (a3 : Int) : (LD × Int) → TP ((LD × Int) ⊕ ((LD) ⊕ (LD)))
 | (v1, v2) => .ite 3 (decide (v2 < a3)) (.dg 12 (0 ≤ (IntKind.i64.wrap (a2 + v2)) ∧ (IntKind.i64.wrap (a2 + v2)) < (v1.length : Int)) <| .dg 13 ((IntKind.i64.wrap (a2 + v2)).toNat < v1.length) <| .dg 18 (0 ≤ (IntKind.i64.wrap (a1 + v2)) ∧ (IntKind.i64.wrap (a1 + v2)) < (v1.length : Int)) <| .dg 19 ((IntKind.i64.wrap (a1 + v2)).toNat < v1.length) <| .dg 20 (0 ≤ (IntKind.i64.wrap (a1 + v2)) ∧ (IntKind.i64.wrap (a1 + v2)) < (v1.length : Int)) <| .dg 21 ((IntKind.i64.wrap (a1 + v2)).toNat < v1.length) <| .dg 22 (0 ≤ (IntKind.i64.wrap (a2 + v2)) ∧ (IntKind.i64.wrap (a2 + v2)) < (v1.length : Int)) <| .dg 23 ((IntKind.i64.wrap (a2 + v2)).toNat < v1.length) <| .dr 0 0 [(30000, false, [21, 23])] [0, 1, 2, 3, 10, 11, 12, 13] <| .sto 0 30000 cGDelta v1 [((IntKind.i64.wrap (a1 + v2)).toNat, v1.getD (IntKind.i64.wrap (a2 + v2)).toNat default), ((IntKind.i64.wrap (a2 + v2)).toNat, v1.getD (IntKind.i64.wrap (a1 + v2)).toNat default)] <| .ret 3 (.inl ((v1.set (IntKind.i64.wrap (a1 + v2)).toNat (v1.getD (IntKind.i64.wrap (a2 + v2)).toNat default)).set (IntKind.i64.wrap (a2 + v2)).toNat (v1.getD (IntKind.i64.wrap (a1 + v2)).toNat default), IntKind.i64.wrap (v2 + 1)))) (.ret 0 (.inr (.inl v1)))
def T211s1 (a1 : Int) (a2 : Int) (a3 : Int) (h30000 : LD) : TP (LD) := .lp 1 (fun (s : LD × Int) => match s with | (v1, v2) => (⟨[(0, .own 30000), (1, tI a1), (2, tI a2), (3, tI a3), (10, tI v2)], [(30000, aD v1)]⟩ : St)) (fun (b3 : LD) => (⟨[], [(30000, aD b3)]⟩ : St)) 0 (h30000, 0) (T211s1_L0 a1 a2 a3) fun b3 => .ret 0 b3
def G211s1 (a1 : Int) (a2 : Int) (a3 : Int) (h30000 : LD) : Option (LD) := (T211s1 a1 a2 a3 h30000).den
theorem G211s1_ok (a1 : Int) (a2 : Int) (a3 : Int) (h30000 : LD) : ConH Tryz.prog 320 [.own 30000, tI a1, tI a2, tI a3, .fn (.func 183) 0 []] [(30000, aD h30000)] [30000] (G211s1 a1 a2 a3 h30000) (fun (y : LD) => .tup []) (fun (y : LD) => [(30000, aD y)]) := conH Tryz.func320 ti_ok (T211s1 a1 a2 a3 h30000)
def T195s1_L0 (a2 : Int) : (LD × Int × Int) → TP ((LD × Int × Int) ⊕ ((LD × Int) ⊕ (LD)))
 | (v1, v2, v3) => .ite 3 (v2 != v3) (.jn 3 0 (fun (s : LD × Int × Int) => match s with | (j6, j7, j8) => (⟨[(0, .own 30000), (2, tI a2), (4, .fn (.func 183) 0 []), (10, tI j7), (11, tI j8)], [(30000, aD j6)]⟩ : St)) (.ite 0 (decide (v2 > v3)) (.ch 7 [] (G211s1_ok (IntKind.i64.wrap (a2 - v2)) a2 v3 v1) fun r9 => .ret 4 (r9, IntKind.i64.wrap (v2 - v3), v3)) (.ch 11 [] (G211s1_ok (IntKind.i64.wrap (a2 - v2)) (IntKind.i64.wrap ((IntKind.i64.wrap (a2 + v3)) - v2)) v2 v1) fun r10 => .ret 4 (r10, v2, IntKind.i64.wrap (v3 - v2)))) fun (j6, j7, j8) => .ret 0 (.inl (j6, j7, j8))) (.ret 0 (.inr (.inl (v1, v2))))
def T195s1 (a1 : Int) (a2 : Int) (a3 : Int) (h30000 : LD) : TP (LD) := .lp 8 (fun (s : LD × Int × Int) => match s with | (v1, v2, v3) => (⟨[(0, .own 30000), (2, tI a2), (4, .fn (.func 183) 0 []), (10, tI v2), (11, tI v3)], [(30000, aD v1)]⟩ : St)) (fun (s : LD × Int) => match s with | (b4, b5) => (⟨[(0, .own 30000), (2, tI a2), (4, .fn (.func 183) 0 []), (10, tI b5)], [(30000, aD b4)]⟩ : St)) 0 (h30000, IntKind.i64.wrap (a2 - a1), IntKind.i64.wrap (a3 - a2)) (T195s1_L0 a2) fun (b4, b5) => .ch 7 [] (G211s1_ok (IntKind.i64.wrap (a2 - b5)) a2 b5 b4) fun r11 => .ret 0 r11
def G195s1 (a1 : Int) (a2 : Int) (a3 : Int) (h30000 : LD) : Option (LD) := (T195s1 a1 a2 a3 h30000).den
theorem G195s1_ok (a1 : Int) (a2 : Int) (a3 : Int) (h30000 : LD) : ConH Tryz.prog 294 [.own 30000, tI a1, tI a2, tI a3, .fn (.func 183) 0 []] [(30000, aD h30000)] [30000] (G195s1 a1 a2 a3 h30000) (fun (y : LD) => .tup []) (fun (y : LD) => [(30000, aD y)]) := conH Tryz.func294 ti_ok (T195s1 a1 a2 a3 h30000)
abbrev R177s1 := {f : (Int × Int × Int × LD) → Option (LD) // ∀ a : Int × Int × Int × LD, ConH Tryz.prog 272 [.own 30000, tI a.1, tI a.2.1, tI a.2.2.1, .fn (.func 183) 0 []] [(30000, .arr 50 3 (a.2.2.2.length) (eF cGDelta a.2.2.2))] [30000] (f a) (fun (y : LD) => .tup []) (fun (y : LD) => [(30000, aD y)])}
def T177s1_L0 (a1 : Int) (h30000 : LD) : (Int × Int) → TP ((Int × Int) ⊕ ((Int) ⊕ (LD)))
 | (v1, v2) => .ite 3 (decide (v1 < v2)) (.gd 5 (0 ≤ (1 : Int)) (by decide) <| .dg 3 (0 ≤ (IntKind.i64.wrap (shrI .u64 (IntKind.u64.wrap (IntKind.i64.wrap (v1 + v2))) 1)) ∧ (IntKind.i64.wrap (shrI .u64 (IntKind.u64.wrap (IntKind.i64.wrap (v1 + v2))) 1)) < (h30000.length : Int)) <| .dg 4 ((IntKind.i64.wrap (shrI .u64 (IntKind.u64.wrap (IntKind.i64.wrap (v1 + v2))) 1)).toNat < h30000.length) <| .dg 7 (0 ≤ a1 ∧ a1 < (h30000.length : Int)) <| .dg 8 ((a1).toNat < h30000.length) <| .dc 9 [.t (eGDelta (h30000.getD (IntKind.i64.wrap (shrI .u64 (IntKind.u64.wrap (IntKind.i64.wrap (v1 + v2))) 1)).toNat default)), .t (eGDelta (h30000.getD (a1).toNat default))] (G373_ok (h30000.getD (IntKind.i64.wrap (shrI .u64 (IntKind.u64.wrap (IntKind.i64.wrap (v1 + v2))) 1)).toNat default) (h30000.getD (a1).toNat default)) fun r4 => .dr 2 0 [(30000, false, [])] [0, 1, 4, 10, 11, 12, 31, 32, 33, 34, 35, 36, 37, 38, 39] <| .jn 0 0 (fun (s : Int × Int) => match s with | (j5, j6) => (⟨[(0, .own 30000), (1, tI a1), (4, .fn (.func 183) 0 []), (10, tI j5), (11, tI j6)], [(30000, aD h30000)]⟩ : St)) (.ite 0 (decide (r4 < 0)) (.ret 3 (IntKind.i64.wrap ((IntKind.i64.wrap (shrI .u64 (IntKind.u64.wrap (IntKind.i64.wrap (v1 + v2))) 1)) + 1), v2)) (.ret 2 (v1, IntKind.i64.wrap (shrI .u64 (IntKind.u64.wrap (IntKind.i64.wrap (v1 + v2))) 1)))) fun (j5, j6) => .ret 0 (.inl (j5, j6))) (.ret 0 (.inr (.inl v1)))
def T177s1_L1 (b3 : Int) : (LD × Int) → TP ((LD × Int) ⊕ ((LD) ⊕ (LD)))
 | (v7, v8) => .ite 4 (decide (v8 < (IntKind.i64.wrap (b3 - 1)))) (.dg 8 (0 ≤ (IntKind.i64.wrap (v8 + 1)) ∧ (IntKind.i64.wrap (v8 + 1)) < (v7.length : Int)) <| .dg 9 ((IntKind.i64.wrap (v8 + 1)).toNat < v7.length) <| .dg 12 (0 ≤ v8 ∧ v8 < (v7.length : Int)) <| .dg 13 ((v8).toNat < v7.length) <| .dg 14 (0 ≤ v8 ∧ v8 < (v7.length : Int)) <| .dg 15 ((v8).toNat < v7.length) <| .dg 16 (0 ≤ (IntKind.i64.wrap (v8 + 1)) ∧ (IntKind.i64.wrap (v8 + 1)) < (v7.length : Int)) <| .dg 17 ((IntKind.i64.wrap (v8 + 1)).toNat < v7.length) <| .dr 0 0 [(30000, false, [15, 17])] [0, 10, 13, 55, 56, 57, 58] <| .sto 0 30000 cGDelta v7 [((v8).toNat, v7.getD (IntKind.i64.wrap (v8 + 1)).toNat default), ((IntKind.i64.wrap (v8 + 1)).toNat, v7.getD (v8).toNat default)] <| .ret 3 (.inl ((v7.set (v8).toNat (v7.getD (IntKind.i64.wrap (v8 + 1)).toNat default)).set (IntKind.i64.wrap (v8 + 1)).toNat (v7.getD (v8).toNat default), IntKind.i64.wrap (v8 + 1)))) (.ret 0 (.inr (.inl v7)))
def T177s1_L2 (a2 : Int) (h30000 : LD) : (Int × Int) → TP ((Int × Int) ⊕ ((Int) ⊕ (LD)))
 | (v10, v11) => .ite 3 (decide (v10 < v11)) (.gd 5 (0 ≤ (1 : Int)) (by decide) <| .dg 3 (0 ≤ a2 ∧ a2 < (h30000.length : Int)) <| .dg 4 ((a2).toNat < h30000.length) <| .dg 7 (0 ≤ (IntKind.i64.wrap (shrI .u64 (IntKind.u64.wrap (IntKind.i64.wrap (v10 + v11))) 1)) ∧ (IntKind.i64.wrap (shrI .u64 (IntKind.u64.wrap (IntKind.i64.wrap (v10 + v11))) 1)) < (h30000.length : Int)) <| .dg 8 ((IntKind.i64.wrap (shrI .u64 (IntKind.u64.wrap (IntKind.i64.wrap (v10 + v11))) 1)).toNat < h30000.length) <| .dc 9 [.t (eGDelta (h30000.getD (a2).toNat default)), .t (eGDelta (h30000.getD (IntKind.i64.wrap (shrI .u64 (IntKind.u64.wrap (IntKind.i64.wrap (v10 + v11))) 1)).toNat default))] (G373_ok (h30000.getD (a2).toNat default) (h30000.getD (IntKind.i64.wrap (shrI .u64 (IntKind.u64.wrap (IntKind.i64.wrap (v10 + v11))) 1)).toNat default)) fun r13 => .dr 2 0 [(30000, false, [])] [0, 2, 4, 14, 15, 16, 83, 84, 85, 86, 87, 88, 89, 90, 91] <| .jn 0 0 (fun (s : Int × Int) => match s with | (j14, j15) => (⟨[(0, .own 30000), (2, tI a2), (4, .fn (.func 183) 0 []), (14, tI j14), (15, tI j15)], [(30000, aD h30000)]⟩ : St)) (.ite 0 (!(decide (r13 < 0))) (.ret 3 (IntKind.i64.wrap ((IntKind.i64.wrap (shrI .u64 (IntKind.u64.wrap (IntKind.i64.wrap (v10 + v11))) 1)) + 1), v11)) (.ret 2 (v10, IntKind.i64.wrap (shrI .u64 (IntKind.u64.wrap (IntKind.i64.wrap (v10 + v11))) 1)))) fun (j14, j15) => .ret 0 (.inl (j14, j15))) (.ret 0 (.inr (.inl v10)))
def T177s1_L3 (b12 : Int) : (LD × Int) → TP ((LD × Int) ⊕ ((LD) ⊕ (LD)))
 | (v16, v17) => .ite 3 (decide (v17 > b12)) (.dg 8 (0 ≤ (IntKind.i64.wrap (v17 - 1)) ∧ (IntKind.i64.wrap (v17 - 1)) < (v16.length : Int)) <| .dg 9 ((IntKind.i64.wrap (v17 - 1)).toNat < v16.length) <| .dg 12 (0 ≤ v17 ∧ v17 < (v16.length : Int)) <| .dg 13 ((v17).toNat < v16.length) <| .dg 14 (0 ≤ v17 ∧ v17 < (v16.length : Int)) <| .dg 15 ((v17).toNat < v16.length) <| .dg 16 (0 ≤ (IntKind.i64.wrap (v17 - 1)) ∧ (IntKind.i64.wrap (v17 - 1)) < (v16.length : Int)) <| .dg 17 ((IntKind.i64.wrap (v17 - 1)).toNat < v16.length) <| .dr 0 0 [(30000, false, [15, 17])] [0, 14, 17, 108, 109, 110] <| .sto 0 30000 cGDelta v16 [((v17).toNat, v16.getD (IntKind.i64.wrap (v17 - 1)).toNat default), ((IntKind.i64.wrap (v17 - 1)).toNat, v16.getD (v17).toNat default)] <| .ret 3 (.inl ((v16.set (v17).toNat (v16.getD (IntKind.i64.wrap (v17 - 1)).toNat default)).set (IntKind.i64.wrap (v17 - 1)).toNat (v16.getD (v17).toNat default), IntKind.i64.wrap (v17 - 1)))) (.ret 0 (.inr (.inl v16)))
def T177s1_L4 (a1 : Int) (a2 : Int) (a3 : Int) (h30000 : LD) : (Int × Int) → TP ((Int × Int) ⊕ ((Int) ⊕ (LD)))
 | (v21, v22) => .ite 3 (decide (v21 < v22)) (.gd 5 (0 ≤ (1 : Int)) (by decide) <| .dg 5 (0 ≤ (IntKind.i64.wrap ((IntKind.i64.wrap ((IntKind.i64.wrap ((IntKind.i64.wrap (shrI .u64 (IntKind.u64.wrap (IntKind.i64.wrap (a1 + a3))) 1)) + a2)) - 1)) - (IntKind.i64.wrap (shrI .u64 (IntKind.u64.wrap (IntKind.i64.wrap (v21 + v22))) 1)))) ∧ (IntKind.i64.wrap ((IntKind.i64.wrap ((IntKind.i64.wrap ((IntKind.i64.wrap (shrI .u64 (IntKind.u64.wrap (IntKind.i64.wrap (a1 + a3))) 1)) + a2)) - 1)) - (IntKind.i64.wrap (shrI .u64 (IntKind.u64.wrap (IntKind.i64.wrap (v21 + v22))) 1)))) < (h30000.length : Int)) <| .dg 6 ((IntKind.i64.wrap ((IntKind.i64.wrap ((IntKind.i64.wrap ((IntKind.i64.wrap (shrI .u64 (IntKind.u64.wrap (IntKind.i64.wrap (a1 + a3))) 1)) + a2)) - 1)) - (IntKind.i64.wrap (shrI .u64 (IntKind.u64.wrap (IntKind.i64.wrap (v21 + v22))) 1)))).toNat < h30000.length) <| .dg 9 (0 ≤ (IntKind.i64.wrap (shrI .u64 (IntKind.u64.wrap (IntKind.i64.wrap (v21 + v22))) 1)) ∧ (IntKind.i64.wrap (shrI .u64 (IntKind.u64.wrap (IntKind.i64.wrap (v21 + v22))) 1)) < (h30000.length : Int)) <| .dg 10 ((IntKind.i64.wrap (shrI .u64 (IntKind.u64.wrap (IntKind.i64.wrap (v21 + v22))) 1)).toNat < h30000.length) <| .dc 11 [.t (eGDelta (h30000.getD (IntKind.i64.wrap ((IntKind.i64.wrap ((IntKind.i64.wrap ((IntKind.i64.wrap (shrI .u64 (IntKind.u64.wrap (IntKind.i64.wrap (a1 + a3))) 1)) + a2)) - 1)) - (IntKind.i64.wrap (shrI .u64 (IntKind.u64.wrap (IntKind.i64.wrap (v21 + v22))) 1)))).toNat default)), .t (eGDelta (h30000.getD (IntKind.i64.wrap (shrI .u64 (IntKind.u64.wrap (IntKind.i64.wrap (v21 + v22))) 1)).toNat default))] (G373_ok (h30000.getD (IntKind.i64.wrap ((IntKind.i64.wrap ((IntKind.i64.wrap ((IntKind.i64.wrap (shrI .u64 (IntKind.u64.wrap (IntKind.i64.wrap (a1 + a3))) 1)) + a2)) - 1)) - (IntKind.i64.wrap (shrI .u64 (IntKind.u64.wrap (IntKind.i64.wrap (v21 + v22))) 1)))).toNat default) (h30000.getD (IntKind.i64.wrap (shrI .u64 (IntKind.u64.wrap (IntKind.i64.wrap (v21 + v22))) 1)).toNat default)) fun r24 => .dr 2 0 [(30000, false, [])] [0, 1, 2, 3, 4, 18, 19, 20, 21, 22, 23, 149, 150, 151, 152, 153, 154, 155, 156, 157] <| .jn 0 0 (fun (s : Int × Int) => match s with | (j25, j26) => (⟨[(0, .own 30000), (1, tI a1), (2, tI a2), (3, tI a3), (4, .fn (.func 183) 0 []), (18, tI (IntKind.i64.wrap (shrI .u64 (IntKind.u64.wrap (IntKind.i64.wrap (a1 + a3))) 1))), (19, tI (IntKind.i64.wrap ((IntKind.i64.wrap (shrI .u64 (IntKind.u64.wrap (IntKind.i64.wrap (a1 + a3))) 1)) + a2))), (20, tI j25), (21, tI j26), (22, tI (IntKind.i64.wrap ((IntKind.i64.wrap ((IntKind.i64.wrap (shrI .u64 (IntKind.u64.wrap (IntKind.i64.wrap (a1 + a3))) 1)) + a2)) - 1)))], [(30000, aD h30000)]⟩ : St)) (.ite 0 (!(decide (r24 < 0))) (.ret 3 (IntKind.i64.wrap ((IntKind.i64.wrap (shrI .u64 (IntKind.u64.wrap (IntKind.i64.wrap (v21 + v22))) 1)) + 1), v22)) (.ret 2 (v21, IntKind.i64.wrap (shrI .u64 (IntKind.u64.wrap (IntKind.i64.wrap (v21 + v22))) 1)))) fun (j25, j26) => .ret 0 (.inl (j25, j26))) (.ret 0 (.inr (.inl v21)))
def T177s1 (rec : R177s1) (a1 : Int) (a2 : Int) (a3 : Int) (h30000 : LD) : TP (LD) := .ite 4 ((IntKind.i64.wrap (a2 - a1)) == 1) (.lp 4 (fun (s : Int × Int) => match s with | (v1, v2) => (⟨[(0, .own 30000), (1, tI a1), (4, .fn (.func 183) 0 []), (10, tI v1), (11, tI v2)], [(30000, aD h30000)]⟩ : St)) (fun (b3 : Int) => (⟨[(0, .own 30000), (1, tI a1), (10, tI b3)], [(30000, aD h30000)]⟩ : St)) 0 (a2, a3) (T177s1_L0 a1 h30000) fun b3 => .lp 2 (fun (s : LD × Int) => match s with | (v7, v8) => (⟨[(0, .own 30000), (10, tI b3), (13, tI v8)], [(30000, aD v7)]⟩ : St)) (fun (b9 : LD) => (⟨[], [(30000, aD b9)]⟩ : St)) 2 (h30000, a1) (T177s1_L1 b3) fun b9 => .ret 0 b9) (.ite 4 ((IntKind.i64.wrap (a3 - a2)) == 1) (.lp 4 (fun (s : Int × Int) => match s with | (v10, v11) => (⟨[(0, .own 30000), (2, tI a2), (4, .fn (.func 183) 0 []), (14, tI v10), (15, tI v11)], [(30000, aD h30000)]⟩ : St)) (fun (b12 : Int) => (⟨[(0, .own 30000), (2, tI a2), (14, tI b12)], [(30000, aD h30000)]⟩ : St)) 4 (a1, a2) (T177s1_L2 a2 h30000) fun b12 => .lp 2 (fun (s : LD × Int) => match s with | (v16, v17) => (⟨[(0, .own 30000), (14, tI b12), (17, tI v17)], [(30000, aD v16)]⟩ : St)) (fun (b18 : LD) => (⟨[], [(30000, aD b18)]⟩ : St)) 6 (h30000, a2) (T177s1_L3 b12) fun b18 => .ret 0 b18) (.gd 5 (0 ≤ (1 : Int)) (by decide) <| .jn 11 0 (fun (s : Int × Int) => match s with | (j19, j20) => (⟨[(0, .own 30000), (1, tI a1), (2, tI a2), (3, tI a3), (4, .fn (.func 183) 0 []), (18, tI (IntKind.i64.wrap (shrI .u64 (IntKind.u64.wrap (IntKind.i64.wrap (a1 + a3))) 1))), (19, tI (IntKind.i64.wrap ((IntKind.i64.wrap (shrI .u64 (IntKind.u64.wrap (IntKind.i64.wrap (a1 + a3))) 1)) + a2))), (20, tI j19), (21, tI j20)], [(30000, aD h30000)]⟩ : St)) (.ite 0 (decide (a2 > (IntKind.i64.wrap (shrI .u64 (IntKind.u64.wrap (IntKind.i64.wrap (a1 + a3))) 1)))) (.ret 6 (IntKind.i64.wrap ((IntKind.i64.wrap ((IntKind.i64.wrap (shrI .u64 (IntKind.u64.wrap (IntKind.i64.wrap (a1 + a3))) 1)) + a2)) - a3), IntKind.i64.wrap (shrI .u64 (IntKind.u64.wrap (IntKind.i64.wrap (a1 + a3))) 1))) (.ret 4 (a1, a2))) fun (j19, j20) => .lp 3 (fun (s : Int × Int) => match s with | (v21, v22) => (⟨[(0, .own 30000), (1, tI a1), (2, tI a2), (3, tI a3), (4, .fn (.func 183) 0 []), (18, tI (IntKind.i64.wrap (shrI .u64 (IntKind.u64.wrap (IntKind.i64.wrap (a1 + a3))) 1))), (19, tI (IntKind.i64.wrap ((IntKind.i64.wrap (shrI .u64 (IntKind.u64.wrap (IntKind.i64.wrap (a1 + a3))) 1)) + a2))), (20, tI v21), (21, tI v22), (22, tI (IntKind.i64.wrap ((IntKind.i64.wrap ((IntKind.i64.wrap (shrI .u64 (IntKind.u64.wrap (IntKind.i64.wrap (a1 + a3))) 1)) + a2)) - 1)))], [(30000, aD h30000)]⟩ : St)) (fun (b23 : Int) => (⟨[(0, .own 30000), (1, tI a1), (2, tI a2), (3, tI a3), (4, .fn (.func 183) 0 []), (18, tI (IntKind.i64.wrap (shrI .u64 (IntKind.u64.wrap (IntKind.i64.wrap (a1 + a3))) 1))), (19, tI (IntKind.i64.wrap ((IntKind.i64.wrap (shrI .u64 (IntKind.u64.wrap (IntKind.i64.wrap (a1 + a3))) 1)) + a2))), (20, tI b23)], [(30000, aD h30000)]⟩ : St)) 8 (j19, j20) (T177s1_L4 a1 a2 a3 h30000) fun b23 => .jn 8 0 (fun (j27 : Bool) => (⟨[(0, .own 30000), (1, tI a1), (2, tI a2), (3, tI a3), (4, .fn (.func 183) 0 []), (18, tI (IntKind.i64.wrap (shrI .u64 (IntKind.u64.wrap (IntKind.i64.wrap (a1 + a3))) 1))), (20, tI b23), (24, tI (IntKind.i64.wrap ((IntKind.i64.wrap ((IntKind.i64.wrap (shrI .u64 (IntKind.u64.wrap (IntKind.i64.wrap (a1 + a3))) 1)) + a2)) - b23))), (185, tB j27)], [(30000, aD h30000)]⟩ : St)) (.ite 0 (decide (b23 < a2)) (.ret 4 (decide (a2 < (IntKind.i64.wrap ((IntKind.i64.wrap ((IntKind.i64.wrap (shrI .u64 (IntKind.u64.wrap (IntKind.i64.wrap (a1 + a3))) 1)) + a2)) - b23))))) (.ret 4 false)) fun j27 => .jn 0 0 (fun (j28 : LD) => (⟨[(0, .own 30000), (1, tI a1), (3, tI a3), (4, .fn (.func 183) 0 []), (18, tI (IntKind.i64.wrap (shrI .u64 (IntKind.u64.wrap (IntKind.i64.wrap (a1 + a3))) 1))), (20, tI b23), (24, tI (IntKind.i64.wrap ((IntKind.i64.wrap ((IntKind.i64.wrap (shrI .u64 (IntKind.u64.wrap (IntKind.i64.wrap (a1 + a3))) 1)) + a2)) - b23)))], [(30000, aD j28)]⟩ : St)) (.ite 0 (j27) (.ch 5 [] (G195s1_ok b23 a2 (IntKind.i64.wrap ((IntKind.i64.wrap ((IntKind.i64.wrap (shrI .u64 (IntKind.u64.wrap (IntKind.i64.wrap (a1 + a3))) 1)) + a2)) - b23)) h30000) fun r29 => .ret 0 r29) (.ret 0 h30000)) fun j28 => .jn 4 0 (fun (j30 : Bool) => (⟨[(0, .own 30000), (1, tI a1), (3, tI a3), (4, .fn (.func 183) 0 []), (18, tI (IntKind.i64.wrap (shrI .u64 (IntKind.u64.wrap (IntKind.i64.wrap (a1 + a3))) 1))), (20, tI b23), (24, tI (IntKind.i64.wrap ((IntKind.i64.wrap ((IntKind.i64.wrap (shrI .u64 (IntKind.u64.wrap (IntKind.i64.wrap (a1 + a3))) 1)) + a2)) - b23))), (199, tB j30)], [(30000, aD j28)]⟩ : St)) (.ite 0 (decide (a1 < b23)) (.ret 4 (decide (b23 < (IntKind.i64.wrap (shrI .u64 (IntKind.u64.wrap (IntKind.i64.wrap (a1 + a3))) 1))))) (.ret 4 false)) fun j30 => .jn 0 0 (fun (j31 : LD) => (⟨[(0, .own 30000), (3, tI a3), (4, .fn (.func 183) 0 []), (18, tI (IntKind.i64.wrap (shrI .u64 (IntKind.u64.wrap (IntKind.i64.wrap (a1 + a3))) 1))), (24, tI (IntKind.i64.wrap ((IntKind.i64.wrap ((IntKind.i64.wrap (shrI .u64 (IntKind.u64.wrap (IntKind.i64.wrap (a1 + a3))) 1)) + a2)) - b23)))], [(30000, aD j31)]⟩ : St)) (.ite 0 (j30) (.ch 5 [] (rec.2 (a1, b23, IntKind.i64.wrap (shrI .u64 (IntKind.u64.wrap (IntKind.i64.wrap (a1 + a3))) 1), j28)) fun r32 => .ret 0 r32) (.ret 0 j28)) fun j31 => .jn 4 0 (fun (j33 : Bool) => (⟨[(0, .own 30000), (3, tI a3), (4, .fn (.func 183) 0 []), (18, tI (IntKind.i64.wrap (shrI .u64 (IntKind.u64.wrap (IntKind.i64.wrap (a1 + a3))) 1))), (24, tI (IntKind.i64.wrap ((IntKind.i64.wrap ((IntKind.i64.wrap (shrI .u64 (IntKind.u64.wrap (IntKind.i64.wrap (a1 + a3))) 1)) + a2)) - b23))), (213, tB j33)], [(30000, aD j31)]⟩ : St)) (.ite 0 (decide ((IntKind.i64.wrap (shrI .u64 (IntKind.u64.wrap (IntKind.i64.wrap (a1 + a3))) 1)) < (IntKind.i64.wrap ((IntKind.i64.wrap ((IntKind.i64.wrap (shrI .u64 (IntKind.u64.wrap (IntKind.i64.wrap (a1 + a3))) 1)) + a2)) - b23)))) (.ret 4 (decide ((IntKind.i64.wrap ((IntKind.i64.wrap ((IntKind.i64.wrap (shrI .u64 (IntKind.u64.wrap (IntKind.i64.wrap (a1 + a3))) 1)) + a2)) - b23)) < a3))) (.ret 4 false)) fun j33 => .jn 0 0 (fun (j34 : LD) => (⟨[], [(30000, aD j34)]⟩ : St)) (.ite 0 (j33) (.ch 5 [] (rec.2 (IntKind.i64.wrap (shrI .u64 (IntKind.u64.wrap (IntKind.i64.wrap (a1 + a3))) 1), IntKind.i64.wrap ((IntKind.i64.wrap ((IntKind.i64.wrap (shrI .u64 (IntKind.u64.wrap (IntKind.i64.wrap (a1 + a3))) 1)) + a2)) - b23), a3, j31)) fun r35 => .ret 0 r35) (.ret 0 j31)) fun j34 => .ret 0 j34))
theorem T177s1_ok (rec : R177s1) (a1 : Int) (a2 : Int) (a3 : Int) (h30000 : LD) : ConH Tryz.prog 272 [.own 30000, tI a1, tI a2, tI a3, .fn (.func 183) 0 []] [(30000, aD h30000)] [30000] (T177s1 rec a1 a2 a3 h30000).den (fun (y : LD) => .tup []) (fun (y : LD) => [(30000, aD y)]) := conH Tryz.func272 ti_ok (T177s1 rec a1 a2 a3 h30000)
def H177s1 (a : Int × Int × Int × LD) : Option (LD) := fixF (C := fun (a : Int × Int × Int × LD) (x : Option (LD)) => ConH Tryz.prog 272 [.own 30000, tI a.1, tI a.2.1, tI a.2.2.1, .fn (.func 183) 0 []] [(30000, .arr 50 3 (a.2.2.2.length) (eF cGDelta a.2.2.2))] [30000] x (fun (y : LD) => .tup []) (fun (y : LD) => [(30000, aD y)])) (fun a => ⟨callable_of Tryz.func272 (by kernel_rfl), fun _ h => nomatch h⟩) (fun rec a => T177s1 rec a.1 a.2.1 a.2.2.1 a.2.2.2) (fun rec a => T177s1_ok rec a.1 a.2.1 a.2.2.1 a.2.2.2) a
theorem H177s1_ok (a : Int × Int × Int × LD) : ConH Tryz.prog 272 [.own 30000, tI a.1, tI a.2.1, tI a.2.2.1, .fn (.func 183) 0 []] [(30000, .arr 50 3 (a.2.2.2.length) (eF cGDelta a.2.2.2))] [30000] (H177s1 a) (fun (y : LD) => .tup []) (fun (y : LD) => [(30000, aD y)]) := fixF_ok (C := fun (a : Int × Int × Int × LD) (x : Option (LD)) => ConH Tryz.prog 272 [.own 30000, tI a.1, tI a.2.1, tI a.2.2.1, .fn (.func 183) 0 []] [(30000, .arr 50 3 (a.2.2.2.length) (eF cGDelta a.2.2.2))] [30000] x (fun (y : LD) => .tup []) (fun (y : LD) => [(30000, aD y)])) _ _ _ a
def G177s1 (a1 : Int) (a2 : Int) (a3 : Int) (h30000 : LD) : Option (LD) := H177s1 (a1, a2, a3, h30000)
theorem G177s1_ok (a1 : Int) (a2 : Int) (a3 : Int) (h30000 : LD) : ConH Tryz.prog 272 [.own 30000, tI a1, tI a2, tI a3, .fn (.func 183) 0 []] [(30000, aD h30000)] [30000] (G177s1 a1 a2 a3 h30000) (fun (y : LD) => .tup []) (fun (y : LD) => [(30000, aD y)]) := H177s1_ok (a1, a2, a3, h30000)
def T133s3_L0 (a1 : Int) : (LD × Int × Int) → TP ((LD × Int × Int) ⊕ ((LD × Int) ⊕ (LD)))
 | (v1, v2, v3) => .ite 3 (decide (v3 ≤ a1)) (.ch 4 [] (G176s3_ok v2 v3 v1) fun r6 => .ret 6 (.inl (r6, v3, IntKind.i64.wrap (v3 + 20)))) (.ret 0 (.inr (.inl (v1, v2))))
def T133s3_L2 (a1 : Int) (v9 : Int) : (LD × Int × Int) → TP ((LD × Int × Int) ⊕ ((LD × Int) ⊕ ((LD × Int) ⊕ ((LD) ⊕ (LD)))))
 | (v11, v12, v13) => .ite 3 (decide (v13 ≤ a1)) (.ch 7 [] (G177s1_ok v12 (IntKind.i64.wrap (v12 + v9)) v13 v11) fun r16 => .ret 7 (.inl (r16, v13, IntKind.i64.wrap (v13 + (IntKind.i64.wrap (2 * v9)))))) (.ret 0 (.inr (.inl (v11, v12))))
def T133s3_L1 (a1 : Int) : (LD × Int) → TP ((LD × Int) ⊕ ((LD) ⊕ (LD)))
 | (v8, v9) => .ite 3 (decide (v9 < a1)) (.lp 4 (fun (s : LD × Int × Int) => match s with | (v11, v12, v13) => (⟨[(0, .own 30000), (1, tI a1), (2, .fn (.func 183) 0 []), (6, tI v9), (7, tI v12), (8, tI v13)], [(30000, aD v11)]⟩ : St)) (fun (s : LD × Int) => match s with | (b14, b15) => (⟨[(0, .own 30000), (1, tI a1), (2, .fn (.func 183) 0 []), (6, tI v9), (7, tI b15)], [(30000, aD b14)]⟩ : St)) 4 (v8, 0, IntKind.i64.wrap (2 * v9)) (T133s3_L2 a1 v9) fun (b14, b15) => .jn 7 0 (fun (j17 : LD) => (⟨[(0, .own 30000), (1, tI a1), (2, .fn (.func 183) 0 []), (6, tI v9)], [(30000, aD j17)]⟩ : St)) (.ite 0 (decide ((IntKind.i64.wrap (b15 + v9)) < a1)) (.ch 5 [] (G177s1_ok b15 (IntKind.i64.wrap (b15 + v9)) a1 b14) fun r18 => .ret 0 r18) (.ret 0 b14)) fun j17 => .ret 3 (.inl (j17, IntKind.i64.wrap (v9 * 2)))) (.ret 0 (.inr (.inl v8)))
def T133s3 (a1 : Int) (h30000 : LD) : TP (LD) := .lp 4 (fun (s : LD × Int × Int) => match s with | (v1, v2, v3) => (⟨[(0, .own 30000), (1, tI a1), (2, .fn (.func 183) 0 []), (6, tI 20), (7, tI v2), (8, tI v3)], [(30000, aD v1)]⟩ : St)) (fun (s : LD × Int) => match s with | (b4, b5) => (⟨[(0, .own 30000), (1, tI a1), (2, .fn (.func 183) 0 []), (6, tI 20), (7, tI b5)], [(30000, aD b4)]⟩ : St)) 0 (h30000, 0, 20) (T133s3_L0 a1) fun (b4, b5) => .ch 4 [] (G176s3_ok b5 a1 b4) fun r7 => .lp 0 (fun (s : LD × Int) => match s with | (v8, v9) => (⟨[(0, .own 30000), (1, tI a1), (2, .fn (.func 183) 0 []), (6, tI v9)], [(30000, aD v8)]⟩ : St)) (fun (b10 : LD) => (⟨[], [(30000, aD b10)]⟩ : St)) 2 (r7, 20) (T133s3_L1 a1) fun b10 => .ret 0 b10
def G133s3 (a1 : Int) (h30000 : LD) : Option (LD) := (T133s3 a1 h30000).den
theorem G133s3_ok (a1 : Int) (h30000 : LD) : ConH Tryz.prog 214 [.own 30000, tI a1, .fn (.func 183) 0 []] [(30000, aD h30000)] [30000] (G133s3 a1 h30000) (fun (y : LD) => .tup []) (fun (y : LD) => [(30000, aD y)]) := conH Tryz.func214 ti_ok (T133s3 a1 h30000)
def T63s3 (h30000 : LD) : TP (LD) := .ch 4 [] (G133s3_ok ((h30000.length : Int)) h30000) fun r1 => .ret 0 r1
def G63s3 (h30000 : LD) : Option (LD) := (T63s3 h30000).den
theorem G63s3_ok (h30000 : LD) : ConH Tryz.prog 153 [.own 30000, .fn (.func 183) 0 []] [(30000, aD h30000)] [30000] (G63s3 h30000) (fun (y : LD) => .tup []) (fun (y : LD) => [(30000, aD y)]) := conH Tryz.func153 ti_ok (T63s3 h30000)
def T374 (a0 : GDelta) : TP (Bool) := .ret 6 (a0.N == 0)
def G374 (a0 : GDelta) : Option (Bool) := (T374 a0).den
theorem G374_ok (a0 : GDelta) : Con Tryz.prog 184 [.t (eGDelta a0)] (G374 a0) (fun (y : Bool) => tB y) := con Tryz.func184 ti_ok (T374 a0)
def T105s2_L0 (h30000 : LD) : Int → TP ((Int) ⊕ ((Unit) ⊕ (Int)))
 | v1 => .ite 1 (decide (v1 < ((h30000.length : Int)))) (.grd 6 (0 ≤ v1 ∧ v1 < (h30000.length : Int)) <| .grd 1 ((v1).toNat < h30000.length) <| .ca 0 (G374_ok (h30000.getD (v1).toNat default)) fun r2 => .ite 0 (r2) (.ret 2 (.inr (.inr v1))) (.ret 2 (.inl (IntKind.i64.wrap (v1 + 1))))) (.ret 0 (.inr (.inl ())))
def T105s2 (h30000 : LD) : TP (Int) := .lp 4 (fun (v1 : Int) => (⟨[(0, .own 30000), (1, .fn (.func 184) 0 []), (7, tI ((h30000.length : Int))), (8, tI v1)], [(30000, aD h30000)]⟩ : St)) (fun (_ : Unit) => (⟨[], [(30000, aD h30000)]⟩ : St)) 0 0 (T105s2_L0 h30000) fun _ => .ret 1 (-1)
def G105s2 (h30000 : LD) : Option (Int) := (T105s2 h30000).den
theorem G105s2_ok (h30000 : LD) : ConH Tryz.prog 165 [.own 30000, .fn (.func 184) 0 []] [(30000, aD h30000)] [30000] (G105s2 h30000) (fun (y : Int) => tI y) (fun (y : Int) => [(30000, aD h30000)]) := conH Tryz.func165 ti_ok (T105s2 h30000)
def T41s4_L0 : (LD × Int × Int) → TP ((LD × Int × Int) ⊕ ((LD × Int) ⊕ (LD)))
 | (v2, v3, v4) => .ite 4 (decide (v4 < ((v2.length : Int)))) (.grd 3 (0 ≤ v4 ∧ v4 < (v2.length : Int)) <| .grd 1 ((v4).toNat < v2.length) <| .ca 4 (G374_ok (v2.getD (v4).toNat default)) fun r7 => .jn 1 0 (fun (s : LD × Int) => match s with | (j8, j9) => (⟨[(0, .own 0), (1, .fn (.func 184) 0 []), (5, tI j9), (6, tI v4)], [(0, aD j8)]⟩ : St)) (.ite 0 (!r7) (.grd 4 (0 ≤ v3 ∧ v3 < (v2.length : Int)) <| .grd 1 ((v3).toNat < v2.length) <| .sto 0 0 cGDelta v2 [((v3).toNat, v2.getD (v4).toNat default)] <| .ret 3 (v2.set (v3).toNat (v2.getD (v4).toNat default), IntKind.i64.wrap (v3 + 1))) (.ret 0 (v2, v3))) fun (j8, j9) => .ret 3 (.inl (j8, j9, IntKind.i64.wrap (v4 + 1)))) (.ret 0 (.inr (.inl (v2, v3))))
def T41s4 (h30000 : LD) : TP (LD) := .ch 3 [] (G105s2_ok h30000) fun r1 => .ite 3 (r1 == ((-1))) (.cv 2 [.fr 30000 (eL cGDelta (h30000))] <| .ret 0 h30000) (.cv 3 [.rn 30000 0] <| .lp 0 (fun (s : LD × Int × Int) => match s with | (v2, v3, v4) => (⟨[(0, .own 0), (1, .fn (.func 184) 0 []), (5, tI v3), (6, tI v4)], [(0, aD v2)]⟩ : St)) (fun (s : LD × Int) => match s with | (b5, b6) => (⟨[(0, .own 0), (5, tI b6)], [(0, aD b5)]⟩ : St)) 0 (h30000, r1, IntKind.i64.wrap (r1 + 1)) T41s4_L0 fun (b5, b6) => .clr 2 cGDelta b5 b6 <| .cut 2 cGDelta (b5.take b6.toNat ++ List.replicate (b5.length - b6.toNat) default) b6 <| .cv 1 [.fr 41 (eL cGDelta ((b5.take b6.toNat ++ List.replicate (b5.length - b6.toNat) default).take b6.toNat))] <| .ret 0 ((b5.take b6.toNat ++ List.replicate (b5.length - b6.toNat) default).take b6.toNat))
def G41s4 (h30000 : LD) : Option (LD) := (T41s4 h30000).den
theorem G41s4_ok (h30000 : LD) : ConH Tryz.prog 74 [.own 30000, .fn (.func 184) 0 []] [(30000, aD h30000)] [] (G41s4 h30000) (fun (y : LD) => tD y) (fun (y : LD) => []) := conH Tryz.func74 ti_ok (T41s4 h30000)
def T353_L0 (r2 : LD) : (LD × LD × Int) → TP ((LD × LD × Int) ⊕ ((LD) ⊕ (LD)))
 | (v3, v4, v5) => .ite 1 (decide (v5 < ((r2.length : Int)))) (.jn 0 2 (fun (s : LD × LD) => match s with | (j7, j8) => (⟨[(3, .own 3), (11, .own 11), (12, tI ((r2.length : Int))), (13, tI v5)], [(3, aD j7), (11, aD j8)]⟩ : St)) (.grd 1 (0 ≤ v5 ∧ v5 < (v4.length : Int)) <| .grd 1 ((v5).toNat < v4.length) <| .jn 5 0 (fun (s : LD × LD × Bool) => match s with | (j9, j10, j11) => (⟨[(3, .own 3), (5, .ptr 5 0), (6, tI ((v3.length : Int))), (11, .own 11), (12, tI ((r2.length : Int))), (13, tI v5), (30, tB j11)], [(3, aD j9), (5, .box ((cGDelta (v4.getD (v5).toNat default)).map .t)), (11, aD j10)]⟩ : St)) (.dl 2 (decide (((v3.length : Int)) > 0)) (.dg 6 (0 ≤ (IntKind.i64.wrap (((v3.length : Int)) - 1)) ∧ (IntKind.i64.wrap (((v3.length : Int)) - 1)) < (v3.length : Int)) <| .dg 7 ((IntKind.i64.wrap (((v3.length : Int)) - 1)).toNat < v3.length) <| .dc 9 [.t (eGDelta (v3.getD (IntKind.i64.wrap (((v3.length : Int)) - 1)).toNat default)), .t (eGDelta (v4.getD (v5).toNat default))] (G373_ok (v3.getD (IntKind.i64.wrap (((v3.length : Int)) - 1)).toNat default) (v4.getD (v5).toNat default)) fun r12 => .dr 0 0 [(3, false, []), (5, false, []), (11, false, [])] [3, 5, 6, 11, 12, 13, 14, 15, 16, 17, 18] <| .ret 0 (v3, v4, r12 == 0)) (.dr 0 0 [(3, false, []), (5, false, []), (11, false, [])] [3, 5, 6, 11, 12, 13, 14, 15, 16, 17, 18] <| .ret 0 (v3, v4, false))) fun (j9, j10, j11) => .ite 0 (j11) (.dg 3 (0 ≤ (IntKind.i64.wrap (((v3.length : Int)) - 1)) ∧ (IntKind.i64.wrap (((v3.length : Int)) - 1)) < (j9.length : Int)) <| .dg 5 ((IntKind.i64.wrap (((v3.length : Int)) - 1)).toNat < j9.length) <| .dg 9 (0 ≤ (IntKind.i64.wrap (((v3.length : Int)) - 1)) ∧ (IntKind.i64.wrap (((v3.length : Int)) - 1)) < (j9.length : Int)) <| .dg 11 ((IntKind.i64.wrap (((v3.length : Int)) - 1)).toNat < j9.length) <| .dr 0 0 [(3, false, [11]), (5, false, []), (11, false, [])] [3, 5, 6, 11, 12, 13, 30] <| .sto 0 3 cGDelta j9 [((IntKind.i64.wrap (((v3.length : Int)) - 1)).toNat, (GDelta.mk ((j9.getD (IntKind.i64.wrap (((v3.length : Int)) - 1)).toNat default).Time) ((j9.getD (IntKind.i64.wrap (((v3.length : Int)) - 1)).toNat default).Row) (IntKind.i64.wrap (((j9.getD (IntKind.i64.wrap (((v3.length : Int)) - 1)).toNat default).N) + ((v4.getD (v5).toNat default).N)))))] <| .ret 0 (j9.set (IntKind.i64.wrap (((v3.length : Int)) - 1)).toNat ((GDelta.mk ((j9.getD (IntKind.i64.wrap (((v3.length : Int)) - 1)).toNat default).Time) ((j9.getD (IntKind.i64.wrap (((v3.length : Int)) - 1)).toNat default).Row) (IntKind.i64.wrap (((j9.getD (IntKind.i64.wrap (((v3.length : Int)) - 1)).toNat default).N) + ((v4.getD (v5).toNat default).N))))), j10)) (.ch 2 [40000] (G64s0_ok ((v4.getD (v5).toNat default).Row)) fun r13 => .cv 0 [.rn 40000 44] <| .cv 3 [.fr 44 (eL cGValue (r13))] <| .bs 1 true cGDelta ([(GDelta.mk ((v4.getD (v5).toNat default).Time) r13 ((v4.getD (v5).toNat default).N))] : LD) <| .grd 1 ((j9.length + (([(GDelta.mk ((v4.getD (v5).toNat default).Time) r13 ((v4.getD (v5).toNat default).N))] : LD)).length) * 40 ≤ 140737488355328) <| .cv 0 [.ap 49 cGDelta j9 (([(GDelta.mk ((v4.getD (v5).toNat default).Time) r13 ((v4.getD (v5).toNat default).N))] : LD))] <| .cv 1 [.rn 49 3] <| .ret 0 (j9 ++ (([(GDelta.mk ((v4.getD (v5).toNat default).Time) r13 ((v4.getD (v5).toNat default).N))] : LD)), j10))) fun (j7, j8) => .ret 2 (.inl (j7, j8, IntKind.i64.wrap (v5 + 1)))) (.ret 0 (.inr (.inl v3)))
def T353 (a0 : LD) : TP (LD) := .ch 2 [40000] (G42s0_ok a0) fun r1 => .cv 0 [.rn 40000 8] <| .cv 2 [.rn 8 30000] <| .ch 0 [] (G63s3_ok r1) fun r2 => .cv 4 [.th 3 3 50 3 (eF cGDelta ([] : LD)), .rn 30000 11] <| .lp 0 (fun (s : LD × LD × Int) => match s with | (v3, v4, v5) => (⟨[(3, .own 3), (11, .own 11), (12, tI ((r2.length : Int))), (13, tI v5)], [(3, aD v3), (11, aD v4)]⟩ : St)) (fun (b6 : LD) => (⟨[(3, .own 3)], [(3, aD b6)]⟩ : St)) 0 (([] : LD), r2, 0) (T353_L0 r2) fun b6 => .cv 1 [.rn 3 30000] <| .ch 0 [] (G41s4_ok b6) fun r14 => .ret 1 r14
def G353 (a0 : LD) : Option (LD) := (T353 a0).den
theorem G353_ok (a0 : LD) : Con Tryz.prog 92 [tD a0] (G353 a0) (fun (y : LD) => tD y) := con Tryz.func92 ti_ok (T353 a0)
def T325s2_L0 (a1 : GNode) (h30002 : List LD) : Unit → TP ((Unit) ⊕ ((Unit) ⊕ (LD)))
 | _ => .ite 1 (decide ((0 : Int) < (((h30002.getD ((0 : Int)).toNat default).length : Int)))) (.grd 1 (0 ≤ ((0 : Int)) ∧ ((0 : Int)) < ((h30002.getD ((0 : Int)).toNat default).length : Int)) <| .dg 3 (0 ≤ ((0 : Int)) ∧ ((0 : Int)) < (a1.Exprs.length : Int)) <| .no) (.ret 0 (.inr (.inl ())))
def T325s2 (a0 : List GFunc) (a1 : GNode) (h30002 : List LD) : TP (LD) := .jn 7 0 (fun (j1 : LD) => (⟨[(7, tD j1)], [(30002, .arr 37 1 (h30002.length) (eF cL_cGDelta h30002))]⟩ : St)) (.ite 0 (a1.Op == 1) (.grd 2 (0 ≤ ((0 : Int)) ∧ ((0 : Int)) < (h30002.length : Int)) <| .grd 1 (((0 : Int)).toNat < h30002.length) <| .lp 2 (fun (_ : Unit) => (⟨[(0, .t (eL cGFunc (a0))), (4, .ptr 4 0), (7, .nil), (18, tD (h30002.getD ((0 : Int)).toNat default)), (19, tI (((h30002.getD ((0 : Int)).toNat default).length : Int))), (20, tI 0)], [(4, bN a1), (30002, .arr 37 1 (h30002.length) (eF cL_cGDelta h30002))]⟩ : St)) (fun (_ : Unit) => (⟨[(7, .nil)], [(30002, .arr 37 1 (h30002.length) (eF cL_cGDelta h30002))]⟩ : St)) 1 () (T325s2_L0 a1 h30002) fun _ => .cv 0 [.sl 7 (eL cGDelta (([] : LD)))] <| .ret 0 ([] : LD)) (.ite 2 (a1.Op == 2) (.dg 4 (0 ≤ ((0 : Int)) ∧ ((0 : Int)) < (h30002.length : Int)) <| .dg 5 (((0 : Int)).toNat < h30002.length) <| .no) (.jn 2 0 (fun (j2 : LD) => (⟨[(7, tD j2)], [(30002, .arr 37 1 (h30002.length) (eF cL_cGDelta h30002))]⟩ : St)) (.ite 0 (a1.Op == 3) (.dg 1 (0 ≤ ((0 : Int)) ∧ ((0 : Int)) < (h30002.length : Int)) <| .dg 2 (((0 : Int)).toNat < h30002.length) <| .dg 4 (0 ≤ ((1 : Int)) ∧ ((1 : Int)) < (h30002.length : Int)) <| .dg 5 (((1 : Int)).toNat < h30002.length) <| .dc 7 [.t (.sl 2 (arrOf [eL cGDelta (h30002.getD ((0 : Int)).toNat default), eL cGDelta (h30002.getD ((1 : Int)).toNat default)] 1))] (G39_ok (([h30002.getD ((0 : Int)).toNat default, h30002.getD ((1 : Int)).toNat default] : List LD))) fun r3 => .dr 0 0 [(4, false, []), (30002, false, [])] [0, 1, 2, 4, 6, 12, 13, 14, 15, 41, 42, 50, 51] <| .ret 0 r3) (.ite 2 (a1.Op == 4) (.dg 2 (0 ≤ ((0 : Int)) ∧ ((0 : Int)) < (h30002.length : Int)) <| .dg 3 (((0 : Int)).toNat < h30002.length) <| .no) (.ite 2 (a1.Op == 5) (.dg 2 (0 ≤ ((0 : Int)) ∧ ((0 : Int)) < (h30002.length : Int)) <| .dg 3 (((0 : Int)).toNat < h30002.length) <| .no) (.jn 2 0 (fun (j4 : LD) => (⟨[(7, tD j4)], [(30002, .arr 37 1 (h30002.length) (eF cL_cGDelta h30002))]⟩ : St)) (.ite 0 (a1.Op == 6) (.dg 2 (0 ≤ ((0 : Int)) ∧ ((0 : Int)) < (h30002.length : Int)) <| .dg 3 (((0 : Int)).toNat < h30002.length) <| .dg 5 (0 ≤ ((1 : Int)) ∧ ((1 : Int)) < (h30002.length : Int)) <| .dg 6 (((1 : Int)).toNat < h30002.length) <| .dc 7 [.t (eGNode a1), tD (h30002.getD ((0 : Int)).toNat default), tD (h30002.getD ((1 : Int)).toNat default)] (G349_ok a1 (h30002.getD ((0 : Int)).toNat default) (h30002.getD ((1 : Int)).toNat default)) fun r5 => .dr 0 0 [(4, false, []), (30002, false, [])] [0, 1, 2, 4, 6, 12, 13, 14, 15, 41, 42, 50, 51, 60, 61, 67, 68, 74, 75] <| .ret 0 r5) (.jn 2 0 (fun (j6 : LD) => (⟨[(7, tD j6)], [(30002, .arr 37 1 (h30002.length) (eF cL_cGDelta h30002))]⟩ : St)) (.ite 0 (a1.Op == 7) (.dg 2 (0 ≤ ((0 : Int)) ∧ ((0 : Int)) < (h30002.length : Int)) <| .dg 3 (((0 : Int)).toNat < h30002.length) <| .dg 5 (0 ≤ ((1 : Int)) ∧ ((1 : Int)) < (h30002.length : Int)) <| .dg 6 (((1 : Int)).toNat < h30002.length) <| .dc 7 [.t (eGNode a1), tD (h30002.getD ((0 : Int)).toNat default), tD (h30002.getD ((1 : Int)).toNat default)] (G350_ok a1 (h30002.getD ((0 : Int)).toNat default) (h30002.getD ((1 : Int)).toNat default)) fun r7 => .dr 0 0 [(4, false, []), (30002, false, [])] [0, 1, 2, 4, 6, 12, 13, 14, 15, 41, 42, 50, 51, 60, 61, 67, 68, 74, 75, 84, 85] <| .ret 0 r7) (.ite 2 (a1.Op == 8) (.dg 1 (0 ≤ ((0 : Int)) ∧ ((0 : Int)) < (h30002.length : Int)) <| .dg 2 (((0 : Int)).toNat < h30002.length) <| .no) (.cv 0 [.sl 7 (eL cGDelta (([] : LD)))] <| .ret 0 ([] : LD)))) fun j6 => .ret 0 j6)) fun j4 => .ret 0 j4)))) fun j2 => .ret 0 j2))) fun j1 => .ca 1 (G353_ok j1) fun r8 => .ret 1 r8
def G325s2 (a0 : List GFunc) (a1 : GNode) (h30002 : List LD) : Option (LD) := (T325s2 a0 a1 h30002).den
theorem G325s2_ok (a0 : List GFunc) (a1 : GNode) (h30002 : List LD) : ConH Tryz.prog 34 [.t (eL cGFunc (a0)), .t (eGNode a1), .own 30002] [(30002, .arr 37 1 (h30002.length) (eF cL_cGDelta h30002))] [30002] (G325s2 a0 a1 h30002) (fun (y : LD) => tD y) (fun (y : LD) => [(30002, .arr 37 1 (h30002.length) (eF cL_cGDelta h30002))]) := conH Tryz.func34 ti_ok (T325s2 a0 a1 h30002)
def T11s0 (a1 : GAct) (h30000_0 : GNode) (h30000_1 : Int) (h30001 : LS) : TP (LD × (LS) × Int) := .ite 6 ((bitA .i64 a1.Do 3) == 3) (.ch 3 [] (G32s0_ok a1.C h30000_0 h30000_1 h30001) fun r1 => .cv 1 [.sl 4 (eL cGDelta (([] : LD)))] <| .ret 0 (([] : LD), r1.1, r1.2)) (.ch 6 [] (G25s0_ok (bitA .i64 a1.Do 1) a1.L h30000_0 h30000_1 h30001) fun r2 => .ret 1 (r2.1, r2.2, h30000_1))
def G11s0 (a1 : GAct) (h30000_0 : GNode) (h30000_1 : Int) (h30001 : LS) : Option (LD × (LS) × Int) := (T11s0 a1 h30000_0 h30000_1 h30001).den
theorem G11s0_ok (a1 : GAct) (h30000_0 : GNode) (h30000_1 : Int) (h30001 : LS) : ConH Tryz.prog 53 [.ptr 30000 0, .t (eGAct a1)] [(30000, bOp h30000_0 30001 h30000_1), (30001, mM (h30001 : LS))] [30000, 30001] (G11s0 a1 h30000_0 h30000_1 h30001) (fun (y : LD × (LS) × Int) => tD y.1) (fun (y : LD × (LS) × Int) => [(30000, bOp h30000_0 30001 y.2.2), (30001, mM (y.2.1 : LS))]) := conH Tryz.func53 ti_ok (T11s0 a1 h30000_0 h30000_1 h30001)
def T309_L0 (a0 : GNode) (a2 : List GAct) (r1 : Bool) (r3 : GNode × Int × (LS)) : ((LS) × Int × LD × (List LD) × Int) → TP (((LS) × Int × LD × (List LD) × Int) ⊕ ((Unit) ⊕ (Bool)))
 | (v4, v5, v6, v7, v8) => .ite 4 (decide (v8 < ((a2.length : Int)))) (.grd 4 (0 ≤ v8 ∧ v8 < (a2.length : Int)) <| .ch 1 [] (G11s0_ok (a2.getD (v8).toNat default) r3.1 v5 v4) fun r9 => .ca 2 (G137_ok r9.1) fun r10 => .ite 1 (!r10) (.ret 1 (.inr (.inr false))) (.ca 2 (G12_ok v6 r9.1) fun r11 => .grd 4 (0 ≤ v8 ∧ v8 < (a2.length : Int)) <| .jn 4 0 (fun (j12 : (List LD)) => (⟨[(2, .t (eL cGAct (a2))), (3, .ptr 3 0), (7, tB r1), (8, .ptr 30000 0), (9, tD r11), (10, .own 10), (11, tI v8)], [(3, bN a0), (10, .arr 37 1 (j12.length) (eF cL_cGDelta j12)), (30000, bOp r3.1 30001 r9.2.2), (30001, mM (r9.2.1 : LS))]⟩ : St)) (.ite 0 ((bitA .i64 ((a2.getD (v8).toNat default).Do) 3) != 3) (.dg 3 (0 ≤ v8 ∧ v8 < (a2.length : Int)) <| .dg 10 (0 ≤ v8 ∧ v8 < (a2.length : Int)) <| .dg 14 (0 ≤ (bitA .i64 ((a2.getD (v8).toNat default).Do) 1) ∧ (bitA .i64 ((a2.getD (v8).toNat default).Do) 1) < (v7.length : Int)) <| .dg 15 ((bitA .i64 ((a2.getD (v8).toNat default).Do) 1).toNat < v7.length) <| .dg 18 (0 ≤ v8 ∧ v8 < (a2.length : Int)) <| .dc 21 [tD (v7.getD (bitA .i64 ((a2.getD (v8).toNat default).Do) 1).toNat default), tD ((a2.getD (v8).toNat default).L)] (G12_ok (v7.getD (bitA .i64 ((a2.getD (v8).toNat default).Do) 1).toNat default) ((a2.getD (v8).toNat default).L)) fun r13 => .dg 22 (0 ≤ (bitA .i64 ((a2.getD (v8).toNat default).Do) 1) ∧ (bitA .i64 ((a2.getD (v8).toNat default).Do) 1) < (v7.length : Int)) <| .dg 23 ((bitA .i64 ((a2.getD (v8).toNat default).Do) 1).toNat < v7.length) <| .dr 0 0 [(3, false, []), (10, false, [23]), (30000, false, []), (30001, false, [])] [2, 3, 7, 8, 9, 10, 11, 12, 25, 26, 27, 28, 31, 32, 33, 34, 35, 36, 37, 38, 39, 40, 41, 42, 43, 44, 45, 46, 47, 48, 49] <| .sto 0 10 cL_cGDelta v7 [((bitA .i64 ((a2.getD (v8).toNat default).Do) 1).toNat, r13)] <| .ret 0 (v7.set (bitA .i64 ((a2.getD (v8).toNat default).Do) 1).toNat r13)) (.ret 0 v7)) fun j12 => .cv 3 [.rn 10 30002] <| .ch 0 [] (G325s2_ok (([] : List GFunc)) a0 j12) fun r14 => .ca 0 (G26_ok r11 r14) fun r15 => .ite 1 (!r15) (.ret 1 (.inr (.inr false))) (.cv 3 [.rn 30002 10] <| .ret 0 (.inl (r9.2.1, r9.2.2, r11, j12, IntKind.i64.wrap (v8 + 1)))))) (.ret 0 (.inr (.inl ())))
def T309 (a0 : GNode) (a1 : List (List Int)) (a2 : List GAct) : TP (Bool) := .ca 2 (G7_ok) fun r1 => .ca 4 (G8_ok a0 a1 a2 30) fun r2 => .ite 1 (!r2) (.ret 2 r1) (.ch 1 [40000, 41001] (G9s0_ok a0) fun r3 => .cv 0 [.rn 40000 21, .rn 41001 17101] <| .bs 5 true cL_cGDelta ([([] : LD), ([] : LD)] : List LD) <| .cv 2 [.rn 21 30000, .rn 17101 30001] <| .cv 0 [.sl 9 (eL cGDelta (([] : LD))), .rn 24 10] <| .lp 0 (fun (s : (LS) × Int × LD × (List LD) × Int) => match s with | (v4, v5, v6, v7, v8) => (⟨[(2, .t (eL cGAct (a2))), (3, .ptr 3 0), (7, tB r1), (8, .ptr 30000 0), (9, tD v6), (10, .own 10), (11, tI v8)], [(3, bN a0), (10, .arr 37 1 (v7.length) (eF cL_cGDelta v7)), (30000, bOp r3.1 30001 v5), (30001, mM (v4 : LS))]⟩ : St)) (fun (_ : Unit) => (⟨[(7, tB r1)], []⟩ : St)) 0 (r3.2.2, r3.2.1, ([] : LD), ([([] : LD), ([] : LD)] : List LD), 0) (T309_L0 a0 a2 r1 r3) fun _ => .ret 2 r1)
def G309 (a0 : GNode) (a1 : List (List Int)) (a2 : List GAct) : Option (Bool) := (T309 a0 a1 a2).den
theorem G309_ok (a0 : GNode) (a1 : List (List Int)) (a2 : List GAct) : Con Tryz.prog 12 [.t (eGNode a0), .t (eL cL_cInt (a1)), .t (eL cGAct (a2))] (G309 a0 a1 a2) (fun (y : Bool) => tB y) := con Tryz.func12 ti_ok (T309 a0 a1 a2)
end
end Go.PL
namespace Go.PL
open Go
def Sq {α : Type} (b : Bool) (x : Option α) (Q : α → Prop) : Prop := (∀ y, x = some y → Q y) ∧ (b = true → x.isSome = true)
abbrev Sp {α : Type} (x : Option α) (Q : α → Prop) : Prop := Sq true x Q
section
variable {α β : Type} {b : Bool}
theorem sq_some {y : α} {Q : α → Prop} : Sq b (some y) Q ↔ Q y := ⟨fun h => h.1 y rfl, fun h => ⟨fun z hz => by cases hz; exact h, fun _ => rfl⟩⟩
theorem sq_none {Q : α → Prop} : Sq b (none : Option α) Q ↔ b = false := ⟨fun h => by cases b with | false => rfl | true => exact absurd (h.2 rfl) (by simp), fun h => ⟨fun _ hz => (by cases hz), fun hb => (by rw [h] at hb; cases hb)⟩⟩
theorem sq_bind {x : Option α} {f : α → Option β} {Q : β → Prop} : Sq b (x.bind f) Q ↔ Sq b x (fun r => Sq b (f r) Q) := by
 cases x with
 | none => exact sq_none.trans sq_none.symm
 | some r => exact (sq_some (Q := fun r => Sq b (f r) Q)).symm
theorem sq_grd {c : Prop} [Decidable c] {x : Option α} {Q : α → Prop} (hc : c) (h : Sq b x Q) : Sq b (if c then x else none) Q := by rw [if_pos hc]; exact h
theorem Sq.imp {x : Option α} {P Q : α → Prop} (h : Sq b x P) (hq : ∀ y, P y → Q y) : Sq b x Q := ⟨fun y hy => hq y (h.1 y hy), h.2⟩
theorem Sq.of_eq {x : Option α} {y : α} {Q : α → Prop} (h : x = some y) (hq : Q y) : Sq b x Q := by rw [h]; exact sq_some.2 hq
theorem Sp.get {x : Option α} {Q : α → Prop} (h : Sp x Q) : ∃ y, x = some y ∧ Q y := by
 obtain ⟨y, hy⟩ := Option.isSome_iff_exists.1 (h.2 rfl)
 exact ⟨y, hy, h.1 y hy⟩
theorem Sp.of {x : Option α} {Q : α → Prop} (h : ∃ y, x = some y ∧ Q y) : Sq b x Q := by obtain ⟨y, h1, h2⟩ := h; exact .of_eq h1 h2
theorem Sp.eq {x : Option α} {y : α} (h : Sp x (fun z => z = y)) : x = some y := by obtain ⟨z, h1, rfl⟩ := h.get; exact h1
theorem Sq.bind {x : Option α} {f : α → Option β} {Q : β → Prop} (P : α → Prop) (h : Sq b x P) (h' : ∀ y, P y → Sq b (f y) Q) : Sq b (x.bind f) Q := sq_bind.2 (h.imp h')
theorem sq_iteB {c : Bool} {x y : Option α} {Q : α → Prop} (h : c = true → Sq b x Q) (h' : c = false → Sq b y Q) : Sq b (if c = true then x else y) Q := by
 cases c with
 | true => exact h rfl
 | false => exact h' rfl
end
theorem bneF {a b : Int} (h : a = b) : ¬ ((a != b) = true) := by simp [h]
theorem bneT {a b : Int} (h : a ≠ b) : (a != b) = true := by simpa using h
theorem beqF {a b : Int} (h : a ≠ b) : ¬ ((a == b) = true) := by simpa using h
theorem beqT {a b : Int} (h : a = b) : (a == b) = true := by simpa using h
theorem decF {p : Prop} [Decidable p] (h : ¬ p) : ¬ (decide p = true) := by simpa using h
theorem decT {p : Prop} [Decidable p] (h : p) : decide p = true := by simpa using h
section
variable {S R : Type} {b : Bool} {bd : S → Option (S ⊕ R)}
theorem Sq.while (I : S → Prop) (μ : S → Nat) {Q : R → Prop} (h : ∀ s, I s → Sq b (bd s) (sel (fun s' => I s' ∧ μ s' < μ s) Q)) {s : S} (hs : I s) : Sq b (whileM bd s) Q := by
 have : ∀ (k : Nat) (s : S), μ s ≤ k → I s → Sq b (whileM bd s) Q := by
  intro k
  induction k with
  | zero =>
   intro s hk hs
   have h1 := h s hs
   rw [whileM_eq]
   cases hb : bd s with
   | none => rw [hb] at h1; exact sq_none.2 (sq_none.1 h1)
   | some z =>
    rw [hb] at h1
    have h2 := sq_some.1 h1
    cases z with
    | inl s' => exact absurd h2.2 (by omega)
    | inr r => exact sq_some.2 h2
  | succ k ih =>
   intro s hk hs
   have h1 := h s hs
   rw [whileM_eq]
   cases hb : bd s with
   | none => rw [hb] at h1; exact sq_none.2 (sq_none.1 h1)
   | some z =>
    rw [hb] at h1
    have h2 := sq_some.1 h1
    cases z with
    | inl s' => exact ih s' (by have := h2.2; omega) h2.1
    | inr r => exact sq_some.2 h2
 exact this (μ s) s (Nat.le_refl _) hs
theorem while_trace (f : Nat → S) (n : Nat) {r : R} (h : ∀ i, i < n → bd (f i) = some (.inl (f (i + 1)))) (h' : bd (f n) = some (.inr r)) : whileM bd (f 0) = some r := by
 have : ∀ k, k ≤ n → whileM bd (f (n - k)) = some r := by
  intro k
  induction k with
  | zero => intro _; exact whileM_stop h'
  | succ k ih =>
   intro hk
   rw [whileM_next (h (n - (k + 1)) (by omega)), show n - (k + 1) + 1 = n - k by omega]
   exact ih (by omega)
 simpa using this n (Nat.le_refl n)
theorem LoopT_ind {t : S → (S ⊕ R → Prop) → Prop} (ht : ∀ s {Q Q' : S ⊕ R → Prop}, (∀ z, Q z → Q' z) → t s Q → t s Q') (I : S → Prop) (μ : S → Nat) {Q : R → Prop} (h : ∀ s, I s → t s (sel (fun s' => I s' ∧ μ s' < μ s) Q)) {s : S} (hs : I s) : Tr.LoopT t Q s := by
 intro X hX
 have : ∀ (k : Nat) (s : S), μ s ≤ k → I s → X s := by
  intro k
  induction k with
  | zero =>
   intro s hk hs
   refine hX s (ht s (fun z hz => ?_) (h s hs))
   cases z with
   | inl s' => exact absurd hz.2 (by omega)
   | inr r => exact hz
  | succ k ih =>
   intro s hk hs
   refine hX s (ht s (fun z hz => ?_) (h s hs))
   cases z with
   | inl s' => exact ih s' (by have := hz.2; omega) hz.1
   | inr r => exact hz
 exact this (μ s) s (Nat.le_refl _) hs
end
section
variable {P : Program} {A R : Type}
theorem fixN_sq {C : A → Option R → Prop} (c0 : ∀ a, C a none) (B : {f : A → Option R // ∀ a, C a (f a)} → A → Tr P R) (ok : ∀ f a, C a (B f a).den) (I : A → Prop) (μ : A → Nat) (Q : A → R → Prop)
  (h : ∀ b f a, I a → (∀ a', I a' → μ a' < μ a → Sq b (f.1 a') (Q a')) → Sq b (B f a).den (Q a)) : ∀ n a, I a → Sq (decide (μ a < n)) ((fixN c0 B ok n).1 a) (Q a) := by
 intro n
 induction n with
 | zero => intro a ha; exact ⟨fun y hy => (by cases hy), fun hb => by simp at hb⟩
 | succ n ih =>
  intro a ha
  refine h _ _ a ha fun a' ha' hm => ?_
  have h1 := ih a' ha'
  exact ⟨h1.1, fun hb => h1.2 (by simp at hb ⊢; omega)⟩
theorem fixF_sq {C : A → Option R → Prop} (c0 : ∀ a, C a none) (B : {f : A → Option R // ∀ a, C a (f a)} → A → Tr P R) (ok : ∀ f a, C a (B f a).den) (I : A → Prop) (μ : A → Nat) (Q : A → R → Prop)
  (h : ∀ b f a, I a → (∀ a', I a' → μ a' < μ a → Sq b (f.1 a') (Q a')) → Sq b (B f a).den (Q a)) (b : Bool) (a : A) (ha : I a) : Sq b (fixF c0 B ok a) (Q a) := by
 have h1 := fixN_sq c0 B ok I μ Q h
 unfold fixF Lim
 split
 ·rename_i hh
  obtain ⟨n, hn⟩ := hh.choose_spec
  exact sq_some.2 ((h1 n a ha).1 _ hn)
 ·rename_i hh
  exfalso
  have h2 := h1 (μ a + 1) a ha
  obtain ⟨y, hy⟩ := Option.isSome_iff_exists.1 (h2.2 (by simp))
  exact hh ⟨y, _, hy⟩
end
end Go.PL
namespace Go.PL
open Go
theorem wrap_def (n : Int) : IntKind.i64.wrap n = (n + 9223372036854775808) % 18446744073709551616 - 9223372036854775808 := by
 simp only [IntKind.wrap, IntKind.bits, IntKind.signed]
 simp
 omega
theorem wrap_id {n : Int} (h1 : -9223372036854775808 ≤ n) (h2 : n ≤ 9223372036854775807) : IntKind.i64.wrap n = n := by
 rw [wrap_def]; omega
theorem wrap_in (n : Int) : -9223372036854775808 ≤ IntKind.i64.wrap n ∧ IntKind.i64.wrap n ≤ 9223372036854775807 := by
 rw [wrap_def]; omega
theorem wrap_wrap (n : Int) : IntKind.i64.wrap (IntKind.i64.wrap n) = IntKind.i64.wrap n := wrap_id (wrap_in n).1 (wrap_in n).2
theorem wrap_addL (a c : Int) : IntKind.i64.wrap (IntKind.i64.wrap a + c) = IntKind.i64.wrap (a + c) := by simp only [wrap_def]; omega
theorem wrap_addR (a c : Int) : IntKind.i64.wrap (a + IntKind.i64.wrap c) = IntKind.i64.wrap (a + c) := by simp only [wrap_def]; omega
theorem wrap_nat {n : Nat} (h : n ≤ 9223372036854775807) : IntKind.i64.wrap (n : Int) = n := wrap_id (by omega) (by omega)
theorem wrap_inc {n : Nat} (h : n < 9223372036854775807) : IntKind.i64.wrap ((n : Int) + 1) = ((n + 1 : Nat) : Int) := by rw [wrap_id] <;> omega
theorem wrap_dec {n : Nat} (h : n < 9223372036854775807) : IntKind.i64.wrap (((n + 1 : Nat) : Int) - 1) = (n : Int) := by rw [wrap_id] <;> omega
theorem wrap_sub {n m : Nat} (h : m ≤ n) (hn : n ≤ 9223372036854775807) : IntKind.i64.wrap ((n : Int) - (m : Int)) = ((n - m : Nat) : Int) := by rw [wrap_id] <;> omega
theorem wrap_add {n m : Nat} (h : n + m ≤ 9223372036854775807) : IntKind.i64.wrap ((n : Int) + (m : Int)) = ((n + m : Nat) : Int) := by rw [wrap_id] <;> omega
theorem uwrap_id {n : Int} (h1 : 0 ≤ n) (h2 : n ≤ 9223372036854775807) : IntKind.u64.wrap n = n := by
 simp only [IntKind.wrap, IntKind.bits, IntKind.signed]
 simp
 omega
theorem mid_eq {i j : Nat} (h : i + j ≤ 9223372036854775807) : IntKind.i64.wrap (shrI .u64 (IntKind.u64.wrap (IntKind.i64.wrap ((i : Int) + (j : Int)))) 1) = (((i + j) / 2 : Nat) : Int) := by
 rw [wrap_add h, uwrap_id (by omega) (by omega)]
 have : shrI .u64 (((i + j : Nat) : Int)) 1 = (((i + j) / 2 : Nat) : Int) := by
  simp only [shrI, IntKind.bits]
  rw [Int.fdiv_eq_ediv_of_nonneg _ (by decide)]
  simp
 rw [this, wrap_nat (by omega)]
section
variable {α : Type} [Inhabited α]
theorem getD_app (l r : List α) (k : Nat) : (l ++ r).getD k default = if k < l.length then l.getD k default else r.getD (k - l.length) default := by
 simp only [List.getD_eq_getElem?_getD, List.getElem?_append]
 split <;> rfl
theorem getD_lt {l : List α} {k : Nat} (h : k < l.length) : l.getD k default = l[k] := by simp [List.getD_eq_getElem?_getD, h]
theorem getD_mem {l : List α} {k : Nat} (h : k < l.length) : l.getD k default ∈ l := by rw [getD_lt h]; exact List.getElem_mem h
theorem getD_arr (l : List α) (k : Nat) : l.toArray[k]! = l.getD k default := by simp [List.getD_eq_getElem?_getD, getElem!_def]; cases l[k]? <;> rfl
theorem ext_getD {l r : List α} (h : l.length = r.length) (h' : ∀ k, k < l.length → l.getD k default = r.getD k default) : l = r := by
 apply List.ext_getElem h
 intro k h1 h2
 have := h' k h1
 rwa [getD_lt h1, getD_lt h2] at this
theorem take_succ_getD {l : List α} {k : Nat} (h : k < l.length) : l.take (k + 1) = l.take k ++ [l.getD k default] := by
 rw [getD_lt h, List.take_succ_eq_append_getElem h]
theorem drop_getD {l : List α} {k : Nat} (h : k < l.length) : l.drop k = l.getD k default :: l.drop (k + 1) := by
 rw [getD_lt h, List.drop_eq_getElem_cons h]
theorem getD_set (l : List α) (i k : Nat) (x : α) : (l.set i x).getD k default = if k = i ∧ i < l.length then x else l.getD k default := by
 simp only [List.getD_eq_getElem?_getD, List.getElem?_set]
 by_cases h1 : i = k
 ·subst h1
  by_cases h2 : i < l.length <;> simp [h2]
 ·rw [if_neg h1, if_neg (by omega)]
def swpL (l : List α) (i j : Nat) : List α := (l.set i (l.getD j default)).set j (l.getD i default)
theorem swpL_arr (l : List α) (i j : Nat) : (swpL l i j).toArray = Sort.swp l.toArray i j := by
 unfold swpL Sort.swp
 rw [getD_arr, getD_arr, List.setIfInBounds_toArray, List.setIfInBounds_toArray]
theorem swpL_len (l : List α) (i j : Nat) : (swpL l i j).length = l.length := by simp [swpL]
theorem swpL_mid (p : List α) (x : α) (m : List α) (y : α) (q : List α) : swpL (p ++ x :: (m ++ y :: q)) p.length (p.length + 1 + m.length) = p ++ y :: (m ++ x :: q) := by
 have e1 : (p ++ x :: (m ++ y :: q)).getD p.length default = x := by rw [getD_app, if_neg (by omega)]; simp
 have e2 : (p ++ x :: (m ++ y :: q)).getD (p.length + 1 + m.length) default = y := by
  rw [getD_app, if_neg (by omega), show p.length + 1 + m.length - p.length = m.length + 1 by omega, List.getD_cons_succ, getD_app, if_neg (by omega)]
  simp
 unfold swpL
 rw [e1, e2]
 rw [List.set_append_right _ _ (by omega)]
 simp only [Nat.sub_self, List.set_cons_zero]
 rw [List.set_append_right _ _ (by omega), show p.length + 1 + m.length - p.length = m.length + 1 by omega, List.set_cons_succ, List.set_append_right _ _ (by omega)]
 simp
theorem swpL_mid' (p : List α) (x : α) (m : List α) (y : α) (q : List α) : swpL (p ++ x :: (m ++ y :: q)) (p.length + 1 + m.length) p.length = p ++ y :: (m ++ x :: q) := by
 rw [← swpL_mid p x m y q]
 apply ext_getD
 ·simp [swpL]
 ·intro k hk
  simp only [swpL, getD_set, List.length_set]
  have h1 : p.length < (p ++ x :: (m ++ y :: q)).length := by simp only [List.length_append, List.length_cons]; omega
  have h2 : p.length + 1 + m.length < (p ++ x :: (m ++ y :: q)).length := by simp only [List.length_append, List.length_cons]; omega
  by_cases h3 : k = p.length
  ·rw [if_pos ⟨h3, h1⟩, if_neg (by omega), if_pos ⟨h3, h1⟩]
  ·by_cases h4 : k = p.length + 1 + m.length
   ·rw [if_neg (by omega), if_pos ⟨h4, h2⟩, if_pos ⟨h4, h2⟩]
   ·rw [if_neg (by omega), if_neg (by omega), if_neg (by omega), if_neg (by omega)]
theorem swpL_perm (l : List α) {i j : Nat} (hi : i < l.length) (hj : j < l.length) : (swpL l i j).Perm l := by
 unfold swpL
 rw [getD_lt hi, getD_lt hj]
 exact Sort.perm_set_set l i j hi hj
end
structure TO {α : Type} (c : α → α → Int) : Prop where
 eq : ∀ a b, c a b = 0 ↔ a = b
 sw : ∀ a b, c a b < 0 ↔ 0 < c b a
 tr : ∀ a b d, c a b < 0 → c b d < 0 → c a d < 0
def cmpI (a b : Int) : Int := if a < b then -1 else if b < a then 1 else 0
theorem TO.int : TO cmpI := by
 constructor
 ·intro a b; unfold cmpI; split <;> (try split) <;> omega
 ·intro a b; unfold cmpI; split <;> (try split) <;> (try split) <;> omega
 ·intro a b d; unfold cmpI; split <;> (try split) <;> (try split) <;> (try split) <;> (try split) <;> omega
def thenC (a b : Int) : Int := if a = 0 then b else a
theorem TO.lex {α β γ : Type} {c : β → β → Int} {d : γ → γ → Int} (hc : TO c) (hd : TO d) {f : α → β} {g : α → γ} (inj : ∀ x y, f x = f y → g x = g y → x = y) : TO (fun x y => thenC (c (f x) (f y)) (d (g x) (g y))) := by
 constructor
 ·intro x y
  unfold thenC
  constructor
  ·intro h
   split at h
   ·rename_i h1; exact inj x y ((hc.eq _ _).1 h1) ((hd.eq _ _).1 h)
   ·rename_i h1; exact absurd h h1
  ·rintro rfl
   rw [if_pos ((hc.eq _ _).2 rfl)]; exact (hd.eq _ _).2 rfl
 ·intro x y
  unfold thenC
  by_cases h1 : c (f x) (f y) = 0
  ·have h2 := (hc.eq _ _).1 h1
   rw [if_pos h1, if_pos ((hc.eq _ _).2 h2.symm)]
   exact hd.sw _ _
  ·rw [if_neg h1, if_neg (fun h => h1 ((hc.eq _ _).2 ((hc.eq _ _).1 h).symm))]
   exact hc.sw _ _
 ·intro x y z
  unfold thenC
  by_cases h1 : c (f x) (f y) = 0
  ·have h2 := (hc.eq _ _).1 h1
   rw [if_pos h1, h2]
   by_cases h3 : c (f y) (f z) = 0
   ·rw [if_pos h3, if_pos h3]; exact hd.tr _ _ _
   ·rw [if_neg h3, if_neg h3]; exact fun _ h => h
  ·rw [if_neg h1]
   by_cases h3 : c (f y) (f z) = 0
   ·have h4 := (hc.eq _ _).1 h3
    rw [if_pos h3, ← h4, if_neg h1]; exact fun h _ => h
   ·rw [if_neg h3]
    intro h5 h6
    have h7 := hc.tr _ _ _ h5 h6
    rw [if_neg (by omega)]; exact h7
def cmpL {α : Type} (c : α → α → Int) : List α → List α → Int
 | [], [] => 0
 | [], _ :: _ => -1
 | _ :: _, [] => 1
 | a :: l, b :: r => thenC (c a b) (cmpL c l r)
theorem TO.list {α : Type} {c : α → α → Int} (hc : TO c) : TO (cmpL c) := by
 constructor
 ·intro l
  induction l with
  | nil => intro r; cases r <;> simp [cmpL]
  | cons a l ih =>
   intro r
   cases r with
   | nil => simp [cmpL]
   | cons b r =>
    simp only [cmpL, thenC]
    constructor
    ·intro h
     split at h
     ·rename_i h1; rw [(hc.eq _ _).1 h1, (ih r).1 h]
     ·rename_i h1; exact absurd h h1
    ·intro h
     injection h with h1 h2
     rw [if_pos ((hc.eq _ _).2 h1)]; exact (ih r).2 h2
 ·intro l
  induction l with
  | nil => intro r; cases r <;> simp [cmpL]
  | cons a l ih =>
   intro r
   cases r with
   | nil => simp [cmpL]
   | cons b r =>
    simp only [cmpL, thenC]
    by_cases h1 : c a b = 0
    ·have h2 := (hc.eq _ _).1 h1
     rw [if_pos h1, if_pos ((hc.eq _ _).2 h2.symm)]; exact ih r
    ·rw [if_neg h1, if_neg (fun h => h1 ((hc.eq _ _).2 ((hc.eq _ _).1 h).symm))]; exact hc.sw _ _
 ·intro l
  induction l with
  | nil => intro r s; cases r <;> cases s <;> simp [cmpL]
  | cons a l ih =>
   intro r s
   cases r with
   | nil => simp [cmpL]
   | cons b r =>
    cases s with
    | nil => simp [cmpL]
    | cons d s =>
     simp only [cmpL, thenC]
     by_cases h1 : c a b = 0
     ·have h2 := (hc.eq _ _).1 h1
      rw [if_pos h1, h2]
      by_cases h3 : c b d = 0
      ·rw [if_pos h3, if_pos h3]; exact ih r s
      ·rw [if_neg h3, if_neg h3]; exact fun _ h => h
     ·rw [if_neg h1]
      by_cases h3 : c b d = 0
      ·have h4 := (hc.eq _ _).1 h3
       rw [if_pos h3, ← h4, if_neg h1]; exact fun h _ => h
      ·rw [if_neg h3]
       intro h5 h6
       have h7 := hc.tr _ _ _ h5 h6
       rw [if_neg (by omega)]; exact h7
theorem cmpB_eq : ∀ (a b : List UInt8), Lib.compareBytes a b = cmpL (fun x y : UInt8 => cmpI (x.toNat : Int) (y.toNat : Int)) a b
 | [], [] => rfl
 | [], _ :: _ => rfl
 | _ :: _, [] => rfl
 | a :: l, b :: m => by
  rw [Lib.compareBytes, cmpL, cmpB_eq l m]
  have e1 : (a < b) ↔ ((a.toNat : Int) < (b.toNat : Int)) := by rw [UInt8.lt_iff_toNat_lt]; omega
  have e2 : (b < a) ↔ ((b.toNat : Int) < (a.toNat : Int)) := by rw [UInt8.lt_iff_toNat_lt]; omega
  generalize cmpL (fun x y : UInt8 => cmpI (x.toNat : Int) (y.toNat : Int)) l m = r
  show _ = thenC (if (a.toNat : Int) < (b.toNat : Int) then -1 else if (b.toNat : Int) < (a.toNat : Int) then 1 else 0) r
  by_cases h1 : (a.toNat : Int) < b.toNat
  ·rw [if_pos (e1.2 h1), if_pos h1]; rfl
  ·rw [if_neg (fun h => h1 (e1.1 h)), if_neg h1]
   by_cases h2 : (b.toNat : Int) < a.toNat
   ·rw [if_pos (e2.2 h2), if_pos h2]; rfl
   ·rw [if_neg (fun h => h2 (e2.1 h)), if_neg h2]; rfl
theorem TO.u8 : TO (fun x y : UInt8 => cmpI (x.toNat : Int) (y.toNat : Int)) := by
 constructor
 ·intro a b
  rw [TO.int.eq]
  exact ⟨fun h => UInt8.toNat_inj.1 (by omega), fun h => by rw [h]⟩
 ·intro a b; exact TO.int.sw _ _
 ·intro a b d; exact TO.int.tr _ _ _
def cmpS (a b : ByteArray) : Int := Lib.compareBytes a.data.toList b.data.toList
theorem TO.str : TO cmpS := by
 have h := TO.list TO.u8
 unfold cmpS
 constructor
 ·intro a b
  rw [cmpB_eq, h.eq]
  constructor
  ·intro h; cases a; cases b; simp at h; simp [h]
  ·rintro rfl; rfl
 ·intro a b; rw [cmpB_eq, cmpB_eq]; exact h.sw _ _
 ·intro a b d; rw [cmpB_eq, cmpB_eq, cmpB_eq]; exact h.tr _ _ _
end Go.PL
namespace Go.PL
open Go
def cmpV (a b : GValue) : Int := thenC (cmpI a.Kind b.Kind) (thenC (cmpI a.N b.N) (cmpS a.S b.S))
abbrev cmpR : List GValue → List GValue → Int := cmpL cmpV
def cmpD (a b : GDelta) : Int := thenC (cmpI a.Time b.Time) (cmpR a.Row b.Row)
theorem TO.val : TO cmpV := by
 have h := TO.lex (f := fun x : ByteArray × Int => x.2) (g := fun x => x.1) TO.int TO.str (fun x y h1 h2 => Prod.ext h2 h1)
 exact TO.lex (f := fun x : GValue => x.Kind) (g := fun x => (x.S, x.N)) TO.int h (fun x y h1 h2 => by cases x; cases y; simp_all)
theorem TO.row : TO cmpR := TO.val.list
def pl (d : GDelta) : Int × List GValue := (d.Time, d.Row)
def cmpP (a b : Int × List GValue) : Int := thenC (cmpI a.1 b.1) (cmpR a.2 b.2)
theorem TO.place : TO cmpP := TO.lex (f := fun x : Int × List GValue => x.1) (g := fun x => x.2) TO.int TO.row (fun _ _ h1 h2 => Prod.ext h1 h2)
theorem cmpD_eq (a b : GDelta) : cmpD a b = cmpP (pl a) (pl b) := rfl
theorem thenC_zero (a : Int) : thenC a 0 = a := by unfold thenC; split <;> simp_all
theorem G173_eq (a : Int) : G173 a = some false := by unfold G173 T173; simp [Tr.den]
theorem G131_eq (a b : Int) : G131 a b = some (cmpI a b) := by
 unfold G131 T131
 simp only [Tr.den, G173_eq, Option.bind_some, Bool.false_eq_true, if_false, decide_eq_true_eq, cmpI, gt_iff_lt]
 split <;> (try split) <;> rfl
theorem G194_eq (a b : ByteArray) : G194 a b = some (cmpS a b) := rfl
theorem G130_eq (l : List Int) (h : l.length ≤ 1000) : G130 l = some (l.foldr thenC 0) := by
 refine Sp.eq ?_
 unfold G130 T130
 simp only [Tr.den, sq_bind]
 refine Sq.while (fun k : Int => 0 ≤ k ∧ k ≤ l.length ∧ (l.drop k.toNat).foldr thenC 0 = l.foldr thenC 0) (fun k => l.length - k.toNat) (fun k hk => ?_) ⟨by omega, by omega, by simp⟩
 obtain ⟨h0, h1, h2⟩ := hk
 unfold T130_L0
 simp only [Tr.den, decide_eq_true_eq]
 by_cases hk : k < l.length
 ·have hkn : k.toNat < l.length := by omega
  rw [if_pos hk, if_pos ⟨h0, hk⟩]
  rw [drop_getD hkn] at h2
  simp only [List.foldr_cons] at h2
  by_cases hz : l.getD k.toNat default = 0
  ·rw [if_neg (bneF hz)]
   rw [wrap_id (by omega) (by omega)]
   refine sq_some.2 ⟨⟨by omega, by omega, ?_⟩, by omega⟩
   rw [show (k + 1).toNat = k.toNat + 1 by omega, ← h2]; simp only [thenC, hz, if_true]
  ·rw [if_pos (bneT hz)]
   refine sq_some.2 (sq_some.2 ?_)
   rw [← h2]; unfold thenC; rw [if_neg hz]
 ·rw [if_neg hk]
  refine sq_some.2 (sq_some.2 ?_)
  have : l.drop k.toNat = [] := List.drop_eq_nil_of_le (by omega)
  rw [this] at h2
  exact h2
theorem G175_eq (a b : GValue) : G175 a b = some (cmpV a b) := by
 unfold G175 T175
 simp only [Tr.den, G131_eq, G194_eq, Option.bind_some]
 rw [G130_eq _ (by simp)]
 simp [thenC_zero, cmpV]
theorem G174s0_eq (a b : List GValue) (ha : a.length ≤ 1073741824) (hb : b.length ≤ 1073741824) : G174s0 a b = some (cmpR a b) := by
 refine Sp.eq ?_
 unfold G174s0 T174s0
 simp only [Tr.den, sq_bind]
 refine Sq.while (fun k : Int => 0 ≤ k ∧ k ≤ a.length ∧ k ≤ b.length ∧ cmpR (a.drop k.toNat) (b.drop k.toNat) = cmpR a b) (fun k => a.length - k.toNat) (fun k hk => ?_) ⟨by omega, by omega, by omega, by simp⟩
 obtain ⟨h0, h1, h2, h3⟩ := hk
 unfold T174s0_L0
 simp only [Tr.den, decide_eq_true_eq, G175_eq, Option.bind_some]
 by_cases hk : k < a.length
 ·have hkn : k.toNat < a.length := by omega
  rw [if_pos hk, if_pos ⟨h0, hk⟩]
  rw [drop_getD hkn] at h3
  by_cases hk' : k ≥ b.length
  ·rw [if_pos hk']
   refine sq_some.2 (sq_some.2 ?_)
   have : b.drop k.toNat = [] := List.drop_eq_nil_of_le (by omega)
   rw [this] at h3
   simpa [cmpL] using h3
  ·have hkb : k.toNat < b.length := by omega
   rw [drop_getD hkb] at h3
   simp only [cmpL] at h3
   rw [if_neg hk', if_pos ⟨h0, by omega⟩]
   by_cases hz : cmpV (a.getD k.toNat default) (b.getD k.toNat default) = 0
   ·rw [if_neg (bneF hz), wrap_id (by omega) (by omega)]
    refine sq_some.2 ⟨⟨by omega, by omega, by omega, ?_⟩, by omega⟩
    rw [show (k + 1).toNat = k.toNat + 1 by omega]; refine Eq.trans ?_ h3; simp only [thenC, hz, if_true]
   ·rw [if_pos (bneT hz)]
    refine sq_some.2 (sq_some.2 ?_)
    refine Eq.trans ?_ h3; simp only [thenC, if_neg hz]
 ·rw [if_neg hk]
  refine sq_some.2 ?_
  have e : a.drop k.toNat = [] := List.drop_eq_nil_of_le (by omega)
  rw [e] at h3
  simp only [sel]
  by_cases hl : (a.length : Int) < b.length
  ·rw [if_pos hl]
   refine sq_some.2 ?_
   rw [drop_getD (show k.toNat < b.length by omega)] at h3
   exact h3
  ·rw [if_neg hl]
   refine sq_some.2 ?_
   rw [List.drop_eq_nil_of_le (show b.length ≤ k.toNat by omega)] at h3
   exact h3
theorem G132_eq (a b : List GValue) (ha : a.length ≤ 1073741824) (hb : b.length ≤ 1073741824) : G132 a b = some (cmpR a b) := by
 unfold G132 T132
 simp only [Tr.den, G174s0_eq a b ha hb, Option.bind_some]
def okR (d : GDelta) : Prop := d.Row.length ≤ 1073741824
theorem G61_eq (a b : GDelta) (ha : okR a) (hb : okR b) : G61 a b = some (cmpD a b) := by
 unfold G61 T61
 simp only [Tr.den, G131_eq, G132_eq _ _ ha hb, Option.bind_some]
 rw [G130_eq _ (by simp)]
 simp [thenC_zero, cmpD]
def ltD (a b : GDelta) : Bool := decide (cmpD a b < 0)
theorem cmpD_tr {x y z : GDelta} : cmpD x y < 0 → cmpD y z < 0 → cmpD x z < 0 := fun h1 h2 => TO.place.tr (pl x) (pl y) (pl z) h1 h2
theorem swo_ltD : Sort.SWO ltD := by
 constructor
 ·intro x; simp [ltD, (TO.place.eq (pl x) (pl x)).2 rfl, cmpD_eq]
 ·intro x y z h1 h2
  simp only [ltD, decide_eq_true_eq] at *
  exact cmpD_tr h1 h2
 ·intro x y z h1 h2
  simp only [ltD, cmpD_eq] at h1 h2 ⊢
  have h1 := of_decide_eq_false h1
  have h2 := of_decide_eq_false h2
  refine decide_eq_false fun h3 => ?_
  have s1 := TO.place.sw (pl x) (pl y)
  have s2 := TO.place.sw (pl y) (pl z)
  have s3 := TO.place.sw (pl y) (pl x)
  have s4 := TO.place.sw (pl z) (pl y)
  have s5 := TO.place.sw (pl x) (pl z)
  have s6 := TO.place.sw (pl z) (pl x)
  by_cases h4 : cmpP (pl x) (pl y) = 0
  ·rw [(TO.place.eq _ _).1 h4] at h3; exact h2 h3
  ·by_cases h5 : cmpP (pl y) (pl z) = 0
   ·rw [← (TO.place.eq _ _).1 h5] at h3; exact h1 h3
   ·have := TO.place.tr (pl z) (pl y) (pl x) (by omega) (by omega)
    omega
theorem ltD_asymm {x y : GDelta} (h : ltD x y = true) : ltD y x = false := by
 cases hh : ltD y x with
 | false => rfl
 | true =>
  have := swo_ltD.trans _ _ _ h hh
  rw [swo_ltD.irrefl] at this; cases this
end Go.PL
namespace Go.PL
open Go
set_option linter.unusedVariables false
def okRs (l : List GDelta) : Prop := ∀ x, x ∈ l → okR x
theorem okR_def : okR default := by show ([] : List GValue).length ≤ _; simp
theorem okRs.get {l : List GDelta} (h : okRs l) (k : Nat) : okR (l.getD k default) := by
 by_cases hk : k < l.length
 ·exact h _ (getD_mem hk)
 ·rw [List.getD_eq_getElem?_getD, List.getElem?_eq_none (by omega)]; exact okR_def
theorem okRs.perm {l r : List GDelta} (h : okRs l) (hp : l.Perm r) : okRs r := fun x hx => h x (hp.mem_iff.2 hx)
theorem insIn (a a2 v2 : Int) (an : Nat) (ha : a = an) : ∀ (j : Nat) (l : List GDelta), okRs l → j < l.length → l.length ≤ 1000000000000000 →
  whileM (fun s => (T176s1_L1 a a2 v2 s).den) (l, (j : Int)) = some (.inl (Sort.insInner ltD an j l.toArray).toList) := by
 intro j
 induction j with
 | zero =>
  intro l hl hj hn
  refine whileM_stop ?_
  unfold T176s1_L1
  simp only [Tr.den]
  rw [if_neg (by simp; omega)]
  simp [Sort.insInner]
 | succ j ih =>
  intro l hl hj hn
  have e1 : IntKind.i64.wrap (((j + 1 : Nat) : Int) - 1) = (j : Int) := wrap_dec (by omega)
  by_cases hc : an < j + 1
  ·have hlt : ltD (l.getD (j + 1) default) (l.getD j default) = decide (cmpD (l.getD (j + 1) default) (l.getD j default) < 0) := rfl
   cases hd : ltD (l.getD (j + 1) default) (l.getD j default) with
   | false =>
    refine whileM_stop ?_
    unfold T176s1_L1
    simp only [Tr.den]
    rw [e1]
    rw [if_pos (by simp; omega), if_pos (by omega), if_pos (by simpa using hj), if_pos (by omega), if_pos (by simp; omega)]
    simp only [Int.toNat_natCast]
    rw [G61_eq _ _ (hl.get _) (hl.get _)]
    simp only [Option.bind_some]
    rw [← hlt, hd]
    simp only [Bool.false_eq_true, if_false]
    unfold Sort.insInner
    rw [getD_arr, getD_arr, hd]
    simp
   | true =>
    rw [whileM_next (s' := (swpL l (j + 1) j, (j : Int)))]
    ·have h2 := ih (swpL l (j + 1) j) (hl.perm (swpL_perm l hj (by omega)).symm) (by rw [swpL_len]; omega) (by rw [swpL_len]; exact hn)
     rw [h2, swpL_arr]
     conv => rhs; unfold Sort.insInner
     rw [getD_arr, getD_arr, hd]
     simp [hc]
    ·unfold T176s1_L1
     simp only [Tr.den]
     rw [e1]
     rw [if_pos (by simp; omega), if_pos (by omega), if_pos (by simpa using hj), if_pos (by omega), if_pos (by simp; omega)]
     simp only [Int.toNat_natCast]
     rw [G61_eq _ _ (hl.get _) (hl.get _)]
     simp only [Option.bind_some]
     rw [← hlt, hd]
     simp only [if_true]
     rw [if_pos (by omega), if_pos (by omega), if_pos (by omega), if_pos (by omega), if_pos (by omega), if_pos (by omega), if_pos (by omega), if_pos (by omega), if_pos (by simp; omega)]
     rfl
  ·refine whileM_stop ?_
   unfold T176s1_L1
   simp only [Tr.den]
   rw [if_neg (by simp; omega)]
   simp only [Option.bind_some, Bool.false_eq_true, if_false]
   unfold Sort.insInner
   simp [hc]
theorem insOut (a b : Nat) (n : Nat) : ∀ (i : Nat) (l : List GDelta), b - i = n → a < i → b ≤ l.length → l.length ≤ 1000000000000000 → okRs l →
  whileM (fun s => (T176s1_L0 (a : Int) (b : Int) s).den) (l, (i : Int)) = some (.inl (Sort.insOuter ltD a b i l.toArray).toList) := by
 induction n with
 | zero =>
  intro i l hi ha hb hn hl
  refine whileM_stop ?_
  unfold T176s1_L0
  simp only [Tr.den]
  rw [if_neg (by simp; omega), Sort.insOuter, if_neg (by omega)]
 | succ n ih =>
  intro i l hi ha hb hn hl
  have h1 := insIn (a : Int) (b : Int) (i : Int) a rfl i l hl (by omega) hn
  have hp := (Sort.insInner_spec swo_ltD Sort.swp_permIn Sort.permIn_refl Sort.permIn_trans 0 b i (by omega))
  have hlen : (Sort.insInner ltD a i l.toArray).size = l.length := by
   have : ∀ (j : Nat) (d : Array GDelta), (Sort.insInner ltD a j d).size = d.size := by
    intro j
    induction j with
    | zero => intro d; rfl
    | succ j ih => intro d; unfold Sort.insInner; split <;> simp [ih, Sort.swp_size]
   rw [this]; simp
  have hperm : (Sort.insInner ltD a i l.toArray).toList.Perm l := by
   have : ∀ (j : Nat) (d : Array GDelta), j < d.size → (Sort.insInner ltD a j d).toList.Perm d.toList := by
    intro j
    induction j with
    | zero => intro d _; exact .refl _
    | succ j ih =>
     intro d hd
     unfold Sort.insInner
     split
     ·refine (ih _ (by rw [Sort.swp_size]; omega)).trans ?_
      have e := swpL_arr d.toList (j + 1) j
      rw [Array.toArray_toList] at e
      rw [← e]
      exact swpL_perm d.toList (i := j + 1) (j := j) (by simpa using hd) (by simp; omega)
     ·exact .refl _
   simpa using this i l.toArray (by simp; omega)
  rw [whileM_next (s' := ((Sort.insInner ltD a i l.toArray).toList, ((i + 1 : Nat) : Int)))]
  ·rw [ih (i + 1) _ (by omega) (by omega) (by simp [hlen]; omega) (by simp [hlen]; omega) (hl.perm hperm.symm)]
   conv => rhs; rw [Sort.insOuter, if_pos (by omega)]
  ·unfold T176s1_L0
   simp only [Tr.den]
   rw [if_pos (by simp; omega), h1]
   simp only [Option.bind_some, sel]
   rw [wrap_inc (by omega)]
theorem G176s1_eq (a b : Nat) (l : List GDelta) (hb : b ≤ l.length) (hab : a ≤ b) (hn : l.length ≤ 1000000000000000) (hl : okRs l) : G176s1 (a : Int) (b : Int) l = some (Sort.insertionSort ltD l.toArray a b).toList := by
 unfold G176s1 T176s1
 simp only [Tr.den]
 rw [wrap_inc (by omega), insOut a b _ (a + 1) l rfl (by omega) hb hn hl]
 rfl
theorem swapTr (P X M Y Q : List GDelta) (n : Nat) (hx : X.length = n) (hy : Y.length = n) (i : Nat) (hi : i < n) :
  swpL (P ++ (Y.take i ++ (X.drop i ++ (M ++ (X.take i ++ (Y.drop i ++ Q)))))) (P.length + i) (P.length + n + M.length + i) = P ++ (Y.take (i + 1) ++ (X.drop (i + 1) ++ (M ++ (X.take (i + 1) ++ (Y.drop (i + 1) ++ Q))))) := by
 have h := swpL_mid (P ++ Y.take i) (X.getD i default) (X.drop (i + 1) ++ (M ++ X.take i)) (Y.getD i default) (Y.drop (i + 1) ++ Q)
 have e1 : (P ++ Y.take i).length = P.length + i := by simp; omega
 have e2 : (P ++ Y.take i).length + 1 + (X.drop (i + 1) ++ (M ++ X.take i)).length = P.length + n + M.length + i := by simp; omega
 rw [e2, e1] at h
 rw [drop_getD (show i < X.length by omega), drop_getD (show i < Y.length by omega), take_succ_getD (show i < X.length by omega), take_succ_getD (show i < Y.length by omega)]
 simpa using h
theorem G211s0_eq (P X M Y Q : List GDelta) (n : Nat) (hx : X.length = n) (hy : Y.length = n) (a b c : Int) (ha : a = P.length) (hb : b = ((P.length + n + M.length : Nat) : Int)) (hc : c = n) (hn : (P ++ (X ++ (M ++ (Y ++ Q)))).length ≤ 1000000000000000) :
  G211s0 a b c (P ++ (X ++ (M ++ (Y ++ Q)))) = some (P ++ (Y ++ (M ++ (X ++ Q)))) := by
 subst ha hb hc
 simp only [List.length_append] at hn
 unfold G211s0 T211s0
 simp only [Tr.den]
 have h := while_trace (bd := fun s => (T211s0_L0 (P.length : Int) ((P.length + n + M.length : Nat) : Int) (n : Int) s).den) (fun i => (P ++ (Y.take i ++ (X.drop i ++ (M ++ (X.take i ++ (Y.drop i ++ Q))))), (i : Int))) n (r := .inl (P ++ (Y ++ (M ++ (X ++ Q))))) (fun i hi => ?_) ?_
 ·simp only [List.take_zero, List.drop_zero, List.nil_append] at h
  refine (congrArg (fun x => Option.bind x _) h).trans ?_
  rfl
 ·have hL : (P ++ (Y.take i ++ (X.drop i ++ (M ++ (X.take i ++ (Y.drop i ++ Q)))))).length = P.length + n + M.length + n + Q.length := by simp; omega
  unfold T211s0_L0
  simp only [Tr.den]
  rw [wrap_add (by omega), wrap_add (by omega)]
  simp only [Int.toNat_natCast]
  rw [hL]
  rw [if_pos (by simp; omega), if_pos (by omega), if_pos (by omega), if_pos (by omega), if_pos (by omega), if_pos (by omega), if_pos (by omega), if_pos (by omega), if_pos (by omega), if_pos (by simp; omega), wrap_inc (by omega)]
  rw [← swapTr P X M Y Q n hx hy i hi]
  rfl
 ·unfold T211s0_L0
  simp only [Tr.den]
  rw [if_neg (by simp)]
  rw [List.take_of_length_le (by omega), List.take_of_length_le (by omega), List.drop_of_length_le (by omega), List.drop_of_length_le (by omega)]
  simp
theorem G195s0_sp (b : Bool) (P U V Q : List GDelta) (hu : U ≠ []) (hv : V ≠ []) (a1 a2 a3 : Int) (h1 : a1 = P.length) (h2 : a2 = ((P.length + U.length : Nat) : Int)) (h3 : a3 = ((P.length + U.length + V.length : Nat) : Int)) (hn : (P ++ (U ++ (V ++ Q))).length ≤ 1000000000000000) :
  Sq b (G195s0 a1 a2 a3 (P ++ (U ++ (V ++ Q)))) (fun d => d = P ++ (V ++ (U ++ Q))) := by
 subst h1 h2 h3
 unfold G195s0 T195s0
 simp only [Tr.den, sq_bind]
 generalize hm : P.length + U.length = m
 generalize hT : P ++ (V ++ (U ++ Q)) = T
 have hl0 : (P ++ (U ++ (V ++ Q))).length = T.length := by rw [← hT]; simp; omega
 rw [wrap_sub (by omega) (by simp at hn; omega), wrap_sub (by omega) (by simp at hn; omega)]
 refine Sq.while (fun s : List GDelta × Int × Int => ∃ P U V Q : List GDelta, s.1 = P ++ (U ++ (V ++ Q)) ∧ P.length + U.length = m ∧ s.2.1 = U.length ∧ s.2.2 = V.length ∧ U ≠ [] ∧ V ≠ [] ∧ P ++ (V ++ (U ++ Q)) = T)
  (fun s => (s.2.1 + s.2.2).toNat) (fun s hs => ?_) ⟨P, U, V, Q, rfl, hm, by simp only; omega, by simp only; omega, hu, hv, hT⟩
 clear hu hv hT hm
 obtain ⟨l, i, j⟩ := s
 obtain ⟨P, U, V, Q, rfl, hm, hi, hj, hu, hv, hT⟩ := hs
 simp only at hi hj
 subst hi hj
 have hTl : T.length = P.length + U.length + V.length + Q.length := by rw [← hT]; simp; omega
 rw [hl0] at hn
 have hu0 : 0 < U.length := List.length_pos_iff.2 hu
 have hv0 : 0 < V.length := List.length_pos_iff.2 hv
 unfold T195s0_L0
 simp only [Tr.den]
 by_cases hij : U.length = V.length
 ·rw [if_neg (by simp; omega)]
  refine sq_some.2 ?_
  simp only [sel]
  have h := G211s0_eq P U [] V Q U.length rfl hij.symm (IntKind.i64.wrap ((m : Int) - (U.length : Int))) (m : Int) (U.length : Int) (by rw [wrap_sub (by omega) (by omega)]; omega) (by simp; omega) rfl (by simp; omega)
  simp only [List.nil_append] at h
  rw [h]
  simp only [Option.bind_some]
  exact sq_some.2 hT
 ·rw [if_pos (by simp; omega)]
  by_cases hgt : U.length > V.length
  ·rw [if_pos (by simp; omega)]
   have hU : U = U.take V.length ++ U.drop V.length := (List.take_append_drop _ _).symm
   have h := G211s0_eq P (U.take V.length) (U.drop V.length) V Q V.length (by simp; omega) rfl (IntKind.i64.wrap ((m : Int) - (U.length : Int))) (m : Int) (V.length : Int) (by rw [wrap_sub (by omega) (by omega)]; omega) (by simp; omega) rfl (by simp; omega)
   rw [← List.append_assoc (U.take V.length), ← hU] at h
   rw [h]
   simp only [Option.bind_some]
   rw [wrap_sub (by omega) (by omega)]
   refine sq_some.2 ⟨⟨P ++ V, U.drop V.length, U.take V.length, Q, by simp only [List.append_assoc], by simp only [List.length_append, List.length_drop]; omega, by simp only [List.length_drop], by simp only [List.length_take]; omega, ?_, ?_, ?_⟩, by simp only; omega⟩
   ·intro h0; have := congrArg List.length h0; simp only [List.length_drop, List.length_nil] at this; omega
   ·intro h0; have := congrArg List.length h0; simp only [List.length_take, List.length_nil] at this; omega
   ·rw [← hT]
    conv => rhs; rw [hU]
    simp only [List.append_assoc]
  ·rw [if_neg (by simp; omega)]
   have hV : V = V.take (V.length - U.length) ++ V.drop (V.length - U.length) := (List.take_append_drop _ _).symm
   have h := G211s0_eq P U (V.take (V.length - U.length)) (V.drop (V.length - U.length)) Q U.length rfl (by simp; omega) (IntKind.i64.wrap ((m : Int) - (U.length : Int))) (IntKind.i64.wrap (IntKind.i64.wrap ((m : Int) + (V.length : Int)) - (U.length : Int))) (U.length : Int) (by rw [wrap_sub (by omega) (by omega)]; omega) (by rw [wrap_add (by omega), wrap_sub (by omega) (by omega)]; simp; omega) rfl (by simp; omega)
   rw [← List.append_assoc (V.take (V.length - U.length)), ← hV] at h
   rw [h]
   simp only [Option.bind_some]
   rw [wrap_sub (by omega) (by omega)]
   refine sq_some.2 ⟨⟨P, V.drop (V.length - U.length), V.take (V.length - U.length), U ++ Q, by simp, by simp; omega, by simp; omega, by simp, ?_, ?_, ?_⟩, by simp only; omega⟩
   ·intro h0; have := congrArg List.length h0; simp only [List.length_drop, List.length_nil] at this; omega
   ·intro h0; have := congrArg List.length h0; simp only [List.length_take, List.length_nil] at this; omega
   ·rw [← hT]
    conv => rhs; rw [hV]
    simp only [List.append_assoc]
end Go.PL
namespace Go.PL
open Go
set_option linter.unusedVariables false
def Srt (l : List GDelta) : Prop := l.Pairwise (fun x y => ltD y x = false)
theorem Srt.app {l r : List GDelta} : Srt (l ++ r) ↔ Srt l ∧ Srt r ∧ ∀ x, x ∈ l → ∀ y, y ∈ r → ltD y x = false := by
 unfold Srt; rw [List.pairwise_append]
theorem Srt.get {l : List GDelta} (h : Srt l) {i j : Nat} (hij : i ≤ j) (hj : j < l.length) : ltD (l.getD j default) (l.getD i default) = false := by
 rcases Nat.lt_or_eq_of_le hij with h1 | h1
 ·rw [getD_lt hj, getD_lt (show i < l.length by omega)]
  exact List.pairwise_iff_getElem.1 h i j (by omega) hj h1
 ·subst h1; exact swo_ltD.irrefl _
theorem srt_get {l : List GDelta} (h : ∀ i j, i < j → j < l.length → ltD (l.getD j default) (l.getD i default) = false) : Srt l := by
 unfold Srt
 rw [List.pairwise_iff_getElem]
 intro i j hi hj hij
 have := h i j hij hj
 rwa [getD_lt hj, getD_lt hi] at this
theorem bs_sq {R' : Type} (b : Bool) (bd : Int × Int → Option ((Int × Int) ⊕ (Int ⊕ R'))) (p : Nat → Bool) (i0 j0 : Nat) (hij : i0 ≤ j0)
  (hstep : ∀ i j : Nat, i0 ≤ i → i < j → j ≤ j0 → bd ((i : Int), (j : Int)) = some (.inl (if p ((i + j) / 2) = true then ((((i + j) / 2 + 1 : Nat) : Int), (j : Int)) else ((i : Int), (((i + j) / 2 : Nat) : Int)))))
  (hstop : ∀ i : Nat, i0 ≤ i → i ≤ j0 → bd ((i : Int), (i : Int)) = some (.inr (.inl (i : Int)))) (mono : ∀ h k, i0 ≤ k → k ≤ h → h < j0 → p h = true → p k = true) :
  Sq b (whileM bd ((i0 : Int), (j0 : Int))) (sel (fun r : Int => ∃ n : Nat, r = n ∧ i0 ≤ n ∧ n ≤ j0 ∧ (∀ k, i0 ≤ k → k < n → p k = true) ∧ (∀ k, n ≤ k → k < j0 → p k = false)) (fun _ => False)) := by
 refine Sq.while (fun s => ∃ i j : Nat, s = ((i : Int), (j : Int)) ∧ i0 ≤ i ∧ i ≤ j ∧ j ≤ j0 ∧ (∀ k, i0 ≤ k → k < i → p k = true) ∧ (∀ k, j ≤ k → k < j0 → p k = false)) (fun s => (s.2 - s.1).toNat) (fun s hs => ?_)
  ⟨i0, j0, rfl, Nat.le_refl _, hij, Nat.le_refl _, fun k h1 h2 => by omega, fun k h1 h2 => by omega⟩
 obtain ⟨i, j, rfl, h1, h2, h3, h4, h5⟩ := hs
 by_cases hlt : i < j
 ·rw [hstep i j h1 hlt h3]
  refine sq_some.2 ?_
  by_cases hp : p ((i + j) / 2) = true
  ·rw [if_pos hp]
   refine ⟨⟨(i + j) / 2 + 1, j, rfl, by omega, by omega, h3, fun k hk1 hk2 => ?_, h5⟩, by simp only; omega⟩
   exact mono ((i + j) / 2) k hk1 (by omega) (by omega) hp
  ·rw [if_neg hp]
   refine ⟨⟨i, (i + j) / 2, rfl, h1, by omega, by omega, h4, fun k hk1 hk2 => ?_⟩, by simp only; omega⟩
   cases hpk : p k with
   | false => rfl
   | true => exact absurd (mono k ((i + j) / 2) (by omega) hk1 hk2 hpk) hp
 ·have : i = j := by omega
  subst this
  rw [hstop i h1 h3]
  exact sq_some.2 ⟨i, rfl, h1, h3, h4, h5⟩
section
variable (P A B Q : List GDelta)
theorem moveOn (P B R : List GDelta) (x : GDelta) (e : Int) (he : e = ((P.length + B.length + 1 : Nat) : Int)) (hn : (P ++ x :: (B ++ R)).length ≤ 1000000000000000) :
  whileM (fun s => (T177s0_L1 e s).den) (P ++ x :: (B ++ R), (P.length : Int)) = some (.inl (P ++ (B ++ x :: R))) := by
 subst he
 simp only [List.length_append, List.length_cons] at hn
 have h := while_trace (bd := fun s => (T177s0_L1 ((P.length + B.length + 1 : Nat) : Int) s).den) (fun t => (P ++ (B.take t ++ x :: (B.drop t ++ R)), ((P.length + t : Nat) : Int))) B.length (r := .inl (P ++ (B ++ x :: R))) (fun t ht => ?_) ?_
 ·simpa using h
 ·have hL : (P ++ (B.take t ++ x :: (B.drop t ++ R))).length = P.length + B.length + 1 + R.length := by simp; omega
  unfold T177s0_L1
  simp only [Tr.den]
  rw [wrap_dec (by omega), wrap_inc (by omega)]
  simp only [Int.toNat_natCast]
  rw [hL]
  rw [if_pos (by simp; omega), if_pos (by omega), if_pos (by omega), if_pos (by omega), if_pos (by omega), if_pos (by omega), if_pos (by omega), if_pos (by omega), if_pos (by omega), if_pos (by simp; omega)]
  have h2 := swpL_mid (P ++ B.take t) x [] (B.getD t default) (B.drop (t + 1) ++ R)
  rw [take_succ_getD ht, drop_getD ht]
  rw [show (P ++ B.take t).length = P.length + t by simp; omega] at h2
  simp only [List.length_nil, Nat.add_zero, List.nil_append, List.append_assoc, List.cons_append] at h2 ⊢
  rw [← h2]
  rfl
 ·unfold T177s0_L1
  simp only [Tr.den]
  rw [wrap_dec (by omega), if_neg (by simp)]
  simp
theorem moveBack (P A R : List GDelta) (y : GDelta) (e k : Int) (he : e = (P.length : Int)) (hk : k = ((P.length + A.length : Nat) : Int)) (hn : (P ++ (A ++ y :: R)).length ≤ 1000000000000000) :
  whileM (fun s => (T177s0_L3 e s).den) (P ++ (A ++ y :: R), k) = some (.inl (P ++ y :: (A ++ R))) := by
 subst he hk
 simp only [List.length_append, List.length_cons] at hn
 have h := while_trace (bd := fun s => (T177s0_L3 (P.length : Int) s).den) (fun t => (P ++ (A.take (A.length - t) ++ y :: (A.drop (A.length - t) ++ R)), ((P.length + (A.length - t) : Nat) : Int))) A.length (r := .inl (P ++ y :: (A ++ R))) (fun t ht => ?_) ?_
 ·simpa using h
 ·have hL : (P ++ (A.take (A.length - t) ++ y :: (A.drop (A.length - t) ++ R))).length = P.length + A.length + 1 + R.length := by simp; omega
  unfold T177s0_L3
  simp only [Tr.den]
  obtain ⟨u, hu⟩ : ∃ u, A.length - t = u + 1 := ⟨A.length - t - 1, by omega⟩
  have hu' : A.length - (t + 1) = u := by omega
  rw [hu] at hL ⊢
  rw [hu']
  rw [← Nat.add_assoc, wrap_dec (by omega)]
  simp only [Int.toNat_natCast]
  rw [hL]
  rw [if_pos (by simp; omega), if_pos (by omega), if_pos (by omega), if_pos (by omega), if_pos (by omega), if_pos (by omega), if_pos (by omega), if_pos (by omega), if_pos (by omega), if_pos (by simp; omega)]
  have h2 := swpL_mid' (P ++ A.take u) (A.getD u default) [] y (A.drop (u + 1) ++ R)
  rw [take_succ_getD (show u < A.length by omega), drop_getD (show u < A.length by omega)]
  rw [show (P ++ A.take u).length = P.length + u by simp; omega] at h2
  simp only [List.length_nil, Nat.add_zero, List.nil_append, List.append_assoc, List.cons_append] at h2 ⊢
  rw [← h2]
  rfl
 ·unfold T177s0_L3
  simp only [Tr.den]
  rw [if_neg (by simp)]
  simp
end
def In177 (P A B Q : List GDelta) : Int × Int × Int × List GDelta := ((P.length : Int), ((P.length + A.length : Nat) : Int), ((P.length + A.length + B.length : Nat) : Int), P ++ (A ++ (B ++ Q)))
def I177 (a : Int × Int × Int × List GDelta) : Prop := ∃ P A B Q, a = In177 P A B Q ∧ A ≠ [] ∧ B ≠ [] ∧ Srt A ∧ Srt B ∧ okRs (P ++ (A ++ (B ++ Q))) ∧ (P ++ (A ++ (B ++ Q))).length ≤ 1000000000000000
def Q177 (a : Int × Int × Int × List GDelta) (d : List GDelta) : Prop := ∀ P A B Q, a = In177 P A B Q → ∃ C, d = P ++ (C ++ Q) ∧ C.Perm (A ++ B) ∧ Srt C
theorem In177_inj {P A B Q P' A' B' Q' : List GDelta} (h : In177 P A B Q = In177 P' A' B' Q') : P = P' ∧ A = A' ∧ B = B' ∧ Q = Q' := by
 unfold In177 at h
 simp only [Prod.mk.injEq] at h
 obtain ⟨h1, h2, h3, h4⟩ := h
 obtain ⟨e1, h5⟩ := List.append_inj h4 (by omega)
 obtain ⟨e2, h6⟩ := List.append_inj h5 (by omega)
 obtain ⟨e3, e4⟩ := List.append_inj h6 (by omega)
 exact ⟨e1, e2, e3, e4⟩
theorem bs_ord {A : List GDelta} (h : Srt A) {h' k : Nat} (hk : k ≤ h') (hh : h' < A.length) (x : GDelta) (hp : ltD (A.getD h' default) x = true) : ltD (A.getD k default) x = true := by
 have := h.get hk hh
 cases hc : ltD (A.getD k default) x with
 | true => rfl
 | false =>
  rw [← hp]
  exact (swo_ltD.ntrans _ _ _ this hc).symm
theorem bs_ord' {A : List GDelta} (h : Srt A) {h' k : Nat} (hk : k ≤ h') (hh : h' < A.length) (x : GDelta) (hp : ltD x (A.getD h' default) = false) : ltD x (A.getD k default) = false := by
 exact swo_ltD.ntrans _ _ _ hp (h.get hk hh)
section
variable (b : Bool) (P A B Q : List GDelta)
theorem G177_one (x : GDelta) (hB : Srt B) (ho : okRs (P ++ x :: (B ++ Q))) (hn : (P ++ x :: (B ++ Q)).length ≤ 1000000000000000) :
  Sq b (whileM (fun s => (T177s0_L0 (P.length : Int) (P ++ x :: (B ++ Q)) s).den) (((P.length + 1 : Nat) : Int), ((P.length + 1 + B.length : Nat) : Int)))
   (sel (fun r : Int => ∃ n : Nat, r = ((P.length + 1 + n : Nat) : Int) ∧ n ≤ B.length ∧ (∀ k, k < n → ltD (B.getD k default) x = true) ∧ (∀ k, n ≤ k → k < B.length → ltD (B.getD k default) x = false)) (fun _ => False)) := by
 simp only [List.length_append, List.length_cons] at hn
 have hL : (P ++ x :: (B ++ Q)).length = P.length + 1 + B.length + Q.length := by simp; omega
 have e1 : (P ++ x :: (B ++ Q)).getD P.length default = x := by rw [getD_app, if_neg (by omega)]; simp
 have e2 : ∀ k, k < B.length → (P ++ x :: (B ++ Q)).getD (P.length + 1 + k) default = B.getD k default := by
  intro k hk
  rw [getD_app, if_neg (by omega), show P.length + 1 + k - P.length = k + 1 by omega, List.getD_cons_succ, getD_app, if_pos hk]
 refine (bs_sq b _ (fun h => ltD ((P ++ x :: (B ++ Q)).getD h default) x) (P.length + 1) (P.length + 1 + B.length) (by omega) (fun i j h1 h2 h3 => ?_) (fun i h1 h2 => ?_) (fun h k h1 h2 h3 h4 => ?_)).imp ?_
 ·unfold T177s0_L0
  simp only [Tr.den]
  rw [mid_eq (by omega)]
  simp only [Int.toNat_natCast]
  rw [hL]
  rw [if_pos (by simp; omega), if_pos (by omega), if_pos (by omega), if_pos (by omega), if_pos (by omega)]
  rw [G61_eq _ _ (ho.get _) (ho.get _), e1]
  simp only [Option.bind_some]
  rw [show decide (cmpD ((P ++ x :: (B ++ Q)).getD ((i + j) / 2) default) x < 0) = ltD ((P ++ x :: (B ++ Q)).getD ((i + j) / 2) default) x from rfl]
  cases ltD ((P ++ x :: (B ++ Q)).getD ((i + j) / 2) default) x with
  | true => simp only [if_true, Option.bind_some]; rw [wrap_inc (by omega)]
  | false => simp only [Bool.false_eq_true, if_false, Option.bind_some]
 ·unfold T177s0_L0
  simp only [Tr.den]
  rw [if_neg (by simp)]
 ·obtain ⟨k', rfl⟩ : ∃ k', k = P.length + 1 + k' := ⟨k - (P.length + 1), by omega⟩
  obtain ⟨h', rfl⟩ : ∃ h', h = P.length + 1 + h' := ⟨h - (P.length + 1), by omega⟩
  rw [e2 _ (by omega)] at h4 ⊢
  exact bs_ord hB (by omega) (by omega) x h4
 ·intro z hz
  cases z with
  | inr z => exact hz
  | inl z =>
   obtain ⟨n, rfl, h1, h2, h3, h4⟩ := hz
   refine ⟨n - (P.length + 1), by omega, by omega, fun k hk => ?_, fun k hk1 hk2 => ?_⟩
   ·rw [← e2 k (by omega)]; exact h3 _ (by omega) (by omega)
   ·rw [← e2 k hk2]; exact h4 _ (by omega) (by omega)
theorem G177_last (y : GDelta) (hA : Srt A) (ho : okRs (P ++ (A ++ y :: Q))) (hn : (P ++ (A ++ y :: Q)).length ≤ 1000000000000000) :
  Sq b (whileM (fun s => (T177s0_L2 ((P.length + A.length : Nat) : Int) (P ++ (A ++ y :: Q)) s).den) ((P.length : Int), ((P.length + A.length : Nat) : Int)))
   (sel (fun r : Int => ∃ n : Nat, r = ((P.length + n : Nat) : Int) ∧ n ≤ A.length ∧ (∀ k, k < n → ltD y (A.getD k default) = false) ∧ (∀ k, n ≤ k → k < A.length → ltD y (A.getD k default) = true)) (fun _ => False)) := by
 simp only [List.length_append, List.length_cons] at hn
 have hL : (P ++ (A ++ y :: Q)).length = P.length + A.length + 1 + Q.length := by simp; omega
 have e1 : (P ++ (A ++ y :: Q)).getD (P.length + A.length) default = y := by
  rw [getD_app, if_neg (by omega), getD_app, if_neg (by omega)]; simp
 have e2 : ∀ k, k < A.length → (P ++ (A ++ y :: Q)).getD (P.length + k) default = A.getD k default := by
  intro k hk
  rw [getD_app, if_neg (by omega), show P.length + k - P.length = k by omega, getD_app, if_pos hk]
 refine (bs_sq b _ (fun h => !ltD y ((P ++ (A ++ y :: Q)).getD h default)) P.length (P.length + A.length) (by omega) (fun i j h1 h2 h3 => ?_) (fun i h1 h2 => ?_) (fun h k h1 h2 h3 h4 => ?_)).imp ?_
 ·unfold T177s0_L2
  simp only [Tr.den]
  rw [mid_eq (by omega)]
  simp only [Int.toNat_natCast]
  rw [hL]
  rw [if_pos (by simp; omega), if_pos (by omega), if_pos (by omega), if_pos (by omega), if_pos (by omega)]
  rw [G61_eq _ _ (ho.get _) (ho.get _), e1]
  simp only [Option.bind_some]
  rw [show decide (cmpD y ((P ++ (A ++ y :: Q)).getD ((i + j) / 2) default) < 0) = ltD y ((P ++ (A ++ y :: Q)).getD ((i + j) / 2) default) from rfl]
  cases ltD y ((P ++ (A ++ y :: Q)).getD ((i + j) / 2) default) with
  | true => simp
  | false => simp; rw [wrap_id] <;> omega
 ·unfold T177s0_L2
  simp only [Tr.den]
  rw [if_neg (by simp)]
 ·obtain ⟨k', rfl⟩ : ∃ k', k = P.length + k' := ⟨k - P.length, by omega⟩
  obtain ⟨h', rfl⟩ : ∃ h', h = P.length + h' := ⟨h - P.length, by omega⟩
  rw [e2 _ (by omega)] at h4 ⊢
  simp only [Bool.not_eq_true'] at h4 ⊢
  exact bs_ord' hA (by omega) (by omega) y h4
 ·intro z hz
  cases z with
  | inr z => exact hz
  | inl z =>
   obtain ⟨n, rfl, h1, h2, h3, h4⟩ := hz
   refine ⟨n - P.length, by omega, by omega, fun k hk => ?_, fun k hk1 hk2 => ?_⟩
   ·have := h3 (P.length + k) (by omega) (by omega)
    rw [e2 k (by omega)] at this; simpa using this
   ·have := h4 (P.length + k) (by omega) (by omega)
    rw [e2 k hk2] at this; simpa using this
end
end Go.PL
