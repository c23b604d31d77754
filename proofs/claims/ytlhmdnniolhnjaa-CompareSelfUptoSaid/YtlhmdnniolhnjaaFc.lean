/-
  Functions of the seat, as data functions, and the proofs that the program computes them. Printed by a program of our own.
-/
import Derived.Test.YtlhmdnniolhnjaaFb
namespace Go.PL
open Go
set_option linter.unusedVariables false

def F60_L0 (n : Nat) (rec : (List Int) → Expr → Option (Int)) (a0 : List Int) (a1 : Expr) : ((List Int) × Int) → Option (((List Int) × Int) ⊕ ((List Int)))
  | (v1, v2) => if (decide (v2 < ((a1.Args.length : Int)))) = true then (if 0 ≤ v2 ∧ v2 < (a1.Args.length : Int) then ((rec a0 (a1.Args.getD (v2).toNat default)).bind fun r6 => if (v1.length + 1) * 8 ≤ 140737488355328 then (some (.inl ((v1 ++ ([r6]), IntKind.i64.wrap (v2 + 1))))) else none) else none) else (some (.inr (v1)))
def F60_L1 (n : Nat) : (Int × (List Int) × Int) → Option ((Int × (List Int) × Int) ⊕ (Int))
  | (v23, v24, v25) => if (decide (v25 < ((v24.length : Int)))) = true then (if 0 ≤ v25 ∧ v25 < (v24.length : Int) then (if (v25).toNat < v24.length then (some (.inl ((if (1099511627776 : Int) < (IntKind.i64.wrap (v23 + (v24.getD (v25).toNat default))) then (1099511627776 : Int) else (IntKind.i64.wrap (v23 + (v24.getD (v25).toNat default))), v24, IntKind.i64.wrap (v25 + 1))))) else none) else none) else (some (.inr (v23)))
def F60 : Nat → (List Int) → Expr → Option (Int)
  | 0, _, _ => none
  | n + 1, a0, a1 => Option.bind (iterM (F60_L0 n (F60 n) a0 a1) n ((([] : List Int), 0))) fun b3 => Option.bind (if (a1.Op == 21) = true then (some ((b3, ((b3.length : Int)) == 3))) else (some ((b3, false))) : Option ((List Int) × Bool)) fun J13 => match J13 with | (j11, j12) => (if (j12) = true then (if 0 ≤ ((0 : Int)) ∧ ((0 : Int)) < (j11.length : Int) then (if ((0 : Int)).toNat < j11.length then (if 0 ≤ ((1 : Int)) ∧ ((1 : Int)) < (j11.length : Int) then (if ((1 : Int)).toNat < j11.length then (if 0 ≤ ((2 : Int)) ∧ ((2 : Int)) < (j11.length : Int) then (if ((2 : Int)).toNat < j11.length then (some (if (1099511627776 : Int) < (IntKind.i64.wrap ((IntKind.i64.wrap (1 + (j11.getD ((0 : Int)).toNat default))) + (if (j11.getD ((2 : Int)).toNat default) > (j11.getD ((1 : Int)).toNat default) then (j11.getD ((2 : Int)).toNat default) else (j11.getD ((1 : Int)).toNat default)))) then (1099511627776 : Int) else (IntKind.i64.wrap ((IntKind.i64.wrap (1 + (j11.getD ((0 : Int)).toNat default))) + (if (j11.getD ((2 : Int)).toNat default) > (j11.getD ((1 : Int)).toNat default) then (j11.getD ((2 : Int)).toNat default) else (j11.getD ((1 : Int)).toNat default)))))) else none) else none) else none) else none) else none) else none) else (Option.bind (iterM (F60_L1 n) n ((1, j11, 0))) fun b26 => Option.bind (if (a1.Op == 22) = true then (if (decide (a1.N ≥ 0)) = true then (some (decide (a1.N < ((a0.length : Int))))) else (some (false))) else (some (false)) : Option (Bool)) fun j32 => Option.bind (if (j32) = true then (if 0 ≤ a1.N ∧ a1.N < (a0.length : Int) then (some (if (1099511627776 : Int) < (IntKind.i64.wrap (b26 + (a0.getD (a1.N).toNat default))) then (1099511627776 : Int) else (IntKind.i64.wrap (b26 + (a0.getD (a1.N).toNat default))))) else none) else (some (b26)) : Option (Int)) fun j38 => some (j38)))
abbrev I60 : Inf := ⟨look tiL, [], 84⟩
set_option maxRecDepth 20000 in
theorem F60_ok (n : Nat) : ∀ (a0 : List Int) (a1 : Expr) (y : Int) (_ : F60 n a0 a1 = some y), PCall Proofs.Try.prog 60 [.t (eL cInt (a0)), .t (eExpr a1)] [] [] (Ret (.t (.int .i64 (y)))) := by
  induction n with
  | zero => intro a0 a1 y h; cases h
  | succ n ih =>
  intro a0 a1 y h
  refine pcall_of (I := I60) Proofs.Try.func60 rfl ti_ok Proofs.Try.ntmps60 (le_n (by kernel_rfl)) (fun E hG => ?_)
  rw [F60] at h
  refine sn hG [0, 3] [3] [(3, .ptr 3 0)] [(3, .box ((exprCells (a1)).map .t))] ?_
  refine sn hG [0, 3, 5] [3] [(5, .t (.int .i64 (1)))] [] ?_
  refine sn hG [0, 3, 5, 6] [3] [(6, .nil)] [] ?_
  refine pwp_seq ?_
  refine sn hG [0, 3, 5, 6, 7] [3] [(7, .t (.int .i64 (0)))] [] ?_
  refine ws ⟨[(0, .t (eL cInt (a0))), (3, .ptr 3 0), (5, .t (.int .i64 (1))), (6, .nil), (7, .t (.int .i64 (0)))], [(3, .box ((exprCells (a1)).map .t))]⟩ ?_
  refine pwp_weak (Le.thaw (t := 6) (o := 6) (e := 3) (s := 1) (f := eF cInt ([] : List Int)) hG rfl) ?_
  obtain ⟨b3, hR10, h⟩ := bnd h
  refine lp (F60_L0 n (F60 n) a0 a1) (fun (s : (List Int) × Int) => match s with | (v1, v2) => (⟨[(0, .t (eL cInt (a0))), (3, .ptr 3 0), (5, .t (.int .i64 (1))), (6, .own 6), (7, .t (.int .i64 (v2)))], [(3, .box ((exprCells (a1)).map .t)), (6, .arr 3 1 (v1.length) (eF cInt v1))]⟩ : St)) (fun (x0 : (List Int)) (e : Exit) (s : St) => e = .exit 0 ∧ Le E s ((fun (b3 : (List Int)) => (⟨[(0, .t (eL cInt (a0))), (3, .ptr 3 0), (5, .t (.int .i64 (1))), (6, .own 6)], [(3, .box ((exprCells (a1)).map .t)), (6, .arr 3 1 (b3.length) (eF cInt b3))]⟩ : St)) x0)) ?_ n ((([] : List Int), 0)) b3 hR10 ?_
  rintro ⟨v1, v2⟩ x h
  rw [F60_L0] at h
  refine pwp_seq ?_
  refine sn hG [0, 3, 5, 6, 7, 13] [3, 6] [(13, .t (.bool (decide (v2 < ((a1.Args.length : Int))))))] [] ?_
  refine iw h (fun h => ?_) (fun h => ?_)
  refine pwp_skip ?_
  refine then_n ?_
  refine pwp_seq ?_
  refine pwp_block ?_
  refine pwp_region ?_
  obtain ⟨hc5, h⟩ := grd h
  refine pc hG 7 [0, 3, 5, 7, 16, 17, 22] [3, 6] [(16, .own 6), (17, .t (eL cInt (a0))), (22, .t (eExpr (a1.Args.getD (v2).toNat default)))] [] hc5 ?_
  obtain ⟨r6, hr7, h⟩ := bnd h
  refine ca hG [] rfl rfl rfl rfl callable60 (.cons (.same _) (.cons (.same _) .nil)) (ih _ _ _ hr7) ?_
  obtain ⟨hc8, h⟩ := grd h
  refine pd hG 2 [0, 3, 5, 7, 25] [3, 25] [(25, .own 25)] [(25, .arr 3 1 (v1.length + 1) (appF (v1.length) (eF cInt v1) (arrOf [.int .i64 (r6)] 1)))] (Cs := [appC (v1.length) (1) 8 1 (arrOf [.int .i64 (r6)] 1)]) ⟨hc8, ok_one rfl⟩ ?_
  refine os ⟨[(0, .t (eL cInt (a0))), (3, .ptr 3 0), (5, .t (.int .i64 (1))), (7, .t (.int .i64 (v2))), (25, .own 25)], [(3, .box ((exprCells (a1)).map .t)), (25, .arr 3 1 (v1.length + 1) (appF (v1.length) (eF cInt v1) (arrOf [.int .i64 (r6)] 1)))]⟩ ?_
  refine pops_weak (Le.obj (o := 25) (.arr 3 1 ((v1 ++ ([r6])).length) (eF cInt (v1 ++ ([r6])))) rfl (fun _ _ _ => ObjR.row (by simp) (row_snoc cInt v1 r6 _ rfl))) ?_
  refine pn hG 1 [0, 3, 5, 6, 7] [3, 25] [(6, .own 25)] [(25, .arr 3 1 ((v1 ++ ([r6])).length) (eF cInt (v1 ++ ([r6]))))] ?_
  refine pe ?_
  refine blk_n ?_
  refine then_n ?_
  refine rn hG [0, 3, 5, 6, 7] [3, 25] [(7, .t (.int .i64 (IntKind.i64.wrap (v2 + 1))))] [] ?_
  cases h
  exact round_in (Le.trans (ls ⟨[(0, .t (eL cInt (a0))), (3, .ptr 3 0), (5, .t (.int .i64 (1))), (6, .own 25), (7, .t (.int .i64 (IntKind.i64.wrap (v2 + 1))))], [(3, .box ((exprCells (a1)).map .t)), (25, .arr 3 1 ((v1 ++ ([r6])).length) (eF cInt (v1 ++ ([r6]))))]⟩) (Le.trans (Le.rename (o := 25) (o' := 6) hG (by decide) rfl) lk))
  cases h
  exact pwp_exit (then_exit (round_out (by simp) (And.intro rfl lk)))
  intro e s hq
  try dsimp only at h
  obtain ⟨rfl, hle⟩ := hq
  refine ⟨_, hle, blk_hit ?_⟩
  refine then_n ?_
  refine pwp_seq ?_
  refine pwp_seq ?_
  obtain ⟨J13, hj14, h⟩ := bnd h
  obtain ⟨j11, j12⟩ := J13
  try dsimp only at h
  refine jn [0, 3, 5, 6, 33] [3, 6] [(33, .t (.bool (j12)))] [(6, .arr 3 1 (j11.length) (eF cInt j11))] ?_ ?_
  replace h := hj14; clear hj14
  refine pwp_region ?_
  refine pn hG 4 [0, 3, 5, 6, 29] [3, 6] [(29, .t (.bool (a1.Op == 21)))] [] ?_
  refine io 29 h (fun h => ?_) (fun h => ?_)
  refine pn hG 4 [0, 3, 5, 6, 33] [3, 6] [(33, .t (.bool (((b3.length : Int)) == 3)))] [] ?_
  injection h with q0
  injection q0 with p1 q1
  subst p1
  subst q1
  refine pe ?_
  exact fl
  refine pn hG 4 [0, 3, 5, 6, 33] [3, 6] [(33, .t (.bool (false)))] [] ?_
  injection h with q0
  injection q0 with p1 q1
  subst p1
  subst q1
  refine pe ?_
  exact fl
  refine then_n ?_
  refine iw h (fun h => ?_) (fun h => ?_)
  refine pwp_seq ?_
  obtain ⟨hc17, h⟩ := grd h
  obtain ⟨hc18, h⟩ := grd h
  obtain ⟨hc19, h⟩ := grd h
  obtain ⟨hc20, h⟩ := grd h
  obtain ⟨hc21, h⟩ := grd h
  obtain ⟨hc22, h⟩ := grd h
  refine ln hG [] [] [(1, [0 ≤ ((0 : Int)) ∧ ((0 : Int)) < (j11.length : Int)]), (2, [((0 : Int)).toNat < j11.length]), (5, [0 ≤ ((1 : Int)) ∧ ((1 : Int)) < (j11.length : Int)]), (6, [((1 : Int)).toNat < j11.length]), (8, [0 ≤ ((2 : Int)) ∧ ((2 : Int)) < (j11.length : Int)]), (9, [((2 : Int)).toNat < j11.length])] [(3, false, []), (6, false, [])] [0, 3, 5, 6, 33] .nil .nil (.cons hc17 (.cons hc18 (.cons hc19 (.cons hc20 (.cons hc21 (.cons hc22 .nil)))))) [4] [] [(4, .t (.int .i64 (if (1099511627776 : Int) < (IntKind.i64.wrap ((IntKind.i64.wrap (1 + (j11.getD ((0 : Int)).toNat default))) + (if (j11.getD ((2 : Int)).toNat default) > (j11.getD ((1 : Int)).toNat default) then (j11.getD ((2 : Int)).toNat default) else (j11.getD ((1 : Int)).toNat default)))) then (1099511627776 : Int) else (IntKind.i64.wrap ((IntKind.i64.wrap (1 + (j11.getD ((0 : Int)).toNat default))) + (if (j11.getD ((2 : Int)).toNat default) > (j11.getD ((1 : Int)).toNat default) then (j11.getD ((2 : Int)).toNat default) else (j11.getD ((1 : Int)).toNat default)))))))] [] ?_
  refine then_n ?_
  cases h
  exact pwp_ret (then_ret rt)
  refine pwp_skip ?_
  refine then_n ?_
  refine pwp_seq ?_
  refine sn hG [0, 3, 5, 6, 8] [3, 6] [(8, .t (.int .i64 (0)))] [] ?_
  obtain ⟨b26, hR31, h⟩ := bnd h
  refine lp (F60_L1 n) (fun (s : Int × (List Int) × Int) => match s with | (v23, v24, v25) => (⟨[(0, .t (eL cInt (a0))), (3, .ptr 3 0), (5, .t (.int .i64 (v23))), (6, .own 6), (8, .t (.int .i64 (v25)))], [(3, .box ((exprCells (a1)).map .t)), (6, .arr 3 1 (v24.length) (eF cInt v24))]⟩ : St)) (fun (x0 : Int) (e : Exit) (s : St) => e = .exit 2 ∧ Le E s ((fun (b26 : Int) => (⟨[(0, .t (eL cInt (a0))), (3, .ptr 3 0), (5, .t (.int .i64 (b26)))], [(3, .box ((exprCells (a1)).map .t))]⟩ : St)) x0)) ?_ n ((1, j11, 0)) b26 hR31 ?_
  rintro ⟨v23, v24, v25⟩ x h
  rw [F60_L1] at h
  refine pwp_seq ?_
  refine sn hG [0, 3, 5, 6, 8, 50] [3, 6] [(50, .t (.bool (decide (v25 < ((v24.length : Int))))))] [] ?_
  refine iw h (fun h => ?_) (fun h => ?_)
  refine pwp_skip ?_
  refine then_n ?_
  refine pwp_seq ?_
  refine pwp_block ?_
  obtain ⟨hc28, h⟩ := grd h
  obtain ⟨hc29, h⟩ := grd h
  refine rd hG [0, 3, 5, 6, 8] [3, 6] [(5, .t (.int .i64 (if (1099511627776 : Int) < (IntKind.i64.wrap (v23 + (v24.getD (v25).toNat default))) then (1099511627776 : Int) else (IntKind.i64.wrap (v23 + (v24.getD (v25).toNat default))))))] [] (Cs := [0 ≤ v25 ∧ v25 < (v24.length : Int), (v25).toNat < v24.length]) ⟨hc28, hc29⟩ ?_
  refine blk_n ?_
  refine then_n ?_
  refine rn hG [0, 3, 5, 6, 8] [3, 6] [(8, .t (.int .i64 (IntKind.i64.wrap (v25 + 1))))] [] ?_
  cases h
  exact round_in lk
  cases h
  exact pwp_exit (then_exit (round_out (by simp) (And.intro rfl lk)))
  intro e s hq
  try dsimp only at h
  obtain ⟨rfl, hle⟩ := hq
  refine ⟨_, hle, blk_hit ?_⟩
  refine then_n ?_
  refine pwp_seq ?_
  refine pwp_seq ?_
  obtain ⟨j32, hj34, h⟩ := bnd h
  refine jn [0, 3, 5, 74] [3] [(74, .t (.bool (j32)))] [] ?_ ?_
  replace h := hj34; clear hj34
  refine pwp_region ?_
  refine pn hG 4 [0, 3, 5, 63] [3] [(63, .t (.bool (a1.Op == 22)))] [] ?_
  refine io 63 h (fun h => ?_) (fun h => ?_)
  refine pn hG 5 [0, 3, 5, 68] [3] [(68, .t (.bool (decide (a1.N ≥ 0))))] [] ?_
  refine io 68 h (fun h => ?_) (fun h => ?_)
  refine pn hG 6 [0, 3, 5, 74] [3] [(74, .t (.bool (decide (a1.N < ((a0.length : Int))))))] [] ?_
  cases h
  refine pe ?_
  exact fl
  refine pn hG 6 [0, 3, 5, 74] [3] [(74, .t (.bool (false)))] [] ?_
  cases h
  refine pe ?_
  exact fl
  refine pn hG 11 [0, 3, 5, 74] [3] [(74, .t (.bool (false)))] [] ?_
  cases h
  refine pe ?_
  exact fl
  refine then_n ?_
  obtain ⟨j38, hj40, h⟩ := bnd h
  refine jn [5] [] [(5, .t (.int .i64 (j38)))] [] ?_ ?_
  replace h := hj40; clear hj40
  refine iw h (fun h => ?_) (fun h => ?_)
  obtain ⟨hc41, h⟩ := grd h
  refine rc hG [5] [] [(5, .t (.int .i64 (if (1099511627776 : Int) < (IntKind.i64.wrap (b26 + (a0.getD (a1.N).toNat default))) then (1099511627776 : Int) else (IntKind.i64.wrap (b26 + (a0.getD (a1.N).toNat default))))))] [] hc41 ?_
  cases h
  exact fl
  refine pwp_skip ?_
  cases h
  exact fl
  refine then_n ?_
  refine sn hG [4] [] [(4, .t (.int .i64 (j38)))] [] ?_
  cases h
  exact pwp_ret rt

def F41_L0 (n : Nat) (a0 : List GFunc) : ((List Int) × Int) → Option (((List Int) × Int) ⊕ ((List Int)))
  | (v1, v2) => if (decide (v2 < ((a0.length : Int)))) = true then (if 0 ≤ v2 ∧ v2 < (a0.length : Int) then ((F60 n v1 ((a0.getD (v2).toNat default).Body)).bind fun r6 => if (v1.length + 1) * 8 ≤ 140737488355328 then (some (.inl ((v1 ++ ([r6]), IntKind.i64.wrap (v2 + 1))))) else none) else none) else (some (.inr (v1)))
def F41 (n : Nat) (a0 : List GFunc) (a1 : Expr) : Option (Int) := Option.bind (iterM (F41_L0 n a0) n ((([] : List Int), 0))) fun b3 => (F60 n b3 a1).bind fun r11 => some (r11)
abbrev I41 : Inf := ⟨look tiL, [], 26⟩
set_option maxRecDepth 20000 in
theorem F41_ok (n : Nat) (a0 : List GFunc) (a1 : Expr) (y : Int) (h : F41 n a0 a1 = some y) : PCall Proofs.Try.prog 41 [.t (eL cGFunc (a0)), .t (eExpr a1)] [] [] (Ret (.t (.int .i64 (y)))) := by
  refine pcall_of (I := I41) Proofs.Try.func41 rfl ti_ok Proofs.Try.ntmps41 (le_n (by kernel_rfl)) (fun E hG => ?_)
  unfold F41 at h
  refine sn hG [0, 3] [3] [(3, .ptr 3 0)] [(3, .box ((exprCells (a1)).map .t))] ?_
  refine sn hG [0, 3, 5] [3] [(5, .nil)] [] ?_
  refine pwp_seq ?_
  refine sn hG [0, 3, 5, 6] [3] [(6, .t (.int .i64 (0)))] [] ?_
  refine ws ⟨[(0, .t (eL cGFunc (a0))), (3, .ptr 3 0), (5, .nil), (6, .t (.int .i64 (0)))], [(3, .box ((exprCells (a1)).map .t))]⟩ ?_
  refine pwp_weak (Le.thaw (t := 5) (o := 5) (e := 3) (s := 1) (f := eF cInt ([] : List Int)) hG rfl) ?_
  obtain ⟨b3, hR10, h⟩ := bnd h
  refine lp (F41_L0 n a0) (fun (s : (List Int) × Int) => match s with | (v1, v2) => (⟨[(0, .t (eL cGFunc (a0))), (3, .ptr 3 0), (5, .own 5), (6, .t (.int .i64 (v2)))], [(3, .box ((exprCells (a1)).map .t)), (5, .arr 3 1 (v1.length) (eF cInt v1))]⟩ : St)) (fun (x0 : (List Int)) (e : Exit) (s : St) => e = .exit 0 ∧ Le E s ((fun (b3 : (List Int)) => (⟨[(3, .ptr 3 0), (5, .own 5)], [(3, .box ((exprCells (a1)).map .t)), (5, .arr 3 1 (b3.length) (eF cInt b3))]⟩ : St)) x0)) ?_ n ((([] : List Int), 0)) b3 hR10 ?_
  rintro ⟨v1, v2⟩ x h
  rw [F41_L0] at h
  refine pwp_seq ?_
  refine sn hG [0, 3, 5, 6, 10] [3, 5] [(10, .t (.bool (decide (v2 < ((a0.length : Int))))))] [] ?_
  refine iw h (fun h => ?_) (fun h => ?_)
  refine pwp_skip ?_
  refine then_n ?_
  refine pwp_seq ?_
  refine pwp_block ?_
  refine pwp_region ?_
  obtain ⟨hc5, h⟩ := grd h
  refine pc hG 7 [0, 3, 6, 13, 14, 19] [3, 5] [(13, .own 5), (14, .own 5), (19, .t (eExpr ((a0.getD (v2).toNat default).Body)))] [] hc5 ?_
  obtain ⟨r6, hr7, h⟩ := bnd h
  refine ca hG [5] (aps := [.own 5, .t (eExpr ((a0.getD (v2).toNat default).Body))]) rfl rfl rfl rfl callable60 (.cons (.lend (by simp) rfl rfl) (.cons (.same _) .nil)) (F60_ok n _ _ _ hr7) ?_
  obtain ⟨hc8, h⟩ := grd h
  refine pd hG 2 [0, 3, 6, 22] [3, 22] [(22, .own 22)] [(22, .arr 3 1 (v1.length + 1) (appF (v1.length) (eF cInt v1) (arrOf [.int .i64 (r6)] 1)))] (Cs := [appC (v1.length) (1) 8 1 (arrOf [.int .i64 (r6)] 1)]) ⟨hc8, ok_one rfl⟩ ?_
  refine os ⟨[(0, .t (eL cGFunc (a0))), (3, .ptr 3 0), (6, .t (.int .i64 (v2))), (22, .own 22)], [(3, .box ((exprCells (a1)).map .t)), (22, .arr 3 1 (v1.length + 1) (appF (v1.length) (eF cInt v1) (arrOf [.int .i64 (r6)] 1)))]⟩ ?_
  refine pops_weak (Le.obj (o := 22) (.arr 3 1 ((v1 ++ ([r6])).length) (eF cInt (v1 ++ ([r6])))) rfl (fun _ _ _ => ObjR.row (by simp) (row_snoc cInt v1 r6 _ rfl))) ?_
  refine pn hG 1 [0, 3, 5, 6] [3, 22] [(5, .own 22)] [(22, .arr 3 1 ((v1 ++ ([r6])).length) (eF cInt (v1 ++ ([r6]))))] ?_
  refine pe ?_
  refine blk_n ?_
  refine then_n ?_
  refine rn hG [0, 3, 5, 6] [3, 22] [(6, .t (.int .i64 (IntKind.i64.wrap (v2 + 1))))] [] ?_
  cases h
  exact round_in (Le.trans (ls ⟨[(0, .t (eL cGFunc (a0))), (3, .ptr 3 0), (5, .own 22), (6, .t (.int .i64 (IntKind.i64.wrap (v2 + 1))))], [(3, .box ((exprCells (a1)).map .t)), (22, .arr 3 1 ((v1 ++ ([r6])).length) (eF cInt (v1 ++ ([r6]))))]⟩) (Le.trans (Le.rename (o := 22) (o' := 5) hG (by decide) rfl) lk))
  cases h
  exact pwp_exit (then_exit (round_out (by simp) (And.intro rfl lk)))
  intro e s hq
  try dsimp only at h
  obtain ⟨rfl, hle⟩ := hq
  refine ⟨_, hle, blk_hit ?_⟩
  refine then_n ?_
  refine pwp_seq ?_
  refine pwp_region ?_
  refine pn hG 2 [23, 24] [5] [(23, .own 5), (24, .t (eExpr a1))] [] ?_
  obtain ⟨r11, hr12, h⟩ := bnd h
  refine ca hG [5] (aps := [.own 5, .t (eExpr a1)]) rfl rfl rfl rfl callable60 (.cons (.lend (by simp) rfl rfl) (.cons (.same _) .nil)) (F60_ok n _ _ _ hr12) ?_
  refine pn hG 1 [4] [] [(4, .t (.int .i64 (r11)))] [] ?_
  refine pe ?_
  refine then_n ?_
  cases h
  exact pwp_ret rt

def F27_L0 (n : Nat) (a0 : List GFunc) : Int → Option ((Int) ⊕ ((Unit) ⊕ (Bool)))
  | v1 => Option.bind (if (decide (v1 < ((a0.length : Int)))) = true then (some (decide (v1 < 6))) else (some (false)) : Option (Bool)) fun j2 => if (j2) = true then (Option.bind (if 0 ≤ v1 ∧ v1 < (a0.length : Int) then ((F40 n ((a0.getD (v1).toNat default).Body)).bind fun r11 => if (decide (r11 > 100)) = true then (some (true)) else (if 0 ≤ v1 ∧ v1 < (a0.length : Int) then (some (decide (((((a0.getD (v1).toNat default).Params).length : Int)) > 10))) else none)) else none : Option (Bool)) fun j7 => if (j7) = true then (some (.inr (.inr (false)))) else (some (.inl (IntKind.i64.wrap (v1 + 1))))) else (some (.inr (.inl (()))))
def F27_L1 (n : Nat) (a0 : List GFunc) (a1 : GNode) : Int → Option ((Int) ⊕ ((Unit) ⊕ (Bool)))
  | v18 => Option.bind (if (decide (v18 < ((a1.Exprs.length : Int)))) = true then (some (decide (v18 < 13))) else (some (false)) : Option (Bool)) fun j19 => if (j19) = true then (Option.bind (if 0 ≤ v18 ∧ v18 < (a1.Exprs.length : Int) then ((F40 n (a1.Exprs.getD (v18).toNat default)).bind fun r28 => if (decide (r28 > 200)) = true then (some (true)) else (if 0 ≤ v18 ∧ v18 < (a1.Exprs.length : Int) then ((F29 n (a1.Exprs.getD (v18).toNat default)).bind fun r32 => if (decide (r32 > 12)) = true then (some (true)) else (if 0 ≤ v18 ∧ v18 < (a1.Exprs.length : Int) then ((F41 n a0 (a1.Exprs.getD (v18).toNat default)).bind fun r36 => some (decide (r36 > 1000))) else none)) else none)) else none : Option (Bool)) fun j24 => if (j24) = true then (some (.inr (.inr (false)))) else (some (.inl (IntKind.i64.wrap (v18 + 1))))) else (some (.inr (.inl (()))))
def F27_L2 (n : Nat) (a0 : List GFunc) (a1 : GNode) : Int → Option ((Int) ⊕ ((Unit) ⊕ (Bool)))
  | v41 => Option.bind (if (decide (v41 < ((a1.Seq.length : Int)))) = true then (some (decide (v41 < 9))) else (some (false)) : Option (Bool)) fun j42 => if (j42) = true then (Option.bind (if 0 ≤ v41 ∧ v41 < (a1.Seq.length : Int) then ((F40 n ((a1.Seq.getD (v41).toNat default).Pred)).bind fun r51 => if (decide (r51 > 200)) = true then (some (true)) else (if 0 ≤ v41 ∧ v41 < (a1.Seq.length : Int) then ((F29 n ((a1.Seq.getD (v41).toNat default).Pred)).bind fun r55 => if (decide (r55 > 12)) = true then (some (true)) else (if 0 ≤ v41 ∧ v41 < (a1.Seq.length : Int) then ((F41 n a0 ((a1.Seq.getD (v41).toNat default).Pred)).bind fun r59 => some (decide (r59 > 1000))) else none)) else none)) else none : Option (Bool)) fun j47 => if (j47) = true then (some (.inr (.inr (false)))) else (some (.inl (IntKind.i64.wrap (v41 + 1))))) else (some (.inr (.inl (()))))
def F27 (n : Nat) (a0 : List GFunc) (a1 : GNode) : Option (Bool) := Option.bind (iterM (F27_L0 n a0) n (0)) fun R16 => match R16 with | .inl (_) => (Option.bind (iterM (F27_L1 n a0 a1) n (0)) fun R39 => match R39 with | .inl (_) => (Option.bind (iterM (F27_L2 n a0 a1) n (0)) fun R62 => match R62 with | .inl (_) => (Option.bind (if (decide (((a0.length : Int)) ≤ 5)) = true then (if (decide (((a1.Exprs.length : Int)) ≤ 12)) = true then (if (decide (((a1.Seq.length : Int)) ≤ 8)) = true then (if (decide (((a1.Key.length : Int)) ≤ 20)) = true then (if (decide (((a1.Key2.length : Int)) ≤ 20)) = true then (some (decide (((a1.Aggs.length : Int)) ≤ 20))) else (some (false))) else (some (false))) else (some (false))) else (some (false))) else (some (false)) : Option (Bool)) fun j64 => some (j64)) | .inr (y72) => (some (y72))) | .inr (y73) => (some (y73))) | .inr (y74) => (some (y74))
abbrev I27 : Inf := ⟨look tiL, [], 144⟩
set_option maxRecDepth 20000 in
theorem F27_ok (n : Nat) (a0 : List GFunc) (a1 : GNode) (y : Bool) (h : F27 n a0 a1 = some y) : PCall Proofs.Try.prog 27 [.t (eL cGFunc (a0)), .t (eGNode a1)] [] [] (Ret (.t (.bool (y)))) := by
  refine pcall_of (I := I27) Proofs.Try.func27 rfl ti_ok Proofs.Try.ntmps27 (le_n (by kernel_rfl)) (fun E hG => ?_)
  unfold F27 at h
  refine sn hG [0, 3] [3] [(3, .ptr 3 0)] [(3, .box ((cGNode (a1)).map .t))] ?_
  refine pwp_seq ?_
  refine sn hG [0, 3, 5] [3] [(5, .t (.int .i64 (0)))] [] ?_
  obtain ⟨R16, hR17, h⟩ := bnd h
  refine lp (F27_L0 n a0) (fun (v1 : Int) => (⟨[(0, .t (eL cGFunc (a0))), (3, .ptr 3 0), (5, .t (.int .i64 (v1)))], [(3, .box ((cGNode (a1)).map .t))]⟩ : St)) (fun (r : (Unit) ⊕ (Bool)) (e : Exit) (s : St) => match r with | .inl (x0) => e = .exit 0 ∧ Le E s ((fun (_ : Unit) => (⟨[(0, .t (eL cGFunc (a0))), (3, .ptr 3 0)], [(3, .box ((cGNode (a1)).map .t))]⟩ : St)) x0) | .inr (y0) => e = .ret ∧ finQ I27 Proofs.Try.f27.results.toList (Ret (.t (.bool (y0)))) .ret s) ?_ n (0) R16 hR17 ?_
  intro v1 x h
  rw [F27_L0] at h
  refine pwp_seq ?_
  refine pwp_seq ?_
  obtain ⟨j2, hj4, h⟩ := bnd h
  refine jn [0, 3, 5, 15] [3] [(15, .t (.bool (j2)))] [] ?_ ?_
  replace h := hj4; clear hj4
  refine pwp_region ?_
  refine pn hG 5 [0, 3, 5, 12] [3] [(12, .t (.bool (decide (v1 < ((a0.length : Int))))))] [] ?_
  refine io 12 h (fun h => ?_) (fun h => ?_)
  refine pn hG 3 [0, 3, 5, 15] [3] [(15, .t (.bool (decide (v1 < 6))))] [] ?_
  cases h
  refine pe ?_
  exact fl
  refine pn hG 3 [0, 3, 5, 15] [3] [(15, .t (.bool (false)))] [] ?_
  cases h
  refine pe ?_
  exact fl
  refine then_n ?_
  refine iw h (fun h => ?_) (fun h => ?_)
  refine pwp_skip ?_
  refine then_n ?_
  refine pwp_seq ?_
  refine pwp_block ?_
  refine pwp_seq ?_
  obtain ⟨j7, hj9, h⟩ := bnd h
  refine jn [0, 3, 5, 33] [3] [(33, .t (.bool (j7)))] [] ?_ ?_
  replace h := hj9; clear hj9
  refine pwp_region ?_
  obtain ⟨hc10, h⟩ := grd h
  refine pc hG 5 [0, 3, 5, 22] [3] [(22, .t (eExpr ((a0.getD (v1).toNat default).Body)))] [] hc10 ?_
  obtain ⟨r11, hr12, h⟩ := bnd h
  refine ca hG [] rfl rfl rfl rfl callable40 (.cons (.same _) .nil) (F40_ok n _ _ hr12) ?_
  refine pn hG 2 [0, 3, 5, 25] [3] [(25, .t (.bool (decide (r11 > 100))))] [] ?_
  refine io 25 h (fun h => ?_) (fun h => ?_)
  refine pn hG 8 [0, 3, 5, 33] [3] [(33, .t (.bool (true)))] [] ?_
  cases h
  refine pe ?_
  exact fl
  obtain ⟨hc14, h⟩ := grd h
  refine pc hG 8 [0, 3, 5, 33] [3] [(33, .t (.bool (decide (((((a0.getD (v1).toNat default).Params).length : Int)) > 10))))] [] hc14 ?_
  cases h
  refine pe ?_
  exact fl
  refine then_n ?_
  refine iw h (fun h => ?_) (fun h => ?_)
  refine sn hG [4] [] [(4, .t (.bool (false)))] [] ?_
  cases h
  exact pwp_ret (blk_ret (then_ret (round_out (by simp) (And.intro rfl rt))))
  refine pwp_skip ?_
  refine blk_n ?_
  refine then_n ?_
  refine rn hG [0, 3, 5] [3] [(5, .t (.int .i64 (IntKind.i64.wrap (v1 + 1))))] [] ?_
  cases h
  exact round_in lk
  cases h
  exact pwp_exit (then_exit (round_out (by simp) (And.intro rfl lk)))
  intro e s hq
  rcases R16 with _ | y74
  try dsimp only at h
  obtain ⟨rfl, hle⟩ := hq
  refine ⟨_, hle, blk_hit ?_⟩
  refine then_n ?_
  refine pwp_seq ?_
  refine sn hG [0, 3, 6] [3] [(6, .t (.int .i64 (0)))] [] ?_
  obtain ⟨R39, hR40, h⟩ := bnd h
  refine lp (F27_L1 n a0 a1) (fun (v18 : Int) => (⟨[(0, .t (eL cGFunc (a0))), (3, .ptr 3 0), (6, .t (.int .i64 (v18)))], [(3, .box ((cGNode (a1)).map .t))]⟩ : St)) (fun (r : (Unit) ⊕ (Bool)) (e : Exit) (s : St) => match r with | .inl (x0) => e = .exit 2 ∧ Le E s ((fun (_ : Unit) => (⟨[(0, .t (eL cGFunc (a0))), (3, .ptr 3 0)], [(3, .box ((cGNode (a1)).map .t))]⟩ : St)) x0) | .inr (y0) => e = .ret ∧ finQ I27 Proofs.Try.f27.results.toList (Ret (.t (.bool (y0)))) .ret s) ?_ n (0) R39 hR40 ?_
  intro v18 x h
  rw [F27_L1] at h
  refine pwp_seq ?_
  refine pwp_seq ?_
  obtain ⟨j19, hj21, h⟩ := bnd h
  refine jn [0, 3, 6, 42] [3] [(42, .t (.bool (j19)))] [] ?_ ?_
  replace h := hj21; clear hj21
  refine pwp_region ?_
  refine pn hG 6 [0, 3, 6, 39] [3] [(39, .t (.bool (decide (v18 < ((a1.Exprs.length : Int))))))] [] ?_
  refine io 39 h (fun h => ?_) (fun h => ?_)
  refine pn hG 3 [0, 3, 6, 42] [3] [(42, .t (.bool (decide (v18 < 13))))] [] ?_
  cases h
  refine pe ?_
  exact fl
  refine pn hG 3 [0, 3, 6, 42] [3] [(42, .t (.bool (false)))] [] ?_
  cases h
  refine pe ?_
  exact fl
  refine then_n ?_
  refine iw h (fun h => ?_) (fun h => ?_)
  refine pwp_skip ?_
  refine then_n ?_
  refine pwp_seq ?_
  refine pwp_block ?_
  refine pwp_seq ?_
  obtain ⟨j24, hj26, h⟩ := bnd h
  refine jn [0, 3, 6, 70] [3] [(70, .t (.bool (j24)))] [] ?_ ?_
  replace h := hj26; clear hj26
  refine pwp_region ?_
  obtain ⟨hc27, h⟩ := grd h
  refine pc hG 5 [0, 3, 6, 49] [3] [(49, .t (eExpr (a1.Exprs.getD (v18).toNat default)))] [] hc27 ?_
  obtain ⟨r28, hr29, h⟩ := bnd h
  refine ca hG [] rfl rfl rfl rfl callable40 (.cons (.same _) .nil) (F40_ok n _ _ hr29) ?_
  refine pn hG 2 [0, 3, 6, 52] [3] [(52, .t (.bool (decide (r28 > 200))))] [] ?_
  refine io 52 h (fun h => ?_) (fun h => ?_)
  refine pn hG 18 [0, 3, 6, 70] [3] [(70, .t (.bool (true)))] [] ?_
  cases h
  refine pe ?_
  exact fl
  obtain ⟨hc31, h⟩ := grd h
  refine pc hG 5 [0, 3, 6, 52, 57] [3] [(57, .t (eExpr (a1.Exprs.getD (v18).toNat default)))] [] hc31 ?_
  obtain ⟨r32, hr33, h⟩ := bnd h
  refine ca hG [] rfl rfl rfl rfl callable29 (.cons (.same _) .nil) (F29_ok n _ _ hr33) ?_
  refine pn hG 3 [0, 3, 6, 61] [3] [(61, .t (.bool (decide (r32 > 12))))] [] ?_
  refine io 61 h (fun h => ?_) (fun h => ?_)
  refine pn hG 9 [0, 3, 6, 70] [3] [(70, .t (.bool (true)))] [] ?_
  cases h
  refine pe ?_
  exact fl
  obtain ⟨hc35, h⟩ := grd h
  refine pc hG 6 [0, 3, 6, 61, 62, 67] [3] [(62, .t (eL cGFunc (a0))), (67, .t (eExpr (a1.Exprs.getD (v18).toNat default)))] [] hc35 ?_
  obtain ⟨r36, hr37, h⟩ := bnd h
  refine ca hG [] rfl rfl rfl rfl callable41 (.cons (.same _) (.cons (.same _) .nil)) (F41_ok n _ _ _ hr37) ?_
  refine pn hG 2 [0, 3, 6, 70] [3] [(70, .t (.bool (decide (r36 > 1000))))] [] ?_
  cases h
  refine pe ?_
  exact fl
  refine then_n ?_
  refine iw h (fun h => ?_) (fun h => ?_)
  refine sn hG [4] [] [(4, .t (.bool (false)))] [] ?_
  cases h
  exact pwp_ret (blk_ret (then_ret (round_out (by simp) (And.intro rfl rt))))
  refine pwp_skip ?_
  refine blk_n ?_
  refine then_n ?_
  refine rn hG [0, 3, 6] [3] [(6, .t (.int .i64 (IntKind.i64.wrap (v18 + 1))))] [] ?_
  cases h
  exact round_in lk
  cases h
  exact pwp_exit (then_exit (round_out (by simp) (And.intro rfl lk)))
  intro e s hq
  rcases R39 with _ | y73
  try dsimp only at h
  obtain ⟨rfl, hle⟩ := hq
  refine ⟨_, hle, blk_hit ?_⟩
  refine then_n ?_
  refine pwp_seq ?_
  refine sn hG [0, 3, 7] [3] [(7, .t (.int .i64 (0)))] [] ?_
  obtain ⟨R62, hR63, h⟩ := bnd h
  refine lp (F27_L2 n a0 a1) (fun (v41 : Int) => (⟨[(0, .t (eL cGFunc (a0))), (3, .ptr 3 0), (7, .t (.int .i64 (v41)))], [(3, .box ((cGNode (a1)).map .t))]⟩ : St)) (fun (r : (Unit) ⊕ (Bool)) (e : Exit) (s : St) => match r with | .inl (x0) => e = .exit 4 ∧ Le E s ((fun (_ : Unit) => (⟨[(0, .t (eL cGFunc (a0))), (3, .ptr 3 0)], [(3, .box ((cGNode (a1)).map .t))]⟩ : St)) x0) | .inr (y0) => e = .ret ∧ finQ I27 Proofs.Try.f27.results.toList (Ret (.t (.bool (y0)))) .ret s) ?_ n (0) R62 hR63 ?_
  intro v41 x h
  rw [F27_L2] at h
  refine pwp_seq ?_
  refine pwp_seq ?_
  obtain ⟨j42, hj44, h⟩ := bnd h
  refine jn [0, 3, 7, 79] [3] [(79, .t (.bool (j42)))] [] ?_ ?_
  replace h := hj44; clear hj44
  refine pwp_region ?_
  refine pn hG 6 [0, 3, 7, 76] [3] [(76, .t (.bool (decide (v41 < ((a1.Seq.length : Int))))))] [] ?_
  refine io 76 h (fun h => ?_) (fun h => ?_)
  refine pn hG 3 [0, 3, 7, 79] [3] [(79, .t (.bool (decide (v41 < 9))))] [] ?_
  cases h
  refine pe ?_
  exact fl
  refine pn hG 3 [0, 3, 7, 79] [3] [(79, .t (.bool (false)))] [] ?_
  cases h
  refine pe ?_
  exact fl
  refine then_n ?_
  refine iw h (fun h => ?_) (fun h => ?_)
  refine pwp_skip ?_
  refine then_n ?_
  refine pwp_seq ?_
  refine pwp_block ?_
  refine pwp_seq ?_
  obtain ⟨j47, hj49, h⟩ := bnd h
  refine jn [0, 3, 7, 110] [3] [(110, .t (.bool (j47)))] [] ?_ ?_
  replace h := hj49; clear hj49
  refine pwp_region ?_
  obtain ⟨hc50, h⟩ := grd h
  refine pc hG 6 [0, 3, 7, 87] [3] [(87, .t (eExpr ((a1.Seq.getD (v41).toNat default).Pred)))] [] hc50 ?_
  obtain ⟨r51, hr52, h⟩ := bnd h
  refine ca hG [] rfl rfl rfl rfl callable40 (.cons (.same _) .nil) (F40_ok n _ _ hr52) ?_
  refine pn hG 2 [0, 3, 7, 90] [3] [(90, .t (.bool (decide (r51 > 200))))] [] ?_
  refine io 90 h (fun h => ?_) (fun h => ?_)
  refine pn hG 20 [0, 3, 7, 110] [3] [(110, .t (.bool (true)))] [] ?_
  cases h
  refine pe ?_
  exact fl
  obtain ⟨hc54, h⟩ := grd h
  refine pc hG 6 [0, 3, 7, 90, 96] [3] [(96, .t (eExpr ((a1.Seq.getD (v41).toNat default).Pred)))] [] hc54 ?_
  obtain ⟨r55, hr56, h⟩ := bnd h
  refine ca hG [] rfl rfl rfl rfl callable29 (.cons (.same _) .nil) (F29_ok n _ _ hr56) ?_
  refine pn hG 3 [0, 3, 7, 100] [3] [(100, .t (.bool (decide (r55 > 12))))] [] ?_
  refine io 100 h (fun h => ?_) (fun h => ?_)
  refine pn hG 10 [0, 3, 7, 110] [3] [(110, .t (.bool (true)))] [] ?_
  cases h
  refine pe ?_
  exact fl
  obtain ⟨hc58, h⟩ := grd h
  refine pc hG 7 [0, 3, 7, 100, 101, 107] [3] [(101, .t (eL cGFunc (a0))), (107, .t (eExpr ((a1.Seq.getD (v41).toNat default).Pred)))] [] hc58 ?_
  obtain ⟨r59, hr60, h⟩ := bnd h
  refine ca hG [] rfl rfl rfl rfl callable41 (.cons (.same _) (.cons (.same _) .nil)) (F41_ok n _ _ _ hr60) ?_
  refine pn hG 2 [0, 3, 7, 110] [3] [(110, .t (.bool (decide (r59 > 1000))))] [] ?_
  cases h
  refine pe ?_
  exact fl
  refine then_n ?_
  refine iw h (fun h => ?_) (fun h => ?_)
  refine sn hG [4] [] [(4, .t (.bool (false)))] [] ?_
  cases h
  exact pwp_ret (blk_ret (then_ret (round_out (by simp) (And.intro rfl rt))))
  refine pwp_skip ?_
  refine blk_n ?_
  refine then_n ?_
  refine rn hG [0, 3, 7] [3] [(7, .t (.int .i64 (IntKind.i64.wrap (v41 + 1))))] [] ?_
  cases h
  exact round_in lk
  cases h
  exact pwp_exit (then_exit (round_out (by simp) (And.intro rfl lk)))
  intro e s hq
  rcases R62 with _ | y72
  try dsimp only at h
  obtain ⟨rfl, hle⟩ := hq
  refine ⟨_, hle, blk_hit ?_⟩
  refine then_n ?_
  refine pwp_seq ?_
  obtain ⟨j64, hj66, h⟩ := bnd h
  refine jn [4] [] [(4, .t (.bool (j64)))] [] ?_ ?_
  replace h := hj66; clear hj66
  refine pwp_region ?_
  refine pn hG 4 [3, 114] [3] [(114, .t (.bool (decide (((a0.length : Int)) ≤ 5))))] [] ?_
  refine io 114 h (fun h => ?_) (fun h => ?_)
  refine pn hG 6 [3, 120] [3] [(120, .t (.bool (decide (((a1.Exprs.length : Int)) ≤ 12))))] [] ?_
  refine io 120 h (fun h => ?_) (fun h => ?_)
  refine pn hG 6 [3, 126] [3] [(126, .t (.bool (decide (((a1.Seq.length : Int)) ≤ 8))))] [] ?_
  refine io 126 h (fun h => ?_) (fun h => ?_)
  refine pn hG 6 [3, 132] [3] [(132, .t (.bool (decide (((a1.Key.length : Int)) ≤ 20))))] [] ?_
  refine io 132 h (fun h => ?_) (fun h => ?_)
  refine pn hG 6 [3, 138] [3] [(138, .t (.bool (decide (((a1.Key2.length : Int)) ≤ 20))))] [] ?_
  refine io 138 h (fun h => ?_) (fun h => ?_)
  refine pn hG 6 [4] [] [(4, .t (.bool (decide (((a1.Aggs.length : Int)) ≤ 20))))] [] ?_
  cases h
  refine pe ?_
  exact fl
  refine pn hG 6 [4] [] [(4, .t (.bool (false)))] [] ?_
  cases h
  refine pe ?_
  exact fl
  refine pn hG 12 [4] [] [(4, .t (.bool (false)))] [] ?_
  cases h
  refine pe ?_
  exact fl
  refine pn hG 18 [4] [] [(4, .t (.bool (false)))] [] ?_
  cases h
  refine pe ?_
  exact fl
  refine pn hG 24 [4] [] [(4, .t (.bool (false)))] [] ?_
  cases h
  refine pe ?_
  exact fl
  refine pn hG 30 [4] [] [(4, .t (.bool (false)))] [] ?_
  cases h
  refine pe ?_
  exact fl
  refine then_n ?_
  cases h
  exact pwp_ret rt
  try dsimp only at h
  obtain ⟨rfl, hq⟩ := hq
  cases h
  exact ⟨_, Le.refl, blk_ret (then_ret (hq))⟩
  try dsimp only at h
  obtain ⟨rfl, hq⟩ := hq
  cases h
  exact ⟨_, Le.refl, blk_ret (then_ret (hq))⟩
  try dsimp only at h
  obtain ⟨rfl, hq⟩ := hq
  cases h
  exact ⟨_, Le.refl, blk_ret (then_ret (hq))⟩

def F15_L0 (n : Nat) (a0 : GProgram) : Int → Option ((Int) ⊕ ((Unit) ⊕ (Bool)))
  | v1 => if (decide (v1 < ((a0.Nodes.length : Int)))) = true then (if 0 ≤ v1 ∧ v1 < (a0.Nodes.length : Int) then ((F27 n a0.Funcs (a0.Nodes.getD (v1).toNat default)).bind fun r4 => if (!r4) = true then (some (.inr (.inr (false)))) else (some (.inl (IntKind.i64.wrap (v1 + 1))))) else none) else (some (.inr (.inl (()))))
def F15 (n : Nat) (a0 : GProgram) : Option (Bool) := Option.bind (iterM (F15_L0 n a0) n (0)) fun R7 => match R7 with | .inl (_) => (some (true)) | .inr (y9) => (some (y9))
abbrev I15 : Inf := ⟨look tiL, [], 20⟩
set_option maxRecDepth 20000 in
theorem F15_ok (n : Nat) (a0 : GProgram) (y : Bool) (h : F15 n a0 = some y) : PCall Proofs.Try.prog 15 [.t (eGProgram a0)] [] [] (Ret (.t (.bool (y)))) := by
  refine pcall_of (I := I15) Proofs.Try.func15 rfl ti_ok Proofs.Try.ntmps15 (le_n (by kernel_rfl)) (fun E hG => ?_)
  unfold F15 at h
  refine sn hG [1] [1] [(1, .ptr 1 0)] [(1, .box ((cGProgram (a0)).map .t))] ?_
  refine pwp_seq ?_
  refine sn hG [1, 3] [1] [(3, .t (.int .i64 (0)))] [] ?_
  obtain ⟨R7, hR8, h⟩ := bnd h
  refine lp (F15_L0 n a0) (fun (v1 : Int) => (⟨[(1, .ptr 1 0), (3, .t (.int .i64 (v1)))], [(1, .box ((cGProgram (a0)).map .t))]⟩ : St)) (fun (r : (Unit) ⊕ (Bool)) (e : Exit) (s : St) => match r with | .inl (x0) => e = .exit 0 ∧ Le E s ((fun (_ : Unit) => (⟨[], []⟩ : St)) x0) | .inr (y0) => e = .ret ∧ finQ I15 Proofs.Try.f15.results.toList (Ret (.t (.bool (y0)))) .ret s) ?_ n (0) R7 hR8 ?_
  intro v1 x h
  rw [F15_L0] at h
  refine pwp_seq ?_
  refine sn hG [1, 3, 8] [1] [(8, .t (.bool (decide (v1 < ((a0.Nodes.length : Int))))))] [] ?_
  refine iw h (fun h => ?_) (fun h => ?_)
  refine pwp_skip ?_
  refine then_n ?_
  refine pwp_seq ?_
  refine pwp_block ?_
  refine pwp_seq ?_
  obtain ⟨hc3, h⟩ := grd h
  obtain ⟨r4, hr5, h⟩ := bnd h
  refine ln hG [(7, 27, [.t (eL cGFunc (a0.Funcs)), .t (eGNode (a0.Nodes.getD (v1).toNat default))], .t (.bool (r4)))] [] [(5, [0 ≤ v1 ∧ v1 < (a0.Nodes.length : Int)])] [(1, false, [])] [1, 3, 8] (.cons ⟨callable27, ⟨_, fun _ => (.cons (.same _) (.cons (.same _) .nil)), F27_ok n _ _ _ hr5⟩, rfl⟩ .nil) .nil (.cons hc3 .nil) [1, 3, 19] [1] [(19, .t (.bool (!r4)))] [] ?_
  refine then_n ?_
  refine iw h (fun h => ?_) (fun h => ?_)
  refine sn hG [2] [] [(2, .t (.bool (false)))] [] ?_
  cases h
  exact pwp_ret (blk_ret (then_ret (round_out (by simp) (And.intro rfl rt))))
  refine pwp_skip ?_
  refine blk_n ?_
  refine then_n ?_
  refine rn hG [1, 3] [1] [(3, .t (.int .i64 (IntKind.i64.wrap (v1 + 1))))] [] ?_
  cases h
  exact round_in lk
  cases h
  exact pwp_exit (then_exit (round_out (by simp) (And.intro rfl lk)))
  intro e s hq
  rcases R7 with _ | y9
  try dsimp only at h
  obtain ⟨rfl, hle⟩ := hq
  refine ⟨_, hle, blk_hit ?_⟩
  refine then_n ?_
  refine sn hG [2] [] [(2, .t (.bool (true)))] [] ?_
  cases h
  exact pwp_ret rt
  try dsimp only at h
  obtain ⟨rfl, hq⟩ := hq
  cases h
  exact ⟨_, Le.refl, blk_ret (then_ret (hq))⟩

def F16_L0 (n : Nat) (a0 : GProgram) (a1 : Int) (a2 : Int) : ((List Int) × Int) → Option (((List Int) × Int) ⊕ ((Unit) ⊕ (Bool)))
  | (v1, v2) => if (decide (v2 < ((a0.Nodes.length : Int)))) = true then (if 0 ≤ v2 ∧ v2 < (a0.Nodes.length : Int) then (Option.bind (if (decide (((((a0.Nodes.getD (v2).toNat default).In).length : Int)) > 0)) = true then (if 0 ≤ ((0 : Int)) ∧ ((0 : Int)) < (((a0.Nodes.getD (v2).toNat default).In).length : Int) then (if 0 ≤ (((a0.Nodes.getD (v2).toNat default).In).getD ((0 : Int)).toNat default) ∧ (((a0.Nodes.getD (v2).toNat default).In).getD ((0 : Int)).toNat default) < (v1.length : Int) then (if (((a0.Nodes.getD (v2).toNat default).In).getD ((0 : Int)).toNat default).toNat < v1.length then (some ((v1, v1.getD (((a0.Nodes.getD (v2).toNat default).In).getD ((0 : Int)).toNat default).toNat default))) else none) else none) else none) else (some ((v1, a1))) : Option ((List Int) × Int)) fun J8 => match J8 with | (j6, j7) => (Option.bind (if (((a0.Nodes.getD (v2).toNat default).Op) == 3) = true then (if 0 ≤ ((1 : Int)) ∧ ((1 : Int)) < (((a0.Nodes.getD (v2).toNat default).In).length : Int) then (if 0 ≤ (((a0.Nodes.getD (v2).toNat default).In).getD ((1 : Int)).toNat default) ∧ (((a0.Nodes.getD (v2).toNat default).In).getD ((1 : Int)).toNat default) < (j6.length : Int) then (if (((a0.Nodes.getD (v2).toNat default).In).getD ((1 : Int)).toNat default).toNat < j6.length then (some ((j6, IntKind.i64.wrap (j7 + (j6.getD (((a0.Nodes.getD (v2).toNat default).In).getD ((1 : Int)).toNat default).toNat default))))) else none) else none) else none) else (Option.bind (if (((a0.Nodes.getD (v2).toNat default).Op) == 6) = true then (if 0 ≤ ((1 : Int)) ∧ ((1 : Int)) < (((a0.Nodes.getD (v2).toNat default).In).length : Int) then (if 0 ≤ (((a0.Nodes.getD (v2).toNat default).In).getD ((1 : Int)).toNat default) ∧ (((a0.Nodes.getD (v2).toNat default).In).getD ((1 : Int)).toNat default) < (j6.length : Int) then (if (((a0.Nodes.getD (v2).toNat default).In).getD ((1 : Int)).toNat default).toNat < j6.length then (some ((j6, IntKind.i64.wrap (j7 * (j6.getD (((a0.Nodes.getD (v2).toNat default).In).getD ((1 : Int)).toNat default).toNat default))))) else none) else none) else none) else (Option.bind (if (((a0.Nodes.getD (v2).toNat default).Op) == 4) = true then (Option.bind (if (((a0.Nodes.getD (v2).toNat default).Kind) == 1) = true then (if ((a0.Nodes.getD (v2).toNat default).Step) ≠ 0 then (some ((j6, IntKind.i64.wrap (j7 * (IntKind.i64.wrap (Int.tdiv ((a0.Nodes.getD (v2).toNat default).Size) ((a0.Nodes.getD (v2).toNat default).Step))))))) else none) else (some ((j6, j7))) : Option ((List Int) × Int)) fun J37 => match J37 with | (j35, j36) => (some ((j35, j36)))) else (some ((j6, j7))) : Option ((List Int) × Int)) fun J32 => match J32 with | (j30, j31) => (some ((j30, j31)))) : Option ((List Int) × Int)) fun J24 => match J24 with | (j22, j23) => (some ((j22, j23)))) : Option ((List Int) × Int)) fun J16 => match J16 with | (j14, j15) => (if (decide (j15 > a2)) = true then (some (.inr (.inr (false)))) else (if (j14.length + 1) * 8 ≤ 140737488355328 then (some (.inl ((j14 ++ ([j15]), IntKind.i64.wrap (v2 + 1))))) else none)))) else none) else (some (.inr (.inl (()))))
def F16 (n : Nat) (a0 : GProgram) (a1 : Int) (a2 : Int) : Option (Bool) := Option.bind (iterM (F16_L0 n a0 a1 a2) n ((([] : List Int), 0))) fun R42 => match R42 with | .inl (_) => (some (true)) | .inr (y44) => (some (y44))
abbrev I16 : Inf := ⟨look tiL, [], 78⟩
set_option maxRecDepth 20000 in
theorem F16_ok (n : Nat) (a0 : GProgram) (a1 : Int) (a2 : Int) (y : Bool) (h : F16 n a0 a1 a2 = some y) : PCall Proofs.Try.prog 16 [.t (eGProgram a0), .t (.int .i64 (a1)), .t (.int .i64 (a2))] [] [] (Ret (.t (.bool (y)))) := by
  refine pcall_of (I := I16) Proofs.Try.func16 rfl ti_ok Proofs.Try.ntmps16 (le_n (by kernel_rfl)) (fun E hG => ?_)
  unfold F16 at h
  refine sn hG [1, 2, 3] [3] [(3, .ptr 3 0)] [(3, .box ((cGProgram (a0)).map .t))] ?_
  refine sn hG [1, 2, 3, 7] [3] [(7, .nil)] [] ?_
  refine pwp_seq ?_
  refine sn hG [1, 2, 3, 7, 8] [3] [(8, .t (.int .i64 (0)))] [] ?_
  refine ws ⟨[(1, .t (.int .i64 (a1))), (2, .t (.int .i64 (a2))), (3, .ptr 3 0), (7, .nil), (8, .t (.int .i64 (0)))], [(3, .box ((cGProgram (a0)).map .t))]⟩ ?_
  refine pwp_weak (Le.thaw (t := 7) (o := 7) (e := 3) (s := 1) (f := eF cInt ([] : List Int)) hG rfl) ?_
  obtain ⟨R42, hR43, h⟩ := bnd h
  refine lp (F16_L0 n a0 a1 a2) (fun (s : (List Int) × Int) => match s with | (v1, v2) => (⟨[(1, .t (.int .i64 (a1))), (2, .t (.int .i64 (a2))), (3, .ptr 3 0), (7, .own 7), (8, .t (.int .i64 (v2)))], [(3, .box ((cGProgram (a0)).map .t)), (7, .arr 3 1 (v1.length) (eF cInt v1))]⟩ : St)) (fun (r : (Unit) ⊕ (Bool)) (e : Exit) (s : St) => match r with | .inl (x0) => e = .exit 0 ∧ Le E s ((fun (_ : Unit) => (⟨[], []⟩ : St)) x0) | .inr (y0) => e = .ret ∧ finQ I16 Proofs.Try.f16.results.toList (Ret (.t (.bool (y0)))) .ret s) ?_ n ((([] : List Int), 0)) R42 hR43 ?_
  rintro ⟨v1, v2⟩ x h
  rw [F16_L0] at h
  refine pwp_seq ?_
  refine sn hG [1, 2, 3, 7, 8, 15] [3, 7] [(15, .t (.bool (decide (v2 < ((a0.Nodes.length : Int))))))] [] ?_
  refine iw h (fun h => ?_) (fun h => ?_)
  refine pwp_skip ?_
  refine then_n ?_
  refine pwp_seq ?_
  refine pwp_block ?_
  refine pwp_seq ?_
  refine pwp_region ?_
  obtain ⟨hc4, h⟩ := grd h
  refine pc hG 7 [1, 2, 3, 7, 8, 9] [3, 7, 9] [(9, .ptr 9 0)] [(9, .box ((cGNode (a0.Nodes.getD (v2).toNat default)).map .t))] hc4 ?_
  refine pe ?_
  refine then_n ?_
  refine sn hG [1, 2, 3, 7, 8, 9, 10] [3, 7, 9] [(10, .t (.int .i64 (a1)))] [] ?_
  refine pwp_seq ?_
  refine sn hG [1, 2, 3, 7, 8, 9, 10, 27] [3, 7, 9] [(27, .t (.bool (decide (((((a0.Nodes.getD (v2).toNat default).In).length : Int)) > 0))))] [] ?_
  obtain ⟨J8, hj9, h⟩ := bnd h
  obtain ⟨j6, j7⟩ := J8
  try dsimp only at h
  refine jn [1, 2, 3, 7, 8, 9, 10] [3, 7, 9] [(10, .t (.int .i64 (j7)))] [(7, .arr 3 1 (j6.length) (eF cInt j6))] ?_ ?_
  replace h := hj9; clear hj9
  refine iw h (fun h => ?_) (fun h => ?_)
  obtain ⟨hc10, h⟩ := grd h
  obtain ⟨hc11, h⟩ := grd h
  obtain ⟨hc12, h⟩ := grd h
  refine rd hG [1, 2, 3, 7, 8, 9, 10] [3, 7, 9] [(10, .t (.int .i64 (v1.getD (((a0.Nodes.getD (v2).toNat default).In).getD ((0 : Int)).toNat default).toNat default)))] [] (Cs := [0 ≤ ((0 : Int)) ∧ ((0 : Int)) < (((a0.Nodes.getD (v2).toNat default).In).length : Int), 0 ≤ (((a0.Nodes.getD (v2).toNat default).In).getD ((0 : Int)).toNat default) ∧ (((a0.Nodes.getD (v2).toNat default).In).getD ((0 : Int)).toNat default) < (v1.length : Int), (((a0.Nodes.getD (v2).toNat default).In).getD ((0 : Int)).toNat default).toNat < v1.length]) ⟨hc10, hc11, hc12⟩ ?_
  injection h with q0
  injection q0 with p1 q1
  subst p1
  subst q1
  exact fl
  refine pwp_skip ?_
  injection h with q0
  injection q0 with p1 q1
  subst p1
  subst q1
  exact fl
  refine then_n ?_
  refine pwp_seq ?_
  refine sn hG [1, 2, 3, 7, 8, 9, 10, 36] [3, 7, 9] [(36, .t (.int .i64 ((a0.Nodes.getD (v2).toNat default).Op)))] [] ?_
  refine pwp_block ?_
  refine sn hG [1, 2, 3, 7, 8, 9, 10, 36, 37] [3, 7, 9] [(37, .t (.bool (((a0.Nodes.getD (v2).toNat default).Op) == 3)))] [] ?_
  obtain ⟨J16, hj17, h⟩ := bnd h
  obtain ⟨j14, j15⟩ := J16
  try dsimp only at h
  refine jn [1, 2, 3, 7, 8, 10] [3, 7] [(10, .t (.int .i64 (j15)))] [(7, .arr 3 1 (j14.length) (eF cInt j14))] ?_ ?_
  replace h := hj17; clear hj17
  refine iw h (fun h => ?_) (fun h => ?_)
  obtain ⟨hc18, h⟩ := grd h
  obtain ⟨hc19, h⟩ := grd h
  obtain ⟨hc20, h⟩ := grd h
  refine rd hG [1, 2, 3, 7, 8, 10] [3, 7] [(10, .t (.int .i64 (IntKind.i64.wrap (j7 + (j6.getD (((a0.Nodes.getD (v2).toNat default).In).getD ((1 : Int)).toNat default).toNat default)))))] [] (Cs := [0 ≤ ((1 : Int)) ∧ ((1 : Int)) < (((a0.Nodes.getD (v2).toNat default).In).length : Int), 0 ≤ (((a0.Nodes.getD (v2).toNat default).In).getD ((1 : Int)).toNat default) ∧ (((a0.Nodes.getD (v2).toNat default).In).getD ((1 : Int)).toNat default) < (j6.length : Int), (((a0.Nodes.getD (v2).toNat default).In).getD ((1 : Int)).toNat default).toNat < j6.length]) ⟨hc18, hc19, hc20⟩ ?_
  injection h with q0
  injection q0 with p1 q1
  subst p1
  subst q1
  exact fl
  refine sn hG [1, 2, 3, 7, 8, 9, 10, 36, 48] [3, 7, 9] [(48, .t (.bool (((a0.Nodes.getD (v2).toNat default).Op) == 6)))] [] ?_
  obtain ⟨J24, hj25, h⟩ := bnd h
  obtain ⟨j22, j23⟩ := J24
  try dsimp only at h
  refine jn [1, 2, 3, 7, 8, 10] [3, 7] [(10, .t (.int .i64 (j23)))] [(7, .arr 3 1 (j22.length) (eF cInt j22))] ?_ ?_
  replace h := hj25; clear hj25
  refine iw h (fun h => ?_) (fun h => ?_)
  obtain ⟨hc26, h⟩ := grd h
  obtain ⟨hc27, h⟩ := grd h
  obtain ⟨hc28, h⟩ := grd h
  refine rd hG [1, 2, 3, 7, 8, 10] [3, 7] [(10, .t (.int .i64 (IntKind.i64.wrap (j7 * (j6.getD (((a0.Nodes.getD (v2).toNat default).In).getD ((1 : Int)).toNat default).toNat default)))))] [] (Cs := [0 ≤ ((1 : Int)) ∧ ((1 : Int)) < (((a0.Nodes.getD (v2).toNat default).In).length : Int), 0 ≤ (((a0.Nodes.getD (v2).toNat default).In).getD ((1 : Int)).toNat default) ∧ (((a0.Nodes.getD (v2).toNat default).In).getD ((1 : Int)).toNat default) < (j6.length : Int), (((a0.Nodes.getD (v2).toNat default).In).getD ((1 : Int)).toNat default).toNat < j6.length]) ⟨hc26, hc27, hc28⟩ ?_
  injection h with q0
  injection q0 with p1 q1
  subst p1
  subst q1
  exact fl
  refine sn hG [1, 2, 3, 7, 8, 9, 10, 59] [3, 7, 9] [(59, .t (.bool (((a0.Nodes.getD (v2).toNat default).Op) == 4)))] [] ?_
  obtain ⟨J32, hj33, h⟩ := bnd h
  obtain ⟨j30, j31⟩ := J32
  try dsimp only at h
  refine jn [1, 2, 3, 7, 8, 10] [3, 7] [(10, .t (.int .i64 (j31)))] [(7, .arr 3 1 (j30.length) (eF cInt j30))] ?_ ?_
  replace h := hj33; clear hj33
  refine iw h (fun h => ?_) (fun h => ?_)
  refine sn hG [1, 2, 3, 7, 8, 9, 10, 63] [3, 7, 9] [(63, .t (.bool (((a0.Nodes.getD (v2).toNat default).Kind) == 1)))] [] ?_
  obtain ⟨J37, hj38, h⟩ := bnd h
  obtain ⟨j35, j36⟩ := J37
  try dsimp only at h
  refine jn [1, 2, 3, 7, 8, 10] [3, 7] [(10, .t (.int .i64 (j36)))] [(7, .arr 3 1 (j35.length) (eF cInt j35))] ?_ ?_
  replace h := hj38; clear hj38
  refine iw h (fun h => ?_) (fun h => ?_)
  obtain ⟨hc39, h⟩ := grd h
  refine rc hG [1, 2, 3, 7, 8, 10] [3, 7] [(10, .t (.int .i64 (IntKind.i64.wrap (j7 * (IntKind.i64.wrap (Int.tdiv ((a0.Nodes.getD (v2).toNat default).Size) ((a0.Nodes.getD (v2).toNat default).Step)))))))] [] hc39 ?_
  injection h with q0
  injection q0 with p1 q1
  subst p1
  subst q1
  exact fl
  refine pwp_skip ?_
  injection h with q0
  injection q0 with p1 q1
  subst p1
  subst q1
  exact fl
  injection h with q0
  injection q0 with p1 q1
  subst p1
  subst q1
  exact fl
  refine pwp_skip ?_
  injection h with q0
  injection q0 with p1 q1
  subst p1
  subst q1
  exact fl
  injection h with q0
  injection q0 with p1 q1
  subst p1
  subst q1
  exact fl
  injection h with q0
  injection q0 with p1 q1
  subst p1
  subst q1
  exact fl
  refine blk_n ?_
  refine then_n ?_
  refine pwp_seq ?_
  refine sn hG [1, 2, 3, 7, 8, 10, 73] [3, 7] [(73, .t (.bool (decide (j15 > a2))))] [] ?_
  refine iw h (fun h => ?_) (fun h => ?_)
  refine sn hG [6] [] [(6, .t (.bool (false)))] [] ?_
  cases h
  exact pwp_ret (then_ret (blk_ret (then_ret (round_out (by simp) (And.intro rfl rt)))))
  refine pwp_skip ?_
  refine then_n ?_
  refine pwp_region ?_
  obtain ⟨hc41, h⟩ := grd h
  refine pd hG 4 [1, 2, 3, 8, 77] [3, 77] [(77, .own 77)] [(77, .arr 3 1 (j14.length + 1) (appF (j14.length) (eF cInt j14) (arrOf [.int .i64 (j15)] 1)))] (Cs := [appC (j14.length) (1) 8 1 (arrOf [.int .i64 (j15)] 1)]) ⟨hc41, ok_one rfl⟩ ?_
  refine os ⟨[(1, .t (.int .i64 (a1))), (2, .t (.int .i64 (a2))), (3, .ptr 3 0), (8, .t (.int .i64 (v2))), (77, .own 77)], [(3, .box ((cGProgram (a0)).map .t)), (77, .arr 3 1 (j14.length + 1) (appF (j14.length) (eF cInt j14) (arrOf [.int .i64 (j15)] 1)))]⟩ ?_
  refine pops_weak (Le.obj (o := 77) (.arr 3 1 ((j14 ++ ([j15])).length) (eF cInt (j14 ++ ([j15])))) rfl (fun _ _ _ => ObjR.row (by simp) (row_snoc cInt j14 j15 _ rfl))) ?_
  refine pn hG 1 [1, 2, 3, 7, 8] [3, 77] [(7, .own 77)] [(77, .arr 3 1 ((j14 ++ ([j15])).length) (eF cInt (j14 ++ ([j15]))))] ?_
  refine pe ?_
  refine blk_n ?_
  refine then_n ?_
  refine rn hG [1, 2, 3, 7, 8] [3, 77] [(8, .t (.int .i64 (IntKind.i64.wrap (v2 + 1))))] [] ?_
  cases h
  exact round_in (Le.trans (ls ⟨[(1, .t (.int .i64 (a1))), (2, .t (.int .i64 (a2))), (3, .ptr 3 0), (7, .own 77), (8, .t (.int .i64 (IntKind.i64.wrap (v2 + 1))))], [(3, .box ((cGProgram (a0)).map .t)), (77, .arr 3 1 ((j14 ++ ([j15])).length) (eF cInt (j14 ++ ([j15]))))]⟩) (Le.trans (Le.rename (o := 77) (o' := 7) hG (by decide) rfl) lk))
  cases h
  exact pwp_exit (then_exit (round_out (by simp) (And.intro rfl lk)))
  intro e s hq
  rcases R42 with _ | y44
  try dsimp only at h
  obtain ⟨rfl, hle⟩ := hq
  refine ⟨_, hle, blk_hit ?_⟩
  refine then_n ?_
  refine sn hG [6] [] [(6, .t (.bool (true)))] [] ?_
  cases h
  exact pwp_ret rt
  try dsimp only at h
  obtain ⟨rfl, hq⟩ := hq
  cases h
  exact ⟨_, Le.refl, blk_ret (then_ret (hq))⟩

def F6 (n : Nat) (a0 : GProgram) (a1 : Int) : Option (Bool) := Option.bind (if (decide (((a0.Nodes.length : Int)) > 10)) = true then (some (true)) else (some (decide (((a0.Funcs.length : Int)) > 4))) : Option (Bool)) fun j1 => if (j1) = true then (some (false)) else (Option.bind ((F14 n a0).bind fun r9 => if (r9) = true then ((F15 n a0).bind fun r12 => if (r12) = true then ((F16 n a0 a1 1000).bind fun r15 => some (r15)) else (some (false))) else (some (false)) : Option (Bool)) fun j6 => some (j6))
abbrev I6 : Inf := ⟨look tiL, [], 26⟩
set_option maxRecDepth 20000 in
theorem F6_ok (n : Nat) (a0 : GProgram) (a1 : Int) (y : Bool) (h : F6 n a0 a1 = some y) : PCall Proofs.Try.prog 6 [.t (eGProgram a0), .t (.int .i64 (a1))] [] [] (Ret (.t (.bool (y)))) := by
  refine pcall_of (I := I6) Proofs.Try.func6 rfl ti_ok Proofs.Try.ntmps6 (le_n (by kernel_rfl)) (fun E hG => ?_)
  unfold F6 at h
  refine sn hG [1, 2] [2] [(2, .ptr 2 0)] [(2, .box ((cGProgram (a0)).map .t))] ?_
  refine pwp_seq ?_
  refine pwp_seq ?_
  obtain ⟨j1, hj3, h⟩ := bnd h
  refine jn [1, 2, 14] [2] [(14, .t (.bool (j1)))] [] ?_ ?_
  replace h := hj3; clear hj3
  refine pwp_region ?_
  refine pn hG 5 [1, 2, 9] [2] [(9, .t (.bool (decide (((a0.Nodes.length : Int)) > 10))))] [] ?_
  refine io 9 h (fun h => ?_) (fun h => ?_)
  refine pn hG 5 [1, 2, 14] [2] [(14, .t (.bool (true)))] [] ?_
  cases h
  refine pe ?_
  exact fl
  refine pn hG 5 [1, 2, 14] [2] [(14, .t (.bool (decide (((a0.Funcs.length : Int)) > 4))))] [] ?_
  cases h
  refine pe ?_
  exact fl
  refine then_n ?_
  refine iw h (fun h => ?_) (fun h => ?_)
  refine sn hG [4] [] [(4, .t (.bool (false)))] [] ?_
  cases h
  exact pwp_ret (then_ret rt)
  refine pwp_skip ?_
  refine then_n ?_
  refine pwp_seq ?_
  obtain ⟨j6, hj8, h⟩ := bnd h
  refine jn [4] [] [(4, .t (.bool (j6)))] [] ?_ ?_
  replace h := hj8; clear hj8
  refine pwp_region ?_
  refine pn hG 1 [1, 2, 15] [2] [(15, .t (eGProgram a0))] [] ?_
  obtain ⟨r9, hr10, h⟩ := bnd h
  refine ca hG [] rfl rfl rfl rfl callable14 (.cons (.same _) .nil) (F14_ok n _ _ hr10) ?_
  refine pn hG 1 [1, 2, 17] [2] [(17, .t (.bool (r9)))] [] ?_
  refine io 17 h (fun h => ?_) (fun h => ?_)
  refine pn hG 1 [1, 2, 17, 18] [2] [(18, .t (eGProgram a0))] [] ?_
  obtain ⟨r12, hr13, h⟩ := bnd h
  refine ca hG [] rfl rfl rfl rfl callable15 (.cons (.same _) .nil) (F15_ok n _ _ hr13) ?_
  refine pn hG 2 [1, 2, 21] [2] [(21, .t (.bool (r12)))] [] ?_
  refine io 21 h (fun h => ?_) (fun h => ?_)
  refine pn hG 2 [21, 22, 23] [] [(22, .t (eGProgram a0)), (23, .t (.int .i64 (a1)))] [] ?_
  obtain ⟨r15, hr16, h⟩ := bnd h
  refine ca hG [] rfl rfl rfl rfl callable16 (.cons (.same _) (.cons (.same _) (.cons (.same _) .nil))) (F16_ok n _ _ _ _ hr16) ?_
  refine pn hG 2 [4] [] [(4, .t (.bool (r15)))] [] ?_
  cases h
  refine pe ?_
  exact fl
  refine pn hG 5 [4] [] [(4, .t (.bool (false)))] [] ?_
  cases h
  refine pe ?_
  exact fl
  refine pn hG 9 [4] [] [(4, .t (.bool (false)))] [] ?_
  cases h
  refine pe ?_
  exact fl
  refine then_n ?_
  cases h
  exact pwp_ret rt

def F61_L0 (n : Nat) (rec : Expr → Option (Expr)) (a0 : Expr) : ((List Expr) × Int) → Option (((List Expr) × Int) ⊕ ((List Expr)))
  | (v1, v2) => if (decide (v2 < ((a0.Args.length : Int)))) = true then (if 0 ≤ v2 ∧ v2 < (a0.Args.length : Int) then ((rec (a0.Args.getD (v2).toNat default)).bind fun r6 => if (v1.length + 1) * 56 ≤ 140737488355328 then (some (.inl ((v1 ++ ([r6]), IntKind.i64.wrap (v2 + 1))))) else none) else none) else (some (.inr (v1)))
def F61 : Nat → Expr → Option (Expr)
  | 0, _ => none
  | n + 1, a0 => Option.bind (iterM (F61_L0 n (F61 n) a0) n ((([] : List Expr), 0))) fun b3 => some ((Expr.mk a0.Op a0.N a0.S b3))
abbrev I61 : Inf := ⟨look tiL, [], 31⟩
set_option maxRecDepth 20000 in
theorem F61_ok (n : Nat) : ∀ (a0 : Expr) (y : Expr) (_ : F61 n a0 = some y), PCall Proofs.Try.prog 61 [.t (eExpr a0)] [] [] (Ret (.t (eExpr y))) := by
  induction n with
  | zero => intro a0 y h; cases h
  | succ n ih =>
  intro a0 y h
  refine pcall_of (I := I61) Proofs.Try.func61 rfl ti_ok Proofs.Try.ntmps61 (le_n (by kernel_rfl)) (fun E hG => ?_)
  rw [F61] at h
  refine sn hG [1, 2] [1, 2] [(1, .ptr 1 0), (2, .ptr 2 0)] [(1, .box ((exprCells (a0)).map .t)), (2, .box [.t (.int .i64 (0)), .t (.int .i64 (0)), .t (.str (⟨#[]⟩)), .nil])] ?_
  refine pwp_seq ?_
  refine pwp_region ?_
  refine pn hG 9 [1, 2, 3] [1, 2, 3] [(3, .ptr 3 0)] [(3, .box [.t (.int .i64 (a0.Op)), .t (.int .i64 (a0.N)), .t (.str (a0.S)), .nil])] ?_
  refine pe ?_
  refine then_n ?_
  refine pwp_seq ?_
  refine sn hG [1, 2, 3, 4] [1, 2, 3] [(4, .t (.int .i64 (0)))] [] ?_
  refine ws ⟨[(1, .ptr 1 0), (2, .ptr 2 0), (3, .ptr 3 0), (4, .t (.int .i64 (0)))], [(1, .box ((exprCells (a0)).map .t)), (2, .box [.t (.int .i64 (0)), .t (.int .i64 (0)), .t (.str (⟨#[]⟩)), .nil]), (3, .box [.t (.int .i64 (a0.Op)), .t (.int .i64 (a0.N)), .t (.str (a0.S)), .nil])]⟩ ?_
  refine pwp_weak (Le.thawC (b := 3) (j := 3) (o := 10303) (e := 40) (s := 4) (f := eF exprCells ([] : List Expr)) hG rfl) ?_
  obtain ⟨b3, hR10, h⟩ := bnd h
  refine lp (F61_L0 n (F61 n) a0) (fun (s : (List Expr) × Int) => match s with | (v1, v2) => (⟨[(1, .ptr 1 0), (2, .ptr 2 0), (3, .ptr 3 0), (4, .t (.int .i64 (v2)))], [(1, .box ((exprCells (a0)).map .t)), (2, .box [.t (.int .i64 (0)), .t (.int .i64 (0)), .t (.str (⟨#[]⟩)), .nil]), (3, .box [.t (.int .i64 (a0.Op)), .t (.int .i64 (a0.N)), .t (.str (a0.S)), .own 10303]), (10303, .arr 40 4 (v1.length) (eF exprCells v1))]⟩ : St)) (fun (x0 : (List Expr)) (e : Exit) (s : St) => e = .exit 0 ∧ Le E s ((fun (b3 : (List Expr)) => (⟨[(2, .ptr 2 0), (3, .ptr 3 0)], [(2, .box [.t (.int .i64 (0)), .t (.int .i64 (0)), .t (.str (⟨#[]⟩)), .nil]), (3, .box [.t (.int .i64 (a0.Op)), .t (.int .i64 (a0.N)), .t (.str (a0.S)), .own 10303]), (10303, .arr 40 4 (b3.length) (eF exprCells b3))]⟩ : St)) x0)) ?_ n ((([] : List Expr), 0)) b3 hR10 ?_
  rintro ⟨v1, v2⟩ x h
  rw [F61_L0] at h
  refine pwp_seq ?_
  refine sn hG [1, 2, 3, 4, 16] [1, 2, 3, 10303] [(16, .t (.bool (decide (v2 < ((a0.Args.length : Int))))))] [] ?_
  refine iw h (fun h => ?_) (fun h => ?_)
  refine pwp_skip ?_
  refine then_n ?_
  refine pwp_seq ?_
  refine pwp_block ?_
  obtain ⟨hc5, h⟩ := grd h
  obtain ⟨r6, hr7, h⟩ := bnd h
  obtain ⟨hc8, h⟩ := grd h
  refine pwp_draw hG (by kernel_rfl) ⟨[], [(7, 61, [.t (eExpr (a0.Args.getD (v2).toNat default))], .t (eExpr r6))], [(5, [0 ≤ v2 ∧ v2 < (a0.Args.length : Int)]), (9, [appC (v1.length) (1) 56 4 (arrOf [.int .i64 (r6.Op), .int .i64 (r6.N), .str (r6.S), .lz (.exprs (r6.Args))] 4)])], []⟩ (.cons ⟨callable61, ⟨_, fun _ => (.cons (.same _) .nil), ih _ _ hr7⟩, rfl⟩ .nil) .nil (.cons hc5 (.cons ⟨hc8, ok_one rfl⟩ .nil)) [1, 2, 3, 4, 16, 19, 20, 21, 22, 23, 24, 25, 26, 27, 28, 29] [1, 2, 3, 27, 28, 10303] [1, 2, 3, 4] [1, 2, 3, 28] (stF := ⟨[(1, .ptr 1 0), (2, .ptr 2 0), (3, .ptr 3 0), (4, .t (.int .i64 (v2)))], [(1, .box ((exprCells (a0)).map .t)), (2, .box [.t (.int .i64 (0)), .t (.int .i64 (0)), .t (.str (⟨#[]⟩)), .nil]), (3, .box [.t (.int .i64 (a0.Op)), .t (.int .i64 (a0.N)), .t (.str (a0.S)), .own 28]), (28, .arr 40 4 (v1.length + 1) (appF (v1.length) (eF exprCells v1) (arrOf [.int .i64 (r6.Op), .int .i64 (r6.N), .str (r6.S), .lz (.exprs (r6.Args))] 4)))]⟩) (by kernel_rfl) ?_
  refine blk_n ?_
  refine then_n ?_
  refine rn hG [1, 2, 3, 4] [1, 2, 3, 28] [(4, .t (.int .i64 (IntKind.i64.wrap (v2 + 1))))] [] ?_
  cases h
  exact round_in (Le.trans (ls ⟨[(1, .ptr 1 0), (2, .ptr 2 0), (3, .ptr 3 0), (4, .t (.int .i64 (IntKind.i64.wrap (v2 + 1))))], [(1, .box ((exprCells (a0)).map .t)), (2, .box [.t (.int .i64 (0)), .t (.int .i64 (0)), .t (.str (⟨#[]⟩)), .nil]), (3, .box [.t (.int .i64 (a0.Op)), .t (.int .i64 (a0.N)), .t (.str (a0.S)), .own 28]), (28, .arr 40 4 (v1.length + 1) (appF (v1.length) (eF exprCells v1) (arrOf [.int .i64 (r6.Op), .int .i64 (r6.N), .str (r6.S), .lz (.exprs (r6.Args))] 4)))]⟩) (Le.trans (Le.obj (o := 28) (.arr 40 4 ((v1 ++ ([r6])).length) (eF exprCells (v1 ++ ([r6])))) rfl (fun _ _ _ => ObjR.row (by simp) (row_snoc exprCells v1 r6 _ rfl))) (Le.trans (Le.rename (o := 28) (o' := 10303) hG (by decide) rfl) lk)))
  cases h
  exact pwp_exit (then_exit (round_out (by simp) (And.intro rfl lk)))
  intro e s hq
  try dsimp only at h
  obtain ⟨rfl, hle⟩ := hq
  refine ⟨_, hle, blk_hit ?_⟩
  refine then_n ?_
  refine pwp_seq ?_
  refine pwp_region ?_
  refine pops_weak (Le.trans (Le.freeze (o := 10303) (.lz (.exprs (b3))) rfl rfl rfl) (Le.keep (ts := [2, 3]) (os := [2, 3]) (t := ⟨[(2, .ptr 2 0), (3, .ptr 3 0)], [(2, .box [.t (.int .i64 (0)), .t (.int .i64 (0)), .t (.str (⟨#[]⟩)), .nil]), (3, .box [.t (.int .i64 (a0.Op)), .t (.int .i64 (a0.N)), .t (.str (a0.S)), .t (.lz (.exprs (b3)))])]⟩) (by kernel_rfl))) ?_
  refine pn hG 2 [2] [2] [] [(2, .box [.t (.int .i64 (a0.Op)), .t (.int .i64 (a0.N)), .t (.str (a0.S)), .t (.lz (.exprs (b3)))])] ?_
  refine pe ?_
  refine then_n ?_
  cases h
  exact pwp_ret rt

def F42_L0 (n : Nat) (rec : Expr → Int → (List Expr) → Option (Expr × Bool)) (a0 : Expr) (a1 : Int) (a2 : List Expr) : ((List Expr) × Int) → Option (((List Expr) × Int) ⊕ (((List Expr)) ⊕ (Expr × Bool)))
  | (v10, v11) => if (decide (v11 < ((a0.Args.length : Int)))) = true then (if 0 ≤ v11 ∧ v11 < (a0.Args.length : Int) then ((rec (a0.Args.getD (v11).toNat default) a1 a2).bind fun r15 => if (!r15.2) = true then (some (.inr (.inr (((Expr.mk 0 0 (⟨#[]⟩) (([] : List Expr))), false))))) else (if (v10.length + 1) * 56 ≤ 140737488355328 then (some (.inl ((v10 ++ ([r15.1]), IntKind.i64.wrap (v11 + 1))))) else none)) else none) else (some (.inr (.inl (v10))))
def F42 : Nat → Expr → Int → (List Expr) → Option (Expr × Bool)
  | 0, _, _, _ => none
  | n + 1, a0, a1, a2 => if (a0.Op == a1) = true then (Option.bind (if (decide (a0.N < 0)) = true then (some (true)) else (some (decide (a0.N ≥ ((a2.length : Int))))) : Option (Bool)) fun j2 => if (j2) = true then (some (((Expr.mk 0 0 (⟨#[]⟩) (([] : List Expr))), false))) else (if 0 ≤ a0.N ∧ a0.N < (a2.length : Int) then ((F61 n (a2.getD (a0.N).toNat default)).bind fun r8 => some ((r8, true))) else none)) else (Option.bind (iterM (F42_L0 n (F42 n) a0 a1 a2) n ((([] : List Expr), 0))) fun R19 => match R19 with | .inl (b12) => (some (((Expr.mk a0.Op a0.N a0.S b12), true))) | .inr (y21) => (some (y21)))
abbrev I42 : Inf := ⟨look tiL, [], 68⟩
set_option maxRecDepth 20000 in
theorem F42_ok (n : Nat) : ∀ (a0 : Expr) (a1 : Int) (a2 : List Expr) (y : Expr × Bool) (_ : F42 n a0 a1 a2 = some y), PCall Proofs.Try.prog 42 [.t (eExpr a0), .t (.int .i64 (a1)), .t (.lz (.exprs (a2)))] [] [] (Ret (.tup [.t (eExpr y.1), .t (.bool (y.2))])) := by
  induction n with
  | zero => intro a0 a1 a2 y h; cases h
  | succ n ih =>
  intro a0 a1 a2 y h
  refine pcall_of (I := I42) Proofs.Try.func42 rfl ti_ok Proofs.Try.ntmps42 (le_n (by kernel_rfl)) (fun E hG => ?_)
  rw [F42] at h
  refine sn hG [1, 2, 3, 6] [3, 6] [(3, .ptr 3 0), (6, .ptr 6 0)] [(3, .box ((exprCells (a0)).map .t)), (6, .box [.t (.int .i64 (0)), .t (.int .i64 (0)), .t (.str (⟨#[]⟩)), .nil])] ?_
  refine pwp_seq ?_
  refine sn hG [1, 2, 3, 6, 15] [3, 6] [(15, .t (.bool (a0.Op == a1)))] [] ?_
  refine iw h (fun h => ?_) (fun h => ?_)
  refine pwp_seq ?_
  refine pwp_seq ?_
  obtain ⟨j2, hj4, h⟩ := bnd h
  refine jn [2, 3, 6, 25] [3, 6] [(25, .t (.bool (j2)))] [] ?_ ?_
  replace h := hj4; clear hj4
  refine pwp_region ?_
  refine pn hG 4 [2, 3, 6, 19] [3, 6] [(19, .t (.bool (decide (a0.N < 0))))] [] ?_
  refine io 19 h (fun h => ?_) (fun h => ?_)
  refine pn hG 6 [2, 3, 6, 25] [3, 6] [(25, .t (.bool (true)))] [] ?_
  cases h
  refine pe ?_
  exact fl
  refine pn hG 6 [2, 3, 6, 25] [3, 6] [(25, .t (.bool (decide (a0.N ≥ ((a2.length : Int))))))] [] ?_
  cases h
  refine pe ?_
  exact fl
  refine then_n ?_
  refine iw h (fun h => ?_) (fun h => ?_)
  refine pwp_seq ?_
  refine pwp_region ?_
  refine pn hG 3 [6, 7] [6] [(7, .t (.bool (false)))] [] ?_
  refine pe ?_
  refine then_n ?_
  refine ws ⟨[(6, .ptr 6 0), (7, .t (.bool (false)))], [(6, .box [.t (.int .i64 (0)), .t (.int .i64 (0)), .t (.str (⟨#[]⟩)), .nil])]⟩ ?_
  refine pwp_weak (Le.obj (o := 6) (.box ([(.int .i64 (0)), (.int .i64 (0)), (.str (⟨#[]⟩)), (.lz (.exprs (([] : List Expr))))].map .t)) rfl (fun _ _ _ => le_box (.same (.same (.same (.empty rfl (.nil))))))) ?_
  cases h
  exact pwp_ret (then_ret (then_ret rt))
  refine pwp_skip ?_
  refine then_n ?_
  refine pwp_seq ?_
  refine pwp_region ?_
  obtain ⟨hc7, h⟩ := grd h
  refine pc hG 5 [6, 31] [6] [(31, .t (eExpr (a2.getD (a0.N).toNat default)))] [] hc7 ?_
  obtain ⟨r8, hr9, h⟩ := bnd h
  refine ca hG [] rfl rfl rfl rfl callable61 (.cons (.same _) .nil) (F61_ok n _ _ hr9) ?_
  refine pn hG 2 [6, 7] [6] [(7, .t (.bool (true)))] [(6, .box ((exprCells (r8)).map .t))] ?_
  refine pe ?_
  refine then_n ?_
  cases h
  exact pwp_ret (then_ret rt)
  refine pwp_skip ?_
  refine then_n ?_
  refine pwp_seq ?_
  refine pwp_region ?_
  refine pn hG 9 [1, 2, 3, 6, 8] [3, 6, 8] [(8, .ptr 8 0)] [(8, .box [.t (.int .i64 (a0.Op)), .t (.int .i64 (a0.N)), .t (.str (a0.S)), .nil])] ?_
  refine pe ?_
  refine then_n ?_
  refine pwp_seq ?_
  refine sn hG [1, 2, 3, 6, 8, 9] [3, 6, 8] [(9, .t (.int .i64 (0)))] [] ?_
  refine ws ⟨[(1, .t (.int .i64 (a1))), (2, .t (.lz (.exprs (a2)))), (3, .ptr 3 0), (6, .ptr 6 0), (8, .ptr 8 0), (9, .t (.int .i64 (0)))], [(3, .box ((exprCells (a0)).map .t)), (6, .box [.t (.int .i64 (0)), .t (.int .i64 (0)), .t (.str (⟨#[]⟩)), .nil]), (8, .box [.t (.int .i64 (a0.Op)), .t (.int .i64 (a0.N)), .t (.str (a0.S)), .nil])]⟩ ?_
  refine pwp_weak (Le.thawC (b := 8) (j := 3) (o := 10803) (e := 40) (s := 4) (f := eF exprCells ([] : List Expr)) hG rfl) ?_
  obtain ⟨R19, hR20, h⟩ := bnd h
  refine lp (F42_L0 n (F42 n) a0 a1 a2) (fun (s : (List Expr) × Int) => match s with | (v10, v11) => (⟨[(1, .t (.int .i64 (a1))), (2, .t (.lz (.exprs (a2)))), (3, .ptr 3 0), (6, .ptr 6 0), (8, .ptr 8 0), (9, .t (.int .i64 (v11)))], [(3, .box ((exprCells (a0)).map .t)), (6, .box [.t (.int .i64 (0)), .t (.int .i64 (0)), .t (.str (⟨#[]⟩)), .nil]), (8, .box [.t (.int .i64 (a0.Op)), .t (.int .i64 (a0.N)), .t (.str (a0.S)), .own 10803]), (10803, .arr 40 4 (v10.length) (eF exprCells v10))]⟩ : St)) (fun (r : ((List Expr)) ⊕ (Expr × Bool)) (e : Exit) (s : St) => match r with | .inl (x0) => e = .exit 0 ∧ Le E s ((fun (b12 : (List Expr)) => (⟨[(6, .ptr 6 0), (8, .ptr 8 0)], [(6, .box [.t (.int .i64 (0)), .t (.int .i64 (0)), .t (.str (⟨#[]⟩)), .nil]), (8, .box [.t (.int .i64 (a0.Op)), .t (.int .i64 (a0.N)), .t (.str (a0.S)), .own 10803]), (10803, .arr 40 4 (b12.length) (eF exprCells b12))]⟩ : St)) x0) | .inr (y0) => e = .ret ∧ finQ I42 Proofs.Try.f42.results.toList (Ret (.tup [.t (eExpr y0.1), .t (.bool (y0.2))])) .ret s) ?_ n ((([] : List Expr), 0)) R19 hR20 ?_
  rintro ⟨v10, v11⟩ x h
  rw [F42_L0] at h
  refine pwp_seq ?_
  refine sn hG [1, 2, 3, 6, 8, 9, 44] [3, 6, 8, 10803] [(44, .t (.bool (decide (v11 < ((a0.Args.length : Int))))))] [] ?_
  refine iw h (fun h => ?_) (fun h => ?_)
  refine pwp_skip ?_
  refine then_n ?_
  refine pwp_seq ?_
  refine pwp_block ?_
  refine pwp_seq ?_
  refine pwp_region ?_
  obtain ⟨hc14, h⟩ := grd h
  refine pc hG 7 [1, 2, 3, 6, 8, 9, 52, 53, 54] [3, 6, 8, 10803] [(52, .t (eExpr (a0.Args.getD (v11).toNat default))), (53, .t (.int .i64 (a1))), (54, .t (.lz (.exprs (a2))))] [] hc14 ?_
  obtain ⟨r15, hr16, h⟩ := bnd h
  refine ca hG [] rfl rfl rfl rfl callable42 (.cons (.same _) (.cons (.same _) (.cons (.same _) .nil))) (ih _ _ _ _ hr16) ?_
  refine pn hG 6 [1, 2, 3, 6, 8, 9, 10, 11] [3, 6, 8, 10, 10803] [(10, .ptr 10 0), (11, .t (.bool (r15.2)))] [(10, .box ((exprCells (r15.1)).map .t))] ?_
  refine pe ?_
  refine then_n ?_
  refine pwp_seq ?_
  refine sn hG [1, 2, 3, 6, 8, 9, 10, 59] [3, 6, 8, 10, 10803] [(59, .t (.bool (!r15.2)))] [] ?_
  refine iw h (fun h => ?_) (fun h => ?_)
  refine pwp_seq ?_
  refine pwp_region ?_
  refine pn hG 3 [6, 7] [6] [(7, .t (.bool (false)))] [] ?_
  refine pe ?_
  refine then_n ?_
  refine ws ⟨[(6, .ptr 6 0), (7, .t (.bool (false)))], [(6, .box [.t (.int .i64 (0)), .t (.int .i64 (0)), .t (.str (⟨#[]⟩)), .nil])]⟩ ?_
  refine pwp_weak (Le.obj (o := 6) (.box ([(.int .i64 (0)), (.int .i64 (0)), (.str (⟨#[]⟩)), (.lz (.exprs (([] : List Expr))))].map .t)) rfl (fun _ _ _ => le_box (.same (.same (.same (.empty rfl (.nil))))))) ?_
  cases h
  exact pwp_ret (then_ret (blk_ret (then_ret (round_out (by simp) (And.intro rfl rt)))))
  refine pwp_skip ?_
  refine then_n ?_
  refine pwp_region ?_
  obtain ⟨hc18, h⟩ := grd h
  refine pd hG 5 [1, 2, 3, 6, 8, 9, 65] [3, 6, 8, 65] [(65, .own 65)] [(8, .box [.t (.int .i64 (a0.Op)), .t (.int .i64 (a0.N)), .t (.str (a0.S)), .any]), (65, .arr 40 4 (v10.length + 1) (appF (v10.length) (eF exprCells v10) (arrOf [.int .i64 (r15.1.Op), .int .i64 (r15.1.N), .str (r15.1.S), .lz (.exprs (r15.1.Args))] 4)))] (Cs := [appC (v10.length) (1) 56 4 (arrOf [.int .i64 (r15.1.Op), .int .i64 (r15.1.N), .str (r15.1.S), .lz (.exprs (r15.1.Args))] 4)]) ⟨hc18, ok_one rfl⟩ ?_
  refine os ⟨[(1, .t (.int .i64 (a1))), (2, .t (.lz (.exprs (a2)))), (3, .ptr 3 0), (6, .ptr 6 0), (8, .ptr 8 0), (9, .t (.int .i64 (v11))), (65, .own 65)], [(3, .box ((exprCells (a0)).map .t)), (6, .box [.t (.int .i64 (0)), .t (.int .i64 (0)), .t (.str (⟨#[]⟩)), .nil]), (8, .box [.t (.int .i64 (a0.Op)), .t (.int .i64 (a0.N)), .t (.str (a0.S)), .any]), (65, .arr 40 4 (v10.length + 1) (appF (v10.length) (eF exprCells v10) (arrOf [.int .i64 (r15.1.Op), .int .i64 (r15.1.N), .str (r15.1.S), .lz (.exprs (r15.1.Args))] 4)))]⟩ ?_
  refine pops_weak (Le.obj (o := 65) (.arr 40 4 ((v10 ++ ([r15.1])).length) (eF exprCells (v10 ++ ([r15.1])))) rfl (fun _ _ _ => ObjR.row (by simp) (row_snoc exprCells v10 r15.1 _ rfl))) ?_
  refine pn hG 2 [1, 2, 3, 6, 8, 9] [3, 6, 8, 65] [] [(8, .box [.t (.int .i64 (a0.Op)), .t (.int .i64 (a0.N)), .t (.str (a0.S)), .own 65]), (65, .arr 40 4 ((v10 ++ ([r15.1])).length) (eF exprCells (v10 ++ ([r15.1]))))] ?_
  refine pe ?_
  refine blk_n ?_
  refine then_n ?_
  refine rn hG [1, 2, 3, 6, 8, 9] [3, 6, 8, 65] [(9, .t (.int .i64 (IntKind.i64.wrap (v11 + 1))))] [] ?_
  cases h
  exact round_in (Le.trans (ls ⟨[(1, .t (.int .i64 (a1))), (2, .t (.lz (.exprs (a2)))), (3, .ptr 3 0), (6, .ptr 6 0), (8, .ptr 8 0), (9, .t (.int .i64 (IntKind.i64.wrap (v11 + 1))))], [(3, .box ((exprCells (a0)).map .t)), (6, .box [.t (.int .i64 (0)), .t (.int .i64 (0)), .t (.str (⟨#[]⟩)), .nil]), (8, .box [.t (.int .i64 (a0.Op)), .t (.int .i64 (a0.N)), .t (.str (a0.S)), .own 65]), (65, .arr 40 4 ((v10 ++ ([r15.1])).length) (eF exprCells (v10 ++ ([r15.1]))))]⟩) (Le.trans (Le.rename (o := 65) (o' := 10803) hG (by decide) rfl) lk))
  cases h
  exact pwp_exit (then_exit (round_out (by simp) (And.intro rfl lk)))
  intro e s hq
  rcases R19 with b12 | y21
  try dsimp only at h
  obtain ⟨rfl, hle⟩ := hq
  refine ⟨_, hle, blk_hit ?_⟩
  refine then_n ?_
  refine pwp_seq ?_
  refine pwp_region ?_
  refine pops_weak (Le.trans (Le.freeze (o := 10803) (.lz (.exprs (b12))) rfl rfl rfl) (Le.keep (ts := [6, 8]) (os := [6, 8]) (t := ⟨[(6, .ptr 6 0), (8, .ptr 8 0)], [(6, .box [.t (.int .i64 (0)), .t (.int .i64 (0)), .t (.str (⟨#[]⟩)), .nil]), (8, .box [.t (.int .i64 (a0.Op)), .t (.int .i64 (a0.N)), .t (.str (a0.S)), .t (.lz (.exprs (b12)))])]⟩) (by kernel_rfl))) ?_
  refine pn hG 3 [6, 7] [6] [(7, .t (.bool (true)))] [(6, .box [.t (.int .i64 (a0.Op)), .t (.int .i64 (a0.N)), .t (.str (a0.S)), .t (.lz (.exprs (b12)))])] ?_
  refine pe ?_
  refine then_n ?_
  cases h
  exact pwp_ret rt
  try dsimp only at h
  obtain ⟨rfl, hq⟩ := hq
  cases h
  exact ⟨_, Le.refl, blk_ret (then_ret (hq))⟩

def F28s0_L0 (n : Nat) (rec : Expr → (List Expr) → (List Bool) → Option (Expr × Bool)) (a0 : Expr) (h30000 : List Expr) (h30001 : List Bool) : ((List Expr) × Int) → Option (((List Expr) × Int) ⊕ (((List Expr)) ⊕ (Expr × Bool)))
  | (v1, v2) => if (decide (v2 < ((a0.Args.length : Int)))) = true then (if 0 ≤ v2 ∧ v2 < (a0.Args.length : Int) then ((rec (a0.Args.getD (v2).toNat default) h30000 h30001).bind fun r6 => if (!r6.2) = true then (some (.inr (.inr (((Expr.mk 0 0 (⟨#[]⟩) (([] : List Expr))), false))))) else (if (v1.length + 1) * 56 ≤ 140737488355328 then (some (.inl ((v1 ++ ([r6.1]), IntKind.i64.wrap (v2 + 1))))) else none)) else none) else (some (.inr (.inl (v1))))
def F28s0 : Nat → Expr → (List Expr) → (List Bool) → Option (Expr × Bool)
  | 0, _, _, _ => none
  | n + 1, a0, h30000, h30001 => Option.bind (iterM (F28s0_L0 n (F28s0 n) a0 h30000 h30001) n ((([] : List Expr), 0))) fun R10 => match R10 with | .inl (b3) => (Option.bind (if (a0.Op == 22) = true then (if (decide (a0.N ≥ 0)) = true then (some ((b3, decide (a0.N < ((h30000.length : Int)))))) else (some ((b3, false)))) else (some ((b3, false))) : Option ((List Expr) × Bool)) fun J14 => match J14 with | (j12, j13) => (Option.bind (if (j13) = true then (if 0 ≤ a0.N ∧ a0.N < (h30001.length : Int) then (if (a0.N).toNat < h30001.length then (if (!(h30001.getD (a0.N).toNat default)) = true then (some (.inr (((Expr.mk 0 0 (⟨#[]⟩) (([] : List Expr))), false)))) else (if 0 ≤ a0.N ∧ a0.N < (h30000.length : Int) then (if (a0.N).toNat < h30000.length then ((F42 n (h30000.getD (a0.N).toNat default) 4 j12).bind fun r32 => some (.inl ((r32.1.Op, r32.1.N, r32.1.S, r32.1.Args)))) else none) else none)) else none) else none) else (some (.inl ((a0.Op, a0.N, a0.S, j12)))) : Option ((Int × Int × ByteArray × (List Expr)) ⊕ (Expr × Bool))) fun J23 => match J23 with | .inl (j19, j20, j21, j22) => ((F40 n ((Expr.mk j19 j20 j21 j22))).bind fun r34 => if (decide (r34 > 1000)) = true then (some (((Expr.mk 0 0 (⟨#[]⟩) (([] : List Expr))), false))) else (some (((Expr.mk j19 j20 j21 j22), true)))) | .inr y37 => some (y37))) | .inr (y38) => (some (y38))
abbrev I28s0 : Inf := ⟨look tiL, [30000, 30001], 84⟩
set_option maxRecDepth 20000 in
theorem F28s0_ok (n : Nat) : ∀ (a0 : Expr) (h30000 : List Expr) (h30001 : List Bool) (y : Expr × Bool) (_ : F28s0 n a0 h30000 h30001 = some y), PCall Proofs.Try.prog 28 [.t (eExpr a0), .own 30000, .own 30001] [(30000, .arr 40 4 (h30000.length) (eF exprCells h30000)), (30001, .arr 4 1 (h30001.length) (eF cBool h30001))] [30000, 30001] (RetH (.tup [.t (eExpr y.1), .t (.bool (y.2))]) [(30000, .arr 40 4 (h30000.length) (eF exprCells h30000)), (30001, .arr 4 1 (h30001.length) (eF cBool h30001))]) := by
  induction n with
  | zero => intro a0 h30000 h30001 y h; cases h
  | succ n ih =>
  intro a0 h30000 h30001 y h
  refine pcall_of (I := I28s0) Proofs.Try.func28 rfl ti_ok Proofs.Try.ntmps28 (le_n (by kernel_rfl)) (fun E hG => ?_)
  rw [F28s0] at h
  refine sn hG [1, 2, 3, 6] [3, 6, 30000, 30001] [(3, .ptr 3 0), (6, .ptr 6 0)] [(3, .box ((exprCells (a0)).map .t)), (6, .box [.t (.int .i64 (0)), .t (.int .i64 (0)), .t (.str (⟨#[]⟩)), .nil])] ?_
  refine pwp_seq ?_
  refine pwp_region ?_
  refine pn hG 9 [1, 2, 3, 6, 8] [3, 6, 8, 30000, 30001] [(8, .ptr 8 0)] [(8, .box [.t (.int .i64 (a0.Op)), .t (.int .i64 (a0.N)), .t (.str (a0.S)), .nil])] ?_
  refine pe ?_
  refine then_n ?_
  refine pwp_seq ?_
  refine sn hG [1, 2, 3, 6, 8, 9] [3, 6, 8, 30000, 30001] [(9, .t (.int .i64 (0)))] [] ?_
  refine ws ⟨[(1, .own 30000), (2, .own 30001), (3, .ptr 3 0), (6, .ptr 6 0), (8, .ptr 8 0), (9, .t (.int .i64 (0)))], [(3, .box ((exprCells (a0)).map .t)), (6, .box [.t (.int .i64 (0)), .t (.int .i64 (0)), .t (.str (⟨#[]⟩)), .nil]), (8, .box [.t (.int .i64 (a0.Op)), .t (.int .i64 (a0.N)), .t (.str (a0.S)), .nil]), (30000, .arr 40 4 (h30000.length) (eF exprCells h30000)), (30001, .arr 4 1 (h30001.length) (eF cBool h30001))]⟩ ?_
  refine pwp_weak (Le.thawC (b := 8) (j := 3) (o := 10803) (e := 40) (s := 4) (f := eF exprCells ([] : List Expr)) hG rfl) ?_
  obtain ⟨R10, hR11, h⟩ := bnd h
  refine lp (F28s0_L0 n (F28s0 n) a0 h30000 h30001) (fun (s : (List Expr) × Int) => match s with | (v1, v2) => (⟨[(1, .own 30000), (2, .own 30001), (3, .ptr 3 0), (6, .ptr 6 0), (8, .ptr 8 0), (9, .t (.int .i64 (v2)))], [(3, .box ((exprCells (a0)).map .t)), (6, .box [.t (.int .i64 (0)), .t (.int .i64 (0)), .t (.str (⟨#[]⟩)), .nil]), (8, .box [.t (.int .i64 (a0.Op)), .t (.int .i64 (a0.N)), .t (.str (a0.S)), .own 10803]), (10803, .arr 40 4 (v1.length) (eF exprCells v1)), (30000, .arr 40 4 (h30000.length) (eF exprCells h30000)), (30001, .arr 4 1 (h30001.length) (eF cBool h30001))]⟩ : St)) (fun (r : ((List Expr)) ⊕ (Expr × Bool)) (e : Exit) (s : St) => match r with | .inl (x0) => e = .exit 0 ∧ Le E s ((fun (b3 : (List Expr)) => (⟨[(1, .own 30000), (2, .own 30001), (3, .ptr 3 0), (6, .ptr 6 0), (8, .ptr 8 0)], [(3, .box ((exprCells (a0)).map .t)), (6, .box [.t (.int .i64 (0)), .t (.int .i64 (0)), .t (.str (⟨#[]⟩)), .nil]), (8, .box [.t (.int .i64 (a0.Op)), .t (.int .i64 (a0.N)), .t (.str (a0.S)), .own 10803]), (10803, .arr 40 4 (b3.length) (eF exprCells b3)), (30000, .arr 40 4 (h30000.length) (eF exprCells h30000)), (30001, .arr 4 1 (h30001.length) (eF cBool h30001))]⟩ : St)) x0) | .inr (y0) => e = .ret ∧ finQ I28s0 Proofs.Try.f28.results.toList (RetH (.tup [.t (eExpr y0.1), .t (.bool (y0.2))]) [(30000, .arr 40 4 (h30000.length) (eF exprCells h30000)), (30001, .arr 4 1 (h30001.length) (eF cBool h30001))]) .ret s) ?_ n ((([] : List Expr), 0)) R10 hR11 ?_
  rintro ⟨v1, v2⟩ x h
  rw [F28s0_L0] at h
  refine pwp_seq ?_
  refine sn hG [1, 2, 3, 6, 8, 9, 23] [3, 6, 8, 10803, 30000, 30001] [(23, .t (.bool (decide (v2 < ((a0.Args.length : Int))))))] [] ?_
  refine iw h (fun h => ?_) (fun h => ?_)
  refine pwp_skip ?_
  refine then_n ?_
  refine pwp_seq ?_
  refine pwp_block ?_
  refine pwp_seq ?_
  refine pwp_region ?_
  obtain ⟨hc5, h⟩ := grd h
  refine pc hG 7 [1, 2, 3, 6, 8, 9, 31, 32, 33] [3, 6, 8, 10803, 30000, 30001] [(31, .t (eExpr (a0.Args.getD (v2).toNat default))), (32, .own 30000), (33, .own 30001)] [] hc5 ?_
  obtain ⟨r6, hr7, h⟩ := bnd h
  refine ch hG [30000, 30001] [30000, 30001] [] (nf := 0) (caps := []) (aps := [.t (eExpr (a0.Args.getD (v2).toNat default)), .own 30000, .own 30001]) rfl rfl rfl rfl callable28 (.cons (.same _) (.cons (.same _) (.cons (.same _) .nil))) (ih _ _ _ _ hr7) ?_
  refine pn hG 6 [1, 2, 3, 6, 8, 9, 10, 11] [3, 6, 8, 10, 10803, 30000, 30001] [(10, .ptr 10 0), (11, .t (.bool (r6.2)))] [(10, .box ((exprCells (r6.1)).map .t))] ?_
  refine pe ?_
  refine then_n ?_
  refine pwp_seq ?_
  refine sn hG [1, 2, 3, 6, 8, 9, 10, 38] [3, 6, 8, 10, 10803, 30000, 30001] [(38, .t (.bool (!r6.2)))] [] ?_
  refine iw h (fun h => ?_) (fun h => ?_)
  refine pwp_seq ?_
  refine pwp_region ?_
  refine pn hG 3 [6, 7] [6, 30000, 30001] [(7, .t (.bool (false)))] [] ?_
  refine pe ?_
  refine then_n ?_
  refine ws ⟨[(6, .ptr 6 0), (7, .t (.bool (false)))], [(6, .box [.t (.int .i64 (0)), .t (.int .i64 (0)), .t (.str (⟨#[]⟩)), .nil]), (30000, .arr 40 4 (h30000.length) (eF exprCells h30000)), (30001, .arr 4 1 (h30001.length) (eF cBool h30001))]⟩ ?_
  refine pwp_weak (Le.obj (o := 6) (.box ([(.int .i64 (0)), (.int .i64 (0)), (.str (⟨#[]⟩)), (.lz (.exprs (([] : List Expr))))].map .t)) rfl (fun _ _ _ => le_box (.same (.same (.same (.empty rfl (.nil))))))) ?_
  refine kw [6, 7] [6, 30000, 30001] ?_
  cases h
  exact pwp_ret (then_ret (blk_ret (then_ret (round_out (by simp) (And.intro rfl (retH_at [30000, 30001] (.inr rfl) (by kernel_rfl)))))))
  refine pwp_skip ?_
  refine then_n ?_
  refine pwp_region ?_
  obtain ⟨hc9, h⟩ := grd h
  refine pd hG 5 [1, 2, 3, 6, 8, 9, 44] [3, 6, 8, 44, 30000, 30001] [(44, .own 44)] [(8, .box [.t (.int .i64 (a0.Op)), .t (.int .i64 (a0.N)), .t (.str (a0.S)), .any]), (44, .arr 40 4 (v1.length + 1) (appF (v1.length) (eF exprCells v1) (arrOf [.int .i64 (r6.1.Op), .int .i64 (r6.1.N), .str (r6.1.S), .lz (.exprs (r6.1.Args))] 4)))] (Cs := [appC (v1.length) (1) 56 4 (arrOf [.int .i64 (r6.1.Op), .int .i64 (r6.1.N), .str (r6.1.S), .lz (.exprs (r6.1.Args))] 4)]) ⟨hc9, ok_one rfl⟩ ?_
  refine os ⟨[(1, .own 30000), (2, .own 30001), (3, .ptr 3 0), (6, .ptr 6 0), (8, .ptr 8 0), (9, .t (.int .i64 (v2))), (44, .own 44)], [(3, .box ((exprCells (a0)).map .t)), (6, .box [.t (.int .i64 (0)), .t (.int .i64 (0)), .t (.str (⟨#[]⟩)), .nil]), (8, .box [.t (.int .i64 (a0.Op)), .t (.int .i64 (a0.N)), .t (.str (a0.S)), .any]), (44, .arr 40 4 (v1.length + 1) (appF (v1.length) (eF exprCells v1) (arrOf [.int .i64 (r6.1.Op), .int .i64 (r6.1.N), .str (r6.1.S), .lz (.exprs (r6.1.Args))] 4))), (30000, .arr 40 4 (h30000.length) (eF exprCells h30000)), (30001, .arr 4 1 (h30001.length) (eF cBool h30001))]⟩ ?_
  refine pops_weak (Le.obj (o := 44) (.arr 40 4 ((v1 ++ ([r6.1])).length) (eF exprCells (v1 ++ ([r6.1])))) rfl (fun _ _ _ => ObjR.row (by simp) (row_snoc exprCells v1 r6.1 _ rfl))) ?_
  refine pn hG 2 [1, 2, 3, 6, 8, 9] [3, 6, 8, 44, 30000, 30001] [] [(8, .box [.t (.int .i64 (a0.Op)), .t (.int .i64 (a0.N)), .t (.str (a0.S)), .own 44]), (44, .arr 40 4 ((v1 ++ ([r6.1])).length) (eF exprCells (v1 ++ ([r6.1]))))] ?_
  refine pe ?_
  refine blk_n ?_
  refine then_n ?_
  refine rn hG [1, 2, 3, 6, 8, 9] [3, 6, 8, 44, 30000, 30001] [(9, .t (.int .i64 (IntKind.i64.wrap (v2 + 1))))] [] ?_
  cases h
  exact round_in (Le.trans (ls ⟨[(1, .own 30000), (2, .own 30001), (3, .ptr 3 0), (6, .ptr 6 0), (8, .ptr 8 0), (9, .t (.int .i64 (IntKind.i64.wrap (v2 + 1))))], [(3, .box ((exprCells (a0)).map .t)), (6, .box [.t (.int .i64 (0)), .t (.int .i64 (0)), .t (.str (⟨#[]⟩)), .nil]), (8, .box [.t (.int .i64 (a0.Op)), .t (.int .i64 (a0.N)), .t (.str (a0.S)), .own 44]), (44, .arr 40 4 ((v1 ++ ([r6.1])).length) (eF exprCells (v1 ++ ([r6.1])))), (30000, .arr 40 4 (h30000.length) (eF exprCells h30000)), (30001, .arr 4 1 (h30001.length) (eF cBool h30001))]⟩) (Le.trans (Le.rename (o := 44) (o' := 10803) hG (by decide) rfl) lk))
  cases h
  exact pwp_exit (then_exit (round_out (by simp) (And.intro rfl lk)))
  intro e s hq
  rcases R10 with b3 | y38
  try dsimp only at h
  obtain ⟨rfl, hle⟩ := hq
  refine ⟨_, hle, blk_hit ?_⟩
  refine then_n ?_
  refine pwp_seq ?_
  refine pwp_seq ?_
  obtain ⟨J14, hj15, h⟩ := bnd h
  obtain ⟨j12, j13⟩ := J14
  try dsimp only at h
  refine jn [1, 2, 3, 6, 8, 60] [3, 6, 8, 10803, 30000, 30001] [(60, .t (.bool (j13)))] [(10803, .arr 40 4 (j12.length) (eF exprCells j12))] ?_ ?_
  replace h := hj15; clear hj15
  refine pwp_region ?_
  refine pn hG 4 [1, 2, 3, 6, 8, 49] [3, 6, 8, 10803, 30000, 30001] [(49, .t (.bool (a0.Op == 22)))] [] ?_
  refine io 49 h (fun h => ?_) (fun h => ?_)
  refine pn hG 5 [1, 2, 3, 6, 8, 54] [3, 6, 8, 10803, 30000, 30001] [(54, .t (.bool (decide (a0.N ≥ 0))))] [] ?_
  refine io 54 h (fun h => ?_) (fun h => ?_)
  refine pn hG 6 [1, 2, 3, 6, 8, 60] [3, 6, 8, 10803, 30000, 30001] [(60, .t (.bool (decide (a0.N < ((h30000.length : Int))))))] [] ?_
  injection h with q0
  injection q0 with p1 q1
  subst p1
  subst q1
  refine pe ?_
  exact fl
  refine pn hG 6 [1, 2, 3, 6, 8, 60] [3, 6, 8, 10803, 30000, 30001] [(60, .t (.bool (false)))] [] ?_
  injection h with q0
  injection q0 with p1 q1
  subst p1
  subst q1
  refine pe ?_
  exact fl
  refine pn hG 11 [1, 2, 3, 6, 8, 60] [3, 6, 8, 10803, 30000, 30001] [(60, .t (.bool (false)))] [] ?_
  injection h with q0
  injection q0 with p1 q1
  subst p1
  subst q1
  refine pe ?_
  exact fl
  refine then_n ?_
  obtain ⟨J23, hj24, h⟩ := bnd h
  refine pwp_piece (tm := (fun (s : Int × Int × ByteArray × (List Expr)) => match s with | (j19, j20, j21, j22) => (⟨[(6, .ptr 6 0), (8, .ptr 8 0)], [(6, .box [.t (.int .i64 (0)), .t (.int .i64 (0)), .t (.str (⟨#[]⟩)), .nil]), (8, .box [.t (.int .i64 (j19)), .t (.int .i64 (j20)), .t (.str (j21)), .t (.lz (.exprs (j22)))]), (30000, .arr 40 4 (h30000.length) (eF exprCells h30000)), (30001, .arr 4 1 (h30001.length) (eF cBool h30001))]⟩ : St))) (Out := fun y e s => e ≠ .normal ∧ (fun (y0 : Expr × Bool) (e : Exit) (s : St) => e = .ret ∧ finQ I28s0 Proofs.Try.f28.results.toList (RetH (.tup [.t (eExpr y0.1), .t (.bool (y0.2))]) [(30000, .arr 40 4 (h30000.length) (eF exprCells h30000)), (30001, .arr 4 1 (h30001.length) (eF cBool h30001))]) .ret s) y e s) (x := J23) ?_ ?_ ?_
  replace h := hj24; clear hj24
  refine iw h (fun h => ?_) (fun h => ?_)
  refine pwp_seq ?_
  obtain ⟨hc25, h⟩ := grd h
  obtain ⟨hc26, h⟩ := grd h
  refine sd hG [1, 3, 6, 8, 66] [3, 6, 8, 10803, 30000, 30001] [(66, .t (.bool (!(h30001.getD (a0.N).toNat default))))] [] (Cs := [0 ≤ a0.N ∧ a0.N < (h30001.length : Int), (a0.N).toNat < h30001.length]) ⟨hc25, hc26⟩ ?_
  refine iw h (fun h => ?_) (fun h => ?_)
  refine pwp_seq ?_
  refine pwp_region ?_
  refine pn hG 3 [6, 7] [6, 30000, 30001] [(7, .t (.bool (false)))] [] ?_
  refine pe ?_
  refine then_n ?_
  refine ws ⟨[(6, .ptr 6 0), (7, .t (.bool (false)))], [(6, .box [.t (.int .i64 (0)), .t (.int .i64 (0)), .t (.str (⟨#[]⟩)), .nil]), (30000, .arr 40 4 (h30000.length) (eF exprCells h30000)), (30001, .arr 4 1 (h30001.length) (eF cBool h30001))]⟩ ?_
  refine pwp_weak (Le.obj (o := 6) (.box ([(.int .i64 (0)), (.int .i64 (0)), (.str (⟨#[]⟩)), (.lz (.exprs (([] : List Expr))))].map .t)) rfl (fun _ _ _ => le_box (.same (.same (.same (.empty rfl (.nil))))))) ?_
  refine kw [6, 7] [6, 30000, 30001] ?_
  cases h
  exact pwp_ret (then_ret (piece_out (And.intro (by simp) (And.intro rfl (retH_at [30000, 30001] (.inr rfl) (by kernel_rfl))))))
  refine pwp_skip ?_
  refine then_n ?_
  refine ws ⟨[(1, .own 30000), (3, .ptr 3 0), (6, .ptr 6 0), (8, .ptr 8 0), (66, .t (.bool (!(h30001.getD (a0.N).toNat default))))], [(3, .box ((exprCells (a0)).map .t)), (6, .box [.t (.int .i64 (0)), .t (.int .i64 (0)), .t (.str (⟨#[]⟩)), .nil]), (8, .box [.t (.int .i64 (a0.Op)), .t (.int .i64 (a0.N)), .t (.str (a0.S)), .own 10803]), (10803, .arr 40 4 (j12.length) (eF exprCells j12)), (30000, .arr 40 4 (h30000.length) (eF exprCells h30000)), (30001, .arr 4 1 (h30001.length) (eF cBool h30001))]⟩ ?_
  refine pwp_weak (Le.trans (Le.freeze (o := 10803) (.lz (.exprs (j12))) rfl rfl rfl) (Le.keep (ts := [1, 3, 6, 8, 66]) (os := [3, 6, 8, 30000, 30001]) (t := ⟨[(1, .own 30000), (3, .ptr 3 0), (6, .ptr 6 0), (8, .ptr 8 0), (66, .t (.bool (!(h30001.getD (a0.N).toNat default))))], [(3, .box ((exprCells (a0)).map .t)), (6, .box [.t (.int .i64 (0)), .t (.int .i64 (0)), .t (.str (⟨#[]⟩)), .nil]), (8, .box [.t (.int .i64 (a0.Op)), .t (.int .i64 (a0.N)), .t (.str (a0.S)), .t (.lz (.exprs (j12)))]), (30000, .arr 40 4 (h30000.length) (eF exprCells h30000)), (30001, .arr 4 1 (h30001.length) (eF cBool h30001))]⟩) (by kernel_rfl))) ?_
  obtain ⟨hc30, h⟩ := grd h
  obtain ⟨hc31, h⟩ := grd h
  obtain ⟨r32, hr33, h⟩ := bnd h
  refine ln hG [(7, 42, [.t (eExpr (h30000.getD (a0.N).toNat default)), .t (.int .i64 (4)), .t (.lz (.exprs (j12)))], .tup [.t (eExpr r32.1), .t (.bool (r32.2))])] [] [(3, [0 ≤ a0.N ∧ a0.N < (h30000.length : Int)]), (4, [(a0.N).toNat < h30000.length])] [(3, false, []), (6, false, []), (8, false, [11]), (30000, false, []), (30001, false, [])] [1, 3, 6, 8, 66] (.cons ⟨callable42, ⟨_, fun _ => (.cons (.same _) (.cons (.same _) (.cons (.same _) .nil))), F42_ok n _ _ _ _ hr33⟩, rfl⟩ .nil) .nil (.cons hc30 (.cons hc31 .nil)) [6, 8] [6, 8, 30000, 30001] [] [(8, .box ((exprCells (r32.1)).map .t))] ?_
  cases h
  exact piece_in lk
  refine pwp_skip ?_
  cases h
  exact piece_in (Le.trans (ls ⟨[(1, .own 30000), (2, .own 30001), (3, .ptr 3 0), (6, .ptr 6 0), (8, .ptr 8 0), (60, .t (.bool (j13)))], [(3, .box ((exprCells (a0)).map .t)), (6, .box [.t (.int .i64 (0)), .t (.int .i64 (0)), .t (.str (⟨#[]⟩)), .nil]), (8, .box [.t (.int .i64 (a0.Op)), .t (.int .i64 (a0.N)), .t (.str (a0.S)), .own 10803]), (10803, .arr 40 4 (j12.length) (eF exprCells j12)), (30000, .arr 40 4 (h30000.length) (eF exprCells h30000)), (30001, .arr 4 1 (h30001.length) (eF cBool h30001))]⟩) (Le.trans (Le.trans (Le.freeze (o := 10803) (.lz (.exprs (j12))) rfl rfl rfl) (Le.keep (ts := [1, 2, 3, 6, 8, 60]) (os := [3, 6, 8, 30000, 30001]) (t := ⟨[(1, .own 30000), (2, .own 30001), (3, .ptr 3 0), (6, .ptr 6 0), (8, .ptr 8 0), (60, .t (.bool (j13)))], [(3, .box ((exprCells (a0)).map .t)), (6, .box [.t (.int .i64 (0)), .t (.int .i64 (0)), .t (.str (⟨#[]⟩)), .nil]), (8, .box [.t (.int .i64 (a0.Op)), .t (.int .i64 (a0.N)), .t (.str (a0.S)), .t (.lz (.exprs (j12)))]), (30000, .arr 40 4 (h30000.length) (eF exprCells h30000)), (30001, .arr 4 1 (h30001.length) (eF cBool h30001))]⟩) (by kernel_rfl))) lk))
  rintro ⟨j19, j20, j21, j22⟩ hx
  subst hx
  try dsimp only at h
  refine then_n ?_
  refine pwp_seq ?_
  refine pwp_seq ?_
  refine pwp_region ?_
  refine pn hG 1 [6, 8, 79] [6, 8, 30000, 30001] [(79, .t (eExpr ((Expr.mk j19 j20 j21 j22))))] [] ?_
  obtain ⟨r34, hr35, h⟩ := bnd h
  refine ca hG [] rfl rfl rfl rfl callable40 (.cons (.same _) .nil) (F40_ok n _ _ hr35) ?_
  refine pn hG 1 [6, 8, 81] [6, 8, 30000, 30001] [(81, .t (.bool (decide (r34 > 1000))))] [] ?_
  refine pe ?_
  refine then_n ?_
  refine iw h (fun h => ?_) (fun h => ?_)
  refine pwp_seq ?_
  refine pwp_region ?_
  refine pn hG 3 [6, 7] [6, 30000, 30001] [(7, .t (.bool (false)))] [] ?_
  refine pe ?_
  refine then_n ?_
  refine ws ⟨[(6, .ptr 6 0), (7, .t (.bool (false)))], [(6, .box [.t (.int .i64 (0)), .t (.int .i64 (0)), .t (.str (⟨#[]⟩)), .nil]), (30000, .arr 40 4 (h30000.length) (eF exprCells h30000)), (30001, .arr 4 1 (h30001.length) (eF cBool h30001))]⟩ ?_
  refine pwp_weak (Le.obj (o := 6) (.box ([(.int .i64 (0)), (.int .i64 (0)), (.str (⟨#[]⟩)), (.lz (.exprs (([] : List Expr))))].map .t)) rfl (fun _ _ _ => le_box (.same (.same (.same (.empty rfl (.nil))))))) ?_
  refine kw [6, 7] [6, 30000, 30001] ?_
  cases h
  exact pwp_ret (then_ret (retH_at [30000, 30001] (.inr rfl) (by kernel_rfl)))
  refine pwp_skip ?_
  refine then_n ?_
  refine pwp_seq ?_
  refine pwp_region ?_
  refine pn hG 3 [6, 7] [6, 30000, 30001] [(7, .t (.bool (true)))] [(6, .box [.t (.int .i64 (j19)), .t (.int .i64 (j20)), .t (.str (j21)), .t (.lz (.exprs (j22)))])] ?_
  refine pe ?_
  refine then_n ?_
  refine kw [6, 7] [6, 30000, 30001] ?_
  cases h
  exact pwp_ret (retH_at [30000, 30001] (.inr rfl) (by kernel_rfl))
  rintro y37 e s hx hq
  subst hx
  try dsimp only at h
  cases h
  obtain ⟨hne, rfl, hq⟩ := hq
  exact ⟨_, Le.refl, then_ret (hq)⟩
  try dsimp only at h
  obtain ⟨rfl, hq⟩ := hq
  cases h
  exact ⟨_, Le.refl, blk_ret (then_ret (hq))⟩

def F17_L0 (n : Nat) (a0 : List GFunc) : ((List Expr) × (List Bool) × Int) → Option (((List Expr) × (List Bool) × Int) ⊕ ((List Expr) × (List Bool)))
  | (v1, v2, v3) => if (decide (v3 < ((a0.length : Int)))) = true then (if 0 ≤ v3 ∧ v3 < (a0.length : Int) then ((F28s0 n ((a0.getD (v3).toNat default).Body) v1 v2).bind fun r8 => if (v1.length + 1) * 56 ≤ 140737488355328 then (if (v2.length + 1) * 1 ≤ 140737488355328 then (some (.inl ((v1 ++ ([r8.1]), v2 ++ ([r8.2]), IntKind.i64.wrap (v3 + 1))))) else none) else none) else none) else (some (.inr ((v1, v2))))
def F17 (n : Nat) (a0 : List GFunc) (a1 : Expr) : Option (Expr × Bool) := Option.bind (iterM (F17_L0 n a0) n ((([] : List Expr), ([] : List Bool), 0))) fun R12 => match R12 with | (b4, b5) => ((F28s0 n a1 b4 b5).bind fun r14 => Option.bind (if (!r14.2) = true then (some (true)) else ((F29 n r14.1).bind fun r20 => some (decide (r20 > 12))) : Option (Bool)) fun j16 => if (j16) = true then (some (((Expr.mk 0 0 (⟨#[]⟩) (([] : List Expr))), false))) else (some ((r14.1, true))))
abbrev I17 : Inf := ⟨look tiL, [], 54⟩
set_option maxRecDepth 20000 in
theorem F17_ok (n : Nat) (a0 : List GFunc) (a1 : Expr) (y : Expr × Bool) (h : F17 n a0 a1 = some y) : PCall Proofs.Try.prog 17 [.t (eL cGFunc (a0)), .t (eExpr a1)] [] [] (Ret (.tup [.t (eExpr y.1), .t (.bool (y.2))])) := by
  refine pcall_of (I := I17) Proofs.Try.func17 rfl ti_ok Proofs.Try.ntmps17 (le_n (by kernel_rfl)) (fun E hG => ?_)
  unfold F17 at h
  refine sn hG [0, 3, 4] [3, 4] [(3, .ptr 3 0), (4, .ptr 4 0)] [(3, .box ((exprCells (a1)).map .t)), (4, .box [.t (.int .i64 (0)), .t (.int .i64 (0)), .t (.str (⟨#[]⟩)), .nil])] ?_
  refine sn hG [0, 3, 4, 6] [3, 4] [(6, .nil)] [] ?_
  refine sn hG [0, 3, 4, 6, 7] [3, 4] [(7, .nil)] [] ?_
  refine pwp_seq ?_
  refine sn hG [0, 3, 4, 6, 7, 8] [3, 4] [(8, .t (.int .i64 (0)))] [] ?_
  refine ws ⟨[(0, .t (eL cGFunc (a0))), (3, .ptr 3 0), (4, .ptr 4 0), (6, .nil), (7, .nil), (8, .t (.int .i64 (0)))], [(3, .box ((exprCells (a1)).map .t)), (4, .box [.t (.int .i64 (0)), .t (.int .i64 (0)), .t (.str (⟨#[]⟩)), .nil])]⟩ ?_
  refine pwp_weak (Le.thaw (t := 6) (o := 6) (e := 40) (s := 4) (f := eF exprCells ([] : List Expr)) hG rfl) ?_
  refine pwp_weak (Le.thaw (t := 7) (o := 7) (e := 4) (s := 1) (f := eF cBool ([] : List Bool)) hG rfl) ?_
  obtain ⟨R12, hR13, h⟩ := bnd h
  refine lp (F17_L0 n a0) (fun (s : (List Expr) × (List Bool) × Int) => match s with | (v1, v2, v3) => (⟨[(0, .t (eL cGFunc (a0))), (3, .ptr 3 0), (4, .ptr 4 0), (6, .own 6), (7, .own 7), (8, .t (.int .i64 (v3)))], [(3, .box ((exprCells (a1)).map .t)), (4, .box [.t (.int .i64 (0)), .t (.int .i64 (0)), .t (.str (⟨#[]⟩)), .nil]), (6, .arr 40 4 (v1.length) (eF exprCells v1)), (7, .arr 4 1 (v2.length) (eF cBool v2))]⟩ : St)) (fun (x0 : (List Expr) × (List Bool)) (e : Exit) (s : St) => e = .exit 0 ∧ Le E s ((fun (s : (List Expr) × (List Bool)) => match s with | (b4, b5) => (⟨[(3, .ptr 3 0), (4, .ptr 4 0), (6, .own 6), (7, .own 7)], [(3, .box ((exprCells (a1)).map .t)), (4, .box [.t (.int .i64 (0)), .t (.int .i64 (0)), .t (.str (⟨#[]⟩)), .nil]), (6, .arr 40 4 (b4.length) (eF exprCells b4)), (7, .arr 4 1 (b5.length) (eF cBool b5))]⟩ : St)) x0)) ?_ n ((([] : List Expr), ([] : List Bool), 0)) R12 hR13 ?_
  rintro ⟨v1, v2, v3⟩ x h
  rw [F17_L0] at h
  refine pwp_seq ?_
  refine sn hG [0, 3, 4, 6, 7, 8, 16] [3, 4, 6, 7] [(16, .t (.bool (decide (v3 < ((a0.length : Int))))))] [] ?_
  refine iw h (fun h => ?_) (fun h => ?_)
  refine pwp_skip ?_
  refine then_n ?_
  refine pwp_seq ?_
  refine pwp_block ?_
  refine pwp_seq ?_
  refine pwp_region ?_
  obtain ⟨hc7, h⟩ := grd h
  refine pc hG 7 [0, 3, 4, 6, 7, 8, 24, 25, 26] [3, 4, 6, 7] [(24, .t (eExpr ((a0.getD (v3).toNat default).Body))), (25, .own 6), (26, .own 7)] [] hc7 ?_
  refine os ⟨[(0, .t (eL cGFunc (a0))), (3, .ptr 3 0), (4, .ptr 4 0), (6, .own 6), (7, .own 7), (8, .t (.int .i64 (v3))), (24, .t (eExpr ((a0.getD (v3).toNat default).Body))), (25, .own 6), (26, .own 7)], [(3, .box ((exprCells (a1)).map .t)), (4, .box [.t (.int .i64 (0)), .t (.int .i64 (0)), .t (.str (⟨#[]⟩)), .nil]), (6, .arr 40 4 (v1.length) (eF exprCells v1)), (7, .arr 4 1 (v2.length) (eF cBool v2))]⟩ ?_
  refine pops_weak (Le.rn hG (o := 6) (o' := 30000) rfl) ?_
  refine pops_weak (Le.rn hG (o := 7) (o' := 30001) rfl) ?_
  obtain ⟨r8, hr9, h⟩ := bnd h
  refine ch hG [30000, 30001] [30000, 30001] [] (nf := 0) (caps := []) (aps := [.t (eExpr ((a0.getD (v3).toNat default).Body)), .own 30000, .own 30001]) rfl rfl rfl rfl callable28 (.cons (.same _) (.cons (.same _) (.cons (.same _) .nil))) (F28s0_ok n _ _ _ _ hr9) ?_
  refine pn hG 6 [0, 3, 4, 6, 7, 8, 9, 10] [3, 4, 9, 30000, 30001] [(6, .own 30000), (7, .own 30001), (9, .ptr 9 0), (10, .t (.bool (r8.2)))] [(9, .box ((exprCells (r8.1)).map .t)), (30000, .arr 40 4 (v1.length) (eF exprCells v1)), (30001, .arr 4 1 (v2.length) (eF cBool v2))] ?_
  refine pe ?_
  refine then_n ?_
  refine pwp_seq ?_
  refine pwp_region ?_
  obtain ⟨hc10, h⟩ := grd h
  refine pd hG 4 [0, 3, 4, 7, 8, 10, 33] [3, 4, 33, 30001] [(33, .own 33)] [(33, .arr 40 4 (v1.length + 1) (appF (v1.length) (eF exprCells v1) (arrOf [.int .i64 (r8.1.Op), .int .i64 (r8.1.N), .str (r8.1.S), .lz (.exprs (r8.1.Args))] 4)))] (Cs := [appC (v1.length) (1) 56 4 (arrOf [.int .i64 (r8.1.Op), .int .i64 (r8.1.N), .str (r8.1.S), .lz (.exprs (r8.1.Args))] 4)]) ⟨hc10, ok_one rfl⟩ ?_
  refine os ⟨[(0, .t (eL cGFunc (a0))), (3, .ptr 3 0), (4, .ptr 4 0), (7, .own 30001), (8, .t (.int .i64 (v3))), (10, .t (.bool (r8.2))), (33, .own 33)], [(3, .box ((exprCells (a1)).map .t)), (4, .box [.t (.int .i64 (0)), .t (.int .i64 (0)), .t (.str (⟨#[]⟩)), .nil]), (33, .arr 40 4 (v1.length + 1) (appF (v1.length) (eF exprCells v1) (arrOf [.int .i64 (r8.1.Op), .int .i64 (r8.1.N), .str (r8.1.S), .lz (.exprs (r8.1.Args))] 4))), (30001, .arr 4 1 (v2.length) (eF cBool v2))]⟩ ?_
  refine pops_weak (Le.obj (o := 33) (.arr 40 4 ((v1 ++ ([r8.1])).length) (eF exprCells (v1 ++ ([r8.1])))) rfl (fun _ _ _ => ObjR.row (by simp) (row_snoc exprCells v1 r8.1 _ rfl))) ?_
  refine pn hG 1 [0, 3, 4, 6, 7, 8, 10] [3, 4, 33, 30001] [(6, .own 33)] [(33, .arr 40 4 ((v1 ++ ([r8.1])).length) (eF exprCells (v1 ++ ([r8.1]))))] ?_
  refine pe ?_
  refine then_n ?_
  refine pwp_region ?_
  obtain ⟨hc11, h⟩ := grd h
  refine pd hG 4 [0, 3, 4, 6, 8, 37] [3, 4, 33, 37] [(37, .own 37)] [(37, .arr 4 1 (v2.length + 1) (appF (v2.length) (eF cBool v2) (arrOf [.bool (r8.2)] 1)))] (Cs := [appC (v2.length) (1) 1 1 (arrOf [.bool (r8.2)] 1)]) ⟨hc11, ok_one rfl⟩ ?_
  refine os ⟨[(0, .t (eL cGFunc (a0))), (3, .ptr 3 0), (4, .ptr 4 0), (6, .own 33), (8, .t (.int .i64 (v3))), (37, .own 37)], [(3, .box ((exprCells (a1)).map .t)), (4, .box [.t (.int .i64 (0)), .t (.int .i64 (0)), .t (.str (⟨#[]⟩)), .nil]), (33, .arr 40 4 ((v1 ++ ([r8.1])).length) (eF exprCells (v1 ++ ([r8.1])))), (37, .arr 4 1 (v2.length + 1) (appF (v2.length) (eF cBool v2) (arrOf [.bool (r8.2)] 1)))]⟩ ?_
  refine pops_weak (Le.obj (o := 37) (.arr 4 1 ((v2 ++ ([r8.2])).length) (eF cBool (v2 ++ ([r8.2])))) rfl (fun _ _ _ => ObjR.row (by simp) (row_snoc cBool v2 r8.2 _ rfl))) ?_
  refine pn hG 1 [0, 3, 4, 6, 7, 8] [3, 4, 33, 37] [(7, .own 37)] [(37, .arr 4 1 ((v2 ++ ([r8.2])).length) (eF cBool (v2 ++ ([r8.2]))))] ?_
  refine pe ?_
  refine blk_n ?_
  refine then_n ?_
  refine rn hG [0, 3, 4, 6, 7, 8] [3, 4, 33, 37] [(8, .t (.int .i64 (IntKind.i64.wrap (v3 + 1))))] [] ?_
  cases h
  exact round_in (Le.trans (ls ⟨[(0, .t (eL cGFunc (a0))), (3, .ptr 3 0), (4, .ptr 4 0), (6, .own 33), (7, .own 37), (8, .t (.int .i64 (IntKind.i64.wrap (v3 + 1))))], [(3, .box ((exprCells (a1)).map .t)), (4, .box [.t (.int .i64 (0)), .t (.int .i64 (0)), .t (.str (⟨#[]⟩)), .nil]), (33, .arr 40 4 ((v1 ++ ([r8.1])).length) (eF exprCells (v1 ++ ([r8.1])))), (37, .arr 4 1 ((v2 ++ ([r8.2])).length) (eF cBool (v2 ++ ([r8.2]))))]⟩) (Le.trans (Le.rename (o := 33) (o' := 6) hG (by decide) rfl) (Le.trans (Le.rename (o := 37) (o' := 7) hG (by decide) rfl) lk)))
  cases h
  exact pwp_exit (then_exit (round_out (by simp) (And.intro rfl lk)))
  intro e s hq
  obtain ⟨b4, b5⟩ := R12
  try dsimp only at h
  obtain ⟨rfl, hle⟩ := hq
  refine ⟨_, hle, blk_hit ?_⟩
  refine then_n ?_
  refine pwp_seq ?_
  refine pwp_region ?_
  refine pn hG 3 [4, 39, 40, 41] [4, 6, 7] [(39, .t (eExpr a1)), (40, .own 6), (41, .own 7)] [] ?_
  refine os ⟨[(4, .ptr 4 0), (39, .t (eExpr a1)), (40, .own 6), (41, .own 7)], [(4, .box [.t (.int .i64 (0)), .t (.int .i64 (0)), .t (.str (⟨#[]⟩)), .nil]), (6, .arr 40 4 (b4.length) (eF exprCells b4)), (7, .arr 4 1 (b5.length) (eF cBool b5))]⟩ ?_
  refine pops_weak (Le.rn hG (o := 6) (o' := 30000) rfl) ?_
  refine pops_weak (Le.rn hG (o := 7) (o' := 30001) rfl) ?_
  obtain ⟨r14, hr15, h⟩ := bnd h
  refine ch hG [30000, 30001] [30000, 30001] [] (nf := 0) (caps := []) (aps := [.t (eExpr a1), .own 30000, .own 30001]) rfl rfl rfl rfl callable28 (.cons (.same _) (.cons (.same _) (.cons (.same _) .nil))) (F28s0_ok n _ _ _ _ hr15) ?_
  refine pn hG 6 [4, 11, 12] [4, 11] [(11, .ptr 11 0), (12, .t (.bool (r14.2)))] [(11, .box ((exprCells (r14.1)).map .t))] ?_
  refine pe ?_
  refine then_n ?_
  refine pwp_seq ?_
  refine pwp_seq ?_
  obtain ⟨j16, hj18, h⟩ := bnd h
  refine jn [4, 11, 51] [4, 11] [(51, .t (.bool (j16)))] [] ?_ ?_
  replace h := hj18; clear hj18
  refine pwp_region ?_
  refine pn hG 3 [4, 11, 47] [4, 11] [(47, .t (.bool (!r14.2)))] [] ?_
  refine io 47 h (fun h => ?_) (fun h => ?_)
  refine pn hG 4 [4, 11, 51] [4, 11] [(51, .t (.bool (true)))] [] ?_
  cases h
  refine pe ?_
  exact fl
  refine pn hG 1 [4, 11, 47, 48] [4, 11] [(48, .t (eExpr r14.1))] [] ?_
  obtain ⟨r20, hr21, h⟩ := bnd h
  refine ca hG [] rfl rfl rfl rfl callable29 (.cons (.same _) .nil) (F29_ok n _ _ hr21) ?_
  refine pn hG 2 [4, 11, 51] [4, 11] [(51, .t (.bool (decide (r20 > 12))))] [] ?_
  cases h
  refine pe ?_
  exact fl
  refine then_n ?_
  refine iw h (fun h => ?_) (fun h => ?_)
  refine pwp_seq ?_
  refine pwp_region ?_
  refine pn hG 3 [4, 5] [4] [(5, .t (.bool (false)))] [] ?_
  refine pe ?_
  refine then_n ?_
  refine ws ⟨[(4, .ptr 4 0), (5, .t (.bool (false)))], [(4, .box [.t (.int .i64 (0)), .t (.int .i64 (0)), .t (.str (⟨#[]⟩)), .nil])]⟩ ?_
  refine pwp_weak (Le.obj (o := 4) (.box ([(.int .i64 (0)), (.int .i64 (0)), (.str (⟨#[]⟩)), (.lz (.exprs (([] : List Expr))))].map .t)) rfl (fun _ _ _ => le_box (.same (.same (.same (.empty rfl (.nil))))))) ?_
  cases h
  exact pwp_ret (then_ret rt)
  refine pwp_skip ?_
  refine then_n ?_
  refine pwp_seq ?_
  refine pwp_region ?_
  refine pn hG 3 [4, 5] [4] [(5, .t (.bool (true)))] [(4, .box ((exprCells (r14.1)).map .t))] ?_
  refine pe ?_
  refine then_n ?_
  cases h
  exact pwp_ret rt

def F7_L1 (n : Nat) (a0 : GProgram) (v1 : Int) : ((List Expr) × Int) → Option (((List Expr) × Int) ⊕ (Int × (List Expr)))
  | (v5, v6) => if 0 ≤ v1 ∧ v1 < (a0.Nodes.length : Int) then (if (decide (v6 < ((((a0.Nodes.getD (v1).toNat default).Seq).length : Int)))) = true then (if 0 ≤ v1 ∧ v1 < (a0.Nodes.length : Int) then (if 0 ≤ v6 ∧ v6 < (((a0.Nodes.getD (v1).toNat default).Seq).length : Int) then (if (v5.length + 1) * 56 ≤ 140737488355328 then (some (.inl ((v5 ++ ([(((a0.Nodes.getD (v1).toNat default).Seq).getD (v6).toNat default).Pred]), IntKind.i64.wrap (v6 + 1))))) else none) else none) else none) else (some (.inr ((v1, v5))))) else none
def F7_L2 (n : Nat) (a0 : GProgram) (b7 : Int) : ((List Expr) × Int) → Option (((List Expr) × Int) ⊕ ((Int) ⊕ (Bool)))
  | (v16, v17) => if (decide (v17 < ((v16.length : Int)))) = true then (if 0 ≤ v17 ∧ v17 < (v16.length : Int) then (if (v17).toNat < v16.length then ((F17 n a0.Funcs (v16.getD (v17).toNat default)).bind fun r22 => if (!r22.2) = true then (some (.inr (.inr (false)))) else (some (.inl ((v16, IntKind.i64.wrap (v17 + 1)))))) else none) else none) else (some (.inr (.inl (b7))))
def F7_L0 (n : Nat) (a0 : GProgram) : Int → Option ((Int) ⊕ ((Unit) ⊕ (Bool)))
  | v1 => if (decide (v1 < ((a0.Nodes.length : Int)))) = true then (if 0 ≤ v1 ∧ v1 < (a0.Nodes.length : Int) then (if (0 + ((a0.Nodes.getD (v1).toNat default).Exprs).length) * 56 ≤ 140737488355328 then (Option.bind (iterM (F7_L1 n a0 v1) n (((a0.Nodes.getD (v1).toNat default).Exprs, 0))) fun R14 => match R14 with | (b7, b8) => (Option.bind (iterM (F7_L2 n a0 b7) n ((b8, 0))) fun R25 => match R25 with | .inl (b18) => (some (.inl (IntKind.i64.wrap (b18 + 1)))) | .inr (y27) => (some (.inr (.inr (y27)))))) else none) else none) else (some (.inr (.inl (()))))
def F7 (n : Nat) (a0 : GProgram) : Option (Bool) := Option.bind (iterM (F7_L0 n a0) n (0)) fun R28 => match R28 with | .inl (_) => (some (true)) | .inr (y30) => (some (y30))
abbrev I7 : Inf := ⟨look tiL, [], 66⟩
set_option maxRecDepth 20000 in
theorem F7_ok (n : Nat) (a0 : GProgram) (y : Bool) (h : F7 n a0 = some y) : PCall Proofs.Try.prog 7 [.t (eGProgram a0)] [] [] (Ret (.t (.bool (y)))) := by
  refine pcall_of (I := I7) Proofs.Try.func7 rfl ti_ok Proofs.Try.ntmps7 (le_n (by kernel_rfl)) (fun E hG => ?_)
  unfold F7 at h
  refine sn hG [1] [1] [(1, .ptr 1 0)] [(1, .box ((cGProgram (a0)).map .t))] ?_
  refine pwp_seq ?_
  refine sn hG [1, 3] [1] [(3, .t (.int .i64 (0)))] [] ?_
  obtain ⟨R28, hR29, h⟩ := bnd h
  refine lp (F7_L0 n a0) (fun (v1 : Int) => (⟨[(1, .ptr 1 0), (3, .t (.int .i64 (v1)))], [(1, .box ((cGProgram (a0)).map .t))]⟩ : St)) (fun (r : (Unit) ⊕ (Bool)) (e : Exit) (s : St) => match r with | .inl (x0) => e = .exit 0 ∧ Le E s ((fun (_ : Unit) => (⟨[], []⟩ : St)) x0) | .inr (y0) => e = .ret ∧ finQ I7 Proofs.Try.f7.results.toList (Ret (.t (.bool (y0)))) .ret s) ?_ n (0) R28 hR29 ?_
  intro v1 x h
  rw [F7_L0] at h
  refine pwp_seq ?_
  refine sn hG [1, 3, 13] [1] [(13, .t (.bool (decide (v1 < ((a0.Nodes.length : Int))))))] [] ?_
  refine iw h (fun h => ?_) (fun h => ?_)
  refine pwp_skip ?_
  refine then_n ?_
  refine pwp_seq ?_
  refine pwp_block ?_
  refine sn hG [1, 3, 4] [1] [(4, .nil)] [] ?_
  refine pwp_seq ?_
  refine pwp_region ?_
  obtain ⟨hc3, h⟩ := grd h
  obtain ⟨hc4, h⟩ := grd h
  refine pd hG 8 [1, 3, 23] [1, 23] [(23, .own 23)] [(23, .arr 40 4 (((a0.Nodes.getD (v1).toNat default).Exprs).length) (eF exprCells ((a0.Nodes.getD (v1).toNat default).Exprs)))] (Cs := [0 ≤ v1 ∧ v1 < (a0.Nodes.length : Int), appC (0) (((a0.Nodes.getD (v1).toNat default).Exprs).length) 56 4 (eF exprCells ((a0.Nodes.getD (v1).toNat default).Exprs))]) ⟨hc3, ⟨hc4, ok_eF (fun _ => rfl)⟩⟩ ?_
  refine os ⟨[(1, .ptr 1 0), (3, .t (.int .i64 (v1))), (23, .own 23)], [(1, .box ((cGProgram (a0)).map .t)), (23, .arr 40 4 (((a0.Nodes.getD (v1).toNat default).Exprs).length) (eF exprCells ((a0.Nodes.getD (v1).toNat default).Exprs)))]⟩ ?_
  refine pops_weak (Le.obj (o := 23) (.arr 40 4 (((a0.Nodes.getD (v1).toNat default).Exprs).length) (eF exprCells ((a0.Nodes.getD (v1).toNat default).Exprs))) rfl (fun _ _ _ => ObjR.row (by simp) (fun _ _ => rfl))) ?_
  refine pn hG 1 [1, 3, 4] [1, 23] [(4, .own 23)] [] ?_
  refine pe ?_
  refine then_n ?_
  refine pwp_seq ?_
  refine sn hG [1, 3, 4, 5] [1, 23] [(5, .t (.int .i64 (0)))] [] ?_
  refine ws ⟨[(1, .ptr 1 0), (3, .t (.int .i64 (v1))), (4, .own 23), (5, .t (.int .i64 (0)))], [(1, .box ((cGProgram (a0)).map .t)), (23, .arr 40 4 (((a0.Nodes.getD (v1).toNat default).Exprs).length) (eF exprCells ((a0.Nodes.getD (v1).toNat default).Exprs)))]⟩ ?_
  refine pwp_weak (Le.rename (o := 23) (o' := 4) hG (by decide) rfl) ?_
  obtain ⟨R14, hR15, h⟩ := bnd h
  refine lp (F7_L1 n a0 v1) (fun (s : (List Expr) × Int) => match s with | (v5, v6) => (⟨[(1, .ptr 1 0), (3, .t (.int .i64 (v1))), (4, .own 4), (5, .t (.int .i64 (v6)))], [(1, .box ((cGProgram (a0)).map .t)), (4, .arr 40 4 (v5.length) (eF exprCells v5))]⟩ : St)) (fun (x0 : Int × (List Expr)) (e : Exit) (s : St) => e = .exit 2 ∧ Le E s ((fun (s : Int × (List Expr)) => match s with | (b7, b8) => (⟨[(1, .ptr 1 0), (3, .t (.int .i64 (b7))), (4, .own 4)], [(1, .box ((cGProgram (a0)).map .t)), (4, .arr 40 4 (b8.length) (eF exprCells b8))]⟩ : St)) x0)) ?_ n (((a0.Nodes.getD (v1).toNat default).Exprs, 0)) R14 hR15 ?_
  rintro ⟨v5, v6⟩ x h
  rw [F7_L1] at h
  refine pwp_seq ?_
  obtain ⟨hc9, h⟩ := grd h
  refine sc hG [1, 3, 4, 5, 32] [1, 4] [(32, .t (.bool (decide (v6 < ((((a0.Nodes.getD (v1).toNat default).Seq).length : Int))))))] [] hc9 ?_
  refine iw h (fun h => ?_) (fun h => ?_)
  refine pwp_skip ?_
  refine then_n ?_
  refine pwp_seq ?_
  refine pwp_block ?_
  refine pwp_region ?_
  obtain ⟨hc11, h⟩ := grd h
  obtain ⟨hc12, h⟩ := grd h
  obtain ⟨hc13, h⟩ := grd h
  refine pd hG 13 [1, 3, 5, 47] [1, 47] [(47, .own 47)] [(47, .arr 40 4 (v5.length + 1) (appF (v5.length) (eF exprCells v5) (arrOf [.int .i64 (((((a0.Nodes.getD (v1).toNat default).Seq).getD (v6).toNat default).Pred).Op), .int .i64 (((((a0.Nodes.getD (v1).toNat default).Seq).getD (v6).toNat default).Pred).N), .str (((((a0.Nodes.getD (v1).toNat default).Seq).getD (v6).toNat default).Pred).S), .lz (.exprs (((((a0.Nodes.getD (v1).toNat default).Seq).getD (v6).toNat default).Pred).Args))] 4)))] (Cs := [0 ≤ v1 ∧ v1 < (a0.Nodes.length : Int), 0 ≤ v6 ∧ v6 < (((a0.Nodes.getD (v1).toNat default).Seq).length : Int), appC (v5.length) (1) 56 4 (arrOf [.int .i64 (((((a0.Nodes.getD (v1).toNat default).Seq).getD (v6).toNat default).Pred).Op), .int .i64 (((((a0.Nodes.getD (v1).toNat default).Seq).getD (v6).toNat default).Pred).N), .str (((((a0.Nodes.getD (v1).toNat default).Seq).getD (v6).toNat default).Pred).S), .lz (.exprs (((((a0.Nodes.getD (v1).toNat default).Seq).getD (v6).toNat default).Pred).Args))] 4)]) ⟨hc11, hc12, ⟨hc13, ok_one rfl⟩⟩ ?_
  refine os ⟨[(1, .ptr 1 0), (3, .t (.int .i64 (v1))), (5, .t (.int .i64 (v6))), (47, .own 47)], [(1, .box ((cGProgram (a0)).map .t)), (47, .arr 40 4 (v5.length + 1) (appF (v5.length) (eF exprCells v5) (arrOf [.int .i64 (((((a0.Nodes.getD (v1).toNat default).Seq).getD (v6).toNat default).Pred).Op), .int .i64 (((((a0.Nodes.getD (v1).toNat default).Seq).getD (v6).toNat default).Pred).N), .str (((((a0.Nodes.getD (v1).toNat default).Seq).getD (v6).toNat default).Pred).S), .lz (.exprs (((((a0.Nodes.getD (v1).toNat default).Seq).getD (v6).toNat default).Pred).Args))] 4)))]⟩ ?_
  refine pops_weak (Le.obj (o := 47) (.arr 40 4 ((v5 ++ ([(((a0.Nodes.getD (v1).toNat default).Seq).getD (v6).toNat default).Pred])).length) (eF exprCells (v5 ++ ([(((a0.Nodes.getD (v1).toNat default).Seq).getD (v6).toNat default).Pred])))) rfl (fun _ _ _ => ObjR.row (by simp) (row_snoc exprCells v5 ((((a0.Nodes.getD (v1).toNat default).Seq).getD (v6).toNat default).Pred) _ rfl))) ?_
  refine pn hG 1 [1, 3, 4, 5] [1, 47] [(4, .own 47)] [(47, .arr 40 4 ((v5 ++ ([(((a0.Nodes.getD (v1).toNat default).Seq).getD (v6).toNat default).Pred])).length) (eF exprCells (v5 ++ ([(((a0.Nodes.getD (v1).toNat default).Seq).getD (v6).toNat default).Pred]))))] ?_
  refine pe ?_
  refine blk_n ?_
  refine then_n ?_
  refine rn hG [1, 3, 4, 5] [1, 47] [(5, .t (.int .i64 (IntKind.i64.wrap (v6 + 1))))] [] ?_
  cases h
  exact round_in (Le.trans (ls ⟨[(1, .ptr 1 0), (3, .t (.int .i64 (v1))), (4, .own 47), (5, .t (.int .i64 (IntKind.i64.wrap (v6 + 1))))], [(1, .box ((cGProgram (a0)).map .t)), (47, .arr 40 4 ((v5 ++ ([(((a0.Nodes.getD (v1).toNat default).Seq).getD (v6).toNat default).Pred])).length) (eF exprCells (v5 ++ ([(((a0.Nodes.getD (v1).toNat default).Seq).getD (v6).toNat default).Pred]))))]⟩) (Le.trans (Le.rename (o := 47) (o' := 4) hG (by decide) rfl) lk))
  cases h
  exact pwp_exit (then_exit (round_out (by simp) (And.intro rfl lk)))
  intro e s hq
  obtain ⟨b7, b8⟩ := R14
  try dsimp only at h
  obtain ⟨rfl, hle⟩ := hq
  refine ⟨_, hle, blk_hit ?_⟩
  refine then_n ?_
  refine sn hG [1, 3, 4, 6] [1, 4] [(6, .t (.int .i64 (0)))] [] ?_
  obtain ⟨R25, hR26, h⟩ := bnd h
  refine lp (F7_L2 n a0 b7) (fun (s : (List Expr) × Int) => match s with | (v16, v17) => (⟨[(1, .ptr 1 0), (3, .t (.int .i64 (b7))), (4, .own 4), (6, .t (.int .i64 (v17)))], [(1, .box ((cGProgram (a0)).map .t)), (4, .arr 40 4 (v16.length) (eF exprCells v16))]⟩ : St)) (fun (r : (Int) ⊕ (Bool)) (e : Exit) (s : St) => match r with | .inl (x0) => e = .exit 4 ∧ Le E s ((fun (b18 : Int) => (⟨[(1, .ptr 1 0), (3, .t (.int .i64 (b18)))], [(1, .box ((cGProgram (a0)).map .t))]⟩ : St)) x0) | .inr (y0) => e = .ret ∧ finQ I7 Proofs.Try.f7.results.toList (Ret (.t (.bool (y0)))) .ret s) ?_ n ((b8, 0)) R25 hR26 ?_
  rintro ⟨v16, v17⟩ x h
  rw [F7_L2] at h
  refine pwp_seq ?_
  refine sn hG [1, 3, 4, 6, 51] [1, 4] [(51, .t (.bool (decide (v17 < ((v16.length : Int))))))] [] ?_
  refine iw h (fun h => ?_) (fun h => ?_)
  refine pwp_skip ?_
  refine then_n ?_
  refine pwp_seq ?_
  refine pwp_block ?_
  refine pwp_seq ?_
  obtain ⟨hc20, h⟩ := grd h
  obtain ⟨hc21, h⟩ := grd h
  obtain ⟨r22, hr23, h⟩ := bnd h
  refine ln hG [(6, 17, [.t (eL cGFunc (a0.Funcs)), .t (eExpr (v16.getD (v17).toNat default))], .tup [.t (eExpr r22.1), .t (.bool (r22.2))])] [] [(4, [0 ≤ v17 ∧ v17 < (v16.length : Int)]), (5, [(v17).toNat < v16.length])] [(7, true, [10, 11]), (1, false, []), (4, false, [])] [1, 3, 4, 6, 51] (.cons ⟨callable17, ⟨_, fun _ => (.cons (.same _) (.cons (.same _) .nil)), F17_ok n _ _ _ hr23⟩, rfl⟩ .nil) .nil (.cons hc20 (.cons hc21 .nil)) [1, 3, 4, 6, 8] [1, 4] [(8, .t (.bool (r22.2)))] [] ?_
  refine then_n ?_
  refine sn hG [1, 3, 4, 6, 65] [1, 4] [(65, .t (.bool (!r22.2)))] [] ?_
  refine iw h (fun h => ?_) (fun h => ?_)
  refine sn hG [2] [] [(2, .t (.bool (false)))] [] ?_
  cases h
  exact pwp_ret (blk_ret (then_ret (round_out (by simp) (And.intro rfl rt))))
  refine pwp_skip ?_
  refine blk_n ?_
  refine then_n ?_
  refine rn hG [1, 3, 4, 6] [1, 4] [(6, .t (.int .i64 (IntKind.i64.wrap (v17 + 1))))] [] ?_
  cases h
  exact round_in lk
  cases h
  exact pwp_exit (then_exit (round_out (by simp) (And.intro rfl lk)))
  intro e s hq
  rcases R25 with b18 | y27
  try dsimp only at h
  obtain ⟨rfl, hle⟩ := hq
  refine ⟨_, hle, blk_hit ?_⟩
  refine blk_n ?_
  refine then_n ?_
  refine rn hG [1, 3] [1] [(3, .t (.int .i64 (IntKind.i64.wrap (b18 + 1))))] [] ?_
  cases h
  exact round_in lk
  try dsimp only at h
  obtain ⟨rfl, hq⟩ := hq
  cases h
  exact ⟨_, Le.refl, blk_ret (blk_ret (then_ret (round_out (by simp) (And.intro rfl (hq)))))⟩
  cases h
  exact pwp_exit (then_exit (round_out (by simp) (And.intro rfl lk)))
  intro e s hq
  rcases R28 with _ | y30
  try dsimp only at h
  obtain ⟨rfl, hle⟩ := hq
  refine ⟨_, hle, blk_hit ?_⟩
  refine then_n ?_
  refine sn hG [2] [] [(2, .t (.bool (true)))] [] ?_
  cases h
  exact pwp_ret rt
  try dsimp only at h
  obtain ⟨rfl, hq⟩ := hq
  cases h
  exact ⟨_, Le.refl, blk_ret (then_ret (hq))⟩

def F3_L0 (n : Nat) (r1 : Bool) (r12 : (List GMatch)) : Int → Option ((Int) ⊕ ((Bool × (List GMatch)) ⊕ (Bool)))
  | v24 => if (decide (v24 < ((r12.length : Int)))) = true then (Option.bind (if 0 ≤ v24 ∧ v24 < (r12.length : Int) then (if (((r12.getD (v24).toNat default).Why) != 0) = true then (some (true)) else (if 0 ≤ v24 ∧ v24 < (r12.length : Int) then (if (decide (((r12.getD (v24).toNat default).Old) > v24)) = true then (some (true)) else (if 0 ≤ v24 ∧ v24 < (r12.length : Int) then (some (((r12.getD (v24).toNat default).New) != v24)) else none)) else none)) else none : Option (Bool)) fun j28 => if (j28) = true then (some (.inr (.inr (false)))) else (some (.inl (IntKind.i64.wrap (v24 + 1))))) else (some (.inr (.inl ((r1, r12)))))
def F3 (n : Nat) (a0 : GProgram) (a1 : Int) : Option (Bool) := (F5 n ).bind fun r1 => Option.bind ((F6 n a0 2).bind fun r6 => if (!r6) = true then (some (true)) else ((F7 n a0).bind fun r9 => some (!r9)) : Option (Bool)) fun j3 => if (j3) = true then (some (r1)) else ((F8 n a0 a0).bind fun r12 => Option.bind (if (((r12.length : Int)) != ((a0.Nodes.length : Int))) = true then (some (true)) else ((F9 n a0 r12).bind fun r18 => if (((r18.length : Int)) != 0) = true then (some (true)) else ((F10 n a0 a0 r12).bind fun r21 => some (r21 != 0))) : Option (Bool)) fun j14 => if (j14) = true then (some (false)) else (Option.bind (iterM (F3_L0 n r1 r12) n (0)) fun R37 => match R37 with | .inl ((b25, b26)) => (Option.bind (if (decide (a1 < 1)) = true then (some (true)) else (some (decide (a1 > ((a0.Nodes.length : Int))))) : Option (Bool)) fun j39 => if (j39) = true then (some (b25)) else (if 0 ≤ ((0 : Int)) ∧ ((0 : Int)) ≤ a1 ∧ a1 ≤ (a0.Nodes.length : Int) then ((F8 n ((GProgram.mk a0.Funcs ((a0.Nodes.drop ((0 : Int)).toNat).take (a1 - ((0 : Int))).toNat))) a0).bind fun r45 => (F8 n a0 ((GProgram.mk a0.Funcs ((a0.Nodes.drop ((0 : Int)).toNat).take (a1 - ((0 : Int))).toNat)))).bind fun r47 => Option.bind (if (((r45.length : Int)) != ((a0.Nodes.length : Int))) = true then (some (true)) else (some (((r47.length : Int)) != a1)) : Option (Bool)) fun j49 => if (j49) = true then (some (false)) else (Option.bind (if (b25) = true then (if 0 ≤ ((0 : Int)) ∧ ((0 : Int)) ≤ a1 ∧ a1 ≤ (r45.length : Int) then (if 0 ≤ ((0 : Int)) ∧ ((0 : Int)) ≤ a1 ∧ a1 ≤ (b26.length : Int) then ((F11 n ((r45.drop ((0 : Int)).toNat).take (a1 - ((0 : Int))).toNat) ((b26.drop ((0 : Int)).toNat).take (a1 - ((0 : Int))).toNat)).bind fun r60 => if (r60) = true then (if 0 ≤ ((0 : Int)) ∧ ((0 : Int)) ≤ a1 ∧ a1 ≤ (b26.length : Int) then ((F11 n r47 ((b26.drop ((0 : Int)).toNat).take (a1 - ((0 : Int))).toNat)).bind fun r64 => some (r64)) else none) else (some (false))) else none) else none) else (some (false)) : Option (Bool)) fun j54 => some (j54))) else none)) | .inr (y66) => (some (y66))))
abbrev I3 : Inf := ⟨look tiL, [], 126⟩
set_option maxRecDepth 20000 in
theorem F3_ok (n : Nat) (a0 : GProgram) (a1 : Int) (y : Bool) (h : F3 n a0 a1 = some y) : PCall Proofs.Try.prog 3 [.t (eGProgram a0), .t (.int .i64 (a1))] [] [] (Ret (.t (.bool (y)))) := by
  refine pcall_of (I := I3) Proofs.Try.func3 rfl ti_ok Proofs.Try.ntmps3 (le_n (by kernel_rfl)) (fun E hG => ?_)
  unfold F3 at h
  refine sn hG [1, 2] [2] [(2, .ptr 2 0)] [(2, .box ((cGProgram (a0)).map .t))] ?_
  refine pwp_seq ?_
  refine pwp_region ?_
  obtain ⟨r1, hr2, h⟩ := bnd h
  refine ca hG [] rfl rfl rfl rfl callable5 .nil (F5_ok n _ hr2) ?_
  refine pn hG 1 [1, 2, 5] [2] [(5, .t (.bool (r1)))] [] ?_
  refine pe ?_
  refine then_n ?_
  refine pwp_seq ?_
  refine pwp_seq ?_
  obtain ⟨j3, hj5, h⟩ := bnd h
  refine jn [1, 2, 5, 19] [2] [(19, .t (.bool (j3)))] [] ?_ ?_
  replace h := hj5; clear hj5
  refine pwp_region ?_
  refine pn hG 1 [1, 2, 5, 12] [2] [(12, .t (eGProgram a0))] [] ?_
  obtain ⟨r6, hr7, h⟩ := bnd h
  refine ca hG [] rfl rfl rfl rfl callable6 (.cons (.same _) (.cons (.same _) .nil)) (F6_ok n _ _ _ hr7) ?_
  refine pn hG 2 [1, 2, 5, 15] [2] [(15, .t (.bool (!r6)))] [] ?_
  refine io 15 h (fun h => ?_) (fun h => ?_)
  refine pn hG 4 [1, 2, 5, 19] [2] [(19, .t (.bool (true)))] [] ?_
  cases h
  refine pe ?_
  exact fl
  refine pn hG 1 [1, 2, 5, 15, 16] [2] [(16, .t (eGProgram a0))] [] ?_
  obtain ⟨r9, hr10, h⟩ := bnd h
  refine ca hG [] rfl rfl rfl rfl callable7 (.cons (.same _) .nil) (F7_ok n _ _ hr10) ?_
  refine pn hG 2 [1, 2, 5, 19] [2] [(19, .t (.bool (!r9)))] [] ?_
  cases h
  refine pe ?_
  exact fl
  refine then_n ?_
  refine iw h (fun h => ?_) (fun h => ?_)
  refine sn hG [4] [] [(4, .t (.bool (r1)))] [] ?_
  cases h
  exact pwp_ret (then_ret rt)
  refine pwp_skip ?_
  refine then_n ?_
  refine pwp_seq ?_
  refine pwp_region ?_
  refine pn hG 2 [1, 2, 5, 21, 22] [2] [(21, .t (eGProgram a0)), (22, .t (eGProgram a0))] [] ?_
  obtain ⟨r12, hr13, h⟩ := bnd h
  refine ca hG [] rfl rfl rfl rfl callable8 (.cons (.same _) (.cons (.same _) .nil)) (F8_ok n _ _ _ hr13) ?_
  refine pn hG 1 [1, 2, 5, 6] [2] [(6, .t (eL cGMatch (r12)))] [] ?_
  refine pe ?_
  refine then_n ?_
  refine pwp_seq ?_
  refine pwp_seq ?_
  obtain ⟨j14, hj16, h⟩ := bnd h
  refine jn [1, 2, 5, 6, 43] [2] [(43, .t (.bool (j14)))] [] ?_ ?_
  replace h := hj16; clear hj16
  refine pwp_region ?_
  refine pn hG 7 [1, 2, 5, 6, 30] [2] [(30, .t (.bool (((r12.length : Int)) != ((a0.Nodes.length : Int)))))] [] ?_
  refine io 30 h (fun h => ?_) (fun h => ?_)
  refine pn hG 13 [1, 2, 5, 6, 43] [2] [(43, .t (.bool (true)))] [] ?_
  cases h
  refine pe ?_
  exact fl
  refine pn hG 2 [1, 2, 5, 6, 30, 31, 32] [2] [(31, .t (eGProgram a0)), (32, .t (eL cGMatch (r12)))] [] ?_
  obtain ⟨r18, hr19, h⟩ := bnd h
  refine ca hG [] rfl rfl rfl rfl callable9 (.cons (.same _) (.cons (.same _) .nil)) (F9_ok n _ _ _ hr19) ?_
  refine pn hG 4 [1, 2, 5, 6, 37] [2] [(37, .t (.bool (((r18.length : Int)) != 0)))] [] ?_
  refine io 37 h (fun h => ?_) (fun h => ?_)
  refine pn hG 6 [1, 2, 5, 6, 43] [2] [(43, .t (.bool (true)))] [] ?_
  cases h
  refine pe ?_
  exact fl
  refine pn hG 3 [1, 2, 5, 6, 37, 38, 39, 40] [2] [(38, .t (eGProgram a0)), (39, .t (eGProgram a0)), (40, .t (eL cGMatch (r12)))] [] ?_
  obtain ⟨r21, hr22, h⟩ := bnd h
  refine ca hG [] rfl rfl rfl rfl callable10 (.cons (.same _) (.cons (.same _) (.cons (.same _) .nil))) (F10_ok n _ _ _ _ hr22) ?_
  refine pn hG 2 [1, 2, 5, 6, 43] [2] [(43, .t (.bool (r21 != 0)))] [] ?_
  cases h
  refine pe ?_
  exact fl
  refine then_n ?_
  refine iw h (fun h => ?_) (fun h => ?_)
  refine sn hG [4] [] [(4, .t (.bool (false)))] [] ?_
  cases h
  exact pwp_ret (then_ret rt)
  refine pwp_skip ?_
  refine then_n ?_
  refine pwp_seq ?_
  refine sn hG [1, 2, 5, 6, 7] [2] [(7, .t (.int .i64 (0)))] [] ?_
  obtain ⟨R37, hR38, h⟩ := bnd h
  refine lp (F3_L0 n r1 r12) (fun (v24 : Int) => (⟨[(1, .t (.int .i64 (a1))), (2, .ptr 2 0), (5, .t (.bool (r1))), (6, .t (eL cGMatch (r12))), (7, .t (.int .i64 (v24)))], [(2, .box ((cGProgram (a0)).map .t))]⟩ : St)) (fun (r : (Bool × (List GMatch)) ⊕ (Bool)) (e : Exit) (s : St) => match r with | .inl (x0) => e = .exit 0 ∧ Le E s ((fun (s : Bool × (List GMatch)) => match s with | (b25, b26) => (⟨[(1, .t (.int .i64 (a1))), (2, .ptr 2 0), (5, .t (.bool (b25))), (6, .t (eL cGMatch (b26)))], [(2, .box ((cGProgram (a0)).map .t))]⟩ : St)) x0) | .inr (y0) => e = .ret ∧ finQ I3 Proofs.Try.f3.results.toList (Ret (.t (.bool (y0)))) .ret s) ?_ n (0) R37 hR38 ?_
  intro v24 x h
  rw [F3_L0] at h
  refine pwp_seq ?_
  refine sn hG [1, 2, 5, 6, 7, 47] [2] [(47, .t (.bool (decide (v24 < ((r12.length : Int))))))] [] ?_
  refine iw h (fun h => ?_) (fun h => ?_)
  refine pwp_skip ?_
  refine then_n ?_
  refine pwp_seq ?_
  refine pwp_block ?_
  refine pwp_seq ?_
  obtain ⟨j28, hj30, h⟩ := bnd h
  refine jn [1, 2, 5, 6, 7, 73] [2] [(73, .t (.bool (j28)))] [] ?_ ?_
  replace h := hj30; clear hj30
  refine pwp_region ?_
  obtain ⟨hc31, h⟩ := grd h
  refine pc hG 7 [1, 2, 5, 6, 7, 56] [2] [(56, .t (.bool (((r12.getD (v24).toNat default).Why) != 0)))] [] hc31 ?_
  refine io 56 h (fun h => ?_) (fun h => ?_)
  refine pn hG 17 [1, 2, 5, 6, 7, 73] [2] [(73, .t (.bool (true)))] [] ?_
  cases h
  refine pe ?_
  exact fl
  obtain ⟨hc33, h⟩ := grd h
  refine pc hG 9 [1, 2, 5, 6, 7, 65] [2] [(65, .t (.bool (decide (((r12.getD (v24).toNat default).Old) > v24))))] [] hc33 ?_
  refine io 65 h (fun h => ?_) (fun h => ?_)
  refine pn hG 8 [1, 2, 5, 6, 7, 73] [2] [(73, .t (.bool (true)))] [] ?_
  cases h
  refine pe ?_
  exact fl
  obtain ⟨hc35, h⟩ := grd h
  refine pc hG 8 [1, 2, 5, 6, 7, 73] [2] [(73, .t (.bool (((r12.getD (v24).toNat default).New) != v24)))] [] hc35 ?_
  cases h
  refine pe ?_
  exact fl
  refine then_n ?_
  refine iw h (fun h => ?_) (fun h => ?_)
  refine sn hG [4] [] [(4, .t (.bool (false)))] [] ?_
  cases h
  exact pwp_ret (blk_ret (then_ret (round_out (by simp) (And.intro rfl rt))))
  refine pwp_skip ?_
  refine blk_n ?_
  refine then_n ?_
  refine rn hG [1, 2, 5, 6, 7] [2] [(7, .t (.int .i64 (IntKind.i64.wrap (v24 + 1))))] [] ?_
  cases h
  exact round_in lk
  cases h
  exact pwp_exit (then_exit (round_out (by simp) (And.intro rfl lk)))
  intro e s hq
  rcases R37 with ⟨b25, b26⟩ | y66
  try dsimp only at h
  obtain ⟨rfl, hle⟩ := hq
  refine ⟨_, hle, blk_hit ?_⟩
  refine then_n ?_
  refine pwp_seq ?_
  refine pwp_seq ?_
  obtain ⟨j39, hj41, h⟩ := bnd h
  refine jn [1, 2, 5, 6, 82] [2] [(82, .t (.bool (j39)))] [] ?_ ?_
  replace h := hj41; clear hj41
  refine pwp_region ?_
  refine pn hG 3 [1, 2, 5, 6, 76] [2] [(76, .t (.bool (decide (a1 < 1))))] [] ?_
  refine io 76 h (fun h => ?_) (fun h => ?_)
  refine pn hG 6 [1, 2, 5, 6, 82] [2] [(82, .t (.bool (true)))] [] ?_
  cases h
  refine pe ?_
  exact fl
  refine pn hG 6 [1, 2, 5, 6, 82] [2] [(82, .t (.bool (decide (a1 > ((a0.Nodes.length : Int))))))] [] ?_
  cases h
  refine pe ?_
  exact fl
  refine then_n ?_
  refine iw h (fun h => ?_) (fun h => ?_)
  refine sn hG [4] [] [(4, .t (.bool (b25)))] [] ?_
  cases h
  exact pwp_ret (then_ret rt)
  refine pwp_skip ?_
  refine then_n ?_
  refine pwp_seq ?_
  obtain ⟨hc44, h⟩ := grd h
  refine ln hG [] [] [(5, [0 ≤ ((0 : Int)) ∧ ((0 : Int)) ≤ a1 ∧ a1 ≤ (a0.Nodes.length : Int)])] [(8, true, [7, 8]), (2, false, [])] [1, 2, 5, 6, 82] .nil .nil (.cons hc44 .nil) [1, 2, 5, 6, 8] [2, 8] [(8, .ptr 8 0)] [(8, .box [.t (eL cGFunc (a0.Funcs)), .t (.sl (a1 - ((0 : Int))).toNat (fun k => eF cGNode a0.Nodes (((0 : Int)).toNat + k)))])] ?_
  refine then_n ?_
  refine pwp_seq ?_
  refine pwp_region ?_
  refine os ⟨[(1, .t (.int .i64 (a1))), (2, .ptr 2 0), (5, .t (.bool (b25))), (6, .t (eL cGMatch (b26))), (8, .ptr 8 0)], [(2, .box ((cGProgram (a0)).map .t)), (8, .box [.t (eL cGFunc (a0.Funcs)), .t (.sl (a1 - ((0 : Int))).toNat (fun k => eF cGNode a0.Nodes (((0 : Int)).toNat + k)))])]⟩ ?_
  refine pops_weak (Le.obj (o := 8) (.box ([(eL cGFunc (a0.Funcs)), (eL cGNode ((a0.Nodes.drop ((0 : Int)).toNat).take (a1 - ((0 : Int))).toNat))].map .t)) rfl (fun _ _ _ => le_box (.same (.imp (le_slice (by assumption) rfl) (.nil))))) ?_
  refine pn hG 2 [1, 2, 5, 6, 8, 91, 92] [2, 8] [(91, .t (eGProgram ((GProgram.mk a0.Funcs ((a0.Nodes.drop ((0 : Int)).toNat).take (a1 - ((0 : Int))).toNat))))), (92, .t (eGProgram a0))] [(8, .box [.t (eL cGFunc (a0.Funcs)), .t (eL cGNode ((a0.Nodes.drop ((0 : Int)).toNat).take (a1 - ((0 : Int))).toNat))])] ?_
  obtain ⟨r45, hr46, h⟩ := bnd h
  refine ca hG [] rfl rfl rfl rfl callable8 (.cons (.same _) (.cons (.same _) .nil)) (F8_ok n _ _ _ hr46) ?_
  refine pn hG 1 [1, 2, 5, 6, 8, 9] [2, 8] [(9, .t (eL cGMatch (r45)))] [] ?_
  refine pe ?_
  refine then_n ?_
  refine pwp_seq ?_
  refine pwp_region ?_
  refine pn hG 2 [1, 2, 5, 6, 9, 94, 95] [2] [(94, .t (eGProgram a0)), (95, .t (eGProgram ((GProgram.mk a0.Funcs ((a0.Nodes.drop ((0 : Int)).toNat).take (a1 - ((0 : Int))).toNat)))))] [] ?_
  obtain ⟨r47, hr48, h⟩ := bnd h
  refine ca hG [] rfl rfl rfl rfl callable8 (.cons (.same _) (.cons (.same _) .nil)) (F8_ok n _ _ _ hr48) ?_
  refine pn hG 1 [1, 2, 5, 6, 9, 10] [2] [(10, .t (eL cGMatch (r47)))] [] ?_
  refine pe ?_
  refine then_n ?_
  refine pwp_seq ?_
  refine pwp_seq ?_
  obtain ⟨j49, hj51, h⟩ := bnd h
  refine jn [1, 5, 6, 9, 10, 108] [] [(108, .t (.bool (j49)))] [] ?_ ?_
  replace h := hj51; clear hj51
  refine pwp_region ?_
  refine pn hG 7 [1, 5, 6, 9, 10, 103] [] [(103, .t (.bool (((r45.length : Int)) != ((a0.Nodes.length : Int)))))] [] ?_
  refine io 103 h (fun h => ?_) (fun h => ?_)
  refine pn hG 5 [1, 5, 6, 9, 10, 108] [] [(108, .t (.bool (true)))] [] ?_
  cases h
  refine pe ?_
  exact fl
  refine pn hG 5 [1, 5, 6, 9, 10, 108] [] [(108, .t (.bool (((r47.length : Int)) != a1)))] [] ?_
  cases h
  refine pe ?_
  exact fl
  refine then_n ?_
  refine iw h (fun h => ?_) (fun h => ?_)
  refine sn hG [4] [] [(4, .t (.bool (false)))] [] ?_
  cases h
  exact pwp_ret (then_ret rt)
  refine pwp_skip ?_
  refine then_n ?_
  refine pwp_seq ?_
  obtain ⟨j54, hj56, h⟩ := bnd h
  refine jn [4] [] [(4, .t (.bool (j54)))] [] ?_ ?_
  replace h := hj56; clear hj56
  refine (Bool.eq_false_or_eq_true (b25)).elim (fun hb57 => ?_) (fun hb57 => ?_)
  have h := ite_t hb57 h
  obtain ⟨hc58, h⟩ := grd h
  obtain ⟨hc59, h⟩ := grd h
  obtain ⟨r60, hr61, h⟩ := bnd h
  refine (Bool.eq_false_or_eq_true (r60)).elim (fun hb62 => ?_) (fun hb62 => ?_)
  have h := ite_t hb62 h
  obtain ⟨hc63, h⟩ := grd h
  obtain ⟨r64, hr65, h⟩ := bnd h
  refine ln hG [(8, 11, [.t (.sl (a1 - ((0 : Int))).toNat (fun k => eF cGMatch r45 (((0 : Int)).toNat + k))), .t (.sl (a1 - ((0 : Int))).toNat (fun k => eF cGMatch b26 (((0 : Int)).toNat + k)))], .t (.bool (r60))), (15, 11, [.t (eL cGMatch (r47)), .t (.sl (a1 - ((0 : Int))).toNat (fun k => eF cGMatch b26 (((0 : Int)).toNat + k)))], .t (.bool (r64)))] [(1, (b25, true)), (10, (r60, true))] [(4, [0 ≤ ((0 : Int)) ∧ ((0 : Int)) ≤ a1 ∧ a1 ≤ (r45.length : Int)]), (7, [0 ≤ ((0 : Int)) ∧ ((0 : Int)) ≤ a1 ∧ a1 ≤ (b26.length : Int)]), (14, [0 ≤ ((0 : Int)) ∧ ((0 : Int)) ≤ a1 ∧ a1 ≤ (b26.length : Int)])] [] [1, 5, 6, 9, 10, 108] (.cons ⟨callable11, ⟨_, fun _ => (.cons (.imp (le_slice (by assumption) rfl)) (.cons (.imp (le_slice (by assumption) rfl)) .nil)), F11_ok n _ _ _ hr61⟩, rfl⟩ (.cons ⟨callable11, ⟨_, fun _ => (.cons (.same _) (.cons (.imp (le_slice (by assumption) rfl)) .nil)), F11_ok n _ _ _ hr65⟩, rfl⟩ .nil)) (.cons hb57 (.cons hb62 .nil)) (.cons hc58 (.cons hc59 (.cons hc63 .nil))) [4] [] [(4, .t (.bool (r64)))] [] ?_
  cases h
  exact fl
  have h := ite_f hb62 h
  refine ln hG [(8, 11, [.t (.sl (a1 - ((0 : Int))).toNat (fun k => eF cGMatch r45 (((0 : Int)).toNat + k))), .t (.sl (a1 - ((0 : Int))).toNat (fun k => eF cGMatch b26 (((0 : Int)).toNat + k)))], .t (.bool (r60)))] [(1, (b25, true)), (10, (r60, false))] [(4, [0 ≤ ((0 : Int)) ∧ ((0 : Int)) ≤ a1 ∧ a1 ≤ (r45.length : Int)]), (7, [0 ≤ ((0 : Int)) ∧ ((0 : Int)) ≤ a1 ∧ a1 ≤ (b26.length : Int)])] [] [1, 5, 6, 9, 10, 108] (.cons ⟨callable11, ⟨_, fun _ => (.cons (.imp (le_slice (by assumption) rfl)) (.cons (.imp (le_slice (by assumption) rfl)) .nil)), F11_ok n _ _ _ hr61⟩, rfl⟩ .nil) (.cons hb57 (.cons hb62 .nil)) (.cons hc58 (.cons hc59 .nil)) [4] [] [(4, .t (.bool (false)))] [] ?_
  cases h
  exact fl
  have h := ite_f hb57 h
  refine ln hG [] [(1, (b25, false))] [] [] [1, 5, 6, 9, 10, 108] .nil (.cons hb57 .nil) .nil [4] [] [(4, .t (.bool (false)))] [] ?_
  cases h
  exact fl
  refine then_n ?_
  cases h
  exact pwp_ret rt
  try dsimp only at h
  obtain ⟨rfl, hq⟩ := hq
  cases h
  exact ⟨_, Le.refl, blk_ret (then_ret (hq))⟩

end Go.PL
