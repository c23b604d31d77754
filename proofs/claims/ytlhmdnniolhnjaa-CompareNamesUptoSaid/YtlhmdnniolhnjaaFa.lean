/-
  Functions of the seat, as data functions, and the proofs that the program computes them. Printed by a program of our own.
-/
import Derived.Test.YtlhmdnniolhnjaaTy
namespace Go.PL
open Go
set_option linter.unusedVariables false

def F33_L0 (n : Nat) (a0 : List Int) (a1 : List Int) : Int → Option ((Int) ⊕ ((Unit) ⊕ (Bool)))
  | v2 => if (decide (v2 < ((a0.length : Int)))) = true then (if 0 ≤ v2 ∧ v2 < (a0.length : Int) then (if 0 ≤ v2 ∧ v2 < (a1.length : Int) then (if ((a0.getD (v2).toNat default) != (a1.getD (v2).toNat default)) = true then (some (.inr (.inr (false)))) else (some (.inl (IntKind.i64.wrap (v2 + 1))))) else none) else none) else (some (.inr (.inl (()))))
def F33 (n : Nat) (a0 : List Int) (a1 : List Int) : Option (Bool) := if (((a0.length : Int)) != ((a1.length : Int))) = true then (some (false)) else (Option.bind (iterM (F33_L0 n a0 a1) n (0)) fun R7 => match R7 with | .inl (_) => (some (true)) | .inr (y9) => (some (y9)))
abbrev I33 : Inf := ⟨look tiL, [], 26⟩
set_option maxRecDepth 20000 in
theorem F33_ok (n : Nat) (a0 : List Int) (a1 : List Int) (y : Bool) (h : F33 n a0 a1 = some y) : PCall Proofs.Try.prog 33 [.t (eL cInt (a0)), .t (eL cInt (a1))] [] [] (Ret (.t (.bool (y)))) := by
  refine pcall_of (I := I33) Proofs.Try.func33 rfl ti_ok Proofs.Try.ntmps33 (le_n (by kernel_rfl)) (fun E hG => ?_)
  unfold F33 at h
  refine sn hG [0, 1] [] [] [] (pwp_seq (sn hG [0, 1, 10] [] [(10, bV (((a0.length : Int)) != ((a1.length : Int))))] [] (iw h (fun h => ?_) (fun h => ?_))))
  refine sn hG [4] [] [(4, bV false)] [] ?_
  cases h
  exact pwp_ret (then_ret rt)
  refine pwp_skip (then_n (pwp_seq (sn hG [0, 1, 12, 13] [] [(12, iV ((a0.length : Int))), (13, iV 0)] [] ?_)))
  obtain ⟨R7, hR8, h⟩ := bnd h
  refine lp (F33_L0 n a0 a1) (fun (v2 : Int) => (⟨[(0, .t (eL cInt (a0))), (1, .t (eL cInt (a1))), (12, iV ((a0.length : Int))), (13, iV v2)], []⟩ : St)) (fun (r : (Unit) ⊕ (Bool)) (e : Exit) (s : St) => match r with | .inl (x0) => e = .exit 0 ∧ Le E s ((fun (_ : Unit) => (⟨[], []⟩ : St)) x0) | .inr (y0) => e = .ret ∧ finQ I33 Proofs.Try.f33.results.toList (Ret (bV y0)) .ret s) ?_ n (0) R7 hR8 ?_
  intro v2 x h
  rw [F33_L0] at h
  refine sn hG [0, 1, 12, 13, 14] [] [(14, bV (decide (v2 < ((a0.length : Int)))))] [] (pwp_seq (iw h (fun h => ?_) (fun h => ?_)))
  refine pwp_skip (then_n (pwp_seq (pwp_block (sn hG [0, 1, 5, 12, 13] [] [(5, iV v2)] [] (pwp_seq ?_)))))
  obtain ⟨hc4, h⟩ := grd h
  obtain ⟨hc5, h⟩ := grd h
  refine ln hG [] [] [(2, [0 ≤ v2 ∧ v2 < (a0.length : Int)]), (6, [0 ≤ v2 ∧ v2 < (a1.length : Int)])] [] [0, 1, 5, 12, 13] .nil .nil (.cons hc4 (.cons hc5 .nil)) [0, 1, 12, 13, 24] [] [(24, bV ((a0.getD (v2).toNat default) != (a1.getD (v2).toNat default)))] [] (then_n (iw h (fun h => ?_) (fun h => ?_)))
  refine sn hG [4] [] [(4, bV false)] [] ?_
  cases h
  exact pwp_ret (blk_ret (then_ret (round_out (by simp) (And.intro rfl rt))))
  refine pwp_skip (blk_n (then_n (rn hG [0, 1, 12, 13] [] [(13, iV (IntKind.i64.wrap (v2 + 1)))] [] ?_)))
  cases h
  exact round_in lk
  cases h
  exact pwp_exit (then_exit (round_out (by simp) (And.intro rfl lk)))
  intro e s hq
  rcases R7 with _ | y9
  try dsimp only at h
  obtain ⟨rfl, hle⟩ := hq
  refine ⟨_, hle, blk_hit ?_⟩
  refine then_n (sn hG [4] [] [(4, bV true)] [] ?_)
  cases h
  exact pwp_ret rt
  try dsimp only at h
  obtain ⟨rfl, hq⟩ := hq
  cases h
  exact ⟨_, Le.refl, blk_ret (then_ret (hq))⟩

def F43 (n : Nat) (a0 : GNode) : Option (A8_Int) := some ((A8_Int.mk a0.Op a0.Schema a0.Kind a0.Size a0.Step a0.Before a0.After a0.Keep))
abbrev I43 : Inf := ⟨look tiL, [], 20⟩
set_option maxRecDepth 20000 in
theorem F43_ok (n : Nat) (a0 : GNode) (y : A8_Int) (h : F43 n a0 = some y) : PCall Proofs.Try.prog 43 [.t (eGNode a0)] [] [] (Ret (.t (eA8_Int y))) := by
  refine pcall_of (I := I43) Proofs.Try.func43 rfl ti_ok Proofs.Try.ntmps43 (le_n (by kernel_rfl)) (fun E hG => ?_)
  unfold F43 at h
  refine sn hG [1, 2] [1, 2] [(1, .ptr 1 0), (2, .ptr 2 0)] [(1, .box ((cGNode (a0)).map .t)), (2, .box [iV 0, iV 0, iV 0, iV 0, iV 0, iV 0, iV 0, iV 0])] (pwp_seq (pwp_region (pn hG 18 [2] [2] [] [(2, .box [iV a0.Op, iV a0.Schema, iV a0.Kind, iV a0.Size, iV a0.Step, iV a0.Before, iV a0.After, iV a0.Keep])] (pe (then_n ?_)))))
  cases h
  exact pwp_ret rt

def F86_L0 (n : Nat) (rec : Expr → Option (Int)) (a0 : Expr) : (Int × Int) → Option ((Int × Int) ⊕ (Int))
  | (v1, v2) => if (decide (v2 < ((a0.Args.length : Int)))) = true then (if 0 ≤ v2 ∧ v2 < (a0.Args.length : Int) then ((rec (a0.Args.getD (v2).toNat default)).bind fun r6 => some (.inl ((if r6 > v1 then r6 else v1, IntKind.i64.wrap (v2 + 1))))) else none) else (some (.inr (v1)))
def F86 : Nat → Expr → Option (Int)
  | 0, _ => none
  | n + 1, a0 => Option.bind (iterM (F86_L0 n (F86 n) a0) n ((0, 0))) fun b3 => some (IntKind.i64.wrap (b3 + 1))
abbrev I86 : Inf := ⟨look tiL, [], 20⟩
set_option maxRecDepth 20000 in
theorem F86_ok (n : Nat) : ∀ (a0 : Expr) (y : Int) (_ : F86 n a0 = some y), PCall Proofs.Try.prog 86 [.t (eExpr a0)] [] [] (Ret (.t (.int .i64 (y)))) := by
  induction n with
  | zero => intro a0 y h; cases h
  | succ n ih =>
  intro a0 y h
  refine pcall_of (I := I86) Proofs.Try.func86 rfl ti_ok Proofs.Try.ntmps86 (le_n (by kernel_rfl)) (fun E hG => ?_)
  rw [F86] at h
  refine sn hG [1] [1] [(1, .ptr 1 0)] [(1, .box ((exprCells (a0)).map .t))] (sn hG [1, 3] [1] [(3, iV 0)] [] (pwp_seq (sn hG [3, 7, 8, 9] [] [(7, .t (.lz (.exprs (a0.Args)))), (8, iV ((a0.Args.length : Int))), (9, iV 0)] [] ?_)))
  obtain ⟨b3, hR9, h⟩ := bnd h
  refine lp (F86_L0 n (F86 n) a0) (fun (s : Int × Int) => match s with | (v1, v2) => (⟨[(3, iV v1), (7, .t (.lz (.exprs (a0.Args)))), (8, iV ((a0.Args.length : Int))), (9, iV v2)], []⟩ : St)) (fun (x0 : Int) (e : Exit) (s : St) => e = .exit 0 ∧ Le E s ((fun (b3 : Int) => (⟨[(3, iV b3)], []⟩ : St)) x0)) ?_ n ((0, 0)) b3 hR9 ?_
  rintro ⟨v1, v2⟩ x h
  rw [F86_L0] at h
  refine sn hG [3, 7, 8, 9, 10] [] [(10, bV (decide (v2 < ((a0.Args.length : Int)))))] [] (pwp_seq (iw h (fun h => ?_) (fun h => ?_)))
  refine pwp_skip (then_n (pwp_seq (pwp_block (pwp_seq (pwp_region ?_)))))
  obtain ⟨hc5, h⟩ := grd h
  refine pc hG 4 [3, 5, 7, 8, 9] [5] [(5, .ptr 5 0)] [(5, .box ((exprCells (a0.Args.getD (v2).toNat default)).map .t))] hc5 (pe (then_n (pwp_region (pn hG 2 [7, 8, 9, 13, 14] [] [(13, iV v1), (14, .t (eExpr (a0.Args.getD (v2).toNat default)))] [] ?_))))
  obtain ⟨r6, hr7, h⟩ := bnd h
  refine ca hG [] rfl rfl rfl rfl callable86 (.cons (.same _) .nil) (ih _ _ hr7) (pn hG 2 [3, 7, 8, 9] [] [(3, iV (if r6 > v1 then r6 else v1))] [] (pe (blk_n (then_n (rn hG [3, 7, 8, 9] [] [(9, iV (IntKind.i64.wrap (v2 + 1)))] [] ?_)))))
  cases h
  exact round_in lk
  cases h
  exact pwp_exit (then_exit (round_out (by simp) (And.intro rfl lk)))
  intro e s hq
  try dsimp only at h
  obtain ⟨rfl, hle⟩ := hq
  refine ⟨_, hle, blk_hit ?_⟩
  refine then_n (sn hG [2] [] [(2, iV (IntKind.i64.wrap (b3 + 1)))] [] ?_)
  cases h
  exact pwp_ret rt

def F98_L0 (n : Nat) (rec : Expr → Option (Expr)) (a0 : Expr) : ((List Expr) × Int) → Option (((List Expr) × Int) ⊕ ((List Expr)))
  | (v1, v2) => if (decide (v2 < ((a0.Args.length : Int)))) = true then (if 0 ≤ v2 ∧ v2 < (a0.Args.length : Int) then ((rec (a0.Args.getD (v2).toNat default)).bind fun r6 => if (v1.length + 1) * 56 ≤ 140737488355328 then (some (.inl ((v1 ++ ([r6]), IntKind.i64.wrap (v2 + 1))))) else none) else none) else (some (.inr (v1)))
def F98 : Nat → Expr → Option (Expr)
  | 0, _ => none
  | n + 1, a0 => Option.bind (iterM (F98_L0 n (F98 n) a0) n ((([] : List Expr), 0))) fun b3 => some ((Expr.mk a0.Op a0.N a0.S b3))
abbrev I98 : Inf := ⟨look tiL, [], 29⟩
set_option maxRecDepth 20000 in
theorem F98_ok (n : Nat) : ∀ (a0 : Expr) (y : Expr) (_ : F98 n a0 = some y), PCall Proofs.Try.prog 98 [.t (eExpr a0)] [] [] (Ret (.t (eExpr y))) := by
  induction n with
  | zero => intro a0 y h; cases h
  | succ n ih =>
  intro a0 y h
  refine pcall_of (I := I98) Proofs.Try.func98 rfl ti_ok Proofs.Try.ntmps98 (le_n (by kernel_rfl)) (fun E hG => ?_)
  rw [F98] at h
  refine sn hG [1, 2] [1, 2] [(1, .ptr 1 0), (2, .ptr 2 0)] [(1, .box ((exprCells (a0)).map .t)), (2, .box [iV 0, iV 0, .t (.str (⟨#[]⟩)), .nil])] (pwp_seq (pwp_region (pn hG 9 [1, 2, 3] [1, 2, 3] [(3, .ptr 3 0)] [(3, .box [iV a0.Op, iV a0.N, .t (.str (a0.S)), .nil])] (pe (then_n (pwp_seq (sn hG [2, 3, 14, 15, 16] [2, 3] [(14, .t (.lz (.exprs (a0.Args)))), (15, iV ((a0.Args.length : Int))), (16, iV 0)] [] (ws ⟨[(2, .ptr 2 0), (3, .ptr 3 0), (14, .t (.lz (.exprs (a0.Args)))), (15, iV ((a0.Args.length : Int))), (16, iV 0)], [(2, .box [iV 0, iV 0, .t (.str (⟨#[]⟩)), .nil]), (3, .box [iV a0.Op, iV a0.N, .t (.str (a0.S)), .nil])]⟩ ?_))))))))
  refine pwp_weak (Le.thawC (b := 3) (j := 3) (o := 10303) (e := 40) (s := 4) (f := eF exprCells ([] : List Expr)) hG rfl) ?_
  obtain ⟨b3, hR10, h⟩ := bnd h
  refine lp (F98_L0 n (F98 n) a0) (fun (s : (List Expr) × Int) => match s with | (v1, v2) => (⟨[(2, .ptr 2 0), (3, .ptr 3 0), (14, .t (.lz (.exprs (a0.Args)))), (15, iV ((a0.Args.length : Int))), (16, iV v2)], [(2, .box [iV 0, iV 0, .t (.str (⟨#[]⟩)), .nil]), (3, .box [iV a0.Op, iV a0.N, .t (.str (a0.S)), .own 10303]), (10303, .arr 40 4 (v1.length) (eF exprCells v1))]⟩ : St)) (fun (x0 : (List Expr)) (e : Exit) (s : St) => e = .exit 0 ∧ Le E s ((fun (b3 : (List Expr)) => (⟨[(2, .ptr 2 0), (3, .ptr 3 0)], [(2, .box [iV 0, iV 0, .t (.str (⟨#[]⟩)), .nil]), (3, .box [iV a0.Op, iV a0.N, .t (.str (a0.S)), .own 10303]), (10303, .arr 40 4 (b3.length) (eF exprCells b3))]⟩ : St)) x0)) ?_ n ((([] : List Expr), 0)) b3 hR10 ?_
  rintro ⟨v1, v2⟩ x h
  rw [F98_L0] at h
  refine sn hG [2, 3, 14, 15, 16, 17] [2, 3, 10303] [(17, bV (decide (v2 < ((a0.Args.length : Int)))))] [] (pwp_seq (iw h (fun h => ?_) (fun h => ?_)))
  refine pwp_skip (then_n (pwp_seq (pwp_block (pwp_seq (pwp_region ?_)))))
  obtain ⟨hc5, h⟩ := grd h
  refine pc hG 4 [2, 3, 5, 14, 15, 16] [2, 3, 5, 10303] [(5, .ptr 5 0)] [(5, .box ((exprCells (a0.Args.getD (v2).toNat default)).map .t))] hc5 (pe (then_n ?_))
  obtain ⟨r6, hr7, h⟩ := bnd h
  obtain ⟨hc8, h⟩ := grd h
  refine pwp_draw hG (by kernel_rfl) ⟨[], [(3, 98, [.t (eExpr (a0.Args.getD (v2).toNat default))], .t (eExpr r6))], [(5, [appC (v1.length) (1) 56 4 (arrOf [.int .i64 (r6.Op), .int .i64 (r6.N), .str (r6.S), .lz (.exprs (r6.Args))] 4)])], []⟩ (.cons ⟨callable98, ⟨_, fun _ => (.cons (.same _) .nil), ih _ _ hr7⟩, rfl⟩ .nil) .nil (.cons ⟨hc8, ok_one rfl⟩ .nil) [2, 3, 5, 14, 15, 16, 20, 21, 22, 23, 24, 25, 26] [2, 3, 5, 24, 25, 10303] [2, 3, 14, 15, 16] [2, 3, 25] (stF := ⟨[(2, .ptr 2 0), (3, .ptr 3 0), (14, .t (.lz (.exprs (a0.Args)))), (15, iV ((a0.Args.length : Int))), (16, iV v2)], [(2, .box [iV 0, iV 0, .t (.str (⟨#[]⟩)), .nil]), (3, .box [iV a0.Op, iV a0.N, .t (.str (a0.S)), .own 25]), (25, .arr 40 4 (v1.length + 1) (appF (v1.length) (eF exprCells v1) (arrOf [.int .i64 (r6.Op), .int .i64 (r6.N), .str (r6.S), .lz (.exprs (r6.Args))] 4)))]⟩) (by kernel_rfl) (blk_n (then_n (rn hG [2, 3, 14, 15, 16] [2, 3, 25] [(16, iV (IntKind.i64.wrap (v2 + 1)))] [] ?_)))
  cases h
  exact round_in (Le.trans (ls ⟨[(2, .ptr 2 0), (3, .ptr 3 0), (14, .t (.lz (.exprs (a0.Args)))), (15, iV ((a0.Args.length : Int))), (16, iV (IntKind.i64.wrap (v2 + 1)))], [(2, .box [iV 0, iV 0, .t (.str (⟨#[]⟩)), .nil]), (3, .box [iV a0.Op, iV a0.N, .t (.str (a0.S)), .own 25]), (25, .arr 40 4 (v1.length + 1) (appF (v1.length) (eF exprCells v1) (arrOf [.int .i64 (r6.Op), .int .i64 (r6.N), .str (r6.S), .lz (.exprs (r6.Args))] 4)))]⟩) (Le.trans (Le.obj (o := 25) (.arr 40 4 ((v1 ++ ([r6])).length) (eF exprCells (v1 ++ ([r6])))) rfl (fun _ _ _ => ObjR.row (by simp) (row_snoc exprCells v1 r6 _ rfl))) (Le.trans (Le.rename (o := 25) (o' := 10303) hG (by decide) rfl) lk)))
  cases h
  exact pwp_exit (then_exit (round_out (by simp) (And.intro rfl lk)))
  intro e s hq
  try dsimp only at h
  obtain ⟨rfl, hle⟩ := hq
  refine ⟨_, hle, blk_hit ?_⟩
  refine then_n (pwp_seq (pwp_region (pops_weak (Le.trans (Le.freeze (o := 10303) (.lz (.exprs (b3))) rfl rfl rfl) (Le.keep (ts := [2, 3]) (os := [2, 3]) (t := ⟨[(2, .ptr 2 0), (3, .ptr 3 0)], [(2, .box [iV 0, iV 0, .t (.str (⟨#[]⟩)), .nil]), (3, .box [iV a0.Op, iV a0.N, .t (.str (a0.S)), .t (.lz (.exprs (b3)))])]⟩) (by kernel_rfl))) (pn hG 2 [2] [2] [] [(2, .box [iV a0.Op, iV a0.N, .t (.str (a0.S)), .t (.lz (.exprs (b3)))])] (pe (then_n ?_))))))
  cases h
  exact pwp_ret rt

def F91_L0 (n : Nat) (rec : Expr → Int → (List Expr) → Option (Expr × Bool)) (a0 : Expr) (a1 : Int) (a2 : List Expr) : ((List Expr) × Int) → Option (((List Expr) × Int) ⊕ (((List Expr)) ⊕ (Expr × Bool)))
  | (v10, v11) => if (decide (v11 < ((a0.Args.length : Int)))) = true then (if 0 ≤ v11 ∧ v11 < (a0.Args.length : Int) then ((rec (a0.Args.getD (v11).toNat default) a1 a2).bind fun r15 => if (!r15.2) = true then (some (.inr (.inr (((Expr.mk 0 0 (⟨#[]⟩) (([] : List Expr))), false))))) else (if (v10.length + 1) * 56 ≤ 140737488355328 then (some (.inl ((v10 ++ ([r15.1]), IntKind.i64.wrap (v11 + 1))))) else none)) else none) else (some (.inr (.inl (v10))))
def F91 : Nat → Expr → Int → (List Expr) → Option (Expr × Bool)
  | 0, _, _, _ => none
  | n + 1, a0, a1, a2 => if (a0.Op == a1) = true then (Option.bind (if (decide (a0.N < 0)) = true then (some (true)) else (some (decide (a0.N ≥ ((a2.length : Int))))) : Option (Bool)) fun j2 => if (j2) = true then (some (((Expr.mk 0 0 (⟨#[]⟩) (([] : List Expr))), false))) else (if 0 ≤ a0.N ∧ a0.N < (a2.length : Int) then ((F98 n (a2.getD (a0.N).toNat default)).bind fun r8 => some ((r8, true))) else none)) else (Option.bind (iterM (F91_L0 n (F91 n) a0 a1 a2) n ((([] : List Expr), 0))) fun R19 => match R19 with | .inl (b12) => (some (((Expr.mk a0.Op a0.N a0.S b12), true))) | .inr (y21) => (some (y21)))
abbrev I91 : Inf := ⟨look tiL, [], 66⟩
set_option maxRecDepth 20000 in
theorem F91_ok (n : Nat) : ∀ (a0 : Expr) (a1 : Int) (a2 : List Expr) (y : Expr × Bool) (_ : F91 n a0 a1 a2 = some y), PCall Proofs.Try.prog 91 [.t (eExpr a0), .t (.int .i64 (a1)), .t (.lz (.exprs (a2)))] [] [] (Ret (.tup [.t (eExpr y.1), .t (.bool (y.2))])) := by
  induction n with
  | zero => intro a0 a1 a2 y h; cases h
  | succ n ih =>
  intro a0 a1 a2 y h
  refine pcall_of (I := I91) Proofs.Try.func91 rfl ti_ok Proofs.Try.ntmps91 (le_n (by kernel_rfl)) (fun E hG => ?_)
  rw [F91] at h
  refine sn hG [1, 2, 3, 6] [3, 6] [(3, .ptr 3 0), (6, .ptr 6 0)] [(3, .box ((exprCells (a0)).map .t)), (6, .box [iV 0, iV 0, .t (.str (⟨#[]⟩)), .nil])] (pwp_seq (sn hG [1, 2, 3, 6, 16] [3, 6] [(16, bV (a0.Op == a1))] [] (iw h (fun h => ?_) (fun h => ?_))))
  refine pwp_seq (pwp_seq ?_)
  obtain ⟨j2, hj4, h⟩ := bnd h
  refine jn [2, 3, 6, 26] [3, 6] [(26, bV j2)] [] ?_ ?_
  replace h := hj4; clear hj4
  refine pwp_region (pn hG 4 [2, 3, 6, 20] [3, 6] [(20, bV (decide (a0.N < 0)))] [] (io 20 h (fun h => ?_) (fun h => ?_)))
  refine pn hG 6 [2, 3, 6, 26] [3, 6] [(26, bV true)] [] ?_
  cases h
  exact pe fl
  refine pn hG 6 [2, 3, 6, 26] [3, 6] [(26, bV (decide (a0.N ≥ ((a2.length : Int)))))] [] ?_
  cases h
  exact pe fl
  refine then_n (iw h (fun h => ?_) (fun h => ?_))
  refine pwp_seq (pwp_region (pn hG 3 [6, 7] [6] [(7, bV false)] [] (pe (then_n (ws ⟨[(6, .ptr 6 0), (7, bV false)], [(6, .box [iV 0, iV 0, .t (.str (⟨#[]⟩)), .nil])]⟩ (pwp_weak (Le.obj (o := 6) (.box ([(.int .i64 (0)), (.int .i64 (0)), (.str (⟨#[]⟩)), (.lz (.exprs (([] : List Expr))))].map .t)) rfl (fun _ _ _ => le_box (.same (.same (.same (.empty rfl (.nil))))))) ?_))))))
  cases h
  exact pwp_ret (then_ret (then_ret rt))
  refine pwp_skip (then_n (pwp_seq (pwp_region ?_)))
  obtain ⟨hc7, h⟩ := grd h
  refine pc hG 5 [6, 32] [6] [(32, .t (eExpr (a2.getD (a0.N).toNat default)))] [] hc7 ?_
  obtain ⟨r8, hr9, h⟩ := bnd h
  refine ca hG [] rfl rfl rfl rfl callable98 (.cons (.same _) .nil) (F98_ok n _ _ hr9) (pn hG 2 [6, 7] [6] [(7, bV true)] [(6, .box ((exprCells (r8)).map .t))] (pe (then_n ?_)))
  cases h
  exact pwp_ret (then_ret rt)
  refine pwp_skip (then_n (pwp_seq (pwp_region (pn hG 9 [1, 2, 3, 6, 8] [3, 6, 8] [(8, .ptr 8 0)] [(8, .box [iV a0.Op, iV a0.N, .t (.str (a0.S)), .nil])] (pe (then_n (pwp_seq (sn hG [1, 2, 6, 8, 42, 43, 44] [6, 8] [(42, .t (.lz (.exprs (a0.Args)))), (43, iV ((a0.Args.length : Int))), (44, iV 0)] [] ?_))))))))
  refine ws ⟨[(1, iV a1), (2, .t (.lz (.exprs (a2)))), (6, .ptr 6 0), (8, .ptr 8 0), (42, .t (.lz (.exprs (a0.Args)))), (43, iV ((a0.Args.length : Int))), (44, iV 0)], [(6, .box [iV 0, iV 0, .t (.str (⟨#[]⟩)), .nil]), (8, .box [iV a0.Op, iV a0.N, .t (.str (a0.S)), .nil])]⟩ (pwp_weak (Le.thawC (b := 8) (j := 3) (o := 10803) (e := 40) (s := 4) (f := eF exprCells ([] : List Expr)) hG rfl) ?_)
  obtain ⟨R19, hR20, h⟩ := bnd h
  refine lp (F91_L0 n (F91 n) a0 a1 a2) (fun (s : (List Expr) × Int) => match s with | (v10, v11) => (⟨[(1, iV a1), (2, .t (.lz (.exprs (a2)))), (6, .ptr 6 0), (8, .ptr 8 0), (42, .t (.lz (.exprs (a0.Args)))), (43, iV ((a0.Args.length : Int))), (44, iV v11)], [(6, .box [iV 0, iV 0, .t (.str (⟨#[]⟩)), .nil]), (8, .box [iV a0.Op, iV a0.N, .t (.str (a0.S)), .own 10803]), (10803, .arr 40 4 (v10.length) (eF exprCells v10))]⟩ : St)) (fun (r : ((List Expr)) ⊕ (Expr × Bool)) (e : Exit) (s : St) => match r with | .inl (x0) => e = .exit 0 ∧ Le E s ((fun (b12 : (List Expr)) => (⟨[(6, .ptr 6 0), (8, .ptr 8 0)], [(6, .box [iV 0, iV 0, .t (.str (⟨#[]⟩)), .nil]), (8, .box [iV a0.Op, iV a0.N, .t (.str (a0.S)), .own 10803]), (10803, .arr 40 4 (b12.length) (eF exprCells b12))]⟩ : St)) x0) | .inr (y0) => e = .ret ∧ finQ I91 Proofs.Try.f91.results.toList (Ret (.tup [.t (eExpr y0.1), bV y0.2])) .ret s) ?_ n ((([] : List Expr), 0)) R19 hR20 ?_
  rintro ⟨v10, v11⟩ x h
  rw [F91_L0] at h
  refine sn hG [1, 2, 6, 8, 42, 43, 44, 45] [6, 8, 10803] [(45, bV (decide (v11 < ((a0.Args.length : Int)))))] [] (pwp_seq (iw h (fun h => ?_) (fun h => ?_)))
  refine pwp_skip (then_n (pwp_seq (pwp_block (pwp_seq (pwp_region ?_)))))
  obtain ⟨hc14, h⟩ := grd h
  refine pc hG 4 [1, 2, 6, 8, 10, 42, 43, 44] [6, 8, 10, 10803] [(10, .ptr 10 0)] [(10, .box ((exprCells (a0.Args.getD (v11).toNat default)).map .t))] hc14 (pe (then_n (pwp_seq (pwp_region (pn hG 3 [1, 2, 6, 8, 42, 43, 44, 49, 50, 51] [6, 8, 10803] [(49, .t (eExpr (a0.Args.getD (v11).toNat default))), (50, iV a1), (51, .t (.lz (.exprs (a2))))] [] ?_)))))
  obtain ⟨r15, hr16, h⟩ := bnd h
  refine ca hG [] rfl rfl rfl rfl callable91 (.cons (.same _) (.cons (.same _) (.cons (.same _) .nil))) (ih _ _ _ _ hr16) (pn hG 6 [1, 2, 6, 8, 11, 12, 42, 43, 44] [6, 8, 11, 10803] [(11, .ptr 11 0), (12, bV r15.2)] [(11, .box ((exprCells (r15.1)).map .t))] (pe (then_n (pwp_seq (sn hG [1, 2, 6, 8, 11, 42, 43, 44, 56] [6, 8, 11, 10803] [(56, bV (!r15.2))] [] (iw h (fun h => ?_) (fun h => ?_)))))))
  refine pwp_seq (pwp_region (pn hG 3 [6, 7] [6] [(7, bV false)] [] (pe (then_n (ws ⟨[(6, .ptr 6 0), (7, bV false)], [(6, .box [iV 0, iV 0, .t (.str (⟨#[]⟩)), .nil])]⟩ (pwp_weak (Le.obj (o := 6) (.box ([(.int .i64 (0)), (.int .i64 (0)), (.str (⟨#[]⟩)), (.lz (.exprs (([] : List Expr))))].map .t)) rfl (fun _ _ _ => le_box (.same (.same (.same (.empty rfl (.nil))))))) ?_))))))
  cases h
  exact pwp_ret (then_ret (blk_ret (then_ret (round_out (by simp) (And.intro rfl rt)))))
  refine pwp_skip (then_n (pwp_region ?_))
  obtain ⟨hc18, h⟩ := grd h
  refine pd hG 5 [1, 2, 6, 8, 42, 43, 44, 62] [6, 8, 62] [(62, .own 62)] [(8, .box [iV a0.Op, iV a0.N, .t (.str (a0.S)), .any]), (62, .arr 40 4 (v10.length + 1) (appF (v10.length) (eF exprCells v10) (arrOf [.int .i64 (r15.1.Op), .int .i64 (r15.1.N), .str (r15.1.S), .lz (.exprs (r15.1.Args))] 4)))] (Cs := [appC (v10.length) (1) 56 4 (arrOf [.int .i64 (r15.1.Op), .int .i64 (r15.1.N), .str (r15.1.S), .lz (.exprs (r15.1.Args))] 4)]) ⟨hc18, ok_one rfl⟩ (os ⟨[(1, iV a1), (2, .t (.lz (.exprs (a2)))), (6, .ptr 6 0), (8, .ptr 8 0), (42, .t (.lz (.exprs (a0.Args)))), (43, iV ((a0.Args.length : Int))), (44, iV v11), (62, .own 62)], [(6, .box [iV 0, iV 0, .t (.str (⟨#[]⟩)), .nil]), (8, .box [iV a0.Op, iV a0.N, .t (.str (a0.S)), .any]), (62, .arr 40 4 (v10.length + 1) (appF (v10.length) (eF exprCells v10) (arrOf [.int .i64 (r15.1.Op), .int .i64 (r15.1.N), .str (r15.1.S), .lz (.exprs (r15.1.Args))] 4)))]⟩ (pops_weak (Le.obj (o := 62) (.arr 40 4 ((v10 ++ ([r15.1])).length) (eF exprCells (v10 ++ ([r15.1])))) rfl (fun _ _ _ => ObjR.row (by simp) (row_snoc exprCells v10 r15.1 _ rfl))) (pn hG 2 [1, 2, 6, 8, 42, 43, 44] [6, 8, 62] [] [(8, .box [iV a0.Op, iV a0.N, .t (.str (a0.S)), .own 62]), (62, .arr 40 4 ((v10 ++ ([r15.1])).length) (eF exprCells (v10 ++ ([r15.1]))))] (pe (blk_n (then_n (rn hG [1, 2, 6, 8, 42, 43, 44] [6, 8, 62] [(44, iV (IntKind.i64.wrap (v11 + 1)))] [] ?_)))))))
  cases h
  exact round_in (Le.trans (ls ⟨[(1, iV a1), (2, .t (.lz (.exprs (a2)))), (6, .ptr 6 0), (8, .ptr 8 0), (42, .t (.lz (.exprs (a0.Args)))), (43, iV ((a0.Args.length : Int))), (44, iV (IntKind.i64.wrap (v11 + 1)))], [(6, .box [iV 0, iV 0, .t (.str (⟨#[]⟩)), .nil]), (8, .box [iV a0.Op, iV a0.N, .t (.str (a0.S)), .own 62]), (62, .arr 40 4 ((v10 ++ ([r15.1])).length) (eF exprCells (v10 ++ ([r15.1]))))]⟩) (Le.trans (Le.rename (o := 62) (o' := 10803) hG (by decide) rfl) lk))
  cases h
  exact pwp_exit (then_exit (round_out (by simp) (And.intro rfl lk)))
  intro e s hq
  rcases R19 with b12 | y21
  try dsimp only at h
  obtain ⟨rfl, hle⟩ := hq
  refine ⟨_, hle, blk_hit ?_⟩
  refine then_n (pwp_seq (pwp_region (pops_weak (Le.trans (Le.freeze (o := 10803) (.lz (.exprs (b12))) rfl rfl rfl) (Le.keep (ts := [6, 8]) (os := [6, 8]) (t := ⟨[(6, .ptr 6 0), (8, .ptr 8 0)], [(6, .box [iV 0, iV 0, .t (.str (⟨#[]⟩)), .nil]), (8, .box [iV a0.Op, iV a0.N, .t (.str (a0.S)), .t (.lz (.exprs (b12)))])]⟩) (by kernel_rfl))) (pn hG 3 [6, 7] [6] [(7, bV true)] [(6, .box [iV a0.Op, iV a0.N, .t (.str (a0.S)), .t (.lz (.exprs (b12)))])] (pe (then_n ?_))))))
  cases h
  exact pwp_ret rt
  try dsimp only at h
  obtain ⟨rfl, hq⟩ := hq
  cases h
  exact ⟨_, Le.refl, blk_ret (then_ret (hq))⟩

def F93s0 (n : Nat) (a0 : Expr) (h30001_0 : Int) : Option (Int) := some (IntKind.i64.wrap (h30001_0 + 1))
abbrev I93s0 : Inf := ⟨look tiL, [30001], 5⟩
set_option maxRecDepth 20000 in
theorem F93s0_ok (n : Nat) (a0 : Expr) (h30001_0 : Int) (y : Int) (h : F93s0 n a0 h30001_0 = some y) : PCall Proofs.Try.prog 93 [.t (eExpr a0), .ptr 30001 0] [(30001, .box (([.int .i64 (h30001_0)]).map .t))] [30001] (RetH (.tup []) [(30001, .box (([.int .i64 (y)]).map .t))]) := by
  refine pcall_of (I := I93s0) Proofs.Try.func93 rfl ti_ok Proofs.Try.ntmps93 (le_n (by kernel_rfl)) (fun E hG => ?_)
  unfold F93s0 at h
  refine sn hG [1] [30001] [] [] (pwp_region (pn hG 3 [] [30001] [] [(30001, .box (([.int .i64 (IntKind.i64.wrap (h30001_0 + 1))]).map .t))] (pe ?_)))
  cases h
  exact retH_at [30001] (.inl rfl) (by kernel_rfl)

def F92s0_L0 (n : Nat) (rec : Expr → Int → Option (Int)) (a0 : Expr) : (Int × Int) → Option ((Int × Int) ⊕ (Int))
  | (v3, v4) => if (decide (v4 < ((a0.Args.length : Int)))) = true then (if 0 ≤ v4 ∧ v4 < (a0.Args.length : Int) then ((rec (a0.Args.getD (v4).toNat default) v3).bind fun r8 => some (.inl ((r8, IntKind.i64.wrap (v4 + 1))))) else none) else (some (.inr (v3)))
def F92s0 : Nat → Expr → Int → Option (Int)
  | 0, _, _ => none
  | n + 1, a0, h30001_0 => (F93s0 n a0 h30001_0).bind fun r1 => Option.bind (iterM (F92s0_L0 n (F92s0 n) a0) n ((r1, 0))) fun b5 => some (b5)
abbrev I92s0 : Inf := ⟨look tiL, [30001], 20⟩
set_option maxRecDepth 20000 in
theorem F92s0_ok (n : Nat) : ∀ (a0 : Expr) (h30001_0 : Int) (y : Int) (_ : F92s0 n a0 h30001_0 = some y), PCall Proofs.Try.prog 92 [.t (eExpr a0), .fn (.func 93) 0 [.ptr 30001 0]] [(30001, .box (([.int .i64 (h30001_0)]).map .t))] [30001] (RetH (.tup []) [(30001, .box (([.int .i64 (y)]).map .t))]) := by
  induction n with
  | zero => intro a0 h30001_0 y h; cases h
  | succ n ih =>
  intro a0 h30001_0 y h
  refine pcall_of (I := I92s0) Proofs.Try.func92 rfl ti_ok Proofs.Try.ntmps92 (le_n (by kernel_rfl)) (fun E hG => ?_)
  rw [F92s0] at h
  refine sn hG [1, 2] [2, 30001] [(2, .ptr 2 0)] [(2, .box ((exprCells (a0)).map .t))] (pwp_seq (pwp_region (pn hG 2 [1, 2, 6, 7] [2, 30001] [(6, .fn (.func 93) 0 [.ptr 30001 0]), (7, .t (eExpr a0))] [] ?_)))
  obtain ⟨r1, hr2, h⟩ := bnd h
  refine ch hG [30001] [30001] [] (nf := 0) (caps := [.ptr 30001 0]) (aps := [.t (eExpr a0)]) rfl rfl rfl rfl callable93 (.cons (.same _) (.cons (.same _) .nil)) (F93s0_ok n _ _ _ hr2) (pe (then_n (sn hG [1, 10, 11, 12] [30001] [(10, .t (.lz (.exprs (a0.Args)))), (11, iV ((a0.Args.length : Int))), (12, iV 0)] [(30001, .box (([.int .i64 (r1)]).map .t))] ?_)))
  obtain ⟨b5, hR11, h⟩ := bnd h
  refine lp (F92s0_L0 n (F92s0 n) a0) (fun (s : Int × Int) => match s with | (v3, v4) => (⟨[(1, .fn (.func 93) 0 [.ptr 30001 0]), (10, .t (.lz (.exprs (a0.Args)))), (11, iV ((a0.Args.length : Int))), (12, iV v4)], [(30001, .box (([.int .i64 (v3)]).map .t))]⟩ : St)) (fun (x0 : Int) (e : Exit) (s : St) => e = .exit 0 ∧ Le E s ((fun (b5 : Int) => (⟨[], [(30001, .box (([.int .i64 (b5)]).map .t))]⟩ : St)) x0)) ?_ n ((r1, 0)) b5 hR11 ?_
  rintro ⟨v3, v4⟩ x h
  rw [F92s0_L0] at h
  refine sn hG [1, 10, 11, 12, 13] [30001] [(13, bV (decide (v4 < ((a0.Args.length : Int)))))] [] (pwp_seq (iw h (fun h => ?_) (fun h => ?_)))
  refine pwp_skip (then_n (pwp_seq (pwp_block (pwp_seq (pwp_region ?_)))))
  obtain ⟨hc7, h⟩ := grd h
  refine pc hG 4 [1, 5, 10, 11, 12] [5, 30001] [(5, .ptr 5 0)] [(5, .box ((exprCells (a0.Args.getD (v4).toNat default)).map .t))] hc7 (pe (then_n (pwp_region (pn hG 2 [1, 10, 11, 12, 16, 17] [30001] [(16, .t (eExpr (a0.Args.getD (v4).toNat default))), (17, .fn (.func 93) 0 [.ptr 30001 0])] [] ?_))))
  obtain ⟨r8, hr9, h⟩ := bnd h
  refine ch hG [30001] [30001] [] (nf := 0) (caps := []) (aps := [.t (eExpr (a0.Args.getD (v4).toNat default)), .fn (.func 93) 0 [.ptr 30001 0]]) rfl rfl rfl rfl callable92 (.cons (.same _) (.cons (.same _) .nil)) (ih _ _ _ hr9) (pe (blk_n (then_n (rn hG [1, 10, 11, 12] [30001] [(12, iV (IntKind.i64.wrap (v4 + 1)))] [(30001, .box (([.int .i64 (r8)]).map .t))] ?_))))
  cases h
  exact round_in lk
  cases h
  exact pwp_exit (then_exit (round_out (by simp) (And.intro rfl lk)))
  intro e s hq
  try dsimp only at h
  obtain ⟨rfl, hle⟩ := hq
  refine ⟨_, hle, blk_hit ?_⟩
  cases h
  exact retH_at [30001] (.inl rfl) (by kernel_rfl)

def F85s0_L0 (n : Nat) (rec : Expr → (List GBody) → Option (GBody)) (a0 : Expr) (h30000 : List GBody) : ((List Expr) × Int) → Option (((List Expr) × Int) ⊕ (((List Expr)) ⊕ (GBody)))
  | (v1, v2) => if (decide (v2 < ((a0.Args.length : Int)))) = true then (if 0 ≤ v2 ∧ v2 < (a0.Args.length : Int) then ((rec (a0.Args.getD (v2).toNat default) h30000).bind fun r6 => if (!r6.ok_) = true then (some (.inr (.inr (r6)))) else (if (v1.length + 1) * 56 ≤ 140737488355328 then (some (.inl ((v1 ++ ([r6.e_]), IntKind.i64.wrap (v2 + 1))))) else none)) else none) else (some (.inr (.inl (v1))))
def F85s0 : Nat → Expr → (List GBody) → Option (GBody)
  | 0, _, _ => none
  | n + 1, a0, h30000 => Option.bind (iterM (F85s0_L0 n (F85s0 n) a0 h30000) n ((([] : List Expr), 0))) fun R10 => match R10 with | .inl (b3) => (Option.bind (if (a0.Op == 22) = true then (if 0 ≤ a0.N ∧ a0.N < (h30000.length : Int) then (if (a0.N).toNat < h30000.length then (if (!((h30000.getD (a0.N).toNat default).ok_)) = true then (some (.inr (h30000.getD (a0.N).toNat default))) else ((F91 n ((h30000.getD (a0.N).toNat default).e_) 4 b3).bind fun r22 => some (.inl ((r22.1.Op, r22.1.N, r22.1.S, r22.1.Args))))) else none) else none) else (some (.inl ((a0.Op, a0.N, a0.S, b3)))) : Option ((Int × Int × ByteArray × (List Expr)) ⊕ (GBody))) fun J17 => match J17 with | .inl (j13, j14, j15, j16) => ((F92s0 n ((Expr.mk j13 j14 j15 j16)) 0).bind fun r24 => if (decide (r24 > 1000)) = true then (some ((GBody.mk ((Expr.mk 0 0 (⟨#[]⟩) (([] : List Expr)))) false))) else (some ((GBody.mk ((Expr.mk j13 j14 j15 j16)) true)))) | .inr y27 => some (y27)) | .inr (y28) => (some (y28))
abbrev I85s0 : Inf := ⟨look tiL, [30000], 68⟩
set_option maxRecDepth 20000 in
theorem F85s0_ok (n : Nat) : ∀ (a0 : Expr) (h30000 : List GBody) (y : GBody) (_ : F85s0 n a0 h30000 = some y), PCall Proofs.Try.prog 85 [.t (eExpr a0), .own 30000] [(30000, .arr 120 5 (h30000.length) (eF cGBody h30000))] [30000] (RetH (.t (eGBody y)) [(30000, .arr 120 5 (h30000.length) (eF cGBody h30000))]) := by
  induction n with
  | zero => intro a0 h30000 y h; cases h
  | succ n ih =>
  intro a0 h30000 y h
  refine pcall_of (I := I85s0) Proofs.Try.func85 rfl ti_ok Proofs.Try.ntmps85 (le_n (by kernel_rfl)) (fun E hG => ?_)
  rw [F85s0] at h
  refine sn hG [1, 2, 4] [2, 4, 30000] [(2, .ptr 2 0), (4, .ptr 4 0)] [(2, .box ((exprCells (a0)).map .t)), (4, .box [iV 0, iV 0, .t (.str (⟨#[]⟩)), .nil, bV false])] (pwp_seq (pwp_region (pn hG 9 [1, 2, 4, 5] [2, 4, 5, 30000] [(5, .ptr 5 0)] [(5, .box [iV a0.Op, iV a0.N, .t (.str (a0.S)), .nil])] (pe (then_n (pwp_seq (sn hG [1, 2, 4, 5, 19, 20, 21] [2, 4, 5, 30000] [(19, .t (.lz (.exprs (a0.Args)))), (20, iV ((a0.Args.length : Int))), (21, iV 0)] [] (ws ⟨[(1, .own 30000), (2, .ptr 2 0), (4, .ptr 4 0), (5, .ptr 5 0), (19, .t (.lz (.exprs (a0.Args)))), (20, iV ((a0.Args.length : Int))), (21, iV 0)], [(2, .box ((exprCells (a0)).map .t)), (4, .box [iV 0, iV 0, .t (.str (⟨#[]⟩)), .nil, bV false]), (5, .box [iV a0.Op, iV a0.N, .t (.str (a0.S)), .nil]), (30000, .arr 120 5 (h30000.length) (eF cGBody h30000))]⟩ ?_))))))))
  refine pwp_weak (Le.thawC (b := 5) (j := 3) (o := 10503) (e := 40) (s := 4) (f := eF exprCells ([] : List Expr)) hG rfl) ?_
  obtain ⟨R10, hR11, h⟩ := bnd h
  refine lp (F85s0_L0 n (F85s0 n) a0 h30000) (fun (s : (List Expr) × Int) => match s with | (v1, v2) => (⟨[(1, .own 30000), (2, .ptr 2 0), (4, .ptr 4 0), (5, .ptr 5 0), (19, .t (.lz (.exprs (a0.Args)))), (20, iV ((a0.Args.length : Int))), (21, iV v2)], [(2, .box ((exprCells (a0)).map .t)), (4, .box [iV 0, iV 0, .t (.str (⟨#[]⟩)), .nil, bV false]), (5, .box [iV a0.Op, iV a0.N, .t (.str (a0.S)), .own 10503]), (10503, .arr 40 4 (v1.length) (eF exprCells v1)), (30000, .arr 120 5 (h30000.length) (eF cGBody h30000))]⟩ : St)) (fun (r : ((List Expr)) ⊕ (GBody)) (e : Exit) (s : St) => match r with | .inl (x0) => e = .exit 0 ∧ Le E s ((fun (b3 : (List Expr)) => (⟨[(1, .own 30000), (2, .ptr 2 0), (4, .ptr 4 0), (5, .ptr 5 0)], [(2, .box ((exprCells (a0)).map .t)), (4, .box [iV 0, iV 0, .t (.str (⟨#[]⟩)), .nil, bV false]), (5, .box [iV a0.Op, iV a0.N, .t (.str (a0.S)), .own 10503]), (10503, .arr 40 4 (b3.length) (eF exprCells b3)), (30000, .arr 120 5 (h30000.length) (eF cGBody h30000))]⟩ : St)) x0) | .inr (y0) => e = .ret ∧ finQ I85s0 Proofs.Try.f85.results.toList (RetH (.t (eGBody y0)) [(30000, .arr 120 5 (h30000.length) (eF cGBody h30000))]) .ret s) ?_ n ((([] : List Expr), 0)) R10 hR11 ?_
  rintro ⟨v1, v2⟩ x h
  rw [F85s0_L0] at h
  refine sn hG [1, 2, 4, 5, 19, 20, 21, 22] [2, 4, 5, 10503, 30000] [(22, bV (decide (v2 < ((a0.Args.length : Int)))))] [] (pwp_seq (iw h (fun h => ?_) (fun h => ?_)))
  refine pwp_skip (then_n (pwp_seq (pwp_block (pwp_seq (pwp_region ?_)))))
  obtain ⟨hc5, h⟩ := grd h
  refine pc hG 4 [1, 2, 4, 5, 7, 19, 20, 21] [2, 4, 5, 7, 10503, 30000] [(7, .ptr 7 0)] [(7, .box ((exprCells (a0.Args.getD (v2).toNat default)).map .t))] hc5 (pe (then_n (pwp_seq (pwp_region (pn hG 2 [1, 2, 4, 5, 19, 20, 21, 25, 26] [2, 4, 5, 10503, 30000] [(25, .t (eExpr (a0.Args.getD (v2).toNat default))), (26, .own 30000)] [] ?_)))))
  obtain ⟨r6, hr7, h⟩ := bnd h
  refine ch hG [30000] [30000] [] (nf := 0) (caps := []) (aps := [.t (eExpr (a0.Args.getD (v2).toNat default)), .own 30000]) rfl rfl rfl rfl callable85 (.cons (.same _) (.cons (.same _) .nil)) (ih _ _ _ hr7) (pn hG 2 [1, 2, 4, 5, 8, 19, 20, 21] [2, 4, 5, 8, 10503, 30000] [(8, .ptr 8 0)] [(8, .box ((cGBody (r6)).map .t))] (pe (then_n (pwp_seq (sn hG [1, 2, 4, 5, 8, 19, 20, 21, 30] [2, 4, 5, 8, 10503, 30000] [(30, bV (!r6.ok_))] [] (iw h (fun h => ?_) (fun h => ?_)))))))
  refine pwp_seq (pwp_region (pn hG 2 [4] [4, 30000] [] [(4, .box ((cGBody (r6)).map .t))] (pe (then_n (kw [4] [4, 30000] ?_)))))
  cases h
  exact pwp_ret (then_ret (blk_ret (then_ret (round_out (by simp) (And.intro rfl (retH_at [30000] (.inr rfl) (by kernel_rfl)))))))
  refine pwp_skip (then_n (pwp_region ?_))
  obtain ⟨hc9, h⟩ := grd h
  refine pd hG 6 [1, 2, 4, 5, 19, 20, 21, 37] [2, 4, 5, 37, 30000] [(37, .own 37)] [(5, .box [iV a0.Op, iV a0.N, .t (.str (a0.S)), .any]), (37, .arr 40 4 (v1.length + 1) (appF (v1.length) (eF exprCells v1) (arrOf [.int .i64 (r6.e_.Op), .int .i64 (r6.e_.N), .str (r6.e_.S), .lz (.exprs (r6.e_.Args))] 4)))] (Cs := [appC (v1.length) (1) 56 4 (arrOf [.int .i64 (r6.e_.Op), .int .i64 (r6.e_.N), .str (r6.e_.S), .lz (.exprs (r6.e_.Args))] 4)]) ⟨hc9, ok_one rfl⟩ (os ⟨[(1, .own 30000), (2, .ptr 2 0), (4, .ptr 4 0), (5, .ptr 5 0), (19, .t (.lz (.exprs (a0.Args)))), (20, iV ((a0.Args.length : Int))), (21, iV v2), (37, .own 37)], [(2, .box ((exprCells (a0)).map .t)), (4, .box [iV 0, iV 0, .t (.str (⟨#[]⟩)), .nil, bV false]), (5, .box [iV a0.Op, iV a0.N, .t (.str (a0.S)), .any]), (37, .arr 40 4 (v1.length + 1) (appF (v1.length) (eF exprCells v1) (arrOf [.int .i64 (r6.e_.Op), .int .i64 (r6.e_.N), .str (r6.e_.S), .lz (.exprs (r6.e_.Args))] 4))), (30000, .arr 120 5 (h30000.length) (eF cGBody h30000))]⟩ (pops_weak (Le.obj (o := 37) (.arr 40 4 ((v1 ++ ([r6.e_])).length) (eF exprCells (v1 ++ ([r6.e_])))) rfl (fun _ _ _ => ObjR.row (by simp) (row_snoc exprCells v1 r6.e_ _ rfl))) (pn hG 2 [1, 2, 4, 5, 19, 20, 21] [2, 4, 5, 37, 30000] [] [(5, .box [iV a0.Op, iV a0.N, .t (.str (a0.S)), .own 37]), (37, .arr 40 4 ((v1 ++ ([r6.e_])).length) (eF exprCells (v1 ++ ([r6.e_]))))] (pe (blk_n (then_n (rn hG [1, 2, 4, 5, 19, 20, 21] [2, 4, 5, 37, 30000] [(21, iV (IntKind.i64.wrap (v2 + 1)))] [] ?_)))))))
  cases h
  exact round_in (Le.trans (ls ⟨[(1, .own 30000), (2, .ptr 2 0), (4, .ptr 4 0), (5, .ptr 5 0), (19, .t (.lz (.exprs (a0.Args)))), (20, iV ((a0.Args.length : Int))), (21, iV (IntKind.i64.wrap (v2 + 1)))], [(2, .box ((exprCells (a0)).map .t)), (4, .box [iV 0, iV 0, .t (.str (⟨#[]⟩)), .nil, bV false]), (5, .box [iV a0.Op, iV a0.N, .t (.str (a0.S)), .own 37]), (37, .arr 40 4 ((v1 ++ ([r6.e_])).length) (eF exprCells (v1 ++ ([r6.e_])))), (30000, .arr 120 5 (h30000.length) (eF cGBody h30000))]⟩) (Le.trans (Le.rename (o := 37) (o' := 10503) hG (by decide) rfl) lk))
  cases h
  exact pwp_exit (then_exit (round_out (by simp) (And.intro rfl lk)))
  intro e s hq
  rcases R10 with b3 | y28
  try dsimp only at h
  obtain ⟨rfl, hle⟩ := hq
  refine ⟨_, hle, blk_hit ?_⟩
  refine then_n (pwp_seq (sn hG [1, 2, 4, 5, 42] [2, 4, 5, 10503, 30000] [(42, bV (a0.Op == 22))] [] ?_))
  obtain ⟨J17, hj18, h⟩ := bnd h
  refine pwp_piece (tm := (fun (s : Int × Int × ByteArray × (List Expr)) => match s with | (j13, j14, j15, j16) => (⟨[(4, .ptr 4 0), (5, .ptr 5 0)], [(4, .box [iV 0, iV 0, .t (.str (⟨#[]⟩)), .nil, bV false]), (5, .box [iV j13, iV j14, .t (.str (j15)), .t (.lz (.exprs (j16)))]), (30000, .arr 120 5 (h30000.length) (eF cGBody h30000))]⟩ : St))) (Out := fun y e s => e ≠ .normal ∧ (fun (y0 : GBody) (e : Exit) (s : St) => e = .ret ∧ finQ I85s0 Proofs.Try.f85.results.toList (RetH (.t (eGBody y0)) [(30000, .arr 120 5 (h30000.length) (eF cGBody h30000))]) .ret s) y e s) (x := J17) ?_ ?_ ?_
  replace h := hj18; clear hj18
  refine iw h (fun h => ?_) (fun h => ?_)
  refine pwp_seq (pwp_region ?_)
  obtain ⟨hc19, h⟩ := grd h
  obtain ⟨hc20, h⟩ := grd h
  refine pd hG 7 [4, 5, 9] [4, 5, 9, 10503, 30000] [(9, .ptr 9 0)] [(9, .box ((cGBody (h30000.getD (a0.N).toNat default)).map .t))] (Cs := [0 ≤ a0.N ∧ a0.N < (h30000.length : Int), (a0.N).toNat < h30000.length]) ⟨hc19, hc20⟩ (pe (then_n (pwp_seq (sn hG [4, 5, 9, 50] [4, 5, 9, 10503, 30000] [(50, bV (!((h30000.getD (a0.N).toNat default).ok_)))] [] (iw h (fun h => ?_) (fun h => ?_))))))
  refine pwp_seq (pwp_region (pn hG 2 [4] [4, 30000] [] [(4, .box ((cGBody (h30000.getD (a0.N).toNat default)).map .t))] (pe (then_n (kw [4] [4, 30000] ?_)))))
  cases h
  exact pwp_ret (then_ret (piece_out (And.intro (by simp) (And.intro rfl (retH_at [30000] (.inr rfl) (by kernel_rfl))))))
  refine pwp_skip (then_n (pwp_region (pn hG 4 [4, 5, 54, 56] [4, 5, 10503, 30000] [(54, .t (eExpr ((h30000.getD (a0.N).toNat default).e_))), (56, .own 10503)] [] (os ⟨[(4, .ptr 4 0), (5, .ptr 5 0), (54, .t (eExpr ((h30000.getD (a0.N).toNat default).e_))), (56, .own 10503)], [(4, .box [iV 0, iV 0, .t (.str (⟨#[]⟩)), .nil, bV false]), (5, .box [iV a0.Op, iV a0.N, .t (.str (a0.S)), .own 10503]), (10503, .arr 40 4 (b3.length) (eF exprCells b3)), (30000, .arr 120 5 (h30000.length) (eF cGBody h30000))]⟩ (pops_weak (Le.trans (Le.freeze (o := 10503) (.lz (.exprs (b3))) rfl rfl rfl) (Le.keep (ts := [4, 5, 54, 56]) (os := [4, 5, 30000]) (t := ⟨[(4, .ptr 4 0), (5, .ptr 5 0), (54, .t (eExpr ((h30000.getD (a0.N).toNat default).e_))), (56, .t (.lz (.exprs (b3))))], [(4, .box [iV 0, iV 0, .t (.str (⟨#[]⟩)), .nil, bV false]), (5, .box [iV a0.Op, iV a0.N, .t (.str (a0.S)), .t (.lz (.exprs (b3)))]), (30000, .arr 120 5 (h30000.length) (eF cGBody h30000))]⟩) (by kernel_rfl))) ?_)))))
  obtain ⟨r22, hr23, h⟩ := bnd h
  refine ca hG [] rfl rfl rfl rfl callable91 (.cons (.same _) (.cons (.same _) (.cons (.same _) .nil))) (F91_ok n _ _ _ _ hr23) (pn hG 4 [4, 5] [4, 5, 30000] [] [(5, .box ((exprCells (r22.1)).map .t))] (pe ?_))
  cases h
  exact piece_in lk
  refine pwp_skip ?_
  cases h
  exact piece_in (Le.trans (ls ⟨[(1, .own 30000), (2, .ptr 2 0), (4, .ptr 4 0), (5, .ptr 5 0), (42, bV (a0.Op == 22))], [(2, .box ((exprCells (a0)).map .t)), (4, .box [iV 0, iV 0, .t (.str (⟨#[]⟩)), .nil, bV false]), (5, .box [iV a0.Op, iV a0.N, .t (.str (a0.S)), .own 10503]), (10503, .arr 40 4 (b3.length) (eF exprCells b3)), (30000, .arr 120 5 (h30000.length) (eF cGBody h30000))]⟩) (Le.trans (Le.trans (Le.freeze (o := 10503) (.lz (.exprs (b3))) rfl rfl rfl) (Le.keep (ts := [1, 2, 4, 5, 42]) (os := [2, 4, 5, 30000]) (t := ⟨[(1, .own 30000), (2, .ptr 2 0), (4, .ptr 4 0), (5, .ptr 5 0), (42, bV (a0.Op == 22))], [(2, .box ((exprCells (a0)).map .t)), (4, .box [iV 0, iV 0, .t (.str (⟨#[]⟩)), .nil, bV false]), (5, .box [iV a0.Op, iV a0.N, .t (.str (a0.S)), .t (.lz (.exprs (b3)))]), (30000, .arr 120 5 (h30000.length) (eF cGBody h30000))]⟩) (by kernel_rfl))) lk))
  rintro ⟨j13, j14, j15, j16⟩ hx
  subst hx
  try dsimp only at h
  refine then_n (pwp_seq (pwp_region (pn hG 2 [4, 5, 10] [4, 5, 10, 30000] [(10, .ptr 10 0)] [(10, .box (([.int .i64 (0)]).map .t))] (pe (then_n (pwp_seq (pwp_region (pn hG 2 [4, 5, 10, 60, 61] [4, 5, 10, 30000] [(60, .t (eExpr ((Expr.mk j13 j14 j15 j16)))), (61, .fn (.func 93) 0 [.ptr 10 0])] [] ?_))))))))
  refine os ⟨[(4, .ptr 4 0), (5, .ptr 5 0), (10, .ptr 10 0), (60, .t (eExpr ((Expr.mk j13 j14 j15 j16)))), (61, .fn (.func 93) 0 [.ptr 10 0])], [(4, .box [iV 0, iV 0, .t (.str (⟨#[]⟩)), .nil, bV false]), (5, .box [iV j13, iV j14, .t (.str (j15)), .t (.lz (.exprs (j16)))]), (10, .box (([.int .i64 (0)]).map .t)), (30000, .arr 120 5 (h30000.length) (eF cGBody h30000))]⟩ (pops_weak (Le.rn hG (o := 10) (o' := 30001) rfl) ?_)
  obtain ⟨r24, hr25, h⟩ := bnd h
  refine ch hG [30001] [30001] [] (nf := 0) (caps := []) (aps := [.t (eExpr ((Expr.mk j13 j14 j15 j16))), .fn (.func 93) 0 [.ptr 30001 0]]) rfl rfl rfl rfl callable92 (.cons (.same _) (.cons (.same _) .nil)) (F92s0_ok n _ _ _ hr25) (pe (then_n (pwp_seq (sn hG [4, 5, 64] [4, 5, 30000] [(64, bV (decide (r24 > 1000)))] [] (iw h (fun h => ?_) (fun h => ?_))))))
  refine pwp_seq (pwp_region (pn hG 2 [4] [4, 30000] [] [] (pe (then_n (ws ⟨[(4, .ptr 4 0)], [(4, .box [iV 0, iV 0, .t (.str (⟨#[]⟩)), .nil, bV false]), (30000, .arr 120 5 (h30000.length) (eF cGBody h30000))]⟩ (pwp_weak (Le.obj (o := 4) (.box ([(.int .i64 (0)), (.int .i64 (0)), (.str (⟨#[]⟩)), (.lz (.exprs (([] : List Expr)))), (.bool (false))].map .t)) rfl (fun _ _ _ => le_box (.same (.same (.same (.empty rfl (.same (.nil)))))))) (kw [4] [4, 30000] ?_)))))))
  cases h
  exact pwp_ret (then_ret (retH_at [30000] (.inr rfl) (by kernel_rfl)))
  refine pwp_skip (then_n (pwp_seq (pwp_region (pn hG 3 [4] [4, 30000] [] [(4, .box [iV j13, iV j14, .t (.str (j15)), .t (.lz (.exprs (j16))), bV true])] (pe (then_n (kw [4] [4, 30000] ?_)))))))
  cases h
  exact pwp_ret (retH_at [30000] (.inr rfl) (by kernel_rfl))
  rintro y27 e s hx hq
  subst hx
  try dsimp only at h
  cases h
  obtain ⟨hne, rfl, hq⟩ := hq
  exact ⟨_, Le.refl, then_ret (hq)⟩
  try dsimp only at h
  obtain ⟨rfl, hq⟩ := hq
  cases h
  exact ⟨_, Le.refl, blk_ret (then_ret (hq))⟩

def F62_L0 (n : Nat) (a0 : List GFunc) : ((List GBody) × Int) → Option (((List GBody) × Int) ⊕ ((List GBody)))
  | (v1, v2) => if (decide (v2 < ((a0.length : Int)))) = true then (if 0 ≤ v2 ∧ v2 < (a0.length : Int) then ((F85s0 n ((a0.getD (v2).toNat default).Body) v1).bind fun r6 => if (v1.length + 1) * 64 ≤ 140737488355328 then (some (.inl ((v1 ++ ([r6]), IntKind.i64.wrap (v2 + 1))))) else none) else none) else (some (.inr (v1)))
def F62 (n : Nat) (a0 : List GFunc) (a1 : Expr) : Option (Expr × Bool) := Option.bind (iterM (F62_L0 n a0) n ((([] : List GBody), 0))) fun b3 => (F85s0 n a1 b3).bind fun r11 => Option.bind (if (!r11.ok_) = true then (some (true)) else ((F86 n r11.e_).bind fun r17 => some (decide (r17 > 12))) : Option (Bool)) fun j13 => if (j13) = true then (some (((Expr.mk 0 0 (⟨#[]⟩) (([] : List Expr))), false))) else (some ((r11.e_, true)))
abbrev I62 : Inf := ⟨look tiL, [], 39⟩
set_option maxRecDepth 20000 in
theorem F62_ok (n : Nat) (a0 : List GFunc) (a1 : Expr) (y : Expr × Bool) (h : F62 n a0 a1 = some y) : PCall Proofs.Try.prog 62 [.t (eL cGFunc (a0)), .t (eExpr a1)] [] [] (Ret (.tup [.t (eExpr y.1), .t (.bool (y.2))])) := by
  refine pcall_of (I := I62) Proofs.Try.func62 rfl ti_ok Proofs.Try.ntmps62 (le_n (by kernel_rfl)) (fun E hG => ?_)
  unfold F62 at h
  refine sn hG [0, 3, 4] [3, 4] [(3, .ptr 3 0), (4, .ptr 4 0)] [(3, .box ((exprCells (a1)).map .t)), (4, .box [iV 0, iV 0, .t (.str (⟨#[]⟩)), .nil])] (sn hG [0, 3, 4, 6] [3, 4] [(6, .nil)] [] (pwp_seq (sn hG [3, 4, 6, 10, 11, 12] [3, 4] [(10, .t (eL cGFunc (a0))), (11, iV ((a0.length : Int))), (12, iV 0)] [] (ws ⟨[(3, .ptr 3 0), (4, .ptr 4 0), (6, .nil), (10, .t (eL cGFunc (a0))), (11, iV ((a0.length : Int))), (12, iV 0)], [(3, .box ((exprCells (a1)).map .t)), (4, .box [iV 0, iV 0, .t (.str (⟨#[]⟩)), .nil])]⟩ (pwp_weak (Le.thaw (t := 6) (o := 6) (e := 120) (s := 5) (f := eF cGBody ([] : List GBody)) hG rfl) ?_)))))
  obtain ⟨b3, hR10, h⟩ := bnd h
  refine lp (F62_L0 n a0) (fun (s : (List GBody) × Int) => match s with | (v1, v2) => (⟨[(3, .ptr 3 0), (4, .ptr 4 0), (6, .own 6), (10, .t (eL cGFunc (a0))), (11, iV ((a0.length : Int))), (12, iV v2)], [(3, .box ((exprCells (a1)).map .t)), (4, .box [iV 0, iV 0, .t (.str (⟨#[]⟩)), .nil]), (6, .arr 120 5 (v1.length) (eF cGBody v1))]⟩ : St)) (fun (x0 : (List GBody)) (e : Exit) (s : St) => e = .exit 0 ∧ Le E s ((fun (b3 : (List GBody)) => (⟨[(3, .ptr 3 0), (4, .ptr 4 0), (6, .own 6)], [(3, .box ((exprCells (a1)).map .t)), (4, .box [iV 0, iV 0, .t (.str (⟨#[]⟩)), .nil]), (6, .arr 120 5 (b3.length) (eF cGBody b3))]⟩ : St)) x0)) ?_ n ((([] : List GBody), 0)) b3 hR10 ?_
  rintro ⟨v1, v2⟩ x h
  rw [F62_L0] at h
  refine sn hG [3, 4, 6, 10, 11, 12, 13] [3, 4, 6] [(13, bV (decide (v2 < ((a0.length : Int)))))] [] (pwp_seq (iw h (fun h => ?_) (fun h => ?_)))
  refine pwp_skip (then_n (pwp_seq (pwp_block (pwp_seq (pwp_region ?_)))))
  obtain ⟨hc5, h⟩ := grd h
  refine pc hG 4 [3, 4, 6, 8, 10, 11, 12] [3, 4, 6, 8] [(8, .ptr 8 0)] [(8, .box ((cGFunc (a0.getD (v2).toNat default)).map .t))] hc5 (pe (then_n (pwp_region (pn hG 4 [3, 4, 10, 11, 12, 16, 18, 19] [3, 4, 6] [(16, .own 6), (18, .t (eExpr ((a0.getD (v2).toNat default).Body))), (19, .own 6)] [] (os ⟨[(3, .ptr 3 0), (4, .ptr 4 0), (10, .t (eL cGFunc (a0))), (11, iV ((a0.length : Int))), (12, iV v2), (16, .own 6), (18, .t (eExpr ((a0.getD (v2).toNat default).Body))), (19, .own 6)], [(3, .box ((exprCells (a1)).map .t)), (4, .box [iV 0, iV 0, .t (.str (⟨#[]⟩)), .nil]), (6, .arr 120 5 (v1.length) (eF cGBody v1))]⟩ (pops_weak (Le.rn hG (o := 6) (o' := 30000) rfl) ?_))))))
  obtain ⟨r6, hr7, h⟩ := bnd h
  refine ch hG [30000] [30000] [] (nf := 0) (caps := []) (aps := [.t (eExpr ((a0.getD (v2).toNat default).Body)), .own 30000]) rfl rfl rfl rfl callable85 (.cons (.same _) (.cons (.same _) .nil)) (F85s0_ok n _ _ _ hr7) ?_
  obtain ⟨hc8, h⟩ := grd h
  refine pd hG 2 [3, 4, 10, 11, 12, 22] [3, 4, 22] [(22, .own 22)] [(22, .arr 120 5 (v1.length + 1) (appF (v1.length) (eF cGBody v1) (arrOf [.int .i64 (r6.e_.Op), .int .i64 (r6.e_.N), .str (r6.e_.S), .lz (.exprs (r6.e_.Args)), .bool (r6.ok_)] 5)))] (Cs := [appC (v1.length) (1) 64 5 (arrOf [.int .i64 (r6.e_.Op), .int .i64 (r6.e_.N), .str (r6.e_.S), .lz (.exprs (r6.e_.Args)), .bool (r6.ok_)] 5)]) ⟨hc8, ok_one rfl⟩ (os ⟨[(3, .ptr 3 0), (4, .ptr 4 0), (10, .t (eL cGFunc (a0))), (11, iV ((a0.length : Int))), (12, iV v2), (22, .own 22)], [(3, .box ((exprCells (a1)).map .t)), (4, .box [iV 0, iV 0, .t (.str (⟨#[]⟩)), .nil]), (22, .arr 120 5 (v1.length + 1) (appF (v1.length) (eF cGBody v1) (arrOf [.int .i64 (r6.e_.Op), .int .i64 (r6.e_.N), .str (r6.e_.S), .lz (.exprs (r6.e_.Args)), .bool (r6.ok_)] 5)))]⟩ (pops_weak (Le.obj (o := 22) (.arr 120 5 ((v1 ++ ([r6])).length) (eF cGBody (v1 ++ ([r6])))) rfl (fun _ _ _ => ObjR.row (by simp) (row_snoc cGBody v1 r6 _ rfl))) (pn hG 1 [3, 4, 6, 10, 11, 12] [3, 4, 22] [(6, .own 22)] [(22, .arr 120 5 ((v1 ++ ([r6])).length) (eF cGBody (v1 ++ ([r6]))))] (pe (blk_n (then_n (rn hG [3, 4, 6, 10, 11, 12] [3, 4, 22] [(12, iV (IntKind.i64.wrap (v2 + 1)))] [] ?_)))))))
  cases h
  exact round_in (Le.trans (ls ⟨[(3, .ptr 3 0), (4, .ptr 4 0), (6, .own 22), (10, .t (eL cGFunc (a0))), (11, iV ((a0.length : Int))), (12, iV (IntKind.i64.wrap (v2 + 1)))], [(3, .box ((exprCells (a1)).map .t)), (4, .box [iV 0, iV 0, .t (.str (⟨#[]⟩)), .nil]), (22, .arr 120 5 ((v1 ++ ([r6])).length) (eF cGBody (v1 ++ ([r6]))))]⟩) (Le.trans (Le.rename (o := 22) (o' := 6) hG (by decide) rfl) lk))
  cases h
  exact pwp_exit (then_exit (round_out (by simp) (And.intro rfl lk)))
  intro e s hq
  try dsimp only at h
  obtain ⟨rfl, hle⟩ := hq
  refine ⟨_, hle, blk_hit ?_⟩
  refine then_n (pwp_seq (pwp_region (pn hG 2 [4, 24, 25] [4, 6] [(24, .t (eExpr a1)), (25, .own 6)] [] (os ⟨[(4, .ptr 4 0), (24, .t (eExpr a1)), (25, .own 6)], [(4, .box [iV 0, iV 0, .t (.str (⟨#[]⟩)), .nil]), (6, .arr 120 5 (b3.length) (eF cGBody b3))]⟩ (pops_weak (Le.rn hG (o := 6) (o' := 30000) rfl) ?_)))))
  obtain ⟨r11, hr12, h⟩ := bnd h
  refine ch hG [30000] [30000] [] (nf := 0) (caps := []) (aps := [.t (eExpr a1), .own 30000]) rfl rfl rfl rfl callable85 (.cons (.same _) (.cons (.same _) .nil)) (F85s0_ok n _ _ _ hr12) (pn hG 2 [4, 9] [4, 9] [(9, .ptr 9 0)] [(9, .box ((cGBody (r11)).map .t))] (pe (then_n (pwp_seq (pwp_seq ?_)))))
  obtain ⟨j13, hj15, h⟩ := bnd h
  refine jn [4, 9, 35] [4, 9] [(35, bV j13)] [] ?_ ?_
  replace h := hj15; clear hj15
  refine pwp_region (pn hG 4 [4, 9, 30] [4, 9] [(30, bV (!r11.ok_))] [] (io 30 h (fun h => ?_) (fun h => ?_)))
  refine pn hG 5 [4, 9, 35] [4, 9] [(35, bV true)] [] ?_
  cases h
  exact pe fl
  refine pn hG 2 [4, 9, 30, 32] [4, 9] [(32, .t (eExpr r11.e_))] [] ?_
  obtain ⟨r17, hr18, h⟩ := bnd h
  refine ca hG [] rfl rfl rfl rfl callable86 (.cons (.same _) .nil) (F86_ok n _ _ hr18) (pn hG 2 [4, 9, 35] [4, 9] [(35, bV (decide (r17 > 12)))] [] ?_)
  cases h
  exact pe fl
  refine then_n (iw h (fun h => ?_) (fun h => ?_))
  refine pwp_seq (pwp_region (pn hG 3 [4, 5] [4] [(5, bV false)] [] (pe (then_n (ws ⟨[(4, .ptr 4 0), (5, bV false)], [(4, .box [iV 0, iV 0, .t (.str (⟨#[]⟩)), .nil])]⟩ (pwp_weak (Le.obj (o := 4) (.box ([(.int .i64 (0)), (.int .i64 (0)), (.str (⟨#[]⟩)), (.lz (.exprs (([] : List Expr))))].map .t)) rfl (fun _ _ _ => le_box (.same (.same (.same (.empty rfl (.nil))))))) ?_))))))
  cases h
  exact pwp_ret (then_ret rt)
  refine pwp_skip (then_n (pwp_seq (pwp_region (pn hG 4 [4, 5] [4] [(5, bV true)] [(4, .box ((exprCells (r11.e_)).map .t))] (pe (then_n ?_))))))
  cases h
  exact pwp_ret rt

def F44s1_L0 (recF63 : Expr → Expr → Option (Bool)) (n : Nat) (a0 : List Expr) (a1 : List Expr) : Int → Option ((Int) ⊕ ((Unit) ⊕ (Bool)))
  | v2 => if (decide (v2 < ((a0.length : Int)))) = true then (if 0 ≤ v2 ∧ v2 < (a0.length : Int) then (if 0 ≤ v2 ∧ v2 < (a1.length : Int) then ((recF63 (a0.getD (v2).toNat default) (a1.getD (v2).toNat default)).bind fun r6 => if (!r6) = true then (some (.inr (.inr (false)))) else (some (.inl (IntKind.i64.wrap (v2 + 1))))) else none) else none) else (some (.inr (.inl (()))))
def F44s1 (recF63 : Expr → Expr → Option (Bool)) (n : Nat) (a0 : List Expr) (a1 : List Expr) : Option (Bool) := if (((a0.length : Int)) != ((a1.length : Int))) = true then (some (false)) else (Option.bind (iterM (F44s1_L0 recF63 n a0 a1) n (0)) fun R9 => match R9 with | .inl (_) => (some (true)) | .inr (y11) => (some (y11)))
abbrev I44s1 : Inf := ⟨look tiL, [], 32⟩
set_option maxRecDepth 20000 in
theorem F44s1_ok (recF63 : Expr → Expr → Option (Bool)) (ihF63 : ∀ (a0 : Expr) (a1 : Expr) (y : Bool) (_ : recF63 a0 a1 = some y), PCall Proofs.Try.prog 63 [.t (eExpr a0), .t (eExpr a1)] [] [] (Ret (.t (.bool (y))))) (n : Nat) (a0 : List Expr) (a1 : List Expr) (y : Bool) (h : F44s1 recF63 n a0 a1 = some y) : PCall Proofs.Try.prog 44 [.t (.lz (.exprs (a0))), .t (.lz (.exprs (a1))), .fn (.func 63) 0 []] [] [] (RetH (.t (.bool (y))) []) := by
  refine pcall_of (I := I44s1) Proofs.Try.func44 rfl ti_ok Proofs.Try.ntmps44 (le_n (by kernel_rfl)) (fun E hG => ?_)
  unfold F44s1 at h
  refine sn hG [0, 1, 2] [] [] [] (pwp_seq (sn hG [0, 1, 2, 14] [] [(14, bV (((a0.length : Int)) != ((a1.length : Int))))] [] (iw h (fun h => ?_) (fun h => ?_))))
  refine sn hG [6] [] [(6, bV false)] [] (kw [6] [] ?_)
  cases h
  exact pwp_ret (then_ret (retH_at [] (.inr rfl) (by kernel_rfl)))
  refine pwp_skip (then_n (pwp_seq (sn hG [1, 2, 15, 16, 17] [] [(15, .t (.lz (.exprs (a0)))), (16, iV ((a0.length : Int))), (17, iV 0)] [] ?_)))
  obtain ⟨R9, hR10, h⟩ := bnd h
  refine lp (F44s1_L0 recF63 n a0 a1) (fun (v2 : Int) => (⟨[(1, .t (.lz (.exprs (a1)))), (2, .fn (.func 63) 0 []), (15, .t (.lz (.exprs (a0)))), (16, iV ((a0.length : Int))), (17, iV v2)], []⟩ : St)) (fun (r : (Unit) ⊕ (Bool)) (e : Exit) (s : St) => match r with | .inl (x0) => e = .exit 0 ∧ Le E s ((fun (_ : Unit) => (⟨[], []⟩ : St)) x0) | .inr (y0) => e = .ret ∧ finQ I44s1 Proofs.Try.f44.results.toList (RetH (bV y0) []) .ret s) ?_ n (0) R9 hR10 ?_
  intro v2 x h
  rw [F44s1_L0] at h
  refine sn hG [1, 2, 15, 16, 17, 18] [] [(18, bV (decide (v2 < ((a0.length : Int)))))] [] (pwp_seq (iw h (fun h => ?_) (fun h => ?_)))
  refine pwp_skip (then_n (pwp_seq (pwp_block (pwp_seq (pwp_region ?_)))))
  obtain ⟨hc4, h⟩ := grd h
  refine pc hG 6 [1, 2, 7, 8, 15, 16, 17] [8] [(7, iV v2), (8, .ptr 8 0)] [(8, .box ((exprCells (a0.getD (v2).toNat default)).map .t))] hc4 (pe (then_n (pwp_seq (pwp_region ?_))))
  obtain ⟨hc5, h⟩ := grd h
  refine pc hG 6 [1, 2, 8, 9, 15, 16, 17] [8, 9] [(9, .ptr 9 0)] [(9, .box ((exprCells (a1.getD (v2).toNat default)).map .t))] hc5 (pe (then_n (pwp_seq (pwp_region (pn hG 3 [1, 2, 15, 16, 17, 26, 27, 28] [] [(26, .fn (.func 63) 0 []), (27, .t (eExpr (a0.getD (v2).toNat default))), (28, .t (eExpr (a1.getD (v2).toNat default)))] [] ?_)))))
  obtain ⟨r6, hr7, h⟩ := bnd h
  refine ca hG [] rfl rfl rfl rfl callable63 (.cons (.same _) (.cons (.same _) .nil)) (ihF63 _ _ _ hr7) (pn hG 1 [1, 2, 15, 16, 17, 30] [] [(30, bV (!r6))] [] (pe (then_n (iw h (fun h => ?_) (fun h => ?_)))))
  refine sn hG [6] [] [(6, bV false)] [] (kw [6] [] ?_)
  cases h
  exact pwp_ret (blk_ret (then_ret (round_out (by simp) (And.intro rfl (retH_at [] (.inr rfl) (by kernel_rfl))))))
  refine pwp_skip (blk_n (then_n (rn hG [1, 2, 15, 16, 17] [] [(17, iV (IntKind.i64.wrap (v2 + 1)))] [] ?_)))
  cases h
  exact round_in lk
  cases h
  exact pwp_exit (then_exit (round_out (by simp) (And.intro rfl lk)))
  intro e s hq
  rcases R9 with _ | y11
  try dsimp only at h
  obtain ⟨rfl, hle⟩ := hq
  refine ⟨_, hle, blk_hit ?_⟩
  refine then_n (sn hG [6] [] [(6, bV true)] [] (kw [6] [] ?_))
  cases h
  exact pwp_ret (retH_at [] (.inr rfl) (by kernel_rfl))
  try dsimp only at h
  obtain ⟨rfl, hq⟩ := hq
  cases h
  exact ⟨_, Le.refl, blk_ret (then_ret (hq))⟩

def F63 : Nat → Expr → Expr → Option (Bool)
  | 0, _, _ => none
  | n + 1, a0, a1 => Option.bind (if (a0.Op == a1.Op) = true then (if (a0.N == a1.N) = true then (if ((a0.S : ByteArray).toList == (a1.S : ByteArray).toList) = true then ((F44s1 (F63 n) n a0.Args a1.Args).bind fun r7 => some (r7)) else (some (false))) else (some (false))) else (some (false)) : Option (Bool)) fun j1 => some (j1)
abbrev I63 : Inf := ⟨look tiL, [], 31⟩
set_option maxRecDepth 20000 in
theorem F63_ok (n : Nat) : ∀ (a0 : Expr) (a1 : Expr) (y : Bool) (_ : F63 n a0 a1 = some y), PCall Proofs.Try.prog 63 [.t (eExpr a0), .t (eExpr a1)] [] [] (Ret (.t (.bool (y)))) := by
  induction n with
  | zero => intro a0 a1 y h; cases h
  | succ n ih =>
  intro a0 a1 y h
  refine pcall_of (I := I63) Proofs.Try.func63 rfl ti_ok Proofs.Try.ntmps63 (le_n (by kernel_rfl)) (fun E hG => ?_)
  rw [F63] at h
  refine sn hG [2, 3] [2, 3] [(2, .ptr 2 0), (3, .ptr 3 0)] [(2, .box ((exprCells (a0)).map .t)), (3, .box ((exprCells (a1)).map .t))] (pwp_seq ?_)
  obtain ⟨j1, hj3, h⟩ := bnd h
  refine jn [4] [] [(4, bV j1)] [] ?_ ?_
  replace h := hj3; clear hj3
  refine pwp_region (pn hG 6 [2, 3, 10] [2, 3] [(10, bV (a0.Op == a1.Op))] [] (io 10 h (fun h => ?_) (fun h => ?_)))
  refine pn hG 7 [2, 3, 17] [2, 3] [(17, bV (a0.N == a1.N))] [] (io 17 h (fun h => ?_) (fun h => ?_))
  refine pn hG 7 [2, 3, 24] [2, 3] [(24, bV ((a0.S : ByteArray).toList == (a1.S : ByteArray).toList))] [] (io 24 h (fun h => ?_) (fun h => ?_))
  refine pn hG 4 [24, 26, 28] [] [(26, .t (.lz (.exprs (a0.Args)))), (28, .t (.lz (.exprs (a1.Args))))] [] ?_
  obtain ⟨r7, hr8, h⟩ := bnd h
  refine ch hG [] [] [] (nf := 0) (caps := []) (aps := [.t (.lz (.exprs (a0.Args))), .t (.lz (.exprs (a1.Args))), .fn (.func 63) 0 []]) rfl rfl rfl rfl callable44 (.cons (.same _) (.cons (.same _) (.cons (.same _) .nil))) (F44s1_ok (F63 n) ih n _ _ _ hr8) (pn hG 2 [4] [] [(4, bV r7)] [] ?_)
  cases h
  exact pe fl
  refine pn hG 7 [4] [] [(4, bV false)] [] ?_
  cases h
  exact pe fl
  refine pn hG 14 [4] [] [(4, bV false)] [] ?_
  cases h
  exact pe fl
  refine pn hG 21 [4] [] [(4, bV false)] [] ?_
  cases h
  exact pe fl
  refine then_n ?_
  cases h
  exact pwp_ret rt

def F45s0 (n : Nat) (a1 : Expr) (a2 : Expr) (h30000_0 : List GFunc) (h30000_1 : List GNode) (h30000_2 : List GFunc) (h30000_3 : List GNode) (h30001 : List (List Int × Bool)) : Option (Bool) := (F62 n h30000_0 a1).bind fun r1 => (F62 n h30000_2 a2).bind fun r3 => Option.bind (if (r1.2) = true then (if (r3.2) = true then ((F63 n r1.1 r3.1).bind fun r10 => some (r10)) else (some (false))) else (some (false)) : Option (Bool)) fun j5 => some (j5)
abbrev I45s0 : Inf := ⟨look tiL, [30000, 30001], 40⟩
set_option maxRecDepth 20000 in
theorem F45s0_ok (n : Nat) (a1 : Expr) (a2 : Expr) (h30000_0 : List GFunc) (h30000_1 : List GNode) (h30000_2 : List GFunc) (h30000_3 : List GNode) (h30001 : List (List Int × Bool)) (y : Bool) (h : F45s0 n a1 a2 h30000_0 h30000_1 h30000_2 h30000_3 h30001 = some y) : PCall Proofs.Try.prog 45 [.ptr 30000 0, .t (eExpr a1), .t (eExpr a2)] [(30000, .box [.t (eL cGFunc (h30000_0)), .t (eL cGNode (h30000_1)), .t (eL cGFunc (h30000_2)), .t (eL cGNode (h30000_3)), .map 30001]), (30001, .mpb 2 (h30001))] [30000, 30001] (RetH (.t (.bool (y))) [(30000, .box [.t (eL cGFunc (h30000_0)), .t (eL cGNode (h30000_1)), .t (eL cGFunc (h30000_2)), .t (eL cGNode (h30000_3)), .map 30001]), (30001, .mpb 2 (h30001))]) := by
  refine pcall_of (I := I45s0) Proofs.Try.func45 rfl ti_ok Proofs.Try.ntmps45 (le_n (by kernel_rfl)) (fun E hG => ?_)
  unfold F45s0 at h
  refine sn hG [0, 4, 5] [4, 5, 30000, 30001] [(4, .ptr 4 0), (5, .ptr 5 0)] [(4, .box ((exprCells (a1)).map .t)), (5, .box ((exprCells (a2)).map .t))] (pwp_seq ?_)
  obtain ⟨r1, hr2, h⟩ := bnd h
  refine ln hG [(6, 62, [.t (eL cGFunc (h30000_0)), .t (eExpr a1)], .tup [.t (eExpr r1.1), bV r1.2])] [] [] [(7, true, [10, 11]), (4, false, []), (5, false, []), (30000, false, []), (30001, false, [])] [0, 4, 5] (.cons ⟨callable62, ⟨_, fun _ => (.cons (.same _) (.cons (.same _) .nil)), F62_ok n _ _ _ hr2⟩, rfl⟩ .nil) .nil .nil [0, 5, 7, 8] [5, 7, 30000, 30001] [(7, .ptr 7 0), (8, bV r1.2)] [(7, .box ((exprCells (r1.1)).map .t))] (then_n (pwp_seq ?_))
  obtain ⟨r3, hr4, h⟩ := bnd h
  refine ln hG [(6, 62, [.t (eL cGFunc (h30000_2)), .t (eExpr a2)], .tup [.t (eExpr r3.1), bV r3.2])] [] [] [(9, true, [10, 11]), (5, false, []), (7, false, []), (30000, false, []), (30001, false, [])] [0, 5, 7, 8] (.cons ⟨callable62, ⟨_, fun _ => (.cons (.same _) (.cons (.same _) .nil)), F62_ok n _ _ _ hr4⟩, rfl⟩ .nil) .nil .nil [7, 8, 9, 10] [7, 9, 30000, 30001] [(9, .ptr 9 0), (10, bV r3.2)] [(9, .box ((exprCells (r3.1)).map .t))] (then_n (pwp_seq ?_))
  obtain ⟨j5, hj7, h⟩ := bnd h
  refine jn [6] [30000, 30001] [(6, bV j5)] [] ?_ ?_
  replace h := hj7; clear hj7
  refine pwp_region (pn hG 2 [7, 9, 10, 32] [7, 9, 30000, 30001] [(32, bV r1.2)] [] (io 32 h (fun h => ?_) (fun h => ?_)))
  refine pn hG 3 [7, 9, 35] [7, 9, 30000, 30001] [(35, bV r3.2)] [] (io 35 h (fun h => ?_) (fun h => ?_))
  refine pn hG 2 [35, 36, 37] [30000, 30001] [(36, .t (eExpr r1.1)), (37, .t (eExpr r3.1))] [] ?_
  obtain ⟨r10, hr11, h⟩ := bnd h
  refine ca hG [] rfl rfl rfl rfl callable63 (.cons (.same _) (.cons (.same _) .nil)) (F63_ok n _ _ _ hr11) (pn hG 2 [6] [30000, 30001] [(6, bV r10)] [] ?_)
  cases h
  exact pe fl
  refine pn hG 5 [6] [30000, 30001] [(6, bV false)] [] ?_
  cases h
  exact pe fl
  refine pn hG 8 [6] [30000, 30001] [(6, bV false)] [] ?_
  cases h
  exact pe fl
  refine then_n (kw [6] [30000, 30001] ?_)
  cases h
  exact pwp_ret (retH_at [30000, 30001] (.inr rfl) (by kernel_rfl))

def F44s0_L0 (n : Nat) (a0 : List Expr) (a1 : List Expr) (h30000_0 : List GFunc) (h30000_1 : List GNode) (h30000_2 : List GFunc) (h30000_3 : List GNode) (h30001 : List (List Int × Bool)) : Int → Option ((Int) ⊕ ((Unit) ⊕ (Bool)))
  | v2 => if (decide (v2 < ((a0.length : Int)))) = true then (if 0 ≤ v2 ∧ v2 < (a0.length : Int) then (if 0 ≤ v2 ∧ v2 < (a1.length : Int) then ((F45s0 n (a0.getD (v2).toNat default) (a1.getD (v2).toNat default) h30000_0 h30000_1 h30000_2 h30000_3 h30001).bind fun r6 => if (!r6) = true then (some (.inr (.inr (false)))) else (some (.inl (IntKind.i64.wrap (v2 + 1))))) else none) else none) else (some (.inr (.inl (()))))
def F44s0 (n : Nat) (a0 : List Expr) (a1 : List Expr) (h30000_0 : List GFunc) (h30000_1 : List GNode) (h30000_2 : List GFunc) (h30000_3 : List GNode) (h30001 : List (List Int × Bool)) : Option (Bool) := if (((a0.length : Int)) != ((a1.length : Int))) = true then (some (false)) else (Option.bind (iterM (F44s0_L0 n a0 a1 h30000_0 h30000_1 h30000_2 h30000_3 h30001) n (0)) fun R9 => match R9 with | .inl (_) => (some (true)) | .inr (y11) => (some (y11)))
abbrev I44s0 : Inf := ⟨look tiL, [30000, 30001], 32⟩
set_option maxRecDepth 20000 in
theorem F44s0_ok (n : Nat) (a0 : List Expr) (a1 : List Expr) (h30000_0 : List GFunc) (h30000_1 : List GNode) (h30000_2 : List GFunc) (h30000_3 : List GNode) (h30001 : List (List Int × Bool)) (y : Bool) (h : F44s0 n a0 a1 h30000_0 h30000_1 h30000_2 h30000_3 h30001 = some y) : PCall Proofs.Try.prog 44 [.t (.lz (.exprs (a0))), .t (.lz (.exprs (a1))), .fn (.func 45) 1 [.ptr 30000 0]] [(30000, .box [.t (eL cGFunc (h30000_0)), .t (eL cGNode (h30000_1)), .t (eL cGFunc (h30000_2)), .t (eL cGNode (h30000_3)), .map 30001]), (30001, .mpb 2 (h30001))] [30000, 30001] (RetH (.t (.bool (y))) [(30000, .box [.t (eL cGFunc (h30000_0)), .t (eL cGNode (h30000_1)), .t (eL cGFunc (h30000_2)), .t (eL cGNode (h30000_3)), .map 30001]), (30001, .mpb 2 (h30001))]) := by
  refine pcall_of (I := I44s0) Proofs.Try.func44 rfl ti_ok Proofs.Try.ntmps44 (le_n (by kernel_rfl)) (fun E hG => ?_)
  unfold F44s0 at h
  refine sn hG [0, 1, 2] [30000, 30001] [] [] (pwp_seq (sn hG [0, 1, 2, 14] [30000, 30001] [(14, bV (((a0.length : Int)) != ((a1.length : Int))))] [] (iw h (fun h => ?_) (fun h => ?_))))
  refine sn hG [6] [30000, 30001] [(6, bV false)] [] (kw [6] [30000, 30001] ?_)
  cases h
  exact pwp_ret (then_ret (retH_at [30000, 30001] (.inr rfl) (by kernel_rfl)))
  refine pwp_skip (then_n (pwp_seq (sn hG [1, 2, 15, 16, 17] [30000, 30001] [(15, .t (.lz (.exprs (a0)))), (16, iV ((a0.length : Int))), (17, iV 0)] [] ?_)))
  obtain ⟨R9, hR10, h⟩ := bnd h
  refine lp (F44s0_L0 n a0 a1 h30000_0 h30000_1 h30000_2 h30000_3 h30001) (fun (v2 : Int) => (⟨[(1, .t (.lz (.exprs (a1)))), (2, .fn (.func 45) 1 [.ptr 30000 0]), (15, .t (.lz (.exprs (a0)))), (16, iV ((a0.length : Int))), (17, iV v2)], [(30000, .box [.t (eL cGFunc (h30000_0)), .t (eL cGNode (h30000_1)), .t (eL cGFunc (h30000_2)), .t (eL cGNode (h30000_3)), .map 30001]), (30001, .mpb 2 (h30001))]⟩ : St)) (fun (r : (Unit) ⊕ (Bool)) (e : Exit) (s : St) => match r with | .inl (x0) => e = .exit 0 ∧ Le E s ((fun (_ : Unit) => (⟨[], [(30000, .box [.t (eL cGFunc (h30000_0)), .t (eL cGNode (h30000_1)), .t (eL cGFunc (h30000_2)), .t (eL cGNode (h30000_3)), .map 30001]), (30001, .mpb 2 (h30001))]⟩ : St)) x0) | .inr (y0) => e = .ret ∧ finQ I44s0 Proofs.Try.f44.results.toList (RetH (bV y0) [(30000, .box [.t (eL cGFunc (h30000_0)), .t (eL cGNode (h30000_1)), .t (eL cGFunc (h30000_2)), .t (eL cGNode (h30000_3)), .map 30001]), (30001, .mpb 2 (h30001))]) .ret s) ?_ n (0) R9 hR10 ?_
  intro v2 x h
  rw [F44s0_L0] at h
  refine sn hG [1, 2, 15, 16, 17, 18] [30000, 30001] [(18, bV (decide (v2 < ((a0.length : Int)))))] [] (pwp_seq (iw h (fun h => ?_) (fun h => ?_)))
  refine pwp_skip (then_n (pwp_seq (pwp_block (pwp_seq (pwp_region ?_)))))
  obtain ⟨hc4, h⟩ := grd h
  refine pc hG 6 [1, 2, 7, 8, 15, 16, 17] [8, 30000, 30001] [(7, iV v2), (8, .ptr 8 0)] [(8, .box ((exprCells (a0.getD (v2).toNat default)).map .t))] hc4 (pe (then_n (pwp_seq (pwp_region ?_))))
  obtain ⟨hc5, h⟩ := grd h
  refine pc hG 6 [1, 2, 8, 9, 15, 16, 17] [8, 9, 30000, 30001] [(9, .ptr 9 0)] [(9, .box ((exprCells (a1.getD (v2).toNat default)).map .t))] hc5 (pe (then_n (pwp_seq (pwp_region (pn hG 3 [1, 2, 15, 16, 17, 26, 27, 28] [30000, 30001] [(26, .fn (.func 45) 1 [.ptr 30000 0]), (27, .t (eExpr (a0.getD (v2).toNat default))), (28, .t (eExpr (a1.getD (v2).toNat default)))] [] ?_)))))
  obtain ⟨r6, hr7, h⟩ := bnd h
  refine ch hG [30000, 30001] [30000, 30001] [] (nf := 1) (caps := [.ptr 30000 0]) (aps := [.t (eExpr (a0.getD (v2).toNat default)), .t (eExpr (a1.getD (v2).toNat default))]) rfl rfl rfl rfl callable45 (.cons (.same _) (.cons (.same _) (.cons (.same _) .nil))) (F45s0_ok n _ _ _ _ _ _ _ _ hr7) (pn hG 1 [1, 2, 15, 16, 17, 30] [30000, 30001] [(30, bV (!r6))] [] (pe (then_n (iw h (fun h => ?_) (fun h => ?_)))))
  refine sn hG [6] [30000, 30001] [(6, bV false)] [] (kw [6] [30000, 30001] ?_)
  cases h
  exact pwp_ret (blk_ret (then_ret (round_out (by simp) (And.intro rfl (retH_at [30000, 30001] (.inr rfl) (by kernel_rfl))))))
  refine pwp_skip (blk_n (then_n (rn hG [1, 2, 15, 16, 17] [30000, 30001] [(17, iV (IntKind.i64.wrap (v2 + 1)))] [] ?_)))
  cases h
  exact round_in lk
  cases h
  exact pwp_exit (then_exit (round_out (by simp) (And.intro rfl lk)))
  intro e s hq
  rcases R9 with _ | y11
  try dsimp only at h
  obtain ⟨rfl, hle⟩ := hq
  refine ⟨_, hle, blk_hit ?_⟩
  refine then_n (sn hG [6] [30000, 30001] [(6, bV true)] [] (kw [6] [30000, 30001] ?_))
  cases h
  exact pwp_ret (retH_at [30000, 30001] (.inr rfl) (by kernel_rfl))
  try dsimp only at h
  obtain ⟨rfl, hq⟩ := hq
  cases h
  exact ⟨_, Le.refl, blk_ret (then_ret (hq))⟩

def F47 (n : Nat) (a0 : GAgg) (a1 : GAgg) : Option (Bool) := Option.bind (if (a0.Kind == a1.Kind) = true then (some (a0.Col == a1.Col)) else (some (false)) : Option (Bool)) fun j1 => some (j1)
abbrev I47 : Inf := ⟨look tiL, [], 17⟩
set_option maxRecDepth 20000 in
theorem F47_ok (n : Nat) (a0 : GAgg) (a1 : GAgg) (y : Bool) (h : F47 n a0 a1 = some y) : PCall Proofs.Try.prog 47 [.t (eGAgg a0), .t (eGAgg a1)] [] [] (Ret (.t (.bool (y)))) := by
  refine pcall_of (I := I47) Proofs.Try.func47 rfl ti_ok Proofs.Try.ntmps47 (le_n (by kernel_rfl)) (fun E hG => ?_)
  unfold F47 at h
  refine sn hG [2, 3] [2, 3] [(2, .ptr 2 0), (3, .ptr 3 0)] [(2, .box ((cGAgg (a0)).map .t)), (3, .box ((cGAgg (a1)).map .t))] (pwp_seq ?_)
  obtain ⟨j1, hj3, h⟩ := bnd h
  refine jn [4] [] [(4, bV j1)] [] ?_ ?_
  replace h := hj3; clear hj3
  refine pwp_region (pn hG 6 [2, 3, 10] [2, 3] [(10, bV (a0.Kind == a1.Kind))] [] (io 10 h (fun h => ?_) (fun h => ?_)))
  refine pn hG 7 [4] [] [(4, bV (a0.Col == a1.Col))] [] ?_
  cases h
  exact pe fl
  refine pn hG 7 [4] [] [(4, bV false)] [] ?_
  cases h
  exact pe fl
  refine then_n ?_
  cases h
  exact pwp_ret rt

def F46s0_L0 (n : Nat) (a0 : List GAgg) (a1 : List GAgg) : Int → Option ((Int) ⊕ ((Unit) ⊕ (Bool)))
  | v2 => if (decide (v2 < ((a0.length : Int)))) = true then (if 0 ≤ v2 ∧ v2 < (a0.length : Int) then (if 0 ≤ v2 ∧ v2 < (a1.length : Int) then ((F47 n (a0.getD (v2).toNat default) (a1.getD (v2).toNat default)).bind fun r6 => if (!r6) = true then (some (.inr (.inr (false)))) else (some (.inl (IntKind.i64.wrap (v2 + 1))))) else none) else none) else (some (.inr (.inl (()))))
def F46s0 (n : Nat) (a0 : List GAgg) (a1 : List GAgg) : Option (Bool) := if (((a0.length : Int)) != ((a1.length : Int))) = true then (some (false)) else (Option.bind (iterM (F46s0_L0 n a0 a1) n (0)) fun R9 => match R9 with | .inl (_) => (some (true)) | .inr (y11) => (some (y11)))
abbrev I46s0 : Inf := ⟨look tiL, [], 32⟩
set_option maxRecDepth 20000 in
theorem F46s0_ok (n : Nat) (a0 : List GAgg) (a1 : List GAgg) (y : Bool) (h : F46s0 n a0 a1 = some y) : PCall Proofs.Try.prog 46 [.t (eL cGAgg (a0)), .t (eL cGAgg (a1)), .fn (.func 47) 0 []] [] [] (RetH (.t (.bool (y))) []) := by
  refine pcall_of (I := I46s0) Proofs.Try.func46 rfl ti_ok Proofs.Try.ntmps46 (le_n (by kernel_rfl)) (fun E hG => ?_)
  unfold F46s0 at h
  refine sn hG [0, 1, 2] [] [] [] (pwp_seq (sn hG [0, 1, 2, 14] [] [(14, bV (((a0.length : Int)) != ((a1.length : Int))))] [] (iw h (fun h => ?_) (fun h => ?_))))
  refine sn hG [6] [] [(6, bV false)] [] (kw [6] [] ?_)
  cases h
  exact pwp_ret (then_ret (retH_at [] (.inr rfl) (by kernel_rfl)))
  refine pwp_skip (then_n (pwp_seq (sn hG [1, 2, 15, 16, 17] [] [(15, .t (eL cGAgg (a0))), (16, iV ((a0.length : Int))), (17, iV 0)] [] ?_)))
  obtain ⟨R9, hR10, h⟩ := bnd h
  refine lp (F46s0_L0 n a0 a1) (fun (v2 : Int) => (⟨[(1, .t (eL cGAgg (a1))), (2, .fn (.func 47) 0 []), (15, .t (eL cGAgg (a0))), (16, iV ((a0.length : Int))), (17, iV v2)], []⟩ : St)) (fun (r : (Unit) ⊕ (Bool)) (e : Exit) (s : St) => match r with | .inl (x0) => e = .exit 0 ∧ Le E s ((fun (_ : Unit) => (⟨[], []⟩ : St)) x0) | .inr (y0) => e = .ret ∧ finQ I46s0 Proofs.Try.f46.results.toList (RetH (bV y0) []) .ret s) ?_ n (0) R9 hR10 ?_
  intro v2 x h
  rw [F46s0_L0] at h
  refine sn hG [1, 2, 15, 16, 17, 18] [] [(18, bV (decide (v2 < ((a0.length : Int)))))] [] (pwp_seq (iw h (fun h => ?_) (fun h => ?_)))
  refine pwp_skip (then_n (pwp_seq (pwp_block (pwp_seq (pwp_region ?_)))))
  obtain ⟨hc4, h⟩ := grd h
  refine pc hG 6 [1, 2, 7, 8, 15, 16, 17] [8] [(7, iV v2), (8, .ptr 8 0)] [(8, .box ((cGAgg (a0.getD (v2).toNat default)).map .t))] hc4 (pe (then_n (pwp_seq (pwp_region ?_))))
  obtain ⟨hc5, h⟩ := grd h
  refine pc hG 6 [1, 2, 8, 9, 15, 16, 17] [8, 9] [(9, .ptr 9 0)] [(9, .box ((cGAgg (a1.getD (v2).toNat default)).map .t))] hc5 (pe (then_n (pwp_seq (pwp_region (pn hG 3 [1, 2, 15, 16, 17, 26, 27, 28] [] [(26, .fn (.func 47) 0 []), (27, .t (eGAgg (a0.getD (v2).toNat default))), (28, .t (eGAgg (a1.getD (v2).toNat default)))] [] ?_)))))
  obtain ⟨r6, hr7, h⟩ := bnd h
  refine ca hG [] rfl rfl rfl rfl callable47 (.cons (.same _) (.cons (.same _) .nil)) (F47_ok n _ _ _ hr7) (pn hG 1 [1, 2, 15, 16, 17, 30] [] [(30, bV (!r6))] [] (pe (then_n (iw h (fun h => ?_) (fun h => ?_)))))
  refine sn hG [6] [] [(6, bV false)] [] (kw [6] [] ?_)
  cases h
  exact pwp_ret (blk_ret (then_ret (round_out (by simp) (And.intro rfl (retH_at [] (.inr rfl) (by kernel_rfl))))))
  refine pwp_skip (blk_n (then_n (rn hG [1, 2, 15, 16, 17] [] [(17, iV (IntKind.i64.wrap (v2 + 1)))] [] ?_)))
  cases h
  exact round_in lk
  cases h
  exact pwp_exit (then_exit (round_out (by simp) (And.intro rfl lk)))
  intro e s hq
  rcases R9 with _ | y11
  try dsimp only at h
  obtain ⟨rfl, hle⟩ := hq
  refine ⟨_, hle, blk_hit ?_⟩
  refine then_n (sn hG [6] [] [(6, bV true)] [] (kw [6] [] ?_))
  cases h
  exact pwp_ret (retH_at [] (.inr rfl) (by kernel_rfl))
  try dsimp only at h
  obtain ⟨rfl, hq⟩ := hq
  cases h
  exact ⟨_, Le.refl, blk_ret (then_ret (hq))⟩

def F49s0 (n : Nat) (a0 : GPat) (a1 : GPat) (h30000_0 : List GFunc) (h30000_1 : List GNode) (h30000_2 : List GFunc) (h30000_3 : List GNode) (h30001 : List (List Int × Bool)) : Option (Bool) := Option.bind (if (a0.Rep == a1.Rep) = true then ((F45s0 n a0.Pred a1.Pred h30000_0 h30000_1 h30000_2 h30000_3 h30001).bind fun r5 => some (r5)) else (some (false)) : Option (Bool)) fun j1 => some (j1)
abbrev I49s0 : Inf := ⟨look tiL, [30000, 30001, 30002], 19⟩
set_option maxRecDepth 20000 in
theorem F49s0_ok (n : Nat) (a0 : GPat) (a1 : GPat) (h30000_0 : List GFunc) (h30000_1 : List GNode) (h30000_2 : List GFunc) (h30000_3 : List GNode) (h30001 : List (List Int × Bool)) (y : Bool) (h : F49s0 n a0 a1 h30000_0 h30000_1 h30000_2 h30000_3 h30001 = some y) : PCall Proofs.Try.prog 49 [.t (eGPat a0), .t (eGPat a1), .ptr 30002 0] [(30000, .box [.t (eL cGFunc (h30000_0)), .t (eL cGNode (h30000_1)), .t (eL cGFunc (h30000_2)), .t (eL cGNode (h30000_3)), .map 30001]), (30001, .mpb 2 (h30001)), (30002, .box [.ptr 30000 0])] [30000, 30001, 30002] (RetH (.t (.bool (y))) [(30000, .box [.t (eL cGFunc (h30000_0)), .t (eL cGNode (h30000_1)), .t (eL cGFunc (h30000_2)), .t (eL cGNode (h30000_3)), .map 30001]), (30001, .mpb 2 (h30001)), (30002, .box [.ptr 30000 0])]) := by
  refine pcall_of (I := I49s0) Proofs.Try.func49 rfl ti_ok Proofs.Try.ntmps49 (le_n (by kernel_rfl)) (fun E hG => ?_)
  unfold F49s0 at h
  refine sn hG [2, 3, 4] [3, 4, 30000, 30001, 30002] [(3, .ptr 3 0), (4, .ptr 4 0)] [(3, .box ((cGPat (a0)).map .t)), (4, .box ((cGPat (a1)).map .t))] (pwp_seq ?_)
  obtain ⟨j1, hj3, h⟩ := bnd h
  refine jn [5] [30000, 30001, 30002] [(5, bV j1)] [] ?_ ?_
  replace h := hj3; clear hj3
  refine pwp_region (pn hG 6 [2, 3, 4, 11] [3, 4, 30000, 30001, 30002] [(11, bV (a0.Rep == a1.Rep))] [] (io 11 h (fun h => ?_) (fun h => ?_)))
  refine pn hG 5 [11, 12, 14, 16] [30000, 30001, 30002] [(12, .ptr 30000 0), (14, .t (eExpr a0.Pred)), (16, .t (eExpr a1.Pred))] [] ?_
  obtain ⟨r5, hr6, h⟩ := bnd h
  refine ch hG [30000, 30001] [30000, 30001] [] (nf := 0) (caps := []) (aps := [.ptr 30000 0, .t (eExpr a0.Pred), .t (eExpr a1.Pred)]) rfl rfl rfl rfl callable45 (.cons (.same _) (.cons (.same _) (.cons (.same _) .nil))) (F45s0_ok n _ _ _ _ _ _ _ _ hr6) (pn hG 2 [5] [30000, 30001, 30002] [(5, bV r5)] [] ?_)
  cases h
  exact pe fl
  refine pn hG 8 [5] [30000, 30001, 30002] [(5, bV false)] [] ?_
  cases h
  exact pe fl
  refine then_n (kw [5] [30000, 30001, 30002] ?_)
  cases h
  exact pwp_ret (retH_at [30000, 30001, 30002] (.inr rfl) (by kernel_rfl))

def F48s0_L0 (n : Nat) (a0 : List GPat) (a1 : List GPat) (h30000_0 : List GFunc) (h30000_1 : List GNode) (h30000_2 : List GFunc) (h30000_3 : List GNode) (h30001 : List (List Int × Bool)) : Int → Option ((Int) ⊕ ((Unit) ⊕ (Bool)))
  | v2 => if (decide (v2 < ((a0.length : Int)))) = true then (if 0 ≤ v2 ∧ v2 < (a0.length : Int) then (if 0 ≤ v2 ∧ v2 < (a1.length : Int) then ((F49s0 n (a0.getD (v2).toNat default) (a1.getD (v2).toNat default) h30000_0 h30000_1 h30000_2 h30000_3 h30001).bind fun r6 => if (!r6) = true then (some (.inr (.inr (false)))) else (some (.inl (IntKind.i64.wrap (v2 + 1))))) else none) else none) else (some (.inr (.inl (()))))
def F48s0 (n : Nat) (a0 : List GPat) (a1 : List GPat) (h30000_0 : List GFunc) (h30000_1 : List GNode) (h30000_2 : List GFunc) (h30000_3 : List GNode) (h30001 : List (List Int × Bool)) : Option (Bool) := if (((a0.length : Int)) != ((a1.length : Int))) = true then (some (false)) else (Option.bind (iterM (F48s0_L0 n a0 a1 h30000_0 h30000_1 h30000_2 h30000_3 h30001) n (0)) fun R9 => match R9 with | .inl (_) => (some (true)) | .inr (y11) => (some (y11)))
abbrev I48s0 : Inf := ⟨look tiL, [30000, 30001, 30002], 32⟩
set_option maxRecDepth 20000 in
theorem F48s0_ok (n : Nat) (a0 : List GPat) (a1 : List GPat) (h30000_0 : List GFunc) (h30000_1 : List GNode) (h30000_2 : List GFunc) (h30000_3 : List GNode) (h30001 : List (List Int × Bool)) (y : Bool) (h : F48s0 n a0 a1 h30000_0 h30000_1 h30000_2 h30000_3 h30001 = some y) : PCall Proofs.Try.prog 48 [.t (eL cGPat (a0)), .t (eL cGPat (a1)), .fn (.func 49) 0 [.ptr 30002 0]] [(30000, .box [.t (eL cGFunc (h30000_0)), .t (eL cGNode (h30000_1)), .t (eL cGFunc (h30000_2)), .t (eL cGNode (h30000_3)), .map 30001]), (30001, .mpb 2 (h30001)), (30002, .box [.ptr 30000 0])] [30000, 30001, 30002] (RetH (.t (.bool (y))) [(30000, .box [.t (eL cGFunc (h30000_0)), .t (eL cGNode (h30000_1)), .t (eL cGFunc (h30000_2)), .t (eL cGNode (h30000_3)), .map 30001]), (30001, .mpb 2 (h30001)), (30002, .box [.ptr 30000 0])]) := by
  refine pcall_of (I := I48s0) Proofs.Try.func48 rfl ti_ok Proofs.Try.ntmps48 (le_n (by kernel_rfl)) (fun E hG => ?_)
  unfold F48s0 at h
  refine sn hG [0, 1, 2] [30000, 30001, 30002] [] [] (pwp_seq (sn hG [0, 1, 2, 14] [30000, 30001, 30002] [(14, bV (((a0.length : Int)) != ((a1.length : Int))))] [] (iw h (fun h => ?_) (fun h => ?_))))
  refine sn hG [6] [30000, 30001, 30002] [(6, bV false)] [] (kw [6] [30000, 30001, 30002] ?_)
  cases h
  exact pwp_ret (then_ret (retH_at [30000, 30001, 30002] (.inr rfl) (by kernel_rfl)))
  refine pwp_skip (then_n (pwp_seq (sn hG [1, 2, 15, 16, 17] [30000, 30001, 30002] [(15, .t (eL cGPat (a0))), (16, iV ((a0.length : Int))), (17, iV 0)] [] ?_)))
  obtain ⟨R9, hR10, h⟩ := bnd h
  refine lp (F48s0_L0 n a0 a1 h30000_0 h30000_1 h30000_2 h30000_3 h30001) (fun (v2 : Int) => (⟨[(1, .t (eL cGPat (a1))), (2, .fn (.func 49) 0 [.ptr 30002 0]), (15, .t (eL cGPat (a0))), (16, iV ((a0.length : Int))), (17, iV v2)], [(30000, .box [.t (eL cGFunc (h30000_0)), .t (eL cGNode (h30000_1)), .t (eL cGFunc (h30000_2)), .t (eL cGNode (h30000_3)), .map 30001]), (30001, .mpb 2 (h30001)), (30002, .box [.ptr 30000 0])]⟩ : St)) (fun (r : (Unit) ⊕ (Bool)) (e : Exit) (s : St) => match r with | .inl (x0) => e = .exit 0 ∧ Le E s ((fun (_ : Unit) => (⟨[], [(30000, .box [.t (eL cGFunc (h30000_0)), .t (eL cGNode (h30000_1)), .t (eL cGFunc (h30000_2)), .t (eL cGNode (h30000_3)), .map 30001]), (30001, .mpb 2 (h30001)), (30002, .box [.ptr 30000 0])]⟩ : St)) x0) | .inr (y0) => e = .ret ∧ finQ I48s0 Proofs.Try.f48.results.toList (RetH (bV y0) [(30000, .box [.t (eL cGFunc (h30000_0)), .t (eL cGNode (h30000_1)), .t (eL cGFunc (h30000_2)), .t (eL cGNode (h30000_3)), .map 30001]), (30001, .mpb 2 (h30001)), (30002, .box [.ptr 30000 0])]) .ret s) ?_ n (0) R9 hR10 ?_
  intro v2 x h
  rw [F48s0_L0] at h
  refine sn hG [1, 2, 15, 16, 17, 18] [30000, 30001, 30002] [(18, bV (decide (v2 < ((a0.length : Int)))))] [] (pwp_seq (iw h (fun h => ?_) (fun h => ?_)))
  refine pwp_skip (then_n (pwp_seq (pwp_block (pwp_seq (pwp_region ?_)))))
  obtain ⟨hc4, h⟩ := grd h
  refine pc hG 6 [1, 2, 7, 8, 15, 16, 17] [8, 30000, 30001, 30002] [(7, iV v2), (8, .ptr 8 0)] [(8, .box ((cGPat (a0.getD (v2).toNat default)).map .t))] hc4 (pe (then_n (pwp_seq (pwp_region ?_))))
  obtain ⟨hc5, h⟩ := grd h
  refine pc hG 6 [1, 2, 8, 9, 15, 16, 17] [8, 9, 30000, 30001, 30002] [(9, .ptr 9 0)] [(9, .box ((cGPat (a1.getD (v2).toNat default)).map .t))] hc5 (pe (then_n (pwp_seq (pwp_region (pn hG 3 [1, 2, 15, 16, 17, 26, 27, 28] [30000, 30001, 30002] [(26, .fn (.func 49) 0 [.ptr 30002 0]), (27, .t (eGPat (a0.getD (v2).toNat default))), (28, .t (eGPat (a1.getD (v2).toNat default)))] [] ?_)))))
  obtain ⟨r6, hr7, h⟩ := bnd h
  refine ch hG [30000, 30001, 30002] [30000, 30001, 30002] [] (nf := 0) (caps := [.ptr 30002 0]) (aps := [.t (eGPat (a0.getD (v2).toNat default)), .t (eGPat (a1.getD (v2).toNat default))]) rfl rfl rfl rfl callable49 (.cons (.same _) (.cons (.same _) (.cons (.same _) .nil))) (F49s0_ok n _ _ _ _ _ _ _ _ hr7) (pn hG 1 [1, 2, 15, 16, 17, 30] [30000, 30001, 30002] [(30, bV (!r6))] [] (pe (then_n (iw h (fun h => ?_) (fun h => ?_)))))
  refine sn hG [6] [30000, 30001, 30002] [(6, bV false)] [] (kw [6] [30000, 30001, 30002] ?_)
  cases h
  exact pwp_ret (blk_ret (then_ret (round_out (by simp) (And.intro rfl (retH_at [30000, 30001, 30002] (.inr rfl) (by kernel_rfl))))))
  refine pwp_skip (blk_n (then_n (rn hG [1, 2, 15, 16, 17] [30000, 30001, 30002] [(17, iV (IntKind.i64.wrap (v2 + 1)))] [] ?_)))
  cases h
  exact round_in lk
  cases h
  exact pwp_exit (then_exit (round_out (by simp) (And.intro rfl lk)))
  intro e s hq
  rcases R9 with _ | y11
  try dsimp only at h
  obtain ⟨rfl, hle⟩ := hq
  refine ⟨_, hle, blk_hit ?_⟩
  refine then_n (sn hG [6] [30000, 30001, 30002] [(6, bV true)] [] (kw [6] [30000, 30001, 30002] ?_))
  cases h
  exact pwp_ret (retH_at [30000, 30001, 30002] (.inr rfl) (by kernel_rfl))
  try dsimp only at h
  obtain ⟨rfl, hq⟩ := hq
  cases h
  exact ⟨_, Le.refl, blk_ret (then_ret (hq))⟩

def F51 (n : Nat) (a0 : GCol) (a1 : GCol) : Option (Bool) := some (a0.Type_ == a1.Type_)
abbrev I51 : Inf := ⟨look tiL, [], 10⟩
set_option maxRecDepth 20000 in
theorem F51_ok (n : Nat) (a0 : GCol) (a1 : GCol) (y : Bool) (h : F51 n a0 a1 = some y) : PCall Proofs.Try.prog 51 [.t (eGCol a0), .t (eGCol a1)] [] [] (Ret (.t (.bool (y)))) := by
  refine pcall_of (I := I51) Proofs.Try.func51 rfl ti_ok Proofs.Try.ntmps51 (le_n (by kernel_rfl)) (fun E hG => ?_)
  unfold F51 at h
  refine sn hG [2, 3] [2, 3] [(2, .ptr 2 0), (3, .ptr 3 0)] [(2, .box ((cGCol (a0)).map .t)), (3, .box ((cGCol (a1)).map .t))] (sn hG [4] [] [(4, bV (a0.Type_ == a1.Type_))] [] ?_)
  cases h
  exact pwp_ret rt

def F50s0_L0 (n : Nat) (a0 : List GCol) (a1 : List GCol) : Int → Option ((Int) ⊕ ((Unit) ⊕ (Bool)))
  | v2 => if (decide (v2 < ((a0.length : Int)))) = true then (if 0 ≤ v2 ∧ v2 < (a0.length : Int) then (if 0 ≤ v2 ∧ v2 < (a1.length : Int) then ((F51 n (a0.getD (v2).toNat default) (a1.getD (v2).toNat default)).bind fun r6 => if (!r6) = true then (some (.inr (.inr (false)))) else (some (.inl (IntKind.i64.wrap (v2 + 1))))) else none) else none) else (some (.inr (.inl (()))))
def F50s0 (n : Nat) (a0 : List GCol) (a1 : List GCol) : Option (Bool) := if (((a0.length : Int)) != ((a1.length : Int))) = true then (some (false)) else (Option.bind (iterM (F50s0_L0 n a0 a1) n (0)) fun R9 => match R9 with | .inl (_) => (some (true)) | .inr (y11) => (some (y11)))
abbrev I50s0 : Inf := ⟨look tiL, [], 32⟩
set_option maxRecDepth 20000 in
theorem F50s0_ok (n : Nat) (a0 : List GCol) (a1 : List GCol) (y : Bool) (h : F50s0 n a0 a1 = some y) : PCall Proofs.Try.prog 50 [.t (eL cGCol (a0)), .t (eL cGCol (a1)), .fn (.func 51) 0 []] [] [] (RetH (.t (.bool (y))) []) := by
  refine pcall_of (I := I50s0) Proofs.Try.func50 rfl ti_ok Proofs.Try.ntmps50 (le_n (by kernel_rfl)) (fun E hG => ?_)
  unfold F50s0 at h
  refine sn hG [0, 1, 2] [] [] [] (pwp_seq (sn hG [0, 1, 2, 14] [] [(14, bV (((a0.length : Int)) != ((a1.length : Int))))] [] (iw h (fun h => ?_) (fun h => ?_))))
  refine sn hG [6] [] [(6, bV false)] [] (kw [6] [] ?_)
  cases h
  exact pwp_ret (then_ret (retH_at [] (.inr rfl) (by kernel_rfl)))
  refine pwp_skip (then_n (pwp_seq (sn hG [1, 2, 15, 16, 17] [] [(15, .t (eL cGCol (a0))), (16, iV ((a0.length : Int))), (17, iV 0)] [] ?_)))
  obtain ⟨R9, hR10, h⟩ := bnd h
  refine lp (F50s0_L0 n a0 a1) (fun (v2 : Int) => (⟨[(1, .t (eL cGCol (a1))), (2, .fn (.func 51) 0 []), (15, .t (eL cGCol (a0))), (16, iV ((a0.length : Int))), (17, iV v2)], []⟩ : St)) (fun (r : (Unit) ⊕ (Bool)) (e : Exit) (s : St) => match r with | .inl (x0) => e = .exit 0 ∧ Le E s ((fun (_ : Unit) => (⟨[], []⟩ : St)) x0) | .inr (y0) => e = .ret ∧ finQ I50s0 Proofs.Try.f50.results.toList (RetH (bV y0) []) .ret s) ?_ n (0) R9 hR10 ?_
  intro v2 x h
  rw [F50s0_L0] at h
  refine sn hG [1, 2, 15, 16, 17, 18] [] [(18, bV (decide (v2 < ((a0.length : Int)))))] [] (pwp_seq (iw h (fun h => ?_) (fun h => ?_)))
  refine pwp_skip (then_n (pwp_seq (pwp_block (pwp_seq (pwp_region ?_)))))
  obtain ⟨hc4, h⟩ := grd h
  refine pc hG 6 [1, 2, 7, 8, 15, 16, 17] [8] [(7, iV v2), (8, .ptr 8 0)] [(8, .box ((cGCol (a0.getD (v2).toNat default)).map .t))] hc4 (pe (then_n (pwp_seq (pwp_region ?_))))
  obtain ⟨hc5, h⟩ := grd h
  refine pc hG 6 [1, 2, 8, 9, 15, 16, 17] [8, 9] [(9, .ptr 9 0)] [(9, .box ((cGCol (a1.getD (v2).toNat default)).map .t))] hc5 (pe (then_n (pwp_seq (pwp_region (pn hG 3 [1, 2, 15, 16, 17, 26, 27, 28] [] [(26, .fn (.func 51) 0 []), (27, .t (eGCol (a0.getD (v2).toNat default))), (28, .t (eGCol (a1.getD (v2).toNat default)))] [] ?_)))))
  obtain ⟨r6, hr7, h⟩ := bnd h
  refine ca hG [] rfl rfl rfl rfl callable51 (.cons (.same _) (.cons (.same _) .nil)) (F51_ok n _ _ _ hr7) (pn hG 1 [1, 2, 15, 16, 17, 30] [] [(30, bV (!r6))] [] (pe (then_n (iw h (fun h => ?_) (fun h => ?_)))))
  refine sn hG [6] [] [(6, bV false)] [] (kw [6] [] ?_)
  cases h
  exact pwp_ret (blk_ret (then_ret (round_out (by simp) (And.intro rfl (retH_at [] (.inr rfl) (by kernel_rfl))))))
  refine pwp_skip (blk_n (then_n (rn hG [1, 2, 15, 16, 17] [] [(17, iV (IntKind.i64.wrap (v2 + 1)))] [] ?_)))
  cases h
  exact round_in lk
  cases h
  exact pwp_exit (then_exit (round_out (by simp) (And.intro rfl lk)))
  intro e s hq
  rcases R9 with _ | y11
  try dsimp only at h
  obtain ⟨rfl, hle⟩ := hq
  refine ⟨_, hle, blk_hit ?_⟩
  refine then_n (sn hG [6] [] [(6, bV true)] [] (kw [6] [] ?_))
  cases h
  exact pwp_ret (retH_at [] (.inr rfl) (by kernel_rfl))
  try dsimp only at h
  obtain ⟨rfl, hq⟩ := hq
  cases h
  exact ⟨_, Le.refl, blk_ret (then_ret (hq))⟩

def F30s0 (n : Nat) (a1 : GNode) (a2 : GNode) (h30000_0 : List GFunc) (h30000_1 : List GNode) (h30000_2 : List GFunc) (h30000_3 : List GNode) (h30001 : List (List Int × Bool)) : Option (Bool) := Option.bind ((F33 n a1.Key a2.Key).bind fun r4 => if (r4) = true then ((F33 n a1.Key2 a2.Key2).bind fun r7 => if (r7) = true then ((F44s0 n a1.Exprs a2.Exprs h30000_0 h30000_1 h30000_2 h30000_3 h30001).bind fun r10 => some (r10)) else (some (false))) else (some (false)) : Option (Bool)) fun j1 => (F46s0 n a1.Aggs a2.Aggs).bind fun r12 => (F48s0 n a1.Seq a2.Seq h30000_0 h30000_1 h30000_2 h30000_3 h30001).bind fun r14 => Option.bind (if (a1.Op != 0) = true then (some (true)) else ((F50s0 n a1.Cols a2.Cols).bind fun r20 => some (r20)) : Option (Bool)) fun j16 => Option.bind ((F43 n a1).bind fun r25 => (F43 n a2).bind fun r27 => if (([r25.e0, r25.e1, r25.e2, r25.e3, r25.e4, r25.e5, r25.e6, r25.e7] : List Int) == [r27.e0, r27.e1, r27.e2, r27.e3, r27.e4, r27.e5, r27.e6, r27.e7]) = true then (if ((a1.Source : ByteArray).toList == (a2.Source : ByteArray).toList) = true then (if (j1) = true then (if (r12) = true then (if (r14) = true then (some (j16)) else (some (false))) else (some (false))) else (some (false))) else (some (false))) else (some (false)) : Option (Bool)) fun j22 => some (j22)
abbrev I30s0 : Inf := ⟨look tiL, [30000, 30001], 80⟩
set_option maxRecDepth 20000 in
theorem F30s0_ok (n : Nat) (a1 : GNode) (a2 : GNode) (h30000_0 : List GFunc) (h30000_1 : List GNode) (h30000_2 : List GFunc) (h30000_3 : List GNode) (h30001 : List (List Int × Bool)) (y : Bool) (h : F30s0 n a1 a2 h30000_0 h30000_1 h30000_2 h30000_3 h30001 = some y) : PCall Proofs.Try.prog 30 [.ptr 30000 0, .t (eGNode a1), .t (eGNode a2)] [(30000, .box [.t (eL cGFunc (h30000_0)), .t (eL cGNode (h30000_1)), .t (eL cGFunc (h30000_2)), .t (eL cGNode (h30000_3)), .map 30001]), (30001, .mpb 2 (h30001))] [30000, 30001] (RetH (.t (.bool (y))) [(30000, .box [.t (eL cGFunc (h30000_0)), .t (eL cGNode (h30000_1)), .t (eL cGFunc (h30000_2)), .t (eL cGNode (h30000_3)), .map 30001]), (30001, .mpb 2 (h30001))]) := by
  refine pcall_of (I := I30s0) Proofs.Try.func30 rfl ti_ok Proofs.Try.ntmps30 (le_n (by kernel_rfl)) (fun E hG => ?_)
  unfold F30s0 at h
  refine sn hG [3, 4, 5] [3, 4, 5, 30000, 30001] [(3, .ptr 3 0), (4, .ptr 4 0), (5, .ptr 5 0)] [(3, .box [.ptr 30000 0]), (4, .box ((cGNode (a1)).map .t)), (5, .box ((cGNode (a2)).map .t))] (sn hG [3, 4, 5, 7] [3, 4, 5, 30000, 30001] [(7, .fn (.func 43) 0 [])] [] (pwp_seq ?_))
  obtain ⟨j1, hj3, h⟩ := bnd h
  refine jn [3, 4, 5, 7, 8] [3, 4, 5, 30000, 30001] [(8, bV j1)] [] ?_ ?_
  replace h := hj3; clear hj3
  refine pwp_region (pn hG 4 [3, 4, 5, 7, 13, 15] [3, 4, 5, 30000, 30001] [(13, .t (eL cInt (a1.Key))), (15, .t (eL cInt (a2.Key)))] [] ?_)
  obtain ⟨r4, hr5, h⟩ := bnd h
  refine ca hG [] rfl rfl rfl rfl callable33 (.cons (.same _) (.cons (.same _) .nil)) (F33_ok n _ _ _ hr5) (pn hG 1 [3, 4, 5, 7, 17] [3, 4, 5, 30000, 30001] [(17, bV r4)] [] (io 17 h (fun h => ?_) (fun h => ?_)))
  refine pn hG 4 [3, 4, 5, 7, 17, 19, 21] [3, 4, 5, 30000, 30001] [(19, .t (eL cInt (a1.Key2))), (21, .t (eL cInt (a2.Key2)))] [] ?_
  obtain ⟨r7, hr8, h⟩ := bnd h
  refine ca hG [] rfl rfl rfl rfl callable33 (.cons (.same _) (.cons (.same _) .nil)) (F33_ok n _ _ _ hr8) (pn hG 2 [3, 4, 5, 7, 24] [3, 4, 5, 30000, 30001] [(24, bV r7)] [] (io 24 h (fun h => ?_) (fun h => ?_)))
  refine pn hG 6 [3, 4, 5, 7, 24, 26, 28, 30] [3, 4, 5, 30000, 30001] [(26, .t (.lz (.exprs (a1.Exprs)))), (28, .t (.lz (.exprs (a2.Exprs)))), (30, .fn (.func 45) 1 [.ptr 30000 0])] [] ?_
  obtain ⟨r10, hr11, h⟩ := bnd h
  refine ch hG [30000, 30001] [30000, 30001] [] (nf := 0) (caps := []) (aps := [.t (.lz (.exprs (a1.Exprs))), .t (.lz (.exprs (a2.Exprs))), .fn (.func 45) 1 [.ptr 30000 0]]) rfl rfl rfl rfl callable44 (.cons (.same _) (.cons (.same _) (.cons (.same _) .nil))) (F44s0_ok n _ _ _ _ _ _ _ _ hr11) (pn hG 2 [3, 4, 5, 7, 8] [3, 4, 5, 30000, 30001] [(8, bV r10)] [] ?_)
  cases h
  exact pe fl
  refine pn hG 9 [3, 4, 5, 7, 8] [3, 4, 5, 30000, 30001] [(8, bV false)] [] ?_
  cases h
  exact pe fl
  refine pn hG 16 [3, 4, 5, 7, 8] [3, 4, 5, 30000, 30001] [(8, bV false)] [] ?_
  cases h
  exact pe fl
  refine then_n (pwp_seq (pwp_region (pn hG 4 [3, 4, 5, 7, 8, 34, 36] [3, 4, 5, 30000, 30001] [(34, .t (eL cGAgg (a1.Aggs))), (36, .t (eL cGAgg (a2.Aggs)))] [] ?_)))
  obtain ⟨r12, hr13, h⟩ := bnd h
  refine ch hG [] [] [] (nf := 0) (caps := []) (aps := [.t (eL cGAgg (a1.Aggs)), .t (eL cGAgg (a2.Aggs)), .fn (.func 47) 0 []]) rfl rfl rfl rfl callable46 (.cons (.same _) (.cons (.same _) (.cons (.same _) .nil))) (F46s0_ok n _ _ _ hr13) (pn hG 1 [3, 4, 5, 7, 8, 9] [3, 4, 5, 30000, 30001] [(9, bV r12)] [] (pe (then_n (pwp_seq (pwp_region (pn hG 5 [4, 5, 7, 8, 9, 39, 41, 42] [3, 4, 5, 30000, 30001] [(39, .t (eL cGPat (a1.Seq))), (41, .t (eL cGPat (a2.Seq))), (42, .fn (.func 49) 0 [.ptr 3 0])] [] (os ⟨[(4, .ptr 4 0), (5, .ptr 5 0), (7, .fn (.func 43) 0 []), (8, bV j1), (9, bV r12), (39, .t (eL cGPat (a1.Seq))), (41, .t (eL cGPat (a2.Seq))), (42, .fn (.func 49) 0 [.ptr 3 0])], [(3, .box [.ptr 30000 0]), (4, .box ((cGNode (a1)).map .t)), (5, .box ((cGNode (a2)).map .t)), (30000, .box [.t (eL cGFunc (h30000_0)), .t (eL cGNode (h30000_1)), .t (eL cGFunc (h30000_2)), .t (eL cGNode (h30000_3)), .map 30001]), (30001, .mpb 2 (h30001))]⟩ (pops_weak (Le.rn hG (o := 3) (o' := 30002) rfl) ?_))))))))
  obtain ⟨r14, hr15, h⟩ := bnd h
  refine ch hG [30000, 30001, 30002] [30000, 30001, 30002] [] (nf := 0) (caps := []) (aps := [.t (eL cGPat (a1.Seq)), .t (eL cGPat (a2.Seq)), .fn (.func 49) 0 [.ptr 30002 0]]) rfl rfl rfl rfl callable48 (.cons (.same _) (.cons (.same _) (.cons (.same _) .nil))) (F48s0_ok n _ _ _ _ _ _ _ _ hr15) (pn hG 1 [4, 5, 7, 8, 9, 10] [4, 5, 30000, 30001] [(10, bV r14)] [] (pe (then_n (pwp_seq ?_))))
  obtain ⟨j16, hj18, h⟩ := bnd h
  refine jn [4, 5, 7, 8, 9, 10, 11] [4, 5, 30000, 30001] [(11, bV j16)] [] ?_ ?_
  replace h := hj18; clear hj18
  refine pwp_region (pn hG 4 [4, 5, 7, 8, 9, 10, 47] [4, 5, 30000, 30001] [(47, bV (a1.Op != 0))] [] (io 47 h (fun h => ?_) (fun h => ?_)))
  refine pn hG 7 [4, 5, 7, 8, 9, 10, 11] [4, 5, 30000, 30001] [(11, bV true)] [] ?_
  cases h
  exact pe fl
  refine pn hG 4 [4, 5, 7, 8, 9, 10, 47, 49, 51] [4, 5, 30000, 30001] [(49, .t (eL cGCol (a1.Cols))), (51, .t (eL cGCol (a2.Cols)))] [] ?_
  obtain ⟨r20, hr21, h⟩ := bnd h
  refine ch hG [] [] [] (nf := 0) (caps := []) (aps := [.t (eL cGCol (a1.Cols)), .t (eL cGCol (a2.Cols)), .fn (.func 51) 0 []]) rfl rfl rfl rfl callable50 (.cons (.same _) (.cons (.same _) (.cons (.same _) .nil))) (F50s0_ok n _ _ _ hr21) (pn hG 2 [4, 5, 7, 8, 9, 10, 11] [4, 5, 30000, 30001] [(11, bV r20)] [] ?_)
  cases h
  exact pe fl
  refine then_n (pwp_seq ?_)
  obtain ⟨j22, hj24, h⟩ := bnd h
  refine jn [6] [30000, 30001] [(6, bV j22)] [] ?_ ?_
  replace h := hj24; clear hj24
  obtain ⟨r25, hr26, h⟩ := bnd h
  obtain ⟨r27, hr28, h⟩ := bnd h
  refine (Bool.eq_false_or_eq_true (([r25.e0, r25.e1, r25.e2, r25.e3, r25.e4, r25.e5, r25.e6, r25.e7] : List Int) == [r27.e0, r27.e1, r27.e2, r27.e3, r27.e4, r27.e5, r27.e6, r27.e7])).elim (fun hb29 => ?_) (fun hb29 => ?_)
  have h := ite_t hb29 h
  refine (Bool.eq_false_or_eq_true ((a1.Source : ByteArray).toList == (a2.Source : ByteArray).toList)).elim (fun hb30 => ?_) (fun hb30 => ?_)
  have h := ite_t hb30 h
  refine (Bool.eq_false_or_eq_true (j1)).elim (fun hb31 => ?_) (fun hb31 => ?_)
  have h := ite_t hb31 h
  refine (Bool.eq_false_or_eq_true (r12)).elim (fun hb32 => ?_) (fun hb32 => ?_)
  have h := ite_t hb32 h
  refine (Bool.eq_false_or_eq_true (r14)).elim (fun hb33 => ?_) (fun hb33 => ?_)
  have h := ite_t hb33 h
  refine ln hG [(2, 43, [.t (eGNode a1)], .t (eA8_Int r25)), (5, 43, [.t (eGNode a2)], .t (eA8_Int r27))] [(7, (([r25.e0, r25.e1, r25.e2, r25.e3, r25.e4, r25.e5, r25.e6, r25.e7] : List Int) == [r27.e0, r27.e1, r27.e2, r27.e3, r27.e4, r27.e5, r27.e6, r27.e7], true)), (14, ((a1.Source : ByteArray).toList == (a2.Source : ByteArray).toList, true)), (17, (j1, true)), (20, (r12, true)), (23, (r14, true))] [] [(4, false, []), (5, false, []), (30000, false, []), (30001, false, [])] [4, 5, 7, 8, 9, 10, 11] (.cons ⟨callable43, ⟨_, fun _ => (.cons (.same _) .nil), F43_ok n _ _ hr26⟩, rfl⟩ (.cons ⟨callable43, ⟨_, fun _ => (.cons (.same _) .nil), F43_ok n _ _ hr28⟩, rfl⟩ .nil)) (.cons hb29 (.cons hb30 (.cons hb31 (.cons hb32 (.cons hb33 .nil))))) .nil [6] [30000, 30001] [(6, bV j16)] [] ?_
  cases h
  exact fl
  have h := ite_f hb33 h
  refine ln hG [(2, 43, [.t (eGNode a1)], .t (eA8_Int r25)), (5, 43, [.t (eGNode a2)], .t (eA8_Int r27))] [(7, (([r25.e0, r25.e1, r25.e2, r25.e3, r25.e4, r25.e5, r25.e6, r25.e7] : List Int) == [r27.e0, r27.e1, r27.e2, r27.e3, r27.e4, r27.e5, r27.e6, r27.e7], true)), (14, ((a1.Source : ByteArray).toList == (a2.Source : ByteArray).toList, true)), (17, (j1, true)), (20, (r12, true)), (23, (r14, false))] [] [(4, false, []), (5, false, []), (30000, false, []), (30001, false, [])] [4, 5, 7, 8, 9, 10, 11] (.cons ⟨callable43, ⟨_, fun _ => (.cons (.same _) .nil), F43_ok n _ _ hr26⟩, rfl⟩ (.cons ⟨callable43, ⟨_, fun _ => (.cons (.same _) .nil), F43_ok n _ _ hr28⟩, rfl⟩ .nil)) (.cons hb29 (.cons hb30 (.cons hb31 (.cons hb32 (.cons hb33 .nil))))) .nil [6] [30000, 30001] [(6, bV false)] [] ?_
  cases h
  exact fl
  have h := ite_f hb32 h
  refine ln hG [(2, 43, [.t (eGNode a1)], .t (eA8_Int r25)), (5, 43, [.t (eGNode a2)], .t (eA8_Int r27))] [(7, (([r25.e0, r25.e1, r25.e2, r25.e3, r25.e4, r25.e5, r25.e6, r25.e7] : List Int) == [r27.e0, r27.e1, r27.e2, r27.e3, r27.e4, r27.e5, r27.e6, r27.e7], true)), (14, ((a1.Source : ByteArray).toList == (a2.Source : ByteArray).toList, true)), (17, (j1, true)), (20, (r12, false))] [] [(4, false, []), (5, false, []), (30000, false, []), (30001, false, [])] [4, 5, 7, 8, 9, 10, 11] (.cons ⟨callable43, ⟨_, fun _ => (.cons (.same _) .nil), F43_ok n _ _ hr26⟩, rfl⟩ (.cons ⟨callable43, ⟨_, fun _ => (.cons (.same _) .nil), F43_ok n _ _ hr28⟩, rfl⟩ .nil)) (.cons hb29 (.cons hb30 (.cons hb31 (.cons hb32 .nil)))) .nil [6] [30000, 30001] [(6, bV false)] [] ?_
  cases h
  exact fl
  have h := ite_f hb31 h
  refine ln hG [(2, 43, [.t (eGNode a1)], .t (eA8_Int r25)), (5, 43, [.t (eGNode a2)], .t (eA8_Int r27))] [(7, (([r25.e0, r25.e1, r25.e2, r25.e3, r25.e4, r25.e5, r25.e6, r25.e7] : List Int) == [r27.e0, r27.e1, r27.e2, r27.e3, r27.e4, r27.e5, r27.e6, r27.e7], true)), (14, ((a1.Source : ByteArray).toList == (a2.Source : ByteArray).toList, true)), (17, (j1, false))] [] [(4, false, []), (5, false, []), (30000, false, []), (30001, false, [])] [4, 5, 7, 8, 9, 10, 11] (.cons ⟨callable43, ⟨_, fun _ => (.cons (.same _) .nil), F43_ok n _ _ hr26⟩, rfl⟩ (.cons ⟨callable43, ⟨_, fun _ => (.cons (.same _) .nil), F43_ok n _ _ hr28⟩, rfl⟩ .nil)) (.cons hb29 (.cons hb30 (.cons hb31 .nil))) .nil [6] [30000, 30001] [(6, bV false)] [] ?_
  cases h
  exact fl
  have h := ite_f hb30 h
  refine ln hG [(2, 43, [.t (eGNode a1)], .t (eA8_Int r25)), (5, 43, [.t (eGNode a2)], .t (eA8_Int r27))] [(7, (([r25.e0, r25.e1, r25.e2, r25.e3, r25.e4, r25.e5, r25.e6, r25.e7] : List Int) == [r27.e0, r27.e1, r27.e2, r27.e3, r27.e4, r27.e5, r27.e6, r27.e7], true)), (14, ((a1.Source : ByteArray).toList == (a2.Source : ByteArray).toList, false))] [] [(4, false, []), (5, false, []), (30000, false, []), (30001, false, [])] [4, 5, 7, 8, 9, 10, 11] (.cons ⟨callable43, ⟨_, fun _ => (.cons (.same _) .nil), F43_ok n _ _ hr26⟩, rfl⟩ (.cons ⟨callable43, ⟨_, fun _ => (.cons (.same _) .nil), F43_ok n _ _ hr28⟩, rfl⟩ .nil)) (.cons hb29 (.cons hb30 .nil)) .nil [6] [30000, 30001] [(6, bV false)] [] ?_
  cases h
  exact fl
  have h := ite_f hb29 h
  refine ln hG [(2, 43, [.t (eGNode a1)], .t (eA8_Int r25)), (5, 43, [.t (eGNode a2)], .t (eA8_Int r27))] [(7, (([r25.e0, r25.e1, r25.e2, r25.e3, r25.e4, r25.e5, r25.e6, r25.e7] : List Int) == [r27.e0, r27.e1, r27.e2, r27.e3, r27.e4, r27.e5, r27.e6, r27.e7], false))] [] [(4, false, []), (5, false, []), (30000, false, []), (30001, false, [])] [4, 5, 7, 8, 9, 10, 11] (.cons ⟨callable43, ⟨_, fun _ => (.cons (.same _) .nil), F43_ok n _ _ hr26⟩, rfl⟩ (.cons ⟨callable43, ⟨_, fun _ => (.cons (.same _) .nil), F43_ok n _ _ hr28⟩, rfl⟩ .nil)) (.cons hb29 .nil) .nil [6] [30000, 30001] [(6, bV false)] [] ?_
  cases h
  exact fl
  refine then_n (kw [6] [30000, 30001] ?_)
  cases h
  exact pwp_ret (retH_at [30000, 30001] (.inr rfl) (by kernel_rfl))

def F52s1_L0 (recF19s0 : Int → Int → (List GFunc) → (List GNode) → (List GFunc) → (List GNode) → (List (List Int × Bool)) → Option (Bool × (List (List Int × Bool)))) (n : Nat) (a0 : List Int) (a1 : List Int) (h30000_0 : List GFunc) (h30000_1 : List GNode) (h30000_2 : List GFunc) (h30000_3 : List GNode) : ((List (List Int × Bool)) × Int) → Option (((List (List Int × Bool)) × Int) ⊕ (((List (List Int × Bool))) ⊕ (Bool × (List (List Int × Bool)))))
  | (v2, v3) => if (decide (v3 < ((a0.length : Int)))) = true then (if 0 ≤ v3 ∧ v3 < (a0.length : Int) then (if 0 ≤ v3 ∧ v3 < (a1.length : Int) then ((recF19s0 (a0.getD (v3).toNat default) (a1.getD (v3).toNat default) h30000_0 h30000_1 h30000_2 h30000_3 v2).bind fun r8 => if (!r8.1) = true then (some (.inr (.inr ((false, r8.2))))) else (some (.inl ((r8.2, IntKind.i64.wrap (v3 + 1)))))) else none) else none) else (some (.inr (.inl (v2))))
def F52s1 (recF19s0 : Int → Int → (List GFunc) → (List GNode) → (List GFunc) → (List GNode) → (List (List Int × Bool)) → Option (Bool × (List (List Int × Bool)))) (n : Nat) (a0 : List Int) (a1 : List Int) (h30000_0 : List GFunc) (h30000_1 : List GNode) (h30000_2 : List GFunc) (h30000_3 : List GNode) (h30001 : List (List Int × Bool)) : Option (Bool × (List (List Int × Bool))) := if (((a0.length : Int)) != ((a1.length : Int))) = true then (some ((false, h30001))) else (Option.bind (iterM (F52s1_L0 recF19s0 n a0 a1 h30000_0 h30000_1 h30000_2 h30000_3) n ((h30001, 0))) fun R11 => match R11 with | .inl (b4) => (some ((true, b4))) | .inr (y13) => (some (y13)))
abbrev I52s1 : Inf := ⟨look tiL, [30000, 30001], 32⟩
set_option maxRecDepth 20000 in
theorem F52s1_ok (recF19s0 : Int → Int → (List GFunc) → (List GNode) → (List GFunc) → (List GNode) → (List (List Int × Bool)) → Option (Bool × (List (List Int × Bool)))) (ihF19s0 : ∀ (a1 : Int) (a2 : Int) (h30000_0 : List GFunc) (h30000_1 : List GNode) (h30000_2 : List GFunc) (h30000_3 : List GNode) (h30001 : List (List Int × Bool)) (y : Bool × (List (List Int × Bool))) (_ : recF19s0 a1 a2 h30000_0 h30000_1 h30000_2 h30000_3 h30001 = some y), PCall Proofs.Try.prog 19 [.ptr 30000 0, .t (.int .i64 (a1)), .t (.int .i64 (a2))] [(30000, .box [.t (eL cGFunc (h30000_0)), .t (eL cGNode (h30000_1)), .t (eL cGFunc (h30000_2)), .t (eL cGNode (h30000_3)), .map 30001]), (30001, .mpb 2 (h30001))] [30000, 30001] (RetH (.t (.bool (y.1))) [(30000, .box [.t (eL cGFunc (h30000_0)), .t (eL cGNode (h30000_1)), .t (eL cGFunc (h30000_2)), .t (eL cGNode (h30000_3)), .map 30001]), (30001, .mpb 2 (y.2))])) (n : Nat) (a0 : List Int) (a1 : List Int) (h30000_0 : List GFunc) (h30000_1 : List GNode) (h30000_2 : List GFunc) (h30000_3 : List GNode) (h30001 : List (List Int × Bool)) (y : Bool × (List (List Int × Bool))) (h : F52s1 recF19s0 n a0 a1 h30000_0 h30000_1 h30000_2 h30000_3 h30001 = some y) : PCall Proofs.Try.prog 52 [.t (eL cInt (a0)), .t (eL cInt (a1)), .fn (.func 19) 1 [.ptr 30000 0]] [(30000, .box [.t (eL cGFunc (h30000_0)), .t (eL cGNode (h30000_1)), .t (eL cGFunc (h30000_2)), .t (eL cGNode (h30000_3)), .map 30001]), (30001, .mpb 2 (h30001))] [30000, 30001] (RetH (.t (.bool (y.1))) [(30000, .box [.t (eL cGFunc (h30000_0)), .t (eL cGNode (h30000_1)), .t (eL cGFunc (h30000_2)), .t (eL cGNode (h30000_3)), .map 30001]), (30001, .mpb 2 (y.2))]) := by
  refine pcall_of (I := I52s1) Proofs.Try.func52 rfl ti_ok Proofs.Try.ntmps52 (le_n (by kernel_rfl)) (fun E hG => ?_)
  unfold F52s1 at h
  refine sn hG [0, 1, 2] [30000, 30001] [] [] (pwp_seq (sn hG [0, 1, 2, 14] [30000, 30001] [(14, bV (((a0.length : Int)) != ((a1.length : Int))))] [] (iw h (fun h => ?_) (fun h => ?_))))
  refine sn hG [6] [30000, 30001] [(6, bV false)] [] (kw [6] [30000, 30001] ?_)
  cases h
  exact pwp_ret (then_ret (retH_at [30000, 30001] (.inr rfl) (by kernel_rfl)))
  refine pwp_skip (then_n (pwp_seq (sn hG [1, 2, 15, 16, 17] [30000, 30001] [(15, .t (eL cInt (a0))), (16, iV ((a0.length : Int))), (17, iV 0)] [] ?_)))
  obtain ⟨R11, hR12, h⟩ := bnd h
  refine lp (F52s1_L0 recF19s0 n a0 a1 h30000_0 h30000_1 h30000_2 h30000_3) (fun (s : (List (List Int × Bool)) × Int) => match s with | (v2, v3) => (⟨[(1, .t (eL cInt (a1))), (2, .fn (.func 19) 1 [.ptr 30000 0]), (15, .t (eL cInt (a0))), (16, iV ((a0.length : Int))), (17, iV v3)], [(30000, .box [.t (eL cGFunc (h30000_0)), .t (eL cGNode (h30000_1)), .t (eL cGFunc (h30000_2)), .t (eL cGNode (h30000_3)), .map 30001]), (30001, .mpb 2 (v2))]⟩ : St)) (fun (r : ((List (List Int × Bool))) ⊕ (Bool × (List (List Int × Bool)))) (e : Exit) (s : St) => match r with | .inl (x0) => e = .exit 0 ∧ Le E s ((fun (b4 : (List (List Int × Bool))) => (⟨[], [(30000, .box [.t (eL cGFunc (h30000_0)), .t (eL cGNode (h30000_1)), .t (eL cGFunc (h30000_2)), .t (eL cGNode (h30000_3)), .map 30001]), (30001, .mpb 2 (b4))]⟩ : St)) x0) | .inr (y0) => e = .ret ∧ finQ I52s1 Proofs.Try.f52.results.toList (RetH (bV y0.1) [(30000, .box [.t (eL cGFunc (h30000_0)), .t (eL cGNode (h30000_1)), .t (eL cGFunc (h30000_2)), .t (eL cGNode (h30000_3)), .map 30001]), (30001, .mpb 2 (y0.2))]) .ret s) ?_ n ((h30001, 0)) R11 hR12 ?_
  rintro ⟨v2, v3⟩ x h
  rw [F52s1_L0] at h
  refine sn hG [1, 2, 15, 16, 17, 18] [30000, 30001] [(18, bV (decide (v3 < ((a0.length : Int)))))] [] (pwp_seq (iw h (fun h => ?_) (fun h => ?_)))
  refine pwp_skip (then_n (pwp_seq (pwp_block ?_)))
  obtain ⟨hc6, h⟩ := grd h
  refine sc hG [1, 2, 7, 8, 15, 16, 17] [30000, 30001] [(7, iV v3), (8, iV (a0.getD (v3).toNat default))] [] hc6 ?_
  obtain ⟨hc7, h⟩ := grd h
  refine sc hG [1, 2, 8, 9, 15, 16, 17] [30000, 30001] [(9, iV (a1.getD (v3).toNat default))] [] hc7 (pwp_seq (pwp_region (pn hG 3 [1, 2, 15, 16, 17, 26, 27, 28] [30000, 30001] [(26, .fn (.func 19) 1 [.ptr 30000 0]), (27, iV (a0.getD (v3).toNat default)), (28, iV (a1.getD (v3).toNat default))] [] ?_)))
  obtain ⟨r8, hr9, h⟩ := bnd h
  refine ch hG [30000, 30001] [30000, 30001] [] (nf := 1) (caps := [.ptr 30000 0]) (aps := [iV (a0.getD (v3).toNat default), iV (a1.getD (v3).toNat default)]) rfl rfl rfl rfl callable19 (.cons (.same _) (.cons (.same _) (.cons (.same _) .nil))) (ihF19s0 _ _ _ _ _ _ _ _ hr9) (pn hG 1 [1, 2, 15, 16, 17, 30] [30000, 30001] [(30, bV (!r8.1))] [(30001, .mpb 2 (r8.2))] (pe (then_n (iw h (fun h => ?_) (fun h => ?_)))))
  refine sn hG [6] [30000, 30001] [(6, bV false)] [] (kw [6] [30000, 30001] ?_)
  cases h
  exact pwp_ret (blk_ret (then_ret (round_out (by simp) (And.intro rfl (retH_at [30000, 30001] (.inr rfl) (by kernel_rfl))))))
  refine pwp_skip (blk_n (then_n (rn hG [1, 2, 15, 16, 17] [30000, 30001] [(17, iV (IntKind.i64.wrap (v3 + 1)))] [] ?_)))
  cases h
  exact round_in lk
  cases h
  exact pwp_exit (then_exit (round_out (by simp) (And.intro rfl lk)))
  intro e s hq
  rcases R11 with b4 | y13
  try dsimp only at h
  obtain ⟨rfl, hle⟩ := hq
  refine ⟨_, hle, blk_hit ?_⟩
  refine then_n (sn hG [6] [30000, 30001] [(6, bV true)] [] (kw [6] [30000, 30001] ?_))
  cases h
  exact pwp_ret (retH_at [30000, 30001] (.inr rfl) (by kernel_rfl))
  try dsimp only at h
  obtain ⟨rfl, hq⟩ := hq
  cases h
  exact ⟨_, Le.refl, blk_ret (then_ret (hq))⟩

def F31s1 (recF19s0 : Int → Int → (List GFunc) → (List GNode) → (List GFunc) → (List GNode) → (List (List Int × Bool)) → Option (Bool × (List (List Int × Bool)))) (n : Nat) (a1 : GNode) (a2 : GNode) (h30000_0 : List GFunc) (h30000_1 : List GNode) (h30000_2 : List GFunc) (h30000_3 : List GNode) (h30001 : List (List Int × Bool)) : Option (Bool × (List (List Int × Bool))) := (F52s1 recF19s0 n a1.In a2.In h30000_0 h30000_1 h30000_2 h30000_3 h30001).bind fun r1 => some ((r1.1, r1.2))
abbrev I31s1 : Inf := ⟨look tiL, [30000, 30001], 14⟩
set_option maxRecDepth 20000 in
theorem F31s1_ok (recF19s0 : Int → Int → (List GFunc) → (List GNode) → (List GFunc) → (List GNode) → (List (List Int × Bool)) → Option (Bool × (List (List Int × Bool)))) (ihF19s0 : ∀ (a1 : Int) (a2 : Int) (h30000_0 : List GFunc) (h30000_1 : List GNode) (h30000_2 : List GFunc) (h30000_3 : List GNode) (h30001 : List (List Int × Bool)) (y : Bool × (List (List Int × Bool))) (_ : recF19s0 a1 a2 h30000_0 h30000_1 h30000_2 h30000_3 h30001 = some y), PCall Proofs.Try.prog 19 [.ptr 30000 0, .t (.int .i64 (a1)), .t (.int .i64 (a2))] [(30000, .box [.t (eL cGFunc (h30000_0)), .t (eL cGNode (h30000_1)), .t (eL cGFunc (h30000_2)), .t (eL cGNode (h30000_3)), .map 30001]), (30001, .mpb 2 (h30001))] [30000, 30001] (RetH (.t (.bool (y.1))) [(30000, .box [.t (eL cGFunc (h30000_0)), .t (eL cGNode (h30000_1)), .t (eL cGFunc (h30000_2)), .t (eL cGNode (h30000_3)), .map 30001]), (30001, .mpb 2 (y.2))])) (n : Nat) (a1 : GNode) (a2 : GNode) (h30000_0 : List GFunc) (h30000_1 : List GNode) (h30000_2 : List GFunc) (h30000_3 : List GNode) (h30001 : List (List Int × Bool)) (y : Bool × (List (List Int × Bool))) (h : F31s1 recF19s0 n a1 a2 h30000_0 h30000_1 h30000_2 h30000_3 h30001 = some y) : PCall Proofs.Try.prog 31 [.ptr 30000 0, .t (eGNode a1), .t (eGNode a2)] [(30000, .box [.t (eL cGFunc (h30000_0)), .t (eL cGNode (h30000_1)), .t (eL cGFunc (h30000_2)), .t (eL cGNode (h30000_3)), .map 30001]), (30001, .mpb 2 (h30001))] [30000, 30001] (RetH (.t (.bool (y.1))) [(30000, .box [.t (eL cGFunc (h30000_0)), .t (eL cGNode (h30000_1)), .t (eL cGFunc (h30000_2)), .t (eL cGNode (h30000_3)), .map 30001]), (30001, .mpb 2 (y.2))]) := by
  refine pcall_of (I := I31s1) Proofs.Try.func31 rfl ti_ok Proofs.Try.ntmps31 (le_n (by kernel_rfl)) (fun E hG => ?_)
  unfold F31s1 at h
  refine sn hG [0, 4, 5] [4, 5, 30000, 30001] [(4, .ptr 4 0), (5, .ptr 5 0)] [(4, .box ((cGNode (a1)).map .t)), (5, .box ((cGNode (a2)).map .t))] (pwp_seq (pwp_region (pn hG 6 [8, 10, 12] [30000, 30001] [(8, .t (eL cInt (a1.In))), (10, .t (eL cInt (a2.In))), (12, .fn (.func 19) 1 [.ptr 30000 0])] [] ?_)))
  obtain ⟨r1, hr2, h⟩ := bnd h
  refine ch hG [30000, 30001] [30000, 30001] [] (nf := 0) (caps := []) (aps := [.t (eL cInt (a1.In)), .t (eL cInt (a2.In)), .fn (.func 19) 1 [.ptr 30000 0]]) rfl rfl rfl rfl callable52 (.cons (.same _) (.cons (.same _) (.cons (.same _) .nil))) (F52s1_ok recF19s0 ihF19s0 n _ _ _ _ _ _ _ _ hr2) (pn hG 1 [6] [30000, 30001] [(6, bV r1.1)] [(30001, .mpb 2 (r1.2))] (pe (then_n (kw [6] [30000, 30001] ?_))))
  cases h
  exact pwp_ret (retH_at [30000, 30001] (.inr rfl) (by kernel_rfl))

def F19s0 : Nat → Int → Int → (List GFunc) → (List GNode) → (List GFunc) → (List GNode) → (List (List Int × Bool)) → Option (Bool × (List (List Int × Bool)))
  | 0, _, _, _, _, _, _, _ => none
  | n + 1, a1, a2, h30000_0, h30000_1, h30000_2, h30000_3, h30001 => Option.bind (if (!(mhas (h30001) [a1, a2])) = true then (if 0 ≤ a1 ∧ a1 < (h30000_1.length : Int) then (if 0 ≤ a2 ∧ a2 < (h30000_3.length : Int) then (Option.bind ((F30s0 n (h30000_1.getD (a1).toNat default) (h30000_3.getD (a2).toNat default) h30000_0 h30000_1 h30000_2 h30000_3 h30001).bind fun r12 => if (r12) = true then ((F31s1 (F19s0 n) n (h30000_1.getD (a1).toNat default) (h30000_3.getD (a2).toNat default) h30000_0 h30000_1 h30000_2 h30000_3 h30001).bind fun r15 => some ((r15.2, r15.1))) else (some ((h30001, false))) : Option ((List (List Int × Bool)) × Bool)) fun J10 => match J10 with | (j8, j9) => (some ((mset (j8) [a1, a2] j9, j9)))) else none) else none) else (some ((h30001, mget (h30001) [a1, a2]))) : Option ((List (List Int × Bool)) × Bool)) fun J4 => match J4 with | (j2, j3) => (some ((j3, j2)))
abbrev I19s0 : Inf := ⟨look tiL, [30000, 30001], 59⟩
set_option maxRecDepth 20000 in
theorem F19s0_ok (n : Nat) : ∀ (a1 : Int) (a2 : Int) (h30000_0 : List GFunc) (h30000_1 : List GNode) (h30000_2 : List GFunc) (h30000_3 : List GNode) (h30001 : List (List Int × Bool)) (y : Bool × (List (List Int × Bool))) (_ : F19s0 n a1 a2 h30000_0 h30000_1 h30000_2 h30000_3 h30001 = some y), PCall Proofs.Try.prog 19 [.ptr 30000 0, .t (.int .i64 (a1)), .t (.int .i64 (a2))] [(30000, .box [.t (eL cGFunc (h30000_0)), .t (eL cGNode (h30000_1)), .t (eL cGFunc (h30000_2)), .t (eL cGNode (h30000_3)), .map 30001]), (30001, .mpb 2 (h30001))] [30000, 30001] (RetH (.t (.bool (y.1))) [(30000, .box [.t (eL cGFunc (h30000_0)), .t (eL cGNode (h30000_1)), .t (eL cGFunc (h30000_2)), .t (eL cGNode (h30000_3)), .map 30001]), (30001, .mpb 2 (y.2))]) := by
  induction n with
  | zero => intro a1 a2 h30000_0 h30000_1 h30000_2 h30000_3 h30001 y h; cases h
  | succ n ih =>
  intro a1 a2 h30000_0 h30000_1 h30000_2 h30000_3 h30001 y h
  refine pcall_of (I := I19s0) Proofs.Try.func19 rfl ti_ok Proofs.Try.ntmps19 (le_n (by kernel_rfl)) (fun E hG => ?_)
  rw [F19s0] at h
  refine sn hG [0, 1, 2] [30000, 30001] [] [] (sn hG [0, 1, 2, 7, 8] [30000, 30001] [(7, bV (mget (h30001) [a1, a2])), (8, bV (mhas (h30001) [a1, a2]))] [] (pwp_seq (sn hG [0, 1, 2, 7, 23] [30000, 30001] [(23, bV (!(mhas (h30001) [a1, a2])))] [] ?_)))
  obtain ⟨J4, hj5, h⟩ := bnd h
  obtain ⟨j2, j3⟩ := J4
  try dsimp only at h
  refine jn [7] [30000, 30001] [(7, bV j3)] [(30001, .mpb 2 (j2))] ?_ ?_
  replace h := hj5; clear hj5
  refine iw h (fun h => ?_) (fun h => ?_)
  refine pwp_seq ?_
  obtain ⟨hc6, h⟩ := grd h
  obtain ⟨hc7, h⟩ := grd h
  refine ln hG [] [] [(6, [0 ≤ a1 ∧ a1 < (h30000_1.length : Int)]), (14, [0 ≤ a2 ∧ a2 < (h30000_3.length : Int)])] [(9, true, [16, 18]), (10, true, [17, 19]), (30000, false, []), (30001, false, [])] [0, 1, 2, 7, 23] .nil .nil (.cons hc6 (.cons hc7 .nil)) [0, 1, 2, 9, 10] [9, 10, 30000, 30001] [(9, .ptr 9 0), (10, .ptr 10 0)] [(9, .box ((cGNode (h30000_1.getD (a1).toNat default)).map .t)), (10, .box ((cGNode (h30000_3.getD (a2).toNat default)).map .t))] (then_n (pwp_seq ?_))
  obtain ⟨J10, hj11, h⟩ := bnd h
  obtain ⟨j8, j9⟩ := J10
  try dsimp only at h
  refine jn [0, 1, 2, 7] [30000, 30001] [(7, bV j9)] [(30001, .mpb 2 (j8))] ?_ ?_
  replace h := hj11; clear hj11
  refine pwp_region (pn hG 3 [0, 1, 2, 9, 10, 40, 41, 42] [9, 10, 30000, 30001] [(40, .ptr 30000 0), (41, .t (eGNode (h30000_1.getD (a1).toNat default))), (42, .t (eGNode (h30000_3.getD (a2).toNat default)))] [] ?_)
  obtain ⟨r12, hr13, h⟩ := bnd h
  refine ch hG [30000, 30001] [30000, 30001] [] (nf := 0) (caps := []) (aps := [.ptr 30000 0, .t (eGNode (h30000_1.getD (a1).toNat default)), .t (eGNode (h30000_3.getD (a2).toNat default))]) rfl rfl rfl rfl callable30 (.cons (.same _) (.cons (.same _) (.cons (.same _) .nil))) (F30s0_ok n _ _ _ _ _ _ _ _ hr13) (pn hG 1 [0, 1, 2, 9, 10, 44] [9, 10, 30000, 30001] [(44, bV r12)] [] (io 44 h (fun h => ?_) (fun h => ?_)))
  refine pn hG 3 [0, 1, 2, 44, 45, 46, 47] [30000, 30001] [(45, .ptr 30000 0), (46, .t (eGNode (h30000_1.getD (a1).toNat default))), (47, .t (eGNode (h30000_3.getD (a2).toNat default)))] [] ?_
  obtain ⟨r15, hr16, h⟩ := bnd h
  refine ch hG [30000, 30001] [30000, 30001] [] (nf := 0) (caps := []) (aps := [.ptr 30000 0, .t (eGNode (h30000_1.getD (a1).toNat default)), .t (eGNode (h30000_3.getD (a2).toNat default))]) rfl rfl rfl rfl callable31 (.cons (.same _) (.cons (.same _) (.cons (.same _) .nil))) (F31s1_ok (F19s0 n) ih n _ _ _ _ _ _ _ _ hr16) (pn hG 2 [0, 1, 2, 7] [30000, 30001] [(7, bV r15.1)] [(30001, .mpb 2 (r15.2))] ?_)
  injection h with q0
  injection q0 with p1 q1
  subst p1
  subst q1
  exact pe fl
  refine pn hG 6 [0, 1, 2, 7] [30000, 30001] [(7, bV false)] [] ?_
  injection h with q0
  injection q0 with p1 q1
  subst p1
  subst q1
  exact pe fl
  refine then_n (rn hG [7] [30000, 30001] [] [(30001, .mpb 2 (mset (j8) [a1, a2] j9))] ?_)
  injection h with q0
  injection q0 with p1 q1
  subst p1
  subst q1
  exact fl
  refine pwp_skip ?_
  injection h with q0
  injection q0 with p1 q1
  subst p1
  subst q1
  exact fl
  refine then_n (sn hG [6] [30000, 30001] [(6, bV j3)] [] (kw [6] [30000, 30001] ?_))
  cases h
  exact pwp_ret (retH_at [30000, 30001] (.inr rfl) (by kernel_rfl))

def F23 (n : Nat) (a0 : GNode) : Option (Bool) := Option.bind (if (decide (a0.Op ≥ 4)) = true then (some (decide (a0.Op ≤ 8))) else (some (false)) : Option (Bool)) fun j1 => some (j1)
abbrev I23 : Inf := ⟨look tiL, [], 11⟩
set_option maxRecDepth 20000 in
theorem F23_ok (n : Nat) (a0 : GNode) (y : Bool) (h : F23 n a0 = some y) : PCall Proofs.Try.prog 23 [.t (eGNode a0)] [] [] (Ret (.t (.bool (y)))) := by
  refine pcall_of (I := I23) Proofs.Try.func23 rfl ti_ok Proofs.Try.ntmps23 (le_n (by kernel_rfl)) (fun E hG => ?_)
  unfold F23 at h
  refine sn hG [1] [1] [(1, .ptr 1 0)] [(1, .box ((cGNode (a0)).map .t))] (pwp_seq ?_)
  obtain ⟨j1, hj3, h⟩ := bnd h
  refine jn [2] [] [(2, bV j1)] [] ?_ ?_
  replace h := hj3; clear hj3
  refine pwp_region (pn hG 4 [1, 6] [1] [(6, bV (decide (a0.Op ≥ 4)))] [] (io 6 h (fun h => ?_) (fun h => ?_)))
  refine pn hG 5 [2] [] [(2, bV (decide (a0.Op ≤ 8)))] [] ?_
  cases h
  exact pe fl
  refine pn hG 5 [2] [] [(2, bV false)] [] ?_
  cases h
  exact pe fl
  refine then_n ?_
  cases h
  exact pwp_ret rt

def F70 (n : Nat) (a0 : Int) (a1 : Int) (a2 : Int) : Option (Bool) := Option.bind (if (decide (a0 ≥ a1)) = true then (some (decide (a0 ≤ a2))) else (some (false)) : Option (Bool)) fun j1 => some (j1)
abbrev I70 : Inf := ⟨look tiL, [], 15⟩
set_option maxRecDepth 20000 in
theorem F70_ok (n : Nat) (a0 : Int) (a1 : Int) (a2 : Int) (y : Bool) (h : F70 n a0 a1 a2 = some y) : PCall Proofs.Try.prog 70 [.t (.int .i64 (a0)), .t (.int .i64 (a1)), .t (.int .i64 (a2))] [] [] (Ret (.t (.bool (y)))) := by
  refine pcall_of (I := I70) Proofs.Try.func70 rfl ti_ok Proofs.Try.ntmps70 (le_n (by kernel_rfl)) (fun E hG => ?_)
  unfold F70 at h
  refine sn hG [0, 1, 2] [] [] [] (pwp_seq ?_)
  obtain ⟨j1, hj3, h⟩ := bnd h
  refine jn [6] [] [(6, bV j1)] [] ?_ ?_
  replace h := hj3; clear hj3
  refine pwp_region (pn hG 4 [0, 2, 10] [] [(10, bV (decide (a0 ≥ a1)))] [] (io 10 h (fun h => ?_) (fun h => ?_)))
  refine pn hG 5 [6] [] [(6, bV (decide (a0 ≤ a2)))] [] ?_
  cases h
  exact pe fl
  refine pn hG 5 [6] [] [(6, bV false)] [] ?_
  cases h
  exact pe fl
  refine then_n ?_
  cases h
  exact pwp_ret rt

def F54 (n : Nat) (a0 : Int) : Option (Nat) := (F70 n a0 0 8).bind fun r1 => if (!r1) = true then (some (0)) else (if a0 = 0 then (some (1)) else (if a0 = 1 then (some (2)) else (if a0 = 2 then (some (2)) else (if a0 = 3 then (some (3)) else (if a0 = 4 then (some (4)) else (if a0 = 5 then (some (5)) else (if a0 = 6 then (some (6)) else (if a0 = 7 then (some (7)) else (if a0 = 8 then (some (8)) else (none))))))))))
def V54 : Nat → PV
  | 0 => .tup [.agg [.t (.int .i64 (0)), .lit (.nilFunc), .lit (.nilFunc), .t (.bool (false))], .t (.bool (false))]
  | 1 => .tup [.agg [.t (.int .i64 (0)), .fn (.func 64) 0 [], .fn (.func 65) 0 [], .t (.bool (false))], .t (.bool (true))]
  | 2 => .tup [.agg [.t (.int .i64 (1)), .fn (.func 64) 0 [], .fn (.func 65) 0 [], .t (.bool (false))], .t (.bool (true))]
  | 3 => .tup [.agg [.t (.int .i64 (2)), .fn (.func 64) 0 [], .fn (.func 65) 0 [], .t (.bool (false))], .t (.bool (true))]
  | 4 => .tup [.agg [.t (.int .i64 (1)), .fn (.func 66) 0 [], .fn (.func 67) 0 [], .t (.bool (true))], .t (.bool (true))]
  | 5 => .tup [.agg [.t (.int .i64 (1)), .fn (.func 68) 0 [], .fn (.func 67) 0 [], .t (.bool (true))], .t (.bool (true))]
  | 6 => .tup [.agg [.t (.int .i64 (2)), .fn (.func 71) 0 [], .fn (.func 72) 0 [], .t (.bool (true))], .t (.bool (true))]
  | 7 => .tup [.agg [.t (.int .i64 (2)), .fn (.func 73) 0 [], .fn (.func 74) 0 [], .t (.bool (true))], .t (.bool (true))]
  | 8 => .tup [.agg [.t (.int .i64 (1)), .fn (.func 75) 0 [], .fn (.func 76) 0 [], .t (.bool (true))], .t (.bool (true))]
  | _ => .any
abbrev I54 : Inf := ⟨look tiL, [], 22⟩
set_option maxRecDepth 20000 in
theorem F54_ok (n : Nat) (a0 : Int) (y : Nat) (h : F54 n a0 = some y) : PCall Proofs.Try.prog 54 [.t (.int .i64 (a0))] [] [] (Ret (V54 y)) := by
  refine pcall_of (I := I54) Proofs.Try.func54 rfl ti_ok Proofs.Try.ntmps54 (le_n (by kernel_rfl)) (fun E hG => ?_)
  unfold F54 at h
  refine sn hG [0, 2] [2] [(2, .ptr 2 0)] [(2, .box [iV 0, .lit (.nilFunc), .lit (.nilFunc), bV false])] (pwp_seq (pwp_region (pn hG 12 [0, 2, 4] [2, 4] [(4, .ptr 4 0)] [(4, .box [iV 0, .fn (.func 64) 0 [], .fn (.func 65) 0 [], bV false, iV 1, .fn (.func 64) 0 [], .fn (.func 65) 0 [], bV false, iV 1, .fn (.func 64) 0 [], .fn (.func 65) 0 [], bV false, iV 2, .fn (.func 64) 0 [], .fn (.func 65) 0 [], bV false, iV 1, .fn (.func 66) 0 [], .fn (.func 67) 0 [], bV true, iV 1, .fn (.func 68) 0 [], .fn (.func 67) 0 [], bV true, iV 2, .fn (.func 71) 0 [], .fn (.func 72) 0 [], bV true, iV 2, .fn (.func 73) 0 [], .fn (.func 74) 0 [], bV true, iV 1, .fn (.func 75) 0 [], .fn (.func 76) 0 [], bV true])] (pe (then_n (pwp_seq (pwp_seq (pwp_region ?_))))))))
  refine pn hG 1 [0, 2, 4, 15] [2, 4] [(15, iV a0)] [] ?_
  obtain ⟨r1, hr2, h⟩ := bnd h
  refine ca hG [] rfl rfl rfl rfl callable70 (.cons (.same _) (.cons (.same _) (.cons (.same _) .nil))) (F70_ok n _ _ _ _ hr2) (pn hG 1 [0, 2, 4, 17] [2, 4] [(17, bV (!r1))] [] (pe (then_n (iw h (fun h => ?_) (fun h => ?_)))))
  refine pwp_seq (pwp_region (pn hG 3 [2, 3] [2] [(3, bV false)] [] (pe (then_n ?_))))
  cases h
  exact pwp_ret (then_ret rt)
  refine pwp_skip (then_n (pwp_seq (pwp_region (pn hG 1 [2, 4, 19] [2, 4] [(19, iV a0)] [] (os ⟨[(2, .ptr 2 0), (4, .ptr 4 0), (19, iV a0)], [(2, .box [iV 0, .lit (.nilFunc), .lit (.nilFunc), bV false]), (4, .box [iV 0, .fn (.func 64) 0 [], .fn (.func 65) 0 [], bV false, iV 1, .fn (.func 64) 0 [], .fn (.func 65) 0 [], bV false, iV 1, .fn (.func 64) 0 [], .fn (.func 65) 0 [], bV false, iV 2, .fn (.func 64) 0 [], .fn (.func 65) 0 [], bV false, iV 1, .fn (.func 66) 0 [], .fn (.func 67) 0 [], bV true, iV 1, .fn (.func 68) 0 [], .fn (.func 67) 0 [], bV true, iV 2, .fn (.func 71) 0 [], .fn (.func 72) 0 [], bV true, iV 2, .fn (.func 73) 0 [], .fn (.func 74) 0 [], bV true, iV 1, .fn (.func 75) 0 [], .fn (.func 76) 0 [], bV true])]⟩ (pops_int (t := 19) (n := a0) 0 rfl (fun he4 => ?_) (fun he4 => ?_)))))))
  replace h := ite_p he4 h
  refine pd hG 4 [2, 3] [2] [(3, bV true)] [(2, .box [iV 0, .fn (.func 64) 0 [], .fn (.func 65) 0 [], bV false])] (Cs := [0 ≤ (0 : Int) ∧ (0 : Int) < (9 : Int)]) (show 0 ≤ (0 : Int) ∧ (0 : Int) < (9 : Int) by decide) (pe (then_n ?_))
  cases h
  exact pwp_ret rt
  replace h := ite_n he4 h
  refine pops_int (t := 19) (n := a0) 1 rfl (fun he5 => ?_) (fun he5 => ?_)
  replace h := ite_p he5 h
  refine pd hG 4 [2, 3] [2] [(3, bV true)] [(2, .box [iV 1, .fn (.func 64) 0 [], .fn (.func 65) 0 [], bV false])] (Cs := [0 ≤ (1 : Int) ∧ (1 : Int) < (9 : Int)]) (show 0 ≤ (1 : Int) ∧ (1 : Int) < (9 : Int) by decide) (pe (then_n ?_))
  cases h
  exact pwp_ret rt
  replace h := ite_n he5 h
  refine pops_int (t := 19) (n := a0) 2 rfl (fun he6 => ?_) (fun he6 => ?_)
  replace h := ite_p he6 h
  refine pd hG 4 [2, 3] [2] [(3, bV true)] [(2, .box [iV 1, .fn (.func 64) 0 [], .fn (.func 65) 0 [], bV false])] (Cs := [0 ≤ (2 : Int) ∧ (2 : Int) < (9 : Int)]) (show 0 ≤ (2 : Int) ∧ (2 : Int) < (9 : Int) by decide) (pe (then_n ?_))
  cases h
  exact pwp_ret rt
  replace h := ite_n he6 h
  refine pops_int (t := 19) (n := a0) 3 rfl (fun he7 => ?_) (fun he7 => ?_)
  replace h := ite_p he7 h
  refine pd hG 4 [2, 3] [2] [(3, bV true)] [(2, .box [iV 2, .fn (.func 64) 0 [], .fn (.func 65) 0 [], bV false])] (Cs := [0 ≤ (3 : Int) ∧ (3 : Int) < (9 : Int)]) (show 0 ≤ (3 : Int) ∧ (3 : Int) < (9 : Int) by decide) (pe (then_n ?_))
  cases h
  exact pwp_ret rt
  replace h := ite_n he7 h
  refine pops_int (t := 19) (n := a0) 4 rfl (fun he8 => ?_) (fun he8 => ?_)
  replace h := ite_p he8 h
  refine pd hG 4 [2, 3] [2] [(3, bV true)] [(2, .box [iV 1, .fn (.func 66) 0 [], .fn (.func 67) 0 [], bV true])] (Cs := [0 ≤ (4 : Int) ∧ (4 : Int) < (9 : Int)]) (show 0 ≤ (4 : Int) ∧ (4 : Int) < (9 : Int) by decide) (pe (then_n ?_))
  cases h
  exact pwp_ret rt
  replace h := ite_n he8 h
  refine pops_int (t := 19) (n := a0) 5 rfl (fun he9 => ?_) (fun he9 => ?_)
  replace h := ite_p he9 h
  refine pd hG 4 [2, 3] [2] [(3, bV true)] [(2, .box [iV 1, .fn (.func 68) 0 [], .fn (.func 67) 0 [], bV true])] (Cs := [0 ≤ (5 : Int) ∧ (5 : Int) < (9 : Int)]) (show 0 ≤ (5 : Int) ∧ (5 : Int) < (9 : Int) by decide) (pe (then_n ?_))
  cases h
  exact pwp_ret rt
  replace h := ite_n he9 h
  refine pops_int (t := 19) (n := a0) 6 rfl (fun he10 => ?_) (fun he10 => ?_)
  replace h := ite_p he10 h
  refine pd hG 4 [2, 3] [2] [(3, bV true)] [(2, .box [iV 2, .fn (.func 71) 0 [], .fn (.func 72) 0 [], bV true])] (Cs := [0 ≤ (6 : Int) ∧ (6 : Int) < (9 : Int)]) (show 0 ≤ (6 : Int) ∧ (6 : Int) < (9 : Int) by decide) (pe (then_n ?_))
  cases h
  exact pwp_ret rt
  replace h := ite_n he10 h
  refine pops_int (t := 19) (n := a0) 7 rfl (fun he11 => ?_) (fun he11 => ?_)
  replace h := ite_p he11 h
  refine pd hG 4 [2, 3] [2] [(3, bV true)] [(2, .box [iV 2, .fn (.func 73) 0 [], .fn (.func 74) 0 [], bV true])] (Cs := [0 ≤ (7 : Int) ∧ (7 : Int) < (9 : Int)]) (show 0 ≤ (7 : Int) ∧ (7 : Int) < (9 : Int) by decide) (pe (then_n ?_))
  cases h
  exact pwp_ret rt
  replace h := ite_n he11 h
  refine pops_int (t := 19) (n := a0) 8 rfl (fun he12 => ?_) (fun he12 => ?_)
  replace h := ite_p he12 h
  refine pd hG 4 [2, 3] [2] [(3, bV true)] [(2, .box [iV 1, .fn (.func 75) 0 [], .fn (.func 76) 0 [], bV true])] (Cs := [0 ≤ (8 : Int) ∧ (8 : Int) < (9 : Int)]) (show 0 ≤ (8 : Int) ∧ (8 : Int) < (9 : Int) by decide) (pe (then_n ?_))
  cases h
  exact pwp_ret rt
  replace h := ite_n he12 h
  cases h

def F64 (n : Nat) (a0 : GNode) : Option (Bool) := some (true)
abbrev I64 : Inf := ⟨look tiL, [], 3⟩
set_option maxRecDepth 20000 in
theorem F64_ok (n : Nat) (a0 : GNode) (y : Bool) (h : F64 n a0 = some y) : PCall Proofs.Try.prog 64 [.t (eGNode a0)] [] [] (Ret (.t (.bool (y)))) := by
  refine pcall_of (I := I64) Proofs.Try.func64 rfl ti_ok Proofs.Try.ntmps64 (le_n (by kernel_rfl)) (fun E hG => ?_)
  unfold F64 at h
  refine sn hG [] [] [] [] (sn hG [2] [] [(2, bV true)] [] ?_)
  cases h
  exact pwp_ret rt

def F69 (n : Nat) (a0 : GNode) : Option (Bool) := (F70 n a0.Size 1 10000).bind fun r1 => some (r1)
abbrev I69 : Inf := ⟨look tiL, [], 6⟩
set_option maxRecDepth 20000 in
theorem F69_ok (n : Nat) (a0 : GNode) (y : Bool) (h : F69 n a0 = some y) : PCall Proofs.Try.prog 69 [.t (eGNode a0)] [] [] (Ret (.t (.bool (y)))) := by
  refine pcall_of (I := I69) Proofs.Try.func69 rfl ti_ok Proofs.Try.ntmps69 (le_n (by kernel_rfl)) (fun E hG => ?_)
  unfold F69 at h
  refine sn hG [1] [1] [(1, .ptr 1 0)] [(1, .box ((cGNode (a0)).map .t))] (pwp_seq (pwp_region (pn hG 2 [4] [] [(4, iV a0.Size)] [] ?_)))
  obtain ⟨r1, hr2, h⟩ := bnd h
  refine ca hG [] rfl rfl rfl rfl callable70 (.cons (.same _) (.cons (.same _) (.cons (.same _) .nil))) (F70_ok n _ _ _ _ hr2) (pn hG 1 [2] [] [(2, bV r1)] [] (pe (then_n ?_)))
  cases h
  exact pwp_ret rt

def F66 (n : Nat) (a0 : GNode) : Option (Bool) := if (a0.Kind == 0) = true then ((F69 n a0).bind fun r2 => some (r2)) else (if (a0.Kind == 1) = true then (Option.bind ((F69 n a0).bind fun r8 => if (r8) = true then (if (decide (a0.Step > 0)) = true then (if a0.Step ≠ 0 then (some ((Int.tmod a0.Size a0.Step) == 0)) else none) else (some (false))) else (some (false)) : Option (Bool)) fun j5 => some (j5)) else (if (a0.Kind == 2) = true then (Option.bind ((F69 n a0).bind fun r17 => if (r17) = true then ((F70 n a0.Step 1 a0.Size).bind fun r20 => some (r20)) else (some (false)) : Option (Bool)) fun j14 => some (j14)) else (some (false))))
abbrev I66 : Inf := ⟨look tiL, [], 37⟩
set_option maxRecDepth 20000 in
theorem F66_ok (n : Nat) (a0 : GNode) (y : Bool) (h : F66 n a0 = some y) : PCall Proofs.Try.prog 66 [.t (eGNode a0)] [] [] (Ret (.t (.bool (y)))) := by
  refine pcall_of (I := I66) Proofs.Try.func66 rfl ti_ok Proofs.Try.ntmps66 (le_n (by kernel_rfl)) (fun E hG => ?_)
  unfold F66 at h
  refine sn hG [1] [1] [(1, .ptr 1 0)] [(1, .box ((cGNode (a0)).map .t))] (pwp_seq (sn hG [1, 4] [1] [(4, iV a0.Kind)] [] (pwp_block (sn hG [1, 4, 5] [1] [(5, bV (a0.Kind == 0))] [] (iw h (fun h => ?_) (fun h => ?_))))))
  refine pwp_seq (pwp_region (pn hG 1 [7] [] [(7, .t (eGNode a0))] [] ?_))
  obtain ⟨r2, hr3, h⟩ := bnd h
  refine ca hG [] rfl rfl rfl rfl callable69 (.cons (.same _) .nil) (F69_ok n _ _ hr3) (pn hG 1 [2] [] [(2, bV r2)] [] (pe (then_n ?_)))
  cases h
  exact pwp_ret (blk_ret (then_ret rt))
  refine sn hG [1, 4, 9] [1] [(9, bV (a0.Kind == 1))] [] (iw h (fun h => ?_) (fun h => ?_))
  refine pwp_seq ?_
  obtain ⟨j5, hj7, h⟩ := bnd h
  refine jn [2] [] [(2, bV j5)] [] ?_ ?_
  replace h := hj7; clear hj7
  refine pwp_region (pn hG 1 [1, 11] [1] [(11, .t (eGNode a0))] [] ?_)
  obtain ⟨r8, hr9, h⟩ := bnd h
  refine ca hG [] rfl rfl rfl rfl callable69 (.cons (.same _) .nil) (F69_ok n _ _ hr9) (pn hG 1 [1, 13] [1] [(13, bV r8)] [] (io 13 h (fun h => ?_) (fun h => ?_)))
  refine pn hG 5 [1, 18] [1] [(18, bV (decide (a0.Step > 0)))] [] (io 18 h (fun h => ?_) (fun h => ?_))
  obtain ⟨hc12, h⟩ := grd h
  refine pc hG 8 [2] [] [(2, bV ((Int.tmod a0.Size a0.Step) == 0))] [] hc12 ?_
  cases h
  exact pe fl
  refine pn hG 8 [2] [] [(2, bV false)] [] ?_
  cases h
  exact pe fl
  refine pn hG 13 [2] [] [(2, bV false)] [] ?_
  cases h
  exact pe fl
  refine then_n ?_
  cases h
  exact pwp_ret (blk_ret (then_ret rt))
  refine sn hG [1, 26] [1] [(26, bV (a0.Kind == 2))] [] (iw h (fun h => ?_) (fun h => ?_))
  refine pwp_seq ?_
  obtain ⟨j14, hj16, h⟩ := bnd h
  refine jn [2] [] [(2, bV j14)] [] ?_ ?_
  replace h := hj16; clear hj16
  refine pwp_region (pn hG 1 [1, 28] [1] [(28, .t (eGNode a0))] [] ?_)
  obtain ⟨r17, hr18, h⟩ := bnd h
  refine ca hG [] rfl rfl rfl rfl callable69 (.cons (.same _) .nil) (F69_ok n _ _ hr18) (pn hG 1 [1, 30] [1] [(30, bV r17)] [] (io 30 h (fun h => ?_) (fun h => ?_)))
  refine pn hG 4 [30, 32, 34] [] [(32, iV a0.Step), (34, iV a0.Size)] [] ?_
  obtain ⟨r20, hr21, h⟩ := bnd h
  refine ca hG [] rfl rfl rfl rfl callable70 (.cons (.same _) (.cons (.same _) (.cons (.same _) .nil))) (F70_ok n _ _ _ _ hr21) (pn hG 2 [2] [] [(2, bV r20)] [] ?_)
  cases h
  exact pe fl
  refine pn hG 7 [2] [] [(2, bV false)] [] ?_
  cases h
  exact pe fl
  refine then_n ?_
  cases h
  exact pwp_ret (blk_ret (then_ret rt))
  refine pwp_skip (blk_n (then_n (sn hG [2] [] [(2, bV false)] [] ?_)))
  cases h
  exact pwp_ret rt

def F68 (n : Nat) (a0 : GNode) : Option (Bool) := Option.bind ((F69 n a0).bind fun r4 => if (r4) = true then ((F70 n a0.Keep 1 100).bind fun r7 => some (r7)) else (some (false)) : Option (Bool)) fun j1 => some (j1)
abbrev I68 : Inf := ⟨look tiL, [], 10⟩
set_option maxRecDepth 20000 in
theorem F68_ok (n : Nat) (a0 : GNode) (y : Bool) (h : F68 n a0 = some y) : PCall Proofs.Try.prog 68 [.t (eGNode a0)] [] [] (Ret (.t (.bool (y)))) := by
  refine pcall_of (I := I68) Proofs.Try.func68 rfl ti_ok Proofs.Try.ntmps68 (le_n (by kernel_rfl)) (fun E hG => ?_)
  unfold F68 at h
  refine sn hG [1] [1] [(1, .ptr 1 0)] [(1, .box ((cGNode (a0)).map .t))] (pwp_seq ?_)
  obtain ⟨j1, hj3, h⟩ := bnd h
  refine jn [2] [] [(2, bV j1)] [] ?_ ?_
  replace h := hj3; clear hj3
  refine pwp_region (pn hG 1 [1, 3] [1] [(3, .t (eGNode a0))] [] ?_)
  obtain ⟨r4, hr5, h⟩ := bnd h
  refine ca hG [] rfl rfl rfl rfl callable69 (.cons (.same _) .nil) (F69_ok n _ _ hr5) (pn hG 1 [1, 5] [1] [(5, bV r4)] [] (io 5 h (fun h => ?_) (fun h => ?_)))
  refine pn hG 2 [5, 7] [] [(7, iV a0.Keep)] [] ?_
  obtain ⟨r7, hr8, h⟩ := bnd h
  refine ca hG [] rfl rfl rfl rfl callable70 (.cons (.same _) (.cons (.same _) (.cons (.same _) .nil))) (F70_ok n _ _ _ _ hr8) (pn hG 2 [2] [] [(2, bV r7)] [] ?_)
  cases h
  exact pe fl
  refine pn hG 5 [2] [] [(2, bV false)] [] ?_
  cases h
  exact pe fl
  refine then_n ?_
  cases h
  exact pwp_ret rt

def F71 (n : Nat) (a0 : GNode) : Option (Bool) := Option.bind ((F70 n a0.Before 0 10000).bind fun r4 => if (r4) = true then ((F70 n a0.After 0 10000).bind fun r7 => some (r7)) else (some (false)) : Option (Bool)) fun j1 => some (j1)
abbrev I71 : Inf := ⟨look tiL, [], 11⟩
set_option maxRecDepth 20000 in
theorem F71_ok (n : Nat) (a0 : GNode) (y : Bool) (h : F71 n a0 = some y) : PCall Proofs.Try.prog 71 [.t (eGNode a0)] [] [] (Ret (.t (.bool (y)))) := by
  refine pcall_of (I := I71) Proofs.Try.func71 rfl ti_ok Proofs.Try.ntmps71 (le_n (by kernel_rfl)) (fun E hG => ?_)
  unfold F71 at h
  refine sn hG [1] [1] [(1, .ptr 1 0)] [(1, .box ((cGNode (a0)).map .t))] (pwp_seq ?_)
  obtain ⟨j1, hj3, h⟩ := bnd h
  refine jn [2] [] [(2, bV j1)] [] ?_ ?_
  replace h := hj3; clear hj3
  refine pwp_region (pn hG 2 [1, 4] [1] [(4, iV a0.Before)] [] ?_)
  obtain ⟨r4, hr5, h⟩ := bnd h
  refine ca hG [] rfl rfl rfl rfl callable70 (.cons (.same _) (.cons (.same _) (.cons (.same _) .nil))) (F70_ok n _ _ _ _ hr5) (pn hG 1 [1, 6] [1] [(6, bV r4)] [] (io 6 h (fun h => ?_) (fun h => ?_)))
  refine pn hG 2 [6, 8] [] [(8, iV a0.After)] [] ?_
  obtain ⟨r7, hr8, h⟩ := bnd h
  refine ca hG [] rfl rfl rfl rfl callable70 (.cons (.same _) (.cons (.same _) (.cons (.same _) .nil))) (F70_ok n _ _ _ _ hr8) (pn hG 2 [2] [] [(2, bV r7)] [] ?_)
  cases h
  exact pe fl
  refine pn hG 5 [2] [] [(2, bV false)] [] ?_
  cases h
  exact pe fl
  refine then_n ?_
  cases h
  exact pwp_ret rt

def F73 (n : Nat) (a0 : GNode) : Option (Bool) := (F70 n a0.Keep 1 10000).bind fun r1 => some (r1)
abbrev I73 : Inf := ⟨look tiL, [], 6⟩
set_option maxRecDepth 20000 in
theorem F73_ok (n : Nat) (a0 : GNode) (y : Bool) (h : F73 n a0 = some y) : PCall Proofs.Try.prog 73 [.t (eGNode a0)] [] [] (Ret (.t (.bool (y)))) := by
  refine pcall_of (I := I73) Proofs.Try.func73 rfl ti_ok Proofs.Try.ntmps73 (le_n (by kernel_rfl)) (fun E hG => ?_)
  unfold F73 at h
  refine sn hG [1] [1] [(1, .ptr 1 0)] [(1, .box ((cGNode (a0)).map .t))] (pwp_seq (pwp_region (pn hG 2 [4] [] [(4, iV a0.Keep)] [] ?_)))
  obtain ⟨r1, hr2, h⟩ := bnd h
  refine ca hG [] rfl rfl rfl rfl callable70 (.cons (.same _) (.cons (.same _) (.cons (.same _) .nil))) (F70_ok n _ _ _ _ hr2) (pn hG 1 [2] [] [(2, bV r1)] [] (pe (then_n ?_)))
  cases h
  exact pwp_ret rt

def F75 (n : Nat) (a0 : GNode) : Option (Bool) := Option.bind ((F69 n a0).bind fun r4 => if (r4) = true then ((F70 n ((a0.Seq.length : Int)) 1 8).bind fun r7 => some (r7)) else (some (false)) : Option (Bool)) fun j1 => some (j1)
abbrev I75 : Inf := ⟨look tiL, [], 11⟩
set_option maxRecDepth 20000 in
theorem F75_ok (n : Nat) (a0 : GNode) (y : Bool) (h : F75 n a0 = some y) : PCall Proofs.Try.prog 75 [.t (eGNode a0)] [] [] (Ret (.t (.bool (y)))) := by
  refine pcall_of (I := I75) Proofs.Try.func75 rfl ti_ok Proofs.Try.ntmps75 (le_n (by kernel_rfl)) (fun E hG => ?_)
  unfold F75 at h
  refine sn hG [1] [1] [(1, .ptr 1 0)] [(1, .box ((cGNode (a0)).map .t))] (pwp_seq ?_)
  obtain ⟨j1, hj3, h⟩ := bnd h
  refine jn [2] [] [(2, bV j1)] [] ?_ ?_
  replace h := hj3; clear hj3
  refine pwp_region (pn hG 1 [1, 3] [1] [(3, .t (eGNode a0))] [] ?_)
  obtain ⟨r4, hr5, h⟩ := bnd h
  refine ca hG [] rfl rfl rfl rfl callable69 (.cons (.same _) .nil) (F69_ok n _ _ hr5) (pn hG 1 [1, 5] [1] [(5, bV r4)] [] (io 5 h (fun h => ?_) (fun h => ?_)))
  refine pn hG 3 [5, 8] [] [(8, iV ((a0.Seq.length : Int)))] [] ?_
  obtain ⟨r7, hr8, h⟩ := bnd h
  refine ca hG [] rfl rfl rfl rfl callable70 (.cons (.same _) (.cons (.same _) (.cons (.same _) .nil))) (F70_ok n _ _ _ _ hr8) (pn hG 2 [2] [] [(2, bV r7)] [] ?_)
  cases h
  exact pe fl
  refine pn hG 6 [2] [] [(2, bV false)] [] ?_
  cases h
  exact pe fl
  refine then_n ?_
  cases h
  exact pwp_ret rt

def F53 (n : Nat) (a0 : GNode) : Option (Bool) := (F54 n a0.Op).bind fun r1 => if r1 = 0 then (some (false)) else (if r1 = 1 then ((F64 n a0).bind fun r5 => some (r5)) else (if r1 = 2 then ((F64 n a0).bind fun r8 => some (r8)) else (if r1 = 3 then ((F64 n a0).bind fun r11 => some (r11)) else (if r1 = 4 then ((F66 n a0).bind fun r14 => some (r14)) else (if r1 = 5 then ((F68 n a0).bind fun r17 => some (r17)) else (if r1 = 6 then ((F71 n a0).bind fun r20 => some (r20)) else (if r1 = 7 then ((F73 n a0).bind fun r23 => some (r23)) else (if r1 = 8 then ((F75 n a0).bind fun r26 => some (r26)) else (none)))))))))
abbrev I53 : Inf := ⟨look tiL, [], 18⟩
set_option maxRecDepth 20000 in
theorem F53_ok (n : Nat) (a0 : GNode) (y : Bool) (h : F53 n a0 = some y) : PCall Proofs.Try.prog 53 [.t (eGNode a0)] [] [] (Ret (.t (.bool (y)))) := by
  refine pcall_of (I := I53) Proofs.Try.func53 rfl ti_ok Proofs.Try.ntmps53 (le_n (by kernel_rfl)) (fun E hG => ?_)
  unfold F53 at h
  refine sn hG [1] [1] [(1, .ptr 1 0)] [(1, .box ((cGNode (a0)).map .t))] (pwp_seq (pwp_region (pn hG 2 [1, 7] [1] [(7, iV a0.Op)] [] ?_)))
  obtain ⟨r1, hr2, h⟩ := bnd h
  refine nsplit r1 0 (fun he3 => ?_) (fun he3 => ?_)
  replace h := ite_p he3 h
  subst he3
  refine ca hG [] rfl rfl rfl rfl callable54 (.cons (.same _) .nil) (F54_ok n _ _ hr2) (pn hG 6 [1, 3, 4] [1, 3] [(3, .ptr 3 0), (4, bV false)] [(3, .box [iV 0, .lit (.nilFunc), .lit (.nilFunc), bV false])] (pe (then_n (pwp_seq (pwp_region (pn hG 8 [2] [] [(2, bV false)] [] (pe (then_n ?_))))))))
  cases h
  exact pwp_ret rt
  replace h := ite_n he3 h
  refine nsplit r1 1 (fun he4 => ?_) (fun he4 => ?_)
  replace h := ite_p he4 h
  subst he4
  refine ca hG [] rfl rfl rfl rfl callable54 (.cons (.same _) .nil) (F54_ok n _ _ hr2) (pn hG 6 [1, 3, 4] [1, 3] [(3, .ptr 3 0), (4, bV true)] [(3, .box [iV 0, .fn (.func 64) 0 [], .fn (.func 65) 0 [], bV false])] (pe (then_n (pwp_seq (pwp_region (pn hG 5 [12, 14, 15] [] [(12, bV true), (14, .fn (.func 64) 0 []), (15, .t (eGNode a0))] [] ?_))))))
  obtain ⟨r5, hr6, h⟩ := bnd h
  refine ca hG [] rfl rfl rfl rfl callable64 (.cons (.same _) .nil) (F64_ok n _ _ hr6) (pn hG 2 [2] [] [(2, bV r5)] [] (pe (then_n ?_)))
  cases h
  exact pwp_ret rt
  replace h := ite_n he4 h
  refine nsplit r1 2 (fun he7 => ?_) (fun he7 => ?_)
  replace h := ite_p he7 h
  subst he7
  refine ca hG [] rfl rfl rfl rfl callable54 (.cons (.same _) .nil) (F54_ok n _ _ hr2) (pn hG 6 [1, 3, 4] [1, 3] [(3, .ptr 3 0), (4, bV true)] [(3, .box [iV 1, .fn (.func 64) 0 [], .fn (.func 65) 0 [], bV false])] (pe (then_n (pwp_seq (pwp_region (pn hG 5 [12, 14, 15] [] [(12, bV true), (14, .fn (.func 64) 0 []), (15, .t (eGNode a0))] [] ?_))))))
  obtain ⟨r8, hr9, h⟩ := bnd h
  refine ca hG [] rfl rfl rfl rfl callable64 (.cons (.same _) .nil) (F64_ok n _ _ hr9) (pn hG 2 [2] [] [(2, bV r8)] [] (pe (then_n ?_)))
  cases h
  exact pwp_ret rt
  replace h := ite_n he7 h
  refine nsplit r1 3 (fun he10 => ?_) (fun he10 => ?_)
  replace h := ite_p he10 h
  subst he10
  refine ca hG [] rfl rfl rfl rfl callable54 (.cons (.same _) .nil) (F54_ok n _ _ hr2) (pn hG 6 [1, 3, 4] [1, 3] [(3, .ptr 3 0), (4, bV true)] [(3, .box [iV 2, .fn (.func 64) 0 [], .fn (.func 65) 0 [], bV false])] (pe (then_n (pwp_seq (pwp_region (pn hG 5 [12, 14, 15] [] [(12, bV true), (14, .fn (.func 64) 0 []), (15, .t (eGNode a0))] [] ?_))))))
  obtain ⟨r11, hr12, h⟩ := bnd h
  refine ca hG [] rfl rfl rfl rfl callable64 (.cons (.same _) .nil) (F64_ok n _ _ hr12) (pn hG 2 [2] [] [(2, bV r11)] [] (pe (then_n ?_)))
  cases h
  exact pwp_ret rt
  replace h := ite_n he10 h
  refine nsplit r1 4 (fun he13 => ?_) (fun he13 => ?_)
  replace h := ite_p he13 h
  subst he13
  refine ca hG [] rfl rfl rfl rfl callable54 (.cons (.same _) .nil) (F54_ok n _ _ hr2) (pn hG 6 [1, 3, 4] [1, 3] [(3, .ptr 3 0), (4, bV true)] [(3, .box [iV 1, .fn (.func 66) 0 [], .fn (.func 67) 0 [], bV true])] (pe (then_n (pwp_seq (pwp_region (pn hG 5 [12, 14, 15] [] [(12, bV true), (14, .fn (.func 66) 0 []), (15, .t (eGNode a0))] [] ?_))))))
  obtain ⟨r14, hr15, h⟩ := bnd h
  refine ca hG [] rfl rfl rfl rfl callable66 (.cons (.same _) .nil) (F66_ok n _ _ hr15) (pn hG 2 [2] [] [(2, bV r14)] [] (pe (then_n ?_)))
  cases h
  exact pwp_ret rt
  replace h := ite_n he13 h
  refine nsplit r1 5 (fun he16 => ?_) (fun he16 => ?_)
  replace h := ite_p he16 h
  subst he16
  refine ca hG [] rfl rfl rfl rfl callable54 (.cons (.same _) .nil) (F54_ok n _ _ hr2) (pn hG 6 [1, 3, 4] [1, 3] [(3, .ptr 3 0), (4, bV true)] [(3, .box [iV 1, .fn (.func 68) 0 [], .fn (.func 67) 0 [], bV true])] (pe (then_n (pwp_seq (pwp_region (pn hG 5 [12, 14, 15] [] [(12, bV true), (14, .fn (.func 68) 0 []), (15, .t (eGNode a0))] [] ?_))))))
  obtain ⟨r17, hr18, h⟩ := bnd h
  refine ca hG [] rfl rfl rfl rfl callable68 (.cons (.same _) .nil) (F68_ok n _ _ hr18) (pn hG 2 [2] [] [(2, bV r17)] [] (pe (then_n ?_)))
  cases h
  exact pwp_ret rt
  replace h := ite_n he16 h
  refine nsplit r1 6 (fun he19 => ?_) (fun he19 => ?_)
  replace h := ite_p he19 h
  subst he19
  refine ca hG [] rfl rfl rfl rfl callable54 (.cons (.same _) .nil) (F54_ok n _ _ hr2) (pn hG 6 [1, 3, 4] [1, 3] [(3, .ptr 3 0), (4, bV true)] [(3, .box [iV 2, .fn (.func 71) 0 [], .fn (.func 72) 0 [], bV true])] (pe (then_n (pwp_seq (pwp_region (pn hG 5 [12, 14, 15] [] [(12, bV true), (14, .fn (.func 71) 0 []), (15, .t (eGNode a0))] [] ?_))))))
  obtain ⟨r20, hr21, h⟩ := bnd h
  refine ca hG [] rfl rfl rfl rfl callable71 (.cons (.same _) .nil) (F71_ok n _ _ hr21) (pn hG 2 [2] [] [(2, bV r20)] [] (pe (then_n ?_)))
  cases h
  exact pwp_ret rt
  replace h := ite_n he19 h
  refine nsplit r1 7 (fun he22 => ?_) (fun he22 => ?_)
  replace h := ite_p he22 h
  subst he22
  refine ca hG [] rfl rfl rfl rfl callable54 (.cons (.same _) .nil) (F54_ok n _ _ hr2) (pn hG 6 [1, 3, 4] [1, 3] [(3, .ptr 3 0), (4, bV true)] [(3, .box [iV 2, .fn (.func 73) 0 [], .fn (.func 74) 0 [], bV true])] (pe (then_n (pwp_seq (pwp_region (pn hG 5 [12, 14, 15] [] [(12, bV true), (14, .fn (.func 73) 0 []), (15, .t (eGNode a0))] [] ?_))))))
  obtain ⟨r23, hr24, h⟩ := bnd h
  refine ca hG [] rfl rfl rfl rfl callable73 (.cons (.same _) .nil) (F73_ok n _ _ hr24) (pn hG 2 [2] [] [(2, bV r23)] [] (pe (then_n ?_)))
  cases h
  exact pwp_ret rt
  replace h := ite_n he22 h
  refine nsplit r1 8 (fun he25 => ?_) (fun he25 => ?_)
  replace h := ite_p he25 h
  subst he25
  refine ca hG [] rfl rfl rfl rfl callable54 (.cons (.same _) .nil) (F54_ok n _ _ hr2) (pn hG 6 [1, 3, 4] [1, 3] [(3, .ptr 3 0), (4, bV true)] [(3, .box [iV 1, .fn (.func 75) 0 [], .fn (.func 76) 0 [], bV true])] (pe (then_n (pwp_seq (pwp_region (pn hG 5 [12, 14, 15] [] [(12, bV true), (14, .fn (.func 75) 0 []), (15, .t (eGNode a0))] [] ?_))))))
  obtain ⟨r26, hr27, h⟩ := bnd h
  refine ca hG [] rfl rfl rfl rfl callable75 (.cons (.same _) .nil) (F75_ok n _ _ hr27) (pn hG 2 [2] [] [(2, bV r26)] [] (pe (then_n ?_)))
  cases h
  exact pwp_ret rt
  replace h := ite_n he25 h
  cases h

def F65 (n : Nat) (a0 : GNode) : Option (Int × Int) := some ((0, 0))
abbrev I65 : Inf := ⟨look tiL, [], 4⟩
set_option maxRecDepth 20000 in
theorem F65_ok (n : Nat) (a0 : GNode) (y : Int × Int) (h : F65 n a0 = some y) : PCall Proofs.Try.prog 65 [.t (eGNode a0)] [] [] (Ret (.tup [.t (.int .i64 (y.1)), .t (.int .i64 (y.2))])) := by
  refine pcall_of (I := I65) Proofs.Try.func65 rfl ti_ok Proofs.Try.ntmps65 (le_n (by kernel_rfl)) (fun E hG => ?_)
  unfold F65 at h
  refine sn hG [] [] [] [] (sn hG [2, 3] [] [(2, iV 0), (3, iV 0)] [] ?_)
  cases h
  exact pwp_ret rt

def F67 (n : Nat) (a0 : GNode) : Option (Int × Int) := Option.bind (if (a0.Op == 4) = true then (some (a0.Kind == 2)) else (some (false)) : Option (Bool)) fun j1 => if (j1) = true then (some ((IntKind.i64.wrap (a0.Size - 1), IntKind.i64.wrap (a0.Step - 1)))) else (some ((IntKind.i64.wrap (a0.Size - 1), IntKind.i64.wrap (a0.Size - 1))))
abbrev I67 : Inf := ⟨look tiL, [], 24⟩
set_option maxRecDepth 20000 in
theorem F67_ok (n : Nat) (a0 : GNode) (y : Int × Int) (h : F67 n a0 = some y) : PCall Proofs.Try.prog 67 [.t (eGNode a0)] [] [] (Ret (.tup [.t (.int .i64 (y.1)), .t (.int .i64 (y.2))])) := by
  refine pcall_of (I := I67) Proofs.Try.func67 rfl ti_ok Proofs.Try.ntmps67 (le_n (by kernel_rfl)) (fun E hG => ?_)
  unfold F67 at h
  refine sn hG [1] [1] [(1, .ptr 1 0)] [(1, .box ((cGNode (a0)).map .t))] (pwp_seq (pwp_seq ?_))
  obtain ⟨j1, hj3, h⟩ := bnd h
  refine jn [1, 11] [1] [(11, bV j1)] [] ?_ ?_
  replace h := hj3; clear hj3
  refine pwp_region (pn hG 4 [1, 7] [1] [(7, bV (a0.Op == 4))] [] (io 7 h (fun h => ?_) (fun h => ?_)))
  refine pn hG 4 [1, 11] [1] [(11, bV (a0.Kind == 2))] [] ?_
  cases h
  exact pe fl
  refine pn hG 4 [1, 11] [1] [(11, bV false)] [] ?_
  cases h
  exact pe fl
  refine then_n (iw h (fun h => ?_) (fun h => ?_))
  refine pwp_seq (ln hG [] [] [] [(1, false, [])] [1, 11] .nil .nil .nil [2, 3] [] [(2, iV (IntKind.i64.wrap (a0.Size - 1))), (3, iV (IntKind.i64.wrap (a0.Step - 1)))] [] (then_n ?_))
  cases h
  exact pwp_ret (then_ret rt)
  refine pwp_skip (then_n (pwp_seq (ln hG [] [] [] [(1, false, [])] [1, 11] .nil .nil .nil [2, 3] [] [(2, iV (IntKind.i64.wrap (a0.Size - 1))), (3, iV (IntKind.i64.wrap (a0.Size - 1)))] [] (then_n ?_))))
  cases h
  exact pwp_ret rt

def F72 (n : Nat) (a0 : GNode) : Option (Int × Int) := some ((if a0.After > a0.Before then a0.After else a0.Before, 0))
abbrev I72 : Inf := ⟨look tiL, [], 9⟩
set_option maxRecDepth 20000 in
theorem F72_ok (n : Nat) (a0 : GNode) (y : Int × Int) (h : F72 n a0 = some y) : PCall Proofs.Try.prog 72 [.t (eGNode a0)] [] [] (Ret (.tup [.t (.int .i64 (y.1)), .t (.int .i64 (y.2))])) := by
  refine pcall_of (I := I72) Proofs.Try.func72 rfl ti_ok Proofs.Try.ntmps72 (le_n (by kernel_rfl)) (fun E hG => ?_)
  unfold F72 at h
  refine sn hG [1] [1] [(1, .ptr 1 0)] [(1, .box ((cGNode (a0)).map .t))] (sn hG [2, 3] [] [(2, iV (if a0.After > a0.Before then a0.After else a0.Before)), (3, iV 0)] [] ?_)
  cases h
  exact pwp_ret rt

def F74 (n : Nat) (a0 : GNode) : Option (Int × Int) := some ((IntKind.i64.wrap (a0.Keep - 1), 0))
abbrev I74 : Inf := ⟨look tiL, [], 7⟩
set_option maxRecDepth 20000 in
theorem F74_ok (n : Nat) (a0 : GNode) (y : Int × Int) (h : F74 n a0 = some y) : PCall Proofs.Try.prog 74 [.t (eGNode a0)] [] [] (Ret (.tup [.t (.int .i64 (y.1)), .t (.int .i64 (y.2))])) := by
  refine pcall_of (I := I74) Proofs.Try.func74 rfl ti_ok Proofs.Try.ntmps74 (le_n (by kernel_rfl)) (fun E hG => ?_)
  unfold F74 at h
  refine sn hG [1] [1] [(1, .ptr 1 0)] [(1, .box ((cGNode (a0)).map .t))] (sn hG [2, 3] [] [(2, iV (IntKind.i64.wrap (a0.Keep - 1))), (3, iV 0)] [] ?_)
  cases h
  exact pwp_ret rt

def F76 (n : Nat) (a0 : GNode) : Option (Int × Int) := some ((IntKind.i64.wrap (a0.Size - 1), 0))
abbrev I76 : Inf := ⟨look tiL, [], 7⟩
set_option maxRecDepth 20000 in
theorem F76_ok (n : Nat) (a0 : GNode) (y : Int × Int) (h : F76 n a0 = some y) : PCall Proofs.Try.prog 76 [.t (eGNode a0)] [] [] (Ret (.tup [.t (.int .i64 (y.1)), .t (.int .i64 (y.2))])) := by
  refine pcall_of (I := I76) Proofs.Try.func76 rfl ti_ok Proofs.Try.ntmps76 (le_n (by kernel_rfl)) (fun E hG => ?_)
  unfold F76 at h
  refine sn hG [1] [1] [(1, .ptr 1 0)] [(1, .box ((cGNode (a0)).map .t))] (sn hG [2, 3] [] [(2, iV (IntKind.i64.wrap (a0.Size - 1))), (3, iV 0)] [] ?_)
  cases h
  exact pwp_ret rt

def F32 (n : Nat) (a0 : GNode) : Option (Int × Int) := (F53 n a0).bind fun r1 => if (!r1) = true then (some ((0, 0))) else ((F54 n a0.Op).bind fun r4 => if r4 = 0 then (none) else (if r4 = 1 then ((F65 n a0).bind fun r8 => some ((r8.1, r8.2))) else (if r4 = 2 then ((F65 n a0).bind fun r11 => some ((r11.1, r11.2))) else (if r4 = 3 then ((F65 n a0).bind fun r14 => some ((r14.1, r14.2))) else (if r4 = 4 then ((F67 n a0).bind fun r17 => some ((r17.1, r17.2))) else (if r4 = 5 then ((F67 n a0).bind fun r20 => some ((r20.1, r20.2))) else (if r4 = 6 then ((F72 n a0).bind fun r23 => some ((r23.1, r23.2))) else (if r4 = 7 then ((F74 n a0).bind fun r26 => some ((r26.1, r26.2))) else (if r4 = 8 then ((F76 n a0).bind fun r29 => some ((r29.1, r29.2))) else (none))))))))))
abbrev I32 : Inf := ⟨look tiL, [], 21⟩
set_option maxRecDepth 20000 in
theorem F32_ok (n : Nat) (a0 : GNode) (y : Int × Int) (h : F32 n a0 = some y) : PCall Proofs.Try.prog 32 [.t (eGNode a0)] [] [] (Ret (.tup [.t (.int .i64 (y.1)), .t (.int .i64 (y.2))])) := by
  refine pcall_of (I := I32) Proofs.Try.func32 rfl ti_ok Proofs.Try.ntmps32 (le_n (by kernel_rfl)) (fun E hG => ?_)
  unfold F32 at h
  refine sn hG [1] [1] [(1, .ptr 1 0)] [(1, .box ((cGNode (a0)).map .t))] (pwp_seq (pwp_seq (pwp_region (pn hG 1 [1, 6] [1] [(6, .t (eGNode a0))] [] ?_))))
  obtain ⟨r1, hr2, h⟩ := bnd h
  refine ca hG [] rfl rfl rfl rfl callable53 (.cons (.same _) .nil) (F53_ok n _ _ hr2) (pn hG 1 [1, 8] [1] [(8, bV (!r1))] [] (pe (then_n (iw h (fun h => ?_) (fun h => ?_)))))
  refine sn hG [2, 3] [] [(2, iV 0), (3, iV 0)] [] ?_
  cases h
  exact pwp_ret (then_ret rt)
  refine pwp_skip (then_n (pwp_seq (pwp_region (pn hG 2 [1, 11] [1] [(11, iV a0.Op)] [] ?_))))
  obtain ⟨r4, hr5, h⟩ := bnd h
  refine nsplit r4 0 (fun he6 => ?_) (fun he6 => ?_)
  replace h := ite_p he6 h
  subst he6
  refine ca hG [] rfl rfl rfl rfl callable54 (.cons (.same _) .nil) (F54_ok n _ _ hr5) (pn hG 6 [1, 4] [1, 4] [(4, .ptr 4 0)] [(4, .box [iV 0, .lit (.nilFunc), .lit (.nilFunc), bV false])] (pe (then_n (pwp_seq (pwp_region (pn hG 3 [16, 17] [] [(16, .lit (.nilFunc)), (17, .t (eGNode a0))] [] ?_))))))
  cases h
  replace h := ite_n he6 h
  refine nsplit r4 1 (fun he7 => ?_) (fun he7 => ?_)
  replace h := ite_p he7 h
  subst he7
  refine ca hG [] rfl rfl rfl rfl callable54 (.cons (.same _) .nil) (F54_ok n _ _ hr5) (pn hG 6 [1, 4] [1, 4] [(4, .ptr 4 0)] [(4, .box [iV 0, .fn (.func 64) 0 [], .fn (.func 65) 0 [], bV false])] (pe (then_n (pwp_seq (pwp_region (pn hG 3 [16, 17] [] [(16, .fn (.func 65) 0 []), (17, .t (eGNode a0))] [] ?_))))))
  obtain ⟨r8, hr9, h⟩ := bnd h
  refine ca hG [] rfl rfl rfl rfl callable65 (.cons (.same _) .nil) (F65_ok n _ _ hr9) (pn hG 4 [2, 3] [] [(2, iV r8.1), (3, iV r8.2)] [] (pe (then_n ?_)))
  cases h
  exact pwp_ret rt
  replace h := ite_n he7 h
  refine nsplit r4 2 (fun he10 => ?_) (fun he10 => ?_)
  replace h := ite_p he10 h
  subst he10
  refine ca hG [] rfl rfl rfl rfl callable54 (.cons (.same _) .nil) (F54_ok n _ _ hr5) (pn hG 6 [1, 4] [1, 4] [(4, .ptr 4 0)] [(4, .box [iV 1, .fn (.func 64) 0 [], .fn (.func 65) 0 [], bV false])] (pe (then_n (pwp_seq (pwp_region (pn hG 3 [16, 17] [] [(16, .fn (.func 65) 0 []), (17, .t (eGNode a0))] [] ?_))))))
  obtain ⟨r11, hr12, h⟩ := bnd h
  refine ca hG [] rfl rfl rfl rfl callable65 (.cons (.same _) .nil) (F65_ok n _ _ hr12) (pn hG 4 [2, 3] [] [(2, iV r11.1), (3, iV r11.2)] [] (pe (then_n ?_)))
  cases h
  exact pwp_ret rt
  replace h := ite_n he10 h
  refine nsplit r4 3 (fun he13 => ?_) (fun he13 => ?_)
  replace h := ite_p he13 h
  subst he13
  refine ca hG [] rfl rfl rfl rfl callable54 (.cons (.same _) .nil) (F54_ok n _ _ hr5) (pn hG 6 [1, 4] [1, 4] [(4, .ptr 4 0)] [(4, .box [iV 2, .fn (.func 64) 0 [], .fn (.func 65) 0 [], bV false])] (pe (then_n (pwp_seq (pwp_region (pn hG 3 [16, 17] [] [(16, .fn (.func 65) 0 []), (17, .t (eGNode a0))] [] ?_))))))
  obtain ⟨r14, hr15, h⟩ := bnd h
  refine ca hG [] rfl rfl rfl rfl callable65 (.cons (.same _) .nil) (F65_ok n _ _ hr15) (pn hG 4 [2, 3] [] [(2, iV r14.1), (3, iV r14.2)] [] (pe (then_n ?_)))
  cases h
  exact pwp_ret rt
  replace h := ite_n he13 h
  refine nsplit r4 4 (fun he16 => ?_) (fun he16 => ?_)
  replace h := ite_p he16 h
  subst he16
  refine ca hG [] rfl rfl rfl rfl callable54 (.cons (.same _) .nil) (F54_ok n _ _ hr5) (pn hG 6 [1, 4] [1, 4] [(4, .ptr 4 0)] [(4, .box [iV 1, .fn (.func 66) 0 [], .fn (.func 67) 0 [], bV true])] (pe (then_n (pwp_seq (pwp_region (pn hG 3 [16, 17] [] [(16, .fn (.func 67) 0 []), (17, .t (eGNode a0))] [] ?_))))))
  obtain ⟨r17, hr18, h⟩ := bnd h
  refine ca hG [] rfl rfl rfl rfl callable67 (.cons (.same _) .nil) (F67_ok n _ _ hr18) (pn hG 4 [2, 3] [] [(2, iV r17.1), (3, iV r17.2)] [] (pe (then_n ?_)))
  cases h
  exact pwp_ret rt
  replace h := ite_n he16 h
  refine nsplit r4 5 (fun he19 => ?_) (fun he19 => ?_)
  replace h := ite_p he19 h
  subst he19
  refine ca hG [] rfl rfl rfl rfl callable54 (.cons (.same _) .nil) (F54_ok n _ _ hr5) (pn hG 6 [1, 4] [1, 4] [(4, .ptr 4 0)] [(4, .box [iV 1, .fn (.func 68) 0 [], .fn (.func 67) 0 [], bV true])] (pe (then_n (pwp_seq (pwp_region (pn hG 3 [16, 17] [] [(16, .fn (.func 67) 0 []), (17, .t (eGNode a0))] [] ?_))))))
  obtain ⟨r20, hr21, h⟩ := bnd h
  refine ca hG [] rfl rfl rfl rfl callable67 (.cons (.same _) .nil) (F67_ok n _ _ hr21) (pn hG 4 [2, 3] [] [(2, iV r20.1), (3, iV r20.2)] [] (pe (then_n ?_)))
  cases h
  exact pwp_ret rt
  replace h := ite_n he19 h
  refine nsplit r4 6 (fun he22 => ?_) (fun he22 => ?_)
  replace h := ite_p he22 h
  subst he22
  refine ca hG [] rfl rfl rfl rfl callable54 (.cons (.same _) .nil) (F54_ok n _ _ hr5) (pn hG 6 [1, 4] [1, 4] [(4, .ptr 4 0)] [(4, .box [iV 2, .fn (.func 71) 0 [], .fn (.func 72) 0 [], bV true])] (pe (then_n (pwp_seq (pwp_region (pn hG 3 [16, 17] [] [(16, .fn (.func 72) 0 []), (17, .t (eGNode a0))] [] ?_))))))
  obtain ⟨r23, hr24, h⟩ := bnd h
  refine ca hG [] rfl rfl rfl rfl callable72 (.cons (.same _) .nil) (F72_ok n _ _ hr24) (pn hG 4 [2, 3] [] [(2, iV r23.1), (3, iV r23.2)] [] (pe (then_n ?_)))
  cases h
  exact pwp_ret rt
  replace h := ite_n he22 h
  refine nsplit r4 7 (fun he25 => ?_) (fun he25 => ?_)
  replace h := ite_p he25 h
  subst he25
  refine ca hG [] rfl rfl rfl rfl callable54 (.cons (.same _) .nil) (F54_ok n _ _ hr5) (pn hG 6 [1, 4] [1, 4] [(4, .ptr 4 0)] [(4, .box [iV 2, .fn (.func 73) 0 [], .fn (.func 74) 0 [], bV true])] (pe (then_n (pwp_seq (pwp_region (pn hG 3 [16, 17] [] [(16, .fn (.func 74) 0 []), (17, .t (eGNode a0))] [] ?_))))))
  obtain ⟨r26, hr27, h⟩ := bnd h
  refine ca hG [] rfl rfl rfl rfl callable74 (.cons (.same _) .nil) (F74_ok n _ _ hr27) (pn hG 4 [2, 3] [] [(2, iV r26.1), (3, iV r26.2)] [] (pe (then_n ?_)))
  cases h
  exact pwp_ret rt
  replace h := ite_n he25 h
  refine nsplit r4 8 (fun he28 => ?_) (fun he28 => ?_)
  replace h := ite_p he28 h
  subst he28
  refine ca hG [] rfl rfl rfl rfl callable54 (.cons (.same _) .nil) (F54_ok n _ _ hr5) (pn hG 6 [1, 4] [1, 4] [(4, .ptr 4 0)] [(4, .box [iV 1, .fn (.func 75) 0 [], .fn (.func 76) 0 [], bV true])] (pe (then_n (pwp_seq (pwp_region (pn hG 3 [16, 17] [] [(16, .fn (.func 76) 0 []), (17, .t (eGNode a0))] [] ?_))))))
  obtain ⟨r29, hr30, h⟩ := bnd h
  refine ca hG [] rfl rfl rfl rfl callable76 (.cons (.same _) .nil) (F76_ok n _ _ hr30) (pn hG 4 [2, 3] [] [(2, iV r29.1), (3, iV r29.2)] [] (pe (then_n ?_)))
  cases h
  exact pwp_ret rt
  replace h := ite_n he28 h
  cases h

def F20s0 (n : Nat) (a1 : Int) (a2 : Int) (h30000_0 : List GFunc) (h30000_1 : List GNode) (h30000_2 : List GFunc) (h30000_3 : List GNode) (h30001 : List (List Int × Bool)) : Option (Bool × (List (List Int × Bool))) := if 0 ≤ a1 ∧ a1 < (h30000_1.length : Int) then (if 0 ≤ a2 ∧ a2 < (h30000_3.length : Int) then ((F32 n (h30000_1.getD (a1).toNat default)).bind fun r3 => (F32 n (h30000_3.getD (a2).toNat default)).bind fun r5 => Option.bind ((F23 n (h30000_1.getD (a1).toNat default)).bind fun r11 => if (r11) = true then (if (((h30000_1.getD (a1).toNat default).Op) == ((h30000_3.getD (a2).toNat default).Op)) = true then ((F33 n ((h30000_1.getD (a1).toNat default).Key) ((h30000_3.getD (a2).toNat default).Key)).bind fun r15 => if (r15) = true then ((F33 n ((h30000_1.getD (a1).toNat default).Key2) ((h30000_3.getD (a2).toNat default).Key2)).bind fun r18 => if (r18) = true then (if (r3.1 == r5.1) = true then ((F31s1 (F19s0 n) n (h30000_1.getD (a1).toNat default) (h30000_3.getD (a2).toNat default) h30000_0 h30000_1 h30000_2 h30000_3 h30001).bind fun r22 => some ((r22.2, r22.1))) else (some ((h30001, false)))) else (some ((h30001, false)))) else (some ((h30001, false)))) else (some ((h30001, false)))) else (some ((h30001, false))) : Option ((List (List Int × Bool)) × Bool)) fun J9 => match J9 with | (j7, j8) => (some ((j8, j7)))) else none) else none
abbrev I20s0 : Inf := ⟨look tiL, [30000, 30001], 73⟩
set_option maxRecDepth 20000 in
theorem F20s0_ok (n : Nat) (a1 : Int) (a2 : Int) (h30000_0 : List GFunc) (h30000_1 : List GNode) (h30000_2 : List GFunc) (h30000_3 : List GNode) (h30001 : List (List Int × Bool)) (y : Bool × (List (List Int × Bool))) (h : F20s0 n a1 a2 h30000_0 h30000_1 h30000_2 h30000_3 h30001 = some y) : PCall Proofs.Try.prog 20 [.ptr 30000 0, .t (.int .i64 (a1)), .t (.int .i64 (a2))] [(30000, .box [.t (eL cGFunc (h30000_0)), .t (eL cGNode (h30000_1)), .t (eL cGFunc (h30000_2)), .t (eL cGNode (h30000_3)), .map 30001]), (30001, .mpb 2 (h30001))] [30000, 30001] (RetH (.t (.bool (y.1))) [(30000, .box [.t (eL cGFunc (h30000_0)), .t (eL cGNode (h30000_1)), .t (eL cGFunc (h30000_2)), .t (eL cGNode (h30000_3)), .map 30001]), (30001, .mpb 2 (y.2))]) := by
  refine pcall_of (I := I20s0) Proofs.Try.func20 rfl ti_ok Proofs.Try.ntmps20 (le_n (by kernel_rfl)) (fun E hG => ?_)
  unfold F20s0 at h
  refine sn hG [0, 1, 2] [30000, 30001] [] [] (pwp_seq ?_)
  obtain ⟨hc1, h⟩ := grd h
  obtain ⟨hc2, h⟩ := grd h
  refine ln hG [] [] [(6, [0 ≤ a1 ∧ a1 < (h30000_1.length : Int)]), (14, [0 ≤ a2 ∧ a2 < (h30000_3.length : Int)])] [(7, true, [16, 18]), (8, true, [17, 19]), (30000, false, []), (30001, false, [])] [0, 1, 2] .nil .nil (.cons hc1 (.cons hc2 .nil)) [0, 7, 8] [7, 8, 30000, 30001] [(7, .ptr 7 0), (8, .ptr 8 0)] [(7, .box ((cGNode (h30000_1.getD (a1).toNat default)).map .t)), (8, .box ((cGNode (h30000_3.getD (a2).toNat default)).map .t))] (then_n (pwp_seq (pwp_region (pn hG 1 [0, 7, 8, 30] [7, 8, 30000, 30001] [(30, .t (eGNode (h30000_1.getD (a1).toNat default)))] [] ?_))))
  obtain ⟨r3, hr4, h⟩ := bnd h
  refine ca hG [] rfl rfl rfl rfl callable32 (.cons (.same _) .nil) (F32_ok n _ _ hr4) (pn hG 5 [0, 7, 8, 9] [7, 8, 30000, 30001] [(9, iV r3.1)] [] (pe (then_n (pwp_seq (pwp_region (pn hG 1 [0, 7, 8, 9, 35] [7, 8, 30000, 30001] [(35, .t (eGNode (h30000_3.getD (a2).toNat default)))] [] ?_))))))
  obtain ⟨r5, hr6, h⟩ := bnd h
  refine ca hG [] rfl rfl rfl rfl callable32 (.cons (.same _) .nil) (F32_ok n _ _ hr6) (pn hG 5 [0, 7, 8, 9, 11] [7, 8, 30000, 30001] [(11, iV r5.1)] [] (pe (then_n (pwp_seq ?_))))
  obtain ⟨J9, hj10, h⟩ := bnd h
  obtain ⟨j7, j8⟩ := J9
  try dsimp only at h
  refine jn [6] [30000, 30001] [(6, bV j8)] [(30001, .mpb 2 (j7))] ?_ ?_
  replace h := hj10; clear hj10
  refine pwp_region (pn hG 1 [0, 7, 8, 9, 11, 39] [7, 8, 30000, 30001] [(39, .t (eGNode (h30000_1.getD (a1).toNat default)))] [] ?_)
  obtain ⟨r11, hr12, h⟩ := bnd h
  refine ca hG [] rfl rfl rfl rfl callable23 (.cons (.same _) .nil) (F23_ok n _ _ hr12) (pn hG 1 [0, 7, 8, 9, 11, 41] [7, 8, 30000, 30001] [(41, bV r11)] [] (io 41 h (fun h => ?_) (fun h => ?_)))
  refine pn hG 7 [0, 7, 8, 9, 11, 48] [7, 8, 30000, 30001] [(48, bV (((h30000_1.getD (a1).toNat default).Op) == ((h30000_3.getD (a2).toNat default).Op)))] [] (io 48 h (fun h => ?_) (fun h => ?_))
  refine pn hG 4 [0, 7, 8, 9, 11, 48, 50, 52] [7, 8, 30000, 30001] [(50, .t (eL cInt ((h30000_1.getD (a1).toNat default).Key))), (52, .t (eL cInt ((h30000_3.getD (a2).toNat default).Key)))] [] ?_
  obtain ⟨r15, hr16, h⟩ := bnd h
  refine ca hG [] rfl rfl rfl rfl callable33 (.cons (.same _) (.cons (.same _) .nil)) (F33_ok n _ _ _ hr16) (pn hG 2 [0, 7, 8, 9, 11, 55] [7, 8, 30000, 30001] [(55, bV r15)] [] (io 55 h (fun h => ?_) (fun h => ?_)))
  refine pn hG 4 [0, 7, 8, 9, 11, 55, 57, 59] [7, 8, 30000, 30001] [(57, .t (eL cInt ((h30000_1.getD (a1).toNat default).Key2))), (59, .t (eL cInt ((h30000_3.getD (a2).toNat default).Key2)))] [] ?_
  obtain ⟨r18, hr19, h⟩ := bnd h
  refine ca hG [] rfl rfl rfl rfl callable33 (.cons (.same _) (.cons (.same _) .nil)) (F33_ok n _ _ _ hr19) (pn hG 2 [0, 7, 8, 9, 11, 62] [7, 8, 30000, 30001] [(62, bV r18)] [] (io 62 h (fun h => ?_) (fun h => ?_)))
  refine pn hG 5 [0, 7, 8, 67] [7, 8, 30000, 30001] [(67, bV (r3.1 == r5.1))] [] (io 67 h (fun h => ?_) (fun h => ?_))
  refine pn hG 3 [67, 68, 69, 70] [30000, 30001] [(68, .ptr 30000 0), (69, .t (eGNode (h30000_1.getD (a1).toNat default))), (70, .t (eGNode (h30000_3.getD (a2).toNat default)))] [] ?_
  obtain ⟨r22, hr23, h⟩ := bnd h
  refine ch hG [30000, 30001] [30000, 30001] [] (nf := 0) (caps := []) (aps := [.ptr 30000 0, .t (eGNode (h30000_1.getD (a1).toNat default)), .t (eGNode (h30000_3.getD (a2).toNat default))]) rfl rfl rfl rfl callable31 (.cons (.same _) (.cons (.same _) (.cons (.same _) .nil))) (F31s1_ok (F19s0 n) (F19s0_ok n) n _ _ _ _ _ _ _ _ hr23) (pn hG 2 [6] [30000, 30001] [(6, bV r22.1)] [(30001, .mpb 2 (r22.2))] ?_)
  injection h with q0
  injection q0 with p1 q1
  subst p1
  subst q1
  exact pe fl
  refine pn hG 6 [6] [30000, 30001] [(6, bV false)] [] ?_
  injection h with q0
  injection q0 with p1 q1
  subst p1
  subst q1
  exact pe fl
  refine pn hG 11 [6] [30000, 30001] [(6, bV false)] [] ?_
  injection h with q0
  injection q0 with p1 q1
  subst p1
  subst q1
  exact pe fl
  refine pn hG 18 [6] [30000, 30001] [(6, bV false)] [] ?_
  injection h with q0
  injection q0 with p1 q1
  subst p1
  subst q1
  exact pe fl
  refine pn hG 25 [6] [30000, 30001] [(6, bV false)] [] ?_
  injection h with q0
  injection q0 with p1 q1
  subst p1
  subst q1
  exact pe fl
  refine pn hG 32 [6] [30000, 30001] [(6, bV false)] [] ?_
  injection h with q0
  injection q0 with p1 q1
  subst p1
  subst q1
  exact pe fl
  refine then_n (kw [6] [30000, 30001] ?_)
  cases h
  exact pwp_ret (retH_at [30000, 30001] (.inr rfl) (by kernel_rfl))

def F10_L0 (n : Nat) (a0 : GProgram) (a2 : List GMatch) : Int → Option ((Int) ⊕ ((Unit) ⊕ (Int)))
  | v2 => if (decide (v2 < ((a2.length : Int)))) = true then (if 0 ≤ v2 ∧ v2 < (a2.length : Int) then (Option.bind (if (decide (((a2.getD (v2).toNat default).Old) ≥ 0)) = true then (some (decide (((a2.getD (v2).toNat default).Old) < ((a0.Nodes.length : Int))))) else (some (false)) : Option (Bool)) fun j5 => Option.bind (if (((a2.getD (v2).toNat default).New) != v2) = true then (some (true)) else (if (decide (((a2.getD (v2).toNat default).Why) < 0)) = true then (some (true)) else (if (decide (((a2.getD (v2).toNat default).Why) ≥ 3)) = true then (some (true)) else (if (((a2.getD (v2).toNat default).Why) == 2) = true then (if (((a2.getD (v2).toNat default).Old) != ((-1))) = true then (some (true)) else (if (((a2.getD (v2).toNat default).Why) != 2) = true then (some (!j5)) else (some (false)))) else (if (((a2.getD (v2).toNat default).Why) != 2) = true then (some (!j5)) else (some (false)))))) : Option (Bool)) fun j9 => if (j9) = true then (some (.inr (.inr (2)))) else (some (.inl (IntKind.i64.wrap (v2 + 1))))) else none) else (some (.inr (.inl (()))))
def F10_L1 (n : Nat) (a0 : GProgram) (a1 : GProgram) (a2 : List GMatch) : ((List (List Int × Bool)) × Int) → Option (((List (List Int × Bool)) × Int) ⊕ ((Unit) ⊕ (Int)))
  | (v22, v23) => if (decide (v23 < ((a2.length : Int)))) = true then (if 0 ≤ v23 ∧ v23 < (a2.length : Int) then (Option.bind (if (((a2.getD (v23).toNat default).Why) == 0) = true then ((F19s0 n ((a2.getD (v23).toNat default).Old) v23 a0.Funcs a0.Nodes a1.Funcs a1.Nodes v22).bind fun r31 => if (!r31.1) = true then (some ((r31.2, true))) else (if (((a2.getD (v23).toNat default).Why) == 1) = true then ((F20s0 n ((a2.getD (v23).toNat default).Old) v23 a0.Funcs a0.Nodes a1.Funcs a1.Nodes r31.2).bind fun r35 => some ((r35.2, !r35.1))) else (some ((r31.2, false))))) else (if (((a2.getD (v23).toNat default).Why) == 1) = true then ((F20s0 n ((a2.getD (v23).toNat default).Old) v23 a0.Funcs a0.Nodes a1.Funcs a1.Nodes v22).bind fun r38 => some ((r38.2, !r38.1))) else (some ((v22, false)))) : Option ((List (List Int × Bool)) × Bool)) fun J28 => match J28 with | (j26, j27) => (if (j27) = true then (some (.inr (.inr (26)))) else (some (.inl ((j26, IntKind.i64.wrap (v23 + 1))))))) else none) else (some (.inr (.inl (()))))
def F10 (n : Nat) (a0 : GProgram) (a1 : GProgram) (a2 : List GMatch) : Option (Int) := if (((a2.length : Int)) != ((a1.Nodes.length : Int))) = true then (some (2)) else (Option.bind (iterM (F10_L0 n a0 a2) n (0)) fun R20 => match R20 with | .inl (_) => (Option.bind (iterM (F10_L1 n a0 a1 a2) n ((([] : List (List Int × Bool)), 0))) fun R41 => match R41 with | .inl (_) => (some (0)) | .inr (y43) => (some (y43))) | .inr (y44) => (some (y44)))
abbrev I10 : Inf := ⟨look tiL, [], 108⟩
set_option maxRecDepth 20000 in
theorem F10_ok (n : Nat) (a0 : GProgram) (a1 : GProgram) (a2 : List GMatch) (y : Int) (h : F10 n a0 a1 a2 = some y) : PCall Proofs.Try.prog 10 [.t (eGProgram a0), .t (eGProgram a1), .t (eL cGMatch (a2))] [] [] (Ret (.t (.int .i64 (y)))) := by
  refine pcall_of (I := I10) Proofs.Try.func10 rfl ti_ok Proofs.Try.ntmps10 (le_n (by kernel_rfl)) (fun E hG => ?_)
  unfold F10 at h
  refine sn hG [2, 3, 4] [3, 4] [(3, .ptr 3 0), (4, .ptr 4 0)] [(3, .box ((cGProgram (a0)).map .t)), (4, .box ((cGProgram (a1)).map .t))] (pwp_seq (sn hG [2, 3, 4, 18] [3, 4] [(18, bV (((a2.length : Int)) != ((a1.Nodes.length : Int))))] [] (iw h (fun h => ?_) (fun h => ?_))))
  refine sn hG [6] [] [(6, iV 2)] [] ?_
  cases h
  exact pwp_ret (then_ret rt)
  refine pwp_skip (then_n (pwp_seq (sn hG [2, 3, 4, 19, 20, 21] [3, 4] [(19, .t (eL cGMatch (a2))), (20, iV ((a2.length : Int))), (21, iV 0)] [] ?_)))
  obtain ⟨R20, hR21, h⟩ := bnd h
  refine lp (F10_L0 n a0 a2) (fun (v2 : Int) => (⟨[(2, .t (eL cGMatch (a2))), (3, .ptr 3 0), (4, .ptr 4 0), (19, .t (eL cGMatch (a2))), (20, iV ((a2.length : Int))), (21, iV v2)], [(3, .box ((cGProgram (a0)).map .t)), (4, .box ((cGProgram (a1)).map .t))]⟩ : St)) (fun (r : (Unit) ⊕ (Int)) (e : Exit) (s : St) => match r with | .inl (x0) => e = .exit 0 ∧ Le E s ((fun (_ : Unit) => (⟨[(2, .t (eL cGMatch (a2))), (3, .ptr 3 0), (4, .ptr 4 0)], [(3, .box ((cGProgram (a0)).map .t)), (4, .box ((cGProgram (a1)).map .t))]⟩ : St)) x0) | .inr (y0) => e = .ret ∧ finQ I10 Proofs.Try.f10.results.toList (Ret (iV y0)) .ret s) ?_ n (0) R20 hR21 ?_
  intro v2 x h
  rw [F10_L0] at h
  refine sn hG [2, 3, 4, 19, 20, 21, 22] [3, 4] [(22, bV (decide (v2 < ((a2.length : Int)))))] [] (pwp_seq (iw h (fun h => ?_) (fun h => ?_)))
  refine pwp_skip (then_n (pwp_seq (pwp_block (pwp_seq (pwp_region ?_)))))
  obtain ⟨hc4, h⟩ := grd h
  refine pc hG 6 [2, 3, 4, 7, 8, 19, 20, 21] [3, 4, 8] [(7, iV v2), (8, .ptr 8 0)] [(8, .box ((cGMatch (a2.getD (v2).toNat default)).map .t))] hc4 (pe (then_n (pwp_seq ?_)))
  obtain ⟨j5, hj7, h⟩ := bnd h
  refine jn [2, 3, 4, 7, 8, 9, 19, 20, 21] [3, 4, 8] [(9, bV j5)] [] ?_ ?_
  replace h := hj7; clear hj7
  refine pwp_region (pn hG 4 [2, 3, 4, 7, 8, 19, 20, 21, 29] [3, 4, 8] [(29, bV (decide (((a2.getD (v2).toNat default).Old) ≥ 0)))] [] (io 29 h (fun h => ?_) (fun h => ?_)))
  refine pn hG 8 [2, 3, 4, 7, 8, 9, 19, 20, 21] [3, 4, 8] [(9, bV (decide (((a2.getD (v2).toNat default).Old) < ((a0.Nodes.length : Int)))))] [] ?_
  cases h
  exact pe fl
  refine pn hG 8 [2, 3, 4, 7, 8, 9, 19, 20, 21] [3, 4, 8] [(9, bV false)] [] ?_
  cases h
  exact pe fl
  refine then_n (pwp_seq ?_)
  obtain ⟨j9, hj11, h⟩ := bnd h
  refine jn [2, 3, 4, 19, 20, 21, 69] [3, 4] [(69, bV j9)] [] ?_ ?_
  replace h := hj11; clear hj11
  refine pwp_region (pn hG 5 [2, 3, 4, 8, 9, 19, 20, 21, 41] [3, 4, 8] [(41, bV (((a2.getD (v2).toNat default).New) != v2))] [] (io 41 h (fun h => ?_) (fun h => ?_)))
  refine pn hG 28 [2, 3, 4, 19, 20, 21, 69] [3, 4] [(69, bV true)] [] ?_
  cases h
  exact pe fl
  refine pn hG 5 [2, 3, 4, 8, 9, 19, 20, 21, 46] [3, 4, 8] [(46, bV (decide (((a2.getD (v2).toNat default).Why) < 0)))] [] (io 46 h (fun h => ?_) (fun h => ?_))
  refine pn hG 23 [2, 3, 4, 19, 20, 21, 69] [3, 4] [(69, bV true)] [] ?_
  cases h
  exact pe fl
  refine pn hG 5 [2, 3, 4, 8, 9, 19, 20, 21, 51] [3, 4, 8] [(51, bV (decide (((a2.getD (v2).toNat default).Why) ≥ 3)))] [] (io 51 h (fun h => ?_) (fun h => ?_))
  refine pn hG 18 [2, 3, 4, 19, 20, 21, 69] [3, 4] [(69, bV true)] [] ?_
  cases h
  exact pe fl
  refine pn hG 4 [2, 3, 4, 8, 9, 19, 20, 21, 51, 55] [3, 4, 8] [(55, bV (((a2.getD (v2).toNat default).Why) == 2))] [] (io 55 h (fun h => ?_) (fun h => ?_))
  refine pn hG 6 [2, 3, 4, 8, 9, 19, 20, 21, 61] [3, 4, 8] [(61, bV (((a2.getD (v2).toNat default).Old) != ((-1))))] [] (io 61 h (fun h => ?_) (fun h => ?_))
  refine pn hG 8 [2, 3, 4, 19, 20, 21, 69] [3, 4] [(69, bV true)] [] ?_
  cases h
  exact pe fl
  refine pn hG 4 [2, 3, 4, 9, 19, 20, 21, 61, 65] [3, 4] [(65, bV (((a2.getD (v2).toNat default).Why) != 2))] [] (io 65 h (fun h => ?_) (fun h => ?_))
  refine pn hG 4 [2, 3, 4, 19, 20, 21, 69] [3, 4] [(69, bV (!j5))] [] ?_
  cases h
  exact pe fl
  refine pn hG 4 [2, 3, 4, 19, 20, 21, 69] [3, 4] [(69, bV false)] [] ?_
  cases h
  exact pe fl
  refine pn hG 10 [2, 3, 4, 9, 19, 20, 21, 61, 65] [3, 4] [(61, bV false), (65, bV (((a2.getD (v2).toNat default).Why) != 2))] [] (io 65 h (fun h => ?_) (fun h => ?_))
  refine pn hG 4 [2, 3, 4, 19, 20, 21, 69] [3, 4] [(69, bV (!j5))] [] ?_
  cases h
  exact pe fl
  refine pn hG 4 [2, 3, 4, 19, 20, 21, 69] [3, 4] [(69, bV false)] [] ?_
  cases h
  exact pe fl
  refine then_n (iw h (fun h => ?_) (fun h => ?_))
  refine sn hG [6] [] [(6, iV 2)] [] ?_
  cases h
  exact pwp_ret (blk_ret (then_ret (round_out (by simp) (And.intro rfl rt))))
  refine pwp_skip (blk_n (then_n (rn hG [2, 3, 4, 19, 20, 21] [3, 4] [(21, iV (IntKind.i64.wrap (v2 + 1)))] [] ?_)))
  cases h
  exact round_in lk
  cases h
  exact pwp_exit (then_exit (round_out (by simp) (And.intro rfl lk)))
  intro e s hq
  rcases R20 with _ | y44
  try dsimp only at h
  obtain ⟨rfl, hle⟩ := hq
  refine ⟨_, hle, blk_hit ?_⟩
  refine then_n (pwp_seq (pwp_region (pn hG 6 [2, 10] [73, 75] [(10, .ptr 75 0)] [(73, .mpb 2 (([] : List (List Int × Bool)))), (75, .box [.t (eL cGFunc (a0.Funcs)), .t (eL cGNode (a0.Nodes)), .t (eL cGFunc (a1.Funcs)), .t (eL cGNode (a1.Nodes)), .map 73])] (pe (then_n (pwp_seq (sn hG [10, 76, 77, 78] [73, 75] [(76, .t (eL cGMatch (a2))), (77, iV ((a2.length : Int))), (78, iV 0)] [] (ws ⟨[(10, .ptr 75 0), (76, .t (eL cGMatch (a2))), (77, iV ((a2.length : Int))), (78, iV 0)], [(73, .mpb 2 (([] : List (List Int × Bool)))), (75, .box [.t (eL cGFunc (a0.Funcs)), .t (eL cGNode (a0.Nodes)), .t (eL cGFunc (a1.Funcs)), .t (eL cGNode (a1.Nodes)), .map 73])]⟩ ?_))))))))
  refine pwp_weak (Le.rn hG (o := 75) (o' := 30000) rfl) (pwp_weak (Le.rn hG (o := 73) (o' := 30001) rfl) ?_)
  obtain ⟨R41, hR42, h⟩ := bnd h
  refine lp (F10_L1 n a0 a1 a2) (fun (s : (List (List Int × Bool)) × Int) => match s with | (v22, v23) => (⟨[(10, .ptr 30000 0), (76, .t (eL cGMatch (a2))), (77, iV ((a2.length : Int))), (78, iV v23)], [(30000, .box [.t (eL cGFunc (a0.Funcs)), .t (eL cGNode (a0.Nodes)), .t (eL cGFunc (a1.Funcs)), .t (eL cGNode (a1.Nodes)), .map 30001]), (30001, .mpb 2 (v22))]⟩ : St)) (fun (r : (Unit) ⊕ (Int)) (e : Exit) (s : St) => match r with | .inl (x0) => e = .exit 2 ∧ Le E s ((fun (_ : Unit) => (⟨[], []⟩ : St)) x0) | .inr (y0) => e = .ret ∧ finQ I10 Proofs.Try.f10.results.toList (Ret (iV y0)) .ret s) ?_ n ((([] : List (List Int × Bool)), 0)) R41 hR42 ?_
  rintro ⟨v22, v23⟩ x h
  rw [F10_L1] at h
  refine sn hG [10, 76, 77, 78, 79] [30000, 30001] [(79, bV (decide (v23 < ((a2.length : Int)))))] [] (pwp_seq (iw h (fun h => ?_) (fun h => ?_)))
  refine pwp_skip (then_n (pwp_seq (pwp_block (pwp_seq (pwp_region ?_)))))
  obtain ⟨hc25, h⟩ := grd h
  refine pc hG 6 [10, 11, 12, 76, 77, 78] [12, 30000, 30001] [(11, iV v23), (12, .ptr 12 0)] [(12, .box ((cGMatch (a2.getD (v23).toNat default)).map .t))] hc25 (pe (then_n (pwp_seq ?_)))
  obtain ⟨J28, hj29, h⟩ := bnd h
  obtain ⟨j26, j27⟩ := J28
  try dsimp only at h
  refine jn [10, 76, 77, 78, 106] [30000, 30001] [(106, bV j27)] [(30001, .mpb 2 (j26))] ?_ ?_
  replace h := hj29; clear hj29
  refine pwp_region (pn hG 4 [10, 11, 12, 76, 77, 78, 86] [12, 30000, 30001] [(86, bV (((a2.getD (v23).toNat default).Why) == 0))] [] (io 86 h (fun h => ?_) (fun h => ?_)))
  refine pn hG 4 [10, 11, 12, 76, 77, 78, 86, 87, 89, 90] [12, 30000, 30001] [(87, .ptr 30000 0), (89, iV ((a2.getD (v23).toNat default).Old)), (90, iV v23)] [] ?_
  obtain ⟨r31, hr32, h⟩ := bnd h
  refine ch hG [30000, 30001] [30000, 30001] [] (nf := 0) (caps := []) (aps := [.ptr 30000 0, iV ((a2.getD (v23).toNat default).Old), iV v23]) rfl rfl rfl rfl callable19 (.cons (.same _) (.cons (.same _) (.cons (.same _) .nil))) (F19s0_ok n _ _ _ _ _ _ _ _ hr32) (pn hG 3 [10, 11, 12, 76, 77, 78, 94] [12, 30000, 30001] [(94, bV (!r31.1))] [(30001, .mpb 2 (r31.2))] (io 94 h (fun h => ?_) (fun h => ?_)))
  refine pn hG 12 [10, 76, 77, 78, 106] [30000, 30001] [(106, bV true)] [] ?_
  injection h with q0
  injection q0 with p1 q1
  subst p1
  subst q1
  exact pe fl
  refine pn hG 4 [10, 11, 12, 76, 77, 78, 94, 98] [12, 30000, 30001] [(98, bV (((a2.getD (v23).toNat default).Why) == 1))] [] (io 98 h (fun h => ?_) (fun h => ?_))
  refine pn hG 4 [10, 76, 77, 78, 94, 98, 99, 101, 102] [30000, 30001] [(99, .ptr 30000 0), (101, iV ((a2.getD (v23).toNat default).Old)), (102, iV v23)] [] ?_
  obtain ⟨r35, hr36, h⟩ := bnd h
  refine ch hG [30000, 30001] [30000, 30001] [] (nf := 0) (caps := []) (aps := [.ptr 30000 0, iV ((a2.getD (v23).toNat default).Old), iV v23]) rfl rfl rfl rfl callable20 (.cons (.same _) (.cons (.same _) (.cons (.same _) .nil))) (F20s0_ok n _ _ _ _ _ _ _ _ hr36) (pn hG 3 [10, 76, 77, 78, 106] [30000, 30001] [(106, bV (!r35.1))] [(30001, .mpb 2 (r35.2))] ?_)
  injection h with q0
  injection q0 with p1 q1
  subst p1
  subst q1
  exact pe fl
  refine pn hG 8 [10, 76, 77, 78, 106] [30000, 30001] [(106, bV false)] [] ?_
  injection h with q0
  injection q0 with p1 q1
  subst p1
  subst q1
  exact pe fl
  refine pn hG 12 [10, 11, 12, 76, 77, 78, 94, 98] [12, 30000, 30001] [(94, bV false), (98, bV (((a2.getD (v23).toNat default).Why) == 1))] [] (io 98 h (fun h => ?_) (fun h => ?_))
  refine pn hG 4 [10, 76, 77, 78, 94, 98, 99, 101, 102] [30000, 30001] [(99, .ptr 30000 0), (101, iV ((a2.getD (v23).toNat default).Old)), (102, iV v23)] [] ?_
  obtain ⟨r38, hr39, h⟩ := bnd h
  refine ch hG [30000, 30001] [30000, 30001] [] (nf := 0) (caps := []) (aps := [.ptr 30000 0, iV ((a2.getD (v23).toNat default).Old), iV v23]) rfl rfl rfl rfl callable20 (.cons (.same _) (.cons (.same _) (.cons (.same _) .nil))) (F20s0_ok n _ _ _ _ _ _ _ _ hr39) (pn hG 3 [10, 76, 77, 78, 106] [30000, 30001] [(106, bV (!r38.1))] [(30001, .mpb 2 (r38.2))] ?_)
  injection h with q0
  injection q0 with p1 q1
  subst p1
  subst q1
  exact pe fl
  refine pn hG 8 [10, 76, 77, 78, 106] [30000, 30001] [(106, bV false)] [] ?_
  injection h with q0
  injection q0 with p1 q1
  subst p1
  subst q1
  exact pe fl
  refine then_n (iw h (fun h => ?_) (fun h => ?_))
  refine sn hG [6] [] [(6, iV 26)] [] ?_
  cases h
  exact pwp_ret (blk_ret (then_ret (round_out (by simp) (And.intro rfl rt))))
  refine pwp_skip (blk_n (then_n (rn hG [10, 76, 77, 78] [30000, 30001] [(78, iV (IntKind.i64.wrap (v23 + 1)))] [] ?_)))
  cases h
  exact round_in lk
  cases h
  exact pwp_exit (then_exit (round_out (by simp) (And.intro rfl lk)))
  intro e s hq
  rcases R41 with _ | y43
  try dsimp only at h
  obtain ⟨rfl, hle⟩ := hq
  refine ⟨_, hle, blk_hit ?_⟩
  refine then_n (sn hG [6] [] [(6, iV 0)] [] ?_)
  cases h
  exact pwp_ret rt
  try dsimp only at h
  obtain ⟨rfl, hq⟩ := hq
  cases h
  exact ⟨_, Le.refl, blk_ret (then_ret (hq))⟩
  try dsimp only at h
  obtain ⟨rfl, hq⟩ := hq
  cases h
  exact ⟨_, Le.refl, blk_ret (then_ret (hq))⟩

def F11_L0 (n : Nat) (a0 : List GMatch) (a1 : List GMatch) : Int → Option ((Int) ⊕ ((Unit) ⊕ (Bool)))
  | v2 => if (decide (v2 < ((a0.length : Int)))) = true then (if 0 ≤ v2 ∧ v2 < (a0.length : Int) then (if 0 ≤ v2 ∧ v2 < (a1.length : Int) then (if (!(([(a0.getD (v2).toNat default).Old, (a0.getD (v2).toNat default).New, (a0.getD (v2).toNat default).Why] : List Int) == [(a1.getD (v2).toNat default).Old, (a1.getD (v2).toNat default).New, (a1.getD (v2).toNat default).Why])) = true then (some (.inr (.inr (false)))) else (some (.inl (IntKind.i64.wrap (v2 + 1))))) else none) else none) else (some (.inr (.inl (()))))
def F11 (n : Nat) (a0 : List GMatch) (a1 : List GMatch) : Option (Bool) := if (((a0.length : Int)) != ((a1.length : Int))) = true then (some (false)) else (Option.bind (iterM (F11_L0 n a0 a1) n (0)) fun R7 => match R7 with | .inl (_) => (some (true)) | .inr (y9) => (some (y9)))
abbrev I11 : Inf := ⟨look tiL, [], 26⟩
set_option maxRecDepth 20000 in
theorem F11_ok (n : Nat) (a0 : List GMatch) (a1 : List GMatch) (y : Bool) (h : F11 n a0 a1 = some y) : PCall Proofs.Try.prog 11 [.t (eL cGMatch (a0)), .t (eL cGMatch (a1))] [] [] (Ret (.t (.bool (y)))) := by
  refine pcall_of (I := I11) Proofs.Try.func11 rfl ti_ok Proofs.Try.ntmps11 (le_n (by kernel_rfl)) (fun E hG => ?_)
  unfold F11 at h
  refine sn hG [0, 1] [] [] [] (pwp_seq (sn hG [0, 1, 10] [] [(10, bV (((a0.length : Int)) != ((a1.length : Int))))] [] (iw h (fun h => ?_) (fun h => ?_))))
  refine sn hG [4] [] [(4, bV false)] [] ?_
  cases h
  exact pwp_ret (then_ret rt)
  refine pwp_skip (then_n (pwp_seq (sn hG [0, 1, 5] [] [(5, iV 0)] [] ?_)))
  obtain ⟨R7, hR8, h⟩ := bnd h
  refine lp (F11_L0 n a0 a1) (fun (v2 : Int) => (⟨[(0, .t (eL cGMatch (a0))), (1, .t (eL cGMatch (a1))), (5, iV v2)], []⟩ : St)) (fun (r : (Unit) ⊕ (Bool)) (e : Exit) (s : St) => match r with | .inl (x0) => e = .exit 0 ∧ Le E s ((fun (_ : Unit) => (⟨[], []⟩ : St)) x0) | .inr (y0) => e = .ret ∧ finQ I11 Proofs.Try.f11.results.toList (Ret (bV y0)) .ret s) ?_ n (0) R7 hR8 ?_
  intro v2 x h
  rw [F11_L0] at h
  refine pwp_seq (sn hG [0, 1, 5, 14] [] [(14, bV (decide (v2 < ((a0.length : Int)))))] [] (iw h (fun h => ?_) (fun h => ?_)))
  refine pwp_skip (then_n (pwp_seq (pwp_block (pwp_seq ?_))))
  obtain ⟨hc4, h⟩ := grd h
  obtain ⟨hc5, h⟩ := grd h
  refine ln hG [] [] [(2, [0 ≤ v2 ∧ v2 < (a0.length : Int)]), (6, [0 ≤ v2 ∧ v2 < (a1.length : Int)])] [] [0, 1, 5, 14] .nil .nil (.cons hc4 (.cons hc5 .nil)) [0, 1, 5, 25] [] [(25, bV (!(([(a0.getD (v2).toNat default).Old, (a0.getD (v2).toNat default).New, (a0.getD (v2).toNat default).Why] : List Int) == [(a1.getD (v2).toNat default).Old, (a1.getD (v2).toNat default).New, (a1.getD (v2).toNat default).Why])))] [] (then_n (iw h (fun h => ?_) (fun h => ?_)))
  refine sn hG [4] [] [(4, bV false)] [] ?_
  cases h
  exact pwp_ret (blk_ret (then_ret (round_out (by simp) (And.intro rfl rt))))
  refine pwp_skip (blk_n (then_n (rn hG [0, 1, 5] [] [(5, iV (IntKind.i64.wrap (v2 + 1)))] [] ?_)))
  cases h
  exact round_in lk
  cases h
  exact pwp_exit (then_exit (round_out (by simp) (And.intro rfl lk)))
  intro e s hq
  rcases R7 with _ | y9
  try dsimp only at h
  obtain ⟨rfl, hle⟩ := hq
  refine ⟨_, hle, blk_hit ?_⟩
  refine then_n (sn hG [4] [] [(4, bV true)] [] ?_)
  cases h
  exact pwp_ret rt
  try dsimp only at h
  obtain ⟨rfl, hq⟩ := hq
  cases h
  exact ⟨_, Le.refl, blk_ret (then_ret (hq))⟩

def F12 (n : Nat)  : Option (GNode) := some ((GNode.mk 0 (([] : List Int)) (⟨#[115]⟩) 1 (([] : List Expr)) 0 0 0 (([] : List Int)) (([] : List Int)) 0 0 0 (([] : List GAgg)) (([] : List GPat)) ([(GCol.mk (⟨#[110]⟩) 0 (⟨#[]⟩))])))
abbrev I12 : Inf := ⟨look tiL, [], 4⟩
set_option maxRecDepth 20000 in
theorem F12_ok (n : Nat)  (y : GNode) (h : F12 n  = some y) : PCall Proofs.Try.prog 12 [] [] [] (Ret (.t (eGNode y))) := by
  refine pcall_of (I := I12) Proofs.Try.func12 rfl ti_ok Proofs.Try.ntmps12 (le_n (by kernel_rfl)) (fun E hG => ?_)
  unfold F12 at h
  refine sn hG [0] [0] [(0, .ptr 0 0)] [(0, .box [iV 0, .nil, .t (.str (⟨#[]⟩)), iV 0, .nil, iV 0, iV 0, iV 0, .nil, .nil, iV 0, iV 0, iV 0, .nil, .nil, .nil])] (pwp_seq (pwp_region (pn hG 4 [0] [0, 2] [] [(0, .box [iV 0, .nil, .t (.str (⟨#[115]⟩)), iV 1, .nil, iV 0, iV 0, iV 0, .nil, .nil, iV 0, iV 0, iV 0, .nil, .nil, .own 2]), (2, .arr 50 3 (1) (arrOf [.str (⟨#[110]⟩), .int .i64 (0), .str (⟨#[]⟩)] 3))] (pe (then_n (ws ⟨[(0, .ptr 0 0)], [(0, .box [iV 0, .nil, .t (.str (⟨#[115]⟩)), iV 1, .nil, iV 0, iV 0, iV 0, .nil, .nil, iV 0, iV 0, iV 0, .nil, .nil, .own 2]), (2, .arr 50 3 (1) (arrOf [.str (⟨#[110]⟩), .int .i64 (0), .str (⟨#[]⟩)] 3))]⟩ (pwp_weak (Le.obj (o := 2) (.arr 50 3 (([(GCol.mk (⟨#[110]⟩) 0 (⟨#[]⟩))]).length) (eF cGCol ([(GCol.mk (⟨#[110]⟩) 0 (⟨#[]⟩))]))) rfl (fun _ _ _ => ObjR.row (by simp) (row_one cGCol ((GCol.mk (⟨#[110]⟩) 0 (⟨#[]⟩))) _ rfl))) (pwp_weak (Le.trans (Le.freeze (o := 2) (eL cGCol ([(GCol.mk (⟨#[110]⟩) 0 (⟨#[]⟩))])) rfl rfl rfl) (Le.keep (ts := [0]) (os := [0]) (t := ⟨[(0, .ptr 0 0)], [(0, .box [iV 0, .nil, .t (.str (⟨#[115]⟩)), iV 1, .nil, iV 0, iV 0, iV 0, .nil, .nil, iV 0, iV 0, iV 0, .nil, .nil, .t (eL cGCol ([(GCol.mk (⟨#[110]⟩) 0 (⟨#[]⟩))]))])]⟩) (by kernel_rfl))) ?_))))))))
  refine pwp_weak (Le.obj (o := 0) (.box ([(.int .i64 (0)), (eL cInt (([] : List Int))), (.str (⟨#[115]⟩)), (.int .i64 (1)), (.lz (.exprs (([] : List Expr)))), (.int .i64 (0)), (.int .i64 (0)), (.int .i64 (0)), (eL cInt (([] : List Int))), (eL cInt (([] : List Int))), (.int .i64 (0)), (.int .i64 (0)), (.int .i64 (0)), (eL cGAgg (([] : List GAgg))), (eL cGPat (([] : List GPat))), (eL cGCol ([(GCol.mk (⟨#[110]⟩) 0 (⟨#[]⟩))]))].map .t)) rfl (fun _ _ _ => le_box (.same (.empty rfl (.same (.same (.empty rfl (.same (.same (.same (.empty rfl (.empty rfl (.same (.same (.same (.empty rfl (.empty rfl (.same (.nil))))))))))))))))))) ?_
  cases h
  exact pwp_ret rt

def F13_L0 (n : Nat) (a1 : List GAgg) : ((List GCol) × Int) → Option (((List GCol) × Int) ⊕ ((List GCol)))
  | (v1, v2) => if (decide (v2 < ((a1.length : Int)))) = true then (if 0 ≤ v2 ∧ v2 < (a1.length : Int) then (if (v1.length + 1) * 40 ≤ 140737488355328 then (some (.inl ((v1 ++ ([(GCol.mk ((a1.getD (v2).toNat default).Name) 0 (⟨#[]⟩))]), IntKind.i64.wrap (v2 + 1))))) else none) else none) else (some (.inr (v1)))
def F13 (n : Nat) (a0 : Int) (a1 : List GAgg) : Option (GNode) := Option.bind (iterM (F13_L0 n a1) n (([(GCol.mk (⟨#[98, 101, 103, 105, 110]⟩) 0 (⟨#[]⟩))], 0))) fun b3 => some ((GNode.mk 4 ([a0]) (⟨#[]⟩) 0 (([] : List Expr)) 0 60 0 (([] : List Int)) (([] : List Int)) 0 0 0 a1 (([] : List GPat)) b3))
abbrev I13 : Inf := ⟨look tiL, [], 29⟩
set_option maxRecDepth 20000 in
theorem F13_ok (n : Nat) (a0 : Int) (a1 : List GAgg) (y : GNode) (h : F13 n a0 a1 = some y) : PCall Proofs.Try.prog 13 [.t (.int .i64 (a0)), .t (eL cGAgg (a1))] [] [] (Ret (.t (eGNode y))) := by
  refine pcall_of (I := I13) Proofs.Try.func13 rfl ti_ok Proofs.Try.ntmps13 (le_n (by kernel_rfl)) (fun E hG => ?_)
  unfold F13 at h
  refine sn hG [0, 1, 4] [4] [(4, .ptr 4 0)] [(4, .box [iV 0, .nil, .t (.str (⟨#[]⟩)), iV 0, .nil, iV 0, iV 0, iV 0, .nil, .nil, iV 0, iV 0, iV 0, .nil, .nil, .nil])] (pwp_seq (pwp_region (pn hG 3 [0, 1, 4, 5] [4, 8] [(5, .own 8)] [(8, .arr 50 3 (1) (arrOf [.str (⟨#[98, 101, 103, 105, 110]⟩), .int .i64 (0), .str (⟨#[]⟩)] 3))] (pe (then_n (pwp_seq (sn hG [0, 1, 4, 5, 6] [4, 8] [(6, iV 0)] [] (ws ⟨[(0, iV a0), (1, .t (eL cGAgg (a1))), (4, .ptr 4 0), (5, .own 8), (6, iV 0)], [(4, .box [iV 0, .nil, .t (.str (⟨#[]⟩)), iV 0, .nil, iV 0, iV 0, iV 0, .nil, .nil, iV 0, iV 0, iV 0, .nil, .nil, .nil]), (8, .arr 50 3 (1) (arrOf [.str (⟨#[98, 101, 103, 105, 110]⟩), .int .i64 (0), .str (⟨#[]⟩)] 3))]⟩ ?_))))))))
  refine pwp_weak (Le.obj (o := 8) (.arr 50 3 (([(GCol.mk (⟨#[98, 101, 103, 105, 110]⟩) 0 (⟨#[]⟩))]).length) (eF cGCol ([(GCol.mk (⟨#[98, 101, 103, 105, 110]⟩) 0 (⟨#[]⟩))]))) rfl (fun _ _ _ => ObjR.row (by simp) (row_one cGCol ((GCol.mk (⟨#[98, 101, 103, 105, 110]⟩) 0 (⟨#[]⟩))) _ rfl))) (pwp_weak (Le.rename (o := 8) (o' := 5) hG (by decide) rfl) ?_)
  obtain ⟨b3, hR8, h⟩ := bnd h
  refine lp (F13_L0 n a1) (fun (s : (List GCol) × Int) => match s with | (v1, v2) => (⟨[(0, iV a0), (1, .t (eL cGAgg (a1))), (4, .ptr 4 0), (5, .own 5), (6, iV v2)], [(4, .box [iV 0, .nil, .t (.str (⟨#[]⟩)), iV 0, .nil, iV 0, iV 0, iV 0, .nil, .nil, iV 0, iV 0, iV 0, .nil, .nil, .nil]), (5, .arr 50 3 (v1.length) (eF cGCol v1))]⟩ : St)) (fun (x0 : (List GCol)) (e : Exit) (s : St) => e = .exit 0 ∧ Le E s ((fun (b3 : (List GCol)) => (⟨[(0, iV a0), (1, .t (eL cGAgg (a1))), (4, .ptr 4 0), (5, .own 5)], [(4, .box [iV 0, .nil, .t (.str (⟨#[]⟩)), iV 0, .nil, iV 0, iV 0, iV 0, .nil, .nil, iV 0, iV 0, iV 0, .nil, .nil, .nil]), (5, .arr 50 3 (b3.length) (eF cGCol b3))]⟩ : St)) x0)) ?_ n (([(GCol.mk (⟨#[98, 101, 103, 105, 110]⟩) 0 (⟨#[]⟩))], 0)) b3 hR8 ?_
  rintro ⟨v1, v2⟩ x h
  rw [F13_L0] at h
  refine pwp_seq (sn hG [0, 1, 4, 5, 6, 12] [4, 5] [(12, bV (decide (v2 < ((a1.length : Int)))))] [] (iw h (fun h => ?_) (fun h => ?_)))
  refine pwp_skip (then_n (pwp_seq (pwp_block (pwp_region ?_))))
  obtain ⟨hc5, h⟩ := grd h
  obtain ⟨hc6, h⟩ := grd h
  refine pd hG 9 [0, 1, 4, 6, 23] [4, 23] [(23, .own 23)] [(23, .arr 50 3 (v1.length + 1) (appF (v1.length) (eF cGCol v1) (arrOf [.str ((a1.getD (v2).toNat default).Name), .int .i64 (0), .str (⟨#[]⟩)] 3)))] (Cs := [0 ≤ v2 ∧ v2 < (a1.length : Int), appC (v1.length) (1) 40 3 (arrOf [.str ((a1.getD (v2).toNat default).Name), .int .i64 (0), .str (⟨#[]⟩)] 3)]) ⟨hc5, ⟨hc6, ok_one rfl⟩⟩ (os ⟨[(0, iV a0), (1, .t (eL cGAgg (a1))), (4, .ptr 4 0), (6, iV v2), (23, .own 23)], [(4, .box [iV 0, .nil, .t (.str (⟨#[]⟩)), iV 0, .nil, iV 0, iV 0, iV 0, .nil, .nil, iV 0, iV 0, iV 0, .nil, .nil, .nil]), (23, .arr 50 3 (v1.length + 1) (appF (v1.length) (eF cGCol v1) (arrOf [.str ((a1.getD (v2).toNat default).Name), .int .i64 (0), .str (⟨#[]⟩)] 3)))]⟩ (pops_weak (Le.obj (o := 23) (.arr 50 3 ((v1 ++ ([(GCol.mk ((a1.getD (v2).toNat default).Name) 0 (⟨#[]⟩))])).length) (eF cGCol (v1 ++ ([(GCol.mk ((a1.getD (v2).toNat default).Name) 0 (⟨#[]⟩))])))) rfl (fun _ _ _ => ObjR.row (by simp) (row_snoc cGCol v1 ((GCol.mk ((a1.getD (v2).toNat default).Name) 0 (⟨#[]⟩))) _ rfl))) (pn hG 1 [0, 1, 4, 5, 6] [4, 23] [(5, .own 23)] [(23, .arr 50 3 ((v1 ++ ([(GCol.mk ((a1.getD (v2).toNat default).Name) 0 (⟨#[]⟩))])).length) (eF cGCol (v1 ++ ([(GCol.mk ((a1.getD (v2).toNat default).Name) 0 (⟨#[]⟩))]))))] (pe (blk_n (then_n (rn hG [0, 1, 4, 5, 6] [4, 23] [(6, iV (IntKind.i64.wrap (v2 + 1)))] [] ?_)))))))
  cases h
  exact round_in (Le.trans (ls ⟨[(0, iV a0), (1, .t (eL cGAgg (a1))), (4, .ptr 4 0), (5, .own 23), (6, iV (IntKind.i64.wrap (v2 + 1)))], [(4, .box [iV 0, .nil, .t (.str (⟨#[]⟩)), iV 0, .nil, iV 0, iV 0, iV 0, .nil, .nil, iV 0, iV 0, iV 0, .nil, .nil, .nil]), (23, .arr 50 3 ((v1 ++ ([(GCol.mk ((a1.getD (v2).toNat default).Name) 0 (⟨#[]⟩))])).length) (eF cGCol (v1 ++ ([(GCol.mk ((a1.getD (v2).toNat default).Name) 0 (⟨#[]⟩))]))))]⟩) (Le.trans (Le.rename (o := 23) (o' := 5) hG (by decide) rfl) lk))
  cases h
  exact pwp_exit (then_exit (round_out (by simp) (And.intro rfl lk)))
  intro e s hq
  try dsimp only at h
  obtain ⟨rfl, hle⟩ := hq
  refine ⟨_, hle, blk_hit ?_⟩
  refine then_n (pwp_seq (pwp_region (pn hG 6 [4] [4, 5, 25] [] [(4, .box [iV 4, .own 25, .t (.str (⟨#[]⟩)), iV 0, .nil, iV 0, iV 60, iV 0, .nil, .nil, iV 0, iV 0, iV 0, .t (eL cGAgg (a1)), .nil, .own 5]), (25, .arr 3 1 (1) (arrOf [.int .i64 (a0)] 1))] (pe (then_n (ws ⟨[(4, .ptr 4 0)], [(4, .box [iV 4, .own 25, .t (.str (⟨#[]⟩)), iV 0, .nil, iV 0, iV 60, iV 0, .nil, .nil, iV 0, iV 0, iV 0, .t (eL cGAgg (a1)), .nil, .own 5]), (5, .arr 50 3 (b3.length) (eF cGCol b3)), (25, .arr 3 1 (1) (arrOf [.int .i64 (a0)] 1))]⟩ (pwp_weak (Le.obj (o := 25) (.arr 3 1 (([a0]).length) (eF cInt ([a0]))) rfl (fun _ _ _ => ObjR.row (by simp) (row_one cInt a0 _ rfl))) (pwp_weak (Le.trans (Le.freeze (o := 25) (eL cInt ([a0])) rfl rfl rfl) (Le.keep (ts := [4]) (os := [4, 5]) (t := ⟨[(4, .ptr 4 0)], [(4, .box [iV 4, .t (eL cInt ([a0])), .t (.str (⟨#[]⟩)), iV 0, .nil, iV 0, iV 60, iV 0, .nil, .nil, iV 0, iV 0, iV 0, .t (eL cGAgg (a1)), .nil, .own 5]), (5, .arr 50 3 (b3.length) (eF cGCol b3))]⟩) (by kernel_rfl))) ?_))))))))
  refine pwp_weak (Le.trans (Le.freeze (o := 5) (eL cGCol (b3)) rfl rfl rfl) (Le.keep (ts := [4]) (os := [4]) (t := ⟨[(4, .ptr 4 0)], [(4, .box [iV 4, .t (eL cInt ([a0])), .t (.str (⟨#[]⟩)), iV 0, .nil, iV 0, iV 60, iV 0, .nil, .nil, iV 0, iV 0, iV 0, .t (eL cGAgg (a1)), .nil, .t (eL cGCol (b3))])]⟩) (by kernel_rfl))) (pwp_weak (Le.obj (o := 4) (.box ([(.int .i64 (4)), (eL cInt ([a0])), (.str (⟨#[]⟩)), (.int .i64 (0)), (.lz (.exprs (([] : List Expr)))), (.int .i64 (0)), (.int .i64 (60)), (.int .i64 (0)), (eL cInt (([] : List Int))), (eL cInt (([] : List Int))), (.int .i64 (0)), (.int .i64 (0)), (.int .i64 (0)), (eL cGAgg (a1)), (eL cGPat (([] : List GPat))), (eL cGCol (b3))].map .t)) rfl (fun _ _ _ => le_box (.same (.same (.same (.same (.empty rfl (.same (.same (.same (.empty rfl (.empty rfl (.same (.same (.same (.same (.empty rfl (.same (.nil))))))))))))))))))) ?_)
  cases h
  exact pwp_ret rt

def F77 (n : Nat) (a0 : Int) : Option (Bool) := Option.bind (if (decide (a0 ≥ 0)) = true then (some (decide (a0 < 3))) else (some (false)) : Option (Bool)) fun j1 => some (j1)
abbrev I77 : Inf := ⟨look tiL, [], 9⟩
set_option maxRecDepth 20000 in
theorem F77_ok (n : Nat) (a0 : Int) (y : Bool) (h : F77 n a0 = some y) : PCall Proofs.Try.prog 77 [.t (.int .i64 (a0))] [] [] (Ret (.t (.bool (y)))) := by
  refine pcall_of (I := I77) Proofs.Try.func77 rfl ti_ok Proofs.Try.ntmps77 (le_n (by kernel_rfl)) (fun E hG => ?_)
  unfold F77 at h
  refine sn hG [0] [] [] [] (pwp_seq ?_)
  obtain ⟨j1, hj3, h⟩ := bnd h
  refine jn [2] [] [(2, bV j1)] [] ?_ ?_
  replace h := hj3; clear hj3
  refine pwp_region (pn hG 3 [0, 5] [] [(5, bV (decide (a0 ≥ 0)))] [] (io 5 h (fun h => ?_) (fun h => ?_)))
  refine pn hG 4 [2] [] [(2, bV (decide (a0 < 3)))] [] ?_
  cases h
  exact pe fl
  refine pn hG 4 [2] [] [(2, bV false)] [] ?_
  cases h
  exact pe fl
  refine then_n ?_
  cases h
  exact pwp_ret rt

def F29_L0 (n : Nat) (rec : Expr → Option (Int)) (a0 : Expr) : (Int × Int) → Option ((Int × Int) ⊕ (Int))
  | (v1, v2) => if (decide (v2 < ((a0.Args.length : Int)))) = true then (if 0 ≤ v2 ∧ v2 < (a0.Args.length : Int) then ((rec (a0.Args.getD (v2).toNat default)).bind fun r6 => some (.inl ((if r6 > v1 then r6 else v1, IntKind.i64.wrap (v2 + 1))))) else none) else (some (.inr (v1)))
def F29 : Nat → Expr → Option (Int)
  | 0, _ => none
  | n + 1, a0 => Option.bind (iterM (F29_L0 n (F29 n) a0) n ((0, 0))) fun b3 => some (IntKind.i64.wrap (b3 + 1))
abbrev I29 : Inf := ⟨look tiL, [], 22⟩
set_option maxRecDepth 20000 in
theorem F29_ok (n : Nat) : ∀ (a0 : Expr) (y : Int) (_ : F29 n a0 = some y), PCall Proofs.Try.prog 29 [.t (eExpr a0)] [] [] (Ret (.t (.int .i64 (y)))) := by
  induction n with
  | zero => intro a0 y h; cases h
  | succ n ih =>
  intro a0 y h
  refine pcall_of (I := I29) Proofs.Try.func29 rfl ti_ok Proofs.Try.ntmps29 (le_n (by kernel_rfl)) (fun E hG => ?_)
  rw [F29] at h
  refine sn hG [1] [1] [(1, .ptr 1 0)] [(1, .box ((exprCells (a0)).map .t))] (sn hG [1, 3] [1] [(3, iV 0)] [] (pwp_seq (sn hG [1, 3, 4] [1] [(4, iV 0)] [] ?_)))
  obtain ⟨b3, hR9, h⟩ := bnd h
  refine lp (F29_L0 n (F29 n) a0) (fun (s : Int × Int) => match s with | (v1, v2) => (⟨[(1, .ptr 1 0), (3, iV v1), (4, iV v2)], [(1, .box ((exprCells (a0)).map .t))]⟩ : St)) (fun (x0 : Int) (e : Exit) (s : St) => e = .exit 0 ∧ Le E s ((fun (b3 : Int) => (⟨[(3, iV b3)], []⟩ : St)) x0)) ?_ n ((0, 0)) b3 hR9 ?_
  rintro ⟨v1, v2⟩ x h
  rw [F29_L0] at h
  refine pwp_seq (sn hG [1, 3, 4, 9] [1] [(9, bV (decide (v2 < ((a0.Args.length : Int)))))] [] (iw h (fun h => ?_) (fun h => ?_)))
  refine pwp_skip (then_n (pwp_seq (pwp_block (pwp_region ?_))))
  obtain ⟨hc5, h⟩ := grd h
  refine pc hG 6 [1, 4, 12, 17] [1] [(12, iV v1), (17, .t (eExpr (a0.Args.getD (v2).toNat default)))] [] hc5 ?_
  obtain ⟨r6, hr7, h⟩ := bnd h
  refine ca hG [] rfl rfl rfl rfl callable29 (.cons (.same _) .nil) (ih _ _ hr7) (pn hG 2 [1, 3, 4] [1] [(3, iV (if r6 > v1 then r6 else v1))] [] (pe (blk_n (then_n (rn hG [1, 3, 4] [1] [(4, iV (IntKind.i64.wrap (v2 + 1)))] [] ?_)))))
  cases h
  exact round_in lk
  cases h
  exact pwp_exit (then_exit (round_out (by simp) (And.intro rfl lk)))
  intro e s hq
  try dsimp only at h
  obtain ⟨rfl, hle⟩ := hq
  refine ⟨_, hle, blk_hit ?_⟩
  refine then_n (sn hG [2] [] [(2, iV (IntKind.i64.wrap (b3 + 1)))] [] ?_)
  cases h
  exact pwp_ret rt

def F94_L0 (n : Nat) (a0 : List GFunc) (a1 : Int) (a2 : List Int) : Int → Option ((Int) ⊕ ((Unit) ⊕ (Int × Bool)))
  | v8 => if (decide (v8 < ((a2.length : Int)))) = true then (if 0 ≤ v8 ∧ v8 < (a2.length : Int) then (if 0 ≤ v8 ∧ v8 < (((a0.getD (a1).toNat default).Params).length : Int) then (if ((a2.getD (v8).toNat default) != (((a0.getD (a1).toNat default).Params).getD (v8).toNat default)) = true then (some (.inr (.inr ((0, false))))) else (some (.inl (IntKind.i64.wrap (v8 + 1))))) else none) else none) else (some (.inr (.inl (()))))
def F94 (n : Nat) (a0 : List GFunc) (a1 : Int) (a2 : List Int) : Option (Int × Bool) := Option.bind (if (decide (a1 < 0)) = true then (some (true)) else (some (decide (a1 ≥ ((a0.length : Int))))) : Option (Bool)) fun j1 => if (j1) = true then (some ((0, false))) else (if 0 ≤ a1 ∧ a1 < (a0.length : Int) then (if (((((a0.getD (a1).toNat default).Params).length : Int)) != ((a2.length : Int))) = true then (some ((0, false))) else (Option.bind (iterM (F94_L0 n a0 a1 a2) n (0)) fun R13 => match R13 with | .inl (_) => (some (((a0.getD (a1).toNat default).Result, true))) | .inr (y15) => (some (y15)))) else none)
abbrev I94 : Inf := ⟨look tiL, [], 46⟩
set_option maxRecDepth 20000 in
theorem F94_ok (n : Nat) (a0 : List GFunc) (a1 : Int) (a2 : List Int) (y : Int × Bool) (h : F94 n a0 a1 a2 = some y) : PCall Proofs.Try.prog 94 [.t (eL cGFunc (a0)), .t (.int .i64 (a1)), .t (eL cInt (a2))] [] [] (Ret (.tup [.t (.int .i64 (y.1)), .t (.bool (y.2))])) := by
  refine pcall_of (I := I94) Proofs.Try.func94 rfl ti_ok Proofs.Try.ntmps94 (le_n (by kernel_rfl)) (fun E hG => ?_)
  unfold F94 at h
  refine sn hG [0, 1, 2] [] [] [] (pwp_seq (pwp_seq ?_))
  obtain ⟨j1, hj3, h⟩ := bnd h
  refine jn [0, 1, 2, 17] [] [(17, bV j1)] [] ?_ ?_
  replace h := hj3; clear hj3
  refine pwp_region (pn hG 3 [0, 1, 2, 12] [] [(12, bV (decide (a1 < 0)))] [] (io 12 h (fun h => ?_) (fun h => ?_)))
  refine pn hG 5 [0, 1, 2, 17] [] [(17, bV true)] [] ?_
  cases h
  exact pe fl
  refine pn hG 5 [0, 1, 2, 17] [] [(17, bV (decide (a1 ≥ ((a0.length : Int)))))] [] ?_
  cases h
  exact pe fl
  refine then_n (iw h (fun h => ?_) (fun h => ?_))
  refine sn hG [6, 7] [] [(6, iV 0), (7, bV false)] [] ?_
  cases h
  exact pwp_ret (then_ret rt)
  refine pwp_skip (then_n (pwp_seq (pwp_region ?_)))
  obtain ⟨hc6, h⟩ := grd h
  refine pc hG 6 [2, 8] [8] [(8, .ptr 8 0)] [(8, .box ((cGFunc (a0.getD (a1).toNat default)).map .t))] hc6 (pe (then_n (pwp_seq (sn hG [2, 8, 27] [8] [(27, bV (((((a0.getD (a1).toNat default).Params).length : Int)) != ((a2.length : Int))))] [] (iw h (fun h => ?_) (fun h => ?_))))))
  refine sn hG [6, 7] [] [(6, iV 0), (7, bV false)] [] ?_
  cases h
  exact pwp_ret (then_ret rt)
  refine pwp_skip (then_n (pwp_seq (sn hG [2, 8, 9] [8] [(9, iV 0)] [] ?_)))
  obtain ⟨R13, hR14, h⟩ := bnd h
  refine lp (F94_L0 n a0 a1 a2) (fun (v8 : Int) => (⟨[(2, .t (eL cInt (a2))), (8, .ptr 8 0), (9, iV v8)], [(8, .box ((cGFunc (a0.getD (a1).toNat default)).map .t))]⟩ : St)) (fun (r : (Unit) ⊕ (Int × Bool)) (e : Exit) (s : St) => match r with | .inl (x0) => e = .exit 0 ∧ Le E s ((fun (_ : Unit) => (⟨[(8, .ptr 8 0)], [(8, .box ((cGFunc (a0.getD (a1).toNat default)).map .t))]⟩ : St)) x0) | .inr (y0) => e = .ret ∧ finQ I94 Proofs.Try.f94.results.toList (Ret (.tup [iV y0.1, bV y0.2])) .ret s) ?_ n (0) R13 hR14 ?_
  intro v8 x h
  rw [F94_L0] at h
  refine pwp_seq (sn hG [2, 8, 9, 31] [8] [(31, bV (decide (v8 < ((a2.length : Int)))))] [] (iw h (fun h => ?_) (fun h => ?_)))
  refine pwp_skip (then_n (pwp_seq (pwp_block (pwp_seq ?_))))
  obtain ⟨hc10, h⟩ := grd h
  obtain ⟨hc11, h⟩ := grd h
  refine ln hG [] [] [(2, [0 ≤ v8 ∧ v8 < (a2.length : Int)]), (7, [0 ≤ v8 ∧ v8 < (((a0.getD (a1).toNat default).Params).length : Int)])] [(8, false, [])] [2, 8, 9, 31] .nil .nil (.cons hc10 (.cons hc11 .nil)) [2, 8, 9, 43] [8] [(43, bV ((a2.getD (v8).toNat default) != (((a0.getD (a1).toNat default).Params).getD (v8).toNat default)))] [] (then_n (iw h (fun h => ?_) (fun h => ?_)))
  refine sn hG [6, 7] [] [(6, iV 0), (7, bV false)] [] ?_
  cases h
  exact pwp_ret (blk_ret (then_ret (round_out (by simp) (And.intro rfl rt))))
  refine pwp_skip (blk_n (then_n (rn hG [2, 8, 9] [8] [(9, iV (IntKind.i64.wrap (v8 + 1)))] [] ?_)))
  cases h
  exact round_in lk
  cases h
  exact pwp_exit (then_exit (round_out (by simp) (And.intro rfl lk)))
  intro e s hq
  rcases R13 with _ | y15
  try dsimp only at h
  obtain ⟨rfl, hle⟩ := hq
  refine ⟨_, hle, blk_hit ?_⟩
  refine then_n (sn hG [6, 7] [] [(6, iV ((a0.getD (a1).toNat default).Result)), (7, bV true)] [] ?_)
  cases h
  exact pwp_ret rt
  try dsimp only at h
  obtain ⟨rfl, hq⟩ := hq
  cases h
  exact ⟨_, Le.refl, blk_ret (then_ret (hq))⟩

def F95 (n : Nat) (a0 : Int) : Option (Int) := Option.bind (if (a0 == 0) = true then (some (a0 == 0)) else (Option.bind (if (a0 == 1) = true then (some (a0 == 1)) else (Option.bind (if (a0 == 2) = true then (some (a0 == 2)) else (Option.bind (if (a0 == 3) = true then (some (a0 == 3)) else (Option.bind (if (a0 == 4) = true then (some (a0 == 4)) else (some (a0 == 5)) : Option (Bool)) fun j18 => some (j18)) : Option (Bool)) fun j14 => some (j14)) : Option (Bool)) fun j10 => some (j10)) : Option (Bool)) fun j6 => some (j6)) : Option (Bool)) fun j2 => if (j2) = true then (some (0)) else (Option.bind (if (a0 == 6) = true then (some (a0 == 6)) else (Option.bind (if (a0 == 7) = true then (some (a0 == 7)) else (some (a0 == 20)) : Option (Bool)) fun j27 => some (j27)) : Option (Bool)) fun j23 => if (j23) = true then (some (1)) else (if (a0 == 21) = true then (some (3)) else (if (a0 == 22) = true then (some ((-1))) else (Option.bind (if (decide (a0 > 5)) = true then (some (decide (a0 < 21))) else (some (false)) : Option (Bool)) fun j33 => if (j33) = true then (some (2)) else (some ((-1)))))))
abbrev I95 : Inf := ⟨look tiL, [], 25⟩
set_option maxRecDepth 20000 in
theorem F95_ok (n : Nat) (a0 : Int) (y : Int) (h : F95 n a0 = some y) : PCall Proofs.Try.prog 95 [.t (.int .i64 (a0))] [] [] (Ret (.t (.int .i64 (y)))) := by
  refine pcall_of (I := I95) Proofs.Try.func95 rfl ti_ok Proofs.Try.ntmps95 (le_n (by kernel_rfl)) (fun E hG => ?_)
  unfold F95 at h
  refine sn hG [0] [] [] [] (pwp_seq (sn hG [0, 3] [] [(3, iV a0)] [] (pwp_block (pwp_seq (sn hG [0, 3, 4] [] [(4, bV (a0 == 0))] [] ?_)))))
  obtain ⟨j2, hj4, h⟩ := bnd h
  refine jn [0, 3, 4] [] [(4, bV j2)] [] ?_ ?_
  replace h := hj4; clear hj4
  refine iw h (fun h => ?_) (fun h => ?_)
  refine pwp_skip ?_
  cases h
  exact fl
  refine sn hG [0, 3, 4] [] [(4, bV (a0 == 1))] [] ?_
  obtain ⟨j6, hj8, h⟩ := bnd h
  refine jn [0, 3, 4] [] [(4, bV j6)] [] ?_ ?_
  replace h := hj8; clear hj8
  refine iw h (fun h => ?_) (fun h => ?_)
  refine pwp_skip ?_
  cases h
  exact fl
  refine sn hG [0, 3, 4] [] [(4, bV (a0 == 2))] [] ?_
  obtain ⟨j10, hj12, h⟩ := bnd h
  refine jn [0, 3, 4] [] [(4, bV j10)] [] ?_ ?_
  replace h := hj12; clear hj12
  refine iw h (fun h => ?_) (fun h => ?_)
  refine pwp_skip ?_
  cases h
  exact fl
  refine sn hG [0, 3, 4] [] [(4, bV (a0 == 3))] [] ?_
  obtain ⟨j14, hj16, h⟩ := bnd h
  refine jn [0, 3, 4] [] [(4, bV j14)] [] ?_ ?_
  replace h := hj16; clear hj16
  refine iw h (fun h => ?_) (fun h => ?_)
  refine pwp_skip ?_
  cases h
  exact fl
  refine sn hG [0, 3, 4] [] [(4, bV (a0 == 4))] [] ?_
  obtain ⟨j18, hj20, h⟩ := bnd h
  refine jn [0, 3, 4] [] [(4, bV j18)] [] ?_ ?_
  replace h := hj20; clear hj20
  refine iw h (fun h => ?_) (fun h => ?_)
  refine pwp_skip ?_
  cases h
  exact fl
  refine rn hG [0, 3, 4] [] [(4, bV (a0 == 5))] [] ?_
  cases h
  exact fl
  cases h
  exact fl
  cases h
  exact fl
  cases h
  exact fl
  cases h
  exact fl
  refine then_n (iw h (fun h => ?_) (fun h => ?_))
  refine sn hG [2] [] [(2, iV 0)] [] ?_
  cases h
  exact pwp_ret (blk_ret (then_ret rt))
  refine pwp_seq (sn hG [0, 3, 11] [] [(11, bV (a0 == 6))] [] ?_)
  obtain ⟨j23, hj25, h⟩ := bnd h
  refine jn [0, 3, 11] [] [(11, bV j23)] [] ?_ ?_
  replace h := hj25; clear hj25
  refine iw h (fun h => ?_) (fun h => ?_)
  refine pwp_skip ?_
  cases h
  exact fl
  refine sn hG [0, 3, 11] [] [(11, bV (a0 == 7))] [] ?_
  obtain ⟨j27, hj29, h⟩ := bnd h
  refine jn [0, 3, 11] [] [(11, bV j27)] [] ?_ ?_
  replace h := hj29; clear hj29
  refine iw h (fun h => ?_) (fun h => ?_)
  refine pwp_skip ?_
  cases h
  exact fl
  refine rn hG [0, 3, 11] [] [(11, bV (a0 == 20))] [] ?_
  cases h
  exact fl
  cases h
  exact fl
  refine then_n (iw h (fun h => ?_) (fun h => ?_))
  refine sn hG [2] [] [(2, iV 1)] [] ?_
  cases h
  exact pwp_ret (blk_ret (then_ret rt))
  refine sn hG [0, 3, 15] [] [(15, bV (a0 == 21))] [] (iw h (fun h => ?_) (fun h => ?_))
  refine sn hG [2] [] [(2, iV 3)] [] ?_
  cases h
  exact pwp_ret (blk_ret (then_ret rt))
  refine sn hG [0, 17] [] [(17, bV (a0 == 22))] [] (iw h (fun h => ?_) (fun h => ?_))
  refine sn hG [2] [] [(2, iV ((-1)))] [] ?_
  cases h
  exact pwp_ret (blk_ret (then_ret rt))
  refine pwp_skip (blk_n (then_n (pwp_seq (pwp_seq ?_))))
  obtain ⟨j33, hj35, h⟩ := bnd h
  refine jn [24] [] [(24, bV j33)] [] ?_ ?_
  replace h := hj35; clear hj35
  refine pwp_region (pn hG 3 [0, 21] [] [(21, bV (decide (a0 > 5)))] [] (io 21 h (fun h => ?_) (fun h => ?_)))
  refine pn hG 3 [24] [] [(24, bV (decide (a0 < 21)))] [] ?_
  cases h
  exact pe fl
  refine pn hG 3 [24] [] [(24, bV false)] [] ?_
  cases h
  exact pe fl
  refine then_n (iw h (fun h => ?_) (fun h => ?_))
  refine sn hG [2] [] [(2, iV 2)] [] ?_
  cases h
  exact pwp_ret (then_ret rt)
  refine pwp_skip (then_n (sn hG [2] [] [(2, iV ((-1)))] [] ?_))
  cases h
  exact pwp_ret rt

def F96 (n : Nat) (a0 : List Int) (a1 : Int) : Option (Int × Bool) := Option.bind (if (decide (a1 < 0)) = true then (some (true)) else (some (decide (a1 ≥ ((a0.length : Int))))) : Option (Bool)) fun j1 => if (j1) = true then (some ((0, false))) else (if 0 ≤ a1 ∧ a1 < (a0.length : Int) then (if 0 ≤ a1 ∧ a1 < (a0.length : Int) then ((F77 n (a0.getD (a1).toNat default)).bind fun r8 => some ((a0.getD (a1).toNat default, r8))) else none) else none)
abbrev I96 : Inf := ⟨look tiL, [], 23⟩
set_option maxRecDepth 20000 in
theorem F96_ok (n : Nat) (a0 : List Int) (a1 : Int) (y : Int × Bool) (h : F96 n a0 a1 = some y) : PCall Proofs.Try.prog 96 [.t (eL cInt (a0)), .t (.int .i64 (a1))] [] [] (Ret (.tup [.t (.int .i64 (y.1)), .t (.bool (y.2))])) := by
  refine pcall_of (I := I96) Proofs.Try.func96 rfl ti_ok Proofs.Try.ntmps96 (le_n (by kernel_rfl)) (fun E hG => ?_)
  unfold F96 at h
  refine sn hG [0, 1] [] [] [] (pwp_seq (pwp_seq ?_))
  obtain ⟨j1, hj3, h⟩ := bnd h
  refine jn [0, 1, 13] [] [(13, bV j1)] [] ?_ ?_
  replace h := hj3; clear hj3
  refine pwp_region (pn hG 3 [0, 1, 8] [] [(8, bV (decide (a1 < 0)))] [] (io 8 h (fun h => ?_) (fun h => ?_)))
  refine pn hG 5 [0, 1, 13] [] [(13, bV true)] [] ?_
  cases h
  exact pe fl
  refine pn hG 5 [0, 1, 13] [] [(13, bV (decide (a1 ≥ ((a0.length : Int)))))] [] ?_
  cases h
  exact pe fl
  refine then_n (iw h (fun h => ?_) (fun h => ?_))
  refine sn hG [4, 5] [] [(4, iV 0), (5, bV false)] [] ?_
  cases h
  exact pwp_ret (then_ret rt)
  refine pwp_skip (then_n (pwp_seq ?_))
  obtain ⟨hc6, h⟩ := grd h
  obtain ⟨hc7, h⟩ := grd h
  obtain ⟨r8, hr9, h⟩ := bnd h
  refine ln hG [(8, 77, [iV (a0.getD (a1).toNat default)], bV r8)] [] [(2, [0 ≤ a1 ∧ a1 < (a0.length : Int)]), (6, [0 ≤ a1 ∧ a1 < (a0.length : Int)])] [] [0, 1, 13] (.cons ⟨callable77, ⟨_, fun _ => (.cons (.same _) .nil), F77_ok n _ _ hr9⟩, rfl⟩ .nil) .nil (.cons hc6 (.cons hc7 .nil)) [4, 5] [] [(4, iV (a0.getD (a1).toNat default)), (5, bV r8)] [] (then_n ?_)
  cases h
  exact pwp_ret rt

def F87_L0 (n : Nat) (rec : (List GFunc) → (List Int) → (List Int) → Expr → Option (Int × Bool)) (a0 : List GFunc) (a1 : List Int) (a2 : List Int) (a3 : Expr) : ((List Int) × Int) → Option (((List Int) × Int) ⊕ (((List Int)) ⊕ (Int × Bool)))
  | (v1, v2) => if (decide (v2 < ((a3.Args.length : Int)))) = true then (if 0 ≤ v2 ∧ v2 < (a3.Args.length : Int) then ((rec a0 a1 a2 (a3.Args.getD (v2).toNat default)).bind fun r6 => if (!r6.2) = true then (some (.inr (.inr ((0, false))))) else (if (v1.length + 1) * 8 ≤ 140737488355328 then (some (.inl ((v1 ++ ([r6.1]), IntKind.i64.wrap (v2 + 1))))) else none)) else none) else (some (.inr (.inl (v1))))
def F87 : Nat → (List GFunc) → (List Int) → (List Int) → Expr → Option (Int × Bool)
  | 0, _, _, _, _ => none
  | n + 1, a0, a1, a2, a3 => Option.bind (iterM (F87_L0 n (F87 n) a0 a1 a2 a3) n ((([] : List Int), 0))) fun R10 => match R10 with | .inl (b3) => (Option.bind (if (!((a3.S : ByteArray).toList == (⟨#[]⟩ : ByteArray).toList)) = true then (some ((b3, a3.Op != 1))) else (some ((b3, false))) : Option ((List Int) × Bool)) fun J14 => match J14 with | (j12, j13) => (if (j13) = true then (some ((0, false))) else (if (a3.Op == 22) = true then ((F94 n a0 a3.N j12).bind fun r19 => some ((r19.1, r19.2))) else ((F95 n a3.Op).bind fun r21 => if (r21 != ((j12.length : Int))) = true then (some ((0, false))) else (if (a3.Op == 0) = true then (some ((0, true))) else (if (a3.Op == 2) = true then (Option.bind (if (a3.N == 0) = true then (some (true)) else (some (a3.N == 1)) : Option (Bool)) fun j26 => some ((2, j26))) else (if (a3.Op == 3) = true then ((F96 n a1 a3.N).bind fun r31 => some ((r31.1, r31.2))) else (if (a3.Op == 4) = true then ((F96 n a2 a3.N).bind fun r34 => some ((r34.1, r34.2))) else (if (a3.N != 0) = true then (some ((0, false))) else (if (a3.Op == 1) = true then (some ((1, decide ((((a3.S : ByteArray).size : Int)) ≤ 200)))) else (if (a3.Op == 5) = true then (some ((0, true))) else (if (a3.Op == 6) = true then (if 0 ≤ ((0 : Int)) ∧ ((0 : Int)) < (j12.length : Int) then (if ((0 : Int)).toNat < j12.length then (some ((2, (j12.getD ((0 : Int)).toNat default) == 2))) else none) else none) else (if (a3.Op == 7) = true then (if 0 ≤ ((0 : Int)) ∧ ((0 : Int)) < (j12.length : Int) then (if ((0 : Int)).toNat < j12.length then (some ((0, (j12.getD ((0 : Int)).toNat default) == 0))) else none) else none) else (if (a3.Op == 20) = true then (if 0 ≤ ((0 : Int)) ∧ ((0 : Int)) < (j12.length : Int) then (if ((0 : Int)).toNat < j12.length then (some ((0, (j12.getD ((0 : Int)).toNat default) == 1))) else none) else none) else (Option.bind (if (a3.Op == 8) = true then (some ((j12, a3.Op == 8))) else (Option.bind (if (a3.Op == 9) = true then (some ((j12, a3.Op == 9))) else (Option.bind (if (a3.Op == 10) = true then (some ((j12, a3.Op == 10))) else (Option.bind (if (a3.Op == 11) = true then (some ((j12, a3.Op == 11))) else (some ((j12, a3.Op == 12))) : Option ((List Int) × Bool)) fun J66 => match J66 with | (j64, j65) => (some ((j64, j65)))) : Option ((List Int) × Bool)) fun J61 => match J61 with | (j59, j60) => (some ((j59, j60)))) : Option ((List Int) × Bool)) fun J56 => match J56 with | (j54, j55) => (some ((j54, j55)))) : Option ((List Int) × Bool)) fun J51 => match J51 with | (j49, j50) => (if (j50) = true then (Option.bind (if 0 ≤ ((0 : Int)) ∧ ((0 : Int)) < (j49.length : Int) then (if ((0 : Int)).toNat < j49.length then (if ((j49.getD ((0 : Int)).toNat default) == 0) = true then (if 0 ≤ ((1 : Int)) ∧ ((1 : Int)) < (j49.length : Int) then (if ((1 : Int)).toNat < j49.length then (some ((j49.getD ((1 : Int)).toNat default) == 0)) else none) else none) else (some (false))) else none) else none : Option (Bool)) fun j69 => some ((0, j69))) else (Option.bind (if (a3.Op == 13) = true then (some ((j49, a3.Op == 13))) else (Option.bind (if (a3.Op == 14) = true then (some ((j49, a3.Op == 14))) else (Option.bind (if (a3.Op == 15) = true then (some ((j49, a3.Op == 15))) else (some ((j49, a3.Op == 16))) : Option ((List Int) × Bool)) fun J90 => match J90 with | (j88, j89) => (some ((j88, j89)))) : Option ((List Int) × Bool)) fun J85 => match J85 with | (j83, j84) => (some ((j83, j84)))) : Option ((List Int) × Bool)) fun J80 => match J80 with | (j78, j79) => (if (j79) = true then (if 0 ≤ ((0 : Int)) ∧ ((0 : Int)) < (j78.length : Int) then (if ((0 : Int)).toNat < j78.length then (if 0 ≤ ((1 : Int)) ∧ ((1 : Int)) < (j78.length : Int) then (if ((1 : Int)).toNat < j78.length then (some ((2, (j78.getD ((0 : Int)).toNat default) == (j78.getD ((1 : Int)).toNat default)))) else none) else none) else none) else none) else (Option.bind (if (a3.Op == 17) = true then (some ((j78, a3.Op == 17))) else (some ((j78, a3.Op == 18))) : Option ((List Int) × Bool)) fun J100 => match J100 with | (j98, j99) => (if (j99) = true then (Option.bind (if 0 ≤ ((0 : Int)) ∧ ((0 : Int)) < (j98.length : Int) then (if ((0 : Int)).toNat < j98.length then (if ((j98.getD ((0 : Int)).toNat default) == 2) = true then (if 0 ≤ ((1 : Int)) ∧ ((1 : Int)) < (j98.length : Int) then (if ((1 : Int)).toNat < j98.length then (some ((j98.getD ((1 : Int)).toNat default) == 2)) else none) else none) else (some (false))) else none) else none : Option (Bool)) fun j103 => some ((2, j103))) else (if (a3.Op == 19) = true then (Option.bind (if 0 ≤ ((0 : Int)) ∧ ((0 : Int)) < (j98.length : Int) then (if ((0 : Int)).toNat < j98.length then (if ((j98.getD ((0 : Int)).toNat default) == 1) = true then (if 0 ≤ ((1 : Int)) ∧ ((1 : Int)) < (j98.length : Int) then (if ((1 : Int)).toNat < j98.length then (some ((j98.getD ((1 : Int)).toNat default) == 1)) else none) else none) else (some (false))) else none) else none : Option (Bool)) fun j112 => some ((1, j112))) else (Option.bind (if 0 ≤ ((1 : Int)) ∧ ((1 : Int)) < (j98.length : Int) then (if ((1 : Int)).toNat < j98.length then (if 0 ≤ ((0 : Int)) ∧ ((0 : Int)) < (j98.length : Int) then (if ((0 : Int)).toNat < j98.length then (if ((j98.getD ((0 : Int)).toNat default) == 2) = true then (if 0 ≤ ((1 : Int)) ∧ ((1 : Int)) < (j98.length : Int) then (if ((1 : Int)).toNat < j98.length then (if 0 ≤ ((2 : Int)) ∧ ((2 : Int)) < (j98.length : Int) then (if ((2 : Int)).toNat < j98.length then (some ((j98.getD ((1 : Int)).toNat default) == (j98.getD ((2 : Int)).toNat default))) else none) else none) else none) else none) else (some (false))) else none) else none) else none) else none : Option (Bool)) fun j120 => some ((j98.getD ((1 : Int)).toNat default, j120)))))))))))))))))))))))) | .inr (y132) => (some (y132))
abbrev I87 : Inf := ⟨look tiL, [], 193⟩
set_option maxRecDepth 20000 in
theorem F87_ok (n : Nat) : ∀ (a0 : List GFunc) (a1 : List Int) (a2 : List Int) (a3 : Expr) (y : Int × Bool) (_ : F87 n a0 a1 a2 a3 = some y), PCall Proofs.Try.prog 87 [.t (eL cGFunc (a0)), .t (eL cInt (a1)), .t (eL cInt (a2)), .t (eExpr a3)] [] [] (Ret (.tup [.t (.int .i64 (y.1)), .t (.bool (y.2))])) := by
  induction n with
  | zero => intro a0 a1 a2 a3 y h; cases h
  | succ n ih =>
  intro a0 a1 a2 a3 y h
  refine pcall_of (I := I87) Proofs.Try.func87 rfl ti_ok Proofs.Try.ntmps87 (le_n (by kernel_rfl)) (fun E hG => ?_)
  rw [F87] at h
  refine sn hG [0, 1, 2, 7] [7] [(7, .ptr 7 0)] [(7, .box ((exprCells (a3)).map .t))] (sn hG [0, 1, 2, 7, 10] [7] [(10, .nil)] [] (pwp_seq (sn hG [0, 1, 2, 7, 10, 11] [7] [(11, iV 0)] [] (ws ⟨[(0, .t (eL cGFunc (a0))), (1, .t (eL cInt (a1))), (2, .t (eL cInt (a2))), (7, .ptr 7 0), (10, .nil), (11, iV 0)], [(7, .box ((exprCells (a3)).map .t))]⟩ (pwp_weak (Le.thaw (t := 10) (o := 10) (e := 3) (s := 1) (f := eF cInt ([] : List Int)) hG rfl) ?_)))))
  obtain ⟨R10, hR11, h⟩ := bnd h
  refine lp (F87_L0 n (F87 n) a0 a1 a2 a3) (fun (s : (List Int) × Int) => match s with | (v1, v2) => (⟨[(0, .t (eL cGFunc (a0))), (1, .t (eL cInt (a1))), (2, .t (eL cInt (a2))), (7, .ptr 7 0), (10, .own 10), (11, iV v2)], [(7, .box ((exprCells (a3)).map .t)), (10, .arr 3 1 (v1.length) (eF cInt v1))]⟩ : St)) (fun (r : ((List Int)) ⊕ (Int × Bool)) (e : Exit) (s : St) => match r with | .inl (x0) => e = .exit 0 ∧ Le E s ((fun (b3 : (List Int)) => (⟨[(0, .t (eL cGFunc (a0))), (1, .t (eL cInt (a1))), (2, .t (eL cInt (a2))), (7, .ptr 7 0), (10, .own 10)], [(7, .box ((exprCells (a3)).map .t)), (10, .arr 3 1 (b3.length) (eF cInt b3))]⟩ : St)) x0) | .inr (y0) => e = .ret ∧ finQ I87 Proofs.Try.f87.results.toList (Ret (.tup [iV y0.1, bV y0.2])) .ret s) ?_ n ((([] : List Int), 0)) R10 hR11 ?_
  rintro ⟨v1, v2⟩ x h
  rw [F87_L0] at h
  refine pwp_seq (sn hG [0, 1, 2, 7, 10, 11, 18] [7, 10] [(18, bV (decide (v2 < ((a3.Args.length : Int)))))] [] (iw h (fun h => ?_) (fun h => ?_)))
  refine pwp_skip (then_n (pwp_seq (pwp_block (pwp_seq (pwp_region ?_)))))
  obtain ⟨hc5, h⟩ := grd h
  refine pc hG 8 [0, 1, 2, 7, 10, 11, 22, 23, 24, 29] [7, 10] [(22, .t (eL cGFunc (a0))), (23, .t (eL cInt (a1))), (24, .t (eL cInt (a2))), (29, .t (eExpr (a3.Args.getD (v2).toNat default)))] [] hc5 ?_
  obtain ⟨r6, hr7, h⟩ := bnd h
  refine ca hG [] rfl rfl rfl rfl callable87 (.cons (.same _) (.cons (.same _) (.cons (.same _) (.cons (.same _) .nil)))) (ih _ _ _ _ _ hr7) (pn hG 5 [0, 1, 2, 7, 10, 11, 12, 13] [7, 10] [(12, iV r6.1), (13, bV r6.2)] [] (pe (then_n (pwp_seq (sn hG [0, 1, 2, 7, 10, 11, 12, 34] [7, 10] [(34, bV (!r6.2))] [] (iw h (fun h => ?_) (fun h => ?_)))))))
  refine sn hG [8, 9] [] [(8, iV 0), (9, bV false)] [] ?_
  cases h
  exact pwp_ret (then_ret (blk_ret (then_ret (round_out (by simp) (And.intro rfl rt)))))
  refine pwp_skip (then_n (pwp_region ?_))
  obtain ⟨hc9, h⟩ := grd h
  refine pd hG 4 [0, 1, 2, 7, 11, 38] [7, 38] [(38, .own 38)] [(38, .arr 3 1 (v1.length + 1) (appF (v1.length) (eF cInt v1) (arrOf [.int .i64 (r6.1)] 1)))] (Cs := [appC (v1.length) (1) 8 1 (arrOf [.int .i64 (r6.1)] 1)]) ⟨hc9, ok_one rfl⟩ (os ⟨[(0, .t (eL cGFunc (a0))), (1, .t (eL cInt (a1))), (2, .t (eL cInt (a2))), (7, .ptr 7 0), (11, iV v2), (38, .own 38)], [(7, .box ((exprCells (a3)).map .t)), (38, .arr 3 1 (v1.length + 1) (appF (v1.length) (eF cInt v1) (arrOf [.int .i64 (r6.1)] 1)))]⟩ (pops_weak (Le.obj (o := 38) (.arr 3 1 ((v1 ++ ([r6.1])).length) (eF cInt (v1 ++ ([r6.1])))) rfl (fun _ _ _ => ObjR.row (by simp) (row_snoc cInt v1 r6.1 _ rfl))) (pn hG 1 [0, 1, 2, 7, 10, 11] [7, 38] [(10, .own 38)] [(38, .arr 3 1 ((v1 ++ ([r6.1])).length) (eF cInt (v1 ++ ([r6.1]))))] (pe (blk_n (then_n (rn hG [0, 1, 2, 7, 10, 11] [7, 38] [(11, iV (IntKind.i64.wrap (v2 + 1)))] [] ?_)))))))
  cases h
  exact round_in (Le.trans (ls ⟨[(0, .t (eL cGFunc (a0))), (1, .t (eL cInt (a1))), (2, .t (eL cInt (a2))), (7, .ptr 7 0), (10, .own 38), (11, iV (IntKind.i64.wrap (v2 + 1)))], [(7, .box ((exprCells (a3)).map .t)), (38, .arr 3 1 ((v1 ++ ([r6.1])).length) (eF cInt (v1 ++ ([r6.1]))))]⟩) (Le.trans (Le.rename (o := 38) (o' := 10) hG (by decide) rfl) lk))
  cases h
  exact pwp_exit (then_exit (round_out (by simp) (And.intro rfl lk)))
  intro e s hq
  rcases R10 with b3 | y132
  try dsimp only at h
  obtain ⟨rfl, hle⟩ := hq
  refine ⟨_, hle, blk_hit ?_⟩
  refine then_n (pwp_seq (pwp_seq ?_))
  obtain ⟨J14, hj15, h⟩ := bnd h
  obtain ⟨j12, j13⟩ := J14
  try dsimp only at h
  refine jn [0, 1, 2, 7, 10, 46] [7, 10] [(46, bV j13)] [(10, .arr 3 1 (j12.length) (eF cInt j12))] ?_ ?_
  replace h := hj15; clear hj15
  refine pwp_region (pn hG 4 [0, 1, 2, 7, 10, 42] [7, 10] [(42, bV (!((a3.S : ByteArray).toList == (⟨#[]⟩ : ByteArray).toList)))] [] (io 42 h (fun h => ?_) (fun h => ?_)))
  refine pn hG 4 [0, 1, 2, 7, 10, 46] [7, 10] [(46, bV (a3.Op != 1))] [] ?_
  injection h with q0
  injection q0 with p1 q1
  subst p1
  subst q1
  exact pe fl
  refine pn hG 4 [0, 1, 2, 7, 10, 46] [7, 10] [(46, bV false)] [] ?_
  injection h with q0
  injection q0 with p1 q1
  subst p1
  subst q1
  exact pe fl
  refine then_n (iw h (fun h => ?_) (fun h => ?_))
  refine sn hG [8, 9] [] [(8, iV 0), (9, bV false)] [] ?_
  cases h
  exact pwp_ret (then_ret rt)
  refine pwp_skip (then_n (pwp_seq (sn hG [0, 1, 2, 7, 10, 49] [7, 10] [(49, bV (a3.Op == 22))] [] (iw h (fun h => ?_) (fun h => ?_)))))
  refine pwp_seq (pwp_region (pn hG 4 [50, 52, 53] [10] [(50, .t (eL cGFunc (a0))), (52, iV a3.N), (53, .own 10)] [] ?_))
  obtain ⟨r19, hr20, h⟩ := bnd h
  refine ca hG [10] (aps := [.t (eL cGFunc (a0)), iV a3.N, .own 10]) rfl rfl rfl rfl callable94 (.cons (.same _) (.cons (.same _) (.cons (.lend (by simp) rfl rfl) .nil))) (F94_ok n _ _ _ _ hr20) (pn hG 4 [8, 9] [] [(8, iV r19.1), (9, bV r19.2)] [] (pe (then_n ?_)))
  cases h
  exact pwp_ret (then_ret rt)
  refine pwp_skip (then_n (pwp_seq (pwp_seq (pwp_region (pn hG 2 [1, 2, 7, 10, 58] [7, 10] [(58, iV a3.Op)] [] ?_)))))
  obtain ⟨r21, hr22, h⟩ := bnd h
  refine ca hG [] rfl rfl rfl rfl callable95 (.cons (.same _) .nil) (F95_ok n _ _ hr22) (pn hG 3 [1, 2, 7, 10, 62] [7, 10] [(62, bV (r21 != ((j12.length : Int))))] [] (pe (then_n (iw h (fun h => ?_) (fun h => ?_)))))
  refine sn hG [8, 9] [] [(8, iV 0), (9, bV false)] [] ?_
  cases h
  exact pwp_ret (then_ret rt)
  refine pwp_skip (then_n (pwp_seq (sn hG [1, 2, 7, 10, 64] [7, 10] [(64, iV a3.Op)] [] (pwp_block (sn hG [1, 2, 7, 10, 64, 65] [7, 10] [(65, bV (a3.Op == 0))] [] (iw h (fun h => ?_) (fun h => ?_)))))))
  refine sn hG [8, 9] [] [(8, iV 0), (9, bV true)] [] ?_
  cases h
  exact pwp_ret (blk_ret (then_ret rt))
  refine sn hG [1, 2, 7, 10, 64, 67] [7, 10] [(67, bV (a3.Op == 2))] [] (iw h (fun h => ?_) (fun h => ?_))
  refine pwp_seq ?_
  obtain ⟨j26, hj28, h⟩ := bnd h
  refine jn [8, 9] [] [(8, iV 2), (9, bV j26)] [] ?_ ?_
  replace h := hj28; clear hj28
  refine (Bool.eq_false_or_eq_true (a3.N == 0)).elim (fun hb29 => ?_) (fun hb29 => ?_)
  have h := ite_t hb29 h
  refine ln hG [] [(3, (a3.N == 0, true))] [] [(7, false, []), (10, false, [])] [1, 2, 7, 10, 64, 67] .nil (.cons hb29 .nil) .nil [8, 9] [] [(8, iV 2), (9, bV true)] [] ?_
  cases h
  exact fl
  have h := ite_f hb29 h
  refine ln hG [] [(3, (a3.N == 0, false))] [] [(7, false, []), (10, false, [])] [1, 2, 7, 10, 64, 67] .nil (.cons hb29 .nil) .nil [8, 9] [] [(8, iV 2), (9, bV (a3.N == 1))] [] ?_
  cases h
  exact fl
  refine then_n ?_
  cases h
  exact pwp_ret (blk_ret (then_ret rt))
  refine sn hG [1, 2, 7, 10, 64, 77] [7, 10] [(77, bV (a3.Op == 3))] [] (iw h (fun h => ?_) (fun h => ?_))
  refine pwp_seq (pwp_region (pn hG 3 [79, 81] [] [(79, .t (eL cInt (a1))), (81, iV a3.N)] [] ?_))
  obtain ⟨r31, hr32, h⟩ := bnd h
  refine ca hG [] rfl rfl rfl rfl callable96 (.cons (.same _) (.cons (.same _) .nil)) (F96_ok n _ _ _ hr32) (pn hG 4 [8, 9] [] [(8, iV r31.1), (9, bV r31.2)] [] (pe (then_n ?_)))
  cases h
  exact pwp_ret (blk_ret (then_ret rt))
  refine sn hG [2, 7, 10, 85] [7, 10] [(85, bV (a3.Op == 4))] [] (iw h (fun h => ?_) (fun h => ?_))
  refine pwp_seq (pwp_region (pn hG 3 [87, 89] [] [(87, .t (eL cInt (a2))), (89, iV a3.N)] [] ?_))
  obtain ⟨r34, hr35, h⟩ := bnd h
  refine ca hG [] rfl rfl rfl rfl callable96 (.cons (.same _) (.cons (.same _) .nil)) (F96_ok n _ _ _ hr35) (pn hG 4 [8, 9] [] [(8, iV r34.1), (9, bV r34.2)] [] (pe (then_n ?_)))
  cases h
  exact pwp_ret (blk_ret (then_ret rt))
  refine pwp_skip (blk_n (then_n (pwp_seq (sn hG [7, 10, 95] [7, 10] [(95, bV (a3.N != 0))] [] (iw h (fun h => ?_) (fun h => ?_))))))
  refine sn hG [8, 9] [] [(8, iV 0), (9, bV false)] [] ?_
  cases h
  exact pwp_ret (then_ret rt)
  refine pwp_skip (then_n (pwp_seq (sn hG [7, 10, 97] [7, 10] [(97, iV a3.Op)] [] (pwp_block (sn hG [7, 10, 97, 98] [7, 10] [(98, bV (a3.Op == 1))] [] (iw h (fun h => ?_) (fun h => ?_)))))))
  refine pwp_seq (ln hG [] [] [] [(7, false, []), (10, false, [])] [7, 10, 97, 98] .nil .nil .nil [8, 9] [] [(8, iV 1), (9, bV (decide ((((a3.S : ByteArray).size : Int)) ≤ 200)))] [] (then_n ?_))
  cases h
  exact pwp_ret (blk_ret (then_ret rt))
  refine sn hG [10, 97, 104] [10] [(104, bV (a3.Op == 5))] [] (iw h (fun h => ?_) (fun h => ?_))
  refine sn hG [8, 9] [] [(8, iV 0), (9, bV true)] [] ?_
  cases h
  exact pwp_ret (blk_ret (then_ret rt))
  refine sn hG [10, 97, 106] [10] [(106, bV (a3.Op == 6))] [] (iw h (fun h => ?_) (fun h => ?_))
  refine pwp_seq ?_
  obtain ⟨hc40, h⟩ := grd h
  obtain ⟨hc41, h⟩ := grd h
  refine ln hG [] [] [(1, [0 ≤ ((0 : Int)) ∧ ((0 : Int)) < (j12.length : Int)]), (2, [((0 : Int)).toNat < j12.length])] [(10, false, [])] [10, 97, 106] .nil .nil (.cons hc40 (.cons hc41 .nil)) [8, 9] [] [(8, iV 2), (9, bV ((j12.getD ((0 : Int)).toNat default) == 2))] [] (then_n ?_)
  cases h
  exact pwp_ret (blk_ret (then_ret rt))
  refine sn hG [10, 97, 112] [10] [(112, bV (a3.Op == 7))] [] (iw h (fun h => ?_) (fun h => ?_))
  refine pwp_seq ?_
  obtain ⟨hc43, h⟩ := grd h
  obtain ⟨hc44, h⟩ := grd h
  refine ln hG [] [] [(1, [0 ≤ ((0 : Int)) ∧ ((0 : Int)) < (j12.length : Int)]), (2, [((0 : Int)).toNat < j12.length])] [(10, false, [])] [10, 97, 112] .nil .nil (.cons hc43 (.cons hc44 .nil)) [8, 9] [] [(8, iV 0), (9, bV ((j12.getD ((0 : Int)).toNat default) == 0))] [] (then_n ?_)
  cases h
  exact pwp_ret (blk_ret (then_ret rt))
  refine sn hG [10, 97, 118] [10] [(118, bV (a3.Op == 20))] [] (iw h (fun h => ?_) (fun h => ?_))
  refine pwp_seq ?_
  obtain ⟨hc46, h⟩ := grd h
  obtain ⟨hc47, h⟩ := grd h
  refine ln hG [] [] [(1, [0 ≤ ((0 : Int)) ∧ ((0 : Int)) < (j12.length : Int)]), (2, [((0 : Int)).toNat < j12.length])] [(10, false, [])] [10, 97, 118] .nil .nil (.cons hc46 (.cons hc47 .nil)) [8, 9] [] [(8, iV 0), (9, bV ((j12.getD ((0 : Int)).toNat default) == 1))] [] (then_n ?_)
  cases h
  exact pwp_ret (blk_ret (then_ret rt))
  refine pwp_seq (sn hG [10, 97, 124] [10] [(124, bV (a3.Op == 8))] [] ?_)
  obtain ⟨J51, hj52, h⟩ := bnd h
  obtain ⟨j49, j50⟩ := J51
  try dsimp only at h
  refine jn [10, 97, 124] [10] [(124, bV j50)] [(10, .arr 3 1 (j49.length) (eF cInt j49))] ?_ ?_
  replace h := hj52; clear hj52
  refine iw h (fun h => ?_) (fun h => ?_)
  refine pwp_skip ?_
  injection h with q0
  injection q0 with p1 q1
  subst p1
  subst q1
  exact fl
  refine sn hG [10, 97, 124] [10] [(124, bV (a3.Op == 9))] [] ?_
  obtain ⟨J56, hj57, h⟩ := bnd h
  obtain ⟨j54, j55⟩ := J56
  try dsimp only at h
  refine jn [10, 97, 124] [10] [(124, bV j55)] [(10, .arr 3 1 (j54.length) (eF cInt j54))] ?_ ?_
  replace h := hj57; clear hj57
  refine iw h (fun h => ?_) (fun h => ?_)
  refine pwp_skip ?_
  injection h with q0
  injection q0 with p1 q1
  subst p1
  subst q1
  exact fl
  refine sn hG [10, 97, 124] [10] [(124, bV (a3.Op == 10))] [] ?_
  obtain ⟨J61, hj62, h⟩ := bnd h
  obtain ⟨j59, j60⟩ := J61
  try dsimp only at h
  refine jn [10, 97, 124] [10] [(124, bV j60)] [(10, .arr 3 1 (j59.length) (eF cInt j59))] ?_ ?_
  replace h := hj62; clear hj62
  refine iw h (fun h => ?_) (fun h => ?_)
  refine pwp_skip ?_
  injection h with q0
  injection q0 with p1 q1
  subst p1
  subst q1
  exact fl
  refine sn hG [10, 97, 124] [10] [(124, bV (a3.Op == 11))] [] ?_
  obtain ⟨J66, hj67, h⟩ := bnd h
  obtain ⟨j64, j65⟩ := J66
  try dsimp only at h
  refine jn [10, 97, 124] [10] [(124, bV j65)] [(10, .arr 3 1 (j64.length) (eF cInt j64))] ?_ ?_
  replace h := hj67; clear hj67
  refine iw h (fun h => ?_) (fun h => ?_)
  refine pwp_skip ?_
  injection h with q0
  injection q0 with p1 q1
  subst p1
  subst q1
  exact fl
  refine rn hG [10, 97, 124] [10] [(124, bV (a3.Op == 12))] [] ?_
  injection h with q0
  injection q0 with p1 q1
  subst p1
  subst q1
  exact fl
  injection h with q0
  injection q0 with p1 q1
  subst p1
  subst q1
  exact fl
  injection h with q0
  injection q0 with p1 q1
  subst p1
  subst q1
  exact fl
  injection h with q0
  injection q0 with p1 q1
  subst p1
  subst q1
  exact fl
  refine then_n (iw h (fun h => ?_) (fun h => ?_))
  refine pwp_seq ?_
  obtain ⟨j69, hj71, h⟩ := bnd h
  refine jn [8, 9] [] [(8, iV 0), (9, bV j69)] [] ?_ ?_
  replace h := hj71; clear hj71
  obtain ⟨hc72, h⟩ := grd h
  obtain ⟨hc73, h⟩ := grd h
  refine (Bool.eq_false_or_eq_true ((j49.getD ((0 : Int)).toNat default) == 0)).elim (fun hb74 => ?_) (fun hb74 => ?_)
  have h := ite_t hb74 h
  obtain ⟨hc75, h⟩ := grd h
  obtain ⟨hc76, h⟩ := grd h
  refine ln hG [] [(4, ((j49.getD ((0 : Int)).toNat default) == 0, true))] [(1, [0 ≤ ((0 : Int)) ∧ ((0 : Int)) < (j49.length : Int)]), (2, [((0 : Int)).toNat < j49.length]), (6, [0 ≤ ((1 : Int)) ∧ ((1 : Int)) < (j49.length : Int)]), (7, [((1 : Int)).toNat < j49.length])] [(10, false, [])] [10, 97, 124] .nil (.cons hb74 .nil) (.cons hc72 (.cons hc73 (.cons hc75 (.cons hc76 .nil)))) [8, 9] [] [(8, iV 0), (9, bV ((j49.getD ((1 : Int)).toNat default) == 0))] [] ?_
  cases h
  exact fl
  have h := ite_f hb74 h
  refine ln hG [] [(4, ((j49.getD ((0 : Int)).toNat default) == 0, false))] [(1, [0 ≤ ((0 : Int)) ∧ ((0 : Int)) < (j49.length : Int)]), (2, [((0 : Int)).toNat < j49.length])] [(10, false, [])] [10, 97, 124] .nil (.cons hb74 .nil) (.cons hc72 (.cons hc73 .nil)) [8, 9] [] [(8, iV 0), (9, bV false)] [] ?_
  cases h
  exact fl
  refine then_n ?_
  cases h
  exact pwp_ret (blk_ret (then_ret rt))
  refine pwp_seq (sn hG [10, 97, 140] [10] [(140, bV (a3.Op == 13))] [] ?_)
  obtain ⟨J80, hj81, h⟩ := bnd h
  obtain ⟨j78, j79⟩ := J80
  try dsimp only at h
  refine jn [10, 97, 140] [10] [(140, bV j79)] [(10, .arr 3 1 (j78.length) (eF cInt j78))] ?_ ?_
  replace h := hj81; clear hj81
  refine iw h (fun h => ?_) (fun h => ?_)
  refine pwp_skip ?_
  injection h with q0
  injection q0 with p1 q1
  subst p1
  subst q1
  exact fl
  refine sn hG [10, 97, 140] [10] [(140, bV (a3.Op == 14))] [] ?_
  obtain ⟨J85, hj86, h⟩ := bnd h
  obtain ⟨j83, j84⟩ := J85
  try dsimp only at h
  refine jn [10, 97, 140] [10] [(140, bV j84)] [(10, .arr 3 1 (j83.length) (eF cInt j83))] ?_ ?_
  replace h := hj86; clear hj86
  refine iw h (fun h => ?_) (fun h => ?_)
  refine pwp_skip ?_
  injection h with q0
  injection q0 with p1 q1
  subst p1
  subst q1
  exact fl
  refine sn hG [10, 97, 140] [10] [(140, bV (a3.Op == 15))] [] ?_
  obtain ⟨J90, hj91, h⟩ := bnd h
  obtain ⟨j88, j89⟩ := J90
  try dsimp only at h
  refine jn [10, 97, 140] [10] [(140, bV j89)] [(10, .arr 3 1 (j88.length) (eF cInt j88))] ?_ ?_
  replace h := hj91; clear hj91
  refine iw h (fun h => ?_) (fun h => ?_)
  refine pwp_skip ?_
  injection h with q0
  injection q0 with p1 q1
  subst p1
  subst q1
  exact fl
  refine rn hG [10, 97, 140] [10] [(140, bV (a3.Op == 16))] [] ?_
  injection h with q0
  injection q0 with p1 q1
  subst p1
  subst q1
  exact fl
  injection h with q0
  injection q0 with p1 q1
  subst p1
  subst q1
  exact fl
  injection h with q0
  injection q0 with p1 q1
  subst p1
  subst q1
  exact fl
  refine then_n (iw h (fun h => ?_) (fun h => ?_))
  refine pwp_seq ?_
  obtain ⟨hc93, h⟩ := grd h
  obtain ⟨hc94, h⟩ := grd h
  obtain ⟨hc95, h⟩ := grd h
  obtain ⟨hc96, h⟩ := grd h
  refine ln hG [] [] [(1, [0 ≤ ((0 : Int)) ∧ ((0 : Int)) < (j78.length : Int)]), (2, [((0 : Int)).toNat < j78.length]), (4, [0 ≤ ((1 : Int)) ∧ ((1 : Int)) < (j78.length : Int)]), (5, [((1 : Int)).toNat < j78.length])] [(10, false, [])] [10, 97, 140] .nil .nil (.cons hc93 (.cons hc94 (.cons hc95 (.cons hc96 .nil)))) [8, 9] [] [(8, iV 2), (9, bV ((j78.getD ((0 : Int)).toNat default) == (j78.getD ((1 : Int)).toNat default)))] [] (then_n ?_)
  cases h
  exact pwp_ret (blk_ret (then_ret rt))
  refine pwp_seq (sn hG [10, 97, 152] [10] [(152, bV (a3.Op == 17))] [] ?_)
  obtain ⟨J100, hj101, h⟩ := bnd h
  obtain ⟨j98, j99⟩ := J100
  try dsimp only at h
  refine jn [10, 97, 152] [10] [(152, bV j99)] [(10, .arr 3 1 (j98.length) (eF cInt j98))] ?_ ?_
  replace h := hj101; clear hj101
  refine iw h (fun h => ?_) (fun h => ?_)
  refine pwp_skip ?_
  injection h with q0
  injection q0 with p1 q1
  subst p1
  subst q1
  exact fl
  refine rn hG [10, 97, 152] [10] [(152, bV (a3.Op == 18))] [] ?_
  injection h with q0
  injection q0 with p1 q1
  subst p1
  subst q1
  exact fl
  refine then_n (iw h (fun h => ?_) (fun h => ?_))
  refine pwp_seq ?_
  obtain ⟨j103, hj105, h⟩ := bnd h
  refine jn [8, 9] [] [(8, iV 2), (9, bV j103)] [] ?_ ?_
  replace h := hj105; clear hj105
  obtain ⟨hc106, h⟩ := grd h
  obtain ⟨hc107, h⟩ := grd h
  refine (Bool.eq_false_or_eq_true ((j98.getD ((0 : Int)).toNat default) == 2)).elim (fun hb108 => ?_) (fun hb108 => ?_)
  have h := ite_t hb108 h
  obtain ⟨hc109, h⟩ := grd h
  obtain ⟨hc110, h⟩ := grd h
  refine ln hG [] [(4, ((j98.getD ((0 : Int)).toNat default) == 2, true))] [(1, [0 ≤ ((0 : Int)) ∧ ((0 : Int)) < (j98.length : Int)]), (2, [((0 : Int)).toNat < j98.length]), (6, [0 ≤ ((1 : Int)) ∧ ((1 : Int)) < (j98.length : Int)]), (7, [((1 : Int)).toNat < j98.length])] [(10, false, [])] [10, 97, 152] .nil (.cons hb108 .nil) (.cons hc106 (.cons hc107 (.cons hc109 (.cons hc110 .nil)))) [8, 9] [] [(8, iV 2), (9, bV ((j98.getD ((1 : Int)).toNat default) == 2))] [] ?_
  cases h
  exact fl
  have h := ite_f hb108 h
  refine ln hG [] [(4, ((j98.getD ((0 : Int)).toNat default) == 2, false))] [(1, [0 ≤ ((0 : Int)) ∧ ((0 : Int)) < (j98.length : Int)]), (2, [((0 : Int)).toNat < j98.length])] [(10, false, [])] [10, 97, 152] .nil (.cons hb108 .nil) (.cons hc106 (.cons hc107 .nil)) [8, 9] [] [(8, iV 2), (9, bV false)] [] ?_
  cases h
  exact fl
  refine then_n ?_
  cases h
  exact pwp_ret (blk_ret (then_ret rt))
  refine sn hG [10, 165] [10] [(165, bV (a3.Op == 19))] [] (iw h (fun h => ?_) (fun h => ?_))
  refine pwp_seq ?_
  obtain ⟨j112, hj114, h⟩ := bnd h
  refine jn [8, 9] [] [(8, iV 1), (9, bV j112)] [] ?_ ?_
  replace h := hj114; clear hj114
  obtain ⟨hc115, h⟩ := grd h
  obtain ⟨hc116, h⟩ := grd h
  refine (Bool.eq_false_or_eq_true ((j98.getD ((0 : Int)).toNat default) == 1)).elim (fun hb117 => ?_) (fun hb117 => ?_)
  have h := ite_t hb117 h
  obtain ⟨hc118, h⟩ := grd h
  obtain ⟨hc119, h⟩ := grd h
  refine ln hG [] [(4, ((j98.getD ((0 : Int)).toNat default) == 1, true))] [(1, [0 ≤ ((0 : Int)) ∧ ((0 : Int)) < (j98.length : Int)]), (2, [((0 : Int)).toNat < j98.length]), (6, [0 ≤ ((1 : Int)) ∧ ((1 : Int)) < (j98.length : Int)]), (7, [((1 : Int)).toNat < j98.length])] [(10, false, [])] [10, 165] .nil (.cons hb117 .nil) (.cons hc115 (.cons hc116 (.cons hc118 (.cons hc119 .nil)))) [8, 9] [] [(8, iV 1), (9, bV ((j98.getD ((1 : Int)).toNat default) == 1))] [] ?_
  cases h
  exact fl
  have h := ite_f hb117 h
  refine ln hG [] [(4, ((j98.getD ((0 : Int)).toNat default) == 1, false))] [(1, [0 ≤ ((0 : Int)) ∧ ((0 : Int)) < (j98.length : Int)]), (2, [((0 : Int)).toNat < j98.length])] [(10, false, [])] [10, 165] .nil (.cons hb117 .nil) (.cons hc115 (.cons hc116 .nil)) [8, 9] [] [(8, iV 1), (9, bV false)] [] ?_
  cases h
  exact fl
  refine then_n ?_
  cases h
  exact pwp_ret (blk_ret (then_ret rt))
  refine pwp_skip (blk_n (then_n (pwp_seq ?_)))
  obtain ⟨j120, hj122, h⟩ := bnd h
  refine jn [8, 9] [] [(8, iV (j98.getD ((1 : Int)).toNat default)), (9, bV j120)] [] ?_ ?_
  replace h := hj122; clear hj122
  obtain ⟨hc123, h⟩ := grd h
  obtain ⟨hc124, h⟩ := grd h
  obtain ⟨hc125, h⟩ := grd h
  obtain ⟨hc126, h⟩ := grd h
  refine (Bool.eq_false_or_eq_true ((j98.getD ((0 : Int)).toNat default) == 2)).elim (fun hb127 => ?_) (fun hb127 => ?_)
  have h := ite_t hb127 h
  obtain ⟨hc128, h⟩ := grd h
  obtain ⟨hc129, h⟩ := grd h
  obtain ⟨hc130, h⟩ := grd h
  obtain ⟨hc131, h⟩ := grd h
  refine ln hG [] [(7, ((j98.getD ((0 : Int)).toNat default) == 2, true))] [(1, [0 ≤ ((1 : Int)) ∧ ((1 : Int)) < (j98.length : Int)]), (2, [((1 : Int)).toNat < j98.length]), (4, [0 ≤ ((0 : Int)) ∧ ((0 : Int)) < (j98.length : Int)]), (5, [((0 : Int)).toNat < j98.length]), (9, [0 ≤ ((1 : Int)) ∧ ((1 : Int)) < (j98.length : Int)]), (10, [((1 : Int)).toNat < j98.length]), (12, [0 ≤ ((2 : Int)) ∧ ((2 : Int)) < (j98.length : Int)]), (13, [((2 : Int)).toNat < j98.length])] [(10, false, [])] [10, 165] .nil (.cons hb127 .nil) (.cons hc123 (.cons hc124 (.cons hc125 (.cons hc126 (.cons hc128 (.cons hc129 (.cons hc130 (.cons hc131 .nil)))))))) [8, 9] [] [(8, iV (j98.getD ((1 : Int)).toNat default)), (9, bV ((j98.getD ((1 : Int)).toNat default) == (j98.getD ((2 : Int)).toNat default)))] [] ?_
  cases h
  exact fl
  have h := ite_f hb127 h
  refine ln hG [] [(7, ((j98.getD ((0 : Int)).toNat default) == 2, false))] [(1, [0 ≤ ((1 : Int)) ∧ ((1 : Int)) < (j98.length : Int)]), (2, [((1 : Int)).toNat < j98.length]), (4, [0 ≤ ((0 : Int)) ∧ ((0 : Int)) < (j98.length : Int)]), (5, [((0 : Int)).toNat < j98.length])] [(10, false, [])] [10, 165] .nil (.cons hb127 .nil) (.cons hc123 (.cons hc124 (.cons hc125 (.cons hc126 .nil)))) [8, 9] [] [(8, iV (j98.getD ((1 : Int)).toNat default)), (9, bV false)] [] ?_
  cases h
  exact fl
  refine then_n ?_
  cases h
  exact pwp_ret rt
  try dsimp only at h
  obtain ⟨rfl, hq⟩ := hq
  cases h
  exact ⟨_, Le.refl, blk_ret (then_ret (hq))⟩

def F78 (n : Nat) (a0 : List GFunc) (a1 : List Int) (a2 : List Int) (a3 : Expr) : Option (Int × Bool) := (F29 n a3).bind fun r1 => if (decide (r1 > 12)) = true then (some ((0, false))) else ((F87 n a0 a1 a2 a3).bind fun r4 => if (!r4.2) = true then (some ((0, false))) else (some ((r4.1, true))))
abbrev I78 : Inf := ⟨look tiL, [], 26⟩
set_option maxRecDepth 20000 in
theorem F78_ok (n : Nat) (a0 : List GFunc) (a1 : List Int) (a2 : List Int) (a3 : Expr) (y : Int × Bool) (h : F78 n a0 a1 a2 a3 = some y) : PCall Proofs.Try.prog 78 [.t (eL cGFunc (a0)), .t (eL cInt (a1)), .t (eL cInt (a2)), .t (eExpr a3)] [] [] (Ret (.tup [.t (.int .i64 (y.1)), .t (.bool (y.2))])) := by
  refine pcall_of (I := I78) Proofs.Try.func78 rfl ti_ok Proofs.Try.ntmps78 (le_n (by kernel_rfl)) (fun E hG => ?_)
  unfold F78 at h
  refine sn hG [0, 1, 2, 7] [7] [(7, .ptr 7 0)] [(7, .box ((exprCells (a3)).map .t))] (pwp_seq (pwp_seq (pwp_region (pn hG 1 [0, 1, 2, 7, 12] [7] [(12, .t (eExpr a3))] [] ?_))))
  obtain ⟨r1, hr2, h⟩ := bnd h
  refine ca hG [] rfl rfl rfl rfl callable29 (.cons (.same _) .nil) (F29_ok n _ _ hr2) (pn hG 1 [0, 1, 2, 7, 14] [7] [(14, bV (decide (r1 > 12)))] [] (pe (then_n (iw h (fun h => ?_) (fun h => ?_)))))
  refine sn hG [8, 9] [] [(8, iV 0), (9, bV false)] [] ?_
  cases h
  exact pwp_ret (then_ret rt)
  refine pwp_skip (then_n (pwp_seq (pwp_region (pn hG 4 [16, 17, 18, 19] [] [(16, .t (eL cGFunc (a0))), (17, .t (eL cInt (a1))), (18, .t (eL cInt (a2))), (19, .t (eExpr a3))] [] ?_))))
  obtain ⟨r4, hr5, h⟩ := bnd h
  refine ca hG [] rfl rfl rfl rfl callable87 (.cons (.same _) (.cons (.same _) (.cons (.same _) (.cons (.same _) .nil)))) (F87_ok n _ _ _ _ _ hr5) (pn hG 5 [10, 11] [] [(10, iV r4.1), (11, bV r4.2)] [] (pe (then_n (pwp_seq (sn hG [10, 24] [] [(24, bV (!r4.2))] [] (iw h (fun h => ?_) (fun h => ?_)))))))
  refine sn hG [8, 9] [] [(8, iV 0), (9, bV false)] [] ?_
  cases h
  exact pwp_ret (then_ret rt)
  refine pwp_skip (then_n (sn hG [8, 9] [] [(8, iV r4.1), (9, bV true)] [] ?_))
  cases h
  exact pwp_ret rt

def F55_L1 (n : Nat) (a0 : List GFunc) (v1 : Int) : Int → Option ((Int) ⊕ ((ByteArray × (List Int) × Int × Int × Int × ByteArray × (List Expr) × Int) ⊕ (Bool)))
  | v8 => if (decide (v8 < ((((a0.getD (v1).toNat default).Params).length : Int)))) = true then (if 0 ≤ v8 ∧ v8 < (((a0.getD (v1).toNat default).Params).length : Int) then ((F77 n (((a0.getD (v1).toNat default).Params).getD (v8).toNat default)).bind fun r19 => if (!r19) = true then (some (.inr (.inr (false)))) else (some (.inl (IntKind.i64.wrap (v8 + 1))))) else none) else (some (.inr (.inl (((a0.getD (v1).toNat default).Name, (a0.getD (v1).toNat default).Params, (a0.getD (v1).toNat default).Result, ((a0.getD (v1).toNat default).Body).Op, ((a0.getD (v1).toNat default).Body).N, ((a0.getD (v1).toNat default).Body).S, ((a0.getD (v1).toNat default).Body).Args, v1)))))
def F55_L0 (n : Nat) (a0 : List GFunc) : Int → Option ((Int) ⊕ ((Unit) ⊕ (Bool)))
  | v1 => Option.bind (if (decide (v1 < ((a0.length : Int)))) = true then (some (decide (v1 ≤ 20))) else (some (false)) : Option (Bool)) fun j2 => if (j2) = true then (if 0 ≤ v1 ∧ v1 < (a0.length : Int) then (Option.bind (iterM (F55_L1 n a0 v1) n (0)) fun R22 => match R22 with | .inl ((b9, b10, b11, b12, b13, b14, b15, b16)) => (if 0 ≤ ((0 : Int)) ∧ ((0 : Int)) ≤ b16 ∧ b16 ≤ (a0.length : Int) then ((F78 n ((a0.drop ((0 : Int)).toNat).take (b16 - ((0 : Int))).toNat) (([] : List Int)) b10 ((Expr.mk b12 b13 b14 b15))).bind fun r25 => Option.bind (if (!r25.2) = true then (some (true)) else (if (r25.1 != b11) = true then (some (true)) else (some (decide (((b10.length : Int)) > 6)))) : Option (Bool)) fun j27 => if (j27) = true then (some (.inr (.inr (false)))) else (some (.inl (IntKind.i64.wrap (b16 + 1))))) else none) | .inr (y33) => (some (.inr (.inr (y33))))) else none) else (some (.inr (.inl (()))))
def F55 (n : Nat) (a0 : List GFunc) : Option (Bool) := Option.bind (iterM (F55_L0 n a0) n (0)) fun R34 => match R34 with | .inl (_) => (some (decide (((a0.length : Int)) ≤ 20))) | .inr (y36) => (some (y36))
abbrev I55 : Inf := ⟨look tiL, [], 64⟩
set_option maxRecDepth 20000 in
theorem F55_ok (n : Nat) (a0 : List GFunc) (y : Bool) (h : F55 n a0 = some y) : PCall Proofs.Try.prog 55 [.t (eL cGFunc (a0))] [] [] (Ret (.t (.bool (y)))) := by
  refine pcall_of (I := I55) Proofs.Try.func55 rfl ti_ok Proofs.Try.ntmps55 (le_n (by kernel_rfl)) (fun E hG => ?_)
  unfold F55 at h
  refine sn hG [0] [] [] [] (pwp_seq (sn hG [0, 3] [] [(3, iV 0)] [] ?_))
  obtain ⟨R34, hR35, h⟩ := bnd h
  refine lp (F55_L0 n a0) (fun (v1 : Int) => (⟨[(0, .t (eL cGFunc (a0))), (3, iV v1)], []⟩ : St)) (fun (r : (Unit) ⊕ (Bool)) (e : Exit) (s : St) => match r with | .inl (x0) => e = .exit 0 ∧ Le E s ((fun (_ : Unit) => (⟨[(0, .t (eL cGFunc (a0)))], []⟩ : St)) x0) | .inr (y0) => e = .ret ∧ finQ I55 Proofs.Try.f55.results.toList (Ret (bV y0)) .ret s) ?_ n (0) R34 hR35 ?_
  intro v1 x h
  rw [F55_L0] at h
  refine pwp_seq (pwp_seq ?_)
  obtain ⟨j2, hj4, h⟩ := bnd h
  refine jn [0, 3, 15] [] [(15, bV j2)] [] ?_ ?_
  replace h := hj4; clear hj4
  refine pwp_region (pn hG 5 [0, 3, 12] [] [(12, bV (decide (v1 < ((a0.length : Int)))))] [] (io 12 h (fun h => ?_) (fun h => ?_)))
  refine pn hG 3 [0, 3, 15] [] [(15, bV (decide (v1 ≤ 20)))] [] ?_
  cases h
  exact pe fl
  refine pn hG 3 [0, 3, 15] [] [(15, bV false)] [] ?_
  cases h
  exact pe fl
  refine then_n (iw h (fun h => ?_) (fun h => ?_))
  refine pwp_skip (then_n (pwp_seq (pwp_block (pwp_seq (pwp_region ?_)))))
  obtain ⟨hc7, h⟩ := grd h
  refine pc hG 6 [0, 3, 4] [4] [(4, .ptr 4 0)] [(4, .box ((cGFunc (a0.getD (v1).toNat default)).map .t))] hc7 (pe (then_n (pwp_seq (sn hG [0, 3, 4, 5] [4] [(5, iV 0)] [] ?_))))
  obtain ⟨R22, hR23, h⟩ := bnd h
  refine lp (F55_L1 n a0 v1) (fun (v8 : Int) => (⟨[(0, .t (eL cGFunc (a0))), (3, iV v1), (4, .ptr 4 0), (5, iV v8)], [(4, .box ((cGFunc (a0.getD (v1).toNat default)).map .t))]⟩ : St)) (fun (r : (ByteArray × (List Int) × Int × Int × Int × ByteArray × (List Expr) × Int) ⊕ (Bool)) (e : Exit) (s : St) => match r with | .inl (x0) => e = .exit 2 ∧ Le E s ((fun (s : ByteArray × (List Int) × Int × Int × Int × ByteArray × (List Expr) × Int) => match s with | (b9, b10, b11, b12, b13, b14, b15, b16) => (⟨[(0, .t (eL cGFunc (a0))), (3, iV b16), (4, .ptr 4 0)], [(4, .box [.t (.str (b9)), .t (eL cInt (b10)), iV b11, iV b12, iV b13, .t (.str (b14)), .t (.lz (.exprs (b15)))])]⟩ : St)) x0) | .inr (y0) => e = .ret ∧ finQ I55 Proofs.Try.f55.results.toList (Ret (bV y0)) .ret s) ?_ n (0) R22 hR23 ?_
  intro v8 x h
  rw [F55_L1] at h
  refine pwp_seq (sn hG [0, 3, 4, 5, 26] [4] [(26, bV (decide (v8 < ((((a0.getD (v1).toNat default).Params).length : Int)))))] [] (iw h (fun h => ?_) (fun h => ?_)))
  refine pwp_skip (then_n (pwp_seq (pwp_block (pwp_seq (pwp_region ?_)))))
  obtain ⟨hc18, h⟩ := grd h
  refine pc hG 5 [0, 3, 4, 5, 33] [4] [(33, iV (((a0.getD (v1).toNat default).Params).getD (v8).toNat default))] [] hc18 ?_
  obtain ⟨r19, hr20, h⟩ := bnd h
  refine ca hG [] rfl rfl rfl rfl callable77 (.cons (.same _) .nil) (F77_ok n _ _ hr20) (pn hG 1 [0, 3, 4, 5, 35] [4] [(35, bV (!r19))] [] (pe (then_n (iw h (fun h => ?_) (fun h => ?_)))))
  refine sn hG [2] [] [(2, bV false)] [] ?_
  cases h
  exact pwp_ret (blk_ret (then_ret (round_out (by simp) (And.intro rfl rt))))
  refine pwp_skip (blk_n (then_n (rn hG [0, 3, 4, 5] [4] [(5, iV (IntKind.i64.wrap (v8 + 1)))] [] ?_)))
  cases h
  exact round_in lk
  cases h
  exact pwp_exit (then_exit (round_out (by simp) (And.intro rfl lk)))
  intro e s hq
  rcases R22 with ⟨b9, b10, b11, b12, b13, b14, b15, b16⟩ | y33
  try dsimp only at h
  obtain ⟨rfl, hle⟩ := hq
  refine ⟨_, hle, blk_hit ?_⟩
  refine then_n (pwp_seq ?_)
  obtain ⟨hc24, h⟩ := grd h
  obtain ⟨r25, hr26, h⟩ := bnd h
  refine ln hG [(7, 78, [.t (.sl (b16 - ((0 : Int))).toNat (fun k => eF cGFunc a0 (((0 : Int)).toNat + k))), .nil, .t (eL cInt (b10)), .t (eExpr ((Expr.mk b12 b13 b14 b15)))], .tup [iV r25.1, bV r25.2])] [] [(2, [0 ≤ ((0 : Int)) ∧ ((0 : Int)) ≤ b16 ∧ b16 ≤ (a0.length : Int)])] [(4, false, [])] [0, 3, 4] (.cons ⟨callable78, ⟨_, fun _ => (.cons (.imp (le_slice (by assumption) rfl)) (.cons (.nil rfl) (.cons (.same _) (.cons (.same _) .nil)))), F78_ok n _ _ _ _ _ hr26⟩, rfl⟩ .nil) .nil (.cons hc24 .nil) [0, 3, 4, 6, 7] [4] [(6, iV r25.1), (7, bV r25.2)] [] (then_n (pwp_seq ?_))
  obtain ⟨j27, hj29, h⟩ := bnd h
  refine jn [0, 3, 60] [] [(60, bV j27)] [] ?_ ?_
  replace h := hj29; clear hj29
  refine pwp_region (pn hG 3 [0, 3, 4, 6, 49] [4] [(49, bV (!r25.2))] [] (io 49 h (fun h => ?_) (fun h => ?_)))
  refine pn hG 11 [0, 3, 60] [] [(60, bV true)] [] ?_
  cases h
  exact pe fl
  refine pn hG 6 [0, 3, 4, 55] [4] [(55, bV (r25.1 != b11))] [] (io 55 h (fun h => ?_) (fun h => ?_))
  refine pn hG 5 [0, 3, 60] [] [(60, bV true)] [] ?_
  cases h
  exact pe fl
  refine pn hG 5 [0, 3, 60] [] [(60, bV (decide (((b10.length : Int)) > 6)))] [] ?_
  cases h
  exact pe fl
  refine then_n (iw h (fun h => ?_) (fun h => ?_))
  refine sn hG [2] [] [(2, bV false)] [] ?_
  cases h
  exact pwp_ret (blk_ret (then_ret (round_out (by simp) (And.intro rfl rt))))
  refine pwp_skip (blk_n (then_n (rn hG [0, 3] [] [(3, iV (IntKind.i64.wrap (b16 + 1)))] [] ?_)))
  cases h
  exact round_in lk
  try dsimp only at h
  obtain ⟨rfl, hq⟩ := hq
  cases h
  exact ⟨_, Le.refl, blk_ret (then_ret (blk_ret (then_ret (round_out (by simp) (And.intro rfl (hq))))))⟩
  cases h
  exact pwp_exit (then_exit (round_out (by simp) (And.intro rfl lk)))
  intro e s hq
  rcases R34 with _ | y36
  try dsimp only at h
  obtain ⟨rfl, hle⟩ := hq
  refine ⟨_, hle, blk_hit ?_⟩
  refine then_n (sn hG [2] [] [(2, bV (decide (((a0.length : Int)) ≤ 20)))] [] ?_)
  cases h
  exact pwp_ret rt
  try dsimp only at h
  obtain ⟨rfl, hq⟩ := hq
  cases h
  exact ⟨_, Le.refl, blk_ret (then_ret (hq))⟩

def F56 (n : Nat) (a0 : Int) : Option (Int) := if (a0 == 0) = true then (some (0)) else (Option.bind (if (a0 == 3) = true then (some (true)) else (if (a0 == 6) = true then (some (true)) else (some (a0 == 7))) : Option (Bool)) fun j2 => if (j2) = true then (some (2)) else (some (1)))
abbrev I56 : Inf := ⟨look tiL, [], 15⟩
set_option maxRecDepth 20000 in
theorem F56_ok (n : Nat) (a0 : Int) (y : Int) (h : F56 n a0 = some y) : PCall Proofs.Try.prog 56 [.t (.int .i64 (a0))] [] [] (Ret (.t (.int .i64 (y)))) := by
  refine pcall_of (I := I56) Proofs.Try.func56 rfl ti_ok Proofs.Try.ntmps56 (le_n (by kernel_rfl)) (fun E hG => ?_)
  unfold F56 at h
  refine sn hG [0] [] [] [] (pwp_seq (sn hG [0, 4] [] [(4, bV (a0 == 0))] [] (iw h (fun h => ?_) (fun h => ?_))))
  refine sn hG [2] [] [(2, iV 0)] [] ?_
  cases h
  exact pwp_ret (then_ret rt)
  refine pwp_skip (then_n (pwp_seq (pwp_seq ?_)))
  obtain ⟨j2, hj4, h⟩ := bnd h
  refine jn [14] [] [(14, bV j2)] [] ?_ ?_
  replace h := hj4; clear hj4
  refine pwp_region (pn hG 3 [0, 7] [] [(7, bV (a0 == 3))] [] (io 7 h (fun h => ?_) (fun h => ?_)))
  refine pn hG 7 [14] [] [(14, bV true)] [] ?_
  cases h
  exact pe fl
  refine pn hG 4 [0, 11] [] [(11, bV (a0 == 6))] [] (io 11 h (fun h => ?_) (fun h => ?_))
  refine pn hG 3 [14] [] [(14, bV true)] [] ?_
  cases h
  exact pe fl
  refine pn hG 3 [14] [] [(14, bV (a0 == 7))] [] ?_
  cases h
  exact pe fl
  refine then_n (iw h (fun h => ?_) (fun h => ?_))
  refine sn hG [2] [] [(2, iV 2)] [] ?_
  cases h
  exact pwp_ret (then_ret rt)
  refine pwp_skip (then_n (sn hG [2] [] [(2, iV 1)] [] ?_))
  cases h
  exact pwp_ret rt

def F57 (n : Nat) (a0 : GNode) : Option (Bool) := Option.bind (if (a0.Op == 4) = true then (some (true)) else (if (a0.Op == 5) = true then (some (true)) else (if (a0.Op == 6) = true then (some (true)) else (if (a0.Op == 7) = true then (some (true)) else (some (a0.Op == 8))))) : Option (Bool)) fun j1 => Option.bind (if (a0.Op == 6) = true then (some (true)) else (some (a0.Op == 7)) : Option (Bool)) fun j8 => Option.bind (if (a0.Op == 4) = true then (some (true)) else (if (a0.Op == 5) = true then (some (true)) else (some (a0.Op == 8))) : Option (Bool)) fun j12 => Option.bind (if (a0.Op == 5) = true then (some (true)) else (if (a0.Op == 4) = true then (some (a0.Kind != 0)) else (some (false))) : Option (Bool)) fun j17 => Option.bind (if (a0.Op != 0) = true then (if (!((a0.Source : ByteArray).toList == (⟨#[]⟩ : ByteArray).toList)) = true then (some (true)) else (some (a0.Schema != 0))) else (some (false)) : Option (Bool)) fun j22 => if (j22) = true then (some (false)) else (Option.bind (if (a0.Op != 1) = true then (if (a0.Op != 2) = true then (if (decide (((a0.Exprs.length : Int)) > 0)) = true then (some (true)) else (if (a0.Op != 4) = true then (if (a0.Kind != 0) = true then (some (true)) else (some (decide (((a0.Aggs.length : Int)) > 0)))) else (some (false)))) else (if (a0.Op != 4) = true then (if (a0.Kind != 0) = true then (some (true)) else (some (decide (((a0.Aggs.length : Int)) > 0)))) else (some (false)))) else (if (a0.Op != 4) = true then (if (a0.Kind != 0) = true then (some (true)) else (some (decide (((a0.Aggs.length : Int)) > 0)))) else (some (false))) : Option (Bool)) fun j28 => if (j28) = true then (some (false)) else (Option.bind (if (!j1) = true then (if (decide (((a0.Key.length : Int)) > 0)) = true then (some (true)) else (if (!j8) = true then (if (decide (((a0.Key2.length : Int)) > 0)) = true then (some (true)) else (if (!j12) = true then (if (a0.Size != 0) = true then (some (true)) else (if (!j17) = true then (some (a0.Step != 0)) else (some (false)))) else (if (!j17) = true then (some (a0.Step != 0)) else (some (false))))) else (if (!j12) = true then (if (a0.Size != 0) = true then (some (true)) else (if (!j17) = true then (some (a0.Step != 0)) else (some (false)))) else (if (!j17) = true then (some (a0.Step != 0)) else (some (false)))))) else (if (!j8) = true then (if (decide (((a0.Key2.length : Int)) > 0)) = true then (some (true)) else (if (!j12) = true then (if (a0.Size != 0) = true then (some (true)) else (if (!j17) = true then (some (a0.Step != 0)) else (some (false)))) else (if (!j17) = true then (some (a0.Step != 0)) else (some (false))))) else (if (!j12) = true then (if (a0.Size != 0) = true then (some (true)) else (if (!j17) = true then (some (a0.Step != 0)) else (some (false)))) else (if (!j17) = true then (some (a0.Step != 0)) else (some (false))))) : Option (Bool)) fun j41 => if (j41) = true then (some (false)) else (Option.bind (if (a0.Op != 6) = true then (if (a0.Before != 0) = true then (some (true)) else (if (a0.After != 0) = true then (some (true)) else (if (a0.Op != 5) = true then (if (a0.Op != 7) = true then (some (a0.Keep != 0)) else (some (false))) else (some (false))))) else (if (a0.Op != 5) = true then (if (a0.Op != 7) = true then (some (a0.Keep != 0)) else (some (false))) else (some (false))) : Option (Bool)) fun j67 => if (j67) = true then (some (false)) else (Option.bind (if (a0.Op == 8) = true then (some (true)) else (some (((a0.Seq.length : Int)) == 0)) : Option (Bool)) fun j78 => some (j78)))))
abbrev I57 : Inf := ⟨look tiL, [], 163⟩
set_option maxRecDepth 20000 in
theorem F57_ok (n : Nat) (a0 : GNode) (y : Bool) (h : F57 n a0 = some y) : PCall Proofs.Try.prog 57 [.t (eGNode a0)] [] [] (Ret (.t (.bool (y)))) := by
  refine pcall_of (I := I57) Proofs.Try.func57 rfl ti_ok Proofs.Try.ntmps57 (le_n (by kernel_rfl)) (fun E hG => ?_)
  unfold F57 at h
  refine sn hG [1] [1] [(1, .ptr 1 0)] [(1, .box ((cGNode (a0)).map .t))] (sn hG [1, 3] [1] [(3, iV a0.Op)] [] (pwp_seq ?_))
  obtain ⟨j1, hj3, h⟩ := bnd h
  refine jn [1, 3, 4] [1] [(4, bV j1)] [] ?_ ?_
  replace h := hj3; clear hj3
  refine pwp_region (pn hG 3 [1, 3, 12] [1] [(12, bV (a0.Op == 4))] [] (io 12 h (fun h => ?_) (fun h => ?_)))
  refine pn hG 16 [1, 3, 4] [1] [(4, bV true)] [] ?_
  cases h
  exact pe fl
  refine pn hG 4 [1, 3, 16] [1] [(16, bV (a0.Op == 5))] [] (io 16 h (fun h => ?_) (fun h => ?_))
  refine pn hG 12 [1, 3, 4] [1] [(4, bV true)] [] ?_
  cases h
  exact pe fl
  refine pn hG 4 [1, 3, 20] [1] [(20, bV (a0.Op == 6))] [] (io 20 h (fun h => ?_) (fun h => ?_))
  refine pn hG 8 [1, 3, 4] [1] [(4, bV true)] [] ?_
  cases h
  exact pe fl
  refine pn hG 4 [1, 3, 24] [1] [(24, bV (a0.Op == 7))] [] (io 24 h (fun h => ?_) (fun h => ?_))
  refine pn hG 4 [1, 3, 4] [1] [(4, bV true)] [] ?_
  cases h
  exact pe fl
  refine pn hG 4 [1, 3, 4] [1] [(4, bV (a0.Op == 8))] [] ?_
  cases h
  exact pe fl
  refine then_n (pwp_seq ?_)
  obtain ⟨j8, hj10, h⟩ := bnd h
  refine jn [1, 3, 4, 5] [1] [(5, bV j8)] [] ?_ ?_
  replace h := hj10; clear hj10
  refine pwp_region (pn hG 3 [1, 3, 4, 30] [1] [(30, bV (a0.Op == 6))] [] (io 30 h (fun h => ?_) (fun h => ?_)))
  refine pn hG 4 [1, 3, 4, 5] [1] [(5, bV true)] [] ?_
  cases h
  exact pe fl
  refine pn hG 4 [1, 3, 4, 5] [1] [(5, bV (a0.Op == 7))] [] ?_
  cases h
  exact pe fl
  refine then_n (pwp_seq ?_)
  obtain ⟨j12, hj14, h⟩ := bnd h
  refine jn [1, 3, 4, 5, 6] [1] [(6, bV j12)] [] ?_ ?_
  replace h := hj14; clear hj14
  refine pwp_region (pn hG 3 [1, 3, 4, 5, 36] [1] [(36, bV (a0.Op == 4))] [] (io 36 h (fun h => ?_) (fun h => ?_)))
  refine pn hG 8 [1, 3, 4, 5, 6] [1] [(6, bV true)] [] ?_
  cases h
  exact pe fl
  refine pn hG 4 [1, 3, 4, 5, 40] [1] [(40, bV (a0.Op == 5))] [] (io 40 h (fun h => ?_) (fun h => ?_))
  refine pn hG 4 [1, 3, 4, 5, 6] [1] [(6, bV true)] [] ?_
  cases h
  exact pe fl
  refine pn hG 4 [1, 3, 4, 5, 6] [1] [(6, bV (a0.Op == 8))] [] ?_
  cases h
  exact pe fl
  refine then_n (pwp_seq ?_)
  obtain ⟨j17, hj19, h⟩ := bnd h
  refine jn [1, 3, 4, 5, 6, 7] [1] [(7, bV j17)] [] ?_ ?_
  replace h := hj19; clear hj19
  refine pwp_region (pn hG 3 [1, 3, 4, 5, 6, 46] [1] [(46, bV (a0.Op == 5))] [] (io 46 h (fun h => ?_) (fun h => ?_)))
  refine pn hG 9 [1, 3, 4, 5, 6, 7] [1] [(7, bV true)] [] ?_
  cases h
  exact pe fl
  refine pn hG 3 [1, 3, 4, 5, 6, 46, 49] [1] [(49, bV (a0.Op == 4))] [] (io 49 h (fun h => ?_) (fun h => ?_))
  refine pn hG 6 [1, 3, 4, 5, 6, 7] [1] [(7, bV (a0.Kind != 0))] [] ?_
  cases h
  exact pe fl
  refine pn hG 6 [1, 3, 4, 5, 6, 7] [1] [(7, bV false)] [] ?_
  cases h
  exact pe fl
  refine then_n (pwp_seq (pwp_seq ?_))
  obtain ⟨j22, hj24, h⟩ := bnd h
  refine jn [1, 3, 4, 5, 6, 7, 66] [1] [(66, bV j22)] [] ?_ ?_
  replace h := hj24; clear hj24
  refine pwp_region (pn hG 3 [1, 3, 4, 5, 6, 7, 57] [1] [(57, bV (a0.Op != 0))] [] (io 57 h (fun h => ?_) (fun h => ?_)))
  refine pn hG 4 [1, 3, 4, 5, 6, 7, 57, 61] [1] [(61, bV (!((a0.Source : ByteArray).toList == (⟨#[]⟩ : ByteArray).toList)))] [] (io 61 h (fun h => ?_) (fun h => ?_))
  refine pn hG 5 [1, 3, 4, 5, 6, 7, 66] [1] [(66, bV true)] [] ?_
  cases h
  exact pe fl
  refine pn hG 5 [1, 3, 4, 5, 6, 7, 66] [1] [(66, bV (a0.Schema != 0))] [] ?_
  cases h
  exact pe fl
  refine pn hG 9 [1, 3, 4, 5, 6, 7, 66] [1] [(66, bV false)] [] ?_
  cases h
  exact pe fl
  refine then_n (iw h (fun h => ?_) (fun h => ?_))
  refine sn hG [2] [] [(2, bV false)] [] ?_
  cases h
  exact pwp_ret (then_ret rt)
  refine pwp_skip (then_n (pwp_seq (pwp_seq ?_)))
  obtain ⟨j28, hj30, h⟩ := bnd h
  refine jn [1, 3, 4, 5, 6, 7, 93] [1] [(93, bV j28)] [] ?_ ?_
  replace h := hj30; clear hj30
  refine pwp_region (pn hG 3 [1, 3, 4, 5, 6, 7, 69] [1] [(69, bV (a0.Op != 1))] [] (io 69 h (fun h => ?_) (fun h => ?_)))
  refine pn hG 4 [1, 3, 4, 5, 6, 7, 73] [1] [(73, bV (a0.Op != 2))] [] (io 73 h (fun h => ?_) (fun h => ?_))
  refine pn hG 6 [1, 3, 4, 5, 6, 7, 79] [1] [(79, bV (decide (((a0.Exprs.length : Int)) > 0)))] [] (io 79 h (fun h => ?_) (fun h => ?_))
  refine pn hG 14 [1, 3, 4, 5, 6, 7, 93] [1] [(93, bV true)] [] ?_
  cases h
  exact pe fl
  refine pn hG 3 [1, 3, 4, 5, 6, 7, 79, 82] [1] [(82, bV (a0.Op != 4))] [] (io 82 h (fun h => ?_) (fun h => ?_))
  refine pn hG 4 [1, 3, 4, 5, 6, 7, 79, 82, 86] [1] [(86, bV (a0.Kind != 0))] [] (io 86 h (fun h => ?_) (fun h => ?_))
  refine pn hG 7 [1, 3, 4, 5, 6, 7, 93] [1] [(93, bV true)] [] ?_
  cases h
  exact pe fl
  refine pn hG 7 [1, 3, 4, 5, 6, 7, 93] [1] [(93, bV (decide (((a0.Aggs.length : Int)) > 0)))] [] ?_
  cases h
  exact pe fl
  refine pn hG 11 [1, 3, 4, 5, 6, 7, 93] [1] [(93, bV false)] [] ?_
  cases h
  exact pe fl
  refine pn hG 9 [1, 3, 4, 5, 6, 7, 79, 82] [1] [(79, bV false), (82, bV (a0.Op != 4))] [] (io 82 h (fun h => ?_) (fun h => ?_))
  refine pn hG 4 [1, 3, 4, 5, 6, 7, 79, 82, 86] [1] [(86, bV (a0.Kind != 0))] [] (io 86 h (fun h => ?_) (fun h => ?_))
  refine pn hG 7 [1, 3, 4, 5, 6, 7, 93] [1] [(93, bV true)] [] ?_
  cases h
  exact pe fl
  refine pn hG 7 [1, 3, 4, 5, 6, 7, 93] [1] [(93, bV (decide (((a0.Aggs.length : Int)) > 0)))] [] ?_
  cases h
  exact pe fl
  refine pn hG 11 [1, 3, 4, 5, 6, 7, 93] [1] [(93, bV false)] [] ?_
  cases h
  exact pe fl
  refine pn hG 13 [1, 3, 4, 5, 6, 7, 79, 82] [1] [(79, bV false), (82, bV (a0.Op != 4))] [] (io 82 h (fun h => ?_) (fun h => ?_))
  refine pn hG 4 [1, 3, 4, 5, 6, 7, 79, 82, 86] [1] [(86, bV (a0.Kind != 0))] [] (io 86 h (fun h => ?_) (fun h => ?_))
  refine pn hG 7 [1, 3, 4, 5, 6, 7, 93] [1] [(93, bV true)] [] ?_
  cases h
  exact pe fl
  refine pn hG 7 [1, 3, 4, 5, 6, 7, 93] [1] [(93, bV (decide (((a0.Aggs.length : Int)) > 0)))] [] ?_
  cases h
  exact pe fl
  refine pn hG 11 [1, 3, 4, 5, 6, 7, 93] [1] [(93, bV false)] [] ?_
  cases h
  exact pe fl
  refine then_n (iw h (fun h => ?_) (fun h => ?_))
  refine sn hG [2] [] [(2, bV false)] [] ?_
  cases h
  exact pwp_ret (then_ret rt)
  refine pwp_skip (then_n (pwp_seq (pwp_seq ?_)))
  obtain ⟨j41, hj43, h⟩ := bnd h
  refine jn [1, 3, 129] [1] [(129, bV j41)] [] ?_ ?_
  replace h := hj43; clear hj43
  refine pwp_region (pn hG 3 [1, 3, 5, 6, 7, 96] [1] [(96, bV (!j1))] [] (io 96 h (fun h => ?_) (fun h => ?_)))
  refine pn hG 6 [1, 3, 5, 6, 7, 102] [1] [(102, bV (decide (((a0.Key.length : Int)) > 0)))] [] (io 102 h (fun h => ?_) (fun h => ?_))
  refine pn hG 27 [1, 3, 129] [1] [(129, bV true)] [] ?_
  cases h
  exact pe fl
  refine pn hG 3 [1, 3, 6, 7, 102, 105] [1] [(105, bV (!j8))] [] (io 105 h (fun h => ?_) (fun h => ?_))
  refine pn hG 7 [1, 3, 6, 7, 112] [1] [(112, bV (decide (((a0.Key2.length : Int)) > 0)))] [] (io 112 h (fun h => ?_) (fun h => ?_))
  refine pn hG 17 [1, 3, 129] [1] [(129, bV true)] [] ?_
  cases h
  exact pe fl
  refine pn hG 3 [1, 3, 7, 112, 115] [1] [(115, bV (!j12))] [] (io 115 h (fun h => ?_) (fun h => ?_))
  refine pn hG 6 [1, 3, 7, 121] [1] [(121, bV (a0.Size != 0))] [] (io 121 h (fun h => ?_) (fun h => ?_))
  refine pn hG 8 [1, 3, 129] [1] [(129, bV true)] [] ?_
  cases h
  exact pe fl
  refine pn hG 3 [1, 3, 121, 124] [1] [(124, bV (!j17))] [] (io 124 h (fun h => ?_) (fun h => ?_))
  refine pn hG 5 [1, 3, 129] [1] [(129, bV (a0.Step != 0))] [] ?_
  cases h
  exact pe fl
  refine pn hG 5 [1, 3, 129] [1] [(129, bV false)] [] ?_
  cases h
  exact pe fl
  refine pn hG 9 [1, 3, 121, 124] [1] [(121, bV false), (124, bV (!j17))] [] (io 124 h (fun h => ?_) (fun h => ?_))
  refine pn hG 5 [1, 3, 129] [1] [(129, bV (a0.Step != 0))] [] ?_
  cases h
  exact pe fl
  refine pn hG 5 [1, 3, 129] [1] [(129, bV false)] [] ?_
  cases h
  exact pe fl
  refine pn hG 10 [1, 3, 7, 112, 115] [1] [(112, bV false), (115, bV (!j12))] [] (io 115 h (fun h => ?_) (fun h => ?_))
  refine pn hG 6 [1, 3, 7, 121] [1] [(121, bV (a0.Size != 0))] [] (io 121 h (fun h => ?_) (fun h => ?_))
  refine pn hG 8 [1, 3, 129] [1] [(129, bV true)] [] ?_
  cases h
  exact pe fl
  refine pn hG 3 [1, 3, 121, 124] [1] [(124, bV (!j17))] [] (io 124 h (fun h => ?_) (fun h => ?_))
  refine pn hG 5 [1, 3, 129] [1] [(129, bV (a0.Step != 0))] [] ?_
  cases h
  exact pe fl
  refine pn hG 5 [1, 3, 129] [1] [(129, bV false)] [] ?_
  cases h
  exact pe fl
  refine pn hG 9 [1, 3, 121, 124] [1] [(121, bV false), (124, bV (!j17))] [] (io 124 h (fun h => ?_) (fun h => ?_))
  refine pn hG 5 [1, 3, 129] [1] [(129, bV (a0.Step != 0))] [] ?_
  cases h
  exact pe fl
  refine pn hG 5 [1, 3, 129] [1] [(129, bV false)] [] ?_
  cases h
  exact pe fl
  refine pn hG 9 [1, 3, 6, 7, 102, 105] [1] [(102, bV false), (105, bV (!j8))] [] (io 105 h (fun h => ?_) (fun h => ?_))
  refine pn hG 7 [1, 3, 6, 7, 112] [1] [(112, bV (decide (((a0.Key2.length : Int)) > 0)))] [] (io 112 h (fun h => ?_) (fun h => ?_))
  refine pn hG 17 [1, 3, 129] [1] [(129, bV true)] [] ?_
  cases h
  exact pe fl
  refine pn hG 3 [1, 3, 7, 112, 115] [1] [(115, bV (!j12))] [] (io 115 h (fun h => ?_) (fun h => ?_))
  refine pn hG 6 [1, 3, 7, 121] [1] [(121, bV (a0.Size != 0))] [] (io 121 h (fun h => ?_) (fun h => ?_))
  refine pn hG 8 [1, 3, 129] [1] [(129, bV true)] [] ?_
  cases h
  exact pe fl
  refine pn hG 3 [1, 3, 121, 124] [1] [(124, bV (!j17))] [] (io 124 h (fun h => ?_) (fun h => ?_))
  refine pn hG 5 [1, 3, 129] [1] [(129, bV (a0.Step != 0))] [] ?_
  cases h
  exact pe fl
  refine pn hG 5 [1, 3, 129] [1] [(129, bV false)] [] ?_
  cases h
  exact pe fl
  refine pn hG 9 [1, 3, 121, 124] [1] [(121, bV false), (124, bV (!j17))] [] (io 124 h (fun h => ?_) (fun h => ?_))
  refine pn hG 5 [1, 3, 129] [1] [(129, bV (a0.Step != 0))] [] ?_
  cases h
  exact pe fl
  refine pn hG 5 [1, 3, 129] [1] [(129, bV false)] [] ?_
  cases h
  exact pe fl
  refine pn hG 10 [1, 3, 7, 112, 115] [1] [(112, bV false), (115, bV (!j12))] [] (io 115 h (fun h => ?_) (fun h => ?_))
  refine pn hG 6 [1, 3, 7, 121] [1] [(121, bV (a0.Size != 0))] [] (io 121 h (fun h => ?_) (fun h => ?_))
  refine pn hG 8 [1, 3, 129] [1] [(129, bV true)] [] ?_
  cases h
  exact pe fl
  refine pn hG 3 [1, 3, 121, 124] [1] [(124, bV (!j17))] [] (io 124 h (fun h => ?_) (fun h => ?_))
  refine pn hG 5 [1, 3, 129] [1] [(129, bV (a0.Step != 0))] [] ?_
  cases h
  exact pe fl
  refine pn hG 5 [1, 3, 129] [1] [(129, bV false)] [] ?_
  cases h
  exact pe fl
  refine pn hG 9 [1, 3, 121, 124] [1] [(121, bV false), (124, bV (!j17))] [] (io 124 h (fun h => ?_) (fun h => ?_))
  refine pn hG 5 [1, 3, 129] [1] [(129, bV (a0.Step != 0))] [] ?_
  cases h
  exact pe fl
  refine pn hG 5 [1, 3, 129] [1] [(129, bV false)] [] ?_
  cases h
  exact pe fl
  refine then_n (iw h (fun h => ?_) (fun h => ?_))
  refine sn hG [2] [] [(2, bV false)] [] ?_
  cases h
  exact pwp_ret (then_ret rt)
  refine pwp_skip (then_n (pwp_seq (pwp_seq ?_)))
  obtain ⟨j67, hj69, h⟩ := bnd h
  refine jn [1, 3, 154] [1] [(154, bV j67)] [] ?_ ?_
  replace h := hj69; clear hj69
  refine pwp_region (pn hG 3 [1, 3, 132] [1] [(132, bV (a0.Op != 6))] [] (io 132 h (fun h => ?_) (fun h => ?_)))
  refine pn hG 4 [1, 3, 132, 136] [1] [(136, bV (a0.Before != 0))] [] (io 136 h (fun h => ?_) (fun h => ?_))
  refine pn hG 18 [1, 3, 154] [1] [(154, bV true)] [] ?_
  cases h
  exact pe fl
  refine pn hG 6 [1, 3, 142] [1] [(142, bV (a0.After != 0))] [] (io 142 h (fun h => ?_) (fun h => ?_))
  refine pn hG 12 [1, 3, 154] [1] [(154, bV true)] [] ?_
  cases h
  exact pe fl
  refine pn hG 3 [1, 3, 142, 145] [1] [(145, bV (a0.Op != 5))] [] (io 145 h (fun h => ?_) (fun h => ?_))
  refine pn hG 4 [1, 3, 142, 149] [1] [(149, bV (a0.Op != 7))] [] (io 149 h (fun h => ?_) (fun h => ?_))
  refine pn hG 5 [1, 3, 154] [1] [(154, bV (a0.Keep != 0))] [] ?_
  cases h
  exact pe fl
  refine pn hG 5 [1, 3, 154] [1] [(154, bV false)] [] ?_
  cases h
  exact pe fl
  refine pn hG 9 [1, 3, 154] [1] [(154, bV false)] [] ?_
  cases h
  exact pe fl
  refine pn hG 13 [1, 3, 142, 145] [1] [(142, bV false), (145, bV (a0.Op != 5))] [] (io 145 h (fun h => ?_) (fun h => ?_))
  refine pn hG 4 [1, 3, 142, 149] [1] [(149, bV (a0.Op != 7))] [] (io 149 h (fun h => ?_) (fun h => ?_))
  refine pn hG 5 [1, 3, 154] [1] [(154, bV (a0.Keep != 0))] [] ?_
  cases h
  exact pe fl
  refine pn hG 5 [1, 3, 154] [1] [(154, bV false)] [] ?_
  cases h
  exact pe fl
  refine pn hG 9 [1, 3, 154] [1] [(154, bV false)] [] ?_
  cases h
  exact pe fl
  refine then_n (iw h (fun h => ?_) (fun h => ?_))
  refine sn hG [2] [] [(2, bV false)] [] ?_
  cases h
  exact pwp_ret (then_ret rt)
  refine pwp_skip (then_n (pwp_seq ?_))
  obtain ⟨j78, hj80, h⟩ := bnd h
  refine jn [2] [] [(2, bV j78)] [] ?_ ?_
  replace h := hj80; clear hj80
  refine pwp_region (pn hG 3 [1, 157] [1] [(157, bV (a0.Op == 8))] [] (io 157 h (fun h => ?_) (fun h => ?_)))
  refine pn hG 6 [2] [] [(2, bV true)] [] ?_
  cases h
  exact pe fl
  refine pn hG 6 [2] [] [(2, bV (((a0.Seq.length : Int)) == 0))] [] ?_
  cases h
  exact pe fl
  refine then_n ?_
  cases h
  exact pwp_ret rt

def F36_L0 (n : Nat) (a0 : List Int) (a1 : List Int) : Int → Option ((Int) ⊕ ((Unit) ⊕ (Bool)))
  | v2 => if (decide (v2 < ((a0.length : Int)))) = true then (if 0 ≤ v2 ∧ v2 < (a0.length : Int) then (if 0 ≤ v2 ∧ v2 < (a1.length : Int) then (if ((a0.getD (v2).toNat default) != (a1.getD (v2).toNat default)) = true then (some (.inr (.inr (false)))) else (some (.inl (IntKind.i64.wrap (v2 + 1))))) else none) else none) else (some (.inr (.inl (()))))
def F36 (n : Nat) (a0 : List Int) (a1 : List Int) : Option (Bool) := if (((a0.length : Int)) != ((a1.length : Int))) = true then (some (false)) else (Option.bind (iterM (F36_L0 n a0 a1) n (0)) fun R7 => match R7 with | .inl (_) => (some (true)) | .inr (y9) => (some (y9)))
abbrev I36 : Inf := ⟨look tiL, [], 26⟩
set_option maxRecDepth 20000 in
theorem F36_ok (n : Nat) (a0 : List Int) (a1 : List Int) (y : Bool) (h : F36 n a0 a1 = some y) : PCall Proofs.Try.prog 36 [.t (eL cInt (a0)), .t (eL cInt (a1))] [] [] (Ret (.t (.bool (y)))) := by
  refine pcall_of (I := I36) Proofs.Try.func36 rfl ti_ok Proofs.Try.ntmps36 (le_n (by kernel_rfl)) (fun E hG => ?_)
  unfold F36 at h
  refine sn hG [0, 1] [] [] [] (pwp_seq (sn hG [0, 1, 10] [] [(10, bV (((a0.length : Int)) != ((a1.length : Int))))] [] (iw h (fun h => ?_) (fun h => ?_))))
  refine sn hG [4] [] [(4, bV false)] [] ?_
  cases h
  exact pwp_ret (then_ret rt)
  refine pwp_skip (then_n (pwp_seq (sn hG [0, 1, 5] [] [(5, iV 0)] [] ?_)))
  obtain ⟨R7, hR8, h⟩ := bnd h
  refine lp (F36_L0 n a0 a1) (fun (v2 : Int) => (⟨[(0, .t (eL cInt (a0))), (1, .t (eL cInt (a1))), (5, iV v2)], []⟩ : St)) (fun (r : (Unit) ⊕ (Bool)) (e : Exit) (s : St) => match r with | .inl (x0) => e = .exit 0 ∧ Le E s ((fun (_ : Unit) => (⟨[], []⟩ : St)) x0) | .inr (y0) => e = .ret ∧ finQ I36 Proofs.Try.f36.results.toList (Ret (bV y0)) .ret s) ?_ n (0) R7 hR8 ?_
  intro v2 x h
  rw [F36_L0] at h
  refine pwp_seq (sn hG [0, 1, 5, 14] [] [(14, bV (decide (v2 < ((a0.length : Int)))))] [] (iw h (fun h => ?_) (fun h => ?_)))
  refine pwp_skip (then_n (pwp_seq (pwp_block (pwp_seq ?_))))
  obtain ⟨hc4, h⟩ := grd h
  obtain ⟨hc5, h⟩ := grd h
  refine ln hG [] [] [(2, [0 ≤ v2 ∧ v2 < (a0.length : Int)]), (6, [0 ≤ v2 ∧ v2 < (a1.length : Int)])] [] [0, 1, 5, 14] .nil .nil (.cons hc4 (.cons hc5 .nil)) [0, 1, 5, 25] [] [(25, bV ((a0.getD (v2).toNat default) != (a1.getD (v2).toNat default)))] [] (then_n (iw h (fun h => ?_) (fun h => ?_)))
  refine sn hG [4] [] [(4, bV false)] [] ?_
  cases h
  exact pwp_ret (blk_ret (then_ret (round_out (by simp) (And.intro rfl rt))))
  refine pwp_skip (blk_n (then_n (rn hG [0, 1, 5] [] [(5, iV (IntKind.i64.wrap (v2 + 1)))] [] ?_)))
  cases h
  exact round_in lk
  cases h
  exact pwp_exit (then_exit (round_out (by simp) (And.intro rfl lk)))
  intro e s hq
  rcases R7 with _ | y9
  try dsimp only at h
  obtain ⟨rfl, hle⟩ := hq
  refine ⟨_, hle, blk_hit ?_⟩
  refine then_n (sn hG [4] [] [(4, bV true)] [] ?_)
  cases h
  exact pwp_ret rt
  try dsimp only at h
  obtain ⟨rfl, hq⟩ := hq
  cases h
  exact ⟨_, Le.refl, blk_ret (then_ret (hq))⟩

def F37_L0 (n : Nat) (a0 : List GCol) : ((List Int) × Int) → Option (((List Int) × Int) ⊕ ((List Int)))
  | (v1, v2) => if (decide (v2 < ((a0.length : Int)))) = true then (if 0 ≤ v2 ∧ v2 < (a0.length : Int) then (if (v1.length + 1) * 8 ≤ 140737488355328 then (some (.inl ((v1 ++ ([(a0.getD (v2).toNat default).Type_]), IntKind.i64.wrap (v2 + 1))))) else none) else none) else (some (.inr (v1)))
def F37 (n : Nat) (a0 : List GCol) : Option ((List Int)) := Option.bind (iterM (F37_L0 n a0) n ((([] : List Int), 0))) fun b3 => some (b3)
abbrev I37 : Inf := ⟨look tiL, [], 20⟩
set_option maxRecDepth 20000 in
theorem F37_ok (n : Nat) (a0 : List GCol) (y : (List Int)) (h : F37 n a0 = some y) : PCall Proofs.Try.prog 37 [.t (eL cGCol (a0))] [] [] (Ret (.t (eL cInt (y)))) := by
  refine pcall_of (I := I37) Proofs.Try.func37 rfl ti_ok Proofs.Try.ntmps37 (le_n (by kernel_rfl)) (fun E hG => ?_)
  unfold F37 at h
  refine sn hG [0] [] [] [] (sn hG [0, 3] [] [(3, .nil)] [] (pwp_seq (sn hG [0, 3, 4] [] [(4, iV 0)] [] (ws ⟨[(0, .t (eL cGCol (a0))), (3, .nil), (4, iV 0)], []⟩ (pwp_weak (Le.thaw (t := 3) (o := 3) (e := 3) (s := 1) (f := eF cInt ([] : List Int)) hG rfl) ?_)))))
  obtain ⟨b3, hR8, h⟩ := bnd h
  refine lp (F37_L0 n a0) (fun (s : (List Int) × Int) => match s with | (v1, v2) => (⟨[(0, .t (eL cGCol (a0))), (3, .own 3), (4, iV v2)], [(3, .arr 3 1 (v1.length) (eF cInt v1))]⟩ : St)) (fun (x0 : (List Int)) (e : Exit) (s : St) => e = .exit 0 ∧ Le E s ((fun (b3 : (List Int)) => (⟨[(3, .own 3)], [(3, .arr 3 1 (b3.length) (eF cInt b3))]⟩ : St)) x0)) ?_ n ((([] : List Int), 0)) b3 hR8 ?_
  rintro ⟨v1, v2⟩ x h
  rw [F37_L0] at h
  refine pwp_seq (sn hG [0, 3, 4, 8] [3] [(8, bV (decide (v2 < ((a0.length : Int)))))] [] (iw h (fun h => ?_) (fun h => ?_)))
  refine pwp_skip (then_n (pwp_seq (pwp_block (pwp_region ?_))))
  obtain ⟨hc5, h⟩ := grd h
  obtain ⟨hc6, h⟩ := grd h
  refine pd hG 8 [0, 4, 18] [18] [(18, .own 18)] [(18, .arr 3 1 (v1.length + 1) (appF (v1.length) (eF cInt v1) (arrOf [.int .i64 ((a0.getD (v2).toNat default).Type_)] 1)))] (Cs := [0 ≤ v2 ∧ v2 < (a0.length : Int), appC (v1.length) (1) 8 1 (arrOf [.int .i64 ((a0.getD (v2).toNat default).Type_)] 1)]) ⟨hc5, ⟨hc6, ok_one rfl⟩⟩ (os ⟨[(0, .t (eL cGCol (a0))), (4, iV v2), (18, .own 18)], [(18, .arr 3 1 (v1.length + 1) (appF (v1.length) (eF cInt v1) (arrOf [.int .i64 ((a0.getD (v2).toNat default).Type_)] 1)))]⟩ (pops_weak (Le.obj (o := 18) (.arr 3 1 ((v1 ++ ([(a0.getD (v2).toNat default).Type_])).length) (eF cInt (v1 ++ ([(a0.getD (v2).toNat default).Type_])))) rfl (fun _ _ _ => ObjR.row (by simp) (row_snoc cInt v1 ((a0.getD (v2).toNat default).Type_) _ rfl))) (pn hG 1 [0, 3, 4] [18] [(3, .own 18)] [(18, .arr 3 1 ((v1 ++ ([(a0.getD (v2).toNat default).Type_])).length) (eF cInt (v1 ++ ([(a0.getD (v2).toNat default).Type_]))))] (pe (blk_n (then_n (rn hG [0, 3, 4] [18] [(4, iV (IntKind.i64.wrap (v2 + 1)))] [] ?_)))))))
  cases h
  exact round_in (Le.trans (ls ⟨[(0, .t (eL cGCol (a0))), (3, .own 18), (4, iV (IntKind.i64.wrap (v2 + 1)))], [(18, .arr 3 1 ((v1 ++ ([(a0.getD (v2).toNat default).Type_])).length) (eF cInt (v1 ++ ([(a0.getD (v2).toNat default).Type_]))))]⟩) (Le.trans (Le.rename (o := 18) (o' := 3) hG (by decide) rfl) lk))
  cases h
  exact pwp_exit (then_exit (round_out (by simp) (And.intro rfl lk)))
  intro e s hq
  try dsimp only at h
  obtain ⟨rfl, hle⟩ := hq
  refine ⟨_, hle, blk_hit ?_⟩
  refine then_n (sn hG [2] [3] [(2, .own 3)] [] (ws ⟨[(2, .own 3)], [(3, .arr 3 1 (b3.length) (eF cInt b3))]⟩ (pwp_weak (Le.trans (Le.freeze (o := 3) (eL cInt (b3)) rfl rfl rfl) (Le.keep (ts := [2]) (os := []) (t := ⟨[(2, .t (eL cInt (b3)))], []⟩) (by kernel_rfl))) ?_)))
  cases h
  exact pwp_ret rt

end Go.PL
