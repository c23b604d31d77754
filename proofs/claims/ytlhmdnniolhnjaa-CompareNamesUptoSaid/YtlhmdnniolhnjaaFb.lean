/-
  Functions of the seat, as data functions, and the proofs that the program computes them. Printed by a program of our own.
-/
import Derived.Test.YtlhmdnniolhnjaaFa
namespace Go.PL
open Go
set_option linter.unusedVariables false

def F79_L0 (n : Nat) (a0 : ByteArray) : Int → Option ((Int) ⊕ ((Unit) ⊕ (Bool)))
  | v10 => if (decide (v10 < (((a0 : ByteArray).size : Int)))) = true then (if 0 ≤ v10 ∧ v10 < (a0.size : Int) then (Option.bind (if (decide ((((a0[(v10).toNat]?.getD 0).toNat : Int)) ≥ 97)) = true then (if (decide ((((a0[(v10).toNat]?.getD 0).toNat : Int)) ≤ 122)) = true then (some (!true)) else (if (decide ((((a0[(v10).toNat]?.getD 0).toNat : Int)) ≥ 65)) = true then (if (decide ((((a0[(v10).toNat]?.getD 0).toNat : Int)) ≤ 90)) = true then (some (!true)) else (if (decide ((((a0[(v10).toNat]?.getD 0).toNat : Int)) ≥ 48)) = true then (if (decide ((((a0[(v10).toNat]?.getD 0).toNat : Int)) ≤ 57)) = true then (some (!true)) else (some (!((((a0[(v10).toNat]?.getD 0).toNat : Int)) == 95)))) else (some (!((((a0[(v10).toNat]?.getD 0).toNat : Int)) == 95))))) else (if (decide ((((a0[(v10).toNat]?.getD 0).toNat : Int)) ≥ 48)) = true then (if (decide ((((a0[(v10).toNat]?.getD 0).toNat : Int)) ≤ 57)) = true then (some (!true)) else (some (!((((a0[(v10).toNat]?.getD 0).toNat : Int)) == 95)))) else (some (!((((a0[(v10).toNat]?.getD 0).toNat : Int)) == 95)))))) else (if (decide ((((a0[(v10).toNat]?.getD 0).toNat : Int)) ≥ 65)) = true then (if (decide ((((a0[(v10).toNat]?.getD 0).toNat : Int)) ≤ 90)) = true then (some (!true)) else (if (decide ((((a0[(v10).toNat]?.getD 0).toNat : Int)) ≥ 48)) = true then (if (decide ((((a0[(v10).toNat]?.getD 0).toNat : Int)) ≤ 57)) = true then (some (!true)) else (some (!((((a0[(v10).toNat]?.getD 0).toNat : Int)) == 95)))) else (some (!((((a0[(v10).toNat]?.getD 0).toNat : Int)) == 95))))) else (if (decide ((((a0[(v10).toNat]?.getD 0).toNat : Int)) ≥ 48)) = true then (if (decide ((((a0[(v10).toNat]?.getD 0).toNat : Int)) ≤ 57)) = true then (some (!true)) else (some (!((((a0[(v10).toNat]?.getD 0).toNat : Int)) == 95)))) else (some (!((((a0[(v10).toNat]?.getD 0).toNat : Int)) == 95))))) : Option (Bool)) fun j13 => if (j13) = true then (some (.inr (.inr (false)))) else (some (.inl (IntKind.i64.wrap (v10 + 1))))) else none) else (some (.inr (.inl (()))))
def F79 (n : Nat) (a0 : ByteArray) : Option (Bool) := Option.bind (if ((a0 : ByteArray).toList == (⟨#[]⟩ : ByteArray).toList) = true then (some (true)) else (if (decide ((((a0 : ByteArray).size : Int)) > 20)) = true then (some (true)) else (if 0 ≤ ((0 : Int)) ∧ ((0 : Int)) < (a0.size : Int) then (if (decide ((((a0[((0 : Int)).toNat]?.getD 0).toNat : Int)) ≥ 48)) = true then (if 0 ≤ ((0 : Int)) ∧ ((0 : Int)) < (a0.size : Int) then (some (decide ((((a0[((0 : Int)).toNat]?.getD 0).toNat : Int)) ≤ 57))) else none) else (some (false))) else none)) : Option (Bool)) fun j1 => if (j1) = true then (some (false)) else (Option.bind (iterM (F79_L0 n a0) n (0)) fun R31 => match R31 with | .inl (_) => (some (true)) | .inr (y33) => (some (y33)))
abbrev I79 : Inf := ⟨look tiL, [], 58⟩
set_option maxRecDepth 20000 in
theorem F79_ok (n : Nat) (a0 : ByteArray) (y : Bool) (h : F79 n a0 = some y) : PCall Proofs.Try.prog 79 [.t (.str (a0))] [] [] (Ret (.t (.bool (y)))) := by
  refine pcall_of (I := I79) Proofs.Try.func79 rfl ti_ok Proofs.Try.ntmps79 (le_n (by kernel_rfl)) (fun E hG => ?_)
  unfold F79 at h
  refine sn hG [0] [] [] [] (pwp_seq (pwp_seq ?_))
  obtain ⟨j1, hj3, h⟩ := bnd h
  refine jn [0, 21] [] [(21, bV j1)] [] ?_ ?_
  replace h := hj3; clear hj3
  refine pwp_region (pn hG 3 [0, 7] [] [(7, bV ((a0 : ByteArray).toList == (⟨#[]⟩ : ByteArray).toList))] [] (io 7 h (fun h => ?_) (fun h => ?_)))
  refine pn hG 14 [0, 21] [] [(21, bV true)] [] ?_
  cases h
  exact pe fl
  refine pn hG 5 [0, 12] [] [(12, bV (decide ((((a0 : ByteArray).size : Int)) > 20)))] [] (io 12 h (fun h => ?_) (fun h => ?_))
  refine pn hG 9 [0, 21] [] [(21, bV true)] [] ?_
  cases h
  exact pe fl
  obtain ⟨hc6, h⟩ := grd h
  refine pc hG 4 [0, 12, 16] [] [(16, bV (decide ((((a0[((0 : Int)).toNat]?.getD 0).toNat : Int)) ≥ 48)))] [] hc6 (io 16 h (fun h => ?_) (fun h => ?_))
  obtain ⟨hc8, h⟩ := grd h
  refine pc hG 5 [0, 21] [] [(21, bV (decide ((((a0[((0 : Int)).toNat]?.getD 0).toNat : Int)) ≤ 57)))] [] hc8 ?_
  cases h
  exact pe fl
  refine pn hG 5 [0, 21] [] [(21, bV false)] [] ?_
  cases h
  exact pe fl
  refine then_n (iw h (fun h => ?_) (fun h => ?_))
  refine sn hG [2] [] [(2, bV false)] [] ?_
  cases h
  exact pwp_ret (then_ret rt)
  refine pwp_skip (then_n (pwp_seq (sn hG [0, 3] [] [(3, iV 0)] [] ?_)))
  obtain ⟨R31, hR32, h⟩ := bnd h
  refine lp (F79_L0 n a0) (fun (v10 : Int) => (⟨[(0, .t (.str (a0))), (3, iV v10)], []⟩ : St)) (fun (r : (Unit) ⊕ (Bool)) (e : Exit) (s : St) => match r with | .inl (x0) => e = .exit 0 ∧ Le E s ((fun (_ : Unit) => (⟨[], []⟩ : St)) x0) | .inr (y0) => e = .ret ∧ finQ I79 Proofs.Try.f79.results.toList (Ret (bV y0)) .ret s) ?_ n (0) R31 hR32 ?_
  intro v10 x h
  rw [F79_L0] at h
  refine pwp_seq (sn hG [0, 3, 25] [] [(25, bV (decide (v10 < (((a0 : ByteArray).size : Int)))))] [] (iw h (fun h => ?_) (fun h => ?_)))
  refine pwp_skip (then_n (pwp_seq (pwp_block ?_)))
  obtain ⟨hc12, h⟩ := grd h
  refine sc hG [0, 3, 4] [] [(4, .t (.int .u8 (((a0[(v10).toNat]?.getD 0).toNat : Int))))] [] hc12 (pwp_seq ?_)
  obtain ⟨j13, hj15, h⟩ := bnd h
  refine jn [0, 3, 57] [] [(57, bV j13)] [] ?_ ?_
  replace h := hj15; clear hj15
  refine pwp_region (pn hG 3 [0, 3, 4, 33] [] [(33, bV (decide ((((a0[(v10).toNat]?.getD 0).toNat : Int)) ≥ 97)))] [] (io 33 h (fun h => ?_) (fun h => ?_)))
  refine pn hG 4 [0, 3, 4, 37] [] [(37, bV (decide ((((a0[(v10).toNat]?.getD 0).toNat : Int)) ≤ 122)))] [] (io 37 h (fun h => ?_) (fun h => ?_))
  refine pn hG 20 [0, 3, 57] [] [(57, bV (!true))] [] ?_
  cases h
  exact pe fl
  refine pn hG 3 [0, 3, 4, 37, 40] [] [(40, bV (decide ((((a0[(v10).toNat]?.getD 0).toNat : Int)) ≥ 65)))] [] (io 40 h (fun h => ?_) (fun h => ?_))
  refine pn hG 5 [0, 3, 4, 45] [] [(45, bV (decide ((((a0[(v10).toNat]?.getD 0).toNat : Int)) ≤ 90)))] [] (io 45 h (fun h => ?_) (fun h => ?_))
  refine pn hG 12 [0, 3, 57] [] [(57, bV (!true))] [] ?_
  cases h
  exact pe fl
  refine pn hG 3 [0, 3, 4, 45, 48] [] [(48, bV (decide ((((a0[(v10).toNat]?.getD 0).toNat : Int)) ≥ 48)))] [] (io 48 h (fun h => ?_) (fun h => ?_))
  refine pn hG 5 [0, 3, 4, 53] [] [(53, bV (decide ((((a0[(v10).toNat]?.getD 0).toNat : Int)) ≤ 57)))] [] (io 53 h (fun h => ?_) (fun h => ?_))
  refine pn hG 4 [0, 3, 57] [] [(57, bV (!true))] [] ?_
  cases h
  exact pe fl
  refine pn hG 4 [0, 3, 57] [] [(57, bV (!((((a0[(v10).toNat]?.getD 0).toNat : Int)) == 95)))] [] ?_
  cases h
  exact pe fl
  refine pn hG 9 [0, 3, 57] [] [(57, bV (!((((a0[(v10).toNat]?.getD 0).toNat : Int)) == 95)))] [] ?_
  cases h
  exact pe fl
  refine pn hG 8 [0, 3, 4, 45, 48] [] [(45, bV false), (48, bV (decide ((((a0[(v10).toNat]?.getD 0).toNat : Int)) ≥ 48)))] [] (io 48 h (fun h => ?_) (fun h => ?_))
  refine pn hG 5 [0, 3, 4, 53] [] [(53, bV (decide ((((a0[(v10).toNat]?.getD 0).toNat : Int)) ≤ 57)))] [] (io 53 h (fun h => ?_) (fun h => ?_))
  refine pn hG 4 [0, 3, 57] [] [(57, bV (!true))] [] ?_
  cases h
  exact pe fl
  refine pn hG 4 [0, 3, 57] [] [(57, bV (!((((a0[(v10).toNat]?.getD 0).toNat : Int)) == 95)))] [] ?_
  cases h
  exact pe fl
  refine pn hG 9 [0, 3, 57] [] [(57, bV (!((((a0[(v10).toNat]?.getD 0).toNat : Int)) == 95)))] [] ?_
  cases h
  exact pe fl
  refine pn hG 7 [0, 3, 4, 37, 40] [] [(37, bV false), (40, bV (decide ((((a0[(v10).toNat]?.getD 0).toNat : Int)) ≥ 65)))] [] (io 40 h (fun h => ?_) (fun h => ?_))
  refine pn hG 5 [0, 3, 4, 45] [] [(45, bV (decide ((((a0[(v10).toNat]?.getD 0).toNat : Int)) ≤ 90)))] [] (io 45 h (fun h => ?_) (fun h => ?_))
  refine pn hG 12 [0, 3, 57] [] [(57, bV (!true))] [] ?_
  cases h
  exact pe fl
  refine pn hG 3 [0, 3, 4, 45, 48] [] [(48, bV (decide ((((a0[(v10).toNat]?.getD 0).toNat : Int)) ≥ 48)))] [] (io 48 h (fun h => ?_) (fun h => ?_))
  refine pn hG 5 [0, 3, 4, 53] [] [(53, bV (decide ((((a0[(v10).toNat]?.getD 0).toNat : Int)) ≤ 57)))] [] (io 53 h (fun h => ?_) (fun h => ?_))
  refine pn hG 4 [0, 3, 57] [] [(57, bV (!true))] [] ?_
  cases h
  exact pe fl
  refine pn hG 4 [0, 3, 57] [] [(57, bV (!((((a0[(v10).toNat]?.getD 0).toNat : Int)) == 95)))] [] ?_
  cases h
  exact pe fl
  refine pn hG 9 [0, 3, 57] [] [(57, bV (!((((a0[(v10).toNat]?.getD 0).toNat : Int)) == 95)))] [] ?_
  cases h
  exact pe fl
  refine pn hG 8 [0, 3, 4, 45, 48] [] [(45, bV false), (48, bV (decide ((((a0[(v10).toNat]?.getD 0).toNat : Int)) ≥ 48)))] [] (io 48 h (fun h => ?_) (fun h => ?_))
  refine pn hG 5 [0, 3, 4, 53] [] [(53, bV (decide ((((a0[(v10).toNat]?.getD 0).toNat : Int)) ≤ 57)))] [] (io 53 h (fun h => ?_) (fun h => ?_))
  refine pn hG 4 [0, 3, 57] [] [(57, bV (!true))] [] ?_
  cases h
  exact pe fl
  refine pn hG 4 [0, 3, 57] [] [(57, bV (!((((a0[(v10).toNat]?.getD 0).toNat : Int)) == 95)))] [] ?_
  cases h
  exact pe fl
  refine pn hG 9 [0, 3, 57] [] [(57, bV (!((((a0[(v10).toNat]?.getD 0).toNat : Int)) == 95)))] [] ?_
  cases h
  exact pe fl
  refine then_n (iw h (fun h => ?_) (fun h => ?_))
  refine sn hG [2] [] [(2, bV false)] [] ?_
  cases h
  exact pwp_ret (blk_ret (then_ret (round_out (by simp) (And.intro rfl rt))))
  refine pwp_skip (blk_n (then_n (rn hG [0, 3] [] [(3, iV (IntKind.i64.wrap (v10 + 1)))] [] ?_)))
  cases h
  exact round_in lk
  cases h
  exact pwp_exit (then_exit (round_out (by simp) (And.intro rfl lk)))
  intro e s hq
  rcases R31 with _ | y33
  try dsimp only at h
  obtain ⟨rfl, hle⟩ := hq
  refine ⟨_, hle, blk_hit ?_⟩
  refine then_n (sn hG [2] [] [(2, bV true)] [] ?_)
  cases h
  exact pwp_ret rt
  try dsimp only at h
  obtain ⟨rfl, hq⟩ := hq
  cases h
  exact ⟨_, Le.refl, blk_ret (then_ret (hq))⟩

def F90 (n : Nat) (a0 : Int) : Option (ByteArray) := if (a0 == 0) = true then (some (⟨#[105, 110, 116]⟩)) else (if (a0 == 1) = true then (some (⟨#[116, 101, 120, 116]⟩)) else (if (a0 == 2) = true then (some (⟨#[98, 111, 111, 108]⟩)) else (some (⟨#[]⟩))))
abbrev I90 : Inf := ⟨look tiL, [], 10⟩
set_option maxRecDepth 20000 in
theorem F90_ok (n : Nat) (a0 : Int) (y : ByteArray) (h : F90 n a0 = some y) : PCall Proofs.Try.prog 90 [.t (.int .i64 (a0))] [] [] (Ret (.t (.str (y)))) := by
  refine pcall_of (I := I90) Proofs.Try.func90 rfl ti_ok Proofs.Try.ntmps90 (le_n (by kernel_rfl)) (fun E hG => ?_)
  unfold F90 at h
  refine sn hG [0] [] [] [] (pwp_seq (sn hG [3] [] [(3, iV a0)] [] (pwp_block (sn hG [3, 4] [] [(4, bV (a0 == 0))] [] (iw h (fun h => ?_) (fun h => ?_))))))
  refine sn hG [2] [] [(2, .t (.str (⟨#[105, 110, 116]⟩)))] [] ?_
  cases h
  exact pwp_ret (blk_ret (then_ret rt))
  refine sn hG [3, 6] [] [(6, bV (a0 == 1))] [] (iw h (fun h => ?_) (fun h => ?_))
  refine sn hG [2] [] [(2, .t (.str (⟨#[116, 101, 120, 116]⟩)))] [] ?_
  cases h
  exact pwp_ret (blk_ret (then_ret rt))
  refine sn hG [8] [] [(8, bV (a0 == 2))] [] (iw h (fun h => ?_) (fun h => ?_))
  refine sn hG [2] [] [(2, .t (.str (⟨#[98, 111, 111, 108]⟩)))] [] ?_
  cases h
  exact pwp_ret (blk_ret (then_ret rt))
  refine pwp_skip (blk_n (then_n (sn hG [2] [] [(2, .t (.str (⟨#[]⟩)))] [] ?_)))
  cases h
  exact pwp_ret rt

def F97_L0 (n : Nat) (a0 : ByteArray) : Int → Option ((Int) ⊕ ((Unit) ⊕ (Int × Bool)))
  | v1 => if (decide (v1 < 3)) = true then ((F90 n v1).bind fun r3 => if ((r3 : ByteArray).toList == (a0 : ByteArray).toList) = true then (some (.inr (.inr ((v1, true))))) else (some (.inl (IntKind.i64.wrap (v1 + 1))))) else (some (.inr (.inl (()))))
def F97 (n : Nat) (a0 : ByteArray) : Option (Int × Bool) := Option.bind (iterM (F97_L0 n a0) n (0)) fun R6 => match R6 with | .inl (_) => (some ((0, false))) | .inr (y8) => (some (y8))
abbrev I97 : Inf := ⟨look tiL, [], 14⟩
set_option maxRecDepth 20000 in
theorem F97_ok (n : Nat) (a0 : ByteArray) (y : Int × Bool) (h : F97 n a0 = some y) : PCall Proofs.Try.prog 97 [.t (.str (a0))] [] [] (Ret (.tup [.t (.int .i64 (y.1)), .t (.bool (y.2))])) := by
  refine pcall_of (I := I97) Proofs.Try.func97 rfl ti_ok Proofs.Try.ntmps97 (le_n (by kernel_rfl)) (fun E hG => ?_)
  unfold F97 at h
  refine sn hG [0] [] [] [] (pwp_seq (sn hG [0, 4] [] [(4, iV 0)] [] ?_))
  obtain ⟨R6, hR7, h⟩ := bnd h
  refine lp (F97_L0 n a0) (fun (v1 : Int) => (⟨[(0, .t (.str (a0))), (4, iV v1)], []⟩ : St)) (fun (r : (Unit) ⊕ (Int × Bool)) (e : Exit) (s : St) => match r with | .inl (x0) => e = .exit 0 ∧ Le E s ((fun (_ : Unit) => (⟨[], []⟩ : St)) x0) | .inr (y0) => e = .ret ∧ finQ I97 Proofs.Try.f97.results.toList (Ret (.tup [iV y0.1, bV y0.2])) .ret s) ?_ n (0) R6 hR7 ?_
  intro v1 x h
  rw [F97_L0] at h
  refine pwp_seq (sn hG [0, 4, 6] [] [(6, bV (decide (v1 < 3)))] [] (iw h (fun h => ?_) (fun h => ?_)))
  refine pwp_skip (then_n (pwp_seq (pwp_block (pwp_seq (pwp_region (pn hG 1 [0, 4, 9] [] [(9, iV v1)] [] ?_))))))
  obtain ⟨r3, hr4, h⟩ := bnd h
  refine ca hG [] rfl rfl rfl rfl callable90 (.cons (.same _) .nil) (F90_ok n _ _ hr4) (pn hG 2 [0, 4, 12] [] [(12, bV ((r3 : ByteArray).toList == (a0 : ByteArray).toList))] [] (pe (then_n (iw h (fun h => ?_) (fun h => ?_)))))
  refine sn hG [2, 3] [] [(2, iV v1), (3, bV true)] [] ?_
  cases h
  exact pwp_ret (blk_ret (then_ret (round_out (by simp) (And.intro rfl rt))))
  refine pwp_skip (blk_n (then_n (rn hG [0, 4] [] [(4, iV (IntKind.i64.wrap (v1 + 1)))] [] ?_)))
  cases h
  exact round_in lk
  cases h
  exact pwp_exit (then_exit (round_out (by simp) (And.intro rfl lk)))
  intro e s hq
  rcases R6 with _ | y8
  try dsimp only at h
  obtain ⟨rfl, hle⟩ := hq
  refine ⟨_, hle, blk_hit ?_⟩
  refine then_n (sn hG [2, 3] [] [(2, iV 0), (3, bV false)] [] ?_)
  cases h
  exact pwp_ret rt
  try dsimp only at h
  obtain ⟨rfl, hq⟩ := hq
  cases h
  exact ⟨_, Le.refl, blk_ret (then_ret (hq))⟩

def F88 (n : Nat) (a0 : ByteArray) : Option (Bool) := (F97 n a0).bind fun r1 => Option.bind ((F79 n a0).bind fun r6 => if (r6) = true then (some (!r1.2)) else (some (false)) : Option (Bool)) fun j3 => some (j3)
abbrev I88 : Inf := ⟨look tiL, [], 16⟩
set_option maxRecDepth 20000 in
theorem F88_ok (n : Nat) (a0 : ByteArray) (y : Bool) (h : F88 n a0 = some y) : PCall Proofs.Try.prog 88 [.t (.str (a0))] [] [] (Ret (.t (.bool (y)))) := by
  refine pcall_of (I := I88) Proofs.Try.func88 rfl ti_ok Proofs.Try.ntmps88 (le_n (by kernel_rfl)) (fun E hG => ?_)
  unfold F88 at h
  refine sn hG [0] [] [] [] (pwp_seq (pwp_region (pn hG 1 [0, 6] [] [(6, .t (.str (a0)))] [] ?_)))
  obtain ⟨r1, hr2, h⟩ := bnd h
  refine ca hG [] rfl rfl rfl rfl callable97 (.cons (.same _) .nil) (F97_ok n _ _ hr2) (pn hG 5 [0, 4] [] [(4, bV r1.2)] [] (pe (then_n (pwp_seq ?_))))
  obtain ⟨j3, hj5, h⟩ := bnd h
  refine jn [2] [] [(2, bV j3)] [] ?_ ?_
  replace h := hj5; clear hj5
  refine pwp_region (pn hG 1 [4, 10] [] [(10, .t (.str (a0)))] [] ?_)
  obtain ⟨r6, hr7, h⟩ := bnd h
  refine ca hG [] rfl rfl rfl rfl callable79 (.cons (.same _) .nil) (F79_ok n _ _ hr7) (pn hG 1 [4, 12] [] [(12, bV r6)] [] (io 12 h (fun h => ?_) (fun h => ?_)))
  refine pn hG 4 [2] [] [(2, bV (!r1.2))] [] ?_
  cases h
  exact pe fl
  refine pn hG 4 [2] [] [(2, bV false)] [] ?_
  cases h
  exact pe fl
  refine then_n ?_
  cases h
  exact pwp_ret rt

def F89_L0 (n : Nat) (a0 : List GCol) (a1 : ByteArray) : Int → Option ((Int) ⊕ ((Unit) ⊕ (Int)))
  | v1 => if (decide (v1 < ((a0.length : Int)))) = true then (if 0 ≤ v1 ∧ v1 < (a0.length : Int) then (if (((a0.getD (v1).toNat default).Name : ByteArray).toList == (a1 : ByteArray).toList) = true then (some (.inr (.inr (v1)))) else (some (.inl (IntKind.i64.wrap (v1 + 1))))) else none) else (some (.inr (.inl (()))))
def F89 (n : Nat) (a0 : List GCol) (a1 : ByteArray) : Option (Int) := Option.bind (iterM (F89_L0 n a0 a1) n (0)) fun R5 => match R5 with | .inl (_) => (some ((-1))) | .inr (y7) => (some (y7))
abbrev I89 : Inf := ⟨look tiL, [], 20⟩
set_option maxRecDepth 20000 in
theorem F89_ok (n : Nat) (a0 : List GCol) (a1 : ByteArray) (y : Int) (h : F89 n a0 a1 = some y) : PCall Proofs.Try.prog 89 [.t (eL cGCol (a0)), .t (.str (a1))] [] [] (Ret (.t (.int .i64 (y)))) := by
  refine pcall_of (I := I89) Proofs.Try.func89 rfl ti_ok Proofs.Try.ntmps89 (le_n (by kernel_rfl)) (fun E hG => ?_)
  unfold F89 at h
  refine sn hG [0, 1] [] [] [] (pwp_seq (sn hG [0, 1, 5] [] [(5, iV 0)] [] ?_))
  obtain ⟨R5, hR6, h⟩ := bnd h
  refine lp (F89_L0 n a0 a1) (fun (v1 : Int) => (⟨[(0, .t (eL cGCol (a0))), (1, .t (.str (a1))), (5, iV v1)], []⟩ : St)) (fun (r : (Unit) ⊕ (Int)) (e : Exit) (s : St) => match r with | .inl (x0) => e = .exit 0 ∧ Le E s ((fun (_ : Unit) => (⟨[], []⟩ : St)) x0) | .inr (y0) => e = .ret ∧ finQ I89 Proofs.Try.f89.results.toList (Ret (iV y0)) .ret s) ?_ n (0) R5 hR6 ?_
  intro v1 x h
  rw [F89_L0] at h
  refine pwp_seq (sn hG [0, 1, 5, 9] [] [(9, bV (decide (v1 < ((a0.length : Int)))))] [] (iw h (fun h => ?_) (fun h => ?_)))
  refine pwp_skip (then_n (pwp_seq (pwp_block ?_)))
  obtain ⟨hc3, h⟩ := grd h
  refine sc hG [0, 1, 5, 18] [] [(18, bV (((a0.getD (v1).toNat default).Name : ByteArray).toList == (a1 : ByteArray).toList))] [] hc3 (iw h (fun h => ?_) (fun h => ?_))
  refine sn hG [4] [] [(4, iV v1)] [] ?_
  cases h
  exact pwp_ret (blk_ret (then_ret (round_out (by simp) (And.intro rfl rt))))
  refine pwp_skip (blk_n (then_n (rn hG [0, 1, 5] [] [(5, iV (IntKind.i64.wrap (v1 + 1)))] [] ?_)))
  cases h
  exact round_in lk
  cases h
  exact pwp_exit (then_exit (round_out (by simp) (And.intro rfl lk)))
  intro e s hq
  rcases R5 with _ | y7
  try dsimp only at h
  obtain ⟨rfl, hle⟩ := hq
  refine ⟨_, hle, blk_hit ?_⟩
  refine then_n (sn hG [4] [] [(4, iV ((-1)))] [] ?_)
  cases h
  exact pwp_ret rt
  try dsimp only at h
  obtain ⟨rfl, hq⟩ := hq
  cases h
  exact ⟨_, Le.refl, blk_ret (then_ret (hq))⟩

def F80_L0 (n : Nat) (a0 : List GCol) : Int → Option ((Int) ⊕ ((Unit) ⊕ (Bool)))
  | v1 => if (decide (v1 < ((a0.length : Int)))) = true then (if 0 ≤ v1 ∧ v1 < (a0.length : Int) then (Option.bind ((F88 n ((a0.getD (v1).toNat default).Name)).bind fun r7 => if (!r7) = true then (some (true)) else ((F89 n a0 ((a0.getD (v1).toNat default).Name)).bind fun r10 => if (r10 != v1) = true then (some (true)) else ((F90 n ((a0.getD (v1).toNat default).Type_)).bind fun r13 => some ((r13 : ByteArray).toList == (⟨#[]⟩ : ByteArray).toList))) : Option (Bool)) fun j4 => if (j4) = true then (some (.inr (.inr (false)))) else (Option.bind (if (!(((a0.getD (v1).toNat default).Unit : ByteArray).toList == (⟨#[]⟩ : ByteArray).toList)) = true then (if (((a0.getD (v1).toNat default).Type_) != 0) = true then (some (true)) else ((F88 n ((a0.getD (v1).toNat default).Unit)).bind fun r21 => some (!r21))) else (some (false)) : Option (Bool)) fun j16 => if (j16) = true then (some (.inr (.inr (false)))) else (some (.inl (IntKind.i64.wrap (v1 + 1)))))) else none) else (some (.inr (.inl (()))))
def F80 (n : Nat) (a0 : List GCol) : Option (Bool) := Option.bind (iterM (F80_L0 n a0) n (0)) fun R24 => match R24 with | .inl (_) => (Option.bind (if (decide (((a0.length : Int)) ≥ 1)) = true then (some (decide (((a0.length : Int)) ≤ 12))) else (some (false)) : Option (Bool)) fun j26 => some (j26)) | .inr (y30) => (some (y30))
abbrev I80 : Inf := ⟨look tiL, [], 55⟩
set_option maxRecDepth 20000 in
theorem F80_ok (n : Nat) (a0 : List GCol) (y : Bool) (h : F80 n a0 = some y) : PCall Proofs.Try.prog 80 [.t (eL cGCol (a0))] [] [] (Ret (.t (.bool (y)))) := by
  refine pcall_of (I := I80) Proofs.Try.func80 rfl ti_ok Proofs.Try.ntmps80 (le_n (by kernel_rfl)) (fun E hG => ?_)
  unfold F80 at h
  refine sn hG [0] [] [] [] (pwp_seq (sn hG [0, 3] [] [(3, iV 0)] [] ?_))
  obtain ⟨R24, hR25, h⟩ := bnd h
  refine lp (F80_L0 n a0) (fun (v1 : Int) => (⟨[(0, .t (eL cGCol (a0))), (3, iV v1)], []⟩ : St)) (fun (r : (Unit) ⊕ (Bool)) (e : Exit) (s : St) => match r with | .inl (x0) => e = .exit 0 ∧ Le E s ((fun (_ : Unit) => (⟨[(0, .t (eL cGCol (a0)))], []⟩ : St)) x0) | .inr (y0) => e = .ret ∧ finQ I80 Proofs.Try.f80.results.toList (Ret (bV y0)) .ret s) ?_ n (0) R24 hR25 ?_
  intro v1 x h
  rw [F80_L0] at h
  refine pwp_seq (sn hG [0, 3, 8] [] [(8, bV (decide (v1 < ((a0.length : Int)))))] [] (iw h (fun h => ?_) (fun h => ?_)))
  refine pwp_skip (then_n (pwp_seq (pwp_block (pwp_seq (pwp_region ?_)))))
  obtain ⟨hc3, h⟩ := grd h
  refine pc hG 6 [0, 3, 4] [4] [(4, .ptr 4 0)] [(4, .box ((cGCol (a0.getD (v1).toNat default)).map .t))] hc3 (pe (then_n (pwp_seq (pwp_seq ?_))))
  obtain ⟨j4, hj6, h⟩ := bnd h
  refine jn [0, 3, 4, 32] [4] [(32, bV j4)] [] ?_ ?_
  replace h := hj6; clear hj6
  refine pwp_region (pn hG 2 [0, 3, 4, 16] [4] [(16, .t (.str ((a0.getD (v1).toNat default).Name)))] [] ?_)
  obtain ⟨r7, hr8, h⟩ := bnd h
  refine ca hG [] rfl rfl rfl rfl callable88 (.cons (.same _) .nil) (F88_ok n _ _ hr8) (pn hG 2 [0, 3, 4, 19] [4] [(19, bV (!r7))] [] (io 19 h (fun h => ?_) (fun h => ?_)))
  refine pn hG 13 [0, 3, 4, 32] [4] [(32, bV true)] [] ?_
  cases h
  exact pe fl
  refine pn hG 3 [0, 3, 4, 19, 20, 22] [4] [(20, .t (eL cGCol (a0))), (22, .t (.str ((a0.getD (v1).toNat default).Name)))] [] ?_
  obtain ⟨r10, hr11, h⟩ := bnd h
  refine ca hG [] rfl rfl rfl rfl callable89 (.cons (.same _) (.cons (.same _) .nil)) (F89_ok n _ _ _ hr11) (pn hG 4 [0, 3, 4, 27] [4] [(27, bV (r10 != v1))] [] (io 27 h (fun h => ?_) (fun h => ?_)))
  refine pn hG 5 [0, 3, 4, 32] [4] [(32, bV true)] [] ?_
  cases h
  exact pe fl
  refine pn hG 2 [0, 3, 4, 27, 29] [4] [(29, iV ((a0.getD (v1).toNat default).Type_))] [] ?_
  obtain ⟨r13, hr14, h⟩ := bnd h
  refine ca hG [] rfl rfl rfl rfl callable90 (.cons (.same _) .nil) (F90_ok n _ _ hr14) (pn hG 2 [0, 3, 4, 32] [4] [(32, bV ((r13 : ByteArray).toList == (⟨#[]⟩ : ByteArray).toList))] [] ?_)
  cases h
  exact pe fl
  refine then_n (iw h (fun h => ?_) (fun h => ?_))
  refine sn hG [2] [] [(2, bV false)] [] ?_
  cases h
  exact pwp_ret (then_ret (blk_ret (then_ret (round_out (by simp) (And.intro rfl rt)))))
  refine pwp_skip (then_n (pwp_seq ?_))
  obtain ⟨j16, hj18, h⟩ := bnd h
  refine jn [0, 3, 46] [] [(46, bV j16)] [] ?_ ?_
  replace h := hj18; clear hj18
  refine pwp_region (pn hG 4 [0, 3, 4, 36] [4] [(36, bV (!(((a0.getD (v1).toNat default).Unit : ByteArray).toList == (⟨#[]⟩ : ByteArray).toList)))] [] (io 36 h (fun h => ?_) (fun h => ?_)))
  refine pn hG 4 [0, 3, 4, 36, 40] [4] [(40, bV (((a0.getD (v1).toNat default).Type_) != 0))] [] (io 40 h (fun h => ?_) (fun h => ?_))
  refine pn hG 6 [0, 3, 46] [] [(46, bV true)] [] ?_
  cases h
  exact pe fl
  refine pn hG 2 [0, 3, 36, 40, 42] [] [(42, .t (.str ((a0.getD (v1).toNat default).Unit)))] [] ?_
  obtain ⟨r21, hr22, h⟩ := bnd h
  refine ca hG [] rfl rfl rfl rfl callable88 (.cons (.same _) .nil) (F88_ok n _ _ hr22) (pn hG 3 [0, 3, 46] [] [(46, bV (!r21))] [] ?_)
  cases h
  exact pe fl
  refine pn hG 10 [0, 3, 46] [] [(46, bV false)] [] ?_
  cases h
  exact pe fl
  refine then_n (iw h (fun h => ?_) (fun h => ?_))
  refine sn hG [2] [] [(2, bV false)] [] ?_
  cases h
  exact pwp_ret (blk_ret (then_ret (round_out (by simp) (And.intro rfl rt))))
  refine pwp_skip (blk_n (then_n (rn hG [0, 3] [] [(3, iV (IntKind.i64.wrap (v1 + 1)))] [] ?_)))
  cases h
  exact round_in lk
  cases h
  exact pwp_exit (then_exit (round_out (by simp) (And.intro rfl lk)))
  intro e s hq
  rcases R24 with _ | y30
  try dsimp only at h
  obtain ⟨rfl, hle⟩ := hq
  refine ⟨_, hle, blk_hit ?_⟩
  refine then_n (pwp_seq ?_)
  obtain ⟨j26, hj28, h⟩ := bnd h
  refine jn [2] [] [(2, bV j26)] [] ?_ ?_
  replace h := hj28; clear hj28
  refine pwp_region (pn hG 4 [0, 50] [] [(50, bV (decide (((a0.length : Int)) ≥ 1)))] [] (io 50 h (fun h => ?_) (fun h => ?_)))
  refine pn hG 5 [2] [] [(2, bV (decide (((a0.length : Int)) ≤ 12)))] [] ?_
  cases h
  exact pe fl
  refine pn hG 5 [2] [] [(2, bV false)] [] ?_
  cases h
  exact pe fl
  refine then_n ?_
  cases h
  exact pwp_ret rt
  try dsimp only at h
  obtain ⟨rfl, hq⟩ := hq
  cases h
  exact ⟨_, Le.refl, blk_ret (then_ret (hq))⟩

def F82 (n : Nat) (a0 : List GFunc) (a1 : List Int) (a2 : List Int) (a3 : Expr) : Option (Int × Bool) := (F55 n a0).bind fun r1 => if (!r1) = true then (some ((0, false))) else ((F78 n a0 a1 a2 a3).bind fun r4 => some ((r4.1, r4.2)))
abbrev I82 : Inf := ⟨look tiL, [], 20⟩
set_option maxRecDepth 20000 in
theorem F82_ok (n : Nat) (a0 : List GFunc) (a1 : List Int) (a2 : List Int) (a3 : Expr) (y : Int × Bool) (h : F82 n a0 a1 a2 a3 = some y) : PCall Proofs.Try.prog 82 [.t (eL cGFunc (a0)), .t (eL cInt (a1)), .t (eL cInt (a2)), .t (eExpr a3)] [] [] (Ret (.tup [.t (.int .i64 (y.1)), .t (.bool (y.2))])) := by
  refine pcall_of (I := I82) Proofs.Try.func82 rfl ti_ok Proofs.Try.ntmps82 (le_n (by kernel_rfl)) (fun E hG => ?_)
  unfold F82 at h
  refine sn hG [0, 1, 2, 7] [7] [(7, .ptr 7 0)] [(7, .box ((exprCells (a3)).map .t))] (pwp_seq (pwp_seq (pwp_region (pn hG 1 [0, 1, 2, 7, 10] [7] [(10, .t (eL cGFunc (a0)))] [] ?_))))
  obtain ⟨r1, hr2, h⟩ := bnd h
  refine ca hG [] rfl rfl rfl rfl callable55 (.cons (.same _) .nil) (F55_ok n _ _ hr2) (pn hG 1 [0, 1, 2, 7, 12] [7] [(12, bV (!r1))] [] (pe (then_n (iw h (fun h => ?_) (fun h => ?_)))))
  refine sn hG [8, 9] [] [(8, iV 0), (9, bV false)] [] ?_
  cases h
  exact pwp_ret (then_ret rt)
  refine pwp_skip (then_n (pwp_seq (pwp_region (pn hG 4 [13, 14, 15, 16] [] [(13, .t (eL cGFunc (a0))), (14, .t (eL cInt (a1))), (15, .t (eL cInt (a2))), (16, .t (eExpr a3))] [] ?_))))
  obtain ⟨r4, hr5, h⟩ := bnd h
  refine ca hG [] rfl rfl rfl rfl callable78 (.cons (.same _) (.cons (.same _) (.cons (.same _) (.cons (.same _) .nil)))) (F78_ok n _ _ _ _ _ hr5) (pn hG 4 [8, 9] [] [(8, iV r4.1), (9, bV r4.2)] [] (pe (then_n ?_)))
  cases h
  exact pwp_ret rt

def F81 (n : Nat) (a0 : List GFunc) (a1 : List Int) (a2 : Expr) : Option (Bool) := (F82 n a0 a1 (([] : List Int)) a2).bind fun r1 => Option.bind (if (r1.2) = true then (some (r1.1 == 2)) else (some (false)) : Option (Bool)) fun j3 => some (j3)
abbrev I81 : Inf := ⟨look tiL, [], 21⟩
set_option maxRecDepth 20000 in
theorem F81_ok (n : Nat) (a0 : List GFunc) (a1 : List Int) (a2 : Expr) (y : Bool) (h : F81 n a0 a1 a2 = some y) : PCall Proofs.Try.prog 81 [.t (eL cGFunc (a0)), .t (eL cInt (a1)), .t (eExpr a2)] [] [] (Ret (.t (.bool (y)))) := by
  refine pcall_of (I := I81) Proofs.Try.func81 rfl ti_ok Proofs.Try.ntmps81 (le_n (by kernel_rfl)) (fun E hG => ?_)
  unfold F81 at h
  refine sn hG [0, 1, 5] [5] [(5, .ptr 5 0)] [(5, .box ((exprCells (a2)).map .t))] (pwp_seq (pwp_region (pn hG 3 [10, 11, 12] [] [(10, .t (eL cGFunc (a0))), (11, .t (eL cInt (a1))), (12, .t (eExpr a2))] [] ?_)))
  obtain ⟨r1, hr2, h⟩ := bnd h
  refine ca hG [] (aps := [.t (eL cGFunc (a0)), .t (eL cInt (a1)), .nil, .t (eExpr a2)]) rfl rfl rfl rfl callable82 (.cons (.same _) (.cons (.same _) (.cons (.nil rfl) (.cons (.same _) .nil)))) (F82_ok n _ _ _ _ _ hr2) (pn hG 5 [7, 8] [] [(7, iV r1.1), (8, bV r1.2)] [] (pe (then_n (pwp_seq ?_))))
  obtain ⟨j3, hj5, h⟩ := bnd h
  refine jn [6] [] [(6, bV j3)] [] ?_ ?_
  replace h := hj5; clear hj5
  refine pwp_region (pn hG 2 [7, 17] [] [(17, bV r1.2)] [] (io 17 h (fun h => ?_) (fun h => ?_)))
  refine pn hG 4 [6] [] [(6, bV (r1.1 == 2))] [] ?_
  cases h
  exact pe fl
  refine pn hG 4 [6] [] [(6, bV false)] [] ?_
  cases h
  exact pe fl
  refine then_n ?_
  cases h
  exact pwp_ret rt

def F83_L0 (n : Nat) (a0 : List Int) (a1 : List Int) : Int → Option ((Int) ⊕ ((Unit) ⊕ (Bool)))
  | v1 => if (decide (v1 < ((a0.length : Int)))) = true then (Option.bind (if 0 ≤ v1 ∧ v1 < (a0.length : Int) then (if (decide ((a0.getD (v1).toNat default) < 0)) = true then (some (true)) else (if 0 ≤ v1 ∧ v1 < (a0.length : Int) then (some (decide ((a0.getD (v1).toNat default) ≥ ((a1.length : Int))))) else none)) else none : Option (Bool)) fun j3 => if (j3) = true then (some (.inr (.inr (false)))) else (some (.inl (IntKind.i64.wrap (v1 + 1))))) else (some (.inr (.inl (()))))
def F83 (n : Nat) (a0 : List Int) (a1 : List Int) : Option (Bool) := Option.bind (iterM (F83_L0 n a0 a1) n (0)) fun R10 => match R10 with | .inl (_) => (some (true)) | .inr (y12) => (some (y12))
abbrev I83 : Inf := ⟨look tiL, [], 26⟩
set_option maxRecDepth 20000 in
theorem F83_ok (n : Nat) (a0 : List Int) (a1 : List Int) (y : Bool) (h : F83 n a0 a1 = some y) : PCall Proofs.Try.prog 83 [.t (eL cInt (a0)), .t (eL cInt (a1))] [] [] (Ret (.t (.bool (y)))) := by
  refine pcall_of (I := I83) Proofs.Try.func83 rfl ti_ok Proofs.Try.ntmps83 (le_n (by kernel_rfl)) (fun E hG => ?_)
  unfold F83 at h
  refine sn hG [0, 1] [] [] [] (pwp_seq (sn hG [0, 1, 5] [] [(5, iV 0)] [] ?_))
  obtain ⟨R10, hR11, h⟩ := bnd h
  refine lp (F83_L0 n a0 a1) (fun (v1 : Int) => (⟨[(0, .t (eL cInt (a0))), (1, .t (eL cInt (a1))), (5, iV v1)], []⟩ : St)) (fun (r : (Unit) ⊕ (Bool)) (e : Exit) (s : St) => match r with | .inl (x0) => e = .exit 0 ∧ Le E s ((fun (_ : Unit) => (⟨[], []⟩ : St)) x0) | .inr (y0) => e = .ret ∧ finQ I83 Proofs.Try.f83.results.toList (Ret (bV y0)) .ret s) ?_ n (0) R10 hR11 ?_
  intro v1 x h
  rw [F83_L0] at h
  refine pwp_seq (sn hG [0, 1, 5, 9] [] [(9, bV (decide (v1 < ((a0.length : Int)))))] [] (iw h (fun h => ?_) (fun h => ?_)))
  refine pwp_skip (then_n (pwp_seq (pwp_block (pwp_seq ?_))))
  obtain ⟨j3, hj5, h⟩ := bnd h
  refine jn [0, 1, 5, 25] [] [(25, bV j3)] [] ?_ ?_
  replace h := hj5; clear hj5
  refine pwp_region ?_
  obtain ⟨hc6, h⟩ := grd h
  refine pc hG 6 [0, 1, 5, 17] [] [(17, bV (decide ((a0.getD (v1).toNat default) < 0)))] [] hc6 (io 17 h (fun h => ?_) (fun h => ?_))
  refine pn hG 8 [0, 1, 5, 25] [] [(25, bV true)] [] ?_
  cases h
  exact pe fl
  obtain ⟨hc8, h⟩ := grd h
  refine pc hG 8 [0, 1, 5, 25] [] [(25, bV (decide ((a0.getD (v1).toNat default) ≥ ((a1.length : Int)))))] [] hc8 ?_
  cases h
  exact pe fl
  refine then_n (iw h (fun h => ?_) (fun h => ?_))
  refine sn hG [4] [] [(4, bV false)] [] ?_
  cases h
  exact pwp_ret (blk_ret (then_ret (round_out (by simp) (And.intro rfl rt))))
  refine pwp_skip (blk_n (then_n (rn hG [0, 1, 5] [] [(5, iV (IntKind.i64.wrap (v1 + 1)))] [] ?_)))
  cases h
  exact round_in lk
  cases h
  exact pwp_exit (then_exit (round_out (by simp) (And.intro rfl lk)))
  intro e s hq
  rcases R10 with _ | y12
  try dsimp only at h
  obtain ⟨rfl, hle⟩ := hq
  refine ⟨_, hle, blk_hit ?_⟩
  refine then_n (sn hG [4] [] [(4, bV true)] [] ?_)
  cases h
  exact pwp_ret rt
  try dsimp only at h
  obtain ⟨rfl, hq⟩ := hq
  cases h
  exact ⟨_, Le.refl, blk_ret (then_ret (hq))⟩

def F84_L0 (n : Nat) (a0 : List Int) (a1 : List Int) : ((List Int) × Int) → Option (((List Int) × Int) ⊕ ((List Int)))
  | (v1, v2) => if (decide (v2 < ((a1.length : Int)))) = true then (if 0 ≤ v2 ∧ v2 < (a1.length : Int) then (if 0 ≤ (a1.getD (v2).toNat default) ∧ (a1.getD (v2).toNat default) < (a0.length : Int) then (if (v1.length + 1) * 8 ≤ 140737488355328 then (some (.inl ((v1 ++ ([a0.getD (a1.getD (v2).toNat default).toNat default]), IntKind.i64.wrap (v2 + 1))))) else none) else none) else none) else (some (.inr (v1)))
def F84 (n : Nat) (a0 : List Int) (a1 : List Int) : Option ((List Int)) := Option.bind (iterM (F84_L0 n a0 a1) n ((([] : List Int), 0))) fun b3 => some (b3)
abbrev I84 : Inf := ⟨look tiL, [], 24⟩
set_option maxRecDepth 20000 in
theorem F84_ok (n : Nat) (a0 : List Int) (a1 : List Int) (y : (List Int)) (h : F84 n a0 a1 = some y) : PCall Proofs.Try.prog 84 [.t (eL cInt (a0)), .t (eL cInt (a1))] [] [] (Ret (.t (eL cInt (y)))) := by
  refine pcall_of (I := I84) Proofs.Try.func84 rfl ti_ok Proofs.Try.ntmps84 (le_n (by kernel_rfl)) (fun E hG => ?_)
  unfold F84 at h
  refine sn hG [0, 1] [] [] [] (sn hG [0, 1, 5] [] [(5, .nil)] [] (pwp_seq (sn hG [0, 1, 5, 6] [] [(6, iV 0)] [] (ws ⟨[(0, .t (eL cInt (a0))), (1, .t (eL cInt (a1))), (5, .nil), (6, iV 0)], []⟩ (pwp_weak (Le.thaw (t := 5) (o := 5) (e := 3) (s := 1) (f := eF cInt ([] : List Int)) hG rfl) ?_)))))
  obtain ⟨b3, hR9, h⟩ := bnd h
  refine lp (F84_L0 n a0 a1) (fun (s : (List Int) × Int) => match s with | (v1, v2) => (⟨[(0, .t (eL cInt (a0))), (1, .t (eL cInt (a1))), (5, .own 5), (6, iV v2)], [(5, .arr 3 1 (v1.length) (eF cInt v1))]⟩ : St)) (fun (x0 : (List Int)) (e : Exit) (s : St) => e = .exit 0 ∧ Le E s ((fun (b3 : (List Int)) => (⟨[(5, .own 5)], [(5, .arr 3 1 (b3.length) (eF cInt b3))]⟩ : St)) x0)) ?_ n ((([] : List Int), 0)) b3 hR9 ?_
  rintro ⟨v1, v2⟩ x h
  rw [F84_L0] at h
  refine pwp_seq (sn hG [0, 1, 5, 6, 10] [5] [(10, bV (decide (v2 < ((a1.length : Int)))))] [] (iw h (fun h => ?_) (fun h => ?_)))
  refine pwp_skip (then_n (pwp_seq (pwp_block (pwp_region ?_))))
  obtain ⟨hc5, h⟩ := grd h
  obtain ⟨hc6, h⟩ := grd h
  obtain ⟨hc7, h⟩ := grd h
  refine pd hG 10 [0, 1, 6, 22] [22] [(22, .own 22)] [(22, .arr 3 1 (v1.length + 1) (appF (v1.length) (eF cInt v1) (arrOf [.int .i64 (a0.getD (a1.getD (v2).toNat default).toNat default)] 1)))] (Cs := [0 ≤ v2 ∧ v2 < (a1.length : Int), 0 ≤ (a1.getD (v2).toNat default) ∧ (a1.getD (v2).toNat default) < (a0.length : Int), appC (v1.length) (1) 8 1 (arrOf [.int .i64 (a0.getD (a1.getD (v2).toNat default).toNat default)] 1)]) ⟨hc5, hc6, ⟨hc7, ok_one rfl⟩⟩ (os ⟨[(0, .t (eL cInt (a0))), (1, .t (eL cInt (a1))), (6, iV v2), (22, .own 22)], [(22, .arr 3 1 (v1.length + 1) (appF (v1.length) (eF cInt v1) (arrOf [.int .i64 (a0.getD (a1.getD (v2).toNat default).toNat default)] 1)))]⟩ (pops_weak (Le.obj (o := 22) (.arr 3 1 ((v1 ++ ([a0.getD (a1.getD (v2).toNat default).toNat default])).length) (eF cInt (v1 ++ ([a0.getD (a1.getD (v2).toNat default).toNat default])))) rfl (fun _ _ _ => ObjR.row (by simp) (row_snoc cInt v1 (a0.getD (a1.getD (v2).toNat default).toNat default) _ rfl))) (pn hG 1 [0, 1, 5, 6] [22] [(5, .own 22)] [(22, .arr 3 1 ((v1 ++ ([a0.getD (a1.getD (v2).toNat default).toNat default])).length) (eF cInt (v1 ++ ([a0.getD (a1.getD (v2).toNat default).toNat default]))))] (pe (blk_n (then_n (rn hG [0, 1, 5, 6] [22] [(6, iV (IntKind.i64.wrap (v2 + 1)))] [] ?_)))))))
  cases h
  exact round_in (Le.trans (ls ⟨[(0, .t (eL cInt (a0))), (1, .t (eL cInt (a1))), (5, .own 22), (6, iV (IntKind.i64.wrap (v2 + 1)))], [(22, .arr 3 1 ((v1 ++ ([a0.getD (a1.getD (v2).toNat default).toNat default])).length) (eF cInt (v1 ++ ([a0.getD (a1.getD (v2).toNat default).toNat default]))))]⟩) (Le.trans (Le.rename (o := 22) (o' := 5) hG (by decide) rfl) lk))
  cases h
  exact pwp_exit (then_exit (round_out (by simp) (And.intro rfl lk)))
  intro e s hq
  try dsimp only at h
  obtain ⟨rfl, hle⟩ := hq
  refine ⟨_, hle, blk_hit ?_⟩
  refine then_n (sn hG [4] [5] [(4, .own 5)] [] (ws ⟨[(4, .own 5)], [(5, .arr 3 1 (b3.length) (eF cInt b3))]⟩ (pwp_weak (Le.trans (Le.freeze (o := 5) (eL cInt (b3)) rfl rfl rfl) (Le.keep (ts := [4]) (os := []) (t := ⟨[(4, .t (eL cInt (b3)))], []⟩) (by kernel_rfl))) ?_)))
  cases h
  exact pwp_ret rt

def F84s0_L0 (n : Nat) (a0 : List Int) (a1 : List Int) : ((List Int) × Int) → Option (((List Int) × Int) ⊕ ((List Int)))
  | (v1, v2) => if (decide (v2 < ((a1.length : Int)))) = true then (if 0 ≤ v2 ∧ v2 < (a1.length : Int) then (if 0 ≤ (a1.getD (v2).toNat default) ∧ (a1.getD (v2).toNat default) < (a0.length : Int) then (if (v1.length + 1) * 8 ≤ 140737488355328 then (some (.inl ((v1 ++ ([a0.getD (a1.getD (v2).toNat default).toNat default]), IntKind.i64.wrap (v2 + 1))))) else none) else none) else none) else (some (.inr (v1)))
def F84s0 (n : Nat) (a0 : List Int) (a1 : List Int) : Option ((List Int)) := Option.bind (iterM (F84s0_L0 n a0 a1) n ((([] : List Int), 0))) fun b3 => some (b3)
abbrev I84s0 : Inf := ⟨look tiL, [], 24⟩
set_option maxRecDepth 20000 in
theorem F84s0_ok (n : Nat) (a0 : List Int) (a1 : List Int) (y : (List Int)) (h : F84s0 n a0 a1 = some y) : PCall Proofs.Try.prog 84 [.t (eL cInt (a0)), .t (eL cInt (a1))] [] [] (RetH (.own 40000) [(40000, .arr 3 1 (y.length) (eF cInt y))]) := by
  refine pcall_of (I := I84s0) Proofs.Try.func84 rfl ti_ok Proofs.Try.ntmps84 (le_n (by kernel_rfl)) (fun E hG => ?_)
  unfold F84s0 at h
  refine sn hG [0, 1] [] [] [] (sn hG [0, 1, 5] [] [(5, .nil)] [] (pwp_seq (sn hG [0, 1, 5, 6] [] [(6, iV 0)] [] (ws ⟨[(0, .t (eL cInt (a0))), (1, .t (eL cInt (a1))), (5, .nil), (6, iV 0)], []⟩ (pwp_weak (Le.thaw (t := 5) (o := 5) (e := 3) (s := 1) (f := eF cInt ([] : List Int)) hG rfl) ?_)))))
  obtain ⟨b3, hR9, h⟩ := bnd h
  refine lp (F84s0_L0 n a0 a1) (fun (s : (List Int) × Int) => match s with | (v1, v2) => (⟨[(0, .t (eL cInt (a0))), (1, .t (eL cInt (a1))), (5, .own 5), (6, iV v2)], [(5, .arr 3 1 (v1.length) (eF cInt v1))]⟩ : St)) (fun (x0 : (List Int)) (e : Exit) (s : St) => e = .exit 0 ∧ Le E s ((fun (b3 : (List Int)) => (⟨[(5, .own 5)], [(5, .arr 3 1 (b3.length) (eF cInt b3))]⟩ : St)) x0)) ?_ n ((([] : List Int), 0)) b3 hR9 ?_
  rintro ⟨v1, v2⟩ x h
  rw [F84s0_L0] at h
  refine pwp_seq (sn hG [0, 1, 5, 6, 10] [5] [(10, bV (decide (v2 < ((a1.length : Int)))))] [] (iw h (fun h => ?_) (fun h => ?_)))
  refine pwp_skip (then_n (pwp_seq (pwp_block (pwp_region ?_))))
  obtain ⟨hc5, h⟩ := grd h
  obtain ⟨hc6, h⟩ := grd h
  obtain ⟨hc7, h⟩ := grd h
  refine pd hG 10 [0, 1, 6, 22] [22] [(22, .own 22)] [(22, .arr 3 1 (v1.length + 1) (appF (v1.length) (eF cInt v1) (arrOf [.int .i64 (a0.getD (a1.getD (v2).toNat default).toNat default)] 1)))] (Cs := [0 ≤ v2 ∧ v2 < (a1.length : Int), 0 ≤ (a1.getD (v2).toNat default) ∧ (a1.getD (v2).toNat default) < (a0.length : Int), appC (v1.length) (1) 8 1 (arrOf [.int .i64 (a0.getD (a1.getD (v2).toNat default).toNat default)] 1)]) ⟨hc5, hc6, ⟨hc7, ok_one rfl⟩⟩ (os ⟨[(0, .t (eL cInt (a0))), (1, .t (eL cInt (a1))), (6, iV v2), (22, .own 22)], [(22, .arr 3 1 (v1.length + 1) (appF (v1.length) (eF cInt v1) (arrOf [.int .i64 (a0.getD (a1.getD (v2).toNat default).toNat default)] 1)))]⟩ (pops_weak (Le.obj (o := 22) (.arr 3 1 ((v1 ++ ([a0.getD (a1.getD (v2).toNat default).toNat default])).length) (eF cInt (v1 ++ ([a0.getD (a1.getD (v2).toNat default).toNat default])))) rfl (fun _ _ _ => ObjR.row (by simp) (row_snoc cInt v1 (a0.getD (a1.getD (v2).toNat default).toNat default) _ rfl))) (pn hG 1 [0, 1, 5, 6] [22] [(5, .own 22)] [(22, .arr 3 1 ((v1 ++ ([a0.getD (a1.getD (v2).toNat default).toNat default])).length) (eF cInt (v1 ++ ([a0.getD (a1.getD (v2).toNat default).toNat default]))))] (pe (blk_n (then_n (rn hG [0, 1, 5, 6] [22] [(6, iV (IntKind.i64.wrap (v2 + 1)))] [] ?_)))))))
  cases h
  exact round_in (Le.trans (ls ⟨[(0, .t (eL cInt (a0))), (1, .t (eL cInt (a1))), (5, .own 22), (6, iV (IntKind.i64.wrap (v2 + 1)))], [(22, .arr 3 1 ((v1 ++ ([a0.getD (a1.getD (v2).toNat default).toNat default])).length) (eF cInt (v1 ++ ([a0.getD (a1.getD (v2).toNat default).toNat default]))))]⟩) (Le.trans (Le.rename (o := 22) (o' := 5) hG (by decide) rfl) lk))
  cases h
  exact pwp_exit (then_exit (round_out (by simp) (And.intro rfl lk)))
  intro e s hq
  try dsimp only at h
  obtain ⟨rfl, hle⟩ := hq
  refine ⟨_, hle, blk_hit ?_⟩
  refine then_n (sn hG [4] [5] [(4, .own 5)] [] (ws ⟨[(4, .own 5)], [(5, .arr 3 1 (b3.length) (eF cInt b3))]⟩ (pwp_weak (Le.rn hG (o := 5) (o' := 40000) rfl) (kw [4] [40000] ?_))))
  cases h
  exact pwp_ret (retH_at [40000] (.inr rfl) (by kernel_rfl))

def F58_L0 (n : Nat) (a0 : List GFunc) (a1 : GNode) (a2 : List Int) : ((List Int) × Int) → Option (((List Int) × Int) ⊕ (((List Int)) ⊕ ((List Int) × Bool)))
  | (v21, v22) => if (decide (v22 < ((a1.Exprs.length : Int)))) = true then (if 0 ≤ v22 ∧ v22 < (a1.Exprs.length : Int) then ((F82 n a0 a2 (([] : List Int)) (a1.Exprs.getD (v22).toNat default)).bind fun r26 => if (!r26.2) = true then (some (.inr (.inr ((([] : List Int), false))))) else (if (v21.length + 1) * 8 ≤ 140737488355328 then (some (.inl ((v21 ++ ([r26.1]), IntKind.i64.wrap (v22 + 1))))) else none)) else none) else (some (.inr (.inl (v21))))
def F58_L1 (n : Nat) (a0 : List GFunc) (a1 : GNode) (a2 : List Int) : ((List Int) × Int) → Option (((List Int) × Int) ⊕ (((List Int)) ⊕ ((List Int) × Bool)))
  | (v68, v69) => if (decide (v69 < ((a1.Seq.length : Int)))) = true then (Option.bind (if 0 ≤ v69 ∧ v69 < (a1.Seq.length : Int) then (if (decide (((a1.Seq.getD (v69).toNat default).Rep) < 0)) = true then (some ((v68, true))) else (if 0 ≤ v69 ∧ v69 < (a1.Seq.length : Int) then (if (decide (((a1.Seq.getD (v69).toNat default).Rep) > 2)) = true then (some ((v68, true))) else (if 0 ≤ v69 ∧ v69 < (a1.Seq.length : Int) then ((F81 n a0 a2 ((a1.Seq.getD (v69).toNat default).Pred)).bind fun r81 => some ((v68, !r81))) else none)) else none)) else none : Option ((List Int) × Bool)) fun J74 => match J74 with | (j72, j73) => (if (j73) = true then (some (.inr (.inr ((([] : List Int), false))))) else (some (.inl ((j72, IntKind.i64.wrap (v69 + 1))))))) else (some (.inr (.inl (v68))))
def F58_L2 (n : Nat) (a1 : GNode) (a2 : List Int) : ((List Int) × Int) → Option (((List Int) × Int) ⊕ (((List Int)) ⊕ ((List Int) × Bool)))
  | (v89, v90) => if (decide (v90 < ((a1.Aggs.length : Int)))) = true then (Option.bind (if 0 ≤ v90 ∧ v90 < (a1.Aggs.length : Int) then (Option.bind (if (decide (((a1.Aggs.getD (v90).toNat default).Kind) < 0)) = true then (some ((v89, true))) else (if (decide (((a1.Aggs.getD (v90).toNat default).Kind) > 3)) = true then (some ((v89, true))) else (if (((a1.Aggs.getD (v90).toNat default).Kind) == 0) = true then (if (((a1.Aggs.getD (v90).toNat default).Col) != 0) = true then (some ((v89, true))) else (if (((a1.Aggs.getD (v90).toNat default).Kind) != 0) = true then (if (decide (((a1.Aggs.getD (v90).toNat default).Col) < 0)) = true then (some ((v89, true))) else (some ((v89, decide (((a1.Aggs.getD (v90).toNat default).Col) ≥ ((a2.length : Int))))))) else (some ((v89, false))))) else (if (((a1.Aggs.getD (v90).toNat default).Kind) != 0) = true then (if (decide (((a1.Aggs.getD (v90).toNat default).Col) < 0)) = true then (some ((v89, true))) else (some ((v89, decide (((a1.Aggs.getD (v90).toNat default).Col) ≥ ((a2.length : Int))))))) else (some ((v89, false)))))) : Option ((List Int) × Bool)) fun J99 => match J99 with | (j97, j98) => (if (j98) = true then (some (.inr (.inr ((([] : List Int), false))))) else (if (((a1.Aggs.getD (v90).toNat default).Kind) == 0) = true then (if (j97.length + 1) * 8 ≤ 140737488355328 then (some (.inl (j97 ++ ([0])))) else none) else (Option.bind (if (((a1.Aggs.getD (v90).toNat default).Kind) == 1) = true then (if 0 ≤ ((a1.Aggs.getD (v90).toNat default).Col) ∧ ((a1.Aggs.getD (v90).toNat default).Col) < (a2.length : Int) then (some ((j97, (a2.getD ((a1.Aggs.getD (v90).toNat default).Col).toNat default) != 0))) else none) else (some ((j97, false))) : Option ((List Int) × Bool)) fun J114 => match J114 with | (j112, j113) => (if (j113) = true then (some (.inr (.inr ((([] : List Int), false))))) else (if 0 ≤ ((a1.Aggs.getD (v90).toNat default).Col) ∧ ((a1.Aggs.getD (v90).toNat default).Col) < (a2.length : Int) then (if (j112.length + 1) * 8 ≤ 140737488355328 then (some (.inl (j112 ++ ([a2.getD ((a1.Aggs.getD (v90).toNat default).Col).toNat default])))) else none) else none)))))) else none : Option (((List Int)) ⊕ (((List Int)) ⊕ ((List Int) × Bool)))) fun J94 => match J94 with | .inl j93 => (some (.inl ((j93, IntKind.i64.wrap (v90 + 1))))) | .inr y121 => some (.inr (y121))) else (some (.inr (.inl (v89))))
def F58 (n : Nat) (a0 : List GFunc) (a1 : GNode) (a2 : List Int) (a3 : List Int) : Option ((List Int) × Bool) := if (a1.Op == 0) = true then (Option.bind ((F37 n a1.Cols).bind fun r6 => (F79 n a1.Source).bind fun r8 => if (r8) = true then (if (decide (a1.Schema ≥ 1)) = true then (if (decide (a1.Schema ≤ 50)) = true then ((F80 n a1.Cols).bind fun r13 => some ((r6, r13))) else (some ((r6, false)))) else (some ((r6, false)))) else (some ((r6, false))) : Option ((List Int) × Bool)) fun J4 => match J4 with | (j2, j3) => (some ((j2, j3)))) else (if (a1.Op == 1) = true then (if (((a1.Exprs.length : Int)) != 1) = true then (some ((([] : List Int), false))) else (if 0 ≤ ((0 : Int)) ∧ ((0 : Int)) < (a1.Exprs.length : Int) then ((F81 n a0 a2 (a1.Exprs.getD ((0 : Int)).toNat default)).bind fun r18 => some ((a2, r18))) else none)) else (if (a1.Op == 2) = true then (Option.bind (iterM (F58_L0 n a0 a1 a2) n ((([] : List Int), 0))) fun R30 => match R30 with | .inl (b23) => (some ((b23, true))) | .inr (y32) => (some (y32))) else (if (a1.Op == 3) = true then ((F36 n a2 a3).bind fun r34 => some ((a2, r34))) else (if (a1.Op == 5) = true then (Option.bind ((F83 n a1.Key a2).bind fun r40 => if (r40) = true then (if (decide (a1.Step ≥ 0)) = true then (some (decide (a1.Step < ((a2.length : Int))))) else (some (false))) else (some (false)) : Option (Bool)) fun j37 => some ((a2, j37))) else (Option.bind ((F83 n a1.Key a2).bind fun r47 => if (!r47) = true then (some (true)) else ((F83 n a1.Key2 a3).bind fun r50 => some (!r50)) : Option (Bool)) fun j44 => if (j44) = true then (some ((([] : List Int), false))) else ((F84s0 n a2 a1.Key).bind fun r53 => Option.bind (if (a1.Op == 6) = true then (some ((r53, true))) else (some ((r53, a1.Op == 7))) : Option ((List Int) × Bool)) fun J57 => match J57 with | (j55, j56) => (if (j56) = true then (if (0 + a2.length) * 8 ≤ 140737488355328 then (if (0 + a2.length + a3.length) * 8 ≤ 140737488355328 then ((F84 n a3 a1.Key2).bind fun r63 => (F36 n j55 r63).bind fun r65 => some ((((([] : List Int)) ++ a2) ++ a3, r65))) else none) else none) else (if (a1.Op == 8) = true then (Option.bind (iterM (F58_L1 n a0 a1 a2) n ((j55, 0))) fun R84 => match R84 with | .inl (b70) => (if (b70.length + 2) * 8 ≤ 140737488355328 then (some ((b70 ++ ([0, 0]), true))) else none) | .inr (y87) => (some (y87))) else (if (j55.length + 1) * 8 ≤ 140737488355328 then (Option.bind (iterM (F58_L2 n a1 a2) n ((j55 ++ ([0]), 0))) fun R122 => match R122 with | .inl (b91) => (Option.bind (if (decide (a1.Kind ≥ 0)) = true then (some ((b91, decide (a1.Kind ≤ 2)))) else (some ((b91, false))) : Option ((List Int) × Bool)) fun J126 => match J126 with | (j124, j125) => (some ((j124, j125)))) | .inr (y129) => (some (y129))) else none)))))))))
abbrev I58 : Inf := ⟨look tiL, [], 269⟩
set_option maxRecDepth 20000 in
theorem F58_ok (n : Nat) (a0 : List GFunc) (a1 : GNode) (a2 : List Int) (a3 : List Int) (y : (List Int) × Bool) (h : F58 n a0 a1 a2 a3 = some y) : PCall Proofs.Try.prog 58 [.t (eL cGFunc (a0)), .t (eGNode a1), .t (eL cInt (a2)), .t (eL cInt (a3))] [] [] (Ret (.tup [.t (eL cInt (y.1)), .t (.bool (y.2))])) := by
  refine pcall_of (I := I58) Proofs.Try.func58 rfl ti_ok Proofs.Try.ntmps58 (le_n (by kernel_rfl)) (fun E hG => ?_)
  unfold F58 at h
  refine sn hG [0, 2, 3, 5] [5] [(5, .ptr 5 0)] [(5, .box ((cGNode (a1)).map .t))] (pwp_seq (sn hG [0, 2, 3, 5, 19] [5] [(19, iV a1.Op)] [] (pwp_block (sn hG [0, 2, 3, 5, 19, 20] [5] [(20, bV (a1.Op == 0))] [] (iw h (fun h => ?_) (fun h => ?_))))))
  refine pwp_seq ?_
  obtain ⟨J4, hj5, h⟩ := bnd h
  obtain ⟨j2, j3⟩ := J4
  try dsimp only at h
  refine jn [8, 9] [] [(8, .t (eL cInt (j2))), (9, bV j3)] [] ?_ ?_
  replace h := hj5; clear hj5
  obtain ⟨r6, hr7, h⟩ := bnd h
  obtain ⟨r8, hr9, h⟩ := bnd h
  refine (Bool.eq_false_or_eq_true (r8)).elim (fun hb10 => ?_) (fun hb10 => ?_)
  have h := ite_t hb10 h
  refine (Bool.eq_false_or_eq_true (decide (a1.Schema ≥ 1))).elim (fun hb11 => ?_) (fun hb11 => ?_)
  have h := ite_t hb11 h
  refine (Bool.eq_false_or_eq_true (decide (a1.Schema ≤ 50))).elim (fun hb12 => ?_) (fun hb12 => ?_)
  have h := ite_t hb12 h
  obtain ⟨r13, hr14, h⟩ := bnd h
  refine ln hG [(2, 37, [.t (eL cGCol (a1.Cols))], .t (eL cInt (r6))), (5, 79, [.t (.str (a1.Source))], bV r8), (19, 80, [.t (eL cGCol (a1.Cols))], bV r13)] [(6, (r8, true)), (11, (decide (a1.Schema ≥ 1), true)), (16, (decide (a1.Schema ≤ 50), true))] [] [(5, false, [])] [0, 2, 3, 5, 19, 20] (.cons ⟨callable37, ⟨_, fun _ => (.cons (.same _) .nil), F37_ok n _ _ hr7⟩, rfl⟩ (.cons ⟨callable79, ⟨_, fun _ => (.cons (.same _) .nil), F79_ok n _ _ hr9⟩, rfl⟩ (.cons ⟨callable80, ⟨_, fun _ => (.cons (.same _) .nil), F80_ok n _ _ hr14⟩, rfl⟩ .nil))) (.cons hb10 (.cons hb11 (.cons hb12 .nil))) .nil [8, 9] [] [(8, .t (eL cInt (r6))), (9, bV r13)] [] ?_
  injection h with q0
  injection q0 with p1 q1
  subst p1
  subst q1
  exact fl
  have h := ite_f hb12 h
  refine ln hG [(2, 37, [.t (eL cGCol (a1.Cols))], .t (eL cInt (r6))), (5, 79, [.t (.str (a1.Source))], bV r8)] [(6, (r8, true)), (11, (decide (a1.Schema ≥ 1), true)), (16, (decide (a1.Schema ≤ 50), false))] [] [(5, false, [])] [0, 2, 3, 5, 19, 20] (.cons ⟨callable37, ⟨_, fun _ => (.cons (.same _) .nil), F37_ok n _ _ hr7⟩, rfl⟩ (.cons ⟨callable79, ⟨_, fun _ => (.cons (.same _) .nil), F79_ok n _ _ hr9⟩, rfl⟩ .nil)) (.cons hb10 (.cons hb11 (.cons hb12 .nil))) .nil [8, 9] [] [(8, .t (eL cInt (r6))), (9, bV false)] [] ?_
  injection h with q0
  injection q0 with p1 q1
  subst p1
  subst q1
  exact fl
  have h := ite_f hb11 h
  refine ln hG [(2, 37, [.t (eL cGCol (a1.Cols))], .t (eL cInt (r6))), (5, 79, [.t (.str (a1.Source))], bV r8)] [(6, (r8, true)), (11, (decide (a1.Schema ≥ 1), false))] [] [(5, false, [])] [0, 2, 3, 5, 19, 20] (.cons ⟨callable37, ⟨_, fun _ => (.cons (.same _) .nil), F37_ok n _ _ hr7⟩, rfl⟩ (.cons ⟨callable79, ⟨_, fun _ => (.cons (.same _) .nil), F79_ok n _ _ hr9⟩, rfl⟩ .nil)) (.cons hb10 (.cons hb11 .nil)) .nil [8, 9] [] [(8, .t (eL cInt (r6))), (9, bV false)] [] ?_
  injection h with q0
  injection q0 with p1 q1
  subst p1
  subst q1
  exact fl
  have h := ite_f hb10 h
  refine ln hG [(2, 37, [.t (eL cGCol (a1.Cols))], .t (eL cInt (r6))), (5, 79, [.t (.str (a1.Source))], bV r8)] [(6, (r8, false))] [] [(5, false, [])] [0, 2, 3, 5, 19, 20] (.cons ⟨callable37, ⟨_, fun _ => (.cons (.same _) .nil), F37_ok n _ _ hr7⟩, rfl⟩ (.cons ⟨callable79, ⟨_, fun _ => (.cons (.same _) .nil), F79_ok n _ _ hr9⟩, rfl⟩ .nil)) (.cons hb10 .nil) .nil [8, 9] [] [(8, .t (eL cInt (r6))), (9, bV false)] [] ?_
  injection h with q0
  injection q0 with p1 q1
  subst p1
  subst q1
  exact fl
  refine then_n ?_
  cases h
  exact pwp_ret (blk_ret (then_ret rt))
  refine sn hG [0, 2, 3, 5, 19, 43] [5] [(43, bV (a1.Op == 1))] [] (iw h (fun h => ?_) (fun h => ?_))
  refine pwp_seq (sn hG [0, 2, 5, 48] [5] [(48, bV (((a1.Exprs.length : Int)) != 1))] [] (iw h (fun h => ?_) (fun h => ?_)))
  refine sn hG [8, 9] [] [(8, .nil), (9, bV false)] [] (ws ⟨[(8, .nil), (9, bV false)], []⟩ (pwp_weak (Le.slot (t := 8) (.t (eL cInt (([] : List Int)))) rfl (le_nil rfl)) ?_))
  cases h
  exact pwp_ret (then_ret (blk_ret (then_ret rt)))
  refine pwp_skip (then_n (pwp_seq (pwp_region ?_)))
  obtain ⟨hc17, h⟩ := grd h
  refine pc hG 7 [49, 50, 51, 55] [] [(49, .t (eL cInt (a2))), (50, .t (eL cGFunc (a0))), (51, .t (eL cInt (a2))), (55, .t (eExpr (a1.Exprs.getD ((0 : Int)).toNat default)))] [] hc17 ?_
  obtain ⟨r18, hr19, h⟩ := bnd h
  refine ca hG [] rfl rfl rfl rfl callable81 (.cons (.same _) (.cons (.same _) (.cons (.same _) .nil))) (F81_ok n _ _ _ _ hr19) (pn hG 2 [8, 9] [] [(8, .t (eL cInt (a2))), (9, bV r18)] [] (pe (then_n ?_)))
  cases h
  exact pwp_ret (blk_ret (then_ret rt))
  refine sn hG [0, 2, 3, 5, 19, 57] [5] [(57, bV (a1.Op == 2))] [] (iw h (fun h => ?_) (fun h => ?_))
  refine sn hG [0, 2, 5, 10] [5] [(10, .nil)] [] (pwp_seq (sn hG [0, 2, 5, 10, 11] [5] [(11, iV 0)] [] (ws ⟨[(0, .t (eL cGFunc (a0))), (2, .t (eL cInt (a2))), (5, .ptr 5 0), (10, .nil), (11, iV 0)], [(5, .box ((cGNode (a1)).map .t))]⟩ (pwp_weak (Le.thaw (t := 10) (o := 10) (e := 3) (s := 1) (f := eF cInt ([] : List Int)) hG rfl) ?_))))
  obtain ⟨R30, hR31, h⟩ := bnd h
  refine lp (F58_L0 n a0 a1 a2) (fun (s : (List Int) × Int) => match s with | (v21, v22) => (⟨[(0, .t (eL cGFunc (a0))), (2, .t (eL cInt (a2))), (5, .ptr 5 0), (10, .own 10), (11, iV v22)], [(5, .box ((cGNode (a1)).map .t)), (10, .arr 3 1 (v21.length) (eF cInt v21))]⟩ : St)) (fun (r : ((List Int)) ⊕ ((List Int) × Bool)) (e : Exit) (s : St) => match r with | .inl (x0) => e = .exit 1 ∧ Le E s ((fun (b23 : (List Int)) => (⟨[(10, .own 10)], [(10, .arr 3 1 (b23.length) (eF cInt b23))]⟩ : St)) x0) | .inr (y0) => e = .ret ∧ finQ I58 Proofs.Try.f58.results.toList (Ret (.tup [.t (eL cInt (y0.1)), bV y0.2])) .ret s) ?_ n ((([] : List Int), 0)) R30 hR31 ?_
  rintro ⟨v21, v22⟩ x h
  rw [F58_L0] at h
  refine pwp_seq (sn hG [0, 2, 5, 10, 11, 63] [5, 10] [(63, bV (decide (v22 < ((a1.Exprs.length : Int)))))] [] (iw h (fun h => ?_) (fun h => ?_)))
  refine pwp_skip (then_n (pwp_seq (pwp_block (pwp_seq (pwp_region ?_)))))
  obtain ⟨hc25, h⟩ := grd h
  refine pc hG 7 [0, 2, 5, 10, 11, 67, 68, 73] [5, 10] [(67, .t (eL cGFunc (a0))), (68, .t (eL cInt (a2))), (73, .t (eExpr (a1.Exprs.getD (v22).toNat default)))] [] hc25 ?_
  obtain ⟨r26, hr27, h⟩ := bnd h
  refine ca hG [] (aps := [.t (eL cGFunc (a0)), .t (eL cInt (a2)), .nil, .t (eExpr (a1.Exprs.getD (v22).toNat default))]) rfl rfl rfl rfl callable82 (.cons (.same _) (.cons (.same _) (.cons (.nil rfl) (.cons (.same _) .nil)))) (F82_ok n _ _ _ _ _ hr27) (pn hG 5 [0, 2, 5, 10, 11, 12, 13] [5, 10] [(12, iV r26.1), (13, bV r26.2)] [] (pe (then_n (pwp_seq (sn hG [0, 2, 5, 10, 11, 12, 78] [5, 10] [(78, bV (!r26.2))] [] (iw h (fun h => ?_) (fun h => ?_)))))))
  refine sn hG [8, 9] [] [(8, .nil), (9, bV false)] [] (ws ⟨[(8, .nil), (9, bV false)], []⟩ (pwp_weak (Le.slot (t := 8) (.t (eL cInt (([] : List Int)))) rfl (le_nil rfl)) ?_))
  cases h
  exact pwp_ret (then_ret (blk_ret (then_ret (round_out (by simp) (And.intro rfl rt)))))
  refine pwp_skip (then_n (pwp_region ?_))
  obtain ⟨hc29, h⟩ := grd h
  refine pd hG 4 [0, 2, 5, 11, 82] [5, 82] [(82, .own 82)] [(82, .arr 3 1 (v21.length + 1) (appF (v21.length) (eF cInt v21) (arrOf [.int .i64 (r26.1)] 1)))] (Cs := [appC (v21.length) (1) 8 1 (arrOf [.int .i64 (r26.1)] 1)]) ⟨hc29, ok_one rfl⟩ (os ⟨[(0, .t (eL cGFunc (a0))), (2, .t (eL cInt (a2))), (5, .ptr 5 0), (11, iV v22), (82, .own 82)], [(5, .box ((cGNode (a1)).map .t)), (82, .arr 3 1 (v21.length + 1) (appF (v21.length) (eF cInt v21) (arrOf [.int .i64 (r26.1)] 1)))]⟩ (pops_weak (Le.obj (o := 82) (.arr 3 1 ((v21 ++ ([r26.1])).length) (eF cInt (v21 ++ ([r26.1])))) rfl (fun _ _ _ => ObjR.row (by simp) (row_snoc cInt v21 r26.1 _ rfl))) (pn hG 1 [0, 2, 5, 10, 11] [5, 82] [(10, .own 82)] [(82, .arr 3 1 ((v21 ++ ([r26.1])).length) (eF cInt (v21 ++ ([r26.1]))))] (pe (blk_n (then_n (rn hG [0, 2, 5, 10, 11] [5, 82] [(11, iV (IntKind.i64.wrap (v22 + 1)))] [] ?_)))))))
  cases h
  exact round_in (Le.trans (ls ⟨[(0, .t (eL cGFunc (a0))), (2, .t (eL cInt (a2))), (5, .ptr 5 0), (10, .own 82), (11, iV (IntKind.i64.wrap (v22 + 1)))], [(5, .box ((cGNode (a1)).map .t)), (82, .arr 3 1 ((v21 ++ ([r26.1])).length) (eF cInt (v21 ++ ([r26.1]))))]⟩) (Le.trans (Le.rename (o := 82) (o' := 10) hG (by decide) rfl) lk))
  cases h
  exact pwp_exit (then_exit (round_out (by simp) (And.intro rfl lk)))
  intro e s hq
  rcases R30 with b23 | y32
  try dsimp only at h
  obtain ⟨rfl, hle⟩ := hq
  refine ⟨_, hle, blk_hit ?_⟩
  refine then_n (sn hG [8, 9] [10] [(8, .own 10), (9, bV true)] [] (ws ⟨[(8, .own 10), (9, bV true)], [(10, .arr 3 1 (b23.length) (eF cInt b23))]⟩ (pwp_weak (Le.trans (Le.freeze (o := 10) (eL cInt (b23)) rfl rfl rfl) (Le.keep (ts := [8, 9]) (os := []) (t := ⟨[(8, .t (eL cInt (b23))), (9, bV true)], []⟩) (by kernel_rfl))) ?_)))
  cases h
  exact pwp_ret (blk_ret (then_ret rt))
  try dsimp only at h
  obtain ⟨rfl, hq⟩ := hq
  cases h
  exact ⟨_, Le.refl, blk_ret (then_ret (blk_ret (then_ret (hq))))⟩
  refine sn hG [0, 2, 3, 5, 19, 84] [5] [(84, bV (a1.Op == 3))] [] (iw h (fun h => ?_) (fun h => ?_))
  refine pwp_seq (pwp_region (pn hG 3 [86, 87, 88] [] [(86, .t (eL cInt (a2))), (87, .t (eL cInt (a2))), (88, .t (eL cInt (a3)))] [] ?_))
  obtain ⟨r34, hr35, h⟩ := bnd h
  refine ca hG [] rfl rfl rfl rfl callable36 (.cons (.same _) (.cons (.same _) .nil)) (F36_ok n _ _ _ hr35) (pn hG 2 [8, 9] [] [(8, .t (eL cInt (a2))), (9, bV r34)] [] (pe (then_n ?_)))
  cases h
  exact pwp_ret (blk_ret (then_ret rt))
  refine sn hG [0, 2, 3, 5, 90] [5] [(90, bV (a1.Op == 5))] [] (iw h (fun h => ?_) (fun h => ?_))
  refine pwp_seq ?_
  obtain ⟨j37, hj39, h⟩ := bnd h
  refine jn [8, 9] [] [(8, .t (eL cInt (a2))), (9, bV j37)] [] ?_ ?_
  replace h := hj39; clear hj39
  obtain ⟨r40, hr41, h⟩ := bnd h
  refine (Bool.eq_false_or_eq_true (r40)).elim (fun hb42 => ?_) (fun hb42 => ?_)
  have h := ite_t hb42 h
  refine (Bool.eq_false_or_eq_true (decide (a1.Step ≥ 0))).elim (fun hb43 => ?_) (fun hb43 => ?_)
  have h := ite_t hb43 h
  refine ln hG [(4, 83, [.t (eL cInt (a1.Key)), .t (eL cInt (a2))], bV r40)] [(5, (r40, true)), (10, (decide (a1.Step ≥ 0), true))] [] [(5, false, [])] [0, 2, 3, 5, 90] (.cons ⟨callable83, ⟨_, fun _ => (.cons (.same _) (.cons (.same _) .nil)), F83_ok n _ _ _ hr41⟩, rfl⟩ .nil) (.cons hb42 (.cons hb43 .nil)) .nil [8, 9] [] [(8, .t (eL cInt (a2))), (9, bV (decide (a1.Step < ((a2.length : Int)))))] [] ?_
  cases h
  exact fl
  have h := ite_f hb43 h
  refine ln hG [(4, 83, [.t (eL cInt (a1.Key)), .t (eL cInt (a2))], bV r40)] [(5, (r40, true)), (10, (decide (a1.Step ≥ 0), false))] [] [(5, false, [])] [0, 2, 3, 5, 90] (.cons ⟨callable83, ⟨_, fun _ => (.cons (.same _) (.cons (.same _) .nil)), F83_ok n _ _ _ hr41⟩, rfl⟩ .nil) (.cons hb42 (.cons hb43 .nil)) .nil [8, 9] [] [(8, .t (eL cInt (a2))), (9, bV false)] [] ?_
  cases h
  exact fl
  have h := ite_f hb42 h
  refine ln hG [(4, 83, [.t (eL cInt (a1.Key)), .t (eL cInt (a2))], bV r40)] [(5, (r40, false))] [] [(5, false, [])] [0, 2, 3, 5, 90] (.cons ⟨callable83, ⟨_, fun _ => (.cons (.same _) (.cons (.same _) .nil)), F83_ok n _ _ _ hr41⟩, rfl⟩ .nil) (.cons hb42 .nil) .nil [8, 9] [] [(8, .t (eL cInt (a2))), (9, bV false)] [] ?_
  cases h
  exact fl
  refine then_n ?_
  cases h
  exact pwp_ret (blk_ret (then_ret rt))
  refine pwp_skip (blk_n (then_n (pwp_seq (pwp_seq ?_))))
  obtain ⟨j44, hj46, h⟩ := bnd h
  refine jn [0, 2, 3, 5, 120] [5] [(120, bV j44)] [] ?_ ?_
  replace h := hj46; clear hj46
  refine pwp_region (pn hG 3 [0, 2, 3, 5, 110, 111] [5] [(110, .t (eL cInt (a1.Key))), (111, .t (eL cInt (a2)))] [] ?_)
  obtain ⟨r47, hr48, h⟩ := bnd h
  refine ca hG [] rfl rfl rfl rfl callable83 (.cons (.same _) (.cons (.same _) .nil)) (F83_ok n _ _ _ hr48) (pn hG 2 [0, 2, 3, 5, 114] [5] [(114, bV (!r47))] [] (io 114 h (fun h => ?_) (fun h => ?_)))
  refine pn hG 6 [0, 2, 3, 5, 120] [5] [(120, bV true)] [] ?_
  cases h
  exact pe fl
  refine pn hG 3 [0, 2, 3, 5, 114, 116, 117] [5] [(116, .t (eL cInt (a1.Key2))), (117, .t (eL cInt (a3)))] [] ?_
  obtain ⟨r50, hr51, h⟩ := bnd h
  refine ca hG [] rfl rfl rfl rfl callable83 (.cons (.same _) (.cons (.same _) .nil)) (F83_ok n _ _ _ hr51) (pn hG 2 [0, 2, 3, 5, 120] [5] [(120, bV (!r50))] [] ?_)
  cases h
  exact pe fl
  refine then_n (iw h (fun h => ?_) (fun h => ?_))
  refine sn hG [8, 9] [] [(8, .nil), (9, bV false)] [] (ws ⟨[(8, .nil), (9, bV false)], []⟩ (pwp_weak (Le.slot (t := 8) (.t (eL cInt (([] : List Int)))) rfl (le_nil rfl)) ?_))
  cases h
  exact pwp_ret (then_ret rt)
  refine pwp_skip (then_n (pwp_seq (pwp_region (pn hG 3 [0, 2, 3, 5, 121, 123] [5] [(121, .t (eL cInt (a2))), (123, .t (eL cInt (a1.Key)))] [] ?_))))
  obtain ⟨r53, hr54, h⟩ := bnd h
  refine ch hG [] [] [40000] (nf := 0) (caps := []) (aps := [.t (eL cInt (a2)), .t (eL cInt (a1.Key))]) rfl rfl rfl rfl callable84 (.cons (.same _) (.cons (.same _) .nil)) (F84s0_ok n _ _ _ hr54) (ko [0, 2, 3, 5, 121, 123, 124] [5, 40000] (os ⟨[(0, .t (eL cGFunc (a0))), (2, .t (eL cInt (a2))), (3, .t (eL cInt (a3))), (5, .ptr 5 0), (121, .t (eL cInt (a2))), (123, .t (eL cInt (a1.Key))), (124, .own 40000)], [(5, .box ((cGNode (a1)).map .t)), (40000, .arr 3 1 (r53.length) (eF cInt r53))]⟩ (pops_weak (Le.rn hG (o := 40000) (o' := 124) rfl) (pn hG 1 [0, 2, 3, 5, 14] [5, 124] [(14, .own 124)] [(124, .arr 3 1 (r53.length) (eF cInt r53))] (pe (then_n (pwp_seq (pwp_seq ?_))))))))
  obtain ⟨J57, hj58, h⟩ := bnd h
  obtain ⟨j55, j56⟩ := J57
  try dsimp only at h
  refine jn [0, 2, 3, 5, 14, 132] [5, 14] [(14, .own 14), (132, bV j56)] [(14, .arr 3 1 (j55.length) (eF cInt j55))] ?_ ?_
  replace h := hj58; clear hj58
  refine pwp_region (pn hG 4 [0, 2, 3, 5, 14, 128] [5, 124] [(128, bV (a1.Op == 6))] [] (io 128 h (fun h => ?_) (fun h => ?_)))
  refine pn hG 4 [0, 2, 3, 5, 14, 132] [5, 124] [(132, bV true)] [] ?_
  injection h with q0
  injection q0 with p1 q1
  subst p1
  subst q1
  exact pe (fall (Le.trans (ls ⟨[(0, .t (eL cGFunc (a0))), (2, .t (eL cInt (a2))), (3, .t (eL cInt (a3))), (5, .ptr 5 0), (14, .own 124), (132, bV true)], [(5, .box ((cGNode (a1)).map .t)), (124, .arr 3 1 (r53.length) (eF cInt r53))]⟩) (Le.trans (Le.rename (o := 124) (o' := 14) hG (by decide) rfl) lk)))
  refine pn hG 4 [0, 2, 3, 5, 14, 132] [5, 124] [(132, bV (a1.Op == 7))] [] ?_
  injection h with q0
  injection q0 with p1 q1
  subst p1
  subst q1
  exact pe (fall (Le.trans (ls ⟨[(0, .t (eL cGFunc (a0))), (2, .t (eL cInt (a2))), (3, .t (eL cInt (a3))), (5, .ptr 5 0), (14, .own 124), (132, bV (a1.Op == 7))], [(5, .box ((cGNode (a1)).map .t)), (124, .arr 3 1 (r53.length) (eF cInt r53))]⟩) (Le.trans (Le.rename (o := 124) (o' := 14) hG (by decide) rfl) lk)))
  refine then_n (iw h (fun h => ?_) (fun h => ?_))
  refine pwp_seq (ws ⟨[(0, .t (eL cGFunc (a0))), (2, .t (eL cInt (a2))), (3, .t (eL cInt (a3))), (5, .ptr 5 0), (14, .own 14), (132, bV j56)], [(5, .box ((cGNode (a1)).map .t)), (14, .arr 3 1 (j55.length) (eF cInt j55))]⟩ (pwp_weak (Le.trans (Le.freeze (o := 14) (eL cInt (j55)) rfl rfl rfl) (Le.keep (ts := [0, 2, 3, 5, 14, 132]) (os := [5]) (t := ⟨[(0, .t (eL cGFunc (a0))), (2, .t (eL cInt (a2))), (3, .t (eL cInt (a3))), (5, .ptr 5 0), (14, .t (eL cInt (j55))), (132, bV j56)], [(5, .box ((cGNode (a1)).map .t))]⟩) (by kernel_rfl))) ?_))
  obtain ⟨hc61, h⟩ := grd h
  obtain ⟨hc62, h⟩ := grd h
  obtain ⟨r63, hr64, h⟩ := bnd h
  obtain ⟨r65, hr66, h⟩ := bnd h
  refine pwp_draw hG (by kernel_rfl) ⟨[], [(9, 84, [.t (eL cInt (a3)), .t (eL cInt (a1.Key2))], .t (eL cInt (r63))), (10, 36, [.t (eL cInt (j55)), .t (eL cInt (r63))], bV r65)], [(2, [appC (0) (a2.length) 8 1 (eF cInt a2)]), (4, [appC (0 + a2.length) (a3.length) 8 1 (eF cInt a3)])], []⟩ (.cons ⟨callable84, ⟨_, fun _ => (.cons (.same _) (.cons (.same _) .nil)), F84_ok n _ _ _ hr64⟩, rfl⟩ (.cons ⟨callable36, ⟨_, fun _ => (.cons (.same _) (.cons (.same _) .nil)), F36_ok n _ _ _ hr66⟩, rfl⟩ .nil)) .nil (.cons ⟨hc61, ok_eF (fun _ => rfl)⟩ (.cons ⟨hc62, ok_eF (fun _ => rfl)⟩ .nil)) [0, 2, 3, 5, 8, 9, 14, 132, 133, 134, 135, 136, 137, 138, 139, 140, 141, 142, 143] [5, 133, 135, 137] [8, 9] [137] (stF := ⟨[(8, .own 137), (9, bV r65)], [(137, .arr 3 1 (0 + a2.length + a3.length) (appF (0 + a2.length) (appF (0) (arrOf [] 1) (eF cInt a2)) (eF cInt a3)))]⟩) (by kernel_rfl) (then_n (pwp_weak (Le.obj (o := 137) (.arr 3 1 ((((([] : List Int)) ++ a2) ++ a3).length) (eF cInt (((([] : List Int)) ++ a2) ++ a3))) rfl (fun _ _ _ => ObjR.row (by simp) (row_app_of cInt ((([] : List Int)) ++ a2) a3 (by simp) (by simp) (row_app_of cInt ([]) a2 (by simp) (by simp) (row_zero cInt _) (fun _ _ => rfl)) (fun _ _ => rfl)))) (pwp_weak (Le.trans (Le.freeze (o := 137) (eL cInt (((([] : List Int)) ++ a2) ++ a3)) rfl rfl rfl) (Le.keep (ts := [8, 9]) (os := []) (t := ⟨[(8, .t (eL cInt (((([] : List Int)) ++ a2) ++ a3))), (9, bV r65)], []⟩) (by kernel_rfl))) ?_)))
  cases h
  exact pwp_ret (then_ret rt)
  refine pwp_skip (then_n (pwp_seq (sn hG [0, 2, 5, 14, 146] [5, 14] [(146, bV (a1.Op == 8))] [] (iw h (fun h => ?_) (fun h => ?_)))))
  refine pwp_seq (sn hG [0, 2, 5, 14, 15] [5, 14] [(15, iV 0)] [] ?_)
  obtain ⟨R84, hR85, h⟩ := bnd h
  refine lp (F58_L1 n a0 a1 a2) (fun (s : (List Int) × Int) => match s with | (v68, v69) => (⟨[(0, .t (eL cGFunc (a0))), (2, .t (eL cInt (a2))), (5, .ptr 5 0), (14, .own 14), (15, iV v69)], [(5, .box ((cGNode (a1)).map .t)), (14, .arr 3 1 (v68.length) (eF cInt v68))]⟩ : St)) (fun (r : ((List Int)) ⊕ ((List Int) × Bool)) (e : Exit) (s : St) => match r with | .inl (x0) => e = .exit 3 ∧ Le E s ((fun (b70 : (List Int)) => (⟨[(14, .own 14)], [(14, .arr 3 1 (b70.length) (eF cInt b70))]⟩ : St)) x0) | .inr (y0) => e = .ret ∧ finQ I58 Proofs.Try.f58.results.toList (Ret (.tup [.t (eL cInt (y0.1)), bV y0.2])) .ret s) ?_ n ((j55, 0)) R84 hR85 ?_
  rintro ⟨v68, v69⟩ x h
  rw [F58_L1] at h
  refine pwp_seq (sn hG [0, 2, 5, 14, 15, 151] [5, 14] [(151, bV (decide (v69 < ((a1.Seq.length : Int)))))] [] (iw h (fun h => ?_) (fun h => ?_)))
  refine pwp_skip (then_n (pwp_seq (pwp_block (pwp_seq ?_))))
  obtain ⟨J74, hj75, h⟩ := bnd h
  obtain ⟨j72, j73⟩ := J74
  try dsimp only at h
  refine jn [0, 2, 5, 14, 15, 181] [5, 14] [(181, bV j73)] [(14, .arr 3 1 (j72.length) (eF cInt j72))] ?_ ?_
  replace h := hj75; clear hj75
  refine pwp_region ?_
  obtain ⟨hc76, h⟩ := grd h
  refine pc hG 8 [0, 2, 5, 14, 15, 161] [5, 14] [(161, bV (decide (((a1.Seq.getD (v69).toNat default).Rep) < 0)))] [] hc76 (io 161 h (fun h => ?_) (fun h => ?_))
  refine pn hG 20 [0, 2, 5, 14, 15, 181] [5, 14] [(181, bV true)] [] ?_
  injection h with q0
  injection q0 with p1 q1
  subst p1
  subst q1
  exact pe fl
  obtain ⟨hc78, h⟩ := grd h
  refine pc hG 9 [0, 2, 5, 14, 15, 170] [5, 14] [(170, bV (decide (((a1.Seq.getD (v69).toNat default).Rep) > 2)))] [] hc78 (io 170 h (fun h => ?_) (fun h => ?_))
  refine pn hG 11 [0, 2, 5, 14, 15, 181] [5, 14] [(181, bV true)] [] ?_
  injection h with q0
  injection q0 with p1 q1
  subst p1
  subst q1
  exact pe fl
  obtain ⟨hc80, h⟩ := grd h
  refine pc hG 8 [0, 2, 5, 14, 15, 170, 171, 172, 178] [5, 14] [(171, .t (eL cGFunc (a0))), (172, .t (eL cInt (a2))), (178, .t (eExpr ((a1.Seq.getD (v69).toNat default).Pred)))] [] hc80 ?_
  obtain ⟨r81, hr82, h⟩ := bnd h
  refine ca hG [] rfl rfl rfl rfl callable81 (.cons (.same _) (.cons (.same _) (.cons (.same _) .nil))) (F81_ok n _ _ _ _ hr82) (pn hG 2 [0, 2, 5, 14, 15, 181] [5, 14] [(181, bV (!r81))] [] ?_)
  injection h with q0
  injection q0 with p1 q1
  subst p1
  subst q1
  exact pe fl
  refine then_n (iw h (fun h => ?_) (fun h => ?_))
  refine sn hG [8, 9] [] [(8, .nil), (9, bV false)] [] (ws ⟨[(8, .nil), (9, bV false)], []⟩ (pwp_weak (Le.slot (t := 8) (.t (eL cInt (([] : List Int)))) rfl (le_nil rfl)) ?_))
  cases h
  exact pwp_ret (blk_ret (then_ret (round_out (by simp) (And.intro rfl rt))))
  refine pwp_skip (blk_n (then_n (rn hG [0, 2, 5, 14, 15] [5, 14] [(15, iV (IntKind.i64.wrap (v69 + 1)))] [] ?_)))
  cases h
  exact round_in lk
  cases h
  exact pwp_exit (then_exit (round_out (by simp) (And.intro rfl lk)))
  intro e s hq
  rcases R84 with b70 | y87
  try dsimp only at h
  obtain ⟨rfl, hle⟩ := hq
  refine ⟨_, hle, blk_hit ?_⟩
  refine then_n (pwp_seq (pwp_region ?_))
  obtain ⟨hc86, h⟩ := grd h
  refine pd hG 3 [184] [184] [(184, .own 184)] [(184, .arr 3 1 (b70.length + 2) (appF (b70.length) (eF cInt b70) (arrOf [.int .i64 (0), .int .i64 (0)] 1)))] (Cs := [appC (b70.length) (2) 8 1 (arrOf [.int .i64 (0), .int .i64 (0)] 1)]) ⟨hc86, fun i hi => by match i, hi with | 0, _ => rfl | 1, _ => rfl⟩ (os ⟨[(184, .own 184)], [(184, .arr 3 1 (b70.length + 2) (appF (b70.length) (eF cInt b70) (arrOf [.int .i64 (0), .int .i64 (0)] 1)))]⟩ (pops_weak (Le.obj (o := 184) (.arr 3 1 ((b70 ++ ([0, 0])).length) (eF cInt (b70 ++ ([0, 0])))) rfl (fun _ _ _ => ObjR.row (by simp) (row_app_of cInt b70 ([0, 0]) (by simp) (by simp) (fun _ _ => rfl) (fun i hi => by match i, hi with | 0, _ => rfl | 1, _ => rfl)))) (pn hG 2 [8, 9] [184] [(8, .own 184), (9, bV true)] [(184, .arr 3 1 ((b70 ++ ([0, 0])).length) (eF cInt (b70 ++ ([0, 0]))))] (pe (then_n (ws ⟨[(8, .own 184), (9, bV true)], [(184, .arr 3 1 ((b70 ++ ([0, 0])).length) (eF cInt (b70 ++ ([0, 0]))))]⟩ (pwp_weak (Le.trans (Le.freeze (o := 184) (eL cInt (b70 ++ ([0, 0]))) rfl rfl rfl) (Le.keep (ts := [8, 9]) (os := []) (t := ⟨[(8, .t (eL cInt (b70 ++ ([0, 0])))), (9, bV true)], []⟩) (by kernel_rfl))) ?_)))))))
  cases h
  exact pwp_ret (then_ret rt)
  try dsimp only at h
  obtain ⟨rfl, hq⟩ := hq
  cases h
  exact ⟨_, Le.refl, blk_ret (then_ret (then_ret (hq)))⟩
  refine pwp_skip (then_n (pwp_seq (pwp_region ?_)))
  obtain ⟨hc88, h⟩ := grd h
  refine pd hG 3 [2, 5, 187] [5, 187] [(187, .own 187)] [(187, .arr 3 1 (j55.length + 1) (appF (j55.length) (eF cInt j55) (arrOf [.int .i64 (0)] 1)))] (Cs := [appC (j55.length) (1) 8 1 (arrOf [.int .i64 (0)] 1)]) ⟨hc88, ok_one rfl⟩ (os ⟨[(2, .t (eL cInt (a2))), (5, .ptr 5 0), (187, .own 187)], [(5, .box ((cGNode (a1)).map .t)), (187, .arr 3 1 (j55.length + 1) (appF (j55.length) (eF cInt j55) (arrOf [.int .i64 (0)] 1)))]⟩ (pops_weak (Le.obj (o := 187) (.arr 3 1 ((j55 ++ ([0])).length) (eF cInt (j55 ++ ([0])))) rfl (fun _ _ _ => ObjR.row (by simp) (row_snoc cInt j55 0 _ rfl))) (pn hG 1 [2, 5, 14] [5, 187] [(14, .own 187)] [(187, .arr 3 1 ((j55 ++ ([0])).length) (eF cInt (j55 ++ ([0]))))] (pe (then_n (pwp_seq (sn hG [2, 5, 14, 16] [5, 187] [(16, iV 0)] [] (ws ⟨[(2, .t (eL cInt (a2))), (5, .ptr 5 0), (14, .own 187), (16, iV 0)], [(5, .box ((cGNode (a1)).map .t)), (187, .arr 3 1 ((j55 ++ ([0])).length) (eF cInt (j55 ++ ([0]))))]⟩ ?_))))))))
  refine pwp_weak (Le.rename (o := 187) (o' := 14) hG (by decide) rfl) ?_
  obtain ⟨R122, hR123, h⟩ := bnd h
  refine lp (F58_L2 n a1 a2) (fun (s : (List Int) × Int) => match s with | (v89, v90) => (⟨[(2, .t (eL cInt (a2))), (5, .ptr 5 0), (14, .own 14), (16, iV v90)], [(5, .box ((cGNode (a1)).map .t)), (14, .arr 3 1 (v89.length) (eF cInt v89))]⟩ : St)) (fun (r : ((List Int)) ⊕ ((List Int) × Bool)) (e : Exit) (s : St) => match r with | .inl (x0) => e = .exit 5 ∧ Le E s ((fun (b91 : (List Int)) => (⟨[(5, .ptr 5 0), (14, .own 14)], [(5, .box ((cGNode (a1)).map .t)), (14, .arr 3 1 (b91.length) (eF cInt b91))]⟩ : St)) x0) | .inr (y0) => e = .ret ∧ finQ I58 Proofs.Try.f58.results.toList (Ret (.tup [.t (eL cInt (y0.1)), bV y0.2])) .ret s) ?_ n ((j55 ++ ([0]), 0)) R122 hR123 ?_
  rintro ⟨v89, v90⟩ x h
  rw [F58_L2] at h
  refine pwp_seq (sn hG [2, 5, 14, 16, 192] [5, 14] [(192, bV (decide (v90 < ((a1.Aggs.length : Int)))))] [] (iw h (fun h => ?_) (fun h => ?_)))
  refine pwp_skip (then_n (pwp_seq ?_))
  obtain ⟨J94, hj95, h⟩ := bnd h
  refine pwp_piece (tm := (fun (j93 : (List Int)) => (⟨[(2, .t (eL cInt (a2))), (5, .ptr 5 0), (14, .own 14), (16, iV v90)], [(5, .box ((cGNode (a1)).map .t)), (14, .arr 3 1 (j93.length) (eF cInt j93))]⟩ : St))) (Out := fun y e s => e ≠ .normal ∧ (fun (r : ((List Int)) ⊕ ((List Int) × Bool)) (e : Exit) (s : St) => match r with | .inl (x0) => e = .exit 5 ∧ Le E s ((fun (b91 : (List Int)) => (⟨[(5, .ptr 5 0), (14, .own 14)], [(5, .box ((cGNode (a1)).map .t)), (14, .arr 3 1 (b91.length) (eF cInt b91))]⟩ : St)) x0) | .inr (y0) => e = .ret ∧ finQ I58 Proofs.Try.f58.results.toList (Ret (.tup [.t (eL cInt (y0.1)), bV y0.2])) .ret s) y e s) (x := J94) ?_ ?_ ?_
  replace h := hj95; clear hj95
  refine pwp_block (pwp_seq (pwp_region ?_))
  obtain ⟨hc96, h⟩ := grd h
  refine pc hG 7 [2, 5, 14, 16, 17] [5, 14, 17] [(17, .ptr 17 0)] [(17, .box ((cGAgg (a1.Aggs.getD (v90).toNat default)).map .t))] hc96 (pe (then_n (pwp_seq (pwp_seq ?_))))
  obtain ⟨J99, hj100, h⟩ := bnd h
  obtain ⟨j97, j98⟩ := J99
  try dsimp only at h
  refine jn [2, 5, 14, 16, 17, 234] [5, 14, 17] [(234, bV j98)] [(14, .arr 3 1 (j97.length) (eF cInt j97))] ?_ ?_
  replace h := hj100; clear hj100
  refine pwp_region (pn hG 4 [2, 5, 14, 16, 17, 203] [5, 14, 17] [(203, bV (decide (((a1.Aggs.getD (v90).toNat default).Kind) < 0)))] [] (io 203 h (fun h => ?_) (fun h => ?_)))
  refine pn hG 31 [2, 5, 14, 16, 17, 234] [5, 14, 17] [(234, bV true)] [] ?_
  injection h with q0
  injection q0 with p1 q1
  subst p1
  subst q1
  exact pe fl
  refine pn hG 5 [2, 5, 14, 16, 17, 208] [5, 14, 17] [(208, bV (decide (((a1.Aggs.getD (v90).toNat default).Kind) > 3)))] [] (io 208 h (fun h => ?_) (fun h => ?_))
  refine pn hG 26 [2, 5, 14, 16, 17, 234] [5, 14, 17] [(234, bV true)] [] ?_
  injection h with q0
  injection q0 with p1 q1
  subst p1
  subst q1
  exact pe fl
  refine pn hG 4 [2, 5, 14, 16, 17, 208, 212] [5, 14, 17] [(212, bV (((a1.Aggs.getD (v90).toNat default).Kind) == 0))] [] (io 212 h (fun h => ?_) (fun h => ?_))
  refine pn hG 6 [2, 5, 14, 16, 17, 218] [5, 14, 17] [(218, bV (((a1.Aggs.getD (v90).toNat default).Col) != 0))] [] (io 218 h (fun h => ?_) (fun h => ?_))
  refine pn hG 16 [2, 5, 14, 16, 17, 234] [5, 14, 17] [(234, bV true)] [] ?_
  injection h with q0
  injection q0 with p1 q1
  subst p1
  subst q1
  exact pe fl
  refine pn hG 4 [2, 5, 14, 16, 17, 218, 222] [5, 14, 17] [(222, bV (((a1.Aggs.getD (v90).toNat default).Kind) != 0))] [] (io 222 h (fun h => ?_) (fun h => ?_))
  refine pn hG 4 [2, 5, 14, 16, 17, 218, 222, 226] [5, 14, 17] [(226, bV (decide (((a1.Aggs.getD (v90).toNat default).Col) < 0)))] [] (io 226 h (fun h => ?_) (fun h => ?_))
  refine pn hG 8 [2, 5, 14, 16, 17, 234] [5, 14, 17] [(234, bV true)] [] ?_
  injection h with q0
  injection q0 with p1 q1
  subst p1
  subst q1
  exact pe fl
  refine pn hG 8 [2, 5, 14, 16, 17, 234] [5, 14, 17] [(234, bV (decide (((a1.Aggs.getD (v90).toNat default).Col) ≥ ((a2.length : Int)))))] [] ?_
  injection h with q0
  injection q0 with p1 q1
  subst p1
  subst q1
  exact pe fl
  refine pn hG 12 [2, 5, 14, 16, 17, 234] [5, 14, 17] [(234, bV false)] [] ?_
  injection h with q0
  injection q0 with p1 q1
  subst p1
  subst q1
  exact pe fl
  refine pn hG 10 [2, 5, 14, 16, 17, 218, 222] [5, 14, 17] [(218, bV false), (222, bV (((a1.Aggs.getD (v90).toNat default).Kind) != 0))] [] (io 222 h (fun h => ?_) (fun h => ?_))
  refine pn hG 4 [2, 5, 14, 16, 17, 218, 222, 226] [5, 14, 17] [(226, bV (decide (((a1.Aggs.getD (v90).toNat default).Col) < 0)))] [] (io 226 h (fun h => ?_) (fun h => ?_))
  refine pn hG 8 [2, 5, 14, 16, 17, 234] [5, 14, 17] [(234, bV true)] [] ?_
  injection h with q0
  injection q0 with p1 q1
  subst p1
  subst q1
  exact pe fl
  refine pn hG 8 [2, 5, 14, 16, 17, 234] [5, 14, 17] [(234, bV (decide (((a1.Aggs.getD (v90).toNat default).Col) ≥ ((a2.length : Int)))))] [] ?_
  injection h with q0
  injection q0 with p1 q1
  subst p1
  subst q1
  exact pe fl
  refine pn hG 12 [2, 5, 14, 16, 17, 234] [5, 14, 17] [(234, bV false)] [] ?_
  injection h with q0
  injection q0 with p1 q1
  subst p1
  subst q1
  exact pe fl
  refine then_n (iw h (fun h => ?_) (fun h => ?_))
  refine sn hG [8, 9] [] [(8, .nil), (9, bV false)] [] (ws ⟨[(8, .nil), (9, bV false)], []⟩ (pwp_weak (Le.slot (t := 8) (.t (eL cInt (([] : List Int)))) rfl (le_nil rfl)) ?_))
  cases h
  exact pwp_ret (then_ret (blk_ret (piece_out (And.intro (by simp) (And.intro rfl rt)))))
  refine pwp_skip (then_n (pwp_seq (sn hG [2, 5, 14, 16, 17, 237] [5, 14, 17] [(237, bV (((a1.Aggs.getD (v90).toNat default).Kind) == 0))] [] (iw h (fun h => ?_) (fun h => ?_)))))
  refine pwp_seq (pwp_region ?_)
  obtain ⟨hc111, h⟩ := grd h
  refine pd hG 3 [2, 5, 16, 240] [5, 240] [(240, .own 240)] [(240, .arr 3 1 (j97.length + 1) (appF (j97.length) (eF cInt j97) (arrOf [.int .i64 (0)] 1)))] (Cs := [appC (j97.length) (1) 8 1 (arrOf [.int .i64 (0)] 1)]) ⟨hc111, ok_one rfl⟩ (os ⟨[(2, .t (eL cInt (a2))), (5, .ptr 5 0), (16, iV v90), (240, .own 240)], [(5, .box ((cGNode (a1)).map .t)), (240, .arr 3 1 (j97.length + 1) (appF (j97.length) (eF cInt j97) (arrOf [.int .i64 (0)] 1)))]⟩ (pops_weak (Le.obj (o := 240) (.arr 3 1 ((j97 ++ ([0])).length) (eF cInt (j97 ++ ([0])))) rfl (fun _ _ _ => ObjR.row (by simp) (row_snoc cInt j97 0 _ rfl))) (pn hG 1 [2, 5, 14, 16] [5, 240] [(14, .own 240)] [(240, .arr 3 1 ((j97 ++ ([0])).length) (eF cInt (j97 ++ ([0]))))] (pe (then_n (pwp_exit (then_exit (blk_hit ?_))))))))
  cases h
  exact piece_in (Le.trans (ls ⟨[(2, .t (eL cInt (a2))), (5, .ptr 5 0), (14, .own 240), (16, iV v90)], [(5, .box ((cGNode (a1)).map .t)), (240, .arr 3 1 ((j97 ++ ([0])).length) (eF cInt (j97 ++ ([0]))))]⟩) (Le.trans (Le.rename (o := 240) (o' := 14) hG (by decide) rfl) lk))
  refine pwp_skip (then_n (pwp_seq (pwp_seq ?_)))
  obtain ⟨J114, hj115, h⟩ := bnd h
  obtain ⟨j112, j113⟩ := J114
  try dsimp only at h
  refine jn [2, 5, 14, 16, 17, 251] [5, 14, 17] [(251, bV j113)] [(14, .arr 3 1 (j112.length) (eF cInt j112))] ?_ ?_
  replace h := hj115; clear hj115
  refine pwp_region (pn hG 4 [2, 5, 14, 16, 17, 244] [5, 14, 17] [(244, bV (((a1.Aggs.getD (v90).toNat default).Kind) == 1))] [] (io 244 h (fun h => ?_) (fun h => ?_)))
  obtain ⟨hc117, h⟩ := grd h
  refine pc hG 7 [2, 5, 14, 16, 17, 251] [5, 14, 17] [(251, bV ((a2.getD ((a1.Aggs.getD (v90).toNat default).Col).toNat default) != 0))] [] hc117 ?_
  injection h with q0
  injection q0 with p1 q1
  subst p1
  subst q1
  exact pe fl
  refine pn hG 7 [2, 5, 14, 16, 17, 251] [5, 14, 17] [(251, bV false)] [] ?_
  injection h with q0
  injection q0 with p1 q1
  subst p1
  subst q1
  exact pe fl
  refine then_n (iw h (fun h => ?_) (fun h => ?_))
  refine sn hG [8, 9] [] [(8, .nil), (9, bV false)] [] (ws ⟨[(8, .nil), (9, bV false)], []⟩ (pwp_weak (Le.slot (t := 8) (.t (eL cInt (([] : List Int)))) rfl (le_nil rfl)) ?_))
  cases h
  exact pwp_ret (then_ret (blk_ret (piece_out (And.intro (by simp) (And.intro rfl rt)))))
  refine pwp_skip (then_n (pwp_region ?_))
  obtain ⟨hc119, h⟩ := grd h
  obtain ⟨hc120, h⟩ := grd h
  refine pd hG 8 [2, 5, 16, 259] [5, 259] [(259, .own 259)] [(259, .arr 3 1 (j112.length + 1) (appF (j112.length) (eF cInt j112) (arrOf [.int .i64 (a2.getD ((a1.Aggs.getD (v90).toNat default).Col).toNat default)] 1)))] (Cs := [0 ≤ ((a1.Aggs.getD (v90).toNat default).Col) ∧ ((a1.Aggs.getD (v90).toNat default).Col) < (a2.length : Int), appC (j112.length) (1) 8 1 (arrOf [.int .i64 (a2.getD ((a1.Aggs.getD (v90).toNat default).Col).toNat default)] 1)]) ⟨hc119, ⟨hc120, ok_one rfl⟩⟩ (os ⟨[(2, .t (eL cInt (a2))), (5, .ptr 5 0), (16, iV v90), (259, .own 259)], [(5, .box ((cGNode (a1)).map .t)), (259, .arr 3 1 (j112.length + 1) (appF (j112.length) (eF cInt j112) (arrOf [.int .i64 (a2.getD ((a1.Aggs.getD (v90).toNat default).Col).toNat default)] 1)))]⟩ (pops_weak (Le.obj (o := 259) (.arr 3 1 ((j112 ++ ([a2.getD ((a1.Aggs.getD (v90).toNat default).Col).toNat default])).length) (eF cInt (j112 ++ ([a2.getD ((a1.Aggs.getD (v90).toNat default).Col).toNat default])))) rfl (fun _ _ _ => ObjR.row (by simp) (row_snoc cInt j112 (a2.getD ((a1.Aggs.getD (v90).toNat default).Col).toNat default) _ rfl))) (pn hG 1 [2, 5, 14, 16] [5, 259] [(14, .own 259)] [(259, .arr 3 1 ((j112 ++ ([a2.getD ((a1.Aggs.getD (v90).toNat default).Col).toNat default])).length) (eF cInt (j112 ++ ([a2.getD ((a1.Aggs.getD (v90).toNat default).Col).toNat default]))))] (pe (blk_n ?_)))))
  cases h
  exact piece_in (Le.trans (ls ⟨[(2, .t (eL cInt (a2))), (5, .ptr 5 0), (14, .own 259), (16, iV v90)], [(5, .box ((cGNode (a1)).map .t)), (259, .arr 3 1 ((j112 ++ ([a2.getD ((a1.Aggs.getD (v90).toNat default).Col).toNat default])).length) (eF cInt (j112 ++ ([a2.getD ((a1.Aggs.getD (v90).toNat default).Col).toNat default]))))]⟩) (Le.trans (Le.rename (o := 259) (o' := 14) hG (by decide) rfl) lk))
  intro j93 hx
  subst hx
  try dsimp only at h
  refine then_n (rn hG [2, 5, 14, 16] [5, 14] [(16, iV (IntKind.i64.wrap (v90 + 1)))] [] ?_)
  cases h
  exact round_in lk
  rintro y121 e s hx hq
  subst hx
  try dsimp only at h
  cases h
  rcases y121 with y121 | y121
  obtain ⟨hne, rfl, hq⟩ := hq
  exact ⟨_, Le.refl, then_exit (round_out (by simp) (And.intro rfl (hq)))⟩
  obtain ⟨hne, rfl, hq⟩ := hq
  exact ⟨_, Le.refl, then_ret (round_out (by simp) (And.intro rfl (hq)))⟩
  cases h
  exact pwp_exit (then_exit (round_out (by simp) (And.intro rfl lk)))
  intro e s hq
  rcases R122 with b91 | y129
  try dsimp only at h
  obtain ⟨rfl, hle⟩ := hq
  refine ⟨_, hle, blk_hit ?_⟩
  refine then_n (pwp_seq ?_)
  obtain ⟨J126, hj127, h⟩ := bnd h
  obtain ⟨j124, j125⟩ := J126
  try dsimp only at h
  refine jn [8, 9] [8] [(8, .own 8), (9, bV j125)] [(8, .arr 3 1 (j124.length) (eF cInt j124))] ?_ ?_
  replace h := hj127; clear hj127
  refine (Bool.eq_false_or_eq_true (decide (a1.Kind ≥ 0))).elim (fun hb128 => ?_) (fun hb128 => ?_)
  have h := ite_t hb128 h
  refine ln hG [] [(4, (decide (a1.Kind ≥ 0), true))] [] [(5, false, []), (14, false, [])] [5, 14] .nil (.cons hb128 .nil) .nil [8, 9] [14] [(8, .own 14), (9, bV (decide (a1.Kind ≤ 2)))] [] ?_
  injection h with q0
  injection q0 with p1 q1
  subst p1
  subst q1
  exact fall (Le.trans (ls ⟨[(8, .own 14), (9, bV (decide (a1.Kind ≤ 2)))], [(14, .arr 3 1 (b91.length) (eF cInt b91))]⟩) (Le.trans (Le.rename (o := 14) (o' := 8) hG (by decide) rfl) lk))
  have h := ite_f hb128 h
  refine ln hG [] [(4, (decide (a1.Kind ≥ 0), false))] [] [(5, false, []), (14, false, [])] [5, 14] .nil (.cons hb128 .nil) .nil [8, 9] [14] [(8, .own 14), (9, bV false)] [] ?_
  injection h with q0
  injection q0 with p1 q1
  subst p1
  subst q1
  exact fall (Le.trans (ls ⟨[(8, .own 14), (9, bV false)], [(14, .arr 3 1 (b91.length) (eF cInt b91))]⟩) (Le.trans (Le.rename (o := 14) (o' := 8) hG (by decide) rfl) lk))
  refine then_n (ws ⟨[(8, .own 8), (9, bV j125)], [(8, .arr 3 1 (j124.length) (eF cInt j124))]⟩ (pwp_weak (Le.trans (Le.freeze (o := 8) (eL cInt (j124)) rfl rfl rfl) (Le.keep (ts := [8, 9]) (os := []) (t := ⟨[(8, .t (eL cInt (j124))), (9, bV j125)], []⟩) (by kernel_rfl))) ?_))
  cases h
  exact pwp_ret rt
  try dsimp only at h
  obtain ⟨rfl, hq⟩ := hq
  cases h
  exact ⟨_, Le.refl, blk_ret (then_ret (hq))⟩

def F59 : Nat → Int → Option (ByteArray)
  | 0, _ => none
  | n + 1, a0 => Option.bind (if (decide (a0 ≥ 0)) = true then (some (decide (a0 < 10))) else (some (false)) : Option (Bool)) fun j1 => if (j1) = true then (some (bstr (([IntKind.u8.wrap (IntKind.i64.wrap (48 + a0))]).length) (eF cU8 ([IntKind.u8.wrap (IntKind.i64.wrap (48 + a0))])))) else (if (decide (a0 > 0)) = true then (((F59 n) (IntKind.i64.wrap (Int.tdiv a0 10))).bind fun r7 => ((F59 n) (Int.tmod a0 10)).bind fun r9 => if ((r7.size + r9.size : Nat) : Int) ≤ 9223372036854775807 then (some (r7 ++ r9)) else none) else (if (decide (a0 > ((-10)))) = true then (((F59 n) (IntKind.i64.wrap (0 - a0))).bind fun r13 => if ((((⟨#[45]⟩) : ByteArray).size + r13.size : Nat) : Int) ≤ 9223372036854775807 then (some (((⟨#[45]⟩) : ByteArray) ++ r13)) else none) else (((F59 n) (IntKind.i64.wrap (Int.tdiv a0 10))).bind fun r16 => ((F59 n) (IntKind.i64.wrap (0 - (Int.tmod a0 10)))).bind fun r18 => if ((r16.size + r18.size : Nat) : Int) ≤ 9223372036854775807 then (some (r16 ++ r18)) else none)))
abbrev I59 : Inf := ⟨look tiL, [], 37⟩
set_option maxRecDepth 20000 in
theorem F59_ok (n : Nat) : ∀ (a0 : Int) (y : ByteArray) (_ : F59 n a0 = some y), PCall Proofs.Try.prog 59 [.t (.int .i64 (a0))] [] [] (Ret (.t (.str (y)))) := by
  induction n with
  | zero => intro a0 y h; cases h
  | succ n ih =>
  intro a0 y h
  refine pcall_of (I := I59) Proofs.Try.func59 rfl ti_ok Proofs.Try.ntmps59 (le_n (by kernel_rfl)) (fun E hG => ?_)
  rw [F59] at h
  refine sn hG [0] [] [] [] (pwp_seq (pwp_seq ?_))
  obtain ⟨j1, hj3, h⟩ := bnd h
  refine jn [0, 8] [] [(8, bV j1)] [] ?_ ?_
  replace h := hj3; clear hj3
  refine pwp_region (pn hG 3 [0, 5] [] [(5, bV (decide (a0 ≥ 0)))] [] (io 5 h (fun h => ?_) (fun h => ?_)))
  refine pn hG 3 [0, 8] [] [(8, bV (decide (a0 < 10)))] [] ?_
  cases h
  exact pe fl
  refine pn hG 3 [0, 8] [] [(8, bV false)] [] ?_
  cases h
  exact pe fl
  refine then_n (iw h (fun h => ?_) (fun h => ?_))
  refine pwp_seq (pwp_region (pn hG 4 [12] [12] [(12, .own 12)] [(12, .arr 5 1 (1) (arrOf [.int .u8 (IntKind.u8.wrap (IntKind.i64.wrap (48 + a0)))] 1))] (os ⟨[(12, .own 12)], [(12, .arr 5 1 (1) (arrOf [.int .u8 (IntKind.u8.wrap (IntKind.i64.wrap (48 + a0)))] 1))]⟩ (pops_weak (Le.obj (o := 12) (.arr 5 1 (([IntKind.u8.wrap (IntKind.i64.wrap (48 + a0))]).length) (eF cU8 ([IntKind.u8.wrap (IntKind.i64.wrap (48 + a0))]))) rfl (fun _ _ _ => ObjR.row (by simp) (row_one cU8 (IntKind.u8.wrap (IntKind.i64.wrap (48 + a0))) _ rfl))) (pd hG 2 [2] [] [(2, .t (.str (bstr (([IntKind.u8.wrap (IntKind.i64.wrap (48 + a0))]).length) (eF cU8 ([IntKind.u8.wrap (IntKind.i64.wrap (48 + a0))])))))] [] (Cs := [∀ i, i < ([IntKind.u8.wrap (IntKind.i64.wrap (48 + a0))]).length → isU8 ((eF cU8 ([IntKind.u8.wrap (IntKind.i64.wrap (48 + a0))])) i) = true]) (fun _ _ => rfl) (pe (then_n ?_)))))))
  cases h
  exact pwp_ret (then_ret rt)
  refine pwp_skip (then_n (pwp_seq (sn hG [0, 15] [] [(15, bV (decide (a0 > 0)))] [] (iw h (fun h => ?_) (fun h => ?_)))))
  refine pwp_seq (pwp_region (pd hG 2 [0, 17] [] [(17, iV (IntKind.i64.wrap (Int.tdiv a0 10)))] [] (Cs := [(10 : Int) ≠ 0]) (show (10 : Int) ≠ 0 by decide) ?_))
  obtain ⟨r7, hr8, h⟩ := bnd h
  refine ca hG [] rfl rfl rfl rfl callable59 (.cons (.same _) .nil) (ih _ _ hr8) (pd hG 2 [18, 20] [] [(18, .t (.str (r7))), (20, iV (Int.tmod a0 10))] [] (Cs := [(10 : Int) ≠ 0]) (show (10 : Int) ≠ 0 by decide) ?_)
  obtain ⟨r9, hr10, h⟩ := bnd h
  refine ca hG [] rfl rfl rfl rfl callable59 (.cons (.same _) .nil) (ih _ _ hr10) ?_
  obtain ⟨hc11, h⟩ := grd h
  refine pc hG 2 [2] [] [(2, .t (.str (r7 ++ r9)))] [] hc11 (pe (then_n ?_))
  cases h
  exact pwp_ret (then_ret rt)
  refine pwp_skip (then_n (pwp_seq (sn hG [0, 24] [] [(24, bV (decide (a0 > ((-10)))))] [] (iw h (fun h => ?_) (fun h => ?_)))))
  refine pwp_seq (pwp_region (pn hG 2 [26] [] [(26, iV (IntKind.i64.wrap (0 - a0)))] [] ?_))
  obtain ⟨r13, hr14, h⟩ := bnd h
  refine ca hG [] rfl rfl rfl rfl callable59 (.cons (.same _) .nil) (ih _ _ hr14) ?_
  obtain ⟨hc15, h⟩ := grd h
  refine pc hG 2 [2] [] [(2, .t (.str (((⟨#[45]⟩) : ByteArray) ++ r13)))] [] hc15 (pe (then_n ?_))
  cases h
  exact pwp_ret (then_ret rt)
  refine pwp_skip (then_n (pwp_seq (pwp_region (pd hG 2 [0, 30] [] [(30, iV (IntKind.i64.wrap (Int.tdiv a0 10)))] [] (Cs := [(10 : Int) ≠ 0]) (show (10 : Int) ≠ 0 by decide) ?_))))
  obtain ⟨r16, hr17, h⟩ := bnd h
  refine ca hG [] rfl rfl rfl rfl callable59 (.cons (.same _) .nil) (ih _ _ hr17) (pd hG 3 [31, 34] [] [(31, .t (.str (r16))), (34, iV (IntKind.i64.wrap (0 - (Int.tmod a0 10))))] [] (Cs := [(10 : Int) ≠ 0]) (show (10 : Int) ≠ 0 by decide) ?_)
  obtain ⟨r18, hr19, h⟩ := bnd h
  refine ca hG [] rfl rfl rfl rfl callable59 (.cons (.same _) .nil) (ih _ _ hr19) ?_
  obtain ⟨hc20, h⟩ := grd h
  refine pc hG 2 [2] [] [(2, .t (.str (r16 ++ r18)))] [] hc20 (pe (then_n ?_))
  cases h
  exact pwp_ret rt

def F35_L1 (n : Nat) (a0 : GProgram) (v13 : Int) : ((List GFunc) × (List GNode) × (List GNode) × (List (List Int)) × (List Int) × (List Int) × Int) → Option (((List GFunc) × (List GNode) × (List GNode) × (List (List Int)) × (List Int) × (List Int) × Int) ⊕ (((List GFunc) × (List GNode) × (List GNode) × Int × (List Int) × ByteArray × Int × (List Expr) × Int × Int × Int × (List Int) × (List Int) × Int × Int × Int × (List GAgg) × (List GPat) × (List GCol) × (List (List Int)) × Int × (List Int) × (List Int)) ⊕ (GProgram × Bool)))
  | (v34, v35, v36, v37, v38, v39, v40) => if (decide (v40 < ((((a0.Nodes.getD (v13).toNat default).In).length : Int)))) = true then (Option.bind (if 0 ≤ v40 ∧ v40 < (((a0.Nodes.getD (v13).toNat default).In).length : Int) then (if (decide ((((a0.Nodes.getD (v13).toNat default).In).getD (v40).toNat default) < 0)) = true then (some ((v34, v35, v36, v37, true))) else (if 0 ≤ v40 ∧ v40 < (((a0.Nodes.getD (v13).toNat default).In).length : Int) then (some ((v34, v35, v36, v37, decide ((((a0.Nodes.getD (v13).toNat default).In).getD (v40).toNat default) ≥ v13)))) else none)) else none : Option ((List GFunc) × (List GNode) × (List GNode) × (List (List Int)) × Bool)) fun J70 => match J70 with | (j65, j66, j67, j68, j69) => (if (j69) = true then (some (.inr (.inr (((GProgram.mk (([] : List GFunc)) (([] : List GNode))), false))))) else (Option.bind (if (v40 == 0) = true then (if 0 ≤ v40 ∧ v40 < (((a0.Nodes.getD (v13).toNat default).In).length : Int) then (if 0 ≤ (((a0.Nodes.getD (v13).toNat default).In).getD (v40).toNat default) ∧ (((a0.Nodes.getD (v13).toNat default).In).getD (v40).toNat default) < (j68.length : Int) then (if (((a0.Nodes.getD (v13).toNat default).In).getD (v40).toNat default).toNat < j68.length then (some ((j65, j66, j67, j68, j68.getD (((a0.Nodes.getD (v13).toNat default).In).getD (v40).toNat default).toNat default, v39))) else none) else none) else none) else (if 0 ≤ v40 ∧ v40 < (((a0.Nodes.getD (v13).toNat default).In).length : Int) then (if 0 ≤ (((a0.Nodes.getD (v13).toNat default).In).getD (v40).toNat default) ∧ (((a0.Nodes.getD (v13).toNat default).In).getD (v40).toNat default) < (j68.length : Int) then (if (((a0.Nodes.getD (v13).toNat default).In).getD (v40).toNat default).toNat < j68.length then (some ((j65, j66, j67, j68, v38, j68.getD (((a0.Nodes.getD (v13).toNat default).In).getD (v40).toNat default).toNat default))) else none) else none) else none) : Option ((List GFunc) × (List GNode) × (List GNode) × (List (List Int)) × (List Int) × (List Int))) fun J83 => match J83 with | (j77, j78, j79, j80, j81, j82) => (some (.inl ((j77, j78, j79, j80, j81, j82, IntKind.i64.wrap (v40 + 1)))))))) else (some (.inr (.inl ((v34, v35, v36, (a0.Nodes.getD (v13).toNat default).Op, (a0.Nodes.getD (v13).toNat default).In, (a0.Nodes.getD (v13).toNat default).Source, (a0.Nodes.getD (v13).toNat default).Schema, (a0.Nodes.getD (v13).toNat default).Exprs, (a0.Nodes.getD (v13).toNat default).Kind, (a0.Nodes.getD (v13).toNat default).Size, (a0.Nodes.getD (v13).toNat default).Step, (a0.Nodes.getD (v13).toNat default).Key, (a0.Nodes.getD (v13).toNat default).Key2, (a0.Nodes.getD (v13).toNat default).Before, (a0.Nodes.getD (v13).toNat default).After, (a0.Nodes.getD (v13).toNat default).Keep, (a0.Nodes.getD (v13).toNat default).Aggs, (a0.Nodes.getD (v13).toNat default).Seq, (a0.Nodes.getD (v13).toNat default).Cols, v37, v13, v38, v39)))))
def F35_L2 (n : Nat) (b44 : Int) (b45 : List Int) (b46 : ByteArray) (b47 : Int) (b48 : List Expr) (b49 : Int) (b50 : Int) (b51 : Int) (b52 : List Int) (b53 : List Int) (b54 : Int) (b55 : Int) (b56 : Int) (b57 : List GAgg) (b58 : List GPat) (b59 : List GCol) (b61 : Int) (r93 : (List Int) × Bool) : ((List GFunc) × (List GNode) × (List GNode) × (List (List Int)) × (List GCol) × Int) → Option (((List GFunc) × (List GNode) × (List GNode) × (List (List Int)) × (List GCol) × Int) ⊕ ((List GFunc) × (List GNode) × (List GNode) × Int × (List Int) × ByteArray × Int × (List Expr) × Int × Int × Int × (List Int) × (List Int) × Int × Int × Int × (List GAgg) × (List GPat) × (List GCol) × (List (List Int)) × Int × (List GCol)))
  | (v106, v107, v108, v109, v110, v111) => if (decide (v111 < ((r93.1.length : Int)))) = true then ((F59 n v111).bind fun r135 => if ((((⟨#[99]⟩) : ByteArray).size + r135.size : Nat) : Int) ≤ 9223372036854775807 then (Option.bind (if (((b59.length : Int)) == ((r93.1.length : Int))) = true then (if 0 ≤ v111 ∧ v111 < (b59.length : Int) then (some ((v106, v107, v108, (b59.getD (v111).toNat default).Name, (b59.getD (v111).toNat default).Type_, (b59.getD (v111).toNat default).Unit, v109, v110))) else none) else (some ((v106, v107, v108, ((⟨#[99]⟩) : ByteArray) ++ r135, 0, ⟨#[]⟩, v109, v110))) : Option ((List GFunc) × (List GNode) × (List GNode) × ByteArray × Int × ByteArray × (List (List Int)) × (List GCol))) fun J147 => match J147 with | (j139, j140, j141, j142, j143, j144, j145, j146) => (if 0 ≤ v111 ∧ v111 < (r93.1.length : Int) then (if (j146.length + 1) * 40 ≤ 140737488355328 then (some (.inl ((j139, j140, j141, j145, j146 ++ ([(GCol.mk j142 (r93.1.getD (v111).toNat default) j144)]), IntKind.i64.wrap (v111 + 1))))) else none) else none)) else none) else (some (.inr ((v106, v107, v108, b44, b45, b46, b47, b48, b49, b50, b51, b52, b53, b54, b55, b56, b57, b58, b59, v109, b61, v110))))
def F35_L0 (n : Nat) (a0 : GProgram) : ((List GFunc) × (List GNode) × (List GNode) × (List (List Int)) × Int) → Option (((List GFunc) × (List GNode) × (List GNode) × (List (List Int)) × Int) ⊕ (((List GFunc) × (List GNode) × (List GNode)) ⊕ (GProgram × Bool)))
  | (v9, v10, v11, v12, v13) => if (decide (v13 < ((a0.Nodes.length : Int)))) = true then (if 0 ≤ v13 ∧ v13 < (a0.Nodes.length : Int) then (Option.bind (if (decide (((a0.Nodes.getD (v13).toNat default).Op) < 0)) = true then (some ((v9, v10, v11, v12, true))) else (if (decide (((a0.Nodes.getD (v13).toNat default).Op) > 8)) = true then (some ((v9, v10, v11, v12, true))) else ((F56 n ((a0.Nodes.getD (v13).toNat default).Op)).bind fun r28 => if (((((a0.Nodes.getD (v13).toNat default).In).length : Int)) != r28) = true then (some ((v9, v10, v11, v12, true))) else ((F57 n (a0.Nodes.getD (v13).toNat default)).bind fun r31 => some ((v9, v10, v11, v12, !r31))))) : Option ((List GFunc) × (List GNode) × (List GNode) × (List (List Int)) × Bool)) fun J24 => match J24 with | (j19, j20, j21, j22, j23) => (if (j23) = true then (some (.inr (.inr (((GProgram.mk (([] : List GFunc)) (([] : List GNode))), false))))) else (Option.bind (iterM (F35_L1 n a0 v13) n ((j19, j20, j21, j22, ([] : List Int), ([] : List Int), 0))) fun R91 => match R91 with | .inl ((b41, b42, b43, b44, b45, b46, b47, b48, b49, b50, b51, b52, b53, b54, b55, b56, b57, b58, b59, b60, b61, b62, b63)) => ((F58 n a0.Funcs ((GNode.mk b44 b45 b46 b47 b48 b49 b50 b51 b52 b53 b54 b55 b56 b57 b58 b59)) b62 b63).bind fun r93 => Option.bind (if (!r93.2) = true then (some ((b41, b42, b43, b60, true))) else (if (decide (((r93.1.length : Int)) < 1)) = true then (some ((b41, b42, b43, b60, true))) else (some ((b41, b42, b43, b60, decide (((r93.1.length : Int)) > 12))))) : Option ((List GFunc) × (List GNode) × (List GNode) × (List (List Int)) × Bool)) fun J100 => match J100 with | (j95, j96, j97, j98, j99) => (if (j99) = true then (some (.inr (.inr (((GProgram.mk (([] : List GFunc)) (([] : List GNode))), false))))) else (if (j98.length + 1) * 24 ≤ 140737488355328 then (Option.bind (iterM (F35_L2 n b44 b45 b46 b47 b48 b49 b50 b51 b52 b53 b54 b55 b56 b57 b58 b59 b61 r93) n ((j95, j96, j97, j98 ++ ([r93.1]), ([] : List GCol), 0))) fun R152 => match R152 with | (b112, b113, b114, b115, b116, b117, b118, b119, b120, b121, b122, b123, b124, b125, b126, b127, b128, b129, b130, b131, b132, b133) => (if (b114.length + 1) * 248 ≤ 140737488355328 then (some (.inl ((b112, b113, b114 ++ ([(GNode.mk b115 b116 b117 b118 b119 b120 b121 b122 b123 b124 b125 b126 b127 b128 b129 b133)]), b131, IntKind.i64.wrap (b132 + 1))))) else none)) else none))) | .inr (y155) => (some (.inr (.inr (y155))))))) else none) else (some (.inr (.inl ((v9, v10, v11)))))
def F35 (n : Nat) (a0 : GProgram) : Option (GProgram × Bool) := Option.bind (if (decide (((a0.Nodes.length : Int)) < 1)) = true then (some (true)) else (if (decide (((a0.Nodes.length : Int)) > 40)) = true then (some (true)) else ((F55 n a0.Funcs).bind fun r6 => some (!r6))) : Option (Bool)) fun j1 => if (j1) = true then (some (((GProgram.mk (([] : List GFunc)) (([] : List GNode))), false))) else (Option.bind (iterM (F35_L0 n a0) n ((([] : List GFunc), ([] : List GNode), ([] : List GNode), ([] : List (List Int)), 0))) fun R156 => match R156 with | .inl ((b14, b15, b16)) => (some (((GProgram.mk a0.Funcs b16), true))) | .inr (y158) => (some (y158)))
abbrev I35 : Inf := ⟨look tiL, [], 177⟩
set_option maxRecDepth 20000 in
theorem F35_ok (n : Nat) (a0 : GProgram) (y : GProgram × Bool) (h : F35 n a0 = some y) : PCall Proofs.Try.prog 35 [.t (eGProgram a0)] [] [] (Ret (.tup [.t (eGProgram y.1), .t (.bool (y.2))])) := by
  refine pcall_of (I := I35) Proofs.Try.func35 rfl ti_ok Proofs.Try.ntmps35 (le_n (by kernel_rfl)) (fun E hG => ?_)
  unfold F35 at h
  refine sn hG [1, 2] [1, 2] [(1, .ptr 1 0), (2, .ptr 2 0)] [(1, .box ((cGProgram (a0)).map .t)), (2, .box [.nil, .nil])] (pwp_seq (pwp_seq ?_))
  obtain ⟨j1, hj3, h⟩ := bnd h
  refine jn [1, 2, 31] [1, 2] [(31, bV j1)] [] ?_ ?_
  replace h := hj3; clear hj3
  refine pwp_region (pn hG 5 [1, 2, 20] [1, 2] [(20, bV (decide (((a0.Nodes.length : Int)) < 1)))] [] (io 20 h (fun h => ?_) (fun h => ?_)))
  refine pn hG 11 [1, 2, 31] [1, 2] [(31, bV true)] [] ?_
  cases h
  exact pe fl
  refine pn hG 6 [1, 2, 26] [1, 2] [(26, bV (decide (((a0.Nodes.length : Int)) > 40)))] [] (io 26 h (fun h => ?_) (fun h => ?_))
  refine pn hG 5 [1, 2, 31] [1, 2] [(31, bV true)] [] ?_
  cases h
  exact pe fl
  refine pn hG 2 [1, 2, 26, 28] [1, 2] [(28, .t (eL cGFunc (a0.Funcs)))] [] ?_
  obtain ⟨r6, hr7, h⟩ := bnd h
  refine ca hG [] rfl rfl rfl rfl callable55 (.cons (.same _) .nil) (F55_ok n _ _ hr7) (pn hG 2 [1, 2, 31] [1, 2] [(31, bV (!r6))] [] ?_)
  cases h
  exact pe fl
  refine then_n (iw h (fun h => ?_) (fun h => ?_))
  refine pwp_seq (pwp_region (pn hG 3 [2, 3] [2] [(3, bV false)] [] (pe (then_n (ws ⟨[(2, .ptr 2 0), (3, bV false)], [(2, .box [.nil, .nil])]⟩ (pwp_weak (Le.obj (o := 2) (.box ([(eL cGFunc (([] : List GFunc))), (eL cGNode (([] : List GNode)))].map .t)) rfl (fun _ _ _ => le_box (.empty rfl (.empty rfl (.nil))))) ?_))))))
  cases h
  exact pwp_ret (then_ret rt)
  refine pwp_skip (then_n (pwp_seq (pwp_region (pn hG 5 [1, 2, 4] [1, 2, 4] [(4, .ptr 4 0)] [(4, .box [.t (eL cGFunc (a0.Funcs)), .nil])] (pe (then_n (sn hG [1, 2, 4, 5] [1, 2, 4] [(5, .nil)] [] (pwp_seq ?_))))))))
  refine sn hG [1, 2, 4, 5, 6] [1, 2, 4] [(6, iV 0)] [] (ws ⟨[(1, .ptr 1 0), (2, .ptr 2 0), (4, .ptr 4 0), (5, .nil), (6, iV 0)], [(1, .box ((cGProgram (a0)).map .t)), (2, .box [.nil, .nil]), (4, .box [.t (eL cGFunc (a0.Funcs)), .nil])]⟩ (pwp_weak (Le.thaw (t := 5) (o := 5) (e := 31) (s := 1) (f := eF cL_cInt ([] : List (List Int))) hG rfl) (pwp_weak (Le.thawC (b := 2) (j := 0) (o := 10200) (e := 42) (s := 7) (f := eF cGFunc ([] : List GFunc)) hG rfl) (pwp_weak (Le.thawC (b := 2) (j := 1) (o := 10201) (e := 47) (s := 16) (f := eF cGNode ([] : List GNode)) hG rfl) (pwp_weak (Le.thawC (b := 4) (j := 1) (o := 10401) (e := 47) (s := 16) (f := eF cGNode ([] : List GNode)) hG rfl) ?_)))))
  obtain ⟨R156, hR157, h⟩ := bnd h
  refine lp (F35_L0 n a0) (fun (s : (List GFunc) × (List GNode) × (List GNode) × (List (List Int)) × Int) => match s with | (v9, v10, v11, v12, v13) => (⟨[(1, .ptr 1 0), (2, .ptr 2 0), (4, .ptr 4 0), (5, .own 5), (6, iV v13)], [(1, .box ((cGProgram (a0)).map .t)), (2, .box [.own 10200, .own 10201]), (4, .box [.t (eL cGFunc (a0.Funcs)), .own 10401]), (5, .arr 31 1 (v12.length) (eF cL_cInt v12)), (10200, .arr 42 7 (v9.length) (eF cGFunc v9)), (10201, .arr 47 16 (v10.length) (eF cGNode v10)), (10401, .arr 47 16 (v11.length) (eF cGNode v11))]⟩ : St)) (fun (r : ((List GFunc) × (List GNode) × (List GNode)) ⊕ (GProgram × Bool)) (e : Exit) (s : St) => match r with | .inl (x0) => e = .exit 0 ∧ Le E s ((fun (s : (List GFunc) × (List GNode) × (List GNode)) => match s with | (b14, b15, b16) => (⟨[(2, .ptr 2 0), (4, .ptr 4 0)], [(2, .box [.own 10200, .own 10201]), (4, .box [.t (eL cGFunc (a0.Funcs)), .own 10401]), (10200, .arr 42 7 (b14.length) (eF cGFunc b14)), (10201, .arr 47 16 (b15.length) (eF cGNode b15)), (10401, .arr 47 16 (b16.length) (eF cGNode b16))]⟩ : St)) x0) | .inr (y0) => e = .ret ∧ finQ I35 Proofs.Try.f35.results.toList (Ret (.tup [.t (eGProgram y0.1), bV y0.2])) .ret s) ?_ n ((([] : List GFunc), ([] : List GNode), ([] : List GNode), ([] : List (List Int)), 0)) R156 hR157 ?_
  rintro ⟨v9, v10, v11, v12, v13⟩ x h
  rw [F35_L0] at h
  refine pwp_seq (sn hG [1, 2, 4, 5, 6, 40] [1, 2, 4, 5, 10200, 10201, 10401] [(40, bV (decide (v13 < ((a0.Nodes.length : Int)))))] [] (iw h (fun h => ?_) (fun h => ?_)))
  refine pwp_skip (then_n (pwp_seq (pwp_block (pwp_seq (pwp_region ?_)))))
  obtain ⟨hc18, h⟩ := grd h
  refine pc hG 7 [1, 2, 4, 5, 6, 7] [1, 2, 4, 5, 7, 10200, 10201, 10401] [(7, .ptr 7 0)] [(7, .box ((cGNode (a0.Nodes.getD (v13).toNat default)).map .t))] hc18 (pe (then_n (pwp_seq (pwp_seq ?_))))
  obtain ⟨J24, hj25, h⟩ := bnd h
  obtain ⟨j19, j20, j21, j22, j23⟩ := J24
  try dsimp only at h
  refine jn [1, 2, 4, 5, 6, 7, 69] [1, 2, 4, 5, 7, 10200, 10201, 10401] [(69, bV j23)] [(5, .arr 31 1 (j22.length) (eF cL_cInt j22)), (10200, .arr 42 7 (j19.length) (eF cGFunc j19)), (10201, .arr 47 16 (j20.length) (eF cGNode j20)), (10401, .arr 47 16 (j21.length) (eF cGNode j21))] ?_ ?_
  replace h := hj25; clear hj25
  refine (Bool.eq_false_or_eq_true (decide (((a0.Nodes.getD (v13).toNat default).Op) < 0))).elim (fun hb26 => ?_) (fun hb26 => ?_)
  have h := ite_t hb26 h
  refine ln hG [] [(3, (decide (((a0.Nodes.getD (v13).toNat default).Op) < 0), true))] [] [(1, false, []), (2, false, []), (4, false, []), (5, false, []), (7, false, []), (10200, false, []), (10201, false, []), (10401, false, [])] [1, 2, 4, 5, 6, 7] .nil (.cons hb26 .nil) .nil [1, 2, 4, 5, 6, 7, 69] [1, 2, 4, 5, 7, 10200, 10201, 10401] [(69, bV true)] [] ?_
  injection h with q0
  injection q0 with p1 q1
  injection q1 with p2 q2
  injection q2 with p3 q3
  injection q3 with p4 q4
  subst p1
  subst p2
  subst p3
  subst p4
  subst q4
  exact fl
  have h := ite_f hb26 h
  refine (Bool.eq_false_or_eq_true (decide (((a0.Nodes.getD (v13).toNat default).Op) > 8))).elim (fun hb27 => ?_) (fun hb27 => ?_)
  have h := ite_t hb27 h
  refine ln hG [] [(3, (decide (((a0.Nodes.getD (v13).toNat default).Op) < 0), false)), (8, (decide (((a0.Nodes.getD (v13).toNat default).Op) > 8), true))] [] [(1, false, []), (2, false, []), (4, false, []), (5, false, []), (7, false, []), (10200, false, []), (10201, false, []), (10401, false, [])] [1, 2, 4, 5, 6, 7] .nil (.cons hb26 (.cons hb27 .nil)) .nil [1, 2, 4, 5, 6, 7, 69] [1, 2, 4, 5, 7, 10200, 10201, 10401] [(69, bV true)] [] ?_
  injection h with q0
  injection q0 with p1 q1
  injection q1 with p2 q2
  injection q2 with p3 q3
  injection q3 with p4 q4
  subst p1
  subst p2
  subst p3
  subst p4
  subst q4
  exact fl
  have h := ite_f hb27 h
  obtain ⟨r28, hr29, h⟩ := bnd h
  refine (Bool.eq_false_or_eq_true (((((a0.Nodes.getD (v13).toNat default).In).length : Int)) != r28)).elim (fun hb30 => ?_) (fun hb30 => ?_)
  have h := ite_t hb30 h
  refine ln hG [(14, 56, [iV ((a0.Nodes.getD (v13).toNat default).Op)], iV r28)] [(3, (decide (((a0.Nodes.getD (v13).toNat default).Op) < 0), false)), (8, (decide (((a0.Nodes.getD (v13).toNat default).Op) > 8), false)), (17, (((((a0.Nodes.getD (v13).toNat default).In).length : Int)) != r28, true))] [] [(1, false, []), (2, false, []), (4, false, []), (5, false, []), (7, false, []), (10200, false, []), (10201, false, []), (10401, false, [])] [1, 2, 4, 5, 6, 7] (.cons ⟨callable56, ⟨_, fun _ => (.cons (.same _) .nil), F56_ok n _ _ hr29⟩, rfl⟩ .nil) (.cons hb26 (.cons hb27 (.cons hb30 .nil))) .nil [1, 2, 4, 5, 6, 7, 69] [1, 2, 4, 5, 7, 10200, 10201, 10401] [(69, bV true)] [] ?_
  injection h with q0
  injection q0 with p1 q1
  injection q1 with p2 q2
  injection q2 with p3 q3
  injection q3 with p4 q4
  subst p1
  subst p2
  subst p3
  subst p4
  subst q4
  exact fl
  have h := ite_f hb30 h
  obtain ⟨r31, hr32, h⟩ := bnd h
  refine ln hG [(14, 56, [iV ((a0.Nodes.getD (v13).toNat default).Op)], iV r28), (19, 57, [.t (eGNode (a0.Nodes.getD (v13).toNat default))], bV r31)] [(3, (decide (((a0.Nodes.getD (v13).toNat default).Op) < 0), false)), (8, (decide (((a0.Nodes.getD (v13).toNat default).Op) > 8), false)), (17, (((((a0.Nodes.getD (v13).toNat default).In).length : Int)) != r28, false))] [] [(1, false, []), (2, false, []), (4, false, []), (5, false, []), (7, false, []), (10200, false, []), (10201, false, []), (10401, false, [])] [1, 2, 4, 5, 6, 7] (.cons ⟨callable56, ⟨_, fun _ => (.cons (.same _) .nil), F56_ok n _ _ hr29⟩, rfl⟩ (.cons ⟨callable57, ⟨_, fun _ => (.cons (.same _) .nil), F57_ok n _ _ hr32⟩, rfl⟩ .nil)) (.cons hb26 (.cons hb27 (.cons hb30 .nil))) .nil [1, 2, 4, 5, 6, 7, 69] [1, 2, 4, 5, 7, 10200, 10201, 10401] [(69, bV (!r31))] [] ?_
  injection h with q0
  injection q0 with p1 q1
  injection q1 with p2 q2
  injection q2 with p3 q3
  injection q3 with p4 q4
  subst p1
  subst p2
  subst p3
  subst p4
  subst q4
  exact fl
  refine then_n (iw h (fun h => ?_) (fun h => ?_))
  refine pwp_seq (pwp_region (pn hG 3 [2, 3] [2] [(3, bV false)] [(2, .box [.nil, .nil])] (pe (then_n (ws ⟨[(2, .ptr 2 0), (3, bV false)], [(2, .box [.nil, .nil])]⟩ (pwp_weak (Le.obj (o := 2) (.box ([(eL cGFunc (([] : List GFunc))), (eL cGNode (([] : List GNode)))].map .t)) rfl (fun _ _ _ => le_box (.empty rfl (.empty rfl (.nil))))) ?_))))))
  cases h
  exact pwp_ret (then_ret (blk_ret (then_ret (round_out (by simp) (And.intro rfl rt)))))
  refine pwp_skip (then_n (sn hG [1, 2, 4, 5, 6, 7, 8] [1, 2, 4, 5, 7, 10200, 10201, 10401] [(8, .nil)] [] (sn hG [1, 2, 4, 5, 6, 7, 8, 9] [1, 2, 4, 5, 7, 10200, 10201, 10401] [(9, .nil)] [] (pwp_seq (sn hG [1, 2, 4, 5, 6, 7, 8, 9, 10] [1, 2, 4, 5, 7, 10200, 10201, 10401] [(10, iV 0)] [] (ws ⟨[(1, .ptr 1 0), (2, .ptr 2 0), (4, .ptr 4 0), (5, .own 5), (6, iV v13), (7, .ptr 7 0), (8, .nil), (9, .nil), (10, iV 0)], [(1, .box ((cGProgram (a0)).map .t)), (2, .box [.own 10200, .own 10201]), (4, .box [.t (eL cGFunc (a0.Funcs)), .own 10401]), (5, .arr 31 1 (j22.length) (eF cL_cInt j22)), (7, .box ((cGNode (a0.Nodes.getD (v13).toNat default)).map .t)), (10200, .arr 42 7 (j19.length) (eF cGFunc j19)), (10201, .arr 47 16 (j20.length) (eF cGNode j20)), (10401, .arr 47 16 (j21.length) (eF cGNode j21))]⟩ (pwp_weak (Le.slot (t := 8) (.t (eL cInt (([] : List Int)))) rfl (le_nil rfl)) (pwp_weak (Le.slot (t := 9) (.t (eL cInt (([] : List Int)))) rfl (le_nil rfl)) ?_))))))))
  obtain ⟨R91, hR92, h⟩ := bnd h
  refine lp (F35_L1 n a0 v13) (fun (s : (List GFunc) × (List GNode) × (List GNode) × (List (List Int)) × (List Int) × (List Int) × Int) => match s with | (v34, v35, v36, v37, v38, v39, v40) => (⟨[(1, .ptr 1 0), (2, .ptr 2 0), (4, .ptr 4 0), (5, .own 5), (6, iV v13), (7, .ptr 7 0), (8, .t (eL cInt (v38))), (9, .t (eL cInt (v39))), (10, iV v40)], [(1, .box ((cGProgram (a0)).map .t)), (2, .box [.own 10200, .own 10201]), (4, .box [.t (eL cGFunc (a0.Funcs)), .own 10401]), (5, .arr 31 1 (v37.length) (eF cL_cInt v37)), (7, .box ((cGNode (a0.Nodes.getD (v13).toNat default)).map .t)), (10200, .arr 42 7 (v34.length) (eF cGFunc v34)), (10201, .arr 47 16 (v35.length) (eF cGNode v35)), (10401, .arr 47 16 (v36.length) (eF cGNode v36))]⟩ : St)) (fun (r : ((List GFunc) × (List GNode) × (List GNode) × Int × (List Int) × ByteArray × Int × (List Expr) × Int × Int × Int × (List Int) × (List Int) × Int × Int × Int × (List GAgg) × (List GPat) × (List GCol) × (List (List Int)) × Int × (List Int) × (List Int)) ⊕ (GProgram × Bool)) (e : Exit) (s : St) => match r with | .inl (x0) => e = .exit 2 ∧ Le E s ((fun (s : (List GFunc) × (List GNode) × (List GNode) × Int × (List Int) × ByteArray × Int × (List Expr) × Int × Int × Int × (List Int) × (List Int) × Int × Int × Int × (List GAgg) × (List GPat) × (List GCol) × (List (List Int)) × Int × (List Int) × (List Int)) => match s with | (b41, b42, b43, b44, b45, b46, b47, b48, b49, b50, b51, b52, b53, b54, b55, b56, b57, b58, b59, b60, b61, b62, b63) => (⟨[(1, .ptr 1 0), (2, .ptr 2 0), (4, .ptr 4 0), (5, .own 5), (6, iV b61), (7, .ptr 7 0), (8, .t (eL cInt (b62))), (9, .t (eL cInt (b63)))], [(1, .box ((cGProgram (a0)).map .t)), (2, .box [.own 10200, .own 10201]), (4, .box [.t (eL cGFunc (a0.Funcs)), .own 10401]), (5, .arr 31 1 (b60.length) (eF cL_cInt b60)), (7, .box [iV b44, .t (eL cInt (b45)), .t (.str (b46)), iV b47, .t (.lz (.exprs (b48))), iV b49, iV b50, iV b51, .t (eL cInt (b52)), .t (eL cInt (b53)), iV b54, iV b55, iV b56, .t (eL cGAgg (b57)), .t (eL cGPat (b58)), .t (eL cGCol (b59))]), (10200, .arr 42 7 (b41.length) (eF cGFunc b41)), (10201, .arr 47 16 (b42.length) (eF cGNode b42)), (10401, .arr 47 16 (b43.length) (eF cGNode b43))]⟩ : St)) x0) | .inr (y0) => e = .ret ∧ finQ I35 Proofs.Try.f35.results.toList (Ret (.tup [.t (eGProgram y0.1), bV y0.2])) .ret s) ?_ n ((j19, j20, j21, j22, ([] : List Int), ([] : List Int), 0)) R91 hR92 ?_
  rintro ⟨v34, v35, v36, v37, v38, v39, v40⟩ x h
  rw [F35_L1] at h
  refine pwp_seq (sn hG [1, 2, 4, 5, 6, 7, 8, 9, 10, 75] [1, 2, 4, 5, 7, 10200, 10201, 10401] [(75, bV (decide (v40 < ((((a0.Nodes.getD (v13).toNat default).In).length : Int)))))] [] (iw h (fun h => ?_) (fun h => ?_)))
  refine pwp_skip (then_n (pwp_seq (pwp_block (pwp_seq (pwp_seq ?_)))))
  obtain ⟨J70, hj71, h⟩ := bnd h
  obtain ⟨j65, j66, j67, j68, j69⟩ := J70
  try dsimp only at h
  refine jn [1, 2, 4, 5, 6, 7, 8, 9, 10, 92] [1, 2, 4, 5, 7, 10200, 10201, 10401] [(92, bV j69)] [(5, .arr 31 1 (j68.length) (eF cL_cInt j68)), (10200, .arr 42 7 (j65.length) (eF cGFunc j65)), (10201, .arr 47 16 (j66.length) (eF cGNode j66)), (10401, .arr 47 16 (j67.length) (eF cGNode j67))] ?_ ?_
  replace h := hj71; clear hj71
  refine pwp_region ?_
  obtain ⟨hc72, h⟩ := grd h
  refine pc hG 7 [1, 2, 4, 5, 6, 7, 8, 9, 10, 84] [1, 2, 4, 5, 7, 10200, 10201, 10401] [(84, bV (decide ((((a0.Nodes.getD (v13).toNat default).In).getD (v40).toNat default) < 0)))] [] hc72 (io 84 h (fun h => ?_) (fun h => ?_))
  refine pn hG 8 [1, 2, 4, 5, 6, 7, 8, 9, 10, 92] [1, 2, 4, 5, 7, 10200, 10201, 10401] [(92, bV true)] [] ?_
  injection h with q0
  injection q0 with p1 q1
  injection q1 with p2 q2
  injection q2 with p3 q3
  injection q3 with p4 q4
  subst p1
  subst p2
  subst p3
  subst p4
  subst q4
  exact pe fl
  obtain ⟨hc74, h⟩ := grd h
  refine pc hG 8 [1, 2, 4, 5, 6, 7, 8, 9, 10, 92] [1, 2, 4, 5, 7, 10200, 10201, 10401] [(92, bV (decide ((((a0.Nodes.getD (v13).toNat default).In).getD (v40).toNat default) ≥ v13)))] [] hc74 ?_
  injection h with q0
  injection q0 with p1 q1
  injection q1 with p2 q2
  injection q2 with p3 q3
  injection q3 with p4 q4
  subst p1
  subst p2
  subst p3
  subst p4
  subst q4
  exact pe fl
  refine then_n (iw h (fun h => ?_) (fun h => ?_))
  refine pwp_seq (pwp_region (pn hG 3 [2, 3] [2] [(3, bV false)] [(2, .box [.nil, .nil])] (pe (then_n (ws ⟨[(2, .ptr 2 0), (3, bV false)], [(2, .box [.nil, .nil])]⟩ (pwp_weak (Le.obj (o := 2) (.box ([(eL cGFunc (([] : List GFunc))), (eL cGNode (([] : List GNode)))].map .t)) rfl (fun _ _ _ => le_box (.empty rfl (.empty rfl (.nil))))) ?_))))))
  cases h
  exact pwp_ret (then_ret (blk_ret (then_ret (round_out (by simp) (And.intro rfl rt)))))
  refine pwp_skip (then_n (sn hG [1, 2, 4, 5, 6, 7, 8, 9, 10, 95] [1, 2, 4, 5, 7, 10200, 10201, 10401] [(95, bV (v40 == 0))] [] ?_))
  obtain ⟨J83, hj84, h⟩ := bnd h
  obtain ⟨j77, j78, j79, j80, j81, j82⟩ := J83
  try dsimp only at h
  refine jn [1, 2, 4, 5, 6, 7, 8, 9, 10] [1, 2, 4, 5, 7, 10200, 10201, 10401] [(8, .t (eL cInt (j81))), (9, .t (eL cInt (j82)))] [(5, .arr 31 1 (j80.length) (eF cL_cInt j80)), (10200, .arr 42 7 (j77.length) (eF cGFunc j77)), (10201, .arr 47 16 (j78.length) (eF cGNode j78)), (10401, .arr 47 16 (j79.length) (eF cGNode j79))] ?_ ?_
  replace h := hj84; clear hj84
  refine iw h (fun h => ?_) (fun h => ?_)
  obtain ⟨hc85, h⟩ := grd h
  obtain ⟨hc86, h⟩ := grd h
  obtain ⟨hc87, h⟩ := grd h
  refine rd hG [1, 2, 4, 5, 6, 7, 8, 9, 10] [1, 2, 4, 5, 7, 10200, 10201, 10401] [(8, .t (eL cInt (j68.getD (((a0.Nodes.getD (v13).toNat default).In).getD (v40).toNat default).toNat default)))] [] (Cs := [0 ≤ v40 ∧ v40 < (((a0.Nodes.getD (v13).toNat default).In).length : Int), 0 ≤ (((a0.Nodes.getD (v13).toNat default).In).getD (v40).toNat default) ∧ (((a0.Nodes.getD (v13).toNat default).In).getD (v40).toNat default) < (j68.length : Int), (((a0.Nodes.getD (v13).toNat default).In).getD (v40).toNat default).toNat < j68.length]) ⟨hc85, hc86, hc87⟩ ?_
  injection h with q0
  injection q0 with p1 q1
  injection q1 with p2 q2
  injection q2 with p3 q3
  injection q3 with p4 q4
  injection q4 with p5 q5
  subst p1
  subst p2
  subst p3
  subst p4
  subst p5
  subst q5
  exact fl
  obtain ⟨hc88, h⟩ := grd h
  obtain ⟨hc89, h⟩ := grd h
  obtain ⟨hc90, h⟩ := grd h
  refine rd hG [1, 2, 4, 5, 6, 7, 8, 9, 10] [1, 2, 4, 5, 7, 10200, 10201, 10401] [(9, .t (eL cInt (j68.getD (((a0.Nodes.getD (v13).toNat default).In).getD (v40).toNat default).toNat default)))] [] (Cs := [0 ≤ v40 ∧ v40 < (((a0.Nodes.getD (v13).toNat default).In).length : Int), 0 ≤ (((a0.Nodes.getD (v13).toNat default).In).getD (v40).toNat default) ∧ (((a0.Nodes.getD (v13).toNat default).In).getD (v40).toNat default) < (j68.length : Int), (((a0.Nodes.getD (v13).toNat default).In).getD (v40).toNat default).toNat < j68.length]) ⟨hc88, hc89, hc90⟩ ?_
  injection h with q0
  injection q0 with p1 q1
  injection q1 with p2 q2
  injection q2 with p3 q3
  injection q3 with p4 q4
  injection q4 with p5 q5
  subst p1
  subst p2
  subst p3
  subst p4
  subst p5
  subst q5
  exact fl
  refine blk_n (then_n (rn hG [1, 2, 4, 5, 6, 7, 8, 9, 10] [1, 2, 4, 5, 7, 10200, 10201, 10401] [(10, iV (IntKind.i64.wrap (v40 + 1)))] [] ?_))
  cases h
  exact round_in lk
  cases h
  exact pwp_exit (then_exit (round_out (by simp) (And.intro rfl lk)))
  intro e s hq
  rcases R91 with ⟨b41, b42, b43, b44, b45, b46, b47, b48, b49, b50, b51, b52, b53, b54, b55, b56, b57, b58, b59, b60, b61, b62, b63⟩ | y155
  try dsimp only at h
  obtain ⟨rfl, hle⟩ := hq
  refine ⟨_, hle, blk_hit ?_⟩
  refine then_n (pwp_seq (pwp_region (pn hG 5 [1, 2, 4, 5, 6, 7, 114, 115, 116, 117] [1, 2, 4, 5, 7, 10200, 10201, 10401] [(114, .t (eL cGFunc (a0.Funcs))), (115, .t (eGNode ((GNode.mk b44 b45 b46 b47 b48 b49 b50 b51 b52 b53 b54 b55 b56 b57 b58 b59)))), (116, .t (eL cInt (b62))), (117, .t (eL cInt (b63)))] [] ?_)))
  obtain ⟨r93, hr94, h⟩ := bnd h
  refine ca hG [] rfl rfl rfl rfl callable58 (.cons (.same _) (.cons (.same _) (.cons (.same _) (.cons (.same _) .nil)))) (F58_ok n _ _ _ _ _ hr94) (pn hG 5 [1, 2, 4, 5, 6, 7, 11, 12] [1, 2, 4, 5, 7, 10200, 10201, 10401] [(11, .t (eL cInt (r93.1))), (12, bV r93.2)] [] (pe (then_n (pwp_seq (pwp_seq ?_)))))
  obtain ⟨J100, hj101, h⟩ := bnd h
  obtain ⟨j95, j96, j97, j98, j99⟩ := J100
  try dsimp only at h
  refine jn [1, 2, 4, 5, 6, 7, 11, 132] [1, 2, 4, 5, 7, 10200, 10201, 10401] [(132, bV j99)] [(5, .arr 31 1 (j98.length) (eF cL_cInt j98)), (10200, .arr 42 7 (j95.length) (eF cGFunc j95)), (10201, .arr 47 16 (j96.length) (eF cGNode j96)), (10401, .arr 47 16 (j97.length) (eF cGNode j97))] ?_ ?_
  replace h := hj101; clear hj101
  refine pwp_region (pn hG 3 [1, 2, 4, 5, 6, 7, 11, 123] [1, 2, 4, 5, 7, 10200, 10201, 10401] [(123, bV (!r93.2))] [] (io 123 h (fun h => ?_) (fun h => ?_)))
  refine pn hG 9 [1, 2, 4, 5, 6, 7, 11, 132] [1, 2, 4, 5, 7, 10200, 10201, 10401] [(132, bV true)] [] ?_
  injection h with q0
  injection q0 with p1 q1
  injection q1 with p2 q2
  injection q2 with p3 q3
  injection q3 with p4 q4
  subst p1
  subst p2
  subst p3
  subst p4
  subst q4
  exact pe fl
  refine pn hG 5 [1, 2, 4, 5, 6, 7, 11, 128] [1, 2, 4, 5, 7, 10200, 10201, 10401] [(128, bV (decide (((r93.1.length : Int)) < 1)))] [] (io 128 h (fun h => ?_) (fun h => ?_))
  refine pn hG 4 [1, 2, 4, 5, 6, 7, 11, 132] [1, 2, 4, 5, 7, 10200, 10201, 10401] [(132, bV true)] [] ?_
  injection h with q0
  injection q0 with p1 q1
  injection q1 with p2 q2
  injection q2 with p3 q3
  injection q3 with p4 q4
  subst p1
  subst p2
  subst p3
  subst p4
  subst q4
  exact pe fl
  refine pn hG 4 [1, 2, 4, 5, 6, 7, 11, 132] [1, 2, 4, 5, 7, 10200, 10201, 10401] [(132, bV (decide (((r93.1.length : Int)) > 12)))] [] ?_
  injection h with q0
  injection q0 with p1 q1
  injection q1 with p2 q2
  injection q2 with p3 q3
  injection q3 with p4 q4
  subst p1
  subst p2
  subst p3
  subst p4
  subst q4
  exact pe fl
  refine then_n (iw h (fun h => ?_) (fun h => ?_))
  refine pwp_seq (pwp_region (pn hG 3 [2, 3] [2] [(3, bV false)] [(2, .box [.nil, .nil])] (pe (then_n (ws ⟨[(2, .ptr 2 0), (3, bV false)], [(2, .box [.nil, .nil])]⟩ (pwp_weak (Le.obj (o := 2) (.box ([(eL cGFunc (([] : List GFunc))), (eL cGNode (([] : List GNode)))].map .t)) rfl (fun _ _ _ => le_box (.empty rfl (.empty rfl (.nil))))) ?_))))))
  cases h
  exact pwp_ret (then_ret (blk_ret (then_ret (round_out (by simp) (And.intro rfl rt)))))
  refine pwp_skip (then_n (pwp_seq (pwp_region ?_)))
  obtain ⟨hc105, h⟩ := grd h
  refine pd hG 4 [1, 2, 4, 6, 7, 11, 137] [1, 2, 4, 7, 137, 10200, 10201, 10401] [(137, .own 137)] [(137, .arr 31 1 (j98.length + 1) (appF (j98.length) (eF cL_cInt j98) (arrOf [eL cInt (r93.1)] 1)))] (Cs := [appC (j98.length) (1) 24 1 (arrOf [eL cInt (r93.1)] 1)]) ⟨hc105, ok_one rfl⟩ (os ⟨[(1, .ptr 1 0), (2, .ptr 2 0), (4, .ptr 4 0), (6, iV b61), (7, .ptr 7 0), (11, .t (eL cInt (r93.1))), (137, .own 137)], [(1, .box ((cGProgram (a0)).map .t)), (2, .box [.own 10200, .own 10201]), (4, .box [.t (eL cGFunc (a0.Funcs)), .own 10401]), (7, .box [iV b44, .t (eL cInt (b45)), .t (.str (b46)), iV b47, .t (.lz (.exprs (b48))), iV b49, iV b50, iV b51, .t (eL cInt (b52)), .t (eL cInt (b53)), iV b54, iV b55, iV b56, .t (eL cGAgg (b57)), .t (eL cGPat (b58)), .t (eL cGCol (b59))]), (137, .arr 31 1 (j98.length + 1) (appF (j98.length) (eF cL_cInt j98) (arrOf [eL cInt (r93.1)] 1))), (10200, .arr 42 7 (j95.length) (eF cGFunc j95)), (10201, .arr 47 16 (j96.length) (eF cGNode j96)), (10401, .arr 47 16 (j97.length) (eF cGNode j97))]⟩ (pops_weak (Le.obj (o := 137) (.arr 31 1 ((j98 ++ ([r93.1])).length) (eF cL_cInt (j98 ++ ([r93.1])))) rfl (fun _ _ _ => ObjR.row (by simp) (row_snoc cL_cInt j98 r93.1 _ rfl))) (pn hG 1 [1, 2, 4, 5, 6, 7, 11] [1, 2, 4, 7, 137, 10200, 10201, 10401] [(5, .own 137)] [(137, .arr 31 1 ((j98 ++ ([r93.1])).length) (eF cL_cInt (j98 ++ ([r93.1]))))] (pe (then_n (sn hG [1, 2, 4, 5, 6, 7, 11, 13] [1, 2, 4, 7, 137, 10200, 10201, 10401] [(13, .nil)] [] (pwp_seq (sn hG [1, 2, 4, 5, 6, 7, 11, 13, 14] [1, 2, 4, 7, 137, 10200, 10201, 10401] [(14, iV 0)] [] ?_))))))))
  refine ws ⟨[(1, .ptr 1 0), (2, .ptr 2 0), (4, .ptr 4 0), (5, .own 137), (6, iV b61), (7, .ptr 7 0), (11, .t (eL cInt (r93.1))), (13, .nil), (14, iV 0)], [(1, .box ((cGProgram (a0)).map .t)), (2, .box [.own 10200, .own 10201]), (4, .box [.t (eL cGFunc (a0.Funcs)), .own 10401]), (7, .box [iV b44, .t (eL cInt (b45)), .t (.str (b46)), iV b47, .t (.lz (.exprs (b48))), iV b49, iV b50, iV b51, .t (eL cInt (b52)), .t (eL cInt (b53)), iV b54, iV b55, iV b56, .t (eL cGAgg (b57)), .t (eL cGPat (b58)), .t (eL cGCol (b59))]), (137, .arr 31 1 ((j98 ++ ([r93.1])).length) (eF cL_cInt (j98 ++ ([r93.1])))), (10200, .arr 42 7 (j95.length) (eF cGFunc j95)), (10201, .arr 47 16 (j96.length) (eF cGNode j96)), (10401, .arr 47 16 (j97.length) (eF cGNode j97))]⟩ (pwp_weak (Le.rename (o := 137) (o' := 5) hG (by decide) rfl) (pwp_weak (Le.thaw (t := 13) (o := 13) (e := 50) (s := 3) (f := eF cGCol ([] : List GCol)) hG rfl) ?_))
  obtain ⟨R152, hR153, h⟩ := bnd h
  refine lp (F35_L2 n b44 b45 b46 b47 b48 b49 b50 b51 b52 b53 b54 b55 b56 b57 b58 b59 b61 r93) (fun (s : (List GFunc) × (List GNode) × (List GNode) × (List (List Int)) × (List GCol) × Int) => match s with | (v106, v107, v108, v109, v110, v111) => (⟨[(1, .ptr 1 0), (2, .ptr 2 0), (4, .ptr 4 0), (5, .own 5), (6, iV b61), (7, .ptr 7 0), (11, .t (eL cInt (r93.1))), (13, .own 13), (14, iV v111)], [(1, .box ((cGProgram (a0)).map .t)), (2, .box [.own 10200, .own 10201]), (4, .box [.t (eL cGFunc (a0.Funcs)), .own 10401]), (5, .arr 31 1 (v109.length) (eF cL_cInt v109)), (7, .box [iV b44, .t (eL cInt (b45)), .t (.str (b46)), iV b47, .t (.lz (.exprs (b48))), iV b49, iV b50, iV b51, .t (eL cInt (b52)), .t (eL cInt (b53)), iV b54, iV b55, iV b56, .t (eL cGAgg (b57)), .t (eL cGPat (b58)), .t (eL cGCol (b59))]), (13, .arr 50 3 (v110.length) (eF cGCol v110)), (10200, .arr 42 7 (v106.length) (eF cGFunc v106)), (10201, .arr 47 16 (v107.length) (eF cGNode v107)), (10401, .arr 47 16 (v108.length) (eF cGNode v108))]⟩ : St)) (fun (x0 : (List GFunc) × (List GNode) × (List GNode) × Int × (List Int) × ByteArray × Int × (List Expr) × Int × Int × Int × (List Int) × (List Int) × Int × Int × Int × (List GAgg) × (List GPat) × (List GCol) × (List (List Int)) × Int × (List GCol)) (e : Exit) (s : St) => e = .exit 4 ∧ Le E s ((fun (s : (List GFunc) × (List GNode) × (List GNode) × Int × (List Int) × ByteArray × Int × (List Expr) × Int × Int × Int × (List Int) × (List Int) × Int × Int × Int × (List GAgg) × (List GPat) × (List GCol) × (List (List Int)) × Int × (List GCol)) => match s with | (b112, b113, b114, b115, b116, b117, b118, b119, b120, b121, b122, b123, b124, b125, b126, b127, b128, b129, b130, b131, b132, b133) => (⟨[(1, .ptr 1 0), (2, .ptr 2 0), (4, .ptr 4 0), (5, .own 5), (6, iV b132), (7, .ptr 7 0), (13, .own 13)], [(1, .box ((cGProgram (a0)).map .t)), (2, .box [.own 10200, .own 10201]), (4, .box [.t (eL cGFunc (a0.Funcs)), .own 10401]), (5, .arr 31 1 (b131.length) (eF cL_cInt b131)), (7, .box [iV b115, .t (eL cInt (b116)), .t (.str (b117)), iV b118, .t (.lz (.exprs (b119))), iV b120, iV b121, iV b122, .t (eL cInt (b123)), .t (eL cInt (b124)), iV b125, iV b126, iV b127, .t (eL cGAgg (b128)), .t (eL cGPat (b129)), .t (eL cGCol (b130))]), (13, .arr 50 3 (b133.length) (eF cGCol b133)), (10200, .arr 42 7 (b112.length) (eF cGFunc b112)), (10201, .arr 47 16 (b113.length) (eF cGNode b113)), (10401, .arr 47 16 (b114.length) (eF cGNode b114))]⟩ : St)) x0)) ?_ n ((j95, j96, j97, j98 ++ ([r93.1]), ([] : List GCol), 0)) R152 hR153 ?_
  rintro ⟨v106, v107, v108, v109, v110, v111⟩ x h
  rw [F35_L2] at h
  refine pwp_seq (sn hG [1, 2, 4, 5, 6, 7, 11, 13, 14, 141] [1, 2, 4, 5, 7, 13, 10200, 10201, 10401] [(141, bV (decide (v111 < ((r93.1.length : Int)))))] [] (iw h (fun h => ?_) (fun h => ?_)))
  refine pwp_skip (then_n (pwp_seq (pwp_block (pwp_seq (pwp_region (pn hG 1 [1, 2, 4, 5, 6, 7, 11, 13, 14, 144] [1, 2, 4, 5, 7, 13, 10200, 10201, 10401] [(144, iV v111)] [] ?_))))))
  obtain ⟨r135, hr136, h⟩ := bnd h
  refine ca hG [] rfl rfl rfl rfl callable59 (.cons (.same _) .nil) (F59_ok n _ _ hr136) ?_
  obtain ⟨hc137, h⟩ := grd h
  refine pc hG 4 [1, 2, 4, 5, 6, 7, 11, 13, 14, 15] [1, 2, 4, 5, 7, 13, 15, 10200, 10201, 10401] [(15, .ptr 15 0)] [(15, .box [.t (.str (((⟨#[99]⟩) : ByteArray) ++ r135)), iV 0, .t (.str (⟨#[]⟩))])] hc137 (pe (then_n (pwp_seq (sn hG [1, 2, 4, 5, 6, 7, 11, 13, 14, 15, 153] [1, 2, 4, 5, 7, 13, 15, 10200, 10201, 10401] [(153, bV (((b59.length : Int)) == ((r93.1.length : Int))))] [] ?_))))
  obtain ⟨J147, hj148, h⟩ := bnd h
  obtain ⟨j139, j140, j141, j142, j143, j144, j145, j146⟩ := J147
  try dsimp only at h
  refine jn [1, 2, 4, 5, 6, 7, 11, 13, 14, 15] [1, 2, 4, 5, 7, 13, 15, 10200, 10201, 10401] [] [(5, .arr 31 1 (j145.length) (eF cL_cInt j145)), (13, .arr 50 3 (j146.length) (eF cGCol j146)), (15, .box [.t (.str (j142)), iV j143, .t (.str (j144))]), (10200, .arr 42 7 (j139.length) (eF cGFunc j139)), (10201, .arr 47 16 (j140.length) (eF cGNode j140)), (10401, .arr 47 16 (j141.length) (eF cGNode j141))] ?_ ?_
  replace h := hj148; clear hj148
  refine iw h (fun h => ?_) (fun h => ?_)
  refine pwp_region ?_
  obtain ⟨hc149, h⟩ := grd h
  refine pc hG 6 [1, 2, 4, 5, 6, 7, 11, 13, 14, 15] [1, 2, 4, 5, 7, 13, 15, 10200, 10201, 10401] [] [(15, .box ((cGCol (b59.getD (v111).toNat default)).map .t))] hc149 (pe ?_)
  injection h with q0
  injection q0 with p1 q1
  injection q1 with p2 q2
  injection q2 with p3 q3
  injection q3 with p4 q4
  injection q4 with p5 q5
  injection q5 with p6 q6
  injection q6 with p7 q7
  subst p1
  subst p2
  subst p3
  subst p4
  subst p5
  subst p6
  subst p7
  subst q7
  exact fl
  refine pwp_skip ?_
  injection h with q0
  injection q0 with p1 q1
  injection q1 with p2 q2
  injection q2 with p3 q3
  injection q3 with p4 q4
  injection q4 with p5 q5
  injection q5 with p6 q6
  injection q6 with p7 q7
  subst p1
  subst p2
  subst p3
  subst p4
  subst p5
  subst p6
  subst p7
  subst q7
  exact fl
  refine then_n (pwp_seq (pwp_region ?_))
  obtain ⟨hc150, h⟩ := grd h
  refine pc hG 6 [1, 2, 4, 5, 6, 7, 11, 13, 14, 15] [1, 2, 4, 5, 7, 13, 15, 10200, 10201, 10401] [] [(15, .box [.t (.str (j142)), iV (r93.1.getD (v111).toNat default), .t (.str (j144))])] hc150 (pe (then_n (pwp_region ?_)))
  obtain ⟨hc151, h⟩ := grd h
  refine pd hG 4 [1, 2, 4, 5, 6, 7, 11, 14, 167] [1, 2, 4, 5, 7, 167, 10200, 10201, 10401] [(167, .own 167)] [(167, .arr 50 3 (j146.length + 1) (appF (j146.length) (eF cGCol j146) (arrOf [.str (j142), .int .i64 (r93.1.getD (v111).toNat default), .str (j144)] 3)))] (Cs := [appC (j146.length) (1) 40 3 (arrOf [.str (j142), .int .i64 (r93.1.getD (v111).toNat default), .str (j144)] 3)]) ⟨hc151, ok_one rfl⟩ (os ⟨[(1, .ptr 1 0), (2, .ptr 2 0), (4, .ptr 4 0), (5, .own 5), (6, iV b61), (7, .ptr 7 0), (11, .t (eL cInt (r93.1))), (14, iV v111), (167, .own 167)], [(1, .box ((cGProgram (a0)).map .t)), (2, .box [.own 10200, .own 10201]), (4, .box [.t (eL cGFunc (a0.Funcs)), .own 10401]), (5, .arr 31 1 (j145.length) (eF cL_cInt j145)), (7, .box [iV b44, .t (eL cInt (b45)), .t (.str (b46)), iV b47, .t (.lz (.exprs (b48))), iV b49, iV b50, iV b51, .t (eL cInt (b52)), .t (eL cInt (b53)), iV b54, iV b55, iV b56, .t (eL cGAgg (b57)), .t (eL cGPat (b58)), .t (eL cGCol (b59))]), (167, .arr 50 3 (j146.length + 1) (appF (j146.length) (eF cGCol j146) (arrOf [.str (j142), .int .i64 (r93.1.getD (v111).toNat default), .str (j144)] 3))), (10200, .arr 42 7 (j139.length) (eF cGFunc j139)), (10201, .arr 47 16 (j140.length) (eF cGNode j140)), (10401, .arr 47 16 (j141.length) (eF cGNode j141))]⟩ (pops_weak (Le.obj (o := 167) (.arr 50 3 ((j146 ++ ([(GCol.mk j142 (r93.1.getD (v111).toNat default) j144)])).length) (eF cGCol (j146 ++ ([(GCol.mk j142 (r93.1.getD (v111).toNat default) j144)])))) rfl (fun _ _ _ => ObjR.row (by simp) (row_snoc cGCol j146 ((GCol.mk j142 (r93.1.getD (v111).toNat default) j144)) _ rfl))) (pn hG 1 [1, 2, 4, 5, 6, 7, 11, 13, 14] [1, 2, 4, 5, 7, 167, 10200, 10201, 10401] [(13, .own 167)] [(167, .arr 50 3 ((j146 ++ ([(GCol.mk j142 (r93.1.getD (v111).toNat default) j144)])).length) (eF cGCol (j146 ++ ([(GCol.mk j142 (r93.1.getD (v111).toNat default) j144)]))))] (pe (blk_n (then_n (rn hG [1, 2, 4, 5, 6, 7, 11, 13, 14] [1, 2, 4, 5, 7, 167, 10200, 10201, 10401] [(14, iV (IntKind.i64.wrap (v111 + 1)))] [] ?_)))))))
  cases h
  exact round_in (Le.trans (ls ⟨[(1, .ptr 1 0), (2, .ptr 2 0), (4, .ptr 4 0), (5, .own 5), (6, iV b61), (7, .ptr 7 0), (11, .t (eL cInt (r93.1))), (13, .own 167), (14, iV (IntKind.i64.wrap (v111 + 1)))], [(1, .box ((cGProgram (a0)).map .t)), (2, .box [.own 10200, .own 10201]), (4, .box [.t (eL cGFunc (a0.Funcs)), .own 10401]), (5, .arr 31 1 (j145.length) (eF cL_cInt j145)), (7, .box [iV b44, .t (eL cInt (b45)), .t (.str (b46)), iV b47, .t (.lz (.exprs (b48))), iV b49, iV b50, iV b51, .t (eL cInt (b52)), .t (eL cInt (b53)), iV b54, iV b55, iV b56, .t (eL cGAgg (b57)), .t (eL cGPat (b58)), .t (eL cGCol (b59))]), (167, .arr 50 3 ((j146 ++ ([(GCol.mk j142 (r93.1.getD (v111).toNat default) j144)])).length) (eF cGCol (j146 ++ ([(GCol.mk j142 (r93.1.getD (v111).toNat default) j144)])))), (10200, .arr 42 7 (j139.length) (eF cGFunc j139)), (10201, .arr 47 16 (j140.length) (eF cGNode j140)), (10401, .arr 47 16 (j141.length) (eF cGNode j141))]⟩) (Le.trans (Le.rename (o := 167) (o' := 13) hG (by decide) rfl) lk))
  cases h
  exact pwp_exit (then_exit (round_out (by simp) (And.intro rfl lk)))
  intro e s hq
  obtain ⟨b112, b113, b114, b115, b116, b117, b118, b119, b120, b121, b122, b123, b124, b125, b126, b127, b128, b129, b130, b131, b132, b133⟩ := R152
  try dsimp only at h
  obtain ⟨rfl, hle⟩ := hq
  refine ⟨_, hle, blk_hit ?_⟩
  refine then_n (pwp_seq (pwp_region (pn hG 3 [1, 2, 4, 5, 6, 7] [1, 2, 4, 5, 7, 13, 10200, 10201, 10401] [] [(7, .box [iV b115, .t (eL cInt (b116)), .t (.str (b117)), iV b118, .t (.lz (.exprs (b119))), iV b120, iV b121, iV b122, .t (eL cInt (b123)), .t (eL cInt (b124)), iV b125, iV b126, iV b127, .t (eL cGAgg (b128)), .t (eL cGPat (b129)), .own 13])] (pe (then_n (pwp_region (pn hG 2 [1, 2, 4, 5, 6, 7, 171] [1, 2, 4, 5, 7, 13, 10200, 10201, 10401] [(171, .own 10401)] [] (os ⟨[(1, .ptr 1 0), (2, .ptr 2 0), (4, .ptr 4 0), (5, .own 5), (6, iV b132), (7, .ptr 7 0), (171, .own 10401)], [(1, .box ((cGProgram (a0)).map .t)), (2, .box [.own 10200, .own 10201]), (4, .box [.t (eL cGFunc (a0.Funcs)), .own 10401]), (5, .arr 31 1 (b131.length) (eF cL_cInt b131)), (7, .box [iV b115, .t (eL cInt (b116)), .t (.str (b117)), iV b118, .t (.lz (.exprs (b119))), iV b120, iV b121, iV b122, .t (eL cInt (b123)), .t (eL cInt (b124)), iV b125, iV b126, iV b127, .t (eL cGAgg (b128)), .t (eL cGPat (b129)), .own 13]), (13, .arr 50 3 (b133.length) (eF cGCol b133)), (10200, .arr 42 7 (b112.length) (eF cGFunc b112)), (10201, .arr 47 16 (b113.length) (eF cGNode b113)), (10401, .arr 47 16 (b114.length) (eF cGNode b114))]⟩ ?_))))))))
  refine pops_weak (Le.trans (Le.freeze (o := 13) (eL cGCol (b133)) rfl rfl rfl) (Le.keep (ts := [1, 2, 4, 5, 6, 7, 171]) (os := [1, 2, 4, 5, 7, 10200, 10201, 10401]) (t := ⟨[(1, .ptr 1 0), (2, .ptr 2 0), (4, .ptr 4 0), (5, .own 5), (6, iV b132), (7, .ptr 7 0), (171, .own 10401)], [(1, .box ((cGProgram (a0)).map .t)), (2, .box [.own 10200, .own 10201]), (4, .box [.t (eL cGFunc (a0.Funcs)), .own 10401]), (5, .arr 31 1 (b131.length) (eF cL_cInt b131)), (7, .box [iV b115, .t (eL cInt (b116)), .t (.str (b117)), iV b118, .t (.lz (.exprs (b119))), iV b120, iV b121, iV b122, .t (eL cInt (b123)), .t (eL cInt (b124)), iV b125, iV b126, iV b127, .t (eL cGAgg (b128)), .t (eL cGPat (b129)), .t (eL cGCol (b133))]), (10200, .arr 42 7 (b112.length) (eF cGFunc b112)), (10201, .arr 47 16 (b113.length) (eF cGNode b113)), (10401, .arr 47 16 (b114.length) (eF cGNode b114))]⟩) (by kernel_rfl))) ?_
  obtain ⟨hc154, h⟩ := grd h
  refine pd hG 3 [1, 2, 4, 5, 6, 174] [1, 2, 4, 5, 174, 10200, 10201] [(174, .own 174)] [(4, .box [.t (eL cGFunc (a0.Funcs)), .any]), (174, .arr 47 16 (b114.length + 1) (appF (b114.length) (eF cGNode b114) (arrOf [.int .i64 (b115), eL cInt (b116), .str (b117), .int .i64 (b118), .lz (.exprs (b119)), .int .i64 (b120), .int .i64 (b121), .int .i64 (b122), eL cInt (b123), eL cInt (b124), .int .i64 (b125), .int .i64 (b126), .int .i64 (b127), eL cGAgg (b128), eL cGPat (b129), eL cGCol (b133)] 16)))] (Cs := [appC (b114.length) (1) 248 16 (arrOf [.int .i64 (b115), eL cInt (b116), .str (b117), .int .i64 (b118), .lz (.exprs (b119)), .int .i64 (b120), .int .i64 (b121), .int .i64 (b122), eL cInt (b123), eL cInt (b124), .int .i64 (b125), .int .i64 (b126), .int .i64 (b127), eL cGAgg (b128), eL cGPat (b129), eL cGCol (b133)] 16)]) ⟨hc154, ok_one rfl⟩ (os ⟨[(1, .ptr 1 0), (2, .ptr 2 0), (4, .ptr 4 0), (5, .own 5), (6, iV b132), (174, .own 174)], [(1, .box ((cGProgram (a0)).map .t)), (2, .box [.own 10200, .own 10201]), (4, .box [.t (eL cGFunc (a0.Funcs)), .any]), (5, .arr 31 1 (b131.length) (eF cL_cInt b131)), (174, .arr 47 16 (b114.length + 1) (appF (b114.length) (eF cGNode b114) (arrOf [.int .i64 (b115), eL cInt (b116), .str (b117), .int .i64 (b118), .lz (.exprs (b119)), .int .i64 (b120), .int .i64 (b121), .int .i64 (b122), eL cInt (b123), eL cInt (b124), .int .i64 (b125), .int .i64 (b126), .int .i64 (b127), eL cGAgg (b128), eL cGPat (b129), eL cGCol (b133)] 16))), (10200, .arr 42 7 (b112.length) (eF cGFunc b112)), (10201, .arr 47 16 (b113.length) (eF cGNode b113))]⟩ (pops_weak (Le.obj (o := 174) (.arr 47 16 ((b114 ++ ([(GNode.mk b115 b116 b117 b118 b119 b120 b121 b122 b123 b124 b125 b126 b127 b128 b129 b133)])).length) (eF cGNode (b114 ++ ([(GNode.mk b115 b116 b117 b118 b119 b120 b121 b122 b123 b124 b125 b126 b127 b128 b129 b133)])))) rfl (fun _ _ _ => ObjR.row (by simp) (row_snoc cGNode b114 ((GNode.mk b115 b116 b117 b118 b119 b120 b121 b122 b123 b124 b125 b126 b127 b128 b129 b133)) _ rfl))) (pn hG 2 [1, 2, 4, 5, 6] [1, 2, 4, 5, 174, 10200, 10201] [] [(4, .box [.t (eL cGFunc (a0.Funcs)), .own 174]), (174, .arr 47 16 ((b114 ++ ([(GNode.mk b115 b116 b117 b118 b119 b120 b121 b122 b123 b124 b125 b126 b127 b128 b129 b133)])).length) (eF cGNode (b114 ++ ([(GNode.mk b115 b116 b117 b118 b119 b120 b121 b122 b123 b124 b125 b126 b127 b128 b129 b133)]))))] (pe (blk_n (then_n (rn hG [1, 2, 4, 5, 6] [1, 2, 4, 5, 174, 10200, 10201] [(6, iV (IntKind.i64.wrap (b132 + 1)))] [] ?_)))))))
  cases h
  exact round_in (Le.trans (ls ⟨[(1, .ptr 1 0), (2, .ptr 2 0), (4, .ptr 4 0), (5, .own 5), (6, iV (IntKind.i64.wrap (b132 + 1)))], [(1, .box ((cGProgram (a0)).map .t)), (2, .box [.own 10200, .own 10201]), (4, .box [.t (eL cGFunc (a0.Funcs)), .own 174]), (5, .arr 31 1 (b131.length) (eF cL_cInt b131)), (174, .arr 47 16 ((b114 ++ ([(GNode.mk b115 b116 b117 b118 b119 b120 b121 b122 b123 b124 b125 b126 b127 b128 b129 b133)])).length) (eF cGNode (b114 ++ ([(GNode.mk b115 b116 b117 b118 b119 b120 b121 b122 b123 b124 b125 b126 b127 b128 b129 b133)])))), (10200, .arr 42 7 (b112.length) (eF cGFunc b112)), (10201, .arr 47 16 (b113.length) (eF cGNode b113))]⟩) (Le.trans (Le.rename (o := 174) (o' := 10401) hG (by decide) rfl) lk))
  try dsimp only at h
  obtain ⟨rfl, hq⟩ := hq
  cases h
  exact ⟨_, Le.refl, blk_ret (then_ret (blk_ret (then_ret (round_out (by simp) (And.intro rfl (hq))))))⟩
  cases h
  exact pwp_exit (then_exit (round_out (by simp) (And.intro rfl lk)))
  intro e s hq
  rcases R156 with ⟨b14, b15, b16⟩ | y158
  try dsimp only at h
  obtain ⟨rfl, hle⟩ := hq
  refine ⟨_, hle, blk_hit ?_⟩
  refine then_n (pwp_seq (pwp_region (pops_weak (Le.trans (Le.freeze (o := 10401) (eL cGNode (b16)) rfl rfl rfl) (Le.keep (ts := [2, 4]) (os := [2, 4, 10200, 10201]) (t := ⟨[(2, .ptr 2 0), (4, .ptr 4 0)], [(2, .box [.own 10200, .own 10201]), (4, .box [.t (eL cGFunc (a0.Funcs)), .t (eL cGNode (b16))]), (10200, .arr 42 7 (b14.length) (eF cGFunc b14)), (10201, .arr 47 16 (b15.length) (eF cGNode b15))]⟩) (by kernel_rfl))) (pn hG 3 [2, 3] [2] [(3, bV true)] [(2, .box [.t (eL cGFunc (a0.Funcs)), .t (eL cGNode (b16))])] (pe (then_n ?_))))))
  cases h
  exact pwp_ret rt
  try dsimp only at h
  obtain ⟨rfl, hq⟩ := hq
  cases h
  exact ⟨_, Le.refl, blk_ret (then_ret (hq))⟩

def F24_L0 (n : Nat) (a0 : GProgram) (r1 : GProgram × Bool) : Int → Option ((Int) ⊕ ((Unit) ⊕ (Bool)))
  | v4 => if (decide (v4 < ((a0.Nodes.length : Int)))) = true then (if 0 ≤ v4 ∧ v4 < (a0.Nodes.length : Int) then ((F37 n ((a0.Nodes.getD (v4).toNat default).Cols)).bind fun r7 => if 0 ≤ v4 ∧ v4 < (r1.1.Nodes.length : Int) then ((F37 n ((r1.1.Nodes.getD (v4).toNat default).Cols)).bind fun r10 => (F36 n r7 r10).bind fun r12 => if (!r12) = true then (some (.inr (.inr (false)))) else (some (.inl (IntKind.i64.wrap (v4 + 1))))) else none) else none) else (some (.inr (.inl (()))))
def F24 (n : Nat) (a0 : GProgram) : Option (Bool) := (F35 n a0).bind fun r1 => if (!r1.2) = true then (some (false)) else (Option.bind (iterM (F24_L0 n a0 r1) n (0)) fun R15 => match R15 with | .inl (_) => (some (true)) | .inr (y17) => (some (y17)))
abbrev I24 : Inf := ⟨look tiL, [], 36⟩
set_option maxRecDepth 20000 in
theorem F24_ok (n : Nat) (a0 : GProgram) (y : Bool) (h : F24 n a0 = some y) : PCall Proofs.Try.prog 24 [.t (eGProgram a0)] [] [] (Ret (.t (.bool (y)))) := by
  refine pcall_of (I := I24) Proofs.Try.func24 rfl ti_ok Proofs.Try.ntmps24 (le_n (by kernel_rfl)) (fun E hG => ?_)
  unfold F24 at h
  refine sn hG [1] [1] [(1, .ptr 1 0)] [(1, .box ((cGProgram (a0)).map .t))] (pwp_seq (pwp_region (pn hG 1 [1, 7] [1] [(7, .t (eGProgram a0))] [] ?_)))
  obtain ⟨r1, hr2, h⟩ := bnd h
  refine ca hG [] rfl rfl rfl rfl callable35 (.cons (.same _) .nil) (F35_ok n _ _ hr2) (pn hG 6 [1, 3, 4] [1, 3] [(3, .ptr 3 0), (4, bV r1.2)] [(3, .box ((cGProgram (r1.1)).map .t))] (pe (then_n (pwp_seq (sn hG [1, 3, 12] [1, 3] [(12, bV (!r1.2))] [] (iw h (fun h => ?_) (fun h => ?_)))))))
  refine sn hG [2] [] [(2, bV false)] [] ?_
  cases h
  exact pwp_ret (then_ret rt)
  refine pwp_skip (then_n (pwp_seq (sn hG [1, 3, 5] [1, 3] [(5, iV 0)] [] ?_)))
  obtain ⟨R15, hR16, h⟩ := bnd h
  refine lp (F24_L0 n a0 r1) (fun (v4 : Int) => (⟨[(1, .ptr 1 0), (3, .ptr 3 0), (5, iV v4)], [(1, .box ((cGProgram (a0)).map .t)), (3, .box ((cGProgram (r1.1)).map .t))]⟩ : St)) (fun (r : (Unit) ⊕ (Bool)) (e : Exit) (s : St) => match r with | .inl (x0) => e = .exit 0 ∧ Le E s ((fun (_ : Unit) => (⟨[], []⟩ : St)) x0) | .inr (y0) => e = .ret ∧ finQ I24 Proofs.Try.f24.results.toList (Ret (bV y0)) .ret s) ?_ n (0) R15 hR16 ?_
  intro v4 x h
  rw [F24_L0] at h
  refine pwp_seq (sn hG [1, 3, 5, 17] [1, 3] [(17, bV (decide (v4 < ((a0.Nodes.length : Int)))))] [] (iw h (fun h => ?_) (fun h => ?_)))
  refine pwp_skip (then_n (pwp_seq (pwp_block (pwp_seq ?_))))
  obtain ⟨hc6, h⟩ := grd h
  obtain ⟨r7, hr8, h⟩ := bnd h
  obtain ⟨hc9, h⟩ := grd h
  obtain ⟨r10, hr11, h⟩ := bnd h
  obtain ⟨r12, hr13, h⟩ := bnd h
  refine ln hG [(6, 37, [.t (eL cGCol ((a0.Nodes.getD (v4).toNat default).Cols))], .t (eL cInt (r7))), (13, 37, [.t (eL cGCol ((r1.1.Nodes.getD (v4).toNat default).Cols))], .t (eL cInt (r10))), (14, 36, [.t (eL cInt (r7)), .t (eL cInt (r10))], bV r12)] [] [(3, [0 ≤ v4 ∧ v4 < (a0.Nodes.length : Int)]), (10, [0 ≤ v4 ∧ v4 < (r1.1.Nodes.length : Int)])] [(1, false, []), (3, false, [])] [1, 3, 5, 17] (.cons ⟨callable37, ⟨_, fun _ => (.cons (.same _) .nil), F37_ok n _ _ hr8⟩, rfl⟩ (.cons ⟨callable37, ⟨_, fun _ => (.cons (.same _) .nil), F37_ok n _ _ hr11⟩, rfl⟩ (.cons ⟨callable36, ⟨_, fun _ => (.cons (.same _) (.cons (.same _) .nil)), F36_ok n _ _ _ hr13⟩, rfl⟩ .nil))) .nil (.cons hc6 (.cons hc9 .nil)) [1, 3, 5, 35] [1, 3] [(35, bV (!r12))] [] (then_n (iw h (fun h => ?_) (fun h => ?_)))
  refine sn hG [2] [] [(2, bV false)] [] ?_
  cases h
  exact pwp_ret (blk_ret (then_ret (round_out (by simp) (And.intro rfl rt))))
  refine pwp_skip (blk_n (then_n (rn hG [1, 3, 5] [1, 3] [(5, iV (IntKind.i64.wrap (v4 + 1)))] [] ?_)))
  cases h
  exact round_in lk
  cases h
  exact pwp_exit (then_exit (round_out (by simp) (And.intro rfl lk)))
  intro e s hq
  rcases R15 with _ | y17
  try dsimp only at h
  obtain ⟨rfl, hle⟩ := hq
  refine ⟨_, hle, blk_hit ?_⟩
  refine then_n (sn hG [2] [] [(2, bV true)] [] ?_)
  cases h
  exact pwp_ret rt
  try dsimp only at h
  obtain ⟨rfl, hq⟩ := hq
  cases h
  exact ⟨_, Le.refl, blk_ret (then_ret (hq))⟩

def F38 (n : Nat) (a0 : Int) : Option (Int) := if (a0 == 0) = true then (some (0)) else (Option.bind (if (a0 == 3) = true then (some (a0 == 3)) else (Option.bind (if (a0 == 6) = true then (some (a0 == 6)) else (some (a0 == 7)) : Option (Bool)) fun j7 => some (j7)) : Option (Bool)) fun j3 => if (j3) = true then (some (2)) else (some (1)))
abbrev I38 : Inf := ⟨look tiL, [], 10⟩
set_option maxRecDepth 20000 in
theorem F38_ok (n : Nat) (a0 : Int) (y : Int) (h : F38 n a0 = some y) : PCall Proofs.Try.prog 38 [.t (.int .i64 (a0))] [] [] (Ret (.t (.int .i64 (y)))) := by
  refine pcall_of (I := I38) Proofs.Try.func38 rfl ti_ok Proofs.Try.ntmps38 (le_n (by kernel_rfl)) (fun E hG => ?_)
  unfold F38 at h
  refine sn hG [0] [] [] [] (pwp_seq (sn hG [3] [] [(3, iV a0)] [] (pwp_block (sn hG [3, 4] [] [(4, bV (a0 == 0))] [] (iw h (fun h => ?_) (fun h => ?_))))))
  refine sn hG [2] [] [(2, iV 0)] [] ?_
  cases h
  exact pwp_ret (blk_ret (then_ret rt))
  refine pwp_seq (sn hG [3, 6] [] [(6, bV (a0 == 3))] [] ?_)
  obtain ⟨j3, hj5, h⟩ := bnd h
  refine jn [6] [] [(6, bV j3)] [] ?_ ?_
  replace h := hj5; clear hj5
  refine iw h (fun h => ?_) (fun h => ?_)
  refine pwp_skip ?_
  cases h
  exact fl
  refine sn hG [3, 6] [] [(6, bV (a0 == 6))] [] ?_
  obtain ⟨j7, hj9, h⟩ := bnd h
  refine jn [6] [] [(6, bV j7)] [] ?_ ?_
  replace h := hj9; clear hj9
  refine iw h (fun h => ?_) (fun h => ?_)
  refine pwp_skip ?_
  cases h
  exact fl
  refine rn hG [6] [] [(6, bV (a0 == 7))] [] ?_
  cases h
  exact fl
  cases h
  exact fl
  refine then_n (iw h (fun h => ?_) (fun h => ?_))
  refine sn hG [2] [] [(2, iV 2)] [] ?_
  cases h
  exact pwp_ret (blk_ret (then_ret rt))
  refine pwp_skip (blk_n (then_n (sn hG [2] [] [(2, iV 1)] [] ?_)))
  cases h
  exact pwp_ret rt

def F25_L1 (n : Nat) (a0 : GProgram) (v6 : Int) : Int → Option ((Int) ⊕ ((Int) ⊕ (Bool)))
  | v17 => if (decide (v17 < ((((a0.Nodes.getD (v6).toNat default).In).length : Int)))) = true then (Option.bind (if 0 ≤ v17 ∧ v17 < (((a0.Nodes.getD (v6).toNat default).In).length : Int) then (if (decide ((((a0.Nodes.getD (v6).toNat default).In).getD (v17).toNat default) < 0)) = true then (some (true)) else (if 0 ≤ v17 ∧ v17 < (((a0.Nodes.getD (v6).toNat default).In).length : Int) then (some (decide ((((a0.Nodes.getD (v6).toNat default).In).getD (v17).toNat default) ≥ v6))) else none)) else none : Option (Bool)) fun j20 => if (j20) = true then (some (.inr (.inr (false)))) else (some (.inl (IntKind.i64.wrap (v17 + 1))))) else (some (.inr (.inl (v6))))
def F25_L0 (n : Nat) (a0 : GProgram) : Int → Option ((Int) ⊕ ((Unit) ⊕ (Bool)))
  | v6 => if (decide (v6 < ((a0.Nodes.length : Int)))) = true then (if 0 ≤ v6 ∧ v6 < (a0.Nodes.length : Int) then (Option.bind (if (decide (((a0.Nodes.getD (v6).toNat default).Op) < 0)) = true then (some (true)) else (if (decide (((a0.Nodes.getD (v6).toNat default).Op) ≥ 9)) = true then (some (true)) else ((F38 n ((a0.Nodes.getD (v6).toNat default).Op)).bind fun r14 => some (((((a0.Nodes.getD (v6).toNat default).In).length : Int)) != r14))) : Option (Bool)) fun j9 => if (j9) = true then (some (.inr (.inr (false)))) else (Option.bind (iterM (F25_L1 n a0 v6) n (0)) fun R27 => match R27 with | .inl (b18) => (some (.inl (IntKind.i64.wrap (b18 + 1)))) | .inr (y29) => (some (.inr (.inr (y29)))))) else none) else (some (.inr (.inl (()))))
def F25 (n : Nat) (a0 : GProgram) : Option (Bool) := Option.bind (if (decide (((a0.Nodes.length : Int)) < 1)) = true then (some (true)) else (some (decide (((a0.Nodes.length : Int)) > 40))) : Option (Bool)) fun j1 => if (j1) = true then (some (false)) else (Option.bind (iterM (F25_L0 n a0) n (0)) fun R30 => match R30 with | .inl (_) => (some (true)) | .inr (y32) => (some (y32)))
abbrev I25 : Inf := ⟨look tiL, [], 67⟩
set_option maxRecDepth 20000 in
theorem F25_ok (n : Nat) (a0 : GProgram) (y : Bool) (h : F25 n a0 = some y) : PCall Proofs.Try.prog 25 [.t (eGProgram a0)] [] [] (Ret (.t (.bool (y)))) := by
  refine pcall_of (I := I25) Proofs.Try.func25 rfl ti_ok Proofs.Try.ntmps25 (le_n (by kernel_rfl)) (fun E hG => ?_)
  unfold F25 at h
  refine sn hG [1] [1] [(1, .ptr 1 0)] [(1, .box ((cGProgram (a0)).map .t))] (pwp_seq (pwp_seq ?_))
  obtain ⟨j1, hj3, h⟩ := bnd h
  refine jn [1, 15] [1] [(15, bV j1)] [] ?_ ?_
  replace h := hj3; clear hj3
  refine pwp_region (pn hG 5 [1, 10] [1] [(10, bV (decide (((a0.Nodes.length : Int)) < 1)))] [] (io 10 h (fun h => ?_) (fun h => ?_)))
  refine pn hG 5 [1, 15] [1] [(15, bV true)] [] ?_
  cases h
  exact pe fl
  refine pn hG 5 [1, 15] [1] [(15, bV (decide (((a0.Nodes.length : Int)) > 40)))] [] ?_
  cases h
  exact pe fl
  refine then_n (iw h (fun h => ?_) (fun h => ?_))
  refine sn hG [2] [] [(2, bV false)] [] ?_
  cases h
  exact pwp_ret (then_ret rt)
  refine pwp_skip (then_n (pwp_seq (sn hG [1, 3] [1] [(3, iV 0)] [] ?_)))
  obtain ⟨R30, hR31, h⟩ := bnd h
  refine lp (F25_L0 n a0) (fun (v6 : Int) => (⟨[(1, .ptr 1 0), (3, iV v6)], [(1, .box ((cGProgram (a0)).map .t))]⟩ : St)) (fun (r : (Unit) ⊕ (Bool)) (e : Exit) (s : St) => match r with | .inl (x0) => e = .exit 0 ∧ Le E s ((fun (_ : Unit) => (⟨[], []⟩ : St)) x0) | .inr (y0) => e = .ret ∧ finQ I25 Proofs.Try.f25.results.toList (Ret (bV y0)) .ret s) ?_ n (0) R30 hR31 ?_
  intro v6 x h
  rw [F25_L0] at h
  refine pwp_seq (sn hG [1, 3, 20] [1] [(20, bV (decide (v6 < ((a0.Nodes.length : Int)))))] [] (iw h (fun h => ?_) (fun h => ?_)))
  refine pwp_skip (then_n (pwp_seq (pwp_block (pwp_seq (pwp_region ?_)))))
  obtain ⟨hc8, h⟩ := grd h
  refine pc hG 7 [1, 3, 4] [1, 4] [(4, .ptr 4 0)] [(4, .box ((cGNode (a0.Nodes.getD (v6).toNat default)).map .t))] hc8 (pe (then_n (pwp_seq (pwp_seq ?_))))
  obtain ⟨j9, hj11, h⟩ := bnd h
  refine jn [1, 3, 4, 44] [1, 4] [(44, bV j9)] [] ?_ ?_
  replace h := hj11; clear hj11
  refine (Bool.eq_false_or_eq_true (decide (((a0.Nodes.getD (v6).toNat default).Op) < 0))).elim (fun hb12 => ?_) (fun hb12 => ?_)
  have h := ite_t hb12 h
  refine ln hG [] [(3, (decide (((a0.Nodes.getD (v6).toNat default).Op) < 0), true))] [] [(1, false, []), (4, false, [])] [1, 3, 4] .nil (.cons hb12 .nil) .nil [1, 3, 4, 44] [1, 4] [(44, bV true)] [] ?_
  cases h
  exact fl
  have h := ite_f hb12 h
  refine (Bool.eq_false_or_eq_true (decide (((a0.Nodes.getD (v6).toNat default).Op) ≥ 9))).elim (fun hb13 => ?_) (fun hb13 => ?_)
  have h := ite_t hb13 h
  refine ln hG [] [(3, (decide (((a0.Nodes.getD (v6).toNat default).Op) < 0), false)), (8, (decide (((a0.Nodes.getD (v6).toNat default).Op) ≥ 9), true))] [] [(1, false, []), (4, false, [])] [1, 3, 4] .nil (.cons hb12 (.cons hb13 .nil)) .nil [1, 3, 4, 44] [1, 4] [(44, bV true)] [] ?_
  cases h
  exact fl
  have h := ite_f hb13 h
  obtain ⟨r14, hr15, h⟩ := bnd h
  refine ln hG [(14, 38, [iV ((a0.Nodes.getD (v6).toNat default).Op)], iV r14)] [(3, (decide (((a0.Nodes.getD (v6).toNat default).Op) < 0), false)), (8, (decide (((a0.Nodes.getD (v6).toNat default).Op) ≥ 9), false))] [] [(1, false, []), (4, false, [])] [1, 3, 4] (.cons ⟨callable38, ⟨_, fun _ => (.cons (.same _) .nil), F38_ok n _ _ hr15⟩, rfl⟩ .nil) (.cons hb12 (.cons hb13 .nil)) .nil [1, 3, 4, 44] [1, 4] [(44, bV (((((a0.Nodes.getD (v6).toNat default).In).length : Int)) != r14))] [] ?_
  cases h
  exact fl
  refine then_n (iw h (fun h => ?_) (fun h => ?_))
  refine sn hG [2] [] [(2, bV false)] [] ?_
  cases h
  exact pwp_ret (then_ret (blk_ret (then_ret (round_out (by simp) (And.intro rfl rt)))))
  refine pwp_skip (then_n (sn hG [1, 3, 4, 5] [1, 4] [(5, iV 0)] [] ?_))
  obtain ⟨R27, hR28, h⟩ := bnd h
  refine lp (F25_L1 n a0 v6) (fun (v17 : Int) => (⟨[(1, .ptr 1 0), (3, iV v6), (4, .ptr 4 0), (5, iV v17)], [(1, .box ((cGProgram (a0)).map .t)), (4, .box ((cGNode (a0.Nodes.getD (v6).toNat default)).map .t))]⟩ : St)) (fun (r : (Int) ⊕ (Bool)) (e : Exit) (s : St) => match r with | .inl (x0) => e = .exit 2 ∧ Le E s ((fun (b18 : Int) => (⟨[(1, .ptr 1 0), (3, iV b18)], [(1, .box ((cGProgram (a0)).map .t))]⟩ : St)) x0) | .inr (y0) => e = .ret ∧ finQ I25 Proofs.Try.f25.results.toList (Ret (bV y0)) .ret s) ?_ n (0) R27 hR28 ?_
  intro v17 x h
  rw [F25_L1] at h
  refine pwp_seq (sn hG [1, 3, 4, 5, 49] [1, 4] [(49, bV (decide (v17 < ((((a0.Nodes.getD (v6).toNat default).In).length : Int)))))] [] (iw h (fun h => ?_) (fun h => ?_)))
  refine pwp_skip (then_n (pwp_seq (pwp_block (pwp_seq ?_))))
  obtain ⟨j20, hj22, h⟩ := bnd h
  refine jn [1, 3, 4, 5, 66] [1, 4] [(66, bV j20)] [] ?_ ?_
  replace h := hj22; clear hj22
  refine pwp_region ?_
  obtain ⟨hc23, h⟩ := grd h
  refine pc hG 7 [1, 3, 4, 5, 58] [1, 4] [(58, bV (decide ((((a0.Nodes.getD (v6).toNat default).In).getD (v17).toNat default) < 0)))] [] hc23 (io 58 h (fun h => ?_) (fun h => ?_))
  refine pn hG 8 [1, 3, 4, 5, 66] [1, 4] [(66, bV true)] [] ?_
  cases h
  exact pe fl
  obtain ⟨hc25, h⟩ := grd h
  refine pc hG 8 [1, 3, 4, 5, 66] [1, 4] [(66, bV (decide ((((a0.Nodes.getD (v6).toNat default).In).getD (v17).toNat default) ≥ v6)))] [] hc25 ?_
  cases h
  exact pe fl
  refine then_n (iw h (fun h => ?_) (fun h => ?_))
  refine sn hG [2] [] [(2, bV false)] [] ?_
  cases h
  exact pwp_ret (blk_ret (then_ret (round_out (by simp) (And.intro rfl rt))))
  refine pwp_skip (blk_n (then_n (rn hG [1, 3, 4, 5] [1, 4] [(5, iV (IntKind.i64.wrap (v17 + 1)))] [] ?_)))
  cases h
  exact round_in lk
  cases h
  exact pwp_exit (then_exit (round_out (by simp) (And.intro rfl lk)))
  intro e s hq
  rcases R27 with b18 | y29
  try dsimp only at h
  obtain ⟨rfl, hle⟩ := hq
  refine ⟨_, hle, blk_hit ?_⟩
  refine blk_n (then_n (rn hG [1, 3] [1] [(3, iV (IntKind.i64.wrap (b18 + 1)))] [] ?_))
  cases h
  exact round_in lk
  try dsimp only at h
  obtain ⟨rfl, hq⟩ := hq
  cases h
  exact ⟨_, Le.refl, blk_ret (blk_ret (then_ret (round_out (by simp) (And.intro rfl (hq)))))⟩
  cases h
  exact pwp_exit (then_exit (round_out (by simp) (And.intro rfl lk)))
  intro e s hq
  rcases R30 with _ | y32
  try dsimp only at h
  obtain ⟨rfl, hle⟩ := hq
  refine ⟨_, hle, blk_hit ?_⟩
  refine then_n (sn hG [2] [] [(2, bV true)] [] ?_)
  cases h
  exact pwp_ret rt
  try dsimp only at h
  obtain ⟨rfl, hq⟩ := hq
  cases h
  exact ⟨_, Le.refl, blk_ret (then_ret (hq))⟩

def F39 (n : Nat) (a0 : Int) (a1 : Int) (a2 : Int) : Option (Bool) := Option.bind (if (decide (a0 ≥ a1)) = true then (some (decide (a0 ≤ a2))) else (some (false)) : Option (Bool)) fun j1 => some (j1)
abbrev I39 : Inf := ⟨look tiL, [], 15⟩
set_option maxRecDepth 20000 in
theorem F39_ok (n : Nat) (a0 : Int) (a1 : Int) (a2 : Int) (y : Bool) (h : F39 n a0 a1 a2 = some y) : PCall Proofs.Try.prog 39 [.t (.int .i64 (a0)), .t (.int .i64 (a1)), .t (.int .i64 (a2))] [] [] (Ret (.t (.bool (y)))) := by
  refine pcall_of (I := I39) Proofs.Try.func39 rfl ti_ok Proofs.Try.ntmps39 (le_n (by kernel_rfl)) (fun E hG => ?_)
  unfold F39 at h
  refine sn hG [0, 1, 2] [] [] [] (pwp_seq ?_)
  obtain ⟨j1, hj3, h⟩ := bnd h
  refine jn [6] [] [(6, bV j1)] [] ?_ ?_
  replace h := hj3; clear hj3
  refine pwp_region (pn hG 4 [0, 2, 10] [] [(10, bV (decide (a0 ≥ a1)))] [] (io 10 h (fun h => ?_) (fun h => ?_)))
  refine pn hG 5 [6] [] [(6, bV (decide (a0 ≤ a2)))] [] ?_
  cases h
  exact pe fl
  refine pn hG 5 [6] [] [(6, bV false)] [] ?_
  cases h
  exact pe fl
  refine then_n ?_
  cases h
  exact pwp_ret rt

def F26 (n : Nat) (a0 : GNode) : Option (Bool) := if (a0.Op == 4) = true then ((F39 n a0.Size 1 10000).bind fun r2 => if (!r2) = true then (some (false)) else (if (a0.Kind == 0) = true then (some (true)) else (if (a0.Kind == 1) = true then (if (decide (a0.Step < 1)) = true then (some (false)) else (if a0.Step ≠ 0 then (some ((Int.tmod a0.Size a0.Step) == 0)) else none)) else (if (a0.Kind == 2) = true then ((F39 n a0.Step 1 a0.Size).bind fun r10 => some (r10)) else (some (false)))))) else (if (a0.Op == 5) = true then (Option.bind ((F39 n a0.Size 1 10000).bind fun r16 => if (r16) = true then ((F39 n a0.Keep 1 100).bind fun r19 => some (r19)) else (some (false)) : Option (Bool)) fun j13 => some (j13)) else (if (a0.Op == 6) = true then (Option.bind ((F39 n a0.Before 0 10000).bind fun r25 => if (r25) = true then ((F39 n a0.After 0 10000).bind fun r28 => some (r28)) else (some (false)) : Option (Bool)) fun j22 => some (j22)) else (if (a0.Op == 7) = true then ((F39 n a0.Keep 1 10000).bind fun r31 => some (r31)) else (if (a0.Op == 8) = true then (Option.bind ((F39 n a0.Size 1 10000).bind fun r37 => if (r37) = true then ((F39 n ((a0.Seq.length : Int)) 1 8).bind fun r40 => some (r40)) else (some (false)) : Option (Bool)) fun j34 => some (j34)) else ((F39 n a0.Op 0 8).bind fun r42 => some (r42))))))
abbrev I26 : Inf := ⟨look tiL, [], 72⟩
set_option maxRecDepth 20000 in
theorem F26_ok (n : Nat) (a0 : GNode) (y : Bool) (h : F26 n a0 = some y) : PCall Proofs.Try.prog 26 [.t (eGNode a0)] [] [] (Ret (.t (.bool (y)))) := by
  refine pcall_of (I := I26) Proofs.Try.func26 rfl ti_ok Proofs.Try.ntmps26 (le_n (by kernel_rfl)) (fun E hG => ?_)
  unfold F26 at h
  refine sn hG [1] [1] [(1, .ptr 1 0)] [(1, .box ((cGNode (a0)).map .t))] (pwp_seq (sn hG [1, 4] [1] [(4, iV a0.Op)] [] (pwp_block (sn hG [1, 4, 5] [1] [(5, bV (a0.Op == 4))] [] (iw h (fun h => ?_) (fun h => ?_))))))
  refine pwp_seq (pwp_seq (pwp_region (pn hG 2 [1, 8] [1] [(8, iV a0.Size)] [] ?_)))
  obtain ⟨r2, hr3, h⟩ := bnd h
  refine ca hG [] rfl rfl rfl rfl callable39 (.cons (.same _) (.cons (.same _) (.cons (.same _) .nil))) (F39_ok n _ _ _ _ hr3) (pn hG 1 [1, 10] [1] [(10, bV (!r2))] [] (pe (then_n (iw h (fun h => ?_) (fun h => ?_)))))
  refine sn hG [2] [] [(2, bV false)] [] ?_
  cases h
  exact pwp_ret (then_ret (blk_ret (then_ret rt)))
  refine pwp_skip (then_n (pwp_seq (sn hG [1, 12] [1] [(12, iV a0.Kind)] [] (pwp_block (sn hG [1, 12, 13] [1] [(13, bV (a0.Kind == 0))] [] (iw h (fun h => ?_) (fun h => ?_)))))))
  refine sn hG [2] [] [(2, bV true)] [] ?_
  cases h
  exact pwp_ret (blk_ret (then_ret (blk_ret (then_ret rt))))
  refine sn hG [1, 12, 15] [1] [(15, bV (a0.Kind == 1))] [] (iw h (fun h => ?_) (fun h => ?_))
  refine pwp_seq (sn hG [1, 19] [1] [(19, bV (decide (a0.Step < 1)))] [] (iw h (fun h => ?_) (fun h => ?_)))
  refine sn hG [2] [] [(2, bV false)] [] ?_
  cases h
  exact pwp_ret (then_ret (blk_ret (then_ret (blk_ret (then_ret rt)))))
  refine pwp_skip (then_n ?_)
  obtain ⟨hc8, h⟩ := grd h
  refine sc hG [2] [] [(2, bV ((Int.tmod a0.Size a0.Step) == 0))] [] hc8 ?_
  cases h
  exact pwp_ret (blk_ret (then_ret (blk_ret (then_ret rt))))
  refine sn hG [1, 26] [1] [(26, bV (a0.Kind == 2))] [] (iw h (fun h => ?_) (fun h => ?_))
  refine pwp_seq (pwp_region (pn hG 4 [29, 31] [] [(29, iV a0.Step), (31, iV a0.Size)] [] ?_))
  obtain ⟨r10, hr11, h⟩ := bnd h
  refine ca hG [] rfl rfl rfl rfl callable39 (.cons (.same _) (.cons (.same _) (.cons (.same _) .nil))) (F39_ok n _ _ _ _ hr11) (pn hG 1 [2] [] [(2, bV r10)] [] (pe (then_n ?_)))
  cases h
  exact pwp_ret (blk_ret (then_ret (blk_ret (then_ret rt))))
  refine pwp_skip (blk_n (then_n (sn hG [2] [] [(2, bV false)] [] ?_)))
  cases h
  exact pwp_ret (blk_ret (then_ret rt))
  refine sn hG [1, 4, 33] [1] [(33, bV (a0.Op == 5))] [] (iw h (fun h => ?_) (fun h => ?_))
  refine pwp_seq ?_
  obtain ⟨j13, hj15, h⟩ := bnd h
  refine jn [2] [] [(2, bV j13)] [] ?_ ?_
  replace h := hj15; clear hj15
  refine pwp_region (pn hG 2 [1, 36] [1] [(36, iV a0.Size)] [] ?_)
  obtain ⟨r16, hr17, h⟩ := bnd h
  refine ca hG [] rfl rfl rfl rfl callable39 (.cons (.same _) (.cons (.same _) (.cons (.same _) .nil))) (F39_ok n _ _ _ _ hr17) (pn hG 1 [1, 38] [1] [(38, bV r16)] [] (io 38 h (fun h => ?_) (fun h => ?_)))
  refine pn hG 2 [38, 40] [] [(40, iV a0.Keep)] [] ?_
  obtain ⟨r19, hr20, h⟩ := bnd h
  refine ca hG [] rfl rfl rfl rfl callable39 (.cons (.same _) (.cons (.same _) (.cons (.same _) .nil))) (F39_ok n _ _ _ _ hr20) (pn hG 2 [2] [] [(2, bV r19)] [] ?_)
  cases h
  exact pe fl
  refine pn hG 5 [2] [] [(2, bV false)] [] ?_
  cases h
  exact pe fl
  refine then_n ?_
  cases h
  exact pwp_ret (blk_ret (then_ret rt))
  refine sn hG [1, 4, 43] [1] [(43, bV (a0.Op == 6))] [] (iw h (fun h => ?_) (fun h => ?_))
  refine pwp_seq ?_
  obtain ⟨j22, hj24, h⟩ := bnd h
  refine jn [2] [] [(2, bV j22)] [] ?_ ?_
  replace h := hj24; clear hj24
  refine pwp_region (pn hG 2 [1, 46] [1] [(46, iV a0.Before)] [] ?_)
  obtain ⟨r25, hr26, h⟩ := bnd h
  refine ca hG [] rfl rfl rfl rfl callable39 (.cons (.same _) (.cons (.same _) (.cons (.same _) .nil))) (F39_ok n _ _ _ _ hr26) (pn hG 1 [1, 48] [1] [(48, bV r25)] [] (io 48 h (fun h => ?_) (fun h => ?_)))
  refine pn hG 2 [48, 50] [] [(50, iV a0.After)] [] ?_
  obtain ⟨r28, hr29, h⟩ := bnd h
  refine ca hG [] rfl rfl rfl rfl callable39 (.cons (.same _) (.cons (.same _) (.cons (.same _) .nil))) (F39_ok n _ _ _ _ hr29) (pn hG 2 [2] [] [(2, bV r28)] [] ?_)
  cases h
  exact pe fl
  refine pn hG 5 [2] [] [(2, bV false)] [] ?_
  cases h
  exact pe fl
  refine then_n ?_
  cases h
  exact pwp_ret (blk_ret (then_ret rt))
  refine sn hG [1, 4, 53] [1] [(53, bV (a0.Op == 7))] [] (iw h (fun h => ?_) (fun h => ?_))
  refine pwp_seq (pwp_region (pn hG 2 [56] [] [(56, iV a0.Keep)] [] ?_))
  obtain ⟨r31, hr32, h⟩ := bnd h
  refine ca hG [] rfl rfl rfl rfl callable39 (.cons (.same _) (.cons (.same _) (.cons (.same _) .nil))) (F39_ok n _ _ _ _ hr32) (pn hG 1 [2] [] [(2, bV r31)] [] (pe (then_n ?_)))
  cases h
  exact pwp_ret (blk_ret (then_ret rt))
  refine sn hG [1, 58] [1] [(58, bV (a0.Op == 8))] [] (iw h (fun h => ?_) (fun h => ?_))
  refine pwp_seq ?_
  obtain ⟨j34, hj36, h⟩ := bnd h
  refine jn [2] [] [(2, bV j34)] [] ?_ ?_
  replace h := hj36; clear hj36
  refine pwp_region (pn hG 2 [1, 61] [1] [(61, iV a0.Size)] [] ?_)
  obtain ⟨r37, hr38, h⟩ := bnd h
  refine ca hG [] rfl rfl rfl rfl callable39 (.cons (.same _) (.cons (.same _) (.cons (.same _) .nil))) (F39_ok n _ _ _ _ hr38) (pn hG 1 [1, 63] [1] [(63, bV r37)] [] (io 63 h (fun h => ?_) (fun h => ?_)))
  refine pn hG 3 [63, 66] [] [(66, iV ((a0.Seq.length : Int)))] [] ?_
  obtain ⟨r40, hr41, h⟩ := bnd h
  refine ca hG [] rfl rfl rfl rfl callable39 (.cons (.same _) (.cons (.same _) (.cons (.same _) .nil))) (F39_ok n _ _ _ _ hr41) (pn hG 2 [2] [] [(2, bV r40)] [] ?_)
  cases h
  exact pe fl
  refine pn hG 6 [2] [] [(2, bV false)] [] ?_
  cases h
  exact pe fl
  refine then_n ?_
  cases h
  exact pwp_ret (blk_ret (then_ret rt))
  refine pwp_skip (blk_n (then_n (pwp_seq (pwp_region (pn hG 2 [70] [] [(70, iV a0.Op)] [] ?_)))))
  obtain ⟨r42, hr43, h⟩ := bnd h
  refine ca hG [] rfl rfl rfl rfl callable39 (.cons (.same _) (.cons (.same _) (.cons (.same _) .nil))) (F39_ok n _ _ _ _ hr43) (pn hG 1 [2] [] [(2, bV r42)] [] (pe (then_n ?_)))
  cases h
  exact pwp_ret rt

def F14_L0 (n : Nat) (a0 : GProgram) : Int → Option ((Int) ⊕ ((Unit) ⊕ (Bool)))
  | v10 => if (decide (v10 < ((a0.Nodes.length : Int)))) = true then (if 0 ≤ v10 ∧ v10 < (a0.Nodes.length : Int) then ((F26 n (a0.Nodes.getD (v10).toNat default)).bind fun r13 => if (!r13) = true then (some (.inr (.inr (false)))) else (some (.inl (IntKind.i64.wrap (v10 + 1))))) else none) else (some (.inr (.inl (()))))
def F14 (n : Nat) (a0 : GProgram) : Option (Bool) := Option.bind ((F24 n a0).bind fun r4 => if (!r4) = true then (some (true)) else ((F25 n a0).bind fun r7 => some (!r7)) : Option (Bool)) fun j1 => if (j1) = true then (some (false)) else (Option.bind (iterM (F14_L0 n a0) n (0)) fun R16 => match R16 with | .inl (_) => (some (true)) | .inr (y18) => (some (y18)))
abbrev I14 : Inf := ⟨look tiL, [], 26⟩
set_option maxRecDepth 20000 in
theorem F14_ok (n : Nat) (a0 : GProgram) (y : Bool) (h : F14 n a0 = some y) : PCall Proofs.Try.prog 14 [.t (eGProgram a0)] [] [] (Ret (.t (.bool (y)))) := by
  refine pcall_of (I := I14) Proofs.Try.func14 rfl ti_ok Proofs.Try.ntmps14 (le_n (by kernel_rfl)) (fun E hG => ?_)
  unfold F14 at h
  refine sn hG [1] [1] [(1, .ptr 1 0)] [(1, .box ((cGProgram (a0)).map .t))] (pwp_seq (pwp_seq ?_))
  obtain ⟨j1, hj3, h⟩ := bnd h
  refine jn [1, 11] [1] [(11, bV j1)] [] ?_ ?_
  replace h := hj3; clear hj3
  refine pwp_region (pn hG 1 [1, 4] [1] [(4, .t (eGProgram a0))] [] ?_)
  obtain ⟨r4, hr5, h⟩ := bnd h
  refine ca hG [] rfl rfl rfl rfl callable24 (.cons (.same _) .nil) (F24_ok n _ _ hr5) (pn hG 2 [1, 7] [1] [(7, bV (!r4))] [] (io 7 h (fun h => ?_) (fun h => ?_)))
  refine pn hG 4 [1, 11] [1] [(11, bV true)] [] ?_
  cases h
  exact pe fl
  refine pn hG 1 [1, 7, 8] [1] [(8, .t (eGProgram a0))] [] ?_
  obtain ⟨r7, hr8, h⟩ := bnd h
  refine ca hG [] rfl rfl rfl rfl callable25 (.cons (.same _) .nil) (F25_ok n _ _ hr8) (pn hG 2 [1, 11] [1] [(11, bV (!r7))] [] ?_)
  cases h
  exact pe fl
  refine then_n (iw h (fun h => ?_) (fun h => ?_))
  refine sn hG [2] [] [(2, bV false)] [] ?_
  cases h
  exact pwp_ret (then_ret rt)
  refine pwp_skip (then_n (pwp_seq (sn hG [1, 3] [1] [(3, iV 0)] [] ?_)))
  obtain ⟨R16, hR17, h⟩ := bnd h
  refine lp (F14_L0 n a0) (fun (v10 : Int) => (⟨[(1, .ptr 1 0), (3, iV v10)], [(1, .box ((cGProgram (a0)).map .t))]⟩ : St)) (fun (r : (Unit) ⊕ (Bool)) (e : Exit) (s : St) => match r with | .inl (x0) => e = .exit 0 ∧ Le E s ((fun (_ : Unit) => (⟨[], []⟩ : St)) x0) | .inr (y0) => e = .ret ∧ finQ I14 Proofs.Try.f14.results.toList (Ret (bV y0)) .ret s) ?_ n (0) R16 hR17 ?_
  intro v10 x h
  rw [F14_L0] at h
  refine pwp_seq (sn hG [1, 3, 16] [1] [(16, bV (decide (v10 < ((a0.Nodes.length : Int)))))] [] (iw h (fun h => ?_) (fun h => ?_)))
  refine pwp_skip (then_n (pwp_seq (pwp_block (pwp_seq (pwp_region ?_)))))
  obtain ⟨hc12, h⟩ := grd h
  refine pc hG 5 [1, 3, 23] [1] [(23, .t (eGNode (a0.Nodes.getD (v10).toNat default)))] [] hc12 ?_
  obtain ⟨r13, hr14, h⟩ := bnd h
  refine ca hG [] rfl rfl rfl rfl callable26 (.cons (.same _) .nil) (F26_ok n _ _ hr14) (pn hG 1 [1, 3, 25] [1] [(25, bV (!r13))] [] (pe (then_n (iw h (fun h => ?_) (fun h => ?_)))))
  refine sn hG [2] [] [(2, bV false)] [] ?_
  cases h
  exact pwp_ret (blk_ret (then_ret (round_out (by simp) (And.intro rfl rt))))
  refine pwp_skip (blk_n (then_n (rn hG [1, 3] [1] [(3, iV (IntKind.i64.wrap (v10 + 1)))] [] ?_)))
  cases h
  exact round_in lk
  cases h
  exact pwp_exit (then_exit (round_out (by simp) (And.intro rfl lk)))
  intro e s hq
  rcases R16 with _ | y18
  try dsimp only at h
  obtain ⟨rfl, hle⟩ := hq
  refine ⟨_, hle, blk_hit ?_⟩
  refine then_n (sn hG [2] [] [(2, bV true)] [] ?_)
  cases h
  exact pwp_ret rt
  try dsimp only at h
  obtain ⟨rfl, hq⟩ := hq
  cases h
  exact ⟨_, Le.refl, blk_ret (then_ret (hq))⟩

def F18s0_L0 (n : Nat) (a2 : Int) (h30000_0 : List GFunc) (h30000_1 : List GNode) (h30000_2 : List GFunc) (h30000_3 : List GNode) : ((List (List Int × Bool)) × Int) → Option (((List (List Int × Bool)) × Int) ⊕ (((List (List Int × Bool))) ⊕ (Int × (List (List Int × Bool)))))
  | (v1, v2) => if (decide (v2 < ((h30000_1.length : Int)))) = true then ((F19s0 n v2 a2 h30000_0 h30000_1 h30000_2 h30000_3 v1).bind fun r5 => if (r5.1) = true then (some (.inr (.inr ((v2, r5.2))))) else (some (.inl ((r5.2, IntKind.i64.wrap (v2 + 1)))))) else (some (.inr (.inl (v1))))
def F18s0 (n : Nat) (a2 : Int) (h30000_0 : List GFunc) (h30000_1 : List GNode) (h30000_2 : List GFunc) (h30000_3 : List GNode) (h30001 : List (List Int × Bool)) : Option (Int × (List (List Int × Bool))) := Option.bind (iterM (F18s0_L0 n a2 h30000_0 h30000_1 h30000_2 h30000_3) n ((h30001, 0))) fun R8 => match R8 with | .inl (b3) => (some (((-1), b3))) | .inr (y10) => (some (y10))
abbrev I18s0 : Inf := ⟨look tiL, [30000, 30001], 23⟩
set_option maxRecDepth 20000 in
theorem F18s0_ok (n : Nat) (a2 : Int) (h30000_0 : List GFunc) (h30000_1 : List GNode) (h30000_2 : List GFunc) (h30000_3 : List GNode) (h30001 : List (List Int × Bool)) (y : Int × (List (List Int × Bool))) (h : F18s0 n a2 h30000_0 h30000_1 h30000_2 h30000_3 h30001 = some y) : PCall Proofs.Try.prog 18 [.ptr 30000 0, .fn (.func 19) 1 [.ptr 30000 0], .t (.int .i64 (a2))] [(30000, .box [.t (eL cGFunc (h30000_0)), .t (eL cGNode (h30000_1)), .t (eL cGFunc (h30000_2)), .t (eL cGNode (h30000_3)), .map 30001]), (30001, .mpb 2 (h30001))] [30000, 30001] (RetH (.t (.int .i64 (y.1))) [(30000, .box [.t (eL cGFunc (h30000_0)), .t (eL cGNode (h30000_1)), .t (eL cGFunc (h30000_2)), .t (eL cGNode (h30000_3)), .map 30001]), (30001, .mpb 2 (y.2))]) := by
  refine pcall_of (I := I18s0) Proofs.Try.func18 rfl ti_ok Proofs.Try.ntmps18 (le_n (by kernel_rfl)) (fun E hG => ?_)
  unfold F18s0 at h
  refine sn hG [0, 1, 2] [30000, 30001] [] [] (pwp_seq (sn hG [1, 2, 13, 14] [30000, 30001] [(13, iV ((h30000_1.length : Int))), (14, iV 0)] [] ?_))
  obtain ⟨R8, hR9, h⟩ := bnd h
  refine lp (F18s0_L0 n a2 h30000_0 h30000_1 h30000_2 h30000_3) (fun (s : (List (List Int × Bool)) × Int) => match s with | (v1, v2) => (⟨[(1, .fn (.func 19) 1 [.ptr 30000 0]), (2, iV a2), (13, iV ((h30000_1.length : Int))), (14, iV v2)], [(30000, .box [.t (eL cGFunc (h30000_0)), .t (eL cGNode (h30000_1)), .t (eL cGFunc (h30000_2)), .t (eL cGNode (h30000_3)), .map 30001]), (30001, .mpb 2 (v1))]⟩ : St)) (fun (r : ((List (List Int × Bool))) ⊕ (Int × (List (List Int × Bool)))) (e : Exit) (s : St) => match r with | .inl (x0) => e = .exit 0 ∧ Le E s ((fun (b3 : (List (List Int × Bool))) => (⟨[], [(30000, .box [.t (eL cGFunc (h30000_0)), .t (eL cGNode (h30000_1)), .t (eL cGFunc (h30000_2)), .t (eL cGNode (h30000_3)), .map 30001]), (30001, .mpb 2 (b3))]⟩ : St)) x0) | .inr (y0) => e = .ret ∧ finQ I18s0 Proofs.Try.f18.results.toList (RetH (iV y0.1) [(30000, .box [.t (eL cGFunc (h30000_0)), .t (eL cGNode (h30000_1)), .t (eL cGFunc (h30000_2)), .t (eL cGNode (h30000_3)), .map 30001]), (30001, .mpb 2 (y0.2))]) .ret s) ?_ n ((h30001, 0)) R8 hR9 ?_
  rintro ⟨v1, v2⟩ x h
  rw [F18s0_L0] at h
  refine sn hG [1, 2, 13, 14, 15] [30000, 30001] [(15, bV (decide (v2 < ((h30000_1.length : Int)))))] [] (pwp_seq (iw h (fun h => ?_) (fun h => ?_)))
  refine pwp_skip (then_n (pwp_seq (pwp_block (sn hG [1, 2, 7, 13, 14] [30000, 30001] [(7, iV v2)] [] (pwp_seq (pwp_region (pn hG 3 [1, 2, 7, 13, 14, 17, 18, 19] [30000, 30001] [(17, .fn (.func 19) 1 [.ptr 30000 0]), (18, iV v2), (19, iV a2)] [] ?_)))))))
  obtain ⟨r5, hr6, h⟩ := bnd h
  refine ch hG [30000, 30001] [30000, 30001] [] (nf := 1) (caps := [.ptr 30000 0]) (aps := [iV v2, iV a2]) rfl rfl rfl rfl callable19 (.cons (.same _) (.cons (.same _) (.cons (.same _) .nil))) (F19s0_ok n _ _ _ _ _ _ _ _ hr6) (pe (then_n (iw h (fun h => ?_) (fun h => ?_))))
  refine sn hG [6] [30000, 30001] [(6, iV v2)] [(30001, .mpb 2 (r5.2))] (kw [6] [30000, 30001] ?_)
  cases h
  exact pwp_ret (blk_ret (then_ret (round_out (by simp) (And.intro rfl (retH_at [30000, 30001] (.inr rfl) (by kernel_rfl))))))
  refine pwp_skip (blk_n (then_n (rn hG [1, 2, 13, 14] [30000, 30001] [(14, iV (IntKind.i64.wrap (v2 + 1)))] [(30001, .mpb 2 (r5.2))] ?_)))
  cases h
  exact round_in lk
  cases h
  exact pwp_exit (then_exit (round_out (by simp) (And.intro rfl lk)))
  intro e s hq
  rcases R8 with b3 | y10
  try dsimp only at h
  obtain ⟨rfl, hle⟩ := hq
  refine ⟨_, hle, blk_hit ?_⟩
  refine then_n (sn hG [6] [30000, 30001] [(6, iV ((-1)))] [] (kw [6] [30000, 30001] ?_))
  cases h
  exact pwp_ret (retH_at [30000, 30001] (.inr rfl) (by kernel_rfl))
  try dsimp only at h
  obtain ⟨rfl, hq⟩ := hq
  cases h
  exact ⟨_, Le.refl, blk_ret (then_ret (hq))⟩

def F18s1_L0 (n : Nat) (a2 : Int) (h30000_0 : List GFunc) (h30000_1 : List GNode) (h30000_2 : List GFunc) (h30000_3 : List GNode) : ((List (List Int × Bool)) × Int) → Option (((List (List Int × Bool)) × Int) ⊕ (((List (List Int × Bool))) ⊕ (Int × (List (List Int × Bool)))))
  | (v1, v2) => if (decide (v2 < ((h30000_1.length : Int)))) = true then ((F20s0 n v2 a2 h30000_0 h30000_1 h30000_2 h30000_3 v1).bind fun r5 => if (r5.1) = true then (some (.inr (.inr ((v2, r5.2))))) else (some (.inl ((r5.2, IntKind.i64.wrap (v2 + 1)))))) else (some (.inr (.inl (v1))))
def F18s1 (n : Nat) (a2 : Int) (h30000_0 : List GFunc) (h30000_1 : List GNode) (h30000_2 : List GFunc) (h30000_3 : List GNode) (h30001 : List (List Int × Bool)) : Option (Int × (List (List Int × Bool))) := Option.bind (iterM (F18s1_L0 n a2 h30000_0 h30000_1 h30000_2 h30000_3) n ((h30001, 0))) fun R8 => match R8 with | .inl (b3) => (some (((-1), b3))) | .inr (y10) => (some (y10))
abbrev I18s1 : Inf := ⟨look tiL, [30000, 30001], 23⟩
set_option maxRecDepth 20000 in
theorem F18s1_ok (n : Nat) (a2 : Int) (h30000_0 : List GFunc) (h30000_1 : List GNode) (h30000_2 : List GFunc) (h30000_3 : List GNode) (h30001 : List (List Int × Bool)) (y : Int × (List (List Int × Bool))) (h : F18s1 n a2 h30000_0 h30000_1 h30000_2 h30000_3 h30001 = some y) : PCall Proofs.Try.prog 18 [.ptr 30000 0, .fn (.func 20) 1 [.ptr 30000 0], .t (.int .i64 (a2))] [(30000, .box [.t (eL cGFunc (h30000_0)), .t (eL cGNode (h30000_1)), .t (eL cGFunc (h30000_2)), .t (eL cGNode (h30000_3)), .map 30001]), (30001, .mpb 2 (h30001))] [30000, 30001] (RetH (.t (.int .i64 (y.1))) [(30000, .box [.t (eL cGFunc (h30000_0)), .t (eL cGNode (h30000_1)), .t (eL cGFunc (h30000_2)), .t (eL cGNode (h30000_3)), .map 30001]), (30001, .mpb 2 (y.2))]) := by
  refine pcall_of (I := I18s1) Proofs.Try.func18 rfl ti_ok Proofs.Try.ntmps18 (le_n (by kernel_rfl)) (fun E hG => ?_)
  unfold F18s1 at h
  refine sn hG [0, 1, 2] [30000, 30001] [] [] (pwp_seq (sn hG [1, 2, 13, 14] [30000, 30001] [(13, iV ((h30000_1.length : Int))), (14, iV 0)] [] ?_))
  obtain ⟨R8, hR9, h⟩ := bnd h
  refine lp (F18s1_L0 n a2 h30000_0 h30000_1 h30000_2 h30000_3) (fun (s : (List (List Int × Bool)) × Int) => match s with | (v1, v2) => (⟨[(1, .fn (.func 20) 1 [.ptr 30000 0]), (2, iV a2), (13, iV ((h30000_1.length : Int))), (14, iV v2)], [(30000, .box [.t (eL cGFunc (h30000_0)), .t (eL cGNode (h30000_1)), .t (eL cGFunc (h30000_2)), .t (eL cGNode (h30000_3)), .map 30001]), (30001, .mpb 2 (v1))]⟩ : St)) (fun (r : ((List (List Int × Bool))) ⊕ (Int × (List (List Int × Bool)))) (e : Exit) (s : St) => match r with | .inl (x0) => e = .exit 0 ∧ Le E s ((fun (b3 : (List (List Int × Bool))) => (⟨[], [(30000, .box [.t (eL cGFunc (h30000_0)), .t (eL cGNode (h30000_1)), .t (eL cGFunc (h30000_2)), .t (eL cGNode (h30000_3)), .map 30001]), (30001, .mpb 2 (b3))]⟩ : St)) x0) | .inr (y0) => e = .ret ∧ finQ I18s1 Proofs.Try.f18.results.toList (RetH (iV y0.1) [(30000, .box [.t (eL cGFunc (h30000_0)), .t (eL cGNode (h30000_1)), .t (eL cGFunc (h30000_2)), .t (eL cGNode (h30000_3)), .map 30001]), (30001, .mpb 2 (y0.2))]) .ret s) ?_ n ((h30001, 0)) R8 hR9 ?_
  rintro ⟨v1, v2⟩ x h
  rw [F18s1_L0] at h
  refine sn hG [1, 2, 13, 14, 15] [30000, 30001] [(15, bV (decide (v2 < ((h30000_1.length : Int)))))] [] (pwp_seq (iw h (fun h => ?_) (fun h => ?_)))
  refine pwp_skip (then_n (pwp_seq (pwp_block (sn hG [1, 2, 7, 13, 14] [30000, 30001] [(7, iV v2)] [] (pwp_seq (pwp_region (pn hG 3 [1, 2, 7, 13, 14, 17, 18, 19] [30000, 30001] [(17, .fn (.func 20) 1 [.ptr 30000 0]), (18, iV v2), (19, iV a2)] [] ?_)))))))
  obtain ⟨r5, hr6, h⟩ := bnd h
  refine ch hG [30000, 30001] [30000, 30001] [] (nf := 1) (caps := [.ptr 30000 0]) (aps := [iV v2, iV a2]) rfl rfl rfl rfl callable20 (.cons (.same _) (.cons (.same _) (.cons (.same _) .nil))) (F20s0_ok n _ _ _ _ _ _ _ _ hr6) (pe (then_n (iw h (fun h => ?_) (fun h => ?_))))
  refine sn hG [6] [30000, 30001] [(6, iV v2)] [(30001, .mpb 2 (r5.2))] (kw [6] [30000, 30001] ?_)
  cases h
  exact pwp_ret (blk_ret (then_ret (round_out (by simp) (And.intro rfl (retH_at [30000, 30001] (.inr rfl) (by kernel_rfl))))))
  refine pwp_skip (blk_n (then_n (rn hG [1, 2, 13, 14] [30000, 30001] [(14, iV (IntKind.i64.wrap (v2 + 1)))] [(30001, .mpb 2 (r5.2))] ?_)))
  cases h
  exact round_in lk
  cases h
  exact pwp_exit (then_exit (round_out (by simp) (And.intro rfl lk)))
  intro e s hq
  rcases R8 with b3 | y10
  try dsimp only at h
  obtain ⟨rfl, hle⟩ := hq
  refine ⟨_, hle, blk_hit ?_⟩
  refine then_n (sn hG [6] [30000, 30001] [(6, iV ((-1)))] [] (kw [6] [30000, 30001] ?_))
  cases h
  exact pwp_ret (retH_at [30000, 30001] (.inr rfl) (by kernel_rfl))
  try dsimp only at h
  obtain ⟨rfl, hq⟩ := hq
  cases h
  exact ⟨_, Le.refl, blk_ret (then_ret (hq))⟩

def F8_L0 (n : Nat) (a0 : GProgram) (a1 : GProgram) : ((List (List Int × Bool)) × (List GMatch) × Int) → Option (((List (List Int × Bool)) × (List GMatch) × Int) ⊕ ((List GMatch)))
  | (v1, v2, v3) => if (decide (v3 < ((a1.Nodes.length : Int)))) = true then ((F18s0 n v3 a0.Funcs a0.Nodes a1.Funcs a1.Nodes v1).bind fun r6 => Option.bind (if (decide (r6.1 < 0)) = true then ((F18s1 n v3 a0.Funcs a0.Nodes a1.Funcs a1.Nodes r6.2).bind fun r15 => some ((r15.1, 1, r15.2, v2))) else (some ((r6.1, 0, r6.2, v2))) : Option (Int × Int × (List (List Int × Bool)) × (List GMatch))) fun J13 => match J13 with | (j9, j10, j11, j12) => (Option.bind (if (decide (j9 < 0)) = true then (some ((2, j12))) else (some ((j10, j12))) : Option (Int × (List GMatch))) fun J20 => match J20 with | (j18, j19) => (if (j19.length + 1) * 24 ≤ 140737488355328 then (some (.inl ((j11, j19 ++ ([(GMatch.mk j9 v3 j18)]), IntKind.i64.wrap (v3 + 1))))) else none))) else (some (.inr (v2)))
def F8 (n : Nat) (a0 : GProgram) (a1 : GProgram) : Option ((List GMatch)) := Option.bind (iterM (F8_L0 n a0 a1) n ((([] : List (List Int × Bool)), ([] : List GMatch), 0))) fun b4 => some (b4)
abbrev I8 : Inf := ⟨look tiL, [], 47⟩
set_option maxRecDepth 20000 in
theorem F8_ok (n : Nat) (a0 : GProgram) (a1 : GProgram) (y : (List GMatch)) (h : F8 n a0 a1 = some y) : PCall Proofs.Try.prog 8 [.t (eGProgram a0), .t (eGProgram a1)] [] [] (Ret (.t (eL cGMatch (y)))) := by
  refine pcall_of (I := I8) Proofs.Try.func8 rfl ti_ok Proofs.Try.ntmps8 (le_n (by kernel_rfl)) (fun E hG => ?_)
  unfold F8 at h
  refine sn hG [2, 3] [2, 3] [(2, .ptr 2 0), (3, .ptr 3 0)] [(2, .box ((cGProgram (a0)).map .t)), (3, .box ((cGProgram (a1)).map .t))] (pwp_seq (pwp_region (pn hG 6 [3, 5] [3, 11, 13] [(5, .ptr 13 0)] [(11, .mpb 2 (([] : List (List Int × Bool)))), (13, .box [.t (eL cGFunc (a0.Funcs)), .t (eL cGNode (a0.Nodes)), .t (eL cGFunc (a1.Funcs)), .t (eL cGNode (a1.Nodes)), .map 11])] (pe (then_n (sn hG [3, 5, 6] [3, 11, 13] [(6, .nil)] [] (pwp_seq (sn hG [5, 6, 16, 17] [11, 13] [(16, iV ((a1.Nodes.length : Int))), (17, iV 0)] [] ?_))))))))
  refine ws ⟨[(5, .ptr 13 0), (6, .nil), (16, iV ((a1.Nodes.length : Int))), (17, iV 0)], [(11, .mpb 2 (([] : List (List Int × Bool)))), (13, .box [.t (eL cGFunc (a0.Funcs)), .t (eL cGNode (a0.Nodes)), .t (eL cGFunc (a1.Funcs)), .t (eL cGNode (a1.Nodes)), .map 11])]⟩ (pwp_weak (Le.rn hG (o := 13) (o' := 30000) rfl) (pwp_weak (Le.rn hG (o := 11) (o' := 30001) rfl) (pwp_weak (Le.thaw (t := 6) (o := 6) (e := 36) (s := 3) (f := eF cGMatch ([] : List GMatch)) hG rfl) ?_)))
  obtain ⟨b4, hR24, h⟩ := bnd h
  refine lp (F8_L0 n a0 a1) (fun (s : (List (List Int × Bool)) × (List GMatch) × Int) => match s with | (v1, v2, v3) => (⟨[(5, .ptr 30000 0), (6, .own 6), (16, iV ((a1.Nodes.length : Int))), (17, iV v3)], [(6, .arr 36 3 (v2.length) (eF cGMatch v2)), (30000, .box [.t (eL cGFunc (a0.Funcs)), .t (eL cGNode (a0.Nodes)), .t (eL cGFunc (a1.Funcs)), .t (eL cGNode (a1.Nodes)), .map 30001]), (30001, .mpb 2 (v1))]⟩ : St)) (fun (x0 : (List GMatch)) (e : Exit) (s : St) => e = .exit 0 ∧ Le E s ((fun (b4 : (List GMatch)) => (⟨[(6, .own 6)], [(6, .arr 36 3 (b4.length) (eF cGMatch b4))]⟩ : St)) x0)) ?_ n ((([] : List (List Int × Bool)), ([] : List GMatch), 0)) b4 hR24 ?_
  rintro ⟨v1, v2, v3⟩ x h
  rw [F8_L0] at h
  refine sn hG [5, 6, 16, 17, 18] [6, 30000, 30001] [(18, bV (decide (v3 < ((a1.Nodes.length : Int)))))] [] (pwp_seq (iw h (fun h => ?_) (fun h => ?_)))
  refine pwp_skip (then_n (pwp_seq (pwp_block (sn hG [5, 6, 7, 16, 17] [6, 30000, 30001] [(7, iV v3)] [] (pwp_seq (pwp_region (pn hG 4 [5, 6, 7, 16, 17, 20, 22, 23] [6, 30000, 30001] [(20, .ptr 30000 0), (22, .fn (.func 19) 1 [.ptr 30000 0]), (23, iV v3)] [] ?_)))))))
  obtain ⟨r6, hr7, h⟩ := bnd h
  refine ch hG [30000, 30001] [30000, 30001] [] (nf := 0) (caps := []) (aps := [.ptr 30000 0, .fn (.func 19) 1 [.ptr 30000 0], iV v3]) rfl rfl rfl rfl callable18 (.cons (.same _) (.cons (.same _) (.cons (.same _) .nil))) (F18s0_ok n _ _ _ _ _ _ _ hr7) (pn hG 4 [5, 6, 7, 8, 16, 17] [6, 8, 30000, 30001] [(8, .ptr 8 0)] [(8, .box [iV r6.1, iV v3, iV 0]), (30001, .mpb 2 (r6.2))] (pe (then_n (pwp_seq (sn hG [5, 6, 7, 8, 16, 17, 29] [6, 8, 30000, 30001] [(29, bV (decide (r6.1 < 0)))] [] ?_)))))
  obtain ⟨J13, hj14, h⟩ := bnd h
  obtain ⟨j9, j10, j11, j12⟩ := J13
  try dsimp only at h
  refine jn [5, 6, 8, 16, 17] [6, 8, 30000, 30001] [] [(6, .arr 36 3 (j12.length) (eF cGMatch j12)), (8, .box [iV j9, iV v3, iV j10]), (30001, .mpb 2 (j11))] ?_ ?_
  replace h := hj14; clear hj14
  refine iw h (fun h => ?_) (fun h => ?_)
  refine pwp_region (pn hG 4 [5, 6, 8, 16, 17, 30, 32, 33] [6, 8, 30000, 30001] [(30, .ptr 30000 0), (32, .fn (.func 20) 1 [.ptr 30000 0]), (33, iV v3)] [] ?_)
  obtain ⟨r15, hr16, h⟩ := bnd h
  refine ch hG [30000, 30001] [30000, 30001] [] (nf := 0) (caps := []) (aps := [.ptr 30000 0, .fn (.func 20) 1 [.ptr 30000 0], iV v3]) rfl rfl rfl rfl callable18 (.cons (.same _) (.cons (.same _) (.cons (.same _) .nil))) (F18s1_ok n _ _ _ _ _ _ _ hr16) (pn hG 4 [5, 6, 8, 16, 17] [6, 8, 30000, 30001] [] [(8, .box [iV r15.1, iV v3, iV 1]), (30001, .mpb 2 (r15.2))] (pe ?_))
  injection h with q0
  injection q0 with p1 q1
  injection q1 with p2 q2
  injection q2 with p3 q3
  subst p1
  subst p2
  subst p3
  subst q3
  exact fl
  refine pwp_skip ?_
  injection h with q0
  injection q0 with p1 q1
  injection q1 with p2 q2
  injection q2 with p3 q3
  subst p1
  subst p2
  subst p3
  subst q3
  exact fl
  refine then_n (pwp_seq (sn hG [5, 6, 8, 16, 17, 39] [6, 8, 30000, 30001] [(39, bV (decide (j9 < 0)))] [] ?_))
  obtain ⟨J20, hj21, h⟩ := bnd h
  obtain ⟨j18, j19⟩ := J20
  try dsimp only at h
  refine jn [5, 6, 8, 16, 17] [6, 8, 30000, 30001] [] [(6, .arr 36 3 (j19.length) (eF cGMatch j19)), (8, .box [iV j9, iV v3, iV j18])] ?_ ?_
  replace h := hj21; clear hj21
  refine iw h (fun h => ?_) (fun h => ?_)
  refine pwp_region (pn hG 2 [5, 6, 8, 16, 17] [6, 8, 30000, 30001] [] [(8, .box [iV j9, iV v3, iV 2])] (pe ?_))
  injection h with q0
  injection q0 with p1 q1
  subst p1
  subst q1
  exact fl
  refine pwp_skip ?_
  injection h with q0
  injection q0 with p1 q1
  subst p1
  subst q1
  exact fl
  refine then_n (pwp_region ?_)
  obtain ⟨hc22, h⟩ := grd h
  refine pd hG 4 [5, 16, 17, 44] [44, 30000, 30001] [(44, .own 44)] [(44, .arr 36 3 (j19.length + 1) (appF (j19.length) (eF cGMatch j19) (arrOf [.int .i64 (j9), .int .i64 (v3), .int .i64 (j18)] 3)))] (Cs := [appC (j19.length) (1) 24 3 (arrOf [.int .i64 (j9), .int .i64 (v3), .int .i64 (j18)] 3)]) ⟨hc22, ok_one rfl⟩ (os ⟨[(5, .ptr 30000 0), (16, iV ((a1.Nodes.length : Int))), (17, iV v3), (44, .own 44)], [(44, .arr 36 3 (j19.length + 1) (appF (j19.length) (eF cGMatch j19) (arrOf [.int .i64 (j9), .int .i64 (v3), .int .i64 (j18)] 3))), (30000, .box [.t (eL cGFunc (a0.Funcs)), .t (eL cGNode (a0.Nodes)), .t (eL cGFunc (a1.Funcs)), .t (eL cGNode (a1.Nodes)), .map 30001]), (30001, .mpb 2 (j11))]⟩ (pops_weak (Le.obj (o := 44) (.arr 36 3 ((j19 ++ ([(GMatch.mk j9 v3 j18)])).length) (eF cGMatch (j19 ++ ([(GMatch.mk j9 v3 j18)])))) rfl (fun _ _ _ => ObjR.row (by simp) (row_snoc cGMatch j19 ((GMatch.mk j9 v3 j18)) _ rfl))) (pn hG 1 [5, 6, 16, 17] [44, 30000, 30001] [(6, .own 44)] [(44, .arr 36 3 ((j19 ++ ([(GMatch.mk j9 v3 j18)])).length) (eF cGMatch (j19 ++ ([(GMatch.mk j9 v3 j18)]))))] (pe (blk_n (then_n (rn hG [5, 6, 16, 17] [44, 30000, 30001] [(17, iV (IntKind.i64.wrap (v3 + 1)))] [] ?_)))))))
  cases h
  exact round_in (Le.trans (ls ⟨[(5, .ptr 30000 0), (6, .own 44), (16, iV ((a1.Nodes.length : Int))), (17, iV (IntKind.i64.wrap (v3 + 1)))], [(44, .arr 36 3 ((j19 ++ ([(GMatch.mk j9 v3 j18)])).length) (eF cGMatch (j19 ++ ([(GMatch.mk j9 v3 j18)])))), (30000, .box [.t (eL cGFunc (a0.Funcs)), .t (eL cGNode (a0.Nodes)), .t (eL cGFunc (a1.Funcs)), .t (eL cGNode (a1.Nodes)), .map 30001]), (30001, .mpb 2 (j11))]⟩) (Le.trans (Le.rename (o := 44) (o' := 6) hG (by decide) rfl) lk))
  cases h
  exact pwp_exit (then_exit (round_out (by simp) (And.intro rfl lk)))
  intro e s hq
  try dsimp only at h
  obtain ⟨rfl, hle⟩ := hq
  refine ⟨_, hle, blk_hit ?_⟩
  refine then_n (sn hG [4] [6] [(4, .own 6)] [] (ws ⟨[(4, .own 6)], [(6, .arr 36 3 (b4.length) (eF cGMatch b4))]⟩ (pwp_weak (Le.trans (Le.freeze (o := 6) (eL cGMatch (b4)) rfl rfl rfl) (Le.keep (ts := [4]) (os := []) (t := ⟨[(4, .t (eL cGMatch (b4)))], []⟩) (by kernel_rfl))) ?_)))
  cases h
  exact pwp_ret rt

def F22s0 (n : Nat) (a0 : GMatch) (h30000_0 : Int) : Option (Bool) := Option.bind (if (a0.New == h30000_0) = true then (some (a0.Why != 2)) else (some (false)) : Option (Bool)) fun j1 => some (j1)
abbrev I22s0 : Inf := ⟨look tiL, [30000], 13⟩
set_option maxRecDepth 20000 in
theorem F22s0_ok (n : Nat) (a0 : GMatch) (h30000_0 : Int) (y : Bool) (h : F22s0 n a0 h30000_0 = some y) : PCall Proofs.Try.prog 22 [.t (eGMatch a0), .ptr 30000 0] [(30000, .box (([.int .i64 (h30000_0)]).map .t))] [30000] (RetH (.t (.bool (y))) [(30000, .box (([.int .i64 (h30000_0)]).map .t))]) := by
  refine pcall_of (I := I22s0) Proofs.Try.func22 rfl ti_ok Proofs.Try.ntmps22 (le_n (by kernel_rfl)) (fun E hG => ?_)
  unfold F22s0 at h
  refine sn hG [1, 2] [2, 30000] [(2, .ptr 2 0)] [(2, .box ((cGMatch (a0)).map .t))] (pwp_seq ?_)
  obtain ⟨j1, hj3, h⟩ := bnd h
  refine jn [3] [30000] [(3, bV j1)] [] ?_ ?_
  replace h := hj3; clear hj3
  refine pwp_region (pn hG 5 [2, 8] [2, 30000] [(8, bV (a0.New == h30000_0))] [] (io 8 h (fun h => ?_) (fun h => ?_)))
  refine pn hG 5 [3] [30000] [(3, bV (a0.Why != 2))] [] ?_
  cases h
  exact pe fl
  refine pn hG 5 [3] [30000] [(3, bV false)] [] ?_
  cases h
  exact pe fl
  refine then_n (kw [3] [30000] ?_)
  cases h
  exact pwp_ret (retH_at [30000] (.inr rfl) (by kernel_rfl))

def F34s0_L0 (n : Nat) (a0 : List GMatch) (h30000_0 : Int) : Int → Option ((Int) ⊕ ((Unit) ⊕ (Int)))
  | v1 => if (decide (v1 < ((a0.length : Int)))) = true then (if 0 ≤ v1 ∧ v1 < (a0.length : Int) then ((F22s0 n (a0.getD (v1).toNat default) h30000_0).bind fun r4 => if (r4) = true then (some (.inr (.inr (v1)))) else (some (.inl (IntKind.i64.wrap (v1 + 1))))) else none) else (some (.inr (.inl (()))))
def F34s0 (n : Nat) (a0 : List GMatch) (h30000_0 : Int) : Option (Int) := Option.bind (iterM (F34s0_L0 n a0 h30000_0) n (0)) fun R7 => match R7 with | .inl (_) => (some ((-1))) | .inr (y9) => (some (y9))
abbrev I34s0 : Inf := ⟨look tiL, [30000], 19⟩
set_option maxRecDepth 20000 in
theorem F34s0_ok (n : Nat) (a0 : List GMatch) (h30000_0 : Int) (y : Int) (h : F34s0 n a0 h30000_0 = some y) : PCall Proofs.Try.prog 34 [.t (eL cGMatch (a0)), .fn (.func 22) 0 [.ptr 30000 0]] [(30000, .box (([.int .i64 (h30000_0)]).map .t))] [30000] (RetH (.t (.int .i64 (y))) [(30000, .box (([.int .i64 (h30000_0)]).map .t))]) := by
  refine pcall_of (I := I34s0) Proofs.Try.func34 rfl ti_ok Proofs.Try.ntmps34 (le_n (by kernel_rfl)) (fun E hG => ?_)
  unfold F34s0 at h
  refine sn hG [0, 1] [30000] [] [] (pwp_seq (sn hG [0, 1, 7, 8] [30000] [(7, iV ((a0.length : Int))), (8, iV 0)] [] ?_))
  obtain ⟨R7, hR8, h⟩ := bnd h
  refine lp (F34s0_L0 n a0 h30000_0) (fun (v1 : Int) => (⟨[(0, .t (eL cGMatch (a0))), (1, .fn (.func 22) 0 [.ptr 30000 0]), (7, iV ((a0.length : Int))), (8, iV v1)], [(30000, .box (([.int .i64 (h30000_0)]).map .t))]⟩ : St)) (fun (r : (Unit) ⊕ (Int)) (e : Exit) (s : St) => match r with | .inl (x0) => e = .exit 0 ∧ Le E s ((fun (_ : Unit) => (⟨[], [(30000, .box (([.int .i64 (h30000_0)]).map .t))]⟩ : St)) x0) | .inr (y0) => e = .ret ∧ finQ I34s0 Proofs.Try.f34.results.toList (RetH (iV y0) [(30000, .box (([.int .i64 (h30000_0)]).map .t))]) .ret s) ?_ n (0) R7 hR8 ?_
  intro v1 x h
  rw [F34s0_L0] at h
  refine sn hG [0, 1, 7, 8, 9] [30000] [(9, bV (decide (v1 < ((a0.length : Int)))))] [] (pwp_seq (iw h (fun h => ?_) (fun h => ?_)))
  refine pwp_skip (then_n (pwp_seq (pwp_block (sn hG [0, 1, 5, 7, 8] [30000] [(5, iV v1)] [] (pwp_seq (pwp_region ?_))))))
  obtain ⟨hc3, h⟩ := grd h
  refine pc hG 5 [0, 1, 5, 7, 8, 11, 15] [30000] [(11, .fn (.func 22) 0 [.ptr 30000 0]), (15, .t (eGMatch (a0.getD (v1).toNat default)))] [] hc3 ?_
  obtain ⟨r4, hr5, h⟩ := bnd h
  refine ch hG [30000] [30000] [] (nf := 0) (caps := [.ptr 30000 0]) (aps := [.t (eGMatch (a0.getD (v1).toNat default))]) rfl rfl rfl rfl callable22 (.cons (.same _) (.cons (.same _) .nil)) (F22s0_ok n _ _ _ hr5) (pe (then_n (iw h (fun h => ?_) (fun h => ?_))))
  refine sn hG [4] [30000] [(4, iV v1)] [] (kw [4] [30000] ?_)
  cases h
  exact pwp_ret (blk_ret (then_ret (round_out (by simp) (And.intro rfl (retH_at [30000] (.inr rfl) (by kernel_rfl))))))
  refine pwp_skip (blk_n (then_n (rn hG [0, 1, 7, 8] [30000] [(8, iV (IntKind.i64.wrap (v1 + 1)))] [] ?_)))
  cases h
  exact round_in lk
  cases h
  exact pwp_exit (then_exit (round_out (by simp) (And.intro rfl lk)))
  intro e s hq
  rcases R7 with _ | y9
  try dsimp only at h
  obtain ⟨rfl, hle⟩ := hq
  refine ⟨_, hle, blk_hit ?_⟩
  refine then_n (sn hG [4] [30000] [(4, iV ((-1)))] [] (kw [4] [30000] ?_))
  cases h
  exact pwp_ret (retH_at [30000] (.inr rfl) (by kernel_rfl))
  try dsimp only at h
  obtain ⟨rfl, hq⟩ := hq
  cases h
  exact ⟨_, Le.refl, blk_ret (then_ret (hq))⟩

def F21s0 (n : Nat) (a0 : List GMatch) (h30000_0 : Int) : Option (Bool) := (F34s0 n a0 h30000_0).bind fun r1 => some (decide (r1 ≥ 0))
abbrev I21s0 : Inf := ⟨look tiL, [30000], 9⟩
set_option maxRecDepth 20000 in
theorem F21s0_ok (n : Nat) (a0 : List GMatch) (h30000_0 : Int) (y : Bool) (h : F21s0 n a0 h30000_0 = some y) : PCall Proofs.Try.prog 21 [.t (eL cGMatch (a0)), .fn (.func 22) 0 [.ptr 30000 0]] [(30000, .box (([.int .i64 (h30000_0)]).map .t))] [30000] (RetH (.t (.bool (y))) [(30000, .box (([.int .i64 (h30000_0)]).map .t))]) := by
  refine pcall_of (I := I21s0) Proofs.Try.func21 rfl ti_ok Proofs.Try.ntmps21 (le_n (by kernel_rfl)) (fun E hG => ?_)
  unfold F21s0 at h
  refine sn hG [0, 1] [30000] [] [] (pwp_seq (pwp_region (pn hG 2 [5, 6] [30000] [(5, .t (eL cGMatch (a0))), (6, .fn (.func 22) 0 [.ptr 30000 0])] [] ?_)))
  obtain ⟨r1, hr2, h⟩ := bnd h
  refine ch hG [30000] [30000] [] (nf := 0) (caps := []) (aps := [.t (eL cGMatch (a0)), .fn (.func 22) 0 [.ptr 30000 0]]) rfl rfl rfl rfl callable34 (.cons (.same _) (.cons (.same _) .nil)) (F34s0_ok n _ _ _ hr2) (pn hG 2 [4] [30000] [(4, bV (decide (r1 ≥ 0)))] [] (pe (then_n (kw [4] [30000] ?_))))
  cases h
  exact pwp_ret (retH_at [30000] (.inr rfl) (by kernel_rfl))

def F9_L0 (n : Nat) (a0 : GProgram) (a1 : List GMatch) : ((List Int) × Int) → Option (((List Int) × Int) ⊕ ((List Int)))
  | (v1, v2) => if (decide (v2 < ((a0.Nodes.length : Int)))) = true then (if 0 ≤ v2 ∧ v2 < (a0.Nodes.length : Int) then ((F21s0 n a1 v2).bind fun r6 => Option.bind ((F23 n (a0.Nodes.getD (v2).toNat default)).bind fun r12 => if (r12) = true then (some ((v1, !r6))) else (some ((v1, false))) : Option ((List Int) × Bool)) fun J10 => match J10 with | (j8, j9) => (Option.bind (if (j9) = true then (if (j8.length + 1) * 8 ≤ 140737488355328 then (some (j8 ++ ([v2]))) else none) else (some (j8)) : Option ((List Int))) fun j16 => some (.inl ((j16, IntKind.i64.wrap (v2 + 1)))))) else none) else (some (.inr (v1)))
def F9 (n : Nat) (a0 : GProgram) (a1 : List GMatch) : Option ((List Int)) := Option.bind (iterM (F9_L0 n a0 a1) n ((([] : List Int), 0))) fun b3 => some (b3)
abbrev I9 : Inf := ⟨look tiL, [], 32⟩
set_option maxRecDepth 20000 in
theorem F9_ok (n : Nat) (a0 : GProgram) (a1 : List GMatch) (y : (List Int)) (h : F9 n a0 a1 = some y) : PCall Proofs.Try.prog 9 [.t (eGProgram a0), .t (eL cGMatch (a1))] [] [] (Ret (.t (eL cInt (y)))) := by
  refine pcall_of (I := I9) Proofs.Try.func9 rfl ti_ok Proofs.Try.ntmps9 (le_n (by kernel_rfl)) (fun E hG => ?_)
  unfold F9 at h
  refine sn hG [1, 2] [2] [(2, .ptr 2 0)] [(2, .box ((cGProgram (a0)).map .t))] (sn hG [1, 2, 5] [2] [(5, .nil)] [] (pwp_seq (sn hG [1, 5, 10, 11, 12] [] [(10, .t (eL cGNode (a0.Nodes))), (11, iV ((a0.Nodes.length : Int))), (12, iV 0)] [] (ws ⟨[(1, .t (eL cGMatch (a1))), (5, .nil), (10, .t (eL cGNode (a0.Nodes))), (11, iV ((a0.Nodes.length : Int))), (12, iV 0)], []⟩ (pwp_weak (Le.thaw (t := 5) (o := 5) (e := 3) (s := 1) (f := eF cInt ([] : List Int)) hG rfl) ?_)))))
  obtain ⟨b3, hR21, h⟩ := bnd h
  refine lp (F9_L0 n a0 a1) (fun (s : (List Int) × Int) => match s with | (v1, v2) => (⟨[(1, .t (eL cGMatch (a1))), (5, .own 5), (10, .t (eL cGNode (a0.Nodes))), (11, iV ((a0.Nodes.length : Int))), (12, iV v2)], [(5, .arr 3 1 (v1.length) (eF cInt v1))]⟩ : St)) (fun (x0 : (List Int)) (e : Exit) (s : St) => e = .exit 0 ∧ Le E s ((fun (b3 : (List Int)) => (⟨[(5, .own 5)], [(5, .arr 3 1 (b3.length) (eF cInt b3))]⟩ : St)) x0)) ?_ n ((([] : List Int), 0)) b3 hR21 ?_
  rintro ⟨v1, v2⟩ x h
  rw [F9_L0] at h
  refine sn hG [1, 5, 10, 11, 12, 13] [5] [(13, bV (decide (v2 < ((a0.Nodes.length : Int)))))] [] (pwp_seq (iw h (fun h => ?_) (fun h => ?_)))
  refine pwp_skip (then_n (pwp_seq (pwp_block (pwp_seq (pwp_region ?_)))))
  obtain ⟨hc5, h⟩ := grd h
  refine pc hG 7 [1, 5, 6, 7, 10, 11, 12] [5, 6, 7] [(6, .ptr 6 0), (7, .ptr 7 0)] [(6, .box (([.int .i64 (v2)]).map .t)), (7, .box ((cGNode (a0.Nodes.getD (v2).toNat default)).map .t))] hc5 (pe (then_n (pwp_seq (pwp_region (pn hG 2 [1, 5, 6, 7, 10, 11, 12, 17, 18] [5, 6, 7] [(17, .t (eL cGMatch (a1))), (18, .fn (.func 22) 0 [.ptr 6 0])] [] (os ⟨[(1, .t (eL cGMatch (a1))), (5, .own 5), (6, .ptr 6 0), (7, .ptr 7 0), (10, .t (eL cGNode (a0.Nodes))), (11, iV ((a0.Nodes.length : Int))), (12, iV v2), (17, .t (eL cGMatch (a1))), (18, .fn (.func 22) 0 [.ptr 6 0])], [(5, .arr 3 1 (v1.length) (eF cInt v1)), (6, .box (([.int .i64 (v2)]).map .t)), (7, .box ((cGNode (a0.Nodes.getD (v2).toNat default)).map .t))]⟩ (pops_weak (Le.rn hG (o := 6) (o' := 30000) rfl) ?_)))))))
  obtain ⟨r6, hr7, h⟩ := bnd h
  refine ch hG [30000] [30000] [] (nf := 0) (caps := []) (aps := [.t (eL cGMatch (a1)), .fn (.func 22) 0 [.ptr 30000 0]]) rfl rfl rfl rfl callable21 (.cons (.same _) (.cons (.same _) .nil)) (F21s0_ok n _ _ _ hr7) (pn hG 1 [1, 5, 6, 7, 8, 10, 11, 12] [5, 7, 30000] [(6, .ptr 30000 0), (8, bV r6)] [(30000, .box (([.int .i64 (v2)]).map .t))] (pe (then_n (pwp_seq ?_))))
  obtain ⟨J10, hj11, h⟩ := bnd h
  obtain ⟨j8, j9⟩ := J10
  try dsimp only at h
  refine jn [1, 5, 6, 10, 11, 12, 25] [5, 30000] [(25, bV j9)] [(5, .arr 3 1 (j8.length) (eF cInt j8))] ?_ ?_
  replace h := hj11; clear hj11
  refine pwp_region (pn hG 1 [1, 5, 6, 8, 10, 11, 12, 20] [5, 30000] [(20, .t (eGNode (a0.Nodes.getD (v2).toNat default)))] [] ?_)
  obtain ⟨r12, hr13, h⟩ := bnd h
  refine ca hG [] rfl rfl rfl rfl callable23 (.cons (.same _) .nil) (F23_ok n _ _ hr13) (pn hG 1 [1, 5, 6, 8, 10, 11, 12, 22] [5, 30000] [(22, bV r12)] [] (io 22 h (fun h => ?_) (fun h => ?_)))
  refine pn hG 3 [1, 5, 6, 10, 11, 12, 25] [5, 30000] [(25, bV (!r6))] [] ?_
  injection h with q0
  injection q0 with p1 q1
  subst p1
  subst q1
  exact pe fl
  refine pn hG 3 [1, 5, 6, 10, 11, 12, 25] [5, 30000] [(25, bV false)] [] ?_
  injection h with q0
  injection q0 with p1 q1
  subst p1
  subst q1
  exact pe fl
  refine then_n ?_
  obtain ⟨j16, hj18, h⟩ := bnd h
  refine jn [1, 5, 10, 11, 12] [5] [] [(5, .arr 3 1 (j16.length) (eF cInt j16))] ?_ ?_
  replace h := hj18; clear hj18
  refine iw h (fun h => ?_) (fun h => ?_)
  refine pwp_region ?_
  obtain ⟨hc19, h⟩ := grd h
  refine pd hG 4 [1, 10, 11, 12, 29] [29] [(29, .own 29)] [(29, .arr 3 1 (j8.length + 1) (appF (j8.length) (eF cInt j8) (arrOf [.int .i64 (v2)] 1)))] (Cs := [appC (j8.length) (1) 8 1 (arrOf [.int .i64 (v2)] 1)]) ⟨hc19, ok_one rfl⟩ (os ⟨[(1, .t (eL cGMatch (a1))), (10, .t (eL cGNode (a0.Nodes))), (11, iV ((a0.Nodes.length : Int))), (12, iV v2), (29, .own 29)], [(29, .arr 3 1 (j8.length + 1) (appF (j8.length) (eF cInt j8) (arrOf [.int .i64 (v2)] 1)))]⟩ (pops_weak (Le.obj (o := 29) (.arr 3 1 ((j8 ++ ([v2])).length) (eF cInt (j8 ++ ([v2])))) rfl (fun _ _ _ => ObjR.row (by simp) (row_snoc cInt j8 v2 _ rfl))) (pn hG 1 [1, 5, 10, 11, 12] [29] [(5, .own 29)] [(29, .arr 3 1 ((j8 ++ ([v2])).length) (eF cInt (j8 ++ ([v2]))))] (pe ?_))))
  cases h
  exact fall (Le.trans (ls ⟨[(1, .t (eL cGMatch (a1))), (5, .own 29), (10, .t (eL cGNode (a0.Nodes))), (11, iV ((a0.Nodes.length : Int))), (12, iV v2)], [(29, .arr 3 1 ((j8 ++ ([v2])).length) (eF cInt (j8 ++ ([v2]))))]⟩) (Le.trans (Le.rename (o := 29) (o' := 5) hG (by decide) rfl) lk))
  refine pwp_skip ?_
  cases h
  exact fl
  refine blk_n (then_n (rn hG [1, 5, 10, 11, 12] [5] [(12, iV (IntKind.i64.wrap (v2 + 1)))] [] ?_))
  cases h
  exact round_in lk
  cases h
  exact pwp_exit (then_exit (round_out (by simp) (And.intro rfl lk)))
  intro e s hq
  try dsimp only at h
  obtain ⟨rfl, hle⟩ := hq
  refine ⟨_, hle, blk_hit ?_⟩
  refine then_n (sn hG [4] [5] [(4, .own 5)] [] (ws ⟨[(4, .own 5)], [(5, .arr 3 1 (b3.length) (eF cInt b3))]⟩ (pwp_weak (Le.trans (Le.freeze (o := 5) (eL cInt (b3)) rfl rfl rfl) (Le.keep (ts := [4]) (os := []) (t := ⟨[(4, .t (eL cInt (b3)))], []⟩) (by kernel_rfl))) ?_)))
  cases h
  exact pwp_ret rt

def F5 (n : Nat)  : Option (Bool) := (F12 n ).bind fun r1 => (F13 n 0 ([(GAgg.mk 0 0 (⟨#[110]⟩))])).bind fun r3 => (F12 n ).bind fun r5 => (F12 n ).bind fun r9 => (F13 n 0 ([(GAgg.mk 0 0 (⟨#[110]⟩)), (GAgg.mk 1 0 (⟨#[116]⟩))])).bind fun r11 => (F8 n ((GProgram.mk (([] : List GFunc)) ([r1, r3]))) ((GProgram.mk (([] : List GFunc)) ([r9, (GNode.mk 1 ([0]) (⟨#[]⟩) 0 ([(Expr.mk 2 1 (⟨#[]⟩) (([] : List Expr)))]) 0 0 0 (([] : List Int)) (([] : List Int)) 0 0 0 (([] : List GAgg)) (([] : List GPat)) r5.Cols), r11])))).bind fun r13 => Option.bind ((F14 n ((GProgram.mk (([] : List GFunc)) ([r1, r3])))).bind fun r18 => if (!r18) = true then (some (true)) else ((F14 n ((GProgram.mk (([] : List GFunc)) ([r9, (GNode.mk 1 ([0]) (⟨#[]⟩) 0 ([(Expr.mk 2 1 (⟨#[]⟩) (([] : List Expr)))]) 0 0 0 (([] : List Int)) (([] : List Int)) 0 0 0 (([] : List GAgg)) (([] : List GPat)) r5.Cols), r11])))).bind fun r21 => if (!r21) = true then (some (true)) else (if (((r13.length : Int)) != 3) = true then (some (true)) else ((F10 n ((GProgram.mk (([] : List GFunc)) ([r1, r3]))) ((GProgram.mk (([] : List GFunc)) ([r9, (GNode.mk 1 ([0]) (⟨#[]⟩) 0 ([(Expr.mk 2 1 (⟨#[]⟩) (([] : List Expr)))]) 0 0 0 (([] : List Int)) (([] : List Int)) 0 0 0 (([] : List GAgg)) (([] : List GPat)) r5.Cols), r11]))) r13).bind fun r25 => some (r25 != 0)))) : Option (Bool)) fun j15 => if (j15) = true then (some (false)) else (Option.bind (if 0 ≤ ((0 : Int)) ∧ ((0 : Int)) < (r13.length : Int) then (if (([(r13.getD ((0 : Int)).toNat default).Old, (r13.getD ((0 : Int)).toNat default).New, (r13.getD ((0 : Int)).toNat default).Why] : List Int) == [0, 0, 0]) = true then (if 0 ≤ ((1 : Int)) ∧ ((1 : Int)) < (r13.length : Int) then (if (([(r13.getD ((1 : Int)).toNat default).Old, (r13.getD ((1 : Int)).toNat default).New, (r13.getD ((1 : Int)).toNat default).Why] : List Int) == [(-1), 1, 2]) = true then (if 0 ≤ ((2 : Int)) ∧ ((2 : Int)) < (r13.length : Int) then (if (([(r13.getD ((2 : Int)).toNat default).Old, (r13.getD ((2 : Int)).toNat default).New, (r13.getD ((2 : Int)).toNat default).Why] : List Int) == [1, 2, 1]) = true then ((F9 n ((GProgram.mk (([] : List GFunc)) ([r9, (GNode.mk 1 ([0]) (⟨#[]⟩) 0 ([(Expr.mk 2 1 (⟨#[]⟩) (([] : List Expr)))]) 0 0 0 (([] : List Int)) (([] : List Int)) 0 0 0 (([] : List GAgg)) (([] : List GPat)) r5.Cols), r11]))) r13).bind fun r37 => some (((r37.length : Int)) == 0)) else (some (false))) else none) else (some (false))) else none) else (some (false))) else none : Option (Bool)) fun j28 => some (j28))
abbrev I5 : Inf := ⟨look tiL, [], 74⟩
set_option maxRecDepth 20000 in
theorem F5_ok (n : Nat)  (y : Bool) (h : F5 n  = some y) : PCall Proofs.Try.prog 5 [] [] [] (Ret (.t (.bool (y)))) := by
  refine pcall_of (I := I5) Proofs.Try.func5 rfl ti_ok Proofs.Try.ntmps5 (le_n (by kernel_rfl)) (fun E hG => ?_)
  unfold F5 at h
  refine sn hG [] [] [] [] (pwp_seq (pwp_region ?_))
  obtain ⟨r1, hr2, h⟩ := bnd h
  refine ca hG [] rfl rfl rfl rfl callable12 .nil (F12_ok n _ hr2) (pn hG 2 [5, 7] [7] [(5, .t (eGNode r1)), (7, .own 7)] [(7, .arr 52 3 (1) (arrOf [.int .i64 (0), .int .i64 (0), .str (⟨#[110]⟩)] 3))] (os ⟨[(5, .t (eGNode r1)), (7, .own 7)], [(7, .arr 52 3 (1) (arrOf [.int .i64 (0), .int .i64 (0), .str (⟨#[110]⟩)] 3))]⟩ (pops_weak (Le.obj (o := 7) (.arr 52 3 (([(GAgg.mk 0 0 (⟨#[110]⟩))]).length) (eF cGAgg ([(GAgg.mk 0 0 (⟨#[110]⟩))]))) rfl (fun _ _ _ => ObjR.row (by simp) (row_one cGAgg ((GAgg.mk 0 0 (⟨#[110]⟩))) _ rfl))) (pops_weak (Le.trans (Le.freeze (o := 7) (eL cGAgg ([(GAgg.mk 0 0 (⟨#[110]⟩))])) rfl rfl rfl) (Le.keep (ts := [5, 7]) (os := []) (t := ⟨[(5, .t (eGNode r1)), (7, .t (eL cGAgg ([(GAgg.mk 0 0 (⟨#[110]⟩))])))], []⟩) (by kernel_rfl))) ?_))))
  obtain ⟨r3, hr4, h⟩ := bnd h
  refine ca hG [] rfl rfl rfl rfl callable13 (.cons (.same _) (.cons (.same _) .nil)) (F13_ok n _ _ _ hr4) (pn hG 4 [1] [1, 9] [(1, .ptr 1 0)] [(1, .box [.nil, .own 9]), (9, .arr 47 16 (2) (arrOf [.int .i64 (r1.Op), eL cInt (r1.In), .str (r1.Source), .int .i64 (r1.Schema), .lz (.exprs (r1.Exprs)), .int .i64 (r1.Kind), .int .i64 (r1.Size), .int .i64 (r1.Step), eL cInt (r1.Key), eL cInt (r1.Key2), .int .i64 (r1.Before), .int .i64 (r1.After), .int .i64 (r1.Keep), eL cGAgg (r1.Aggs), eL cGPat (r1.Seq), eL cGCol (r1.Cols), .int .i64 (r3.Op), eL cInt (r3.In), .str (r3.Source), .int .i64 (r3.Schema), .lz (.exprs (r3.Exprs)), .int .i64 (r3.Kind), .int .i64 (r3.Size), .int .i64 (r3.Step), eL cInt (r3.Key), eL cInt (r3.Key2), .int .i64 (r3.Before), .int .i64 (r3.After), .int .i64 (r3.Keep), eL cGAgg (r3.Aggs), eL cGPat (r3.Seq), eL cGCol (r3.Cols)] 16))] (pe (then_n (pwp_seq (pwp_region (pn hG 2 [1, 11, 12] [1, 9, 11] [(11, .own 11), (12, .agg [iV 2, iV 1, .t (.str (⟨#[]⟩)), .nil])] [(11, .arr 3 1 (1) (arrOf [.int .i64 (0)] 1))] (os ⟨[(1, .ptr 1 0), (11, .own 11), (12, .agg [iV 2, iV 1, .t (.str (⟨#[]⟩)), .nil])], [(1, .box [.nil, .own 9]), (9, .arr 47 16 (2) (arrOf [.int .i64 (r1.Op), eL cInt (r1.In), .str (r1.Source), .int .i64 (r1.Schema), .lz (.exprs (r1.Exprs)), .int .i64 (r1.Kind), .int .i64 (r1.Size), .int .i64 (r1.Step), eL cInt (r1.Key), eL cInt (r1.Key2), .int .i64 (r1.Before), .int .i64 (r1.After), .int .i64 (r1.Keep), eL cGAgg (r1.Aggs), eL cGPat (r1.Seq), eL cGCol (r1.Cols), .int .i64 (r3.Op), eL cInt (r3.In), .str (r3.Source), .int .i64 (r3.Schema), .lz (.exprs (r3.Exprs)), .int .i64 (r3.Kind), .int .i64 (r3.Size), .int .i64 (r3.Step), eL cInt (r3.Key), eL cInt (r3.Key2), .int .i64 (r3.Before), .int .i64 (r3.After), .int .i64 (r3.Keep), eL cGAgg (r3.Aggs), eL cGPat (r3.Seq), eL cGCol (r3.Cols)] 16)), (11, .arr 3 1 (1) (arrOf [.int .i64 (0)] 1))]⟩ (pops_weak (Le.slot (t := 12) (.t (eExpr ((Expr.mk 2 1 (⟨#[]⟩) (([] : List Expr)))))) rfl (le_agg (.same (.same (.same (.empty rfl .nil)))))) ?_))))))))
  refine pn hG 1 [1, 11, 13] [1, 9, 11, 13] [(13, .own 13)] [(13, .arr 40 4 (1) (arrOf [.int .i64 (2), .int .i64 (1), .str (⟨#[]⟩), .lz (.exprs (([] : List Expr)))] 4))] ?_
  obtain ⟨r5, hr6, h⟩ := bnd h
  refine ca hG [] rfl rfl rfl rfl callable12 .nil (F12_ok n _ hr6) (pn hG 4 [1, 2] [1, 2, 9, 11, 13] [(2, .ptr 2 0)] [(2, .box [iV 1, .own 11, .t (.str (⟨#[]⟩)), iV 0, .own 13, iV 0, iV 0, iV 0, .nil, .nil, iV 0, iV 0, iV 0, .nil, .nil, .t (eL cGCol (r5.Cols))])] (pe (then_n (pwp_seq (ws ⟨[(1, .ptr 1 0), (2, .ptr 2 0)], [(1, .box [.nil, .own 9]), (2, .box [iV 1, .own 11, .t (.str (⟨#[]⟩)), iV 0, .own 13, iV 0, iV 0, iV 0, .nil, .nil, iV 0, iV 0, iV 0, .nil, .nil, .t (eL cGCol (r5.Cols))]), (9, .arr 47 16 (2) (arrOf [.int .i64 (r1.Op), eL cInt (r1.In), .str (r1.Source), .int .i64 (r1.Schema), .lz (.exprs (r1.Exprs)), .int .i64 (r1.Kind), .int .i64 (r1.Size), .int .i64 (r1.Step), eL cInt (r1.Key), eL cInt (r1.Key2), .int .i64 (r1.Before), .int .i64 (r1.After), .int .i64 (r1.Keep), eL cGAgg (r1.Aggs), eL cGPat (r1.Seq), eL cGCol (r1.Cols), .int .i64 (r3.Op), eL cInt (r3.In), .str (r3.Source), .int .i64 (r3.Schema), .lz (.exprs (r3.Exprs)), .int .i64 (r3.Kind), .int .i64 (r3.Size), .int .i64 (r3.Step), eL cInt (r3.Key), eL cInt (r3.Key2), .int .i64 (r3.Before), .int .i64 (r3.After), .int .i64 (r3.Keep), eL cGAgg (r3.Aggs), eL cGPat (r3.Seq), eL cGCol (r3.Cols)] 16)), (11, .arr 3 1 (1) (arrOf [.int .i64 (0)] 1)), (13, .arr 40 4 (1) (arrOf [.int .i64 (2), .int .i64 (1), .str (⟨#[]⟩), .lz (.exprs (([] : List Expr)))] 4))]⟩ (pwp_weak (Le.obj (o := 11) (.arr 3 1 (([0]).length) (eF cInt ([0]))) rfl (fun _ _ _ => ObjR.row (by simp) (row_one cInt 0 _ rfl))) (pwp_weak (Le.trans (Le.freeze (o := 11) (eL cInt ([0])) rfl rfl rfl) (Le.keep (ts := [1, 2]) (os := [1, 2, 9, 13]) (t := ⟨[(1, .ptr 1 0), (2, .ptr 2 0)], [(1, .box [.nil, .own 9]), (2, .box [iV 1, .t (eL cInt ([0])), .t (.str (⟨#[]⟩)), iV 0, .own 13, iV 0, iV 0, iV 0, .nil, .nil, iV 0, iV 0, iV 0, .nil, .nil, .t (eL cGCol (r5.Cols))]), (9, .arr 47 16 (2) (arrOf [.int .i64 (r1.Op), eL cInt (r1.In), .str (r1.Source), .int .i64 (r1.Schema), .lz (.exprs (r1.Exprs)), .int .i64 (r1.Kind), .int .i64 (r1.Size), .int .i64 (r1.Step), eL cInt (r1.Key), eL cInt (r1.Key2), .int .i64 (r1.Before), .int .i64 (r1.After), .int .i64 (r1.Keep), eL cGAgg (r1.Aggs), eL cGPat (r1.Seq), eL cGCol (r1.Cols), .int .i64 (r3.Op), eL cInt (r3.In), .str (r3.Source), .int .i64 (r3.Schema), .lz (.exprs (r3.Exprs)), .int .i64 (r3.Kind), .int .i64 (r3.Size), .int .i64 (r3.Step), eL cInt (r3.Key), eL cInt (r3.Key2), .int .i64 (r3.Before), .int .i64 (r3.After), .int .i64 (r3.Keep), eL cGAgg (r3.Aggs), eL cGPat (r3.Seq), eL cGCol (r3.Cols)] 16)), (13, .arr 40 4 (1) (arrOf [.int .i64 (2), .int .i64 (1), .str (⟨#[]⟩), .lz (.exprs (([] : List Expr)))] 4))]⟩) (by kernel_rfl))) (pwp_weak (Le.obj (o := 13) (.arr 40 4 (([(Expr.mk 2 1 (⟨#[]⟩) (([] : List Expr)))]).length) (eF exprCells ([(Expr.mk 2 1 (⟨#[]⟩) (([] : List Expr)))]))) rfl (fun _ _ _ => ObjR.row (by simp) (row_one exprCells ((Expr.mk 2 1 (⟨#[]⟩) (([] : List Expr)))) _ rfl))) ?_))))))))
  refine pwp_weak (Le.trans (Le.freeze (o := 13) (.lz (.exprs ([(Expr.mk 2 1 (⟨#[]⟩) (([] : List Expr)))]))) rfl rfl rfl) (Le.keep (ts := [1, 2]) (os := [1, 2, 9]) (t := ⟨[(1, .ptr 1 0), (2, .ptr 2 0)], [(1, .box [.nil, .own 9]), (2, .box [iV 1, .t (eL cInt ([0])), .t (.str (⟨#[]⟩)), iV 0, .t (.lz (.exprs ([(Expr.mk 2 1 (⟨#[]⟩) (([] : List Expr)))]))), iV 0, iV 0, iV 0, .nil, .nil, iV 0, iV 0, iV 0, .nil, .nil, .t (eL cGCol (r5.Cols))]), (9, .arr 47 16 (2) (arrOf [.int .i64 (r1.Op), eL cInt (r1.In), .str (r1.Source), .int .i64 (r1.Schema), .lz (.exprs (r1.Exprs)), .int .i64 (r1.Kind), .int .i64 (r1.Size), .int .i64 (r1.Step), eL cInt (r1.Key), eL cInt (r1.Key2), .int .i64 (r1.Before), .int .i64 (r1.After), .int .i64 (r1.Keep), eL cGAgg (r1.Aggs), eL cGPat (r1.Seq), eL cGCol (r1.Cols), .int .i64 (r3.Op), eL cInt (r3.In), .str (r3.Source), .int .i64 (r3.Schema), .lz (.exprs (r3.Exprs)), .int .i64 (r3.Kind), .int .i64 (r3.Size), .int .i64 (r3.Step), eL cInt (r3.Key), eL cInt (r3.Key2), .int .i64 (r3.Before), .int .i64 (r3.After), .int .i64 (r3.Keep), eL cGAgg (r3.Aggs), eL cGPat (r3.Seq), eL cGCol (r3.Cols)] 16))]⟩) (by kernel_rfl))) (pwp_weak (Le.obj (o := 2) (.box ([(.int .i64 (1)), (eL cInt ([0])), (.str (⟨#[]⟩)), (.int .i64 (0)), (.lz (.exprs ([(Expr.mk 2 1 (⟨#[]⟩) (([] : List Expr)))]))), (.int .i64 (0)), (.int .i64 (0)), (.int .i64 (0)), (eL cInt (([] : List Int))), (eL cInt (([] : List Int))), (.int .i64 (0)), (.int .i64 (0)), (.int .i64 (0)), (eL cGAgg (([] : List GAgg))), (eL cGPat (([] : List GPat))), (eL cGCol (r5.Cols))].map .t)) rfl (fun _ _ _ => le_box (.same (.same (.same (.same (.same (.same (.same (.same (.empty rfl (.empty rfl (.same (.same (.same (.empty rfl (.empty rfl (.same (.nil))))))))))))))))))) ?_)
  obtain ⟨r9, hr10, h⟩ := bnd h
  obtain ⟨r11, hr12, h⟩ := bnd h
  refine pwp_draw hG (by kernel_rfl) ⟨[], [(0, 12, [], .t (eGNode r9)), (5, 13, [iV 0, .t (.sl (2) (arrOf [.int .i64 (0), .int .i64 (0), .str (⟨#[110]⟩), .int .i64 (1), .int .i64 (0), .str (⟨#[116]⟩)] 3))], .t (eGNode r11))], [], [(4, true)]⟩ (.cons ⟨callable12, ⟨_, fun _ => .nil, F12_ok n _ hr10⟩, rfl⟩ (.cons ⟨callable13, ⟨_, fun _ => (.cons (.same _) (.cons (.imp (le_sl rfl (by simp) (fun i hi => by match i, hi with | 0, _ => rfl | 1, _ => rfl))) .nil)), F13_ok n _ _ _ hr12⟩, rfl⟩ .nil)) .nil .nil [1, 2, 3, 17, 18, 19, 20, 21, 22, 23, 24] [1, 2, 3, 9, 21, 23] [1, 3] [1, 3, 9, 23] (stF := ⟨[(1, .ptr 1 0), (3, .ptr 3 0)], [(1, .box [.nil, .own 9]), (3, .box [.nil, .own 23]), (9, .arr 47 16 (2) (arrOf [.int .i64 (r1.Op), eL cInt (r1.In), .str (r1.Source), .int .i64 (r1.Schema), .lz (.exprs (r1.Exprs)), .int .i64 (r1.Kind), .int .i64 (r1.Size), .int .i64 (r1.Step), eL cInt (r1.Key), eL cInt (r1.Key2), .int .i64 (r1.Before), .int .i64 (r1.After), .int .i64 (r1.Keep), eL cGAgg (r1.Aggs), eL cGPat (r1.Seq), eL cGCol (r1.Cols), .int .i64 (r3.Op), eL cInt (r3.In), .str (r3.Source), .int .i64 (r3.Schema), .lz (.exprs (r3.Exprs)), .int .i64 (r3.Kind), .int .i64 (r3.Size), .int .i64 (r3.Step), eL cInt (r3.Key), eL cInt (r3.Key2), .int .i64 (r3.Before), .int .i64 (r3.After), .int .i64 (r3.Keep), eL cGAgg (r3.Aggs), eL cGPat (r3.Seq), eL cGCol (r3.Cols)] 16)), (23, .arr 47 16 (3) (arrOf [.int .i64 (r9.Op), eL cInt (r9.In), .str (r9.Source), .int .i64 (r9.Schema), .lz (.exprs (r9.Exprs)), .int .i64 (r9.Kind), .int .i64 (r9.Size), .int .i64 (r9.Step), eL cInt (r9.Key), eL cInt (r9.Key2), .int .i64 (r9.Before), .int .i64 (r9.After), .int .i64 (r9.Keep), eL cGAgg (r9.Aggs), eL cGPat (r9.Seq), eL cGCol (r9.Cols), .int .i64 (1), eL cInt ([0]), .str (⟨#[]⟩), .int .i64 (0), .lz (.exprs ([(Expr.mk 2 1 (⟨#[]⟩) (([] : List Expr)))])), .int .i64 (0), .int .i64 (0), .int .i64 (0), eL cInt (([] : List Int)), eL cInt (([] : List Int)), .int .i64 (0), .int .i64 (0), .int .i64 (0), eL cGAgg (([] : List GAgg)), eL cGPat (([] : List GPat)), eL cGCol (r5.Cols), .int .i64 (r11.Op), eL cInt (r11.In), .str (r11.Source), .int .i64 (r11.Schema), .lz (.exprs (r11.Exprs)), .int .i64 (r11.Kind), .int .i64 (r11.Size), .int .i64 (r11.Step), eL cInt (r11.Key), eL cInt (r11.Key2), .int .i64 (r11.Before), .int .i64 (r11.After), .int .i64 (r11.Keep), eL cGAgg (r11.Aggs), eL cGPat (r11.Seq), eL cGCol (r11.Cols)] 16))]⟩) (by kernel_rfl) (then_n (pwp_seq (pwp_region (pops_weak (Le.obj (o := 9) (.arr 47 16 (([r1, r3]).length) (eF cGNode ([r1, r3]))) rfl (fun _ _ _ => ObjR.row (by simp) (fun i hi => by match i, hi with | 0, _ => rfl | 1, _ => rfl))) (pops_weak (Le.trans (Le.freeze (o := 9) (eL cGNode ([r1, r3])) rfl rfl rfl) (Le.keep (ts := [1, 3]) (os := [1, 3, 23]) (t := ⟨[(1, .ptr 1 0), (3, .ptr 3 0)], [(1, .box [.nil, .t (eL cGNode ([r1, r3]))]), (3, .box [.nil, .own 23]), (23, .arr 47 16 (3) (arrOf [.int .i64 (r9.Op), eL cInt (r9.In), .str (r9.Source), .int .i64 (r9.Schema), .lz (.exprs (r9.Exprs)), .int .i64 (r9.Kind), .int .i64 (r9.Size), .int .i64 (r9.Step), eL cInt (r9.Key), eL cInt (r9.Key2), .int .i64 (r9.Before), .int .i64 (r9.After), .int .i64 (r9.Keep), eL cGAgg (r9.Aggs), eL cGPat (r9.Seq), eL cGCol (r9.Cols), .int .i64 (1), eL cInt ([0]), .str (⟨#[]⟩), .int .i64 (0), .lz (.exprs ([(Expr.mk 2 1 (⟨#[]⟩) (([] : List Expr)))])), .int .i64 (0), .int .i64 (0), .int .i64 (0), eL cInt (([] : List Int)), eL cInt (([] : List Int)), .int .i64 (0), .int .i64 (0), .int .i64 (0), eL cGAgg (([] : List GAgg)), eL cGPat (([] : List GPat)), eL cGCol (r5.Cols), .int .i64 (r11.Op), eL cInt (r11.In), .str (r11.Source), .int .i64 (r11.Schema), .lz (.exprs (r11.Exprs)), .int .i64 (r11.Kind), .int .i64 (r11.Size), .int .i64 (r11.Step), eL cInt (r11.Key), eL cInt (r11.Key2), .int .i64 (r11.Before), .int .i64 (r11.After), .int .i64 (r11.Keep), eL cGAgg (r11.Aggs), eL cGPat (r11.Seq), eL cGCol (r11.Cols)] 16))]⟩) (by kernel_rfl))) (pops_weak (Le.obj (o := 1) (.box ([(eL cGFunc (([] : List GFunc))), (eL cGNode ([r1, r3]))].map .t)) rfl (fun _ _ _ => le_box (.empty rfl (.same (.nil))))) (pn hG 1 [1, 3, 25] [1, 3, 23] [(25, .t (eGProgram ((GProgram.mk (([] : List GFunc)) ([r1, r3])))))] [(1, .box [.t (eL cGFunc (([] : List GFunc))), .t (eL cGNode ([r1, r3]))])] (os ⟨[(1, .ptr 1 0), (3, .ptr 3 0), (25, .t (eGProgram ((GProgram.mk (([] : List GFunc)) ([r1, r3])))))], [(1, .box [.t (eL cGFunc (([] : List GFunc))), .t (eL cGNode ([r1, r3]))]), (3, .box [.nil, .own 23]), (23, .arr 47 16 (3) (arrOf [.int .i64 (r9.Op), eL cInt (r9.In), .str (r9.Source), .int .i64 (r9.Schema), .lz (.exprs (r9.Exprs)), .int .i64 (r9.Kind), .int .i64 (r9.Size), .int .i64 (r9.Step), eL cInt (r9.Key), eL cInt (r9.Key2), .int .i64 (r9.Before), .int .i64 (r9.After), .int .i64 (r9.Keep), eL cGAgg (r9.Aggs), eL cGPat (r9.Seq), eL cGCol (r9.Cols), .int .i64 (1), eL cInt ([0]), .str (⟨#[]⟩), .int .i64 (0), .lz (.exprs ([(Expr.mk 2 1 (⟨#[]⟩) (([] : List Expr)))])), .int .i64 (0), .int .i64 (0), .int .i64 (0), eL cInt (([] : List Int)), eL cInt (([] : List Int)), .int .i64 (0), .int .i64 (0), .int .i64 (0), eL cGAgg (([] : List GAgg)), eL cGPat (([] : List GPat)), eL cGCol (r5.Cols), .int .i64 (r11.Op), eL cInt (r11.In), .str (r11.Source), .int .i64 (r11.Schema), .lz (.exprs (r11.Exprs)), .int .i64 (r11.Kind), .int .i64 (r11.Size), .int .i64 (r11.Step), eL cInt (r11.Key), eL cInt (r11.Key2), .int .i64 (r11.Before), .int .i64 (r11.After), .int .i64 (r11.Keep), eL cGAgg (r11.Aggs), eL cGPat (r11.Seq), eL cGCol (r11.Cols)] 16))]⟩ ?_))))))))
  refine pops_weak (Le.obj (o := 23) (.arr 47 16 (([r9, (GNode.mk 1 ([0]) (⟨#[]⟩) 0 ([(Expr.mk 2 1 (⟨#[]⟩) (([] : List Expr)))]) 0 0 0 (([] : List Int)) (([] : List Int)) 0 0 0 (([] : List GAgg)) (([] : List GPat)) r5.Cols), r11]).length) (eF cGNode ([r9, (GNode.mk 1 ([0]) (⟨#[]⟩) 0 ([(Expr.mk 2 1 (⟨#[]⟩) (([] : List Expr)))]) 0 0 0 (([] : List Int)) (([] : List Int)) 0 0 0 (([] : List GAgg)) (([] : List GPat)) r5.Cols), r11]))) rfl (fun _ _ _ => ObjR.row (by simp) (fun i hi => by match i, hi with | 0, _ => rfl | 1, _ => rfl | 2, _ => rfl))) (pops_weak (Le.trans (Le.freeze (o := 23) (eL cGNode ([r9, (GNode.mk 1 ([0]) (⟨#[]⟩) 0 ([(Expr.mk 2 1 (⟨#[]⟩) (([] : List Expr)))]) 0 0 0 (([] : List Int)) (([] : List Int)) 0 0 0 (([] : List GAgg)) (([] : List GPat)) r5.Cols), r11])) rfl rfl rfl) (Le.keep (ts := [1, 3, 25]) (os := [1, 3]) (t := ⟨[(1, .ptr 1 0), (3, .ptr 3 0), (25, .t (eGProgram ((GProgram.mk (([] : List GFunc)) ([r1, r3])))))], [(1, .box [.t (eL cGFunc (([] : List GFunc))), .t (eL cGNode ([r1, r3]))]), (3, .box [.nil, .t (eL cGNode ([r9, (GNode.mk 1 ([0]) (⟨#[]⟩) 0 ([(Expr.mk 2 1 (⟨#[]⟩) (([] : List Expr)))]) 0 0 0 (([] : List Int)) (([] : List Int)) 0 0 0 (([] : List GAgg)) (([] : List GPat)) r5.Cols), r11]))])]⟩) (by kernel_rfl))) (pops_weak (Le.obj (o := 3) (.box ([(eL cGFunc (([] : List GFunc))), (eL cGNode ([r9, (GNode.mk 1 ([0]) (⟨#[]⟩) 0 ([(Expr.mk 2 1 (⟨#[]⟩) (([] : List Expr)))]) 0 0 0 (([] : List Int)) (([] : List Int)) 0 0 0 (([] : List GAgg)) (([] : List GPat)) r5.Cols), r11]))].map .t)) rfl (fun _ _ _ => le_box (.empty rfl (.same (.nil))))) (pn hG 1 [1, 3, 25, 26] [1, 3] [(26, .t (eGProgram ((GProgram.mk (([] : List GFunc)) ([r9, (GNode.mk 1 ([0]) (⟨#[]⟩) 0 ([(Expr.mk 2 1 (⟨#[]⟩) (([] : List Expr)))]) 0 0 0 (([] : List Int)) (([] : List Int)) 0 0 0 (([] : List GAgg)) (([] : List GPat)) r5.Cols), r11])))))] [(3, .box [.t (eL cGFunc (([] : List GFunc))), .t (eL cGNode ([r9, (GNode.mk 1 ([0]) (⟨#[]⟩) 0 ([(Expr.mk 2 1 (⟨#[]⟩) (([] : List Expr)))]) 0 0 0 (([] : List Int)) (([] : List Int)) 0 0 0 (([] : List GAgg)) (([] : List GPat)) r5.Cols), r11]))])] ?_)))
  obtain ⟨r13, hr14, h⟩ := bnd h
  refine ca hG [] rfl rfl rfl rfl callable8 (.cons (.same _) (.cons (.same _) .nil)) (F8_ok n _ _ _ hr14) (pn hG 1 [1, 3, 4] [1, 3] [(4, .t (eL cGMatch (r13)))] [] (pe (then_n (pwp_seq (pwp_seq ?_)))))
  obtain ⟨j15, hj17, h⟩ := bnd h
  refine jn [3, 4, 47] [3] [(47, bV j15)] [] ?_ ?_
  replace h := hj17; clear hj17
  refine pwp_region (pn hG 1 [1, 3, 4, 28] [1, 3] [(28, .t (eGProgram ((GProgram.mk (([] : List GFunc)) ([r1, r3])))))] [] ?_)
  obtain ⟨r18, hr19, h⟩ := bnd h
  refine ca hG [] rfl rfl rfl rfl callable14 (.cons (.same _) .nil) (F14_ok n _ _ hr19) (pn hG 2 [1, 3, 4, 31] [1, 3] [(31, bV (!r18))] [] (io 31 h (fun h => ?_) (fun h => ?_)))
  refine pn hG 16 [3, 4, 47] [3] [(47, bV true)] [] ?_
  cases h
  exact pe fl
  refine pn hG 1 [1, 3, 4, 31, 32] [1, 3] [(32, .t (eGProgram ((GProgram.mk (([] : List GFunc)) ([r9, (GNode.mk 1 ([0]) (⟨#[]⟩) 0 ([(Expr.mk 2 1 (⟨#[]⟩) (([] : List Expr)))]) 0 0 0 (([] : List Int)) (([] : List Int)) 0 0 0 (([] : List GAgg)) (([] : List GPat)) r5.Cols), r11])))))] [] ?_
  obtain ⟨r21, hr22, h⟩ := bnd h
  refine ca hG [] rfl rfl rfl rfl callable14 (.cons (.same _) .nil) (F14_ok n _ _ hr22) (pn hG 3 [1, 3, 4, 36] [1, 3] [(36, bV (!r21))] [] (io 36 h (fun h => ?_) (fun h => ?_)))
  refine pn hG 11 [3, 4, 47] [3] [(47, bV true)] [] ?_
  cases h
  exact pe fl
  refine pn hG 5 [1, 3, 4, 41] [1, 3] [(41, bV (((r13.length : Int)) != 3))] [] (io 41 h (fun h => ?_) (fun h => ?_))
  refine pn hG 6 [3, 4, 47] [3] [(47, bV true)] [] ?_
  cases h
  exact pe fl
  refine pn hG 3 [3, 4, 41, 42, 43, 44] [3] [(42, .t (eGProgram ((GProgram.mk (([] : List GFunc)) ([r1, r3]))))), (43, .t (eGProgram ((GProgram.mk (([] : List GFunc)) ([r9, (GNode.mk 1 ([0]) (⟨#[]⟩) 0 ([(Expr.mk 2 1 (⟨#[]⟩) (([] : List Expr)))]) 0 0 0 (([] : List Int)) (([] : List Int)) 0 0 0 (([] : List GAgg)) (([] : List GPat)) r5.Cols), r11]))))), (44, .t (eL cGMatch (r13)))] [] ?_
  obtain ⟨r25, hr26, h⟩ := bnd h
  refine ca hG [] rfl rfl rfl rfl callable10 (.cons (.same _) (.cons (.same _) (.cons (.same _) .nil))) (F10_ok n _ _ _ _ hr26) (pn hG 2 [3, 4, 47] [3] [(47, bV (r25 != 0))] [] ?_)
  cases h
  exact pe fl
  refine then_n (iw h (fun h => ?_) (fun h => ?_))
  refine sn hG [0] [] [(0, bV false)] [] ?_
  cases h
  exact pwp_ret (then_ret rt)
  refine pwp_skip (then_n (pwp_seq ?_))
  obtain ⟨j28, hj30, h⟩ := bnd h
  refine jn [0] [] [(0, bV j28)] [] ?_ ?_
  replace h := hj30; clear hj30
  refine pwp_region ?_
  obtain ⟨hc31, h⟩ := grd h
  refine pc hG 6 [3, 4, 53] [3] [(53, bV (([(r13.getD ((0 : Int)).toNat default).Old, (r13.getD ((0 : Int)).toNat default).New, (r13.getD ((0 : Int)).toNat default).Why] : List Int) == [0, 0, 0]))] [] hc31 (io 53 h (fun h => ?_) (fun h => ?_))
  obtain ⟨hc33, h⟩ := grd h
  refine pc hG 7 [3, 4, 60] [3] [(60, bV (([(r13.getD ((1 : Int)).toNat default).Old, (r13.getD ((1 : Int)).toNat default).New, (r13.getD ((1 : Int)).toNat default).Why] : List Int) == [(-1), 1, 2]))] [] hc33 (io 60 h (fun h => ?_) (fun h => ?_))
  obtain ⟨hc35, h⟩ := grd h
  refine pc hG 7 [3, 4, 67] [3] [(67, bV (([(r13.getD ((2 : Int)).toNat default).Old, (r13.getD ((2 : Int)).toNat default).New, (r13.getD ((2 : Int)).toNat default).Why] : List Int) == [1, 2, 1]))] [] hc35 (io 67 h (fun h => ?_) (fun h => ?_))
  refine pn hG 2 [67, 68, 69] [] [(68, .t (eGProgram ((GProgram.mk (([] : List GFunc)) ([r9, (GNode.mk 1 ([0]) (⟨#[]⟩) 0 ([(Expr.mk 2 1 (⟨#[]⟩) (([] : List Expr)))]) 0 0 0 (([] : List Int)) (([] : List Int)) 0 0 0 (([] : List GAgg)) (([] : List GPat)) r5.Cols), r11]))))), (69, .t (eL cGMatch (r13)))] [] ?_
  obtain ⟨r37, hr38, h⟩ := bnd h
  refine ca hG [] rfl rfl rfl rfl callable9 (.cons (.same _) (.cons (.same _) .nil)) (F9_ok n _ _ _ hr38) (pn hG 4 [0] [] [(0, bV (((r37.length : Int)) == 0))] [] ?_)
  cases h
  exact pe fl
  refine pn hG 7 [0] [] [(0, bV false)] [] ?_
  cases h
  exact pe fl
  refine pn hG 14 [0] [] [(0, bV false)] [] ?_
  cases h
  exact pe fl
  refine pn hG 21 [0] [] [(0, bV false)] [] ?_
  cases h
  exact pe fl
  refine then_n ?_
  cases h
  exact pwp_ret rt

def F40_L0 (n : Nat) (rec : Expr → Option (Int)) (a0 : Expr) : (Int × Int) → Option ((Int × Int) ⊕ (Int))
  | (v1, v2) => if (decide (v2 < ((a0.Args.length : Int)))) = true then (if 0 ≤ v2 ∧ v2 < (a0.Args.length : Int) then ((rec (a0.Args.getD (v2).toNat default)).bind fun r6 => some (.inl ((IntKind.i64.wrap (v1 + r6), IntKind.i64.wrap (v2 + 1))))) else none) else (some (.inr (v1)))
def F40 : Nat → Expr → Option (Int)
  | 0, _ => none
  | n + 1, a0 => Option.bind (iterM (F40_L0 n (F40 n) a0) n ((1, 0))) fun b3 => some (b3)
abbrev I40 : Inf := ⟨look tiL, [], 21⟩
set_option maxRecDepth 20000 in
theorem F40_ok (n : Nat) : ∀ (a0 : Expr) (y : Int) (_ : F40 n a0 = some y), PCall Proofs.Try.prog 40 [.t (eExpr a0)] [] [] (Ret (.t (.int .i64 (y)))) := by
  induction n with
  | zero => intro a0 y h; cases h
  | succ n ih =>
  intro a0 y h
  refine pcall_of (I := I40) Proofs.Try.func40 rfl ti_ok Proofs.Try.ntmps40 (le_n (by kernel_rfl)) (fun E hG => ?_)
  rw [F40] at h
  refine sn hG [1] [1] [(1, .ptr 1 0)] [(1, .box ((exprCells (a0)).map .t))] (sn hG [1, 3] [1] [(3, iV 1)] [] (pwp_seq (sn hG [1, 3, 4] [1] [(4, iV 0)] [] ?_)))
  obtain ⟨b3, hR9, h⟩ := bnd h
  refine lp (F40_L0 n (F40 n) a0) (fun (s : Int × Int) => match s with | (v1, v2) => (⟨[(1, .ptr 1 0), (3, iV v1), (4, iV v2)], [(1, .box ((exprCells (a0)).map .t))]⟩ : St)) (fun (x0 : Int) (e : Exit) (s : St) => e = .exit 0 ∧ Le E s ((fun (b3 : Int) => (⟨[(3, iV b3)], []⟩ : St)) x0)) ?_ n ((1, 0)) b3 hR9 ?_
  rintro ⟨v1, v2⟩ x h
  rw [F40_L0] at h
  refine pwp_seq (sn hG [1, 3, 4, 9] [1] [(9, bV (decide (v2 < ((a0.Args.length : Int)))))] [] (iw h (fun h => ?_) (fun h => ?_)))
  refine pwp_skip (then_n (pwp_seq (pwp_block (pwp_region ?_))))
  obtain ⟨hc5, h⟩ := grd h
  refine pc hG 6 [1, 4, 12, 17] [1] [(12, iV v1), (17, .t (eExpr (a0.Args.getD (v2).toNat default)))] [] hc5 ?_
  obtain ⟨r6, hr7, h⟩ := bnd h
  refine ca hG [] rfl rfl rfl rfl callable40 (.cons (.same _) .nil) (ih _ _ hr7) (pn hG 2 [1, 3, 4] [1] [(3, iV (IntKind.i64.wrap (v1 + r6)))] [] (pe (blk_n (then_n (rn hG [1, 3, 4] [1] [(4, iV (IntKind.i64.wrap (v2 + 1)))] [] ?_)))))
  cases h
  exact round_in lk
  cases h
  exact pwp_exit (then_exit (round_out (by simp) (And.intro rfl lk)))
  intro e s hq
  try dsimp only at h
  obtain ⟨rfl, hle⟩ := hq
  refine ⟨_, hle, blk_hit ?_⟩
  refine then_n (sn hG [2] [] [(2, iV b3)] [] ?_)
  cases h
  exact pwp_ret rt

def F60_L0 (n : Nat) (rec : (List Int) → Expr → Option (Int)) (a0 : List Int) (a1 : Expr) : ((List Int) × Int) → Option (((List Int) × Int) ⊕ ((List Int)))
  | (v1, v2) => if (decide (v2 < ((a1.Args.length : Int)))) = true then (if 0 ≤ v2 ∧ v2 < (a1.Args.length : Int) then ((rec a0 (a1.Args.getD (v2).toNat default)).bind fun r6 => if (v1.length + 1) * 8 ≤ 140737488355328 then (some (.inl ((v1 ++ ([r6]), IntKind.i64.wrap (v2 + 1))))) else none) else none) else (some (.inr (v1)))
def F60_L1 (n : Nat) : (Int × (List Int) × Int) → Option ((Int × (List Int) × Int) ⊕ (Int))
  | (v23, v24, v25) => if (decide (v25 < ((v24.length : Int)))) = true then (if 0 ≤ v25 ∧ v25 < (v24.length : Int) then (if (v25).toNat < v24.length then (some (.inl ((if (1099511627776 : Int) < (IntKind.i64.wrap (v23 + (v24.getD (v25).toNat default))) then (1099511627776 : Int) else (IntKind.i64.wrap (v23 + (v24.getD (v25).toNat default))), v24, IntKind.i64.wrap (v25 + 1))))) else none) else none) else (some (.inr (v23)))
def F60 : Nat → (List Int) → Expr → Option (Int)
  | 0, _, _ => none
  | n + 1, a0, a1 => Option.bind (iterM (F60_L0 n (F60 n) a0 a1) n ((([] : List Int), 0))) fun b3 => Option.bind (if (a1.Op == 21) = true then (some ((b3, ((b3.length : Int)) == 3))) else (some ((b3, false))) : Option ((List Int) × Bool)) fun J13 => match J13 with | (j11, j12) => (if (j12) = true then (if 0 ≤ ((0 : Int)) ∧ ((0 : Int)) < (j11.length : Int) then (if ((0 : Int)).toNat < j11.length then (if 0 ≤ ((1 : Int)) ∧ ((1 : Int)) < (j11.length : Int) then (if ((1 : Int)).toNat < j11.length then (if 0 ≤ ((2 : Int)) ∧ ((2 : Int)) < (j11.length : Int) then (if ((2 : Int)).toNat < j11.length then (some (if (1099511627776 : Int) < (IntKind.i64.wrap ((IntKind.i64.wrap (1 + (j11.getD ((0 : Int)).toNat default))) + (if (j11.getD ((2 : Int)).toNat default) > (j11.getD ((1 : Int)).toNat default) then (j11.getD ((2 : Int)).toNat default) else (j11.getD ((1 : Int)).toNat default)))) then (1099511627776 : Int) else (IntKind.i64.wrap ((IntKind.i64.wrap (1 + (j11.getD ((0 : Int)).toNat default))) + (if (j11.getD ((2 : Int)).toNat default) > (j11.getD ((1 : Int)).toNat default) then (j11.getD ((2 : Int)).toNat default) else (j11.getD ((1 : Int)).toNat default)))))) else none) else none) else none) else none) else none) else none) else (Option.bind (iterM (F60_L1 n) n ((1, j11, 0))) fun b26 => Option.bind (if (a1.Op == 22) = true then (if (decide (a1.N ≥ 0)) = true then (some (decide (a1.N < ((a0.length : Int))))) else (some (false))) else (some (false)) : Option (Bool)) fun j32 => Option.bind (if (j32) = true then (if 0 ≤ a1.N ∧ a1.N < (a0.length : Int) then (some (if (1099511627776 : Int) < (IntKind.i64.wrap (b26 + (a0.getD (a1.N).toNat default))) then (1099511627776 : Int) else (IntKind.i64.wrap (b26 + (a0.getD (a1.N).toNat default))))) else none) else (some (b26)) : Option (Int)) fun j38 => some (j38)))
abbrev I60 : Inf := ⟨look tiL, [], 84⟩
set_option maxRecDepth 20000 in
theorem F60_ok (n : Nat) : ∀ (a0 : List Int) (a1 : Expr) (y : Int) (_ : F60 n a0 a1 = some y), PCall Proofs.Try.prog 60 [.t (eL cInt (a0)), .t (eExpr a1)] [] [] (Ret (.t (.int .i64 (y)))) := by
  induction n with
  | zero => intro a0 a1 y h; cases h
  | succ n ih =>
  intro a0 a1 y h
  refine pcall_of (I := I60) Proofs.Try.func60 rfl ti_ok Proofs.Try.ntmps60 (le_n (by kernel_rfl)) (fun E hG => ?_)
  rw [F60] at h
  refine sn hG [0, 3] [3] [(3, .ptr 3 0)] [(3, .box ((exprCells (a1)).map .t))] (sn hG [0, 3, 5] [3] [(5, iV 1)] [] (sn hG [0, 3, 5, 6] [3] [(6, .nil)] [] (pwp_seq (sn hG [0, 3, 5, 6, 7] [3] [(7, iV 0)] [] (ws ⟨[(0, .t (eL cInt (a0))), (3, .ptr 3 0), (5, iV 1), (6, .nil), (7, iV 0)], [(3, .box ((exprCells (a1)).map .t))]⟩ (pwp_weak (Le.thaw (t := 6) (o := 6) (e := 3) (s := 1) (f := eF cInt ([] : List Int)) hG rfl) ?_))))))
  obtain ⟨b3, hR10, h⟩ := bnd h
  refine lp (F60_L0 n (F60 n) a0 a1) (fun (s : (List Int) × Int) => match s with | (v1, v2) => (⟨[(0, .t (eL cInt (a0))), (3, .ptr 3 0), (5, iV 1), (6, .own 6), (7, iV v2)], [(3, .box ((exprCells (a1)).map .t)), (6, .arr 3 1 (v1.length) (eF cInt v1))]⟩ : St)) (fun (x0 : (List Int)) (e : Exit) (s : St) => e = .exit 0 ∧ Le E s ((fun (b3 : (List Int)) => (⟨[(0, .t (eL cInt (a0))), (3, .ptr 3 0), (5, iV 1), (6, .own 6)], [(3, .box ((exprCells (a1)).map .t)), (6, .arr 3 1 (b3.length) (eF cInt b3))]⟩ : St)) x0)) ?_ n ((([] : List Int), 0)) b3 hR10 ?_
  rintro ⟨v1, v2⟩ x h
  rw [F60_L0] at h
  refine pwp_seq (sn hG [0, 3, 5, 6, 7, 13] [3, 6] [(13, bV (decide (v2 < ((a1.Args.length : Int)))))] [] (iw h (fun h => ?_) (fun h => ?_)))
  refine pwp_skip (then_n (pwp_seq (pwp_block (pwp_region ?_))))
  obtain ⟨hc5, h⟩ := grd h
  refine pc hG 7 [0, 3, 5, 7, 16, 17, 22] [3, 6] [(16, .own 6), (17, .t (eL cInt (a0))), (22, .t (eExpr (a1.Args.getD (v2).toNat default)))] [] hc5 ?_
  obtain ⟨r6, hr7, h⟩ := bnd h
  refine ca hG [] rfl rfl rfl rfl callable60 (.cons (.same _) (.cons (.same _) .nil)) (ih _ _ _ hr7) ?_
  obtain ⟨hc8, h⟩ := grd h
  refine pd hG 2 [0, 3, 5, 7, 25] [3, 25] [(25, .own 25)] [(25, .arr 3 1 (v1.length + 1) (appF (v1.length) (eF cInt v1) (arrOf [.int .i64 (r6)] 1)))] (Cs := [appC (v1.length) (1) 8 1 (arrOf [.int .i64 (r6)] 1)]) ⟨hc8, ok_one rfl⟩ (os ⟨[(0, .t (eL cInt (a0))), (3, .ptr 3 0), (5, iV 1), (7, iV v2), (25, .own 25)], [(3, .box ((exprCells (a1)).map .t)), (25, .arr 3 1 (v1.length + 1) (appF (v1.length) (eF cInt v1) (arrOf [.int .i64 (r6)] 1)))]⟩ (pops_weak (Le.obj (o := 25) (.arr 3 1 ((v1 ++ ([r6])).length) (eF cInt (v1 ++ ([r6])))) rfl (fun _ _ _ => ObjR.row (by simp) (row_snoc cInt v1 r6 _ rfl))) (pn hG 1 [0, 3, 5, 6, 7] [3, 25] [(6, .own 25)] [(25, .arr 3 1 ((v1 ++ ([r6])).length) (eF cInt (v1 ++ ([r6]))))] (pe (blk_n (then_n (rn hG [0, 3, 5, 6, 7] [3, 25] [(7, iV (IntKind.i64.wrap (v2 + 1)))] [] ?_)))))))
  cases h
  exact round_in (Le.trans (ls ⟨[(0, .t (eL cInt (a0))), (3, .ptr 3 0), (5, iV 1), (6, .own 25), (7, iV (IntKind.i64.wrap (v2 + 1)))], [(3, .box ((exprCells (a1)).map .t)), (25, .arr 3 1 ((v1 ++ ([r6])).length) (eF cInt (v1 ++ ([r6]))))]⟩) (Le.trans (Le.rename (o := 25) (o' := 6) hG (by decide) rfl) lk))
  cases h
  exact pwp_exit (then_exit (round_out (by simp) (And.intro rfl lk)))
  intro e s hq
  try dsimp only at h
  obtain ⟨rfl, hle⟩ := hq
  refine ⟨_, hle, blk_hit ?_⟩
  refine then_n (pwp_seq (pwp_seq ?_))
  obtain ⟨J13, hj14, h⟩ := bnd h
  obtain ⟨j11, j12⟩ := J13
  try dsimp only at h
  refine jn [0, 3, 5, 6, 33] [3, 6] [(33, bV j12)] [(6, .arr 3 1 (j11.length) (eF cInt j11))] ?_ ?_
  replace h := hj14; clear hj14
  refine pwp_region (pn hG 4 [0, 3, 5, 6, 29] [3, 6] [(29, bV (a1.Op == 21))] [] (io 29 h (fun h => ?_) (fun h => ?_)))
  refine pn hG 4 [0, 3, 5, 6, 33] [3, 6] [(33, bV (((b3.length : Int)) == 3))] [] ?_
  injection h with q0
  injection q0 with p1 q1
  subst p1
  subst q1
  exact pe fl
  refine pn hG 4 [0, 3, 5, 6, 33] [3, 6] [(33, bV false)] [] ?_
  injection h with q0
  injection q0 with p1 q1
  subst p1
  subst q1
  exact pe fl
  refine then_n (iw h (fun h => ?_) (fun h => ?_))
  refine pwp_seq ?_
  obtain ⟨hc17, h⟩ := grd h
  obtain ⟨hc18, h⟩ := grd h
  obtain ⟨hc19, h⟩ := grd h
  obtain ⟨hc20, h⟩ := grd h
  obtain ⟨hc21, h⟩ := grd h
  obtain ⟨hc22, h⟩ := grd h
  refine ln hG [] [] [(1, [0 ≤ ((0 : Int)) ∧ ((0 : Int)) < (j11.length : Int)]), (2, [((0 : Int)).toNat < j11.length]), (5, [0 ≤ ((1 : Int)) ∧ ((1 : Int)) < (j11.length : Int)]), (6, [((1 : Int)).toNat < j11.length]), (8, [0 ≤ ((2 : Int)) ∧ ((2 : Int)) < (j11.length : Int)]), (9, [((2 : Int)).toNat < j11.length])] [(3, false, []), (6, false, [])] [0, 3, 5, 6, 33] .nil .nil (.cons hc17 (.cons hc18 (.cons hc19 (.cons hc20 (.cons hc21 (.cons hc22 .nil)))))) [4] [] [(4, iV (if (1099511627776 : Int) < (IntKind.i64.wrap ((IntKind.i64.wrap (1 + (j11.getD ((0 : Int)).toNat default))) + (if (j11.getD ((2 : Int)).toNat default) > (j11.getD ((1 : Int)).toNat default) then (j11.getD ((2 : Int)).toNat default) else (j11.getD ((1 : Int)).toNat default)))) then (1099511627776 : Int) else (IntKind.i64.wrap ((IntKind.i64.wrap (1 + (j11.getD ((0 : Int)).toNat default))) + (if (j11.getD ((2 : Int)).toNat default) > (j11.getD ((1 : Int)).toNat default) then (j11.getD ((2 : Int)).toNat default) else (j11.getD ((1 : Int)).toNat default))))))] [] (then_n ?_)
  cases h
  exact pwp_ret (then_ret rt)
  refine pwp_skip (then_n (pwp_seq (sn hG [0, 3, 5, 6, 8] [3, 6] [(8, iV 0)] [] ?_)))
  obtain ⟨b26, hR31, h⟩ := bnd h
  refine lp (F60_L1 n) (fun (s : Int × (List Int) × Int) => match s with | (v23, v24, v25) => (⟨[(0, .t (eL cInt (a0))), (3, .ptr 3 0), (5, iV v23), (6, .own 6), (8, iV v25)], [(3, .box ((exprCells (a1)).map .t)), (6, .arr 3 1 (v24.length) (eF cInt v24))]⟩ : St)) (fun (x0 : Int) (e : Exit) (s : St) => e = .exit 2 ∧ Le E s ((fun (b26 : Int) => (⟨[(0, .t (eL cInt (a0))), (3, .ptr 3 0), (5, iV b26)], [(3, .box ((exprCells (a1)).map .t))]⟩ : St)) x0)) ?_ n ((1, j11, 0)) b26 hR31 ?_
  rintro ⟨v23, v24, v25⟩ x h
  rw [F60_L1] at h
  refine pwp_seq (sn hG [0, 3, 5, 6, 8, 50] [3, 6] [(50, bV (decide (v25 < ((v24.length : Int)))))] [] (iw h (fun h => ?_) (fun h => ?_)))
  refine pwp_skip (then_n (pwp_seq (pwp_block ?_)))
  obtain ⟨hc28, h⟩ := grd h
  obtain ⟨hc29, h⟩ := grd h
  refine rd hG [0, 3, 5, 6, 8] [3, 6] [(5, iV (if (1099511627776 : Int) < (IntKind.i64.wrap (v23 + (v24.getD (v25).toNat default))) then (1099511627776 : Int) else (IntKind.i64.wrap (v23 + (v24.getD (v25).toNat default)))))] [] (Cs := [0 ≤ v25 ∧ v25 < (v24.length : Int), (v25).toNat < v24.length]) ⟨hc28, hc29⟩ (blk_n (then_n (rn hG [0, 3, 5, 6, 8] [3, 6] [(8, iV (IntKind.i64.wrap (v25 + 1)))] [] ?_)))
  cases h
  exact round_in lk
  cases h
  exact pwp_exit (then_exit (round_out (by simp) (And.intro rfl lk)))
  intro e s hq
  try dsimp only at h
  obtain ⟨rfl, hle⟩ := hq
  refine ⟨_, hle, blk_hit ?_⟩
  refine then_n (pwp_seq (pwp_seq ?_))
  obtain ⟨j32, hj34, h⟩ := bnd h
  refine jn [0, 3, 5, 74] [3] [(74, bV j32)] [] ?_ ?_
  replace h := hj34; clear hj34
  refine pwp_region (pn hG 4 [0, 3, 5, 63] [3] [(63, bV (a1.Op == 22))] [] (io 63 h (fun h => ?_) (fun h => ?_)))
  refine pn hG 5 [0, 3, 5, 68] [3] [(68, bV (decide (a1.N ≥ 0)))] [] (io 68 h (fun h => ?_) (fun h => ?_))
  refine pn hG 6 [0, 3, 5, 74] [3] [(74, bV (decide (a1.N < ((a0.length : Int)))))] [] ?_
  cases h
  exact pe fl
  refine pn hG 6 [0, 3, 5, 74] [3] [(74, bV false)] [] ?_
  cases h
  exact pe fl
  refine pn hG 11 [0, 3, 5, 74] [3] [(74, bV false)] [] ?_
  cases h
  exact pe fl
  refine then_n ?_
  obtain ⟨j38, hj40, h⟩ := bnd h
  refine jn [5] [] [(5, iV j38)] [] ?_ ?_
  replace h := hj40; clear hj40
  refine iw h (fun h => ?_) (fun h => ?_)
  obtain ⟨hc41, h⟩ := grd h
  refine rc hG [5] [] [(5, iV (if (1099511627776 : Int) < (IntKind.i64.wrap (b26 + (a0.getD (a1.N).toNat default))) then (1099511627776 : Int) else (IntKind.i64.wrap (b26 + (a0.getD (a1.N).toNat default)))))] [] hc41 ?_
  cases h
  exact fl
  refine pwp_skip ?_
  cases h
  exact fl
  refine then_n (sn hG [4] [] [(4, iV j38)] [] ?_)
  cases h
  exact pwp_ret rt

def F41_L0 (n : Nat) (a0 : List GFunc) : ((List Int) × Int) → Option (((List Int) × Int) ⊕ ((List Int)))
  | (v1, v2) => if (decide (v2 < ((a0.length : Int)))) = true then (if 0 ≤ v2 ∧ v2 < (a0.length : Int) then ((F60 n v1 ((a0.getD (v2).toNat default).Body)).bind fun r6 => if (v1.length + 1) * 8 ≤ 140737488355328 then (some (.inl ((v1 ++ ([r6]), IntKind.i64.wrap (v2 + 1))))) else none) else none) else (some (.inr (v1)))
def F41 (n : Nat) (a0 : List GFunc) (a1 : Expr) : Option (Int) := Option.bind (iterM (F41_L0 n a0) n ((([] : List Int), 0))) fun b3 => (F60 n b3 a1).bind fun r11 => some (r11)
abbrev I41 : Inf := ⟨look tiL, [], 26⟩
set_option maxRecDepth 20000 in
theorem F41_ok (n : Nat) (a0 : List GFunc) (a1 : Expr) (y : Int) (h : F41 n a0 a1 = some y) : PCall Proofs.Try.prog 41 [.t (eL cGFunc (a0)), .t (eExpr a1)] [] [] (Ret (.t (.int .i64 (y)))) := by
  refine pcall_of (I := I41) Proofs.Try.func41 rfl ti_ok Proofs.Try.ntmps41 (le_n (by kernel_rfl)) (fun E hG => ?_)
  unfold F41 at h
  refine sn hG [0, 3] [3] [(3, .ptr 3 0)] [(3, .box ((exprCells (a1)).map .t))] (sn hG [0, 3, 5] [3] [(5, .nil)] [] (pwp_seq (sn hG [0, 3, 5, 6] [3] [(6, iV 0)] [] (ws ⟨[(0, .t (eL cGFunc (a0))), (3, .ptr 3 0), (5, .nil), (6, iV 0)], [(3, .box ((exprCells (a1)).map .t))]⟩ (pwp_weak (Le.thaw (t := 5) (o := 5) (e := 3) (s := 1) (f := eF cInt ([] : List Int)) hG rfl) ?_)))))
  obtain ⟨b3, hR10, h⟩ := bnd h
  refine lp (F41_L0 n a0) (fun (s : (List Int) × Int) => match s with | (v1, v2) => (⟨[(0, .t (eL cGFunc (a0))), (3, .ptr 3 0), (5, .own 5), (6, iV v2)], [(3, .box ((exprCells (a1)).map .t)), (5, .arr 3 1 (v1.length) (eF cInt v1))]⟩ : St)) (fun (x0 : (List Int)) (e : Exit) (s : St) => e = .exit 0 ∧ Le E s ((fun (b3 : (List Int)) => (⟨[(3, .ptr 3 0), (5, .own 5)], [(3, .box ((exprCells (a1)).map .t)), (5, .arr 3 1 (b3.length) (eF cInt b3))]⟩ : St)) x0)) ?_ n ((([] : List Int), 0)) b3 hR10 ?_
  rintro ⟨v1, v2⟩ x h
  rw [F41_L0] at h
  refine pwp_seq (sn hG [0, 3, 5, 6, 10] [3, 5] [(10, bV (decide (v2 < ((a0.length : Int)))))] [] (iw h (fun h => ?_) (fun h => ?_)))
  refine pwp_skip (then_n (pwp_seq (pwp_block (pwp_region ?_))))
  obtain ⟨hc5, h⟩ := grd h
  refine pc hG 7 [0, 3, 6, 13, 14, 19] [3, 5] [(13, .own 5), (14, .own 5), (19, .t (eExpr ((a0.getD (v2).toNat default).Body)))] [] hc5 ?_
  obtain ⟨r6, hr7, h⟩ := bnd h
  refine ca hG [5] (aps := [.own 5, .t (eExpr ((a0.getD (v2).toNat default).Body))]) rfl rfl rfl rfl callable60 (.cons (.lend (by simp) rfl rfl) (.cons (.same _) .nil)) (F60_ok n _ _ _ hr7) ?_
  obtain ⟨hc8, h⟩ := grd h
  refine pd hG 2 [0, 3, 6, 22] [3, 22] [(22, .own 22)] [(22, .arr 3 1 (v1.length + 1) (appF (v1.length) (eF cInt v1) (arrOf [.int .i64 (r6)] 1)))] (Cs := [appC (v1.length) (1) 8 1 (arrOf [.int .i64 (r6)] 1)]) ⟨hc8, ok_one rfl⟩ (os ⟨[(0, .t (eL cGFunc (a0))), (3, .ptr 3 0), (6, iV v2), (22, .own 22)], [(3, .box ((exprCells (a1)).map .t)), (22, .arr 3 1 (v1.length + 1) (appF (v1.length) (eF cInt v1) (arrOf [.int .i64 (r6)] 1)))]⟩ (pops_weak (Le.obj (o := 22) (.arr 3 1 ((v1 ++ ([r6])).length) (eF cInt (v1 ++ ([r6])))) rfl (fun _ _ _ => ObjR.row (by simp) (row_snoc cInt v1 r6 _ rfl))) (pn hG 1 [0, 3, 5, 6] [3, 22] [(5, .own 22)] [(22, .arr 3 1 ((v1 ++ ([r6])).length) (eF cInt (v1 ++ ([r6]))))] (pe (blk_n (then_n (rn hG [0, 3, 5, 6] [3, 22] [(6, iV (IntKind.i64.wrap (v2 + 1)))] [] ?_)))))))
  cases h
  exact round_in (Le.trans (ls ⟨[(0, .t (eL cGFunc (a0))), (3, .ptr 3 0), (5, .own 22), (6, iV (IntKind.i64.wrap (v2 + 1)))], [(3, .box ((exprCells (a1)).map .t)), (22, .arr 3 1 ((v1 ++ ([r6])).length) (eF cInt (v1 ++ ([r6]))))]⟩) (Le.trans (Le.rename (o := 22) (o' := 5) hG (by decide) rfl) lk))
  cases h
  exact pwp_exit (then_exit (round_out (by simp) (And.intro rfl lk)))
  intro e s hq
  try dsimp only at h
  obtain ⟨rfl, hle⟩ := hq
  refine ⟨_, hle, blk_hit ?_⟩
  refine then_n (pwp_seq (pwp_region (pn hG 2 [23, 24] [5] [(23, .own 5), (24, .t (eExpr a1))] [] ?_)))
  obtain ⟨r11, hr12, h⟩ := bnd h
  refine ca hG [5] (aps := [.own 5, .t (eExpr a1)]) rfl rfl rfl rfl callable60 (.cons (.lend (by simp) rfl rfl) (.cons (.same _) .nil)) (F60_ok n _ _ _ hr12) (pn hG 1 [4] [] [(4, iV r11)] [] (pe (then_n ?_)))
  cases h
  exact pwp_ret rt

def F27_L0 (n : Nat) (a0 : List GFunc) : Int → Option ((Int) ⊕ ((Unit) ⊕ (Bool)))
  | v1 => Option.bind (if (decide (v1 < ((a0.length : Int)))) = true then (some (decide (v1 < 6))) else (some (false)) : Option (Bool)) fun j2 => if (j2) = true then (Option.bind (if 0 ≤ v1 ∧ v1 < (a0.length : Int) then ((F40 n ((a0.getD (v1).toNat default).Body)).bind fun r11 => if (decide (r11 > 100)) = true then (some (true)) else (if 0 ≤ v1 ∧ v1 < (a0.length : Int) then (some (decide (((((a0.getD (v1).toNat default).Params).length : Int)) > 10))) else none)) else none : Option (Bool)) fun j7 => if (j7) = true then (some (.inr (.inr (false)))) else (some (.inl (IntKind.i64.wrap (v1 + 1))))) else (some (.inr (.inl (()))))
def F27_L1 (n : Nat) (a0 : List GFunc) (a1 : GNode) : Int → Option ((Int) ⊕ ((Unit) ⊕ (Bool)))
  | v18 => Option.bind (if (decide (v18 < ((a1.Exprs.length : Int)))) = true then (some (decide (v18 < 13))) else (some (false)) : Option (Bool)) fun j19 => if (j19) = true then (Option.bind (if 0 ≤ v18 ∧ v18 < (a1.Exprs.length : Int) then ((F40 n (a1.Exprs.getD (v18).toNat default)).bind fun r28 => if (decide (r28 > 200)) = true then (some (true)) else (if 0 ≤ v18 ∧ v18 < (a1.Exprs.length : Int) then ((F29 n (a1.Exprs.getD (v18).toNat default)).bind fun r32 => if (decide (r32 > 12)) = true then (some (true)) else (if 0 ≤ v18 ∧ v18 < (a1.Exprs.length : Int) then ((F41 n a0 (a1.Exprs.getD (v18).toNat default)).bind fun r36 => some (decide (r36 > 1000))) else none)) else none)) else none : Option (Bool)) fun j24 => if (j24) = true then (some (.inr (.inr (false)))) else (some (.inl (IntKind.i64.wrap (v18 + 1))))) else (some (.inr (.inl (()))))
def F27_L2 (n : Nat) (a0 : List GFunc) (a1 : GNode) : Int → Option ((Int) ⊕ ((Unit) ⊕ (Bool)))
  | v41 => Option.bind (if (decide (v41 < ((a1.Seq.length : Int)))) = true then (some (decide (v41 < 9))) else (some (false)) : Option (Bool)) fun j42 => if (j42) = true then (Option.bind (if 0 ≤ v41 ∧ v41 < (a1.Seq.length : Int) then ((F40 n ((a1.Seq.getD (v41).toNat default).Pred)).bind fun r51 => if (decide (r51 > 200)) = true then (some (true)) else (if 0 ≤ v41 ∧ v41 < (a1.Seq.length : Int) then ((F29 n ((a1.Seq.getD (v41).toNat default).Pred)).bind fun r55 => if (decide (r55 > 12)) = true then (some (true)) else (if 0 ≤ v41 ∧ v41 < (a1.Seq.length : Int) then ((F41 n a0 ((a1.Seq.getD (v41).toNat default).Pred)).bind fun r59 => some (decide (r59 > 1000))) else none)) else none)) else none : Option (Bool)) fun j47 => if (j47) = true then (some (.inr (.inr (false)))) else (some (.inl (IntKind.i64.wrap (v41 + 1))))) else (some (.inr (.inl (()))))
def F27 (n : Nat) (a0 : List GFunc) (a1 : GNode) : Option (Bool) := Option.bind (iterM (F27_L0 n a0) n (0)) fun R16 => match R16 with | .inl (_) => (Option.bind (iterM (F27_L1 n a0 a1) n (0)) fun R39 => match R39 with | .inl (_) => (Option.bind (iterM (F27_L2 n a0 a1) n (0)) fun R62 => match R62 with | .inl (_) => (Option.bind (if (decide (((a0.length : Int)) ≤ 5)) = true then (if (decide (((a1.Exprs.length : Int)) ≤ 12)) = true then (if (decide (((a1.Seq.length : Int)) ≤ 8)) = true then (if (decide (((a1.Key.length : Int)) ≤ 20)) = true then (if (decide (((a1.Key2.length : Int)) ≤ 20)) = true then (some (decide (((a1.Aggs.length : Int)) ≤ 20))) else (some (false))) else (some (false))) else (some (false))) else (some (false))) else (some (false)) : Option (Bool)) fun j64 => some (j64)) | .inr (y72) => (some (y72))) | .inr (y73) => (some (y73))) | .inr (y74) => (some (y74))
abbrev I27 : Inf := ⟨look tiL, [], 144⟩
set_option maxRecDepth 20000 in
theorem F27_ok (n : Nat) (a0 : List GFunc) (a1 : GNode) (y : Bool) (h : F27 n a0 a1 = some y) : PCall Proofs.Try.prog 27 [.t (eL cGFunc (a0)), .t (eGNode a1)] [] [] (Ret (.t (.bool (y)))) := by
  refine pcall_of (I := I27) Proofs.Try.func27 rfl ti_ok Proofs.Try.ntmps27 (le_n (by kernel_rfl)) (fun E hG => ?_)
  unfold F27 at h
  refine sn hG [0, 3] [3] [(3, .ptr 3 0)] [(3, .box ((cGNode (a1)).map .t))] (pwp_seq (sn hG [0, 3, 5] [3] [(5, iV 0)] [] ?_))
  obtain ⟨R16, hR17, h⟩ := bnd h
  refine lp (F27_L0 n a0) (fun (v1 : Int) => (⟨[(0, .t (eL cGFunc (a0))), (3, .ptr 3 0), (5, iV v1)], [(3, .box ((cGNode (a1)).map .t))]⟩ : St)) (fun (r : (Unit) ⊕ (Bool)) (e : Exit) (s : St) => match r with | .inl (x0) => e = .exit 0 ∧ Le E s ((fun (_ : Unit) => (⟨[(0, .t (eL cGFunc (a0))), (3, .ptr 3 0)], [(3, .box ((cGNode (a1)).map .t))]⟩ : St)) x0) | .inr (y0) => e = .ret ∧ finQ I27 Proofs.Try.f27.results.toList (Ret (bV y0)) .ret s) ?_ n (0) R16 hR17 ?_
  intro v1 x h
  rw [F27_L0] at h
  refine pwp_seq (pwp_seq ?_)
  obtain ⟨j2, hj4, h⟩ := bnd h
  refine jn [0, 3, 5, 15] [3] [(15, bV j2)] [] ?_ ?_
  replace h := hj4; clear hj4
  refine pwp_region (pn hG 5 [0, 3, 5, 12] [3] [(12, bV (decide (v1 < ((a0.length : Int)))))] [] (io 12 h (fun h => ?_) (fun h => ?_)))
  refine pn hG 3 [0, 3, 5, 15] [3] [(15, bV (decide (v1 < 6)))] [] ?_
  cases h
  exact pe fl
  refine pn hG 3 [0, 3, 5, 15] [3] [(15, bV false)] [] ?_
  cases h
  exact pe fl
  refine then_n (iw h (fun h => ?_) (fun h => ?_))
  refine pwp_skip (then_n (pwp_seq (pwp_block (pwp_seq ?_))))
  obtain ⟨j7, hj9, h⟩ := bnd h
  refine jn [0, 3, 5, 33] [3] [(33, bV j7)] [] ?_ ?_
  replace h := hj9; clear hj9
  refine pwp_region ?_
  obtain ⟨hc10, h⟩ := grd h
  refine pc hG 5 [0, 3, 5, 22] [3] [(22, .t (eExpr ((a0.getD (v1).toNat default).Body)))] [] hc10 ?_
  obtain ⟨r11, hr12, h⟩ := bnd h
  refine ca hG [] rfl rfl rfl rfl callable40 (.cons (.same _) .nil) (F40_ok n _ _ hr12) (pn hG 2 [0, 3, 5, 25] [3] [(25, bV (decide (r11 > 100)))] [] (io 25 h (fun h => ?_) (fun h => ?_)))
  refine pn hG 8 [0, 3, 5, 33] [3] [(33, bV true)] [] ?_
  cases h
  exact pe fl
  obtain ⟨hc14, h⟩ := grd h
  refine pc hG 8 [0, 3, 5, 33] [3] [(33, bV (decide (((((a0.getD (v1).toNat default).Params).length : Int)) > 10)))] [] hc14 ?_
  cases h
  exact pe fl
  refine then_n (iw h (fun h => ?_) (fun h => ?_))
  refine sn hG [4] [] [(4, bV false)] [] ?_
  cases h
  exact pwp_ret (blk_ret (then_ret (round_out (by simp) (And.intro rfl rt))))
  refine pwp_skip (blk_n (then_n (rn hG [0, 3, 5] [3] [(5, iV (IntKind.i64.wrap (v1 + 1)))] [] ?_)))
  cases h
  exact round_in lk
  cases h
  exact pwp_exit (then_exit (round_out (by simp) (And.intro rfl lk)))
  intro e s hq
  rcases R16 with _ | y74
  try dsimp only at h
  obtain ⟨rfl, hle⟩ := hq
  refine ⟨_, hle, blk_hit ?_⟩
  refine then_n (pwp_seq (sn hG [0, 3, 6] [3] [(6, iV 0)] [] ?_))
  obtain ⟨R39, hR40, h⟩ := bnd h
  refine lp (F27_L1 n a0 a1) (fun (v18 : Int) => (⟨[(0, .t (eL cGFunc (a0))), (3, .ptr 3 0), (6, iV v18)], [(3, .box ((cGNode (a1)).map .t))]⟩ : St)) (fun (r : (Unit) ⊕ (Bool)) (e : Exit) (s : St) => match r with | .inl (x0) => e = .exit 2 ∧ Le E s ((fun (_ : Unit) => (⟨[(0, .t (eL cGFunc (a0))), (3, .ptr 3 0)], [(3, .box ((cGNode (a1)).map .t))]⟩ : St)) x0) | .inr (y0) => e = .ret ∧ finQ I27 Proofs.Try.f27.results.toList (Ret (bV y0)) .ret s) ?_ n (0) R39 hR40 ?_
  intro v18 x h
  rw [F27_L1] at h
  refine pwp_seq (pwp_seq ?_)
  obtain ⟨j19, hj21, h⟩ := bnd h
  refine jn [0, 3, 6, 42] [3] [(42, bV j19)] [] ?_ ?_
  replace h := hj21; clear hj21
  refine pwp_region (pn hG 6 [0, 3, 6, 39] [3] [(39, bV (decide (v18 < ((a1.Exprs.length : Int)))))] [] (io 39 h (fun h => ?_) (fun h => ?_)))
  refine pn hG 3 [0, 3, 6, 42] [3] [(42, bV (decide (v18 < 13)))] [] ?_
  cases h
  exact pe fl
  refine pn hG 3 [0, 3, 6, 42] [3] [(42, bV false)] [] ?_
  cases h
  exact pe fl
  refine then_n (iw h (fun h => ?_) (fun h => ?_))
  refine pwp_skip (then_n (pwp_seq (pwp_block (pwp_seq ?_))))
  obtain ⟨j24, hj26, h⟩ := bnd h
  refine jn [0, 3, 6, 70] [3] [(70, bV j24)] [] ?_ ?_
  replace h := hj26; clear hj26
  refine pwp_region ?_
  obtain ⟨hc27, h⟩ := grd h
  refine pc hG 5 [0, 3, 6, 49] [3] [(49, .t (eExpr (a1.Exprs.getD (v18).toNat default)))] [] hc27 ?_
  obtain ⟨r28, hr29, h⟩ := bnd h
  refine ca hG [] rfl rfl rfl rfl callable40 (.cons (.same _) .nil) (F40_ok n _ _ hr29) (pn hG 2 [0, 3, 6, 52] [3] [(52, bV (decide (r28 > 200)))] [] (io 52 h (fun h => ?_) (fun h => ?_)))
  refine pn hG 18 [0, 3, 6, 70] [3] [(70, bV true)] [] ?_
  cases h
  exact pe fl
  obtain ⟨hc31, h⟩ := grd h
  refine pc hG 5 [0, 3, 6, 52, 57] [3] [(57, .t (eExpr (a1.Exprs.getD (v18).toNat default)))] [] hc31 ?_
  obtain ⟨r32, hr33, h⟩ := bnd h
  refine ca hG [] rfl rfl rfl rfl callable29 (.cons (.same _) .nil) (F29_ok n _ _ hr33) (pn hG 3 [0, 3, 6, 61] [3] [(61, bV (decide (r32 > 12)))] [] (io 61 h (fun h => ?_) (fun h => ?_)))
  refine pn hG 9 [0, 3, 6, 70] [3] [(70, bV true)] [] ?_
  cases h
  exact pe fl
  obtain ⟨hc35, h⟩ := grd h
  refine pc hG 6 [0, 3, 6, 61, 62, 67] [3] [(62, .t (eL cGFunc (a0))), (67, .t (eExpr (a1.Exprs.getD (v18).toNat default)))] [] hc35 ?_
  obtain ⟨r36, hr37, h⟩ := bnd h
  refine ca hG [] rfl rfl rfl rfl callable41 (.cons (.same _) (.cons (.same _) .nil)) (F41_ok n _ _ _ hr37) (pn hG 2 [0, 3, 6, 70] [3] [(70, bV (decide (r36 > 1000)))] [] ?_)
  cases h
  exact pe fl
  refine then_n (iw h (fun h => ?_) (fun h => ?_))
  refine sn hG [4] [] [(4, bV false)] [] ?_
  cases h
  exact pwp_ret (blk_ret (then_ret (round_out (by simp) (And.intro rfl rt))))
  refine pwp_skip (blk_n (then_n (rn hG [0, 3, 6] [3] [(6, iV (IntKind.i64.wrap (v18 + 1)))] [] ?_)))
  cases h
  exact round_in lk
  cases h
  exact pwp_exit (then_exit (round_out (by simp) (And.intro rfl lk)))
  intro e s hq
  rcases R39 with _ | y73
  try dsimp only at h
  obtain ⟨rfl, hle⟩ := hq
  refine ⟨_, hle, blk_hit ?_⟩
  refine then_n (pwp_seq (sn hG [0, 3, 7] [3] [(7, iV 0)] [] ?_))
  obtain ⟨R62, hR63, h⟩ := bnd h
  refine lp (F27_L2 n a0 a1) (fun (v41 : Int) => (⟨[(0, .t (eL cGFunc (a0))), (3, .ptr 3 0), (7, iV v41)], [(3, .box ((cGNode (a1)).map .t))]⟩ : St)) (fun (r : (Unit) ⊕ (Bool)) (e : Exit) (s : St) => match r with | .inl (x0) => e = .exit 4 ∧ Le E s ((fun (_ : Unit) => (⟨[(0, .t (eL cGFunc (a0))), (3, .ptr 3 0)], [(3, .box ((cGNode (a1)).map .t))]⟩ : St)) x0) | .inr (y0) => e = .ret ∧ finQ I27 Proofs.Try.f27.results.toList (Ret (bV y0)) .ret s) ?_ n (0) R62 hR63 ?_
  intro v41 x h
  rw [F27_L2] at h
  refine pwp_seq (pwp_seq ?_)
  obtain ⟨j42, hj44, h⟩ := bnd h
  refine jn [0, 3, 7, 79] [3] [(79, bV j42)] [] ?_ ?_
  replace h := hj44; clear hj44
  refine pwp_region (pn hG 6 [0, 3, 7, 76] [3] [(76, bV (decide (v41 < ((a1.Seq.length : Int)))))] [] (io 76 h (fun h => ?_) (fun h => ?_)))
  refine pn hG 3 [0, 3, 7, 79] [3] [(79, bV (decide (v41 < 9)))] [] ?_
  cases h
  exact pe fl
  refine pn hG 3 [0, 3, 7, 79] [3] [(79, bV false)] [] ?_
  cases h
  exact pe fl
  refine then_n (iw h (fun h => ?_) (fun h => ?_))
  refine pwp_skip (then_n (pwp_seq (pwp_block (pwp_seq ?_))))
  obtain ⟨j47, hj49, h⟩ := bnd h
  refine jn [0, 3, 7, 110] [3] [(110, bV j47)] [] ?_ ?_
  replace h := hj49; clear hj49
  refine pwp_region ?_
  obtain ⟨hc50, h⟩ := grd h
  refine pc hG 6 [0, 3, 7, 87] [3] [(87, .t (eExpr ((a1.Seq.getD (v41).toNat default).Pred)))] [] hc50 ?_
  obtain ⟨r51, hr52, h⟩ := bnd h
  refine ca hG [] rfl rfl rfl rfl callable40 (.cons (.same _) .nil) (F40_ok n _ _ hr52) (pn hG 2 [0, 3, 7, 90] [3] [(90, bV (decide (r51 > 200)))] [] (io 90 h (fun h => ?_) (fun h => ?_)))
  refine pn hG 20 [0, 3, 7, 110] [3] [(110, bV true)] [] ?_
  cases h
  exact pe fl
  obtain ⟨hc54, h⟩ := grd h
  refine pc hG 6 [0, 3, 7, 90, 96] [3] [(96, .t (eExpr ((a1.Seq.getD (v41).toNat default).Pred)))] [] hc54 ?_
  obtain ⟨r55, hr56, h⟩ := bnd h
  refine ca hG [] rfl rfl rfl rfl callable29 (.cons (.same _) .nil) (F29_ok n _ _ hr56) (pn hG 3 [0, 3, 7, 100] [3] [(100, bV (decide (r55 > 12)))] [] (io 100 h (fun h => ?_) (fun h => ?_)))
  refine pn hG 10 [0, 3, 7, 110] [3] [(110, bV true)] [] ?_
  cases h
  exact pe fl
  obtain ⟨hc58, h⟩ := grd h
  refine pc hG 7 [0, 3, 7, 100, 101, 107] [3] [(101, .t (eL cGFunc (a0))), (107, .t (eExpr ((a1.Seq.getD (v41).toNat default).Pred)))] [] hc58 ?_
  obtain ⟨r59, hr60, h⟩ := bnd h
  refine ca hG [] rfl rfl rfl rfl callable41 (.cons (.same _) (.cons (.same _) .nil)) (F41_ok n _ _ _ hr60) (pn hG 2 [0, 3, 7, 110] [3] [(110, bV (decide (r59 > 1000)))] [] ?_)
  cases h
  exact pe fl
  refine then_n (iw h (fun h => ?_) (fun h => ?_))
  refine sn hG [4] [] [(4, bV false)] [] ?_
  cases h
  exact pwp_ret (blk_ret (then_ret (round_out (by simp) (And.intro rfl rt))))
  refine pwp_skip (blk_n (then_n (rn hG [0, 3, 7] [3] [(7, iV (IntKind.i64.wrap (v41 + 1)))] [] ?_)))
  cases h
  exact round_in lk
  cases h
  exact pwp_exit (then_exit (round_out (by simp) (And.intro rfl lk)))
  intro e s hq
  rcases R62 with _ | y72
  try dsimp only at h
  obtain ⟨rfl, hle⟩ := hq
  refine ⟨_, hle, blk_hit ?_⟩
  refine then_n (pwp_seq ?_)
  obtain ⟨j64, hj66, h⟩ := bnd h
  refine jn [4] [] [(4, bV j64)] [] ?_ ?_
  replace h := hj66; clear hj66
  refine pwp_region (pn hG 4 [3, 114] [3] [(114, bV (decide (((a0.length : Int)) ≤ 5)))] [] (io 114 h (fun h => ?_) (fun h => ?_)))
  refine pn hG 6 [3, 120] [3] [(120, bV (decide (((a1.Exprs.length : Int)) ≤ 12)))] [] (io 120 h (fun h => ?_) (fun h => ?_))
  refine pn hG 6 [3, 126] [3] [(126, bV (decide (((a1.Seq.length : Int)) ≤ 8)))] [] (io 126 h (fun h => ?_) (fun h => ?_))
  refine pn hG 6 [3, 132] [3] [(132, bV (decide (((a1.Key.length : Int)) ≤ 20)))] [] (io 132 h (fun h => ?_) (fun h => ?_))
  refine pn hG 6 [3, 138] [3] [(138, bV (decide (((a1.Key2.length : Int)) ≤ 20)))] [] (io 138 h (fun h => ?_) (fun h => ?_))
  refine pn hG 6 [4] [] [(4, bV (decide (((a1.Aggs.length : Int)) ≤ 20)))] [] ?_
  cases h
  exact pe fl
  refine pn hG 6 [4] [] [(4, bV false)] [] ?_
  cases h
  exact pe fl
  refine pn hG 12 [4] [] [(4, bV false)] [] ?_
  cases h
  exact pe fl
  refine pn hG 18 [4] [] [(4, bV false)] [] ?_
  cases h
  exact pe fl
  refine pn hG 24 [4] [] [(4, bV false)] [] ?_
  cases h
  exact pe fl
  refine pn hG 30 [4] [] [(4, bV false)] [] ?_
  cases h
  exact pe fl
  refine then_n ?_
  cases h
  exact pwp_ret rt
  try dsimp only at h
  obtain ⟨rfl, hq⟩ := hq
  cases h
  exact ⟨_, Le.refl, blk_ret (then_ret (hq))⟩
  try dsimp only at h
  obtain ⟨rfl, hq⟩ := hq
  cases h
  exact ⟨_, Le.refl, blk_ret (then_ret (hq))⟩
  try dsimp only at h
  obtain ⟨rfl, hq⟩ := hq
  cases h
  exact ⟨_, Le.refl, blk_ret (then_ret (hq))⟩

def F15_L0 (n : Nat) (a0 : GProgram) : Int → Option ((Int) ⊕ ((Unit) ⊕ (Bool)))
  | v1 => if (decide (v1 < ((a0.Nodes.length : Int)))) = true then (if 0 ≤ v1 ∧ v1 < (a0.Nodes.length : Int) then ((F27 n a0.Funcs (a0.Nodes.getD (v1).toNat default)).bind fun r4 => if (!r4) = true then (some (.inr (.inr (false)))) else (some (.inl (IntKind.i64.wrap (v1 + 1))))) else none) else (some (.inr (.inl (()))))
def F15 (n : Nat) (a0 : GProgram) : Option (Bool) := Option.bind (iterM (F15_L0 n a0) n (0)) fun R7 => match R7 with | .inl (_) => (some (true)) | .inr (y9) => (some (y9))
abbrev I15 : Inf := ⟨look tiL, [], 20⟩
set_option maxRecDepth 20000 in
theorem F15_ok (n : Nat) (a0 : GProgram) (y : Bool) (h : F15 n a0 = some y) : PCall Proofs.Try.prog 15 [.t (eGProgram a0)] [] [] (Ret (.t (.bool (y)))) := by
  refine pcall_of (I := I15) Proofs.Try.func15 rfl ti_ok Proofs.Try.ntmps15 (le_n (by kernel_rfl)) (fun E hG => ?_)
  unfold F15 at h
  refine sn hG [1] [1] [(1, .ptr 1 0)] [(1, .box ((cGProgram (a0)).map .t))] (pwp_seq (sn hG [1, 3] [1] [(3, iV 0)] [] ?_))
  obtain ⟨R7, hR8, h⟩ := bnd h
  refine lp (F15_L0 n a0) (fun (v1 : Int) => (⟨[(1, .ptr 1 0), (3, iV v1)], [(1, .box ((cGProgram (a0)).map .t))]⟩ : St)) (fun (r : (Unit) ⊕ (Bool)) (e : Exit) (s : St) => match r with | .inl (x0) => e = .exit 0 ∧ Le E s ((fun (_ : Unit) => (⟨[], []⟩ : St)) x0) | .inr (y0) => e = .ret ∧ finQ I15 Proofs.Try.f15.results.toList (Ret (bV y0)) .ret s) ?_ n (0) R7 hR8 ?_
  intro v1 x h
  rw [F15_L0] at h
  refine pwp_seq (sn hG [1, 3, 8] [1] [(8, bV (decide (v1 < ((a0.Nodes.length : Int)))))] [] (iw h (fun h => ?_) (fun h => ?_)))
  refine pwp_skip (then_n (pwp_seq (pwp_block (pwp_seq ?_))))
  obtain ⟨hc3, h⟩ := grd h
  obtain ⟨r4, hr5, h⟩ := bnd h
  refine ln hG [(7, 27, [.t (eL cGFunc (a0.Funcs)), .t (eGNode (a0.Nodes.getD (v1).toNat default))], bV r4)] [] [(5, [0 ≤ v1 ∧ v1 < (a0.Nodes.length : Int)])] [(1, false, [])] [1, 3, 8] (.cons ⟨callable27, ⟨_, fun _ => (.cons (.same _) (.cons (.same _) .nil)), F27_ok n _ _ _ hr5⟩, rfl⟩ .nil) .nil (.cons hc3 .nil) [1, 3, 19] [1] [(19, bV (!r4))] [] (then_n (iw h (fun h => ?_) (fun h => ?_)))
  refine sn hG [2] [] [(2, bV false)] [] ?_
  cases h
  exact pwp_ret (blk_ret (then_ret (round_out (by simp) (And.intro rfl rt))))
  refine pwp_skip (blk_n (then_n (rn hG [1, 3] [1] [(3, iV (IntKind.i64.wrap (v1 + 1)))] [] ?_)))
  cases h
  exact round_in lk
  cases h
  exact pwp_exit (then_exit (round_out (by simp) (And.intro rfl lk)))
  intro e s hq
  rcases R7 with _ | y9
  try dsimp only at h
  obtain ⟨rfl, hle⟩ := hq
  refine ⟨_, hle, blk_hit ?_⟩
  refine then_n (sn hG [2] [] [(2, bV true)] [] ?_)
  cases h
  exact pwp_ret rt
  try dsimp only at h
  obtain ⟨rfl, hq⟩ := hq
  cases h
  exact ⟨_, Le.refl, blk_ret (then_ret (hq))⟩

def F16_L0 (n : Nat) (a0 : GProgram) (a1 : Int) (a2 : Int) : ((List Int) × Int) → Option (((List Int) × Int) ⊕ ((Unit) ⊕ (Bool)))
  | (v1, v2) => if (decide (v2 < ((a0.Nodes.length : Int)))) = true then (if 0 ≤ v2 ∧ v2 < (a0.Nodes.length : Int) then (Option.bind (if (decide (((((a0.Nodes.getD (v2).toNat default).In).length : Int)) > 0)) = true then (if 0 ≤ ((0 : Int)) ∧ ((0 : Int)) < (((a0.Nodes.getD (v2).toNat default).In).length : Int) then (if 0 ≤ (((a0.Nodes.getD (v2).toNat default).In).getD ((0 : Int)).toNat default) ∧ (((a0.Nodes.getD (v2).toNat default).In).getD ((0 : Int)).toNat default) < (v1.length : Int) then (if (((a0.Nodes.getD (v2).toNat default).In).getD ((0 : Int)).toNat default).toNat < v1.length then (some ((v1, v1.getD (((a0.Nodes.getD (v2).toNat default).In).getD ((0 : Int)).toNat default).toNat default))) else none) else none) else none) else (some ((v1, a1))) : Option ((List Int) × Int)) fun J8 => match J8 with | (j6, j7) => (Option.bind (if (((a0.Nodes.getD (v2).toNat default).Op) == 3) = true then (if 0 ≤ ((1 : Int)) ∧ ((1 : Int)) < (((a0.Nodes.getD (v2).toNat default).In).length : Int) then (if 0 ≤ (((a0.Nodes.getD (v2).toNat default).In).getD ((1 : Int)).toNat default) ∧ (((a0.Nodes.getD (v2).toNat default).In).getD ((1 : Int)).toNat default) < (j6.length : Int) then (if (((a0.Nodes.getD (v2).toNat default).In).getD ((1 : Int)).toNat default).toNat < j6.length then (some ((j6, IntKind.i64.wrap (j7 + (j6.getD (((a0.Nodes.getD (v2).toNat default).In).getD ((1 : Int)).toNat default).toNat default))))) else none) else none) else none) else (Option.bind (if (((a0.Nodes.getD (v2).toNat default).Op) == 6) = true then (if 0 ≤ ((1 : Int)) ∧ ((1 : Int)) < (((a0.Nodes.getD (v2).toNat default).In).length : Int) then (if 0 ≤ (((a0.Nodes.getD (v2).toNat default).In).getD ((1 : Int)).toNat default) ∧ (((a0.Nodes.getD (v2).toNat default).In).getD ((1 : Int)).toNat default) < (j6.length : Int) then (if (((a0.Nodes.getD (v2).toNat default).In).getD ((1 : Int)).toNat default).toNat < j6.length then (some ((j6, IntKind.i64.wrap (j7 * (j6.getD (((a0.Nodes.getD (v2).toNat default).In).getD ((1 : Int)).toNat default).toNat default))))) else none) else none) else none) else (Option.bind (if (((a0.Nodes.getD (v2).toNat default).Op) == 4) = true then (Option.bind (if (((a0.Nodes.getD (v2).toNat default).Kind) == 1) = true then (if ((a0.Nodes.getD (v2).toNat default).Step) ≠ 0 then (some ((j6, IntKind.i64.wrap (j7 * (IntKind.i64.wrap (Int.tdiv ((a0.Nodes.getD (v2).toNat default).Size) ((a0.Nodes.getD (v2).toNat default).Step))))))) else none) else (some ((j6, j7))) : Option ((List Int) × Int)) fun J37 => match J37 with | (j35, j36) => (some ((j35, j36)))) else (some ((j6, j7))) : Option ((List Int) × Int)) fun J32 => match J32 with | (j30, j31) => (some ((j30, j31)))) : Option ((List Int) × Int)) fun J24 => match J24 with | (j22, j23) => (some ((j22, j23)))) : Option ((List Int) × Int)) fun J16 => match J16 with | (j14, j15) => (if (decide (j15 > a2)) = true then (some (.inr (.inr (false)))) else (if (j14.length + 1) * 8 ≤ 140737488355328 then (some (.inl ((j14 ++ ([j15]), IntKind.i64.wrap (v2 + 1))))) else none)))) else none) else (some (.inr (.inl (()))))
def F16 (n : Nat) (a0 : GProgram) (a1 : Int) (a2 : Int) : Option (Bool) := Option.bind (iterM (F16_L0 n a0 a1 a2) n ((([] : List Int), 0))) fun R42 => match R42 with | .inl (_) => (some (true)) | .inr (y44) => (some (y44))
abbrev I16 : Inf := ⟨look tiL, [], 78⟩
set_option maxRecDepth 20000 in
theorem F16_ok (n : Nat) (a0 : GProgram) (a1 : Int) (a2 : Int) (y : Bool) (h : F16 n a0 a1 a2 = some y) : PCall Proofs.Try.prog 16 [.t (eGProgram a0), .t (.int .i64 (a1)), .t (.int .i64 (a2))] [] [] (Ret (.t (.bool (y)))) := by
  refine pcall_of (I := I16) Proofs.Try.func16 rfl ti_ok Proofs.Try.ntmps16 (le_n (by kernel_rfl)) (fun E hG => ?_)
  unfold F16 at h
  refine sn hG [1, 2, 3] [3] [(3, .ptr 3 0)] [(3, .box ((cGProgram (a0)).map .t))] (sn hG [1, 2, 3, 7] [3] [(7, .nil)] [] (pwp_seq (sn hG [1, 2, 3, 7, 8] [3] [(8, iV 0)] [] (ws ⟨[(1, iV a1), (2, iV a2), (3, .ptr 3 0), (7, .nil), (8, iV 0)], [(3, .box ((cGProgram (a0)).map .t))]⟩ (pwp_weak (Le.thaw (t := 7) (o := 7) (e := 3) (s := 1) (f := eF cInt ([] : List Int)) hG rfl) ?_)))))
  obtain ⟨R42, hR43, h⟩ := bnd h
  refine lp (F16_L0 n a0 a1 a2) (fun (s : (List Int) × Int) => match s with | (v1, v2) => (⟨[(1, iV a1), (2, iV a2), (3, .ptr 3 0), (7, .own 7), (8, iV v2)], [(3, .box ((cGProgram (a0)).map .t)), (7, .arr 3 1 (v1.length) (eF cInt v1))]⟩ : St)) (fun (r : (Unit) ⊕ (Bool)) (e : Exit) (s : St) => match r with | .inl (x0) => e = .exit 0 ∧ Le E s ((fun (_ : Unit) => (⟨[], []⟩ : St)) x0) | .inr (y0) => e = .ret ∧ finQ I16 Proofs.Try.f16.results.toList (Ret (bV y0)) .ret s) ?_ n ((([] : List Int), 0)) R42 hR43 ?_
  rintro ⟨v1, v2⟩ x h
  rw [F16_L0] at h
  refine pwp_seq (sn hG [1, 2, 3, 7, 8, 15] [3, 7] [(15, bV (decide (v2 < ((a0.Nodes.length : Int)))))] [] (iw h (fun h => ?_) (fun h => ?_)))
  refine pwp_skip (then_n (pwp_seq (pwp_block (pwp_seq (pwp_region ?_)))))
  obtain ⟨hc4, h⟩ := grd h
  refine pc hG 7 [1, 2, 3, 7, 8, 9] [3, 7, 9] [(9, .ptr 9 0)] [(9, .box ((cGNode (a0.Nodes.getD (v2).toNat default)).map .t))] hc4 (pe (then_n (sn hG [1, 2, 3, 7, 8, 9, 10] [3, 7, 9] [(10, iV a1)] [] (pwp_seq (sn hG [1, 2, 3, 7, 8, 9, 10, 27] [3, 7, 9] [(27, bV (decide (((((a0.Nodes.getD (v2).toNat default).In).length : Int)) > 0)))] [] ?_)))))
  obtain ⟨J8, hj9, h⟩ := bnd h
  obtain ⟨j6, j7⟩ := J8
  try dsimp only at h
  refine jn [1, 2, 3, 7, 8, 9, 10] [3, 7, 9] [(10, iV j7)] [(7, .arr 3 1 (j6.length) (eF cInt j6))] ?_ ?_
  replace h := hj9; clear hj9
  refine iw h (fun h => ?_) (fun h => ?_)
  obtain ⟨hc10, h⟩ := grd h
  obtain ⟨hc11, h⟩ := grd h
  obtain ⟨hc12, h⟩ := grd h
  refine rd hG [1, 2, 3, 7, 8, 9, 10] [3, 7, 9] [(10, iV (v1.getD (((a0.Nodes.getD (v2).toNat default).In).getD ((0 : Int)).toNat default).toNat default))] [] (Cs := [0 ≤ ((0 : Int)) ∧ ((0 : Int)) < (((a0.Nodes.getD (v2).toNat default).In).length : Int), 0 ≤ (((a0.Nodes.getD (v2).toNat default).In).getD ((0 : Int)).toNat default) ∧ (((a0.Nodes.getD (v2).toNat default).In).getD ((0 : Int)).toNat default) < (v1.length : Int), (((a0.Nodes.getD (v2).toNat default).In).getD ((0 : Int)).toNat default).toNat < v1.length]) ⟨hc10, hc11, hc12⟩ ?_
  injection h with q0
  injection q0 with p1 q1
  subst p1
  subst q1
  exact fl
  refine pwp_skip ?_
  injection h with q0
  injection q0 with p1 q1
  subst p1
  subst q1
  exact fl
  refine then_n (pwp_seq (sn hG [1, 2, 3, 7, 8, 9, 10, 36] [3, 7, 9] [(36, iV ((a0.Nodes.getD (v2).toNat default).Op))] [] (pwp_block (sn hG [1, 2, 3, 7, 8, 9, 10, 36, 37] [3, 7, 9] [(37, bV (((a0.Nodes.getD (v2).toNat default).Op) == 3))] [] ?_))))
  obtain ⟨J16, hj17, h⟩ := bnd h
  obtain ⟨j14, j15⟩ := J16
  try dsimp only at h
  refine jn [1, 2, 3, 7, 8, 10] [3, 7] [(10, iV j15)] [(7, .arr 3 1 (j14.length) (eF cInt j14))] ?_ ?_
  replace h := hj17; clear hj17
  refine iw h (fun h => ?_) (fun h => ?_)
  obtain ⟨hc18, h⟩ := grd h
  obtain ⟨hc19, h⟩ := grd h
  obtain ⟨hc20, h⟩ := grd h
  refine rd hG [1, 2, 3, 7, 8, 10] [3, 7] [(10, iV (IntKind.i64.wrap (j7 + (j6.getD (((a0.Nodes.getD (v2).toNat default).In).getD ((1 : Int)).toNat default).toNat default))))] [] (Cs := [0 ≤ ((1 : Int)) ∧ ((1 : Int)) < (((a0.Nodes.getD (v2).toNat default).In).length : Int), 0 ≤ (((a0.Nodes.getD (v2).toNat default).In).getD ((1 : Int)).toNat default) ∧ (((a0.Nodes.getD (v2).toNat default).In).getD ((1 : Int)).toNat default) < (j6.length : Int), (((a0.Nodes.getD (v2).toNat default).In).getD ((1 : Int)).toNat default).toNat < j6.length]) ⟨hc18, hc19, hc20⟩ ?_
  injection h with q0
  injection q0 with p1 q1
  subst p1
  subst q1
  exact fl
  refine sn hG [1, 2, 3, 7, 8, 9, 10, 36, 48] [3, 7, 9] [(48, bV (((a0.Nodes.getD (v2).toNat default).Op) == 6))] [] ?_
  obtain ⟨J24, hj25, h⟩ := bnd h
  obtain ⟨j22, j23⟩ := J24
  try dsimp only at h
  refine jn [1, 2, 3, 7, 8, 10] [3, 7] [(10, iV j23)] [(7, .arr 3 1 (j22.length) (eF cInt j22))] ?_ ?_
  replace h := hj25; clear hj25
  refine iw h (fun h => ?_) (fun h => ?_)
  obtain ⟨hc26, h⟩ := grd h
  obtain ⟨hc27, h⟩ := grd h
  obtain ⟨hc28, h⟩ := grd h
  refine rd hG [1, 2, 3, 7, 8, 10] [3, 7] [(10, iV (IntKind.i64.wrap (j7 * (j6.getD (((a0.Nodes.getD (v2).toNat default).In).getD ((1 : Int)).toNat default).toNat default))))] [] (Cs := [0 ≤ ((1 : Int)) ∧ ((1 : Int)) < (((a0.Nodes.getD (v2).toNat default).In).length : Int), 0 ≤ (((a0.Nodes.getD (v2).toNat default).In).getD ((1 : Int)).toNat default) ∧ (((a0.Nodes.getD (v2).toNat default).In).getD ((1 : Int)).toNat default) < (j6.length : Int), (((a0.Nodes.getD (v2).toNat default).In).getD ((1 : Int)).toNat default).toNat < j6.length]) ⟨hc26, hc27, hc28⟩ ?_
  injection h with q0
  injection q0 with p1 q1
  subst p1
  subst q1
  exact fl
  refine sn hG [1, 2, 3, 7, 8, 9, 10, 59] [3, 7, 9] [(59, bV (((a0.Nodes.getD (v2).toNat default).Op) == 4))] [] ?_
  obtain ⟨J32, hj33, h⟩ := bnd h
  obtain ⟨j30, j31⟩ := J32
  try dsimp only at h
  refine jn [1, 2, 3, 7, 8, 10] [3, 7] [(10, iV j31)] [(7, .arr 3 1 (j30.length) (eF cInt j30))] ?_ ?_
  replace h := hj33; clear hj33
  refine iw h (fun h => ?_) (fun h => ?_)
  refine sn hG [1, 2, 3, 7, 8, 9, 10, 63] [3, 7, 9] [(63, bV (((a0.Nodes.getD (v2).toNat default).Kind) == 1))] [] ?_
  obtain ⟨J37, hj38, h⟩ := bnd h
  obtain ⟨j35, j36⟩ := J37
  try dsimp only at h
  refine jn [1, 2, 3, 7, 8, 10] [3, 7] [(10, iV j36)] [(7, .arr 3 1 (j35.length) (eF cInt j35))] ?_ ?_
  replace h := hj38; clear hj38
  refine iw h (fun h => ?_) (fun h => ?_)
  obtain ⟨hc39, h⟩ := grd h
  refine rc hG [1, 2, 3, 7, 8, 10] [3, 7] [(10, iV (IntKind.i64.wrap (j7 * (IntKind.i64.wrap (Int.tdiv ((a0.Nodes.getD (v2).toNat default).Size) ((a0.Nodes.getD (v2).toNat default).Step))))))] [] hc39 ?_
  injection h with q0
  injection q0 with p1 q1
  subst p1
  subst q1
  exact fl
  refine pwp_skip ?_
  injection h with q0
  injection q0 with p1 q1
  subst p1
  subst q1
  exact fl
  injection h with q0
  injection q0 with p1 q1
  subst p1
  subst q1
  exact fl
  refine pwp_skip ?_
  injection h with q0
  injection q0 with p1 q1
  subst p1
  subst q1
  exact fl
  injection h with q0
  injection q0 with p1 q1
  subst p1
  subst q1
  exact fl
  injection h with q0
  injection q0 with p1 q1
  subst p1
  subst q1
  exact fl
  refine blk_n (then_n (pwp_seq (sn hG [1, 2, 3, 7, 8, 10, 73] [3, 7] [(73, bV (decide (j15 > a2)))] [] (iw h (fun h => ?_) (fun h => ?_)))))
  refine sn hG [6] [] [(6, bV false)] [] ?_
  cases h
  exact pwp_ret (then_ret (blk_ret (then_ret (round_out (by simp) (And.intro rfl rt)))))
  refine pwp_skip (then_n (pwp_region ?_))
  obtain ⟨hc41, h⟩ := grd h
  refine pd hG 4 [1, 2, 3, 8, 77] [3, 77] [(77, .own 77)] [(77, .arr 3 1 (j14.length + 1) (appF (j14.length) (eF cInt j14) (arrOf [.int .i64 (j15)] 1)))] (Cs := [appC (j14.length) (1) 8 1 (arrOf [.int .i64 (j15)] 1)]) ⟨hc41, ok_one rfl⟩ (os ⟨[(1, iV a1), (2, iV a2), (3, .ptr 3 0), (8, iV v2), (77, .own 77)], [(3, .box ((cGProgram (a0)).map .t)), (77, .arr 3 1 (j14.length + 1) (appF (j14.length) (eF cInt j14) (arrOf [.int .i64 (j15)] 1)))]⟩ (pops_weak (Le.obj (o := 77) (.arr 3 1 ((j14 ++ ([j15])).length) (eF cInt (j14 ++ ([j15])))) rfl (fun _ _ _ => ObjR.row (by simp) (row_snoc cInt j14 j15 _ rfl))) (pn hG 1 [1, 2, 3, 7, 8] [3, 77] [(7, .own 77)] [(77, .arr 3 1 ((j14 ++ ([j15])).length) (eF cInt (j14 ++ ([j15]))))] (pe (blk_n (then_n (rn hG [1, 2, 3, 7, 8] [3, 77] [(8, iV (IntKind.i64.wrap (v2 + 1)))] [] ?_)))))))
  cases h
  exact round_in (Le.trans (ls ⟨[(1, iV a1), (2, iV a2), (3, .ptr 3 0), (7, .own 77), (8, iV (IntKind.i64.wrap (v2 + 1)))], [(3, .box ((cGProgram (a0)).map .t)), (77, .arr 3 1 ((j14 ++ ([j15])).length) (eF cInt (j14 ++ ([j15]))))]⟩) (Le.trans (Le.rename (o := 77) (o' := 7) hG (by decide) rfl) lk))
  cases h
  exact pwp_exit (then_exit (round_out (by simp) (And.intro rfl lk)))
  intro e s hq
  rcases R42 with _ | y44
  try dsimp only at h
  obtain ⟨rfl, hle⟩ := hq
  refine ⟨_, hle, blk_hit ?_⟩
  refine then_n (sn hG [6] [] [(6, bV true)] [] ?_)
  cases h
  exact pwp_ret rt
  try dsimp only at h
  obtain ⟨rfl, hq⟩ := hq
  cases h
  exact ⟨_, Le.refl, blk_ret (then_ret (hq))⟩

def F6 (n : Nat) (a0 : GProgram) (a1 : Int) : Option (Bool) := Option.bind (if (decide (((a0.Nodes.length : Int)) > 10)) = true then (some (true)) else (some (decide (((a0.Funcs.length : Int)) > 4))) : Option (Bool)) fun j1 => if (j1) = true then (some (false)) else (Option.bind ((F14 n a0).bind fun r9 => if (r9) = true then ((F15 n a0).bind fun r12 => if (r12) = true then ((F16 n a0 a1 1000).bind fun r15 => some (r15)) else (some (false))) else (some (false)) : Option (Bool)) fun j6 => some (j6))
abbrev I6 : Inf := ⟨look tiL, [], 26⟩
set_option maxRecDepth 20000 in
theorem F6_ok (n : Nat) (a0 : GProgram) (a1 : Int) (y : Bool) (h : F6 n a0 a1 = some y) : PCall Proofs.Try.prog 6 [.t (eGProgram a0), .t (.int .i64 (a1))] [] [] (Ret (.t (.bool (y)))) := by
  refine pcall_of (I := I6) Proofs.Try.func6 rfl ti_ok Proofs.Try.ntmps6 (le_n (by kernel_rfl)) (fun E hG => ?_)
  unfold F6 at h
  refine sn hG [1, 2] [2] [(2, .ptr 2 0)] [(2, .box ((cGProgram (a0)).map .t))] (pwp_seq (pwp_seq ?_))
  obtain ⟨j1, hj3, h⟩ := bnd h
  refine jn [1, 2, 14] [2] [(14, bV j1)] [] ?_ ?_
  replace h := hj3; clear hj3
  refine pwp_region (pn hG 5 [1, 2, 9] [2] [(9, bV (decide (((a0.Nodes.length : Int)) > 10)))] [] (io 9 h (fun h => ?_) (fun h => ?_)))
  refine pn hG 5 [1, 2, 14] [2] [(14, bV true)] [] ?_
  cases h
  exact pe fl
  refine pn hG 5 [1, 2, 14] [2] [(14, bV (decide (((a0.Funcs.length : Int)) > 4)))] [] ?_
  cases h
  exact pe fl
  refine then_n (iw h (fun h => ?_) (fun h => ?_))
  refine sn hG [4] [] [(4, bV false)] [] ?_
  cases h
  exact pwp_ret (then_ret rt)
  refine pwp_skip (then_n (pwp_seq ?_))
  obtain ⟨j6, hj8, h⟩ := bnd h
  refine jn [4] [] [(4, bV j6)] [] ?_ ?_
  replace h := hj8; clear hj8
  refine pwp_region (pn hG 1 [1, 2, 15] [2] [(15, .t (eGProgram a0))] [] ?_)
  obtain ⟨r9, hr10, h⟩ := bnd h
  refine ca hG [] rfl rfl rfl rfl callable14 (.cons (.same _) .nil) (F14_ok n _ _ hr10) (pn hG 1 [1, 2, 17] [2] [(17, bV r9)] [] (io 17 h (fun h => ?_) (fun h => ?_)))
  refine pn hG 1 [1, 2, 17, 18] [2] [(18, .t (eGProgram a0))] [] ?_
  obtain ⟨r12, hr13, h⟩ := bnd h
  refine ca hG [] rfl rfl rfl rfl callable15 (.cons (.same _) .nil) (F15_ok n _ _ hr13) (pn hG 2 [1, 2, 21] [2] [(21, bV r12)] [] (io 21 h (fun h => ?_) (fun h => ?_)))
  refine pn hG 2 [21, 22, 23] [] [(22, .t (eGProgram a0)), (23, iV a1)] [] ?_
  obtain ⟨r15, hr16, h⟩ := bnd h
  refine ca hG [] rfl rfl rfl rfl callable16 (.cons (.same _) (.cons (.same _) (.cons (.same _) .nil))) (F16_ok n _ _ _ _ hr16) (pn hG 2 [4] [] [(4, bV r15)] [] ?_)
  cases h
  exact pe fl
  refine pn hG 5 [4] [] [(4, bV false)] [] ?_
  cases h
  exact pe fl
  refine pn hG 9 [4] [] [(4, bV false)] [] ?_
  cases h
  exact pe fl
  refine then_n ?_
  cases h
  exact pwp_ret rt

end Go.PL
