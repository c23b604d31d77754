/-
  What reads as data of the argument types reads as plain data of ours. Printed by a program of our own.
-/
import Derived.Test.YtlhmdnniolhnjaaRr
import Derived.Test.YtlhmdnniolhnjaaTy
namespace Go.PL
open Go Go.RowKit
set_option maxRecDepth 20000

theorem o31 {H : Type} {enc : TypeId × Value → H} {W : World} (fuel : Nat) : Opens enc Proofs.Try.prog W 31 (fun xs => [eL cInt (xs)]) (okL 8 inI64) fuel := by
  cases fuel with
  | zero => exact opens_zero
  | succ fuel => exact opens_slice Proofs.Try.underlying31 (by kernel_rfl) (by kernel_rfl) (opens_int Proofs.Try.underlying3 fuel) (fun xs => eL cInt (xs)) (fun _ => rfl)
inductive okExpr : Expr → Prop
  | mk0 {a b : Int} {s : ByteArray} {l : List Expr} (ha : inI64 a) (hb : inI64 b) (hs : okStr s) (hn : l.length ≤ 1048576) (hl : ∀ x, x ∈ l → okExpr x) : okExpr (.mk a b s l)
theorem okExpr.mk {a b : Int} {s : ByteArray} {l : List Expr} (ha : inI64 a) (hb : inI64 b) (hs : okStr s) (hl : okL 56 okExpr l) : okExpr (.mk a b s l) := .mk0 ha hb hs hl.1 hl.2
theorem oExpr {H : Type} {enc : TypeId × Value → H} {W : World} : ∀ fuel, Opens enc Proofs.Try.prog W 40 exprCells okExpr fuel ∧ Opens enc Proofs.Try.prog W 38 (fun xs => [.lz (.exprs xs)]) (okL 56 okExpr) fuel
  | 0 => ⟨opens_zero, opens_zero⟩
  | fuel + 1 => by
    have ih := oExpr (enc := enc) (W := W) fuel
    exact ⟨(opens_struct Proofs.Try.underlying40 (opensF_cons (by kernel_rfl) (opens_int Proofs.Try.underlying3 fuel) (opensF_cons (by kernel_rfl) (opens_int Proofs.Try.underlying3 fuel) (opensF_cons (by kernel_rfl) (opens_string Proofs.Try.underlying9 fuel) (opensF_cons (by kernel_rfl) ih.2 opensF_nil)))) (by kernel_rfl)).map (fun x => Expr.mk x.1 x.2.1 x.2.2.1 x.2.2.2.1) (fun _ => rfl) (fun x h => .mk h.1 h.2.1 h.2.2.1 h.2.2.2.1), opens_slice Proofs.Try.underlying38 (by kernel_rfl) (by kernel_rfl) ih.1 (fun xs => .lz (.exprs xs)) (fun _ => rfl)⟩
def okGFunc (x : GFunc) : Prop := okStr x.Name ∧ okL 8 inI64 x.Params ∧ inI64 x.Result ∧ okExpr x.Body
theorem o42 {H : Type} {enc : TypeId × Value → H} {W : World} (fuel : Nat) : Opens enc Proofs.Try.prog W 42 cGFunc okGFunc fuel := by
  cases fuel with
  | zero => exact opens_zero
  | succ fuel => exact (opens_struct Proofs.Try.underlying42 (opensF_cons (by kernel_rfl) (opens_string Proofs.Try.underlying9 fuel) (opensF_cons (by kernel_rfl) (o31 fuel) (opensF_cons (by kernel_rfl) (opens_int Proofs.Try.underlying3 fuel) (opensF_cons (by kernel_rfl) (oExpr fuel).1 opensF_nil)))) (by kernel_rfl)).map (fun x => GFunc.mk x.1 x.2.1 x.2.2.1 x.2.2.2.1) (fun _ => rfl) (fun x h => ⟨h.1, h.2.1, h.2.2.1, h.2.2.2.1⟩)
theorem o22 {H : Type} {enc : TypeId × Value → H} {W : World} (fuel : Nat) : Opens enc Proofs.Try.prog W 22 (fun xs => [eL cGFunc (xs)]) (okL 104 okGFunc) fuel := by
  cases fuel with
  | zero => exact opens_zero
  | succ fuel => exact opens_slice Proofs.Try.underlying22 (by kernel_rfl) (by kernel_rfl) (o42 fuel) (fun xs => eL cGFunc (xs)) (fun _ => rfl)
def okGAgg (x : GAgg) : Prop := inI64 x.Kind ∧ inI64 x.Col ∧ okStr x.Name
theorem o52 {H : Type} {enc : TypeId × Value → H} {W : World} (fuel : Nat) : Opens enc Proofs.Try.prog W 52 cGAgg okGAgg fuel := by
  cases fuel with
  | zero => exact opens_zero
  | succ fuel => exact (opens_struct Proofs.Try.underlying52 (opensF_cons (by kernel_rfl) (opens_int Proofs.Try.underlying3 fuel) (opensF_cons (by kernel_rfl) (opens_int Proofs.Try.underlying3 fuel) (opensF_cons (by kernel_rfl) (opens_string Proofs.Try.underlying9 fuel) opensF_nil))) (by kernel_rfl)).map (fun x => GAgg.mk x.1 x.2.1 x.2.2.1) (fun _ => rfl) (fun x h => ⟨h.1, h.2.1, h.2.2.1⟩)
theorem o43 {H : Type} {enc : TypeId × Value → H} {W : World} (fuel : Nat) : Opens enc Proofs.Try.prog W 43 (fun xs => [eL cGAgg (xs)]) (okL 32 okGAgg) fuel := by
  cases fuel with
  | zero => exact opens_zero
  | succ fuel => exact opens_slice Proofs.Try.underlying43 (by kernel_rfl) (by kernel_rfl) (o52 fuel) (fun xs => eL cGAgg (xs)) (fun _ => rfl)
def okGPat (x : GPat) : Prop := okExpr x.Pred ∧ inI64 x.Rep
theorem o58 {H : Type} {enc : TypeId × Value → H} {W : World} (fuel : Nat) : Opens enc Proofs.Try.prog W 58 cGPat okGPat fuel := by
  cases fuel with
  | zero => exact opens_zero
  | succ fuel => exact (opens_struct Proofs.Try.underlying58 (opensF_cons (by kernel_rfl) (oExpr fuel).1 (opensF_cons (by kernel_rfl) (opens_int Proofs.Try.underlying3 fuel) opensF_nil)) (by kernel_rfl)).map (fun x => GPat.mk x.1 x.2.1) (fun _ => rfl) (fun x h => ⟨h.1, h.2.1⟩)
theorem o44 {H : Type} {enc : TypeId × Value → H} {W : World} (fuel : Nat) : Opens enc Proofs.Try.prog W 44 (fun xs => [eL cGPat (xs)]) (okL 64 okGPat) fuel := by
  cases fuel with
  | zero => exact opens_zero
  | succ fuel => exact opens_slice Proofs.Try.underlying44 (by kernel_rfl) (by kernel_rfl) (o58 fuel) (fun xs => eL cGPat (xs)) (fun _ => rfl)
def okGCol (x : GCol) : Prop := okStr x.Name ∧ inI64 x.Type_ ∧ okStr x.Unit
theorem o50 {H : Type} {enc : TypeId × Value → H} {W : World} (fuel : Nat) : Opens enc Proofs.Try.prog W 50 cGCol okGCol fuel := by
  cases fuel with
  | zero => exact opens_zero
  | succ fuel => exact (opens_struct Proofs.Try.underlying50 (opensF_cons (by kernel_rfl) (opens_string Proofs.Try.underlying9 fuel) (opensF_cons (by kernel_rfl) (opens_int Proofs.Try.underlying3 fuel) (opensF_cons (by kernel_rfl) (opens_string Proofs.Try.underlying9 fuel) opensF_nil))) (by kernel_rfl)).map (fun x => GCol.mk x.1 x.2.1 x.2.2.1) (fun _ => rfl) (fun x h => ⟨h.1, h.2.1, h.2.2.1⟩)
theorem o45 {H : Type} {enc : TypeId × Value → H} {W : World} (fuel : Nat) : Opens enc Proofs.Try.prog W 45 (fun xs => [eL cGCol (xs)]) (okL 40 okGCol) fuel := by
  cases fuel with
  | zero => exact opens_zero
  | succ fuel => exact opens_slice Proofs.Try.underlying45 (by kernel_rfl) (by kernel_rfl) (o50 fuel) (fun xs => eL cGCol (xs)) (fun _ => rfl)
def okGNode (x : GNode) : Prop := inI64 x.Op ∧ okL 8 inI64 x.In ∧ okStr x.Source ∧ inI64 x.Schema ∧ okL 56 okExpr x.Exprs ∧ inI64 x.Kind ∧ inI64 x.Size ∧ inI64 x.Step ∧ okL 8 inI64 x.Key ∧ okL 8 inI64 x.Key2 ∧ inI64 x.Before ∧ inI64 x.After ∧ inI64 x.Keep ∧ okL 32 okGAgg x.Aggs ∧ okL 64 okGPat x.Seq ∧ okL 40 okGCol x.Cols
theorem o47 {H : Type} {enc : TypeId × Value → H} {W : World} (fuel : Nat) : Opens enc Proofs.Try.prog W 47 cGNode okGNode fuel := by
  cases fuel with
  | zero => exact opens_zero
  | succ fuel => exact (opens_struct Proofs.Try.underlying47 (opensF_cons (by kernel_rfl) (opens_int Proofs.Try.underlying3 fuel) (opensF_cons (by kernel_rfl) (o31 fuel) (opensF_cons (by kernel_rfl) (opens_string Proofs.Try.underlying9 fuel) (opensF_cons (by kernel_rfl) (opens_int Proofs.Try.underlying3 fuel) (opensF_cons (by kernel_rfl) (oExpr fuel).2 (opensF_cons (by kernel_rfl) (opens_int Proofs.Try.underlying3 fuel) (opensF_cons (by kernel_rfl) (opens_int Proofs.Try.underlying3 fuel) (opensF_cons (by kernel_rfl) (opens_int Proofs.Try.underlying3 fuel) (opensF_cons (by kernel_rfl) (o31 fuel) (opensF_cons (by kernel_rfl) (o31 fuel) (opensF_cons (by kernel_rfl) (opens_int Proofs.Try.underlying3 fuel) (opensF_cons (by kernel_rfl) (opens_int Proofs.Try.underlying3 fuel) (opensF_cons (by kernel_rfl) (opens_int Proofs.Try.underlying3 fuel) (opensF_cons (by kernel_rfl) (o43 fuel) (opensF_cons (by kernel_rfl) (o44 fuel) (opensF_cons (by kernel_rfl) (o45 fuel) opensF_nil)))))))))))))))) (by kernel_rfl)).map (fun x => GNode.mk x.1 x.2.1 x.2.2.1 x.2.2.2.1 x.2.2.2.2.1 x.2.2.2.2.2.1 x.2.2.2.2.2.2.1 x.2.2.2.2.2.2.2.1 x.2.2.2.2.2.2.2.2.1 x.2.2.2.2.2.2.2.2.2.1 x.2.2.2.2.2.2.2.2.2.2.1 x.2.2.2.2.2.2.2.2.2.2.2.1 x.2.2.2.2.2.2.2.2.2.2.2.2.1 x.2.2.2.2.2.2.2.2.2.2.2.2.2.1 x.2.2.2.2.2.2.2.2.2.2.2.2.2.2.1 x.2.2.2.2.2.2.2.2.2.2.2.2.2.2.2.1) (fun _ => rfl) (fun x h => ⟨h.1, h.2.1, h.2.2.1, h.2.2.2.1, h.2.2.2.2.1, h.2.2.2.2.2.1, h.2.2.2.2.2.2.1, h.2.2.2.2.2.2.2.1, h.2.2.2.2.2.2.2.2.1, h.2.2.2.2.2.2.2.2.2.1, h.2.2.2.2.2.2.2.2.2.2.1, h.2.2.2.2.2.2.2.2.2.2.2.1, h.2.2.2.2.2.2.2.2.2.2.2.2.1, h.2.2.2.2.2.2.2.2.2.2.2.2.2.1, h.2.2.2.2.2.2.2.2.2.2.2.2.2.2.1, h.2.2.2.2.2.2.2.2.2.2.2.2.2.2.2.1⟩)
theorem o23 {H : Type} {enc : TypeId × Value → H} {W : World} (fuel : Nat) : Opens enc Proofs.Try.prog W 23 (fun xs => [eL cGNode (xs)]) (okL 248 okGNode) fuel := by
  cases fuel with
  | zero => exact opens_zero
  | succ fuel => exact opens_slice Proofs.Try.underlying23 (by kernel_rfl) (by kernel_rfl) (o47 fuel) (fun xs => eL cGNode (xs)) (fun _ => rfl)
def okGProgram (x : GProgram) : Prop := okL 104 okGFunc x.Funcs ∧ okL 248 okGNode x.Nodes
theorem o25 {H : Type} {enc : TypeId × Value → H} {W : World} (fuel : Nat) : Opens enc Proofs.Try.prog W 25 cGProgram okGProgram fuel := by
  cases fuel with
  | zero => exact opens_zero
  | succ fuel => exact (opens_struct Proofs.Try.underlying25 (opensF_cons (by kernel_rfl) (o22 fuel) (opensF_cons (by kernel_rfl) (o23 fuel) opensF_nil)) (by kernel_rfl)).map (fun x => GProgram.mk x.1 x.2.1) (fun _ => rfl) (fun x h => ⟨h.1, h.2.1⟩)
def okGMatch (x : GMatch) : Prop := inI64 x.Old ∧ inI64 x.New ∧ inI64 x.Why
theorem o36 {H : Type} {enc : TypeId × Value → H} {W : World} (fuel : Nat) : Opens enc Proofs.Try.prog W 36 cGMatch okGMatch fuel := by
  cases fuel with
  | zero => exact opens_zero
  | succ fuel => exact (opens_struct Proofs.Try.underlying36 (opensF_cons (by kernel_rfl) (opens_int Proofs.Try.underlying3 fuel) (opensF_cons (by kernel_rfl) (opens_int Proofs.Try.underlying3 fuel) (opensF_cons (by kernel_rfl) (opens_int Proofs.Try.underlying3 fuel) opensF_nil))) (by kernel_rfl)).map (fun x => GMatch.mk x.1 x.2.1 x.2.2.1) (fun _ => rfl) (fun x h => ⟨h.1, h.2.1, h.2.2.1⟩)
theorem o29 {H : Type} {enc : TypeId × Value → H} {W : World} (fuel : Nat) : Opens enc Proofs.Try.prog W 29 (fun xs => [eL cGMatch (xs)]) (okL 24 okGMatch) fuel := by
  cases fuel with
  | zero => exact opens_zero
  | succ fuel => exact opens_slice Proofs.Try.underlying29 (by kernel_rfl) (by kernel_rfl) (o36 fuel) (fun xs => eL cGMatch (xs)) (fun _ => rfl)

end Go.PL
