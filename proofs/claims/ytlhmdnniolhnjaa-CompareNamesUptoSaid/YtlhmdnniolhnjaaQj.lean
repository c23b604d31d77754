/-
  Plain programs; the fields of two nodes. Own work.
-/
import Derived.Test.YtlhmdnniolhnjaaQi
namespace Go.PL
open Go

theorem FuncsOk.ok {p : GProgram} (h : ProgFit p) : FuncsOk p.Funcs := h.funcs

/-! ### fields -/
noncomputable def exprSame (fs gs : List GFunc) (e e' : Expr) : Bool := match inlineM fs e, inlineM gs e' with
  | some x, some y => sameM x y
  | _, _ => false
theorem G45s0_ok {fs gs : List GFunc} (hf : FuncsOk fs) (hg : FuncsOk gs) {x y : List GNode} {m : List (List Int × Bool)} {e e' : Expr} (he : okW e) (he' : okW e') (hc : CallsOk fs.length e) (hc' : CallsOk gs.length e') :
    G45s0 e e' fs x gs y m = some (exprSame fs gs e e') := by
  unfold G45s0
  rw [G62_ok hf he hc]
  simp only [Option.bind_some]
  rw [G62_ok hg he' hc']
  simp only [Option.bind_some]
  unfold exprSame
  cases h1 : inlineM fs e with
  | none => rfl
  | some u =>
    cases h2 : inlineM gs e' with
    | none => rfl
    | some v =>
      simp only [ofM, if_true]
      rw [G63_ok (inlineM_w hf he h1) (inlineM_w hg he' h2)]
      rfl
/-- what a node must be, to be compared -/
structure NodeW (fs : List GFunc) (a : GNode) : Prop where
  expr : ∀ e, e ∈ a.Exprs → okW e ∧ CallsOk fs.length e
  pred : ∀ q, q ∈ a.Seq → okW q.Pred ∧ CallsOk fs.length q.Pred
  nI : a.In.length ≤ 1048576
  nE : a.Exprs.length ≤ 1048576
  nK : a.Key.length ≤ 1048576
  nK2 : a.Key2.length ≤ 1048576
  nA : a.Aggs.length ≤ 1048576
  nS : a.Seq.length ≤ 1048576
  nC : a.Cols.length ≤ 1048576
theorem NodeW.of {fs : List GFunc} {a : GNode} (h : okGNode a) (hc : NodeCalls fs.length a) : NodeW fs a := by
  have oI : okL 8 inI64 a.In := h.2.1
  have oE : okL 56 okExpr a.Exprs := h.2.2.2.2.1
  have oKey : okL 8 inI64 a.Key := h.2.2.2.2.2.2.2.2.1
  have oKey2 : okL 8 inI64 a.Key2 := h.2.2.2.2.2.2.2.2.2.1
  have oAggs : okL 32 okGAgg a.Aggs := h.2.2.2.2.2.2.2.2.2.2.2.2.2.1
  have oSeq : okL 64 okGPat a.Seq := h.2.2.2.2.2.2.2.2.2.2.2.2.2.2.1
  have oCols : okL 40 okGCol a.Cols := h.2.2.2.2.2.2.2.2.2.2.2.2.2.2.2
  refine ⟨fun e he => ⟨(oE.2 e he).w, hc.1 e he⟩, fun q hq => ⟨?_, hc.2 q hq⟩, oI.len, oE.len, oKey.len, oKey2.len, oAggs.len, oSeq.len, oCols.len⟩
  have : okExpr q.Pred := (oSeq.2 q hq).1
  exact this.w

noncomputable def patSame (fs gs : List GFunc) (a b : GPat) : Bool := a.Rep == b.Rep && exprSame fs gs a.Pred b.Pred
def aggSame (a b : GAgg) : Bool := a.Kind == b.Kind && a.Col == b.Col
def colSame (a b : GCol) : Bool := a.Type_ == b.Type_
noncomputable def fieldsM (fs gs : List GFunc) (a b : GNode) : Bool :=
  ([a.Op, a.Schema, a.Kind, a.Size, a.Step, a.Before, a.After, a.Keep] : List Int) == [b.Op, b.Schema, b.Kind, b.Size, b.Step, b.Before, b.After, b.Keep] && ((a.Source : ByteArray).toList == (b.Source : ByteArray).toList &&
    ((all2 (fun x y => x == y) a.Key b.Key && (all2 (fun x y => x == y) a.Key2 b.Key2 && all2 (exprSame fs gs) a.Exprs b.Exprs)) && (all2 aggSame a.Aggs b.Aggs && (all2 (patSame fs gs) a.Seq b.Seq && (a.Op != 0 || all2 colSame a.Cols b.Cols)))))

theorem G30s0_ok {fs gs : List GFunc} (hf : FuncsOk fs) (hg : FuncsOk gs) {x y : List GNode} {m : List (List Int × Bool)} {a b : GNode} (ha : NodeW fs a) (hb : NodeW gs b) : G30s0 a b fs x gs y m = some (fieldsM fs gs a b) := by
  have nE := ha.nE; have nK := ha.nK; have nK2 := ha.nK2; have nA := ha.nA; have nS := ha.nS; have nC := ha.nC
  have e1 : G44s0 a.Exprs b.Exprs fs x gs y m = some (all2 (exprSame fs gs) a.Exprs b.Exprs) := by
    rw [G44s0]
    exact equalF (f := fun e e' => G45s0 e e' fs x gs y m) (by omega) (fun v => by rw [G44s0_L0]) (fun e he e' he' => G45s0_ok hf hg (ha.expr e he).1 (hb.expr e' he').1 (ha.expr e he).2 (hb.expr e' he').2)
  have e2 : G46s0 a.Aggs b.Aggs = some (all2 aggSame a.Aggs b.Aggs) := by
    rw [G46s0]
    exact equalF (f := G47) (by omega) (fun v => by rw [G46s0_L0]) (fun u _ v _ => by unfold G47 aggSame; cases (u.Kind == v.Kind) <;> rfl)
  have e3 : G48s0 a.Seq b.Seq fs x gs y m = some (all2 (patSame fs gs) a.Seq b.Seq) := by
    rw [G48s0]
    refine equalF (f := fun e e' => G49s0 e e' fs x gs y m) (by omega) (fun v => by rw [G48s0_L0]) (fun q hq q' hq' => ?_)
    unfold G49s0 patSame
    rw [G45s0_ok hf hg (ha.pred q hq).1 (hb.pred q' hq').1 (ha.pred q hq).2 (hb.pred q' hq').2]
    cases (q.Rep == q'.Rep) <;> rfl
  have e4 : G50s0 a.Cols b.Cols = some (all2 colSame a.Cols b.Cols) := by
    rw [G50s0]
    exact equalF (f := G51) (by omega) (fun v => by rw [G50s0_L0]) (fun u _ v _ => rfl)
  unfold G30s0
  rw [G33_ok (by omega), G33_ok (by omega), e1, e2, e3, e4]
  simp only [Option.bind_some, G43]
  unfold fieldsM
  generalize all2 (fun x y => x == y) a.Key b.Key = k1
  generalize all2 (fun x y => x == y) a.Key2 b.Key2 = k2
  generalize all2 (exprSame fs gs) a.Exprs b.Exprs = k3
  generalize all2 aggSame a.Aggs b.Aggs = k4
  generalize all2 (patSame fs gs) a.Seq b.Seq = k5
  generalize all2 colSame a.Cols b.Cols = k6
  generalize ((a.Source : ByteArray).toList == (b.Source : ByteArray).toList) = k7
  generalize (a.Op != 0) = k8
  generalize (([a.Op, a.Schema, a.Kind, a.Size, a.Step, a.Before, a.After, a.Keep] : List Int) == [b.Op, b.Schema, b.Kind, b.Size, b.Step, b.Before, b.After, b.Keep]) = k9
  cases k1 <;> cases k2 <;> cases k3 <;> cases k4 <;> cases k5 <;> cases k6 <;> cases k7 <;> cases k8 <;> cases k9 <;> rfl


end Go.PL
