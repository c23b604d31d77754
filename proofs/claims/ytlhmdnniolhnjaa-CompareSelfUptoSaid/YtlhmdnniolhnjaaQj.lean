/-
  Plain programs; the fields of two nodes. Own work.
-/
import Derived.Test.YtlhmdnniolhnjaaQi
namespace Go.PL
open Go

theorem FuncsOk.ok {p : GProgram} (h : ProgFit p) : FuncsOk p.Funcs := h.funcs

/-- all expressions of a node come without calls -/
def NodePlain (fs : List GFunc) (a : GNode) : Prop := (∀ e, e ∈ a.Exprs → (inlineM fs e).isSome = true) ∧ (∀ q, q ∈ a.Seq → (inlineM fs q.Pred).isSome = true)

theorem G7_L1_ok (p : GProgram) {i : Nat} (hi : i < p.Nodes.length) (nE : (p.Nodes.getD i default).Exprs.length ≤ 1048576) (nS : (p.Nodes.getD i default).Seq.length ≤ 1048576) :
    whileM (G7_L1 p i) ((p.Nodes.getD i default).Exprs, 0) = some ((i : Int), (p.Nodes.getD i default).Exprs ++ (p.Nodes.getD i default).Seq.map (·.Pred)) := by
  have key : ∀ (k j : Nat), j + k = (p.Nodes.getD i default).Seq.length → whileM (G7_L1 p i) ((p.Nodes.getD i default).Exprs ++ ((p.Nodes.getD i default).Seq.take j).map (·.Pred), (j : Int)) = some ((i : Int), (p.Nodes.getD i default).Exprs ++ (p.Nodes.getD i default).Seq.map (·.Pred)) := by
    intro k
    induction k with
    | zero =>
      intro j hj
      refine whileM_stop ?_
      rw [G7_L1]
      simp only [Int.toNat_natCast]
      rw [if_pos (by omega), if_neg (by rw [decide_eq_true_eq]; omega), List.take_of_length_le (by omega)]
    | succ k ih =>
      intro j hj
      have hlt : j < (p.Nodes.getD i default).Seq.length := by omega
      have hstep : G7_L1 p i ((p.Nodes.getD i default).Exprs ++ ((p.Nodes.getD i default).Seq.take j).map (·.Pred), (j : Int)) = some (.inl ((p.Nodes.getD i default).Exprs ++ ((p.Nodes.getD i default).Seq.take (j + 1)).map (·.Pred), IntKind.i64.wrap ((j : Int) + 1))) := by
        rw [G7_L1]
        simp only [Int.toNat_natCast]
        rw [if_pos (by omega), if_pos (by simpa using hlt), if_pos (by omega), if_pos (by omega), if_pos (by simp only [List.length_append, List.length_map, List.length_take]; omega), List.take_succ_eq_append_getElem hlt, getD_lt hlt, List.map_append, List.append_assoc]
        rfl
      rw [whileM_next hstep, wrap_id (by omega) (by omega), show ((j : Int) + 1) = ((j + 1 : Nat) : Int) by omega]
      exact ih (j + 1) (by omega)
  have := key (p.Nodes.getD i default).Seq.length 0 (by omega)
  simpa using this

theorem G7_ok {p : GProgram} (h : okGProgram p) (hf : ProgFit p) : Sp (G7 p) (fun r => r = true → ∀ i, i < p.Nodes.length → NodePlain p.Funcs (p.Nodes.getD i default)) := by
  have hn := hf.n
  unfold G7
  refine Sp.bind _ (Sp.allB p.Nodes.length (fun i => NodePlain p.Funcs (p.Nodes.getD i default)) (by omega) (fun i hi => ?_) ?_) (fun R hR => ?_)
  · rw [G7_L0]
    refine Sp.iteD (fun _ => ?_) (fun h => absurd h (by omega))
    simp only [Int.toNat_natCast]
    have hok := getD_P h.2.2 hi
    have oE : okL 56 okExpr (p.Nodes.getD i default).Exprs := hok.2.2.2.2.1
    have oS : okL 64 okGPat (p.Nodes.getD i default).Seq := hok.2.2.2.2.2.2.2.2.2.2.2.2.2.2.1
    have nE := oE.len; have nS := oS.len
    have hcalls := (hf.nodes i hi).calls
    refine Sp.guard (by omega) (Sp.guard (by omega) ?_)
    rw [G7_L1_ok p hi nE nS]
    simp only [Option.bind_some]
    generalize hl : (p.Nodes.getD i default).Exprs ++ (p.Nodes.getD i default).Seq.map (·.Pred) = l
    have hlen : l.length ≤ 2097152 := by rw [← hl]; simp only [List.length_append, List.length_map]; omega
    have hw : ∀ e, e ∈ l → okW e ∧ CallsOk p.Funcs.length e := by
      intro e he
      rw [← hl] at he
      rcases List.mem_append.1 he with he | he
      · exact ⟨(oE.2 e he).w, hcalls.1 e he⟩
      · obtain ⟨q, hq, rfl⟩ := List.mem_map.1 he
        have hqo : okExpr q.Pred := (oS.2 q hq).1
        exact ⟨hqo.w, hcalls.2 q hq⟩
    refine Sp.bind (fun R => match R with | .inl x => x = (i : Int) ∧ ∀ e, e ∈ l → (inlineM p.Funcs e).isSome = true | .inr y => y = false) ?_ (fun R hR => ?_)
    · refine Sp.count (fun s => s.2) l.length (fun s => s.1 = l ∧ ∀ k : Nat, (k : Int) < s.2 → (inlineM p.Funcs (l.getD k default)).isSome = true) _ (by omega) (fun s hs h0 h1 => ?_) (l, 0) ⟨rfl, fun k hk => by simp at hk; omega⟩ (Int.le_refl _) (by simp)
      obtain ⟨v1, v2⟩ := s
      obtain ⟨rfl, hs2⟩ := hs
      have hlen : v1.length ≤ 2097152 := hlen
      simp only at h0 h1 hs2
      obtain ⟨k, rfl⟩ := Int.eq_ofNat_of_zero_le h0
      rw [G7_L2]
      simp only [Int.toNat_natCast]
      refine Sp.iteD (fun hlt => ?_) (fun hge => Sp.ret ⟨rfl, fun e he => ?_⟩)
      · refine Sp.guard (by omega) (Sp.guard (by omega) ?_)
        obtain ⟨hw1, hw2⟩ := hw _ (getD_mem (show k < v1.length by omega))
        rw [G17_ok hf.funcs hw1 hw2]
        simp only [Option.bind_some]
        cases hin : inlineM p.Funcs (v1.getD k default) with
        | none => exact Sp.ret rfl
        | some r =>
          refine Sp.ret ⟨hlt, rfl, rfl, fun j hj => ?_⟩
          simp only at hj
          rw [wrap_id (by omega) (by omega)] at hj
          by_cases hjk : j = k
          · subst hjk; rw [hin]; rfl
          · exact hs2 j (by omega)
      · obtain ⟨j, hj, rfl⟩ := List.getElem_of_mem he
        have := hs2 j (by omega)
        rwa [getD_lt hj] at this
    · cases R with
      | inl x =>
        obtain ⟨rfl, hall⟩ := hR
        refine Sp.ret ⟨rfl, fun e he => hall e ?_, fun q hq => hall _ ?_⟩
        · rw [← hl]; exact List.mem_append_left _ he
        · rw [← hl]; exact List.mem_append_right _ (List.mem_map_of_mem hq)
      | inr y => exact Sp.ret hR
  · rw [G7_L0, if_neg (by simp)]
  · cases R with
    | inl x => exact Sp.ret (fun _ => hR)
    | inr y => exact Sp.ret (by simp only at hR; simp [hR])

/-! ### fields -/
noncomputable def exprSame (fs gs : List GFunc) (e e' : Expr) : Bool := match inlineM fs e, inlineM gs e' with
  | some x, some y => sameM x y
  | _, _ => false
theorem G45s0_ok {fs gs : List GFunc} (hf : FuncsOk fs) (hg : FuncsOk gs) {x y : List GNode} {m : List (List Int × Bool)} {e e' : Expr} (he : okW e) (he' : okW e') (hc : CallsOk fs.length e) (hc' : CallsOk gs.length e') :
    G45s0 e e' fs x gs y m = some (exprSame fs gs e e') := by
  unfold G45s0
  rw [G62_ok hf he hc]
  simp only [Option.bind_some]
  rw [G62_ok hg he' hc']
  simp only [Option.bind_some]
  unfold exprSame
  cases h1 : inlineM fs e with
  | none => rfl
  | some u =>
    cases h2 : inlineM gs e' with
    | none => rfl
    | some v =>
      simp only [ofM, if_true]
      rw [G63_ok (inlineM_w hf he h1) (inlineM_w hg he' h2)]
      rfl
theorem exprSame_refl {fs : List GFunc} (hf : FuncsOk fs) {e : Expr} (he : okW e) (h : (inlineM fs e).isSome = true) : exprSame fs fs e e = true := by
  unfold exprSame
  cases h1 : inlineM fs e with
  | none => rw [h1] at h; cases h
  | some u => exact sameM_refl (inlineM_w hf he h1)

/-- what a node's expressions must be -/
structure NodeW (fs : List GFunc) (a : GNode) : Prop where
  ok : okGNode a
  calls : NodeCalls fs.length a
theorem NodeW.expr {fs : List GFunc} {a : GNode} (h : NodeW fs a) : ∀ e, e ∈ a.Exprs → okW e ∧ CallsOk fs.length e := fun e he => by
  have oE : okL 56 okExpr a.Exprs := h.ok.2.2.2.2.1
  exact ⟨(oE.2 e he).w, h.calls.1 e he⟩
theorem NodeW.pred {fs : List GFunc} {a : GNode} (h : NodeW fs a) : ∀ q, q ∈ a.Seq → okW q.Pred ∧ CallsOk fs.length q.Pred := fun q hq => by
  have oS : okL 64 okGPat a.Seq := h.ok.2.2.2.2.2.2.2.2.2.2.2.2.2.2.1
  have : okExpr q.Pred := (oS.2 q hq).1
  exact ⟨this.w, h.calls.2 q hq⟩

noncomputable def patSame (fs gs : List GFunc) (a b : GPat) : Bool := a.Rep == b.Rep && exprSame fs gs a.Pred b.Pred
def aggSame (a b : GAgg) : Bool := a.Kind == b.Kind && a.Col == b.Col
def colSame (a b : GCol) : Bool := a.Type_ == b.Type_
noncomputable def fieldsM (fs gs : List GFunc) (a b : GNode) : Bool :=
  ([a.Op, a.Schema, a.Kind, a.Size, a.Step, a.Before, a.After, a.Keep] : List Int) == [b.Op, b.Schema, b.Kind, b.Size, b.Step, b.Before, b.After, b.Keep] && ((a.Source : ByteArray).toList == (b.Source : ByteArray).toList &&
    ((all2 (fun x y => x == y) a.Key b.Key && (all2 (fun x y => x == y) a.Key2 b.Key2 && all2 (exprSame fs gs) a.Exprs b.Exprs)) && (all2 aggSame a.Aggs b.Aggs && (all2 (patSame fs gs) a.Seq b.Seq && (a.Op != 0 || all2 colSame a.Cols b.Cols)))))

theorem G30s0_ok {fs gs : List GFunc} (hf : FuncsOk fs) (hg : FuncsOk gs) {x y : List GNode} {m : List (List Int × Bool)} {a b : GNode} (ha : NodeW fs a) (hb : NodeW gs b) : G30s0 a b fs x gs y m = some (fieldsM fs gs a b) := by
  have oE : okL 56 okExpr a.Exprs := ha.ok.2.2.2.2.1
  have oKey : okL 8 inI64 a.Key := ha.ok.2.2.2.2.2.2.2.2.1
  have oKey2 : okL 8 inI64 a.Key2 := ha.ok.2.2.2.2.2.2.2.2.2.1
  have oAggs : okL 32 okGAgg a.Aggs := ha.ok.2.2.2.2.2.2.2.2.2.2.2.2.2.1
  have oSeq : okL 64 okGPat a.Seq := ha.ok.2.2.2.2.2.2.2.2.2.2.2.2.2.2.1
  have oCols : okL 40 okGCol a.Cols := ha.ok.2.2.2.2.2.2.2.2.2.2.2.2.2.2.2
  have nE := oE.len; have nK := oKey.len; have nK2 := oKey2.len; have nA := oAggs.len; have nS := oSeq.len; have nC := oCols.len
  have e1 : G44s0 a.Exprs b.Exprs fs x gs y m = some (all2 (exprSame fs gs) a.Exprs b.Exprs) := by
    rw [G44s0]
    exact equalF (f := fun e e' => G45s0 e e' fs x gs y m) (by omega) (fun v => by rw [G44s0_L0]) (fun e he e' he' => G45s0_ok hf hg (ha.expr e he).1 (hb.expr e' he').1 (ha.expr e he).2 (hb.expr e' he').2)
  have e2 : G46s0 a.Aggs b.Aggs = some (all2 aggSame a.Aggs b.Aggs) := by
    rw [G46s0]
    exact equalF (f := G47) (by omega) (fun v => by rw [G46s0_L0]) (fun u _ v _ => by unfold G47 aggSame; cases (u.Kind == v.Kind) <;> rfl)
  have e3 : G48s0 a.Seq b.Seq fs x gs y m = some (all2 (patSame fs gs) a.Seq b.Seq) := by
    rw [G48s0]
    refine equalF (f := fun e e' => G49s0 e e' fs x gs y m) (by omega) (fun v => by rw [G48s0_L0]) (fun q hq q' hq' => ?_)
    unfold G49s0 patSame
    rw [G45s0_ok hf hg (ha.pred q hq).1 (hb.pred q' hq').1 (ha.pred q hq).2 (hb.pred q' hq').2]
    cases (q.Rep == q'.Rep) <;> rfl
  have e4 : G50s0 a.Cols b.Cols = some (all2 colSame a.Cols b.Cols) := by
    rw [G50s0]
    exact equalF (f := G51) (by omega) (fun v => by rw [G50s0_L0]) (fun u _ v _ => rfl)
  unfold G30s0
  rw [G33_ok (by omega), G33_ok (by omega), e1, e2, e3, e4]
  simp only [Option.bind_some, G43]
  unfold fieldsM
  generalize all2 (fun x y => x == y) a.Key b.Key = k1
  generalize all2 (fun x y => x == y) a.Key2 b.Key2 = k2
  generalize all2 (exprSame fs gs) a.Exprs b.Exprs = k3
  generalize all2 aggSame a.Aggs b.Aggs = k4
  generalize all2 (patSame fs gs) a.Seq b.Seq = k5
  generalize all2 colSame a.Cols b.Cols = k6
  generalize ((a.Source : ByteArray).toList == (b.Source : ByteArray).toList) = k7
  generalize (a.Op != 0) = k8
  generalize (([a.Op, a.Schema, a.Kind, a.Size, a.Step, a.Before, a.After, a.Keep] : List Int) == [b.Op, b.Schema, b.Kind, b.Size, b.Step, b.Before, b.After, b.Keep]) = k9
  cases k1 <;> cases k2 <;> cases k3 <;> cases k4 <;> cases k5 <;> cases k6 <;> cases k7 <;> cases k8 <;> cases k9 <;> rfl

theorem fieldsM_refl {fs : List GFunc} (hf : FuncsOk fs) {a : GNode} (ha : NodeW fs a) (hp : NodePlain fs a) : fieldsM fs fs a a = true := by
  unfold fieldsM
  rw [all2_refl (p := fun x y => x == y) (by simp), all2_refl (p := fun x y => x == y) (by simp), all2_refl (p := exprSame fs fs) (fun e he => exprSame_refl hf (ha.expr e he).1 (hp.1 e he)),
    all2_refl (p := aggSame) (fun _ _ => by simp [aggSame]), all2_refl (p := patSame fs fs) (fun q hq => by simp [patSame, exprSame_refl hf (ha.pred q hq).1 (hp.2 q hq)]), all2_refl (p := colSame) (fun _ _ => by simp [colSame])]
  simp

end Go.PL
