/-
  CompareNames. Own work.
-/
import Derived.Test.YtlhmdnniolhnjaaQl
import Derived.KernelRfl
namespace Go.PL
open Go

theorem F5_run : F5 60 = some true := by kernel_rfl
theorem G5_ok : G5 = some true := G5_cv.of_run 60 F5_run

/-- another name -/
def renF (f : GFunc) : GFunc := GFunc.mk (f.Name ++ (⟨#[120]⟩ : ByteArray)) f.Params f.Result f.Body
theorem bodiesM_ren (fs : List GFunc) : bodiesM (fs.map renF) = bodiesM fs := by
  unfold bodiesM
  rw [List.foldl_map]
  rfl
theorem inlineM_ren (fs : List GFunc) (e : Expr) : inlineM (fs.map renF) e = inlineM fs e := by
  unfold inlineM
  rw [bodiesM_ren]
theorem renF_get {fs : List GFunc} {i : Nat} (h : i < fs.length) : ((fs.map renF).getD i default).Body = (fs.getD i default).Body := by
  rw [getD_lt (by simpa using h), getD_lt h, List.getElem_map]; rfl
theorem FuncsOk.ren {fs : List GFunc} (h : FuncsOk fs) : FuncsOk (fs.map renF) where
  w f hf := by
    obtain ⟨g, hg, rfl⟩ := List.mem_map.1 hf
    exact h.w g hg
  calls i hi := by
    have hi' : i < fs.length := by simpa using hi
    rw [renF_get hi']; exact h.calls i hi'
  n := by simpa using h.n

/-- only names of aggregates and names and units of columns differ -/
structure RenAC (a : GNode) (ag : List GAgg) (co : List GCol) : Prop where
  la : ag.length = a.Aggs.length
  ka : ∀ i, (ag.getD i default).Kind = (a.Aggs.getD i default).Kind ∧ (ag.getD i default).Col = (a.Aggs.getD i default).Col
  lc : co.length = a.Cols.length
  kc : ∀ i, (co.getD i default).Type_ = (a.Cols.getD i default).Type_
def renN (a : GNode) (ag : List GAgg) (co : List GCol) : GNode := GNode.mk a.Op a.In a.Source a.Schema a.Exprs a.Kind a.Size a.Step a.Key a.Key2 a.Before a.After a.Keep ag a.Seq co
def Ren (a b : GNode) : Prop := ∃ ag co, b = renN a ag co ∧ RenAC a ag co

theorem all2_right {A B : Type} [Inhabited A] [Inhabited B] {p q : A → B → Bool} {l : List A} {r r' : List B} (hl : r'.length = r.length) (h : ∀ x i, p x (r'.getD i default) = q x (r.getD i default)) : all2 p l r' = all2 q l r := by
  unfold all2
  simp only [hl, h]

theorem fieldsM_ren {fs gs : List GFunc} {x a b : GNode} (h : Ren a b) : fieldsM fs (gs.map renF) x b = fieldsM fs gs x a := by
  obtain ⟨ag, co, rfl, hr⟩ := h
  have e1 : ∀ e e', exprSame fs (gs.map renF) e e' = exprSame fs gs e e' := fun e e' => by unfold exprSame; rw [inlineM_ren]
  unfold fieldsM renN
  rw [all2_right (p := exprSame fs (gs.map renF)) (q := exprSame fs gs) rfl (fun e i => e1 _ _), all2_right (p := aggSame) (q := aggSame) hr.la (fun e i => by unfold aggSame; rw [(hr.ka i).1, (hr.ka i).2]),
    all2_right (p := patSame fs (gs.map renF)) (q := patSame fs gs) rfl (fun e i => by unfold patSame; rw [e1]), all2_right (p := colSame) (q := colSame) hr.lc (fun e i => by unfold colSame; rw [hr.kc i])]
theorem ownM_ren {a b : GNode} (h : Ren a b) : ownM b = ownM a := by
  obtain ⟨ag, co, rfl, hr⟩ := h
  rfl

/-- the other program -/
structure RenP (p q : GProgram) : Prop where
  f : q.Funcs = p.Funcs.map renF
  n : q.Nodes.length = p.Nodes.length
  r : ∀ i, i < p.Nodes.length → Ren (p.Nodes.getD i default) (q.Nodes.getD i default)

theorem RenP.fit {p q : GProgram} (h : RenP p q) (hp : ProgFit p) : ProgFit q where
  funcs := by rw [h.f]; exact hp.funcs.ren
  pos := by rw [h.n]; exact hp.pos
  n := by rw [h.n]; exact hp.n
  nodes i hi := by
    rw [h.n] at hi
    obtain ⟨ag, co, he, hr⟩ := h.r i hi
    have := hp.nodes i hi
    rw [he, h.f, List.length_map]
    exact ⟨this.calls, this.op, this.ins, this.arity⟩
theorem RenP.w {p q : GProgram} (h : RenP p q) (hw : ∀ {i : Nat}, i < p.Nodes.length → NodeW p.Funcs (p.Nodes.getD i default)) {i : Nat} (hi : i < q.Nodes.length) : NodeW q.Funcs (q.Nodes.getD i default) := by
  rw [h.n] at hi
  obtain ⟨ag, co, he, hr⟩ := h.r i hi
  have := hw hi
  rw [he, h.f]
  exact ⟨fun e he => by rw [List.length_map]; exact this.expr e he, fun e he => by rw [List.length_map]; exact this.pred e he, this.nI, this.nE, this.nK, this.nK2, by have := hr.la; have h2 := this; rw [show (renN (p.Nodes.getD i default) ag co).Aggs = ag from rfl, hr.la]; exact (hw hi).nA,
    this.nS, by rw [show (renN (p.Nodes.getD i default) ag co).Cols = co from rfl, hr.lc]; exact this.nC⟩

theorem same_ren {A p q : GProgram} (h : RenP p q) (hp : ProgFit p) : ∀ (d i k : Nat), k < p.Nodes.length → sameN A q d i k = sameN A p d i k := by
  intro d
  induction d with
  | zero => intro i k _; rfl
  | succ d ih =>
    intro i k hk
    simp only [sameN]
    rw [h.f, fieldsM_ren (h.r k hk)]
    obtain ⟨ag, co, he, hr⟩ := h.r k hk
    have hin : (q.Nodes.getD k default).In = (p.Nodes.getD k default).In := by rw [he]; rfl
    rw [hin]
    congr 1
    refine all2_congr (fun v _ hv => ?_)
    have hin := (hp.nodes k hk).ins v hv
    exact ih _ _ (by omega)
theorem state_ren {A p q : GProgram} (h : RenP p q) (hp : ProgFit p) (i : Nat) {k : Nat} (hk : k < p.Nodes.length) : stateM A q i k = stateM A p i k := by
  unfold stateM
  obtain ⟨ag, co, he, hr⟩ := h.r k hk
  rw [ownM_ren (h.r k hk)]
  have e1 : (q.Nodes.getD k default).In = (p.Nodes.getD k default).In := by rw [he]; rfl
  have e2 : (q.Nodes.getD k default).Op = (p.Nodes.getD k default).Op := by rw [he]; rfl
  have e3 : (q.Nodes.getD k default).Key = (p.Nodes.getD k default).Key := by rw [he]; rfl
  have e4 : (q.Nodes.getD k default).Key2 = (p.Nodes.getD k default).Key2 := by rw [he]; rfl
  rw [e1, e2, e3, e4]
  congr 5
  refine all2_congr (fun v _ hv => ?_)
  have hin := (hp.nodes k hk).ins v hv
  exact same_ren h hp _ _ _ (by omega)
theorem Matches.ren {A p q : GProgram} (h : RenP p q) (hp : ProgFit p) {ms : List GMatch} (hm : Matches A p ms) : Matches A q ms where
  len := by rw [h.n]; exact hm.len
  all k hk := by
    rw [h.n] at hk
    obtain ⟨r, s, h1, h2, h3⟩ := hm.all k hk
    exact ⟨r, s, h1.congr (fun v _ => (same_ren h hp _ _ _ hk).symm), h2.congr (fun v _ => (state_ren h hp v hk).symm), h3⟩
theorem Matches.uniq {A p : GProgram} {ms ms' : List GMatch} (h : Matches A p ms) (h' : Matches A p ms') : ms.length = ms'.length ∧ ∀ i, i < ms.length → ms.getD i default = ms'.getD i default := by
  refine ⟨by rw [h.len, h'.len], fun i hi => ?_⟩
  rw [h.len] at hi
  obtain ⟨r, s, h1, h2, h3⟩ := h.all i hi
  obtain ⟨r', s', h1', h2', h3'⟩ := h'.all i hi
  rw [h3, h3', h1.uniq h1', h2.uniq h2']

/-! ### how the other program is made -/
theorem size_app (a b : ByteArray) : (a ++ b).size = a.size + b.size := ByteArray.size_append
theorem G4_L0_ok {p : GProgram} (h : okL 104 okGFunc p.Funcs) (r1 : Bool) (ms : List GMatch) : whileM (G4_L0 p r1 ms) ([], 0) = some (p.Funcs.map renF, r1, ms) := by
  have hn := h.len
  refine Sp.get ?_
  refine Sp.count (fun s => s.2) p.Funcs.length (fun s => s.1 = (p.Funcs.take s.2.toNat).map renF) _ (by omega) (fun s hs h0 h1 => ?_) ([], 0) rfl (Int.le_refl _) (by simp)
  obtain ⟨v14, v15⟩ := s
  simp only at hs h0 h1
  obtain ⟨i, rfl⟩ := Int.eq_ofNat_of_zero_le h0
  simp only [Int.toNat_natCast] at hs
  rw [G4_L0]
  simp only [Int.toNat_natCast]
  refine Sp.iteD (fun hlt => ?_) (fun hge => Sp.ret ?_)
  · have hf : okStr (p.Funcs.getD i default).Name := (getD_P h.2 (show i < p.Funcs.length by omega)).1
    have hlen : v14.length = i := by rw [hs, List.length_map, List.length_take]; omega
    refine Sp.guard (by omega) (Sp.guard ?_ (Sp.guard (by omega) (Sp.ret ⟨hlt, rfl, ?_⟩)))
    · have : (⟨#[120]⟩ : ByteArray).size = 1 := rfl
      have : (p.Funcs.getD i default).Name.size ≤ 1048576 := hf
      omega
    · simp only
      rw [wrap_id (by omega) (by omega), show ((i : Int) + 1).toNat = i + 1 by omega, List.take_succ_eq_append_getElem (show i < p.Funcs.length by omega), List.map_append, ← hs, getD_lt (show i < p.Funcs.length by omega)]
      rfl
  · rw [hs, List.take_of_length_le (by omega)]

theorem getD_set {A : Type} [Inhabited A] {l : List A} {k : Nat} {x : A} (i : Nat) (h : k < l.length) : (l.set k x).getD i default = if i = k then x else l.getD i default := by
  by_cases hik : i = k
  · subst hik; rw [if_pos rfl]; simp [List.getD_eq_getElem?_getD, h]
  · have hki : ¬ k = i := fun e => hik e.symm
    rw [if_neg hik]; simp [List.getD_eq_getElem?_getD, List.getElem?_set, hki]

theorem G4_L2_ok {p : GProgram} {i : Nat} (v27 : Bool) (v28 : List GMatch) (v38 : List GFunc) (v39 : List GNode) (v40 : List GAgg) (co : List GCol) (hn : co.length ≤ 1048576) :
    Sp (whileM (G4_L2 p v27 v28 (i : Int)) (v38, v39, v40, co, 0)) (fun x => ∃ co', x = (v38, v39, (p.Nodes.getD i default).Op, (p.Nodes.getD i default).In, (p.Nodes.getD i default).Source, (p.Nodes.getD i default).Schema, (p.Nodes.getD i default).Exprs, (p.Nodes.getD i default).Kind, (p.Nodes.getD i default).Size, (p.Nodes.getD i default).Step, (p.Nodes.getD i default).Key, (p.Nodes.getD i default).Key2, (p.Nodes.getD i default).Before, (p.Nodes.getD i default).After, (p.Nodes.getD i default).Keep, v40, (p.Nodes.getD i default).Seq, co', v27, v28, (i : Int)) ∧
      co'.length = co.length ∧ ∀ j, (co'.getD j default).Type_ = (co.getD j default).Type_) := by
  refine Sp.count (fun s => s.2.2.2.2) co.length (fun s => s.1 = v38 ∧ s.2.1 = v39 ∧ s.2.2.1 = v40 ∧ s.2.2.2.1.length = co.length ∧ ∀ j, (s.2.2.2.1.getD j default).Type_ = (co.getD j default).Type_) _ (by omega) (fun s hs h0 h1 => ?_) _ ⟨rfl, rfl, rfl, rfl, fun _ => rfl⟩ (Int.le_refl _) (by simp)
  obtain ⟨w38, w39, w40, w41, w42⟩ := s
  obtain ⟨rfl, rfl, rfl, hl, ht⟩ := hs
  simp only at h0 h1 hl ht
  obtain ⟨k, rfl⟩ := Int.eq_ofNat_of_zero_le h0
  rw [G4_L2]
  simp only [Int.toNat_natCast]
  refine Sp.iteD (fun hlt => ?_) (fun hge => Sp.ret ⟨w41, rfl, hl, ht⟩)
  have hk : k < w41.length := by omega
  refine Sp.guard ?_ (Sp.guard (by omega) (Sp.guard (by omega) (Sp.guard (by rw [List.length_set]; omega) (Sp.guard (by rw [List.length_set]; omega) (Sp.ret ⟨by omega, rfl, rfl, rfl, rfl, ?_, fun j => ?_⟩)))))
  · have e1 : (⟨#[122]⟩ : ByteArray).size = 1 := rfl
    have e2 : ∀ n : Int, (bstr ([n].length) (eF cU8 [n])).size = 1 := fun n => by simp [bstr]
    rw [e1, e2]; omega
  · simp only [List.length_set]; exact hl
  · simp only
    rw [getD_set j (by rw [List.length_set]; exact hk)]
    by_cases hjk : j = k
    · subst hjk
      rw [if_pos rfl]
      simp only
      rw [getD_set j hk, if_pos rfl]
      exact ht j
    · rw [if_neg hjk, getD_set j hk, if_neg hjk]; exact ht j

theorem G4_L3_ok {b45 : Int} {b46 : List Int} {b47 : ByteArray} {b48 : Int} {b49 : List Expr} {b50 b51 b52 : Int} {b53 b54 : List Int} {b55 b56 b57 : Int} {b59 : List GPat} {b61 : Bool} {b62 : List GMatch} {b63 : Int}
    (v72 : List GFunc) (v73 : List GNode) (ag : List GAgg) (v75 : List GCol) (hn : ag.length ≤ 1048576) (hs : ∀ x, x ∈ ag → okGAgg x) :
    Sp (whileM (G4_L3 b45 b46 b47 b48 b49 b50 b51 b52 b53 b54 b55 b56 b57 b59 b61 b62 b63) (v72, v73, ag, v75, 0)) (fun x => ∃ ag', x = (v72, v73, b45, b46, b47, b48, b49, b50, b51, b52, b53, b54, b55, b56, b57, ag', b59, v75, b61, b62, b63) ∧
      ag'.length = ag.length ∧ ∀ j, (ag'.getD j default).Kind = (ag.getD j default).Kind ∧ (ag'.getD j default).Col = (ag.getD j default).Col) := by
  refine Sp.count (fun s => s.2.2.2.2) ag.length (fun s => s.1 = v72 ∧ s.2.1 = v73 ∧ s.2.2.2.1 = v75 ∧ s.2.2.1.length = ag.length ∧ (∀ j, (s.2.2.1.getD j default).Kind = (ag.getD j default).Kind ∧ (s.2.2.1.getD j default).Col = (ag.getD j default).Col) ∧
    ∀ j : Nat, s.2.2.2.2 ≤ (j : Int) → s.2.2.1.getD j default = ag.getD j default) _ (by omega) (fun s hs' h0 h1 => ?_) _ ⟨rfl, rfl, rfl, rfl, fun _ => ⟨rfl, rfl⟩, fun _ _ => rfl⟩ (Int.le_refl _) (by simp)
  obtain ⟨w1, w2, w3, w4, w5⟩ := s
  obtain ⟨rfl, rfl, rfl, hl, ht, hu⟩ := hs'
  simp only at h0 h1 hl ht hu
  obtain ⟨k, rfl⟩ := Int.eq_ofNat_of_zero_le h0
  rw [G4_L3]
  simp only [Int.toNat_natCast]
  refine Sp.iteD (fun hlt => ?_) (fun hge => Sp.ret ⟨w3, rfl, hl, ht⟩)
  have hk : k < w3.length := by omega
  refine Sp.guard (by omega) (Sp.guard (by omega) (Sp.guard ?_ (Sp.guard (by omega) (Sp.guard (by omega) (Sp.ret ⟨by omega, rfl, rfl, rfl, rfl, ?_, fun j => ?_, fun j hj => ?_⟩)))))
  · have e1 : (⟨#[120]⟩ : ByteArray).size = 1 := rfl
    have e2 : okStr (ag.getD k default).Name := (getD_P hs (show k < ag.length by omega)).2.2
    have e3 : (ag.getD k default).Name.size ≤ 1048576 := e2
    rw [hu k (by omega), e1]; omega
  · simp only [List.length_set]; exact hl
  · simp only
    rw [getD_set j hk]
    by_cases hjk : j = k
    · subst hjk; rw [if_pos rfl]; exact ht j
    · rw [if_neg hjk]; exact ht j
  · simp only at hj ⊢
    rw [wrap_id (by omega) (by omega)] at hj
    rw [getD_set j hk, if_neg (by omega)]
    exact hu j (by omega)

theorem G4_L1_ok {p : GProgram} (h : okGProgram p) (fs : List GFunc) (b : Bool) (ms : List GMatch) :
    Sp (whileM (G4_L1 p) (fs, [], b, ms, 0)) (fun x => ∃ ns, x = (fs, ns, b, ms) ∧ ns.length = p.Nodes.length ∧ ∀ i, i < p.Nodes.length → Ren (p.Nodes.getD i default) (ns.getD i default)) := by
  have hn := h.2.len
  refine Sp.count (fun s => s.2.2.2.2) p.Nodes.length (fun s => s.1 = fs ∧ s.2.2.1 = b ∧ s.2.2.2.1 = ms ∧ (s.2.1.length : Int) = s.2.2.2.2 ∧ ∀ i : Nat, (i : Int) < s.2.2.2.2 → Ren (p.Nodes.getD i default) (s.2.1.getD i default)) _ (by omega) (fun s hs h0 h1 => ?_)
    _ ⟨rfl, rfl, rfl, rfl, fun i hi => by simp at hi; omega⟩ (Int.le_refl _) (by simp)
  obtain ⟨v25, v26, v27, v28, v29⟩ := s
  obtain ⟨rfl, rfl, rfl, hl, hr⟩ := hs
  simp only at h0 h1 hl hr
  subst hl
  rw [G4_L1]
  simp only [Int.toNat_natCast]
  refine Sp.iteD (fun hlt => ?_) (fun hge => Sp.ret ⟨v26, rfl, by omega, fun i hi => hr i (by omega)⟩)
  have hok := getD_P h.2.2 (show v26.length < p.Nodes.length by omega)
  have oA : okL 32 okGAgg (p.Nodes.getD v26.length default).Aggs := hok.2.2.2.2.2.2.2.2.2.2.2.2.2.1
  have oC : okL 40 okGCol (p.Nodes.getD v26.length default).Cols := hok.2.2.2.2.2.2.2.2.2.2.2.2.2.2.2
  have nA := oA.len; have nC := oC.len
  refine Sp.guard (by omega) (Sp.guard (by simp only [List.length_nil]; omega) (Sp.guard (by simp only [List.length_nil]; omega) ?_))
  simp only [List.nil_append]
  refine Sp.bind _ (G4_L2_ok v27 v28 v25 v26 (p.Nodes.getD v26.length default).Aggs (p.Nodes.getD v26.length default).Cols nC) (fun x hx => ?_)
  obtain ⟨co, rfl, hc1, hc2⟩ := hx
  simp only
  refine Sp.bind _ (G4_L3_ok v25 v26 (p.Nodes.getD v26.length default).Aggs co nA oA.2) (fun x hx => ?_)
  obtain ⟨ag, rfl, ha1, ha2⟩ := hx
  simp only
  refine Sp.guard (by omega) (Sp.ret ⟨hlt, rfl, rfl, rfl, rfl, ?_, fun i hi => ?_⟩)
  · simp only; rw [wrap_id (by omega) (by omega)]; simp
  · simp only at hi ⊢
    rw [wrap_id (by omega) (by omega)] at hi
    by_cases hil : i = v26.length
    · subst hil
      rw [getD_append_last]
      exact ⟨ag, co, rfl, ha1, ha2, hc1, hc2⟩
    · rw [getD_append_left (by omega)]
      exact hr i (by omega)

/-- CompareNames is true -/
theorem G4_ok {p q : GProgram} (h : okGProgram p) (h' : okGProgram q) : G4 p q = some true := by
  refine Sp.get ?_
  unfold G4
  rw [G5_ok]
  simp only [Option.bind_some]
  refine Sp.bind (fun j => j = false → ProgFit p ∧ ProgFit q) ?_ (fun j hj => ?_)
  · refine Sp.bind _ (G6_ok h 2) (fun r hr => Sp.iteB (fun _ => Sp.ret (by simp)) (fun hrt => ?_))
    exact Sp.bind _ (G6_ok h' 2) (fun r' hr' => Sp.ret (fun hf => ⟨(hr (by simpa using hrt)).1.toProgFit, (hr' (by simpa using hf)).1.toProgFit⟩))
  refine Sp.iteB (fun _ => Sp.ret rfl) (fun hjf => ?_)
  obtain ⟨hp, hq⟩ := hj hjf
  have hn := hq.n
  refine Sp.bind _ (G8_ok (Pair.of hp hq h h')) (fun ms hms => ?_)
  rw [G4_L0_ok h'.1]
  simp only [Option.bind_some]
  refine Sp.bind _ (G4_L1_ok h' _ true ms) (fun x hx => ?_)
  obtain ⟨ns, rfl, hl, hr⟩ := hx
  simp only
  have hren : RenP q (GProgram.mk (q.Funcs.map renF) ns) := ⟨rfl, hl, hr⟩
  have hp2 : Pair p (GProgram.mk (q.Funcs.map renF) ns) := ⟨hp, hren.fit hq, nodes_w hp h, hren.w (nodes_w hq h')⟩
  have hms2 := hms.ren hren hq
  refine Sp.bind (fun j => j = true) ?_ (fun j hj => by subst hj; exact Sp.ret rfl)
  rw [if_pos trivial]
  refine Sp.bind _ (G8_ok hp2) (fun ms' hms' => ?_)
  obtain ⟨u1, u2⟩ := hms'.uniq hms2
  rw [G11_ok (by rw [hms'.len, hren.n]; omega) u1 u2, G10_ok hp2 hms2]
  exact Sp.ret rfl

theorem F4_run {p q : GProgram} (h : okGProgram p) (h' : okGProgram q) : ∃ n, F4 n p q = some true := (G4_cv p q).run (G4_ok h h')

end Go.PL
