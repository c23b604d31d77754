/-
  Fit, small, fair and plain programs. Own work.
-/
import Derived.Test.YtlhmdnniolhnjaaQh
namespace Go.PL
open Go

/-- a loop over the numbers below N that leaves with false where something does not hold -/
theorem Sp.allB {b : Int → Option (Int ⊕ (Unit ⊕ Bool))} (N : Nat) (P : Nat → Prop) (hN : N ≤ 9223372036854775806)
    (h : ∀ i : Nat, i < N → Sp (b i) (fun x => match x with | .inl s' => s' = IntKind.i64.wrap ((i : Int) + 1) ∧ P i | .inr (.inr r) => r = false | .inr (.inl _) => False)) (hf : b (N : Int) = some (.inr (.inl ()))) :
    Sp (whileM b 0) (fun R => match R with | .inl _ => ∀ i, i < N → P i | .inr y => y = false) := by
  refine Sp.count (fun s => s) N (fun s => ∀ i : Nat, (i : Int) < s → P i) _ hN (fun s hs h0 h1 => ?_) 0 (by intro i hi; omega) (Int.le_refl _) (by omega)
  obtain ⟨k, rfl⟩ := Int.eq_ofNat_of_zero_le h0
  by_cases hk : k = N
  · subst hk; rw [hf]; exact Sp.ret (fun i hi => hs i (by omega))
  · refine (h k (by omega)).imp' fun x hx => ?_
    rcases x with s' | (_ | r)
    · refine ⟨by omega, hx.1, fun i hi => ?_⟩
      obtain ⟨hx1, hx2⟩ := hx
      rw [hx1, wrap_id (by omega) (by omega)] at hi
      by_cases hik : i = k
      · subst hik; exact hx2
      · exact hs i (by omega)
    · exact hx.elim
    · exact hx

theorem G24_ok {p : GProgram} (h : okGProgram p) : Sp (G24 p) (fun r => r = true → ProgFit p) := by
  unfold G24
  refine Sp.bind _ (G35_ok h) (fun r hr => ?_)
  refine Sp.iteB (fun _ => Sp.ret (by simp)) (fun hrt => ?_)
  obtain ⟨h1, h2, h3⟩ := hr (by simpa using hrt)
  have hn := h3.n
  refine Sp.bind (fun _ => True) (Sp.count0 p.Nodes.length _ (by omega) (fun i hi => ?_)) (fun R _ => by cases R <;> exact Sp.ret (fun _ => h3))
  rw [G24_L0]
  refine Sp.iteD (fun hlt => ?_) (fun _ => Sp.ret trivial)
  refine Sp.guard (by omega) ?_
  simp only [Int.toNat_natCast]
  have hc1 : okL 40 okGCol (p.Nodes.getD i default).Cols := (getD_P h.2.2 (show i < p.Nodes.length by omega)).2.2.2.2.2.2.2.2.2.2.2.2.2.2.2
  refine Sp.bind _ (G37_ok hc1) (fun x hx => ?_)
  refine Sp.guard (by omega) ?_
  refine Sp.bind _ (G37_len (l := (r.1.Nodes.getD i default).Cols) (by have := getD_P h2 (show i < r.1.Nodes.length by omega); omega)) (fun y hy => ?_)
  rw [G36_ok (by have := hc1.len; omega)]
  simp only [Option.bind_some]
  refine Sp.iteB (fun _ => Sp.ret trivial) (fun _ => Sp.ret ⟨by omega, rfl⟩)

theorem G38_tot (n : Int) : Sp (G38 n) (fun _ => True) := by
  unfold G38
  repeat' (first | with_reducible exact Sp.triv | with_reducible refine Sp.guard (by omega) ?_ | with_reducible refine Sp.iteD (fun _ => ?_) (fun _ => ?_) | with_reducible refine Sp.iteN (fun _ => ?_) (fun _ => ?_) | with_reducible refine Sp.iteE (fun _ => ?_) (fun _ => ?_) | with_reducible refine Sp.iteB (fun _ => ?_) (fun _ => ?_) | with_reducible refine Sp.bind (fun _ => True) ?_ (fun _ _ => ?_))

theorem G25_ok {p : GProgram} (h : okGProgram p) : Sp (G25 p) (fun _ => True) := by
  have hn := h.2.len
  unfold G25
  refine Sp.bind (fun _ => True) (by repeat' (first | with_reducible exact Sp.triv | with_reducible refine Sp.guard (by omega) ?_ | with_reducible refine Sp.iteD (fun _ => ?_) (fun _ => ?_) | with_reducible refine Sp.iteN (fun _ => ?_) (fun _ => ?_) | with_reducible refine Sp.iteE (fun _ => ?_) (fun _ => ?_) | with_reducible refine Sp.iteB (fun _ => ?_) (fun _ => ?_) | with_reducible refine Sp.bind (fun _ => True) ?_ (fun _ _ => ?_))) (fun j _ => Sp.iteB (fun _ => Sp.triv) (fun _ => ?_))
  refine Sp.bind (fun _ => True) (Sp.count0 p.Nodes.length _ (by omega) (fun i hi => ?_)) (fun R _ => by cases R <;> exact Sp.triv)
  rw [G25_L0]
  refine Sp.iteD (fun hlt => ?_) (fun _ => Sp.ret trivial)
  refine Sp.guard (by omega) ?_
  simp only [Int.toNat_natCast]
  have hI : okL 8 inI64 (p.Nodes.getD i default).In := (getD_P h.2.2 (show i < p.Nodes.length by omega)).2.1
  have hIn := hI.len
  refine Sp.bind (fun _ => True) (by repeat' (first | with_reducible refine Sp.bind _ (G38_tot _) (fun _ _ => ?_) | with_reducible exact Sp.triv | with_reducible refine Sp.guard (by omega) ?_ | with_reducible refine Sp.iteD (fun _ => ?_) (fun _ => ?_) | with_reducible refine Sp.iteN (fun _ => ?_) (fun _ => ?_) | with_reducible refine Sp.iteE (fun _ => ?_) (fun _ => ?_) | with_reducible refine Sp.iteB (fun _ => ?_) (fun _ => ?_) | with_reducible refine Sp.bind (fun _ => True) ?_ (fun _ _ => ?_))) (fun j _ => Sp.iteB (fun _ => Sp.ret trivial) (fun _ => ?_))
  refine Sp.bind (fun R => match R with | .inl x => x = (i : Int) | .inr y => True) (Sp.count0 (p.Nodes.getD i default).In.length _ (by omega) (fun k hk => ?_)) (fun R hR => ?_)
  · rw [G25_L1]
    simp only [Int.toNat_natCast]
    refine Sp.iteD (fun hlt => ?_) (fun _ => Sp.ret rfl)
    refine Sp.bind (fun _ => True) (by repeat' (first | with_reducible exact Sp.triv | with_reducible refine Sp.guard (by omega) ?_ | with_reducible refine Sp.iteD (fun _ => ?_) (fun _ => ?_) | with_reducible refine Sp.iteN (fun _ => ?_) (fun _ => ?_) | with_reducible refine Sp.iteE (fun _ => ?_) (fun _ => ?_) | with_reducible refine Sp.iteB (fun _ => ?_) (fun _ => ?_) | with_reducible refine Sp.bind (fun _ => True) ?_ (fun _ _ => ?_))) (fun j _ => Sp.iteB (fun _ => Sp.ret trivial) (fun _ => Sp.ret ⟨by omega, rfl⟩))
  · cases R with
    | inl x => simp only at hR; subst hR; exact Sp.ret ⟨by omega, rfl⟩
    | inr y => exact Sp.ret trivial

theorem G39_ok (n a b : Int) : G39 n a b = some (decide (n ≥ a) && decide (n ≤ b)) := by
  unfold G39
  by_cases h : n ≥ a <;> simp [h]

theorem G26_ok (a : GNode) : Sp (G26 a) (fun r => r = true → a.Op = 4 → a.Kind = 1 → 1 ≤ a.Step) := by
  unfold G26
  refine Sp.iteE (fun h4 => ?_) (fun h4 => ?_)
  · rw [G39_ok]
    simp only [Option.bind_some]
    refine Sp.iteB (fun _ => Sp.ret (by simp)) (fun _ => ?_)
    refine Sp.iteE (fun hk => Sp.ret (by omega)) (fun _ => ?_)
    refine Sp.iteE (fun hk => ?_) (fun hk => ?_)
    · refine Sp.iteD (fun _ => Sp.ret (by simp)) (fun hs => Sp.guard (by omega) (Sp.ret (fun _ _ _ => by omega)))
    · refine Sp.imp' (P := fun _ => True) ?_ (fun _ _ _ _ h => absurd h hk)
      refine Sp.iteE (fun _ => ?_) (fun _ => Sp.triv)
      rw [G39_ok]
      exact Sp.triv
  · refine Sp.imp' (P := fun _ => True) ?_ (fun _ _ _ h => absurd h h4)
    simp only [G39_ok, Option.bind_some]
    repeat' (first | with_reducible exact Sp.triv | with_reducible refine Sp.guard (by omega) ?_ | with_reducible refine Sp.iteD (fun _ => ?_) (fun _ => ?_) | with_reducible refine Sp.iteN (fun _ => ?_) (fun _ => ?_) | with_reducible refine Sp.iteE (fun _ => ?_) (fun _ => ?_) | with_reducible refine Sp.iteB (fun _ => ?_) (fun _ => ?_) | with_reducible refine Sp.bind (fun _ => True) ?_ (fun _ _ => ?_))

/-- fit for the reference -/
structure Fit (p : GProgram) : Prop extends ProgFit p where
  step : ∀ i, i < p.Nodes.length → (p.Nodes.getD i default).Op = 4 → (p.Nodes.getD i default).Kind = 1 → 1 ≤ (p.Nodes.getD i default).Step

theorem G14_ok {p : GProgram} (h : okGProgram p) : Sp (G14 p) (fun r => r = true → Fit p) := by
  unfold G14
  refine Sp.bind (fun j => j = false → ProgFit p) ?_ (fun j hj => ?_)
  · refine Sp.bind _ (G24_ok h) (fun r hr => Sp.iteB (fun _ => Sp.ret (by simp)) (fun hrt => ?_))
    exact Sp.bind _ (G25_ok h) (fun _ _ => Sp.ret (fun _ => hr (by simpa using hrt)))
  refine Sp.iteB (fun _ => Sp.ret (by simp)) (fun hjf => ?_)
  have hp := hj hjf
  have hn := hp.n
  refine Sp.bind _ (Sp.allB p.Nodes.length (fun i => (p.Nodes.getD i default).Op = 4 → (p.Nodes.getD i default).Kind = 1 → 1 ≤ (p.Nodes.getD i default).Step) (by omega) (fun i hi => ?_) ?_) (fun R hR => ?_)
  · rw [G14_L0]
    refine Sp.iteD (fun _ => ?_) (fun h => absurd h (by omega))
    refine Sp.guard (by omega) ?_
    simp only [Int.toNat_natCast]
    refine Sp.bind _ (G26_ok _) (fun r hr => ?_)
    exact Sp.iteB (fun _ => Sp.ret rfl) (fun hrt => Sp.ret ⟨rfl, hr (by simpa using hrt)⟩)
  · rw [G14_L0, if_neg (by simp)]
  · cases R with
    | inl x => exact Sp.ret (fun _ => { hp with step := hR })
    | inr y => exact Sp.ret (by simp only at hR; simp [hR])

theorem G60_tot (l : List Int) {e : Expr} (h : okW e) : Sp (G60 l e) (fun _ => True) := by
  refine okW.ind (M := fun e => Sp (G60 l e) (fun _ => True)) (fun e _ hn _ ih => ?_) h
  rw [G60_eq]
  unfold G60_B
  refine Sp.bind (fun b => b.length = e.Args.length) ?_ (fun b hb => ?_)
  · refine Sp.count (fun s => s.2) e.Args.length (fun s => (s.1.length : Int) = s.2) _ (by omega) (fun s hs h0 h1 => ?_) ([], 0) rfl (Int.le_refl _) (by simp)
    obtain ⟨v1, v2⟩ := s
    simp only at hs h0 h1
    subst hs
    rw [G60_L0]
    refine Sp.iteD (fun hlt => ?_) (fun _ => Sp.ret (by omega))
    refine Sp.guard (by omega) ?_
    simp only [Int.toNat_natCast]
    refine Sp.bind _ (ih _ (getD_mem (by omega))) (fun r _ => Sp.guard (by omega) (Sp.ret ⟨hlt, rfl, ?_⟩))
    rw [wrap_id (by omega) (by omega)]; simp
  refine Sp.bind (fun J => J.1 = b ∧ (J.2 = true → b.length = 3)) ?_ (fun J hJ => ?_)
  · refine Sp.iteE (fun _ => Sp.ret ⟨rfl, fun hd => ?_⟩) (fun _ => Sp.ret ⟨rfl, by simp⟩)
    have : (b.length : Int) = 3 := by simpa using hd
    omega
  obtain ⟨j11, j12⟩ := J
  obtain ⟨hJ1, hJ2⟩ := hJ
  simp only at hJ1 hJ2
  subst hJ1
  refine Sp.iteB (fun h3 => ?_) (fun _ => ?_)
  · have := hJ2 h3
    repeat' (first | with_reducible exact Sp.triv | with_reducible refine Sp.guard (by omega) ?_ | with_reducible refine Sp.iteD (fun _ => ?_) (fun _ => ?_) | with_reducible refine Sp.iteN (fun _ => ?_) (fun _ => ?_) | with_reducible refine Sp.iteE (fun _ => ?_) (fun _ => ?_) | with_reducible refine Sp.iteB (fun _ => ?_) (fun _ => ?_) | with_reducible refine Sp.bind (fun _ => True) ?_ (fun _ _ => ?_))
  refine Sp.bind (fun _ => True) ?_ (fun b26 _ => ?_)
  · refine Sp.count (fun s => s.2.2) j11.length (fun s => s.2.1 = j11) _ (by omega) (fun s hs h0 h1 => ?_) (1, j11, 0) rfl (Int.le_refl _) (by simp)
    obtain ⟨v1, v2, v3⟩ := s
    simp only at hs h0 h1
    subst hs
    rw [G60_L1]
    refine Sp.iteD (fun hlt => ?_) (fun _ => Sp.ret trivial)
    exact Sp.guard (by omega) (Sp.guard (by omega) (Sp.ret ⟨hlt, rfl, rfl⟩))
  refine Sp.bind (fun j => j = true → 0 ≤ e.N ∧ e.N < (l.length : Int)) ?_ (fun j hj => ?_)
  · refine Sp.iteE (fun _ => Sp.iteD (fun _ => Sp.ret (fun hd => ?_)) (fun _ => Sp.ret (by simp))) (fun _ => Sp.ret (by simp))
    have := of_decide_eq_true hd
    omega
  refine Sp.bind (fun _ => True) (Sp.iteB (fun h => Sp.guard (hj h) Sp.triv) (fun _ => Sp.triv)) (fun _ _ => Sp.triv)

theorem G41_tot {fs : List GFunc} (h : okL 104 okGFunc fs) {e : Expr} (he : okW e) : Sp (G41 fs e) (fun _ => True) := by
  have hn := h.len
  unfold G41
  refine Sp.bind (fun b => b.length = fs.length) ?_ (fun b hb => Sp.bind _ (G60_tot _ he) (fun _ _ => Sp.triv))
  refine Sp.count (fun s => s.2) fs.length (fun s => (s.1.length : Int) = s.2) _ (by omega) (fun s hs h0 h1 => ?_) ([], 0) rfl (Int.le_refl _) (by simp)
  obtain ⟨v1, v2⟩ := s
  simp only at hs h0 h1
  subst hs
  rw [G41_L0]
  refine Sp.iteD (fun hlt => ?_) (fun _ => Sp.ret (by omega))
  refine Sp.guard (by omega) ?_
  simp only [Int.toNat_natCast]
  refine Sp.bind _ (G60_tot _ (h.2 _ (getD_mem (by omega))).2.2.2.w) (fun r _ => Sp.guard (by omega) (Sp.ret ⟨hlt, rfl, ?_⟩))
  rw [wrap_id (by omega) (by omega)]; simp

theorem G40_tot {e : Expr} (h : okW e) : Sp (G40 e) (fun _ => True) := by obtain ⟨n, hn, _⟩ := parts_eq h; rw [hn]; exact Sp.triv
theorem G29_tot {e : Expr} (h : okW e) : Sp (G29 e) (fun _ => True) := by obtain ⟨n, _, hn⟩ := G86_G29 h; rw [hn]; exact Sp.triv

theorem G27_tot {fs : List GFunc} (h : okL 104 okGFunc fs) {a : GNode} (ha : okGNode a) : Sp (G27 fs a) (fun _ => True) := by
  have oExprs : okL 56 okExpr a.Exprs := ha.2.2.2.2.1
  have oSeq : okL 64 okGPat a.Seq := ha.2.2.2.2.2.2.2.2.2.2.2.2.2.2.1
  have hn := h.len; have hE := oExprs.len; have hS := oSeq.len
  unfold G27
  refine Sp.bind (fun _ => True) (Sp.count0 fs.length _ (by omega) (fun i hi => ?_)) (fun R _ => by
    cases R with
    | inr y => exact Sp.triv
    | inl x =>
      refine Sp.bind (fun _ => True) (Sp.count0 a.Exprs.length _ (by omega) (fun i hi => ?_)) (fun R _ => by
        cases R with
        | inr y => exact Sp.triv
        | inl x =>
          refine Sp.bind (fun _ => True) (Sp.count0 a.Seq.length _ (by omega) (fun i hi => ?_)) (fun R _ => by
            cases R with
            | inr y => exact Sp.triv
            | inl x => repeat' (first | with_reducible exact Sp.triv | with_reducible refine Sp.guard (by omega) ?_ | with_reducible refine Sp.iteD (fun _ => ?_) (fun _ => ?_) | with_reducible refine Sp.iteN (fun _ => ?_) (fun _ => ?_) | with_reducible refine Sp.iteE (fun _ => ?_) (fun _ => ?_) | with_reducible refine Sp.iteB (fun _ => ?_) (fun _ => ?_) | with_reducible refine Sp.bind (fun _ => True) ?_ (fun _ _ => ?_)))
          rw [G27_L2]
          refine Sp.bind (fun j => j = true → i < a.Seq.length) ?_ (fun j hj => Sp.iteB (fun hjt => ?_) (fun _ => Sp.ret trivial))
          · exact Sp.iteD (fun _ => Sp.ret (fun _ => by omega)) (fun _ => Sp.ret (by simp))
          have hlt := hj hjt
          have hw : okExpr (a.Seq.getD i default).Pred := (getD_P oSeq.2 hlt).1
          have hw := hw.w
          simp only [Int.toNat_natCast]
          refine Sp.bind (fun _ => True) (by repeat' (first | with_reducible refine Sp.bind _ (G40_tot hw) (fun _ _ => ?_) | with_reducible refine Sp.bind _ (G29_tot hw) (fun _ _ => ?_) | with_reducible refine Sp.bind _ (G41_tot h hw) (fun _ _ => ?_) | with_reducible exact Sp.triv | with_reducible refine Sp.guard (by omega) ?_ | with_reducible refine Sp.iteD (fun _ => ?_) (fun _ => ?_) | with_reducible refine Sp.iteN (fun _ => ?_) (fun _ => ?_) | with_reducible refine Sp.iteE (fun _ => ?_) (fun _ => ?_) | with_reducible refine Sp.iteB (fun _ => ?_) (fun _ => ?_) | with_reducible refine Sp.bind (fun _ => True) ?_ (fun _ _ => ?_))) (fun _ _ => Sp.iteB (fun _ => Sp.ret trivial) (fun _ => Sp.ret ⟨hlt, rfl⟩)))
      rw [G27_L1]
      refine Sp.bind (fun j => j = true → i < a.Exprs.length) ?_ (fun j hj => Sp.iteB (fun hjt => ?_) (fun _ => Sp.ret trivial))
      · exact Sp.iteD (fun _ => Sp.ret (fun _ => by omega)) (fun _ => Sp.ret (by simp))
      have hlt := hj hjt
      have hw : okW (a.Exprs.getD i default) := (getD_P oExprs.2 hlt).w
      simp only [Int.toNat_natCast]
      refine Sp.bind (fun _ => True) (by repeat' (first | with_reducible refine Sp.bind _ (G40_tot hw) (fun _ _ => ?_) | with_reducible refine Sp.bind _ (G29_tot hw) (fun _ _ => ?_) | with_reducible refine Sp.bind _ (G41_tot h hw) (fun _ _ => ?_) | with_reducible exact Sp.triv | with_reducible refine Sp.guard (by omega) ?_ | with_reducible refine Sp.iteD (fun _ => ?_) (fun _ => ?_) | with_reducible refine Sp.iteN (fun _ => ?_) (fun _ => ?_) | with_reducible refine Sp.iteE (fun _ => ?_) (fun _ => ?_) | with_reducible refine Sp.iteB (fun _ => ?_) (fun _ => ?_) | with_reducible refine Sp.bind (fun _ => True) ?_ (fun _ _ => ?_))) (fun _ _ => Sp.iteB (fun _ => Sp.ret trivial) (fun _ => Sp.ret ⟨hlt, rfl⟩)))
  rw [G27_L0]
  refine Sp.bind (fun j => j = true → i < fs.length) ?_ (fun j hj => Sp.iteB (fun hjt => ?_) (fun _ => Sp.ret trivial))
  · exact Sp.iteD (fun _ => Sp.ret (fun _ => by omega)) (fun _ => Sp.ret (by simp))
  have hlt := hj hjt
  have hw : okW (fs.getD i default).Body := (getD_P h.2 hlt).2.2.2.w
  simp only [Int.toNat_natCast]
  refine Sp.bind (fun _ => True) (by repeat' (first | with_reducible refine Sp.bind _ (G40_tot hw) (fun _ _ => ?_) | with_reducible exact Sp.triv | with_reducible refine Sp.guard (by omega) ?_ | with_reducible refine Sp.iteD (fun _ => ?_) (fun _ => ?_) | with_reducible refine Sp.iteN (fun _ => ?_) (fun _ => ?_) | with_reducible refine Sp.iteE (fun _ => ?_) (fun _ => ?_) | with_reducible refine Sp.iteB (fun _ => ?_) (fun _ => ?_) | with_reducible refine Sp.bind (fun _ => True) ?_ (fun _ _ => ?_))) (fun _ _ => Sp.iteB (fun _ => Sp.ret trivial) (fun _ => Sp.ret ⟨hlt, rfl⟩))

theorem G15_tot {p : GProgram} (h : okGProgram p) : Sp (G15 p) (fun _ => True) := by
  have hn := h.2.len
  unfold G15
  refine Sp.bind (fun _ => True) (Sp.count0 p.Nodes.length _ (by omega) (fun i hi => ?_)) (fun R _ => by cases R <;> exact Sp.triv)
  rw [G15_L0]
  refine Sp.iteD (fun hlt => ?_) (fun _ => Sp.ret trivial)
  refine Sp.guard (by omega) ?_
  simp only [Int.toNat_natCast]
  refine Sp.bind _ (G27_tot h.1 (getD_P h.2.2 (show i < p.Nodes.length by omega))) (fun r _ => ?_)
  refine Sp.iteB (fun _ => Sp.ret trivial) (fun _ => Sp.ret ⟨by omega, rfl⟩)

theorem G16_tot {p : GProgram} (h : Fit p) (a b : Int) : Sp (G16 p a b) (fun _ => True) := by
  have hn := h.n
  unfold G16
  refine Sp.bind (fun _ => True) ?_ (fun R _ => by cases R <;> exact Sp.triv)
  refine Sp.count (fun s => s.2) p.Nodes.length (fun s => (s.1.length : Int) = s.2) _ (by omega) (fun s hs h0 h1 => ?_) ([], 0) rfl (Int.le_refl _) (by simp)
  obtain ⟨v1, v2⟩ := s
  simp only at hs h0 h1
  subst hs
  rw [G16_L0]
  refine Sp.iteD (fun hlt => ?_) (fun _ => Sp.ret trivial)
  have hf := h.nodes v1.length (by omega)
  have hst := h.step v1.length (by omega)
  have hop := hf.op
  have har := hf.arity
  have hin := hf.ins
  refine Sp.guard (by omega) ?_
  simp only [Int.toNat_natCast, Int.toNat_zero, show (1 : Int).toNat = 1 from rfl]
  have i0 : ∀ k, k < (p.Nodes.getD v1.length default).In.length → ((p.Nodes.getD v1.length default).In.getD k default).toNat < v1.length := fun k hk => by have := hin k hk; omega
  refine Sp.bind (fun J => J.1 = v1) ?_ (fun J hJ => ?_)
  · refine Sp.iteD (fun hpos => ?_) (fun _ => Sp.ret rfl)
    exact Sp.guard (by omega) (Sp.guard (hin 0 (by omega)) (Sp.guard (i0 0 (by omega)) (Sp.ret rfl)))
  obtain ⟨j6, j7⟩ := J
  simp only at hJ
  subst hJ
  refine Sp.bind (fun J => J.1 = j6) ?_ (fun J hJ => ?_)
  · refine Sp.iteE (fun h3 => ?_) (fun h3 => ?_)
    · have : (p.Nodes.getD j6.length default).In.length = 2 := har.2.1 (.inl h3)
      exact Sp.guard (by omega) (Sp.guard (hin 1 (by omega)) (Sp.guard (i0 1 (by omega)) (Sp.ret rfl)))
    refine Sp.bind (fun J => J.1 = j6) ?_ (fun J hJ => by obtain ⟨x, y⟩ := J; exact Sp.ret hJ)
    refine Sp.iteE (fun h6 => ?_) (fun h6 => ?_)
    · have : (p.Nodes.getD j6.length default).In.length = 2 := har.2.1 (.inr (.inl h6))
      exact Sp.guard (by omega) (Sp.guard (hin 1 (by omega)) (Sp.guard (i0 1 (by omega)) (Sp.ret rfl)))
    refine Sp.bind (fun J => J.1 = j6) ?_ (fun J hJ => by obtain ⟨x, y⟩ := J; exact Sp.ret hJ)
    refine Sp.iteE (fun h4 => ?_) (fun h4 => Sp.ret rfl)
    refine Sp.bind (fun J => J.1 = j6) ?_ (fun J hJ => by obtain ⟨x, y⟩ := J; exact Sp.ret hJ)
    refine Sp.iteE (fun hk => Sp.guard (by have := hst h4 hk; omega) (Sp.ret rfl)) (fun _ => Sp.ret rfl)
  obtain ⟨j14, j15⟩ := J
  simp only at hJ
  subst hJ
  refine Sp.iteD (fun _ => Sp.ret trivial) (fun _ => Sp.guard (by simp only; omega) (Sp.ret ⟨hlt, rfl, ?_⟩))
  rw [wrap_id (by omega) (by omega)]; simp

theorem G6_ok {p : GProgram} (h : okGProgram p) (a : Int) : Sp (G6 p a) (fun r => r = true → Fit p ∧ p.Nodes.length ≤ 10) := by
  unfold G6
  refine Sp.bind (fun j => j = false → p.Nodes.length ≤ 10) ?_ (fun j hj => ?_)
  · exact Sp.iteD (fun _ => Sp.ret (by simp)) (fun _ => Sp.ret (fun _ => by omega))
  refine Sp.iteB (fun _ => Sp.ret (by simp)) (fun hjf => ?_)
  refine Sp.bind (fun j => j = true → Fit p) ?_ (fun j6 h6 => Sp.ret (fun h => ⟨h6 h, hj hjf⟩))
  refine Sp.bind _ (G14_ok h) (fun r hr => Sp.iteB (fun hrt => ?_) (fun _ => Sp.ret (by simp)))
  have hfit := hr hrt
  refine Sp.bind _ (G15_tot h) (fun r' _ => Sp.iteB (fun _ => ?_) (fun _ => Sp.ret (by simp)))
  exact Sp.bind _ (G16_tot hfit a 1000) (fun _ _ => Sp.ret (fun _ => hfit))

end Go.PL
