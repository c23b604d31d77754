/-
  Columns and fitness of a program. Own work.
-/
import Derived.Test.YtlhmdnniolhnjaaQg
namespace Go.PL
open Go

theorem getD_P {A : Type} [Inhabited A] {P : A → Prop} {l : List A} (h : ∀ x, x ∈ l → P x) {i : Nat} (hi : i < l.length) : P (l.getD i default) := h _ (getD_mem hi)

theorem G35_L1_ok (p : GProgram) {i : Nat} (j19 : List GFunc) (j20 j21 : List GNode) (j22 : List (List Int)) (hj : j22.length = i) (hj' : ∀ x, x ∈ j22 → x.length ≤ 12) (hin : okL 8 inI64 (p.Nodes.getD i default).In) :
    Sp (whileM (G35_L1 p i) (j19, j20, j21, j22, [], [], 0)) (fun R => match R with
      | .inl x => ∃ c d : List Int, x = (j19, j20, j21, (p.Nodes.getD i default).Op, (p.Nodes.getD i default).In, (p.Nodes.getD i default).Source, (p.Nodes.getD i default).Schema, (p.Nodes.getD i default).Exprs, (p.Nodes.getD i default).Kind, (p.Nodes.getD i default).Size, (p.Nodes.getD i default).Step, (p.Nodes.getD i default).Key, (p.Nodes.getD i default).Key2, (p.Nodes.getD i default).Before, (p.Nodes.getD i default).After, (p.Nodes.getD i default).Keep, (p.Nodes.getD i default).Aggs, (p.Nodes.getD i default).Seq, (p.Nodes.getD i default).Cols, j22, (i : Int), c, d) ∧ c.length ≤ 12 ∧ d.length ≤ 12 ∧
          ∀ k, k < (p.Nodes.getD i default).In.length → 0 ≤ (p.Nodes.getD i default).In.getD k default ∧ (p.Nodes.getD i default).In.getD k default < (i : Int)
      | .inr y => y.2 = false) := by
  have hl := hin.len
  refine Sp.count (fun s => s.2.2.2.2.2.2) (p.Nodes.getD i default).In.length (fun s => s.1 = j19 ∧ s.2.1 = j20 ∧ s.2.2.1 = j21 ∧ s.2.2.2.1 = j22 ∧ s.2.2.2.2.1.length ≤ 12 ∧ s.2.2.2.2.2.1.length ≤ 12 ∧
    ∀ k : Nat, (k : Int) < s.2.2.2.2.2.2 → 0 ≤ (p.Nodes.getD i default).In.getD k default ∧ (p.Nodes.getD i default).In.getD k default < (i : Int)) _ (by omega) (fun s hs h0 h1 => ?_) _ ⟨rfl, rfl, rfl, rfl, by simp, by simp, fun k hk => by simp at hk; omega⟩ (Int.le_refl _) (by simp)
  obtain ⟨v34, v35, v36, v37, v38, v39, v40⟩ := s
  obtain ⟨rfl, rfl, rfl, rfl, h38, h39, hk⟩ := hs
  have hj : v37.length = i := hj
  have hj' : ∀ x, x ∈ v37 → x.length ≤ 12 := hj'
  simp only at h0 h1 h38 h39 hk
  obtain ⟨k, rfl⟩ := Int.eq_ofNat_of_zero_le h0
  rw [G35_L1]
  simp only [Int.toNat_natCast]
  refine Sp.iteD (fun hlt => ?_) (fun hge => Sp.ret ⟨v38, v39, rfl, h38, h39, fun k' hk' => hk k' (by omega)⟩)
  refine Sp.bind (fun J => ∃ b, J = (v34, v35, v36, v37, b) ∧ (b = false → 0 ≤ (p.Nodes.getD i default).In.getD k default ∧ (p.Nodes.getD i default).In.getD k default < (i : Int))) ?_ (fun J hJ => ?_)
  · refine Sp.guard (by omega) (Sp.iteD (fun _ => Sp.ret ⟨_, rfl, by simp⟩) (fun _ => Sp.guard (by omega) (Sp.ret ⟨_, rfl, fun hd => ?_⟩)))
    have := of_decide_eq_false hd
    omega
  obtain ⟨b, rfl, hb⟩ := hJ
  simp only
  refine Sp.iteB (fun _ => Sp.ret rfl) (fun hbf => ?_)
  obtain ⟨q1, q2⟩ := hb hbf
  have hmem := getD_P hj' (i := ((p.Nodes.getD i default).In.getD k default).toNat) (by omega)
  refine Sp.bind (fun J => ∃ c d : List Int, J = (v34, v35, v36, v37, c, d) ∧ c.length ≤ 12 ∧ d.length ≤ 12) ?_ (fun J hJ => ?_)
  · refine Sp.iteE (fun _ => ?_) (fun _ => ?_)
    · exact Sp.guard (by omega) (Sp.guard (by omega) (Sp.guard (by omega) (Sp.ret ⟨_, _, rfl, hmem, h39⟩)))
    · exact Sp.guard (by omega) (Sp.guard (by omega) (Sp.guard (by omega) (Sp.ret ⟨_, _, rfl, h38, hmem⟩)))
  obtain ⟨c, d, rfl, hc, hd⟩ := hJ
  refine Sp.ret ⟨hlt, rfl, rfl, rfl, rfl, rfl, hc, hd, fun k' hk' => ?_⟩
  simp only at hk'
  rw [wrap_id (by omega) (by omega)] at hk'
  by_cases hkk : k' = k
  · subst hkk; exact ⟨q1, q2⟩
  · exact hk k' (by omega)

theorem G35_L2_ok {b44 : Int} {b45 : List Int} {b46 : ByteArray} {b47 : Int} {b48 : List Expr} {b49 b50 b51 : Int} {b52 b53 : List Int} {b54 b55 b56 : Int} {b57 : List GAgg} {b58 : List GPat} {b59 : List GCol} {b61 : Int} {r93 : List Int × Bool}
    (j95 : List GFunc) (j96 j97 : List GNode) (j98 : List (List Int)) (hr : r93.1.length ≤ 12) :
    Sp (whileM (G35_L2 b44 b45 b46 b47 b48 b49 b50 b51 b52 b53 b54 b55 b56 b57 b58 b59 b61 r93) (j95, j96, j97, j98, [], 0)) (fun x => ∃ cs, x = (j95, j96, j97, b44, b45, b46, b47, b48, b49, b50, b51, b52, b53, b54, b55, b56, b57, b58, b59, j98, b61, cs) ∧ cs.length ≤ 12) := by
  refine Sp.count (fun s => s.2.2.2.2.2) r93.1.length (fun s => s.1 = j95 ∧ s.2.1 = j96 ∧ s.2.2.1 = j97 ∧ s.2.2.2.1 = j98 ∧ (s.2.2.2.2.1.length : Int) = s.2.2.2.2.2) _ (by omega) (fun s hs h0 h1 => ?_) _ ⟨rfl, rfl, rfl, rfl, rfl⟩ (Int.le_refl _) (by simp)
  obtain ⟨v1, v2, v3, v4, v5, v6⟩ := s
  obtain ⟨rfl, rfl, rfl, rfl, h5⟩ := hs
  simp only at h0 h1 h5
  subst h5
  rw [G35_L2]
  refine Sp.iteD (fun hlt => ?_) (fun hge => Sp.ret ⟨v5, rfl, by omega⟩)
  refine Sp.bind _ (G59_dd (by omega)) (fun r hr' => ?_)
  refine Sp.guard ?_ ?_
  · have : ((⟨#[99]⟩ : ByteArray)).size = 1 := rfl
    omega
  refine Sp.bind (fun J => ∃ x y z, J = (v1, v2, v3, x, y, z, v4, v5)) ?_ (fun J hJ => ?_)
  · refine Sp.iteE (fun _ => Sp.guard (by omega) (Sp.ret ⟨_, _, _, rfl⟩)) (fun _ => Sp.ret ⟨_, _, _, rfl⟩)
  obtain ⟨x, y, z, rfl⟩ := hJ
  refine Sp.guard (by omega) (Sp.guard (by omega) (Sp.ret ⟨hlt, rfl, rfl, rfl, rfl, rfl, ?_⟩))
  simp only
  rw [wrap_id (by omega) (by omega)]; simp

/-- a node stands well at its place -/
structure NodeFit (n i : Nat) (a : GNode) : Prop where
  calls : NodeCalls n a
  op : 0 ≤ a.Op ∧ a.Op ≤ 8
  ins : ∀ k, k < a.In.length → 0 ≤ a.In.getD k default ∧ a.In.getD k default < (i : Int)
  arity : (a.Op = 0 → a.In.length = 0) ∧ (a.Op = 3 ∨ a.Op = 6 ∨ a.Op = 7 → a.In.length = 2) ∧ (a.Op = 1 ∨ a.Op = 2 ∨ a.Op = 4 ∨ a.Op = 5 ∨ a.Op = 8 → a.In.length = 1)

structure ProgFit (p : GProgram) : Prop where
  funcs : FuncsOk p.Funcs
  pos : 1 ≤ p.Nodes.length
  n : p.Nodes.length ≤ 40
  nodes : ∀ i, i < p.Nodes.length → NodeFit p.Funcs.length i (p.Nodes.getD i default)

theorem G35_ok {p : GProgram} (h : okGProgram p) : Sp (G35 p) (fun r => r.2 = true → r.1.Nodes.length = p.Nodes.length ∧ (∀ c, c ∈ r.1.Nodes → c.Cols.length ≤ 12) ∧ ProgFit p) := by
  obtain ⟨hf, hnod⟩ := h
  unfold G35
  refine Sp.bind (fun j => j = false → (1 ≤ p.Nodes.length ∧ p.Nodes.length ≤ 40) ∧ FuncsOk p.Funcs) ?_ (fun j hj => ?_)
  · refine Sp.iteD (fun _ => Sp.ret (by simp)) (fun h1 => Sp.iteD (fun _ => Sp.ret (by simp)) (fun h2 => ?_))
    refine Sp.bind _ (G55_ok hf) (fun r hr => Sp.ret (fun hrf => ?_))
    have := hr (by simpa using hrf)
    exact ⟨⟨by omega, by omega⟩, fun f hfm => okFunc.w (hf.2 f hfm), this.2, by omega⟩
  refine Sp.iteB (fun _ => Sp.ret (by simp)) (fun hjf => ?_)
  obtain ⟨⟨hp1, hp2⟩, hfo⟩ := hj hjf
  refine Sp.bind (fun R => match R with | .inl x => x.2.2.length = p.Nodes.length ∧ (∀ c, c ∈ x.2.2 → c.Cols.length ≤ 12) ∧ ∀ i, i < p.Nodes.length → NodeFit p.Funcs.length i (p.Nodes.getD i default) | .inr y => y.2 = false) ?_ (fun R hR => ?_)
  rotate_left
  · cases R with
    | inl x => obtain ⟨b14, b15, b16⟩ := x; exact Sp.ret (fun _ => ⟨hR.1, hR.2.1, hfo, hp1, hp2, hR.2.2⟩)
    | inr y => exact Sp.ret (by simp only at hR; simp [hR])
  refine Sp.count (fun s => s.2.2.2.2) p.Nodes.length (fun s => (s.2.2.1.length : Int) = s.2.2.2.2 ∧ (s.2.2.2.1.length : Int) = s.2.2.2.2 ∧ (∀ x, x ∈ s.2.2.2.1 → x.length ≤ 12) ∧ (∀ c, c ∈ s.2.2.1 → c.Cols.length ≤ 12) ∧
    ∀ i : Nat, (i : Int) < s.2.2.2.2 → NodeFit p.Funcs.length i (p.Nodes.getD i default)) _ (by omega) (fun s hs h0 h1 => ?_) _ ⟨rfl, rfl, by simp, by simp, fun i hi => by simp at hi; omega⟩ (Int.le_refl _) (by simp)
  obtain ⟨v9, v10, v11, v12, v13⟩ := s
  obtain ⟨h11, h12, h12', h11', hfit⟩ := hs
  simp only at h0 h1 h11 h12 h12' h11' hfit
  obtain ⟨i, rfl⟩ := Int.eq_ofNat_of_zero_le h0
  rw [G35_L0]
  simp only [Int.toNat_natCast]
  refine Sp.iteD (fun hlt => ?_) (fun hge => Sp.ret ⟨by simp only; omega, h11', fun k hk => hfit k (by omega)⟩)
  have hok : okGNode (p.Nodes.getD i default) := getD_P hnod.2 (by omega)
  have hokI : okL 8 inI64 (p.Nodes.getD i default).In := hok.2.1
  refine Sp.guard (by omega) ?_
  refine Sp.bind (fun J => ∃ b, J = (v9, v10, v11, v12, b) ∧ (b = false → (0 ≤ (p.Nodes.getD i default).Op ∧ (p.Nodes.getD i default).Op ≤ 8) ∧ (((p.Nodes.getD i default).Op ≠ 1 → (p.Nodes.getD i default).Op ≠ 2 → (p.Nodes.getD i default).Exprs.length = 0) ∧ ((p.Nodes.getD i default).Op ≠ 8 → (p.Nodes.getD i default).Seq.length = 0)) ∧
      (((p.Nodes.getD i default).Op = 0 → (p.Nodes.getD i default).In.length = 0) ∧ ((p.Nodes.getD i default).Op = 3 ∨ (p.Nodes.getD i default).Op = 6 ∨ (p.Nodes.getD i default).Op = 7 → (p.Nodes.getD i default).In.length = 2) ∧ ((p.Nodes.getD i default).Op = 1 ∨ (p.Nodes.getD i default).Op = 2 ∨ (p.Nodes.getD i default).Op = 4 ∨ (p.Nodes.getD i default).Op = 5 ∨ (p.Nodes.getD i default).Op = 8 → (p.Nodes.getD i default).In.length = 1)))) ?_ (fun J hJ => ?_)
  · refine Sp.iteD (fun _ => Sp.ret ⟨_, rfl, by simp⟩) (fun o1 => Sp.iteD (fun _ => Sp.ret ⟨_, rfl, by simp⟩) (fun o2 => ?_))
    refine Sp.bind _ (G56_ok (by omega)) (fun r hr => ?_)
    refine Sp.iteN (fun _ => Sp.ret ⟨_, rfl, by simp⟩) (fun har => ?_)
    refine Sp.bind _ (G57_ok (p.Nodes.getD i default)) (fun b hb => Sp.ret ⟨_, rfl, fun hbf => ⟨by omega, hb (by simpa using hbf), fun h => ?_, fun h => ?_, fun h => ?_⟩⟩)
    · have := hr.1 h; omega
    · have := hr.2.1 h; omega
    · have := hr.2.2 h; omega
  obtain ⟨b, rfl, hb⟩ := hJ
  simp only
  refine Sp.iteB (fun _ => Sp.ret rfl) (fun hbf => ?_)
  obtain ⟨g1, g2, g3⟩ := hb hbf
  have hL1 := G35_L1_ok p (i := i) v9 v10 v11 v12 (by omega) h12' hokI
  refine Sp.bind _ hL1 (fun R hR => ?_)
  cases R with
  | inr y => exact Sp.ret hR
  | inl x =>
    obtain ⟨c, d, rfl, hc, hd, hins⟩ := hR
    simp only
    refine Sp.bind _ (G58_ok hf hok c d hc hd) (fun r93 hr => ?_)
    refine Sp.bind (fun J => ∃ b, J = (v9, v10, v11, v12, b) ∧ (b = false → r93.2 = true ∧ r93.1.length ≤ 12)) ?_ (fun J hJ => ?_)
    · refine Sp.iteB (fun _ => Sp.ret ⟨_, rfl, by simp⟩) (fun hrt => Sp.iteD (fun _ => Sp.ret ⟨_, rfl, by simp⟩) (fun _ => Sp.ret ⟨_, rfl, fun hd => ?_⟩))
      have := of_decide_eq_false hd
      exact ⟨by simpa using hrt, by omega⟩
    obtain ⟨b', rfl, hb'⟩ := hJ
    simp only
    refine Sp.iteB (fun _ => Sp.ret rfl) (fun hbf' => ?_)
    obtain ⟨hr2, hr1⟩ := hb' hbf'
    obtain ⟨hcall1, hcall2⟩ := hr hr2
    refine Sp.guard (by omega) ?_
    refine Sp.bind _ (G35_L2_ok v9 v10 v11 (v12 ++ [r93.1]) hr1) (fun x hx => ?_)
    obtain ⟨cs, rfl, hcs⟩ := hx
    simp only
    refine Sp.guard (by omega) (Sp.ret ⟨hlt, rfl, ?_, ?_, ?_, ?_, fun k hk => ?_⟩)
    · simp only; rw [wrap_id (by omega) (by omega)]; simp; omega
    · simp only; rw [wrap_id (by omega) (by omega)]; simp; omega
    · intro x hx
      rcases List.mem_append.1 hx with hx | hx
      · exact h12' x hx
      · simp at hx; subst hx; exact hr1
    · intro x hx
      rcases List.mem_append.1 hx with hx | hx
      · exact h11' x hx
      · simp at hx; subst hx; exact hcs
    · simp only at hk
      rw [wrap_id (by omega) (by omega)] at hk
      by_cases hki : i = k
      · subst hki
        refine ⟨⟨fun e he => ?_, fun q hq => ?_⟩, g1, hins, g3⟩
        · by_cases ho : (p.Nodes.getD i default).Op = 1 ∨ (p.Nodes.getD i default).Op = 2
          · exact hcall1 ho e he
          · have := g2.1 (by omega) (by omega)
            rw [List.length_eq_zero_iff.1 this] at he
            cases he
        · by_cases ho : (p.Nodes.getD i default).Op = 8
          · exact hcall2 ho q hq
          · have := g2.2 ho
            rw [List.length_eq_zero_iff.1 this] at hq
            cases hq
      · exact hfit k (by omega)

end Go.PL
