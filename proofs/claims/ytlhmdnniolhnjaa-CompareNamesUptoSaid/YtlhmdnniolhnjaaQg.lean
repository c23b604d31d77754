/-
  The form of a program: what the check tells when it says yes. Own work.
-/
import Derived.Test.YtlhmdnniolhnjaaQf
namespace Go.PL
open Go

theorem G57_ok (a : GNode) : Sp (G57 a) (fun r => r = true → (a.Op ≠ 1 → a.Op ≠ 2 → a.Exprs.length = 0) ∧ (a.Op ≠ 8 → a.Seq.length = 0)) := by
  unfold G57
  refine Sp.bind (fun _ => True) (by repeat' (first | with_reducible exact Sp.triv | with_reducible refine Sp.guard (by omega) ?_ | with_reducible refine Sp.iteD (fun _ => ?_) (fun _ => ?_) | with_reducible refine Sp.iteN (fun _ => ?_) (fun _ => ?_) | with_reducible refine Sp.iteE (fun _ => ?_) (fun _ => ?_) | with_reducible refine Sp.iteB (fun _ => ?_) (fun _ => ?_) | with_reducible refine Sp.bind (fun _ => True) ?_ (fun _ _ => ?_))) (fun j1 _ => ?_)
  refine Sp.bind (fun _ => True) (by repeat' (first | with_reducible exact Sp.triv | with_reducible refine Sp.guard (by omega) ?_ | with_reducible refine Sp.iteD (fun _ => ?_) (fun _ => ?_) | with_reducible refine Sp.iteN (fun _ => ?_) (fun _ => ?_) | with_reducible refine Sp.iteE (fun _ => ?_) (fun _ => ?_) | with_reducible refine Sp.iteB (fun _ => ?_) (fun _ => ?_) | with_reducible refine Sp.bind (fun _ => True) ?_ (fun _ _ => ?_))) (fun j8 _ => ?_)
  refine Sp.bind (fun _ => True) (by repeat' (first | with_reducible exact Sp.triv | with_reducible refine Sp.guard (by omega) ?_ | with_reducible refine Sp.iteD (fun _ => ?_) (fun _ => ?_) | with_reducible refine Sp.iteN (fun _ => ?_) (fun _ => ?_) | with_reducible refine Sp.iteE (fun _ => ?_) (fun _ => ?_) | with_reducible refine Sp.iteB (fun _ => ?_) (fun _ => ?_) | with_reducible refine Sp.bind (fun _ => True) ?_ (fun _ _ => ?_))) (fun j12 _ => ?_)
  refine Sp.bind (fun _ => True) (by repeat' (first | with_reducible exact Sp.triv | with_reducible refine Sp.guard (by omega) ?_ | with_reducible refine Sp.iteD (fun _ => ?_) (fun _ => ?_) | with_reducible refine Sp.iteN (fun _ => ?_) (fun _ => ?_) | with_reducible refine Sp.iteE (fun _ => ?_) (fun _ => ?_) | with_reducible refine Sp.iteB (fun _ => ?_) (fun _ => ?_) | with_reducible refine Sp.bind (fun _ => True) ?_ (fun _ _ => ?_))) (fun j17 _ => ?_)
  refine Sp.bind (fun _ => True) (by repeat' (first | with_reducible exact Sp.triv | with_reducible refine Sp.guard (by omega) ?_ | with_reducible refine Sp.iteD (fun _ => ?_) (fun _ => ?_) | with_reducible refine Sp.iteN (fun _ => ?_) (fun _ => ?_) | with_reducible refine Sp.iteE (fun _ => ?_) (fun _ => ?_) | with_reducible refine Sp.iteB (fun _ => ?_) (fun _ => ?_) | with_reducible refine Sp.bind (fun _ => True) ?_ (fun _ _ => ?_))) (fun j22 _ => ?_)
  refine Sp.iteB (fun _ => Sp.ret (by simp)) (fun _ => ?_)
  refine Sp.bind (fun j => j = false → a.Op ≠ 1 → a.Op ≠ 2 → a.Exprs.length = 0) ?_ (fun j28 h28 => ?_)
  · repeat' (first | with_reducible refine Sp.iteD (fun _ => ?_) (fun _ => ?_) | with_reducible refine Sp.iteN (fun _ => ?_) (fun _ => ?_) | (refine Sp.ret (fun hd h1 h2 => ?_); first | omega | (exfalso; cases hd)))
  refine Sp.iteB (fun _ => Sp.ret (by simp)) (fun hf28 => ?_)
  refine Sp.bind (fun _ => True) (by repeat' (first | with_reducible exact Sp.triv | with_reducible refine Sp.guard (by omega) ?_ | with_reducible refine Sp.iteD (fun _ => ?_) (fun _ => ?_) | with_reducible refine Sp.iteN (fun _ => ?_) (fun _ => ?_) | with_reducible refine Sp.iteE (fun _ => ?_) (fun _ => ?_) | with_reducible refine Sp.iteB (fun _ => ?_) (fun _ => ?_) | with_reducible refine Sp.bind (fun _ => True) ?_ (fun _ _ => ?_))) (fun j41 _ => ?_)
  refine Sp.iteB (fun _ => Sp.ret (by simp)) (fun _ => ?_)
  refine Sp.bind (fun _ => True) (by repeat' (first | with_reducible exact Sp.triv | with_reducible refine Sp.guard (by omega) ?_ | with_reducible refine Sp.iteD (fun _ => ?_) (fun _ => ?_) | with_reducible refine Sp.iteN (fun _ => ?_) (fun _ => ?_) | with_reducible refine Sp.iteE (fun _ => ?_) (fun _ => ?_) | with_reducible refine Sp.iteB (fun _ => ?_) (fun _ => ?_) | with_reducible refine Sp.bind (fun _ => True) ?_ (fun _ _ => ?_))) (fun j67 _ => ?_)
  refine Sp.iteB (fun _ => Sp.ret (by simp)) (fun _ => ?_)
  refine Sp.bind (fun j => j = true → a.Op ≠ 8 → a.Seq.length = 0) ?_ (fun j78 h78 => Sp.ret (fun h => ⟨h28 hf28, h78 h⟩))
  refine Sp.iteE (fun _ => Sp.ret (by intros; omega)) (fun _ => Sp.ret (fun hd _ => ?_))
  have : (a.Seq.length : Int) = 0 := by simpa using hd
  omega

theorem G56_ok {op : Int} (h : 0 ≤ op ∧ op ≤ 8) : Sp (G56 op) (fun r => (op = 0 → r = 0) ∧ (op = 3 ∨ op = 6 ∨ op = 7 → r = 2) ∧ (op = 1 ∨ op = 2 ∨ op = 4 ∨ op = 5 ∨ op = 8 → r = 1)) := by
  have : op = 0 ∨ op = 1 ∨ op = 2 ∨ op = 3 ∨ op = 4 ∨ op = 5 ∨ op = 6 ∨ op = 7 ∨ op = 8 := by omega
  rcases this with rfl | rfl | rfl | rfl | rfl | rfl | rfl | rfl | rfl <;> exact ⟨_, rfl, by simp⟩

/-- the expressions of a node call functions only -/
def NodeCalls (n : Nat) (a : GNode) : Prop := (∀ e, e ∈ a.Exprs → CallsOk n e) ∧ (∀ p, p ∈ a.Seq → CallsOk n p.Pred)

theorem G58_ok {fs : List GFunc} (h : okL 104 okGFunc fs) {a : GNode} (ha : okGNode a) (c d : List Int) (hc : c.length ≤ 12) (hd : d.length ≤ 12) :
    Sp (G58 fs a c d) (fun r => r.2 = true → (a.Op = 1 ∨ a.Op = 2 → ∀ e, e ∈ a.Exprs → CallsOk fs.length e) ∧ (a.Op = 8 → ∀ p, p ∈ a.Seq → CallsOk fs.length p.Pred)) := by
  have oSource : okStr a.Source := ha.2.2.1
  have oExprs : okL 56 okExpr a.Exprs := ha.2.2.2.2.1
  have oKey : okL 8 inI64 a.Key := ha.2.2.2.2.2.2.2.2.1
  have oKey2 : okL 8 inI64 a.Key2 := ha.2.2.2.2.2.2.2.2.2.1
  have oAggs : okL 32 okGAgg a.Aggs := ha.2.2.2.2.2.2.2.2.2.2.2.2.2.1
  have oSeq : okL 64 okGPat a.Seq := ha.2.2.2.2.2.2.2.2.2.2.2.2.2.2.1
  have oCols : okL 40 okGCol a.Cols := ha.2.2.2.2.2.2.2.2.2.2.2.2.2.2.2
  have nE := oExprs.len; have nK := oKey.len; have nK2 := oKey2.len; have nA := oAggs.len; have nS := oSeq.len
  unfold G58
  refine Sp.iteE (fun h0 => ?_) (fun h0 => ?_)
  · refine (Sp.imp' (P := fun _ => True) ?_ (fun r _ _ => ⟨fun h => by omega, fun h => by omega⟩))
    refine Sp.bind (fun _ => True) ?_ (fun R _ => by obtain ⟨x, y⟩ := R; exact Sp.triv)
    refine Sp.bind _ (G37_ok oCols) (fun x _ => ?_)
    repeat' (first | with_reducible exact G79_tot _ oSource | with_reducible refine Sp.bind _ (G80_tot oCols) (fun _ _ => ?_) | with_reducible exact Sp.triv | with_reducible refine Sp.guard (by omega) ?_ | with_reducible refine Sp.iteD (fun _ => ?_) (fun _ => ?_) | with_reducible refine Sp.iteN (fun _ => ?_) (fun _ => ?_) | with_reducible refine Sp.iteE (fun _ => ?_) (fun _ => ?_) | with_reducible refine Sp.iteB (fun _ => ?_) (fun _ => ?_) | with_reducible refine Sp.bind (fun _ => True) ?_ (fun _ _ => ?_))
  refine Sp.iteE (fun h1 => ?_) (fun h1 => ?_)
  · refine Sp.iteN (fun _ => Sp.ret (by simp)) (fun hn => ?_)
    refine Sp.guard (by omega) ?_
    have hm : a.Exprs.getD (0 : Int).toNat default ∈ a.Exprs := getD_mem (by simp; omega)
    refine Sp.bind _ (G81_ok h c (oExprs.2 _ hm).w) (fun r hr => Sp.ret (fun hrt => ⟨fun _ e he => ?_, fun h => by omega⟩))
    have : e = a.Exprs.getD (0 : Int).toNat default := by
      obtain ⟨i, hi, rfl⟩ := List.getElem_of_mem he
      have : i = 0 := by omega
      subst this
      rw [Int.toNat_zero, getD_lt hi]
    rw [this]; exact hr hrt
  refine Sp.iteE (fun h2 => ?_) (fun h2 => ?_)
  · refine Sp.bind (fun R => match R with | .inl _ => ∀ e, e ∈ a.Exprs → CallsOk fs.length e | .inr y => y.2 = false) ?_ (fun R hR => ?_)
    · refine Sp.count (fun s => s.2) a.Exprs.length (fun s => (s.1.length : Int) = s.2 ∧ ∀ i : Nat, (i : Int) < s.2 → CallsOk fs.length (a.Exprs.getD i default)) _ (by omega) (fun s hs h0 h1 => ?_) ([], 0) ⟨rfl, fun i hi => by simp at hi; omega⟩ (Int.le_refl _) (by simp)
      obtain ⟨v1, v2⟩ := s
      simp only at hs h0 h1
      obtain ⟨hs1, hs2⟩ := hs
      subst hs1
      rw [G58_L0]
      refine Sp.iteD (fun hlt => ?_) (fun hge => Sp.ret (fun e he => ?_))
      · refine Sp.guard (by omega) ?_
        simp only [Int.toNat_natCast]
        refine Sp.bind _ (G82_ok h c [] (oExprs.2 _ (getD_mem (by omega))).w) (fun r hr => ?_)
        refine Sp.iteB (fun _ => Sp.ret rfl) (fun hrf => Sp.guard (by omega) (Sp.ret ⟨hlt, rfl, ?_, fun i hi => ?_⟩))
        · rw [wrap_id (by omega) (by omega)]; simp
        · simp only at hi
          rw [wrap_id (by omega) (by omega)] at hi
          by_cases hik : i = v1.length
          · subst hik; exact hr (by simpa using hrf)
          · exact hs2 i (by omega)
      · obtain ⟨i, hi, rfl⟩ := List.getElem_of_mem he
        have := hs2 i (by omega)
        rwa [getD_lt hi] at this
    · cases R with
      | inl b => exact Sp.ret (fun _ => ⟨fun _ => hR, fun h => by omega⟩)
      | inr y => exact Sp.ret (by simp only at hR; simp [hR])
  refine Sp.iteE (fun h3 => ?_) (fun h3 => ?_)
  · rw [G36_ok (by omega)]
    exact Sp.ret (fun _ => ⟨fun h => by omega, fun h => by omega⟩)
  refine Sp.iteE (fun h5 => ?_) (fun h5 => ?_)
  · refine (Sp.imp' (P := fun _ => True) ?_ (fun r _ _ => ⟨fun h => by omega, fun h => by omega⟩))
    refine Sp.bind (fun _ => True) ?_ (fun R _ => Sp.triv)
    refine Sp.bind _ (G83_ok (by omega)) (fun r _ => ?_)
    repeat' (first | with_reducible exact Sp.triv | with_reducible refine Sp.guard (by omega) ?_ | with_reducible refine Sp.iteD (fun _ => ?_) (fun _ => ?_) | with_reducible refine Sp.iteN (fun _ => ?_) (fun _ => ?_) | with_reducible refine Sp.iteE (fun _ => ?_) (fun _ => ?_) | with_reducible refine Sp.iteB (fun _ => ?_) (fun _ => ?_) | with_reducible refine Sp.bind (fun _ => True) ?_ (fun _ _ => ?_))
  refine Sp.bind (fun j => j = false → (∀ i, i < a.Key.length → 0 ≤ a.Key.getD i default ∧ a.Key.getD i default < (c.length : Int)) ∧ (∀ i, i < a.Key2.length → 0 ≤ a.Key2.getD i default ∧ a.Key2.getD i default < (d.length : Int))) ?_ (fun j44 h44 => ?_)
  · refine Sp.bind _ (G83_ok (by omega)) (fun r hr => ?_)
    refine Sp.iteB (fun _ => Sp.ret (by simp)) (fun hrt => ?_)
    exact Sp.bind _ (G83_ok (by omega)) (fun r' hr' => Sp.ret (fun hf => ⟨hr (by simpa using hrt), hr' (by simpa using hf)⟩))
  refine Sp.iteB (fun _ => Sp.ret (by simp)) (fun hf44 => ?_)
  obtain ⟨hk, hk2⟩ := h44 hf44
  refine Sp.bind _ (G84s0_ok (by omega) hk) (fun r53 h53 => ?_)
  refine Sp.bind (fun J => J.1.length = a.Key.length ∧ (J.2 = true → a.Op = 6 ∨ a.Op = 7)) ?_ (fun J hJ => ?_)
  · refine Sp.iteE (fun h6 => Sp.ret ⟨h53, fun _ => .inl h6⟩) (fun h6 => Sp.ret ⟨h53, fun h => .inr (by simpa using h)⟩)
  obtain ⟨j55, j56⟩ := J
  obtain ⟨hJ1, hJ2⟩ := hJ
  simp only at hJ1 hJ2
  refine Sp.iteB (fun h67 => ?_) (fun _ => ?_)
  · refine Sp.guard (by omega) (Sp.guard (by omega) ?_)
    refine Sp.bind _ (G84_ok (by omega) hk2) (fun r63 h63 => ?_)
    rw [G36_ok (by omega)]
    exact Sp.ret (fun _ => ⟨fun h => by omega, fun h => by have := hJ2 h67; omega⟩)
  refine Sp.iteE (fun h8 => ?_) (fun h8 => ?_)
  · refine Sp.bind (fun R => match R with | .inl b => b.length = a.Key.length ∧ ∀ p, p ∈ a.Seq → CallsOk fs.length p.Pred | .inr y => y.2 = false) ?_ (fun R hR => ?_)
    · refine Sp.count (fun s => s.2) a.Seq.length (fun s => s.1.length = a.Key.length ∧ ∀ i : Nat, (i : Int) < s.2 → CallsOk fs.length (a.Seq.getD i default).Pred) _ (by omega) (fun s hs h0 h1 => ?_) (j55, 0) ⟨hJ1, fun i hi => by simp at hi; omega⟩ (Int.le_refl _) (by simp)
      obtain ⟨v1, v2⟩ := s
      simp only at hs h0 h1
      obtain ⟨hs1, hs2⟩ := hs
      obtain ⟨k, rfl⟩ := Int.eq_ofNat_of_zero_le h0
      rw [G58_L1]
      refine Sp.iteD (fun hlt => ?_) (fun hge => Sp.ret ⟨hs1, fun p hp => ?_⟩)
      · have hg : okGPat (a.Seq.getD k default) := oSeq.2 _ (getD_mem (by omega))
        have hge : okExpr (a.Seq.getD k default).Pred := hg.1
        refine Sp.bind (fun J => J.1.length = a.Key.length ∧ (J.2 = false → CallsOk fs.length (a.Seq.getD k default).Pred)) ?_ (fun J hJ => ?_)
        · refine Sp.guard (by omega) (Sp.iteD (fun _ => Sp.ret ⟨hs1, by simp⟩) (fun _ => Sp.guard (by omega) (Sp.iteD (fun _ => Sp.ret ⟨hs1, by simp⟩) (fun _ => Sp.guard (by omega) ?_))))
          simp only [Int.toNat_natCast]
          exact Sp.bind _ (G81_ok h c hge.w) (fun r hr => Sp.ret ⟨hs1, fun hf => hr (by simpa using hf)⟩)
        · obtain ⟨j1, j2⟩ := J
          refine Sp.iteB (fun _ => Sp.ret rfl) (fun hf => Sp.ret ⟨hlt, rfl, hJ.1, fun i hi => ?_⟩)
          simp only at hi
          rw [wrap_id (by omega) (by omega)] at hi
          by_cases hik : i = k
          · subst hik; exact hJ.2 hf
          · exact hs2 i (by omega)
      · obtain ⟨i, hi, rfl⟩ := List.getElem_of_mem hp
        have := hs2 i (by omega)
        rwa [getD_lt hi] at this
    · cases R with
      | inl b => exact Sp.guard (by have := hR.1; omega) (Sp.ret (fun _ => ⟨fun h => by omega, fun _ => hR.2⟩))
      | inr y => exact Sp.ret (by simp only at hR; simp [hR])
  refine (Sp.imp' (P := fun _ => True) ?_ (fun r _ _ => ⟨fun h => by omega, fun h => by omega⟩))
  refine Sp.guard (by omega) ?_
  refine Sp.bind (fun _ => True) ?_ (fun R _ => ?_)
  · refine Sp.count (fun s => s.2) a.Aggs.length (fun s => (s.1.length : Int) = a.Key.length + 1 + s.2) _ (by omega) (fun s hs h0 h1 => ?_) (j55 ++ [0], 0) (by simp; omega) (Int.le_refl _) (by simp)
    obtain ⟨v1, v2⟩ := s
    simp only at hs h0 h1
    rw [G58_L2]
    refine Sp.iteD (fun hlt => ?_) (fun _ => Sp.ret trivial)
    refine Sp.bind (fun J => match J with | .inl x => x.length = v1.length + 1 | .inr y => True) ?_ (fun J hJ => ?_)
    · refine Sp.guard (by omega) ?_
      refine Sp.bind (fun J => J.1.length = v1.length ∧ (J.2 = false → (a.Aggs.getD v2.toNat default).Kind ≠ 0 → 0 ≤ (a.Aggs.getD v2.toNat default).Col ∧ (a.Aggs.getD v2.toNat default).Col < (c.length : Int))) ?_ (fun J hJ => ?_)
      · repeat' (first | with_reducible refine Sp.iteD (fun _ => ?_) (fun _ => ?_) | with_reducible refine Sp.iteE (fun _ => ?_) (fun _ => ?_) | with_reducible refine Sp.iteN (fun _ => ?_) (fun _ => ?_) | (refine Sp.ret ⟨rfl, fun hd hk => ?_⟩; first | omega | (exfalso; cases hd; done) | (have := of_decide_eq_false hd; omega)))
      obtain ⟨w, b⟩ := J
      obtain ⟨hw, hb⟩ := hJ
      simp only at hw hb
      refine Sp.iteB (fun _ => Sp.ret trivial) (fun hbf => ?_)
      have hb := hb hbf
      refine Sp.iteE (fun _ => Sp.guard (by omega) (Sp.ret (by simp [hw]))) (fun hk0 => ?_)
      have hb := hb hk0
      refine Sp.bind (fun J => J.1.length = v1.length) ?_ (fun J hJ => ?_)
      · exact Sp.iteE (fun _ => Sp.guard (by omega) (Sp.ret hw)) (fun _ => Sp.ret hw)
      obtain ⟨w', b'⟩ := J
      simp only at hJ
      refine Sp.iteB (fun _ => Sp.ret trivial) (fun _ => Sp.guard (by omega) (Sp.guard (by omega) (Sp.ret (by simp [hJ]))))
    · cases J with
      | inr y => exact Sp.ret trivial
      | inl x =>
        simp only at hJ
        refine Sp.ret ⟨hlt, rfl, ?_⟩
        simp only
        rw [wrap_id (by omega) (by omega)]; omega
  · cases R with
    | inr y => exact Sp.triv
    | inl b =>
      refine Sp.bind (fun _ => True) ?_ (fun J _ => by obtain ⟨x, y⟩ := J; exact Sp.triv)
      repeat' (first | with_reducible exact Sp.triv | with_reducible refine Sp.guard (by omega) ?_ | with_reducible refine Sp.iteD (fun _ => ?_) (fun _ => ?_) | with_reducible refine Sp.iteN (fun _ => ?_) (fun _ => ?_) | with_reducible refine Sp.iteE (fun _ => ?_) (fun _ => ?_) | with_reducible refine Sp.iteB (fun _ => ?_) (fun _ => ?_) | with_reducible refine Sp.bind (fun _ => True) ?_ (fun _ _ => ?_))

end Go.PL
