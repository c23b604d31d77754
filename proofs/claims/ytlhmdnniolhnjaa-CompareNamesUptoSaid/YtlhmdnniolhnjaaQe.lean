/-
  Types of expressions: that they come to something, and that calls name functions. Own work.
-/
import Derived.Test.YtlhmdnniolhnjaaQd
import Derived.Test.YtlhmdnniolhnjaaGc
namespace Go.PL
open Go

theorem CallsOk.mk' {n : Nat} {e : Expr} (h : e.Op = 22 → 0 ≤ e.N ∧ e.N < (n : Int)) (hl : ∀ x, x ∈ e.Args → CallsOk n x) : CallsOk n e := by cases e; exact .mk h hl

theorem Sp.count0 {R : Type} {b : Int → Option (Int ⊕ R)} (N : Nat) (Q : R → Prop) (hN : N ≤ 9223372036854775806)
    (h : ∀ i : Nat, i ≤ N → Sp (b i) (fun x => match x with | .inl s' => i < N ∧ s' = IntKind.i64.wrap ((i : Int) + 1) | .inr r => Q r)) : Sp (whileM b 0) Q := by
  refine Sp.count (fun s => s) N (fun _ => True) Q hN (fun s _ h0 h1 => ?_) 0 trivial (Int.le_refl _) (by omega)
  obtain ⟨k, rfl⟩ := Int.eq_ofNat_of_zero_le h0
  refine (h k (by omega)).imp' fun y hy => ?_
  cases y with
  | inl s' => exact ⟨by have := hy.1; omega, hy.2, trivial⟩
  | inr r => exact hy

def numM (op : Int) : Int := if 0 ≤ op ∧ op ≤ 5 then 0 else if op = 6 ∨ op = 7 ∨ op = 20 then 1 else if op = 21 then 3 else if 8 ≤ op ∧ op ≤ 19 then 2 else -1
theorem ops23 {op : Int} (h : 0 ≤ op ∧ op ≤ 22) : op = 0 ∨ op = 1 ∨ op = 2 ∨ op = 3 ∨ op = 4 ∨ op = 5 ∨ op = 6 ∨ op = 7 ∨ op = 8 ∨ op = 9 ∨ op = 10 ∨ op = 11 ∨ op = 12 ∨ op = 13 ∨ op = 14 ∨ op = 15 ∨ op = 16 ∨ op = 17 ∨ op = 18 ∨ op = 19 ∨ op = 20 ∨ op = 21 ∨ op = 22 := by omega
theorem G95_ok (op : Int) : G95 op = some (numM op) := by
  by_cases h : 0 ≤ op ∧ op ≤ 22
  · rcases ops23 h with rfl | rfl | rfl | rfl | rfl | rfl | rfl | rfl | rfl | rfl | rfl | rfl | rfl | rfl | rfl | rfl | rfl | rfl | rfl | rfl | rfl | rfl | rfl <;> rfl
  · have e : numM op = -1 := by unfold numM; rw [if_neg (by omega), if_neg (by omega), if_neg (by omega), if_neg (by omega)]
    rw [e]
    unfold G95
    have n0 : (op == 0) = false := by simp; omega
    have n1 : (op == 1) = false := by simp; omega
    have n2 : (op == 2) = false := by simp; omega
    have n3 : (op == 3) = false := by simp; omega
    have n4 : (op == 4) = false := by simp; omega
    have n5 : (op == 5) = false := by simp; omega
    have n6 : (op == 6) = false := by simp; omega
    have n7 : (op == 7) = false := by simp; omega
    have n20 : (op == 20) = false := by simp; omega
    have n21 : (op == 21) = false := by simp; omega
    have n22 : (op == 22) = false := by simp; omega
    simp only [n0, n1, n2, n3, n4, n5, n6, n7, n20, n21, n22, Bool.false_eq_true, if_false, Option.bind_some]
    by_cases h5 : op > 5
    · simp [h5, show ¬ op < 21 by omega]
    · simp [h5]

theorem G77_ok (n : Int) : G77 n = some (decide (n ≥ 0) && decide (n < 3)) := by
  unfold G77
  by_cases h : n ≥ 0 <;> simp [h]

theorem G94_ok (fs : List GFunc) (n : Int) (l : List Int) (hl : l.length ≤ 9223372036854775806) : Sp (G94 fs n l) (fun r => r.2 = true → 0 ≤ n ∧ n < (fs.length : Int)) := by
  unfold G94
  by_cases h1 : n < 0
  · simp [h1]; exact Sp.ret (by simp)
  · by_cases h2 : n ≥ (fs.length : Int)
    · simp [h1, h2]; exact Sp.ret (by simp)
    · simp only [h1, h2, decide_false, Bool.false_eq_true, if_false, Option.bind_some]
      rw [if_pos (by constructor <;> omega)]
      refine Sp.iteN (fun _ => Sp.ret (by simp)) (fun hlen => ?_)
      refine Sp.bind (fun _ => True) ?_ (fun R _ => ?_)
      · refine Sp.count0 l.length _ hl (fun i hi => ?_)
        rw [G94_L0]
        refine Sp.iteD (fun hlt => ?_) (fun _ => Sp.ret trivial)
        refine Sp.guard (by constructor <;> omega) (Sp.guard (by constructor <;> omega) ?_)
        refine Sp.iteN (fun _ => Sp.ret trivial) (fun _ => Sp.ret ⟨by omega, rfl⟩)
      · rcases R with _ | y
        · exact Sp.ret fun _ => ⟨by omega, by omega⟩
        · exact Sp.ret fun _ => ⟨by omega, by omega⟩

theorem G96_tot (l : List Int) (n : Int) : Sp (G96 l n) (fun _ => True) := by
  unfold G96
  by_cases h1 : n < 0
  · simp [h1]; exact Sp.triv
  · by_cases h2 : n ≥ (l.length : Int)
    · simp [h1, h2]; exact Sp.triv
    · simp only [h1, h2, decide_false, Bool.false_eq_true, if_false, Option.bind_some]
      rw [if_pos (by constructor <;> omega), if_pos (by constructor <;> omega), G77_ok]
      exact Sp.triv

theorem G87_ok (fs : List GFunc) (c p : List Int) {e : Expr} (h : okW e) : Sp (G87 fs c p e) (fun r => r.2 = true → CallsOk fs.length e) := by
  refine okW.ind (M := fun e => Sp (G87 fs c p e) (fun r => r.2 = true → CallsOk fs.length e)) (fun e _ hn _ ih => ?_) h
  rw [G87_eq]
  unfold G87_B
  let f : Expr → Option Int := fun x => match G87 fs c p x with | some (t, true) => some t | _ => none
  have hlp := while_mapM (R := Int × Bool) e.Args (b := G87_L0 G87 fs c p e) f (0, false) (by omega) (fun acc i hi ha => ?_) (fun acc ha => ?_)
  · rw [hlp]
    cases hm : e.Args.mapM f with
    | none => exact Sp.ret (by simp)
    | some l =>
      obtain ⟨hll, _⟩ := mapM_rel hm
      have hargs : ∀ x, x ∈ e.Args → CallsOk fs.length x := by
        intro x hx
        obtain ⟨i, hi, rfl⟩ := List.getElem_of_mem hx
        obtain ⟨-, hg⟩ := mapM_get hm
        have := hg i e.Args[i] l[i] (List.getElem?_eq_getElem hi) (List.getElem?_eq_getElem (by omega))
        obtain ⟨⟨t, b⟩, hr, hp⟩ := ih _ hx
        simp only [f, hr] at this
        cases b with
        | true => exact hp rfl
        | false => cases this
      simp only [Option.bind_some]
      refine Sp.bind (fun q => q.1 = l) ?_ (fun q hq => ?_)
      · refine Sp.ite (fun _ => Sp.ret rfl) (fun _ => Sp.ret rfl)
      obtain ⟨l', j⟩ := q
      simp only at hq
      subst hq
      refine Sp.iteB (fun _ => Sp.ret (by simp)) (fun _ => ?_)
      refine Sp.iteE (fun h22 => ?_) (fun h22 => ?_)
      · refine Sp.bind _ (G94_ok fs e.N l' (by omega)) (fun r hr => Sp.ret fun h => .mk' (fun _ => hr h) hargs)
      · have hres : ∀ {x : Option (Int × Bool)}, Sp x (fun _ => True) → Sp x (fun r => r.2 = true → CallsOk fs.length e) :=
          fun h => h.imp' fun _ _ _ => .mk' (fun h => absurd h h22) hargs
        refine hres ?_
        rw [G95_ok]
        simp only [Option.bind_some]
        refine Sp.iteN (fun _ => Sp.triv) (fun hnum => ?_)
        generalize hop : e.Op = op at hnum h22
        clear hm hlp hll hargs hres hop ih
        by_cases hr : 0 ≤ op ∧ op ≤ 22
        · rcases ops23 hr with rfl | rfl | rfl | rfl | rfl | rfl | rfl | rfl | rfl | rfl | rfl | rfl | rfl | rfl | rfl | rfl | rfl | rfl | rfl | rfl | rfl | rfl | rfl
          all_goals (rcases l' with _ | ⟨x, _ | ⟨y, _ | ⟨z, _ | ⟨u, l'⟩⟩⟩⟩)
          all_goals (first | (simp [numM] at hnum; done) | (simp [numM] at hnum; omega) | skip)
          all_goals (try (exact absurd rfl h22))
          all_goals (try simp)
          all_goals (repeat (any_goals (first | exact Sp.triv | refine Sp.bind _ (G96_tot _ _) (fun _ _ => ?_) | refine Sp.ite (fun _ => ?_) (fun _ => ?_) | refine Sp.bind (fun _ => True) ?_ (fun _ _ => ?_))))
        · exfalso
          have : numM op = -1 := by unfold numM; rw [if_neg (by omega), if_neg (by omega), if_neg (by omega), if_neg (by omega)]
          omega
  · rw [G87_L0, if_pos (by simpa using hi), if_pos (by constructor <;> omega)]
    simp only [Int.toNat_natCast]
    obtain ⟨⟨t, b⟩, hr, hp⟩ := ih _ (getD_mem hi)
    simp only [f, hr, Option.bind_some]
    cases b with
    | false => simp
    | true => simp only [Bool.not_true, Bool.false_eq_true, if_false]; rw [if_pos (by omega)]
  · rw [G87_L0, if_neg (by simp)]

end Go.PL
