/-
  Loops over lists, and what they come to. Own work.
-/
import Derived.Test.YtlhmdnniolhnjaaQa
import Derived.Test.YtlhmdnniolhnjaaRo
namespace Go.PL
open Go

theorem getD_lt {A : Type} [Inhabited A] {l : List A} {i : Nat} (h : i < l.length) : l.getD i default = l[i] := by simp [List.getD_eq_getElem?_getD, h]

section
variable {A B S R : Type} [Inhabited A]

/-- a loop that folds a list -/
theorem while_fold (l : List A) {b : S × Int → Option ((S × Int) ⊕ R)} (step : S → A → S) (fin : S → R) (hN : l.length ≤ 9223372036854775806)
    (h : ∀ (s : S) (i : Nat), i < l.length → b (s, (i : Int)) = some (.inl (step s (l.getD i default), IntKind.i64.wrap ((i : Int) + 1)))) (hf : ∀ s, b (s, (l.length : Int)) = some (.inr (fin s))) (s : S) :
    whileM b (s, 0) = some (fin (l.foldl step s)) := by
  have key : ∀ (k i : Nat) (s : S), i + k = l.length → whileM b (s, (i : Int)) = some (fin ((l.drop i).foldl step s)) := by
    intro k
    induction k with
    | zero =>
      intro i s hi
      obtain rfl : i = l.length := by omega
      rw [whileM_stop (hf s)]; simp
    | succ k ih =>
      intro i s hi
      rw [whileM_next (h s i (by omega)), wrap_id (by omega) (by omega)]
      have := ih (i + 1) (step s (l.getD i default)) (by omega)
      rw [show ((i : Int) + 1) = ((i + 1 : Nat) : Int) by omega, this, List.drop_eq_getElem_cons (show i < l.length by omega), getD_lt (show i < l.length by omega)]
      rfl
  have := key l.length 0 s (by omega)
  simpa using this

/-- a loop that maps a list, and leaves where that fails -/
theorem while_mapM (l : List A) {b : List B × Int → Option ((List B × Int) ⊕ ((List B) ⊕ R))} (f : A → Option B) (r : R) (hN : l.length ≤ 9223372036854775806)
    (h : ∀ (acc : List B) (i : Nat), i < l.length → acc.length = i → b (acc, (i : Int)) = some (match f (l.getD i default) with | some y => .inl (acc ++ [y], IntKind.i64.wrap ((i : Int) + 1)) | none => .inr (.inr r)))
    (hf : ∀ acc : List B, acc.length = l.length → b (acc, (l.length : Int)) = some (.inr (.inl acc))) :
    whileM b ([], 0) = some (match l.mapM f with | some ys => .inl ys | none => .inr r) := by
  have key : ∀ (k i : Nat) (acc : List B), i + k = l.length → acc.length = i → whileM b (acc, (i : Int)) = some (match (l.drop i).mapM f with | some ys => .inl (acc ++ ys) | none => .inr r) := by
    intro k
    induction k with
    | zero =>
      intro i acc hi ha
      obtain rfl : i = l.length := by omega
      rw [whileM_stop (hf acc ha)]; simp
    | succ k ih =>
      intro i acc hi ha
      have hlt : i < l.length := by omega
      have hb := h acc i hlt ha
      rw [List.drop_eq_getElem_cons hlt, List.mapM_cons]
      rw [getD_lt hlt] at hb
      cases hx : f l[i] with
      | none =>
        simp only [hx] at hb
        rw [whileM_stop hb]; simp
      | some y =>
        simp only [hx] at hb
        rw [whileM_next hb, wrap_id (by omega) (by omega), show ((i : Int) + 1) = ((i + 1 : Nat) : Int) by omega, ih (i + 1) (acc ++ [y]) (by omega) (by simp [ha])]
        cases (l.drop (i + 1)).mapM f <;> simp
  have := key l.length 0 [] (by omega) rfl
  simpa using this

/-- a loop that asks something of all numbers below N -/
theorem while_all {b : Int → Option (Int ⊕ (Unit ⊕ R))} (N : Nat) (p : Nat → Bool) (r : R) (hN : N ≤ 9223372036854775806)
    (h : ∀ i : Nat, i < N → b (i : Int) = some (match p i with | true => .inl (IntKind.i64.wrap ((i : Int) + 1)) | false => .inr (.inr r))) (hf : b (N : Int) = some (.inr (.inl ()))) :
    whileM b 0 = some (match (List.range N).all p with | true => .inl () | false => .inr r) := by
  have key : ∀ (k i : Nat), i + k = N → whileM b (i : Int) = some (match ((List.range N).drop i).all p with | true => .inl () | false => .inr r) := by
    intro k
    induction k with
    | zero =>
      intro i hi
      obtain rfl : i = N := by omega
      rw [whileM_stop hf, List.drop_of_length_le (by simp)]; simp
    | succ k ih =>
      intro i hi
      have hlt : i < N := by omega
      have hb := h i hlt
      rw [List.drop_eq_getElem_cons (by simpa using hlt)]
      simp only [List.getElem_range, List.all_cons]
      cases hp : p i with
      | false => simp only [hp] at hb; rw [whileM_stop hb]; simp
      | true =>
        simp only [hp] at hb
        rw [whileM_next hb, wrap_id (by omega) (by omega), show ((i : Int) + 1) = ((i + 1 : Nat) : Int) by omega, ih (i + 1) (by omega)]
        simp
  have := key N 0 (by omega)
  simpa using this

/-- a loop that asks something of all elements of a list -/
theorem all_getD (l : List A) (p : A → Bool) : ((List.range l.length).all fun i => p (l.getD i default)) = l.all p := by
  rw [Bool.eq_iff_iff]
  simp only [List.all_eq_true, List.mem_range]
  constructor
  · intro h x hx
    obtain ⟨i, hi, rfl⟩ := List.getElem_of_mem hx
    have := h i hi
    rwa [getD_lt hi] at this
  · intro h i hi
    rw [getD_lt hi]; exact h _ (List.getElem_mem hi)
end

/-! ### expressions -/
inductive okW : Expr → Prop
  | mk {a b : Int} {s : ByteArray} {l : List Expr} (hn : l.length * 56 ≤ 140737488355328) (hl : ∀ x, x ∈ l → okW x) : okW (.mk a b s l)
theorem okExpr.w {e : Expr} (h : okExpr e) : okW e := by
  induction h with
  | mk0 ha hb hs hn hl ih => exact .mk (by omega) ih
theorem okW.args {e : Expr} (h : okW e) : e.Args.length * 56 ≤ 140737488355328 ∧ ∀ x, x ∈ e.Args → okW x := by cases h with | mk a b => exact ⟨a, b⟩
theorem Expr.eta (e : Expr) : Expr.mk e.Op e.N e.S e.Args = e := by cases e; rfl
def Expr.zero : Expr := .mk 0 0 ⟨#[]⟩ []
theorem okW_zero : okW .zero := .mk (by simp) (by simp)

theorem getD_mem {A : Type} [Inhabited A] {l : List A} {i : Nat} (h : i < l.length) : l.getD i default ∈ l := by rw [getD_lt h]; exact List.getElem_mem h

theorem okW.ind {M : Expr → Prop} (h : ∀ e, okW e → e.Args.length * 56 ≤ 140737488355328 → (∀ x, x ∈ e.Args → okW x) → (∀ x, x ∈ e.Args → M x) → M e) {e : Expr} (he : okW e) : M e := by
  induction he with
  | @mk a b s l hn hl ih => exact h (.mk a b s l) (.mk hn hl) hn hl ih

theorem clone_ok {F : Expr → Option Expr} {L : (Expr → Option Expr) → Expr → List Expr × Int → Option ((List Expr × Int) ⊕ List Expr)}
    (hF : ∀ e, F e = Option.bind (whileM (L F e) ([], 0)) fun b3 => some (Expr.mk e.Op e.N e.S b3))
    (hL : ∀ e v1 v2, L F e (v1, v2) = if (decide (v2 < ((e.Args.length : Int)))) = true then (if 0 ≤ v2 ∧ v2 < (e.Args.length : Int) then ((F (e.Args.getD (v2).toNat default)).bind fun r6 => if (v1.length + 1) * 56 ≤ 140737488355328 then (some (.inl ((v1 ++ ([r6]), IntKind.i64.wrap (v2 + 1))))) else none) else none) else (some (.inr (v1))))
    {e : Expr} (h : okW e) : F e = some e := by
  refine okW.ind (M := fun e => F e = some e) (fun e _ hn _ ih => ?_) h
  have key : ∀ (k i : Nat) (acc : List Expr), i + k = e.Args.length → acc = e.Args.take i → whileM (L F e) (acc, (i : Int)) = some e.Args := by
    intro k
    induction k with
    | zero =>
      intro i acc hi ha
      obtain rfl : i = e.Args.length := by omega
      refine whileM_stop ?_
      rw [hL]
      simp [ha]
    | succ k ihk =>
      intro i acc hi ha
      have hlt : i < e.Args.length := by omega
      have hstep : L F e (acc, (i : Int)) = some (.inl (acc ++ [e.Args[i]], IntKind.i64.wrap ((i : Int) + 1))) := by
        rw [hL]
        rw [if_pos (by simpa using hlt), if_pos (by constructor <;> omega)]
        simp only [Int.toNat_natCast, getD_lt hlt, ih _ (List.getElem_mem hlt), Option.bind_some]
        rw [if_pos (by rw [ha]; simp; omega)]
      rw [whileM_next hstep, wrap_id (by omega) (by omega), show ((i : Int) + 1) = ((i + 1 : Nat) : Int) by omega]
      exact ihk (i + 1) _ (by omega) (by rw [ha, List.take_succ_eq_append_getElem hlt])
  rw [hF]
  have := key e.Args.length 0 [] (by omega) (by simp)
  simp only [Int.cast_ofNat_Int] at this
  rw [this]
  simp [Expr.eta]

end Go.PL
