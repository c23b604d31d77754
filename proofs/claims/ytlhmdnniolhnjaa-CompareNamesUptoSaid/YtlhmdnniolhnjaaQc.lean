/-
  What the functions on expressions come to. Own work.
-/
import Derived.Test.YtlhmdnniolhnjaaQb
import Derived.Test.YtlhmdnniolhnjaaGc
namespace Go.PL
open Go

theorem G98_ok {e : Expr} (h : okW e) : G98 e = some e := clone_ok (F := G98) (L := G98_L0) (fun e => by rw [G98_eq]; rfl) (fun e a b => by rw [G98_L0]) h
/-- the levels -/
theorem levels_ok {F : Expr → Option Int} {L : (Expr → Option Int) → Expr → Int × Int → Option ((Int × Int) ⊕ Int)}
    (hF : ∀ e, F e = Option.bind (whileM (L F e) (0, 0)) fun b3 => some (IntKind.i64.wrap (b3 + 1)))
    (hL : ∀ e v1 v2, L F e (v1, v2) = if (decide (v2 < ((e.Args.length : Int)))) = true then (if 0 ≤ v2 ∧ v2 < (e.Args.length : Int) then ((F (e.Args.getD (v2).toNat default)).bind fun r6 => some (.inl ((if r6 > v1 then r6 else v1, IntKind.i64.wrap (v2 + 1))))) else none) else (some (.inr (v1))))
    {F' : Expr → Option Int} {L' : (Expr → Option Int) → Expr → Int × Int → Option ((Int × Int) ⊕ Int)}
    (hF' : ∀ e, F' e = Option.bind (whileM (L' F' e) (0, 0)) fun b3 => some (IntKind.i64.wrap (b3 + 1)))
    (hL' : ∀ e v1 v2, L' F' e (v1, v2) = if (decide (v2 < ((e.Args.length : Int)))) = true then (if 0 ≤ v2 ∧ v2 < (e.Args.length : Int) then ((F' (e.Args.getD (v2).toNat default)).bind fun r6 => some (.inl ((if r6 > v1 then r6 else v1, IntKind.i64.wrap (v2 + 1))))) else none) else (some (.inr (v1))))
    {e : Expr} (h : okW e) : ∃ n, F e = some n ∧ F' e = some n := by
  refine okW.ind (M := fun e => ∃ n, F e = some n ∧ F' e = some n) (fun e _ hn _ ih => ?_) h
  have one : ∀ {G : Expr → Option Int} {K : (Expr → Option Int) → Expr → Int × Int → Option ((Int × Int) ⊕ Int)},
      (∀ e v1 v2, K G e (v1, v2) = if (decide (v2 < ((e.Args.length : Int)))) = true then (if 0 ≤ v2 ∧ v2 < (e.Args.length : Int) then ((G (e.Args.getD (v2).toNat default)).bind fun r6 => some (.inl ((if r6 > v1 then r6 else v1, IntKind.i64.wrap (v2 + 1))))) else none) else (some (.inr (v1)))) →
      (∀ x, x ∈ e.Args → G x = F x) → (∀ x, x ∈ e.Args → ∃ n, F x = some n) →
      whileM (K G e) (0, 0) = some (e.Args.foldl (fun m x => if (F x).getD 0 > m then (F x).getD 0 else m) 0) := by
    intro G K hK hG hx
    refine while_fold e.Args (fun m x => if (F x).getD 0 > m then (F x).getD 0 else m) id (by omega) (fun s i hi => ?_) (fun s => ?_) 0
    · rw [hK, if_pos (by simpa using hi), if_pos (by constructor <;> omega)]
      simp only [Int.toNat_natCast]
      obtain ⟨n, hn⟩ := hx _ (getD_mem hi)
      rw [hG _ (getD_mem hi), hn]
      rfl
    · rw [hK, if_neg (by simp)]; rfl
  have hx : ∀ x, x ∈ e.Args → ∃ n, F x = some n := fun x hx => by obtain ⟨n, h, _⟩ := ih x hx; exact ⟨n, h⟩
  have he : ∀ x, x ∈ e.Args → F' x = F x := fun x hx => by obtain ⟨n, h1, h2⟩ := ih x hx; rw [h1, h2]
  exact ⟨_, by rw [hF, one hL (fun _ _ => rfl) hx]; rfl, by rw [hF', one hL' he hx]; rfl⟩
theorem G86_G29 {e : Expr} (h : okW e) : ∃ n, G86 e = some n ∧ G29 e = some n :=
  levels_ok (F := G86) (L := G86_L0) (F' := G29) (L' := G29_L0) (fun e => by rw [G86_eq]; rfl) (fun e a b => by rw [G86_L0]) (fun e => by rw [G29_eq]; rfl) (fun e a b => by rw [G29_L0]) h

/-- the parts: both ways of counting agree -/
theorem wrap_add (a b : Int) : IntKind.i64.wrap (IntKind.i64.wrap a + b) = IntKind.i64.wrap (a + b) := by
  simp only [IntKind.wrap, IntKind.bits, IntKind.signed]
  simp
  omega
theorem wrap_add' (a b : Int) : IntKind.i64.wrap (a + IntKind.i64.wrap b) = IntKind.i64.wrap (a + b) := by rw [Int.add_comm, wrap_add, Int.add_comm]

theorem parts_ok {e : Expr} (h : okW e) : ∃ n : Int, G40 e = some (IntKind.i64.wrap n) ∧ ∀ m : Int, G92s0 e m = some (IntKind.i64.wrap (m + n)) := by
  refine okW.ind (M := fun e => ∃ n : Int, G40 e = some (IntKind.i64.wrap n) ∧ ∀ m : Int, G92s0 e m = some (IntKind.i64.wrap (m + n))) (fun e _ hn _ ih => ?_) h
  classical
  let pn : Expr → Int := fun x => if h : ∃ n : Int, G40 x = some (IntKind.i64.wrap n) ∧ ∀ m : Int, G92s0 x m = some (IntKind.i64.wrap (m + n)) then h.choose else 0
  have hpn : ∀ x, x ∈ e.Args → G40 x = some (IntKind.i64.wrap (pn x)) ∧ ∀ m : Int, G92s0 x m = some (IntKind.i64.wrap (m + pn x)) := by
    intro x hx
    have := ih x hx
    simp only [pn, dif_pos this]
    exact this.choose_spec
  have f1 : whileM (G40_L0 G40 e) (1, 0) = some (e.Args.foldl (fun m x => IntKind.i64.wrap (m + pn x)) 1) := by
    refine while_fold e.Args (fun m x => IntKind.i64.wrap (m + pn x)) id (by omega) (fun s i hi => ?_) (fun s => ?_) 1
    · rw [G40_L0, if_pos (by simpa using hi), if_pos (by constructor <;> omega)]
      simp only [Int.toNat_natCast]
      rw [(hpn _ (getD_mem hi)).1]
      simp only [Option.bind_some, wrap_add']
    · rw [G40_L0, if_neg (by simp)]; rfl
  have f2 : ∀ k : Int, whileM (G92s0_L0 G92s0 e) (k, 0) = some (e.Args.foldl (fun m x => IntKind.i64.wrap (m + pn x)) k) := by
    intro k
    refine while_fold e.Args (fun m x => IntKind.i64.wrap (m + pn x)) id (by omega) (fun s i hi => ?_) (fun s => ?_) k
    · rw [G92s0_L0, if_pos (by simpa using hi), if_pos (by constructor <;> omega)]
      simp only [Int.toNat_natCast]
      rw [(hpn _ (getD_mem hi)).2]
      rfl
    · rw [G92s0_L0, if_neg (by simp)]; rfl
  have fs : ∀ (l : List Expr) (k : Int), l.foldl (fun m x => IntKind.i64.wrap (m + pn x)) (IntKind.i64.wrap k) = IntKind.i64.wrap (k + (l.map pn).sum) := by
    intro l
    induction l with
    | nil => intro k; simp
    | cons x l ihl => intro k; simp only [List.foldl_cons, List.map_cons, List.sum_cons]; rw [wrap_add, ihl]; congr 1; omega
  refine ⟨1 + (e.Args.map pn).sum, ?_, fun m => ?_⟩
  · rw [G40_eq]
    show Option.bind (whileM (G40_L0 G40 e) (1, 0)) _ = _
    rw [f1]
    have := fs e.Args 1
    rw [show IntKind.i64.wrap 1 = 1 from rfl] at this
    simp only [Option.bind_some, this]
  · rw [G92s0_eq]
    show Option.bind (G93s0 e m) _ = _
    simp only [G93s0, Option.bind_some]
    rw [f2, fs]
    simp only [Option.bind_some]
    congr 2; omega

/-- what put gives -/
def putM (op : Int) (l : List Expr) : Expr → Option Expr
  | .mk o n s xs => match o == op with
    | true => match decide (n < 0) || decide (n ≥ (l.length : Int)) with
      | true => none
      | false => some (l.getD n.toNat default)
    | false => (go xs).map (Expr.mk o n s)
where go : List Expr → Option (List Expr)
  | [] => some []
  | x :: xs => match putM op l x with
    | none => none
    | some y => (go xs).map (y :: ·)
theorem putM_go (op : Int) (l : List Expr) : ∀ xs, putM.go op l xs = xs.mapM (putM op l)
  | [] => rfl
  | x :: xs => by
    simp only [putM.go, List.mapM_cons, putM_go op l xs]
    cases putM op l x <;> simp <;> cases List.mapM (putM op l) xs <;> rfl

def ofM (x : Option Expr) : Expr × Bool := match x with | some e => (e, true) | none => (.zero, false)

theorem put_ok {F : Expr → Int → List Expr → Option (Expr × Bool)} {C : Expr → Option Expr} {L : (Expr → Int → List Expr → Option (Expr × Bool)) → Expr → Int → List Expr → List Expr × Int → Option ((List Expr × Int) ⊕ (List Expr ⊕ (Expr × Bool)))}
    (hC : ∀ e, okW e → C e = some e)
    (hF : ∀ a0 a1 a2, F a0 a1 a2 = if (a0.Op == a1) = true then (Option.bind (if (decide (a0.N < 0)) = true then (some (true)) else (some (decide (a0.N ≥ ((a2.length : Int))))) : Option (Bool)) fun j2 => if (j2) = true then (some (((Expr.mk 0 0 (⟨#[]⟩) (([] : List Expr))), false))) else (if 0 ≤ a0.N ∧ a0.N < (a2.length : Int) then ((C (a2.getD (a0.N).toNat default)).bind fun r8 => some ((r8, true))) else none)) else (Option.bind (whileM (L F a0 a1 a2) ((([] : List Expr), 0))) fun R19 => match R19 with | .inl (b12) => (some (((Expr.mk a0.Op a0.N a0.S b12), true))) | .inr (y21) => (some (y21))))
    (hL : ∀ a0 a1 a2 v10 v11, L F a0 a1 a2 (v10, v11) = if (decide (v11 < ((a0.Args.length : Int)))) = true then (if 0 ≤ v11 ∧ v11 < (a0.Args.length : Int) then ((F (a0.Args.getD (v11).toNat default) a1 a2).bind fun r15 => if (!r15.2) = true then (some (.inr (.inr (((Expr.mk 0 0 (⟨#[]⟩) (([] : List Expr))), false))))) else (if (v10.length + 1) * 56 ≤ 140737488355328 then (some (.inl ((v10 ++ ([r15.1]), IntKind.i64.wrap (v11 + 1))))) else none)) else none) else (some (.inr (.inl (v10)))))
    {op : Int} {l : List Expr} (hl : ∀ x, x ∈ l → okW x) {e : Expr} (h : okW e) : F e op l = some (ofM (putM op l e)) := by
  refine okW.ind (M := fun e => F e op l = some (ofM (putM op l e))) (fun e _ hn _ ih => ?_) h
  rw [hF]
  have hput : putM op l e = match e.Op == op with
    | true => match decide (e.N < 0) || decide (e.N ≥ (l.length : Int)) with
      | true => none
      | false => some (l.getD e.N.toNat default)
    | false => (e.Args.mapM (putM op l)).map (Expr.mk e.Op e.N e.S) := by
    cases e with | mk a b s xs => simp only [putM, Expr.Op, Expr.N, Expr.S, Expr.Args, putM_go]; rfl
  rw [hput]
  cases ho : (e.Op == op) with
  | true =>
    simp only [if_true]
    by_cases h1 : e.N < 0
    · simp [h1, ofM, Expr.zero]
    · by_cases h2 : e.N ≥ (l.length : Int)
      · simp [h1, h2, ofM, Expr.zero]
      · simp only [h1, h2, decide_false, Bool.or_false, Bool.false_eq_true, if_false, Option.bind_some]
        rw [if_pos (by constructor <;> omega), hC _ (hl _ (getD_mem (by omega)))]
        rfl
  | false =>
    simp only [Bool.false_eq_true, if_false]
    have := while_mapM (R := Expr × Bool) e.Args (b := L F e op l) (putM op l) (.zero, false) (by omega) (fun acc i hi ha => ?_) (fun acc ha => ?_)
    · rw [this]
      cases e.Args.mapM (putM op l) <;> rfl
    · rw [hL, if_pos (by simpa using hi), if_pos (by constructor <;> omega)]
      simp only [Int.toNat_natCast]
      rw [ih _ (getD_mem hi)]
      simp only [Option.bind_some]
      cases putM op l (e.Args.getD i default) with
      | none => simp [ofM, Expr.zero]
      | some y => simp only [ofM, Bool.not_true, Bool.false_eq_true, if_false]; rw [if_pos (by omega)]
    · rw [hL, if_neg (by simp)]
theorem G91_ok {op : Int} {l : List Expr} (hl : ∀ x, x ∈ l → okW x) {e : Expr} (h : okW e) : G91 e op l = some (ofM (putM op l e)) :=
  put_ok (F := G91) (C := G98) (L := G91_L0) (fun _ => G98_ok) (fun a b c => by rw [G91_eq]; rfl) (fun a b c d e => by rw [G91_L0]) hl h
end Go.PL
