/-
  Runs of operations, and the rules for code, on abstract states. Own work.
-/
import Derived.Test.YtlhmdnniolhnjaaPk
namespace Go.PL
open Go

def All : List Prop → Prop
  | [] => True
  | [p] => p
  | p :: l => p ∧ All l

theorem All.cons {p : Prop} {l : List Prop} : All (p :: l) ↔ p ∧ All l := by
  cases l with
  | nil => simp [All]
  | cons q l => simp [All]
theorem All.append {l r : List Prop} : All (l ++ r) ↔ All l ∧ All r := by
  induction l with
  | nil => simp [All]
  | cons p l ih => simp only [List.cons_append, All.cons, ih, and_assoc]

/-- may the operation ask for something? -/
def isC (st : St) : Op → Bool
  | .load _ a => match ev st a with | some (.aptr ..) => true | _ => false
  | .store _ a _ => match ev st a with | some (.aptr ..) => true | _ => false
  | .binOp .quo _ _ _ _ => true
  | .binOp .rem _ _ _ _ => true
  | .binOp .add _ x _ _ => match ev st x with | some (.t (.str _)) => true | _ => false
  | .indexAddr .. => true
  | .index .. => true
  | .slice .. => true
  | .convert _ _ x => match ev st x with | some (.t (.int ..)) => false | _ => true
  | .call c => match c.callee with | .builtin .append => true | _ => false
  | _ => false

def condOf (b : Bool) (C : Prop) : List Prop := match b with | true => [C] | false => []

def wantedP (ops : List Oper) (o : Oper) (st : St) : Option Bool :=
  match o.guard with
  | none => some true
  | some (j, b) => match ops[j]? with
    | some oj => match oj.dst with
      | some d => match look st.fr d, b with
        | some (.t (.bool true)), true => some true
        | some (.t (.bool false)), false => some true
        | some (.t (.bool true)), false => some false
        | some (.t (.bool false)), true => some false
        | some (.tup []), _ => some false
        | _, _ => none
      | none => none
    | none => none

def step1 (I : Inf) (ops : List Oper) (o : Oper) (st : St) : Option (St × List Prop) :=
  match wantedP ops o st with
  | some true => match o.op with
    | .store .. => match stepM I st o with | some (st', C) => some (st', condOf (isC st o.op) C) | none => none
    | .alloc .. => match stepM I st o with | some (st', C) => some (st', condOf (isC st o.op) C) | none => none
    | .box .. => match stepM I st o with | some (st', C) => some (st', condOf (isC st o.op) C) | none => none
    | .buildSlice .. => match stepM I st o with | some (st', C) => some (st', condOf (isC st o.op) C) | none => none
    | .makeMap .. => match stepM I st o with | some (st', C) => some (st', condOf (isC st o.op) C) | none => none
    | .mapUpdate .. => match stepM I st o with | some (st', C) => some (st', condOf (isC st o.op) C) | none => none
    | .call { callee := .builtin .append, .. } => match stepM I st o with | some (st', C) => some (st', condOf (isC st o.op) C) | none => none
    | op => match pev I st op, o.dst with
      | some (x, C), some d => match Nat.blt d I.nt with | true => some (st.put d x, condOf (isC st op) C) | false => none
      | _, _ => none
  | some false => match o.dst with
    | some d => match Nat.blt d I.nt with | true => some (st.put d (.tup []), []) | false => none
    | none => some (st, [])
  | none => none

def prun (I : Inf) (ops : List Oper) : List Oper → St → Option (St × List Prop)
  | [], st => some (st, [])
  | o :: l, st => match step1 I ops o st with
    | some (st1, C) => match prun I ops l st1 with
      | some (st2, C2) => some (st2, C ++ C2)
      | none => none
    | none => none

def keepL {α : Type} (l : List (Nat × α)) : List Nat → Option (List (Nat × α))
  | [] => some []
  | t :: ts => match look l t, keepL l ts with
    | some x, some r => some ((t, x) :: r)
    | _, _ => none
theorem keepL_mem {α : Type} {l : List (Nat × α)} : ∀ {ts : List Nat} {r : List (Nat × α)}, keepL l ts = some r → ∀ e, e ∈ r → e ∈ l
  | [], r, h => by simp [keepL] at h; subst h; simp
  | t :: ts, r, h => by
    simp only [keepL] at h
    split at h
    · rename_i x r' hx hr
      cases h
      intro e he
      rcases List.mem_cons.1 he with rfl | he
      · exact look_mem hx
      · exact keepL_mem hr e he
    · cases h

def St.keep (ts os : List Nat) (st : St) : Option St :=
  match keepL st.fr ts, keepL st.hp os with
  | some f, some h => some ⟨f, h⟩
  | _, _ => none

section
variable {P : Program} {E : Env}

theorem HpR.sub {F : Nat → Prop} {g : Nat → Value} {w : World} {B : Nat → Prop} {H H' : Hp} (h : HpR F g w B H) (hs : ∀ e, e ∈ H' → e ∈ H) : HpR F g w B H' :=
  ⟨fun o x hx => h.obj o x (hs _ hx), fun o x b hx => h.own o x b (hs _ hx), fun o x o' y b hx hy => h.sep o x o' y b (hs _ hx) (hs _ hy)⟩

theorem Rel.sub {st st' : St} {a : Act} {w : World} (r : Rel E st a w) (hf : ∀ e, e ∈ st'.fr → e ∈ st.fr) (hh : ∀ e, e ∈ st'.hp → e ∈ st.hp) : Rel E st' a w := by
  obtain ⟨F, g, r⟩ := r
  exact ⟨F, g, r.nt, r.df, fun t x hx => r.fr t x (hf _ hx), ⟨r.w.hp.sub hh, r.w.f0, r.w.f1, r.w.ext, r.w.names, r.w.b0⟩⟩

theorem Rel.keep {st st' : St} {ts os : List Nat} (h : st.keep ts os = some st') {a : Act} {w : World} (r : Rel E st a w) : Rel E st' a w := by
  unfold St.keep at h
  split at h
  · rename_i f hp h1 h2
    cases h
    exact r.sub (keepL_mem h1) (keepL_mem h2)
  · cases h

theorem look_val {F : Nat → Prop} {g : Nat → Value} {st : St} {a : Act} {w : World} (r : RelG E F g st a w) {d : Nat} {x : PV} (h : look st.fr d = some x) : VR F g w x (a.tmps.getD d undef) := r.fr d x (look_mem h)

theorem wantedP_ok {st : St} {a : Act} {w : World} {F : Nat → Prop} {g : Nat → Value} (r : RelG E F g st a w) {ops : Array Oper} {o : Oper} {b : Bool} (h : wantedP ops.toList o st = some b) :
    Region.wanted o (yielded ops a.tmps) = b := by
  unfold wantedP at h
  unfold Region.wanted
  split at h
  · rename_i hg; rw [hg]; cases h; rfl
  · rename_i j want hg
    rw [hg]
    split at h
    · rename_i oj hj
      split at h
      · rename_i d hd
        have hy : ∀ v, a.tmps.getD d undef = v → (∀ x, v ≠ .bool x → yielded ops a.tmps j ≠ some x) ∧ (∀ x, v = .bool x → yielded ops a.tmps j = some x) := by
          intro v hv
          have hj' : ops[j]? = some oj := by simpa using hj
          unfold yielded
          rw [hj']
          simp only [Option.bind_some, hd]
          by_cases hlt : d < a.tmps.size
          · simp [hlt] at hv
            simp only [Array.getElem?_eq_getElem hlt, hv]
            refine ⟨fun x hx => ?_, fun x hx => by rw [hx]⟩
            split
            · rename_i y hy; cases hy; exact fun e => hx (by injection e with e; rw [e])
            · simp
          · simp [hlt] at hv
            rw [Array.getElem?_eq_none (Nat.le_of_not_lt hlt)]
            subst hv
            exact ⟨fun x _ => by simp, fun x hx => by simp [undef] at hx⟩
        split at h
        all_goals first
          | (rename_i hl
             cases h
             first
               | (have hv := (look_val r hl).inv_bool
                  have := (hy _ hv).2 _ rfl
                  simp [this])
               | (have hv := look_val r hl
                  generalize hu : a.tmps.getD d undef = u at hv
                  cases hv with
                  | tup hs hr =>
                    have h1 := fun y => (hy _ hu).1 y (by simp)
                    simp [h1]))
          | cases h
      · cases h
    · cases h

theorem isC_ok {I : Inf} {st : St} {op : Op} {x : PV} {C : Prop} (h : pev I st op = some (x, C)) (hc : isC st op = false) : C := by
  have htr : ∀ {y : Option PV}, tr y = some (x, C) → C := by
    intro y hy; unfold tr at hy; split at hy <;> cases hy; trivial
  cases op <;> simp only [pev] at h
  all_goals try (exact htr h)
  all_goals try (cases h; done)
  case pick => split at h <;> first | exact htr h | cases h
  case load t a =>
    split at h
    · rename_i i p hi hp
      simp only [isC, hp] at hc
      cases p <;> simp only [loadP] at h
      case aptr => simp at hc
      all_goals first
        | (split at h
           · split at h
             · cases h; trivial
             · cases h
           · cases h)
        | (split at h
           · cases h; trivial
           · cases h)
        | cases h
    · cases h
  case nilCheck => split at h <;> first | (cases h; trivial) | cases h
  case binOp op t y z u =>
    split at h
    · rename_i i p q hi hp hq
      unfold binP at h
      split at h
      · split at h
        · cases op <;> simp [intOp, isC] at h hc
          all_goals (obtain ⟨_, h⟩ := h; exact h)
        · cases h
      · cases op <;> simp [strOp, isC, hp] at h hc
        all_goals (obtain ⟨_, h⟩ := h; exact h)
      · unfold aggOp at h
        split at h
        · split at h
          · split at h
            · cases h; trivial
            · cases h; trivial
            · cases h
          · cases h
        · cases h
      · split at h
        · cases op <;> simp [boolOp] at h
          all_goals (obtain ⟨_, h⟩ := h; exact h)
        · cases h
      · cases h
    · cases h
  case unOp => split at h <;> first | (unfold unP at h; split at h <;> first | (cases h; trivial) | cases h) | cases h
  case convert s d y =>
    split at h
    · rename_i hp
      split at h
      · cases h; trivial
      · cases h
    · rename_i i j p hne hi hj hp
      exfalso
      have key : ∀ q, ev st y = q → isC st (.convert s d y) = false → ∃ k n, q = some (.t (.int k n)) := by
        intro q hq hc
        simp only [isC, hq] at hc
        split at hc
        · exact ⟨_, _, rfl⟩
        · cases hc
      obtain ⟨k, n, hk⟩ := key _ hp hc
      cases hk
      exact hne _ _ rfl
    · cases h
  case makeFunc => split at h <;> first | (cases h; trivial) | cases h
  case fieldAddr => split at h <;> first | (split at h <;> first | (split at h <;> first | (cases h; trivial) | cases h) | cases h) | cases h
  case field =>
    split at h <;> first | (split at h <;> first | (split at h <;> first | (split at h <;> first | (split at h <;> first | exact htr h | cases h) | cases h) | cases h) | cases h) | cases h
  case extract => split at h <;> first | exact htr h | cases h
  case indexAddr => simp [isC] at hc
  case index => simp [isC] at hc
  case lookup t x k ok =>
    cases ok
    · simp [pev] at h
    · simp only [pev] at h
      split at h
      · split at h
        · cases h; trivial
        · cases h
      · cases h
  case slice => simp [isC] at hc
  case call c =>
    unfold callP at h
    split at h <;> first | (split at h <;> first | exact htr h | cases h) | cases h

end
end Go.PL
