/-
  The rules: regions, code, calls, functions. Own work.
-/
import Derived.Test.YtlhmdnniolhnjaaPl
import Derived.LoopN
namespace Go.PL
open Go

abbrev Post := Exit → St → Prop

/-- what the model's post says of abstract states -/
def lift (E : Env) (Q : Post) : Exit → Act → World → Prop := fun e a w => ∃ st, Q e st ∧ Rel E st a w

def pwp (P : Program) (E : Env) (c : Code) (Q : Post) (st : St) : Prop := ∀ a w, Rel E st a w → c.wp P (lift E Q) a w
def pops (P : Program) (E : Env) (ops : List Oper) (Q : Post) (l : List Oper) (st : St) : Prop := ∀ a w, Rel E st a w → wpList P ops.toArray (lift E Q) l a w

/-- the environment's fixed parts -/
structure Good (P : Program) (E : Env) (I : Inf) : Prop where
  ti : TIok P I.ti
  N : E.N = I.N
  nt : E.nt = I.nt

section
variable {P : Program} {E : Env} {I : Inf} {Q : Post} {st st' : St}

theorem step1_op (hG : Good P E I) {ops : Array Oper} {o : Oper} {Cs : List Prop} (h : step1 I ops.toList o st = some (st', Cs)) (hC : All Cs) {a : Act} {w : World} (r : Rel E st a w) {Q' : Exit → Act → World → Prop}
    {K : Act → World → Prop} (hk : ∀ a' w', Rel E st' a' w' → K a' w') : if Region.wanted o (yielded ops a.tmps) then o.wp P a w K Q' else K (a.put o.dst undef) w := by
  obtain ⟨F, g, r⟩ := r
  have mem : ∀ {C : Prop}, stepM I st o = some (st', C) → C → Region.wanted o (yielded ops a.tmps) = true → (if Region.wanted o (yielded ops a.tmps) then o.wp P a w K Q' else K (a.put o.dst undef) w) := by
    intro C hs hC hw
    obtain ⟨n, v, w', h1, h2, h3⟩ := stepM_ok hG.ti hG.N hG.nt r o hs hC
    rw [if_pos hw]
    unfold Oper.wp
    rw [h1]
    rcases h2 with rfl | ⟨rfl, rfl⟩
    · exact hk _ _ h3
    · exact hk _ _ h3
  have memC : ∀ {C : Prop}, stepM I st o = some (st', C) → Cs = condOf (isC st o.op) C → (isC st o.op = false → C) → Region.wanted o (yielded ops a.tmps) = true → (if Region.wanted o (yielded ops a.tmps) then o.wp P a w K Q' else K (a.put o.dst undef) w) := by
    intro C hs he hf hw
    refine mem hs ?_ hw
    cases hc : isC st o.op with
    | false => exact hf hc
    | true => rw [he, hc] at hC; exact hC
  unfold step1 at h
  split at h
  · rename_i hw
    have hw := wantedP_ok r hw
    split at h
    · rename_i t x y hop
      split at h
      · rename_i st1 C hs
        cases h
        refine memC hs rfl (fun hc => ?_) hw
        unfold stepM at hs
        rw [hop] at hs hc
        simp only at hs
        split at hs
        · rename_i i p q hi hp hq
          simp only [isC, hp] at hc
          unfold storeP at hs
          split at hs
          · cases hs
          · cases p with
            | ptr o off =>
              simp only at hs
              split at hs
              · split at hs
                · cases hs; trivial
                · cases hs
              · cases hs
            | aptr => simp at hc
            | _ => simp at hs
        · cases hs
      · cases h
    · rename_i e hop
      split at h
      · rename_i st1 C hs
        cases h
        refine memC hs rfl (fun hc => ?_) hw
        obtain ⟨dst, op, ty, pos, aft, gd⟩ := o
        subst hop
        unfold stepM at hs
        simp only at hs
        split at hs
        all_goals try (simp_all; done)
        repeat' (first | (cases hs; trivial) | (cases hs; done) | split at hs)
      · cases h
    · rename_i e x hop
      split at h
      · rename_i st1 C hs
        cases h
        refine memC hs rfl (fun hc => ?_) hw
        obtain ⟨dst, op, ty, pos, aft, gd⟩ := o
        subst hop
        unfold stepM at hs
        simp only at hs
        split at hs
        all_goals try (simp_all; done)
        repeat' (first | (cases hs; trivial) | (cases hs; done) | split at hs)
      · cases h
    · rename_i t len parts hop
      split at h
      · rename_i st1 C hs
        cases h
        refine memC hs rfl (fun hc => ?_) hw
        obtain ⟨dst, op, ty, pos, aft, gd⟩ := o
        subst hop
        unfold stepM at hs
        simp only at hs
        split at hs
        all_goals try (simp_all; done)
        repeat' (first | (cases hs; trivial) | (cases hs; done) | split at hs)
      · cases h
    · rename_i t rs hop
      split at h
      · rename_i st1 C hs
        cases h
        refine memC hs rfl (fun hc => ?_) hw
        obtain ⟨dst, op, ty, pos, aft, gd⟩ := o
        subst hop
        unfold stepM at hs
        simp only at hs
        split at hs
        all_goals try (simp_all; done)
        repeat' (first | (cases hs; trivial) | (cases hs; done) | split at hs)
      · cases h
    · rename_i t x k v hop
      split at h
      · rename_i st1 C hs
        cases h
        refine memC hs rfl (fun hc => ?_) hw
        obtain ⟨dst, op, ty, pos, aft, gd⟩ := o
        subst hop
        unfold stepM at hs
        simp only at hs
        split at hs
        all_goals try (simp_all; done)
        repeat' (first | (cases hs; trivial) | (cases hs; done) | split at hs)
      · cases h
    · rename_i args ats hop
      split at h
      · rename_i st1 C hs
        cases h
        exact memC hs rfl (fun hc => by rw [hop] at hc; simp [isC] at hc) hw
      · cases h
    · split at h
      · rename_i x C d hp hd
        split at h
        · rename_i hlt
          cases h
          have hc : C := by
            cases hc : isC st o.op with
            | false => exact isC_ok hp hc
            | true => rw [hc] at hC; exact hC
          obtain ⟨v, h1, h2⟩ := pev_ok hG.ti r o hp hc
          rw [if_pos hw]
          unfold Oper.wp
          rw [h1]
          refine hk _ _ ?_
          rw [hd]
          exact ⟨F, g, r.put (by rw [hG.nt]; simpa [Nat.blt_eq] using hlt) h2⟩
        · cases h
      · cases h
  · rename_i hw
    have hw := wantedP_ok r hw
    rw [if_neg (by rw [hw]; simp)]
    split at h
    · rename_i d hd
      split at h
      · rename_i hlt
        cases h
        refine hk _ _ ?_
        rw [hd]
        exact ⟨F, g, r.put (by rw [hG.nt]; simpa [Nat.blt_eq] using hlt) (.tup rfl (fun j x v hx => by simp at hx))⟩
      · cases h
    · rename_i hd
      cases h
      refine hk _ _ ?_
      rw [hd]
      exact ⟨F, g, r⟩
  · cases h

theorem step1_ok (hG : Good P E I) {ops : Array Oper} {o : Oper} {Cs : List Prop} (h : step1 I ops.toList o st = some (st', Cs)) (hC : All Cs) {a : Act} {w : World} (r : Rel E st a w) {Q' : Exit → Act → World → Prop}
    {rest : List Oper} (hk : ∀ a' w', Rel E st' a' w' → wpList P ops Q' rest a' w') : wpList P ops Q' (o :: rest) a w :=
  wpList_step fun _ hK => step1_op hG h hC r fun a' w' r' => hK _ _ (hk a' w' r')

theorem prun_ok (hG : Good P E I) {ops : Array Oper} {Q' : Exit → Act → World → Prop} {rest : List Oper} : ∀ (l : List Oper) (st st' : St) (Cs : List Prop), prun I ops.toList l st = some (st', Cs) → All Cs →
    ∀ a w, Rel E st a w → (∀ a' w', Rel E st' a' w' → wpList P ops Q' rest a' w') → wpList P ops Q' (l ++ rest) a w
  | [], st, st', Cs, h, _, a, w, r, hk => by simp [prun] at h; obtain ⟨rfl, rfl⟩ := h; exact hk a w r
  | o :: l, st, st', Cs, h, hC, a, w, r, hk => by
    simp only [prun] at h
    split at h
    · rename_i st1 C1 h1
      split at h
      · rename_i st2 C2 h2
        cases h
        rw [All.append] at hC
        exact step1_ok hG h1 hC.1 r fun a' w' r' => prun_ok hG l st1 st' C2 h2 hC.2 a' w' r' hk
      · cases h
    · cases h

/-- run n operations, then keep these slots and objects alone -/
def prunK (I : Inf) (ops l : List Oper) (n : Nat) (ts os : List Nat) (st : St) : Option (St × List Prop) :=
  match prun I ops (l.take n) st with
  | some (st1, C) => match st1.keep ts os with | some st2 => some (st2, C) | none => none
  | none => none

theorem pops_run (hG : Good P E I) {ops : List Oper} {l : List Oper} (n : Nat) (ts os : List Nat) {Cs : List Prop} (h : prunK I ops l n ts os st = some (st', Cs)) (hC : All Cs)
    (hk : pops P E ops Q (l.drop n) st') : pops P E ops Q l st := by
  intro a w r
  unfold prunK at h
  split at h
  · rename_i st1 C h1
    split at h
    · rename_i st2 h2
      cases h
      have := prun_ok hG (ops := ops.toArray) (Q' := lift E Q) (rest := l.drop n) (l.take n) st st1 Cs (by simpa using h1) hC a w r fun a' w' r' => hk a' w' (r'.keep h2)
      rwa [List.take_append_drop] at this
    · cases h
  · cases h

/-- all that s says, t says -/
def Le (E : Env) (s t : St) : Prop := ∀ a w, Rel E s a w → Rel E t a w
theorem Le.refl {s : St} : Le E s s := fun _ _ h => h
theorem Le.trans {s t u : St} (h : Le E s t) (h' : Le E t u) : Le E s u := fun a w r => h' a w (h a w r)
theorem Le.keep {s t : St} {ts os : List Nat} (h : s.keep ts os = some t) : Le E s t := fun _ _ r => r.keep h
theorem pops_nil {ops : List Oper} (h : Q .normal st) : pops P E ops Q [] st := fun _ _ r => ⟨st, h, r⟩
theorem pops_weak {ops : List Oper} {l : List Oper} (h : Le E st st') (hk : pops P E ops Q l st') : pops P E ops Q l st := fun a w r => hk a w (h a w r)
theorem pwp_weak {c : Code} (h : Le E st st') (hk : pwp P E c Q st') : pwp P E c Q st := fun a w r => hk a w (h a w r)
theorem pwp_mono {c : Code} {Q' : Post} (h : pwp P E c Q st) (hq : ∀ e s, Q e s → Q' e s) : pwp P E c Q' st := fun a w r => wp_mono (h a w r) fun e a w ⟨s, hs, hr⟩ => ⟨s, hq e s hs, hr⟩

theorem pwp_region {id : Nat} {l : List Oper} (h : pops P E l Q l st) : pwp P E (.region id l.toArray false) Q st := fun a w r => wp_region_lit (h a w r)
/-- a whole region, and what then stays -/
theorem pwp_run (hG : Good P E I) {id : Nat} {l : List Oper} (ts os : List Nat) {Cs : List Prop} (h : prunK I l l l.length ts os st = some (st', Cs)) (hC : All Cs) (hk : Q .normal st') :
    pwp P E (.region id l.toArray false) Q st :=
  pwp_region (pops_run hG l.length ts os h hC (by rw [List.drop_length]; exact fun _ _ r => ⟨st', hk, r⟩))

theorem pops_int {ops : List Oper} {l : List Oper} {t : Nat} {k : IntKind} {n : Int} (m : Int) (hl : look st.fr t = some (.t (.int k n)))
    (h1 : n = m → pops P E ops Q l { st with fr := (t, .t (.int k m)) :: del t st.fr }) (h2 : n ≠ m → pops P E ops Q l st) : pops P E ops Q l st := by
  by_cases h : n = m
  · intro a w r
    refine h1 h a w ?_
    obtain ⟨F, g, r⟩ := r
    refine ⟨F, g, r.nt, r.df, fun u x hx => ?_, r.w⟩
    simp only [List.mem_cons, Prod.mk.injEq] at hx
    rcases hx with ⟨rfl, rfl⟩ | hx
    · have := r.fr _ _ (look_mem hl)
      rw [h] at this
      exact this
    · exact r.fr _ _ (mem_del.1 hx).1
  · exact h2 h
theorem nsplit {p : Prop} (r m : Nat) (h1 : r = m → p) (h2 : r ≠ m → p) : p := if h : r = m then h1 h else h2 h

def thenQ (P : Program) (E : Env) (y : Code) (Q : Post) : Post := fun e s => match e with | .normal => pwp P E y Q s | e => Q e s
theorem pwp_seq {x y : Code} (h : pwp P E x (thenQ P E y Q) st) : pwp P E (.seq x y) Q st := by
  intro a w r
  refine wp_seq (wp_mono (h a w r) fun e a' w' ⟨s, hs, hr⟩ => ?_)
  cases e with
  | normal => exact hs a' w' hr
  | _ => exact ⟨s, hs, hr⟩
theorem pwp_skip (h : Q .normal st) : pwp P E .skip Q st := fun _ _ r => wp_skip ⟨st, h, r⟩
theorem pwp_exit {id : Nat} (h : Q (.exit id) st) : pwp P E (.exit id) Q st := fun _ _ r => wp_exit ⟨st, h, r⟩
theorem pwp_ret (h : Q .ret st) : pwp P E .ret Q st := fun _ _ r => wp_ret ⟨st, h, r⟩
theorem pwp_cond {c : Operand} {x y : Code} {b : Bool} (hc : ev st c = some (.t (.bool b))) (h1 : b = true → pwp P E x Q st) (h2 : b = false → pwp P E y Q st) : pwp P E (.cond c x y) Q st := by
  intro a w r
  obtain ⟨F, g, r'⟩ := id r
  have hv := (ev_ok r' hc).inv_bool
  exact wp_cond_split hv (fun e => h1 e a w r) (fun e => h2 e a w r)
def blockQ (id : Nat) (Q : Post) : Post := fun e s => match e with | .exit id' => if id' = id then Q .normal s else Q (.exit id') s | e => Q e s
theorem pwp_block {id : Nat} {c : Code} (h : pwp P E c (blockQ id Q) st) : pwp P E (.block id c) Q st := by
  intro a w r
  refine wp_block (wp_mono (h a w r) fun e a' w' ⟨s, hs, hr⟩ => ?_)
  cases e with
  | exit id' =>
    simp only [blockQ] at hs
    simp only [Exit.inBlock]
    split
    · rename_i e; rw [if_pos e] at hs; exact ⟨s, hs, hr⟩
    · rename_i e; rw [if_neg e] at hs; exact ⟨s, hs, hr⟩
  | _ => exact ⟨s, hs, hr⟩

theorem then_n {y : Code} {s : St} (h : pwp P E y Q s) : thenQ P E y Q .normal s := h
theorem then_ret {y : Code} {s : St} (h : Q .ret s) : thenQ P E y Q .ret s := h
theorem then_exit {y : Code} {s : St} {i : Nat} (h : Q (.exit i) s) : thenQ P E y Q (.exit i) s := h
theorem blk_n {id : Nat} {s : St} (h : Q .normal s) : blockQ id Q .normal s := h
theorem blk_ret {id : Nat} {s : St} (h : Q .ret s) : blockQ id Q .ret s := h
theorem blk_hit {id : Nat} {s : St} (h : Q .normal s) : blockQ id Q (.exit id) s := by simpa [blockQ] using h
theorem blk_miss {id id' : Nat} {s : St} (hn : id' ≠ id) (h : Q (.exit id') s) : blockQ id Q (.exit id') s := by simpa [blockQ, hn] using h
attribute [irreducible] thenQ blockQ

/-- a loop, as a function -/
def iterM {S R : Type} (body : S → Option (S ⊕ R)) : Nat → S → Option R
  | 0, _ => none
  | n + 1, s => match body s with
    | none => none
    | some (.inl s') => iterM body n s'
    | some (.inr r) => some r

/-- a round's end: the next round's state, or what lies behind -/
def roundQ {S R : Type} (E : Env) (tm : S → St) (Qx : R → Post) (x : S ⊕ R) : Post := fun e s =>
  match x with
  | .inl s' => e = .normal ∧ Le E s (tm s')
  | .inr r => e ≠ .normal ∧ Qx r e s

theorem round_in {S R : Type} {tm : S → St} {Qx : R → Post} {s' : S} {s : St} (h : Le E s (tm s')) : roundQ E tm Qx (.inl s') .normal s := ⟨rfl, h⟩
theorem round_out {S R : Type} {tm : S → St} {Qx : R → Post} {r : R} {e : Exit} {s : St} (hne : e ≠ .normal) (h : Qx r e s) : roundQ E tm Qx (.inr r) e s := ⟨hne, h⟩

theorem pwp_loop {c : Code} {S R : Type} (body : S → Option (S ⊕ R)) (tm : S → St) (Qx : R → Post) (hb : ∀ s x, body s = some x → pwp P E c (roundQ E tm Qx x) (tm s)) :
    ∀ (n : Nat) (s0 : S) (r : R), iterM body n s0 = some r → (∀ e s, Qx r e s → ∃ t, Le E s t ∧ Q e t) → pwp P E (.loop c) Q (tm s0) := by
  intro n s0 r hn hq a w hr
  refine wp_loop_rounds n ?_
  induction n generalizing s0 a w with
  | zero => simp [iterM] at hn
  | succ m ih =>
    rw [rounds_succ]
    simp only [iterM] at hn
    cases hbs : body s0 with
    | none => simp [hbs] at hn
    | some x =>
      refine wp_mono (hb s0 x hbs a w hr) fun e a' w' ⟨st', hst, hrel⟩ => ?_
      cases x with
      | inl s' =>
        obtain ⟨rfl, hle⟩ := hst
        simp only [hbs] at hn
        exact ih s' hn a' w' (hle _ _ hrel)
      | inr r' =>
        simp only [hbs] at hn
        cases hn
        obtain ⟨hne, hqx⟩ := hst
        obtain ⟨t, ht, hqt⟩ := hq _ _ hqx
        cases e with
        | normal => exact absurd rfl hne
        | _ => exact ⟨t, hqt, ht _ _ hrel⟩

end
end Go.PL
