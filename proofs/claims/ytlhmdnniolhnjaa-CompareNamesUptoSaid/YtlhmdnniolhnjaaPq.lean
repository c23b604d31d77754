/-
  Regions whose order is open: every order, looked at by a computation over abstract states. Own work.
-/
import Derived.Test.YtlhmdnniolhnjaaPp
import Derived.Orders
namespace Go.PL
open Go

structure Ann where
  lits : List (Nat × (Bool × Bool))
  calls : List (Nat × (Nat × List PV × PV))
  conds : List (Nat × List Prop)
  frz : List (Nat × Bool)

def condsAt (an : Ann) (i : Nat) : List Prop := match look an.conds i with | some l => l | none => []

def asSt (l : List PV) : St := ⟨initFr l 0, []⟩

/-- a call whose result is known -/
def callD (I : Inf) (ops : List Oper) (o : Oper) (st : St) (k : Nat) (args : List PV) (r : PV) : Option (St × List Prop × List (St × St)) :=
  match wantedP ops o st, o.op, o.dst with
  | some true, .call c, some d => match c.callee with
    | .value f => match ev st f, evList st c.args.toList, Nat.blt d I.nt with
      | some (.fn (.func k') 0 []), some as, true => match Nat.beq k' k with
        | true => some (st.put d r, [], [(asSt as, asSt args)])
        | false => none
      | _, _, _ => none
    | _ => none
  | _, _, _ => none

def stepD0 (I : Inf) (ops : List Oper) (an : Ann) (i : Nat) (o : Oper) (st : St) : Option (St × List Prop × List (St × St)) :=
  match look an.calls i with
  | some (k, args, r) => callD I ops o st k args r
  | none => match step1 I ops o st with | some (st', C) => some (st', C, []) | none => none

def litD (an : Ann) (i : Nat) (o : Oper) (st' : St) : Option (St × List (St × St)) :=
  match look an.lits i with
  | none => some (st', [])
  | some (b, v) => match o.dst with
    | some d => match look st'.fr d with
      | some p => some ({ st' with fr := (d, .t (.bool v)) :: del d st'.fr }, [(⟨[(0, p)], []⟩, ⟨[(0, .t (.bool b))], []⟩)])
      | none => none
    | none => none

/-- a fresh row that is data from the start -/
def frzD (an : Ann) (i : Nat) (o : Oper) (st : St) : Option St :=
  match look an.frz i with
  | none => some st
  | some _ => match o.dst with
    | some d => match look st.hp d with
      | some (.arr _ _ n f) => gfreeze d (.sl n f) st
      | _ => none
    | none => none
theorem frzD_ok {E : Env} {an : Ann} {i : Nat} {o : Oper} {st st' : St} (h : frzD an i o st = some st') : Le E st st' := by
  unfold frzD at h
  split at h
  · cases h; exact Le.refl
  · split at h
    · split at h
      · rename_i hl; exact Le.freeze _ hl rfl h
      · cases h
    · cases h

def canonL {α : Type} (l : List (Nat × α)) : List Nat → List (Nat × α)
  | [] => []
  | t :: ts => match look l t with | some x => (t, x) :: canonL l ts | none => canonL l ts
theorem canonL_mem {α : Type} {l : List (Nat × α)} : ∀ {ts : List Nat} e, e ∈ canonL l ts → e ∈ l
  | [], e, h => by simp [canonL] at h
  | t :: ts, e, h => by
    simp only [canonL] at h
    split at h
    · rename_i x hx
      rcases List.mem_cons.1 h with rfl | h
      · exact look_mem hx
      · exact canonL_mem e h
    · exact canonL_mem e h
def St.canon (ts os : List Nat) (st : St) : St := ⟨canonL st.fr ts, canonL st.hp os⟩

/-- one operation, in any order: the state, what it asks, what must be the same -/
def stepD (I : Inf) (ops : List Oper) (an : Ann) (ts os : List Nat) (i : Nat) (st : St) : Option (St × List Prop × List (St × St)) :=
  match ops[i]? with
  | none => none
  | some o => match stepD0 I ops an i o st with
    | none => none
    | some (st0, C, prs) => match frzD an i o st0 with
     | none => none
     | some st' => match litD an i o st' with
      | none => none
      | some (st'', prs') => some (st''.canon ts os, C, prs ++ prs')

def eqB : List Bool → List Bool → Bool
  | [], [] => true
  | true :: l, true :: r => eqB l r
  | false :: l, false :: r => eqB l r
  | _, _ => false
theorem eqB_ok : ∀ {l r : List Bool}, eqB l r = true → l = r
  | [], [], _ => rfl
  | true :: l, true :: r, h => by rw [eqB_ok (l := l) (r := r) (by simpa [eqB] using h)]
  | false :: l, false :: r, h => by rw [eqB_ok (l := l) (r := r) (by simpa [eqB] using h)]
  | [], _ :: _, h => by simp [eqB] at h
  | _ :: _, [], h => by simp [eqB] at h
  | true :: _, false :: _, h => by simp [eqB] at h
  | false :: _, true :: _, h => by simp [eqB] at h

def depOn (o : Oper) : List Nat := (o.after.toList.filter (Region.binds .any)).map (·.on)
def getB : List Bool → Nat → Bool → Bool
  | [], _, d => d
  | b :: _, 0, _ => b
  | _ :: l, i + 1, d => getB l i d
theorem getB_eq (l : List Bool) (i : Nat) (d : Bool) : getB l i d = l.getD i d := by
  induction l generalizing i with
  | nil => simp [getB]
  | cons b l ih => cases i <;> simp [getB, ih]
def setB : List Bool → Nat → List Bool
  | [], _ => []
  | _ :: l, 0 => true :: l
  | b :: l, i + 1 => b :: setB l i
theorem setB_eq (l : List Bool) (i : Nat) : setB l i = l.set i true := by
  induction l generalizing i with
  | nil => simp [setB]
  | cons b l ih => cases i <;> simp [setB, ih]

/-- may i come up now? -/
def rdyB (ops : List Oper) (m : List Bool) (i : Nat) : Bool :=
  match getB m i true with
  | true => false
  | false => match ops[i]? with
    | none => false
    | some o => (depOn o).all fun j => getB m j false

abbrev Tab := List (List Bool × St)
def findT : Tab → List Bool → Option St
  | [], _ => none
  | (m, s) :: l, x => match eqB m x with | true => some s | false => findT l x
theorem findT_mem : ∀ {t : Tab} {m : List Bool} {s : St}, findT t m = some s → (m, s) ∈ t
  | [], m, s, h => by simp [findT] at h
  | (m', s') :: l, m, s, h => by
    simp only [findT] at h
    split at h
    · rename_i he; cases h; rw [eqB_ok he]; simp
    · exact List.mem_cons_of_mem _ (findT_mem h)

abbrev Chk := Option (List (List Prop × List Prop) × List (St × St))
def addC (x y : Chk) : Chk := match x, y with | some (a, b), some (c, d) => some (a ++ c, b ++ d) | _, _ => none

/-- all that may come up at one entry -/
def chkE (I : Inf) (ops : List Oper) (an : Ann) (ts os : List Nat) (tab : Tab) (m : List Bool) (st : St) : List Nat → Chk
  | [] => some ([], [])
  | i :: is => addC (match rdyB ops m i with
      | false => some ([], [])
      | true => match stepD I ops an ts os i st, findT tab (setB m i) with
        | some (st', C, prs), some st'' => some ([(C, condsAt an i)], (st', st'') :: prs)
        | _, _ => none) (chkE I ops an ts os tab m st is)
def chkT (I : Inf) (ops : List Oper) (an : Ann) (ts os : List Nat) (tab : Tab) (is : List Nat) : Tab → Chk
  | [] => some ([], [])
  | (m, st) :: l => addC (chkE I ops an ts os tab m st is) (chkT I ops an ts os tab is l)

/-- the table: the states behind each set of operations that may have come up -/
def growE (I : Inf) (ops : List Oper) (an : Ann) (ts os : List Nat) (m : List Bool) (st : St) : List Nat → Tab → Tab
  | [], acc => acc
  | i :: is, acc => match rdyB ops m i with
    | false => growE I ops an ts os m st is acc
    | true => match findT acc (setB m i) with
      | some _ => growE I ops an ts os m st is acc
      | none => match stepD I ops an ts os i st with
        | some (st', _, _) => growE I ops an ts os m st is ((setB m i, st') :: acc)
        | none => growE I ops an ts os m st is acc
def growL (I : Inf) (ops : List Oper) (an : Ann) (ts os : List Nat) (is : List Nat) : Tab → Tab → Tab
  | [], acc => acc
  | (m, st) :: l, acc => growL I ops an ts os is l (growE I ops an ts os m st is acc)
def tabs (I : Inf) (ops : List Oper) (an : Ann) (ts os : List Nat) (is : List Nat) : Nat → Tab → Tab
  | 0, fr => fr
  | n + 1, fr => fr ++ tabs I ops an ts os is n (growL I ops an ts os is fr [])

def allD (I : Inf) (ops : List Oper) (an : Ann) (ts os : List Nat) (tab : Tab) (n : Nat) : Chk := chkT I ops an ts os tab (List.range n) tab

structure CallOk (P : Program) (k : Nat) (args : List PV) (r : PV) : Prop where
  c : Callable P k
  h : ∃ bps, (∀ st, ArgsR st [] args bps) ∧ PCall P k bps [] [] (Ret r)
  p : r.pure = true

inductive AnnOk (P : Program) : List (Nat × (Nat × List PV × PV)) → Prop
  | nil : AnnOk P []
  | cons {i k : Nat} {args : List PV} {r : PV} {l : List (Nat × (Nat × List PV × PV))} (h : CallOk P k args r) (t : AnnOk P l) : AnnOk P ((i, k, args, r) :: l)
theorem AnnOk.mem {P : Program} {l : List (Nat × (Nat × List PV × PV))} (h : AnnOk P l) : ∀ e, e ∈ l → CallOk P e.2.1 e.2.2.1 e.2.2.2 := by
  induction h with
  | nil => simp
  | cons h _ ih =>
    intro e he
    rcases List.mem_cons.1 he with rfl | he
    · exact h
    · exact ih e he
inductive LitOk : List (Nat × (Bool × Bool)) → Prop
  | nil : LitOk []
  | cons {i : Nat} {b v : Bool} {l : List (Nat × (Bool × Bool))} (h : b = v) (t : LitOk l) : LitOk ((i, b, v) :: l)
theorem LitOk.mem {l : List (Nat × (Bool × Bool))} (h : LitOk l) : ∀ e, e ∈ l → e.2.1 = e.2.2 := by
  induction h with
  | nil => simp
  | cons h _ ih =>
    intro e he
    rcases List.mem_cons.1 he with rfl | he
    · exact h
    · exact ih e he

inductive CondOk : List (Nat × List Prop) → Prop
  | nil : CondOk []
  | cons {i : Nat} {C : List Prop} {l : List (Nat × List Prop)} (h : All C) (t : CondOk l) : CondOk ((i, C) :: l)
theorem CondOk.mem {l : List (Nat × List Prop)} (h : CondOk l) : ∀ e, e ∈ l → All e.2 := by
  induction h with
  | nil => simp
  | cons h _ ih =>
    intro e he
    rcases List.mem_cons.1 he with rfl | he
    · exact h
    · exact ih e he
theorem CondOk.at {an : Ann} (h : CondOk an.conds) (i : Nat) : All (condsAt an i) := by
  unfold condsAt
  split
  · rename_i l hl; exact h.mem _ (look_mem hl)
  · trivial

section
variable {P : Program} {E : Env} {I : Inf} {Q : Post} {st st' : St}

theorem asSt_inj {a b : List PV} (h : asSt a = asSt b) : a = b := by
  have key : ∀ (a b : List PV) (k : Nat), initFr a k = initFr b k → a = b := by
    intro a
    induction a with
    | nil => intro b k h; cases b <;> simp [initFr] at h ⊢
    | cons x a ih =>
      intro b k h
      cases b with
      | nil => simp [initFr] at h
      | cons y b => simp [initFr] at h; rw [h.1, ih b (k + 1) h.2]
  exact key a b 0 (by injection h)

theorem stepD_ok (hG : Good P E I) {ops : List Oper} {an : Ann} (hc : AnnOk P an.calls) (hl : LitOk an.lits) {ts os : List Nat} {i : Nat} {Cs : List Prop} {prs : List (St × St)}
    (h : stepD I ops an ts os i st = some (st', Cs, prs)) (hC : All Cs) (hp : ∀ e, e ∈ prs → e.1 = e.2) {a : Act} {w : World} (r : Rel E st a w) {Q' : Exit → Act → World → Prop} {K : Act → World → Prop}
    (hk : ∀ a' w', Rel E st' a' w' → K a' w') : wpOp P ops.toArray Q' i K a w := by
  unfold stepD at h
  unfold wpOp
  split at h
  · cases h
  · rename_i o ho
    have ho' : ops.toArray[i]? = some o := by simpa using ho
    rw [ho']
    simp only
    split at h
    · cases h
    · rename_i st1 C1 prs1 h1
      split at h
      · cases h
      rename_i st1' hfz
      split at h
      · cases h
      · rename_i st2 prs2 h2
        cases h
        -- the literal, and the form
        have hk1 : ∀ a' w', Rel E st1 a' w' → K a' w' := by
          intro a' w' r'
          replace r' := frzD_ok hfz a' w' r'
          refine hk a' w' ?_
          have r2 : Rel E st2 a' w' := by
            unfold litD at h2
            split at h2
            · cases h2; exact r'
            · rename_i b v hbv
              split at h2
              · split at h2
                · rename_i d hd p hlk
                  cases h2
                  have he := hp _ (List.mem_append_right _ (List.mem_singleton_self _))
                  have hpb : p = .t (.bool b) := by injection he with he; injection he with he; injection he
                  have hbv' : b = v := hl.mem _ (look_mem hbv)
                  subst hbv'
                  exact Rel.slot hlk (fun _ _ _ _ hv => by rw [hpb] at hv; exact hv) r'
                · cases h2
              · cases h2
          exact r2.sub (fun e he => canonL_mem e he) (fun e he => canonL_mem e he)
        unfold stepD0 at h1
        have fin : (if Region.wanted o (yielded ops.toArray a.tmps) then o.wp P a w K Q' else K (a.put o.dst undef) w) →
            (if Region.wanted o (yielded ops.toArray a.tmps) then o.wp P a w K Q' ∨ o.asks P a w ∧ LetsOut Q' else K (a.put o.dst undef) w) := by
          intro hh
          split
          · rename_i hw; rw [if_pos hw] at hh; exact .inl hh
          · rename_i hw; rw [if_neg hw] at hh; exact hh
        refine fin ?_
        split at h1
        · rename_i k args res hca
          have hok := hc.mem _ (look_mem hca)
          unfold callD at h1
          split at h1
          · rename_i c d hw hop hd
            split at h1
            · rename_i f hcal
              split at h1
              · rename_i k' as hf has hnt
                split at h1
                · rename_i hkk
                  have hkk := Nat.eq_of_beq_eq_true hkk
                  subst hkk
                  cases h1
                  have he := hp (asSt as, asSt args) (List.mem_append_left _ (List.mem_singleton_self _))
                  have hargs := asSt_inj he
                  subst hargs
                  obtain ⟨bps, hb1, hb2⟩ := hok.h
                  refine call_op hG [] (bps := bps) hop hcal hd hw hnt hf has hok.c (by simpa using hb1 st) hb2 r (fun r' H' hr => ?_)
                  unfold Ret at hr
                  subst hr
                  exact ⟨hok.p, fun a' w' r' => hk1 a' w' r'⟩
                · cases h1
              · cases h1
            · cases h1
          · cases h1
        · split at h1
          · rename_i st3 C3 h3
            cases h1
            exact step1_op (ops := ops.toArray) hG (by simpa using h3) hC r hk1
          · cases h1

theorem addC_some {x y : Chk} {C : List (List Prop × List Prop)} {p : List (St × St)} (h : addC x y = some (C, p)) : ∃ a b c d, x = some (a, b) ∧ y = some (c, d) ∧ C = a ++ c ∧ p = b ++ d := by
  unfold addC at h
  split at h
  · cases h; exact ⟨_, _, _, _, rfl, rfl, rfl, rfl⟩
  · cases h

theorem chkE_ok {ops : List Oper} {an : Ann} (hA : CondOk an.conds) {ts os : List Nat} {tab : Tab} {m : List Bool} : ∀ {is : List Nat} {C : List (List Prop × List Prop)} {prs : List (St × St)}, chkE I ops an ts os tab m st is = some (C, prs) →
    (∀ e, e ∈ C → e.1 = e.2) → (∀ e, e ∈ prs → e.1 = e.2) → ∀ i, i ∈ is → rdyB ops m i = true → ∃ st' C' prs', stepD I ops an ts os i st = some (st', C', prs') ∧ All C' ∧ (∀ e, e ∈ prs' → e.1 = e.2) ∧ (setB m i, st') ∈ tab
  | [], C, prs, h, _, _, i, hi, _ => by simp at hi
  | j :: is, C, prs, h, hC, hp, i, hi, hr => by
    simp only [chkE] at h
    obtain ⟨a, b, c, d, h1, h2, rfl, rfl⟩ := addC_some h
    rcases List.mem_cons.1 hi with rfl | hi
    · rw [hr] at h1
      simp only at h1
      split at h1
      · rename_i st1 C1 prs1 st2 hs hf
        cases h1
        have he := hp (st1, st2) (by simp)
        have hce := hC (C1, condsAt an i) (by simp)
        refine ⟨st1, C1, prs1, hs, ?_, fun e he => hp e (List.mem_append_left _ (List.mem_cons_of_mem _ he)), by simp only at he; rw [he]; exact findT_mem hf⟩
        simp only at hce
        rw [hce]; exact hA.at i
      · cases h1
    · exact chkE_ok hA h2 (fun e he => hC e (List.mem_append_right _ he)) (fun e he => hp e (List.mem_append_right _ he)) i hi hr

theorem chkT_ok {ops : List Oper} {an : Ann} {ts os is : List Nat} {tab : Tab} : ∀ {l : Tab} {C : List (List Prop × List Prop)} {prs : List (St × St)}, chkT I ops an ts os tab is l = some (C, prs) → (∀ e, e ∈ C → e.1 = e.2) → (∀ e, e ∈ prs → e.1 = e.2) →
    ∀ m st, (m, st) ∈ l → ∃ C' prs', chkE I ops an ts os tab m st is = some (C', prs') ∧ (∀ e, e ∈ C' → e.1 = e.2) ∧ ∀ e, e ∈ prs' → e.1 = e.2
  | [], C, prs, h, _, _, m, st, hm => by simp at hm
  | (m', st') :: l, C, prs, h, hC, hp, m, st, hm => by
    simp only [chkT] at h
    obtain ⟨a, b, c, d, h1, h2, rfl, rfl⟩ := addC_some h
    rcases List.mem_cons.1 hm with e | hm
    · cases e; exact ⟨a, b, h1, fun e he => hC e (List.mem_append_left _ he), fun e he => hp e (List.mem_append_left _ he)⟩
    · exact chkT_ok h2 (fun e he => hC e (List.mem_append_right _ he)) (fun e he => hp e (List.mem_append_right _ he)) m st hm

theorem rdyB_of {ops : List Oper} {m : List Bool} {i : Nat} (h : i ∈ Region.ready .any ops.toArray m.toArray) : rdyB ops m i = true ∧ i < ops.length := by
  obtain ⟨h1, o, ho, h2⟩ := mem_ready.1 h
  have ho' : ops[i]? = some o := by simpa using ho
  refine ⟨?_, (List.getElem?_eq_some_iff.1 ho').1⟩
  unfold rdyB
  have h1' : getB m i true = false := by rw [getB_eq]; simpa [Array.getD_eq_getD_getElem?, List.getD_eq_getElem?_getD] using h1
  rw [h1', ho']
  simp only [depOn, List.all_map, List.all_eq_true, List.mem_filter, Function.comp]
  rintro e ⟨he1, he2⟩
  have := h2 e (by simpa using he1) he2
  rw [getB_eq]
  simpa [Array.getD_eq_getD_getElem?, List.getD_eq_getElem?_getD] using this

theorem Rel.same {a : Act} {w w' : World} (r : Rel E st a w) (hh : w'.heap = w.heap) (ho : w'.os = w.os) (ht : w'.tape = w.tape) (hu : w'.output = w.output) : Rel E st a w' := by
  obtain ⟨F, g, r⟩ := r
  have hb : ∀ b : Nat, w'.heap[b]? = w.heap[b]? := fun b => by rw [hh]
  refine ⟨F, g, r.nt, r.df, fun t x hx => (r.fr t x hx).mono (fun b h => ⟨h, hb b⟩) (fun _ _ => rfl), ⟨⟨fun o x hx => ?_, r.w.hp.own, r.w.hp.sep⟩, r.w.f0, fun b h => ?_, ?_, r.w.names, r.w.b0⟩⟩
  · exact (r.w.hp.obj o x hx).mono (fun b h => ⟨h, hb b⟩) rfl (fun _ _ => rfl) (fun b _ => hb b)
  · rw [hh]; exact r.w.f1 b h
  · exact r.w.ext.trans ho ht hu (by rw [hh]; exact Nat.le_refl _) (fun b _ _ => hb b)
theorem Rel.drew {a : Act} {w : World} (r : Rel E st a w) : Rel E st a { w with drawn := w.drawn + 1 } := r.same rfl rfl rfl rfl

/-- where nothing can come up any more: the state, and what it should be -/
def ends (ops : List Oper) (ts os : List Nat) (stF : St) (is : List Nat) : Tab → List (St × St)
  | [] => []
  | (m, s) :: l => match is.any (rdyB ops m) with
    | true => ends ops ts os stF is l
    | false => (s.canon ts os, stF) :: ends ops ts os stF is l
theorem ends_mem {ops : List Oper} {ts os : List Nat} {stF : St} {is : List Nat} : ∀ {tab : Tab} {m : List Bool} {s : St}, (m, s) ∈ tab → is.any (rdyB ops m) = false → (s.canon ts os, stF) ∈ ends ops ts os stF is tab
  | (m', s') :: l, m, s, h, hn => by
    simp only [ends]
    rcases List.mem_cons.1 h with e | h
    · cases e
      rw [hn]; simp
    · split
      · exact ends_mem h hn
      · exact List.mem_cons_of_mem _ (ends_mem h hn)

def fstL {α : Type} : List (α × α) → List α | [] => [] | e :: l => e.1 :: fstL l
def sndL {α : Type} : List (α × α) → List α | [] => [] | e :: l => e.2 :: sndL l
theorem pairs_eq {α : Type} : ∀ {l : List (α × α)}, fstL l = sndL l → ∀ e, e ∈ l → e.1 = e.2
  | [], _, e, he => by simp at he
  | x :: l, h, e, he => by
    simp only [fstL, sndL, List.cons.injEq] at h
    rcases List.mem_cons.1 he with rfl | he
    · exact h.1
    · exact pairs_eq h.2 e he

def chkD (I : Inf) (l : List Oper) (an : Ann) (ts os : List Nat) (st : St) : Chk × Tab :=
  let tab := tabs I l an ts os (List.range l.length) l.length [(List.replicate l.length false, st)]
  (allD I l an ts os tab l.length, tab)
/-- what a look over all orders gives: the left sides, and the right sides, of all that must be the same -/
def lookL (l : List Oper) (ts' os' : List Nat) (stF : St) (x : Chk × Tab) : Option (List (List Prop) × List St) :=
  match x.1 with
  | some (C, prs) => some (fstL C, fstL (prs ++ ends l ts' os' stF (List.range l.length) x.2))
  | none => none
def lookR (l : List Oper) (ts' os' : List Nat) (stF : St) (x : Chk × Tab) : Option (List (List Prop) × List St) :=
  match x.1 with
  | some (C, prs) => some (sndL C, sndL (prs ++ ends l ts' os' stF (List.range l.length) x.2))
  | none => some ([], [])

theorem tabs_head {l : List Oper} {an : Ann} {ts os is : List Nat} : ∀ (n : Nat) (fr : Tab) e, e ∈ fr → e ∈ tabs I l an ts os is n fr
  | 0, fr, e, h => h
  | n + 1, fr, e, h => by simp only [tabs]; exact List.mem_append_left _ h

/-- EVERY ORDER. -/
theorem pwp_draw (hG : Good P E I) (hm : P.follows .mixedOrders = true) {id : Nat} {l : List Oper} (an : Ann) (hc : AnnOk P an.calls) (hl : LitOk an.lits) (hA : CondOk an.conds) (ts os ts' os' : List Nat) {stF : St}
    (h : lookL l ts' os' stF (chkD I l an ts os st) = lookR l ts' os' stF (chkD I l an ts os st)) (hk : Q .normal stF) : pwp P E (.region id l.toArray true) Q st := by
  intro a w r
  unfold chkD at h
  generalize htab : tabs I l an ts os (List.range l.length) l.length [(List.replicate l.length false, st)] = tab at h
  cases hall : allD I l an ts os tab l.length with
  | none => simp [hall, lookL, lookR] at h
  | some x =>
    obtain ⟨C, prs⟩ := x
    simp only [hall, lookL, lookR, Option.some.injEq, Prod.mk.injEq] at h
    obtain ⟨hC0, hp0⟩ := h
    have hC := pairs_eq hC0
    have hp := pairs_eq hp0
    have key : ∀ (fuel : Nat) (m : List Bool) (s : St), (m, s) ∈ tab → m.count false ≤ fuel → ∀ a w, Rel E s a w → wpAny P .any l.toArray (lift E Q) fuel m.toArray a w := by
      intro fuel
      induction fuel with
      | zero =>
        intro m s hmem hcnt a w r
        have hr : Region.ready .any l.toArray m.toArray = [] := by
          apply List.eq_nil_iff_forall_not_mem.2
          intro i hi
          have h1 := (mem_ready.1 hi).1
          have : false ∈ m := by
            by_cases hlt : i < m.length
            · have : m[i] = false := by simpa [Array.getD_eq_getD_getElem?, hlt] using h1
              rw [← this]; exact List.getElem_mem hlt
            · simp [Array.getD_eq_getD_getElem?, hlt] at h1
          have := List.count_pos_iff.2 this
          omega
        refine ⟨hr, stF, hk, ?_⟩
        have hnone : (List.range l.length).any (rdyB l m) = false := by
          rw [List.any_eq_false]
          intro i hi hri
          unfold rdyB at hri
          split at hri
          · cases hri
          · rename_i hb
            have : false ∈ m := by
              rw [getB_eq] at hb
              by_cases hlt : i < m.length
              · have : m[i] = false := by simpa [List.getD_eq_getElem?_getD, hlt] using hb
                rw [← this]; exact List.getElem_mem hlt
              · simp [List.getD_eq_getElem?_getD, hlt] at hb
            have := List.count_pos_iff.2 this
            omega
        have he := hp _ (List.mem_append_right _ (ends_mem (stF := stF) (ts := ts') (os := os') hmem hnone))
        simp only at he
        rw [← he]
        exact r.sub (fun e he => canonL_mem e he) (fun e he => canonL_mem e he)
      | succ fuel ih =>
        intro m s hmem hcnt a w r
        refine ⟨fun hr => ⟨stF, hk, ?_⟩, fun i hi => ?_⟩
        · have hnone : (List.range l.length).any (rdyB l m) = false := by
            rw [List.any_eq_false]
            intro i hi hri
            have : i ∈ Region.ready .any l.toArray m.toArray := by
              rw [mem_ready]
              unfold rdyB at hri
              split at hri
              · cases hri
              · rename_i hb
                split at hri
                · cases hri
                · rename_i o ho
                  rw [getB_eq] at hb
                  refine ⟨by simpa [Array.getD_eq_getD_getElem?, List.getD_eq_getElem?_getD] using hb, o, by simpa using ho, fun e he hbd => ?_⟩
                  simp only [depOn, List.all_map, List.all_eq_true, List.mem_filter, Function.comp] at hri
                  have := hri e ⟨by simpa using he, hbd⟩
                  rw [getB_eq] at this
                  simpa [Array.getD_eq_getD_getElem?, List.getD_eq_getElem?_getD] using this
            rw [hr] at this
            cases this
          have he := hp _ (List.mem_append_right _ (ends_mem (stF := stF) (ts := ts') (os := os') hmem hnone))
          simp only at he
          rw [← he]
          exact r.sub (fun e he => canonL_mem e he) (fun e he => canonL_mem e he)
        · obtain ⟨hri, hil⟩ := rdyB_of hi
          obtain ⟨C', prs', hce, hC', hp'⟩ := chkT_ok hall hC (fun e he => hp e (List.mem_append_left _ he)) m s hmem
          obtain ⟨st', C'', prs'', hst, hC'', hp'', hin⟩ := chkE_ok hA hce hC' hp' i (List.mem_range.2 hil) hri
          refine stepD_ok hG hc hl hst hC'' hp'' r fun a' w' r' => ?_
          have hset : (m.toArray).setIfInBounds i true = (setB m i).toArray := by rw [setB_eq]; simp
          rw [hset]
          refine ih (setB m i) st' hin ?_ a' w' r'
          have h1 := (mem_ready.1 hi).1
          by_cases hlt : i < m.length
          · have hmi : m[i] = false := by simpa [Array.getD_eq_getD_getElem?, hlt] using h1
            rw [setB_eq, List.count_set hlt, hmi]
            have : 0 < m.count false := List.count_pos_iff.2 (by rw [← hmi]; exact List.getElem_mem hlt)
            simp
            omega
          · simp [Array.getD_eq_getD_getElem?, hlt] at h1
    refine wp_region_any hm ?_
    have h0 := key l.length (List.replicate l.length false) st (by rw [← htab]; exact tabs_head _ _ _ (by simp)) (by simp) a _ r.drew
    simpa using h0

end
end Go.PL
