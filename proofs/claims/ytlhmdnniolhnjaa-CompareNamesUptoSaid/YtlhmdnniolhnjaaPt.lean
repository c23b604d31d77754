/-
  Short forms of the rules, for printed proofs. Own work.
-/
import Derived.Test.YtlhmdnniolhnjaaPs
import Derived.KernelRfl
namespace Go.PL
open Go

/-- these entries, some of them new -/
def nxL {α : Type} (l new : List (Nat × α)) : List Nat → List (Nat × α)
  | [] => []
  | t :: ts => match look new t with
    | some x => (t, x) :: nxL l new ts
    | none => match look l t with
      | some x => (t, x) :: nxL l new ts
      | none => nxL l new ts
def nx (st : St) (ts os : List Nat) (new : List (Nat × PV)) (newh : List (Nat × PObj)) : St := ⟨nxL st.fr new ts, nxL st.hp newh os⟩
abbrev iV (n : Int) : PV := .t (.int .i64 n)
abbrev bV (b : Bool) : PV := .t (.bool b)
/-- may the result stand where rows were lent? -/
def lentOk (L : List Nat) (x : PV) : Bool := match L with | [] => x.pure | _ => x.scalar
def keysL {α : Type} : List (Nat × α) → List Nat
  | [] => []
  | e :: l => e.1 :: keysL l

section
variable {P : Program} {E : Env} {I : Inf} {Q : Post} {st : St}

theorem pn (hG : Good P E I) {ops l : List Oper} (n : Nat) (ts os : List Nat) (new : List (Nat × PV)) (newh : List (Nat × PObj)) (hk : pops P E ops Q (l.drop n) (nx st ts os new newh))
    (h : prunK I ops l n ts os st = some (nx st ts os new newh, []) := by kernel_rfl) : pops P E ops Q l st := pops_run hG n ts os h trivial hk
theorem pc (hG : Good P E I) {ops l : List Oper} (n : Nat) (ts os : List Nat) (new : List (Nat × PV)) (newh : List (Nat × PObj)) {p : Prop} (hp : p) (hk : pops P E ops Q (l.drop n) (nx st ts os new newh))
    (h : prunK I ops l n ts os st = some (nx st ts os new newh, [p]) := by kernel_rfl) : pops P E ops Q l st := pops_run hG n ts os h hp hk
theorem pd (hG : Good P E I) {ops l : List Oper} (n : Nat) (ts os : List Nat) (new : List (Nat × PV)) (newh : List (Nat × PObj)) {Cs : List Prop} (hp : All Cs) (hk : pops P E ops Q (l.drop n) (nx st ts os new newh))
    (h : prunK I ops l n ts os st = some (nx st ts os new newh, Cs) := by kernel_rfl) : pops P E ops Q l st := pops_run hG n ts os h hp hk
theorem rn (hG : Good P E I) {id : Nat} {l : List Oper} (ts os : List Nat) (new : List (Nat × PV)) (newh : List (Nat × PObj)) (hk : Q .normal (nx st ts os new newh))
    (h : prunK I l l l.length ts os st = some (nx st ts os new newh, []) := by kernel_rfl) : pwp P E (.region id l.toArray false) Q st := pwp_run hG ts os h trivial hk
theorem rc (hG : Good P E I) {id : Nat} {l : List Oper} (ts os : List Nat) (new : List (Nat × PV)) (newh : List (Nat × PObj)) {p : Prop} (hp : p) (hk : Q .normal (nx st ts os new newh))
    (h : prunK I l l l.length ts os st = some (nx st ts os new newh, [p]) := by kernel_rfl) : pwp P E (.region id l.toArray false) Q st := pwp_run hG ts os h hp hk
theorem rd (hG : Good P E I) {id : Nat} {l : List Oper} (ts os : List Nat) (new : List (Nat × PV)) (newh : List (Nat × PObj)) {Cs : List Prop} (hp : All Cs) (hk : Q .normal (nx st ts os new newh))
    (h : prunK I l l l.length ts os st = some (nx st ts os new newh, Cs) := by kernel_rfl) : pwp P E (.region id l.toArray false) Q st := pwp_run hG ts os h hp hk
/-- a region, and on -/
theorem sn (hG : Good P E I) {id : Nat} {l : List Oper} {y : Code} (ts os : List Nat) (new : List (Nat × PV)) (newh : List (Nat × PObj)) (hk : pwp P E y Q (nx st ts os new newh))
    (h : prunK I l l l.length ts os st = some (nx st ts os new newh, []) := by kernel_rfl) : pwp P E (.seq (.region id l.toArray false) y) Q st := pwp_seq (rn hG ts os new newh (then_n hk) h)
theorem sc (hG : Good P E I) {id : Nat} {l : List Oper} {y : Code} (ts os : List Nat) (new : List (Nat × PV)) (newh : List (Nat × PObj)) {p : Prop} (hp : p) (hk : pwp P E y Q (nx st ts os new newh))
    (h : prunK I l l l.length ts os st = some (nx st ts os new newh, [p]) := by kernel_rfl) : pwp P E (.seq (.region id l.toArray false) y) Q st := pwp_seq (rc hG ts os new newh hp (then_n hk) h)
theorem sd (hG : Good P E I) {id : Nat} {l : List Oper} {y : Code} (ts os : List Nat) (new : List (Nat × PV)) (newh : List (Nat × PObj)) {Cs : List Prop} (hp : All Cs) (hk : pwp P E y Q (nx st ts os new newh))
    (h : prunK I l l l.length ts os st = some (nx st ts os new newh, Cs) := by kernel_rfl) : pwp P E (.seq (.region id l.toArray false) y) Q st := pwp_seq (rd hG ts os new newh hp (then_n hk) h)
theorem kw {c : Code} (ts os : List Nat) (hk : pwp P E c Q (nx st ts os [] [])) (h : st.keep ts os = some (nx st ts os [] []) := by kernel_rfl) : pwp P E c Q st := pwp_weak (Le.keep h) hk
theorem ko {ops l : List Oper} (ts os : List Nat) (hk : pops P E ops Q l (nx st ts os [] [])) (h : st.keep ts os = some (nx st ts os [] []) := by kernel_rfl) : pops P E ops Q l st := pops_weak (Le.keep h) hk
theorem jn {A : Code} (ts os : List Nat) (new : List (Nat × PV)) (newh : List (Nat × PObj)) (h1 : pwp P E A (Fall E (nx st ts os new newh)) st) (h2 : Q .normal (nx st ts os new newh)) : pwp P E A Q st := pwp_join h1 h2
/-- a loop, as a function -/
theorem lp {id : Nat} {c : Code} {S R : Type} (body : S → Option (S ⊕ R)) (tm : S → St) (Qx : R → Post) (hb : ∀ s x, body s = some x → pwp P E c (roundQ E tm Qx x) (tm s)) (n : Nat) (s0 : S) (r : R) (hn : iterM body n s0 = some r)
    (hq : ∀ e s, Qx r e s → ∃ t, Le E s t ∧ blockQ id Q e t) (h : st.keep (keysL (tm s0).fr) (keysL (tm s0).hp) = some (tm s0) := by kernel_rfl) : pwp P E (.block id (.loop c)) Q st :=
  pwp_weak (Le.keep h) (pwp_block (pwp_loop body tm Qx hb n s0 r hn hq))
theorem lk {s t : St} (h : s.keep (keysL t.fr) (keysL t.hp) = some t := by kernel_rfl) : Le E s t := Le.keep h
/-- the state, said in full -/
theorem ws {c : Code} (t : St) (hk : pwp P E c Q t) (h : st.keep (keysL t.fr) (keysL t.hp) = some t := by kernel_rfl) : pwp P E c Q st := pwp_weak (Le.keep h) hk
theorem os {ops l : List Oper} (t : St) (hk : pops P E ops Q l t) (h : st.keep (keysL t.fr) (keysL t.hp) = some t := by kernel_rfl) : pops P E ops Q l st := pops_weak (Le.keep h) hk
theorem ls {s : St} (t : St) (h : s.keep (keysL t.fr) (keysL t.hp) = some t := by kernel_rfl) : Le E s t := Le.keep h
theorem fl {s t : St} (h : s.keep (keysL t.fr) (keysL t.hp) = some t := by kernel_rfl) : Fall E t .normal s := fall (Le.keep h)
theorem iw {c : Operand} {x y : Code} {b : Bool} {α : Type} {X Y : Option α} {z : α} (h : (if b = true then X else Y) = some z) (h1 : X = some z → pwp P E x Q st) (h0 : Y = some z → pwp P E y Q st)
    (hc : ev st c = some (.t (.bool b)) := by kernel_rfl) : pwp P E (.cond c x y) Q st := pwp_cond hc (fun hb => h1 (ite_t hb h)) (fun hb => h0 (ite_f hb h))
theorem io {ops l : List Oper} (t : Nat) {b : Bool} {α : Type} {X Y : Option α} {z : α} (h : (if b = true then X else Y) = some z) (h1 : X = some z → pops P E ops Q l { st with fr := (t, .t (.bool true)) :: del t st.fr })
    (h0 : Y = some z → pops P E ops Q l { st with fr := (t, .t (.bool false)) :: del t st.fr }) (hl : look st.fr t = some (.t (.bool b)) := by kernel_rfl) : pops P E ops Q l st :=
  pops_bool hl (fun hb => h1 (ite_t hb h)) (fun hb => h0 (ite_f hb h))
theorem pe {ops : List Oper} {l : List Oper} (h : Q .normal st) (hl : l = [] := by kernel_rfl) : pops P E ops Q l st := pops_end hl h
theorem rt {rs : List ResultVar} {x : PV} (h : resP I rs st = some x := by kernel_rfl) : finQ I rs (Ret x) .ret st := ret_at h
/-- a call of a function of data -/
theorem ca (hG : Good P E I) {ops l : List Oper} {o : Oper} {rest : List Oper} {c : Call} {f : Operand} {k d : Nat} {aps bps : List PV} {x : PV} (L : List Nat)
    (hl : l = o :: rest) (hop : o.op = .call c) (hcal : c.callee = .value f) (hd : o.dst = some d) (hk : Callable P k) (has : ArgsR st L aps bps) (hcall : PCall P k bps [] [] (Ret x)) (hn : pops P E ops Q rest (st.put d x))
    (hw : wantedP ops o st = some true := by kernel_rfl) (hnt : Nat.blt d I.nt = true := by kernel_rfl) (hf : ev st f = some (.fn (.func k) 0 []) := by kernel_rfl) (hargs : evList st c.args.toList = some aps := by kernel_rfl)
    (hp : lentOk L x = true := by kernel_rfl) : pops P E ops Q l st :=
  pops_call hG L hl hop hcal hd hw hnt hf hargs hk (by simpa using has) hcall (fun r H' hr => by
    unfold Ret at hr; subst hr; exact ⟨by cases L <;> exact hp, hn⟩)
/-- a call of a function that is handed objects -/
theorem ch (hG : Good P E I) {ops l : List Oper} {o : Oper} {rest : List Oper} {c : Call} {f : Operand} {k d nf : Nat} {caps aps bps : List PV} {x : PV} {Hs Ht : Hp} (L N nw : List Nat)
    (hl : l = o :: rest) (hop : o.op = .call c) (hcal : c.callee = .value f) (hd : o.dst = some d) (hk : Callable P k) (has : ArgsR st [] (caps.take nf ++ aps ++ caps.drop nf) bps)
    (hcall : PCall P k bps Hs N (RetH x Ht)) (hn : pops P E ops Q rest (({ fr := st.fr, hp := Ht ++ restH st.hp L } : St).put d x))
    (hw : wantedP ops o st = some true := by kernel_rfl) (hnt : Nat.blt d I.nt = true := by kernel_rfl) (hf : ev st f = some (.fn (.func k) nf caps) := by kernel_rfl) (hargs : evList st c.args.toList = some aps := by kernel_rfl)
    (hpick : pickH st.hp L = some Hs := by kernel_rfl) (hfresh : freshIn st L I.N nw = true := by kernel_rfl) (hb : backIn x Ht (N ++ nw) = true := by kernel_rfl) : pops P E ops Q l st :=
  pops_callH hG L N nw hl hop hcal hd hw hnt hf hargs hk has hpick hfresh hcall (fun r H' hr => by
    unfold RetH at hr; obtain ⟨rfl, rfl⟩ := hr; exact ⟨hb, hn⟩)
theorem ln (hG : Good P E I) {id : Nat} {l : List Oper} (calls : List (Nat × (Nat × List PV × PV))) (lits : List (Nat × (Bool × Bool))) (conds : List (Nat × List Prop)) (ol : OL)
    (ts : List Nat) (hc : AnnOk P calls) (hl : LitOk lits) (hA : CondOk conds) (ts' os' : List Nat) (new : List (Nat × PV)) (newh : List (Nat × PObj)) (hk : Q .normal (nx st ts' os' new newh))
    (hm : P.follows .mixedOrders = true := by kernel_rfl)
    (hw : (wfL l (preG (deps l) []) st ts (canonL st.fr ts) (linL I l calls lits st ts ol) ol && litsB lits (linL I l calls lits st ts ol)) = true := by kernel_rfl)
    (he : effL I l calls st (canonL st.fr ts) (linL I l calls lits st ts ol) ol (preG (deps l) []) 0 l = expL l calls lits conds st (canonL st.fr ts) (linL I l calls lits st ts ol) ol (preG (deps l) []) 0 l := by kernel_rfl)
    (hF : (stP st (canonL st.fr ts) l (linL I l calls lits st ts ol) ol (fun j => Nat.blt j l.length)).keep ts' os' = some (nx st ts' os' new newh) := by kernel_rfl) : pwp P E (.region id l.toArray true) Q st :=
  pwp_lin hG hm calls lits conds ol ts hc hl hA ts' os' hw he hF hk
end

end Go.PL
