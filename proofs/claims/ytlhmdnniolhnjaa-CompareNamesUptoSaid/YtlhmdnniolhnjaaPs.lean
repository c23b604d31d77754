/-
  Regions whose order is open: each operation is looked at once, over what its forerunners give. Own work.
-/
import Derived.Test.YtlhmdnniolhnjaaPr
namespace Go.PL
open Go

structure LOp where
  val : Option PV
  md : Option (Nat × PObj)
instance : Inhabited LOp := ⟨⟨none, none⟩⟩

theorem look_app {α : Type} {l r : List (Nat × α)} {t : Nat} {x : α} (h : look l t = some x) : look (l ++ r) t = some x := by
  induction l with
  | nil => simp [look] at h
  | cons e l ih =>
    obtain ⟨k, u⟩ := e
    simp only [List.cons_append]
    unfold look at h ⊢
    split
    · rename_i hk; rw [hk] at h; exact h
    · rename_i hk; rw [hk] at h; exact ih h
theorem ev_app {st : St} {fr : Fr} {hp : Hp} {x : Operand} {p : PV} (h : ev st x = some p) : ev ⟨st.fr ++ fr, hp⟩ x = some p := by
  cases x with
  | tmp t => exact look_app h
  | const v => exact h
  | func f => exact h
  | global _ => simp [ev] at h
theorem evList_app {st : St} {fr : Fr} {hp : Hp} : ∀ {l : List Operand} {ps : List PV}, evList st l = some ps → evList ⟨st.fr ++ fr, hp⟩ l = some ps
  | [], ps, h => h
  | x :: l, ps, h => by
    simp only [evList] at h ⊢
    split at h
    · rename_i p q hp' hq
      cases h
      rw [ev_app hp', evList_app hq]
    · cases h
theorem wantedP_app {st : St} {fr : Fr} {hp : Hp} {ops : List Oper} {o : Oper} {b : Bool} (h : wantedP ops o st = some b) : wantedP ops o ⟨st.fr ++ fr, hp⟩ = some b := by
  unfold wantedP at h ⊢
  cases hg : o.guard with
  | none => rw [hg] at h; exact h
  | some g =>
    obtain ⟨j, want⟩ := g
    rw [hg] at h
    simp only at h ⊢
    cases hj : ops[j]? with
    | none => rw [hj] at h; cases h
    | some oj =>
      rw [hj] at h
      simp only at h ⊢
      cases hd : oj.dst with
      | none => rw [hd] at h; cases h
      | some d =>
        rw [hd] at h
        simp only at h ⊢
        cases hl : look st.fr d with
        | none => rw [hl] at h; simp at h
        | some p => rw [look_app hl]; rw [hl] at h; exact h

/-- what an operation does: the value of its slot, the object that it makes or changes, what it asks, what it hands over -/
abbrev Eff := Option PV × Option (Nat × PObj) × List Prop × List PV
def effO (I : Inf) (ops : List Oper) (ca : Option (Nat × List PV × PV)) (o : Oper) (st : St) : Option Eff :=
  match wantedP ops o st with
  | none => none
  | some false => match o.dst with
    | some d => match Nat.blt d I.nt with | true => some (some (.tup []), none, [], []) | false => none
    | none => some (none, none, [], [])
  | some true => match ca with
    | some (k, _, r) => match o.op, o.dst with
      | .call c, some d => match c.callee with
        | .value f => match ev st f, evList st c.args.toList, Nat.blt d I.nt with
          | some (.fn (.func k') 0 []), some as, true => match Nat.beq k' k with
            | true => some (some r, none, [], as)
            | false => none
          | _, _, _ => none
        | _ => none
      | _, _ => none
    | none => match o.op, o.dst with
      | .alloc e, some d => match I.ti e, Nat.blt d I.nt, nmem d I.N with
        | some i, true, true => some (some (.ptr d 0), some (d, .box i.zero), [], [])
        | _, _, _ => none
      | .store t a x, none => match I.ti t, ev st a, ev st x with
        | some i, some (.ptr b off), some q => match look st.hp b with
          | some (.box l) => match Nat.beq q.cells.length i.size, Nat.ble (off + i.size) l.length, q.cells.all PV.one with
            | true, true, true => some (none, some (b, .box (l.take off ++ q.cells ++ l.drop (off + i.size))), [], [])
            | _, _, _ => none
          | _ => none
        | _, _, _ => none
      | .box .., _ => none
      | .buildSlice .., _ => none
      | .makeMap .., _ => none
      | .mapUpdate .., _ => none
      | .store .., _ => none
      | .call { callee := .builtin .append, .. }, _ => none
      | op, some d => match pev I st op, Nat.blt d I.nt with
        | some (x, C), true => some (some x, none, condOf (isC st op) C, [])
        | _, _ => none
      | _, none => none

def appE (S : St) (d : Option Nat) (v : Option PV) (md : Option (Nat × PObj)) : St :=
  ⟨match d, v with | some d, some x => (d, x) :: del d S.fr | _, _ => S.fr, match md with | some (o, c) => (o, c) :: del o S.hp | none => S.hp⟩

section
variable {P : Program} {E : Env} {I : Inf} {Q : Post}

theorem RelG.sub {F : Nat → Prop} {g : Nat → Value} {st st' : St} {a : Act} {w : World} (r : RelG E F g st a w) (hf : ∀ e, e ∈ st'.fr → e ∈ st.fr) (hh : ∀ e, e ∈ st'.hp → e ∈ st.hp) : RelG E F g st' a w :=
  ⟨r.nt, r.df, fun t x hx => r.fr t x (hf _ hx), ⟨r.w.hp.sub hh, r.w.f0, r.w.f1, r.w.ext, r.w.names, r.w.b0⟩⟩

theorem eff_ok (hG : Good P E I) {ops : List Oper} {o : Oper} {S st : St} {ca : Option (Nat × List PV × PV)} (hca : ∀ k args r, ca = some (k, args, r) → CallOk P k args r) (hfr : ∀ e, e ∈ st.fr → e ∈ S.fr)
    (hhp : ∀ e, e ∈ st.hp → e ∈ S.hp) {v : Option PV} {md : Option (Nat × PObj)} {Cs : List Prop} {as : List PV} (h : effO I ops ca o st = some (v, md, Cs, as)) (hC : All Cs)
    (has : ∀ k args r, ca = some (k, args, r) → wantedP ops o st = some true → as = args) (hclean : ∀ e d, o.op = .alloc e → o.dst = some d → S.erase d = some S) {a : Act} {w : World} (r : Rel E S a w)
    {K : Act → World → Prop} {Q' : Exit → Act → World → Prop} (hk : ∀ a' w', Rel E (appE S o.dst v md) a' w' → K a' w') :
    if Region.wanted o (yielded ops.toArray a.tmps) then o.wp P a w K Q' else K (a.put o.dst undef) w := by
  obtain ⟨F, g, r⟩ := r
  have ri := r.sub hfr hhp
  unfold effO at h
  split at h
  · cases h
  · -- not wanted
    rename_i hw
    rw [if_neg (by rw [wantedP_ok (ops := ops.toArray) ri (by simpa using hw)]; simp)]
    split at h
    · rename_i d hd
      split at h
      · rename_i hlt
        cases h
        refine hk _ _ ?_
        rw [hd]
        exact ⟨F, g, r.put (by rw [hG.nt]; simpa [Nat.blt_eq] using hlt) (.tup rfl (fun j x v hx => by simp at hx))⟩
      · cases h
    · rename_i hd
      cases h
      refine hk _ _ ?_
      rw [hd]
      exact ⟨F, g, r⟩
  · rename_i hw
    have hwt := wantedP_ok (ops := ops.toArray) ri (by simpa using hw)
    split at h
    · -- a call
      rename_i k args res
      have hok := hca _ _ _ rfl
      have has' := has _ _ _ rfl hw
      split at h
      · rename_i c d hop hd
        split at h
        · rename_i f hcal
          split at h
          · rename_i k' as' hf hargs hnt
            split at h
            · rename_i hkk
              have hkk := Nat.eq_of_beq_eq_true hkk
              subst hkk
              cases h
              subst has'
              obtain ⟨bps, hb1, hb2⟩ := hok.h
              have r2 : Rel E ⟨st.fr ++ S.fr, S.hp⟩ a w := ⟨F, g, r.sub (fun e he => by
                rcases List.mem_append.1 he with he | he
                · exact hfr e he
                · exact he) (fun e he => he)⟩
              refine call_op hG [] (bps := bps) hop hcal hd (wantedP_app hw) hnt (ev_app hf) (evList_app hargs) hok.c (by simpa using hb1 _) hb2 r2 (fun r' H' hr => ?_)
              unfold Ret at hr
              subst hr
              refine ⟨hok.p, fun a' w' r' => hk a' w' ?_⟩
              refine r'.sub (fun e he => ?_) (fun e he => he)
              simp only [appE, hd] at he
              simp only [St.put]
              rcases List.mem_cons.1 he with rfl | he
              · exact List.mem_cons_self ..
              · refine List.mem_cons_of_mem _ ?_
                obtain ⟨k, y⟩ := e
                obtain ⟨h1, h2⟩ := mem_del.1 he
                exact mem_del.2 ⟨List.mem_append_right _ h1, h2⟩
            · cases h
          · cases h
        · cases h
      · cases h
    · split at h
      · -- alloc
        rename_i e d hop hd
        split at h
        · rename_i i hi hnt hN
          cases h
          have he := hclean _ _ hop hd
          obtain ⟨v, w', h1, h2⟩ := alloc_ok hG.ti hG.N hG.nt r hi (st' := _) (by unfold newP; rw [hnt, hN, he])
          rw [if_pos hwt]
          unfold Oper.wp
          have hex : (execOp a.eval o).run P w = .ok (.value v) w' := by unfold execOp; simp [hop, h1]
          rw [hex]
          simp only [Oper.upon]
          refine hk _ _ ?_
          rw [hd]
          refine h2.sub (fun e he => he) (fun e he => ?_)
          simp only [appE] at he
          rcases List.mem_cons.1 he with rfl | he
          · exact List.mem_cons_self ..
          · exact List.mem_cons_of_mem _ (mem_del.1 he).1
        · cases h
      · -- store
        rename_i t x y hop hd
        split at h
        · rename_i i b off q hi hx hy
          split at h
          · rename_i l hl
            split at h
            · rename_i c1 c2 c3
              cases h
              have hmem : (b, PObj.box l) ∈ S.hp := hhp _ (look_mem hl)
              have r1 : RelG E F g ⟨S.fr, (b, .box l) :: S.hp⟩ a w := r.sub (fun e he => he) (fun e he => by
                rcases List.mem_cons.1 he with rfl | he
                · exact hmem
                · exact he)
              obtain ⟨-, w', h1, h2⟩ := storeP_ok (P := P) r1 (hG.ti _ _ hi) (d := none) (p := .ptr b off) (x := q) (C := True)
                (by unfold storeP; simp only [look, Nat.beq_refl, c1, c2, c3]; rfl) trivial (ev_ok ri hx) (ev_ok ri hy)
              rw [if_pos hwt]
              unfold Oper.wp
              have hex : (execOp a.eval o).run P w = .ok .skip w' := by unfold execOp; simp [hop, h1]
              rw [hex]
              simp only [Oper.upon]
              refine hk _ _ ?_
              rw [hd]
              refine ⟨F, g, h2.sub (fun e he => he) (fun e he => ?_)⟩
              simp only [appE] at he
              rcases List.mem_cons.1 he with rfl | he
              · exact List.mem_cons_self ..
              · refine List.mem_cons_of_mem _ ?_
                obtain ⟨k, y⟩ := e
                obtain ⟨h3, h4⟩ := mem_del.1 he
                exact mem_del.2 ⟨List.mem_cons_of_mem _ h3, h4⟩
            · cases h
          · cases h
        · cases h
      all_goals try (cases h; done)
      -- the rest
      rename_i hd _ _ _ _ _ _ _
      split at h
      · rename_i x C hp hlt
        cases h
        have hcc : C := by
          cases hc : isC st o.op with
          | false => exact isC_ok hp hc
          | true => rw [hc] at hC; exact hC
        obtain ⟨v, h1, h2⟩ := pev_ok hG.ti ri o hp hcc
        rw [if_pos hwt]
        unfold Oper.wp
        rw [h1]
        refine hk _ _ ?_
        rw [hd]
        exact ⟨F, g, r.put (by rw [hG.nt]; simpa [Nat.blt_eq] using hlt) h2⟩
      · cases h


/-! ### the whole region -/

def deps (ops : List Oper) : List (List Nat) := ops.map depOn
def addN (l r : List Nat) : List Nat := match l with | [] => r | x :: l => match inN x r with | true => addN l r | false => addN l (x :: r)
/-- all forerunners, operation by operation -/
def preG : List (List Nat) → List (List Nat) → List (List Nat)
  | [], acc => acc
  | d :: l, acc => preG l (acc ++ [addN (d.flatMap fun j => acc.getD j []) d])

def facF (p : Nat → Bool) : Nat → List Oper → List LOp → Fr
  | _, [], _ => []
  | i, _ :: os, [] => facF p (i + 1) os []
  | i, o :: os, l :: ls => match p i, o.dst, l.val with
    | true, some d, some x => (d, x) :: facF p (i + 1) os ls
    | _, _, _ => facF p (i + 1) os ls

def mdOf (lo : List LOp) (j : Nat) : Option PObj := match lo.getD j default with | ⟨_, some (_, c)⟩ => some c | _ => none
def contO (lo : List LOp) (p : Nat → Bool) (c : Option PObj) : List Nat → Option PObj
  | [] => c
  | j :: js => match p j with
    | true => contO lo p (mdOf lo j) js
    | false => contO lo p c js

/-- objects: name, whether it is new here, the operations that make or change it, in their order -/
abbrev OL := List (Nat × Bool × List Nat)
def ini (hp : Hp) (o : Nat) (new : Bool) : Option PObj := match new with | true => none | false => look hp o
def facH (hp : Hp) (lo : List LOp) (p : Nat → Bool) : OL → Hp
  | [] => []
  | (o, new, js) :: l => match contO lo p (ini hp o new) js with
    | some x => (o, x) :: facH hp lo p l
    | none => facH hp lo p l

def stP (st : St) (fr0 : Fr) (ops : List Oper) (lo : List LOp) (ol : OL) (p : Nat → Bool) : St := ⟨fr0 ++ facF p 0 ops lo, facH st.hp lo p ol⟩
/-- the objects of which it is known, when i comes up, what they hold -/
def knw (pre : List (List Nat)) (i : Nat) (ol : OL) : OL := ol.filter fun e => e.2.2.all fun j => Nat.beq j i || inN j (pre.getD i []) || inN i (pre.getD j [])
def stI (st : St) (fr0 : Fr) (ops : List Oper) (lo : List LOp) (ol : OL) (pre : List (List Nat)) (i : Nat) : St := stP st fr0 ops lo (knw pre i ol) (fun j => inN j (pre.getD i []))

/-- operation by operation, in the text's order -/
def runL (I : Inf) (ops : List Oper) (calls : List (Nat × (Nat × List PV × PV))) (lits : List (Nat × (Bool × Bool))) (st : St) (fr0 : Fr) (ol : OL) (pre : List (List Nat)) : Nat → List Oper → List LOp → List LOp
  | _, [], lo => lo
  | i, o :: os, lo => runL I ops calls lits st fr0 ol pre (i + 1) os (lo ++ [match effO I ops (look calls i) o (stI st fr0 ops lo ol pre i) with
    | some (v, md, _, _) => ⟨match look lits i with | some (_, b) => some (.t (.bool b)) | none => v, md⟩
    | none => ⟨none, none⟩])

def effL (I : Inf) (ops : List Oper) (calls : List (Nat × (Nat × List PV × PV))) (st : St) (fr0 : Fr) (lo : List LOp) (ol : OL) (pre : List (List Nat)) : Nat → List Oper → List (Option Eff)
  | _, [] => []
  | i, o :: os => effO I ops (look calls i) o (stI st fr0 ops lo ol pre i) :: effL I ops calls st fr0 lo ol pre (i + 1) os
def expO (ops : List Oper) (calls : List (Nat × (Nat × List PV × PV))) (lits : List (Nat × (Bool × Bool))) (conds : List (Nat × List Prop)) (st : St) (lo : List LOp) (i : Nat) (o : Oper) : Option Eff :=
  some (match look lits i with | some (b, _) => some (.t (.bool b)) | none => (lo.getD i default).val, (lo.getD i default).md, match look conds i with | some l => l | none => [],
    match look calls i, wantedP ops o st with | some (_, as, _), some true => as | _, _ => [])
def expL (ops : List Oper) (calls : List (Nat × (Nat × List PV × PV))) (lits : List (Nat × (Bool × Bool))) (conds : List (Nat × List Prop)) (st : St) (fr0 : Fr) (lo : List LOp) (ol : OL) (pre : List (List Nat)) : Nat → List Oper → List (Option Eff)
  | _, [] => []
  | i, o :: os => expO ops calls lits conds (stI st fr0 ops lo ol pre i) lo i o :: expL ops calls lits conds st fr0 lo ol pre (i + 1) os

def noKey (d : Nat) : List Nat → Bool
  | [] => true
  | k :: l => !(Nat.beq k d) && noKey d l
def nodupB : List Nat → Bool
  | [] => true
  | k :: l => noKey k l && nodupB l
def dsts (ops : List Oper) : List Nat := ops.filterMap (·.dst)

/-- no fact speaks of the name d, unless it comes behind i -/
def cleanF (pre : List (List Nat)) (i d : Nat) : Nat → List LOp → Bool
  | _, [] => true
  | j, l :: ls => (match l.val with | some x => !(x.mentions d) || inN i (pre.getD j []) || Nat.beq j i | none => true) &&
      (match l.md with | some (_, c) => !(c.mentions d) || inN i (pre.getD j []) || Nat.beq j i | none => true) && cleanF pre i d (j + 1) ls
def cleanO (hp : Hp) (d : Nat) : OL → Bool
  | [] => true
  | (o, new, _) :: l => (match Nat.beq o d with | true => new | false => true) && (match ini hp o new with | some c => !(c.mentions d) | none => true) && cleanO hp d l
def isAlloc (o : Oper) : Option Nat := match o.op, o.dst with | .alloc _, some d => some d | _, _ => none
def allocsB (pre : List (List Nat)) (st : St) (fr0 : Fr) (lo : List LOp) (ol : OL) : Nat → List Oper → Bool
  | _, [] => true
  | i, o :: os => (match isAlloc o with
      | some d => cleanF pre i d 0 lo && cleanO st.hp d ol && fr0.all (fun e => !(e.2.mentions d)) && ol.all (fun e => !(Nat.beq e.1 d) || e.2.2.all fun j => Nat.beq j i || inN i (pre.getD j []))
      | none => true) && allocsB pre st fr0 lo ol (i + 1) os
/-- each operation that makes or changes an object stands with that object, and with no other -/
def modsB (ol : OL) : Nat → List LOp → Bool
  | _, [] => true
  | i, l :: ls => (match l.md with
      | some (o, _) => ol.any (fun e => Nat.beq e.1 o && inN i e.2.2) && ol.all (fun e => Nat.beq e.1 o || !(inN i e.2.2))
      | none => ol.all fun e => !(inN i e.2.2)) && modsB ol (i + 1) ls
def chainB (pre : List (List Nat)) : List Nat → Bool
  | [] => true
  | j :: js => js.all (fun k => inN j (pre.getD k [])) && chainB pre js
def preB (ops : List Oper) (pre : List (List Nat)) : Nat → List Oper → Bool
  | _, [] => true
  | i, o :: os => (depOn o).all (fun j => Nat.blt j i) && (pre.getD i []).all (fun k => Nat.blt k i && (inN k (depOn o) || (depOn o).any fun j => inN k (pre.getD j []))) && preB ops pre (i + 1) os
def wfL (ops : List Oper) (pre : List (List Nat)) (st : St) (ts : List Nat) (fr0 : Fr) (lo : List LOp) (ol : OL) : Bool :=
  preB ops pre 0 ops && nodupB (dsts ops) && ts.all (fun t => noKey t (dsts ops)) && nodupB (ol.map (·.1)) && modsB ol 0 lo && ol.all (fun e => chainB pre e.2.2) && allocsB pre st fr0 lo ol 0 ops &&
    Nat.beq lo.length ops.length

def litsB (lits : List (Nat × (Bool × Bool))) (lo : List LOp) : Bool := lits.all fun e => match (lo.getD e.1 default).val, e.2.2 with
  | some (.t (.bool true)), true => true
  | some (.t (.bool false)), false => true
  | _, _ => false

theorem mem_facF {p : Nat → Bool} : ∀ {i : Nat} {os : List Oper} {ls : List LOp} {e : Nat × PV}, e ∈ facF p i os ls → ∃ k o l, os[k]? = some o ∧ ls[k]? = some l ∧ p (i + k) = true ∧ o.dst = some e.1 ∧ l.val = some e.2
  | _, [], _, e, h => by simp [facF] at h
  | i, _ :: os, [], e, h => by
    simp only [facF] at h
    obtain ⟨k, o, l, h1, h2, _⟩ := mem_facF h
    simp at h2
  | i, o :: os, l :: ls, e, h => by
    have tail : e ∈ facF p (i + 1) os ls → ∃ k o' l', (o :: os)[k]? = some o' ∧ (l :: ls)[k]? = some l' ∧ p (i + k) = true ∧ o'.dst = some e.1 ∧ l'.val = some e.2 := by
      intro h
      obtain ⟨k, o', l', h1, h2, h3, h4⟩ := mem_facF h
      exact ⟨k + 1, o', l', by simpa using h1, by simpa using h2, by rw [← Nat.add_assoc, Nat.add_right_comm]; exact h3, h4⟩
    simp only [facF] at h
    split at h
    · rename_i d x hp hd hv
      rcases List.mem_cons.1 h with rfl | h
      · exact ⟨0, o, l, by simp, by simp, by simpa using hp, hd, hv⟩
      · exact tail h
    · exact tail h
theorem facF_mem {p : Nat → Bool} {d : Nat} {x : PV} : ∀ {i k : Nat} {os : List Oper} {ls : List LOp} {o : Oper} {l : LOp}, os[k]? = some o → ls[k]? = some l → p (i + k) = true → o.dst = some d → l.val = some x → (d, x) ∈ facF p i os ls
  | _, _, [], _, _, _, h, _, _, _, _ => by simp at h
  | _, _, _ :: _, [], _, _, _, h, _, _, _ => by simp at h
  | i, 0, o :: os, l :: ls, o', l', h1, h2, h3, h4, h5 => by
    simp at h1 h2; subst h1 h2
    simp only [Nat.add_zero] at h3
    simp [facF, h3, h4, h5]
  | i, k + 1, o :: os, l :: ls, o', l', h1, h2, h3, h4, h5 => by
    have := facF_mem (i := i + 1) (k := k) (os := os) (ls := ls) (by simpa using h1) (by simpa using h2) (by rw [Nat.add_assoc, Nat.add_comm 1 k]; exact h3) h4 h5
    simp only [facF]
    split
    · exact List.mem_cons_of_mem _ this
    · exact this

theorem contO_congr {lo : List LOp} {p q : Nat → Bool} : ∀ {js : List Nat} {c : Option PObj}, (∀ j, j ∈ js → p j = q j) → contO lo p c js = contO lo q c js
  | [], _, _ => rfl
  | j :: js, c, h => by
    simp only [contO, h j (by simp)]
    split
    · exact contO_congr fun k hk => h k (List.mem_cons_of_mem _ hk)
    · exact contO_congr fun k hk => h k (List.mem_cons_of_mem _ hk)
theorem contO_off {lo : List LOp} {q : Nat → Bool} : ∀ {js : List Nat} {c : Option PObj}, (∀ j, j ∈ js → q j = false) → contO lo q c js = c
  | [], _, _ => rfl
  | j :: js, c, h => by simp only [contO, h j (by simp)]; exact contO_off fun k hk => h k (List.mem_cons_of_mem _ hk)
theorem contO_set {lo : List LOp} {pre : List (List Nat)} {q : Nat → Bool} {i : Nat} (hi : q i = true) : ∀ {js : List Nat} {c : Option PObj}, chainB pre js = true → i ∈ js → (∀ j, j ∈ js → i ∈ pre.getD j [] → q j = false) →
    contO lo q c js = mdOf lo i
  | [], _, _, h, _ => by simp at h
  | j :: js, c, hc, h, hq => by
    simp only [chainB, Bool.and_eq_true, List.all_eq_true] at hc
    by_cases hj : j = i
    · subst hj
      simp only [contO, hi]
      exact contO_off fun k hk => hq k (List.mem_cons_of_mem _ hk) (inN_ok.1 (hc.1 k hk))
    · have hm : i ∈ js := by
        rcases List.mem_cons.1 h with rfl | h
        · exact absurd rfl hj
        · exact h
      simp only [contO]
      split
      · exact contO_set hi hc.2 hm fun k hk => hq k (List.mem_cons_of_mem _ hk)
      · exact contO_set hi hc.2 hm fun k hk => hq k (List.mem_cons_of_mem _ hk)
theorem contO_src {lo : List LOp} {p : Nat → Bool} {x : PObj} : ∀ {js : List Nat} {c : Option PObj}, contO lo p c js = some x → c = some x ∨ ∃ j, j ∈ js ∧ p j = true ∧ mdOf lo j = some x
  | [], _, h => .inl h
  | j :: js, c, h => by
    simp only [contO] at h
    split at h
    · rename_i hp
      rcases contO_src h with h | ⟨k, h1, h2, h3⟩
      · exact .inr ⟨j, by simp, hp, h⟩
      · exact .inr ⟨k, List.mem_cons_of_mem _ h1, h2, h3⟩
    · rcases contO_src h with h | ⟨k, h1, h2, h3⟩
      · exact .inl h
      · exact .inr ⟨k, List.mem_cons_of_mem _ h1, h2, h3⟩
theorem mem_facH {hp : Hp} {lo : List LOp} {p : Nat → Bool} : ∀ {ol : OL} {e : Nat × PObj}, e ∈ facH hp lo p ol → ∃ new js, (e.1, new, js) ∈ ol ∧ contO lo p (ini hp e.1 new) js = some e.2
  | [], e, h => by simp [facH] at h
  | (o, new, js) :: l, e, h => by
    have tail : e ∈ facH hp lo p l → ∃ new' js', (e.1, new', js') ∈ (o, new, js) :: l ∧ contO lo p (ini hp e.1 new') js' = some e.2 := by
      intro h
      obtain ⟨n', j', h1, h2⟩ := mem_facH h
      exact ⟨n', j', List.mem_cons_of_mem _ h1, h2⟩
    simp only [facH] at h
    split at h
    · rename_i x hx
      rcases List.mem_cons.1 h with rfl | h
      · exact ⟨new, js, by simp, hx⟩
      · exact tail h
    · exact tail h
theorem facH_mem {hp : Hp} {lo : List LOp} {p : Nat → Bool} {o : Nat} {new : Bool} {js : List Nat} {x : PObj} : ∀ {ol : OL}, (o, new, js) ∈ ol → contO lo p (ini hp o new) js = some x → (o, x) ∈ facH hp lo p ol
  | [], h, _ => by simp at h
  | (o', n', j') :: l, h, hx => by
    simp only [facH]
    rcases List.mem_cons.1 h with e | h
    · cases e; rw [hx]; simp
    · split
      · exact List.mem_cons_of_mem _ (facH_mem h hx)
      · exact facH_mem h hx

theorem erHp_clean {d : Nat} : ∀ {l : Hp}, (∀ e, e ∈ l → Nat.beq e.1 d = false ∧ e.2.mentions d = false) → erHp d l = some l
  | [], _ => rfl
  | (k, x) :: l, h => by
    have h1 := h _ (List.mem_cons_self ..)
    have hx : x.er d = some x := by
      cases x with
      | box c =>
        have hc : ∀ (c : List PV), (∀ k, k ∈ PV.names.go c → k ≠ d) → erCells d c = some c := by
          intro c
          induction c with
          | nil => intro _; rfl
          | cons y c ih =>
            intro hh
            have hy : y.mentions d = false := by
              unfold PV.mentions
              rw [List.any_eq_false]
              intro k hk hb
              exact hh k (by simp [PV.names.go, hk]) (Nat.eq_of_beq_eq_true hb)
            have := ih fun k hk => hh k (by simp [PV.names.go, hk])
            simp only [erCells, PV.er, hy, this]
        simp only [PObj.er]
        rw [hc c (fun k hk => PObj.not_mentions h1.2 k (by simpa [PObj.names] using hk))]
      | arr => rfl
      | mpb => rfl
    simp only [erHp, h1.1, hx, erHp_clean fun e he => h e (List.mem_cons_of_mem _ he)]
theorem erase_clean {d : Nat} {S : St} (h1 : ∀ e, e ∈ S.fr → e.2.mentions d = false) (h2 : ∀ e, e ∈ S.hp → Nat.beq e.1 d = false ∧ e.2.mentions d = false) : S.erase d = some S := by
  unfold St.erase
  rw [erHp_clean h2]
  have : S.fr.filter (fun e => !(e.2.mentions d)) = S.fr := List.filter_eq_self.2 fun e he => by simp [h1 e he]
  simp [this]

theorem noKey_ok {d : Nat} : ∀ {l : List Nat}, noKey d l = true → d ∉ l
  | [], _ => by simp
  | k :: l, h => by
    simp only [noKey, Bool.and_eq_true, Bool.not_eq_true'] at h
    simp only [List.mem_cons, not_or]
    exact ⟨fun e => Nat.ne_of_beq_eq_false h.1 e.symm, noKey_ok h.2⟩
theorem dsts_ne {ops : List Oper} : nodupB (dsts ops) = true → ∀ {i k : Nat} {o o' : Oper} {d : Nat}, ops[i]? = some o → ops[k]? = some o' → o.dst = some d → o'.dst = some d → i = k := by
  induction ops with
  | nil => intro _ i k o o' d h; simp at h
  | cons x ops ih =>
    intro hn i k o o' d h1 h2 h3 h4
    have hin : ∀ {k : Nat} {o' : Oper}, ops[k]? = some o' → o'.dst = some d → d ∈ dsts ops := by
      intro k o' hk hd
      exact List.mem_filterMap.2 ⟨o', List.mem_of_getElem? hk, hd⟩
    have hn' : nodupB (dsts ops) = true ∧ ∀ d', x.dst = some d' → d' ∉ dsts ops := by
      unfold dsts at hn ⊢
      simp only [List.filterMap_cons] at hn
      split at hn
      · rename_i hx; exact ⟨hn, fun d' hd => by rw [hx] at hd; cases hd⟩
      · rename_i d0 hx
        simp only [nodupB, Bool.and_eq_true] at hn
        exact ⟨hn.2, fun d' hd => by rw [hx] at hd; cases hd; exact noKey_ok hn.1⟩
    cases i with
    | zero =>
      cases k with
      | zero => rfl
      | succ k =>
        simp at h1 h2; subst h1
        exact absurd (hin h2 h4) (hn'.2 d h3)
    | succ i =>
      cases k with
      | zero =>
        simp at h1 h2; subst h2
        exact absurd (hin h1 h3) (hn'.2 d h4)
      | succ k =>
        simp at h1 h2
        rw [ih hn'.1 h1 h2 h3 h4]
theorem preB_ok {ops : List Oper} {pre : List (List Nat)} : ∀ {os : List Oper} {i0 : Nat}, preB ops pre i0 os = true → ∀ {k : Nat} {o : Oper}, os[k]? = some o →
    (∀ j, j ∈ depOn o → j < i0 + k) ∧ ∀ x, x ∈ pre.getD (i0 + k) [] → x < i0 + k ∧ (x ∈ depOn o ∨ ∃ j, j ∈ depOn o ∧ x ∈ pre.getD j [])
  | [], _, _, k, o, h => by simp at h
  | y :: os, i0, hp, k, o, h => by
    simp only [preB, Bool.and_eq_true, List.all_eq_true] at hp
    obtain ⟨⟨h1, h2⟩, h3⟩ := hp
    cases k with
    | zero =>
      simp at h; subst h
      refine ⟨fun j hj => by simpa [Nat.blt_eq] using h1 j hj, fun x hx => ?_⟩
      have := h2 x hx
      simp only [Bool.or_eq_true, List.any_eq_true] at this
      refine ⟨by simpa [Nat.blt_eq] using this.1, ?_⟩
      rcases this.2 with h | ⟨j, hj, h⟩
      · exact .inl (inN_ok.1 h)
      · exact .inr ⟨j, hj, inN_ok.1 h⟩
    | succ k =>
      have := preB_ok (i0 := i0 + 1) h3 (k := k) (o := o) (by simpa using h)
      rw [show i0 + (k + 1) = i0 + 1 + k by omega]
      exact this
theorem allocsB_ok {pre : List (List Nat)} {st : St} {fr0 : Fr} {lo : List LOp} {ol : OL} : ∀ {os : List Oper} {i0 : Nat}, allocsB pre st fr0 lo ol i0 os = true → ∀ {k : Nat} {o : Oper} {d : Nat}, os[k]? = some o → isAlloc o = some d →
    cleanF pre (i0 + k) d 0 lo = true ∧ cleanO st.hp d ol = true ∧ (∀ e, e ∈ fr0 → e.2.mentions d = false) ∧ ∀ e, e ∈ ol → e.1 = d → ∀ j, j ∈ e.2.2 → j = i0 + k ∨ (i0 + k) ∈ pre.getD j []
  | [], _, _, k, o, d, h, _ => by simp at h
  | y :: os, i0, hp, k, o, d, h, ha => by
    simp only [allocsB, Bool.and_eq_true] at hp
    cases k with
    | zero =>
      simp at h; subst h
      rw [ha] at hp
      simp only [Bool.and_eq_true, List.all_eq_true, Bool.not_eq_true', Bool.or_eq_true] at hp
      obtain ⟨⟨⟨⟨h1, h2⟩, h3⟩, h4⟩, _⟩ := hp
      refine ⟨h1, h2, h3, fun e he hed j hj => ?_⟩
      rcases h4 e he with h | h
      · exact absurd hed (Nat.ne_of_beq_eq_false h)
      · rcases h j hj with h | h
        · exact .inl (Nat.eq_of_beq_eq_true h)
        · exact .inr (inN_ok.1 h)
    | succ k =>
      have := allocsB_ok (i0 := i0 + 1) hp.2 (k := k) (o := o) (by simpa using h) ha
      rw [show i0 + (k + 1) = i0 + 1 + k by omega]
      exact this
theorem cleanF_ok {pre : List (List Nat)} {i d : Nat} : ∀ {ls : List LOp} {j0 : Nat}, cleanF pre i d j0 ls = true → ∀ {k : Nat} {l : LOp}, ls[k]? = some l →
    (∀ x, l.val = some x → x.mentions d = false ∨ i ∈ pre.getD (j0 + k) [] ∨ j0 + k = i) ∧ ∀ o c, l.md = some (o, c) → c.mentions d = false ∨ i ∈ pre.getD (j0 + k) [] ∨ j0 + k = i
  | [], _, _, k, l, h => by simp at h
  | y :: ls, j0, hp, k, l, h => by
    simp only [cleanF, Bool.and_eq_true] at hp
    obtain ⟨⟨h1, h2⟩, h3⟩ := hp
    cases k with
    | zero =>
      simp at h; subst h
      refine ⟨fun x hx => ?_, fun o c hm => ?_⟩
      · rw [hx] at h1
        simp only [Bool.or_eq_true, Bool.not_eq_true'] at h1
        rcases h1 with (h | h) | h
        · exact .inl h
        · exact .inr (.inl (inN_ok.1 h))
        · exact .inr (.inr (Nat.eq_of_beq_eq_true h))
      · rw [hm] at h2
        simp only [Bool.or_eq_true, Bool.not_eq_true'] at h2
        rcases h2 with (h | h) | h
        · exact .inl h
        · exact .inr (.inl (inN_ok.1 h))
        · exact .inr (.inr (Nat.eq_of_beq_eq_true h))
    | succ k =>
      have := cleanF_ok (j0 := j0 + 1) h3 (k := k) (l := l) (by simpa using h)
      rw [show j0 + (k + 1) = j0 + 1 + k by omega]
      exact this
theorem cleanO_ok {hp : Hp} {d : Nat} : ∀ {ol : OL}, cleanO hp d ol = true → ∀ {o : Nat} {new : Bool} {js : List Nat}, (o, new, js) ∈ ol → (o = d → new = true) ∧ ∀ c, ini hp o new = some c → c.mentions d = false
  | [], _, o, new, js, h => by simp at h
  | (o', n', j') :: l, hc, o, new, js, h => by
    simp only [cleanO, Bool.and_eq_true] at hc
    rcases List.mem_cons.1 h with e | h
    · cases e
      refine ⟨fun hd => ?_, fun c hi => ?_⟩
      · subst hd
        have := hc.1.1
        rw [Nat.beq_refl] at this
        exact this
      · have := hc.1.2
        rw [hi] at this
        simpa using this
    · exact cleanO_ok hc.2 h
theorem modsB_ok {ol : OL} : ∀ {ls : List LOp} {i0 : Nat}, modsB ol i0 ls = true → ∀ {k : Nat} {l : LOp}, ls[k]? = some l →
    (∀ o c, l.md = some (o, c) → (∃ e, e ∈ ol ∧ e.1 = o ∧ i0 + k ∈ e.2.2) ∧ ∀ e, e ∈ ol → e.1 = o ∨ i0 + k ∉ e.2.2) ∧ (l.md = none → ∀ e, e ∈ ol → i0 + k ∉ e.2.2)
  | [], _, _, k, l, h => by simp at h
  | y :: ls, i0, hp, k, l, h => by
    simp only [modsB, Bool.and_eq_true] at hp
    have nin : ∀ {x : Nat} {l : List Nat}, inN x l = false → x ∉ l := fun h hm => by rw [inN_ok.2 hm] at h; cases h
    cases k with
    | zero =>
      simp at h; subst h
      refine ⟨fun o c hm => ?_, fun hm => ?_⟩
      · have := hp.1
        rw [hm] at this
        simp only [Bool.and_eq_true, List.any_eq_true, List.all_eq_true, Bool.or_eq_true, Bool.not_eq_true'] at this
        obtain ⟨⟨e, h1, h2, h3⟩, h4⟩ := this
        refine ⟨⟨e, h1, Nat.eq_of_beq_eq_true h2, inN_ok.1 h3⟩, fun e he => ?_⟩
        rcases h4 e he with h | h
        · exact .inl (Nat.eq_of_beq_eq_true h)
        · exact .inr (nin h)
      · have := hp.1
        rw [hm] at this
        simp only [List.all_eq_true, Bool.not_eq_true'] at this
        exact fun e he => nin (this e he)
    | succ k =>
      have := modsB_ok (i0 := i0 + 1) hp.2 (k := k) (l := l) (by simpa using h)
      rw [show i0 + (k + 1) = i0 + 1 + k by omega]
      exact this
theorem nodup_ol : ∀ {ol : OL}, nodupB (ol.map (·.1)) = true → ∀ {e e' : Nat × Bool × List Nat}, e ∈ ol → e' ∈ ol → e.1 = e'.1 → e = e'
  | [], _, e, e', h, _, _ => by simp at h
  | x :: ol, hn, e, e', h, h', he => by
    simp only [List.map_cons, nodupB, Bool.and_eq_true] at hn
    have hx := noKey_ok hn.1
    rcases List.mem_cons.1 h with q | h
    · rcases List.mem_cons.1 h' with q' | h'
      · rw [q, q']
      · exact absurd (by rw [← q, he]; exact List.mem_map_of_mem h') hx
    · rcases List.mem_cons.1 h' with q' | h'
      · exact absurd (by rw [← q', ← he]; exact List.mem_map_of_mem h) hx
      · exact nodup_ol hn.2 h h' he
theorem effL_at {ops : List Oper} {calls : List (Nat × (Nat × List PV × PV))} {st : St} {fr0 : Fr} {lo : List LOp} {ol : OL} {pre : List (List Nat)} {lits : List (Nat × (Bool × Bool))} {conds : List (Nat × List Prop)} :
    ∀ {os : List Oper} {i0 : Nat}, effL I ops calls st fr0 lo ol pre i0 os = expL ops calls lits conds st fr0 lo ol pre i0 os → ∀ {k : Nat} {o : Oper}, os[k]? = some o →
    effO I ops (look calls (i0 + k)) o (stI st fr0 ops lo ol pre (i0 + k)) = expO ops calls lits conds (stI st fr0 ops lo ol pre (i0 + k)) lo (i0 + k) o
  | [], _, _, k, o, h => by simp at h
  | y :: os, i0, he, k, o, h => by
    simp only [effL, expL, List.cons.injEq] at he
    cases k with
    | zero => simp at h; subst h; exact he.1
    | succ k =>
      have := effL_at (i0 := i0 + 1) he.2 (k := k) (o := o) (by simpa using h)
      rw [show i0 + (k + 1) = i0 + 1 + k by omega]
      exact this

theorem lit_ok {z : PV} {b : Bool} (h : (match (some z : Option PV), b with | some (.t (.bool true)), true => true | some (.t (.bool false)), false => true | _, _ => false) = true) : z = .t (.bool b) := by
  split at h
  · rename_i h1; cases h1; rfl
  · rename_i h1; cases h1; rfl
  · cases h

/-- EVERY ORDER, each operation looked at once. -/
theorem pwp_lin0 (hG : Good P E I) (hm : P.follows .mixedOrders = true) {id : Nat} {l : List Oper} {st stF : St} {calls : List (Nat × (Nat × List PV × PV))} {lits : List (Nat × (Bool × Bool))} {conds : List (Nat × List Prop)} {ol : OL}
    {ts : List Nat} {fr0 : Fr} {pre : List (List Nat)} {lo : List LOp} (hf0 : ∀ e, e ∈ fr0 → e ∈ st.fr ∧ e.1 ∈ ts) (hc : AnnOk P calls) (hl : LitOk lits) (hA : CondOk conds) (ts' os' : List Nat)
    (hw : wfL l pre st ts fr0 lo ol = true) (hlit : litsB lits lo = true) (he : effL I l calls st fr0 lo ol pre 0 l = expL l calls lits conds st fr0 lo ol pre 0 l)
    (hF : (stP st fr0 l lo ol (fun j => Nat.blt j l.length)).keep ts' os' = some stF) (hk : Q .normal stF) : pwp P E (.region id l.toArray true) Q st := by
  intro a w r
  simp only [wfL, Bool.and_eq_true, List.all_eq_true] at hw
  obtain ⟨⟨⟨⟨⟨⟨⟨hpre, hnd⟩, hts⟩, hol⟩, hmods⟩, hchain⟩, hall⟩, hlen⟩ := hw
  have hlen := Nat.eq_of_beq_eq_true hlen
  let SS : (Nat → Bool) → St := stP st fr0 l lo ol
  have lo_at : ∀ {k : Nat} {o : Oper}, l[k]? = some o → ∃ x, lo[k]? = some x ∧ lo.getD k default = x := by
    intro k o hk
    have : k < lo.length := by rw [hlen]; exact (List.getElem?_eq_some_iff.1 hk).1
    exact ⟨lo[k], List.getElem?_eq_getElem this, by simp [List.getD_eq_getElem?_getD, this]⟩
  have md_at : ∀ {k : Nat} {x : LOp} {o : Nat} {c : PObj}, lo[k]? = some x → x.md = some (o, c) → mdOf lo k = some c := by
    intro k x o c hx hmd
    have : lo.getD k default = x := by rw [List.getD_eq_getElem?_getD, hx]; rfl
    unfold mdOf
    rw [this]
    cases x with
    | mk v md => simp only at hmd; subst hmd; rfl
  have key : ∀ (fuel : Nat) (m : List Bool), m.length = l.length → (∀ i k, getB m i false = true → k ∈ pre.getD i [] → getB m k false = true) → m.count false ≤ fuel → ∀ a w, Rel E (SS fun j => getB m j false) a w →
      wpAny P .any l.toArray (lift E Q) fuel m.toArray a w := by
    have fin : ∀ (m : List Bool), m.length = l.length → Region.ready .any l.toArray m.toArray = [] → ∀ a w, Rel E (SS fun j => getB m j false) a w → lift E Q .normal a w := by
      intro m hml hr a w r
      have hall : ∀ i, i < l.length → getB m i false = true := by
        intro i
        induction i using Nat.strongRecOn with
        | _ i ih =>
          intro hi
          cases hb : getB m i false with
          | true => rfl
          | false =>
            exfalso
            have hi' : i < m.length := by omega
            have : i ∈ Region.ready .any l.toArray m.toArray := by
              rw [mem_ready]
              refine ⟨?_, l[i], by simp [hi], fun e hee hbd => ?_⟩
              · rw [getB_eq] at hb
                have : m[i] = false := by simpa [List.getD_eq_getElem?_getD, hi'] using hb
                simp [Array.getD_eq_getD_getElem?, hi', this]
              · have hdep : e.on ∈ depOn l[i] := by
                  simp only [depOn, List.mem_map, List.mem_filter]
                  exact ⟨e, ⟨by simpa using hee, hbd⟩, rfl⟩
                have hlt : e.on < 0 + i := (preB_ok hpre (k := i) (o := l[i]) (List.getElem?_eq_getElem hi)).1 _ hdep
                have := ih e.on (by omega) (by omega)
                rw [getB_eq] at this
                simpa [Array.getD_eq_getD_getElem?, List.getD_eq_getElem?_getD] using this
            rw [hr] at this
            cases this
      have hp : (fun j => getB m j false) = fun j => Nat.blt j l.length := by
        funext j
        by_cases hj : j < l.length
        · rw [hall j hj]; exact (by simpa [Nat.blt_eq] using hj : Nat.blt j l.length = true).symm
        · have h1 : getB m j false = false := by rw [getB_eq]; simp [List.getD_eq_getElem?_getD, show m.length ≤ j by omega]
          have h2 : Nat.blt j l.length = false := by
            cases hb : Nat.blt j l.length with
            | false => rfl
            | true => exact absurd (by simpa [Nat.blt_eq] using hb) hj
          rw [h1, h2]
      rw [hp] at r
      exact ⟨stF, hk, r.keep hF⟩
    intro fuel
    induction fuel with
    | zero =>
      intro m hml hcl hcnt a w r
      have hr : Region.ready .any l.toArray m.toArray = [] := by
        apply List.eq_nil_iff_forall_not_mem.2
        intro i hi
        have h1 := (mem_ready.1 hi).1
        have : false ∈ m := by
          by_cases hlt : i < m.length
          · have : m[i] = false := by simpa [Array.getD_eq_getD_getElem?, hlt] using h1
            rw [← this]; exact List.getElem_mem hlt
          · simp [Array.getD_eq_getD_getElem?, hlt] at h1
        have := List.count_pos_iff.2 this
        omega
      exact ⟨hr, fin m hml hr a w r⟩
    | succ fuel ih =>
      intro m hml hcl hcnt a w r
      refine ⟨fun hr => fin m hml hr a w r, fun i hi => ?_⟩
      obtain ⟨hri, hil⟩ := rdyB_of hi
      have ho : l[i]? = some l[i] := List.getElem?_eq_getElem hil
      have him : i < m.length := by omega
      have hmi : getB m i false = false := by
        unfold rdyB at hri
        split at hri
        · cases hri
        · rename_i hb
          rw [getB_eq] at hb ⊢
          simpa [List.getD_eq_getElem?_getD, him] using hb
      have hdeps : ∀ j, j ∈ depOn l[i] → getB m j false = true := by
        unfold rdyB at hri
        split at hri
        · cases hri
        · rw [ho] at hri
          exact fun j hj => List.all_eq_true.1 hri j hj
      have hpi := preB_ok hpre ho
      simp only [Nat.zero_add] at hpi
      have hprem : ∀ k, k ∈ pre.getD i [] → getB m k false = true := by
        intro k hk
        rcases (hpi.2 k hk).2 with h | ⟨j, hj, h⟩
        · exact hdeps k h
        · exact hcl j k (hdeps j hj) h
      have hinot : i ∉ pre.getD i [] := fun h => Nat.lt_irrefl _ (hpi.2 i h).1
      have hsucc : ∀ j, i ∈ pre.getD j [] → getB m j false = false := by
        intro j hj
        cases hb : getB m j false with
        | false => rfl
        | true => rw [hcl j i hb hj] at hmi; cases hmi
      -- the small state lies in the great one
      have hsub1 : ∀ e, e ∈ (stI st fr0 l lo ol pre i).fr → e ∈ (SS fun j => getB m j false).fr := by
        intro e he
        simp only [stI, stP, List.mem_append] at he
        show e ∈ fr0 ++ facF _ 0 l lo
        rw [List.mem_append]
        rcases he with he | he
        · exact .inl he
        · obtain ⟨k, o, x, h1, h2, h3, h4, h5⟩ := mem_facF he
          exact .inr (facF_mem h1 h2 (by rw [Nat.zero_add] at h3 ⊢; exact hprem k (inN_ok.1 h3)) h4 h5)
      have hsub2 : ∀ e, e ∈ (stI st fr0 l lo ol pre i).hp → e ∈ (SS fun j => getB m j false).hp := by
        intro e he
        obtain ⟨new, js, h1, h2⟩ := mem_facH he
        obtain ⟨h1, h3⟩ := List.mem_filter.1 h1
        refine facH_mem h1 ?_
        rw [← h2]
        refine contO_congr fun j hj => ?_
        have := List.all_eq_true.1 h3 j hj
        simp only [Bool.or_eq_true] at this
        cases hin : inN j (pre.getD i []) with
        | true => exact hprem j (inN_ok.1 hin)
        | false =>
          rcases this with (h | h) | h
          · rw [Nat.eq_of_beq_eq_true h]; exact hmi
          · rw [hin] at h; cases h
          · exact hsucc j (inN_ok.1 h)
      obtain ⟨x, hx, hxd⟩ := lo_at ho
      have heff := effL_at he ho
      rw [Nat.zero_add] at heff
      unfold expO at heff
      rw [hxd] at heff
      have hCs : All (match look conds i with | some l => l | none => []) := by
        split
        · rename_i h; exact hA.mem _ (look_mem h)
        · exact trivial
      unfold wpOp
      rw [show (l.toArray)[i]? = some l[i] by simp]
      simp only
      have fin2 : (if Region.wanted l[i] (yielded l.toArray a.tmps) then l[i].wp P a w (wpAny P .any l.toArray (lift E Q) fuel (m.toArray.setIfInBounds i true)) (lift E Q) else wpAny P .any l.toArray (lift E Q) fuel (m.toArray.setIfInBounds i true) (a.put l[i].dst undef) w) →
          (if Region.wanted l[i] (yielded l.toArray a.tmps) then l[i].wp P a w (wpAny P .any l.toArray (lift E Q) fuel (m.toArray.setIfInBounds i true)) (lift E Q) ∨ l[i].asks P a w ∧ LetsOut (lift E Q) else wpAny P .any l.toArray (lift E Q) fuel (m.toArray.setIfInBounds i true) (a.put l[i].dst undef) w) := by
        intro hh
        split
        · rename_i hw; rw [if_pos hw] at hh; exact .inl hh
        · rename_i hw; rw [if_neg hw] at hh; exact hh
      refine fin2 (eff_ok hG (fun k args r hca => hc.mem _ (look_mem hca)) hsub1 hsub2 heff hCs (fun k args r hca hwt => by rw [hca, hwt]) (fun e d hop hd => ?_) r fun a' w' r' => ?_)
      · -- nothing speaks of the new name
        have hia : isAlloc l[i] = some d := by unfold isAlloc; rw [hop, hd]
        obtain ⟨c1, c2, c3, c4⟩ := allocsB_ok hall ho hia
        simp only [Nat.zero_add] at c1 c4
        refine erase_clean (fun e he => ?_) (fun e he => ?_)
        · change e ∈ fr0 ++ facF _ 0 l lo at he
          rcases List.mem_append.1 he with he | he
          · exact c3 e he
          · obtain ⟨k, o, y, h1, h2, h3, h4, h5⟩ := mem_facF he
            rw [Nat.zero_add] at h3
            rcases (cleanF_ok c1 h2).1 _ h5 with h | h | h
            · exact h
            · rw [Nat.zero_add] at h; rw [hsucc k h] at h3; cases h3
            · rw [Nat.zero_add] at h; subst h; rw [hmi] at h3; cases h3
        · obtain ⟨new, js, h1, h2⟩ := mem_facH he
          obtain ⟨d1, d2⟩ := cleanO_ok c2 h1
          constructor
          · cases hb : Nat.beq e.1 d with
            | false => rfl
            | true =>
              exfalso
              have hed := Nat.eq_of_beq_eq_true hb
              have hnew := d1 hed
              rcases contO_src h2 with h | ⟨j, hj, hpj, _⟩
              · rw [hnew] at h; simp [ini] at h
              · rcases c4 _ h1 hed j hj with h | h
                · subst h; rw [hmi] at hpj; cases hpj
                · rw [hsucc j h] at hpj; cases hpj
          · rcases contO_src h2 with h | ⟨j, hj, hpj, hmd⟩
            · exact d2 _ h
            · have hjl : j < lo.length := by
                by_cases hjl : j < lo.length
                · exact hjl
                · exfalso
                  have : getB m j false = false := by rw [getB_eq]; simp [List.getD_eq_getElem?_getD, show m.length ≤ j by omega]
                  rw [this] at hpj; cases hpj
              have hlj : lo[j]? = some lo[j] := List.getElem?_eq_getElem hjl
              have hgd : lo.getD j default = lo[j] := by simp [List.getD_eq_getElem?_getD, hjl]
              unfold mdOf at hmd
              rw [hgd] at hmd
              split at hmd
              · rename_i v0 o0 c0 hv0
                cases hmd
                rcases (cleanF_ok c1 hlj).2 o0 e.2 (by rw [hv0]) with h | h | h
                · exact h
                · rw [Nat.zero_add] at h; rw [hsucc j h] at hpj; cases hpj
                · rw [Nat.zero_add] at h; subst h; rw [hmi] at hpj; cases hpj
              · cases hmd
      · -- behind it
        have hset : (m.toArray).setIfInBounds i true = (setB m i).toArray := by rw [setB_eq]; simp
        rw [hset]
        have hgs : ∀ j, getB (setB m i) j false = (if j = i then true else getB m j false) := by
          intro j
          rw [setB_eq, getB_eq, getB_eq]
          simp only [List.getD_eq_getElem?_getD, List.getElem?_set]
          by_cases hji : j = i
          · subst hji; simp [him]
          · simp [hji, show i ≠ j from fun h => hji h.symm]
        refine ih (setB m i) (by rw [setB_eq]; simpa using hml) (fun j k hj hk => ?_) ?_ a' w' ?_
        · rw [hgs] at hj ⊢
          by_cases hki : k = i
          · simp [hki]
          · rw [if_neg hki]
            by_cases hji : j = i
            · subst hji; exact hprem k hk
            · rw [if_neg hji] at hj; exact hcl j k hj hk
        · have hmi2 : m[i] = false := by rw [getB_eq] at hmi; simpa [List.getD_eq_getElem?_getD, him] using hmi
          rw [setB_eq, List.count_set him, hmi2]
          have : 0 < m.count false := List.count_pos_iff.2 (by rw [← hmi2]; exact List.getElem_mem him)
          simp
          omega
        · refine r'.sub (fun e he => ?_) (fun e he => ?_)
          · change e ∈ fr0 ++ facF _ 0 l lo at he
            have old : e ∈ (SS fun j => getB m j false).fr → (∀ d, l[i].dst = some d → e.1 ≠ d) → e ∈ (appE (SS fun j => getB m j false) l[i].dst (match look lits i with | some (b, _) => some (PV.t (T.bool b)) | none => x.val) x.md).fr := by
              intro h1 h2
              unfold appE
              simp only
              split
              · rename_i d y hd _
                obtain ⟨k, z⟩ := e
                exact List.mem_cons_of_mem _ (mem_del.2 ⟨h1, h2 d hd⟩)
              · exact h1
            rcases List.mem_append.1 he with he | he
            · refine old (List.mem_append_left _ he) fun d hd hed => ?_
              have h1 := noKey_ok (hts _ (hf0 e he).2)
              exact h1 (List.mem_filterMap.2 ⟨l[i], List.getElem_mem hil, by rw [hd, hed]⟩)
            · obtain ⟨k, o, y, h1, h2, h3, h4, h5⟩ := mem_facF he
              rw [Nat.zero_add, hgs] at h3
              by_cases hki : k = i
              · subst hki
                have h1 : l[k] = o := by rw [ho] at h1; exact Option.some.inj h1
                have h2 : x = y := by rw [hx] at h2; exact Option.some.inj h2
                subst h2
                rw [h1]
                unfold appE
                simp only
                cases hlk : look lits k with
                | none => simp only [h4, h5]; exact List.mem_cons_self ..
                | some bv =>
                  obtain ⟨b, v⟩ := bv
                  have hbv : b = v := hl.mem _ (look_mem hlk)
                  subst hbv
                  have := List.all_eq_true.1 hlit _ (look_mem hlk)
                  simp only [hxd, h5] at this
                  simp only [h4]
                  have hee : e = (e.1, PV.t (T.bool b)) := Prod.ext rfl (lit_ok this)
                  rw [← hee]
                  exact List.mem_cons_self ..
              · rw [if_neg hki] at h3
                refine old (List.mem_append_right _ (facF_mem h1 h2 (by rw [Nat.zero_add]; exact h3) h4 h5)) fun d hd hed => ?_
                exact hki (dsts_ne hnd h1 ho h4 (by rw [hd, hed]))
          · obtain ⟨new, js, h1, h2⟩ := mem_facH he
            have hmo := modsB_ok hmods hx
            simp only [Nat.zero_add] at hmo
            have old : i ∉ js → e ∈ (SS fun j => getB m j false).hp := by
              intro hnj
              refine facH_mem h1 ?_
              rw [← h2]
              refine contO_congr fun j hj => ?_
              have hji : j ≠ i := fun h => hnj (h ▸ hj)
              rw [hgs, if_neg hji]
            unfold appE
            simp only
            split
            · rename_i o c hmd
              obtain ⟨⟨e0, q1, q2, q3⟩, q4⟩ := hmo.1 o c hmd
              by_cases heo : e.1 = o
              · have : e0 = (e.1, new, js) := nodup_ol hol q1 h1 (by rw [q2, heo])
                subst this
                have := contO_set (q := fun j => getB (setB m i) j false) (by simp [hgs]) (hchain _ h1) q3 (c := ini st.hp e.1 new) (lo := lo) (fun j _ hj => by
                  have hji : j ≠ i := fun h => hinot (h ▸ hj)
                  show getB (setB m i) j false = false
                  rw [hgs, if_neg hji]; exact hsucc j hj)
                rw [this, md_at hx hmd] at h2
                cases h2
                rw [← heo]
                exact List.mem_cons_self ..
              · refine List.mem_cons_of_mem _ ?_
                obtain ⟨k, z⟩ := e
                refine mem_del.2 ⟨old ?_, heo⟩
                rcases q4 _ h1 with h | h
                · exact absurd h heo
                · exact h
            · rename_i hmd
              exact old (hmo.2 hmd _ h1)
  refine wp_region_any hm ?_
  have h0 := key l.length (List.replicate l.length false) (by simp) (fun i k h => by rw [getB_eq] at h; simp [List.getD_eq_getElem?_getD, List.getElem?_replicate] at h; split at h <;> simp at h) (by simp) a _ (r.drew.sub (fun e he => ?_) (fun e he => ?_))
  · simpa using h0
  · change e ∈ fr0 ++ facF _ 0 l lo at he
    rcases List.mem_append.1 he with he | he
    · exact (hf0 e he).1
    · obtain ⟨k, o, y, h1, h2, h3, h4, h5⟩ := mem_facF he
      rw [getB_eq] at h3
      simp [List.getD_eq_getElem?_getD, List.getElem?_replicate] at h3
      split at h3 <;> simp at h3
  · obtain ⟨new, js, h1, h2⟩ := mem_facH he
    rw [contO_off (fun j _ => by rw [getB_eq]; simp [List.getD_eq_getElem?_getD, List.getElem?_replicate]; split <;> rfl)] at h2
    unfold ini at h2
    split at h2
    · cases h2
    · exact look_mem h2

/-- what a region with open order is looked at with -/
def linL (I : Inf) (l : List Oper) (calls : List (Nat × (Nat × List PV × PV))) (lits : List (Nat × (Bool × Bool))) (st : St) (ts : List Nat) (ol : OL) : List LOp :=
  runL I l calls lits st (canonL st.fr ts) ol (preG (deps l) []) 0 l []
theorem canonL_key {α : Type} {l : List (Nat × α)} : ∀ {ts : List Nat} e, e ∈ canonL l ts → e.1 ∈ ts
  | [], e, h => by simp [canonL] at h
  | t :: ts, e, h => by
    simp only [canonL] at h
    split at h
    · rcases List.mem_cons.1 h with rfl | h
      · simp
      · exact List.mem_cons_of_mem _ (canonL_key e h)
    · exact List.mem_cons_of_mem _ (canonL_key e h)
theorem pwp_lin (hG : Good P E I) (hm : P.follows .mixedOrders = true) {id : Nat} {l : List Oper} {st stF : St} (calls : List (Nat × (Nat × List PV × PV))) (lits : List (Nat × (Bool × Bool))) (conds : List (Nat × List Prop)) (ol : OL)
    (ts : List Nat) (hc : AnnOk P calls) (hl : LitOk lits) (hA : CondOk conds) (ts' os' : List Nat)
    (hw : (wfL l (preG (deps l) []) st ts (canonL st.fr ts) (linL I l calls lits st ts ol) ol && litsB lits (linL I l calls lits st ts ol)) = true)
    (he : effL I l calls st (canonL st.fr ts) (linL I l calls lits st ts ol) ol (preG (deps l) []) 0 l = expL l calls lits conds st (canonL st.fr ts) (linL I l calls lits st ts ol) ol (preG (deps l) []) 0 l)
    (hF : (stP st (canonL st.fr ts) l (linL I l calls lits st ts ol) ol (fun j => Nat.blt j l.length)).keep ts' os' = some stF) (hk : Q .normal stF) : pwp P E (.region id l.toArray true) Q st := by
  simp only [Bool.and_eq_true] at hw
  exact pwp_lin0 hG hm (fun e he => ⟨canonL_mem e he, canonL_key e he⟩) hc hl hA ts' os' hw.1 hw.2 he hF hk

end
end Go.PL
