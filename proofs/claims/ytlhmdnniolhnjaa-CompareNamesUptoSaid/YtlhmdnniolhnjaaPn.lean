/-
  Calls and functions; steps that change the state's form alone. Own work.
-/
import Derived.Test.YtlhmdnniolhnjaaPm
namespace Go.PL
open Go

def Own (g : Nat → Value) (H : Hp) (b : Nat) : Prop := ∃ o x, (o, x) ∈ H ∧ blk (g o) = some b

def PCall (P : Program) (k : FuncId) (args : List PV) (H : Hp) (N : List Nat) (Q : PV → Hp → Prop) : Prop :=
  ∀ (F : Nat → Prop) (g : Nat → Value) (w : World) (vs : Array Value), vs.size = args.length → (∀ (j : Nat) x v, args[j]? = some x → vs[j]? = some v → VR F g w x v) →
    HpR F g w (fun _ => True) H → (∀ b, F b → b < w.heap.size) →
    Calls P k vs w fun e w' => ∃ v r H' F' g', e = .returned v ∧ Q r H' ∧ VR F' g' w' r v ∧ RelW { w0 := w, F0 := F, B0 := Own g H, g0 := g, N := N, nt := 0 } F' g' H' w'

def initFr : List PV → Nat → Fr
  | [], _ => []
  | x :: l, k => (k, x) :: initFr l (k + 1)
theorem initFr_mem : ∀ {l : List PV} {k t : Nat} {x : PV}, (t, x) ∈ initFr l k → ∃ j, t = k + j ∧ l[j]? = some x
  | [], k, t, x, h => by simp [initFr] at h
  | y :: l, k, t, x, h => by
    simp only [initFr, List.mem_cons, Prod.mk.injEq] at h
    rcases h with ⟨rfl, rfl⟩ | h
    · exact ⟨0, rfl, by simp⟩
    · obtain ⟨j, h1, h2⟩ := initFr_mem h
      exact ⟨j + 1, by omega, by simpa using h2⟩

def resOne (I : Inf) (st : St) : ResultVar → Option PV
  | .tmp t => look st.fr t
  | .cell a t => match look st.fr a, I.ti t with
    | some (.ptr o off), some i => match look st.hp o with
      | some (.box l) => readAt i (l.drop off)
      | _ => none
    | _, _ => none
def resAll (I : Inf) (st : St) : List ResultVar → Option (List PV)
  | [] => some []
  | x :: l => match resOne I st x, resAll I st l with
    | some p, some r => some (p :: r)
    | _, _ => none
def resP (I : Inf) (rs : List ResultVar) (st : St) : Option PV :=
  match resAll I st rs with
  | some [p] => some p
  | some l => some (.tup l)
  | none => none

def pickH (hp : Hp) : List Nat → Option Hp
  | [] => some []
  | o :: l => match look hp o, pickH hp l with | some x, some r => some ((o, x) :: r) | _, _ => none
theorem pickH_ok {hp : Hp} : ∀ {l : List Nat} {r : Hp}, pickH hp l = some r → (∀ e, e ∈ r → e ∈ hp ∧ e.1 ∈ l)
  | [], r, h => by simp [pickH] at h; subst h; simp
  | o :: l, r, h => by
    simp only [pickH] at h
    split at h
    · rename_i x r' hx hr
      cases h
      intro e he
      rcases List.mem_cons.1 he with rfl | he
      · exact ⟨look_mem hx, by simp⟩
      · obtain ⟨h1, h2⟩ := pickH_ok hr e he
        exact ⟨h1, List.mem_cons_of_mem _ h2⟩
    · cases h

def finQ (I : Inf) (rs : List ResultVar) (Q : PV → Hp → Prop) : Post := fun e st => (e = .normal ∨ e = .ret) ∧ ∃ r L H, resP I rs st = some r ∧ pickH st.hp L = some H ∧ Q r H

def rsem (tmps : Array Value) : ResultVar → Sem Value
  | .tmp t => pure (tmps.getD t undef)
  | .cell a t => do loadVar t (← asAddr (tmps.getD a undef))

theorem results_eq (fn : Func) (tmps : Array Value) : results fn tmps = (do let vs ← fn.results.mapM (rsem tmps); pure (if h : vs.size = 1 then vs[0] else .tuple vs) : Sem Value) := by
  unfold results
  have : (fun | .tmp t => pure (tmps.getD t undef) | .cell a t => do loadVar t (← asAddr (tmps.getD a undef)) : ResultVar → Sem Value) = rsem tmps := by
    funext x; cases x <;> rfl
  rw [← this]
  rfl

section
variable {P : Program} {I : Inf}

theorem resOne_ok (hI : TIok P I.ti) {E : Env} {F : Nat → Prop} {g : Nat → Value} {st : St} {a : Act} {w : World} (r : RelG E F g st a w) {x : ResultVar} {p : PV} (h : resOne I st x = some p) :
    ∃ v, (rsem a.tmps x).run P w = .ok v w ∧ VR F g w p v := by
  cases x with
  | tmp t => exact ⟨_, by simp [rsem], r.fr _ _ (look_mem h)⟩
  | cell b t =>
    simp only [resOne] at h
    split at h
    · rename_i o off i hb hi
      split at h
      · rename_i l hl
        have hv := r.fr _ _ (look_mem hb)
        obtain ⟨u, hu⟩ : ∃ u, a.tmps.getD b undef = u := ⟨_, rfl⟩
        rw [hu] at hv
        obtain ⟨z, hz, hr⟩ := loadP_ok (P := P) r (hI _ _ hi) (p := .ptr o off) (x := p) (C := True) (by simp [loadP, hl, h]) trivial hv
        cases hv with
        | ptr e =>
          refine ⟨z, ?_, hr⟩
          simp only [Instr.loadAt, Instr.sureAddr, Sem.run_bind, Sem.run_pure, Result.andThen_ok] at hz
          simp only [rsem, hu]
          simpa [asAddr] using hz
      · cases h
    · cases h

theorem resAll_ok (hI : TIok P I.ti) {E : Env} {F : Nat → Prop} {g : Nat → Value} {st : St} {a : Act} {w : World} (r : RelG E F g st a w) : ∀ (rs : List ResultVar) (ps : List PV), resAll I st rs = some ps →
    ∃ vs : List Value, (rs.mapM (rsem a.tmps)).run P w = .ok vs w ∧ vs.length = ps.length ∧
      ∀ (j : Nat) x v, ps[j]? = some x → vs[j]? = some v → VR F g w x v
  | [], ps, h => by simp [resAll] at h; subst h; exact ⟨[], by simp, rfl, by simp⟩
  | x :: rs, ps, h => by
    simp only [resAll] at h
    split at h
    · rename_i p q hp hq
      cases h
      obtain ⟨v, h1, h2⟩ := resOne_ok hI r hp
      obtain ⟨vs, h3, h4, h5⟩ := resAll_ok hI r rs q hq
      refine ⟨v :: vs, ?_, by simp [h4], fun j y u hy hu => ?_⟩
      · rw [List.mapM_cons]
        simp only [Sem.run_bind, h1, Result.andThen_ok, h3, Sem.run_pure]
      · cases j with
        | zero => simp at hy hu; subst hy; subst hu; exact h2
        | succ j => exact h5 j y u (by simpa using hy) (by simpa using hu)
    · cases h

theorem resP_ok (hI : TIok P I.ti) {E : Env} {F : Nat → Prop} {g : Nat → Value} {st : St} {a : Act} {w : World} (r : RelG E F g st a w) {fn : Func} {p : PV} (h : resP I fn.results.toList st = some p) :
    ∃ v, (results fn a.tmps).run P w = .ok v w ∧ VR F g w p v := by
  unfold resP at h
  cases hr : resAll I st fn.results.toList with
  | none => rw [hr] at h; cases h
  | some ps =>
    obtain ⟨vs, h1, h2, h3⟩ := resAll_ok hI r _ _ hr
    have hm : (fn.results.mapM (rsem a.tmps)).run P w = .ok vs.toArray w := by
      rw [Array.mapM_eq_mapM_toList]
      show ((fn.results.toList.mapM (rsem a.tmps)) >>= fun l => pure l.toArray : Sem (Array Value)).run P w = _
      simp [h1]
    rw [results_eq, Sem.run_bind, hm]
    simp only [Result.andThen_ok, Sem.run_pure]
    rw [hr] at h
    split at h
    · rename_i q hq
      cases hq
      cases h
      have hl : vs.length = 1 := by simpa using h2
      obtain ⟨v, rfl⟩ := List.length_eq_one_iff.1 hl
      exact ⟨v, by simp, h3 0 p v (by simp) (by simp)⟩
    · rename_i l hne hl
      cases hl
      cases h
      have : vs.length ≠ 1 := by
        intro h1'
        rw [h2] at h1'
        obtain ⟨q, hq⟩ := List.length_eq_one_iff.1 h1'
        exact hne q (by rw [hq])
      refine ⟨.tuple vs.toArray, ?_, .tup (by simpa using h2) fun j x v hx hv => h3 j x v hx (by simpa using hv)⟩
      rw [dif_neg (by simpa using this)]
    · cases h

/-- A FUNCTION, FROM ITS BODY. -/
theorem pcall_of {k : FuncId} {fn : Func} {c : Code} {args : List PV} {H : Hp} {Q : PV → Hp → Prop} (hf : P.funcs[k]? = some fn) (hb : fn.body = some c) (hI : TIok P I.ti) (hnt : fn.ntmps = I.nt)
    (hl : args.length ≤ I.nt) (h : ∀ E, Good P E I → pwp P E c (finQ I fn.results.toList Q) ⟨initFr args 0, H⟩) : PCall P k args H I.N Q := by
  intro F g w vs hs hvs hH hF
  refine calls_of_wp hf hb ?_
  have hG : Good P { w0 := w, F0 := F, B0 := Own g H, g0 := g, N := I.N, nt := I.nt } I := ⟨hI, rfl, rfl⟩
  refine wp_mono (h _ hG _ _ ⟨F, g, ?_, rfl, ?_, ⟨⟨hH.obj, fun o x b hx hb => ⟨(hH.own o x b hx hb).1, .inl ⟨o, x, hx, hb⟩⟩, hH.sep⟩, fun _ h => h, fun b hb => ⟨hF b hb, .inl hb⟩,
    ⟨rfl, rfl, rfl, Nat.le_refl _, fun _ _ _ => rfl⟩, fun _ _ => rfl, fun b ⟨o, x, hx, hb⟩ => (hH.obj o x hx).block hb⟩⟩) ?_
  · simp only [Array.size_append, Array.size_replicate]; omega
  · intro t x hx
    obtain ⟨j, rfl, hj⟩ := initFr_mem hx
    have hlt : j < vs.size := by rw [hs]; exact (List.getElem?_eq_some_iff.1 hj).1
    have : (vs ++ Array.replicate (fn.ntmps - vs.size) undef).getD (0 + j) undef = vs[j] := by
      simp [Array.getD, hlt, Array.getElem_append_left]
      omega
    rw [this]
    exact hvs j x vs[j] hj (by simp [hlt])
  · rintro e a' w' ⟨st, ⟨he, r, L, H1, hr, hL, hq⟩, F', g', hrel⟩
    obtain ⟨v, hv1, hv2⟩ := resP_ok hI hrel hr
    have : a'.defers = [] ∧ ∃ v, (results fn a'.tmps).run P w' = .ok v w' ∧ (fun (e : Ending) w' => ∃ v r H' F' g', e = .returned v ∧ Q r H' ∧ VR F' g' w' r v ∧ RelW { w0 := w, F0 := F, B0 := Own g H, g0 := g, N := I.N, nt := 0 } F' g' H' w') (.returned v) w' :=
      ⟨hrel.df, v, hv1, v, r, H1, F', g', rfl, hq, hv2, ⟨hrel.w.hp.sub fun e he => (pickH_ok hL e he).1, hrel.w.f0, hrel.w.f1, hrel.w.ext, hrel.w.names, hrel.w.b0⟩⟩
    rcases he with rfl | rfl
    · exact this
    · exact this

theorem PCall.mono {k : FuncId} {args : List PV} {H : Hp} {N : List Nat} {Q Q' : PV → Hp → Prop} (h : PCall P k args H N Q) (hq : ∀ r H', Q r H' → Q' r H') : PCall P k args H N Q' := by
  intro F g w vs h1 h2 h3 h4
  exact (h F g w vs h1 h2 h3 h4).mono fun e w' ⟨v, r, H', F', g', a, b, c, d⟩ => ⟨v, r, H', F', g', a, hq _ _ b, c, d⟩

end
end Go.PL
