/-
  Calls of functions; freezing, renaming, retyping. Own work.
-/
import Derived.Test.YtlhmdnniolhnjaaPn
namespace Go.PL
open Go

/-- an argument as the callee's contract has it -/
inductive ArgR (st : St) (L : List Nat) : PV → PV → Prop
  | same (p : PV) : ArgR st L p p
  | nil {x : T} {f : Nat → List T} (h : x.view = some (0, f)) : ArgR st L .nil (.t x)
  | imp {p q : PV} (h : ∀ F g w v, VR F g w p v → VR F g w q v) : ArgR st L p q
  | lend {o : Nat} {e : TypeId} {s n : Nat} {f : Nat → List T} {x : T} (ho : o ∈ L) (h : look st.hp o = some (.arr e s n f)) (hx : x.view = some (n, f)) : ArgR st L (.own o) (.t x)

inductive ArgsR (st : St) (L : List Nat) : List PV → List PV → Prop
  | nil : ArgsR st L [] []
  | cons {p q : PV} {l r : List PV} (h : ArgR st L p q) (t : ArgsR st L l r) : ArgsR st L (p :: l) (q :: r)

theorem ArgsR.get {st : St} {L : List Nat} {l r : List PV} (h : ArgsR st L l r) : r.length = l.length ∧ ∀ (j : Nat) q, r[j]? = some q → ∃ p, l[j]? = some p ∧ ArgR st L p q := by
  induction h with
  | nil => simp
  | cons h _ ih =>
    refine ⟨by simp [ih.1], fun j q hj => ?_⟩
    cases j with
    | zero => simp at hj; subst hj; exact ⟨_, by simp, h⟩
    | succ j => simpa using ih.2 j q (by simpa using hj)

def T.scalar : T → Bool
  | .int .. => true | .bool _ => true | .str _ => true | _ => false
def PV.scalar : PV → Bool
  | .t x => x.scalar
  | .tup l => go l
  | _ => false
where go : List PV → Bool
  | [] => true
  | .t x :: l => x.scalar && go l
  | _ :: _ => false
/-- does it speak of no name? -/
def PV.pure (p : PV) : Bool := match p.names with | [] => true | _ => false
theorem scalar_go {l : List PV} (h : PV.scalar.go l = true) : ∀ x, x ∈ l → ∃ y, x = .t y ∧ y.scalar = true := by
  induction l with
  | nil => simp
  | cons x l ih =>
    cases x <;> simp [PV.scalar.go] at h
    intro z hz
    rcases List.mem_cons.1 hz with rfl | hz
    · exact ⟨_, rfl, h.1⟩
    · exact ih h.2 z hz

section
variable {F F' : Nat → Prop} {g g' : Nat → Value} {w : World}

theorem VR.pure_g {p : PV} {v : Value} (h : VR F g w p v) (hp : p.pure = true) (g' : Nat → Value) : VR F g' w p v := by
  refine h.mono (fun b hb => ⟨hb, rfl⟩) fun o ho => ?_
  unfold PV.pure at hp
  split at hp
  · rename_i hn; rw [hn] at ho; simp at ho
  · cases hp

theorem Rd.scalar_F {x : T} {v : Value} (h : Rd F w x v) (hx : x.scalar = true) (F' : Nat → Prop) (w' : World) : Rd F' w' x v := by
  cases x <;> simp [T.scalar] at hx
  · rw [h.inv_int]; exact .int _ _
  · rw [h.inv_bool]; exact .bool _
  · rw [h.inv_str]; exact .str _

theorem VR.scalar_F {p : PV} {v : Value} (h : VR F g w p v) (hp : p.scalar = true) (F' : Nat → Prop) (g' : Nat → Value) : VR F' g' w p v := by
  cases p <;> simp [PV.scalar] at hp
  case t => exact .t ((h.cells_t rfl).scalar_F hp _ _)
  case tup l =>
    cases h with
    | tup hs hr =>
      refine .tup hs fun j x v hx hv => ?_
      obtain ⟨y, rfl, hy⟩ := scalar_go hp x (List.mem_of_getElem? hx)
      exact .t (((hr j _ v hx hv).cells_t rfl).scalar_F hy _ _)

/-- a row of ours, read as a datum -/
theorem own_rd {o : Nat} {e : TypeId} {s n : Nat} {f : Nat → List T} (ho : ObjR F g w o (.arr e s n f)) (hF : ∀ b, F b → F' b) (hb : ∀ b, blk (g o) = some b → F' b) {x : T} (hx : x.view = some (n, f)) :
    Rd F' w x (g o) := by
  rcases ho with ⟨h1, h2⟩ | ⟨b, cap, cur, h1, h2, h3, h4, h5, h6, h7⟩
  · rw [h1]; subst h2; exact .nil hx
  · rw [h1]
    refine .sl ⟨b, 0, none⟩ cap s (fun i j => (cur[i * s + j]?).getD undef) hx h3 (fun _ => hb b (by rw [h1]; rfl)) h6 (fun i j hi hj => ?_) (fun i j x hi hx => ?_)
    · have hj' : j < (f i).length := by rw [h6 i hi]; exact hj
      obtain ⟨v, hv, _⟩ := h7 i j _ hi (List.getElem?_eq_getElem hj')
      rw [Addr.add_none]
      simp [World.cell?, h2, hv]
    · obtain ⟨v, hv, hr⟩ := h7 i j x hi hx
      simp only [hv, Option.getD_some]
      exact hr.mono fun b hb => ⟨hF b hb, rfl⟩
end

/-- the blocks that are lent -/
def Lent (g : Nat → Value) (L : List Nat) (b : Nat) : Prop := ∃ o, o ∈ L ∧ blk (g o) = some b

/-- a cell of a box that holds nil holds a row of ours, empty -/
def gthawC (N : List Nat) (b j o : Nat) (e : TypeId) (s : Nat) (f : Nat → List T) (st : St) : Option St :=
  match nmem o N, Nat.beq b o, st.erase o with
  | true, false, some st1 => match look st1.hp b with
    | some (.box l) => match l[j]? with
      | some .nil => some { fr := st1.fr, hp := (o, .arr e s 0 f) :: (b, .box (l.set j (.own o))) :: del b st1.hp }
      | _ => none
    | _ => none
  | _, _, _ => none

structure Callable (P : Program) (k : FuncId) : Prop where
  h : ∃ fn, P.funcs[k]? = some fn ∧ fn.body.isNone = false ∧ (fn.name == "runtime.NumGoroutine") = false

theorem run_callFunc {P : Program} {k : FuncId} (h : Callable P k) (args : Array Value) (w : World) : (callFunc k args).run P w = .ok (.enter k args) w := by
  obtain ⟨fn, h1, h2, h3⟩ := h.h
  have h2' : ¬ fn.body = none := by intro e; rw [e] at h2; cases h2
  have h3' : ¬ fn.name = "runtime.NumGoroutine" := by intro e; rw [e] at h3; simp at h3
  simp [callFunc, program, Sem.run, h1, h2', h3']

section
variable {P : Program} {E : Env} {I : Inf} {Q : Post} {st : St}

/-- A CALL OF A FUNCTION THAT TAKES AND GIVES DATA. -/
theorem call_op (hG : Good P E I) {ops : List Oper} {o : Oper} {c : Call} {f : Operand} {k d nf : Nat} {caps aps bps : List PV} {Qc : PV → Hp → Prop} (L : List Nat)
    (hop : o.op = .call c) (hcal : c.callee = .value f) (hd : o.dst = some d) (hw : wantedP ops o st = some true) (hnt : Nat.blt d I.nt = true)
    (hf : ev st f = some (.fn (.func k) nf caps)) (hargs : evList st c.args.toList = some aps) (hk : Callable P k) (has : ArgsR st L (caps.take nf ++ aps ++ caps.drop nf) bps) (hcall : PCall P k bps [] [] Qc)
    {K : Act → World → Prop} {Q' : Exit → Act → World → Prop} {a : Act} {w : World} (r : Rel E st a w)
    (hres : ∀ r H', Qc r H' → (match L with | [] => r.pure | _ => r.scalar) = true ∧ ∀ a' w', Rel E (st.put d r) a' w' → K a' w') :
    if Region.wanted o (yielded ops.toArray a.tmps) then o.wp P a w K Q' else K (a.put o.dst undef) w := by
  obtain ⟨F, g, r⟩ := r
  have hwt := wantedP_ok (ops := ops.toArray) r (by simpa using hw)
  obtain ⟨hl1, hr1⟩ := evList_ok r _ _ hargs
  have hfv := ev_ok r hf
  obtain ⟨fv, hfe⟩ : ∃ u, a.eval f = u := ⟨_, rfl⟩
  rw [hfe] at hfv
  cases hfv with
  | @fn _ _ _ us vs hn hs hr =>
    subst hn
    have hmem : ∀ b, Lent g L b → ∃ o, o ∈ L ∧ blk (g o) = some b := fun b h => h
    rw [if_pos hwt]
    unfold Oper.wp
    have hrun : (execOp a.eval o).run P w = .ok (.enter k (us ++ (c.args.map a.eval) ++ vs)) w := by
      unfold execOp
      simp [hop, resolve, hcal, hfe, Deferred.ofValue, invoke, run_callFunc hk]
    rw [hrun]
    -- the names that are lent and used
    have hF' : ∀ b, (F b ∨ Lent g (L.filter fun o => (look st.hp o).isSome) b) → b < w.heap.size := by
      rintro b (h | ⟨o, ho, hb⟩)
      · exact (r.w.f1 b h).1
      · simp only [List.mem_filter] at ho
        obtain ⟨x, hx⟩ := Option.isSome_iff_exists.1 ho.2
        exact (r.w.hp.obj o x (look_mem hx)).block hb
    have hcallW := hcall (fun b => F b ∨ Lent g (L.filter fun o => (look st.hp o).isSome) b) g w (us ++ c.args.map a.eval ++ vs) (by
        have := has.get.1
        simp only [List.length_append, List.length_take, List.length_drop] at this
        have h2 : c.args.size = aps.length := by simpa using hl1.symm
        simp only [Array.size_append] at hs
        simp only [Array.size_append, Array.size_map]; omega) (fun j q v hq hv => by
        obtain ⟨p, hp, hpq⟩ := has.get.2 j q hq
        have hpv : VR F g w p v := by
          have h2 : c.args.size = aps.length := by simpa using hl1.symm
          have hus : us.size ≤ caps.length := by simp at hs; omega
          have htk : (caps.take us.size).length = us.size := by simp; omega
          by_cases hi : j < us.size
          · rw [List.append_assoc, List.getElem?_append_left (by omega), List.getElem?_take_of_lt hi] at hp
            rw [Array.append_assoc, Array.getElem?_append_left hi] at hv
            exact hr j p v hp (by rw [Array.getElem?_append_left hi]; exact hv)
          rw [List.append_assoc, List.getElem?_append_right (by omega), htk] at hp
          rw [Array.append_assoc, Array.getElem?_append_right (by omega)] at hv
          by_cases hj : j - us.size < aps.length
          · rw [List.getElem?_append_left hj] at hp
            rw [Array.getElem?_append_left (by simp; omega)] at hv
            exact hr1 _ p v hp (by simpa using hv)
          · rw [List.getElem?_append_right (by omega), List.getElem?_drop] at hp
            rw [Array.getElem?_append_right (by simp; omega)] at hv
            refine hr (us.size + (j - us.size - aps.length)) p v hp ?_
            rw [Array.getElem?_append_right (by omega)]
            simpa [h2] using hv
        cases hpq with
        | same => exact hpv.mono (fun b hb => ⟨.inl hb, rfl⟩) (fun _ _ => rfl)
        | nil hx => cases hpv; exact .t (.nil hx)
        | imp h => exact (h _ _ _ _ hpv).mono (fun b hb => ⟨.inl hb, rfl⟩) (fun _ _ => rfl)
        | @lend o e s n f x ho hl hx =>
          refine .t ?_
          have hob := r.w.hp.obj _ _ (look_mem hl)
          have := own_rd (F' := fun b => F b ∨ Lent g (L.filter fun o => (look st.hp o).isSome) b) hob (fun b hb => .inl hb) (fun b hb => .inr ⟨o, by simp [ho, hl], hb⟩) hx
          cases hpv with
          | own hg => rw [hg] at this; exact this) ⟨by simp, by simp, by simp⟩ hF'
    simp only [Oper.upon]
    refine hcallW.mono ?_
    rintro e w' ⟨v, res, H', F', g', rfl, hQ, hv, hW⟩
    obtain ⟨hpure, hgo⟩ := hres res H' hQ
    refine hgo _ _ ?_
    rw [hd]
    have hext := hW.ext
    have hblk : ∀ b, b < w.heap.size → w'.heap[b]? = w.heap[b]? := fun b hb => hext.block b hb (by rintro ⟨o, x, hx, _⟩; simp at hx)
    -- frozen behind the call: all but what was lent
    have hFF : ∀ b, F b → (F' b ∧ ¬ Lent g (L.filter fun o => (look st.hp o).isSome) b) ∧ w'.heap[b]? = w.heap[b]? := fun b hb => ⟨⟨hW.f0 b (.inl hb), by
      rintro ⟨o, ho, hb'⟩
      simp only [List.mem_filter] at ho
      obtain ⟨x, hx⟩ := Option.isSome_iff_exists.1 ho.2
      exact (r.w.hp.own o x b (look_mem hx) hb').1 hb⟩, hblk b (r.w.f1 b hb).1⟩
    have hd' : d < E.nt := by rw [hG.nt]; simpa [Nat.blt_eq] using hnt
    have hvF : VR (fun b => F' b ∧ ¬ Lent g (L.filter fun o => (look st.hp o).isSome) b) g w' res v := by
      cases L with
      | nil => exact (hv.pure_g hpure g).mono (fun b hb => ⟨⟨hb, by rintro ⟨o, ho, _⟩; simp at ho⟩, rfl⟩) (fun _ _ => rfl)
      | cons o L => exact hv.scalar_F hpure _ _
    refine ⟨fun b => F' b ∧ ¬ Lent g (L.filter fun o => (look st.hp o).isSome) b, g, (r.putW (st' := st) hd' hFF (fun t y hy => ⟨hy, fun _ _ => rfl⟩) ?_ hvF)⟩
    refine ⟨⟨fun o x hx => ?_, fun o x b hx hb => ⟨?_, (r.w.hp.own o x b hx hb).2⟩, r.w.hp.sep⟩, fun b hb => (hFF b (r.w.f0 b hb)).1, fun b hb => ⟨(hW.f1 b hb.1).1, ?_⟩,
      r.w.ext.trans hext.os hext.tape hext.output hext.size (fun b hb _ => hblk b (by have := r.w.ext.size; omega)), r.w.names, r.w.b0⟩
    · exact (r.w.hp.obj o x hx).mono hFF rfl (fun _ _ => rfl) (fun b hb => hblk b ((r.w.hp.obj o x hx).block hb))
    · rintro ⟨h1, h2⟩
      rcases (hW.f1 b h1).2 with h | h | h
      · rcases h with h | h
        · exact (r.w.hp.own o x b hx hb).1 h
        · exact h2 h
      · obtain ⟨o', x', hx', _⟩ := h; simp at hx'
      · have : b < w.heap.size := (r.w.hp.obj o x hx).block hb
        have h : w.heap.size ≤ b := h
        omega
    · rcases (hW.f1 b hb.1).2 with h | h | h
      · rcases h with h | h
        · exact (r.w.f1 b h).2
        · exact absurd h hb.2
      · obtain ⟨o', x', hx', _⟩ := h; simp at hx'
      · have h : w.heap.size ≤ b := h
        exact .inr (.inr (Nat.le_trans r.w.ext.size h))

theorem pops_call (hG : Good P E I) {ops l : List Oper} {o : Oper} {rest : List Oper} {c : Call} {f : Operand} {k d nf : Nat} {caps aps bps : List PV} {Qc : PV → Hp → Prop} (L : List Nat)
    (hl : l = o :: rest) (hop : o.op = .call c) (hcal : c.callee = .value f) (hd : o.dst = some d) (hw : wantedP ops o st = some true) (hnt : Nat.blt d I.nt = true)
    (hf : ev st f = some (.fn (.func k) nf caps)) (hargs : evList st c.args.toList = some aps) (hk : Callable P k) (has : ArgsR st L (caps.take nf ++ aps ++ caps.drop nf) bps) (hcall : PCall P k bps [] [] Qc)
    (hres : ∀ r H', Qc r H' → (match L with | [] => r.pure | _ => r.scalar) = true ∧ pops P E ops Q rest (st.put d r)) : pops P E ops Q l st := by
  subst hl
  intro a w r
  refine wpList_step fun K hK => call_op hG L hop hcal hd hw hnt hf hargs hk has hcall r fun r H' hq => ⟨(hres r H' hq).1, fun a' w' r' => hK _ _ ((hres r H' hq).2 a' w' r')⟩

/-! ### changes of form -/

/-- o's value, where it stands as such -/
def PV.fz (p : PV) (o : Nat) (q : PV) : PV := match p with | .own k => (match Nat.beq k o with | true => q | false => .own k) | p => p
def fzObj (o : Nat) (q : PV) (x : PObj) : PObj := match x with | .box l => .box (l.map fun p => p.fz o q) | x => x

theorem PV.fz_ok {F F' : Nat → Prop} {g : Nat → Value} {w : World} {o : Nat} {q : PV} (hF : ∀ b, F b → F' b) (hq : VR F' g w q (g o)) {p : PV} {v : Value} (h : VR F g w p v) : VR F' g w (p.fz o q) v := by
  have h' : VR F' g w p v := h.mono (fun b hb => ⟨hF b hb, rfl⟩) (fun _ _ => rfl)
  unfold PV.fz
  split
  · rename_i k
    split
    · rename_i hk
      have hk := Nat.eq_of_beq_eq_true hk
      subst hk
      cases h' with
      | own e => rw [e] at hq; exact hq
    · exact h'
  · exact h'

theorem fzObj_ok {F F' : Nat → Prop} {g : Nat → Value} {w : World} {o t : Nat} {q : PV} (hF : ∀ b, F b → F' b) (hq : VR F' g w q (g o)) {x : PObj} (h : ObjR F g w t x) : ObjR F' g w t (fzObj o q x) := by
  cases x with
  | box l =>
    obtain ⟨b, vs, ty, h1, h2, h3, h4⟩ := h
    refine ⟨b, vs, ty, h1, h2, by simp [h3], fun j y v hy hv => ?_⟩
    simp only [List.getElem?_map, Option.map_eq_some_iff] at hy
    obtain ⟨z, hz, rfl⟩ := hy
    exact PV.fz_ok hF hq (h4 j z v hz hv)
  | arr e s n f => exact h.mono (fun b hb => ⟨hF b hb, rfl⟩) rfl (fun _ _ => rfl) (fun _ _ => rfl)
  | mpb n m => exact h.mono (fun b hb => ⟨hF b hb, rfl⟩) rfl (fun _ _ => rfl) (fun _ _ => rfl)

/-- a row of ours becomes a datum, everywhere; all else that mentions it is forgotten -/
def gfreeze (o : Nat) (x : T) (st : St) : Option St :=
  ({ fr := st.fr.map fun e => (e.1, e.2.fz o (.t x)), hp := (del o st.hp).map fun e => (e.1, fzObj o (.t x) e.2) } : St).erase o

theorem Rel.freeze {o : Nat} {x : T} {e : TypeId} {s n : Nat} {f : Nat → List T} {st' : St} (hl : look st.hp o = some (.arr e s n f)) (hx : x.view = some (n, f)) (h : gfreeze o x st = some st') {a : Act} {w : World} (r : Rel E st a w) : Rel E st' a w := by
  obtain ⟨F, g, r⟩ := r
  unfold gfreeze at h
  · have hlm := look_mem hl
    have hob := r.w.hp.obj _ _ hlm
    have hq : VR (fun b => F b ∨ blk (g o) = some b) g w (.t x) (g o) := .t (own_rd hob (fun b hb => .inl hb) (fun b hb => .inr hb) hx)
    have hF : ∀ b, F b → (F b ∨ blk (g o) = some b) := fun b hb => .inl hb
    have hfr := St.erase_fr h
    have hhp := St.erase_hp h
    refine ⟨fun b => F b ∨ blk (g o) = some b, g, r.nt, r.df, fun t x' hx' => ?_, ⟨⟨fun k y hy => ?_, fun k y b hy hb => ?_, fun k y k' y' b hy hy' hne hb hb' => ?_⟩, fun b hb => .inl (r.w.f0 b hb), fun b hb => ?_, r.w.ext, r.w.names, r.w.b0⟩⟩
    · obtain ⟨h1, _⟩ := hfr t x' hx'
      simp only [List.mem_map, Prod.mk.injEq] at h1
      obtain ⟨⟨t', y⟩, hy, rfl, rfl⟩ := h1
      exact PV.fz_ok hF hq (r.fr t' y hy)
    · obtain ⟨x, h1, _, _, h4⟩ := hhp k y hy
      simp only [List.mem_map, Prod.mk.injEq] at h1
      obtain ⟨⟨k', z⟩, hz, rfl, rfl⟩ := h1
      exact h4 _ _ _ (fzObj_ok hF hq (r.w.hp.obj k' z (mem_del.1 hz).1))
    · obtain ⟨x, h1, h2, _⟩ := hhp k y hy
      simp only [List.mem_map, Prod.mk.injEq] at h1
      obtain ⟨⟨k', z⟩, hz, rfl, rfl⟩ := h1
      obtain ⟨hz1, hz2⟩ := mem_del.1 hz
      refine ⟨?_, (r.w.hp.own k' z b hz1 hb).2⟩
      rintro (h | h)
      · exact (r.w.hp.own k' z b hz1 hb).1 h
      · exact r.w.hp.sep k' z o _ b hz1 hlm hz2 hb h
    · obtain ⟨x, h1, _⟩ := hhp k y hy
      obtain ⟨x', h1', _⟩ := hhp k' y' hy'
      simp only [List.mem_map, Prod.mk.injEq] at h1 h1'
      obtain ⟨⟨k2, z⟩, hz, rfl, rfl⟩ := h1
      obtain ⟨⟨k2', z'⟩, hz', rfl, rfl⟩ := h1'
      exact r.w.hp.sep k2 z k2' z' b (mem_del.1 hz).1 (mem_del.1 hz').1 hne hb hb'
    · rcases hb with hb | hb
      · exact r.w.f1 b hb
      · have := (r.w.hp.own o _ b hlm hb).2
        exact ⟨hob.block hb, this.elim (fun h => .inr (.inl h)) (fun h => .inr (.inr h))⟩

/-- a slot that holds nil holds a row of ours, empty -/
def gthaw (N : List Nat) (t o : Nat) (e : TypeId) (s : Nat) (f : Nat → List T) (st : St) : Option St :=
  match look st.fr t, nmem o N, st.erase o with
  | some .nil, true, some st1 => some { fr := (t, .own o) :: del t st1.fr, hp := (o, .arr e s 0 f) :: st1.hp }
  | _, _, _ => none

theorem Rel.thaw (hG : Good P E I) {t o : Nat} {e : TypeId} {s : Nat} {f : Nat → List T} {st' : St} (h : gthaw I.N t o e s f st = some st') {a : Act} {w : World} (r : Rel E st a w) : Rel E st' a w := by
  obtain ⟨F, g, r⟩ := r
  unfold gthaw at h
  split at h
  · rename_i st1 hl hn he
    cases h
    have hnil : a.tmps.getD t undef = .slice none 0 0 := by
      have := r.fr _ _ (look_mem hl)
      generalize a.tmps.getD t undef = u at this
      cases this; rfl
    refine ⟨F, upd g o (.slice none 0 0), r.nt, r.df, fun t' x hx => ?_, ⟨HpR.change r.w.hp he (fun k hk => upd_other g _ hk) (fun b hb => ⟨hb, rfl⟩) (fun _ h => h) (fun _ _ _ _ _ _ => rfl) (.inl ⟨upd_same .., rfl⟩)
      (fun b hb => by rw [upd_same] at hb; simp [blk] at hb) (fun k y b _ _ _ hb => by rw [upd_same] at hb; simp [blk] at hb), r.w.f0, r.w.f1, r.w.ext, fun k hk => ?_, r.w.b0⟩⟩
    · rcases List.mem_cons.1 hx with e | hx
      · cases e; rw [hnil]; exact .own (upd_same ..)
      · obtain ⟨h1, h2⟩ := St.erase_fr he t' x (mem_del.1 hx).1
        exact (r.fr t' x h1).mono (fun b hb => ⟨hb, rfl⟩) (fun k hk => upd_other g _ (h2 k hk))
    · rw [upd_other g _ (fun e : k = o => nmem_ok hn (hG.N ▸ e ▸ hk))]
      exact r.w.names k hk
  · cases h

theorem ObjR.arr_ren {F : Nat → Prop} {g g' : Nat → Value} {w : World} {o o' : Nat} {e : TypeId} {s n : Nat} {f : Nat → List T} (h : ObjR F g w o (.arr e s n f)) (hg : g' o' = g o) : ObjR F g' w o' (.arr e s n f) := by
  simp only [ObjR, hg]
  exact h

theorem Rel.thawC (hG : Good P E I) {b j o : Nat} {e : TypeId} {s : Nat} {f : Nat → List T} {st' : St} (h : gthawC I.N b j o e s f st = some st') {a : Act} {w : World} (r : Rel E st a w) : Rel E st' a w := by
  obtain ⟨F, g, r⟩ := r
  unfold gthawC at h
  split at h
  · rename_i st1 hn hbo he
    split at h
    · rename_i l hl
      split at h
      · rename_i hj
        cases h
        have hbo := Nat.ne_of_beq_eq_false hbo
        have hp := HpR.change (x := .arr e s 0 f) (g' := upd g o (.slice none 0 0)) r.w.hp he (fun k hk => upd_other g _ hk) (fun b hb => ⟨hb, rfl⟩) (fun _ h => h) (fun _ _ _ _ _ _ => rfl) (.inl ⟨upd_same .., rfl⟩)
          (fun b hb => by rw [upd_same] at hb; simp [blk] at hb) (fun k y b _ _ _ hb => by rw [upd_same] at hb; simp [blk] at hb)
        have hbm : (b, PObj.box l) ∈ (o, PObj.arr e s 0 f) :: st1.hp := List.mem_cons_of_mem _ (look_mem hl)
        have key : ∀ k u, (k, u) ∈ (o, PObj.arr e s 0 f) :: (b, PObj.box (l.set j (.own o))) :: del b st1.hp → ∃ u', (k, u') ∈ (o, PObj.arr e s 0 f) :: st1.hp := by
          intro k u hk
          rcases List.mem_cons.1 hk with e1 | hk
          · cases e1; exact ⟨_, List.mem_cons_self ..⟩
          · rcases List.mem_cons.1 hk with e1 | hk
            · cases e1; exact ⟨_, hbm⟩
            · exact ⟨u, List.mem_cons_of_mem _ (mem_del.1 hk).1⟩
        refine ⟨F, upd g o (.slice none 0 0), r.nt, r.df, fun t' x hx => ?_, ⟨⟨fun k u hk => ?_, fun k u b' hk hb => ?_, fun k u k' u' b' hk hk' hne hb hb' => ?_⟩, r.w.f0, r.w.f1, r.w.ext, fun k hk => ?_, r.w.b0⟩⟩
        · obtain ⟨h1, h2⟩ := St.erase_fr he t' x hx
          exact (r.fr t' x h1).mono (fun b hb => ⟨hb, rfl⟩) (fun k hk => upd_other g _ (h2 k hk))
        · rcases List.mem_cons.1 hk with e1 | hk
          · cases e1; exact hp.obj _ _ (List.mem_cons_self ..)
          · rcases List.mem_cons.1 hk with e1 | hk
            · cases e1
              obtain ⟨bb, vs, ty, e1, e2, e3, e4⟩ := hp.obj _ _ hbm
              refine ⟨bb, vs, ty, e1, e2, by simp [e3], fun q y v hy hv => ?_⟩
              rw [List.getElem?_set] at hy
              split at hy
              · rename_i hq
                subst hq
                split at hy
                · cases hy
                  have := e4 j .nil v hj hv
                  cases this
                  exact .own (upd_same ..)
                · cases hy
              · exact e4 q y v hy hv
            · exact hp.obj _ _ (List.mem_cons_of_mem _ (mem_del.1 hk).1)
        · obtain ⟨u', hu⟩ := key k u hk; exact hp.own k u' b' hu hb
        · obtain ⟨v, hv⟩ := key k u hk; obtain ⟨v', hv'⟩ := key k' u' hk'; exact hp.sep k v k' v' b' hv hv' hne hb hb'
        · rw [upd_other g _ (fun e : k = o => nmem_ok hn (hG.N ▸ e ▸ hk))]
          exact r.w.names k hk
      · cases h
    · cases h
  · cases h
theorem Le.thawC (hG : Good P E I) {b j o : Nat} {e : TypeId} {s : Nat} {f : Nat → List T} {st' : St} (h : gthawC I.N b j o e s f st = some st') : Le E st st' := fun _ _ r => r.thawC hG h

/-- another name for a row of ours -/
def grename (N : List Nat) (o o' : Nat) (st : St) : Option St :=
  match look st.hp o, nmem o' N, st.erase o' with
  | some (.arr e s n f), true, some st1 =>
    ({ fr := st1.fr.map fun e => (e.1, e.2.fz o (.own o')), hp := (o', .arr e s n f) :: (del o st1.hp).map fun e => (e.1, fzObj o (.own o') e.2) } : St).erase o
  | _, _, _ => none

theorem Rel.rename (hG : Good P E I) {o o' : Nat} {st' : St} (hne : o ≠ o') (h : grename I.N o o' st = some st') {a : Act} {w : World} (r : Rel E st a w) : Rel E st' a w := by
  obtain ⟨F, g, r⟩ := r
  unfold grename at h
  split at h
  · rename_i e s n f st1 hl hn he
    have hlm := look_mem hl
    have hob := r.w.hp.obj _ _ hlm
    have hfr := St.erase_fr h
    have hhp := St.erase_hp h
    have hsl : ∃ ad m c, g o = .slice ad m c := by
      rcases hob with ⟨h1, _⟩ | ⟨b, cap, cur, h1, _⟩
      · exact ⟨_, _, _, h1⟩
      · exact ⟨_, _, _, h1⟩
    obtain ⟨ad, m, c, hgo⟩ := hsl
    have hq : VR F (upd g o' (g o)) w (.own o') (upd g o' (g o) o) := by
      rw [upd_other g _ hne, hgo]; exact .own (by rw [upd_same])
    have hmono : ∀ {p : PV} {v : Value}, VR F g w p v → (∀ k, k ∈ p.names → k ≠ o') → VR F (upd g o' (g o)) w p v := fun hv hk => hv.mono (fun b hb => ⟨hb, rfl⟩) (fun k hk' => upd_other g _ (hk k hk'))
    have hcase : ∀ k y, (k, y) ∈ st'.hp → ∃ k0 z, (k0, z) ∈ st.hp ∧ upd g o' (g o) k = g k0 ∧ (k ≠ o' → k0 = k ∧ k ≠ o) ∧ (k = o' → k0 = o) ∧ ObjR F (upd g o' (g o)) w k y := by
      intro k y hy
      obtain ⟨x, h1, h2, _, h4⟩ := hhp k y hy
      rcases List.mem_cons.1 h1 with e1 | h1
      · cases e1
        refine ⟨o, _, hlm, by rw [upd_same], fun h => absurd rfl h, fun _ => rfl, h4 _ _ _ ?_⟩
        exact hob.arr_ren (upd_same ..)
      · simp only [List.mem_map, Prod.mk.injEq] at h1
        obtain ⟨⟨k', z⟩, hz, rfl, rfl⟩ := h1
        obtain ⟨hz1, hz2⟩ := mem_del.1 hz
        obtain ⟨z0, h5, h6, h7, h8⟩ := St.erase_hp he k' z hz1
        refine ⟨k', z0, h5, by rw [upd_other g _ h6], fun _ => ⟨rfl, hz2⟩, fun e => absurd e h6, h4 _ _ _ (fzObj_ok (fun _ h => h) hq ?_)⟩
        exact (h8 _ _ _ (r.w.hp.obj k' z0 h5)).mono (fun b hb => ⟨hb, rfl⟩) (upd_other g _ h6) (fun k hk => upd_other g _ (h7 k hk)) (fun _ _ => rfl)
    refine ⟨F, upd g o' (g o), r.nt, r.df, fun t x hx => ?_, ⟨⟨fun k y hy => ?_, fun k y b hy hb => ?_, fun k y k' y' b hy hy' hne' hb hb' => ?_⟩, r.w.f0, r.w.f1, r.w.ext, fun k hk => ?_, r.w.b0⟩⟩
    · obtain ⟨h1, _⟩ := hfr t x hx
      simp only [List.mem_map, Prod.mk.injEq] at h1
      obtain ⟨⟨t', y⟩, hy, rfl, rfl⟩ := h1
      obtain ⟨h2, h3⟩ := St.erase_fr he t' y hy
      exact PV.fz_ok (fun _ h => h) hq (hmono (r.fr t' y h2) h3)
    · obtain ⟨_, _, _, _, _, _, h6⟩ := hcase k y hy; exact h6
    · obtain ⟨k0, z, h1, h2, _⟩ := hcase k y hy
      rw [h2] at hb
      exact r.w.hp.own k0 z b h1 hb
    · obtain ⟨k0, z, h1, h2, h3, h4, _⟩ := hcase k y hy
      obtain ⟨k0', z', h1', h2', h3', h4', _⟩ := hcase k' y' hy'
      rw [h2] at hb
      rw [h2'] at hb'
      refine r.w.hp.sep k0 z k0' z' b h1 h1' ?_ hb hb'
      intro e0
      by_cases hk : k = o'
      · by_cases hk' : k' = o'
        · exact hne' (hk.trans hk'.symm)
        · have := h3' hk'; rw [h4 hk] at e0; exact this.2 (this.1.symm.trans e0.symm)
      · by_cases hk' : k' = o'
        · have := h3 hk; rw [h4' hk'] at e0; exact this.2 (this.1.symm.trans e0)
        · exact hne' ((h3 hk).1.symm.trans (e0.trans (h3' hk').1))
    · rw [upd_other g _ (fun e : k = o' => nmem_ok hn (hG.N ▸ e ▸ hk))]
      exact r.w.names k hk
  · cases h

/-- a slot's value, said otherwise -/
theorem Rel.slot {t : Nat} {p q : PV} (hl : look st.fr t = some p) (hpq : ∀ F g w v, VR F g w p v → VR F g w q v) {a : Act} {w : World} (r : Rel E st a w) : Rel E { st with fr := (t, q) :: del t st.fr } a w := by
  obtain ⟨F, g, r⟩ := r
  refine ⟨F, g, r.nt, r.df, fun t' x hx => ?_, r.w⟩
  rcases List.mem_cons.1 hx with e | hx
  · cases e; exact hpq _ _ _ _ (r.fr _ _ (look_mem hl))
  · exact r.fr t' x (mem_del.1 hx).1

/-- an object, said otherwise -/
theorem Rel.obj {o : Nat} {x y : PObj} (hl : look st.hp o = some x) (hxy : ∀ F g w, ObjR F g w o x → ObjR F g w o y) {a : Act} {w : World} (r : Rel E st a w) : Rel E { st with hp := (o, y) :: del o st.hp } a w := by
  obtain ⟨F, g, r⟩ := r
  have hlm := look_mem hl
  have key : ∀ k u, (k, u) ∈ (o, y) :: del o st.hp → ∃ u', (k, u') ∈ st.hp := by
    intro k u hk
    rcases List.mem_cons.1 hk with e | hk
    · cases e; exact ⟨x, hlm⟩
    · exact ⟨u, (mem_del.1 hk).1⟩
  refine ⟨F, g, r.nt, r.df, r.fr, ⟨⟨fun k u hk => ?_, fun k u b hk hb => ?_, fun k u k' u' b hk hk' hne hb hb' => ?_⟩, r.w.f0, r.w.f1, r.w.ext, r.w.names, r.w.b0⟩⟩
  · rcases List.mem_cons.1 hk with e | hk
    · cases e; exact hxy _ _ _ (r.w.hp.obj _ _ hlm)
    · exact r.w.hp.obj _ _ (mem_del.1 hk).1
  · obtain ⟨u', h⟩ := key k u hk; exact r.w.hp.own k u' b h hb
  · obtain ⟨v, h⟩ := key k u hk; obtain ⟨v', h'⟩ := key k' u' hk'; exact r.w.hp.sep k v k' v' b h h' hne hb hb'

theorem ObjR.row {F : Nat → Prop} {g : Nat → Value} {w : World} {o : Nat} {e : TypeId} {s n n' : Nat} {f f' : Nat → List T} (hn : n = n') (hf : ∀ i, i < n → f i = f' i) (h : ObjR F g w o (.arr e s n f)) : ObjR F g w o (.arr e s n' f') := by
  subst hn
  rcases h with h | ⟨b, cap, cur, h1, h2, h3, h4, h5, h6, h7⟩
  · exact .inl h
  · exact .inr ⟨b, cap, cur, h1, h2, h3, h4, h5, fun i hi => by rw [← hf i hi]; exact h6 i hi, fun i j x hi hx => h7 i j x hi (by rw [hf i hi]; exact hx)⟩

theorem Le.freeze {o : Nat} {e : TypeId} {s n : Nat} {f : Nat → List T} {st' : St} (x : T) (hl : look st.hp o = some (.arr e s n f)) (hx : x.view = some (n, f)) (h : gfreeze o x st = some st') : Le E st st' := fun _ _ r => r.freeze hl hx h
theorem Le.thaw (hG : Good P E I) {t o : Nat} {e : TypeId} {s : Nat} {f : Nat → List T} {st' : St} (h : gthaw I.N t o e s f st = some st') : Le E st st' := fun _ _ r => r.thaw hG h
theorem Le.rename (hG : Good P E I) {o o' : Nat} {st' : St} (hne : o ≠ o') (h : grename I.N o o' st = some st') : Le E st st' := fun _ _ r => r.rename hG hne h
theorem Le.slot {t : Nat} {p : PV} (q : PV) (hl : look st.fr t = some p) (hpq : ∀ F g w v, VR F g w p v → VR F g w q v) : Le E st { st with fr := (t, q) :: del t st.fr } := fun _ _ r => r.slot hl hpq
theorem Le.obj {o : Nat} {x : PObj} (y : PObj) (hl : look st.hp o = some x) (hxy : ∀ F g w, ObjR F g w o x → ObjR F g w o y) : Le E st { st with hp := (o, y) :: del o st.hp } := fun _ _ r => r.obj hl hxy

end
end Go.PL
