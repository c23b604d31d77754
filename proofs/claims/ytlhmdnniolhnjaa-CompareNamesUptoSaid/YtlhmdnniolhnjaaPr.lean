/-
  Calls that hand memory over. Own work.
-/
import Derived.Test.YtlhmdnniolhnjaaPq
namespace Go.PL
open Go

def inN : Nat → List Nat → Bool
  | _, [] => false
  | o, k :: l => match Nat.beq o k with | true => true | false => inN o l
theorem inN_ok {o : Nat} : ∀ {l : List Nat}, inN o l = true ↔ o ∈ l
  | [] => by simp [inN]
  | k :: l => by
    simp only [inN]
    split
    · rename_i h; simp [Nat.eq_of_beq_eq_true h]
    · rename_i h; rw [inN_ok (l := l)]; simp [Nat.ne_of_beq_eq_false h]

def restH (hp : Hp) (L : List Nat) : Hp := hp.filter fun e => !(inN e.1 L)
theorem mem_restH {hp : Hp} {L : List Nat} {e : Nat × PObj} (h : e ∈ restH hp L) : e ∈ hp ∧ e.1 ∉ L := by
  simp only [restH, List.mem_filter, Bool.not_eq_true'] at h
  exact ⟨h.1, fun hm => by rw [inN_ok.2 hm] at h; cases h.2⟩

def noneIn (ns l : List Nat) : Bool := ns.all fun o => !(inN o l)
theorem noneIn_ok {ns l : List Nat} (h : noneIn ns l = true) : ∀ o, o ∈ ns → o ∉ l := by
  intro o ho hm
  have := List.all_eq_true.1 h o ho
  rw [inN_ok.2 hm] at this; cases this
def allIn (ns l : List Nat) : Bool := ns.all fun o => inN o l
theorem allIn_ok {ns l : List Nat} (h : allIn ns l = true) : ∀ o, o ∈ ns → o ∈ l := fun o ho => inN_ok.1 (List.all_eq_true.1 h o ho)

/-- the state does not speak of the new names -/
def freshIn (st : St) (L N nw : List Nat) : Bool := (st.fr.all fun e => noneIn e.2.names nw) && ((restH st.hp L).all fun e => (!(inN e.1 nw)) && noneIn e.2.names nw) && noneIn N nw
/-- what comes back speaks of names we know -/
def backIn (r : PV) (H : Hp) (l : List Nat) : Bool := allIn r.names l && H.all fun e => inN e.1 l && allIn e.2.names l

section
variable {P : Program} {E : Env} {I : Inf} {Q : Post} {st : St}

/-- A CALL THAT HANDS OBJECTS OVER, AND GETS OBJECTS BACK. -/
theorem call_opH (hG : Good P E I) {ops : List Oper} {o : Oper} {c : Call} {f : Operand} {k d nf : Nat} {caps aps bps : List PV} {Qc : PV → Hp → Prop} {Hs : Hp} (L N nw : List Nat)
    (hop : o.op = .call c) (hcal : c.callee = .value f) (hd : o.dst = some d) (hw : wantedP ops o st = some true) (hnt : Nat.blt d I.nt = true)
    (hf : ev st f = some (.fn (.func k) nf caps)) (hargs : evList st c.args.toList = some aps) (hk : Callable P k) (has : ArgsR st [] (caps.take nf ++ aps ++ caps.drop nf) bps)
    (hpick : pickH st.hp L = some Hs) (hfresh : freshIn st L I.N nw = true) (hcall : PCall P k bps Hs N Qc)
    {K : Act → World → Prop} {Q' : Exit → Act → World → Prop} {a : Act} {w : World} (r : Rel E st a w)
    (hres : ∀ r H', Qc r H' → backIn r H' (N ++ nw) = true ∧ ∀ a' w', Rel E (({ fr := st.fr, hp := H' ++ restH st.hp L } : St).put d r) a' w' → K a' w') :
    if Region.wanted o (yielded ops.toArray a.tmps) then o.wp P a w K Q' else K (a.put o.dst undef) w := by
  obtain ⟨F, g, r⟩ := r
  have hwt := wantedP_ok (ops := ops.toArray) r (by simpa using hw)
  obtain ⟨hl1, hr1⟩ := evList_ok r _ _ hargs
  have hfv := ev_ok r hf
  obtain ⟨fv, hfe⟩ : ∃ u, a.eval f = u := ⟨_, rfl⟩
  rw [hfe] at hfv
  have hHs := pickH_ok hpick
  cases hfv with
  | @fn _ _ _ us vs hn hs hr =>
    subst hn
    rw [if_pos hwt]
    unfold Oper.wp
    have hrun : (execOp a.eval o).run P w = .ok (.enter k (us ++ (c.args.map a.eval) ++ vs)) w := by
      unfold execOp
      simp [hop, resolve, hcal, hfe, Deferred.ofValue, invoke, run_callFunc hk]
    rw [hrun]
    have hcallW := hcall F g w (us ++ c.args.map a.eval ++ vs) (by
        have := has.get.1
        simp only [List.length_append, List.length_take, List.length_drop] at this
        have h2 : c.args.size = aps.length := by simpa using hl1.symm
        simp only [Array.size_append] at hs
        simp only [Array.size_append, Array.size_map]; omega) (fun j q v hq hv => by
        obtain ⟨p, hp, hpq⟩ := has.get.2 j q hq
        have hpv : VR F g w p v := by
          have h2 : c.args.size = aps.length := by simpa using hl1.symm
          have hus : us.size ≤ caps.length := by simp at hs; omega
          have htk : (caps.take us.size).length = us.size := by simp; omega
          by_cases hi : j < us.size
          · rw [List.append_assoc, List.getElem?_append_left (by omega), List.getElem?_take_of_lt hi] at hp
            rw [Array.append_assoc, Array.getElem?_append_left hi] at hv
            exact hr j p v hp (by rw [Array.getElem?_append_left hi]; exact hv)
          rw [List.append_assoc, List.getElem?_append_right (by omega), htk] at hp
          rw [Array.append_assoc, Array.getElem?_append_right (by omega)] at hv
          by_cases hj : j - us.size < aps.length
          · rw [List.getElem?_append_left hj] at hp
            rw [Array.getElem?_append_left (by simp; omega)] at hv
            exact hr1 _ p v hp (by simpa using hv)
          · rw [List.getElem?_append_right (by omega), List.getElem?_drop] at hp
            rw [Array.getElem?_append_right (by simp; omega)] at hv
            refine hr (us.size + (j - us.size - aps.length)) p v hp ?_
            rw [Array.getElem?_append_right (by omega)]
            simpa [h2] using hv
        cases hpq with
        | same => exact hpv
        | nil hx => cases hpv; exact .t (.nil hx)
        | imp h => exact h _ _ _ _ hpv
        | lend ho => simp at ho)
      ⟨fun o x hx => r.w.hp.obj o x (hHs _ hx).1, fun o x b hx hb => ⟨(r.w.hp.own o x b (hHs _ hx).1 hb).1, trivial⟩,
        fun o x o' y b hx hy => r.w.hp.sep o x o' y b (hHs _ hx).1 (hHs _ hy).1⟩ (fun b hb => (r.w.f1 b hb).1)
    simp only [Oper.upon]
    refine hcallW.mono ?_
    rintro e w' ⟨v, res, H', F', g', rfl, hQ, hv, hW⟩
    obtain ⟨hback, hgo⟩ := hres res H' hQ
    refine hgo _ _ ?_
    rw [hd]
    have hext := hW.ext
    simp only [freshIn, Bool.and_eq_true, List.all_eq_true, Bool.not_eq_true'] at hfresh
    obtain ⟨⟨hfr, hrest⟩, hN⟩ := hfresh
    simp only [backIn, Bool.and_eq_true, List.all_eq_true] at hback
    obtain ⟨hbr, hbH⟩ := hback
    -- the names behind the call
    let g2 : Nat → Value := fun o => if inN o nw = true then g' o else g o
    have hold : ∀ o, o ∉ nw → g2 o = g o := fun o ho => if_neg (fun h => ho (inN_ok.1 h))
    have hnew : ∀ o, o ∈ N ++ nw → g2 o = g' o := by
      intro o ho
      show (if inN o nw = true then g' o else g o) = g' o
      split
      · rfl
      · rename_i h
        rcases List.mem_append.1 ho with ho | ho
        · exact (hW.names o ho).symm
        · exact absurd (inN_ok.2 ho) h
    have hown : ∀ b, Own g Hs b → b < w.heap.size ∧ ¬ F b := by
      rintro b ⟨o, x, hx, hb⟩
      exact ⟨(r.w.hp.obj o x (hHs _ hx).1).block hb, (r.w.hp.own o x b (hHs _ hx).1 hb).1⟩
    have hblk : ∀ b, b < w.heap.size → ¬ Own g Hs b → w'.heap[b]? = w.heap[b]? := fun b hb hB => hext.block b hb hB
    have hFF : ∀ b, F b → F' b ∧ w'.heap[b]? = w.heap[b]? := fun b hb => ⟨hW.f0 b hb, hblk b (r.w.f1 b hb).1 (fun h => (hown b h).2 hb)⟩
    have hnotown : ∀ o x b, (o, x) ∈ restH st.hp L → blk (g o) = some b → ¬ Own g Hs b := by
      rintro o x b hx hb ⟨o', x', hx', hb'⟩
      obtain ⟨h1, h2⟩ := mem_restH hx
      exact r.w.hp.sep o x o' x' b h1 (hHs _ hx').1 (fun e => h2 (e ▸ (hHs _ hx').2)) hb hb'
    have hrn : ∀ o x, (o, x) ∈ restH st.hp L → o ∉ nw := fun o x hx hm => by
      have := (hrest _ hx).1
      rw [inN_ok.2 hm] at this; cases this
    have hd' : d < E.nt := by rw [hG.nt]; simpa [Nat.blt_eq] using hnt
    refine ⟨F', g2, r.putW (st' := { fr := st.fr, hp := H' ++ restH st.hp L }) hd' hFF (fun t y hy => ⟨hy, fun o ho => hold o (noneIn_ok (hfr _ hy) o ho)⟩) ?_
      (hv.mono (fun b hb => ⟨hb, rfl⟩) (fun o ho => hnew o (allIn_ok hbr o ho)))⟩
    refine ⟨⟨fun o x hx => ?_, fun o x b hx hb => ?_, fun o x o' y b hx hy hne hb hb' => ?_⟩, fun b hb => (hFF b (r.w.f0 b hb)).1, fun b hb => ⟨(hW.f1 b hb).1, ?_⟩, ?_, fun o ho => ?_, r.w.b0⟩
    · rcases List.mem_append.1 hx with hx | hx
      · have hh := hbH _ hx
        exact (hW.hp.obj o x hx).mono (fun b hb => ⟨hb, rfl⟩) (hnew o (inN_ok.1 hh.1)) (fun o' ho' => hnew o' (allIn_ok hh.2 o' ho')) (fun _ _ => rfl)
      · exact (r.w.hp.obj o x (mem_restH hx).1).mono hFF (hold o (hrn o x hx)) (fun o' ho' => hold o' (noneIn_ok (hrest _ hx).2 o' ho'))
          (fun b hb => hblk b ((r.w.hp.obj o x (mem_restH hx).1).block hb) (hnotown o x b hx hb))
    · rcases List.mem_append.1 hx with hx | hx
      · have hh := hbH _ hx
        rw [hnew o (inN_ok.1 hh.1)] at hb
        refine ⟨(hW.hp.own o x b hx hb).1, ?_⟩
        rcases (hW.hp.own o x b hx hb).2 with ⟨o', x', hx', hb'⟩ | h
        · exact (r.w.hp.own o' x' b (hHs _ hx').1 hb').2
        · exact .inr (Nat.le_trans r.w.ext.size h)
      · rw [hold o (hrn o x hx)] at hb
        have hlt := (r.w.hp.obj o x (mem_restH hx).1).block hb
        have hh := r.w.hp.own o x b (mem_restH hx).1 hb
        refine ⟨fun hF' => ?_, hh.2⟩
        rcases (hW.f1 b hF').2 with h | h | h
        · exact hh.1 h
        · exact hnotown o x b hx hb h
        · exact absurd hlt (Nat.not_lt.2 h)
    · have key : ∀ o x o' y b, (o, x) ∈ H' → (o', y) ∈ restH st.hp L → blk (g2 o) = some b → blk (g2 o') = some b → False := by
        intro o x o' y b hx hy hb hb'
        have hh := hbH _ hx
        rw [hnew o (inN_ok.1 hh.1)] at hb
        rw [hold o' (hrn o' y hy)] at hb'
        rcases (hW.hp.own o x b hx hb).2 with h | h
        · exact hnotown o' y b hy hb' h
        · exact absurd ((r.w.hp.obj o' y (mem_restH hy).1).block hb') (Nat.not_lt.2 h)
      rcases List.mem_append.1 hx with hx | hx
      · rcases List.mem_append.1 hy with hy | hy
        · rw [hnew o (inN_ok.1 (hbH _ hx).1)] at hb
          rw [hnew o' (inN_ok.1 (hbH _ hy).1)] at hb'
          exact hW.hp.sep o x o' y b hx hy hne hb hb'
        · exact key o x o' y b hx hy hb hb'
      · rcases List.mem_append.1 hy with hy | hy
        · exact key o' y o x b hy hx hb' hb
        · rw [hold o (hrn o x hx)] at hb
          rw [hold o' (hrn o' y hy)] at hb'
          exact r.w.hp.sep o x o' y b (mem_restH hx).1 (mem_restH hy).1 hne hb hb'
    · rcases (hW.f1 b hb).2 with h | h | h
      · exact (r.w.f1 b h).2
      · obtain ⟨o', x', hx', hb'⟩ := h
        rcases (r.w.hp.own o' x' b (hHs _ hx').1 hb').2 with h | h
        · exact .inr (.inl h)
        · exact .inr (.inr h)
      · exact .inr (.inr (Nat.le_trans r.w.ext.size h))
    · refine r.w.ext.trans hext.os hext.tape hext.output hext.size (fun b hb hB => hblk b (by have := r.w.ext.size; omega) ?_)
      rintro ⟨o', x', hx', hb'⟩
      rcases (r.w.hp.own o' x' b (hHs _ hx').1 hb').2 with h | h
      · exact hB h
      · exact absurd hb (Nat.not_lt.2 h)
    · rw [hold o (fun hm => noneIn_ok hN o (by rw [← hG.N]; exact ho) hm)]
      exact r.w.names o ho

theorem pops_callH (hG : Good P E I) {ops l : List Oper} {o : Oper} {rest : List Oper} {c : Call} {f : Operand} {k d nf : Nat} {caps aps bps : List PV} {Qc : PV → Hp → Prop} {Hs : Hp} (L N nw : List Nat)
    (hl : l = o :: rest) (hop : o.op = .call c) (hcal : c.callee = .value f) (hd : o.dst = some d) (hw : wantedP ops o st = some true) (hnt : Nat.blt d I.nt = true)
    (hf : ev st f = some (.fn (.func k) nf caps)) (hargs : evList st c.args.toList = some aps) (hk : Callable P k) (has : ArgsR st [] (caps.take nf ++ aps ++ caps.drop nf) bps)
    (hpick : pickH st.hp L = some Hs) (hfresh : freshIn st L I.N nw = true) (hcall : PCall P k bps Hs N Qc)
    (hres : ∀ r H', Qc r H' → backIn r H' (N ++ nw) = true ∧ pops P E ops Q rest (({ fr := st.fr, hp := H' ++ restH st.hp L } : St).put d r)) : pops P E ops Q l st := by
  subst hl
  intro a w r
  refine wpList_step fun K hK => call_opH hG L N nw hop hcal hd hw hnt hf hargs hk has hpick hfresh hcall r fun r H' hq => ⟨(hres r H' hq).1, fun a' w' r' => hK _ _ ((hres r H' hq).2 a' w' r')⟩

end

/-- what a function that was handed objects gives: its result, and the objects -/
def RetH (p : PV) (H : Hp) : PV → Hp → Prop := fun r H' => r = p ∧ H' = H
theorem retH_at {I : Inf} {rs : List ResultVar} {x : PV} {H : Hp} {st : St} {e : Exit} (L : List Nat) (he : e = .normal ∨ e = .ret) (h : (resP I rs st, pickH st.hp L) = (some x, some H)) : finQ I rs (RetH x H) e st :=
  ⟨he, x, L, H, congrArg Prod.fst h, congrArg Prod.snd h, rfl, rfl⟩

/-! ### another name for an object -/
def rn1 (o o' k : Nat) : Nat := match Nat.beq k o with | true => o' | false => k
def PV.rn (o o' : Nat) : PV → PV
  | .ptr k off => .ptr (rn1 o o' k) off
  | .own k => .own (rn1 o o' k)
  | .aptr k s i off => .aptr (rn1 o o' k) s i off
  | .map k => .map (rn1 o o' k)
  | .fn f n cs => .fn f n (go cs)
  | .tup l => .tup (go l)
  | .agg l => .agg (go l)
  | p => p
where go : List PV → List PV
  | [] => []
  | x :: l => x.rn o o' :: go l
theorem rn_go {o o' : Nat} {l : List PV} : PV.rn.go o o' l = l.map (PV.rn o o') := by
  induction l with
  | nil => rfl
  | cons x l ih => simp [PV.rn.go, ih]
def PObj.rn (o o' : Nat) : PObj → PObj
  | .box l => .box (PV.rn.go o o' l)
  | x => x
def rnSt (o o' : Nat) (st : St) : St := ⟨st.fr.map fun e => (e.1, e.2.rn o o'), st.hp.map fun e => (rn1 o o' e.1, e.2.rn o o')⟩
def grn (N : List Nat) (o o' : Nat) (st : St) : Option St :=
  match nmem o' N, st.erase o' with
  | true, some st1 => some (rnSt o o' st1)
  | _, _ => none

theorem rn1_upd (g : Nat → Value) (o o' k : Nat) (h : k ≠ o') : upd g o' (g o) (rn1 o o' k) = g k := by
  unfold rn1
  split
  · rename_i hk; rw [upd_same, Nat.eq_of_beq_eq_true hk]
  · exact upd_other g _ h
theorem VR.rn {F : Nat → Prop} {g : Nat → Value} {w : World} {o o' : Nat} {p : PV} {v : Value} (h : VR F g w p v) (hn : ∀ k, k ∈ p.names → k ≠ o') : VR F (upd g o' (g o)) w (p.rn o o') v := by
  induction h with
  | t r => exact .t r
  | ptr e => exact .ptr (by rw [rn1_upd _ _ _ _ (hn _ (by simp [PV.names]))]; exact e)
  | eptr a hF e => exact .eptr a hF e
  | own e => exact .own (by rw [rn1_upd _ _ _ _ (hn _ (by simp [PV.names]))]; exact e)
  | aptr e => exact .aptr (by rw [rn1_upd _ _ _ _ (hn _ (by simp [PV.names]))]; exact e)
  | map e => exact .map (by rw [rn1_upd _ _ _ _ (hn _ (by simp [PV.names]))]; exact e)
  | nil => exact .nil
  | np => exact .np
  | any h => exact .any h
  | lit h => exact .lit h
  | fn hfn hs hr ih =>
    refine .fn hfn (by rw [rn_go]; simpa using hs) fun j x v hx hv => ?_
    rw [rn_go, List.getElem?_map] at hx
    simp only [Option.map_eq_some_iff] at hx
    obtain ⟨y, hy, rfl⟩ := hx
    exact ih j y v hy hv fun k hk => hn k (by simp only [PV.names]; exact PV.names_go_mem hy hk)
  | tup hs hr ih =>
    refine .tup (by rw [rn_go]; simpa using hs) fun j x v hx hv => ?_
    rw [rn_go, List.getElem?_map] at hx
    simp only [Option.map_eq_some_iff] at hx
    obtain ⟨y, hy, rfl⟩ := hx
    exact ih j y v hy hv fun k hk => hn k (by simp only [PV.names]; exact PV.names_go_mem hy hk)
  | agg hs hr ih =>
    refine .agg (by rw [rn_go]; simpa using hs) fun j x v hx hv => ?_
    rw [rn_go, List.getElem?_map] at hx
    simp only [Option.map_eq_some_iff] at hx
    obtain ⟨y, hy, rfl⟩ := hx
    exact ih j y v hy hv fun k hk => hn k (by simp only [PV.names]; exact PV.names_go_mem hy hk)
theorem ObjR.rn {F : Nat → Prop} {g : Nat → Value} {w : World} {o o' k : Nat} {x : PObj} (h : ObjR F g w k x) (hk : k ≠ o') (hn : ∀ k, k ∈ x.names → k ≠ o') : ObjR F (upd g o' (g o)) w (rn1 o o' k) (x.rn o o') := by
  cases x with
  | box l =>
    obtain ⟨b, vs, ty, h1, h2, h3, h4⟩ := h
    refine ⟨b, vs, ty, by rw [rn1_upd _ _ _ _ hk]; exact h1, h2, by rw [rn_go]; simpa using h3, fun j x v hx hv => ?_⟩
    rw [rn_go, List.getElem?_map] at hx
    simp only [Option.map_eq_some_iff] at hx
    obtain ⟨y, hy, rfl⟩ := hx
    exact (h4 j y v hy hv).rn fun k hk => hn k (by simp only [PObj.names]; exact PV.names_go_mem hy hk)
  | arr e s n f =>
    simp only [PObj.rn]
    rcases h with ⟨h1, h2⟩ | ⟨b, cap, cur, h1, h⟩
    · exact .inl ⟨by rw [rn1_upd _ _ _ _ hk]; exact h1, h2⟩
    · exact .inr ⟨b, cap, cur, by rw [rn1_upd _ _ _ _ hk]; exact h1, h⟩
  | mpb n m =>
    obtain ⟨b, es, cl, h1, h⟩ := h
    exact ⟨b, es, cl, by rw [rn1_upd _ _ _ _ hk]; exact h1, h⟩

theorem Le.rn {P : Program} {E : Env} {I : Inf} {st st' : St} (hG : Good P E I) {o o' : Nat} (h : grn I.N o o' st = some st') : Le E st st' := by
  rintro a w ⟨F, g, r⟩
  unfold grn at h
  split at h
  · rename_i st1 hn he
    cases h
    have hfr := St.erase_fr he
    have hhp := St.erase_hp he
    refine ⟨F, upd g o' (g o), r.nt, r.df, fun t x hx => ?_, ⟨⟨fun k x hx => ?_, fun k x b hx hb => ?_, fun k x k' y b hx hy hne hb hb' => ?_⟩, r.w.f0, r.w.f1, r.w.ext, fun k hk => ?_, r.w.b0⟩⟩
    · simp only [rnSt, List.mem_map, Prod.mk.injEq] at hx
      obtain ⟨⟨t', y⟩, hy, rfl, rfl⟩ := hx
      obtain ⟨h1, h2⟩ := hfr _ _ hy
      exact (r.fr _ _ h1).rn h2
    · simp only [rnSt, List.mem_map, Prod.mk.injEq] at hx
      obtain ⟨⟨k', y⟩, hy, rfl, rfl⟩ := hx
      obtain ⟨z, h1, h2, h3, h4⟩ := hhp _ _ hy
      exact (h4 _ _ _ (r.w.hp.obj _ _ h1)).rn h2 h3
    · simp only [rnSt, List.mem_map, Prod.mk.injEq] at hx
      obtain ⟨⟨k', y⟩, hy, rfl, rfl⟩ := hx
      obtain ⟨z, h1, h2, h3, h4⟩ := hhp _ _ hy
      rw [rn1_upd _ _ _ _ h2] at hb
      exact r.w.hp.own _ _ b h1 hb
    · simp only [rnSt, List.mem_map, Prod.mk.injEq] at hx hy
      obtain ⟨⟨k1, y1⟩, hy1, rfl, rfl⟩ := hx
      obtain ⟨⟨k2, y2⟩, hy2, rfl, rfl⟩ := hy
      obtain ⟨z1, h1, h2, h3, h4⟩ := hhp _ _ hy1
      obtain ⟨z2, h1', h2', h3', h4'⟩ := hhp _ _ hy2
      rw [rn1_upd _ _ _ _ h2] at hb
      rw [rn1_upd _ _ _ _ h2'] at hb'
      exact r.w.hp.sep _ _ _ _ b h1 h1' (fun e => hne (by rw [e])) hb hb'
    · rw [upd_other g _ (fun e : k = o' => nmem_ok hn (by rw [← e, ← hG.N]; exact hk))]
      exact r.w.names k hk
  · cases h

end Go.PL
