/-
  The value operations, all in one. Own work.
-/
import Derived.Test.YtlhmdnniolhnjaaPx
namespace Go.PL
open Go

section
variable {P : Program} {E : Env} {F : Nat → Prop} {g : Nat → Value} {st : St} {a : Act} {w : World}

theorem optInt_ok (r : RelG E F g st a w) {d n : Int} {x : Option Operand} (h : optInt st d x = some n) :
    (x = none ∧ n = d) ∨ ∃ y k, x = some y ∧ a.eval y = .int k n := by
  cases x with
  | none => simp [optInt] at h; exact .inl ⟨rfl, h.symm⟩
  | some y =>
    simp only [optInt] at h
    split at h
    · rename_i k m hy
      cases h
      exact .inr ⟨y, k, rfl, (ev_ok r hy).inv_int⟩
    · cases h

theorem run_sliceBound {k : IntKind} {n : Int} {y : Nat} {c : BoundsCode} (h : 0 ≤ n ∧ n ≤ (y : Int)) : (Instr.sliceBound (.int k n) y c).run P w = .ok n.toNat w := by
  simp [Instr.sliceBound, asIntOf, h]

theorem run_slice_str (r : RelG E F g st a w) {t : TypeId} (ht : P.underlying t = some .string) (s : ByteArray) {lo hi : Option Operand} {l h : Int}
    (hl : optInt st 0 lo = some l) (hh : optInt st s.size hi = some h) (hc : 0 ≤ l ∧ l ≤ h ∧ h ≤ (s.size : Int)) :
    (Instr.sliceAt t (.string s) (lo.map a.eval) (hi.map a.eval) none).run P w = .ok (.string (s.extract l.toNat h.toNat)) w := by
  obtain ⟨h1, h2, h3⟩ := hc
  have e : (Instr.sliceAt t (.string s) (lo.map a.eval) (hi.map a.eval) none).run P w = (Instr.slice t (.string s) (lo.map a.eval) (hi.map a.eval) none).run P w := by
    simp [Instr.sliceAt, run_underlying ht]
  rw [e]
  have hb : (Instr.sliceBounds false s.size s.size (lo.map a.eval) (hi.map a.eval) none).run P w = .ok (l.toNat, h.toNat, s.size) w := by
    unfold Instr.sliceBounds
    rcases optInt_ok r hl with ⟨rfl, rfl⟩ | ⟨y, k, rfl, hy⟩ <;> rcases optInt_ok r hh with ⟨rfl, rfl⟩ | ⟨y', k', rfl, hy'⟩
    · simp
    · simp [hy', run_sliceBound (P := P) (w := w) (k := k') (n := h) (y := s.size) ⟨by omega, h3⟩]
    · simp [hy, run_sliceBound (P := P) (w := w) (k := k) (n := l) (y := s.size) ⟨h1, by omega⟩]
    · simp [hy, hy', run_sliceBound (P := P) (w := w) (k := k') (n := h) (y := s.size) ⟨by omega, h3⟩, run_sliceBound (P := P) (w := w) (k := k) (n := l) (y := h.toNat) ⟨h1, by omega⟩]
  simp [Instr.slice, run_underlying ht, hb]

theorem isU8_ok {l : List T} (h : isU8 l = true) : ∃ k, l = [.int .u8 k] := by
  unfold isU8 at h
  split at h
  · exact ⟨_, rfl⟩
  · cases h

theorem row_cells (r : RelG E F g st a w) {p : PV} {v : Value} (hv : VR F g w p v) {n : Nat} {f : Nat → List T} (h : rowOf st p = some (n, f)) (h1 : ∀ i, i < n → (f i).length = 1) :
    (v = .slice none 0 0 ∧ n = 0) ∨ ∃ ad c, v = .slice (some ad) n c ∧ ∀ i x, i < n → f i = [x] → ∃ u, w.cell? (ad.add i) = some u ∧ Rd F w x u := by
  cases p with
  | own o =>
    simp only [rowOf] at h
    split at h
    · rename_i e s' n' f' hl
      cases h
      cases hv with
      | own hg =>
        rcases r.w.hp.obj _ _ (look_mem hl) with ⟨e1, e2⟩ | ⟨b, cap, cur, e1, e2, e3, e4, e5, e6, e7⟩
        · rw [hg] at e1; exact .inl ⟨e1, e2⟩
        · rw [hg] at e1; injection e1 with e8 e9 e10
          refine .inr ⟨⟨b, 0, none⟩, cap, by rw [e8, e9, e10], fun i x hi hx => ?_⟩
          have hs : s' = 1 := by rw [← e6 i hi]; exact h1 i hi
          subst hs
          obtain ⟨u, hu, hr⟩ := e7 i 0 x hi (by rw [hx]; rfl)
          refine ⟨u, ?_, hr⟩
          rw [Addr.add_none]
          simp only [World.cell?, e2]
          simpa using hu
    · cases h
  | t x =>
    simp only [rowOf] at h
    cases hv.cells_t rfl with
    | nil h' => rw [h] at h'; simp at h'; exact .inl ⟨rfl, h'.1⟩
    | sl ad cap size vs h' hc hF hs hv' hr' =>
      rw [h] at h'; simp at h'; obtain ⟨rfl, rfl⟩ := h'
      refine .inr ⟨ad, cap, rfl, fun i y hi hy => ?_⟩
      have hs1 : size = 1 := by rw [← hs i hi]; exact h1 i hi
      subst hs1
      have := hv' i 0 hi (by omega)
      refine ⟨vs i 0, by simpa using this, hr' i 0 y hi (by rw [hy]; rfl)⟩
    | int => simp [T.view] at h
    | bool => simp [T.view] at h
    | str => simp [T.view] at h
    | agg => simp [T.view] at h
  | nil => simp [rowOf] at h; cases hv; exact .inl ⟨rfl, h.1.symm⟩
  | _ => simp [rowOf] at h

theorem run_bstr (r : RelG E F g st a w) {p : PV} {v : Value} (hv : VR F g w p v) {n : Nat} {f : Nat → List T} (h : rowOf st p = some (n, f)) (hu : ∀ i, i < n → isU8 (f i) = true) :
    (∃ ad l c, v = .slice ad l c) ∧ (Conv.bytesToString v).run P w = .ok (.string (bstr n f)) w := by
  have hlen : ∀ i, i < n → (f i).length = 1 := fun i hi => by obtain ⟨k, hk⟩ := isU8_ok (hu i hi); rw [hk]; rfl
  rcases row_cells r hv h hlen with ⟨rfl, rfl⟩ | ⟨ad, c, rfl, hc⟩
  · exact ⟨⟨_, _, _, rfl⟩, by simp [Conv.bytesToString, bstr]⟩
  · refine ⟨⟨_, _, _, rfl⟩, ?_⟩
    rw [run_bytesToString (P := P) w ad n c ((List.range n).map fun i => u8Of (f i))]
    · rfl
    · have := run_loadCells_list (P := P) w ad (((List.range n).map fun i => u8Of (f i)).map (Value.int .u8)) (fun j v hv => by
        simp only [List.getElem?_map, Option.map_eq_some_iff] at hv
        obtain ⟨y, ⟨i, hi, rfl⟩, rfl⟩ := hv
        obtain ⟨hi1, hi2⟩ := List.getElem?_eq_some_iff.1 hi
        simp at hi1 hi2
        subst hi2
        obtain ⟨k, hk⟩ := isU8_ok (hu j hi1)
        obtain ⟨u, hu', hr⟩ := hc j _ hi1 hk
        rw [hk]
        simp only [u8Of]
        rw [hr.inv_int] at hu'
        exact hu')
      simpa using this

theorem run_slice_sl (r : RelG E F g st a w) {t e : TypeId} {j : TInf} (ht : P.underlying t = some (.slice e)) (hj : TOk P e j) {x : T} {v : Value} (hv : Rd F w x v) {n : Nat} {f : Nat → List T} (hsz : (f 0).length = j.size) (hx : x.view = some (n, f))
    {lo hi : Option Operand} {l h : Int} (hl : optInt st 0 lo = some l) (hh : optInt st n hi = some h) (hc : 0 ≤ l ∧ l ≤ h ∧ h ≤ (n : Int)) :
    ∃ z, (Instr.sliceAt t v (lo.map a.eval) (hi.map a.eval) none).run P w = .ok z w ∧ Rd F w (.sl (h - l).toNat (fun k => f (l.toNat + k))) z := by
  obtain ⟨h1, h2, h3⟩ := hc
  obtain ⟨ad, cap, rfl⟩ := hv.slice_len hx
  have hcap : n ≤ cap := by
    cases hv with
    | nil h => rw [hx] at h; simp at h; omega
    | sl _ _ _ _ h hc => rw [hx] at h; simp at h; omega
  have e : (Instr.sliceAt t (.slice ad n cap) (lo.map a.eval) (hi.map a.eval) none).run P w = (Instr.slice t (.slice ad n cap) (lo.map a.eval) (hi.map a.eval) none).run P w := by
    simp [Instr.sliceAt, run_underlying ht]
  have hb : (Instr.sliceBounds true n cap (lo.map a.eval) (hi.map a.eval) none).run P w = .ok (l.toNat, h.toNat, cap) w := by
    unfold Instr.sliceBounds
    rcases optInt_ok r hl with ⟨rfl, rfl⟩ | ⟨y, k, rfl, hy⟩ <;> rcases optInt_ok r hh with ⟨rfl, rfl⟩ | ⟨y', k', rfl, hy'⟩
    · simp
    · simp [hy', run_sliceBound (P := P) (w := w) (k := k') (n := h) (y := cap) ⟨by omega, by omega⟩]
    · simp [hy, run_sliceBound (P := P) (w := w) (k := k) (n := l) (y := n) ⟨h1, by omega⟩]
    · simp [hy, hy', run_sliceBound (P := P) (w := w) (k := k') (n := h) (y := cap) ⟨by omega, by omega⟩, run_sliceBound (P := P) (w := w) (k := k) (n := l) (y := h.toNat) ⟨h1, by omega⟩]
  refine ⟨.slice (if cap = l.toNat then ad else ad.map (·.add (l.toNat * j.size))) (h.toNat - l.toNat) (cap - l.toNat), ?_, ?_⟩
  · rw [e]
    simp [Instr.slice, run_underlying ht, hb, run_sizeOf hj]
  · have hn : h.toNat - l.toNat = (h - l).toNat := by omega
    rw [hn]
    cases hv with
    | nil h' =>
      rw [hx] at h'; simp at h'
      have hl0 : l.toNat = 0 := by omega
      have hh0 : (h - l).toNat = 0 := by omega
      rw [hl0, hh0]
      simp
      exact .nil rfl
    | sl ad cap' size vs h' hc hF hs hv' hr' =>
      rw [hx] at h'; simp at h'; obtain ⟨_, rfl⟩ := h'
      by_cases hz : (h - l).toNat = 0
      · rw [hz]
        have H : ∀ a' : Addr, Rd F w (.sl 0 fun k => f (l.toNat + k)) (.slice (some a') 0 (cap - l.toNat)) := fun a' =>
          .sl a' _ 0 (fun _ _ => undef) rfl (by omega) (fun h => by omega) (fun i hi => by omega) (fun i _ hi => by omega) (fun i _ _ hi => by omega)
        split
        · exact H _
        · exact H _
      · have hcl : ¬ cap = l.toNat := by omega
        rw [if_neg hcl]
        simp only [Option.map_some]
        have hsz' : size = j.size := by rw [← hs 0 (by omega), hsz]
        subst hsz'
        have hblk : (ad.add (l.toNat * j.size)).block = ad.block := by unfold Addr.add; split <;> rfl
        refine .sl _ _ j.size (fun i q => vs (l.toNat + i) q) rfl (by omega) (fun _ => by rw [hblk]; exact hF (by omega)) (fun i hi => hs _ (by omega)) (fun i q hi hq => ?_) (fun i q y hi hy => hr' _ _ _ (by omega) hy)
        rw [Addr.add_add, ← Nat.add_assoc, ← Nat.add_mul]
        exact hv' _ _ (by omega) hq

theorem pev_ok {I : Inf} (hI : TIok P I.ti) (r : RelG E F g st a w) (o : Oper) {x : PV} {C : Prop} (h : pev I st o.op = some (x, C)) (hC : C) :
    ∃ v, (execOp a.eval o).run P w = .ok (.value v) w ∧ VR F g w x v := by
  unfold execOp
  cases hop : o.op with
  | move y =>
    simp only [hop, pev] at h
    exact ⟨_, by simp, ev_ok r (tr_some h)⟩
  | assign y =>
    simp only [hop, pev] at h
    exact ⟨_, by simp, ev_ok r (tr_some h)⟩
  | pick c y z =>
    simp only [hop, pev] at h
    split at h
    · rename_i hc
      have := (ev_ok r hc).inv_bool
      exact ⟨_, by simp [this, asBool], ev_ok r (tr_some h)⟩
    · rename_i hc
      have := (ev_ok r hc).inv_bool
      exact ⟨_, by simp [this, asBool], ev_ok r (tr_some h)⟩
    · cases h
  | load t y =>
    simp only [hop, pev] at h
    split at h
    · rename_i i p hi hp
      obtain ⟨z, hz, hr⟩ := loadP_ok r (hI _ _ hi) h hC (ev_ok r hp)
      exact ⟨z, by simp [hz], hr⟩
    · cases h
  | nilCheck y =>
    simp only [hop, pev] at h
    split at h
    · rename_i hp; cases h
      have hv := ev_ok r hp
      obtain ⟨u, hu⟩ : ∃ u, a.eval y = u := ⟨_, rfl⟩
      rw [hu] at hv
      cases hv with | ptr e => exact ⟨_, by simp [hu], .ptr e⟩
    · rename_i hp; cases h
      have hv := ev_ok r hp
      obtain ⟨u, hu⟩ : ∃ u, a.eval y = u := ⟨_, rfl⟩
      rw [hu] at hv
      cases hv with | eptr ad hF e => exact ⟨_, by simp [hu], .eptr ad hF e⟩
    · rename_i hp; cases h
      have hv := ev_ok r hp
      obtain ⟨u, hu⟩ : ∃ u, a.eval y = u := ⟨_, rfl⟩
      rw [hu] at hv
      cases hv with | aptr e => exact ⟨_, by simp [hu], .aptr e⟩
    · cases h
  | binOp op t y z u =>
    simp only [hop, pev] at h
    split at h
    · rename_i i p q hi hp hq
      obtain ⟨v, hv, hr⟩ := binP_ok (P := P) (hI _ _ hi) h hC (ev_ok r hp) (ev_ok r hq) y z
      refine ⟨v, ?_, hr⟩
      simp only [Sem.run_bind, Sem.run_pure] at hv ⊢
      rw [hv]; rfl
    · cases h
  | unOp op t y =>
    simp only [hop, pev] at h
    split at h
    · rename_i p hp
      obtain ⟨v, hv, hr⟩ := unP_ok (P := P) (w := w) h (ev_ok r hp)
      exact ⟨v, by simp [hv], hr⟩
    · cases h
  | convert s d y =>
    simp only [hop, pev] at h
    split at h
    · rename_i i j k n hi hj hp
      split at h
      · rename_i k' hk
        cases h
        have hv := (ev_ok r hp).inv_int
        have hd := (hI _ _ hj).und
        rw [hk] at hd
        have hs : ∃ dd, P.underlying s = some dd := by
          have := (hI _ _ hi).und
          cases hu : i.und <;> rw [hu] at this <;> simp only [UR] at this
          case st fs => obtain ⟨f, h1, _⟩ := this; exact ⟨_, h1⟩
          case other => obtain ⟨f, h1, _⟩ := this; exact ⟨_, h1⟩
          all_goals exact ⟨_, this⟩
        obtain ⟨dd, hs⟩ := hs
        have : (convert s d (.int k n)).run P w = .ok (.int k' (k'.wrap n)) w := by
          unfold convert
          rw [Sem.run_bind, run_underlying hs]
          simp only [Result.andThen_ok]
          rw [Sem.run_bind, run_underlying hd]
          simp [Conv.intToInt]
        exact ⟨_, by simp [hv, this], .t (.int _ _)⟩
      · cases h
    · rename_i i j p hne hi hj hp
      split at h
      · rename_i e n f hui huj hrow
        split at h
        · rename_i k hk
          split at h
          · rename_i huk
            cases h
            have hs := (hI _ _ hi).und; rw [hui] at hs
            have hd := (hI _ _ hj).und; rw [huj] at hd
            have he := (hI _ _ hk).und; rw [huk] at he
            obtain ⟨⟨ad, l, c, hv⟩, hrun⟩ := run_bstr (P := P) r (ev_ok r hp) hrow hC
            refine ⟨_, ?_, .t (.str _)⟩
            rw [hv] at hrun
            simp [hv, run_convert_bytes_string w s d e ad l c hs he hd, hrun]
          · cases h
        · cases h
      · cases h
    · cases h
  | makeFunc fn fs cs =>
    simp only [hop, pev] at h
    split at h
    · rename_i l hl
      cases h
      obtain ⟨h1, h2⟩ := evList_ok r _ _ hl
      refine ⟨.func fn (fs.map a.eval) (cs.map a.eval), by simp [Instr.makeFunc], .fn (by simp) (by simpa using h1.symm) fun j y v hy hv => h2 j y v hy ?_⟩
      rw [List.map_append]
      rw [← Array.getElem?_toList] at hv
      simpa using hv
    · cases h
  | fieldAddr s y f =>
    simp only [hop, pev] at h
    split at h
    · rename_i i p hi hp
      split at h
      · rename_i fs hu
        have hv := ev_ok r hp
        obtain ⟨v0, hv0⟩ : ∃ u, a.eval y = u := ⟨_, rfl⟩
        rw [hv0] at hv
        split at h
        · rename_i off o k hf
          cases h
          cases hv with
          | ptr e => exact ⟨_, by simp [hv0, run_fieldAt hI (hI _ _ hi) hu hf]; rfl, by rw [Addr.add_none]; exact .ptr e⟩
        · rename_i off l hf
          cases h
          cases hv with
          | eptr ad hF e =>
            refine ⟨_, by simp [hv0, run_fieldAt hI (hI _ _ hi) hu hf]; rfl, .eptr _ (fun hl => ?_) fun j x hx => ?_⟩
            · have : (ad.add off).block = ad.block := by unfold Addr.add; split <;> rfl
              rw [this]; exact hF (fun e => hl (by rw [e]; simp))
            · rw [Addr.add_add]; exact e _ _ (by rw [List.getElem?_drop] at hx; exact hx)
        · rename_i off o s i' k hf
          cases h
          cases hv with
          | aptr e => exact ⟨_, by simp [hv0, run_fieldAt hI (hI _ _ hi) hu hf]; rfl, by rw [Addr.add_none, Nat.add_assoc]; exact .aptr e⟩
        · cases h
      · cases h
    · cases h
  | field t y f =>
    simp only [hop, pev] at h
    split at h
    · rename_i i p hi hp
      split at h
      · rename_i fs hu
        split at h
        · rename_i off u hf
          split at h
          · rename_i j hj
            have hv := ev_ok r hp
            obtain ⟨v0, hv0⟩ : ∃ u, a.eval y = u := ⟨_, rfl⟩
            rw [hv0] at hv
            have hd := (hI _ _ hi).und
            rw [hu] at hd
            obtain ⟨fields, h1, h2⟩ := hd
            rw [← h2, List.getElem?_map, Option.map_eq_some_iff] at hf
            obtain ⟨fd, hfd, he⟩ := hf
            cases he
            have hfd' : fields[f]? = some fd := by simpa using hfd
            -- what a part of an aggregate reads
            have key : ∀ (l : List PV) (vs : Array Value), vs.size = l.length → (∀ (j : Nat) x v, l[j]? = some x → vs[j]? = some v → VR F g w x v) → readAt j (l.drop fd.offset) = some x →
                ∃ z, (part fd.type vs fd.offset).run P w = .ok z w ∧ VR F g w x z := by
              intro l vs hs hr hx
              have hj' := hI _ _ hj
              unfold readAt at hx
              split at hx
              · rename_i hagg
                split at hx
                · rename_i hlen
                  have hlen := Nat.eq_of_beq_eq_true hlen
                  cases hx
                  simp only [List.length_take, List.length_drop] at hlen
                  refine ⟨_, by simp [part, run_isAgg hj'.und, hagg, run_sizeOf hj']; rfl, aggOf_ok (by simp [hs]; omega) fun q y v hy hv => ?_⟩
                  rw [List.getElem?_take] at hy
                  split at hy
                  · rw [List.getElem?_drop] at hy
                    refine hr _ y v hy ?_
                    rw [Array.getElem?_extract] at hv
                    split at hv
                    · exact hv
                    · cases hv
                  · cases hy
                · cases hx
              · rename_i hagg
                split at hx
                · rename_i y l' hl
                  cases hx
                  have hlo : l[fd.offset]? = some x := by
                    have := congrArg (·[0]?) hl
                    simpa [List.getElem?_drop] using this
                  have hlt : fd.offset < vs.size := by rw [hs]; exact (List.getElem?_eq_some_iff.1 hlo).1
                  refine ⟨vs[fd.offset], by simp [part, run_isAgg hj'.und, hagg, hlt], hr _ x _ hlo (by simp [hlt])⟩
                · cases hx
            split at h
            · rename_i l
              have hr := hv.cells_t rfl
              cases hr with
              | @agg _ vs hs hr =>
                obtain ⟨z, hz, hr'⟩ := key (l.map PV.t) vs (by simp [hs]) (fun q y v hy hv => by
                  simp only [List.getElem?_map, Option.map_eq_some_iff] at hy
                  obtain ⟨y', hy, rfl⟩ := hy
                  exact .t (hr q y' v hy hv)) (by simpa using tr_some h)
                exact ⟨z, by simp [hv0, Instr.field, run_underlying h1, hfd', asAgg, hz], hr'⟩
              | nil h => simp [T.view] at h
              | sl _ _ _ _ h => simp [T.view] at h
            · cases hv with
              | agg hs hr =>
                obtain ⟨z, hz, hr'⟩ := key _ _ hs hr (tr_some h)
                exact ⟨z, by simp [hv0, Instr.field, run_underlying h1, hfd', asAgg, hz], hr'⟩
            · cases h
          · cases h
        · cases h
      · cases h
    · cases h
  | indexAddr t y ix =>
    simp only [hop, pev] at h
    split at h
    · rename_i i p k n hi hp hn
      split at h
      · rename_i e hu
        split at h
        · rename_i j hj
          have hix := (ev_ok r hn).inv_int
          obtain ⟨z, hz, hr⟩ := indexP_ok r (hI _ _ hi) hu (hI _ _ hj) h hC (ev_ok r hp) k
          exact ⟨z, by simp [hix, hz], hr⟩
        · cases h
      · rename_i m e hu
        split at h
        · rename_i j q off hj
          cases h
          have hix := (ev_ok r hn).inv_int
          have hv := ev_ok r hp
          obtain ⟨u, hu'⟩ : ∃ u, a.eval y = u := ⟨_, rfl⟩
          rw [hu'] at hv
          have hd := (hI _ _ hi).und
          rw [hu] at hd
          cases hv with
          | @ptr _ _ b hg =>
            refine ⟨.pointer (some ⟨b, off + n.toNat * j.size, none⟩), ?_, .ptr hg⟩
            simp [hix, hu', Instr.indexAt, Instr.sureAddr, asIntOf, run_underlying hd, run_sizeOf (hI _ _ hj), hC, Addr.add_none]
        · cases h
      · cases h
    · cases h
  | lookup t y k ok =>
    cases ok with
    | false => simp [hop, pev] at h
    | true =>
      simp only [hop, pev] at h
      split at h
      · rename_i p q hp hq
        split at h
        · rename_i n m o' ks hm
          cases h
          obtain ⟨kt, et, b, es, clock, info, h1, h2, h3, h4, h5, h6, h7, h8, h9, h10, h11, h12⟩ := mapP_ok hI r hm (ev_ok r hp) (ev_ok r hq)
          have hget : (getObj b).run P w = .ok (.map es clock) w := Go.run_getObj_map w b es clock h6
          have hz : (zeroValue et).run P w = .ok (.bool false) w := by simp [zeroValue, typeInfo, h9, h10]
          refine ⟨.tuple #[.bool (mget m ks), .bool (mhas m ks)], ?_, .tup rfl fun j x v hx hv => ?_⟩
          · simp only [h2]
            have hrun : (Instr.lookup t (.map (some b)) (a.eval k) true).run P w = .ok (.tuple #[.bool (mget m ks), .bool (mhas m ks)]) w := by
              unfold Instr.lookup
              simp only [Sem.run_bind, run_underlying h1, Result.andThen_ok, hget, Sem.run_pure, h11, h12]
              unfold mget mhas
              cases hf : mfind m ks 0 with
              | none => simp [hz]
              | some x => simp
            simp [hrun]
          · match j, hx, hv with
            | 0, hx, hv => simp at hx hv; subst hx; subst hv; exact .t (.bool _)
            | 1, hx, hv => simp at hx hv; subst hx; subst hv; exact .t (.bool _)
            | j + 2, hx, hv => simp at hx
        · cases h
      · cases h
  | index t y ix =>
    simp only [hop, pev] at h
    split at h
    · rename_i i s k n hi hp hn
      split at h
      · rename_i hu
        cases h
        have hd := (hI _ _ hi).und
        rw [hu] at hd
        have hix := (ev_ok r hn).inv_int
        have hs := (ev_ok r hp).inv_str
        have hlt : n.toNat < s.size := by omega
        refine ⟨.int .u8 ((s[n.toNat]?.getD 0).toNat : Int), ?_, .t (.int _ _)⟩
        simp [hix, hs, Instr.index, asIntOf, run_underlying hd, hC.1, hlt]
      · cases h
    · cases h
  | extract y i =>
    simp only [hop, pev] at h
    split at h
    · rename_i l hl
      have hv := ev_ok r hl
      obtain ⟨u, hu⟩ : ∃ u, a.eval y = u := ⟨_, rfl⟩
      rw [hu] at hv
      have hx := tr_some h
      cases hv with
      | @tup _ vs hs hr =>
        have hlt : i < vs.size := by rw [hs]; exact (List.getElem?_eq_some_iff.1 hx).1
        exact ⟨vs[i], by simp [hu, Instr.extract, hlt], hr i x _ hx (by simp [hlt])⟩
    · cases h
  | build t parts =>
    simp only [hop, pev] at h
    obtain ⟨z, hz, hr⟩ := buildP_ok hI r (tr_some h)
    exact ⟨z, by simp [hz], hr⟩
  | slice t y lo hi mx =>
    simp only [hop, pev] at h
    split at h
    · rename_i i s hi' hp
      split at h
      · rename_i l hh hu hl hh'
        cases h
        have hd := (hI _ _ hi').und
        rw [hu] at hd
        have hs := (ev_ok r hp).inv_str
        exact ⟨_, by simp [hs, run_slice_str r hd s hl hh' hC], .t (.str _)⟩
      · cases h
    · rename_i i x hi' hp
      split at h
      · rename_i e n f hu hx
        split at h
        · rename_i j l hh hj hl hh'
          split at h
          · rename_i hlen
            cases h
            have hd := (hI _ _ hi').und
            rw [hu] at hd
            obtain ⟨z, hz, hr⟩ := run_slice_sl (P := P) r hd (hI _ _ hj) ((ev_ok r hp).cells_t rfl) (Nat.eq_of_beq_eq_true hlen) hx hl hh' hC
            exact ⟨z, by simp [hz], .t hr⟩
          · cases h
        · cases h
      · cases h
    · cases h
  | call c =>
    simp only [hop, pev, callP] at h
    obtain ⟨cal, args, ats⟩ := c
    simp only at h
    split at h
    · rename_i y t ha ht
      have ha' : args = #[y] := by rw [← Array.toArray_toList (xs := args), ha]
      have ht' : ats = #[t] := by rw [← Array.toArray_toList (xs := ats), ht]
      subst ha'; subst ht'
      split at h
      · rename_i i p hi hp
        obtain ⟨z, hz, hr⟩ := lenP_ok (P := P) r (hI _ _ hi) (tr_some h) (ev_ok r hp) o.type
        exact ⟨z, by simp [resolve, invoke, builtin, hz], hr⟩
      · cases h
    · rename_i y z ha
      have ha' : args = #[y, z] := by rw [← Array.toArray_toList (xs := args), ha]
      subst ha'
      split at h
      · rename_i p q hp hq
        obtain ⟨z', hz, hr⟩ := maxP_ok (P := P) (w := w) (tr_some h) (ev_ok r hp) (ev_ok r hq) ats o.type
        exact ⟨z', by simp [resolve, invoke, builtin, hz], hr⟩
      · cases h
    · rename_i y z ha
      have ha' : args = #[y, z] := by rw [← Array.toArray_toList (xs := args), ha]
      subst ha'
      split at h
      · rename_i p q hp hq
        obtain ⟨z', hz, hr⟩ := minP_ok (P := P) (w := w) (tr_some h) (ev_ok r hp) (ev_ok r hq) ats o.type
        exact ⟨z', by simp [resolve, invoke, builtin, hz], hr⟩
      · cases h
    · cases h
  | _ => simp [hop, pev] at h

end
end Go.PL
