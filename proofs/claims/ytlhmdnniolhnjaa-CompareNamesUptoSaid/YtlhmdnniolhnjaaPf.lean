/-
  Soundness of the value operations: addresses, aggregates, slices of strings; all of them. Own work.
-/
import Derived.Test.YtlhmdnniolhnjaaPe
namespace Go.PL
open Go

section
variable {P : Program} {E : Env} {F : Nat → Prop} {g : Nat → Value} {st : St} {a : Act} {w : World}

theorem run_fieldAt {ti : Nat → Option TInf} (hI : TIok P ti) {s : TypeId} {i : TInf} (hi : TOk P s i) {fs : List (Nat × Nat)} (hu : i.und = .st fs) {f off : Nat} (hf : fieldP ti fs f = some off) (ad : Addr) :
    (Instr.fieldAt s (.pointer (some ad)) f).run P w = .ok (.pointer (some (ad.add off))) w := by
  have hd := hi.und
  rw [hu] at hd
  obtain ⟨fields, h1, h2⟩ := hd
  unfold fieldP at hf
  split at hf
  · rename_i o t hft
    split at hf
    · rename_i j hj
      split at hf
      · cases hf
      · rename_i hz
        cases hf
        have hz := Nat.ne_of_beq_eq_false hz
        rw [← h2, List.getElem?_map, Option.map_eq_some_iff] at hft
        obtain ⟨fd, hfd, he⟩ := hft
        cases he
        have hfd' : fields[f]? = some fd := by simpa using hfd
        have hs := run_sizeOf (w := w) (hI _ _ hj)
        simp [Instr.fieldAt, run_underlying h1, hfd', Instr.sureAddr, fieldPlace, hs, hz]
    · cases hf
  · cases hf

theorem indexP_ok (r : RelG E F g st a w) {t e : TypeId} {i j : TInf} (hi : TOk P t i) (hu : i.und = .sl e) (hj : TOk P e j) {p x : PV} {n : Int} {C : Prop}
    (h : indexP st j.size p n = some (x, C)) (hC : C) {u : Value} (hv : VR F g w p u) (k : IntKind) :
    ∃ z, (Instr.indexAt t u (.int k n)).run P w = .ok z w ∧ VR F g w x z := by
  have hd := hi.und
  rw [hu] at hd
  cases p with
  | t p =>
    simp only [indexP] at h
    split at h
    · rename_i m f hm
      split at h
      · rename_i hl
        have hl := Nat.eq_of_beq_eq_true hl
        cases h
        have hr := hv.cells_t rfl
        have hlt : n.toNat < m := by omega
        obtain ⟨ad, cap, rfl⟩ := hr.slice_len hm
        cases hr with
        | nil h => rw [hm] at h; simp at h; omega
        | sl ad cap size vs h hc hF hs hv' hr' =>
          rw [hm] at h; simp at h; obtain ⟨_, rfl⟩ := h
          refine ⟨.pointer (some (ad.add (n.toNat * j.size))), ?_, .eptr _ (fun _ => ?_) (fun q y hy => ?_)⟩
          · simp [Instr.indexAt, asIntOf, run_underlying hd, hC, run_sizeOf hj]
          · have : (ad.add (n.toNat * j.size)).block = ad.block := by unfold Addr.add; split <;> rfl
            rw [this]; exact hF (by omega)
          · have hsz : size = j.size := by rw [← hs _ hlt, hl]
            subst hsz
            have hq : q < j.size := by rw [← hs _ hlt]; exact (List.getElem?_eq_some_iff.1 hy).1
            refine ⟨vs n.toNat q, ?_, hr' _ _ _ hlt hy⟩
            rw [Addr.add_add]
            exact hv' n.toNat q hlt hq
      · cases h
    · cases h
  | own o =>
    simp only [indexP] at h
    split at h
    · rename_i e' s' m f hl
      split at h
      · rename_i hs
        have hs := Nat.eq_of_beq_eq_true hs
        cases h
        have ho := r.w.hp.obj _ _ (look_mem hl)
        have hlt : n.toNat < m := by omega
        cases hv with
        | @own _ n' cap ad hg =>
          rcases ho with ⟨h1, h2⟩ | ⟨b, cap', cur, h1, h2, h3, h4, h5, h6, h7⟩
          · omega
          · rw [h1] at hg; injection hg with hg hg2 hg3
            subst hg; subst hg2; subst hg3
            refine ⟨.pointer (some ⟨b, n.toNat * j.size + 0, none⟩), ?_, .aptr h1⟩
            simp only [Instr.indexAt, asIntOf, Sem.run_bind, Sem.run_pure, Result.andThen_ok, run_underlying hd]
            rw [if_pos hC]
            simp [run_sizeOf hj, Addr.add_none]
      · cases h
    · cases h
  | _ => simp [indexP] at h

theorem foldl_set (off : Nat) : ∀ (xs : List Value) (k : Nat) (cs : Array Value) (j : Nat),
    ((xs.zipIdx k).foldl (fun cs (c, j) => cs.setIfInBounds (off + j) c) cs).size = cs.size ∧
    ((xs.zipIdx k).foldl (fun cs (c, j) => cs.setIfInBounds (off + j) c) cs)[j]? = if off + k ≤ j ∧ j < off + k + xs.length ∧ j < cs.size then xs[j - (off + k)]? else cs[j]?
  | [], k, cs, j => by simp; omega
  | x :: xs, k, cs, j => by
    obtain ⟨h1, h2⟩ := foldl_set off xs (k + 1) (cs.setIfInBounds (off + k) x) j
    simp only [List.zipIdx_cons, List.foldl_cons]
    refine ⟨by rw [h1]; simp, ?_⟩
    rw [h2]
    simp only [Array.size_setIfInBounds, List.length_cons, Array.getElem?_setIfInBounds]
    by_cases hj : j = off + k
    · subst hj
      simp
      by_cases hlt : off + k < cs.size
      · simp [hlt]
        intro h; omega
      · simp [hlt]
    · by_cases hin : off + (k + 1) ≤ j ∧ j < off + (k + 1) + xs.length ∧ j < cs.size
      · rw [if_pos hin, if_pos (by omega)]
        rw [show j - (off + k) = (j - (off + (k + 1))) + 1 by omega]
        simp
      · rw [if_neg hin, if_neg (by omega), if_neg (by omega)]

theorem fill_ok {places : Nat → Option (Nat × Nat)} : ∀ (ps : List (Nat × PV)) (vs : List (Nat × Value)) (cs : List PV) (cells : Array Value) (out : List PV),
    vs.length = ps.length → (∀ (j : Nat) i x i' v, ps[j]? = some (i, x) → vs[j]? = some (i', v) → i' = i ∧ VR F g w x v) →
    cells.size = cs.length → (∀ (j : Nat) x v, cs[j]? = some x → cells[j]? = some v → VR F g w x v) → fillP places cs ps = some out →
    ∃ oc, Instr.fill places cells vs = some oc ∧ oc.size = out.length ∧ ∀ (j : Nat) x v, out[j]? = some x → oc[j]? = some v → VR F g w x v
  | [], vs, cs, cells, out, hl, _, hs, hc, h => by
    simp [fillP] at h; subst h
    have : vs = [] := List.eq_nil_of_length_eq_zero hl
    subst this
    exact ⟨cells, rfl, hs, hc⟩
  | (i, x) :: ps, [], cs, cells, out, hl, _, _, _, _ => by simp at hl
  | (i, x) :: ps, (i', v) :: vs, cs, cells, out, hl, hp, hs, hc, h => by
    obtain ⟨hi, hx⟩ := hp 0 i x i' v (by simp) (by simp)
    subst hi
    simp only [fillP] at h
    split at h
    · cases h
    · rename_i off size hpl
      split at h
      · rename_i h1 h2 h3
        have h1 := Nat.eq_of_beq_eq_true h1
        have h2 := Nat.le_of_ble_eq_true h2
        obtain ⟨hcs, hcr⟩ := hx.cells
        have hset := foldl_set off v.cells.toList 0 cells
        have key := fill_ok ps vs _ (v.cells.zipIdx.foldl (fun cs (c, j) => cs.setIfInBounds (off + j) c) cells) out (by simpa using hl)
          (fun j i x i' v hj hj' => hp (j + 1) i x i' v (by simpa using hj) (by simpa using hj')) (by
            rw [← Array.foldl_toList]
            simp only [Array.toList_zipIdx]
            rw [(hset 0).1]
            simp only [List.length_append, List.length_take, List.length_drop]
            omega) (fun j y u hy hu => by
            rw [← Array.foldl_toList] at hu
            simp only [Array.toList_zipIdx] at hu
            rw [(hset j).2] at hu
            have hjlen : j < cs.length := by
              have := (List.getElem?_eq_some_iff.1 hy).1
              simp only [List.length_append, List.length_take, List.length_drop] at this
              omega
            simp only [Nat.add_zero, Array.length_toList] at hu
            by_cases hin : off ≤ j ∧ j < off + x.cells.length
            · rw [if_pos (by omega)] at hu
              rw [List.append_assoc, List.getElem?_append_right (by simp; omega)] at hy
              rw [List.getElem?_append_left (by simp; omega)] at hy
              simp only [List.length_take] at hy
              rw [show min off cs.length = off by omega] at hy
              exact hcr _ _ _ hy (by simpa using hu)
            · rw [if_neg (by omega)] at hu
              refine hc j y u ?_ hu
              by_cases hlo : j < off
              · rw [List.append_assoc, List.getElem?_append_left (by simp; omega)] at hy
                rw [List.getElem?_take, if_pos hlo] at hy
                exact hy
              · rw [List.getElem?_append_right (by simp; omega)] at hy
                rw [List.getElem?_drop] at hy
                simp only [List.length_append, List.length_take] at hy
                rw [show off + size + (j - (min off cs.length + x.cells.length)) = j by omega] at hy
                exact hy) h
        obtain ⟨oc, ho1, ho2⟩ := key
        refine ⟨oc, ?_, ho2⟩
        simp only [Instr.fill, hpl]
        rw [if_neg (by simp only [ne_eq, Bool.or_eq_true, decide_eq_true_eq, not_or, Decidable.not_not]; omega)]
        exact ho1
      · cases h

theorem evParts_ok (r : RelG E F g st a w) : ∀ (l : List (Nat × Operand)) (ps : List (Nat × PV)), evParts st l = some ps →
    ps.length = l.length ∧ ∀ (j : Nat) i x i' v, ps[j]? = some (i, x) → (l.map fun (i, x) => (i, a.eval x))[j]? = some (i', v) → i' = i ∧ VR F g w x v
  | [], ps, h => by simp [evParts] at h; subst h; simp
  | (i, x) :: l, ps, h => by
    simp only [evParts] at h
    split at h
    · rename_i p q hp hq
      cases h
      obtain ⟨h1, h2⟩ := evParts_ok r l q hq
      refine ⟨by simp [h1], fun j i' y i'' v hj hj' => ?_⟩
      cases j with
      | zero => simp at hj hj'; obtain ⟨rfl, rfl⟩ := hj; obtain ⟨rfl, rfl⟩ := hj'; exact ⟨rfl, ev_ok r hp⟩
      | succ j => exact h2 j i' y i'' v (by simpa using hj) (by simpa using hj')
    · cases h

theorem evList_ok (r : RelG E F g st a w) : ∀ (l : List Operand) (ps : List PV), evList st l = some ps →
    ps.length = l.length ∧ ∀ (j : Nat) x v, ps[j]? = some x → (l.map a.eval)[j]? = some v → VR F g w x v
  | [], ps, h => by simp [evList] at h; subst h; simp
  | x :: l, ps, h => by
    simp only [evList] at h
    split at h
    · rename_i p q hp hq
      cases h
      obtain ⟨h1, h2⟩ := evList_ok r l q hq
      refine ⟨by simp [h1], fun j y v hj hj' => ?_⟩
      cases j with
      | zero => simp at hj hj'; subst hj; subst hj'; exact ev_ok r hp
      | succ j => exact h2 j y v (by simpa using hj) (by simpa using hj')
    · cases h

theorem placesP_ok {ti : Nat → Option TInf} (hI : TIok P ti) : ∀ (fs : List Field) (pl : List (Nat × Nat)), placesP ti (fs.map fun f => (f.offset, f.type)) = some pl →
    fs.mapM (fun f => (P.info? f.type).map fun i => (f.offset, i.size)) = some pl
  | [], pl, h => by simp [placesP] at h; subst h; rfl
  | f :: fs, pl, h => by
    simp only [List.map_cons, placesP] at h
    split at h
    · rename_i i q hi hq
      cases h
      obtain ⟨info, h1, h2, _⟩ := (hI _ _ hi).info
      simp [List.mapM_cons, h1, h2, placesP_ok hI fs q hq]
    · cases h

theorem zero_ok {t : TypeId} {i : TInf} (hi : TOk P t i) : ∃ info z, P.info? t = some info ∧ info.zero = some z ∧ z.cells.size = i.zero.length ∧
    ∀ (j : Nat) x v, i.zero[j]? = some x → z.cells[j]? = some v → VR F g w x v := by
  obtain ⟨info, h1, _, _, z, h4, h5⟩ := hi.info
  refine ⟨info, z, h1, h4, by simpa using congrArg List.length h5, fun j x v hx hv => ?_⟩
  have := congrArg (·[j]?) h5
  have hv' : z.cells.toList[j]? = some v := by simpa using hv
  simp only [List.getElem?_map, hx, hv', Option.map_some] at this
  exact constPV_ok (by simpa using this) F g w

theorem buildP_ok {I : Inf} (hI : TIok P I.ti) (r : RelG E F g st a w) {t : TypeId} {parts : Array (Nat × Operand)} {x : PV} (h : buildP I st t parts.toList = some x) :
    ∃ z, (Instr.build t (parts.map fun (i, x) => (i, a.eval x))).run P w = .ok z w ∧ VR F g w x z := by
  unfold buildP at h
  split at h
  · rename_i i ps hi hps
    obtain ⟨hl, hp⟩ := evParts_ok r _ _ hps
    obtain ⟨info, z, h1, h2, h3, h4⟩ := zero_ok (F := F) (g := g) (w := w) (hI _ _ hi)
    have hd := (hI _ _ hi).und
    split at h
    · rename_i fs hu
      rw [hu] at hd
      obtain ⟨fields, hf1, hf2⟩ := hd
      split at h
      · rename_i pl hpl
        split at h
        · rename_i c hc
          cases h
          obtain ⟨oc, ho1, ho2, ho3⟩ := fill_ok (F := F) (g := g) (w := w) ps (parts.toList.map fun (i, x) => (i, a.eval x)) i.zero z.cells c (by simp [hl]) hp h3 h4 hc
          refine ⟨.agg oc, run_build w t _ oc ?_, aggOf_ok ho2 ho3⟩
          unfold Program.built
          rw [h1, hf1]
          simp only [h2]
          rw [placesP_ok hI fields.toList pl (by rw [hf2]; exact hpl)]
          simpa using ho1
        · cases h
      · cases h
    · rename_i n e hu
      rw [hu] at hd
      split at h
      · rename_i ie hie
        split at h
        · rename_i c hc
          cases h
          obtain ⟨oc, ho1, ho2, ho3⟩ := fill_ok (F := F) (g := g) (w := w) ps (parts.toList.map fun (i, x) => (i, a.eval x)) i.zero z.cells c (by simp [hl]) hp h3 h4 hc
          obtain ⟨info', h1', h2', _⟩ := (hI _ _ hie).info
          refine ⟨.agg oc, run_build w t _ oc ?_, aggOf_ok ho2 ho3⟩
          unfold Program.built
          simp only [UR] at hd
          rw [h1, hd]
          simp only [h2, h1', h2']
          simpa using ho1
        · cases h
      · cases h
    · cases h
  · cases h

end
end Go.PL
