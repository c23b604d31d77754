/-
  Maps whose keys are arrays of numbers and whose values are truth values. Own work.
-/
import Derived.Test.YtlhmdnniolhnjaaPf
namespace Go.PL
open Go

section
variable {P : Program} {E : Env} {F : Nat → Prop} {g : Nat → Value} {st : St} {a : Act} {w : World}

def MapIs (n : Nat) (m : List (List Int × Bool)) (es : List MapEntry) : Prop := es.length = m.length ∧ (∀ x, x ∈ m → x.1.length = n) ∧ ∀ (j : Nat) e x, es[j]? = some e → m[j]? = some x → e.key = intsV x.1 ∧ e.val = .bool x.2

theorem findAsking_ok {kt : TypeId} {n : Nat} (hn : n ≠ 0) (hE : EqOk P kt n) {ks : List Int} (hk : ks.length = n) : ∀ (m : List (List Int × Bool)) (es : List MapEntry) (i : Nat), MapIs n m es →
    (Instr.findAsking kt (intsV ks) es i).run P w = .ok ((mfind m ks i).map fun x => (x.1, .bool x.2)) w
  | [], es, i, h => by
    have : es = [] := List.eq_nil_of_length_eq_zero (by simpa using h.1)
    subst this
    simp [Instr.findAsking, mfind]
  | x :: m, es, i, h => by
    cases es with
    | nil => have := h.1; simp at this
    | cons e es =>
      obtain ⟨h1, h2⟩ := h.2.2 0 e x (by simp) (by simp)
      have hl := h.2.1 x (by simp)
      have heq : (Op.equal kt (intsV ks) e.key).run P w = .ok (ks == x.1) w := by
        rw [h1]; exact (hE hn).2 ks x.1 w hk hl
      have ih := findAsking_ok hn hE hk m es (i + 1) ⟨by have := h.1; simpa using this, fun y hy => h.2.1 y (List.mem_cons_of_mem _ hy), fun j e' y he hy => h.2.2 (j + 1) e' y (by simpa using he) (by simpa using hy)⟩
      simp only [Instr.findAsking, Sem.run_bind, heq, Result.andThen_ok, mfind]
      cases hb : ks == x.1
      · simp only [Bool.false_eq_true, if_false]; exact ih
      · simp [h2]

theorem mapP_ok {I : Inf} (hI : TIok P I.ti) (r : RelG E F g st a w) {t : Nat} {p q : PV} {n o : Nat} {m : List (List Int × Bool)} {ks : List Int} (h : mapP I st t p q = some (n, m, o, ks)) {u v : Value}
    (hu : VR F g w p u) (hv : VR F g w q v) : ∃ kt et b es clock info, P.underlying t = some (.map kt et) ∧ u = .map (some b) ∧ v = intsV ks ∧ g o = .map (some b) ∧ (o, .mpb n m) ∈ st.hp ∧
      w.heap[b]? = some (.map es clock) ∧ MapIs n m es.toList ∧ ks.length = n ∧ P.info? et = some info ∧ info.zero = some (.bool false) ∧
      (∀ em, (Instr.checkKey em 10000 kt v).run P w = .ok () w) ∧ (Instr.findKey kt v es.toList).run P w = .ok ((mfind m ks 0).map fun x => (x.1, .bool x.2)) w := by
  unfold mapP at h
  split at h
  · rename_i i o' l hi
    split at h
    · rename_i kt et n' m' ks' hui hlk hin
      split at h
      · rename_i ik ie hik hie
        split at h
        · rename_i ma me h1 h2 h3 h4 h5 h6
          cases h
          have h4 := Nat.eq_of_beq_eq_true h4
          have h5 := Nat.eq_of_beq_eq_true h5
          have h6 := Nat.le_of_ble_eq_true h6
          have hm := (hI _ _ hi).und; rw [hui] at hm
          have hk := (hI _ _ hik).und; rw [h1] at hk
          simp only [UR] at hm hk
          have hlm := look_mem hlk
          obtain ⟨b, es, clock, e1, e2, e3, e4, e5⟩ := r.w.hp.obj _ _ hlm
          have hv' := intsOf_val hin (hv.cells_t rfl)
          obtain ⟨info, f1, f4⟩ := (hI _ _ hie).zb h2
          cases hu with
          | map hg =>
            rw [e1] at hg; injection hg with hg; injection hg with hg; subst hg
            have hMap : MapIs n m es.toList := ⟨by simpa using e3, e4, fun j e x he hx => e5 j e x (by simpa using he) hx⟩
            refine ⟨kt, et, b, es, clock, info, hm, rfl, hv', e1, hlm, e2, hMap, h5, f1, f4, fun em => ?_, ?_⟩
            · rw [hv']; exact (hI _ _ hik).keyv ma me h1 (by omega) em ks w (by omega)
            · rw [hv', run_findKey_eq w (by rw [hk])]
              exact findAsking_ok (by omega) (by rw [← h4]; exact (hI _ _ hik).eqv) h5 m _ 0 hMap
        · cases h
      · cases h
    · cases h
  · cases h
end
end Go.PL
