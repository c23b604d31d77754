/-
  Parts: Plain law: merging in place sorts; the stable sort sorts. Own work. Plain law: the stable sort of the library sorts. Own work. Plain law: consolidated lists. Own work. Plain law: what the program's functions on lists of deltas compute. Own work. Plain law: adding, subtracting, counting, and what stands after a time. Own work. Plain facts: typed maps in the order of their keys. Own work. Plain law: encodings of rows, keys, groups. Own work. Plain law: what joins and asofs make of a group. Own work. Plain law: how the meaning of a group changes; counting, and what is empty. Own work. Plain law: pushing. Own work. Plain law: closing; an operator's acts. Own work. Plain law: the reference's sums are the consolidated lists. Own work. Plain law: the reference's sums. Own work.
-/
import Derived.Test.YtjefblkdnolgaaaGreatDoorMe
import Derived.Lib.Strings
import Derived.Lib.ItoaLen
namespace Go.PL
open Go
set_option linter.unusedVariables false
theorem dec_and (p q : Prop) [Decidable p] [Decidable q] : (if decide p = true then some (decide q) else some false) = some (decide (p ∧ q)) := by
 by_cases hp : p <;> simp [hp]
theorem mem_take_getD {l : List GDelta} {n : Nat} {x : GDelta} (h : x ∈ l.take n) : ∃ k, k < n ∧ k < l.length ∧ x = l.getD k default := by
 obtain ⟨k, hk, rfl⟩ := List.mem_iff_getElem.1 h
 simp only [List.length_take] at hk
 exact ⟨k, by omega, by omega, by rw [getD_lt (by omega)]; simp⟩
theorem mem_drop_getD {l : List GDelta} {n : Nat} {x : GDelta} (h : x ∈ l.drop n) : ∃ k, n ≤ k ∧ k < l.length ∧ x = l.getD k default := by
 obtain ⟨k, hk, rfl⟩ := List.mem_iff_getElem.1 h
 simp only [List.length_drop] at hk
 exact ⟨n + k, by omega, by omega, by rw [getD_lt (by omega)]; simp⟩
theorem Srt.take {l : List GDelta} (h : Srt l) (n : Nat) : Srt (l.take n) := List.Pairwise.sublist (List.take_sublist _ _) h
theorem Srt.drop {l : List GDelta} (h : Srt l) (n : Nat) : Srt (l.drop n) := List.Pairwise.sublist (List.drop_sublist _ _) h
theorem Srt.nil : Srt [] := List.Pairwise.nil
theorem srt_ins {l : List GDelta} {x : GDelta} {n : Nat} (h : Srt l) (h1 : ∀ k, k < n → k < l.length → ltD x (l.getD k default) = false) (h2 : ∀ k, n ≤ k → k < l.length → ltD (l.getD k default) x = false) : Srt (l.take n ++ x :: l.drop n) := by
 rw [show x :: l.drop n = [x] ++ l.drop n from rfl, Srt.app, Srt.app]
 refine ⟨h.take n, ⟨List.pairwise_singleton _ _, h.drop n, fun a ha y hy => ?_⟩, fun a ha y hy => ?_⟩
 ·simp only [List.mem_singleton] at ha
  subst ha
  obtain ⟨k, h3, h4, rfl⟩ := mem_drop_getD hy
  exact h2 k h3 h4
 ·obtain ⟨k, h3, h4, rfl⟩ := mem_take_getD ha
  simp only [List.mem_append, List.mem_singleton] at hy
  rcases hy with rfl | hy
  ·exact h1 k h3 h4
  ·obtain ⟨k', h5, h6, rfl⟩ := mem_drop_getD hy
   exact h.get (by omega) h6
theorem cutOk {A B : List GDelta} (hA : Srt A) (hB : Srt B) {u v : Nat} (hu : u ≤ A.length) (hv : v ≤ B.length)
  (h1 : 0 < u → v < B.length → ltD (B.getD v default) (A.getD (u - 1) default) = false) (h2 : 0 < v → u < A.length → ltD (A.getD u default) (B.getD (v - 1) default) = false)
  {C D : List GDelta} (hC : C.Perm (A.take u ++ B.take v)) (hD : D.Perm (A.drop u ++ B.drop v)) (sC : Srt C) (sD : Srt D) : Srt (C ++ D) ∧ (C ++ D).Perm (A ++ B) := by
 constructor
 ·rw [Srt.app]
  refine ⟨sC, sD, fun x hx y hy => ?_⟩
  have hx := hC.mem_iff.1 hx
  have hy := hD.mem_iff.1 hy
  rw [List.mem_append] at hx hy
  rcases hx with hx | hx
  ·obtain ⟨i, i1, i2, rfl⟩ := mem_take_getD hx
   rcases hy with hy | hy
   ·obtain ⟨j, j1, j2, rfl⟩ := mem_drop_getD hy
    exact hA.get (by omega) j2
   ·obtain ⟨j, j1, j2, rfl⟩ := mem_drop_getD hy
    exact swo_ltD.ntrans _ _ _ (hB.get j1 j2) (swo_ltD.ntrans _ _ _ (h1 (by omega) (by omega)) (hA.get (i := i) (j := u - 1) (by omega) (by omega)))
  ·obtain ⟨i, i1, i2, rfl⟩ := mem_take_getD hx
   rcases hy with hy | hy
   ·obtain ⟨j, j1, j2, rfl⟩ := mem_drop_getD hy
    exact swo_ltD.ntrans _ _ _ (hA.get j1 j2) (swo_ltD.ntrans _ _ _ (h2 (by omega) (by omega)) (hB.get (i := i) (j := v - 1) (by omega) (by omega)))
   ·obtain ⟨j, j1, j2, rfl⟩ := mem_drop_getD hy
    exact hB.get (by omega) j2
 ·refine (hC.append hD).trans ?_
  have e : (A ++ B).Perm (A.take u ++ (A.drop u ++ (B.take v ++ B.drop v))) := by
   rw [List.take_append_drop, ← List.append_assoc, List.take_append_drop]
  refine List.Perm.trans ?_ e.symm
  rw [List.append_assoc]
  refine List.Perm.append_left _ ?_
  rw [← List.append_assoc, ← List.append_assoc]
  exact List.Perm.append_right _ List.perm_append_comm
section
variable (b : Bool) (P A B Q : List GDelta)
theorem G177_cut (hA : Srt A) (hB : Srt B) (ho : okRs (P ++ (A ++ (B ++ Q)))) (hn : (P ++ (A ++ (B ++ Q))).length ≤ 1000000000000000) (i0 j0 : Nat) (mid : Nat) (hmid : mid = (P.length + (P.length + A.length + B.length)) / 2)
  (h1 : P.length ≤ i0) (h2 : i0 ≤ j0) (h3 : j0 ≤ P.length + A.length) (h4 : j0 ≤ mid) (h5 : mid ≤ B.length + i0) :
  Sq b (whileM (fun s => (T177s0_L4 (P.length : Int) ((P.length + A.length : Nat) : Int) ((P.length + A.length + B.length : Nat) : Int) (P ++ (A ++ (B ++ Q))) s).den) ((i0 : Int), (j0 : Int)))
   (sel (fun r : Int => ∃ n : Nat, r = (n : Int) ∧ i0 ≤ n ∧ n ≤ j0 ∧ (∀ c, i0 ≤ c → c < n → ltD (B.getD (mid - 1 - c) default) (A.getD (c - P.length) default) = false) ∧ (∀ c, n ≤ c → c < j0 → ltD (B.getD (mid - 1 - c) default) (A.getD (c - P.length) default) = true)) (fun _ => False)) := by
 simp only [List.length_append] at hn
 have hL : (P ++ (A ++ (B ++ Q))).length = P.length + A.length + B.length + Q.length := by simp; omega
 have e1 : ∀ k, P.length ≤ k → k < P.length + A.length → (P ++ (A ++ (B ++ Q))).getD k default = A.getD (k - P.length) default := by
  intro k k1 k2
  rw [getD_app, if_neg (by omega), getD_app, if_pos (by omega)]
 have e2 : ∀ k, P.length + A.length ≤ k → k < P.length + A.length + B.length → (P ++ (A ++ (B ++ Q))).getD k default = B.getD (k - (P.length + A.length)) default := by
  intro k k1 k2
  rw [getD_app, if_neg (by omega), getD_app, if_neg (by omega), getD_app, if_pos (by omega)]
  congr 1; omega
 refine (bs_sq b _ (fun c => !ltD (B.getD (mid - 1 - c) default) (A.getD (c - P.length) default)) i0 j0 h2 (fun i j q1 q2 q3 => ?_) (fun i q1 q2 => ?_) (fun h k q1 q2 q3 q4 => ?_)).imp ?_
 ·unfold T177s0_L4
  simp only [Tr.den]
  rw [mid_eq (i := P.length) (j := P.length + A.length + B.length) (by omega), ← hmid, mid_eq (i := i) (j := j) (by omega)]
  have w1 : IntKind.i64.wrap (IntKind.i64.wrap (IntKind.i64.wrap ((mid : Int) + ((P.length + A.length : Nat) : Int)) - 1) - (((i + j) / 2 : Nat) : Int)) = ((mid + (P.length + A.length) - 1 - (i + j) / 2 : Nat) : Int) := by
   rw [wrap_add (by omega), wrap_id (n := ((mid + (P.length + A.length) : Nat) : Int) - 1) (by omega) (by omega), wrap_id (by omega) (by omega)]
   omega
  rw [w1]
  simp only [Int.toNat_natCast]
  rw [hL]
  rw [if_pos (by simp; omega), if_pos (by omega), if_pos (by omega), if_pos (by omega), if_pos (by omega)]
  rw [G61_eq _ _ (ho.get _) (ho.get _)]
  simp only [Option.bind_some]
  rw [e1 ((i + j) / 2) (by omega) (by omega), e2 (mid + (P.length + A.length) - 1 - (i + j) / 2) (by omega) (by omega), show mid + (P.length + A.length) - 1 - (i + j) / 2 - (P.length + A.length) = mid - 1 - (i + j) / 2 by omega]
  rw [show decide (cmpD (B.getD (mid - 1 - (i + j) / 2) default) (A.getD ((i + j) / 2 - P.length) default) < 0) = ltD (B.getD (mid - 1 - (i + j) / 2) default) (A.getD ((i + j) / 2 - P.length) default) from rfl]
  cases ltD (B.getD (mid - 1 - (i + j) / 2) default) (A.getD ((i + j) / 2 - P.length) default) with
  | true => simp
  | false => simp; rw [wrap_id] <;> omega
 ·unfold T177s0_L4
  simp only [Tr.den]
  rw [if_neg (by simp)]
 ·simp only [Bool.not_eq_true'] at q4 ⊢
  exact swo_ltD.ntrans _ _ _ (hB.get (i := mid - 1 - h) (j := mid - 1 - k) (by omega) (by omega)) (swo_ltD.ntrans _ _ _ q4 (hA.get (i := k - P.length) (j := h - P.length) (by omega) (by omega)))
 ·intro z hz
  cases z with
  | inr z => exact hz
  | inl z =>
   obtain ⟨n, rfl, q1, q2, q3, q4⟩ := hz
   refine ⟨n, rfl, q1, q2, fun c c1 c2 => by simpa using q3 c c1 c2, fun c c1 c2 => by simpa using q4 c c1 c2⟩
end
theorem symM (b : Bool) (f : R177s0) (P A B Q : List GDelta) (hA0 : A ≠ []) (hB0 : B ≠ []) (hA : Srt A) (hB : Srt B) (ho : okRs (P ++ (A ++ (B ++ Q)))) (hn : (P ++ (A ++ (B ++ Q))).length ≤ 1000000000000000)
  (hrec : ∀ P' A' B' Q', A' ≠ [] → B' ≠ [] → Srt A' → Srt B' → okRs (P' ++ (A' ++ (B' ++ Q'))) → (P' ++ (A' ++ (B' ++ Q'))).length ≤ 1000000000000000 → A'.length + B'.length < A.length + B.length →
   Sq b (f.1 (In177 P' A' B' Q')) (fun d => ∃ C, d = P' ++ (C ++ Q') ∧ C.Perm (A' ++ B') ∧ Srt C)) :
  Sq b (T177s0 f (P.length : Int) ((P.length + A.length : Nat) : Int) ((P.length + A.length + B.length : Nat) : Int) (P ++ (A ++ (B ++ Q)))).den (fun d => ∃ C, d = P ++ (C ++ Q) ∧ C.Perm (A ++ B) ∧ Srt C) := by
 have hA1 : 0 < A.length := List.length_pos_iff.2 hA0
 have hB1 : 0 < B.length := List.length_pos_iff.2 hB0
 have hn' := hn
 simp only [List.length_append] at hn
 have hL : (P ++ (A ++ (B ++ Q))).length = P.length + A.length + B.length + Q.length := by simp; omega
 unfold T177s0
 simp only [Tr.den]
 rw [wrap_sub (n := P.length + A.length) (m := P.length) (by omega) (by omega), wrap_sub (n := P.length + A.length + B.length) (m := P.length + A.length) (by omega) (by omega)]
 by_cases c1 : A.length = 1
 ·obtain ⟨x, rfl⟩ := List.length_eq_one_iff.1 c1
  rw [if_pos (by simp)]
  simp only [List.singleton_append, List.length_singleton] at *
  refine Sq.bind _ (G177_one b P B Q x hB ho hn') (fun z hz => ?_)
  cases z with
  | inr z => exact hz.elim
  | inl z =>
   obtain ⟨n, rfl, h1, h2, h3⟩ := hz
   simp only [sel]
   have hb : B ++ Q = B.take n ++ (B.drop n ++ Q) := by rw [← List.append_assoc, List.take_append_drop]
   rw [hb, moveOn P (B.take n) (B.drop n ++ Q) x _ (by simp; omega) (by rw [← hb]; exact hn')]
   simp only [Option.bind_some, sel]
   refine sq_some.2 ⟨B.take n ++ x :: B.drop n, by simp, ?_, srt_ins hB (fun k k1 k2 => ltD_asymm (h2 k k1)) h3⟩
   rw [List.perm_middle.congr_left, List.take_append_drop]
 ·rw [if_neg (by simp; omega)]
  by_cases c2 : B.length = 1
  ·obtain ⟨y, rfl⟩ := List.length_eq_one_iff.1 c2
   rw [if_pos (beqT (by simp))]
   simp only [List.singleton_append, List.length_singleton] at *
   refine Sq.bind _ (G177_last b P A Q y hA ho hn') (fun z hz => ?_)
   cases z with
   | inr z => exact hz.elim
   | inl z =>
    obtain ⟨n, rfl, h1, h2, h3⟩ := hz
    simp only [sel]
    have hb : P ++ (A ++ y :: Q) = (P ++ A.take n) ++ (A.drop n ++ y :: Q) := by
     rw [List.append_assoc, ← List.append_assoc (A.take n), List.take_append_drop]
    rw [hb, moveBack (P ++ A.take n) (A.drop n) Q y _ _ (by simp; omega) (by simp; omega) (by rw [← hb]; exact hn')]
    simp only [Option.bind_some, sel]
    refine sq_some.2 ⟨A.take n ++ y :: A.drop n, by simp, ?_, srt_ins hA (fun k k1 k2 => h2 k k1) (fun k k1 k2 => ltD_asymm (h3 k k1 k2))⟩
    refine List.perm_middle.trans ?_
    rw [List.take_append_drop]
    exact (List.perm_append_singleton y A).symm
  ·rw [if_neg (by simp; omega)]
   rw [mid_eq (i := P.length) (j := P.length + A.length + B.length) (by omega)]
   generalize hmid : (P.length + (P.length + A.length + B.length)) / 2 = mid
   have key : ∀ (i0 j0 : Nat), P.length ≤ i0 → i0 ≤ j0 → j0 ≤ P.length + A.length → j0 ≤ mid → mid ≤ B.length + i0 → (i0 = P.length ∨ mid = B.length + i0) → (j0 = P.length + A.length ∨ j0 = mid) →
     ∀ K : Int → Option (List GDelta), (∀ u v : Nat, u ≤ A.length → v ≤ B.length → u + v + P.length = mid → (0 < u → v < B.length → ltD (B.getD v default) (A.getD (u - 1) default) = false) → (0 < v → u < A.length → ltD (A.getD u default) (B.getD (v - 1) default) = false) →
      Sq b (K ((P.length + u : Nat) : Int)) (fun d => ∃ C, d = P ++ (C ++ Q) ∧ C.Perm (A ++ B) ∧ Srt C)) →
     Sq b ((whileM (fun s => (T177s0_L4 (P.length : Int) ((P.length + A.length : Nat) : Int) ((P.length + A.length + B.length : Nat) : Int) (P ++ (A ++ (B ++ Q))) s).den) ((i0 : Int), (j0 : Int))).bind (sel K some)) (fun d => ∃ C, d = P ++ (C ++ Q) ∧ C.Perm (A ++ B) ∧ Srt C) := by
    intro i0 j0 h1 h2 h3 h4 h5 h6 h7 K hK
    refine Sq.bind _ (G177_cut b P A B Q hA hB ho hn' i0 j0 mid hmid.symm h1 h2 h3 h4 h5) (fun z hz => ?_)
    cases z with
    | inr z => exact hz.elim
    | inl z =>
     obtain ⟨n, rfl, q1, q2, q3, q4⟩ := hz
     simp only [sel]
     have := hK (n - P.length) (mid - n) (by omega) (by omega) (by omega) (fun u1 u2 => ?_) (fun u1 u2 => ?_)
     ·rwa [show P.length + (n - P.length) = n by omega] at this
     ·have := q3 (n - 1) (by omega) (by omega)
      rwa [show mid - 1 - (n - 1) = mid - n by omega, show n - 1 - P.length = n - P.length - 1 by omega] at this
     ·have := q4 n (by omega) (by omega)
      rw [show mid - 1 - n = mid - n - 1 by omega] at this
      exact ltD_asymm this
   have body : ∀ u v : Nat, u ≤ A.length → v ≤ B.length → u + v + P.length = mid → (0 < u → v < B.length → ltD (B.getD v default) (A.getD (u - 1) default) = false) → (0 < v → u < A.length → ltD (A.getD u default) (B.getD (v - 1) default) = false) →
     Sq b ((if decide (((P.length + u : Nat) : Int) < ((P.length + A.length : Nat) : Int)) = true then some (decide (((P.length + A.length : Nat) : Int) < IntKind.i64.wrap (IntKind.i64.wrap ((mid : Int) + ((P.length + A.length : Nat) : Int)) - ((P.length + u : Nat) : Int)))) else some false).bind fun j27 =>
      (if j27 = true then (G195s0 ((P.length + u : Nat) : Int) ((P.length + A.length : Nat) : Int) (IntKind.i64.wrap (IntKind.i64.wrap ((mid : Int) + ((P.length + A.length : Nat) : Int)) - ((P.length + u : Nat) : Int))) (P ++ (A ++ (B ++ Q)))).bind (fun r => some r) else some (P ++ (A ++ (B ++ Q)))).bind fun j28 =>
      (if decide ((P.length : Int) < ((P.length + u : Nat) : Int)) = true then some (decide (((P.length + u : Nat) : Int) < (mid : Int))) else some false).bind fun j30 =>
      (if j30 = true then (f.1 ((P.length : Int), ((P.length + u : Nat) : Int), (mid : Int), j28)).bind (fun r => some r) else some j28).bind fun j31 =>
      (if decide ((mid : Int) < IntKind.i64.wrap (IntKind.i64.wrap ((mid : Int) + ((P.length + A.length : Nat) : Int)) - ((P.length + u : Nat) : Int))) = true then some (decide (IntKind.i64.wrap (IntKind.i64.wrap ((mid : Int) + ((P.length + A.length : Nat) : Int)) - ((P.length + u : Nat) : Int)) < ((P.length + A.length + B.length : Nat) : Int))) else some false).bind fun j33 =>
      (if j33 = true then (f.1 ((mid : Int), IntKind.i64.wrap (IntKind.i64.wrap ((mid : Int) + ((P.length + A.length : Nat) : Int)) - ((P.length + u : Nat) : Int)), ((P.length + A.length + B.length : Nat) : Int), j31)).bind (fun r => some r) else some j31).bind fun j34 => some j34)
      (fun d => ∃ C, d = P ++ (C ++ Q) ∧ C.Perm (A ++ B) ∧ Srt C) := by
    intro u v hu hv huv f1 f2
    have w2 : IntKind.i64.wrap (IntKind.i64.wrap ((mid : Int) + ((P.length + A.length : Nat) : Int)) - ((P.length + u : Nat) : Int)) = ((P.length + A.length + v : Nat) : Int) := by
     rw [wrap_add (by omega), wrap_sub (by omega) (by omega)]; congr 1; omega
    rw [w2]
    simp only [dec_and, Option.bind_some]
    have eA := List.take_append_drop u A
    have eB := List.take_append_drop v B
    have lA1 : (A.take u).length = u := by simp; omega
    have lB1 : (B.take v).length = v := by simp; omega
    have lA2 : (A.drop u).length = A.length - u := by simp
    have lB2 : (B.drop v).length = B.length - v := by simp
    have hs : P ++ (A ++ (B ++ Q)) = (P ++ A.take u) ++ (A.drop u ++ (B.take v ++ (B.drop v ++ Q))) := by
     conv => lhs; rw [← eA, ← eB]
     simp only [List.append_assoc]
    refine Sq.bind (fun d => d = P ++ (A.take u ++ (B.take v ++ (A.drop u ++ (B.drop v ++ Q))))) ?_ (fun j28 h28 => ?_)
    ·by_cases hc : (((P.length + u : Nat) : Int) < ((P.length + A.length : Nat) : Int)) ∧ (((P.length + A.length : Nat) : Int) < ((P.length + A.length + v : Nat) : Int))
     ·rw [if_pos (by simpa using hc)]
      rw [hs] at hn' ⊢
      have h := G195s0_sp b (P ++ A.take u) (A.drop u) (B.take v) (B.drop v ++ Q) (fun h0 => by have := congrArg List.length h0; simp only [List.length_drop, List.length_nil] at this; omega) (fun h0 => by have := congrArg List.length h0; simp only [List.length_take, List.length_nil] at this; omega)
       ((P.length + u : Nat) : Int) ((P.length + A.length : Nat) : Int) ((P.length + A.length + v : Nat) : Int) (by simp; omega) (by simp; omega) (by simp; omega) hn'
      refine Sq.bind _ h (fun d hd => sq_some.2 ?_)
      rw [hd]; simp only [List.append_assoc]
     ·rw [if_neg (by simpa using hc)]
      refine sq_some.2 ?_
      rw [hs]
      by_cases hu' : u = A.length
      ·have : A.drop u = [] := by subst hu'; simp
       rw [this]; simp
      ·have : v = 0 := by omega
       subst this; simp
    subst h28
    have oD : okRs (P ++ (A.take u ++ (B.take v ++ (A.drop u ++ (B.drop v ++ Q))))) := by
     refine ho.perm ?_
     rw [hs]
     simp only [List.append_assoc]
     exact List.Perm.append_left _ (List.Perm.append_left _ (List.perm_append_comm_assoc _ _ _))
    refine Sq.bind (fun d => ∃ C, d = P ++ (C ++ (A.drop u ++ (B.drop v ++ Q))) ∧ C.Perm (A.take u ++ B.take v) ∧ Srt C) ?_ (fun j31 h31 => ?_)
    ·by_cases hc : ((P.length : Int) < ((P.length + u : Nat) : Int)) ∧ (((P.length + u : Nat) : Int) < (mid : Int))
     ·rw [if_pos (by simpa using hc)]
      have e : ((P.length : Int), ((P.length + u : Nat) : Int), (mid : Int), P ++ (A.take u ++ (B.take v ++ (A.drop u ++ (B.drop v ++ Q))))) = In177 P (A.take u) (B.take v) (A.drop u ++ (B.drop v ++ Q)) := by
       unfold In177; rw [lA1, lB1, ← huv]; simp; omega
      rw [e]
      refine Sq.bind _ (hrec _ _ _ _ (fun h0 => by have := congrArg List.length h0; simp only [List.length_take, List.length_nil] at this; omega) (fun h0 => by have := congrArg List.length h0; simp only [List.length_take, List.length_nil] at this; omega) (hA.take u) (hB.take v) oD (by simp; omega) (by omega)) (fun d hd => sq_some.2 hd)
     ·rw [if_neg (by simpa using hc)]
      refine sq_some.2 ⟨A.take u ++ B.take v, by simp, .refl _, ?_⟩
      by_cases hu' : u = 0
      ·subst hu'; simpa using hB.take v
      ·have : v = 0 := by omega
       subst this; simpa using hA.take u
    obtain ⟨C, rfl, pC, sC⟩ := h31
    have lC : C.length = u + v := by rw [pC.length_eq]; simp; omega
    have fin : ∀ D : List GDelta, D.Perm (A.drop u ++ B.drop v) → Srt D → Srt (C ++ D) ∧ (C ++ D).Perm (A ++ B) := fun D pD sD => cutOk hA hB hu hv f1 f2 pC pD sC sD
    refine Sq.bind (fun d => ∃ C, d = P ++ (C ++ Q) ∧ C.Perm (A ++ B) ∧ Srt C) ?_ (fun j34 h34 => sq_some.2 h34)
    by_cases hc : ((mid : Int) < ((P.length + A.length + v : Nat) : Int)) ∧ (((P.length + A.length + v : Nat) : Int) < ((P.length + A.length + B.length : Nat) : Int))
    ·rw [if_pos (by simpa using hc)]
     have e : ((mid : Int), ((P.length + A.length + v : Nat) : Int), ((P.length + A.length + B.length : Nat) : Int), P ++ (C ++ (A.drop u ++ (B.drop v ++ Q)))) = In177 (P ++ C) (A.drop u) (B.drop v) Q := by
      unfold In177; rw [lA2, lB2, ← huv]; simp; omega
     rw [e]
     refine Sq.bind _ (hrec _ _ _ _ (fun h0 => by have := congrArg List.length h0; simp only [List.length_drop, List.length_nil] at this; omega) (fun h0 => by have := congrArg List.length h0; simp only [List.length_drop, List.length_nil] at this; omega) (hA.drop u) (hB.drop v) ?_ (by simp; omega) (by omega)) (fun d hd => ?_)
     ·refine oD.perm ?_
      rw [List.append_assoc]
      refine List.Perm.append_left _ ?_
      rw [← List.append_assoc]
      exact List.Perm.append_right _ pC.symm
     ·obtain ⟨D, rfl, pD, sD⟩ := hd
      exact sq_some.2 ⟨C ++ D, by simp, (fin D pD sD).2, (fin D pD sD).1⟩
    ·rw [if_neg (by simpa using hc)]
     have := fin (A.drop u ++ B.drop v) (.refl _) (by
      by_cases hu' : u = A.length
      ·have : A.drop u = [] := by subst hu'; simp
       rw [this]; simpa using hB.drop v
      ·have : B.drop v = [] := by rw [show v = B.length by omega]; simp
       rw [this]; simpa using hA.drop u)
     exact sq_some.2 ⟨C ++ (A.drop u ++ B.drop v), by simp, this.2, this.1⟩
   by_cases hm : mid < P.length + A.length
   ·rw [if_pos (by simp; omega)]
    simp only [Option.bind_some]
    rw [wrap_add (n := mid) (m := P.length + A.length) (by omega), wrap_sub (n := mid + (P.length + A.length)) (by omega) (by omega), ← wrap_add (n := mid) (m := P.length + A.length) (by omega)]
    exact key (mid + (P.length + A.length) - (P.length + A.length + B.length)) mid (by omega) (by omega) (by omega) (by omega) (by omega) (by omega) (by omega) _ body
   ·rw [if_neg (by simp; omega)]
    simp only [Option.bind_some]
    exact key P.length (P.length + A.length) (by omega) (by omega) (by omega) (by omega) (by omega) (by omega) (by omega) _ body
end Go.PL
namespace Go.PL
open Go
set_option linter.unusedVariables false
theorem G177_in (P A B Q : List GDelta) (hA0 : A ≠ []) (hB0 : B ≠ []) (hA : Srt A) (hB : Srt B) (ho : okRs (P ++ (A ++ (B ++ Q)))) (hn : (P ++ (A ++ (B ++ Q))).length ≤ 1000000000000000) :
  Sp (G177s0 (P.length : Int) ((P.length + A.length : Nat) : Int) ((P.length + A.length + B.length : Nat) : Int) (P ++ (A ++ (B ++ Q)))) (fun d => ∃ C, d = P ++ (C ++ Q) ∧ C.Perm (A ++ B) ∧ Srt C) := by
 have h := fixF_sq (C := fun (a : Int × Int × Int × List GDelta) (x : Option (List GDelta)) => ConH Proofs.Tryz.prog 272 [.own 30000, .t (.int .i64 (a.1)), .t (.int .i64 (a.2.1)), .t (.int .i64 (a.2.2.1)), .fn (.func 69) 0 []] [(30000, .arr 50 3 (a.2.2.2.length) (eF cGDelta a.2.2.2))] [30000] x (fun (y : List GDelta) => .tup []) (fun (y : List GDelta) => [(30000, .arr 50 3 (y.length) (eF cGDelta y))]))
  (fun a => ⟨callable_of Proofs.Tryz.func272 (by kernel_rfl), fun _ h => nomatch h⟩) (fun rec a => T177s0 rec a.1 a.2.1 a.2.2.1 a.2.2.2) (fun rec a => T177s0_ok rec a.1 a.2.1 a.2.2.1 a.2.2.2)
  I177 (fun a => (a.2.2.1 - a.1).toNat) Q177 (fun b f a ha hrec => ?_) true (In177 P A B Q) ⟨P, A, B, Q, rfl, hA0, hB0, hA, hB, ho, hn⟩
 ·exact h.imp fun d hd => hd P A B Q rfl
 ·obtain ⟨P, A, B, Q, rfl, hA0, hB0, hA, hB, ho, hn⟩ := ha
  refine (symM b f P A B Q hA0 hB0 hA hB ho hn (fun P' A' B' Q' a1 a2 a3 a4 a5 a6 a7 => ?_)).imp fun d hd P' A' B' Q' he => ?_
  ·exact (hrec (In177 P' A' B' Q') ⟨P', A', B', Q', rfl, a1, a2, a3, a4, a5, a6⟩ (by simp only [In177]; omega)).imp fun d hd => hd P' A' B' Q' rfl
  ·obtain ⟨rfl, rfl, rfl, rfl⟩ := In177_inj he
   exact hd
def SrtIn (a b : Nat) (l : List GDelta) : Prop := ∀ i j, a ≤ i → i < j → j < b → ltD (l.getD j default) (l.getD i default) = false
structure PI (a b : Nat) (l d : List GDelta) : Prop where
 len : d.length = l.length
 out : ∀ k, k < a ∨ b ≤ k → d.getD k default = l.getD k default
 perm : d.Perm l
theorem SrtIn.congr {a b : Nat} {l d : List GDelta} (h : SrtIn a b l) (he : ∀ k, a ≤ k → k < b → d.getD k default = l.getD k default) : SrtIn a b d := by
 intro i j h1 h2 h3
 rw [he i h1 (by omega), he j (by omega) h3]
 exact h i j h1 h2 h3
theorem SrtIn.sub {a b a' b' : Nat} {l : List GDelta} (h : SrtIn a b l) (h1 : a ≤ a') (h2 : b' ≤ b) : SrtIn a' b' l := fun i j q1 q2 q3 => h i j (by omega) q2 (by omega)
theorem G177_pos (a m b : Nat) (l : List GDelta) (h1 : a < m) (h2 : m < b) (h3 : b ≤ l.length) (ha : SrtIn a m l) (hb : SrtIn m b l) (ho : okRs l) (hn : l.length ≤ 1000000000000000) :
  Sp (G177s0 (a : Int) (m : Int) (b : Int) l) (fun d => PI a b l d ∧ SrtIn a b d) := by
 have e : l = l.take a ++ ((l.drop a).take (m - a) ++ ((l.drop m).take (b - m) ++ l.drop b)) := by
  have e1 : l.drop m = (l.drop m).take (b - m) ++ l.drop b := by
   conv => lhs; rw [← List.take_append_drop (b - m) (l.drop m)]
   rw [List.drop_drop, show m + (b - m) = b by omega]
  have e2 : l.drop a = (l.drop a).take (m - a) ++ l.drop m := by
   conv => lhs; rw [← List.take_append_drop (m - a) (l.drop a)]
   rw [List.drop_drop, show a + (m - a) = m by omega]
  rw [← e1, ← e2, List.take_append_drop]
 have lP : (l.take a).length = a := by simp; omega
 have lA : ((l.drop a).take (m - a)).length = m - a := by simp; omega
 have lB : ((l.drop m).take (b - m)).length = b - m := by simp; omega
 have gA : ∀ k, k < m - a → ((l.drop a).take (m - a)).getD k default = l.getD (a + k) default := by
  intro k hk
  rw [getD_lt (by omega), getD_lt (by omega)]; simp
 have gB : ∀ k, k < b - m → ((l.drop m).take (b - m)).getD k default = l.getD (m + k) default := by
  intro k hk
  rw [getD_lt (by omega), getD_lt (by omega)]; simp
 have h := G177_in (l.take a) ((l.drop a).take (m - a)) ((l.drop m).take (b - m)) (l.drop b) (fun h0 => by rw [h0] at lA; simp at lA; omega) (fun h0 => by rw [h0] at lB; simp at lB; omega)
  (srt_get fun i j hij hj => by rw [gA i (by omega), gA j (by omega)]; exact ha _ _ (by omega) (by omega) (by omega))
  (srt_get fun i j hij hj => by rw [gB i (by omega), gB j (by omega)]; exact hb _ _ (by omega) (by omega) (by omega)) (by rw [← e]; exact ho) (by rw [← e]; exact hn)
 rw [lP, lA, lB, ← e, show a + (m - a) = m by omega, show m + (b - m) = b by omega] at h
 refine h.imp fun d hd => ?_
 obtain ⟨C, rfl, pC, sC⟩ := hd
 have lC : C.length = b - a := by rw [pC.length_eq, List.length_append, lA, lB]; omega
 have lD : (l.drop b).length = l.length - b := by simp
 refine ⟨⟨by rw [List.length_append, List.length_append, lP, lC, lD]; omega, fun k hk => ?_, ?_⟩, ?_⟩
 ·rcases hk with hk | hk
  ·rw [getD_app, if_pos (by omega), getD_lt (by omega)]
   by_cases hl : k < l.length
   ·rw [getD_lt hl]; simp
   ·omega
  ·rw [getD_app, if_neg (by omega), getD_app, if_neg (by omega), lP, lC]
   by_cases hl : k < l.length
   ·rw [getD_lt (by omega), getD_lt hl]; simp; congr 1; omega
   ·rw [List.getD_eq_getElem?_getD, List.getElem?_eq_none (by omega), List.getD_eq_getElem?_getD, List.getElem?_eq_none (by omega)]
 ·conv => rhs; rw [e]
  refine List.Perm.append_left _ ?_
  rw [← List.append_assoc]
  exact List.Perm.append_right _ pC
 ·intro i j q1 q2 q3
  rw [getD_app, if_neg (by omega), getD_app, if_pos (by omega), getD_app, if_neg (by omega), getD_app, if_pos (by omega)]
  exact sC.get (by omega) (by omega)
theorem ins_pos (a b : Nat) (l : List GDelta) (hab : a ≤ b) (hb : b ≤ l.length) (ho : okRs l) (hn : l.length ≤ 1000000000000000) : Sp (G176s1 (a : Int) (b : Int) l) (fun d => PI a b l d ∧ SrtIn a b d) := by
 refine Sq.of_eq (G176s1_eq a b l hb hab hn ho) ?_
 have h := Sort.insertionSort_holds swo_ltD l.toArray a b hab (by simpa using hb)
 obtain ⟨⟨h1, h2, h3⟩, h4⟩ := h
 have g : ∀ (k : Nat), (Sort.insertionSort ltD l.toArray a b).toList.getD k default = (Sort.insertionSort ltD l.toArray a b)[k]! := fun k => by rw [← getD_arr]
 refine ⟨⟨by simpa using h1, fun k hk => by rw [g, h2 k hk, getD_arr], ?_⟩, fun i j q1 q2 q3 => by rw [g, g]; exact h4 i j q1 q2 q3⟩
 have h5 := Sort.permIn_mono _ _ a b 0 l.length (by omega) (by omega) (by simp) (show Sort.PermIn a b l.toArray (Sort.insertionSort ltD l.toArray a b) from ⟨h1, h2, h3⟩)
 have h6 := h5.2.2
 rw [show l.length = l.toArray.size by simp] at h6
 rw [show (Sort.insertionSort ltD l.toArray a b).extract 0 l.toArray.size = Sort.insertionSort ltD l.toArray a b by rw [← h1]; simp] at h6
 simpa using h6
theorem dvd_step {w a c : Nat} (ha : w ∣ a) (hc : w ∣ c) (h : c < a) : c + w ≤ a := by
 have := Nat.le_of_dvd (by omega) (Nat.dvd_sub ha hc)
 omega
theorem G133s1_sp (l : List GDelta) (ho : okRs l) (hn : l.length ≤ 100000000000000) : Sp (G133s1 (l.length : Int) l) (fun d => d.Perm l ∧ Srt d) := by
 unfold G133s1 T133s1
 simp only [Tr.den, sq_bind]
 refine Sq.while (fun s : List GDelta × Int × Int => ∃ a : Nat, s.2.1 = a ∧ s.2.2 = ((a + 20 : Nat) : Int) ∧ 20 ∣ a ∧ a ≤ l.length ∧ s.1.Perm l ∧ ∀ c, 20 ∣ c → c + 20 ≤ a → SrtIn c (c + 20) s.1) (fun s => (l.length - s.2.1).toNat) (fun s hs => ?_)
  ⟨0, rfl, rfl, by simp, by omega, .refl _, fun c h1 h2 => by omega⟩
 obtain ⟨d, i, j⟩ := s
 obtain ⟨a, h1, h2, h3, h4, h5, h6⟩ := hs
 simp only at h1 h2 h5 h6
 subst h1 h2
 have hlen := h5.length_eq
 unfold T133s1_L0
 simp only [Tr.den]
 by_cases hc : a + 20 ≤ l.length
 ·rw [if_pos (by simp; omega)]
  refine sq_bind.2 ((ins_pos a (a + 20) d (by omega) (by omega) (ho.perm h5.symm) (by omega)).imp fun d' hd' => ?_)
  rw [wrap_id (by omega) (by omega)]
  refine sq_some.2 ⟨⟨a + 20, rfl, by simp, ?_, hc, hd'.1.perm.trans h5, fun c q1 q2 => ?_⟩, by simp only; omega⟩
  ·omega
  ·by_cases hca : c < a
   ·exact (h6 c q1 (dvd_step h3 q1 hca)).congr fun k k1 k2 => hd'.1.out k (.inl (by have := dvd_step h3 q1 hca; omega))
   ·have : c = a := by omega
    subst this; exact hd'.2
 ·rw [if_neg (by simp; omega)]
  refine sq_some.2 ?_
  simp only [sel]
  refine sq_bind.2 ((ins_pos a l.length d h4 (by omega) (ho.perm h5.symm) (by omega)).imp fun d2 hd2 => ?_)
  obtain ⟨p2, s2⟩ := hd2
  have hp2 : d2.Perm l := p2.perm.trans h5
  have b2 : ∀ c, 20 ∣ c → SrtIn c (min (c + 20) l.length) d2 := by
   intro c hc'
   by_cases hca : c < a
   ·have := dvd_step h3 hc' hca
    exact ((h6 c hc' this).congr fun k k1 k2 => p2.out k (.inl (by omega))).sub (by omega) (by omega)
   ·exact s2.sub (by omega) (by omega)
  clear h6 p2 s2
  refine sq_bind.2 ?_
  refine Sq.while (fun s : List GDelta × Int => ∃ w : Nat, s.2 = w ∧ 0 < w ∧ w ≤ 400000000000000 ∧ s.1.Perm l ∧ ∀ c, w ∣ c → SrtIn c (min (c + w) l.length) s.1) (fun s => (l.length - s.2).toNat) (fun s hs => ?_) ⟨20, rfl, by omega, by omega, hp2, b2⟩
  obtain ⟨d, i⟩ := s
  obtain ⟨w, k1, k2, k3, k4, k5⟩ := hs
  simp only at k1 k4 k5
  subst k1
  unfold T133s1_L1
  simp only [Tr.den]
  by_cases hw : w < l.length
  ·rw [if_pos (by simp; omega)]
   have e2w : IntKind.i64.wrap (2 * (w : Int)) = ((2 * w : Nat) : Int) := by rw [wrap_id] <;> omega
   rw [e2w]
   refine sq_bind.2 ?_
   refine Sq.while (fun s : List GDelta × Int × Int => ∃ a : Nat, s.2.1 = a ∧ s.2.2 = ((a + 2 * w : Nat) : Int) ∧ (2 * w) ∣ a ∧ a ≤ l.length ∧ s.1.Perm l ∧ (∀ c, (2 * w) ∣ c → c + 2 * w ≤ a → SrtIn c (c + 2 * w) s.1) ∧ ∀ c, w ∣ c → a ≤ c → SrtIn c (min (c + w) l.length) s.1) (fun s => (l.length - s.2.1).toNat) (fun s hs => ?_)
    ⟨0, rfl, by simp, by simp, by omega, k4, fun c q1 q2 => by omega, fun c q1 q2 => k5 c q1⟩
   obtain ⟨d, i, j⟩ := s
   obtain ⟨a, g1, g2, g3, g4, g5, g6, g7⟩ := hs
   simp only at g1 g2 g5 g6 g7
   subst g1 g2
   have hlen := g5.length_eq
   have gw : w ∣ a := Nat.dvd_trans ⟨2, by omega⟩ g3
   have gw' : w ∣ a + w := Nat.dvd_add gw (Nat.dvd_refl w)
   unfold T133s1_L2
   simp only [Tr.den]
   by_cases hb : a + 2 * w ≤ l.length
   ·rw [if_pos (by simp; omega), wrap_add (by omega), e2w, wrap_add (by omega)]
    refine sq_bind.2 ((G177_pos a (a + w) (a + 2 * w) d (by omega) (by omega) (by omega) ((g7 a gw (by omega)).sub (by omega) (by omega)) ((g7 (a + w) gw' (by omega)).sub (by omega) (by omega)) (ho.perm g5.symm) (by omega)).imp fun d' hd' => ?_)
    refine sq_some.2 ⟨⟨a + 2 * w, rfl, rfl, Nat.dvd_add g3 (Nat.dvd_refl _), hb, hd'.1.perm.trans g5, fun c q1 q2 => ?_, fun c q1 q2 => ?_⟩, by simp only; omega⟩
    ·by_cases hca : c < a
     ·have := dvd_step g3 q1 hca
      exact (g6 c q1 this).congr fun k k1 k2 => hd'.1.out k (.inl (by omega))
     ·have : c = a := by omega
      subst this; exact hd'.2
    ·exact (g7 c q1 (by omega)).congr fun k k1 k2 => hd'.1.out k (.inr (by omega))
   ·rw [if_neg (by simp; omega)]
    refine sq_some.2 ?_
    simp only [sel]
    rw [wrap_add (by omega)]
    refine Sq.bind (fun d' => d'.Perm l ∧ SrtIn a l.length d' ∧ ∀ k, k < a → d'.getD k default = d.getD k default) ?_ (fun d' hd' => ?_)
    ·by_cases hm : a + w < l.length
     ·rw [if_pos (by simp; omega)]
      refine sq_bind.2 ((G177_pos a (a + w) l.length d (by omega) (by omega) (by omega) ((g7 a gw (by omega)).sub (by omega) (by omega)) ((g7 (a + w) gw' (by omega)).sub (by omega) (by omega)) (ho.perm g5.symm) (by omega)).imp fun d' hd' => ?_)
      exact sq_some.2 ⟨hd'.1.perm.trans g5, hd'.2, fun k hk => hd'.1.out k (.inl hk)⟩
     ·rw [if_neg (by simp; omega)]
      exact sq_some.2 ⟨g5, (g7 a gw (by omega)).sub (by omega) (by omega), fun _ _ => rfl⟩
    ·obtain ⟨q1, q2, q3⟩ := hd'
     rw [show IntKind.i64.wrap ((w : Int) * 2) = ((2 * w : Nat) : Int) by rw [wrap_id] <;> omega]
     refine sq_some.2 ⟨⟨2 * w, rfl, by omega, by omega, q1, fun c hc' => ?_⟩, by simp only; omega⟩
     by_cases hca : c < a
     ·have := dvd_step g3 hc' hca
      exact ((g6 c hc' this).congr fun k k1 k2 => q3 k (by omega)).sub (by omega) (by omega)
     ·exact q2.sub (by omega) (by omega)
  ·rw [if_neg (by simp; omega)]
   refine sq_some.2 ?_
   simp only [sel]
   refine sq_some.2 ⟨k4, srt_get fun i j hij hj => ?_⟩
   have := k5 0 (by simp)
   rw [k4.length_eq] at hj
   exact this i j (by omega) hij (by omega)
theorem G63s1_sp (l : List GDelta) (ho : okRs l) (hn : l.length ≤ 100000000000000) : Sp (G63s1 l) (fun d => d.Perm l ∧ Srt d) := by
 unfold G63s1 T63s1
 simp only [Tr.den, sq_bind]
 exact (G133s1_sp l ho hn).imp fun d hd => sq_some.2 hd
end Go.PL
namespace Go.PL
open Go
set_option linter.unusedVariables false
abbrev Pl := Int × List GValue
def wt (p : Pl → Bool) : List GDelta → Int
 | [] => 0
 | x :: l => (if p (pl x) = true then x.N else 0) + wt p l
theorem wt_app (p : Pl → Bool) (l r : List GDelta) : wt p (l ++ r) = wt p l + wt p r := by
 induction l with
 | nil => simp [wt]
 | cons x l ih => simp only [List.cons_append, wt, ih]; omega
theorem wt_perm (p : Pl → Bool) {l r : List GDelta} (h : l.Perm r) : wt p l = wt p r := by
 induction h with
 | nil => rfl
 | cons x _ ih => simp only [wt, ih]
 | swap x y l => simp only [wt]; omega
 | trans _ _ h1 h2 => exact h1.trans h2
abbrev W (n : Int) : Int := IntKind.i64.wrap n
def Same (l r : List GDelta) : Prop := ∀ p, W (wt p l) = W (wt p r)
theorem W_add {a b c d : Int} (h : W a = W c) (h' : W b = W d) : W (a + b) = W (c + d) := by
 have e1 : W (a + b) = W (W a + W b) := by show IntKind.i64.wrap _ = IntKind.i64.wrap _; rw [wrap_addL, wrap_addR]
 have e2 : W (c + d) = W (W c + W d) := by show IntKind.i64.wrap _ = IntKind.i64.wrap _; rw [wrap_addL, wrap_addR]
 rw [e1, e2, h, h']
theorem Same.refl (l : List GDelta) : Same l l := fun _ => rfl
theorem Same.symm {l r : List GDelta} (h : Same l r) : Same r l := fun p => (h p).symm
theorem Same.trans {l r s : List GDelta} (h : Same l r) (h' : Same r s) : Same l s := fun p => (h p).trans (h' p)
theorem Same.app {l r l' r' : List GDelta} (h : Same l r) (h' : Same l' r') : Same (l ++ l') (r ++ r') := fun p => by
 rw [wt_app, wt_app]; exact W_add (h p) (h' p)
theorem Same.of_perm {l r : List GDelta} (h : l.Perm r) : Same l r := fun p => by rw [wt_perm p h]
def in64 (n : Int) : Prop := -9223372036854775808 ≤ n ∧ n ≤ 9223372036854775807
theorem W_id {n : Int} (h : in64 n) : W n = n := wrap_id h.1 h.2
theorem W_in (n : Int) : in64 (W n) := wrap_in n
structure Can (l : List GDelta) : Prop where
 lt : l.Pairwise (fun x y => cmpD x y < 0)
 nz : ∀ x, x ∈ l → x.N ≠ 0
 n64 : ∀ x, x ∈ l → in64 x.N
theorem Can.nil : Can [] := ⟨.nil, by simp, by simp⟩
theorem Can.tail {x : GDelta} {l : List GDelta} (h : Can (x :: l)) : Can l := ⟨(List.pairwise_cons.1 h.lt).2, fun y hy => h.nz y (List.mem_cons_of_mem _ hy), fun y hy => h.n64 y (List.mem_cons_of_mem _ hy)⟩
theorem Can.head {x : GDelta} {l : List GDelta} (h : Can (x :: l)) : ∀ y, y ∈ l → cmpD x y < 0 := (List.pairwise_cons.1 h.lt).1
theorem wt_none {p : Pl → Bool} {l : List GDelta} (h : ∀ y, y ∈ l → p (pl y) = false) : wt p l = 0 := by
 induction l with
 | nil => rfl
 | cons x l ih => simp only [wt, h x (List.mem_cons_self), ih fun y hy => h y (List.mem_cons_of_mem _ hy)]; rfl
theorem cmpD_ne {x y : GDelta} (h : cmpD x y < 0) : pl x ≠ pl y := by
 intro he
 rw [cmpD_eq, he, (TO.place.eq _ _).2 rfl] at h
 omega
theorem cmpD_zero {x y : GDelta} : cmpD x y = 0 ↔ pl x = pl y := TO.place.eq (pl x) (pl y)
theorem cmpD_gt {x y : GDelta} : 0 < cmpD x y ↔ cmpD y x < 0 := (TO.place.sw (pl y) (pl x)).symm
def at1 (q : Pl) : Pl → Bool := fun r => cmpP q r == 0
theorem at1_iff {q r : Pl} : at1 q r = true ↔ q = r := by unfold at1; rw [beq_iff_eq]; exact TO.place.eq _ _
theorem at1_self (q : Pl) : at1 q q = true := at1_iff.2 rfl
theorem at1_ne {q r : Pl} (h : q ≠ r) : at1 q r = false := by
 cases hc : at1 q r with
 | false => rfl
 | true => exact absurd (at1_iff.1 hc) h
theorem Can.wt_mem {l : List GDelta} (h : Can l) {x : GDelta} (hx : x ∈ l) : wt (at1 (pl x)) l = x.N := by
 induction l with
 | nil => simp at hx
 | cons y l ih =>
  simp only [wt]
  rcases List.mem_cons.1 hx with rfl | hx'
  ·rw [if_pos (at1_self _), wt_none fun z hz => at1_ne (cmpD_ne (h.head z hz))]; omega
  ·rw [ih h.tail hx', if_neg (by rw [at1_ne (Ne.symm (cmpD_ne (h.head x hx')))]; simp)]; omega
theorem Can.wt_not {l : List GDelta} {q : Pl} (hx : ∀ y, y ∈ l → pl y ≠ q) : wt (at1 q) l = 0 := wt_none fun y hy => at1_ne (Ne.symm (hx y hy))
theorem pl_ext {x y : GDelta} (h : pl x = pl y) (hn : x.N = y.N) : x = y := by
 cases x; cases y
 simp only [pl, Prod.mk.injEq] at h hn
 obtain ⟨rfl, rfl⟩ := h
 subst hn; rfl
theorem Can.ext : ∀ {l r : List GDelta}, Can l → Can r → Same l r → l = r := by
 have key : ∀ {x : GDelta} {l r : List GDelta}, Can (x :: l) → Same (x :: l) r → (∀ y, y ∈ r → cmpD x y < 0) → False := by
  intro x l r hl hs hy
  have h1 := hs (at1 (pl x))
  rw [hl.wt_mem List.mem_cons_self, Can.wt_not (fun y h => Ne.symm (cmpD_ne (hy y h)))] at h1
  rw [W_id (hl.n64 x List.mem_cons_self)] at h1
  exact hl.nz x List.mem_cons_self h1
 intro l
 induction l with
 | nil =>
  intro r _ hr hs
  cases r with
  | nil => rfl
  | cons y r => exact (key hr hs.symm (by simp)).elim
 | cons x l ih =>
  intro r hl hr hs
  cases r with
  | nil => exact (key hl hs (by simp)).elim
  | cons y r =>
   by_cases h1 : cmpD x y < 0
   ·exact (key hl hs fun z hz => by
     rcases List.mem_cons.1 hz with rfl | hz
     ·exact h1
     ·exact cmpD_tr h1 (hr.head z hz)).elim
   ·by_cases h2 : cmpD y x < 0
    ·exact (key hr hs.symm fun z hz => by
      rcases List.mem_cons.1 hz with rfl | hz
      ·exact h2
      ·exact cmpD_tr h2 (hl.head z hz)).elim
    ·have h3 : cmpD x y = 0 := by
      have := cmpD_gt (x := x) (y := y)
      omega
     have hp := cmpD_zero.1 h3
     have hn : x.N = y.N := by
      have h4 := hs (at1 (pl x))
      rw [hl.wt_mem List.mem_cons_self, hp, hr.wt_mem List.mem_cons_self, W_id (hl.n64 x List.mem_cons_self), W_id (hr.n64 y List.mem_cons_self)] at h4
      exact h4
     have hxy := pl_ext hp hn
     subst hxy
     rw [ih hl.tail hr.tail fun p => ?_]
     have h5 := hs p
     simp only [wt] at h5
     have h6 := W_add (a := -(if p (pl x) = true then x.N else 0)) (c := -(if p (pl x) = true then x.N else 0)) rfl h5
     rwa [Int.neg_add_cancel_left, Int.neg_add_cancel_left] at h6
def insD (d : GDelta) : List GDelta → List GDelta
 | [] => if d.N = 0 then [] else [d]
 | x :: l => if cmpD d x < 0 then (if d.N = 0 then x :: l else d :: x :: l) else if cmpD d x = 0 then (if W (x.N + d.N) = 0 then l else ⟨x.Time, x.Row, W (x.N + d.N)⟩ :: l) else x :: insD d l
def cons (l : List GDelta) : List GDelta := l.foldr insD []
theorem insD_wt (d : GDelta) (p : Pl → Bool) : ∀ l, W (wt p (insD d l)) = W (wt p (d :: l))
 | [] => by
  simp only [insD, wt]
  by_cases h : d.N = 0
  ·rw [if_pos h, h]; simp [wt]
  ·rw [if_neg h]; rfl
 | x :: l => by
  simp only [insD]
  by_cases h1 : cmpD d x < 0
  ·rw [if_pos h1]
   by_cases h : d.N = 0
   ·rw [if_pos h]; simp only [wt, h]; congr 1; split <;> omega
   ·rw [if_neg h]
  ·rw [if_neg h1]
   by_cases h2 : cmpD d x = 0
   ·rw [if_pos h2]
    have hp := cmpD_zero.1 h2
    have e : wt p (d :: x :: l) = (if p (pl x) = true then x.N + d.N else 0) + wt p l := by
     simp only [wt, hp]; split <;> omega
    rw [e]
    by_cases h3 : W (x.N + d.N) = 0
    ·rw [if_pos h3]
     by_cases hpx : p (pl x) = true
     ·rw [if_pos hpx]
      have h0 : W (x.N + d.N) = W 0 := by rw [h3]; rfl
      have := W_add h0 (rfl : W (wt p l) = W (wt p l))
      rw [this]; simp
     ·rw [if_neg hpx]; simp
    ·rw [if_neg h3]
     simp only [wt]
     rw [show pl (⟨x.Time, x.Row, W (x.N + d.N)⟩ : GDelta) = pl x from rfl]
     by_cases hpx : p (pl x) = true
     ·rw [if_pos hpx, if_pos hpx]; exact wrap_addL _ _
     ·rw [if_neg hpx, if_neg hpx]
   ·rw [if_neg h2]
    have ih := insD_wt d p l
    have : W (wt p (x :: insD d l)) = W (wt p (x :: d :: l)) := by
     simp only [wt] at ih ⊢
     exact W_add rfl ih
    rw [this]
    simp only [wt]; congr 1; omega
theorem insD_mem {d : GDelta} : ∀ {l : List GDelta} {y : GDelta}, y ∈ insD d l → pl y = pl d ∨ ∃ z, z ∈ l ∧ pl y = pl z
 | [], y, h => by
  simp only [insD] at h
  split at h
  ·simp at h
  ·simp at h; exact .inl (by rw [h])
 | x :: l, y, h => by
  simp only [insD] at h
  split at h
  ·split at h
   ·exact .inr ⟨y, h, rfl⟩
   ·rcases List.mem_cons.1 h with rfl | h
    ·exact .inl rfl
    ·exact .inr ⟨y, h, rfl⟩
  ·split at h
   ·rename_i h2
    split at h
    ·exact .inr ⟨y, List.mem_cons_of_mem _ h, rfl⟩
    ·rcases List.mem_cons.1 h with rfl | h
     ·exact .inr ⟨x, List.mem_cons_self, rfl⟩
     ·exact .inr ⟨y, List.mem_cons_of_mem _ h, rfl⟩
   ·rcases List.mem_cons.1 h with rfl | h
    ·exact .inr ⟨y, List.mem_cons_self, rfl⟩
    ·rcases insD_mem h with h | ⟨z, hz, he⟩
     ·exact .inl h
     ·exact .inr ⟨z, List.mem_cons_of_mem _ hz, he⟩
theorem cmpD_congr {x y x' y' : GDelta} (h : pl x = pl x') (h' : pl y = pl y') : cmpD x y = cmpD x' y' := by rw [cmpD_eq, cmpD_eq, h, h']
theorem insD_can {d : GDelta} (hd : in64 d.N) : ∀ {l : List GDelta}, Can l → Can (insD d l)
 | [], _ => by
  simp only [insD]
  split
  ·exact .nil
  ·rename_i h
   exact ⟨List.pairwise_singleton _ _, fun x hx => by rw [List.mem_singleton.1 hx]; exact h, fun x hx => by rw [List.mem_singleton.1 hx]; exact hd⟩
 | x :: l, h => by
  simp only [insD]
  split
  ·rename_i h1
   split
   ·exact h
   ·rename_i h2
    refine ⟨List.pairwise_cons.2 ⟨fun y hy => ?_, h.lt⟩, fun y hy => ?_, fun y hy => ?_⟩
    ·rcases List.mem_cons.1 hy with rfl | hy
     ·exact h1
     ·exact cmpD_tr h1 (h.head y hy)
    ·rcases List.mem_cons.1 hy with rfl | hy
     ·exact h2
     ·exact h.nz y hy
    ·rcases List.mem_cons.1 hy with rfl | hy
     ·exact hd
     ·exact h.n64 y hy
  ·rename_i h1
   split
   ·split
    ·exact h.tail
    ·rename_i h3
     refine ⟨List.pairwise_cons.2 ⟨fun y hy => h.head y hy, h.tail.lt⟩, fun y hy => ?_, fun y hy => ?_⟩
     ·rcases List.mem_cons.1 hy with rfl | hy
      ·exact h3
      ·exact h.tail.nz y hy
     ·rcases List.mem_cons.1 hy with rfl | hy
      ·exact W_in _
      ·exact h.tail.n64 y hy
   ·rename_i h2
    have ih := insD_can hd h.tail
    have hxd : cmpD x d < 0 := by have := cmpD_gt (x := d) (y := x); omega
    refine ⟨List.pairwise_cons.2 ⟨fun y hy => ?_, ih.lt⟩, fun y hy => ?_, fun y hy => ?_⟩
    ·rcases insD_mem hy with he | ⟨z, hz, he⟩
     ·rw [cmpD_congr rfl he]; exact hxd
     ·rw [cmpD_congr rfl he]; exact h.head z hz
    ·rcases List.mem_cons.1 hy with rfl | hy
     ·exact h.nz y List.mem_cons_self
     ·exact ih.nz y hy
    ·rcases List.mem_cons.1 hy with rfl | hy
     ·exact h.n64 y List.mem_cons_self
     ·exact ih.n64 y hy
def okN (l : List GDelta) : Prop := ∀ x, x ∈ l → in64 x.N
theorem cons_can {l : List GDelta} (h : okN l) : Can (cons l) := by
 induction l with
 | nil => exact .nil
 | cons x l ih => exact insD_can (h x List.mem_cons_self) (ih fun y hy => h y (List.mem_cons_of_mem _ hy))
theorem cons_same (l : List GDelta) : Same (cons l) l := by
 induction l with
 | nil => exact .refl _
 | cons x l ih =>
  intro p
  rw [show cons (x :: l) = insD x (cons l) from rfl, insD_wt]
  simp only [wt]
  exact W_add rfl (ih p)
theorem cons_eq {l r : List GDelta} (h : Can r) (hl : okN l) (hs : Same r l) : cons l = r := (cons_can hl).ext h ((cons_same l).trans hs.symm)
theorem cons_mem {l : List GDelta} : ∀ {y : GDelta}, y ∈ cons l → ∃ z, z ∈ l ∧ pl y = pl z := by
 induction l with
 | nil => intro y hy; simp [cons] at hy
 | cons x l ih =>
  intro y hy
  rcases insD_mem (show y ∈ insD x (cons l) from hy) with h | ⟨z, hz, h⟩
  ·exact ⟨x, List.mem_cons_self, h⟩
  ·obtain ⟨u, hu, h'⟩ := ih hz
   exact ⟨u, List.mem_cons_of_mem _ hu, h.trans h'⟩
theorem insD_len (d : GDelta) : ∀ l : List GDelta, (insD d l).length ≤ l.length + 1
 | [] => by simp only [insD]; split <;> simp
 | x :: l => by
  have := insD_len d l
  simp only [insD]
  split
  ·split <;> simp
  ·split
   ·split
    ·simp; omega
    ·simp
   ·simp; omega
theorem cons_len (l : List GDelta) : (cons l).length ≤ l.length := by
 induction l with
 | nil => simp [cons]
 | cons x l ih =>
  have := insD_len x (cons l)
  show (insD x (cons l)).length ≤ _
  simp only [List.length_cons]
  omega
theorem cons_id {l : List GDelta} (h : Can l) : cons l = l := cons_eq h h.n64 (.refl _)
theorem Can.filter {l : List GDelta} (h : Can l) (p : GDelta → Bool) : Can (l.filter p) := ⟨h.lt.filter p, fun x hx => h.nz x (List.mem_filter.1 hx).1, fun x hx => h.n64 x (List.mem_filter.1 hx).1⟩
theorem wt_filter (p q : Pl → Bool) (l : List GDelta) : wt p (l.filter fun d => q (pl d)) = wt (fun r => p r && q r) l := by
 induction l with
 | nil => rfl
 | cons x l ih =>
  simp only [List.filter_cons, wt]
  by_cases hq : q (pl x) = true
  ·rw [if_pos hq]; simp only [wt, ih, hq, Bool.and_true]
  ·rw [if_neg hq]
   have hq' : q (pl x) = false := by simpa using hq
   simp [ih, hq']
theorem Same.filter {l r : List GDelta} (h : Same l r) (q : Pl → Bool) : Same (l.filter fun d => q (pl d)) (r.filter fun d => q (pl d)) := fun p => by rw [wt_filter, wt_filter]; exact h _
end Go.PL
namespace Go.PL
open Go
set_option linter.unusedVariables false
theorem G42s0_eq (l : List GDelta) (h : l.length ≤ 1000000000000) : G42s0 l = some l := by
 unfold G42s0
 refine Det.eq ?_
 unfold T42s0
 simp only [Tr.wpT]
 refine ⟨fun h0 => ?_, ?_⟩
 ·rw [if_pos trivial]; exact (List.eq_nil_of_length_eq_zero h0).symm
 ·rw [if_neg (by simp)]
  refine ⟨by simp only [List.length_nil]; omega, rfl⟩
theorem G64s0_eq (l : List GValue) (h : l.length ≤ 1000000000000) : G64s0 l = some l := by
 unfold G64s0
 refine Det.eq ?_
 unfold T64s0
 simp only [Tr.wpT]
 refine ⟨fun h0 => ?_, ?_⟩
 ·rw [if_pos trivial]; exact (List.eq_nil_of_length_eq_zero h0).symm
 ·rw [if_neg (by simp)]
  refine ⟨by simp only [List.length_nil]; omega, rfl⟩
theorem G36_eq (l : List Int) (h : l.length ≤ 1000000000000) : G36 l = some l := by
 unfold G36
 refine Det.eq ?_
 unfold T36
 simp only [Tr.wpT]
 refine ⟨fun h0 => ?_, ?_⟩
 ·rw [if_pos trivial]; exact (List.eq_nil_of_length_eq_zero h0).symm
 ·rw [if_neg (by simp)]
  refine ⟨by simp only [List.length_nil]; omega, rfl⟩
def all1 : Pl → Bool := fun _ => true
theorem wt_same {l : List GDelta} {q : Pl} (h : ∀ x, x ∈ l → pl x = q) (p : Pl → Bool) : wt p l = if p q = true then wt all1 l else 0 := by
 induction l with
 | nil => simp [wt]
 | cons x l ih =>
  simp only [wt, h x List.mem_cons_self, ih fun y hy => h y (List.mem_cons_of_mem _ hy), all1]
  by_cases hp : p q = true <;> simp [hp]
theorem inner27 (v3 v4 : List GDelta) (h0 : 0 < v3.length) (ho : okRs v3) (hN : okN v3) (hn : v3.length ≤ 1000000000000) :
  Sp (whileM (fun s => (T27_L1 v3 s).den) ((v3.getD 0 default).N, v4, 1))
   (sel (fun r : Int × List GDelta × Int => ∃ k : Nat, r = (W (wt all1 (v3.take k)), v4, (k : Int)) ∧ 1 ≤ k ∧ k ≤ v3.length ∧ (∀ x, x ∈ v3.take k → pl x = pl (v3.getD 0 default)) ∧ (k < v3.length → pl (v3.getD k default) ≠ pl (v3.getD 0 default))) (fun _ => False)) := by
 refine Sq.while (fun s : Int × List GDelta × Int => ∃ k : Nat, s = (W (wt all1 (v3.take k)), v4, (k : Int)) ∧ 1 ≤ k ∧ k ≤ v3.length ∧ (∀ x, x ∈ v3.take k → pl x = pl (v3.getD 0 default))) (fun s => (v3.length - s.2.2).toNat) (fun s hs => ?_) ⟨1, ?_, by omega, by omega, ?_⟩
 ·obtain ⟨k, rfl, h1, h2, h3⟩ := hs
  unfold T27_L1
  simp only [Tr.den, Int.toNat_natCast, Int.toNat_zero]
  by_cases hk : k < v3.length
  ·rw [if_pos (decT (by omega)), if_pos (by omega)]
   rw [G61_eq (⟨(v3.getD 0 default).Time, (v3.getD 0 default).Row, W (wt all1 (v3.take k))⟩ : GDelta) _ (show okR _ from ho.get 0) (ho.get k)]
   simp only [Option.bind_some]
   have e : cmpD (⟨(v3.getD 0 default).Time, (v3.getD 0 default).Row, W (wt all1 (v3.take k))⟩ : GDelta) (v3.getD k default) = cmpD (v3.getD 0 default) (v3.getD k default) := rfl
   rw [e]
   by_cases hc : cmpD (v3.getD 0 default) (v3.getD k default) = 0
   ·rw [if_pos (beqT hc), if_pos (by omega)]
    have hp := cmpD_zero.1 hc
    have e2 : W (W (wt all1 (v3.take k)) + (v3.getD k default).N) = W (wt all1 (v3.take (k + 1))) := by
     rw [take_succ_getD hk, wt_app]
     simp only [wt, all1]
     refine (wrap_addL _ _).trans ?_
     simp
    rw [show IntKind.i64.wrap (W (wt all1 (v3.take k)) + (v3.getD k default).N) = _ from e2, wrap_inc (by omega)]
    refine sq_some.2 ⟨⟨k + 1, rfl, by omega, by omega, fun x hx => ?_⟩, by simp only; omega⟩
    rw [take_succ_getD hk, List.mem_append, List.mem_singleton] at hx
    rcases hx with hx | rfl
    ·exact h3 x hx
    ·exact hp.symm
   ·rw [if_neg (beqF hc)]
    refine sq_some.2 ⟨k, rfl, h1, h2, h3, fun _ he => hc (cmpD_zero.2 he.symm)⟩
  ·rw [if_neg (decF (by omega))]
   simp only [Option.bind_some, Bool.false_eq_true, if_false]
   exact sq_some.2 ⟨k, rfl, h1, h2, h3, fun h => absurd h hk⟩
 ·rw [take_succ_getD h0]
  simp only [List.take_zero, List.nil_append, wt, all1, if_true, Int.add_zero]
  rw [W_id (hN _ (getD_mem h0))]; rfl
 ·intro x hx
  rw [take_succ_getD h0] at hx
  simp only [List.take_zero, List.nil_append, List.mem_singleton] at hx
  rw [hx]
theorem ltD_false {x y : GDelta} (h : ltD x y = false) : ¬ cmpD x y < 0 := of_decide_eq_false h
theorem loop27 (l d : List GDelta) (hd : d.Perm l) (hs : Srt d) (ho : okRs l) (hN : okN l) (hn : l.length ≤ 1000000000000) :
  Sp (whileM (fun s => (T27_L0 s).den) (d, ([] : List GDelta))) (sel (fun r => r = cons l) (fun _ => False)) := by
 refine Sq.while (fun s : List GDelta × List GDelta => Srt s.1 ∧ okRs s.1 ∧ okN s.1 ∧ Can s.2 ∧ (∀ x, x ∈ s.2 → ∀ y, y ∈ s.1 → cmpD x y < 0) ∧ Same (s.2 ++ s.1) l ∧ s.2.length + s.1.length ≤ l.length) (fun s => s.1.length) (fun s hs => ?_)
  ⟨hs, ho.perm hd.symm, fun x hx => hN x (hd.mem_iff.1 hx), .nil, by simp, .of_perm hd, by simp [hd.length_eq]⟩
 obtain ⟨v3, v4⟩ := s
 obtain ⟨h1, h2, h3, h4, h5, h6, h7⟩ := hs
 simp only at h1 h2 h3 h4 h5 h6 h7
 unfold T27_L0
 simp only [Tr.den, Int.toNat_zero]
 by_cases h0 : 0 < v3.length
 ·rw [if_pos (decT (by omega)), if_pos (by omega)]
  refine Sq.bind _ (inner27 v3 v4 h0 h2 h3 (by omega)) (fun z hz => ?_)
  cases z with
  | inr z => exact hz.elim
  | inl z =>
   obtain ⟨k, rfl, k1, k2, k3, k4⟩ := hz
   simp only [sel]
   have hsp : v3 = v3.take k ++ v3.drop k := (List.take_append_drop k v3).symm
   have hd0 : v3.getD 0 default ∈ v3 := getD_mem h0
   have hgt : ∀ y, y ∈ v3.drop k → cmpD (v3.getD 0 default) y < 0 := by
    intro y hy
    obtain ⟨j, j1, j2, rfl⟩ := mem_drop_getD hy
    have hk : k < v3.length := by omega
    have a1 := ltD_false (h1.get (i := 0) (j := k) (by omega) hk)
    have a2 : cmpD (v3.getD 0 default) (v3.getD k default) < 0 := by
     have b1 : cmpD (v3.getD 0 default) (v3.getD k default) ≠ 0 := fun he => k4 hk (cmpD_zero.1 he).symm
     have b2 := cmpD_gt (x := v3.getD 0 default) (y := v3.getD k default)
     omega
    have a3 := ltD_false (h1.get (i := k) (j := j) j1 j2)
    by_cases hc : cmpD (v3.getD 0 default) (v3.getD j default) < 0
    ·exact hc
    ·have := swo_ltD.ntrans (v3.getD 0 default) (v3.getD j default) (v3.getD k default) (decide_eq_false hc) (decide_eq_false a3)
     exact absurd a2 (ltD_false this)
   have hw : ∀ p, W (wt p (v4 ++ v3)) = W (wt p v4 + (if p (pl (v3.getD 0 default)) = true then W (wt all1 (v3.take k)) else 0) + wt p (v3.drop k)) := by
    intro p
    conv => lhs; rw [hsp]
    rw [wt_app, wt_app, wt_same k3 p, ← Int.add_assoc]
    refine W_add ?_ rfl
    refine W_add rfl ?_
    split
    ·exact (wrap_wrap _).symm
    ·rfl
   have hbind : ∀ v5 : List GDelta, Can v5 → (∀ x, x ∈ v5 → ∀ y, y ∈ v3.drop k → cmpD x y < 0) → (∀ p, W (wt p v5) = W (wt p v4 + (if p (pl (v3.getD 0 default)) = true then W (wt all1 (v3.take k)) else 0))) → v5.length ≤ v4.length + 1 →
     Sp (if 0 ≤ (k : Int) ∧ (k : Int) ≤ (v3.length : Int) ∧ (v3.length : Int) ≤ (v3.length : Int) then some (Sum.inl ((v3.drop (k : Int).toNat).take ((v3.length : Int) - (k : Int)).toNat, v5)) else none)
      (sel (fun s' : List GDelta × List GDelta => (Srt s'.1 ∧ okRs s'.1 ∧ okN s'.1 ∧ Can s'.2 ∧ (∀ x, x ∈ s'.2 → ∀ y, y ∈ s'.1 → cmpD x y < 0) ∧ Same (s'.2 ++ s'.1) l ∧ s'.2.length + s'.1.length ≤ l.length) ∧ s'.1.length < v3.length) (sel (fun r => r = cons l) (fun _ : List GDelta => False))) := by
    intro v5 c1 c2 c3 c4
    rw [if_pos (by omega)]
    have e : (v3.drop (k : Int).toNat).take ((v3.length : Int) - (k : Int)).toNat = v3.drop k := by
     rw [Int.toNat_natCast]; exact List.take_of_length_le (by simp only [List.length_drop]; omega)
    rw [e]
    refine sq_some.2 ⟨⟨h1.drop k, fun x hx => h2 x (List.mem_of_mem_drop hx), fun x hx => h3 x (List.mem_of_mem_drop hx), c1, c2, fun p => ?_, by simp; omega⟩, by simp; omega⟩
    rw [← h6 p, hw p, wt_app]
    exact W_add (c3 p) rfl
   by_cases hz : W (wt all1 (v3.take k)) = 0
   ·rw [if_neg (bneF hz)]
    simp only [Option.bind_some]
    refine hbind v4 h4 (fun x hx y hy => h5 x hx y (List.mem_of_mem_drop hy)) (fun p => ?_) (by omega)
    rw [hz]; simp
   ·rw [if_pos (bneT hz)]
    rw [G64s0_eq _ (by have := h2 _ hd0; unfold okR at this; omega)]
    simp only [Option.bind_some, List.length_singleton]
    rw [if_pos (by omega)]
    simp only [Option.bind_some]
    refine hbind (v4 ++ [⟨(v3.getD 0 default).Time, (v3.getD 0 default).Row, W (wt all1 (v3.take k))⟩]) ⟨?_, ?_, ?_⟩ ?_ (fun p => ?_) (by simp)
    ·refine List.pairwise_append.2 ⟨h4.lt, List.pairwise_singleton _ _, fun x hx y hy => ?_⟩
     rw [List.mem_singleton.1 hy]
     exact h5 x hx (v3.getD 0 default) hd0
    ·intro x hx
     rcases List.mem_append.1 hx with hx | hx
     ·exact h4.nz x hx
     ·rw [List.mem_singleton.1 hx]; exact hz
    ·intro x hx
     rcases List.mem_append.1 hx with hx | hx
     ·exact h4.n64 x hx
     ·rw [List.mem_singleton.1 hx]; exact W_in _
    ·intro x hx y hy
     rcases List.mem_append.1 hx with hx | hx
     ·exact h5 x hx y (List.mem_of_mem_drop hy)
     ·rw [List.mem_singleton.1 hx]; exact hgt y hy
    ·rw [wt_app]
     simp only [wt, Int.add_zero]
     rfl
 ·rw [if_neg (decF (by omega))]
  refine sq_some.2 ?_
  have : v3 = [] := List.eq_nil_of_length_eq_zero (by omega)
  subst this
  rw [List.append_nil] at h6
  exact (cons_eq h4 hN h6).symm
theorem G27_eq (l : List GDelta) (ho : okRs l) (hN : okN l) (hn : l.length ≤ 1000000000000) : G27 l = some (cons l) := by
 refine Sp.eq ?_
 unfold G27 T27
 simp only [Tr.den]
 rw [G42s0_eq l hn]
 simp only [Option.bind_some]
 refine Sq.bind _ (G63s1_sp l ho (by omega)) (fun d hd => ?_)
 refine Sq.bind _ (loop27 l d hd.1 hd.2 ho hN hn) (fun z hz => ?_)
 cases z with
 | inr z => exact hz.elim
 | inl z => exact sq_some.2 hz
theorem T27s0_L0_eq : T27s0_L0 = T27_L0 := rfl
theorem G27s0_eq' (l : List GDelta) : G27s0 l = G27 l := by
 unfold G27s0 G27 T27s0 T27
 simp only [Tr.den, T27s0_L0_eq]
theorem G27s0_eq (l : List GDelta) (ho : okRs l) (hN : okN l) (hn : l.length ≤ 1000000000000) : G27s0 l = some (cons l) := (G27s0_eq' l).trans (G27_eq l ho hN hn)
end Go.PL
namespace Go.PL
open Go
set_option linter.unusedVariables false
theorem G104s0_eq (n : Nat) (h : n ≤ 1000000000000) : G104s0 (n : Int) = some [] := by
 unfold G104s0 T104s0
 simp only [Tr.den]
 rw [if_neg (decF (by omega)), show IntKind.i64.wrap ((n : Int) - 0) = (n : Int) by rw [wrap_id] <;> omega]
 by_cases h0 : (n : Int) > 0
 ·rw [if_pos (decT h0), if_pos (by simp; omega), if_pos (by simp)]
  rfl
 ·rw [if_neg (decF h0)]; rfl
theorem G209s0_eq (n : Nat) (h : n ≤ 1000000000000) : G209s0 (n : Int) = some [] := by
 unfold G209s0 T209s0
 simp only [Tr.den]
 rw [if_neg (decF (by omega)), show IntKind.i64.wrap ((n : Int) - 0) = (n : Int) by rw [wrap_id] <;> omega]
 by_cases h0 : (n : Int) > 0
 ·rw [if_pos (decT h0), if_pos (by simp; omega), if_pos (by simp)]
  rfl
 ·rw [if_neg (decF h0)]; rfl
theorem flat_take {α : Type} [Inhabited α] (ls : List (List α)) (i : Nat) (hi : i < ls.length) : (ls.take (i + 1)).flatten = (ls.take i).flatten ++ ls.getD i default := by
 rw [take_succ_getD hi]; simp
theorem flat_le {α : Type} [Inhabited α] (ls : List (List α)) (i : Nat) : (ls.take i).flatten.length ≤ ls.flatten.length := by
 have : ls.flatten = (ls.take i).flatten ++ (ls.drop i).flatten := by rw [← List.flatten_append, List.take_append_drop]
 rw [this, List.length_append]; omega
theorem G39_eq (ls : List (List GDelta)) (h : ls.flatten.length ≤ 1000000000000) (hl : ls.length ≤ 1000000000000) : G39 ls = some ls.flatten := by
 unfold G39 T39
 simp only [Tr.den]
 have h1 := while_trace (bd := fun s => (T39_L0 ls s).den) (fun i => (((ls.take i).flatten.length : Int), (i : Int))) ls.length (r := .inl (ls.flatten.length : Int)) (fun i hi => ?_) ?_
 ·refine (congrArg (fun x => Option.bind x _) h1).trans ?_
  simp only [Option.bind_some, sel]
  rw [G104s0_eq _ h]
  simp only [Option.bind_some]
  have h2 := while_trace (bd := fun s => (T39_L1 ls s).den) (fun i => ((ls.take i).flatten, (i : Int))) ls.length (r := .inl ls.flatten) (fun i hi => ?_) ?_
  ·refine (congrArg (fun x => Option.bind x _) h2).trans ?_
   rfl
  ·unfold T39_L1
   simp only [Tr.den, Int.toNat_natCast]
   have := flat_le ls (i + 1)
   rw [flat_take ls i hi, List.length_append] at this
   rw [if_pos (decT (by omega)), if_pos (by omega), if_pos (by omega), wrap_inc (by omega), flat_take ls i hi]
  ·unfold T39_L1
   simp only [Tr.den]
   rw [if_neg (decF (by omega)), List.take_length]
 ·unfold T39_L0
  simp only [Tr.den, Int.toNat_natCast]
  have := flat_le ls (i + 1)
  rw [flat_take ls i hi, List.length_append] at this
  rw [if_pos (decT (by omega)), if_pos (by omega), if_neg (decF (by rw [wrap_add (by omega)]; omega)), wrap_add (by omega), wrap_inc (by omega), flat_take ls i hi, List.length_append]
 ·unfold T39_L0
  simp only [Tr.den]
  rw [if_neg (decF (by omega)), List.take_length]
theorem G193_eq (ls : List (List GValue)) (h : ls.flatten.length ≤ 1000000000000) (hl : ls.length ≤ 1000000000000) : G193 ls = some ls.flatten := by
 unfold G193 T193
 simp only [Tr.den]
 have h1 := while_trace (bd := fun s => (T193_L0 ls s).den) (fun i => (((ls.take i).flatten.length : Int), (i : Int))) ls.length (r := .inl (ls.flatten.length : Int)) (fun i hi => ?_) ?_
 ·refine (congrArg (fun x => Option.bind x _) h1).trans ?_
  simp only [Option.bind_some, sel]
  rw [G209s0_eq _ h]
  simp only [Option.bind_some]
  have h2 := while_trace (bd := fun s => (T193_L1 ls s).den) (fun i => ((ls.take i).flatten, (i : Int))) ls.length (r := .inl ls.flatten) (fun i hi => ?_) ?_
  ·refine (congrArg (fun x => Option.bind x _) h2).trans ?_
   rfl
  ·unfold T193_L1
   simp only [Tr.den, Int.toNat_natCast]
   have := flat_le ls (i + 1)
   rw [flat_take ls i hi, List.length_append] at this
   rw [if_pos (decT (by omega)), if_pos (by omega), if_pos (by omega), wrap_inc (by omega), flat_take ls i hi]
  ·unfold T193_L1
   simp only [Tr.den]
   rw [if_neg (decF (by omega)), List.take_length]
 ·unfold T193_L0
  simp only [Tr.den, Int.toNat_natCast]
  have := flat_le ls (i + 1)
  rw [flat_take ls i hi, List.length_append] at this
  rw [if_pos (decT (by omega)), if_pos (by omega), if_neg (decF (by rw [wrap_add (by omega)]; omega)), wrap_add (by omega), wrap_inc (by omega), flat_take ls i hi, List.length_append]
 ·unfold T193_L0
  simp only [Tr.den]
  rw [if_neg (decF (by omega)), List.take_length]
structure okD (l : List GDelta) : Prop where
 r : okRs l
 n : okN l
theorem okD.app {l r : List GDelta} (h : okD l) (h' : okD r) : okD (l ++ r) :=
 ⟨fun x hx => (List.mem_append.1 hx).elim (h.r x) (h'.r x), fun x hx => (List.mem_append.1 hx).elim (h.n x) (h'.n x)⟩
theorem okD.nil : okD [] := ⟨fun _ h => by simp at h, fun _ h => by simp at h⟩
theorem okD.sub {l r : List GDelta} (h : okD l) (hs : ∀ x, x ∈ r → x ∈ l) : okD r := ⟨fun x hx => h.r x (hs x hx), fun x hx => h.n x (hs x hx)⟩
theorem okD.cons {l : List GDelta} (h : okD l) : okD (cons l) := ⟨fun x hx => by
 obtain ⟨z, hz, he⟩ := cons_mem hx
 have := h.r z hz
 unfold okR at this ⊢
 rwa [show x.Row = z.Row from congrArg (·.2) he], (cons_can h.n).n64⟩
theorem G12_eq (a b : List GDelta) (ha : okD a) (hb : okD b) (hn : a.length + b.length ≤ 1000000000000) : G12 a b = some (cons (a ++ b)) := by
 unfold G12 T12
 simp only [Tr.den]
 rw [G39_eq [a, b] (by simp; omega) (by simp)]
 simp only [Option.bind_some, List.flatten_cons, List.flatten_nil, List.append_nil]
 rw [G27_eq _ (ha.app hb).r (ha.app hb).n (by simp; omega)]
 rfl
theorem G13_eq (l : List GDelta) (hn : l.length ≤ 1000000000000) : G13 l = some (W (wt all1 l)) := by
 unfold G13 T13
 simp only [Tr.den]
 have h1 := while_trace (bd := fun s => (T13_L0 l s).den) (fun i => (W (wt all1 (l.take i)), (i : Int))) l.length (r := .inl (W (wt all1 l))) (fun i hi => ?_) ?_
 ·refine (congrArg (fun x => Option.bind x _) h1).trans ?_
  rfl
 ·unfold T13_L0
  simp only [Tr.den, Int.toNat_natCast]
  rw [if_pos (decT (by omega)), if_pos (by omega), wrap_inc (by omega), take_succ_getD hi, wt_app, show wt all1 [l.getD i default] = (l.getD i default).N by simp [wt, all1]]
  rw [show IntKind.i64.wrap (W (wt all1 (l.take i)) + (l.getD i default).N) = W (wt all1 (l.take i) + (l.getD i default).N) from wrap_addL _ _]
 ·unfold T13_L0
  simp only [Tr.den]
  rw [if_neg (decF (by omega)), List.take_length]
def aft (t : Int) (d : GDelta) : Bool := decide (t < d.Time)
theorem G40s1_eq (x : GDelta) (t : Int) : G40s1 x t = some (!aft t x) := by
 unfold G40s1 T40s1 aft
 simp only [Tr.den]
 congr 1
 by_cases h : x.Time ≤ t
 ·simp [h]
 ·simp [h]; omega
theorem G105s1_sp (l : List GDelta) (t : Int) (hn : l.length ≤ 1000000000000) :
  Sp (G105s1 l t) (fun r => (r = -1 ∧ ∀ x, x ∈ l → aft t x = true) ∨ ∃ k : Nat, r = k ∧ k < l.length ∧ (∀ x, x ∈ l.take k → aft t x = true) ∧ aft t (l.getD k default) = false) := by
 unfold G105s1 T105s1
 simp only [Tr.den, sq_bind]
 refine Sq.while (fun s : Int => ∃ k : Nat, s = k ∧ k ≤ l.length ∧ ∀ x, x ∈ l.take k → aft t x = true) (fun s => (l.length - s).toNat) (fun s hs => ?_) ⟨0, rfl, by omega, by simp⟩
 obtain ⟨k, rfl, h1, h2⟩ := hs
 unfold T105s1_L0
 simp only [Tr.den, Int.toNat_natCast]
 by_cases hk : k < l.length
 ·rw [if_pos (decT (by omega)), if_pos (by omega), if_pos hk, G40s1_eq]
  simp only [Option.bind_some]
  cases ha : aft t (l.getD k default) with
  | true =>
   rw [if_neg (by simp), wrap_inc (by omega)]
   refine sq_some.2 ⟨⟨k + 1, rfl, by omega, fun x hx => ?_⟩, by omega⟩
   rw [take_succ_getD hk, List.mem_append, List.mem_singleton] at hx
   rcases hx with hx | rfl
   ·exact h2 x hx
   ·exact ha
  | false =>
   rw [if_pos (by simp)]
   exact sq_some.2 (sq_some.2 (.inr ⟨k, rfl, hk, h2, ha⟩))
 ·rw [if_neg (decF (by omega))]
  refine sq_some.2 (sq_some.2 (.inl ⟨rfl, ?_⟩))
  rwa [List.take_of_length_le (by omega)] at h2
theorem G41s2_sp (l : List GDelta) (t : Int) (hn : l.length ≤ 1000000000000) : Sp (G41s2 l t) (fun d => d = l.filter (aft t)) := by
 unfold G41s2 T41s2
 simp only [Tr.den]
 refine Sq.bind _ (G105s1_sp l t hn) (fun r hr => ?_)
 rcases hr with ⟨rfl, h⟩ | ⟨k, rfl, h1, h2, h3⟩
 ·rw [if_pos (beqT rfl)]
  refine sq_some.2 ?_
  exact (List.filter_eq_self.2 h).symm
 ·rw [if_neg (beqF (by omega)), wrap_inc (by omega)]
  simp only [sq_bind]
  refine Sq.while (fun s : List GDelta × Int × Int => ∃ i j : Nat, s.2.1 = i ∧ s.2.2 = j ∧ i < j ∧ j ≤ l.length ∧ s.1.length = l.length ∧ s.1.take i = (l.take j).filter (aft t) ∧ s.1.drop j = l.drop j) (fun s => (l.length - s.2.2).toNat) (fun s hs => ?_)
   ⟨k, k + 1, rfl, rfl, by omega, by omega, rfl, ?_, rfl⟩
  ·obtain ⟨d, i, j⟩ := s
   obtain ⟨i, j, e1, e2, q1, q2, q3, q4, q5⟩ := hs
   simp only at e1 e2 q3 q4 q5
   subst e1 e2
   unfold T41s2_L0
   simp only [Tr.den, Int.toNat_natCast]
   by_cases hj : j < l.length
   ·have gj : d.getD j default = l.getD j default := by
     have := congrArg (fun x : List GDelta => x.getD 0 default) q5
     rw [drop_getD (show j < d.length by omega), drop_getD hj] at this
     simpa using this
    rw [if_pos (decT (by omega)), if_pos (by omega), if_pos (by omega), gj, G40s1_eq]
    simp only [Option.bind_some, Bool.not_not]
    cases ha : aft t (l.getD j default) with
    | true =>
     rw [if_pos rfl, if_pos (by omega), if_pos (by omega)]
     refine sq_bind.2 (sq_grd (by simp; omega) (sq_some.2 ?_))
     rw [wrap_inc (by omega), wrap_inc (by omega)]
     refine sq_some.2 ⟨⟨i + 1, j + 1, rfl, rfl, by omega, by omega, by simp; omega, ?_, ?_⟩, by simp only; omega⟩
     ·rw [take_succ_getD (show i < (d.set i (l.getD j default)).length by simp; omega), take_succ_getD hj, List.filter_append, getD_set, if_pos ⟨rfl, by omega⟩]
      rw [List.take_set_of_le (Nat.le_refl i), q4, List.filter_cons_of_pos ha, List.filter_nil]
     ·rw [List.drop_set_of_lt (by omega)]
      have := congrArg (List.drop 1) q5
      rw [List.drop_drop, List.drop_drop] at this
      exact this
    | false =>
     rw [if_neg (by simp)]
     simp only [Option.bind_some]
     rw [wrap_inc (by omega)]
     refine sq_some.2 ⟨⟨i, j + 1, rfl, rfl, by omega, by omega, q3, ?_, ?_⟩, by simp only; omega⟩
     ·rw [take_succ_getD hj, List.filter_append, q4, List.filter_cons_of_neg (by rw [ha]; simp), List.filter_nil, List.append_nil]
     ·have := congrArg (List.drop 1) q5
      rw [List.drop_drop, List.drop_drop] at this
      exact this
   ·rw [if_neg (decF (by omega))]
    refine sq_some.2 ?_
    simp only [sel, Int.toNat_natCast]
    have e : (d.take i ++ List.replicate (d.length - i) default).take i = d.take i := by
     rw [List.take_append_of_le_length (by simp; omega), List.take_take, Nat.min_self]
    rw [if_pos (by omega), if_pos (by simp; omega), e, q4, List.take_of_length_le (by omega)]
    exact sq_some.2 rfl
  ·rw [take_succ_getD h1, List.filter_append, List.filter_eq_self.2 h2, List.filter_cons_of_neg (by rw [h3]; simp), List.filter_nil, List.append_nil]
theorem G14_eq (l : List GDelta) (t : Int) (ho : okD l) (hn : l.length ≤ 1000000000000) : G14 l t = some (cons (l.filter (aft t))) := by
 refine Sp.eq ?_
 unfold G14 T14
 simp only [Tr.den]
 rw [G42s0_eq l hn]
 simp only [Option.bind_some]
 refine Sq.bind _ (G41s2_sp l t hn) (fun d hd => ?_)
 subst hd
 have h2 : okD (l.filter (aft t)) := ho.sub fun x hx => (List.mem_filter.1 hx).1
 rw [G27s0_eq _ h2.r h2.n (by have := List.length_filter_le (aft t) l; omega)]
 exact sq_some.2 rfl
theorem G14_can (l : List GDelta) (t : Int) (ho : okD l) (hc : Can l) (hn : l.length ≤ 1000000000000) : G14 l t = some (l.filter (aft t)) := by
 rw [G14_eq l t ho hn, cons_id (hc.filter _)]
def neg (d : GDelta) : GDelta := ⟨d.Time, d.Row, W (0 - d.N)⟩
theorem G129_eq (a b : List GDelta) (ha : okD a) (hb : okD b) (hn : a.length + b.length ≤ 1000000000000) : G129 a b = some (cons (a ++ b.map neg)) := by
 unfold G129 T129
 simp only [Tr.den]
 rw [G42s0_eq a (by omega)]
 simp only [Option.bind_some]
 have h1 := while_trace (bd := fun s => (T129_L0 b s).den) (fun i => (a ++ (b.take i).map neg, (i : Int))) b.length (r := .inl (a ++ b.map neg)) (fun i hi => ?_) ?_
 ·rw [show (a ++ (b.take 0).map neg, ((0 : Nat) : Int)) = (a, 0) by simp] at h1
  rw [h1]
  simp only [Option.bind_some, sel]
  have ok : okD (a ++ b.map neg) := ha.app ⟨fun x hx => by
   obtain ⟨y, hy, rfl⟩ := List.mem_map.1 hx
   exact hb.r y hy, fun x hx => by
   obtain ⟨y, hy, rfl⟩ := List.mem_map.1 hx
   exact W_in _⟩
  rw [G27s0_eq _ ok.r ok.n (by simp; omega)]
  rfl
 ·unfold T129_L0
  simp only [Tr.den, Int.toNat_natCast]
  rw [if_pos (decT (by omega)), if_pos (by omega), if_pos (by simp; omega), wrap_inc (by omega), take_succ_getD hi, List.map_append, ← List.append_assoc]
  rfl
 ·unfold T129_L0
  simp only [Tr.den]
  rw [if_neg (decF (by omega)), List.take_length]
end Go.PL
namespace Go.PL
open Go
set_option linter.unusedVariables false
structure LO (K : Type) [MKey K] : Prop where
 irr : ∀ a : K, MKey.lt a a = false
 tr : ∀ a b c : K, MKey.lt a b = true → MKey.lt b c = true → MKey.lt a c = true
 tot : ∀ a b : K, a ≠ b → MKey.lt a b = true ∨ MKey.lt b a = true
theorem bytesLess_cmp : ∀ (x y : List UInt8), Op.bytesLess x y = decide (Lib.compareBytes x y < 0)
 | [], [] => by simp [Op.bytesLess, Lib.compareBytes]
 | _ :: _, [] => by simp [Op.bytesLess, Lib.compareBytes]
 | [], _ :: _ => by simp [Op.bytesLess, Lib.compareBytes]
 | a :: x, b :: y => by
  rw [Op.bytesLess, bytesLess_cmp x y, Lib.compareBytes]
  by_cases h1 : a < b
  ·simp [h1]
  ·by_cases h2 : b < a
   ·have h3 : ¬ a = b := fun h => by subst h; exact absurd h2 h1
    simp [h1, h2, h3]
   ·have h3 : a = b := UInt8.le_antisymm (UInt8.not_lt.1 h2) (UInt8.not_lt.1 h1)
    simp [h3]
theorem LO.bytes : LO ByteArray := by
 have e : ∀ a b : ByteArray, MKey.lt a b = decide (cmpS a b < 0) := fun a b => by
  show Op.bytesLess a.toList b.toList = _
  rw [bytesLess_cmp, Lib.toList_data, Lib.toList_data]; rfl
 constructor
 ·intro a
  rw [e, (TO.str.eq a a).2 rfl]; rfl
 ·intro a b c h1 h2
  rw [e] at h1 h2 ⊢
  exact decT (TO.str.tr a b c (of_decide_eq_true h1) (of_decide_eq_true h2))
 ·intro a b h
  rw [e, e]
  have h1 := TO.str.eq a b
  have h2 := TO.str.sw b a
  by_cases h3 : cmpS a b < 0
  ·exact .inl (decT h3)
  ·refine .inr (decT ?_)
   by_cases h4 : cmpS a b = 0
   ·exact absurd (h1.1 h4) h
   ·omega
section
variable {K V : Type} [MKey K]
def MC (v : List (K × V)) : Prop := v.Pairwise fun p q => MKey.lt p.1 q.1 = true
theorem mlook_mdel (v : List (K × V)) (k k' : K) : mlook (mdel v k) k' = if k = k' then none else mlook v k' := by
 induction v with
 | nil => simp [mdel, mlook]
 | cons p v ih =>
  simp only [mdel, List.filter_cons] at ih ⊢
  by_cases hp : p.1 = k
  ·rw [if_neg (by simpa using hp), ih]
   simp only [mlook, hp]
   by_cases hk : k = k' <;> simp [hk]
  ·rw [if_pos (by simpa using hp)]
   simp only [mlook, ih]
   by_cases hk : k = k'
   ·subst hk; simp [hp]
   ·simp [hk]
theorem mlook_mins (k : K) (c : V) (k' : K) : ∀ v : List (K × V), mlook v k = none → mlook (mins k c v) k' = if k = k' then some c else mlook v k'
 | [], _ => by simp [mins, mlook]
 | p :: v, h => by
  simp only [mlook] at h
  by_cases hp : p.1 = k
  ·rw [if_pos hp] at h; cases h
  ·rw [if_neg hp] at h
   simp only [mins]
   split
   ·simp only [mlook]
   ·simp only [mlook, mlook_mins k c k' v h]
    by_cases hk : k = k'
    ·subst hk; simp [hp]
    ·simp [hk]
theorem mlook_mput (v : List (K × V)) (k : K) (c : V) (k' : K) : mlook (mput v k c) k' = if k = k' then some c else mlook v k' := by
 unfold mput
 rw [mlook_mins k c k' _ (by rw [mlook_mdel]; simp), mlook_mdel]
 by_cases h : k = k' <;> simp [h]
theorem MC.mdel {v : List (K × V)} (h : MC v) (k : K) : MC (mdel v k) := List.Pairwise.filter _ h
theorem mins_mem {k : K} {c : V} {q : K × V} : ∀ {v : List (K × V)}, q ∈ mins k c v → q = (k, c) ∨ q ∈ v
 | v, h => by
  have := (mins_perm k c v).mem_iff.1 h
  simpa using this
theorem MC.mins (hK : LO K) {k : K} {c : V} : ∀ {v : List (K × V)}, MC v → k ∉ mkeys v → MC (mins k c v)
 | [], _, _ => List.pairwise_singleton _ _
 | p :: v, h, hk => by
  have h1 := List.pairwise_cons.1 h
  simp only [PL.mins]
  split
  ·rename_i hlt
   refine List.pairwise_cons.2 ⟨fun q hq => ?_, h⟩
   rcases List.mem_cons.1 hq with rfl | hq
   ·exact hlt
   ·exact hK.tr _ _ _ hlt (h1.1 q hq)
  ·rename_i hlt
   simp only [mkeys, List.map_cons, List.mem_cons, not_or] at hk
   refine List.pairwise_cons.2 ⟨fun q hq => ?_, MC.mins hK h1.2 hk.2⟩
   rcases mins_mem hq with rfl | hq
   ·rcases hK.tot k p.1 hk.1 with h2 | h2
    ·rw [h2] at hlt; cases hlt
    ·exact h2
   ·exact h1.1 q hq
theorem MC.mput (hK : LO K) {v : List (K × V)} (h : MC v) (k : K) (c : V) : MC (mput v k c) := (h.mdel k).mins hK (mdel_not v k)
theorem MC_nil : MC ([] : List (K × V)) := List.Pairwise.nil
theorem mlook_mem {v : List (K × V)} {k : K} {c : V} (h : mlook v k = some c) : (k, c) ∈ v := by
 induction v with
 | nil => cases h
 | cons p v ih =>
  simp only [mlook] at h
  split at h
  ·rename_i hp
   cases h
   rw [← hp]; exact List.mem_cons_self
  ·exact List.mem_cons_of_mem _ (ih h)
theorem mkeys_look {v : List (K × V)} {k : K} : k ∈ mkeys v ↔ ∃ c, mlook v k = some c := by
 constructor
 ·intro h
  cases hc : mlook v k with
  | none => exact absurd h (mlook_none hc)
  | some c => exact ⟨c, rfl⟩
 ·rintro ⟨c, hc⟩
  exact List.mem_map.2 ⟨_, mlook_mem hc, rfl⟩
theorem MC.nodup (hK : LO K) {v : List (K × V)} (h : MC v) : (mkeys v).Nodup := by
 unfold mkeys List.Nodup
 rw [List.pairwise_map]
 refine h.imp fun {p q} hpq he => ?_
 rw [he, hK.irr] at hpq
 cases hpq
theorem MC.ext (hK : LO K) : ∀ {v w : List (K × V)}, MC v → MC w → (∀ k, mlook v k = mlook w k) → v = w := by
 have none_of : ∀ {v : List (K × V)} {k : K}, (∀ p, p ∈ v → MKey.lt k p.1 = true) → mlook v k = none := by
  intro v k h
  cases hc : mlook v k with
  | none => rfl
  | some c =>
   have := h _ (mlook_mem hc)
   rw [hK.irr] at this; cases this
 intro v
 induction v with
 | nil =>
  intro w _ _ h
  cases w with
  | nil => rfl
  | cons q w => have := h q.1; simp [mlook] at this
 | cons p v ih =>
  intro w hv hw h
  cases w with
  | nil => have := h p.1; simp [mlook] at this
  | cons q w =>
   have hv1 := List.pairwise_cons.1 hv
   have hw1 := List.pairwise_cons.1 hw
   have hk : p.1 = q.1 := by
    refine Classical.byContradiction fun hne => ?_
    rcases hK.tot _ _ hne with h1 | h1
    ·have h2 := h p.1
     rw [none_of (v := q :: w) (k := p.1) (fun r hr => by
      rcases List.mem_cons.1 hr with rfl | hr
      ·exact h1
      ·exact hK.tr _ _ _ h1 (hw1.1 r hr))] at h2
     simp [mlook] at h2
    ·have h2 := h q.1
     rw [none_of (v := p :: v) (k := q.1) (fun r hr => by
      rcases List.mem_cons.1 hr with rfl | hr
      ·exact h1
      ·exact hK.tr _ _ _ h1 (hv1.1 r hr))] at h2
     simp [mlook] at h2
   have hc : p.2 = q.2 := by
    have h2 := h p.1
    simpa [mlook, hk] using h2
   have hpq : p = q := Prod.ext hk hc
   subst hpq
   rw [ih hv1.2 hw1.2 fun k => ?_]
   by_cases hk : p.1 = k
   ·subst hk
    rw [none_of hv1.1, none_of hw1.1]
   ·have := h k
    simpa [mlook, hk] using this
theorem mput_self (hK : LO K) {v : List (K × V)} (h : MC v) {k : K} {c : V} (hc : mlook v k = some c) : mput v k c = v := by
 refine (h.mput hK k c).ext hK h fun k' => ?_
 rw [mlook_mput]
 by_cases hk : k = k'
 ·subst hk; rw [if_pos rfl, hc]
 ·rw [if_neg hk]
def sumK (f : K → Int) : List K → Int
 | [] => 0
 | k :: l => f k + sumK f l
omit [MKey K] in
theorem sumK_perm (f : K → Int) {l r : List K} (h : l.Perm r) : sumK f l = sumK f r := by
 induction h with
 | nil => rfl
 | cons x _ ih => simp only [sumK, ih]
 | swap x y l => simp only [sumK]; omega
 | trans _ _ h1 h2 => exact h1.trans h2
theorem kerase_perm {l : List K} {k : K} (h : k ∈ l) : l.Perm (k :: kerase l k) := List.perm_cons_erase h
theorem kerase_mem {l : List K} (hn : l.Nodup) {k k' : K} : k' ∈ kerase l k ↔ k' ≠ k ∧ k' ∈ l := by
 unfold kerase; exact hn.mem_erase_iff
theorem kerase_nodup {l : List K} (hn : l.Nodup) (k : K) : (kerase l k).Nodup := by unfold kerase; exact hn.erase k
theorem kerase_len {l : List K} {k : K} (h : k ∈ l) : (kerase l k).length < l.length := by
 have := (kerase_perm h).length_eq
 simp at this; omega
theorem flatMap_perm {α β : Type} (f : α → List β) {l r : List α} (h : l.Perm r) : (l.flatMap f).Perm (r.flatMap f) := by
 induction h with
 | nil => exact .refl _
 | cons x _ ih => simp only [List.flatMap_cons]; exact ih.append_left _
 | swap x y l => simp only [List.flatMap_cons]; exact List.perm_append_comm_assoc _ _ _
 | trans _ _ h1 h2 => exact h1.trans h2
end
end Go.PL
namespace Go.PL
open Go
set_option linter.unusedVariables false
set_option maxRecDepth 20000
theorem den_ca {P : Program} {Y R : Type} {n k : Nat} {bps : List PV} {x : Option R} {ret : R → PV} {h : Con P k bps x ret} {B : R → Tr P Y} {r : R} (hx : x = some r) : (Tr.ca n h B).den = (B r).den := by
 subst hx; rfl
theorem den_grd {P : Program} {Y : Type} {n : Nat} {p : Prop} [Decidable p] {t : Tr P Y} (hp : p) : (Tr.grd n p t).den = t.den := if_pos hp
def itoaB (n : Int) : ByteArray := ⟨(Lib.itoa n).toArray⟩
theorem itoaB_size {n : Int} (h : in64 n) : (itoaB n).size ≤ 21 := by
 have := Lib.itoa_length_le n h.1 h.2
 unfold itoaB
 show (Lib.itoa n).toArray.size ≤ 21
 simpa using this
theorem G117_eq {n : Int} (h : in64 n) : G117 n = some (itoaB n) := by unfold G117; rw [if_pos (show -9223372036854775808 ≤ n ∧ n ≤ 9223372036854775807 from h)]; rfl
theorem sz1 (x : UInt8) : (⟨#[x]⟩ : ByteArray).size = 1 := rfl
def numB (n : Int) : ByteArray := itoaB n ++ ⟨#[59]⟩
theorem numB_size' (n : Int) : (numB n).size = (itoaB n).size + 1 := ByteArray.size_append
theorem numB_size {n : Int} (h : in64 n) : (numB n).size ≤ 22 := by
 have h1 := itoaB_size h
 rw [numB_size']
 exact Nat.succ_le_succ h1
theorem G51_eq {n : Int} (h : in64 n) : G51 n = some (numB n) := by
 unfold G51 T51
 have := itoaB_size h
 simp -implicitDefEqProofs only [Tr.den, G117_eq h, Option.bind_some]
 rw [if_pos (by rw [sz1]; omega)]
 rfl
theorem G119_eq (n : Nat) (h : n ≤ 1000000000000) : G119 (n : Int) = some (numB (n : Int)) := by
 unfold G119 T119
 simp only [Tr.den]
 rw [if_neg (decF (by omega)), G51_eq (n := (n : Int)) ⟨by omega, by omega⟩]
 rfl
def txtB (s : ByteArray) : ByteArray := ((itoaB s.size ++ ⟨#[58]⟩) ++ s) ++ ⟨#[44]⟩
theorem txtB_size {s : ByteArray} (h : s.size ≤ 1073741824) : (txtB s).size ≤ s.size + 23 := by
 have := itoaB_size (n := (s.size : Int)) ⟨by omega, by omega⟩
 unfold txtB
 rw [ByteArray.size_append, ByteArray.size_append, ByteArray.size_append, sz1, sz1]
 omega
theorem G52_eq {s : ByteArray} (h : s.size ≤ 1073741824) : G52 s = some (txtB s) := by
 have h1 := itoaB_size (n := (s.size : Int)) ⟨by omega, by omega⟩
 have h2 : G117 (s.size : Int) = some (itoaB s.size) := G117_eq ⟨by omega, by omega⟩
 generalize hi : itoaB (s.size : Int) = z at h1 h2
 have e1 : (z ++ (⟨#[58]⟩ : ByteArray)).size = z.size + 1 := ByteArray.size_append
 have e2 : ((z ++ (⟨#[58]⟩ : ByteArray)) ++ s).size = z.size + 1 + s.size := by rw [ByteArray.size_append, e1]
 unfold G52 T52
 refine (den_ca h2).trans ?_
 refine (den_grd ?_).trans ((den_grd ?_).trans ((den_grd ?_).trans ?_))
 ·rw [sz1]; omega
 ·rw [e1]; omega
 ·rw [e2, sz1]; omega
 ·unfold txtB
  rw [hi]
  rfl
structure okV (v : GValue) : Prop where
 k : in64 v.Kind
 n : in64 v.N
 s : v.S.size ≤ 1073741824
theorem okV_def : okV default := ⟨⟨by decide, by decide⟩, ⟨by decide, by decide⟩, by decide⟩
def valB (v : GValue) : ByteArray := (numB v.Kind ++ numB v.N) ++ txtB v.S
theorem valB_size {v : GValue} (h : okV v) : (valB v).size ≤ 1073742000 := by
 have h1 := numB_size h.k
 have h2 := numB_size h.n
 have h3 := txtB_size h.s
 have h4 := h.s
 unfold valB
 rw [ByteArray.size_append, ByteArray.size_append]
 omega
theorem G168_eq {v : GValue} (h : okV v) : G168 v = some (valB v) := by
 have h1 := numB_size h.k
 have h2 := numB_size h.n
 have h3 := txtB_size h.s
 have h4 := h.s
 unfold G168 T168
 simp only [Tr.den, G51_eq h.k, G51_eq h.n, G52_eq h.s, Option.bind_some]
 rw [if_pos (by omega), ByteArray.size_append, if_pos (by omega)]
 rfl
def okVs (r : List GValue) : Prop := ∀ v, v ∈ r → okV v
theorem okVs.get {r : List GValue} (h : okVs r) (k : Nat) : okV (r.getD k default) := by
 by_cases hk : k < r.length
 ·exact h _ (getD_mem hk)
 ·rw [List.getD_eq_getElem?_getD, List.getElem?_eq_none (by omega)]; exact okV_def
def rowB (r : List GValue) : ByteArray := r.foldl (fun b v => b ++ valB v) ((⟨#[]⟩ : ByteArray) ++ numB (r.length : Int))
theorem foldB_size (b : ByteArray) : ∀ (r : List GValue), okVs r → (r.foldl (fun b v => b ++ valB v) b).size ≤ b.size + r.length * 1073742000
 | [], _ => by simp
 | v :: r, h => by
  have h1 := foldB_size (b ++ valB v) r fun x hx => h x (List.mem_cons_of_mem _ hx)
  have h2 := valB_size (h v List.mem_cons_self)
  rw [ByteArray.size_append] at h1
  simp only [List.foldl_cons, List.length_cons]
  omega
theorem G120_eq (r : List GValue) (h : okVs r) (hn : r.length ≤ 1000) : G120 r = some (rowB r) := by
 have hs := numB_size (n := (r.length : Int)) ⟨by omega, by omega⟩
 unfold G120 T120
 simp only [Tr.den]
 rw [G119_eq r.length (by omega)]
 simp only [Option.bind_some]
 rw [if_pos (by show 0 + _ ≤ _; omega)]
 simp only [Option.bind_some]
 have h1 := while_trace (bd := fun s => (T120_L0 r s).den) (fun i => ((r.take i).foldl (fun b v => b ++ valB v) ((⟨#[]⟩ : ByteArray) ++ numB (r.length : Int)), (i : Int))) r.length (r := .inl (rowB r)) (fun i hi => ?_) ?_
 ·refine (congrArg (fun x => Option.bind x _) h1).trans ?_
  rfl
 ·unfold T120_L0
  simp only [Tr.den, Int.toNat_natCast]
  have h2 := foldB_size ((⟨#[]⟩ : ByteArray) ++ numB (r.length : Int)) (r.take i) fun v hv => h v (List.mem_of_mem_take hv)
  have h3 := valB_size (h.get i)
  rw [ByteArray.size_append, show (⟨#[]⟩ : ByteArray).size = 0 from rfl] at h2
  simp only [List.length_take] at h2
  rw [if_pos (decT (by omega)), if_pos (by omega), G168_eq (h.get i)]
  simp only [Option.bind_some]
  rw [if_pos (by
   have : min i r.length * 1073742000 ≤ 1000 * 1073742000 := Nat.mul_le_mul (by omega) (Nat.le_refl _)
   omega)]
  simp only [Option.bind_some]
  rw [wrap_inc (by omega), take_succ_getD hi, List.foldl_append]
  rfl
 ·unfold T120_L0
  simp only [Tr.den]
  rw [if_neg (decF (by omega)), List.take_length]
  rfl
def colsOf (n : GNode) (i : Int) : List Int := if i = 0 then n.Key else n.Key2
def keyB (n : GNode) (i : Int) (row : List GValue) : ByteArray := rowB ((colsOf n i).map fun c => row.getD c.toNat default)
def okCols (cols : List Int) (row : List GValue) : Prop := ∀ c, c ∈ cols → 0 ≤ c ∧ c < row.length
theorem G125s0_eq (i : Int) (row : List GValue) (n : GNode) (cl : Int) (m : List (ByteArray × GSide)) (hi : i = 0 ∨ i = 1) (hr : okVs row) (hc : okCols (colsOf n i) row) (hl : (colsOf n i).length ≤ 1000) : G125s0 i row n cl m = some (keyB n i row) := by
 unfold G125s0 T125s0
 simp only [Tr.den]
 have step : ∀ cols : List Int, okCols cols row → cols.length ≤ 1000 →
   ((whileM (fun s => (T125s0_L0 row cols (cols.length : Int) s).den) (([] : List GValue), 0)).bind (sel (fun b5 => (G120 b5).bind fun r6 => some r6) some)) = some (rowB (cols.map fun c => row.getD c.toNat default)) := by
  intro cols hc hl
  have h1 := while_trace (bd := fun s => (T125s0_L0 row cols (cols.length : Int) s).den) (fun k => ((cols.take k).map fun c => row.getD c.toNat default, (k : Int))) cols.length (r := .inl (cols.map fun c => row.getD c.toNat default)) (fun k hk => ?_) ?_
  ·refine (congrArg (fun x => Option.bind x _) h1).trans ?_
   simp only [Option.bind_some, sel]
   rw [G120_eq _ (fun v hv => by
    obtain ⟨c, hcm, rfl⟩ := List.mem_map.1 hv
    exact hr.get _) (by simpa using hl)]
   rfl
  ·unfold T125s0_L0
   simp only [Tr.den, Int.toNat_natCast]
   have h2 := hc _ (getD_mem hk)
   rw [if_pos (decT (by omega)), if_pos (by omega), if_pos h2, if_pos (by simp; omega), wrap_inc (by omega), take_succ_getD hk, List.map_append]
   rfl
  ·unfold T125s0_L0
   simp only [Tr.den]
   rw [if_neg (decF (by omega)), List.take_length]
 rcases hi with rfl | rfl
 ·rw [if_pos rfl]
  simp only [Option.bind_some, if_pos (show (0 : Int) ≤ 0 ∧ (0 : Int) < 2 by omega)]
  exact step n.Key hc hl
 ·rw [if_neg (by omega), if_pos rfl]
  simp only [Option.bind_some, if_pos (show (0 : Int) ≤ 1 ∧ (1 : Int) < 2 by omega)]
  exact step n.Key2 hc hl
structure okI (n : GNode) (i : Int) (l : List GDelta) : Prop where
 v : ∀ d, d ∈ l → okVs d.Row
 c : ∀ d, d ∈ l → okCols (colsOf n i) d.Row
 r : ∀ d, d ∈ l → d.Row.length ≤ 1000
 t : ∀ d, d ∈ l → 0 ≤ d.Time ∧ d.Time ≤ 2199023255552
 n : okN l
theorem okI.okD {n : GNode} {i : Int} {l : List GDelta} (h : okI n i l) : okD l := ⟨fun d hd => by have := h.r d hd; unfold okR; omega, h.n⟩
theorem okI.sub {n : GNode} {i : Int} {l r : List GDelta} (h : okI n i l) (hs : ∀ x, x ∈ r → x ∈ l) : okI n i r :=
 ⟨fun d hd => h.v d (hs d hd), fun d hd => h.c d (hs d hd), fun d hd => h.r d (hs d hd), fun d hd => h.t d (hs d hd), fun d hd => h.n d (hs d hd)⟩
theorem okI.app {n : GNode} {i : Int} {l r : List GDelta} (h : okI n i l) (h' : okI n i r) : okI n i (l ++ r) :=
 ⟨fun d hd => (List.mem_append.1 hd).elim (h.v d) (h'.v d), fun d hd => (List.mem_append.1 hd).elim (h.c d) (h'.c d), fun d hd => (List.mem_append.1 hd).elim (h.r d) (h'.r d), fun d hd => (List.mem_append.1 hd).elim (h.t d) (h'.t d), fun d hd => (List.mem_append.1 hd).elim (h.n d) (h'.n d)⟩
theorem okI.nil {n : GNode} {i : Int} : okI n i [] := ⟨by simp, by simp, by simp, by simp, fun d hd => by simp at hd⟩
theorem okI.cons {n : GNode} {i : Int} {l : List GDelta} (h : okI n i l) : okI n i (cons l) := by
 have e : ∀ d, d ∈ PL.cons l → ∃ z, z ∈ l ∧ d.Time = z.Time ∧ d.Row = z.Row := fun d hd => by
  obtain ⟨z, hz, he⟩ := cons_mem hd
  exact ⟨z, hz, congrArg (·.1) he, congrArg (·.2) he⟩
 refine ⟨fun d hd => ?_, fun d hd => ?_, fun d hd => ?_, fun d hd => ?_, (cons_can h.n).n64⟩ <;> obtain ⟨z, hz, h1, h2⟩ := e d hd
 ·rw [h2]; exact h.v z hz
 ·rw [h2]; exact h.c z hz
 ·rw [h2]; exact h.r z hz
 ·rw [h1]; exact h.t z hz
abbrev kd (n : GNode) (i : Int) (d : GDelta) : ByteArray := keyB n i d.Row
def groupM (n : GNode) (i : Int) (l : List GDelta) : List (ByteArray × List GDelta) := l.foldl (fun m d => mput m (kd n i d) ((mlook m (kd n i d)).getD [] ++ [d])) []
theorem groupM_mc (n : GNode) (i : Int) (l : List GDelta) : MC (groupM n i l) := by
 unfold groupM
 have : ∀ (l : List GDelta) (m : List (ByteArray × List GDelta)), MC m → MC (l.foldl (fun m d => mput m (kd n i d) ((mlook m (kd n i d)).getD [] ++ [d])) m) := by
  intro l
  induction l with
  | nil => exact fun m h => h
  | cons d l ih => exact fun m h => ih _ (h.mput LO.bytes _ _)
 exact this l [] MC_nil
def ofK (n : GNode) (i : Int) (k : ByteArray) (l : List GDelta) : List GDelta := l.filter fun d => decide (kd n i d = k)
theorem groupM_look (n : GNode) (i : Int) (k : ByteArray) (l : List GDelta) : mlook (groupM n i l) k = if ofK n i k l = [] then none else some (ofK n i k l) := by
 have : ∀ (l : List GDelta) (m : List (ByteArray × List GDelta)), mlook (l.foldl (fun m d => mput m (kd n i d) ((mlook m (kd n i d)).getD [] ++ [d])) m) k = if ofK n i k l = [] then mlook m k else some ((mlook m k).getD [] ++ ofK n i k l) := by
  intro l
  induction l with
  | nil => intro m; simp [ofK]
  | cons d l ih =>
   intro m
   rw [List.foldl_cons, ih]
   unfold ofK
   by_cases hk : kd n i d = k
   ·rw [List.filter_cons_of_pos (p := fun d => decide (kd n i d = k)) (decT hk), mlook_mput, if_pos hk, hk]
    by_cases h : l.filter (fun d => decide (kd n i d = k)) = []
    ·rw [if_pos h, if_neg (by simp), h]
    ·rw [if_neg h, if_neg (by simp)]; simp
   ·rw [List.filter_cons_of_neg (p := fun d => decide (kd n i d = k)) (decF hk), mlook_mput, if_neg hk]
 have := this l []
 simpa [mlook, groupM] using this
theorem ofK_len (n : GNode) (i : Int) (k : ByteArray) (l : List GDelta) : (ofK n i k l).length ≤ l.length := List.length_filter_le _ _
theorem groupM_get (n : GNode) (i : Int) (k : ByteArray) (l : List GDelta) : (mlook (groupM n i l) k).getD [] = ofK n i k l := by
 rw [groupM_look]; split <;> simp_all
theorem G58s0_eq (i : Int) (l : List GDelta) (n : GNode) (cl : Int) (m : List (ByteArray × GSide)) (hi : i = 0 ∨ i = 1) (h : okI n i l) (hc : (colsOf n i).length ≤ 1000) (hn : l.length ≤ 1000000000000) : G58s0 i l n cl m = some (groupM n i (cons l)) := by
 unfold G58s0 T58s0
 simp only [Tr.den]
 rw [G27_eq l h.okD.r h.n hn]
 simp only [Option.bind_some]
 have hlen := cons_len l
 have hk := h.cons
 generalize cons l = r at hlen hk
 have h1 := while_trace (bd := fun s => (T58s0_L0 i n cl m r s).den) (fun k => (groupM n i (r.take k), (k : Int))) r.length (r := .inl (groupM n i r)) (fun k hk' => ?_) ?_
 ·refine (congrArg (fun x => Option.bind x _) h1).trans ?_
  rfl
 ·unfold T58s0_L0
  simp only [Tr.den, Int.toNat_natCast]
  have hm := getD_mem hk'
  rw [if_pos (decT (by omega)), if_pos (by omega), G125s0_eq i _ n cl m hi (hk.v _ hm) (hk.c _ hm) hc]
  simp only [Option.bind_some]
  have h2 := ofK_len n i (keyB n i (r.getD k default).Row) (r.take k)
  simp only [List.length_take] at h2
  rw [if_pos (by rw [groupM_get]; simp only [List.length_cons, List.length_nil]; omega), wrap_inc (by omega)]
  congr 3
  unfold groupM
  rw [take_succ_getD hk', List.foldl_append]
  rfl
 ·unfold T58s0_L0
  simp only [Tr.den]
  rw [if_neg (decF (by omega)), List.take_length]
end Go.PL
namespace Go.PL
open Go
set_option linter.unusedVariables false
set_option maxRecDepth 20000
def TS (l : List GDelta) : Prop := l.Pairwise fun x y => x.Time ≤ y.Time
theorem cmpD_time {x y : GDelta} (h : cmpD x y < 0) : x.Time ≤ y.Time := by
 by_cases h1 : y.Time < x.Time
 ·have : cmpD x y = 1 := by
   unfold cmpD thenC cmpI
   rw [if_neg (show ¬ x.Time < y.Time by omega), if_pos h1]
   rfl
  omega
 ·omega
theorem Can.ts {l : List GDelta} (h : Can l) : TS l := h.lt.imp fun h => cmpD_time h
theorem TS.get {l : List GDelta} (h : TS l) {i j : Nat} (hij : i ≤ j) (hj : j < l.length) : (l.getD i default).Time ≤ (l.getD j default).Time := by
 rcases Nat.lt_or_eq_of_le hij with h1 | h1
 ·rw [getD_lt hj, getD_lt (show i < l.length by omega)]
  exact List.pairwise_iff_getElem.1 h i j (by omega) hj h1
 ·subst h1; exact Int.le_refl _
def okTm (l : List GDelta) : Prop := ∀ d, d ∈ l → 0 ≤ d.Time ∧ d.Time ≤ 2199023255552
def nearF (l : List GDelta) (a b : Int) : List GDelta := l.filter fun d => decide (a ≤ d.Time) && decide (d.Time ≤ b)
theorem nearF_len (l : List GDelta) (a b : Int) : (nearF l a b).length ≤ l.length := List.length_filter_le _ _
theorem nearF_mem {l : List GDelta} {a b : Int} {d : GDelta} (h : d ∈ nearF l a b) : d ∈ l := (List.mem_filter.1 h).1
theorem near_cut {l : List GDelta} (h : TS l) (a b : Int) (n k : Nat) (hnk : n ≤ k) (hk : k ≤ l.length) (h1 : ∀ j, j < n → (l.getD j default).Time < a) (h2 : ∀ j, n ≤ j → j < l.length → a ≤ (l.getD j default).Time) (h3 : ∀ j, n ≤ j → j < k → (l.getD j default).Time ≤ b)
  (h4 : k < l.length → b < (l.getD k default).Time) : (l.drop n).take (k - n) = nearF l a b := by
 have e : l = l.take n ++ ((l.drop n).take (k - n) ++ l.drop k) := by
  have : l.drop n = (l.drop n).take (k - n) ++ l.drop k := by
   conv => lhs; rw [← List.take_append_drop (k - n) (l.drop n)]
   rw [List.drop_drop, show n + (k - n) = k by omega]
  rw [← this, List.take_append_drop]
 unfold nearF
 conv => rhs; rw [e]
 rw [List.filter_append, List.filter_append]
 have f1 : (l.take n).filter (fun d => decide (a ≤ d.Time) && decide (d.Time ≤ b)) = [] := by
  refine List.filter_eq_nil_iff.2 fun x hx => ?_
  obtain ⟨j, j1, j2, rfl⟩ := mem_take_getD hx
  have := h1 j j1
  simp only [Bool.and_eq_true, decide_eq_true_eq, not_and]; omega
 have f2 : ((l.drop n).take (k - n)).filter (fun d => decide (a ≤ d.Time) && decide (d.Time ≤ b)) = (l.drop n).take (k - n) := by
  refine List.filter_eq_self.2 fun x hx => ?_
  obtain ⟨j, j1, j2, rfl⟩ := mem_take_getD hx
  rw [List.length_drop] at j2
  have e2 : (l.drop n).getD j default = l.getD (n + j) default := by
   rw [getD_lt (by simp; omega), getD_lt (by omega)]; simp
  rw [e2]
  have q1 := h2 (n + j) (by omega) (by omega)
  have q2 := h3 (n + j) (by omega) (by omega)
  simp only [Bool.and_eq_true, decide_eq_true_eq]; omega
 have f3 : (l.drop k).filter (fun d => decide (a ≤ d.Time) && decide (d.Time ≤ b)) = [] := by
  refine List.filter_eq_nil_iff.2 fun x hx => ?_
  obtain ⟨j, j1, j2, rfl⟩ := mem_drop_getD hx
  have q1 := h4 (by omega)
  have q2 := h.get (i := k) (j := j) j1 j2
  simp only [Bool.and_eq_true, decide_eq_true_eq, not_and]; omega
 rw [f1, f2, f3]; simp
theorem G172_eq (d : GDelta) (t : Int) (h1 : 0 ≤ d.Time) (h2 : d.Time ≤ 2199023255552) (h3 : -4398046511104 ≤ t) (h4 : t ≤ 4398046511104) : G172 d t = some (d.Time - t) := by
 unfold G172 T172
 simp only [Tr.den]
 rw [wrap_id (by omega) (by omega)]
theorem okTm.get {l : List GDelta} (h : okTm l) (k : Nat) : 0 ≤ (l.getD k default).Time ∧ (l.getD k default).Time ≤ 2199023255552 := by
 by_cases hk : k < l.length
 ·exact h _ (getD_mem hk)
 ·rw [List.getD_eq_getElem?_getD, List.getElem?_eq_none (by omega)]; exact ⟨by decide, by decide⟩
theorem G171s0_sp (l : List GDelta) (t : Int) (hs : TS l) (ht : okTm l) (h3 : -4398046511104 ≤ t) (h4 : t ≤ 4398046511104) (hn : l.length ≤ 1000000000000) :
  Sp (G171s0 l t) (fun r => ∃ n : Nat, r.1 = n ∧ n ≤ l.length ∧ (∀ j, j < n → (l.getD j default).Time < t) ∧ ∀ j, n ≤ j → j < l.length → t ≤ (l.getD j default).Time) := by
 unfold G171s0 T171s0
 simp only [Tr.den]
 have hb := bs_sq true (fun s => (T171s0_L0 l t s).den) (fun k => decide ((l.getD k default).Time < t)) 0 l.length (by omega) (fun i j q1 q2 q3 => ?_) (fun i q1 q2 => ?_) (fun h k q1 q2 q3 q4 => ?_)
 ·refine Sq.bind _ hb (fun z hz => ?_)
  cases z with
  | inr z => exact hz.elim
  | inl z =>
   obtain ⟨n, rfl, q1, q2, q3, q4⟩ := hz
   simp only [sel]
   have hq : ∃ n' : Nat, (n : Int) = n' ∧ n' ≤ l.length ∧ (∀ j, j < n' → (l.getD j default).Time < t) ∧ ∀ j, n' ≤ j → j < l.length → t ≤ (l.getD j default).Time :=
    ⟨n, rfl, q2, fun j hj => of_decide_eq_true (q3 j (by omega) hj), fun j j1 j2 => by have := of_decide_eq_false (q4 j j1 j2); omega⟩
   by_cases hl : n < l.length
   ·rw [if_pos (decT (by omega)), if_pos (by omega), G172_eq _ t (ht.get _).1 (ht.get _).2 h3 h4]
    simp only [Option.bind_some]
    exact sq_some.2 hq
   ·rw [if_neg (decF (by omega))]
    simp only [Option.bind_some]
    exact sq_some.2 hq
 ·unfold T171s0_L0
  simp only [Tr.den]
  rw [mid_eq (by omega)]
  simp only [Int.toNat_natCast]
  rw [if_pos (decT (by omega)), if_pos (by omega), G172_eq _ t (ht.get _).1 (ht.get _).2 h3 h4]
  simp only [Option.bind_some]
  by_cases hc : (l.getD ((i + j) / 2) default).Time < t
  ·rw [if_pos (decT (by omega)), if_pos (decT hc), wrap_inc (by omega)]; rfl
  ·rw [if_neg (decF (by omega)), if_neg (decF hc)]; rfl
 ·unfold T171s0_L0
  simp only [Tr.den]
  rw [if_neg (decF (by omega))]
 ·have := hs.get q2 q3
  have := of_decide_eq_true q4
  exact decT (by omega)
theorem G128_eq (l : List GDelta) (a b : Int) (hs : TS l) (ht : okTm l) (h3 : -4398046511104 ≤ a) (h4 : a ≤ 4398046511104) (hn : l.length ≤ 1000000000000) : G128 l a b = some (nearF l a b) := by
 refine Sp.eq ?_
 unfold G128 T128
 simp only [Tr.den]
 refine Sq.bind _ (G171s0_sp l a hs ht h3 h4 hn) (fun r hr => ?_)
 obtain ⟨n, hr, h1, h2, h5⟩ := hr
 rw [hr]
 simp only [sq_bind]
 refine Sq.while (fun s : Int => ∃ k : Nat, s = k ∧ n ≤ k ∧ k ≤ l.length ∧ ∀ j, n ≤ j → j < k → (l.getD j default).Time ≤ b) (fun s => (l.length - s).toNat) (fun s hs' => ?_) ⟨n, rfl, by omega, h1, fun j _ _ => by omega⟩
 obtain ⟨k, rfl, q1, q2, q3⟩ := hs'
 unfold T128_L0
 simp only [Tr.den, Int.toNat_natCast]
 have stop : (k < l.length → b < (l.getD k default).Time) → Sp (if 0 ≤ (n : Int) ∧ (n : Int) ≤ (k : Int) ∧ (k : Int) ≤ (l.length : Int) then some ((l.drop n).take ((k : Int) - (n : Int)).toNat) else none) (fun z => z = nearF l a b) := by
  intro hk
  rw [if_pos (by omega), show ((k : Int) - (n : Int)).toNat = k - n by omega, near_cut hs a b n k q1 q2 h2 h5 q3 hk]
  exact sq_some.2 rfl
 by_cases hk : k < l.length
 ·rw [if_pos (decT (by omega)), if_pos (by omega)]
  simp only [Option.bind_some]
  by_cases hc : (l.getD k default).Time ≤ b
  ·rw [if_pos (decT hc), wrap_inc (by omega)]
   refine sq_some.2 ⟨⟨k + 1, rfl, by omega, by omega, fun j j1 j2 => ?_⟩, by omega⟩
   by_cases hj : j < k
   ·exact q3 j j1 hj
   ·have : j = k := by omega
    subst this; exact hc
  ·rw [if_neg (decF hc)]
   refine sq_some.2 ?_
   simp only [sel]
   exact stop fun _ => by omega
 ·rw [if_neg (decF (by omega))]
  simp only [Option.bind_some, Bool.false_eq_true, if_false]
  refine sq_some.2 ?_
  simp only [sel]
  exact stop fun h => absurd h hk
def pairF (a b : GDelta) (t n : Int) : GDelta := ⟨t, a.Row ++ b.Row, n⟩
def okW (l : List GDelta) : Prop := ∀ d, d ∈ l → d.Row.length ≤ 1000
theorem okW.get {l : List GDelta} (h : okW l) (k : Nat) : (l.getD k default).Row.length ≤ 1000 := by
 by_cases hk : k < l.length
 ·exact h _ (getD_mem hk)
 ·rw [List.getD_eq_getElem?_getD, List.getElem?_eq_none (by omega)]; decide
theorem G170_eq (a b : GDelta) (t n : Int) (ha : a.Row.length ≤ 1000) (hb : b.Row.length ≤ 1000) : G170 a b t n = some (pairF a b t n) := by
 unfold G170 T170
 simp only [Tr.den]
 rw [G193_eq [a.Row, b.Row] (by simp; omega) (by simp)]
 simp [pairF]
def joinP (i : Int) (a b : GDelta) : GDelta := if i = 1 then pairF b a (if b.Time > a.Time then b.Time else a.Time) (W (a.N * b.N)) else pairF a b (if b.Time > a.Time then b.Time else a.Time) (W (a.N * b.N))
def joinA (n : GNode) (i : Int) (other : List GDelta) (a : GDelta) : List GDelta :=
 (nearF other (if i = 1 then a.Time - n.After else a.Time - n.Before) (if i = 1 then a.Time + n.Before else a.Time + n.After)).map (joinP i a)
def joinF (n : GNode) (i : Int) (l other : List GDelta) : List GDelta := l.flatMap (joinA n i other)
theorem joinA_len (n : GNode) (i : Int) (other : List GDelta) (a : GDelta) : (joinA n i other a).length ≤ other.length := by
 unfold joinA; rw [List.length_map]; exact nearF_len _ _ _
theorem flatMap_len {f : GDelta → List GDelta} {c : Nat} (h : ∀ a, (f a).length ≤ c) (l : List GDelta) : (l.flatMap f).length ≤ l.length * c := by
 induction l with
 | nil => simp
 | cons a l ih =>
  rw [List.flatMap_cons, List.length_append, List.length_cons, Nat.add_mul]
  have := h a
  omega
structure okB (n : GNode) : Prop where
 b : 0 ≤ n.Before ∧ n.Before ≤ 10000
 a : 0 ≤ n.After ∧ n.After ≤ 10000
theorem G126s0_eq (i : Int) (l other : List GDelta) (n : GNode) (cl : Int) (m : List (ByteArray × GSide)) (k : ByteArray) (s : GSide) (hi : i = 0 ∨ i = 1) (hB : okB n) (hs : TS other) (ht : okTm l) (ht' : okTm other) (hw : okW l) (hw' : okW other)
  (hl : l.length ≤ 1000000) (ho : other.length ≤ 1000000) : G126s0 i l other n cl m k s = some (joinF n i l other) := by
 unfold G126s0 T126s0
 simp only [Tr.den]
 have hb := hB.b
 have ha := hB.a
 have h1 := while_trace (bd := fun z => (T126s0_L0 i l other n cl m k s z).den) (fun q => ((l.take q).flatMap (joinA n i other), (q : Int))) l.length (r := .inl (joinF n i l other)) (fun q hq => ?_) ?_
 ·refine (congrArg (fun x => Option.bind x _) h1).trans ?_
  rfl
 ·unfold T126s0_L0
  simp only [Tr.den, Int.toNat_natCast]
  have tq := ht.get q
  have w1 : IntKind.i64.wrap ((l.getD q default).Time - n.After) = (l.getD q default).Time - n.After := wrap_id (by omega) (by omega)
  have w2 : IntKind.i64.wrap ((l.getD q default).Time + n.Before) = (l.getD q default).Time + n.Before := wrap_id (by omega) (by omega)
  have w3 : IntKind.i64.wrap ((l.getD q default).Time - n.Before) = (l.getD q default).Time - n.Before := wrap_id (by omega) (by omega)
  have w4 : IntKind.i64.wrap ((l.getD q default).Time + n.After) = (l.getD q default).Time + n.After := wrap_id (by omega) (by omega)
  rw [if_pos (decT (by omega)), if_pos (by omega), w1, w2, w3, w4]
  have hlen0 : ((l.take q).flatMap (joinA n i other)).length ≤ 1000000 * 1000000 := by
   refine Nat.le_trans (flatMap_len (joinA_len n i other) _) (Nat.mul_le_mul ?_ ho)
   simp; omega
  have inner : ∀ (r7 : List GDelta), r7.length ≤ 1000000 → okW r7 → (whileM (fun z => (T126s0_L1 i l other n cl m k s (q : Int) r7 z).den) ((l.take q).flatMap (joinA n i other), 0)) = some (.inl ((l.take q).flatMap (joinA n i other) ++ r7.map (joinP i (l.getD q default)))) := by
   intro r7 hr7 hw7
   have h2 := while_trace (bd := fun z => (T126s0_L1 i l other n cl m k s (q : Int) r7 z).den) (fun p => ((l.take q).flatMap (joinA n i other) ++ (r7.take p).map (joinP i (l.getD q default)), (p : Int))) r7.length (r := .inl ((l.take q).flatMap (joinA n i other) ++ r7.map (joinP i (l.getD q default)))) (fun p hp => ?_) ?_
   ·rw [← h2]; simp
   ·unfold T126s0_L1
    simp only [Tr.den, Int.toNat_natCast]
    rw [if_pos (decT (by omega)), if_pos (by omega)]
    have fin : ∀ (x : GDelta), x = joinP i (l.getD q default) (r7.getD p default) →
      (if ((List.flatMap (joinA n i other) (List.take q l) ++ List.map (joinP i (l.getD q default)) (List.take p r7)).length + [x].length) * 40 ≤ 140737488355328 then
       some (Sum.inl (List.flatMap (joinA n i other) (List.take q l) ++ List.map (joinP i (l.getD q default)) (List.take p r7) ++ [x], IntKind.i64.wrap ((p : Int) + 1))) else none) =
      (some (.inl (List.flatMap (joinA n i other) (List.take q l) ++ List.map (joinP i (l.getD q default)) (List.take (p + 1) r7), ((p + 1 : Nat) : Int))) : Option (((List GDelta) × Int) ⊕ (((List GDelta)) ⊕ (((List GDelta) × Int) ⊕ (((List GDelta)) ⊕ ((List GDelta))))))) := by
     rintro x rfl
     rw [if_pos (by simp only [List.length_append, List.length_map, List.length_take, List.length_cons, List.length_nil]; omega), wrap_inc (by omega), take_succ_getD hp, List.map_append, List.append_assoc]
     rfl
    rcases hi with rfl | rfl
    ·rw [if_neg (beqF (by omega))]
     simp only [Option.bind_some]
     rw [G170_eq _ _ _ _ (by exact hw.get q) (by exact hw7.get p)]
     simp only [Option.bind_some]
     exact fin _ (by unfold joinP; rw [if_neg (show ¬ (0 : Int) = 1 by omega)])
    ·rw [if_pos (beqT rfl)]
     simp only [Option.bind_some]
     rw [G170_eq _ _ _ _ (by exact hw7.get p) (by exact hw.get q)]
     simp only [Option.bind_some]
     exact fin _ (by unfold joinP; rw [if_pos (show (1 : Int) = 1 from rfl)])
   ·unfold T126s0_L1
    simp only [Tr.den]
    rw [if_neg (decF (by omega)), List.take_length]
  have wr : ∀ a b, okW (nearF other a b) := fun a b d hd => hw' d (nearF_mem hd)
  rcases hi with rfl | rfl
  ·rw [if_neg (beqF (by omega))]
   simp only [Option.bind_some]
   rw [G128_eq other _ _ hs ht' (by omega) (by omega) (by omega)]
   simp only [Option.bind_some]
   rw [inner _ (Nat.le_trans (nearF_len _ _ _) ho) (wr _ _)]
   simp only [Option.bind_some, sel]
   rw [wrap_inc (by omega), take_succ_getD hq, List.flatMap_append]
   simp [joinA]
  ·rw [if_pos (beqT rfl)]
   simp only [Option.bind_some]
   rw [G128_eq other _ _ hs ht' (by omega) (by omega) (by omega)]
   simp only [Option.bind_some]
   rw [inner _ (Nat.le_trans (nearF_len _ _ _) ho) (wr _ _)]
   simp only [Option.bind_some, sel]
   rw [wrap_inc (by omega), take_succ_getD hq, List.flatMap_append]
   simp [joinA]
 ·unfold T126s0_L0
  simp only [Tr.den]
  rw [if_neg (decF (by omega)), List.take_length]
  rfl
def asofA (n : GNode) (right : List GDelta) (a : GDelta) : List GDelta :=
 if nearF right (a.Time - n.Keep + 1) a.Time = [] then [] else [pairF a ((nearF right (a.Time - n.Keep + 1) a.Time).getD ((nearF right (a.Time - n.Keep + 1) a.Time).length - 1) default) a.Time a.N]
def asofF (n : GNode) (l right : List GDelta) : List GDelta := l.flatMap (asofA n right)
theorem asofA_len (n : GNode) (right : List GDelta) (a : GDelta) : (asofA n right a).length ≤ 1 := by unfold asofA; split <;> simp
theorem G127s0_eq (l right : List GDelta) (n : GNode) (cl : Int) (m : List (ByteArray × GSide)) (k : ByteArray) (s : GSide) (hK : 1 ≤ n.Keep ∧ n.Keep ≤ 10000) (hs : TS right) (ht : okTm l) (ht' : okTm right) (hw : okW l) (hw' : okW right)
  (hl : l.length ≤ 1000000) (ho : right.length ≤ 1000000) : G127s0 l right n cl m k s = some (asofF n l right) := by
 unfold G127s0 T127s0
 simp only [Tr.den]
 have h1 := while_trace (bd := fun z => (T127s0_L0 l right n cl m k s z).den) (fun q => ((l.take q).flatMap (asofA n right), (q : Int))) l.length (r := .inl (asofF n l right)) (fun q hq => ?_) ?_
 ·refine (congrArg (fun x => Option.bind x _) h1).trans ?_
  rfl
 ·unfold T127s0_L0
  simp only [Tr.den, Int.toNat_natCast]
  have tq := ht.get q
  have w1 : IntKind.i64.wrap (IntKind.i64.wrap ((l.getD q default).Time - n.Keep) + 1) = (l.getD q default).Time - n.Keep + 1 := by rw [wrap_id (n := (l.getD q default).Time - n.Keep) (by omega) (by omega), wrap_id (by omega) (by omega)]
  rw [if_pos (decT (by omega)), if_pos (by omega), w1, G128_eq right _ _ hs ht' (by omega) (by omega) (by omega)]
  simp only [Option.bind_some]
  have hlen0 : ((l.take q).flatMap (asofA n right)).length ≤ 1000000 := by
   have := flatMap_len (asofA_len n right) (l.take q)
   rw [List.length_take] at this; omega
  have hnl := nearF_len right ((l.getD q default).Time - n.Keep + 1) (l.getD q default).Time
  have hA : asofA n right (l.getD q default) = if nearF right ((l.getD q default).Time - n.Keep + 1) (l.getD q default).Time = [] then [] else [pairF (l.getD q default) ((nearF right ((l.getD q default).Time - n.Keep + 1) (l.getD q default).Time).getD ((nearF right ((l.getD q default).Time - n.Keep + 1) (l.getD q default).Time).length - 1) default) (l.getD q default).Time (l.getD q default).N] := rfl
  have wr : okW (nearF right ((l.getD q default).Time - n.Keep + 1) (l.getD q default).Time) := fun d hd => hw' d (nearF_mem hd)
  generalize nearF right ((l.getD q default).Time - n.Keep + 1) (l.getD q default).Time = r at *
  by_cases hr : r = []
  ·rw [if_neg (decF (by rw [hr]; simp))]
   simp only [Option.bind_some]
   rw [wrap_inc (by omega), take_succ_getD hq, List.flatMap_append]
   simp only [List.flatMap_cons, List.flatMap_nil, hA, if_pos hr, List.append_nil]
  ·have hr0 := List.length_pos_iff.2 hr
   have w2 : IntKind.i64.wrap ((r.length : Int) - 1) = ((r.length - 1 : Nat) : Int) := by rw [wrap_id] <;> omega
   rw [if_pos (decT (by omega)), w2]
   simp only [Int.toNat_natCast]
   rw [if_pos (by omega), G170_eq _ _ _ _ (hw.get q) (wr.get _)]
   simp only [Option.bind_some]
   rw [if_pos (by omega)]
   simp only [Option.bind_some]
   rw [wrap_inc (by omega), take_succ_getD hq, List.flatMap_append]
   simp only [List.flatMap_cons, List.flatMap_nil, hA, if_neg hr, List.append_nil]
 ·unfold T127s0_L0
  simp only [Tr.den]
  rw [if_neg (decF (by omega)), List.take_length]
  rfl
end Go.PL
namespace Go.PL
open Go
set_option linter.unusedVariables false
set_option maxRecDepth 20000
theorem loopWp {P : Program} {S R : Type} {L : S → Tr P (S ⊕ R)} (I : S → Prop) (μ : S → Nat) {Q : R → Prop} (h : ∀ s, I s → (L s).wpT (sel (fun s' => I s' ∧ μ s' < μ s) Q)) {s : S} (hs : I s) : Tr.LoopT (fun s Z => (L s).wpT Z) Q s :=
 LoopT_ind (t := fun s Z => (L s).wpT Z) (fun s _ _ hq h => Tr.wpT_mono (L s) hq h) I μ h hs
abbrev KS := List (ByteArray × GSide)
def side0 : GSide := ⟨⟨[], []⟩⟩
structure okSd (n : GNode) (s : GSide) : Prop where
 c0 : Can s.rows_.e0
 c1 : Can s.rows_.e1
 i0 : okI n 0 s.rows_.e0
 i1 : okI n 1 s.rows_.e1
 l0 : s.rows_.e0.length ≤ 10000
 l1 : s.rows_.e1.length ≤ 10000
theorem okSd0 (n : GNode) : okSd n side0 := ⟨.nil, .nil, .nil, .nil, by decide, by decide⟩
structure okNode (n : GNode) : Prop where
 op : (n.Op = 6 ∧ okB n) ∨ (n.Op = 7 ∧ 1 ≤ n.Keep ∧ n.Keep ≤ 10000)
 k1 : n.Key.length ≤ 1000
 k2 : n.Key2.length ≤ 1000
theorem okNode.cols {n : GNode} (h : okNode n) (i : Int) : (colsOf n i).length ≤ 1000 := by
 by_cases hi : i = 0
 ·unfold colsOf; rw [if_pos hi]; exact h.k1
 ·unfold colsOf; rw [if_neg hi]; exact h.k2
theorem okI.tm {n : GNode} {i : Int} {l : List GDelta} (h : okI n i l) : okTm l := h.t
theorem okI.w {n : GNode} {i : Int} {l : List GDelta} (h : okI n i l) : okW l := h.r
def chgF (n : GNode) (i : Int) (l : List GDelta) (s : GSide) : List GDelta :=
 if n.Op = 6 then joinF n i l (if i = 0 then s.rows_.e1 else s.rows_.e0)
 else if i = 0 then asofF n l s.rows_.e1
 else cons (asofF n (nearF s.rows_.e0 (l.getD 0 default).Time ((l.getD (l.length - 1) default).Time + n.Keep)) (cons (s.rows_.e1 ++ l)) ++ (asofF n (nearF s.rows_.e0 (l.getD 0 default).Time ((l.getD (l.length - 1) default).Time + n.Keep)) s.rows_.e1).map neg)
theorem okD_flat {f : GDelta → List GDelta} {l : List GDelta} (h : ∀ a, a ∈ l → okD (f a)) : okD (l.flatMap f) := by
 constructor
 ·intro x hx
  obtain ⟨a, ha, hx⟩ := List.mem_flatMap.1 hx
  exact (h a ha).r x hx
 ·intro x hx
  obtain ⟨a, ha, hx⟩ := List.mem_flatMap.1 hx
  exact (h a ha).n x hx
theorem joinF_ok {n : GNode} {i : Int} {l r : List GDelta} (h : okW l) (h' : okW r) : okD (joinF n i l r) := by
 refine okD_flat fun a ha => ?_
 unfold joinA
 constructor
 ·intro x hx
  obtain ⟨b, hb, rfl⟩ := List.mem_map.1 hx
  have := h a ha
  have := h' b (nearF_mem hb)
  unfold joinP okR pairF; split <;> simp <;> omega
 ·intro x hx
  obtain ⟨b, hb, rfl⟩ := List.mem_map.1 hx
  unfold joinP pairF; split <;> exact W_in _
theorem asofF_ok {n : GNode} {l r : List GDelta} (h : okW l) (h' : okW r) (hn : okN l) : okD (asofF n l r) := by
 refine okD_flat fun a ha => ?_
 unfold asofA
 have hr : okW (nearF r (a.Time - n.Keep + 1) a.Time) := fun d hd => h' d (nearF_mem hd)
 split
 ·exact .nil
 ·constructor
  ·intro x hx
   rw [List.mem_singleton.1 hx]
   have := h a ha
   have := hr.get ((nearF r (a.Time - n.Keep + 1) a.Time).length - 1)
   unfold okR pairF
   simp only [List.length_append]; omega
  ·intro x hx
   rw [List.mem_singleton.1 hx]
   exact hn a ha
theorem neg_ok {l : List GDelta} (h : okD l) : okD (l.map neg) := ⟨fun x hx => by
  obtain ⟨y, hy, rfl⟩ := List.mem_map.1 hx
  exact h.r y hy, fun x hx => by
  obtain ⟨y, hy, rfl⟩ := List.mem_map.1 hx
  exact W_in _⟩
theorem near_okI {n : GNode} {i : Int} {l : List GDelta} (h : okI n i l) (a b : Int) : okI n i (nearF l a b) := h.sub fun x hx => nearF_mem hx
theorem asofF_len (n : GNode) (l r : List GDelta) : (asofF n l r).length ≤ l.length := by
 have := flatMap_len (asofA_len n r) l
 unfold asofF; omega
theorem chgF_ok {n : GNode} {i : Int} {l : List GDelta} {s : GSide} (hi : i = 0 ∨ i = 1) (hl : okI n i l) (hs : okSd n s) : okD (chgF n i l s) := by
 unfold chgF
 split
 ·split
  ·exact joinF_ok hl.w hs.i1.w
  ·exact joinF_ok hl.w hs.i0.w
 ·split
  ·exact asofF_ok hl.w hs.i1.w hl.n
  ·rename_i h0
   obtain rfl : i = 1 := by omega
   exact ((asofF_ok (near_okI hs.i0 _ _).w (hs.i1.app hl).cons.w (near_okI hs.i0 _ _).n).app (neg_ok (asofF_ok (near_okI hs.i0 _ _).w hs.i1.w (near_okI hs.i0 _ _).n))).cons
theorem chgF_len {n : GNode} {i : Int} {l : List GDelta} {s : GSide} (hs : okSd n s) (hl : l.length ≤ 10000) : (chgF n i l s).length ≤ 100000000 := by
 have h0 := hs.l0
 have h1 := hs.l1
 unfold chgF
 split
 ·have : (joinF n i l (if i = 0 then s.rows_.e1 else s.rows_.e0)).length ≤ 10000 * 10000 := by
   refine Nat.le_trans (flatMap_len (joinA_len n i _) l) (Nat.mul_le_mul hl ?_)
   split <;> assumption
  omega
 ·split
  ·have := asofF_len n l s.rows_.e1; omega
  ·refine Nat.le_trans (cons_len _) ?_
   rw [List.length_append, List.length_map]
   have h2 := nearF_len s.rows_.e0 (l.getD 0 default).Time ((l.getD (l.length - 1) default).Time + n.Keep)
   generalize nearF s.rows_.e0 (l.getD 0 default).Time ((l.getD (l.length - 1) default).Time + n.Keep) = c at *
   have h3 := asofF_len n c (cons (s.rows_.e1 ++ l))
   have h4 := asofF_len n c s.rows_.e1
   omega
theorem G59s0_eq (i : Int) (l : List GDelta) (n : GNode) (cl : Int) (m : KS) (k : ByteArray) (s : GSide) (hi : i = 0 ∨ i = 1) (hn : okNode n) (hc : Can l) (hl : okI n i l) (hs : okSd n s) (h0 : l ≠ []) (hlen : l.length ≤ 10000) :
  G59s0 i l n cl m k s = some (chgF n i l s) := by
 have hs0 := hs.l0
 have hs1 := hs.l1
 unfold G59s0 T59s0
 simp only [Tr.den]
 rcases hn.op with ⟨hop, hB⟩ | ⟨hop, hK⟩
 ·rw [if_pos (beqT hop)]
  have hF : chgF n i l s = joinF n i l (if i = 0 then s.rows_.e1 else s.rows_.e0) := by unfold chgF; rw [if_pos hop]
  rw [hF]
  rcases hi with rfl | rfl
  ·rw [show IntKind.i64.wrap (1 - (0 : Int)) = 1 by rw [wrap_id] <;> omega, if_neg (by omega), if_pos rfl, if_pos rfl,
    G126s0_eq 0 l s.rows_.e1 n cl m k s (.inl rfl) hB hs.c1.ts hl.tm hs.i1.tm hl.w hs.i1.w (by omega) (by omega)]
   rfl
  ·rw [show IntKind.i64.wrap (1 - (1 : Int)) = 0 by rw [wrap_id] <;> omega, if_pos rfl, if_neg (by omega),
    G126s0_eq 1 l s.rows_.e0 n cl m k s (.inr rfl) hB hs.c0.ts hl.tm hs.i0.tm hl.w hs.i0.w (by omega) (by omega)]
   rfl
 ·rw [if_neg (beqF (by omega))]
  have hop6 : ¬ n.Op = 6 := by omega
  rcases hi with rfl | rfl
  ·rw [if_pos (beqT rfl), G127s0_eq l s.rows_.e1 n cl m k s hK hs.c1.ts hl.tm hs.i1.tm hl.w hs.i1.w (by omega) (by omega)]
   have hF : chgF n 0 l s = asofF n l s.rows_.e1 := by unfold chgF; rw [if_neg hop6, if_pos rfl]
   rw [hF]
   rfl
  ·have hl0 := List.length_pos_iff.2 h0
   have w1 : IntKind.i64.wrap ((l.length : Int) - 1) = ((l.length - 1 : Nat) : Int) := by rw [wrap_id] <;> omega
   have t1 := hl.tm.get (l.length - 1)
   have t0 := hl.tm.get 0
   have w2 : IntKind.i64.wrap ((l.getD (l.length - 1) default).Time + n.Keep) = (l.getD (l.length - 1) default).Time + n.Keep := by rw [wrap_id] <;> omega
   rw [if_neg (beqF (by omega)), w1]
   simp only [Int.toNat_natCast, Int.toNat_zero]
   rw [w2, if_pos (by omega), if_pos (by omega), if_pos (by omega)]
   have hF : chgF n 1 l s = cons (asofF n (nearF s.rows_.e0 (l.getD 0 default).Time ((l.getD (l.length - 1) default).Time + n.Keep)) (cons (s.rows_.e1 ++ l)) ++ (asofF n (nearF s.rows_.e0 (l.getD 0 default).Time ((l.getD (l.length - 1) default).Time + n.Keep)) s.rows_.e1).map neg) := by
    unfold chgF; rw [if_neg hop6, if_neg (by omega)]
   rw [hF, G128_eq s.rows_.e0 _ _ hs.c0.ts hs.i0.tm (by omega) (by omega) (by omega)]
   simp only [Option.bind_some]
   have c1 := near_okI hs.i0 (l.getD 0 default).Time ((l.getD (l.length - 1) default).Time + n.Keep)
   have c2 := nearF_len s.rows_.e0 (l.getD 0 default).Time ((l.getD (l.length - 1) default).Time + n.Keep)
   generalize nearF s.rows_.e0 (l.getD 0 default).Time ((l.getD (l.length - 1) default).Time + n.Keep) = c at *
   have okA := (hs.i1.app hl)
   have hcl := cons_len (s.rows_.e1 ++ l)
   rw [List.length_append] at hcl
   rw [if_pos (by omega), G12_eq _ _ hs.i1.okD hl.okD (by omega)]
   simp only [Option.bind_some]
   rw [G127s0_eq c (cons (s.rows_.e1 ++ l)) n cl m k s hK (cons_can okA.n).ts c1.tm okA.cons.tm c1.w okA.cons.w (by omega) (by omega)]
   simp only [Option.bind_some]
   rw [if_pos (by omega), G127s0_eq c s.rows_.e1 n cl m k s hK hs.c1.ts c1.tm hs.i1.tm c1.w hs.i1.w (by omega) (by omega)]
   simp only [Option.bind_some]
   have a1 := asofF_len n c (cons (s.rows_.e1 ++ l))
   have a2 := asofF_len n c s.rows_.e1
   rw [G129_eq _ _ (asofF_ok c1.w okA.cons.w c1.n) (asofF_ok c1.w hs.i1.w c1.n) (by omega)]
   rfl
def cntS (s : GSide) : Int := wt all1 s.rows_.e0 + wt all1 s.rows_.e1
def cntK (m : KS) (k : ByteArray) : Int := match mlook m k with | some s => cntS s | none => 0
theorem G15s0_eq (n : GNode) (cl : Int) (m : KS) (hm : MC m) (hl : ∀ k s, mlook m k = some s → s.rows_.e0.length ≤ 1000000000000 ∧ s.rows_.e1.length ≤ 1000000000000) : G15s0 n cl m = some (W (sumK (cntK m) (mkeys m)), m) := by
 unfold G15s0
 refine Det.eq ?_
 unfold T15s0
 simp only [Tr.wpT]
 refine loopWp (fun s : List ByteArray × KS × Int => s.2.1 = m ∧ s.1.Nodup ∧ (∀ k, k ∈ s.1 → k ∈ mkeys m) ∧ W (s.2.2 + sumK (cntK m) s.1) = W (sumK (cntK m) (mkeys m)) ∧ in64 s.2.2) (fun s => s.1.length) (fun s hs => ?_) (s := (mkeys m, m, 0)) ⟨rfl, hm.nodup LO.bytes, fun _ h => h, by rw [Int.zero_add], by simp only; omega, by simp only; omega⟩
 obtain ⟨rem, m', acc⟩ := s
 obtain ⟨e, h1, h2, h3, h4⟩ := hs
 simp only at e h1 h2 h3 h4
 subst e
 unfold T15s0_L0
 simp only [Tr.wpT]
 refine ⟨fun hr => ?_, fun k c hk hc => ?_, fun hr => ?_⟩
 ·subst hr
  simp only [sel]
  simp only [sumK, Int.add_zero] at h3
  rw [← h3, W_id h4]
 ·obtain ⟨q0, q1⟩ := hl k c hc
  refine ⟨by omega, _, G13_eq _ q0, by omega, _, G13_eq _ q1, ?_⟩
  simp only [sel]
  have hp := kerase_perm hk
  refine ⟨⟨mput_self LO.bytes hm hc, kerase_nodup h1 k, fun k' hk' => h2 k' ((kerase_mem h1).1 hk').2, ?_, W_in _⟩, kerase_len hk⟩
  rw [← h3, sumK_perm _ hp]
  simp only [sumK]
  have e1 : cntK m' k = cntS c := by unfold cntK; rw [hc]
  rw [e1]
  unfold cntS
  have e2 : W (acc + W (W (wt all1 c.rows_.e0) + W (wt all1 c.rows_.e1))) = W (acc + (wt all1 c.rows_.e0 + wt all1 c.rows_.e1)) := by
   show IntKind.i64.wrap _ = IntKind.i64.wrap _
   rw [wrap_addR]
   refine W_add rfl ?_
   show IntKind.i64.wrap _ = IntKind.i64.wrap _
   rw [wrap_addL, wrap_addR]
  rw [← Int.add_assoc]
  exact W_add (by rw [← e2]; exact wrap_wrap _) rfl
 ·obtain ⟨k, rest, rfl⟩ := List.exists_cons_of_ne_nil hr
  obtain ⟨c, hc⟩ := mkeys_look.1 (h2 k List.mem_cons_self)
  exact ⟨k, c, List.mem_cons_self, hc⟩
theorem G16s0_eq (n : GNode) (cl : Int) (m : KS) : G16s0 n cl m = some (decide (m = [])) := by
 unfold G16s0 T16s0
 simp only [Tr.den]
 congr 1
 cases m with
 | nil => rfl
 | cons p m => simp; omega
end Go.PL
namespace Go.PL
open Go
set_option linter.unusedVariables false
set_option maxRecDepth 20000
def setS (m : KS) (k : ByteArray) : Option GSide → KS
 | none => mdel m k
 | some s => mput m k s
theorem setS_look (m : KS) (k : ByteArray) (o : Option GSide) (k' : ByteArray) : mlook (setS m k o) k' = if k = k' then o else mlook m k' := by
 cases o with
 | none => exact mlook_mdel m k k'
 | some s => exact mlook_mput m k s k'
theorem setS_mc {m : KS} (h : MC m) (k : ByteArray) (o : Option GSide) : MC (setS m k o) := by
 cases o with
 | none => exact h.mdel k
 | some s => exact h.mput LO.bytes k s
def updS (i : Int) (s : GSide) (c : List GDelta) : GSide := if i = 0 then ⟨⟨cons (s.rows_.e0 ++ c), s.rows_.e1⟩⟩ else ⟨⟨s.rows_.e0, cons (s.rows_.e1 ++ c)⟩⟩
def keepS (s : GSide) : Option GSide := if s.rows_.e0.length + s.rows_.e1.length = 0 then none else some s
def newS (n : GNode) (i : Int) (l : List GDelta) (m : KS) (k : ByteArray) : Option GSide := keepS (updS i ((mlook m k).getD side0) (ofK n i k l))
def pushM (n : GNode) (i : Int) (l : List GDelta) (m : KS) : KS := (mkeys (groupM n i l)).foldl (fun m' k => setS m' k (newS n i l m k)) m
def pushO (n : GNode) (i : Int) (l : List GDelta) (m : KS) (k : ByteArray) : List GDelta := chgF n i (ofK n i k l) ((mlook m k).getD side0)
theorem foldS_look (f : ByteArray → Option GSide) (k : ByteArray) : ∀ (ks : List ByteArray) (m' : KS), (k ∈ ks → mlook (ks.foldl (fun m' k => setS m' k (f k)) m') k = f k) ∧ (k ∉ ks → mlook (ks.foldl (fun m' k => setS m' k (f k)) m') k = mlook m' k) := by
 intro ks
 induction ks with
 | nil => exact fun m' => ⟨fun h => by simp at h, fun _ => rfl⟩
 | cons a ks ih =>
  intro m'
  have ih := ih (setS m' a (f a))
  rw [List.foldl_cons]
  refine ⟨fun h => ?_, fun h => ?_⟩
  ·by_cases h' : k ∈ ks
   ·exact ih.1 h'
   ·rw [ih.2 h', setS_look]
    rcases List.mem_cons.1 h with rfl | h
    ·rw [if_pos rfl]
    ·exact absurd h h'
  ·simp only [List.mem_cons, not_or] at h
   rw [ih.2 h.2, setS_look, if_neg (fun he => h.1 he.symm)]
theorem pushM_in {n : GNode} {i : Int} {l : List GDelta} {m : KS} {k : ByteArray} (h : k ∈ mkeys (groupM n i l)) : mlook (pushM n i l m) k = newS n i l m k := (foldS_look (newS n i l m) k _ m).1 h
theorem pushM_out {n : GNode} {i : Int} {l : List GDelta} {m : KS} {k : ByteArray} (h : k ∉ mkeys (groupM n i l)) : mlook (pushM n i l m) k = mlook m k := (foldS_look (newS n i l m) k _ m).2 h
theorem pushM_mc (n : GNode) (i : Int) (l : List GDelta) {m : KS} (h : MC m) : MC (pushM n i l m) := by
 unfold pushM
 have : ∀ (ks : List ByteArray) (m' : KS), MC m' → MC (ks.foldl (fun m' k => setS m' k (newS n i l m k)) m') := by
  intro ks
  induction ks with
  | nil => exact fun m' h => h
  | cons a ks ih => exact fun m' h => ih _ (setS_mc h _ _)
 exact this _ m h
theorem groupM_len (n : GNode) (i : Int) (l : List GDelta) : (groupM n i l).length ≤ l.length := by
 have : ∀ (l : List GDelta) (m : List (ByteArray × List GDelta)), (l.foldl (fun m d => mput m (kd n i d) ((mlook m (kd n i d)).getD [] ++ [d])) m).length ≤ m.length + l.length := by
  intro l
  induction l with
  | nil => intro m; simp
  | cons d l ih =>
   intro m
   rw [List.foldl_cons]
   refine Nat.le_trans (ih _) ?_
   have h1 := (mput_perm m (kd n i d) ((mlook m (kd n i d)).getD [] ++ [d])).length_eq
   have h2 : (mdel m (kd n i d)).length ≤ m.length := List.length_filter_le _ _
   rw [h1]; simp only [List.length_cons]; omega
 have h2 := this l []
 simp only [List.length_nil, Nat.zero_add] at h2
 exact h2
structure okM (n : GNode) (m : KS) : Prop where
 mc : MC m
 s : ∀ k s, mlook m k = some s → okSd n s
theorem okM.get {n : GNode} {m : KS} (h : okM n m) (k : ByteArray) : okSd n ((mlook m k).getD side0) := by
 cases hc : mlook m k with
 | none => exact okSd0 n
 | some s => exact h.s k s hc
theorem flatMapK_len {f : ByteArray → List GDelta} {c : Nat} (h : ∀ a, (f a).length ≤ c) (l : List ByteArray) : (l.flatMap f).length ≤ l.length * c := by
 induction l with
 | nil => simp
 | cons a l ih =>
  rw [List.flatMap_cons, List.length_append, List.length_cons, Nat.add_mul]
  have := h a
  omega
theorem ofK_can {n : GNode} {i : Int} {k : ByteArray} {l : List GDelta} (h : Can l) : Can (ofK n i k l) := h.filter _
theorem ofK_okI {n : GNode} {i : Int} {k : ByteArray} {l : List GDelta} (h : okI n i l) : okI n i (ofK n i k l) := h.sub fun x hx => (List.mem_filter.1 hx).1
theorem perm_cons_eq {l r : List GDelta} (h : l.Perm r) (hl : okN l) : cons l = cons r := (cons_can hl).ext (cons_can fun x hx => hl x (h.mem_iff.2 hx)) ((cons_same l).trans ((Same.of_perm h).trans (cons_same r).symm))
structure PInv (n : GNode) (i : Int) (r : List GDelta) (m : KS) (s : List ByteArray × List (ByteArray × List GDelta) × KS × Int × List GDelta) : Prop where
 gg : s.2.1 = groupM n i r
 ii : s.2.2.2.1 = i
 nd : s.1.Nodup
 sub : ∀ k, k ∈ s.1 → k ∈ mkeys (groupM n i r)
 mc : MC s.2.2.1
 new : ∀ k, k ∈ mkeys (groupM n i r) → k ∉ s.1 → mlook s.2.2.1 k = newS n i r m k
 old : ∀ k, k ∉ mkeys (groupM n i r) ∨ k ∈ s.1 → mlook s.2.2.1 k = mlook m k
 out : ∃ done : List ByteArray, (done ++ s.1).Perm (mkeys (groupM n i r)) ∧ s.2.2.2.2 = done.flatMap (pushO n i r m)
theorem G25s0_eq (i : Int) (l : List GDelta) (n : GNode) (cl : Int) (m : KS) (hi : i = 0 ∨ i = 1) (hn : okNode n) (hl : okI n i l) (hm : okM n m) (hlen : l.length ≤ 1000) (hcl : (cons l).length ≤ 1000) :
  G25s0 i l n cl m = some (cons ((mkeys (groupM n i (cons l))).flatMap (pushO n i (cons l) m)), pushM n i (cons l) m) := by
 unfold G25s0
 refine Det.eq ?_
 unfold T25s0
 simp only [Tr.wpT]
 refine ⟨_, G58s0_eq i l n cl m hi hl (hn.cols i) (by omega), ?_⟩
 have hkI := hl.cons
 have hkC := cons_can hl.n
 generalize cons l = r at hcl hkI hkC
 have hg := groupM_mc n i r
 have hgl := groupM_len n i r
 have hbig : ∀ k, (pushO n i r m k).length ≤ 100000000 := fun k => chgF_len (hm.get k) (Nat.le_trans (ofK_len n i k r) (by omega))
 have hokO : ∀ k, okD (pushO n i r m k) := fun k => chgF_ok hi (ofK_okI hkI) (hm.get k)
 refine loopWp (PInv n i r m) (fun s => s.1.length) (fun s hs => ?_)
  (s := (mkeys (groupM n i r), groupM n i r, m, i, [])) ⟨rfl, rfl, hg.nodup LO.bytes, fun _ h => h, hm.mc, fun k h h' => absurd h h', fun k _ => rfl, [], by simp, rfl⟩
 obtain ⟨rem, g, m', i', out⟩ := s
 obtain ⟨e1, e2, h1, h2, h3, h4, h4', done, h5, h6⟩ := hs
 simp only at e1 e2 h1 h2 h3 h4 h4' h5 h6
 subst e1 e2 h6
 have hdl : done.length + rem.length ≤ 1000 := by
  have := h5.length_eq
  rw [List.length_append, mkeys, List.length_map] at this
  omega
 have hdone : (done.flatMap (pushO n i' r m)).length ≤ 1000 * 100000000 :=
  Nat.le_trans (flatMapK_len hbig done) (Nat.mul_le_mul (show done.length ≤ 1000 by omega) (Nat.le_refl _))
 unfold T25s0_L0
 simp only [Tr.wpT]
 refine ⟨fun hr => ?_, fun k c hk hc => ?_, fun hr => ?_⟩
 ·subst hr
  simp only [sel]
  rw [List.append_nil] at h5
  have hp : (done.flatMap (pushO n i' r m)).Perm ((mkeys (groupM n i' r)).flatMap (pushO n i' r m)) := flatMap_perm _ h5
  have hokd : okD (done.flatMap (pushO n i' r m)) := ⟨fun x hx => by
   obtain ⟨a, ha, hx⟩ := List.mem_flatMap.1 hx
   exact (hokO a).r x hx, fun x hx => by
   obtain ⟨a, ha, hx⟩ := List.mem_flatMap.1 hx
   exact (hokO a).n x hx⟩
  refine ⟨_, G27_eq _ hokd.r hokd.n (by omega), ?_⟩
  rw [perm_cons_eq hp hokd.n]
  congr 1
  refine h3.ext LO.bytes (pushM_mc n i' r hm.mc) fun k => ?_
  by_cases hk : k ∈ mkeys (groupM n i' r)
  ·rw [h4 k hk (by simp), pushM_in hk]
  ·rw [h4' k (.inl hk), pushM_out hk]
 ·have hkg := h2 k hk
  have hlook := groupM_look n i' k r
  rw [hc] at hlook
  have hne : ofK n i' k r ≠ [] := by
   intro h0
   rw [if_pos h0] at hlook; cases hlook
  rw [if_neg hne] at hlook
  cases hlook
  have hm' := h4' k (.inr hk)
  have hb := hbig k
  have hp := kerase_perm hk
  have fin : ∀ m2, m2 = setS m' k (newS n i' r m k) → PInv n i' r m (kerase rem k, mput (groupM n i' r) k (ofK n i' k r), m2, i', done.flatMap (pushO n i' r m) ++ pushO n i' r m k) ∧ (kerase rem k).length < rem.length := by
   rintro m2 rfl
   refine ⟨⟨mput_self LO.bytes hg hc, rfl, kerase_nodup h1 k, fun k' hk' => h2 k' ((kerase_mem h1).1 hk').2, setS_mc h3 _ _, fun k' q1 q2 => ?_, fun k' q => ?_, done ++ [k], ?_, ?_⟩, kerase_len hk⟩
   ·simp only at q2 ⊢
    rw [setS_look]
    by_cases hkk : k = k'
    ·subst hkk; rw [if_pos rfl]
    ·rw [if_neg hkk]
     exact h4 k' q1 fun h => q2 ((kerase_mem h1).2 ⟨fun he => hkk he.symm, h⟩)
   ·simp only at q ⊢
    rw [setS_look]
    have hkk : ¬ k = k' := by
     rintro rfl
     rcases q with q | q
     ·exact q hkg
     ·exact ((kerase_mem h1).1 q).1 rfl
    rw [if_neg hkk]
    refine h4' k' (q.imp id fun q => ((kerase_mem h1).1 q).2)
   ·refine List.Perm.trans ?_ h5
    rw [List.append_assoc]
    exact List.Perm.append_left _ hp.symm
   ·simp
  have hcl' := ofK_len n i' k r
  have okK := ofK_okI (k := k) hkI
  have canK := ofK_can (n := n) (i := i') (k := k) hkC
  have main : ∀ s : GSide, okSd n s → (mlook m k).getD side0 = s → ∃ r1, G59s0 i' (ofK n i' k r) n cl (mdel m' k) k s = some r1 ∧ r1 = pushO n i' r m k := by
   intro s hs he
   refine ⟨_, G59s0_eq i' _ n cl _ k s hi hn canK okK hs hne (by omega), ?_⟩
   unfold pushO; rw [he]
  have nw : ∀ s : GSide, (mlook m k).getD side0 = s → newS n i' r m k = keepS (updS i' s (ofK n i' k r)) := by
   intro s he; unfold newS; rw [he]
  have wlen : ∀ a b : List GDelta, a.length + b.length ≤ 1000000 → (IntKind.i64.wrap ((a.length : Int) + (b.length : Int)) == 0) = decide (a.length + b.length = 0) := by
   intro a b hab
   rw [wrap_add (by omega), Bool.eq_iff_iff, beq_iff_eq, decide_eq_true_eq]
   omega
  have gen : ∀ s : GSide, okSd n s → (mlook m k).getD side0 = s →
    (i' = 0 → ∃ e, G12 s.rows_.e0 (ofK n i' k r) = some e ∧ e.length + s.rows_.e1.length ≤ 1000000 ∧ keepS ⟨⟨e, s.rows_.e1⟩⟩ = newS n i' r m k) ∧
    (i' = 1 → ∃ e, G12 s.rows_.e1 (ofK n i' k r) = some e ∧ s.rows_.e0.length + e.length ≤ 1000000 ∧ keepS ⟨⟨s.rows_.e0, e⟩⟩ = newS n i' r m k) := by
   intro s hs he
   have l0 := hs.l0
   have l1 := hs.l1
   have c0 := cons_len (s.rows_.e0 ++ ofK n i' k r)
   have c1 := cons_len (s.rows_.e1 ++ ofK n i' k r)
   rw [List.length_append] at c0 c1
   constructor
   ·rintro h0
    refine ⟨_, G12_eq _ _ hs.i0.okD okK.okD (by omega), by omega, ?_⟩
    rw [nw s he]; unfold updS; rw [if_pos h0]
   ·rintro h0
    refine ⟨_, G12_eq _ _ hs.i1.okD okK.okD (by omega), by omega, ?_⟩
    rw [nw s he]; unfold updS; rw [if_neg (by omega)]
  have keep0 : ∀ a b : List GDelta, a.length + b.length = 0 → keepS ⟨⟨a, b⟩⟩ = newS n i' r m k → mdel m' k = setS m' k (newS n i' r m k) := by
   intro a b h0 h
   unfold keepS at h
   rw [if_pos h0] at h
   rw [← h]; rfl
  have keep1 : ∀ a b : List GDelta, ¬ a.length + b.length = 0 → keepS ⟨⟨a, b⟩⟩ = newS n i' r m k → mput m' k ⟨⟨a, b⟩⟩ = setS m' k (newS n i' r m k) := by
   intro a b h0 h
   unfold keepS at h
   rw [if_neg h0] at h
   rw [← h]; rfl
  rw [hm']
  cases hmk : mlook m k with
  | none =>
   have he : (mlook m k).getD side0 = side0 := by rw [hmk]; rfl
   obtain ⟨r1, a1, rfl⟩ := main side0 (okSd0 n) he
   obtain ⟨g0, g1⟩ := gen side0 (okSd0 n) he
   simp only
   refine ⟨_, a1, by omega, ?_⟩
   rcases hi with h0 | h0
   ·obtain ⟨e, b1, b2, b3⟩ := g0 h0
    rw [if_pos h0]
    refine ⟨by omega, e, b1, by omega, by omega, by omega, ?_⟩
    have wl := wlen e [] b2
    by_cases hz : e.length + ([] : List GDelta).length = 0
    ·rw [if_pos (by rw [wl]; exact decT hz)]
     simp only [sel]
     rw [← h0]
     exact fin _ (keep0 _ _ hz b3)
    ·rw [if_neg (by rw [wl]; exact decF hz)]
     simp only [sel]
     rw [← h0]
     exact fin _ (keep1 _ _ hz b3)
   ·obtain ⟨e, b1, b2, b3⟩ := g1 h0
    rw [if_neg (by omega), if_pos h0]
    refine ⟨by omega, e, b1, by omega, by omega, by omega, ?_⟩
    have wl := wlen [] e b2
    by_cases hz : ([] : List GDelta).length + e.length = 0
    ·rw [if_pos (by rw [wl]; exact decT hz)]
     simp only [sel]
     rw [← h0]
     exact fin _ (keep0 _ _ hz b3)
    ·rw [if_neg (by rw [wl]; exact decF hz)]
     simp only [sel]
     rw [← h0]
     exact fin _ (keep1 _ _ hz b3)
  | some s =>
   have he : (mlook m k).getD side0 = s := by rw [hmk]; rfl
   have hs := hm.s k s hmk
   obtain ⟨r1, a1, rfl⟩ := main s hs he
   obtain ⟨g0, g1⟩ := gen s hs he
   simp only
   refine ⟨_, a1, by omega, ?_⟩
   rcases hi with h0 | h0
   ·obtain ⟨e, b1, b2, b3⟩ := g0 h0
    rw [if_pos h0]
    refine ⟨by omega, e, b1, by omega, by omega, by omega, ?_⟩
    have wl := wlen e s.rows_.e1 b2
    by_cases hz : e.length + s.rows_.e1.length = 0
    ·rw [if_pos (by rw [wl]; exact decT hz)]
     simp only [sel]
     rw [← h0]
     exact fin _ (keep0 _ _ hz b3)
    ·rw [if_neg (by rw [wl]; exact decF hz)]
     simp only [sel]
     rw [← h0]
     exact fin _ (keep1 _ _ hz b3)
   ·obtain ⟨e, b1, b2, b3⟩ := g1 h0
    rw [if_neg (by omega), if_pos h0]
    refine ⟨by omega, e, b1, by omega, by omega, by omega, ?_⟩
    have wl := wlen s.rows_.e0 e b2
    by_cases hz : s.rows_.e0.length + e.length = 0
    ·rw [if_pos (by rw [wl]; exact decT hz)]
     simp only [sel]
     rw [← h0]
     exact fin _ (keep0 _ _ hz b3)
    ·rw [if_neg (by rw [wl]; exact decF hz)]
     simp only [sel]
     rw [← h0]
     exact fin _ (keep1 _ _ hz b3)
 ·obtain ⟨k, rest, rfl⟩ := List.exists_cons_of_ne_nil hr
  obtain ⟨c, hc⟩ := mkeys_look.1 (h2 k List.mem_cons_self)
  exact ⟨k, c, List.mem_cons_self, hc⟩
end Go.PL
namespace Go.PL
open Go
set_option linter.unusedVariables false
set_option maxRecDepth 20000
theorem bit1 (d : Int) : bitA .i64 d 1 = 0 ∨ bitA .i64 d 1 = 1 := by
 unfold bitA
 have h : ∀ x : BitVec 64, x &&& 1#64 = 0#64 ∨ x &&& 1#64 = 1#64 := fun x => by
  rw [BitVec.and_one_eq_setWidth_ofBool_getLsbD]
  cases x.getLsbD 0
  ·exact .inl rfl
  ·exact .inr rfl
 have e : (BitVec.ofInt 64 1) = 1#64 := by decide
 rcases h (BitVec.ofInt 64 d) with h1 | h1
 ·left
  show IntKind.i64.wrap ((BitVec.ofInt 64 d &&& BitVec.ofInt 64 1).toNat : Int) = 0
  rw [show (BitVec.ofInt 64 1) = 1#64 from e, h1]; rfl
 ·right
  show IntKind.i64.wrap ((BitVec.ofInt 64 d &&& BitVec.ofInt 64 1).toNat : Int) = 1
  rw [show (BitVec.ofInt 64 1) = 1#64 from e, h1]; rfl
theorem G97_eq (a b c : Int) : G97 a b c = some (decide (b ≤ a ∧ a ≤ c)) := by
 unfold G97 T97
 simp only [Tr.den]
 by_cases h : a ≥ b
 ·rw [if_pos (decT h)]
  simp only [Option.bind_some]
  congr 1
  by_cases h' : a ≤ c
  ·rw [decT h', decT ⟨h, h'⟩]
  ·rw [Bool.eq_iff_iff, decide_eq_true_eq, decide_eq_true_eq]; omega
 ·rw [if_neg (decF h)]
  simp only [Option.bind_some]
  congr 1
  rw [Bool.eq_iff_iff, decide_eq_true_eq]
  constructor
  ·intro h; cases h
  ·omega
def backF (n : GNode) : Int := if n.Op = 6 then (if n.After > n.Before then n.After else n.Before) else n.Keep - 1
theorem G38_6 : G38 6 = some 6 := by
 unfold G38 T38
 simp [Tr.den, G97_eq]
theorem G38_7 : G38 7 = some 7 := by
 unfold G38 T38
 simp [Tr.den, G97_eq]
theorem G10_eq' {n : GNode} (hn : (n.Op = 6 ∧ okB n) ∨ (n.Op = 7 ∧ 1 ≤ n.Keep ∧ n.Keep ≤ 10000)) : G10 n = some (backF n, 0) := by
 unfold G10 T10 G37 T37
 simp only [Tr.den]
 rcases hn with ⟨h, hB⟩ | ⟨h, hK⟩
 ·rw [h, G38_6]
  have hb := hB.b
  have ha := hB.a
  have e : G98 n = some true := by
   unfold G98 T98
   simp only [Tr.den, G97_eq, Option.bind_some]
   rw [if_pos (decT hb), decT ha]; rfl
  have e2 : G99 n = some (backF n, 0) := by unfold G99 T99 backF; simp only [Tr.den]; rw [if_pos h]
  simp only [Option.bind_some, Nat.reduceLT, if_true, Tr.den, e, e2, Bool.not_true, Bool.false_eq_true, if_false]
 ·rw [h, G38_7]
  have e : G100 n = some true := by
   unfold G100 T100
   simp only [Tr.den, G97_eq, Option.bind_some]
   rw [decT hK]
  have e2 : G101 n = some (backF n, 0) := by
   unfold G101 T101 backF
   simp only [Tr.den]
   rw [if_neg (show ¬ n.Op = 6 by omega), wrap_id (by omega) (by omega)]
  simp only [Option.bind_some, Nat.reduceLT, if_true, Tr.den, e, e2, Bool.not_true, Bool.false_eq_true, if_false]
theorem G10_eq {n : GNode} (hn : okNode n) : G10 n = some (backF n, 0) := G10_eq' hn.op
theorem backF_in {n : GNode} (hn : okNode n) : 0 ≤ backF n ∧ backF n ≤ 10000 := by
 unfold backF
 rcases hn.op with ⟨h, hB⟩ | ⟨h, hK⟩
 ·rw [if_pos h]
  have hb := hB.b
  have ha := hB.a
  split <;> omega
 ·rw [if_neg (by omega)]; omega
def cutS (t : Int) (s : GSide) : GSide := ⟨⟨s.rows_.e0.filter (aft t), s.rows_.e1.filter (aft t)⟩⟩
def newC (t : Int) (m : KS) (k : ByteArray) : Option GSide := keepS (cutS t ((mlook m k).getD side0))
def closeM (t : Int) (m : KS) : KS := (mkeys m).foldl (fun m' k => setS m' k (newC t m k)) m
theorem closeM_look (t : Int) (m : KS) (k : ByteArray) : mlook (closeM t m) k = (mlook m k).bind fun s => keepS (cutS t s) := by
 by_cases h : k ∈ mkeys m
 ·rw [closeM, (foldS_look (newC t m) k _ m).1 h]
  obtain ⟨c, hc⟩ := mkeys_look.1 h
  unfold newC; rw [hc]; rfl
 ·rw [closeM, (foldS_look (newC t m) k _ m).2 h]
  cases hc : mlook m k with
  | none => rfl
  | some c => exact absurd (mkeys_look.2 ⟨c, hc⟩) h
theorem foldS_mc (f : ByteArray → Option GSide) : ∀ (ks : List ByteArray) {m' : KS}, MC m' → MC (ks.foldl (fun m' k => setS m' k (f k)) m') := by
 intro ks
 induction ks with
 | nil => exact fun h => h
 | cons a ks ih => exact fun h => ih (setS_mc h _ _)
theorem closeM_mc (t : Int) {m : KS} (h : MC m) : MC (closeM t m) := foldS_mc _ _ h
structure CInv (t : Int) (m : KS) (s : List ByteArray × KS) : Prop where
 nd : s.1.Nodup
 sub : ∀ k, k ∈ s.1 → k ∈ mkeys m
 mc : MC s.2
 new : ∀ k, k ∈ mkeys m → k ∉ s.1 → mlook s.2 k = newC t m k
 old : ∀ k, k ∉ mkeys m ∨ k ∈ s.1 → mlook s.2 k = mlook m k
theorem G32s0_old (c : Int) (n : GNode) (cl : Int) (m : KS) (h : c ≤ cl) : G32s0 c n cl m = some (m, cl) := by
 unfold G32s0
 refine Det.eq ?_
 unfold T32s0
 simp only [Tr.wpT]
 rw [if_pos (decT h)]
 trivial
theorem G32s0_eq (c : Int) (n : GNode) (cl : Int) (m : KS) (hn : okNode n) (hm : okM n m) (h : cl < c) (h0 : 0 ≤ c) (h1 : c ≤ 2199023255552) : G32s0 c n cl m = some (closeM (c - backF n) m, c) := by
 have hbk := backF_in hn
 unfold G32s0
 refine Det.eq ?_
 unfold T32s0
 simp only [Tr.wpT]
 rw [if_neg (decF (by omega))]
 refine ⟨_, G10_eq hn, ?_⟩
 have wt : IntKind.i64.wrap (c - backF n) = c - backF n := wrap_id (by omega) (by omega)
 refine loopWp (CInv (c - backF n) m) (fun s => s.1.length) (fun s hs => ?_)
  (s := (mkeys m, m)) ⟨hm.mc.nodup LO.bytes, fun _ h => h, hm.mc, fun k h h' => absurd h h', fun k _ => rfl⟩
 obtain ⟨rem, m'⟩ := s
 obtain ⟨h1, h2, h3, h4, h4'⟩ := hs
 simp only at h1 h2 h3 h4 h4'
 unfold T32s0_L0
 simp only [Tr.wpT]
 refine ⟨fun hr => ?_, fun k s hk hc => ?_, fun hr => ?_⟩
 ·subst hr
  simp only [sel]
  congr 1
  refine h3.ext LO.bytes (closeM_mc _ hm.mc) fun k => ?_
  by_cases hk : k ∈ mkeys m
  ·rw [h4 k hk (by simp), closeM, (foldS_look _ k _ m).1 hk]
  ·rw [h4' k (.inl hk), closeM, (foldS_look _ k _ m).2 hk]
 ·have hkm := h2 k hk
  have hs := h4' k (.inr hk)
  rw [hc] at hs
  have hS := hm.s k s hs.symm
  have l0 := hS.l0
  have l1 := hS.l1
  have q0 := G14_can s.rows_.e0 (c - backF n) hS.i0.okD hS.c0 (by omega)
  have q1 := G14_can s.rows_.e1 (c - backF n) hS.i1.okD hS.c1 (by omega)
  have nw : newC (c - backF n) m k = keepS ⟨⟨s.rows_.e0.filter (aft (c - backF n)), s.rows_.e1.filter (aft (c - backF n))⟩⟩ := by
   unfold newC cutS; rw [← hs]; rfl
  have fin : ∀ m2, m2 = setS m' k (newC (c - backF n) m k) → CInv (c - backF n) m (kerase rem k, m2) ∧ (kerase rem k).length < rem.length := by
   rintro m2 rfl
   refine ⟨⟨kerase_nodup h1 k, fun k' hk' => h2 k' ((kerase_mem h1).1 hk').2, setS_mc h3 _ _, fun k' q1 q2 => ?_, fun k' q => ?_⟩, kerase_len hk⟩
   ·simp only at q2 ⊢
    rw [setS_look]
    by_cases hkk : k = k'
    ·subst hkk; rw [if_pos rfl]
    ·rw [if_neg hkk]
     exact h4 k' q1 fun h => q2 ((kerase_mem h1).2 ⟨fun he => hkk he.symm, h⟩)
   ·simp only at q ⊢
    rw [setS_look]
    have hkk : ¬ k = k' := by
     rintro rfl
     rcases q with q | q
     ·exact q hkm
     ·exact ((kerase_mem h1).1 q).1 rfl
    rw [if_neg hkk]
    exact h4' k' (q.imp id fun q => ((kerase_mem h1).1 q).2)
  refine loopWp (fun z : List GDelta × List GDelta × Int => z = (s.rows_.e0, s.rows_.e1, 0) ∨ z = (s.rows_.e0.filter (aft (c - backF n)), s.rows_.e1, 1) ∨ z = (s.rows_.e0.filter (aft (c - backF n)), s.rows_.e1.filter (aft (c - backF n)), 2)) (fun z => (2 - z.2.2).toNat) (fun z hz => ?_) (.inl rfl)
  unfold T32s0_L1
  rcases hz with rfl | rfl | rfl
  ·simp only [Tr.wpT]
   rw [if_pos (decT (by omega)), if_pos trivial, wt]
   refine ⟨by omega, _, q0, by omega, ?_⟩
   rw [wrap_id (by omega) (by omega)]
   exact ⟨.inr (.inl rfl), by simp only; omega⟩
  ·simp only [Tr.wpT]
   rw [if_pos (decT (by omega)), if_neg (by omega), if_pos trivial, wt]
   refine ⟨by omega, _, q1, by omega, ?_⟩
   rw [wrap_id (by omega) (by omega)]
   exact ⟨.inr (.inr rfl), by simp only; omega⟩
  ·simp only [Tr.wpT]
   rw [if_neg (decF (by omega))]
   simp only [sel]
   refine ⟨by omega, by omega, ?_⟩
   have f0 := List.length_filter_le (aft (c - backF n)) s.rows_.e0
   have f1 := List.length_filter_le (aft (c - backF n)) s.rows_.e1
   generalize s.rows_.e0.filter (aft (c - backF n)) = x at *
   generalize s.rows_.e1.filter (aft (c - backF n)) = y at *
   have wl : (IntKind.i64.wrap ((x.length : Int) + (y.length : Int)) == 0) = decide (x.length + y.length = 0) := by
    rw [wrap_add (by omega), Bool.eq_iff_iff, beq_iff_eq, decide_eq_true_eq]
    omega
   by_cases hz : x.length + y.length = 0
   ·rw [if_pos (by rw [wl]; exact decT hz)]
    refine fin _ ?_
    rw [nw]; unfold keepS; rw [if_pos hz]; rfl
   ·rw [if_neg (by rw [wl]; exact decF hz)]
    refine fin _ ?_
    rw [nw]; unfold keepS; rw [if_neg hz]; rfl
 ·obtain ⟨k, rest, rfl⟩ := List.exists_cons_of_ne_nil hr
  obtain ⟨s, hs⟩ := mkeys_look.1 (h2 k List.mem_cons_self)
  exact ⟨k, s, List.mem_cons_self, (h4' k (.inr List.mem_cons_self)).trans hs⟩
theorem G9s0_eq (n : GNode) (h1 : n.Key.length ≤ 1000000) (h2 : n.Key2.length ≤ 1000000) : G9s0 n = some (n, -1, []) := by
 unfold G9s0 T9s0
 simp only [Tr.den]
 rw [G36_eq _ (by omega), G36_eq _ (by omega)]
 rfl
end Go.PL
namespace Go.PL
open Go
set_option linter.unusedVariables false
set_option maxRecDepth 20000
theorem G159_eq (a b : GValue) : G159 a b = some (cmpV a b) := by
 unfold G159 T159 cmpV thenC cmpI
 simp only [Tr.den, decide_eq_true_eq]
 have hs := bytesLess_cmp a.S.toList b.S.toList
 have h2 := bytesLess_cmp b.S.toList a.S.toList
 rw [Lib.toList_data, Lib.toList_data] at hs h2
 have e1 : Op.bytesLess a.S.toList b.S.toList = decide (cmpS a.S b.S < 0) := by rw [Lib.toList_data, Lib.toList_data]; exact hs
 have e2 : (a.S.toList == b.S.toList) = decide (cmpS a.S b.S = 0) := by
  rw [Bool.eq_iff_iff, beq_iff_eq, decide_eq_true_eq, TO.str.eq, Lib.toList_data, Lib.toList_data]
  constructor
  ·intro h
   generalize a.S = x at h ⊢
   generalize b.S = y at h ⊢
   cases x; cases y; simp at h; simp [h]
  ·intro h; rw [h]
 have h3 : cmpS a.S b.S = -1 ∨ cmpS a.S b.S = 0 ∨ cmpS a.S b.S = 1 := by
  unfold cmpS
  generalize a.S.data.toList = x
  generalize b.S.data.toList = y
  induction x generalizing y with
  | nil => cases y <;> simp [Lib.compareBytes]
  | cons u x ih =>
   cases y with
   | nil => simp [Lib.compareBytes]
   | cons v y =>
    rw [Lib.compareBytes]
    by_cases q1 : u < v
    ·rw [if_pos q1]; exact .inl rfl
    ·rw [if_neg q1]
     by_cases q2 : v < u
     ·rw [if_pos q2]; exact .inr (.inr rfl)
     ·rw [if_neg q2]; exact ih y
 rw [e1, e2]
 by_cases k1 : a.Kind < b.Kind
 ·simp [k1]
 ·by_cases k2 : b.Kind < a.Kind
  ·simp [k1, k2]
  ·by_cases n1 : a.N < b.N
   ·simp [k1, k2, n1]
   ·by_cases n2 : b.N < a.N
    ·simp [k1, k2, n1, n2]
    ·rcases h3 with h | h | h <;> simp [k1, k2, n1, n2, h]
theorem G116_eq (a b : List GValue) (ha : a.length ≤ 1073741824) (hb : b.length ≤ 1073741824) : G116 a b = some (cmpR a b) := by
 refine Sp.eq ?_
 unfold G116 T116
 simp only [Tr.den, sq_bind]
 refine Sq.while (fun k : Int => 0 ≤ k ∧ k ≤ a.length ∧ k ≤ b.length ∧ cmpR (a.drop k.toNat) (b.drop k.toNat) = cmpR a b) (fun k => a.length - k.toNat) (fun k hk => ?_) ⟨by omega, by omega, by omega, by simp⟩
 obtain ⟨h0, h1, h2, h3⟩ := hk
 unfold T116_L0
 simp only [Tr.den, G159_eq, Option.bind_some]
 have stop : (k = a.length ∨ k = b.length) → Sp (sel (fun _ : Unit => if decide ((a.length : Int) < (b.length : Int)) = true then some (-1 : Int) else if decide ((a.length : Int) > (b.length : Int)) = true then some 1 else some 0) some (Sum.inl ())) (fun z => z = cmpR a b) := by
  intro hk
  simp only [sel]
  rcases hk with hk | hk
  ·rw [List.drop_eq_nil_of_le (show a.length ≤ k.toNat by omega)] at h3
   by_cases hl : (a.length : Int) < b.length
   ·rw [if_pos (decT hl)]
    rw [drop_getD (show k.toNat < b.length by omega)] at h3
    exact sq_some.2 h3
   ·rw [if_neg (decF hl), if_neg (decF (by omega))]
    rw [List.drop_eq_nil_of_le (show b.length ≤ k.toNat by omega)] at h3
    exact sq_some.2 h3
  ·rw [List.drop_eq_nil_of_le (show b.length ≤ k.toNat by omega)] at h3
   rw [if_neg (decF (by omega))]
   by_cases hl : (a.length : Int) > b.length
   ·rw [if_pos (decT hl)]
    rw [drop_getD (show k.toNat < a.length by omega)] at h3
    exact sq_some.2 h3
   ·rw [if_neg (decF (by omega))]
    rw [List.drop_eq_nil_of_le (show a.length ≤ k.toNat by omega)] at h3
    exact sq_some.2 h3
 by_cases hk : k < a.length
 ·rw [if_pos (decT hk)]
  simp only [Option.bind_some]
  by_cases hk' : k < b.length
  ·rw [if_pos (decT hk'), if_pos ⟨h0, hk⟩, if_pos ⟨h0, hk'⟩]
   rw [drop_getD (show k.toNat < a.length by omega), drop_getD (show k.toNat < b.length by omega)] at h3
   simp only [cmpL] at h3
   by_cases hz : cmpV (a.getD k.toNat default) (b.getD k.toNat default) = 0
   ·rw [if_neg (bneF hz), wrap_id (by omega) (by omega)]
    refine sq_some.2 ⟨⟨by omega, by omega, by omega, ?_⟩, by omega⟩
    rw [show (k + 1).toNat = k.toNat + 1 by omega]; refine Eq.trans ?_ h3; simp only [thenC, hz, if_true]
   ·rw [if_pos (bneT hz)]
    refine sq_some.2 (sq_some.2 ?_)
    refine Eq.trans ?_ h3; simp only [thenC, if_neg hz]
  ·rw [if_neg (decF hk')]
   exact sq_some.2 (stop (.inr (by omega)))
 ·rw [if_neg (decF hk)]
  exact sq_some.2 (stop (.inl (by omega)))
theorem G49_eq (a b : GDelta) (ha : okR a) (hb : okR b) : G49 a b = some (cmpD a b) := by
 unfold G49 T49
 simp only [Tr.den]
 rw [G116_eq _ _ ha hb]
 unfold cmpD thenC cmpI
 by_cases h1 : a.Time < b.Time
 ·rw [if_pos (decT h1), if_pos h1, if_neg (by omega)]
 ·rw [if_neg (decF h1), if_neg h1]
  by_cases h2 : b.Time < a.Time
  ·rw [if_pos (decT h2), if_pos h2, if_neg (by omega)]
  ·rw [if_neg (decF h2), if_neg h2, if_pos rfl]; rfl
theorem G115_eq (d : GDelta) (n : Int) (h : okR d) : G115 d n = some ⟨d.Time, d.Row, n⟩ := by
 unfold okR at h
 unfold G115 T115
 simp only [Tr.den]
 rw [if_pos (by omega)]
theorem cmpD_le {x y : GDelta} : (cmpD x y ≤ 0) ↔ ltD y x = false := by
 have := cmpD_gt (x := x) (y := y)
 unfold ltD
 constructor
 ·intro h; exact decide_eq_false (by omega)
 ·intro h; have := of_decide_eq_false h; omega
theorem merge_sp (a b : List GDelta) (ha : Srt a) (hb : Srt b) (oa : okRs a) (ob : okRs b) (hn : a.length + b.length ≤ 1000000000000) :
  Sp (whileM (fun s => (T154_L0 a b s).den) (([] : List GDelta), 0, 0)) (sel (fun r => r.Perm (a ++ b) ∧ Srt r) (fun _ => False)) := by
 refine Sq.while (fun s : List GDelta × Int × Int => ∃ i k : Nat, s.2.1 = i ∧ s.2.2 = k ∧ i ≤ a.length ∧ k ≤ b.length ∧ (s.1 ++ (a.drop i ++ b.drop k)).Perm (a ++ b) ∧ Srt s.1 ∧ (∀ x, x ∈ s.1 → ∀ y, y ∈ a.drop i ++ b.drop k → ltD y x = false)) (fun s => (a.length - s.2.1).toNat + (b.length - s.2.2).toNat) (fun s hs => ?_)
  ⟨0, 0, rfl, rfl, by omega, by omega, by simp, .nil, by simp⟩
 obtain ⟨o, i, k⟩ := s
 obtain ⟨i, k, e1, e2, h1, h2, h3, h4, h5⟩ := hs
 simp only at e1 e2 h3 h4 h5
 subst e1 e2
 have hlen := h3.length_eq
 simp only [List.length_append, List.length_drop] at hlen
 unfold T154_L0
 simp only [Tr.den, Int.toNat_natCast]
 have takeA : i < a.length → (k < b.length → ltD (b.getD k default) (a.getD i default) = false) →
   Sp (if 0 ≤ (i : Int) ∧ (i : Int) < (a.length : Int) then (if (o.length + [a.getD i default].length) * 40 ≤ 140737488355328 then some (o ++ [a.getD i default], IntKind.i64.wrap ((i : Int) + 1), (k : Int)) else none) else none)
    (fun v => (∃ i' k' : Nat, v.2.1 = i' ∧ v.2.2 = k' ∧ i' ≤ a.length ∧ k' ≤ b.length ∧ (v.1 ++ (a.drop i' ++ b.drop k')).Perm (a ++ b) ∧ Srt v.1 ∧ (∀ x, x ∈ v.1 → ∀ y, y ∈ a.drop i' ++ b.drop k' → ltD y x = false)) ∧ (a.length - v.2.1).toNat + (b.length - v.2.2).toNat < (a.length - (i : Int)).toNat + (b.length - (k : Int)).toNat) := by
  intro hi hle
  rw [if_pos (by omega), if_pos (by simp only [List.length_cons, List.length_nil]; omega), wrap_inc (by omega)]
  have hd := drop_getD hi
  refine sq_some.2 ⟨⟨i + 1, k, rfl, rfl, by omega, h2, ?_, ?_, ?_⟩, by simp only; omega⟩
  ·rw [hd] at h3; simpa using h3
  ·refine Srt.app.2 ⟨h4, List.pairwise_singleton _ _, fun x hx y hy => ?_⟩
   rw [List.mem_singleton.1 hy]
   exact h5 x hx _ (by rw [hd]; simp)
  ·intro x hx y hy
   have hy' : y ∈ a.drop i ++ b.drop k := by
    rw [hd]; rcases List.mem_append.1 hy with hy | hy
    ·exact List.mem_append_left _ (List.mem_cons_of_mem _ hy)
    ·exact List.mem_append_right _ hy
   rcases List.mem_append.1 hx with hx | hx
   ·exact h5 x hx y hy'
   ·rw [List.mem_singleton.1 hx]
    rcases List.mem_append.1 hy with hy | hy
    ·obtain ⟨j, j1, j2, rfl⟩ := mem_drop_getD hy
     exact ha.get (by omega) j2
    ·obtain ⟨j, j1, j2, rfl⟩ := mem_drop_getD hy
     exact swo_ltD.ntrans _ _ _ (hb.get j1 j2) (hle (by omega))
 have takeB : k < b.length → (i < a.length → ltD (a.getD i default) (b.getD k default) = false) →
   Sp (if 0 ≤ (k : Int) ∧ (k : Int) < (b.length : Int) then (if (o.length + [b.getD k default].length) * 40 ≤ 140737488355328 then some (o ++ [b.getD k default], (i : Int), IntKind.i64.wrap ((k : Int) + 1)) else none) else none)
    (fun v => (∃ i' k' : Nat, v.2.1 = i' ∧ v.2.2 = k' ∧ i' ≤ a.length ∧ k' ≤ b.length ∧ (v.1 ++ (a.drop i' ++ b.drop k')).Perm (a ++ b) ∧ Srt v.1 ∧ (∀ x, x ∈ v.1 → ∀ y, y ∈ a.drop i' ++ b.drop k' → ltD y x = false)) ∧ (a.length - v.2.1).toNat + (b.length - v.2.2).toNat < (a.length - (i : Int)).toNat + (b.length - (k : Int)).toNat) := by
  intro hk hle
  rw [if_pos (by omega), if_pos (by simp only [List.length_cons, List.length_nil]; omega), wrap_inc (by omega)]
  have hd := drop_getD hk
  refine sq_some.2 ⟨⟨i, k + 1, rfl, rfl, h1, by omega, ?_, ?_, ?_⟩, by simp only; omega⟩
  ·rw [hd] at h3
   refine List.Perm.trans ?_ h3
   rw [List.append_assoc]
   refine List.Perm.append_left _ ?_
   rw [← List.append_assoc]
   refine (List.Perm.append_right _ List.perm_append_comm).trans ?_
   simp
  ·refine Srt.app.2 ⟨h4, List.pairwise_singleton _ _, fun x hx y hy => ?_⟩
   rw [List.mem_singleton.1 hy]
   exact h5 x hx _ (by rw [hd]; simp)
  ·intro x hx y hy
   have hy' : y ∈ a.drop i ++ b.drop k := by
    rw [hd]; rcases List.mem_append.1 hy with hy | hy
    ·exact List.mem_append_left _ hy
    ·exact List.mem_append_right _ (List.mem_cons_of_mem _ hy)
   rcases List.mem_append.1 hx with hx | hx
   ·exact h5 x hx y hy'
   ·rw [List.mem_singleton.1 hx]
    rcases List.mem_append.1 hy with hy | hy
    ·obtain ⟨j, j1, j2, rfl⟩ := mem_drop_getD hy
     exact swo_ltD.ntrans _ _ _ (ha.get j1 j2) (hle (by omega))
    ·obtain ⟨j, j1, j2, rfl⟩ := mem_drop_getD hy
     exact hb.get (by omega) j2
 have step : ∀ (x : Option (List GDelta × Int × Int)), Sp x (fun v => (∃ i' k' : Nat, v.2.1 = i' ∧ v.2.2 = k' ∧ i' ≤ a.length ∧ k' ≤ b.length ∧ (v.1 ++ (a.drop i' ++ b.drop k')).Perm (a ++ b) ∧ Srt v.1 ∧ (∀ x, x ∈ v.1 → ∀ y, y ∈ a.drop i' ++ b.drop k' → ltD y x = false)) ∧ (a.length - v.2.1).toNat + (b.length - v.2.2).toNat < (a.length - (i : Int)).toNat + (b.length - (k : Int)).toNat) →
   Sp (x.bind fun v => some (.inl (v.1, v.2.1, v.2.2))) (sel (fun s' : List GDelta × Int × Int => (∃ i' k' : Nat, s'.2.1 = i' ∧ s'.2.2 = k' ∧ i' ≤ a.length ∧ k' ≤ b.length ∧ (s'.1 ++ (a.drop i' ++ b.drop k')).Perm (a ++ b) ∧ Srt s'.1 ∧ (∀ x, x ∈ s'.1 → ∀ y, y ∈ a.drop i' ++ b.drop k' → ltD y x = false)) ∧ (a.length - s'.2.1).toNat + (b.length - s'.2.2).toNat < (a.length - (i : Int)).toNat + (b.length - (k : Int)).toNat) (sel (fun r : List GDelta => r.Perm (a ++ b) ∧ Srt r) (fun _ : List GDelta => False))) :=
  fun x hx => Sq.bind _ hx fun v hv => sq_some.2 hv
 by_cases hi : i < a.length
 ·rw [if_pos (decT (show (i : Int) < a.length by omega))]
  simp only [Option.bind_some, if_true]
  by_cases hk : k < b.length
  ·rw [if_pos (decT (show (i : Int) < a.length by omega))]
   simp only [Option.bind_some]
   rw [if_pos (decT (show (k : Int) < b.length by omega)), if_pos (by omega), if_pos (by omega), G49_eq _ _ (oa.get i) (ob.get k)]
   simp only [Option.bind_some]
   by_cases hc : cmpD (a.getD i default) (b.getD k default) ≤ 0
   ·rw [if_pos (decT hc)]
    exact step _ (takeA hi fun _ => cmpD_le.1 hc)
   ·rw [if_neg (decF hc)]
    refine step _ (takeB hk fun _ => ?_)
    cases hlt : ltD (a.getD i default) (b.getD k default) with
    | false => rfl
    | true => have := of_decide_eq_true hlt; omega
  ·rw [if_pos (decT (show (i : Int) < a.length by omega))]
   simp only [Option.bind_some]
   rw [if_neg (decF (show ¬ (k : Int) < b.length by omega))]
   simp only [Option.bind_some]
   rw [if_pos (decT (show (k : Int) ≥ b.length by omega))]
   exact step _ (takeA hi fun h => absurd h hk)
 ·rw [if_neg (decF (show ¬ (i : Int) < a.length by omega))]
  simp only [Option.bind_some]
  by_cases hk : k < b.length
  ·rw [if_pos (decT (show (k : Int) < b.length by omega)), if_neg (decF (show ¬ (i : Int) < a.length by omega))]
   simp only [Option.bind_some, Bool.false_eq_true, if_false]
   rw [if_neg (decF (show ¬ (k : Int) ≥ b.length by omega))]
   exact step _ (takeB hk fun h => absurd h hi)
  ·rw [if_neg (decF (show ¬ (k : Int) < b.length by omega))]
   refine sq_some.2 ⟨?_, h4⟩
   rw [List.drop_eq_nil_of_le (show a.length ≤ i by omega), List.drop_eq_nil_of_le (show b.length ≤ k by omega)] at h3
   simpa using h3
theorem G154_sp (l : List GDelta) (ho : okRs l) (hn : l.length ≤ 1000000000000) : Sp (G154 l) (fun d => d.Perm l ∧ Srt d) := by
 refine fixF_sq (C := fun (a : List GDelta) (x : Option (List GDelta)) => Con Proofs.Tryz.prog 250 [.t (eL cGDelta (a))] x (fun (y : List GDelta) => .t (eL cGDelta (y)))) (fun a => ⟨callable_of Proofs.Tryz.func250 (by kernel_rfl), fun _ h => nomatch h⟩) (fun rec a => T154 rec a) (fun rec a => T154_ok rec a)
  (fun l => okRs l ∧ l.length ≤ 1000000000000) (fun l => l.length) (fun l d => d.Perm l ∧ Srt d) (fun b f l hl hrec => ?_) true l ⟨ho, hn⟩
 obtain ⟨ho, hn⟩ := hl
 unfold T154
 simp only [Tr.den]
 by_cases h2 : l.length < 2
 ·rw [if_pos (decT (by omega))]
  refine sq_some.2 ⟨.refl _, ?_⟩
  match l, h2 with
  | [], _ => exact .nil
  | [x], _ => exact List.pairwise_singleton _ _
 ·have w1 : IntKind.i64.wrap (Int.tdiv (l.length : Int) 2) = ((l.length / 2 : Nat) : Int) := by
   rw [show Int.tdiv (l.length : Int) 2 = ((l.length / 2 : Nat) : Int) from rfl]
   rw [wrap_nat (by omega)]
  rw [if_neg (decF (by omega)), w1]
  have e1 : (l.drop (0 : Int).toNat).take (((l.length / 2 : Nat) : Int) - 0).toNat = l.take (l.length / 2) := by rw [Int.toNat_zero, List.drop_zero, Int.sub_zero, Int.toNat_natCast]
  have e2 : (l.drop ((l.length / 2 : Nat) : Int).toNat).take ((l.length : Int) - ((l.length / 2 : Nat) : Int)).toNat = l.drop (l.length / 2) := by
   rw [Int.toNat_natCast]; exact List.take_of_length_le (by simp only [List.length_drop]; omega)
  rw [if_pos (by omega), e1]
  refine Sq.bind _ (hrec _ ⟨fun x hx => ho x (List.mem_of_mem_take hx), by simp; omega⟩ (by simp; omega)) (fun r1 h1 => ?_)
  rw [if_pos (by omega), e2]
  refine Sq.bind _ (hrec _ ⟨fun x hx => ho x (List.mem_of_mem_drop hx), by simp; omega⟩ (by simp; omega)) (fun r2 h2' => ?_)
  have l1 := h1.1.length_eq
  have l2 := h2'.1.length_eq
  simp only [List.length_take, List.length_drop] at l1 l2
  have hm := (merge_sp r1 r2 h1.2 h2'.2 (fun x hx => ho x (List.mem_of_mem_take (h1.1.mem_iff.1 hx))) (fun x hx => ho x (List.mem_of_mem_drop (h2'.1.mem_iff.1 hx))) (by omega)).get
  obtain ⟨z, hz1, hz2⟩ := hm
  rw [hz1]
  cases z with
  | inr z => exact hz2.elim
  | inl z =>
   refine sq_some.2 ⟨?_, hz2.2⟩
   refine hz2.1.trans ((h1.1.append h2'.1).trans ?_)
   rw [List.take_append_drop]
end Go.PL
namespace Go.PL
open Go
set_option linter.unusedVariables false
set_option maxRecDepth 20000
theorem drop_get (d : List GDelta) (i j : Nat) : (d.drop i).getD j default = d.getD (i + j) default := by
 simp [List.getD_eq_getElem?_getD]
theorem inner107 (d v4 : List GDelta) (i : Nat) (h0 : i < d.length) (ho : okRs d) (hn : d.length ≤ 1000000000000) :
  Sp (whileM (fun s => (T107_L1 d (i : Int) s).den) (v4, 0, (i : Int)))
   (sel (fun r : List GDelta × Int × Int => ∃ k : Nat, r = (v4, W (wt all1 ((d.drop i).take k)), ((i + k : Nat) : Int)) ∧ 1 ≤ k ∧ i + k ≤ d.length ∧ (∀ x, x ∈ (d.drop i).take k → pl x = pl (d.getD i default)) ∧ (i + k < d.length → pl (d.getD (i + k) default) ≠ pl (d.getD i default))) (fun _ => False)) := by
 refine Sq.while (fun s : List GDelta × Int × Int => ∃ k : Nat, s = (v4, W (wt all1 ((d.drop i).take k)), ((i + k : Nat) : Int)) ∧ i + k ≤ d.length ∧ (∀ x, x ∈ (d.drop i).take k → pl x = pl (d.getD i default))) (fun s => (d.length - s.2.2).toNat) (fun s hs => ?_) ⟨0, rfl, by omega, by simp⟩
 obtain ⟨k, rfl, h2, h3⟩ := hs
 unfold T107_L1
 simp only [Tr.den, Int.toNat_natCast]
 by_cases hk : i + k < d.length
 ·have w : (if IntKind.i64.wrap ((d.length : Int) - 1) < ((i + k : Nat) : Int) then IntKind.i64.wrap ((d.length : Int) - 1) else ((i + k : Nat) : Int)) = ((i + k : Nat) : Int) := by
   rw [wrap_id (by omega) (by omega), if_neg (by omega)]
  rw [if_pos (decT (by omega)), if_pos (by omega), w]
  simp only [Int.toNat_natCast]
  rw [if_pos (by omega), G49_eq _ _ (ho.get i) (ho.get (i + k))]
  simp only [Option.bind_some]
  by_cases hc : cmpD (d.getD i default) (d.getD (i + k) default) = 0
  ·rw [if_pos (beqT hc), if_pos (by omega)]
   have hp := cmpD_zero.1 hc
   have hk' : k < (d.drop i).length := by simp; omega
   have e2 : W (W (wt all1 ((d.drop i).take k)) + (d.getD (i + k) default).N) = W (wt all1 ((d.drop i).take (k + 1))) := by
    rw [take_succ_getD hk', wt_app, drop_get, show wt all1 [d.getD (i + k) default] = (d.getD (i + k) default).N by simp [wt, all1]]
    exact wrap_addL _ _
   rw [show IntKind.i64.wrap (W (wt all1 ((d.drop i).take k)) + (d.getD (i + k) default).N) = _ from e2, wrap_inc (by omega)]
   refine sq_some.2 ⟨⟨k + 1, rfl, by omega, fun x hx => ?_⟩, by simp only; omega⟩
   rw [take_succ_getD hk', List.mem_append, List.mem_singleton, drop_get] at hx
   rcases hx with hx | rfl
   ·exact h3 x hx
   ·exact hp.symm
  ·rw [if_neg (beqF hc)]
   have h1 : 1 ≤ k := by
    by_cases hk0 : k = 0
    ·subst hk0; exact absurd (cmpD_zero.2 rfl) hc
    ·omega
   exact sq_some.2 ⟨k, rfl, h1, h2, h3, fun _ he => hc (cmpD_zero.2 he.symm)⟩
 ·rw [if_neg (decF (by omega))]
  simp only [Option.bind_some, Bool.false_eq_true, if_false]
  exact sq_some.2 ⟨k, rfl, by omega, h2, h3, fun h => absurd h hk⟩
theorem loop107 (l d : List GDelta) (hd : d.Perm l) (hs : Srt d) (ho : okRs l) (hN : okN l) (hn : l.length ≤ 1000000000000) :
  Sp (whileM (fun s => (T107_L0 d s).den) (([] : List GDelta), 0)) (sel (fun r => r = cons l) (fun _ => False)) := by
 have hod := ho.perm hd.symm
 have hlen := hd.length_eq
 refine Sq.while (fun s : List GDelta × Int => ∃ i : Nat, s.2 = i ∧ i ≤ d.length ∧ Can s.1 ∧ (∀ x, x ∈ s.1 → ∀ y, y ∈ d.drop i → cmpD x y < 0) ∧ Same (s.1 ++ d.drop i) l ∧ s.1.length ≤ i) (fun s => (d.length - s.2).toNat) (fun s hs' => ?_)
  ⟨0, rfl, by omega, .nil, by simp, .of_perm hd, by simp⟩
 obtain ⟨v4, i⟩ := s
 obtain ⟨i, e, h1, h4, h5, h6, h7⟩ := hs'
 simp only at e h4 h5 h6 h7
 subst e
 unfold T107_L0
 simp only [Tr.den, Int.toNat_natCast]
 by_cases h0 : i < d.length
 ·rw [if_pos (decT (by omega))]
  refine Sq.bind _ (inner107 d v4 i h0 hod (by omega)) (fun z hz => ?_)
  cases z with
  | inr z => exact hz.elim
  | inl z =>
   obtain ⟨k, rfl, k1, k2, k3, k4⟩ := hz
   simp only [sel]
   have hsp : d.drop i = (d.drop i).take k ++ d.drop (i + k) := by
    rw [← List.drop_drop, List.take_append_drop]
   have hd0 : d.getD i default ∈ d.drop i := by rw [drop_getD h0]; exact List.mem_cons_self
   have hmem : ∀ y, y ∈ d.drop (i + k) → y ∈ d.drop i := fun y hy => by rw [hsp]; exact List.mem_append_right _ hy
   have hgt : ∀ y, y ∈ d.drop (i + k) → cmpD (d.getD i default) y < 0 := by
    intro y hy
    obtain ⟨j, j1, j2, rfl⟩ := mem_drop_getD hy
    have hk : i + k < d.length := by omega
    have a1 := ltD_false (hs.get (i := i) (j := i + k) (by omega) hk)
    have a2 : cmpD (d.getD i default) (d.getD (i + k) default) < 0 := by
     have b1 : cmpD (d.getD i default) (d.getD (i + k) default) ≠ 0 := fun he => k4 hk (cmpD_zero.1 he).symm
     have b2 := cmpD_gt (x := d.getD i default) (y := d.getD (i + k) default)
     omega
    have a3 := ltD_false (hs.get (i := i + k) (j := j) j1 j2)
    by_cases hc : cmpD (d.getD i default) (d.getD j default) < 0
    ·exact hc
    ·have := swo_ltD.ntrans (d.getD i default) (d.getD j default) (d.getD (i + k) default) (decide_eq_false hc) (decide_eq_false a3)
     exact absurd a2 (ltD_false this)
   have hw : ∀ p, W (wt p (v4 ++ d.drop i)) = W (wt p v4 + (if p (pl (d.getD i default)) = true then W (wt all1 ((d.drop i).take k)) else 0) + wt p (d.drop (i + k))) := by
    intro p
    conv => lhs; rw [hsp]
    rw [wt_app, wt_app, wt_same k3 p, ← Int.add_assoc]
    refine W_add ?_ rfl
    refine W_add rfl ?_
    split
    ·exact (wrap_wrap _).symm
    ·rfl
   have hbind : ∀ v5 : List GDelta, Can v5 → (∀ x, x ∈ v5 → ∀ y, y ∈ d.drop (i + k) → cmpD x y < 0) → (∀ p, W (wt p v5) = W (wt p v4 + (if p (pl (d.getD i default)) = true then W (wt all1 ((d.drop i).take k)) else 0))) → v5.length ≤ v4.length + 1 →
     Sp (some (Sum.inl (v5, ((i + k : Nat) : Int))))
      (sel (fun s' : List GDelta × Int => (∃ i : Nat, s'.2 = i ∧ i ≤ d.length ∧ Can s'.1 ∧ (∀ x, x ∈ s'.1 → ∀ y, y ∈ d.drop i → cmpD x y < 0) ∧ Same (s'.1 ++ d.drop i) l ∧ s'.1.length ≤ i) ∧ (d.length - s'.2).toNat < (d.length - (i : Int)).toNat) (sel (fun r : List GDelta => r = cons l) (fun _ : List GDelta => False))) := by
    intro v5 c1 c2 c3 c4
    refine sq_some.2 ⟨⟨i + k, rfl, k2, c1, c2, fun p => ?_, by simp only; omega⟩, by simp only; omega⟩
    rw [← h6 p, hw p, wt_app]
    exact W_add (c3 p) rfl
   by_cases hz : W (wt all1 ((d.drop i).take k)) = 0
   ·rw [if_neg (bneF hz)]
    simp only [Option.bind_some]
    refine hbind v4 h4 (fun x hx y hy => h5 x hx y (hmem y hy)) (fun p => ?_) (by omega)
    rw [hz]; simp
   ·rw [if_pos (bneT hz), if_pos (by omega)]
    rw [G115_eq _ _ (hod.get i)]
    simp only [Option.bind_some, List.length_singleton]
    rw [if_pos (by omega)]
    simp only [Option.bind_some]
    refine hbind (v4 ++ [⟨(d.getD i default).Time, (d.getD i default).Row, W (wt all1 ((d.drop i).take k))⟩]) ⟨?_, ?_, ?_⟩ ?_ (fun p => ?_) (by simp)
    ·refine List.pairwise_append.2 ⟨h4.lt, List.pairwise_singleton _ _, fun x hx y hy => ?_⟩
     rw [List.mem_singleton.1 hy]
     exact h5 x hx (d.getD i default) hd0
    ·intro x hx
     rcases List.mem_append.1 hx with hx | hx
     ·exact h4.nz x hx
     ·rw [List.mem_singleton.1 hx]; exact hz
    ·intro x hx
     rcases List.mem_append.1 hx with hx | hx
     ·exact h4.n64 x hx
     ·rw [List.mem_singleton.1 hx]; exact W_in _
    ·intro x hx y hy
     rcases List.mem_append.1 hx with hx | hx
     ·exact h5 x hx y (hmem y hy)
     ·rw [List.mem_singleton.1 hx]; exact hgt y hy
    ·rw [wt_app]
     simp only [wt, Int.add_zero]
     rfl
 ·rw [if_neg (decF (by omega))]
  refine sq_some.2 ?_
  rw [List.drop_eq_nil_of_le (by omega), List.append_nil] at h6
  exact (cons_eq h4 hN h6).symm
theorem G107_eq (l : List GDelta) (ho : okRs l) (hN : okN l) (hn : l.length ≤ 1000000000000) : G107 l = some (cons l) := by
 refine Sp.eq ?_
 unfold G107 T107
 simp only [Tr.den]
 refine Sq.bind _ (G154_sp l ho hn) (fun d hd => ?_)
 refine Sq.bind _ (loop107 l d hd.1 hd.2 ho hN hn) (fun z hz => ?_)
 cases z with
 | inr z => exact hz.elim
 | inl z => exact sq_some.2 hz
theorem G47_eq (a b : List GDelta) (ha : okD a) (hb : okD b) (hn : a.length + b.length ≤ 1000000000000) : G47 a b = some (cons (a ++ b)) := by
 unfold G47 T47
 simp only [Tr.den, List.nil_append]
 rw [if_pos (by simp only [List.length_nil]; omega), if_pos (by omega), G107_eq _ (ha.app hb).r (ha.app hb).n (by simp; omega)]
 rfl
end Go.PL
