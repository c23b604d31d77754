/-
  Parts: Plain law of expressions: right by parts is right at a height. Own work. Plain law of expressions: the parts of the type rule. Own work. Plain law of expressions: what has a type is right by parts. Own work. Plain law of expressions: right functions. Own work. Plain law of patterns: what the walk finds is the longest run that ends at a place. Own work.
-/
import Derived.Test.YtjefblkdnolgaaaGreatDoorMf
namespace Go.PL
open Go
set_option maxRecDepth 20000
inductive OkI (ar : Nat → Nat) (n : Nat) : Nat → Nat → Expr → Prop
 | mk {nc np : Nat} {e : Expr} (hs : e.S.size ≤ 1048576) (hl : e.Args.length ≤ 1048576) (ho : 0 ≤ e.Op ∧ e.Op ≤ 22)
   (hA : ∀ i, i < e.Args.length → OkI ar n nc np (e.Args.getD i default))
   (c3 : e.Op = 3 → 0 ≤ e.N ∧ e.N < nc) (c4 : e.Op = 4 → 0 ≤ e.N ∧ e.N < np) (c1 : e.Op = 6 ∨ e.Op = 7 ∨ e.Op = 20 → 1 ≤ e.Args.length) (c2 : 8 ≤ e.Op ∧ e.Op ≤ 19 → 2 ≤ e.Args.length)
   (c21 : e.Op = 21 → 3 ≤ e.Args.length) (c22 : e.Op = 22 → 0 ≤ e.N ∧ e.N < n ∧ e.Args.length = ar e.N.toNat) : OkI ar n nc np e
theorem bound_fun (f : Nat → Nat) : ∀ n, ∃ H, ∀ i, i < n → f i < H
 | 0 => ⟨0, fun i hi => absurd hi (Nat.not_lt_zero i)⟩
 | n + 1 => by
  obtain ⟨H, hH⟩ := bound_fun f n
  refine ⟨H + f n + 1, fun i hi => ?_⟩
  rcases Nat.lt_or_ge i n with h | h
  ·have := hH i h; omega
  ·have : i = n := by omega
   subst this; omega
theorem okI_okE {fs : List GFunc} (hB : ∀ i, i < fs.length → OkI (fun k => (fs.getD k default).Params.length) i 0 (fs.getD i default).Params.length (fs.getD i default).Body) :
  ∀ j, j ≤ fs.length → ∀ nc np e, OkI (fun k => (fs.getD k default).Params.length) j nc np e → ∃ h, OkE fs nc np h e := by
 intro j
 induction j using Nat.strongRecOn with
 | _ j ih =>
  intro hj nc np e he
  induction he with
  | @mk e hs hl ho hA c3 c4 c1 c2 c21 c22 ihA =>
   have hc : ∀ i, ∃ h, i < e.Args.length → OkE fs nc np h (e.Args.getD i default) := fun i => by
    by_cases hi : i < e.Args.length
    ·obtain ⟨h, hh⟩ := ihA i hi
     exact ⟨h, fun _ => hh⟩
    ·exact ⟨0, fun h => absurd h hi⟩
   let hm : Nat → Nat := fun i => if i < e.Args.length then (hc i).choose else 0
   have hmA : ∀ i, i < e.Args.length → OkE fs nc np (hm i) (e.Args.getD i default) := fun i hi => by
    show OkE fs nc np (if i < e.Args.length then (hc i).choose else 0) _
    rw [if_pos hi]
    exact (hc i).choose_spec hi
   obtain ⟨H, hH⟩ := bound_fun hm e.Args.length
   obtain ⟨k, hk⟩ : ∃ k, e.Op = 22 → OkE fs 0 e.Args.length k (fs.getD e.N.toNat default).Body := by
    by_cases h22 : e.Op = 22
    ·obtain ⟨g1, g2, g3⟩ := c22 h22
     obtain ⟨k, hk⟩ := ih e.N.toNat (by omega) (by omega) 0 _ _ (hB e.N.toNat (by omega))
     exact ⟨k, fun _ => by rw [g3]; exact hk⟩
    ·exact ⟨0, fun h => absurd h h22⟩
   refine ⟨H + k + 1, .mk k hm hs hl ho (fun i => ?_) hmA c3 c4 c1 c2 c21 (fun h => ?_) hk⟩
   ·by_cases hi : i < e.Args.length
    ·have := hH i hi; omega
    ·show (if i < e.Args.length then (hc i).choose else 0) < _
     rw [if_neg hi]; omega
   ·obtain ⟨g1, g2, g3⟩ := c22 h
    exact ⟨g1, by omega, by omega⟩
theorem G151_eq (n : Int) : G151 n = some (decide (0 ≤ n ∧ n < 3)) := by
 by_cases h : 0 ≤ n
 ·simp [G151, T151, Tr.den, h]
 ·simp [G151, T151, Tr.den, h]
def numE (op : Int) : Int :=
 if 0 ≤ op ∧ op ≤ 5 then 0 else if op = 6 ∨ op = 7 ∨ op = 20 then 1 else if op = 21 then 3 else if op = 22 then -1 else if 5 < op ∧ op < 21 then 2 else -1
theorem G201_eq (op : Int) : G201 op = some (numE op) := by
 have hs : op = 0 ∨ op = 1 ∨ op = 2 ∨ op = 3 ∨ op = 4 ∨ op = 5 ∨ op = 6 ∨ op = 7 ∨ op = 20 ∨ op = 21 ∨ op = 22 ∨ (op < 0 ∨ (8 ≤ op ∧ op ≤ 19) ∨ 22 < op) := by omega
 rcases hs with h | h | h | h | h | h | h | h | h | h | h | h
 iterate 11 (subst h; rfl)
 have n0 : (op == 0) = false := by simp; omega
 have n1 : (op == 1) = false := by simp; omega
 have n2 : (op == 2) = false := by simp; omega
 have n3 : (op == 3) = false := by simp; omega
 have n4 : (op == 4) = false := by simp; omega
 have n5 : (op == 5) = false := by simp; omega
 have n6 : (op == 6) = false := by simp; omega
 have n7 : (op == 7) = false := by simp; omega
 have n20 : (op == 20) = false := by simp; omega
 have n21 : (op == 21) = false := by simp; omega
 have n22 : (op == 22) = false := by simp; omega
 have q1 : ¬ (0 ≤ op ∧ op ≤ 5) := by omega
 have q2 : ¬ (op = 6 ∨ op = 7 ∨ op = 20) := by omega
 have q3 : ¬ op = 21 := by omega
 have q4 : ¬ op = 22 := by omega
 unfold G201 T201 numE
 rw [if_neg q1, if_neg q2, if_neg q3, if_neg q4]
 simp only [Tr.den, n0, n1, n2, n3, n4, n5, n6, n7, n20, n21, n22, Option.bind_some, Bool.false_eq_true, if_false]
 by_cases h1 : op > 5
 ·have h1' : 5 < op := h1
  by_cases h2 : op < 21
  ·rw [if_pos (decT h1), if_pos ⟨h1', h2⟩, decide_eq_true h2]; rfl
  ·rw [if_pos (decT h1), if_neg (fun h => h2 h.2), decide_eq_false h2]; rfl
 ·have : ¬ (5 < op ∧ op < 21) := by omega
  rw [if_neg (decF h1), if_neg this]; rfl
theorem G202_sp (l : List Int) (n : Int) : Sp (G202 l n) (fun r => r.2 = true → 0 ≤ n ∧ n < l.length) := by
 unfold G202 T202
 simp only [Tr.den]
 by_cases h1 : n < 0
 ·rw [if_pos (decT h1)]
  exact sqs.2 (fun h => by cases h)
 ·rw [if_neg (decF h1)]
  by_cases h2 : n ≥ (l.length : Int)
  ·simp only [Option.bind_some, decide_eq_true h2, if_true]
   exact sqs.2 (fun h => by cases h)
  ·simp only [Option.bind_some, decide_eq_false h2, Bool.false_eq_true, if_false]
   rw [if_pos (by omega), if_pos (by omega), G151_eq]
   exact sqs.2 (fun _ => by omega)
theorem G200_sp (fs : List GFunc) (n : Int) (l : List Int) (hl : l.length ≤ 1048576) : Sp (G200 fs n l) (fun r => r.2 = true → 0 ≤ n ∧ n < fs.length ∧ l.length = (fs.getD n.toNat default).Params.length) := by
 unfold G200 T200
 simp only [Tr.den]
 by_cases h1 : n < 0
 ·rw [if_pos (decT h1)]
  exact sqs.2 (fun h => by cases h)
 ·rw [if_neg (decF h1)]
  by_cases h2 : n ≥ (fs.length : Int)
  ·simp only [Option.bind_some, decide_eq_true h2, if_true]
   exact sqs.2 (fun h => by cases h)
  ·simp only [Option.bind_some, decide_eq_false h2, Bool.false_eq_true, if_false]
   rw [if_pos (by omega)]
   by_cases h3 : ((fs.getD n.toNat default).Params.length : Int) = (l.length : Int)
   ·rw [if_neg (by simpa using h3)]
    refine sqb.2 (sq_cnt (fun s : Int => s) l.length (by omega) (fun _ => True) (fun s k _ hk hkN => ?_) trivial rfl)
    subst hk
    unfold T200_L0
    simp only [Tr.den, Int.toNat_natCast]
    by_cases hc : k < l.length
    ·rw [if_pos (decT (by omega)), if_pos (by omega), if_pos (by omega)]
     split
     ·exact sqs.2 (sqs.2 (fun h => by cases h))
     ·exact sqs.2 ⟨rfl, hc, trivial⟩
    ·rw [if_neg (decF (by omega))]
     exact sqs.2 (sqs.2 (fun _ => by omega))
   ·rw [if_pos (by simpa using h3)]
    exact sqs.2 (fun h => by cases h)
theorem Sq.of {α : Type} {b : Bool} {x : Option α} {Q : α → Prop} (h : Sp x Q) : Sq b x Q := ⟨h.1, fun _ => h.2 rfl⟩
inductive BndE : Expr → Prop
 | mk {e : Expr} (hs : e.S.size ≤ 1048576) (hl : e.Args.length ≤ 1048576) (hA : ∀ i, i < e.Args.length → BndE (e.Args.getD i default)) : BndE e
theorem sizeOf_argE {e x : Expr} (h : x ∈ e.Args) : SizeOf.sizeOf x < SizeOf.sizeOf e := by
 cases e with
 | mk a b s l =>
  have := List.sizeOf_lt_of_mem h
  simp only [Expr.Args] at this
  simp only [Expr.mk.sizeOf_spec]
  omega
abbrev arF (fs : List GFunc) (k : Nat) : Nat := (fs.getD k default).Params.length
set_option maxHeartbeats 1000000 in
theorem G185_sp (fs : List GFunc) (cs ps : List Int) (e : Expr) (he : BndE e) : Sp (G185 fs cs ps e) (fun r => r.2 = true → OkI (arF fs) fs.length cs.length ps.length e) := by
 refine fixF_sq (C := fun (a : (List GFunc) × (List Int) × (List Int) × Expr) (x : Option (Int × Bool)) => Con Proofs.Tryz.prog 212 [.t (eL cGFunc (a.1)), .t (eL cInt (a.2.1)), .t (eL cInt (a.2.2.1)), .t (eExpr a.2.2.2)] x (fun (y : Int × Bool) => .tup [.t (.int .i64 (y.1)), .t (.bool (y.2))])) (fun a => ⟨cof Proofs.Tryz.func212 (by kernel_rfl), fun _ h => nomatch h⟩) (fun rec a => T185 rec a.1 a.2.1 a.2.2.1 a.2.2.2) (fun rec a => T185_ok rec a.1 a.2.1 a.2.2.1 a.2.2.2)
  (fun a => BndE a.2.2.2) (fun a => SizeOf.sizeOf a.2.2.2) (fun a r => r.2 = true → OkI (arF a.1) a.1.length a.2.1.length a.2.2.1.length a.2.2.2) (fun b r a ha hrec => ?_) true (fs, cs, ps, e) he
 clear he fs cs ps e
 obtain ⟨fs, cs, ps, e⟩ := a
 simp only at ha hrec ⊢
 cases ha with
 | mk hs hl hA =>
 have hr : ∀ i, i < e.Args.length → Sq b (r.1 (fs, cs, ps, e.Args.getD i default)) (fun r => r.2 = true → OkI (arF fs) fs.length cs.length ps.length (e.Args.getD i default)) := fun i hi => hrec _ (hA i hi) (sizeOf_argE (gdm hi))
 unfold T185
 simp only [Tr.den]
 refine sqb.2 (sq_cnt (fun s : List Int × Int => s.2) e.Args.length (by omega) (fun s => (s.1.length : Int) = s.2 ∧ ∀ i : Nat, (i : Int) < s.2 → OkI (arF fs) fs.length cs.length ps.length (e.Args.getD i default)) (fun s k hI hk hkN => ?_) ⟨rfl, fun i hi => absurd hi (by show ¬ ((i : Int) < 0); omega)⟩ rfl)
 obtain ⟨b3, v2⟩ := s
 obtain ⟨hbl, hbs⟩ := hI
 simp only at hk hbl hbs
 subst hk
 unfold T185_L0
 simp only [Tr.den, Int.toNat_natCast]
 by_cases hc : k < e.Args.length
 ·rw [if_pos (decT (by omega)), if_pos (by omega)]
  refine Sq.bind _ (hr k hc) fun v hv => ?_
  by_cases hv2 : v.2 = true
  ·rw [if_neg (by rw [hv2]; decide), if_pos (by simp only [List.length_singleton]; omega)]
   refine sqs.2 ⟨rfl, hc, ?_, fun i hi => ?_⟩
   ·simp only [List.length_append, List.length_singleton]; rw [wnc (by omega)]; omega
   ·simp only at hi
    rw [wnc (by omega)] at hi
    rcases Nat.lt_or_ge i k with h | h
    ·exact hbs i (by omega)
    ·have : i = k := by omega
     subst this; exact hv hv2
  ·rw [if_pos (by simp only [Bool.not_eq_true] at hv2; rw [hv2]; rfl)]
   exact sqs.2 (sqs.2 (fun h => by cases h))
 ·rw [if_neg (decF (by omega))]
  refine sqs.2 ?_
  have hbe : b3.length = e.Args.length := by omega
  have hA' : ∀ i, i < e.Args.length → OkI (arF fs) fs.length cs.length ps.length (e.Args.getD i default) := fun i hi => hbs i (by omega)
  simp only [sel]
  refine Sq.bind (fun s : List Int × Bool => s.1 = b3) (by split <;> exact sqs.2 rfl) (fun s hsb => ?_)
  obtain ⟨j5, j6⟩ := s
  simp only at hsb
  subst hsb
  cases j6 with
  | true => exact sqs.2 (fun h => by cases h)
  | false =>
   simp only [Bool.false_eq_true, if_false]
   by_cases h22 : e.Op = 22
   ·rw [if_pos (by rw [h22]; rfl)]
    refine Sq.bind _ (Sq.of (G200_sp fs e.N j5 (by omega))) fun r hr => sqs.2 (fun h => ?_)
    have h3 := hr h
    exact .mk hs hl (by omega) hA' (fun h => by omega) (fun h => by omega) (fun h => by omega) (fun h => by omega) (fun h => by omega) (fun _ => ⟨h3.1, h3.2.1, by rw [← hbe]; exact h3.2.2⟩)
   ·rw [if_neg (by simpa using h22), G201_eq]
    simp only [Option.bind_some]
    by_cases hN : numE e.Op = (j5.length : Int)
    ·rw [if_neg (by simpa using hN)]
     have hh : (0 ≤ e.Op ∧ e.Op ≤ 21) ∧ (e.Op = 6 ∨ e.Op = 7 ∨ e.Op = 20 → 1 ≤ j5.length) ∧ (8 ≤ e.Op ∧ e.Op ≤ 19 → 2 ≤ j5.length) ∧ (e.Op = 21 → 3 ≤ j5.length) := by
      unfold numE at hN
      repeat' split at hN
      all_goals omega
     obtain ⟨ho, c1, c2, c21⟩ := hh
     have fin : (e.Op = 3 → 0 ≤ e.N ∧ e.N < cs.length) → (e.Op = 4 → 0 ≤ e.N ∧ e.N < ps.length) → OkI (arF fs) fs.length cs.length ps.length e := fun c3 c4 =>
      .mk hs hl (by omega) hA' c3 c4 (fun h => by have := c1 h; omega) (fun h => by have := c2 h; omega) (fun h => by have := c21 h; omega) (fun h => absurd h h22)
     clear hN
     by_cases h3 : e.Op = 3
     ·simp (decide := true) only [h3, ↓reduceIte]
      refine Sq.bind _ (Sq.of (G202_sp cs e.N)) fun r hr => sqs.2 (fun h => fin (fun _ => hr h) (fun h => by omega))
     by_cases h4 : e.Op = 4
     ·simp (decide := true) only [h4, ↓reduceIte]
      refine Sq.bind _ (Sq.of (G202_sp ps e.N)) fun r hr => sqs.2 (fun h => fin (fun h => by omega) (fun _ => hr h))
     have fin' := fin (fun h => absurd h h3) (fun h => absurd h h4)
     by_cases hu : e.Op = 0 ∨ e.Op = 1 ∨ e.Op = 2 ∨ e.Op = 5
     ·rcases hu with h | h | h | h
      all_goals simp (decide := true) only [h, ↓reduceIte]
      all_goals repeat' (first | exact sqs.2 (fun _ => fin') | split)
     by_cases hu1 : e.Op = 6 ∨ e.Op = 7 ∨ e.Op = 20
     ·have g0 : (0 : Int) < (j5.length : Int) := by have := c1 hu1; omega
      have g0' : Int.toNat 0 < j5.length := by show 0 < j5.length; omega
      rcases hu1 with h | h | h
      all_goals simp (decide := true) only [h, g0, g0', and_self, ↓reduceIte]
      all_goals repeat' (first | exact sqs.2 (fun _ => fin') | split)
     have l2 : 2 ≤ j5.length := by
      by_cases h : e.Op = 21
      ·have := c21 h; omega
      ·exact c2 (by omega)
     have g0 : (0 : Int) < (j5.length : Int) := by omega
     have g0' : Int.toNat 0 < j5.length := by show 0 < j5.length; omega
     have g1 : (1 : Int) < (j5.length : Int) := by omega
     have g1' : Int.toNat 1 < j5.length := by show 1 < j5.length; omega
     have hop : e.Op = 8 ∨ e.Op = 9 ∨ e.Op = 10 ∨ e.Op = 11 ∨ e.Op = 12 ∨ e.Op = 13 ∨ e.Op = 14 ∨ e.Op = 15 ∨ e.Op = 16 ∨ e.Op = 17 ∨ e.Op = 18 ∨ e.Op = 19 ∨ e.Op = 21 := by omega
     rcases hop with h | h | h | h | h | h | h | h | h | h | h | h | h
     iterate 12
      ·simp (decide := true) only [h, g0, g0', g1, g1', and_self, ↓reduceIte, Option.bind_some]
       repeat' (first | exact sqs.2 (fun _ => fin') | split)
     have l3 := c21 h
     have g2 : (2 : Int) < (j5.length : Int) := by omega
     have g2' : Int.toNat 2 < j5.length := by show 2 < j5.length; omega
     simp (decide := true) only [h, g0, g0', g1, g1', g2, g2', and_self, ↓reduceIte, Option.bind_some]
     repeat' (first | exact sqs.2 (fun _ => fin') | split)
    ·rw [if_pos (by simpa using hN)]
     exact sqs.2 (fun h => by cases h)
theorem G80_spE (e : Expr) (h : BndE e) : Sp (G80 e) (fun _ => True) := by
 refine fixF_sq (C := fun (a : Expr) (x : Option (Int)) => Con Proofs.Tryz.prog 130 [.t (eExpr a)] x (fun (y : Int) => .t (.int .i64 (y)))) (fun a => ⟨cof Proofs.Tryz.func130 (by kernel_rfl), fun _ h => nomatch h⟩) (fun rec a => T80 rec a) (fun rec a => T80_ok rec a)
  BndE (fun e => SizeOf.sizeOf e) (fun _ _ => True) (fun b f e he hrec => ?_) true e h
 cases he with
 | mk hs hl hA =>
 unfold T80
 simp only [Tr.den, sqb]
 refine sq_cnt (fun s : Int × Int => s.2) e.Args.length (by omega) (fun _ => True) (fun s k _ hk hkN => ?_) trivial rfl
 obtain ⟨v1, v2⟩ := s
 simp only at hk
 subst hk
 unfold T80_L0
 simp only [Tr.den, Int.toNat_natCast]
 by_cases hc : k < e.Args.length
 ·rw [if_pos (decT (by omega)), if_pos (by omega)]
  refine Sq.bind _ (hrec _ (hA k hc) (sizeOf_argE (gdm hc))) fun r _ => sqs.2 ⟨rfl, hc, trivial⟩
 ·rw [if_neg (decF (by omega))]
  exact sqs.2 (sqs.2 trivial)
theorem G152_spE (fs : List GFunc) (cs ps : List Int) (e : Expr) (he : BndE e) : Sp (G152 fs cs ps e) (fun r => r.2 = true → OkI (arF fs) fs.length cs.length ps.length e) := by
 unfold G152 T152
 simp only [Tr.den]
 refine Sq.bind _ (G80_spE e he) fun r _ => ?_
 split
 ·exact sqs.2 (fun h => by cases h)
 ·refine Sq.bind _ (G185_sp fs cs ps e he) fun r2 h2 => ?_
  split
  ·exact sqs.2 (fun h => by cases h)
  ·rename_i h3
   exact sqs.2 (fun _ => h2 (by simpa using h3))
theorem G82_sp (fs : List GFunc) (hl : fs.length ≤ 1048576) (hb : ∀ i, i < fs.length → BndE (fs.getD i default).Body ∧ (fs.getD i default).Params.length ≤ 1048576) :
  Sp (G82 fs) (fun ok => ok = true → fs.length ≤ 20 ∧ ∀ i, i < fs.length → OkI (arF (fs.take i)) (fs.take i).length 0 (fs.getD i default).Params.length (fs.getD i default).Body) := by
 unfold G82 T82
 simp only [Tr.den]
 refine sqb.2 (sq_cnt (fun s : Int => s) fs.length (by omega) (fun s => ∀ i : Nat, (i : Int) < s → OkI (arF (fs.take i)) (fs.take i).length 0 (fs.getD i default).Params.length (fs.getD i default).Body) (fun s k hI hk hkN => ?_) (fun i hi => absurd hi (by show ¬ ((i : Int) < 0); omega)) rfl)
 subst hk
 unfold T82_L0
 simp only [Tr.den, Int.toNat_natCast]
 by_cases hc : k < fs.length
 ·rw [if_pos (decT (by omega))]
  by_cases h20 : (k : Int) ≤ 20
  ·simp only [Option.bind_some, decide_eq_true h20, if_true]
   rw [if_pos (by omega)]
   have hp := (hb k hc).2
   refine sqb.2 (sq_cnt (fun s : Int => s) (fs.getD k default).Params.length (by omega) (fun _ => True) (fun s m _ hm hmN => ?_) trivial rfl)
   subst hm
   unfold T82_L1
   simp only [Tr.den, Int.toNat_natCast]
   by_cases hm : m < (fs.getD k default).Params.length
   ·rw [if_pos (decT (by omega)), if_pos (by omega), G151_eq]
    simp only [Option.bind_some]
    split
    ·exact sqs.2 (sqs.2 (sqs.2 (fun h => by cases h)))
    ·exact sqs.2 ⟨rfl, hm, trivial⟩
   ·rw [if_neg (decF (by omega))]
    refine sqs.2 ?_
    simp only [sel]
    rw [if_pos ⟨by omega, by omega, by omega⟩]
    have e1 : (fs.drop (Int.toNat 0)).take ((k : Int) - 0).toNat = fs.take k := by
     rw [show ((k : Int) - 0).toNat = k by omega]; rfl
    rw [e1, if_pos ⟨by omega, by omega, by omega⟩]
    refine Sq.bind _ (Sq.of (G152_spE (fs.take k) [] (fs.getD k default).Params (fs.getD k default).Body (hb k hc).1)) fun r5 h5 => ?_
    by_cases ho : r5.2 = true
    ·rw [if_neg (by rw [ho]; decide)]
     refine Sq.bind (fun _ => True) (by split <;> exact sqs.2 trivial) fun j6 _ => ?_
     cases j6 with
     | true => exact sqs.2 (sqs.2 (fun h => by cases h))
     | false =>
      refine sqs.2 ⟨rfl, hc, fun i hi => ?_⟩
      rw [wnc (by omega)] at hi
      rcases Nat.lt_or_ge i k with h | h
      ·exact hI i (by omega)
      ·have : i = k := by omega
       subst this; exact h5 ho
    ·rw [if_pos (by simp only [Bool.not_eq_true] at ho; rw [ho]; rfl)]
     exact sqs.2 (sqs.2 (fun h => by cases h))
  ·simp only [Option.bind_some, decide_eq_false h20, Bool.false_eq_true, if_false]
   refine sqs.2 (sqs.2 (fun h => ?_))
   have := of_decide_eq_true h
   omega
 ·rw [if_neg (decF (by omega))]
  simp only [Option.bind_some, Bool.false_eq_true, if_false]
  refine sqs.2 (sqs.2 (fun h => ⟨by have := of_decide_eq_true h; omega, fun i hi => hI i (by omega)⟩))
theorem OkI.congr {ar ar' : Nat → Nat} {n : Nat} (h : ∀ k, k < n → ar k = ar' k) {nc np : Nat} {e : Expr} (he : OkI ar n nc np e) : OkI ar' n nc np e := by
 induction he with
 | @mk e hs hl ho hA c3 c4 c1 c2 c21 c22 ih =>
  exact .mk hs hl ho ih c3 c4 c1 c2 c21 (fun h22 => by
   obtain ⟨g1, g2, g3⟩ := c22 h22
   exact ⟨g1, g2, by rw [g3]; exact h _ (by omega)⟩)
theorem arF_take {fs : List GFunc} {i k : Nat} (h : k < i) : arF (fs.take i) k = arF fs k := by
 unfold arF
 rw [List.getD_eq_getElem?_getD, List.getD_eq_getElem?_getD, List.getElem?_take, if_pos h]
theorem right_okE {fs : List GFunc} (hl : fs.length ≤ 1048576) (hb : ∀ i, i < fs.length → BndE (fs.getD i default).Body ∧ (fs.getD i default).Params.length ≤ 1048576) (h : G82 fs = some true)
  {cs ps : List Int} {e : Expr} (he : BndE e) {t : Int} (ht : G152 fs cs ps e = some (t, true)) : ∃ h, OkE fs cs.length ps.length h e := by
 have h1 := (G82_sp fs hl hb).1 _ h rfl
 refine okI_okE (fun i hi => ?_) fs.length (Nat.le_refl _) _ _ e ((G152_spE fs cs ps e he).1 _ ht rfl)
 have h2 := h1.2 i hi
 rw [List.length_take, Nat.min_eq_left (by omega)] at h2
 exact h2.congr (fun k hk => arF_take hk)
set_option linter.unusedVariables false
section
variable {α : Type} [Inhabited α] (tm : α → Int) (nx : Int → α → Int) (hit : Int → Bool) (sz bg : Int)
def isM (t0 now : Int) (l : List α) : Bool := decide (tm (l.getLastD default) - t0 < sz) && hit (l.foldl nx now)
theorem wlkM_get (h0 : ∀ q, nx 0 q = 0) (hh : hit 0 = false) (t0 i : Int) (hi : 0 ≤ i) : ∀ (now : Int) (qs : List α) (fs : List Int) (k : Nat), fs.length = qs.length → k < qs.length → qs.Pairwise (fun x y => tm x ≤ tm y) →
  (wlkM tm nx hit sz t0 i now qs fs).getD k default = if isM tm nx hit sz t0 now (qs.take (k + 1)) = true ∧ fs.getD k default < 0 then i else fs.getD k default
 | now, [], _, k, _, hk, _ => by simp at hk
 | now, q :: qs, [], k, hl, hk, _ => by simp at hl
 | now, q :: qs, f :: fs, k, hl, hk, hs => by
  have hs' := List.pairwise_cons.1 hs
  have zero : ∀ l : List α, l.foldl nx 0 = 0 := by
   intro l
   induction l with
   | nil => rfl
   | cons a l ih => rw [List.foldl_cons, h0, ih]
  unfold wlkM
  by_cases hc : tm q - t0 < sz ∧ now ≠ 0
  ·rw [if_pos hc]
   cases k with
   | zero =>
    simp only [List.getD_cons_zero, List.take_succ_cons, List.take_zero]
    unfold isM
    simp only [List.getLastD_cons, List.getLastD_nil, List.foldl_cons, List.foldl_nil, decide_eq_true hc.1, Bool.true_and]
   | succ k =>
    simp only [List.getD_cons_succ]
    have hk' : k < qs.length := by simp only [List.length_cons] at hk; omega
    rw [wlkM_get h0 hh t0 i hi (nx now q) qs fs k (by simpa using hl) hk' hs'.2]
    have e : isM tm nx hit sz t0 now ((q :: qs).take (k + 1 + 1)) = isM tm nx hit sz t0 (nx now q) (qs.take (k + 1)) := by
     unfold isM
     rw [List.take_succ_cons, List.foldl_cons]
     have hne : qs.take (k + 1) ≠ [] := by
      intro h; have := congrArg List.length h; rw [List.length_take, List.length_nil] at this; omega
     obtain ⟨a, b, hab⟩ := List.exists_cons_of_ne_nil hne
     rw [hab]; rfl
    rw [e]
  ·rw [if_neg hc]
   have e : isM tm nx hit sz t0 now ((q :: qs).take (k + 1)) = false := by
    unfold isM
    by_cases hn : now = 0
    ·subst hn
     rw [zero, hh, Bool.and_false]
    ·have ht : ¬ tm q - t0 < sz := fun h => hc ⟨h, hn⟩
     have : ¬ tm (((q :: qs).take (k + 1)).getLastD default) - t0 < sz := by
      have hm : ((q :: qs).take (k + 1)).getLastD default ∈ (q :: qs) := by
       rw [List.take_succ_cons, List.getLastD_cons]
       have : (qs.take k).getLastD q ∈ q :: qs.take k := by
        cases hq : qs.take k with
        | nil => simp
        | cons a b =>
         rw [List.getLastD_cons]
         have := List.getLast_mem (l := a :: b) (by simp)
         rw [List.getLast_eq_getLastD] at this
         exact List.mem_cons_of_mem _ this
       rcases List.mem_cons.1 this with h | h
       ·rw [h]; exact List.mem_cons_self
       ·exact List.mem_cons_of_mem _ (List.mem_of_mem_take h)
      rcases List.mem_cons.1 hm with h | h
      ·rw [h]; exact ht
      ·have := hs'.1 _ h; omega
     rw [decide_eq_false this, Bool.false_and]
   rw [e, if_neg (by simp)]
def firstM : Int → List α → Nat → Int
 | _, [], _ => -1
 | i, q :: qs, 0 => if isM tm nx hit sz (tm q) bg [q] = true then i else -1
 | i, q :: qs, k + 1 => if isM tm nx hit sz (tm q) bg ((q :: qs).take (k + 1 + 1)) = true then i else firstM (i + 1) qs k
theorem frmM_get (h0 : ∀ q, nx 0 q = 0) (hh : hit 0 = false) : ∀ (i : Int) (qs : List α) (fs : List Int) (k : Nat), 0 ≤ i → fs.length = qs.length → k < qs.length → qs.Pairwise (fun x y => tm x ≤ tm y) → (fs.getD k default < 0 → fs.getD k default = -1) →
  (frmM tm nx hit sz bg i qs fs).getD k default = if fs.getD k default < 0 then firstM tm nx hit sz bg i qs k else fs.getD k default
 | i, [], fs, k, hi, hl, hk, hs, hf => by simp at hk
 | i, q :: qs, fs, k, hi, hl, hk, hs, hf => by
  have hg := wlkM_get tm nx hit sz h0 hh (tm q) i hi bg (q :: qs) fs
  have hlen := wlkM_len tm nx hit sz (tm q) i bg (q :: qs) fs
  unfold frmM
  generalize wlkM tm nx hit sz (tm q) i bg (q :: qs) fs = st at hg hlen
  cases st with
  | nil => rw [List.length_nil] at hlen; simp only [List.length_cons] at hl; omega
  | cons f fs' =>
   simp only
   cases k with
   | zero =>
    have h1 := hg 0 hl hk hs
    simp only [List.getD_cons_zero] at h1 ⊢
    rw [h1, show (q :: qs).take (0 + 1) = [q] from rfl]
    unfold firstM
    by_cases hm : isM tm nx hit sz (tm q) bg [q] = true
    ·by_cases hn : fs.getD 0 default < 0
     ·rw [if_pos ⟨hm, hn⟩, if_pos hn, if_pos hm]
     ·rw [if_neg (fun h => hn h.2), if_neg hn]
    ·rw [if_neg (fun h => hm h.1)]
     by_cases hn : fs.getD 0 default < 0
     ·rw [if_pos hn, if_neg hm, hf hn]
     ·rw [if_neg hn]
   | succ k =>
    have h1 := hg (k + 1) hl hk hs
    simp only [List.getD_cons_succ] at h1 ⊢
    have hk' : k < qs.length := by simp only [List.length_cons] at hk; omega
    have hl' : fs'.length = qs.length := by
     simp only [List.length_cons] at hlen hl; omega
    by_cases hm : isM tm nx hit sz (tm q) bg ((q :: qs).take (k + 1 + 1)) = true
    ·by_cases hn : fs.getD (k + 1) default < 0
     ·rw [if_pos ⟨hm, hn⟩] at h1
      rw [frmM_get h0 hh (i + 1) qs fs' k (by omega) hl' hk' (List.pairwise_cons.1 hs).2 (fun h => by omega), h1, if_neg (by omega), if_pos hn]
      conv => rhs; unfold firstM
      rw [if_pos hm]
     ·rw [if_neg (fun h => hn h.2)] at h1
      rw [frmM_get h0 hh (i + 1) qs fs' k (by omega) hl' hk' (List.pairwise_cons.1 hs).2 (fun h => by rw [h1] at h; exact absurd h hn), h1, if_neg hn, if_neg hn]
    ·rw [if_neg (fun h => hm h.1)] at h1
     rw [frmM_get h0 hh (i + 1) qs fs' k (by omega) hl' hk' (List.pairwise_cons.1 hs).2 (fun h => by rw [h1] at h ⊢; exact hf h), h1]
     conv => rhs; unfold firstM
     rw [if_neg hm]
end
end Go.PL
