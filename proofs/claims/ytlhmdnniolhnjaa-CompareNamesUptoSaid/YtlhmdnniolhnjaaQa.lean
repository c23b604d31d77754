/-
  Plain reasoning about functions without fuel: what they come to. Own work.
-/
import Derived.Test.YtlhmdnniolhnjaaPz
import Derived.Test.YtlhmdnniolhnjaaRr
namespace Go.PL
open Go

/-- it comes to a value, of which P holds -/
def Sp {α : Type} (x : Option α) (P : α → Prop) : Prop := ∃ y, x = some y ∧ P y
theorem Sp.ret {α : Type} {y : α} {P : α → Prop} (h : P y) : Sp (some y) P := ⟨y, rfl, h⟩
theorem Sp.triv {α : Type} {y : α} : Sp (some y) (fun _ => True) := ⟨y, rfl, trivial⟩
theorem Sp.bind {α β : Type} {x : Option α} {f : α → Option β} {Q : β → Prop} (P : α → Prop) (h : Sp x P) (h' : ∀ y, P y → Sp (f y) Q) : Sp (Option.bind x f) Q := by
  obtain ⟨y, rfl, hy⟩ := h; exact h' y hy
theorem Sp.imp' {α : Type} {x : Option α} {P Q : α → Prop} (h : Sp x P) (hq : ∀ y, P y → Q y) : Sp x Q := by
  obtain ⟨y, rfl, hy⟩ := h; exact ⟨y, rfl, hq y hy⟩
theorem Sp.tt {α : Type} {x : Option α} {P : α → Prop} (h : Sp x P) : Sp x (fun _ => True) := h.imp' fun _ _ => trivial
theorem Sp.ite {α : Type} {c : Prop} [Decidable c] {x y : Option α} {P : α → Prop} (h : c → Sp x P) (h' : ¬ c → Sp y P) : Sp (if c then x else y) P := by
  by_cases hc : c
  · rw [if_pos hc]; exact h hc
  · rw [if_neg hc]; exact h' hc
theorem Sp.iteB {α : Type} {b : Bool} {x y : Option α} {P : α → Prop} (h : b = true → Sp x P) (h' : b = false → Sp y P) : Sp (if b = true then x else y) P := by
  cases b with
  | true => exact h rfl
  | false => exact h' rfl
theorem Sp.iteD {α : Type} {c : Prop} [Decidable c] {x y : Option α} {P : α → Prop} (h : c → Sp x P) (h' : ¬ c → Sp y P) : Sp (if (decide c) = true then x else y) P := by
  by_cases hc : c
  · rw [if_pos (by simpa using hc)]; exact h hc
  · rw [if_neg (by simpa using hc)]; exact h' hc
theorem Sp.iteN {α : Type} {m n : Int} {x y : Option α} {P : α → Prop} (h : m ≠ n → Sp x P) (h' : m = n → Sp y P) : Sp (if (m != n) = true then x else y) P := by
  by_cases hc : m = n
  · rw [if_neg (by simpa using hc)]; exact h' hc
  · rw [if_pos (by simpa using hc)]; exact h hc
theorem Sp.iteE {α : Type} {m n : Int} {x y : Option α} {P : α → Prop} (h : m = n → Sp x P) (h' : m ≠ n → Sp y P) : Sp (if (m == n) = true then x else y) P := by
  by_cases hc : m = n
  · rw [if_pos (by simpa using hc)]; exact h hc
  · rw [if_neg (by simpa using hc)]; exact h' hc
theorem Sp.guard {α : Type} {c : Prop} [Decidable c] {x : Option α} {P : α → Prop} (hc : c) (h : Sp x P) : Sp (if c then x else none) P := by rw [if_pos hc]; exact h
theorem Sp.eq {α : Type} {x : Option α} {y : α} : x = some y → Sp x (fun z => z = y) := fun h => ⟨y, h, rfl⟩
theorem Sp.get {α : Type} {x : Option α} {y : α} (h : Sp x (fun z => z = y)) : x = some y := by obtain ⟨z, h1, rfl⟩ := h; exact h1

theorem wrap_id {n : Int} (h1 : -9223372036854775808 ≤ n) (h2 : n ≤ 9223372036854775807) : IntKind.i64.wrap n = n := by
  simp only [IntKind.wrap, IntKind.bits, IntKind.signed]
  simp
  omega

/-- a loop that counts up to N -/
theorem Sp.count {S R : Type} {b : S → Option (S ⊕ R)} (idx : S → Int) (N : Nat) (I : S → Prop) (Q : R → Prop) (hN : N ≤ 9223372036854775806)
    (h : ∀ s, I s → 0 ≤ idx s → idx s ≤ N → Sp (b s) (fun x => match x with | .inl s' => idx s < N ∧ idx s' = IntKind.i64.wrap (idx s + 1) ∧ I s' | .inr r => Q r)) (s : S) (hs : I s) (h0 : 0 ≤ idx s) (h1 : idx s ≤ N) :
    Sp (whileM b s) Q := by
  have := whileM_ind (b := b) (fun s => I s ∧ 0 ≤ idx s ∧ idx s ≤ N) (fun s => (N - idx s).toNat) Q (fun s hs => ?_) s ⟨hs, h0, h1⟩
  · obtain ⟨r, h1, h2⟩ := this; exact ⟨r, h1, h2⟩
  · obtain ⟨x, hx, hp⟩ := h s hs.1 hs.2.1 hs.2.2
    cases x with
    | inl s' =>
      obtain ⟨q1, q2, q3⟩ := hp
      rw [wrap_id (by omega) (by omega)] at q2
      exact .inl ⟨s', hx, ⟨q3, by omega, by omega⟩, by omega⟩
    | inr r => exact .inr ⟨r, hx, hp⟩

theorem reach_eq : reachBytes = 140737488351232 := rfl

theorem okL.get {X : Type} [Inhabited X] {b : Nat} {ok : X → Prop} {xs : List X} (h : okL b ok xs) (hd : ok default) (i : Nat) : ok (xs.getD i default) := by
  by_cases hi : i < xs.length
  · have : xs.getD i default = xs[i] := by simp [List.getD_eq_getElem?_getD, hi]
    rw [this]; exact h.2 _ (List.getElem_mem hi)
  · have : xs.getD i default = default := by simp [List.getD_eq_getElem?_getD, hi]
    rw [this]; exact hd
theorem okL.len {X : Type} {b : Nat} {ok : X → Prop} {xs : List X} (h : okL b ok xs) : xs.length ≤ 1048576 := h.1
theorem okL.nil {X : Type} {b : Nat} {ok : X → Prop} : okL b ok [] := ⟨by simp, by simp⟩

end Go.PL
