/-
  From functions of fuel to functions without fuel. Own work.
-/
import Derived.Test.YtlhmdnniolhnjaaPm
namespace Go.PL
open Go

/-- the functions of fuel come, with more and more fuel, to a value, or to none -/
structure Conv {α : Type} (f : Nat → Option α) (g : Option α) : Prop where
  mono : ∀ n y, f n = some y → f (n + 1) = some y
  lim : ∀ y, g = some y ↔ ∃ n, f n = some y

theorem Conv.le {α : Type} {f : Nat → Option α} {g : Option α} (h : Conv f g) {n m : Nat} (hnm : n ≤ m) {y : α} (hy : f n = some y) : f m = some y := by
  induction hnm with
  | refl => exact hy
  | step _ ih => exact h.mono _ _ ih
theorem Conv.uniq {α : Type} {f : Nat → Option α} {g g' : Option α} (h : Conv f g) (h' : Conv f g') : g = g' := by
  cases hg : g with
  | none =>
    cases hg' : g' with
    | none => rfl
    | some y => rw [(h.lim y).2 ((h'.lim y).1 hg')] at hg; cases hg
  | some y => exact ((h'.lim y).2 ((h.lim y).1 hg)).symm
theorem Conv.of_run {α : Type} {f : Nat → Option α} {g : Option α} (h : Conv f g) (n : Nat) {y : α} (hy : f n = some y) : g = some y := (h.lim y).2 ⟨n, hy⟩
theorem Conv.run {α : Type} {f : Nat → Option α} {g : Option α} (h : Conv f g) {y : α} (hy : g = some y) : ∃ n, f n = some y := (h.lim y).1 hy

open Classical in
/-- what a function of fuel comes to -/
noncomputable def Lim {α : Type} (f : Nat → Option α) : Option α := if h : ∃ y n, f n = some y then some h.choose else none

theorem Lim.conv {α : Type} {f : Nat → Option α} (hm : ∀ n y, f n = some y → f (n + 1) = some y) : Conv f (Lim f) := by
  have hle : ∀ {n m : Nat}, n ≤ m → ∀ {y : α}, f n = some y → f m = some y := by
    intro n m h
    induction h with
    | refl => exact fun h => h
    | step _ ih => exact fun h => hm _ _ (ih h)
  refine ⟨hm, fun y => ?_⟩
  unfold Lim
  split
  · rename_i h
    have hc := h.choose_spec
    constructor
    · intro e; cases e; exact hc
    · rintro ⟨n, hn⟩
      obtain ⟨m, hm'⟩ := hc
      have h1 := hle (Nat.le_max_left n m) hn
      have h2 := hle (Nat.le_max_right n m) hm'
      rw [h1] at h2; cases h2; rfl
  · rename_i h
    constructor
    · intro e; cases e
    · rintro ⟨n, hn⟩; exact absurd ⟨y, n, hn⟩ h

theorem conv_const {α : Type} {x : Option α} : Conv (fun _ => x) x := ⟨fun _ _ h => h, fun _ => ⟨fun h => ⟨0, h⟩, fun ⟨_, h⟩ => h⟩⟩
theorem conv_ite {α : Type} {c : Prop} [Decidable c] {f f' : Nat → Option α} {g g' : Option α} (h : Conv f g) (h' : Conv f' g') : Conv (fun n => if c then f n else f' n) (if c then g else g') := by
  by_cases hc : c
  · simp only [if_pos hc]; exact h
  · simp only [if_neg hc]; exact h'
theorem conv_bind {α β : Type} {f : Nat → Option α} {g : Option α} {k : Nat → α → Option β} {k' : α → Option β} (h : Conv f g) (h' : ∀ y, Conv (fun n => k n y) (k' y)) :
    Conv (fun n => Option.bind (f n) (k n)) (Option.bind g k') := by
  constructor
  · intro n y hy
    cases hf : f n with
    | none => simp [hf] at hy
    | some x =>
      simp only [hf, Option.bind_some] at hy
      simp only [h.mono n x hf, Option.bind_some]
      exact (h' x).mono n y hy
  · intro y
    constructor
    · intro hy
      cases hg : g with
      | none => simp [hg] at hy
      | some x =>
        simp only [hg, Option.bind_some] at hy
        obtain ⟨n, hn⟩ := (h.lim x).1 hg
        obtain ⟨m, hm⟩ := ((h' x).lim y).1 hy
        refine ⟨max n m, ?_⟩
        simp only [h.le (Nat.le_max_left n m) hn, Option.bind_some]
        exact (h' x).le (Nat.le_max_right n m) hm
    · rintro ⟨n, hn⟩
      cases hf : f n with
      | none => simp [hf] at hn
      | some x =>
        simp only [hf, Option.bind_some] at hn
        simp only [(h.lim x).2 ⟨n, hf⟩, Option.bind_some]
        exact ((h' x).lim y).2 ⟨n, hn⟩

theorem iterM_mono {S R : Type} {b : S → Option (S ⊕ R)} {n : Nat} {s : S} {r : R} (h : iterM b n s = some r) : iterM b (n + 1) s = some r := by
  induction n generalizing s with
  | zero => simp [iterM] at h
  | succ n ih =>
    rw [iterM] at h ⊢
    cases hb : b s with
    | none => simp [hb] at h
    | some x =>
      cases x with
      | inl s' => simp only [hb] at h ⊢; exact ih h
      | inr r' => simp only [hb] at h ⊢; exact h

/-- a loop without fuel -/
noncomputable def whileM {S R : Type} (b : S → Option (S ⊕ R)) (s : S) : Option R := Lim fun n => iterM b n s
theorem whileM_conv {S R : Type} (b : S → Option (S ⊕ R)) (s : S) : Conv (fun n => iterM b n s) (whileM b s) := Lim.conv fun _ _ h => iterM_mono h

theorem whileM_eq {S R : Type} (b : S → Option (S ⊕ R)) (s : S) : whileM b s = match b s with | none => none | some (.inl s') => whileM b s' | some (.inr r) => some r := by
  have hc := whileM_conv b s
  cases hb : b s with
  | none =>
    simp only
    cases hw : whileM b s with
    | none => rfl
    | some y => obtain ⟨n, hn⟩ := hc.run hw; cases n <;> simp [iterM, hb] at hn
  | some x =>
    cases x with
    | inr r => exact hc.of_run 1 (by simp [iterM, hb])
    | inl s' =>
      simp only
      have hc' := whileM_conv b s'
      cases hw : whileM b s' with
      | some y => obtain ⟨n, hn⟩ := hc'.run hw; exact hc.of_run (n + 1) (by simp [iterM, hb, hn])
      | none =>
        cases hv : whileM b s with
        | none => rfl
        | some y =>
          obtain ⟨n, hn⟩ := hc.run hv
          cases n with
          | zero => simp [iterM] at hn
          | succ n => simp only [iterM, hb] at hn; rw [hc'.of_run n hn] at hw; cases hw

theorem whileM_none {S R : Type} {b : S → Option (S ⊕ R)} {s : S} (h : b s = none) : whileM b s = none := by rw [whileM_eq, h]
theorem whileM_next {S R : Type} {b : S → Option (S ⊕ R)} {s s' : S} (h : b s = some (.inl s')) : whileM b s = whileM b s' := by rw [whileM_eq, h]
theorem whileM_stop {S R : Type} {b : S → Option (S ⊕ R)} {s : S} {r : R} (h : b s = some (.inr r)) : whileM b s = some r := by rw [whileM_eq, h]

theorem iterM_whileM {S R : Type} {b : S → Option (S ⊕ R)} {n : Nat} {s : S} {r : R} (h : iterM b n s = some r) : whileM b s = some r := (whileM_conv b s).of_run n h

/-- rounds of growing bodies are the rounds of their limit -/
theorem conv_iter {S R : Type} {b : Nat → S → Option (S ⊕ R)} {b' : S → Option (S ⊕ R)} (h : ∀ s, Conv (fun n => b n s) (b' s)) (s : S) : Conv (fun n => iterM (b n) n s) (whileM b' s) := by
  have up : ∀ (k n m : Nat) (s : S) (r : R), n ≤ m → iterM (b n) k s = some r → iterM (b m) k s = some r := by
    intro k
    induction k with
    | zero => intro n m s r _ h; simp [iterM] at h
    | succ k ih =>
      intro n m s r hnm hk
      rw [iterM] at hk ⊢
      cases hb : b n s with
      | none => simp [hb] at hk
      | some x =>
        rw [(h s).le hnm hb]
        cases x with
        | inl s' => simp only [hb] at hk ⊢; exact ih n m s' r hnm hk
        | inr r' => simp only [hb] at hk ⊢; exact hk
  have lim : ∀ (k : Nat) (s : S) (r : R), iterM b' k s = some r → ∃ n, iterM (b n) k s = some r := by
    intro k
    induction k with
    | zero => intro s r h; simp [iterM] at h
    | succ k ih =>
      intro s r hk
      rw [iterM] at hk
      cases hb : b' s with
      | none => simp [hb] at hk
      | some x =>
        obtain ⟨n, hn⟩ := (h s).run hb
        cases x with
        | inl s' =>
          simp only [hb] at hk
          obtain ⟨m, hm⟩ := ih s' r hk
          refine ⟨max n m, ?_⟩
          rw [iterM, (h s).le (Nat.le_max_left n m) hn]
          exact up k m _ s' r (Nat.le_max_right n m) hm
        | inr r' =>
          simp only [hb] at hk
          exact ⟨n, by rw [iterM, hn]; exact hk⟩
  have below : ∀ (k n : Nat) (s : S) (r : R), iterM (b n) k s = some r → iterM b' k s = some r := by
    intro k
    induction k with
    | zero => intro n s r h; simp [iterM] at h
    | succ k ih =>
      intro n s r hk
      rw [iterM] at hk ⊢
      cases hb : b n s with
      | none => simp [hb] at hk
      | some x =>
        rw [(h s).of_run n hb]
        cases x with
        | inl s' => simp only [hb] at hk ⊢; exact ih n s' r hk
        | inr r' => simp only [hb] at hk ⊢; exact hk
  constructor
  · intro n y hy; exact iterM_mono (up n n (n + 1) s y (Nat.le_succ n) hy)
  · intro y
    constructor
    · intro hy
      obtain ⟨k, hk⟩ := (whileM_conv b' s).run hy
      obtain ⟨n, hn⟩ := lim k s y hk
      refine ⟨max k n, ?_⟩
      have := up k n (max k n) s y (Nat.le_max_right k n) hn
      exact (whileM_conv (b (max k n)) s).le (Nat.le_max_left k n) this
    · rintro ⟨n, hn⟩
      exact iterM_whileM (below n n s y hn)

/-- a function that calls itself -/
theorem conv_fix {A B : Type} {F : Nat → A → Option B} {body : (A → Option B) → Nat → A → Option B} {body' : (A → Option B) → A → Option B} (h0 : ∀ a, F 0 a = none)
    (hs : ∀ n a, F (n + 1) a = body (F n) n a) (hb : ∀ (r : Nat → A → Option B) (r' : A → Option B), (∀ a, Conv (fun n => r n a) (r' a)) → ∀ a, Conv (fun n => body (r n) n a) (body' r' a)) :
    (∀ a, Conv (fun n => F n a) (Lim fun n => F n a)) ∧ ∀ a, (Lim fun n => F n a) = body' (fun a => Lim fun n => F n a) a := by
  have up : ∀ k n a y, n ≤ k → F n a = some y → F (n + 1) a = some y := by
    intro k
    induction k with
    | zero => intro n a y hn h; obtain rfl : n = 0 := by omega
              rw [h0] at h; cases h
    | succ k ih =>
      intro n a y hn h
      cases n with
      | zero => rw [h0] at h; cases h
      | succ n =>
        have hc : ∀ a, Conv (fun m => F (min m (k + 1)) a) (Lim fun m => F (min m (k + 1)) a) := fun a => Lim.conv fun m y hm => by
          by_cases hmk : m ≤ k
          · rw [Nat.min_eq_left (by omega)] at hm
            rw [Nat.min_eq_left (by omega)]
            exact ih m a y hmk hm
          · rw [Nat.min_eq_right (by omega)] at hm ⊢; exact hm
        have := (hb (fun m => F (min m (k + 1))) _ hc a).mono n y
        simp only [Nat.min_eq_left (show n ≤ k + 1 by omega), Nat.min_eq_left (show n + 1 ≤ k + 1 by omega)] at this
        rw [hs] at h ⊢
        exact this h
  have hc : ∀ a, Conv (fun n => F n a) (Lim fun n => F n a) := fun a => Lim.conv fun n y h => up n n a y (Nat.le_refl n) h
  refine ⟨hc, fun a => ?_⟩
  have h1 : Conv (fun n => F (n + 1) a) (Lim fun n => F n a) := by
    refine ⟨fun n y h => (hc a).mono _ _ h, fun y => ?_⟩
    rw [(hc a).lim y]
    exact ⟨fun ⟨n, hn⟩ => ⟨n, (hc a).mono _ _ hn⟩, fun ⟨n, hn⟩ => ⟨n + 1, hn⟩⟩
  have h2 := hb F _ hc a
  have : (fun n => F (n + 1) a) = fun n => body (F n) n a := funext fun n => hs n a
  rw [this] at h1
  exact h1.uniq h2

/-- what a loop does, by a measure -/
theorem whileM_ind {S R : Type} {b : S → Option (S ⊕ R)} (I : S → Prop) (μ : S → Nat) (Q : R → Prop)
    (h : ∀ s, I s → (∃ s', b s = some (.inl s') ∧ I s' ∧ μ s' < μ s) ∨ (∃ r, b s = some (.inr r) ∧ Q r)) (s : S) (hs : I s) : ∃ r, whileM b s = some r ∧ Q r := by
  have : ∀ (k : Nat) (s : S), μ s ≤ k → I s → ∃ r, whileM b s = some r ∧ Q r := by
    intro k
    induction k with
    | zero =>
      intro s hk hs
      rcases h s hs with ⟨s', h1, h2, h3⟩ | ⟨r, h1, h2⟩
      · omega
      · exact ⟨r, whileM_stop h1, h2⟩
    | succ k ih =>
      intro s hk hs
      rcases h s hs with ⟨s', h1, h2, h3⟩ | ⟨r, h1, h2⟩
      · obtain ⟨r, h4, h5⟩ := ih s' (by omega) h2
        exact ⟨r, by rw [whileM_next h1]; exact h4, h5⟩
      · exact ⟨r, whileM_stop h1, h2⟩
  exact this (μ s) s (Nat.le_refl _) hs

end Go.PL
