/-
  Comparing programs. Own work.
-/
import Derived.Test.YtlhmdnniolhnjaaQk
import Derived.Test.YtlhmdnniolhnjaaGc
namespace Go.PL
open Go

/-- r is the first node of A that is the same as node k of B, or none is -/
structure Least (A B : GProgram) (k : Nat) (r : Int) : Prop where
  hit : 0 ≤ r → r.toNat < A.Nodes.length ∧ same A B r.toNat k = true ∧ ∀ v, v < r.toNat → same A B v k = false
  miss : r < 0 → ∀ v, v < A.Nodes.length → same A B v k = false

theorem G18s0_ok {A B : GProgram} (hp : Pair A B) {k : Nat} (hk : k < B.Nodes.length) {m : List (List Int × Bool)} (hm : Mem A B m) : Sp (G18s0 (k : Int) A.Funcs A.Nodes B.Funcs B.Nodes m) (fun x => Least A B k x.1 ∧ Mem A B x.2) := by
  have hn := hp.fa.n
  unfold G18s0
  refine Sp.bind (fun R => match R with | .inl b => (∀ v, v < A.Nodes.length → same A B v k = false) ∧ Mem A B b | .inr y => Least A B k y.1 ∧ Mem A B y.2) ?_ (fun R hR => ?_)
  · refine Sp.count (fun s => s.2) A.Nodes.length (fun s => Mem A B s.1 ∧ ∀ v : Nat, (v : Int) < s.2 → same A B v k = false) _ (by omega) (fun s hs h0 h1 => ?_) (m, 0) ⟨hm, fun j hj => by simp at hj; omega⟩ (Int.le_refl _) (by simp)
    obtain ⟨v1, v2⟩ := s
    obtain ⟨hs1, hs2⟩ := hs
    simp only at h0 h1 hs1 hs2
    obtain ⟨j, rfl⟩ := Int.eq_ofNat_of_zero_le h0
    rw [G18s0_L0]
    refine Sp.iteD (fun hlt => ?_) (fun hge => Sp.ret ⟨fun v hv => hs2 v (by omega), hs1⟩)
    refine Sp.bind _ (G19s0_ok hp j k (by omega) hk v1 hs1) (fun x hx => ?_)
    obtain ⟨b, m'⟩ := x
    obtain ⟨hx1, hx2⟩ := hx
    simp only at hx1 hx2
    refine Sp.iteB (fun ht => Sp.ret ⟨⟨fun _ => ⟨by simp only [Int.toNat_natCast]; omega, ?_, fun v hv => hs2 v ?_⟩, fun h => by simp only at h; omega⟩, hx2⟩) (fun hf => Sp.ret ⟨hlt, rfl, hx2, fun v hv => ?_⟩)
    · simp only [Int.toNat_natCast]; rw [← hx1]; exact ht
    · simp only [Int.toNat_natCast] at hv; omega
    · simp only at hv
      rw [wrap_id (by omega) (by omega)] at hv
      by_cases hvj : v = j
      · subst hvj; rw [← hx1]; exact hf
      · exact hs2 v (by omega)
  · cases R with
    | inl b => exact Sp.ret ⟨⟨fun h => by simp at h, fun _ => hR.1⟩, hR.2⟩
    | inr y => exact Sp.ret hR

theorem G18s1_ok {A B : GProgram} (hp : Pair A B) {k : Nat} (hk : k < B.Nodes.length) {m : List (List Int × Bool)} (hm : Mem A B m) : Sp (G18s1 (k : Int) A.Funcs A.Nodes B.Funcs B.Nodes m) (fun x => Mem A B x.2) := by
  have hn := hp.fa.n
  unfold G18s1
  refine Sp.bind (fun R => match R with | .inl b => Mem A B b | .inr y => Mem A B y.2) ?_ (fun R hR => by cases R <;> exact Sp.ret hR)
  refine Sp.count (fun s => s.2) A.Nodes.length (fun s => Mem A B s.1) _ (by omega) (fun s hs h0 h1 => ?_) (m, 0) hm (Int.le_refl _) (by simp)
  obtain ⟨v1, v2⟩ := s
  simp only at h0 h1 hs
  obtain ⟨j, rfl⟩ := Int.eq_ofNat_of_zero_le h0
  rw [G18s1_L0]
  refine Sp.iteD (fun hlt => ?_) (fun hge => Sp.ret hs)
  refine Sp.bind _ (G20s0_ok hp (show j < A.Nodes.length by omega) hk hs) (fun x hx => ?_)
  exact Sp.iteB (fun ht => Sp.ret hx) (fun hf => Sp.ret ⟨hlt, rfl, hx⟩)

/-- what Compare gives -/
structure Matches (A B : GProgram) (ms : List GMatch) : Prop where
  len : ms.length = B.Nodes.length
  all : ∀ k, k < B.Nodes.length → (∃ v, v < A.Nodes.length ∧ same A B v k = true) → (ms.getD k default).New = (k : Int) ∧ (ms.getD k default).Why = 0 ∧ 0 ≤ (ms.getD k default).Old ∧ Least A B k (ms.getD k default).Old

theorem getD_append_left {A : Type} [Inhabited A] {l r : List A} {i : Nat} (h : i < l.length) : (l ++ r).getD i default = l.getD i default := by
  simp [List.getD_eq_getElem?_getD, List.getElem?_append_left h]
theorem getD_append_last {A : Type} [Inhabited A] {l : List A} {x : A} : (l ++ [x]).getD l.length default = x := by
  simp [List.getD_eq_getElem?_getD]

theorem G8_ok {A B : GProgram} (hp : Pair A B) : Sp (G8 A B) (fun ms => Matches A B ms) := by
  have hn := hp.fb.n
  unfold G8
  refine Sp.bind (fun ms => Matches A B ms) ?_ (fun ms h => Sp.ret h)
  refine Sp.count (fun s => s.2.2) B.Nodes.length (fun s => Mem A B s.1 ∧ (s.2.1.length : Int) = s.2.2 ∧
    ∀ k : Nat, (k : Int) < s.2.2 → (∃ v, v < A.Nodes.length ∧ same A B v k = true) → (s.2.1.getD k default).New = (k : Int) ∧ (s.2.1.getD k default).Why = 0 ∧ 0 ≤ (s.2.1.getD k default).Old ∧ Least A B k (s.2.1.getD k default).Old) _ (by omega) (fun s hs h0 h1 => ?_)
    ([], [], 0) ⟨Mem.nil, rfl, fun k hk => by simp at hk; omega⟩ (Int.le_refl _) (by simp)
  obtain ⟨v1, v2, v3⟩ := s
  obtain ⟨hs1, hs2, hs3⟩ := hs
  simp only at h0 h1 hs1 hs2 hs3
  subst hs2
  rw [G8_L0]
  refine Sp.iteD (fun hlt => ?_) (fun hge => Sp.ret ⟨by omega, fun k hk => hs3 k (by omega)⟩)
  have hk : v2.length < B.Nodes.length := by omega
  refine Sp.bind _ (G18s0_ok hp hk hs1) (fun x hx => ?_)
  obtain ⟨r, m'⟩ := x
  obtain ⟨hx1, hx2⟩ := hx
  simp only at hx1 hx2
  refine Sp.bind (fun J => J.2.2.2 = v2 ∧ Mem A B J.2.2.1 ∧ (0 ≤ r → J.1 = r ∧ J.2.1 = 0)) ?_ (fun J hJ => ?_)
  · refine Sp.iteD (fun _ => ?_) (fun _ => Sp.ret ⟨rfl, hx2, fun _ => ⟨rfl, rfl⟩⟩)
    exact Sp.bind _ (G18s1_ok hp hk hx2) (fun y hy => Sp.ret ⟨rfl, hy, fun h => by omega⟩)
  obtain ⟨j9, j10, j11, j12⟩ := J
  obtain ⟨hJ1, hJ2, hJ3⟩ := hJ
  simp only at hJ1 hJ2 hJ3
  subst hJ1
  refine Sp.bind (fun J => J.2 = j12 ∧ (0 ≤ r → J.1 = 0)) ?_ (fun J hJ => ?_)
  · exact Sp.iteD (fun h => Sp.ret ⟨rfl, fun hr => by have := (hJ3 hr).1; omega⟩) (fun _ => Sp.ret ⟨rfl, fun hr => (hJ3 hr).2⟩)
  obtain ⟨j18, j19⟩ := J
  obtain ⟨hJ4, hJ5⟩ := hJ
  simp only at hJ4 hJ5
  subst hJ4
  refine Sp.guard (by omega) (Sp.ret ⟨hlt, rfl, hJ2, ?_, fun k hk' => ?_⟩)
  · simp only; rw [wrap_id (by omega) (by omega)]; simp
  · simp only at hk'
    rw [wrap_id (by omega) (by omega)] at hk'
    by_cases hkl : k = j19.length
    · subst hkl
      rintro ⟨v, hv, hvs⟩
      have hr : 0 ≤ r := by
        rcases Int.lt_or_le r 0 with h | h
        · have := hx1.miss h v hv
          rw [hvs] at this; cases this
        · exact h
      simp only
      rw [getD_append_last]
      simp only
      rw [(hJ3 hr).1]
      exact ⟨trivial, hJ5 hr, hr, hx1⟩
    · simp only
      rw [getD_append_left (by omega)]
      exact hs3 k (by omega)

/-- all is the same -/
structure AllSame (n : Nat) (ms : List GMatch) : Prop where
  len : ms.length = n
  new : ∀ k, k < n → (ms.getD k default).New = (k : Int)
  why : ∀ k, k < n → (ms.getD k default).Why = 0

theorem G34s0_ok {n : Nat} {ms : List GMatch} (hn : n ≤ 100) (h : AllSame n ms) {k : Nat} (hk : k < n) : Sp (G34s0 ms (k : Int)) (fun r => 0 ≤ r) := by
  have hl := h.len
  unfold G34s0
  refine Sp.bind (fun R => match R with | .inl _ => False | .inr y => 0 ≤ y) ?_ (fun R hR => by cases R with | inl _ => exact hR.elim | inr y => exact Sp.ret hR)
  refine Sp.count (fun s => s) n (fun s => s ≤ k) _ (by omega) (fun s hs h0 h1 => ?_) 0 (by omega) (Int.le_refl _) (by omega)
  obtain ⟨j, rfl⟩ := Int.eq_ofNat_of_zero_le h0
  rw [G34s0_L0]
  refine Sp.iteD (fun hlt => ?_) (fun hge => by omega)
  refine Sp.guard (by omega) ?_
  simp only [Int.toNat_natCast, G22s0]
  rw [h.new j (by omega), h.why j (by omega)]
  by_cases hjk : j = k
  · subst hjk
    simp
    exact Sp.ret (by simp)
  · have : ((j : Int) == (k : Int)) = false := by simp; omega
    simp only [this, Bool.false_eq_true, if_false, Option.bind_some]
    refine Sp.ret ⟨by omega, rfl, ?_⟩
    rw [wrap_id (by omega) (by omega)]; omega

theorem G9_ok {p : GProgram} {ms : List GMatch} (hn : p.Nodes.length ≤ 40) (h : AllSame p.Nodes.length ms) : G9 p ms = some [] := by
  refine Sp.get ?_
  unfold G9
  refine Sp.bind (fun b => b = []) ?_ (fun b hb => Sp.ret hb)
  refine Sp.count (fun s => s.2) p.Nodes.length (fun s => s.1 = []) _ (by omega) (fun s hs h0 h1 => ?_) ([], 0) rfl (Int.le_refl _) (by simp)
  obtain ⟨v1, v2⟩ := s
  simp only at hs h0 h1
  subst hs
  obtain ⟨j, rfl⟩ := Int.eq_ofNat_of_zero_le h0
  rw [G9_L0]
  refine Sp.iteD (fun hlt => ?_) (fun hge => Sp.ret rfl)
  refine Sp.guard (by omega) ?_
  obtain ⟨r, hr, hr0⟩ := G34s0_ok (by omega) h (show j < p.Nodes.length by omega)
  unfold G21s0
  rw [hr]
  simp only [Option.bind_some, show decide (r ≥ 0) = true from decide_eq_true hr0]
  refine Sp.bind (fun J => J.1 = [] ∧ J.2 = false) ?_ (fun J hJ => ?_)
  · refine Sp.bind _ (G23_tot _) (fun b _ => ?_)
    exact Sp.iteB (fun _ => Sp.ret ⟨rfl, rfl⟩) (fun _ => Sp.ret ⟨rfl, rfl⟩)
  · obtain ⟨x, y⟩ := J
    obtain ⟨rfl, rfl⟩ := hJ
    exact Sp.ret ⟨hlt, rfl, rfl⟩

theorem G10_ok {p : GProgram} (hp : Pair p p) {ms : List GMatch} (h : AllSame p.Nodes.length ms) (ho : ∀ k, k < p.Nodes.length → 0 ≤ (ms.getD k default).Old ∧ Least p p k (ms.getD k default).Old) : G10 p p ms = some 0 := by
  have hn := hp.fa.n
  have hl := h.len
  refine Sp.get ?_
  unfold G10
  refine Sp.iteN (fun hne => by omega) (fun _ => ?_)
  refine Sp.bind (fun R => ∃ u, R = .inl u) ?_ (fun R hR => ?_)
  · refine Sp.count0 ms.length _ (by omega) (fun j hj => ?_)
    rw [G10_L0]
    refine Sp.iteD (fun hlt => ?_) (fun hge => Sp.ret ⟨(), rfl⟩)
    refine Sp.guard (by omega) ?_
    obtain ⟨h1, h2⟩ := ho j (by omega)
    obtain ⟨q1, _, _⟩ := h2.hit h1
    simp only [Int.toNat_natCast]
    have hw := h.why j (by omega)
    have hnw := h.new j (by omega)
    refine Sp.bind (fun j => j = true) (Sp.iteD (fun _ => Sp.ret (decide_eq_true (by omega))) (fun h => absurd h1 h)) (fun j5 hj5 => ?_)
    subst hj5
    refine Sp.bind (fun j => j = false) ?_ (fun j9 hj9 => by subst hj9; exact Sp.ret ⟨by omega, rfl⟩)
    exact Sp.iteN (fun h => absurd hnw h) (fun _ => Sp.iteD (fun _ => by omega) (fun _ => Sp.iteD (fun _ => by omega) (fun _ => Sp.iteE (fun _ => by omega) (fun _ => Sp.iteN (fun _ => Sp.ret rfl) (fun _ => Sp.ret rfl)))))
  obtain ⟨u, rfl⟩ := hR
  simp only
  refine Sp.bind (fun R => ∃ u, R = .inl u) ?_ (fun R hR => ?_)
  · refine Sp.count (fun s => s.2) ms.length (fun s => Mem p p s.1) _ (by omega) (fun s hs h0 h1 => ?_) ([], 0) Mem.nil (Int.le_refl _) (by simp)
    obtain ⟨v1, v2⟩ := s
    simp only at hs h0 h1
    obtain ⟨j, rfl⟩ := Int.eq_ofNat_of_zero_le h0
    rw [G10_L1]
    refine Sp.iteD (fun hlt => ?_) (fun hge => Sp.ret ⟨(), rfl⟩)
    refine Sp.guard (by omega) ?_
    obtain ⟨h1, h2⟩ := ho j (by omega)
    obtain ⟨q1, q2, _⟩ := h2.hit h1
    simp only [Int.toNat_natCast]
    have hw := h.why j (by omega)
    refine Sp.bind (fun J => Mem p p J.1 ∧ J.2 = false) ?_ (fun J hJ => ?_)
    · refine Sp.iteE (fun _ => ?_) (fun h => absurd hw h)
      obtain ⟨v, hv⟩ := Int.eq_ofNat_of_zero_le h1
      rw [hv] at q1 q2
      simp only [hv]
      simp only [Int.toNat_natCast] at q1 q2
      refine Sp.bind _ (G19s0_ok hp v j q1 (by omega) v1 hs) (fun x hx => ?_)
      refine Sp.iteB (fun hf => ?_) (fun _ => Sp.iteE (fun h => by omega) (fun _ => Sp.ret ⟨hx.2, rfl⟩))
      rw [hx.1, q2] at hf; cases hf
    · obtain ⟨x, y⟩ := J
      obtain ⟨hx, hy⟩ := hJ
      simp only at hx hy
      subst hy
      exact Sp.ret ⟨hlt, rfl, hx⟩
  obtain ⟨u', rfl⟩ := hR
  exact Sp.ret rfl

theorem G11_ok {l r : List GMatch} (hl : l.length ≤ 100) (h : l.length = r.length) (h' : ∀ i, i < l.length → l.getD i default = r.getD i default) : G11 l r = some true := by
  refine Sp.get ?_
  unfold G11
  refine Sp.iteN (fun hne => by omega) (fun _ => ?_)
  refine Sp.bind (fun R => ∃ u, R = .inl u) ?_ (fun R hR => by obtain ⟨u, rfl⟩ := hR; exact Sp.ret rfl)
  refine Sp.count0 l.length _ (by omega) (fun j hj => ?_)
  rw [G11_L0]
  refine Sp.iteD (fun hlt => ?_) (fun hge => Sp.ret ⟨(), rfl⟩)
  refine Sp.guard (by omega) (Sp.guard (by omega) ?_)
  simp only [Int.toNat_natCast, h' j (by omega)]
  simp
  exact Sp.ret ⟨by omega, rfl⟩

end Go.PL
