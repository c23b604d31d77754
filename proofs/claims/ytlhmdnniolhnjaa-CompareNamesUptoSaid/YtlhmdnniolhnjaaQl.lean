/-
  Comparing programs. Own work.
-/
import Derived.Test.YtlhmdnniolhnjaaQk
import Derived.Test.YtlhmdnniolhnjaaGc
namespace Go.PL
open Go

/-- r is the first number below n of which f holds, or -1 -/
structure LeastF (n : Nat) (f : Nat → Bool) (r : Int) : Prop where
  hit : 0 ≤ r → r.toNat < n ∧ f r.toNat = true ∧ ∀ v, v < r.toNat → f v = false
  miss : r < 0 → r = -1 ∧ ∀ v, v < n → f v = false
theorem LeastF.uniq {n : Nat} {f : Nat → Bool} {r r' : Int} (h : LeastF n f r) (h' : LeastF n f r') : r = r' := by
  rcases Int.lt_or_le r 0 with h1 | h1 <;> rcases Int.lt_or_le r' 0 with h2 | h2
  · rw [(h.miss h1).1, (h'.miss h2).1]
  · obtain ⟨q1, q2, _⟩ := h'.hit h2
    have := (h.miss h1).2 _ q1
    rw [q2] at this; cases this
  · obtain ⟨q1, q2, _⟩ := h.hit h1
    have := (h'.miss h2).2 _ q1
    rw [q2] at this; cases this
  · obtain ⟨_, a2, a3⟩ := h.hit h1
    obtain ⟨_, b2, b3⟩ := h'.hit h2
    rcases Nat.lt_trichotomy r.toNat r'.toNat with hl | hl | hl
    · rw [b3 _ hl] at a2; cases a2
    · omega
    · rw [a3 _ hl] at b2; cases b2
theorem LeastF.congr {n : Nat} {f g : Nat → Bool} {r : Int} (h : LeastF n f r) (e : ∀ v, v < n → f v = g v) : LeastF n g r :=
  ⟨fun h0 => by obtain ⟨a, b, c⟩ := h.hit h0; exact ⟨a, by rw [← e _ a]; exact b, fun v hv => by rw [← e v (by omega)]; exact c v hv⟩, fun h0 => ⟨(h.miss h0).1, fun v hv => by rw [← e v hv]; exact (h.miss h0).2 v hv⟩⟩
theorem LeastF.ex (f : Nat → Bool) : ∀ n : Nat, ∃ r, LeastF n f r
  | 0 => ⟨-1, fun h => by simp at h, fun _ => ⟨rfl, fun v hv => by omega⟩⟩
  | n + 1 => by
    obtain ⟨r, hr⟩ := LeastF.ex f n
    rcases Int.lt_or_le r 0 with h | h
    · obtain ⟨h1, h2⟩ := hr.miss h
      cases hf : f n with
      | true => exact ⟨n, fun _ => ⟨by simp, by simpa using hf, fun v hv => h2 v (by simpa using hv)⟩, fun h => by omega⟩
      | false => exact ⟨-1, fun h => by simp at h, fun _ => ⟨rfl, fun v hv => by
          by_cases hvn : v = n
          · rw [hvn]; exact hf
          · exact h2 v (by omega)⟩⟩
    · obtain ⟨h1, h2, h3⟩ := hr.hit h
      exact ⟨r, fun _ => ⟨by omega, h2, h3⟩, fun h' => by omega⟩

/-- a loop that looks for the first -/
theorem least_loop {A B : GProgram} {n : Nat} (hn : n ≤ 40) (f : Nat → Bool) {L : (List (List Int × Bool) × Int) → Option ((List (List Int × Bool) × Int) ⊕ (List (List Int × Bool) ⊕ (Int × List (List Int × Bool))))} {c : Int → List (List Int × Bool) → Option (Bool × List (List Int × Bool))}
    (hL : ∀ v1 v2, L (v1, v2) = if (decide (v2 < ((n : Int)))) = true then ((c v2 v1).bind fun r5 => if (r5.1) = true then (some (.inr (.inr ((v2, r5.2))))) else (some (.inl ((r5.2, IntKind.i64.wrap (v2 + 1)))))) else (some (.inr (.inl (v1)))))
    (hc : ∀ v, v < n → ∀ m, Mem A B m → Sp (c (v : Int) m) (fun x => x.1 = f v ∧ Mem A B x.2)) {m : List (List Int × Bool)} (hm : Mem A B m) :
    Sp (Option.bind (whileM L (m, 0)) fun R8 => match R8 with | .inl (b3) => (some (((-1 : Int), b3))) | .inr (y10) => (some (y10))) (fun x => LeastF n f x.1 ∧ Mem A B x.2) := by
  refine Sp.bind (fun R => match R with | .inl b => (∀ v, v < n → f v = false) ∧ Mem A B b | .inr y => LeastF n f y.1 ∧ Mem A B y.2) ?_ (fun R hR => ?_)
  · refine Sp.count (fun s => s.2) n (fun s => Mem A B s.1 ∧ ∀ v : Nat, (v : Int) < s.2 → f v = false) _ (by omega) (fun s hs h0 h1 => ?_) (m, 0) ⟨hm, fun j hj => by simp at hj; omega⟩ (Int.le_refl _) (by simp)
    obtain ⟨v1, v2⟩ := s
    obtain ⟨hs1, hs2⟩ := hs
    simp only at h0 h1 hs1 hs2
    obtain ⟨j, rfl⟩ := Int.eq_ofNat_of_zero_le h0
    rw [hL]
    refine Sp.iteD (fun hlt => ?_) (fun hge => Sp.ret ⟨fun v hv => hs2 v (by omega), hs1⟩)
    refine Sp.bind _ (hc j (by omega) v1 hs1) (fun x hx => ?_)
    obtain ⟨b, m'⟩ := x
    obtain ⟨hx1, hx2⟩ := hx
    simp only at hx1 hx2
    refine Sp.iteB (fun ht => Sp.ret ⟨⟨fun _ => ⟨by simp only [Int.toNat_natCast]; omega, ?_, fun v hv => hs2 v ?_⟩, fun h => by simp only at h; omega⟩, hx2⟩) (fun hf => Sp.ret ⟨hlt, rfl, hx2, fun v hv => ?_⟩)
    · simp only [Int.toNat_natCast]; rw [← hx1]; exact ht
    · simp only [Int.toNat_natCast] at hv; omega
    · simp only at hv
      rw [wrap_id (by omega) (by omega)] at hv
      by_cases hvj : v = j
      · subst hvj; rw [← hx1]; exact hf
      · exact hs2 v (by omega)
  · cases R with
    | inl b => exact Sp.ret ⟨⟨fun h => by simp at h, fun _ => ⟨rfl, hR.1⟩⟩, hR.2⟩
    | inr y => exact Sp.ret hR
theorem G18s0_ok {A B : GProgram} (hp : Pair A B) {k : Nat} (hk : k < B.Nodes.length) {m : List (List Int × Bool)} (hm : Mem A B m) : Sp (G18s0 (k : Int) A.Funcs A.Nodes B.Funcs B.Nodes m) (fun x => LeastF A.Nodes.length (fun v => same A B v k) x.1 ∧ Mem A B x.2) := by
  unfold G18s0
  exact least_loop hp.fa.n _ (c := fun v m => G19s0 v k A.Funcs A.Nodes B.Funcs B.Nodes m) (fun a b => by rw [G18s0_L0]) (fun v hv m hm => G19s0_ok hp v k hv hk m hm) hm
theorem G18s1_ok {A B : GProgram} (hp : Pair A B) {k : Nat} (hk : k < B.Nodes.length) {m : List (List Int × Bool)} (hm : Mem A B m) : Sp (G18s1 (k : Int) A.Funcs A.Nodes B.Funcs B.Nodes m) (fun x => LeastF A.Nodes.length (fun v => stateM A B v k) x.1 ∧ Mem A B x.2) := by
  unfold G18s1
  exact least_loop hp.fa.n _ (c := fun v m => G20s0 v k A.Funcs A.Nodes B.Funcs B.Nodes m) (fun a b => by rw [G18s1_L0]) (fun v hv m hm => G20s0_ok hp hv hk hm) hm

theorem getD_append_left {A : Type} [Inhabited A] {l r : List A} {i : Nat} (h : i < l.length) : (l ++ r).getD i default = l.getD i default := by
  simp [List.getD_eq_getElem?_getD, List.getElem?_append_left h]
theorem getD_append_last {A : Type} [Inhabited A] {l : List A} {x : A} : (l ++ [x]).getD l.length default = x := by
  simp [List.getD_eq_getElem?_getD]

/-- what is told of node k: the same as node r; else of the state of node s; else new -/
def matchM (r s : Int) (k : Nat) : GMatch := if 0 ≤ r then ⟨r, k, 0⟩ else if 0 ≤ s then ⟨s, k, 1⟩ else ⟨-1, k, 2⟩
/-- what Compare gives -/
structure Matches (A B : GProgram) (ms : List GMatch) : Prop where
  len : ms.length = B.Nodes.length
  all : ∀ k, k < B.Nodes.length → ∃ r s, LeastF A.Nodes.length (fun v => same A B v k) r ∧ LeastF A.Nodes.length (fun v => stateM A B v k) s ∧ ms.getD k default = matchM r s k

theorem G8_ok {A B : GProgram} (hp : Pair A B) : Sp (G8 A B) (fun ms => Matches A B ms) := by
  have hn := hp.fb.n
  unfold G8
  refine Sp.bind (fun ms => Matches A B ms) ?_ (fun ms h => Sp.ret h)
  refine Sp.count (fun s => s.2.2) B.Nodes.length (fun s => Mem A B s.1 ∧ (s.2.1.length : Int) = s.2.2 ∧
    ∀ k : Nat, (k : Int) < s.2.2 → ∃ r t, LeastF A.Nodes.length (fun v => same A B v k) r ∧ LeastF A.Nodes.length (fun v => stateM A B v k) t ∧ s.2.1.getD k default = matchM r t k) _ (by omega) (fun s hs h0 h1 => ?_)
    ([], [], 0) ⟨Mem.nil, rfl, fun k hk => by simp at hk; omega⟩ (Int.le_refl _) (by simp)
  obtain ⟨v1, v2, v3⟩ := s
  obtain ⟨hs1, hs2, hs3⟩ := hs
  simp only at h0 h1 hs1 hs2 hs3
  subst hs2
  rw [G8_L0]
  refine Sp.iteD (fun hlt => ?_) (fun hge => Sp.ret ⟨by omega, fun k hk => hs3 k (by omega)⟩)
  have hk : v2.length < B.Nodes.length := by omega
  refine Sp.bind _ (G18s0_ok hp hk hs1) (fun x hx => ?_)
  obtain ⟨r, m'⟩ := x
  obtain ⟨hx1, hx2⟩ := hx
  simp only at hx1 hx2
  refine Sp.bind (fun J => J.2.2.2 = v2 ∧ Mem A B J.2.2.1 ∧ ∃ t, LeastF A.Nodes.length (fun v => stateM A B v v2.length) t ∧ J.1 = (if 0 ≤ r then r else t) ∧ J.2.1 = if 0 ≤ r then 0 else 1) ?_ (fun J hJ => ?_)
  · refine Sp.iteD (fun h => ?_) (fun h => ?_)
    · exact Sp.bind _ (G18s1_ok hp hk hx2) (fun y hy => Sp.ret ⟨rfl, hy.2, y.1, hy.1, by rw [if_neg (by omega)], by rw [if_neg (by omega)]⟩)
    · obtain ⟨t, ht⟩ := LeastF.ex (fun v => stateM A B v v2.length) A.Nodes.length
      exact Sp.ret ⟨rfl, hx2, t, ht, by rw [if_pos (by omega)], by rw [if_pos (by omega)]⟩
  obtain ⟨j9, j10, j11, j12⟩ := J
  obtain ⟨hJ1, hJ2, t, ht, hJ3, hJ4⟩ := hJ
  simp only at hJ1 hJ2 hJ3 hJ4
  subst hJ1
  refine Sp.bind (fun J => J.2 = j12 ∧ J.1 = if j9 < 0 then 2 else j10) ?_ (fun J hJ => ?_)
  · exact Sp.iteD (fun h => Sp.ret ⟨rfl, by rw [if_pos h]⟩) (fun h => Sp.ret ⟨rfl, by rw [if_neg h]⟩)
  obtain ⟨j18, j19⟩ := J
  obtain ⟨hJ5, hJ6⟩ := hJ
  simp only at hJ5 hJ6
  subst hJ5
  refine Sp.guard (by omega) (Sp.ret ⟨hlt, rfl, hJ2, ?_, fun k hk' => ?_⟩)
  · simp only; rw [wrap_id (by omega) (by omega)]; simp
  · simp only at hk'
    rw [wrap_id (by omega) (by omega)] at hk'
    by_cases hkl : k = j19.length
    · subst hkl
      refine ⟨r, t, hx1, ht, ?_⟩
      simp only
      rw [getD_append_last, hJ6, hJ3, hJ4]
      unfold matchM
      by_cases hr : 0 ≤ r
      · rw [if_pos hr, if_pos hr, if_pos hr, if_neg (by omega)]
      · rw [if_neg hr, if_neg hr, if_neg hr]
        by_cases ht0 : 0 ≤ t
        · rw [if_pos ht0, if_neg (by omega)]
        · rw [if_neg ht0, if_pos (by omega), (ht.miss (by omega)).1]
    · simp only
      rw [getD_append_left (by omega)]
      exact hs3 k (by omega)

theorem G10_ok {A B : GProgram} (hp : Pair A B) {ms : List GMatch} (h : Matches A B ms) : G10 A B ms = some 0 := by
  have hn := hp.fb.n
  have hl := h.len
  refine Sp.get ?_
  unfold G10
  refine Sp.iteN (fun hne => by omega) (fun _ => ?_)
  have cases3 : ∀ j, j < B.Nodes.length → (ms.getD j default).New = (j : Int) ∧ (((ms.getD j default).Why = 0 ∧ 0 ≤ (ms.getD j default).Old ∧ (ms.getD j default).Old < (A.Nodes.length : Int) ∧ same A B (ms.getD j default).Old.toNat j = true) ∨
      ((ms.getD j default).Why = 1 ∧ 0 ≤ (ms.getD j default).Old ∧ (ms.getD j default).Old < (A.Nodes.length : Int) ∧ stateM A B (ms.getD j default).Old.toNat j = true) ∨ ((ms.getD j default).Why = 2 ∧ (ms.getD j default).Old = -1)) := by
    intro j hj
    obtain ⟨r, s, h1, h2, h3⟩ := h.all j hj
    rw [h3]
    unfold matchM
    by_cases hr : 0 ≤ r
    · rw [if_pos hr]
      obtain ⟨q1, q2, _⟩ := h1.hit hr
      exact ⟨rfl, .inl ⟨rfl, hr, by simp only; omega, q2⟩⟩
    · rw [if_neg hr]
      by_cases hs : 0 ≤ s
      · rw [if_pos hs]
        obtain ⟨q1, q2, _⟩ := h2.hit hs
        exact ⟨rfl, .inr (.inl ⟨rfl, hs, by simp only; omega, q2⟩)⟩
      · rw [if_neg hs]
        exact ⟨rfl, .inr (.inr ⟨rfl, rfl⟩)⟩
  refine Sp.bind (fun R => ∃ u, R = .inl u) ?_ (fun R hR => ?_)
  · refine Sp.count0 ms.length _ (by omega) (fun j hj => ?_)
    rw [G10_L0]
    refine Sp.iteD (fun hlt => ?_) (fun hge => Sp.ret ⟨(), rfl⟩)
    refine Sp.guard (by omega) ?_
    obtain ⟨hnw, h3⟩ := cases3 j (by omega)
    simp only [Int.toNat_natCast]
    refine Sp.bind (fun b => (ms.getD j default).Why ≠ 2 → b = true) (Sp.iteD (fun _ => Sp.ret (fun hw => decide_eq_true (by omega))) (fun h => Sp.ret (fun hw => by omega))) (fun j5 hj5 => ?_)
    refine Sp.bind (fun j => j = false) ?_ (fun j9 hj9 => by subst hj9; exact Sp.ret ⟨by omega, rfl⟩)
    refine Sp.iteN (fun h => absurd hnw h) (fun _ => Sp.iteD (fun _ => by omega) (fun _ => Sp.iteD (fun _ => by omega) (fun _ => ?_)))
    refine Sp.iteE (fun hw => Sp.iteN (fun _ => by omega) (fun _ => Sp.iteN (fun h => absurd hw h) (fun _ => Sp.ret rfl))) (fun hw => Sp.iteN (fun _ => ?_) (fun _ => Sp.ret rfl))
    rw [hj5 hw]; exact Sp.ret rfl
  obtain ⟨u, rfl⟩ := hR
  simp only
  refine Sp.bind (fun R => ∃ u, R = .inl u) ?_ (fun R hR => ?_)
  · refine Sp.count (fun s => s.2) ms.length (fun s => Mem A B s.1) _ (by omega) (fun s hs h0 h1 => ?_) ([], 0) Mem.nil (Int.le_refl _) (by simp)
    obtain ⟨v1, v2⟩ := s
    simp only at hs h0 h1
    obtain ⟨j, rfl⟩ := Int.eq_ofNat_of_zero_le h0
    rw [G10_L1]
    refine Sp.iteD (fun hlt => ?_) (fun hge => Sp.ret ⟨(), rfl⟩)
    refine Sp.guard (by omega) ?_
    obtain ⟨hnw, h3⟩ := cases3 j (by omega)
    simp only [Int.toNat_natCast]
    refine Sp.bind (fun J => Mem A B J.1 ∧ J.2 = false) ?_ (fun J hJ => ?_)
    · refine Sp.iteE (fun hw => ?_) (fun hw => Sp.iteE (fun hw1 => ?_) (fun _ => Sp.ret ⟨hs, rfl⟩))
      · obtain ⟨h4, h5, h6, h7⟩ : (ms.getD j default).Why = 0 ∧ 0 ≤ (ms.getD j default).Old ∧ (ms.getD j default).Old < (A.Nodes.length : Int) ∧ same A B (ms.getD j default).Old.toNat j = true := by
          rcases h3 with h | h | h
          · exact h
          · omega
          · omega
        obtain ⟨v, hv⟩ := Int.eq_ofNat_of_zero_le h5
        rw [hv] at h6 h7
        simp only [hv]
        simp only [Int.toNat_natCast] at h7
        refine Sp.bind _ (G19s0_ok hp v j (by omega) (by omega) v1 hs) (fun x hx => ?_)
        refine Sp.iteB (fun hf => ?_) (fun _ => Sp.iteE (fun h => by omega) (fun _ => Sp.ret ⟨hx.2, rfl⟩))
        rw [hx.1, h7] at hf; cases hf
      · obtain ⟨h4, h5, h6, h7⟩ : (ms.getD j default).Why = 1 ∧ 0 ≤ (ms.getD j default).Old ∧ (ms.getD j default).Old < (A.Nodes.length : Int) ∧ stateM A B (ms.getD j default).Old.toNat j = true := by
          rcases h3 with h | h | h
          · omega
          · exact h
          · omega
        obtain ⟨v, hv⟩ := Int.eq_ofNat_of_zero_le h5
        rw [hv] at h6 h7
        simp only [hv]
        simp only [Int.toNat_natCast] at h7
        refine Sp.bind _ (G20s0_ok hp (show v < A.Nodes.length by omega) (show j < B.Nodes.length by omega) hs) (fun x hx => Sp.ret ⟨hx.2, ?_⟩)
        rw [hx.1, h7]; rfl
    · obtain ⟨x, y⟩ := J
      obtain ⟨hx, hy⟩ := hJ
      simp only at hx hy
      subst hy
      exact Sp.ret ⟨hlt, rfl, hx⟩
  obtain ⟨u', rfl⟩ := hR
  exact Sp.ret rfl

theorem G11_ok {l r : List GMatch} (hl : l.length ≤ 100) (h : l.length = r.length) (h' : ∀ i, i < l.length → l.getD i default = r.getD i default) : G11 l r = some true := by
  refine Sp.get ?_
  unfold G11
  refine Sp.iteN (fun hne => by omega) (fun _ => ?_)
  refine Sp.bind (fun R => ∃ u, R = .inl u) ?_ (fun R hR => by obtain ⟨u, rfl⟩ := hR; exact Sp.ret rfl)
  refine Sp.count0 l.length _ (by omega) (fun j hj => ?_)
  rw [G11_L0]
  refine Sp.iteD (fun hlt => ?_) (fun hge => Sp.ret ⟨(), rfl⟩)
  refine Sp.guard (by omega) (Sp.guard (by omega) ?_)
  simp only [Int.toNat_natCast, h' j (by omega)]
  simp
  exact Sp.ret ⟨by omega, rfl⟩

end Go.PL
