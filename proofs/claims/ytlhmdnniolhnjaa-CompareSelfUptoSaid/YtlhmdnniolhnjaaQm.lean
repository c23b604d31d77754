/-
  CompareSelf. Own work.
-/
import Derived.Test.YtlhmdnniolhnjaaQl
import Derived.KernelRfl
namespace Go.PL
open Go

theorem F5_run : F5 60 = some true := by kernel_rfl
theorem G5_ok : G5 = some true := G5_cv.of_run 60 F5_run

/-- the first k nodes -/
def front (p : GProgram) (k : Nat) : GProgram := GProgram.mk p.Funcs (p.Nodes.take k)
theorem front_len {p : GProgram} {k : Nat} (h : k ≤ p.Nodes.length) : (front p k).Nodes.length = k := by simp [front]; omega
theorem front_get {p : GProgram} {k i : Nat} (h : i < k) : (front p k).Nodes.getD i default = p.Nodes.getD i default := by
  simp [front, List.getD_eq_getElem?_getD, List.getElem?_take, h]
theorem front_ok {p : GProgram} (h : okGProgram p) (k : Nat) : okGProgram (front p k) :=
  ⟨h.1, by have := h.2.1; simp [front]; omega, fun x hx => h.2.2 x (List.mem_of_mem_take hx)⟩
theorem front_fit {p : GProgram} (h : ProgFit p) {k : Nat} (h1 : 1 ≤ k) (h2 : k ≤ p.Nodes.length) : ProgFit (front p k) where
  funcs := h.funcs
  pos := by rw [front_len h2]; exact h1
  n := by rw [front_len h2]; have := h.n; omega
  nodes i hi := by
    rw [front_len h2] at hi
    rw [front_get hi]
    exact h.nodes i (by omega)

theorem same_front_left {p q : GProgram} (h : ProgFit p) {k : Nat} (hk : k ≤ p.Nodes.length) : ∀ (d i j : Nat), i < k → sameN (front p k) q d i j = sameN p q d i j := by
  intro d
  induction d with
  | zero => intro i j _; rfl
  | succ d ih =>
    intro i j hi
    simp only [sameN]
    rw [front_get hi]
    have : (front p k).Funcs = p.Funcs := rfl
    rw [this]
    congr 1
    refine all2_congr (fun v hv _ => ?_)
    have hin := (h.nodes i (by omega)).ins v hv
    exact ih _ _ (by omega)
theorem same_front_right {p q : GProgram} (h : ProgFit p) {k : Nat} (hk : k ≤ p.Nodes.length) : ∀ (d i j : Nat), j < k → sameN q (front p k) d i j = sameN q p d i j := by
  intro d
  induction d with
  | zero => intro i j _; rfl
  | succ d ih =>
    intro i j hj
    simp only [sameN]
    rw [front_get hj]
    have : (front p k).Funcs = p.Funcs := rfl
    rw [this]
    congr 1
    refine all2_congr (fun v _ hv => ?_)
    have hin := (h.nodes j (by omega)).ins v hv
    exact ih _ _ (by omega)

theorem same_refl {p : GProgram} (hp : Pair p p) (hpl : ∀ i, i < p.Nodes.length → NodePlain p.Funcs (p.Nodes.getD i default)) : ∀ i, i < p.Nodes.length → same p p i i = true := by
  intro i
  induction i using Nat.strongRecOn with
  | ind i ih =>
    intro hi
    rw [same_eq hp.fa hi, fieldsM_refl hp.fa.funcs (hp.na hi) (hpl i hi), Bool.true_and]
    refine all2_refl (fun x hx => ?_)
    obtain ⟨j, hj, rfl⟩ := List.getElem_of_mem hx
    have hin := (hp.fa.nodes i hi).ins j hj
    rw [getD_lt hj] at hin
    exact ih _ (by omega) (by omega)

theorem Least.same {A B C D : GProgram} {k k' : Nat} {r r' : Int} (h : Least A B k r) (h' : Least C D k' r') (hr : 0 ≤ r) (hr' : 0 ≤ r') (h1 : PL.same C D r.toNat k' = true) (h2 : PL.same A B r'.toNat k = true) : r = r' := by
  obtain ⟨_, _, m1⟩ := h.hit hr
  obtain ⟨_, _, m2⟩ := h'.hit hr'
  rcases Nat.lt_trichotomy r.toNat r'.toNat with hl | hl | hl
  · rw [m2 _ hl] at h1; cases h1
  · omega
  · rw [m1 _ hl] at h2; cases h2

theorem GMatch.ext' {a b : GMatch} (h1 : a.Old = b.Old) (h2 : a.New = b.New) (h3 : a.Why = b.Why) : a = b := by cases a; cases b; simp_all
theorem getD_take {A : Type} [Inhabited A] {l : List A} {k i : Nat} (h : i < k) : (l.take k).getD i default = l.getD i default := by
  simp [List.getD_eq_getElem?_getD, List.getElem?_take, h]

/-- CompareSelf is true -/
theorem G3_ok {p : GProgram} (h : okGProgram p) (a : Int) : G3 p a = some true := by
  refine Sp.get ?_
  unfold G3
  rw [G5_ok]
  simp only [Option.bind_some]
  refine Sp.bind (fun j => j = false → ProgFit p ∧ ∀ i, i < p.Nodes.length → NodePlain p.Funcs (p.Nodes.getD i default)) ?_ (fun j hj => ?_)
  · refine Sp.bind _ (G6_ok h 2) (fun r hr => Sp.iteB (fun _ => Sp.ret (by simp)) (fun hrt => ?_))
    have hfit := (hr (by simpa using hrt)).1.toProgFit
    exact Sp.bind _ (G7_ok h hfit) (fun r' hr' => Sp.ret (fun hf => ⟨hfit, hr' (by simpa using hf)⟩))
  refine Sp.iteB (fun _ => Sp.ret rfl) (fun hjf => ?_)
  obtain ⟨hfit, hpl⟩ := hj hjf
  have hn := hfit.n
  have hp : Pair p p := ⟨hfit, hfit, h, h⟩
  have hrefl := same_refl hp hpl
  refine Sp.bind _ (G8_ok hp) (fun ms hms => ?_)
  have hm := fun k hk => hms.all k hk ⟨k, hk, hrefl k hk⟩
  have hall : AllSame p.Nodes.length ms := ⟨hms.len, fun k hk => (hm k hk).1, fun k hk => (hm k hk).2.1⟩
  have hle : ∀ k, k < p.Nodes.length → (ms.getD k default).Old.toNat ≤ k := by
    intro k hk
    obtain ⟨_, _, h0, hl⟩ := hm k hk
    obtain ⟨_, _, h3⟩ := hl.hit h0
    rcases Nat.lt_or_ge k (ms.getD k default).Old.toNat with hlt | hge
    · have := h3 k hlt; rw [hrefl k hk] at this; cases this
    · exact hge
  refine Sp.bind (fun j => j = false) ?_ (fun j hj => ?_)
  · refine Sp.iteN (fun hne => absurd (by rw [hms.len]) hne) (fun _ => ?_)
    rw [G9_ok hn hall]
    simp only [Option.bind_some]
    refine Sp.iteN (fun hne => absurd rfl hne) (fun _ => ?_)
    rw [G10_ok hp hall (fun k hk => (hm k hk).2.2)]
    exact Sp.ret rfl
  subst hj
  simp only [Bool.false_eq_true, if_false]
  refine Sp.bind (fun R => R = .inl (true, ms)) ?_ (fun R hR => ?_)
  · refine Sp.count0 ms.length _ (by rw [hms.len]; omega) (fun j hj => ?_)
    rw [G3_L0]
    refine Sp.iteD (fun hlt => ?_) (fun hge => Sp.ret rfl)
    have hjl : j < p.Nodes.length := by rw [← hms.len]; omega
    obtain ⟨m1, m2, m3, m4⟩ := hm j hjl
    have m5 := hle j hjl
    simp only [Int.toNat_natCast]
    refine Sp.bind (fun j => j = false) ?_ (fun j9 hj9 => by subst hj9; exact Sp.ret ⟨by omega, rfl⟩)
    refine Sp.guard (by omega) (Sp.iteN (fun hne => absurd m2 hne) (fun _ => Sp.guard (by omega) (Sp.iteD (fun _ => by omega) (fun _ => Sp.guard (by omega) (Sp.ret ?_)))))
    rw [m1]; simp
  subst hR
  simp only
  refine Sp.bind (fun j => j = false → 1 ≤ a ∧ a ≤ p.Nodes.length) ?_ (fun j hj => ?_)
  · exact Sp.iteD (fun _ => Sp.ret (by simp)) (fun _ => Sp.ret (fun hd => by have := of_decide_eq_false hd; omega))
  refine Sp.iteB (fun _ => Sp.ret rfl) (fun hjf => ?_)
  obtain ⟨ha1, ha2⟩ := hj hjf
  obtain ⟨k, rfl⟩ := Int.eq_ofNat_of_zero_le (show 0 ≤ a by omega)
  have hk1 : 1 ≤ k := by omega
  have hk2 : k ≤ p.Nodes.length := by omega
  refine Sp.guard (by omega) ?_
  simp only [Int.toNat_zero, Int.sub_zero, Int.toNat_natCast, List.drop_zero]
  have hff := front_fit hfit hk1 hk2
  have hfo := front_ok h k
  have hfl := front_len hk2
  have pa : Pair (front p k) p := ⟨hff, hfit, hfo, h⟩
  have pb : Pair p (front p k) := ⟨hfit, hff, h, hfo⟩
  have sa : ∀ v j, v < k → same (front p k) p v j = same p p v j := fun v j hv => same_front_left hfit hk2 _ _ _ hv
  have sb : ∀ v j, j < k → same p (front p k) v j = same p p v j := fun v j hv => same_front_right hfit hk2 _ _ _ hv
  have e : GProgram.mk p.Funcs (p.Nodes.take k) = front p k := rfl
  rw [e]
  refine Sp.bind _ (G8_ok pa) (fun A hA => ?_)
  refine Sp.bind _ (G8_ok pb) (fun B hB => ?_)
  have lA := hA.len
  have lB := hB.len
  have lM := hms.len
  rw [hfl] at lB
  have eqA : ∀ i, i < k → A.getD i default = ms.getD i default := by
    intro i hi
    obtain ⟨m1, m2, m3, m4⟩ := hm i (by omega)
    obtain ⟨a1, a2, a3, a4⟩ := hA.all i (by omega) ⟨i, by rw [hfl]; exact hi, by rw [sa i i hi]; exact hrefl i (by omega)⟩
    obtain ⟨q1, q2, _⟩ := m4.hit m3
    obtain ⟨q3, q4, _⟩ := a4.hit a3
    rw [hfl] at q3
    have := hle i (by omega)
    refine GMatch.ext' (a4.same m4 a3 m3 ?_ ?_) (by rw [a1, m1]) (by rw [a2, m2])
    · rw [← sa _ i q3]; exact q4
    · rw [sa _ i (by omega)]; exact q2
  have eqB : ∀ i, i < k → B.getD i default = ms.getD i default := by
    intro i hi
    obtain ⟨m1, m2, m3, m4⟩ := hm i (by omega)
    obtain ⟨a1, a2, a3, a4⟩ := hB.all i (by rw [hfl]; exact hi) ⟨i, by omega, by rw [sb i i hi]; exact hrefl i (by omega)⟩
    obtain ⟨q1, q2, _⟩ := m4.hit m3
    obtain ⟨q3, q4, _⟩ := a4.hit a3
    refine GMatch.ext' (a4.same m4 a3 m3 ?_ ?_) (by rw [a1, m1]) (by rw [a2, m2])
    · rw [← sb _ i hi]; exact q4
    · rw [sb _ i hi]; exact q2
  refine Sp.bind (fun j => j = false) ?_ (fun j hj => ?_)
  · refine Sp.iteN (fun hne => absurd (by rw [lA]) hne) (fun _ => Sp.ret ?_)
    rw [lB]; simp
  subst hj
  simp only [Bool.false_eq_true, if_false, if_true]
  refine Sp.bind (fun j => j = true) ?_ (fun j hj => by subst hj; exact Sp.ret rfl)
  refine Sp.guard (by omega) (Sp.guard (by omega) ?_)
  rw [G11_ok (l := A.take k) (r := ms.take k) (by simp; omega) (by simp; omega) (fun i hi => ?_)]
  · simp only [Option.bind_some, if_true]
    refine Sp.guard (by omega) ?_
    rw [G11_ok (l := B) (r := ms.take k) (by omega) (by simp; omega) (fun i hi => ?_)]
    · exact Sp.ret rfl
    · rw [getD_take (by omega)]; exact eqB i (by omega)
  · have hik : i < k := by simp at hi; omega
    rw [getD_take hik, getD_take hik]; exact eqA i hik

theorem F3_run {p : GProgram} (h : okGProgram p) (a : Int) : ∃ n, F3 n p a = some true := (G3_cv p a).run (G3_ok h a)

end Go.PL
