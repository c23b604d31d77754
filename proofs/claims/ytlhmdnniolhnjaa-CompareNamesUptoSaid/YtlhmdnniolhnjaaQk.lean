/-
  Comparing nodes with a memory of what was compared. Own work.
-/
import Derived.Test.YtlhmdnniolhnjaaQj
namespace Go.PL
open Go

/-! ### maps of what was asked -/
def mval : List (List Int × Bool) → List Int → Option Bool
  | [], _ => none
  | e :: m, ks => match ks == e.1 with | true => some e.2 | false => mval m ks
theorem mfind_val : ∀ (m : List (List Int × Bool)) (ks : List Int) (i : Nat), (mfind m ks i).map (·.2) = mval m ks
  | [], ks, i => rfl
  | e :: m, ks, i => by
    simp only [mfind, mval]
    cases ks == e.1 with
    | true => rfl
    | false => exact mfind_val m ks (i + 1)
theorem mget_val (m : List (List Int × Bool)) (ks : List Int) : mget m ks = (mval m ks).getD false := by
  rw [← mfind_val m ks 0]; unfold mget; cases mfind m ks 0 <;> rfl
theorem mhas_val (m : List (List Int × Bool)) (ks : List Int) : mhas m ks = (mval m ks).isSome := by
  rw [← mfind_val m ks 0]; unfold mhas; cases mfind m ks 0 <;> rfl
theorem mfind_shift : ∀ (m : List (List Int × Bool)) (ks : List Int) (i : Nat), mfind m ks (i + 1) = (mfind m ks i).map fun x => (x.1 + 1, x.2)
  | [], ks, i => rfl
  | e :: m, ks, i => by
    simp only [mfind]
    cases ks == e.1 with
    | true => rfl
    | false => exact mfind_shift m ks (i + 1)
theorem mset_cons (e : List Int × Bool) (m : List (List Int × Bool)) (ks : List Int) (b : Bool) : mset (e :: m) ks b = match ks == e.1 with | true => (ks, b) :: m | false => e :: mset m ks b := by
  unfold mset
  simp only [mfind]
  cases ks == e.1 with
  | true => rfl
  | false =>
    simp only [mfind_shift]
    cases mfind m ks 0 with
    | none => rfl
    | some x => rfl
theorem mval_set : ∀ (m : List (List Int × Bool)) (ks : List Int) (b : Bool) (ks' : List Int), mval (mset m ks b) ks' = match ks' == ks with | true => some b | false => mval m ks'
  | [], ks, b, ks' => rfl
  | e :: m, ks, b, ks' => by
    rw [mset_cons]
    cases h : ks == e.1 with
    | true =>
      have h' : ks = e.1 := by simpa using h
      subst h'
      simp only [mval]
      cases ks' == e.1 <;> rfl
    | false =>
      simp only [mval, mval_set m ks b ks']
      cases h2 : ks' == e.1 with
      | false => rfl
      | true =>
        have h' : ks' = e.1 := by simpa using h2
        subst h'
        have : (e.1 == ks) = false := by
          have : ks ≠ e.1 := by simpa using h
          simpa using Ne.symm this
        rw [this]

/-! ### the same nodes -/
section
variable (A B : GProgram)
noncomputable def sameN : Nat → Nat → Nat → Bool
  | 0, _, _ => false
  | d + 1, i, k => fieldsM A.Funcs B.Funcs (A.Nodes.getD i default) (B.Nodes.getD k default) &&
      all2 (fun x y : Int => sameN d x.toNat y.toNat) (A.Nodes.getD i default).In (B.Nodes.getD k default).In
noncomputable def same (i k : Nat) : Bool := sameN A B (i + 1) i k
end

theorem all2_congr {A B : Type} [Inhabited A] [Inhabited B] {p q : A → B → Bool} {l : List A} {r : List B} (h : ∀ i, i < l.length → i < r.length → p (l.getD i default) (r.getD i default) = q (l.getD i default) (r.getD i default)) : all2 p l r = all2 q l r := by
  unfold all2
  by_cases hl : l.length = r.length
  · simp only [hl, decide_true, Bool.true_and]
    rw [Bool.eq_iff_iff, List.all_eq_true, List.all_eq_true]
    constructor
    · intro h' i hi
      have hi2 : i < r.length := by simpa using hi
      rw [← h i (by omega) hi2]; exact h' i hi
    · intro h' i hi
      have hi2 : i < r.length := by simpa using hi
      rw [h i (by omega) hi2]; exact h' i hi
  · simp [hl]

theorem sameN_deep {A B : GProgram} (hA : ProgFit A) : ∀ (i d k : Nat), i < A.Nodes.length → i < d → sameN A B d i k = same A B i k := by
  intro i
  induction i using Nat.strongRecOn with
  | ind i ih =>
    intro d k hi hd
    obtain ⟨d, rfl⟩ : ∃ d', d = d' + 1 := ⟨d - 1, by omega⟩
    unfold same
    simp only [sameN]
    congr 1
    refine all2_congr (fun j hj _ => ?_)
    have hin := (hA.nodes i hi).ins j hj
    rw [ih _ (by omega) d _ (by omega) (by omega), ih _ (by omega) i _ (by omega) (by omega)]
theorem same_eq {A B : GProgram} (hA : ProgFit A) {i k : Nat} (hi : i < A.Nodes.length) : same A B i k = (fieldsM A.Funcs B.Funcs (A.Nodes.getD i default) (B.Nodes.getD k default) &&
      all2 (fun x y : Int => same A B x.toNat y.toNat) (A.Nodes.getD i default).In (B.Nodes.getD k default).In) := by
  conv => lhs; unfold same
  simp only [sameN]
  congr 1
  refine all2_congr (fun j hj _ => ?_)
  have hin := (hA.nodes i hi).ins j hj
  exact sameN_deep hA _ _ _ (by omega) (by omega)

/-- two programs that can be compared -/
structure Pair (A B : GProgram) : Prop where
  fa : ProgFit A
  fb : ProgFit B
  na : ∀ {i : Nat}, i < A.Nodes.length → NodeW A.Funcs (A.Nodes.getD i default)
  nb : ∀ {i : Nat}, i < B.Nodes.length → NodeW B.Funcs (B.Nodes.getD i default)
theorem nodes_w {A : GProgram} (h : ProgFit A) (o : okGProgram A) {i : Nat} (hi : i < A.Nodes.length) : NodeW A.Funcs (A.Nodes.getD i default) := .of (getD_P o.2.2 hi) (h.nodes i hi).calls
theorem Pair.of {A B : GProgram} (fa : ProgFit A) (fb : ProgFit B) (oa : okGProgram A) (ob : okGProgram B) : Pair A B := ⟨fa, fb, nodes_w fa oa, nodes_w fb ob⟩

/-- what the memory holds is so -/
def Mem (A B : GProgram) (m : List (List Int × Bool)) : Prop := ∀ i k : Nat, i < A.Nodes.length → k < B.Nodes.length → ∀ b, mval m [(i : Int), (k : Int)] = some b → b = same A B i k
theorem Mem.nil {A B : GProgram} : Mem A B [] := fun _ _ _ _ _ h => by cases h
theorem Mem.set {A B : GProgram} {m : List (List Int × Bool)} (h : Mem A B m) {i k : Nat} : Mem A B (mset m [(i : Int), (k : Int)] (same A B i k)) := by
  intro i' k' hi hk b hb
  rw [mval_set] at hb
  cases he : ([(i' : Int), (k' : Int)] == [(i : Int), (k : Int)]) with
  | true =>
    rw [he] at hb
    have : [(i' : Int), (k' : Int)] = [(i : Int), (k : Int)] := by simpa using he
    simp only [List.cons.injEq, and_true] at this
    obtain ⟨h1, h2⟩ := this
    have h1 : i' = i := by omega
    have h2 : k' = k := by omega
    subst h1; subst h2
    simpa using hb.symm
  | false =>
    rw [he] at hb
    exact h i' k' hi hk b hb

theorem G52s1_ok {A B : GProgram} {rec : Int → Int → List GFunc → List GNode → List GFunc → List GNode → List (List Int × Bool) → Option (Bool × List (List Int × Bool))} {l r : List Int} (hl : l.length ≤ 1048576)
    (hrec : ∀ j, j < l.length → j < r.length → ∀ m, Mem A B m → Sp (rec (l.getD j default) (r.getD j default) A.Funcs A.Nodes B.Funcs B.Nodes m) (fun x => x.1 = same A B (l.getD j default).toNat (r.getD j default).toNat ∧ Mem A B x.2)) {m : List (List Int × Bool)} (hm : Mem A B m) :
    Sp (G52s1 rec l r A.Funcs A.Nodes B.Funcs B.Nodes m) (fun x => x.1 = all2 (fun x y : Int => same A B x.toNat y.toNat) l r ∧ Mem A B x.2) := by
  unfold G52s1 all2
  refine Sp.iteN (fun hne => Sp.ret ⟨by simp; omega, hm⟩) (fun heq => ?_)
  have heq' : l.length = r.length := by omega
  refine Sp.bind (fun R => match R with | .inl b => (∀ j, j < l.length → same A B (l.getD j default).toNat (r.getD j default).toNat = true) ∧ Mem A B b | .inr y => y.1 = false ∧ (∃ j, j < l.length ∧ same A B (l.getD j default).toNat (r.getD j default).toNat = false) ∧ Mem A B y.2) ?_ (fun R hR => ?_)
  · refine Sp.count (fun s => s.2) l.length (fun s => Mem A B s.1 ∧ ∀ j : Nat, (j : Int) < s.2 → same A B (l.getD j default).toNat (r.getD j default).toNat = true) _ (by omega) (fun s hs h0 h1 => ?_) (m, 0) ⟨hm, fun j hj => by simp at hj; omega⟩ (Int.le_refl _) (by simp)
    obtain ⟨v1, v2⟩ := s
    obtain ⟨hs1, hs2⟩ := hs
    simp only at h0 h1 hs1 hs2
    obtain ⟨j, rfl⟩ := Int.eq_ofNat_of_zero_le h0
    rw [G52s1_L0]
    simp only [Int.toNat_natCast]
    refine Sp.iteD (fun hlt => ?_) (fun hge => Sp.ret ⟨fun i hi => hs2 i (by omega), hs1⟩)
    refine Sp.guard (by omega) (Sp.guard (by omega) ?_)
    refine Sp.bind _ (hrec j (by omega) (by omega) v1 hs1) (fun x hx => ?_)
    obtain ⟨b, m'⟩ := x
    obtain ⟨hx1, hx2⟩ := hx
    simp only at hx1 hx2
    refine Sp.iteB (fun hf => Sp.ret ⟨rfl, ⟨j, by omega, ?_⟩, hx2⟩) (fun ht => Sp.ret ⟨hlt, rfl, hx2, fun i hi => ?_⟩)
    · rw [← hx1]; simpa using hf
    · simp only at hi
      rw [wrap_id (by omega) (by omega)] at hi
      by_cases hij : i = j
      · subst hij; rw [← hx1]; simpa using ht
      · exact hs2 i (by omega)
  · cases R with
    | inl b =>
      refine Sp.ret ⟨?_, hR.2⟩
      simp only [heq', decide_true, Bool.true_and]
      exact (List.all_eq_true.2 (fun j hj => hR.1 j (by have : j < r.length := by simpa using hj
                                                        omega))).symm
    | inr y =>
      obtain ⟨h1, ⟨j, hj, hjf⟩, h3⟩ := hR
      refine Sp.ret ⟨?_, h3⟩
      rw [h1]
      simp only [heq', decide_true, Bool.true_and]
      symm
      rw [List.all_eq_false]
      exact ⟨j, by simpa [← heq'] using hj, by rw [hjf]; simp⟩

theorem G31s1_ok {A B : GProgram} (hp : Pair A B) {rec : Int → Int → List GFunc → List GNode → List GFunc → List GNode → List (List Int × Bool) → Option (Bool × List (List Int × Bool))} {i k : Nat} (hi : i < A.Nodes.length) (hk : k < B.Nodes.length)
    (hrec : ∀ i' k', i' < i → i' < A.Nodes.length → k' < B.Nodes.length → ∀ m, Mem A B m → Sp (rec (i' : Int) (k' : Int) A.Funcs A.Nodes B.Funcs B.Nodes m) (fun x => x.1 = same A B i' k' ∧ Mem A B x.2)) {m : List (List Int × Bool)} (hm : Mem A B m) :
    Sp (G31s1 rec (A.Nodes.getD i default) (B.Nodes.getD k default) A.Funcs A.Nodes B.Funcs B.Nodes m) (fun x => x.1 = all2 (fun x y : Int => same A B x.toNat y.toNat) (A.Nodes.getD i default).In (B.Nodes.getD k default).In ∧ Mem A B x.2) := by
  unfold G31s1
  refine Sp.bind _ (G52s1_ok (hp.na hi).nI (fun j hj hj' m hm => ?_) hm) (fun x hx => Sp.ret hx)
  have h1 := (hp.fa.nodes i hi).ins j hj
  have h2 := (hp.fb.nodes k hk).ins j hj'
  obtain ⟨u, hu⟩ := Int.eq_ofNat_of_zero_le h1.1
  obtain ⟨v, hv⟩ := Int.eq_ofNat_of_zero_le h2.1
  rw [hu, hv]
  exact hrec u v (by omega) (by omega) (by omega) m hm

theorem G19s0_ok {A B : GProgram} (hp : Pair A B) : ∀ (i k : Nat), i < A.Nodes.length → k < B.Nodes.length → ∀ m, Mem A B m → Sp (G19s0 (i : Int) (k : Int) A.Funcs A.Nodes B.Funcs B.Nodes m) (fun x => x.1 = same A B i k ∧ Mem A B x.2) := by
  intro i
  induction i using Nat.strongRecOn with
  | ind i ih =>
    intro k hi hk m hm
    rw [G19s0_eq]
    unfold G19s0_B
    refine Sp.bind (fun J => J.2 = same A B i k ∧ Mem A B J.1) ?_ (fun J hJ => by obtain ⟨x, y⟩ := J; exact Sp.ret hJ)
    refine Sp.iteB (fun hnew => ?_) (fun hold => ?_)
    · refine Sp.guard (by omega) (Sp.guard (by omega) ?_)
      simp only [Int.toNat_natCast]
      refine Sp.bind (fun J => J.2 = same A B i k ∧ Mem A B J.1) ?_ (fun J hJ => ?_)
      · rw [G30s0_ok hp.fa.funcs hp.fb.funcs (hp.na hi) (hp.nb hk)]
        simp only [Option.bind_some]
        rw [same_eq hp.fa hi]
        refine Sp.iteB (fun hf => ?_) (fun hf => Sp.ret ⟨by rw [hf, Bool.false_and], hm⟩)
        refine Sp.bind _ (G31s1_ok hp hi hk (fun i' k' h1 h2 h3 m hm => ih i' h1 k' h2 h3 m hm) hm) (fun x hx => Sp.ret ⟨?_, hx.2⟩)
        rw [hf, Bool.true_and]; exact hx.1
      · obtain ⟨m', b⟩ := J
        obtain ⟨h1, h2⟩ := hJ
        simp only at h1 h2
        subst h1
        exact Sp.ret ⟨rfl, h2.set⟩
    · have hh : mhas m [(i : Int), (k : Int)] = true := by simpa using hold
      refine Sp.ret ⟨?_, hm⟩
      simp only
      rw [mhas_val] at hh
      rw [mget_val]
      cases hv : mval m [(i : Int), (k : Int)] with
      | none => rw [hv] at hh; cases hh
      | some b => exact hm i k hi hk b hv

/-! ### what else is asked of two nodes -/
theorem G70_ok (n a b : Int) : G70 n a b = some (decide (n ≥ a) && decide (n ≤ b)) := by
  unfold G70
  by_cases h : n ≥ a <;> simp [h]
theorem G69_tot (a : GNode) : Sp (G69 a) (fun _ => True) := by
  unfold G69; simp only [G70_ok, Option.bind_some]; exact Sp.triv
def own5 (a : GNode) : Bool := decide (a.Op ≥ 4) && decide (a.Op ≤ 8)
theorem G23_ok (a : GNode) : G23 a = some (own5 a) := by
  unfold G23 own5
  by_cases h : a.Op ≥ 4 <;> simp [h]
theorem G64_tot (a : GNode) : Sp (G64 a) (fun _ => True) := Sp.triv
theorem G66_tot (a : GNode) : Sp (G66 a) (fun _ => True) := by
  unfold G66; simp only [G70_ok, Option.bind_some]; repeat' (first | with_reducible exact G69_tot _ | with_reducible exact Sp.triv | with_reducible refine Sp.guard (by omega) ?_ | with_reducible refine Sp.iteD (fun _ => ?_) (fun _ => ?_) | with_reducible refine Sp.iteN (fun _ => ?_) (fun _ => ?_) | with_reducible refine Sp.iteE (fun _ => ?_) (fun _ => ?_) | with_reducible refine Sp.iteB (fun _ => ?_) (fun _ => ?_) | with_reducible refine Sp.bind (fun _ => True) ?_ (fun _ _ => ?_))
theorem G68_tot (a : GNode) : Sp (G68 a) (fun _ => True) := by
  unfold G68; simp only [G70_ok, Option.bind_some]; repeat' (first | with_reducible exact G69_tot _ | with_reducible exact Sp.triv | with_reducible refine Sp.guard (by omega) ?_ | with_reducible refine Sp.iteD (fun _ => ?_) (fun _ => ?_) | with_reducible refine Sp.iteN (fun _ => ?_) (fun _ => ?_) | with_reducible refine Sp.iteE (fun _ => ?_) (fun _ => ?_) | with_reducible refine Sp.iteB (fun _ => ?_) (fun _ => ?_) | with_reducible refine Sp.bind (fun _ => True) ?_ (fun _ _ => ?_))
theorem G71_tot (a : GNode) : Sp (G71 a) (fun _ => True) := by
  unfold G71; simp only [G70_ok, Option.bind_some]; repeat' (first | with_reducible exact Sp.triv | with_reducible refine Sp.guard (by omega) ?_ | with_reducible refine Sp.iteD (fun _ => ?_) (fun _ => ?_) | with_reducible refine Sp.iteN (fun _ => ?_) (fun _ => ?_) | with_reducible refine Sp.iteE (fun _ => ?_) (fun _ => ?_) | with_reducible refine Sp.iteB (fun _ => ?_) (fun _ => ?_) | with_reducible refine Sp.bind (fun _ => True) ?_ (fun _ _ => ?_))
theorem G73_tot (a : GNode) : Sp (G73 a) (fun _ => True) := by
  unfold G73; simp only [G70_ok, Option.bind_some]; repeat' (first | with_reducible exact Sp.triv | with_reducible refine Sp.guard (by omega) ?_ | with_reducible refine Sp.iteD (fun _ => ?_) (fun _ => ?_) | with_reducible refine Sp.iteN (fun _ => ?_) (fun _ => ?_) | with_reducible refine Sp.iteE (fun _ => ?_) (fun _ => ?_) | with_reducible refine Sp.iteB (fun _ => ?_) (fun _ => ?_) | with_reducible refine Sp.bind (fun _ => True) ?_ (fun _ _ => ?_))
theorem G75_tot (a : GNode) : Sp (G75 a) (fun _ => True) := by
  unfold G75; simp only [G70_ok, Option.bind_some]; repeat' (first | with_reducible exact G69_tot _ | with_reducible exact Sp.triv | with_reducible refine Sp.guard (by omega) ?_ | with_reducible refine Sp.iteD (fun _ => ?_) (fun _ => ?_) | with_reducible refine Sp.iteN (fun _ => ?_) (fun _ => ?_) | with_reducible refine Sp.iteE (fun _ => ?_) (fun _ => ?_) | with_reducible refine Sp.iteB (fun _ => ?_) (fun _ => ?_) | with_reducible refine Sp.bind (fun _ => True) ?_ (fun _ _ => ?_))
theorem G67_tot (a : GNode) : Sp (G67 a) (fun _ => True) := by
  unfold G67; repeat' (first | with_reducible exact Sp.triv | with_reducible refine Sp.guard (by omega) ?_ | with_reducible refine Sp.iteD (fun _ => ?_) (fun _ => ?_) | with_reducible refine Sp.iteN (fun _ => ?_) (fun _ => ?_) | with_reducible refine Sp.iteE (fun _ => ?_) (fun _ => ?_) | with_reducible refine Sp.iteB (fun _ => ?_) (fun _ => ?_) | with_reducible refine Sp.bind (fun _ => True) ?_ (fun _ _ => ?_))
theorem G54_ok (n : Int) : Sp (G54 n) (fun r => r ≤ 8 ∧ (r = 0 → ¬ (0 ≤ n ∧ n ≤ 8))) := by
  unfold G54
  rw [G70_ok]
  simp only [Option.bind_some]
  refine Sp.iteB (fun h => Sp.ret ⟨by omega, fun _ hn => ?_⟩) (fun h => ?_)
  · rw [show decide (n ≥ 0) = true from decide_eq_true hn.1, show decide (n ≤ 8) = true from decide_eq_true hn.2] at h; cases h
  · have hn : 0 ≤ n ∧ n ≤ 8 := by simpa using h
    have : n = 0 ∨ n = 1 ∨ n = 2 ∨ n = 3 ∨ n = 4 ∨ n = 5 ∨ n = 6 ∨ n = 7 ∨ n = 8 := by omega
    rcases this with rfl | rfl | rfl | rfl | rfl | rfl | rfl | rfl | rfl <;> exact ⟨_, rfl, by omega, by omega⟩
theorem nat9 {r : Nat} (h : r ≤ 8) : r = 0 ∨ r = 1 ∨ r = 2 ∨ r = 3 ∨ r = 4 ∨ r = 5 ∨ r = 6 ∨ r = 7 ∨ r = 8 := by omega
theorem G53_ok (a : GNode) : Sp (G53 a) (fun r => r = true → 0 ≤ a.Op ∧ a.Op ≤ 8) := by
  unfold G53
  obtain ⟨r, hr, h8, h0⟩ := G54_ok a.Op
  rw [hr]
  simp only [Option.bind_some]
  by_cases hz : r = 0
  · rw [if_pos hz]; exact Sp.ret (by simp)
  · have hop : 0 ≤ a.Op ∧ a.Op ≤ 8 := by
      by_cases h : 0 ≤ a.Op ∧ a.Op ≤ 8
      · exact h
      · exfalso
        apply hz
        unfold G54 at hr
        rw [G70_ok] at hr
        have : (decide (a.Op ≥ 0) && decide (a.Op ≤ 8)) = false := by
          rw [Bool.eq_false_iff]; intro hc; apply h; simpa using hc
        rw [this] at hr
        simpa using hr.symm
    refine Sp.imp' (P := fun _ => True) ?_ (fun _ _ _ => hop)
    rcases nat9 h8 with rfl | rfl | rfl | rfl | rfl | rfl | rfl | rfl | rfl
    · exact absurd rfl hz
    all_goals simp
    all_goals first | exact Sp.triv | exact G64_tot a | exact G66_tot a | exact G68_tot a | exact G71_tot a | exact G73_tot a | exact G75_tot a
theorem G32_tot (a : GNode) : Sp (G32 a) (fun _ => True) := by
  unfold G32
  refine Sp.bind _ (G53_ok a) (fun r hr => Sp.iteB (fun _ => Sp.triv) (fun hrt => ?_))
  have hop := hr (by simpa using hrt)
  obtain ⟨q, hq, h8, h0⟩ := G54_ok a.Op
  rw [hq]
  simp only [Option.bind_some]
  rcases nat9 h8 with rfl | rfl | rfl | rfl | rfl | rfl | rfl | rfl | rfl
  · exact absurd hop (h0 rfl)
  all_goals simp
  all_goals first | exact Sp.triv | exact Sp.bind _ (G67_tot a) (fun _ _ => Sp.triv)

noncomputable def ownM (a : GNode) : Int := ((G32 a).getD (0, 0)).1
theorem G32_ok (a : GNode) : ∃ r, G32 a = some r ∧ r.1 = ownM a := by
  obtain ⟨r, hr, _⟩ := G32_tot a
  exact ⟨r, hr, by unfold ownM; rw [hr]; rfl⟩
/-- may one node's state serve the other? -/
noncomputable def stateM (A B : GProgram) (i k : Nat) : Bool := own5 (A.Nodes.getD i default) && ((A.Nodes.getD i default).Op == (B.Nodes.getD k default).Op && (all2 (fun x y => x == y) (A.Nodes.getD i default).Key (B.Nodes.getD k default).Key &&
  (all2 (fun x y => x == y) (A.Nodes.getD i default).Key2 (B.Nodes.getD k default).Key2 && (ownM (A.Nodes.getD i default) == ownM (B.Nodes.getD k default) &&
  all2 (fun x y : Int => same A B x.toNat y.toNat) (A.Nodes.getD i default).In (B.Nodes.getD k default).In))))

theorem G20s0_ok {A B : GProgram} (hp : Pair A B) {i k : Nat} (hi : i < A.Nodes.length) (hk : k < B.Nodes.length) {m : List (List Int × Bool)} (hm : Mem A B m) :
    Sp (G20s0 (i : Int) (k : Int) A.Funcs A.Nodes B.Funcs B.Nodes m) (fun x => x.1 = stateM A B i k ∧ Mem A B x.2) := by
  unfold G20s0 stateM
  refine Sp.guard (by omega) (Sp.guard (by omega) ?_)
  simp only [Int.toNat_natCast]
  have nK := (hp.na hi).nK; have nK2 := (hp.na hi).nK2
  obtain ⟨r3, h3, e3⟩ := G32_ok (A.Nodes.getD i default)
  obtain ⟨r5, h5, e5⟩ := G32_ok (B.Nodes.getD k default)
  rw [h3, h5]
  simp only [Option.bind_some]
  refine Sp.bind (fun J => J.2 = (own5 (A.Nodes.getD i default) && ((A.Nodes.getD i default).Op == (B.Nodes.getD k default).Op && (all2 (fun x y => x == y) (A.Nodes.getD i default).Key (B.Nodes.getD k default).Key &&
    (all2 (fun x y => x == y) (A.Nodes.getD i default).Key2 (B.Nodes.getD k default).Key2 && (ownM (A.Nodes.getD i default) == ownM (B.Nodes.getD k default) &&
    all2 (fun x y : Int => same A B x.toNat y.toNat) (A.Nodes.getD i default).In (B.Nodes.getD k default).In))))) ∧ Mem A B J.1) ?_ (fun J hJ => by obtain ⟨x, y⟩ := J; exact Sp.ret hJ)
  rw [G23_ok]
  simp only [Option.bind_some]
  refine Sp.iteB (fun h => ?_) (fun h => Sp.ret ⟨by rw [h]; rfl, hm⟩)
  rw [h, Bool.true_and]
  refine Sp.iteB (fun h => ?_) (fun h => Sp.ret ⟨by rw [h]; rfl, hm⟩)
  rw [h, Bool.true_and]
  rw [G33_ok (by omega)]
  simp only [Option.bind_some]
  refine Sp.iteB (fun h => ?_) (fun h => Sp.ret ⟨by rw [h]; rfl, hm⟩)
  rw [h, Bool.true_and]
  rw [G33_ok (by omega)]
  simp only [Option.bind_some]
  refine Sp.iteB (fun h => ?_) (fun h => Sp.ret ⟨by rw [h]; rfl, hm⟩)
  rw [h, Bool.true_and, e3, e5]
  refine Sp.iteB (fun h => ?_) (fun h => Sp.ret ⟨by rw [h]; rfl, hm⟩)
  rw [h, Bool.true_and]
  exact Sp.bind _ (G31s1_ok hp hi hk (fun i' k' _ h2 h3 m hm => G19s0_ok hp i' k' h2 h3 m hm) hm) (fun x hx => Sp.ret hx)

end Go.PL
