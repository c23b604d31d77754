/-
  Inlining: the program's way and the reference's. Own work.
-/
import Derived.Test.YtlhmdnniolhnjaaQc
namespace Go.PL
open Go

theorem okW.mk' {e : Expr} (hn : e.Args.length * 56 ≤ 140737488355328) (hl : ∀ x, x ∈ e.Args → okW x) : okW e := by cases e; exact .mk hn hl

theorem mapM_rel {A B : Type} {f : A → Option B} : ∀ {l : List A} {r : List B}, l.mapM f = some r → r.length = l.length ∧ ∀ y, y ∈ r → ∃ x, x ∈ l ∧ f x = some y
  | [], r, h => by simp at h; subst h; simp
  | x :: l, r, h => by
    rw [List.mapM_cons] at h
    simp only [Option.bind_eq_bind, Option.bind_eq_some_iff] at h
    obtain ⟨y, hy, ys, hys, hr⟩ := h
    simp at hr; subst hr
    obtain ⟨h1, h2⟩ := mapM_rel hys
    refine ⟨by simp [h1], fun z hz => ?_⟩
    rcases List.mem_cons.1 hz with rfl | hz
    · exact ⟨x, by simp, hy⟩
    · obtain ⟨x', h3, h4⟩ := h2 z hz; exact ⟨x', List.mem_cons_of_mem _ h3, h4⟩

theorem putM_eq (op : Int) (l : List Expr) (e : Expr) : putM op l e = match e.Op == op with
    | true => match decide (e.N < 0) || decide (e.N ≥ (l.length : Int)) with
      | true => none
      | false => some (l.getD e.N.toNat default)
    | false => (e.Args.mapM (putM op l)).map (Expr.mk e.Op e.N e.S) := by
  cases e with | mk a b s xs => simp only [putM, Expr.Op, Expr.N, Expr.S, Expr.Args, putM_go]; rfl

theorem putM_w {op : Int} {l : List Expr} (hl : ∀ x, x ∈ l → okW x) {e : Expr} (h : okW e) : ∀ r, putM op l e = some r → okW r := by
  refine okW.ind (M := fun e => ∀ r, putM op l e = some r → okW r) (fun e _ hn _ ih r hr => ?_) h
  rw [putM_eq] at hr
  split at hr
  · split at hr
    · cases hr
    · rename_i h2
      cases hr
      simp only [Bool.or_eq_false_iff, decide_eq_false_iff_not] at h2
      exact hl _ (getD_mem (by omega))
  · simp only [Option.map_eq_some_iff] at hr
    obtain ⟨ys, hys, rfl⟩ := hr
    obtain ⟨h1, h2⟩ := mapM_rel hys
    refine .mk (by rw [h1]; exact hn) (fun y hy => ?_)
    obtain ⟨x, hx, hxy⟩ := h2 y hy
    exact ih x hx y hxy

noncomputable def big (e : Expr) : Bool := decide ((G40 e).getD 0 > 1000)
noncomputable def inlO (bs : List (Option Expr)) (o n : Int) (s : ByteArray) (ys : List Expr) : Option Expr :=
  match (match o == 22 with
    | true => match bs.getD n.toNat none with
      | none => none
      | some b => some ((putM 4 ys b).getD .zero)
    | false => some (Expr.mk o n s ys)) with
  | none => none
  | some r => match big r with | true => none | false => some r
noncomputable def inlM (bs : List (Option Expr)) : Expr → Option Expr
  | .mk o n s xs => match go xs with
    | none => none
    | some ys => inlO bs o n s ys
where go : List Expr → Option (List Expr)
  | [] => some []
  | x :: xs => match inlM bs x with
    | none => none
    | some y => (go xs).map (y :: ·)
theorem inlM_go (bs : List (Option Expr)) : ∀ xs, inlM.go bs xs = xs.mapM (inlM bs)
  | [] => rfl
  | x :: xs => by
    simp only [inlM.go, List.mapM_cons, inlM_go bs xs]
    cases inlM bs x <;> simp <;> cases List.mapM (inlM bs) xs <;> rfl
theorem inlM_eq (bs : List (Option Expr)) (e : Expr) : inlM bs e = match e.Args.mapM (inlM bs) with | none => none | some ys => inlO bs e.Op e.N e.S ys := by
  cases e with | mk a b s xs => simp only [inlM, Expr.Op, Expr.N, Expr.S, Expr.Args, inlM_go]

/-- all calls name a function below n -/
inductive CallsOk (n : Nat) : Expr → Prop
  | mk {a b : Int} {s : ByteArray} {l : List Expr} (h : a = 22 → 0 ≤ b ∧ b < (n : Int)) (hl : ∀ x, x ∈ l → CallsOk n x) : CallsOk n (.mk a b s l)
theorem CallsOk.get {n : Nat} {e : Expr} (h : CallsOk n e) : (e.Op = 22 → 0 ≤ e.N ∧ e.N < (n : Int)) ∧ ∀ x, x ∈ e.Args → CallsOk n x := by cases h with | mk a b => exact ⟨a, b⟩

def toB (x : Option Expr) : GBody := match x with | some e => ⟨e, true⟩ | none => ⟨.zero, false⟩

theorem inlO_w {bs : List (Option Expr)} (hb : ∀ b, some b ∈ bs → okW b) {o n : Int} {s : ByteArray} {ys : List Expr} (hn : ys.length * 56 ≤ 140737488355328) (hy : ∀ y, y ∈ ys → okW y) {r : Expr} (h : inlO bs o n s ys = some r) : okW r := by
  unfold inlO at h
  split at h
  · cases h
  · rename_i r' hr'
    split at h
    · cases h
    · cases h
      split at hr'
      · split at hr'
        · cases hr'
        · rename_i b hbb
          cases hr'
          have hbm : some b ∈ bs := by
            by_cases hi : n.toNat < bs.length
            · rw [← hbb, show bs.getD n.toNat none = bs[n.toNat] by simp [List.getD_eq_getElem?_getD, hi]]; exact List.getElem_mem hi
            · simp [List.getD_eq_getElem?_getD, hi] at hbb
          cases hp : putM 4 ys b with
          | none => exact okW_zero
          | some q => exact putM_w hy (hb b hbm) q hp
      · cases hr'; exact .mk hn hy
theorem inlM_w {bs : List (Option Expr)} (hb : ∀ b, some b ∈ bs → okW b) {e : Expr} (h : okW e) : ∀ r, inlM bs e = some r → okW r := by
  refine okW.ind (M := fun e => ∀ r, inlM bs e = some r → okW r) (fun e _ hn _ ih r hr => ?_) h
  rw [inlM_eq] at hr
  split at hr
  · cases hr
  · rename_i ys hys
    obtain ⟨h1, h2⟩ := mapM_rel hys
    refine inlO_w hb (by rw [h1]; exact hn) (fun y hy => ?_) hr
    obtain ⟨x, hx, hxy⟩ := h2 y hy
    exact ih x hx y hxy

theorem toB_get (bs : List (Option Expr)) (i : Nat) (h : i < bs.length) : (bs.map toB).getD i default = toB (bs.getD i none) := by
  simp [List.getD_eq_getElem?_getD, h]

theorem parts_eq {e : Expr} (h : okW e) : ∃ n, G40 e = some n ∧ G92s0 e 0 = some n := by
  obtain ⟨n, h1, h2⟩ := parts_ok h
  exact ⟨_, h1, by rw [h2]; simp⟩

theorem G85s0_ok {bs : List (Option Expr)} (hb : ∀ b, some b ∈ bs → okW b) {e : Expr} (h : okW e) : CallsOk bs.length e → G85s0 e (bs.map toB) = some (toB (inlM bs e)) := by
  refine okW.ind (M := fun e => CallsOk bs.length e → G85s0 e (bs.map toB) = some (toB (inlM bs e))) (fun e _ hn hw ih hc => ?_) h
  obtain ⟨hc1, hc2⟩ := hc.get
  rw [G85s0_eq, inlM_eq]
  show Option.bind (whileM (G85s0_L0 G85s0 e (bs.map toB)) ([], 0)) _ = _
  have hlp := while_mapM (R := GBody) e.Args (b := G85s0_L0 G85s0 e (bs.map toB)) (inlM bs) ⟨.zero, false⟩ (by omega) (fun acc i hi ha => ?_) (fun acc ha => ?_)
  · rw [hlp]
    cases hm : e.Args.mapM (inlM bs) with
    | none => rfl
    | some ys =>
      obtain ⟨h1, h2⟩ := mapM_rel hm
      have hyw : ∀ y, y ∈ ys → okW y := fun y hy => by
        obtain ⟨x, hx, hxy⟩ := h2 y hy
        exact inlM_w hb (hw x hx) y hxy
      simp only [Option.bind_some]
      unfold inlO
      cases ho : (e.Op == 22) with
      | true =>
        have ho' : e.Op = 22 := by simpa using ho
        obtain ⟨q1, q2⟩ := hc1 ho'
        have hi : e.N.toNat < bs.length := by omega
        rw [if_pos rfl, if_pos (by simp; omega), if_pos (by simpa using hi), toB_get _ _ hi]
        cases hbb : bs.getD e.N.toNat none with
        | none => simp [toB]
        | some b =>
          have hbm : some b ∈ bs := by
            rw [← hbb, show bs.getD e.N.toNat none = bs[e.N.toNat] by simp [List.getD_eq_getElem?_getD, hi]]; exact List.getElem_mem hi
          simp only [toB, Bool.not_true, Bool.false_eq_true, if_false]
          rw [G91_ok hyw (hb b hbm)]
          simp only [Option.bind_some]
          have hrw : ∀ q : Option Expr, (ofM q).1 = q.getD .zero := by intro q; cases q <;> rfl
          rw [hrw, Expr.eta]
          have hokr : okW ((putM 4 ys b).getD .zero) := by
            cases hp : putM 4 ys b with
            | none => exact okW_zero
            | some q => exact putM_w hyw (hb b hbm) q hp
          obtain ⟨n, p1, p2⟩ := parts_eq hokr
          rw [p2]
          simp only [Option.bind_some, big, p1, Option.getD_some]
          by_cases hbig : n > 1000
          · simp [hbig, Expr.zero]
          · simp [hbig]
      | false =>
        rw [if_neg (by simp)]
        simp only [Option.bind_some]
        have hokr : okW (Expr.mk e.Op e.N e.S ys) := .mk (by rw [h1]; exact hn) hyw
        obtain ⟨n, p1, p2⟩ := parts_eq hokr
        rw [p2]
        simp only [Option.bind_some, big, p1, Option.getD_some]
        by_cases hbig : n > 1000
        · simp [hbig, toB, Expr.zero]
        · simp [hbig, toB]
  · rw [G85s0_L0, if_pos (by simpa using hi), if_pos (by constructor <;> omega)]
    simp only [Int.toNat_natCast]
    rw [ih _ (getD_mem hi) (hc2 _ (getD_mem hi))]
    simp only [Option.bind_some]
    cases inlM bs (e.Args.getD i default) with
    | none => simp [toB]
    | some y => simp only [toB, Bool.not_true, Bool.false_eq_true, if_false]; rw [if_pos (by omega)]
  · rw [G85s0_L0, if_neg (by simp)]

/-- the inlined bodies of functions -/
noncomputable def bodiesM (fs : List GFunc) : List (Option Expr) := fs.foldl (fun bs f => bs ++ [inlM bs f.Body]) []
theorem bodiesM_snoc (fs : List GFunc) (f : GFunc) : bodiesM (fs ++ [f]) = bodiesM fs ++ [inlM (bodiesM fs) f.Body] := by simp [bodiesM]
theorem bodiesM_len (fs : List GFunc) : (bodiesM fs).length = fs.length := by
  have : ∀ (fs : List GFunc) (bs : List (Option Expr)), (fs.foldl (fun bs f => bs ++ [inlM bs f.Body]) bs).length = bs.length + fs.length := by
    intro fs
    induction fs with
    | nil => intro bs; rfl
    | cons f fs ih => intro bs; simp only [List.foldl_cons, ih, List.length_append, List.length_cons, List.length_nil]; omega
  have h := this fs []
  simpa [bodiesM] using h

structure FuncsOk (fs : List GFunc) : Prop where
  w : ∀ f, f ∈ fs → okW f.Body
  calls : ∀ i, i < fs.length → CallsOk i (fs.getD i default).Body
  n : fs.length ≤ 100

theorem bodiesM_w {fs : List GFunc} (h : FuncsOk fs) (i : Nat) (hi : i ≤ fs.length) : ∀ b, some b ∈ bodiesM (fs.take i) → okW b := by
  induction i with
  | zero => intro b hb; simp [bodiesM] at hb
  | succ i ih =>
    intro b hb
    rw [List.take_succ_eq_append_getElem (by omega), bodiesM_snoc] at hb
    rcases List.mem_append.1 hb with hb | hb
    · exact ih (by omega) b hb
    · simp at hb
      exact inlM_w (ih (by omega)) (h.w _ (List.getElem_mem (show i < fs.length by omega))) b hb.symm

theorem G62_bodies {fs : List GFunc} (h : FuncsOk fs) : whileM (G62_L0 fs) ([], 0) = some ((bodiesM fs).map toB) := by
  have key : ∀ (k i : Nat), i + k = fs.length → whileM (G62_L0 fs) ((bodiesM (fs.take i)).map toB, (i : Int)) = some ((bodiesM fs).map toB) := by
    intro k
    induction k with
    | zero =>
      intro i hi
      refine whileM_stop ?_
      rw [G62_L0, if_neg (by simp; omega), List.take_of_length_le (by omega)]
    | succ k ih =>
      intro i hi
      have hlt : i < fs.length := by omega
      have hn := h.n
      have hb := h.calls i hlt
      rw [getD_lt hlt] at hb
      have hlen : (bodiesM (fs.take i)).length = i := by rw [bodiesM_len]; simp; omega
      have hstep : G62_L0 fs ((bodiesM (fs.take i)).map toB, (i : Int)) = some (.inl ((bodiesM (fs.take (i + 1))).map toB, IntKind.i64.wrap ((i : Int) + 1))) := by
        rw [G62_L0, if_pos (by simpa using hlt), if_pos (by constructor <;> omega)]
        simp only [Int.toNat_natCast, getD_lt hlt]
        rw [G85s0_ok (bodiesM_w h i (by omega)) (h.w _ (List.getElem_mem hlt)) (by rw [hlen]; exact hb)]
        simp only [Option.bind_some, List.length_map, hlen]
        rw [if_pos (by omega), List.take_succ_eq_append_getElem hlt, bodiesM_snoc]
        simp
      rw [whileM_next hstep, wrap_id (by omega) (by omega), show ((i : Int) + 1) = ((i + 1 : Nat) : Int) by omega]
      exact ih (i + 1) (by omega)
  have := key fs.length 0 (by omega)
  simpa [bodiesM] using this

/-- an expression without calls, if it is not too large -/
noncomputable def inlineM (fs : List GFunc) (e : Expr) : Option Expr := match inlM (bodiesM fs) e with | none => none | some r => match decide ((G29 r).getD 0 > 12) with | true => none | false => some r

theorem FuncsOk.all {fs : List GFunc} (h : FuncsOk fs) : ∀ b, some b ∈ bodiesM fs → okW b := by
  have := bodiesM_w h fs.length (Nat.le_refl _)
  rwa [List.take_of_length_le (Nat.le_refl _)] at this

theorem G62_ok {fs : List GFunc} (h : FuncsOk fs) {e : Expr} (he : okW e) (hc : CallsOk fs.length e) : G62 fs e = some (ofM (inlineM fs e)) := by
  rw [G62, G62_bodies h]
  simp only [Option.bind_some]
  rw [G85s0_ok h.all he (by rw [bodiesM_len]; exact hc)]
  simp only [Option.bind_some]
  unfold inlineM
  cases hi : inlM (bodiesM fs) e with
  | none => simp [toB, ofM, Expr.zero]
  | some r =>
    obtain ⟨n, h1, h2⟩ := G86_G29 (inlM_w h.all he r hi)
    simp only [toB, Bool.not_true, Bool.false_eq_true, if_false, h1, h2, Option.bind_some, Option.getD_some]
    by_cases hn : n > 12
    · simp [hn, ofM, Expr.zero]
    · simp [hn, ofM]
theorem inlineM_w {fs : List GFunc} (h : FuncsOk fs) {e : Expr} (he : okW e) {r : Expr} (hr : inlineM fs e = some r) : okW r := by
  unfold inlineM at hr
  split at hr
  · cases hr
  · rename_i r' hr'
    split at hr
    · cases hr
    · cases hr; exact inlM_w h.all he r hr'

/-- two lists, element by element -/
def all2 {A B : Type} [Inhabited A] [Inhabited B] (p : A → B → Bool) (l : List A) (r : List B) : Bool := decide (l.length = r.length) && (List.range l.length).all fun i => p (l.getD i default) (r.getD i default)
theorem all2_refl {A : Type} [Inhabited A] {p : A → A → Bool} {l : List A} (h : ∀ x, x ∈ l → p x x = true) : all2 p l l = true := by
  unfold all2
  simp only [decide_true, Bool.true_and, List.all_eq_true, List.mem_range]
  intro i hi
  exact h _ (getD_mem hi)
theorem equalF {A B : Type} [Inhabited A] [Inhabited B] {l : List A} {r : List B} {f : A → B → Option Bool} {L : Int → Option (Int ⊕ (Unit ⊕ Bool))} {p : A → B → Bool} (hN : l.length ≤ 9223372036854775806)
    (hL : ∀ v2, L v2 = if (decide (v2 < ((l.length : Int)))) = true then (if 0 ≤ v2 ∧ v2 < (l.length : Int) then (if 0 ≤ v2 ∧ v2 < (r.length : Int) then ((f (l.getD (v2).toNat default) (r.getD (v2).toNat default)).bind fun r6 => if (!r6) = true then (some (.inr (.inr (false)))) else (some (.inl (IntKind.i64.wrap (v2 + 1))))) else none) else none) else (some (.inr (.inl (())))))
    (h : ∀ x, x ∈ l → ∀ y, y ∈ r → f x y = some (p x y)) :
    (if (((l.length : Int)) != ((r.length : Int))) = true then (some (false)) else (Option.bind (whileM L (0)) fun R9 => match R9 with | .inl (_) => (some (true)) | .inr (y11) => (some (y11)))) = some (all2 p l r) := by
  unfold all2
  by_cases hl : l.length = r.length
  · rw [if_neg (by simp [hl])]
    have := while_all (R := Bool) l.length (b := L) (fun i => p (l.getD i default) (r.getD i default)) false hN (fun i hi => ?_) ?_
    · rw [this]
      simp only [hl, decide_true, Bool.true_and, Option.bind_some]
      cases (List.range r.length).all fun i => p (l.getD i default) (r.getD i default) <;> rfl
    · rw [hL, if_pos (by simpa using hi), if_pos (by constructor <;> omega), if_pos (by constructor <;> omega)]
      simp only [Int.toNat_natCast]
      rw [h _ (getD_mem hi) _ (getD_mem (show i < r.length by omega))]
      cases p (l.getD i default) (r.getD i default) <;> rfl
    · rw [hL, if_neg (by simp)]
  · rw [if_pos (by simp; omega)]
    simp [hl]

/-- are two expressions the same? -/
noncomputable def sameM (e e' : Expr) : Bool := (G63 e e').getD false
theorem G63_ok {e : Expr} (h : okW e) : ∀ {e' : Expr}, okW e' → G63 e e' = some (sameM e e') := by
  have key : ∀ {e' : Expr}, okW e' → ∃ b, G63 e e' = some b := by
    refine okW.ind (M := fun e => ∀ {e' : Expr}, okW e' → ∃ b, G63 e e' = some b) (fun e _ hn _ ih e' he' => ?_) h
    obtain ⟨hn', hw'⟩ := he'.args
    have hin : G44s1 G63 e.Args e'.Args = some (all2 (fun x y => (G63 x y).getD false) e.Args e'.Args) := by
      rw [G44s1]
      exact equalF (f := G63) (by omega) (fun v => by rw [G44s1_L0]) (fun x hx y hy => by obtain ⟨b, hb⟩ := ih x hx (hw' y hy); rw [hb]; rfl)
    rw [G63_eq]
    unfold G63_B
    rw [hin]
    simp only [Option.bind_some]
    split
    · split
      · split
        · exact ⟨_, rfl⟩
        · exact ⟨_, rfl⟩
      · exact ⟨_, rfl⟩
    · exact ⟨_, rfl⟩
  intro e' he'
  obtain ⟨b, hb⟩ := key he'
  rw [sameM, hb]; rfl
theorem sameM_refl {e : Expr} (h : okW e) : sameM e e = true := by
  refine okW.ind (M := fun e => sameM e e = true) (fun e he hn hw ih => ?_) h
  have hin : G44s1 G63 e.Args e.Args = some (all2 sameM e.Args e.Args) := by
    rw [G44s1]
    exact equalF (f := G63) (by omega) (fun v => by rw [G44s1_L0]) (fun x hx y hy => G63_ok (hw x hx) (hw y hy))
  unfold sameM
  rw [G63_eq]
  unfold G63_B
  rw [hin, all2_refl ih]
  simp

end Go.PL
