/-
  Abstract states: a frame of abstract values, a heap of abstract objects; what they say of an activation and a world. Own work.
-/
import Derived.Test.YtlhmdnniolhnjaaPa
namespace Go.PL
open Go

inductive PObj where
  | box (l : List PV)
  | arr (e : TypeId) (s n : Nat) (f : Nat → List T)
  | mpb (n : Nat) (m : List (List Int × Bool))
instance : Inhabited PObj := ⟨.box []⟩

def PObj.names : PObj → List Nat
  | .box l => PV.names.go l
  | .arr .. => []
  | .mpb .. => []

def blk : Value → Option Nat
  | .pointer (some a) => some a.block
  | .slice (some a) _ _ => some a.block
  | .map (some b) => some b
  | _ => none

def intsV (l : List Int) : Value := .agg (l.map (Value.int .i64)).toArray

def ObjR (F : Nat → Prop) (g : Nat → Value) (w : World) (o : Nat) : PObj → Prop
  | .box l => ∃ b vs ty, g o = .pointer (some ⟨b, 0, none⟩) ∧ w.heap[b]? = some (.cells vs ty (0, 0)) ∧ vs.size = l.length ∧
      ∀ (j : Nat) x v, l[j]? = some x → vs[j]? = some v → VR F g w x v
  | .arr e s n f => (g o = .slice none 0 0 ∧ n = 0) ∨ ∃ b cap cur, g o = .slice (some ⟨b, 0, none⟩) n cap ∧ w.heap[b]? = some (.cells cur e (0, 0)) ∧ n ≤ cap ∧ cap ≤ maxLen ∧
      cur.size = cap * s ∧ (∀ i, i < n → (f i).length = s) ∧ ∀ (i j : Nat) x, i < n → (f i)[j]? = some x → ∃ v, cur[i * s + j]? = some v ∧ Rd F w x v
  | .mpb n m => ∃ b es clock, g o = .map (some b) ∧ w.heap[b]? = some (.map es clock) ∧ es.size = m.length ∧ (∀ x, x ∈ m → x.1.length = n) ∧
      ∀ (j : Nat) e x, es[j]? = some e → m[j]? = some x → e.key = intsV x.1 ∧ e.val = .bool x.2

abbrev Fr := List (Nat × PV)
abbrev Hp := List (Nat × PObj)

structure St where
  fr : Fr
  hp : Hp

def look {α : Type} : List (Nat × α) → Nat → Option α
  | [], _ => none
  | (k, v) :: l, t => match Nat.beq k t with | true => some v | false => look l t

theorem look_mem {α : Type} {l : List (Nat × α)} {t : Nat} {v : α} (h : look l t = some v) : (t, v) ∈ l := by
  induction l with
  | nil => simp [look] at h
  | cons e l ih =>
    obtain ⟨k, u⟩ := e
    unfold look at h
    split at h
    · rename_i hk
      have : k = t := Nat.eq_of_beq_eq_true hk
      simp at h; subst this; subst h; simp
    · exact List.mem_cons_of_mem _ (ih h)

def del {α : Type} (t : Nat) (l : List (Nat × α)) : List (Nat × α) := l.filter fun e => !(Nat.beq e.1 t)
theorem mem_del {α : Type} {t k : Nat} {v : α} {l : List (Nat × α)} : (k, v) ∈ del t l ↔ (k, v) ∈ l ∧ k ≠ t := by
  simp only [del, List.mem_filter]
  refine and_congr_right fun _ => ?_
  cases h : Nat.beq k t with
  | true => simp [Nat.eq_of_beq_eq_true h]
  | false => simp [Nat.ne_of_beq_eq_false h]

def St.put (st : St) (d : Nat) (x : PV) : St := { st with fr := (d, x) :: del d st.fr }

structure Env where
  w0 : World
  F0 : Nat → Prop
  B0 : Nat → Prop
  g0 : Nat → Value
  N : List Nat
  nt : Nat

structure HpR (F : Nat → Prop) (g : Nat → Value) (w : World) (B : Nat → Prop) (H : Hp) : Prop where
  obj : ∀ o x, (o, x) ∈ H → ObjR F g w o x
  own : ∀ o x b, (o, x) ∈ H → blk (g o) = some b → ¬ F b ∧ B b
  sep : ∀ o x o' y b, (o, x) ∈ H → (o', y) ∈ H → o ≠ o' → blk (g o) = some b → blk (g o') = some b → False

structure ExtB (B : Nat → Prop) (w0 w : World) : Prop where
  os : w.os = w0.os
  tape : w.tape = w0.tape
  output : w.output = w0.output
  size : w0.heap.size ≤ w.heap.size
  block : ∀ b, b < w0.heap.size → ¬ B b → w.heap[b]? = w0.heap[b]?

/-- the world's part of what a state says -/
structure RelW (E : Env) (F : Nat → Prop) (g : Nat → Value) (H : Hp) (w : World) : Prop where
  hp : HpR F g w (fun b => E.B0 b ∨ E.w0.heap.size ≤ b) H
  f0 : ∀ b, E.F0 b → F b
  f1 : ∀ b, F b → b < w.heap.size ∧ (E.F0 b ∨ E.B0 b ∨ E.w0.heap.size ≤ b)
  ext : ExtB E.B0 E.w0 w
  names : ∀ o, o ∈ E.N → g o = E.g0 o
  b0 : ∀ b, E.B0 b → b < E.w0.heap.size

structure RelG (E : Env) (F : Nat → Prop) (g : Nat → Value) (st : St) (a : Act) (w : World) : Prop where
  nt : a.tmps.size = E.nt
  df : a.defers = []
  fr : ∀ t x, (t, x) ∈ st.fr → VR F g w x (a.tmps.getD t undef)
  w : RelW E F g st.hp w

def Rel (E : Env) (st : St) (a : Act) (w : World) : Prop := ∃ F g, RelG E F g st a w

theorem ObjR.block {F : Nat → Prop} {g : Nat → Value} {w : World} {o : Nat} {x : PObj} (h : ObjR F g w o x) {b : Nat} (hb : blk (g o) = some b) : b < w.heap.size := by
  cases x with
  | box l =>
    obtain ⟨b', vs, ty, h1, h2, _⟩ := h
    rw [h1] at hb; simp [blk] at hb; subst hb
    exact (Array.getElem?_eq_some_iff.1 h2).1
  | arr e s n f =>
    rcases h with ⟨h1, _⟩ | ⟨b', cap, cur, h1, h2, _⟩
    · rw [h1] at hb; simp [blk] at hb
    · rw [h1] at hb; simp [blk] at hb; subst hb
      exact (Array.getElem?_eq_some_iff.1 h2).1
  | mpb n m =>
    obtain ⟨b', es, cl, h1, h2, _⟩ := h
    rw [h1] at hb; simp [blk] at hb; subst hb
    exact (Array.getElem?_eq_some_iff.1 h2).1

theorem ObjR.mono {F F' : Nat → Prop} {g g' : Nat → Value} {w w' : World} (h : ∀ b, F b → F' b ∧ w'.heap[b]? = w.heap[b]?) {o : Nat} {x : PObj} (r : ObjR F g w o x)
    (ho : g' o = g o) (hg : ∀ o, o ∈ x.names → g' o = g o) (hb : ∀ b, blk (g o) = some b → w'.heap[b]? = w.heap[b]?) : ObjR F' g' w' o x := by
  cases x with
  | box l =>
    obtain ⟨b, vs, ty, h1, h2, h3, h4⟩ := r
    refine ⟨b, vs, ty, by rw [ho]; exact h1, by rw [hb b (by rw [h1]; rfl)]; exact h2, h3, fun j x v hx hv => (h4 j x v hx hv).mono h fun o' ho' => hg o' ?_⟩
    exact PV.names_go_mem hx ho'
  | arr e s n f =>
    rcases r with ⟨h1, h2⟩ | ⟨b, cap, cur, h1, h2, h3, h4, h5, h6, h7⟩
    · exact .inl ⟨by rw [ho]; exact h1, h2⟩
    · refine .inr ⟨b, cap, cur, by rw [ho]; exact h1, by rw [hb b (by rw [h1]; rfl)]; exact h2, h3, h4, h5, h6, fun i j x hi hx => ?_⟩
      obtain ⟨v, hv, hr⟩ := h7 i j x hi hx
      exact ⟨v, hv, hr.mono h⟩
  | mpb n m =>
    obtain ⟨b, es, cl, h1, h2, h3⟩ := r
    exact ⟨b, es, cl, by rw [ho]; exact h1, by rw [hb b (by rw [h1]; rfl)]; exact h2, h3⟩

theorem Act.put_size (a : Act) (d : Nat) (v : Value) : (a.put (some d) v).tmps.size = a.tmps.size := by simp [Act.put]
theorem Act.put_defers (a : Act) (d : Option Nat) (v : Value) : (a.put d v).defers = a.defers := by cases d <;> rfl
theorem Act.put_same (a : Act) (d : Nat) (v : Value) (h : d < a.tmps.size) : (a.put (some d) v).tmps.getD d undef = v := by
  simp [Act.put, h]
theorem Act.put_other (a : Act) (d t : Nat) (v : Value) (h : t ≠ d) : (a.put (some d) v).tmps.getD t undef = a.tmps.getD t undef := by
  have h' : d ≠ t := fun e => h e.symm
  simp only [Act.put]
  by_cases ht : t < a.tmps.size
  · simp [ht, h']
  · simp [ht]

theorem RelG.put {E : Env} {F : Nat → Prop} {g : Nat → Value} {st : St} {a : Act} {w : World} (r : RelG E F g st a w) {d : Nat} {x : PV} {v : Value} (hd : d < E.nt)
    (h : VR F g w x v) : RelG E F g (st.put d x) (a.put (some d) v) w where
  nt := by rw [Act.put_size]; exact r.nt
  df := r.df
  fr := by
    intro t y hy
    simp only [St.put, List.mem_cons, Prod.mk.injEq] at hy
    rcases hy with ⟨rfl, rfl⟩ | hy
    · rw [Act.put_same _ _ _ (by rw [r.nt]; exact hd)]; exact h
    · obtain ⟨h1, h2⟩ := mem_del.1 hy
      rw [Act.put_other _ _ _ _ h2]; exact r.fr t y h1
  w := r.w

/-- the slots that a change of the world leaves true -/
theorem RelG.putW {E : Env} {F F' : Nat → Prop} {g g' : Nat → Value} {st st' : St} {a : Act} {w w' : World} (r : RelG E F g st a w) {d : Nat} {x : PV} {v : Value} (hd : d < E.nt)
    (hf : ∀ b, F b → F' b ∧ w'.heap[b]? = w.heap[b]?) (hg : ∀ t y, (t, y) ∈ st'.fr → (t, y) ∈ st.fr ∧ ∀ o, o ∈ y.names → g' o = g o) (hw : RelW E F' g' st'.hp w')
    (h : VR F' g' w' x v) : RelG E F' g' (st'.put d x) (a.put (some d) v) w' where
  nt := by rw [Act.put_size]; exact r.nt
  df := r.df
  fr := by
    intro t y hy
    simp only [St.put, List.mem_cons, Prod.mk.injEq] at hy
    rcases hy with ⟨rfl, rfl⟩ | hy
    · rw [Act.put_same _ _ _ (by rw [r.nt]; exact hd)]; exact h
    · obtain ⟨h1, h2⟩ := mem_del.1 hy
      obtain ⟨h3, h4⟩ := hg t y h1
      rw [Act.put_other _ _ _ _ h2]; exact (r.fr t y h3).mono hf h4
  w := hw

theorem ExtB.trans {B : Nat → Prop} {w0 w w' : World} (h : ExtB B w0 w) (h1 : w'.os = w.os) (h2 : w'.tape = w.tape) (h3 : w'.output = w.output) (h4 : w.heap.size ≤ w'.heap.size)
    (h5 : ∀ b, b < w0.heap.size → ¬ B b → w'.heap[b]? = w.heap[b]?) : ExtB B w0 w' :=
  ⟨h1.trans h.os, h2.trans h.tape, h3.trans h.output, Nat.le_trans h.size h4, fun b hb hB => (h5 b hb hB).trans (h.block b hb hB)⟩

def PV.mentions (o : Nat) (x : PV) : Bool := x.names.any fun k => Nat.beq k o
theorem PV.not_mentions {o : Nat} {x : PV} (h : x.mentions o = false) : ∀ k, k ∈ x.names → k ≠ o := by
  intro k hk he
  subst he
  simp only [PV.mentions, List.any_eq_false] at h
  exact h k hk (Nat.beq_refl k)
def PObj.mentions (o : Nat) (x : PObj) : Bool := x.names.any fun k => Nat.beq k o
theorem PObj.not_mentions {o : Nat} {x : PObj} (h : x.mentions o = false) : ∀ k, k ∈ x.names → k ≠ o := by
  intro k hk he
  subst he
  simp only [PObj.mentions, List.any_eq_false] at h
  exact h k hk (Nat.beq_refl k)

/-- a cell that mentions a name is forgotten -/
def PV.er (o : Nat) (x : PV) : Option PV :=
  match x.mentions o with
  | false => some x
  | true => match x with
    | .own _ => some .any
    | .ptr _ _ => some .any
    | .aptr _ _ _ _ => some .any
    | .map _ => some .any
    | .fn _ _ _ => some .any
    | _ => none

def erCells (o : Nat) : List PV → Option (List PV)
  | [] => some []
  | x :: l => match x.er o, erCells o l with
    | some y, some r => some (y :: r)
    | _, _ => none

theorem PV.er_ok {o : Nat} {x y : PV} (h : x.er o = some y) : (∀ k, k ∈ y.names → k ≠ o) ∧ ∀ F g w v, VR F g w x v → VR F g w y v := by
  unfold PV.er at h
  split at h
  · rename_i hm; cases h; exact ⟨PV.not_mentions hm, fun _ _ _ _ h => h⟩
  · split at h <;> cases h
    all_goals
      refine ⟨by simp [PV.names], fun F g w v hv => ?_⟩
      cases hv <;> exact .any rfl

theorem erCells_ok {o : Nat} : ∀ {l r : List PV}, erCells o l = some r → r.length = l.length ∧ (∀ k, k ∈ PV.names.go r → k ≠ o) ∧
    ∀ (j : Nat) y, r[j]? = some y → ∃ x, l[j]? = some x ∧ ∀ F g w v, VR F g w x v → VR F g w y v
  | [], r, h => by simp [erCells] at h; subst h; simp [PV.names.go]
  | x :: l, r, h => by
    simp only [erCells] at h
    split at h
    · rename_i y r' hy hr
      cases h
      obtain ⟨h1, h2, h3⟩ := erCells_ok hr
      obtain ⟨h4, h5⟩ := PV.er_ok hy
      refine ⟨by simp [h1], fun k hk => ?_, fun j z hz => ?_⟩
      · simp only [PV.names.go, List.mem_append] at hk
        rcases hk with hk | hk
        · exact h4 k hk
        · exact h2 k hk
      · cases j with
        | zero => simp at hz; subst hz; exact ⟨x, by simp, h5⟩
        | succ j => simpa using h3 j z (by simpa using hz)
    · cases h

def PObj.er (o : Nat) : PObj → Option PObj
  | .box l => match erCells o l with | some r => some (.box r) | none => none
  | .arr e s n f => some (.arr e s n f)
  | .mpb n m => some (.mpb n m)

theorem PObj.er_ok {o : Nat} {x y : PObj} (h : x.er o = some y) : (∀ k, k ∈ y.names → k ≠ o) ∧ ∀ F g w t, ObjR F g w t x → ObjR F g w t y := by
  cases x with
  | box l =>
    simp only [PObj.er] at h
    split at h
    · rename_i r hr
      cases h
      obtain ⟨h1, h2, h3⟩ := erCells_ok hr
      refine ⟨h2, fun F g w t ⟨b, vs, ty, e1, e2, e3, e4⟩ => ⟨b, vs, ty, e1, e2, by omega, fun j y v hy hv => ?_⟩⟩
      obtain ⟨x, hx, hxy⟩ := h3 j y hy
      exact hxy _ _ _ _ (e4 j x v hx hv)
    · cases h
  | arr e s n f =>
    simp only [PObj.er] at h; cases h
    exact ⟨by simp [PObj.names], fun _ _ _ _ h => h⟩
  | mpb n m =>
    simp only [PObj.er] at h; cases h
    exact ⟨by simp [PObj.names], fun _ _ _ _ h => h⟩

def erHp (o : Nat) : Hp → Option Hp
  | [] => some []
  | (k, x) :: l => match Nat.beq k o with
    | true => erHp o l
    | false => match x.er o, erHp o l with
      | some y, some r => some ((k, y) :: r)
      | _, _ => none

/-- forget all that mentions a name -/
def St.erase (o : Nat) (st : St) : Option St :=
  match erHp o st.hp with
  | none => none
  | some h => some { fr := st.fr.filter (fun e => !(e.2.mentions o)), hp := h }

theorem St.erase_fr {o : Nat} {st st' : St} (h : st.erase o = some st') : (∀ t x, (t, x) ∈ st'.fr → (t, x) ∈ st.fr ∧ ∀ k, k ∈ x.names → k ≠ o) := by
  unfold St.erase at h
  split at h
  · cases h
  · simp at h; subst h
    intro t x hx
    simp only [List.mem_filter] at hx
    exact ⟨hx.1, PV.not_mentions (by simpa using hx.2)⟩

theorem erHp_ok {o : Nat} : ∀ {l r : Hp}, erHp o l = some r → ∀ t y, (t, y) ∈ r → ∃ x, (t, x) ∈ l ∧ t ≠ o ∧ (∀ k, k ∈ y.names → k ≠ o) ∧ ∀ F g w, ObjR F g w t x → ObjR F g w t y
  | [], r, h, t, y, hy => by simp [erHp] at h; subst h; simp at hy
  | (k, x) :: l, r, h, t, y, hy => by
    simp only [erHp] at h
    split at h
    · obtain ⟨x', h1, h2⟩ := erHp_ok h t y hy
      exact ⟨x', List.mem_cons_of_mem _ h1, h2⟩
    · rename_i hk
      split at h
      · rename_i y' r' hy' hr
        cases h
        rcases List.mem_cons.1 hy with e | hy
        · cases e
          obtain ⟨h1, h2⟩ := PObj.er_ok hy'
          exact ⟨x, by simp, Nat.ne_of_beq_eq_false hk, h1, fun F g w => h2 F g w _⟩
        · obtain ⟨x', h1, h2⟩ := erHp_ok hr t y hy
          exact ⟨x', List.mem_cons_of_mem _ h1, h2⟩
      · cases h

theorem St.erase_hp {o : Nat} {st st' : St} (h : st.erase o = some st') : ∀ t y, (t, y) ∈ st'.hp → ∃ x, (t, x) ∈ st.hp ∧ t ≠ o ∧ (∀ k, k ∈ y.names → k ≠ o) ∧ ∀ F g w, ObjR F g w t x → ObjR F g w t y := by
  unfold St.erase at h
  split at h
  · cases h
  · rename_i hr
    simp at h; subst h
    exact erHp_ok hr

def upd (g : Nat → Value) (o : Nat) (v : Value) : Nat → Value := fun k => if k = o then v else g k
theorem upd_same (g : Nat → Value) (o : Nat) (v : Value) : upd g o v o = v := by simp [upd]
theorem upd_other (g : Nat → Value) {o k : Nat} (v : Value) (h : k ≠ o) : upd g o v k = g k := by simp [upd, h]

theorem VR.cells_t {F : Nat → Prop} {g : Nat → Value} {w : World} {x : PV} {v : Value} (h : VR F g w x v) {y : T} (e : x = .t y) : Rd F w y v := by
  subst e; cases h with | t h => exact h

/-- What a change of the world under one name must keep. -/
theorem HpR.change {F F' : Nat → Prop} {g g' : Nat → Value} {st st' : St} {w w' : World} {d : Nat} {x : PObj} {B : Nat → Prop} (r : HpR F g w B st.hp) (he : st.erase d = some st')
    (hg : ∀ o, o ≠ d → g' o = g o) (hF : ∀ b, F b → F' b ∧ w'.heap[b]? = w.heap[b]?) (hF' : ∀ b, F' b → F b)
    (hw : ∀ o y b, (o, y) ∈ st.hp → o ≠ d → blk (g o) = some b → w'.heap[b]? = w.heap[b]?) (hx : ObjR F' g' w' d x)
    (hown : ∀ b, blk (g' d) = some b → ¬ F' b ∧ B b) (hsep : ∀ o y b, (o, y) ∈ st.hp → o ≠ d → blk (g o) = some b → blk (g' d) = some b → False) :
    HpR F' g' w' B ((d, x) :: st'.hp) where
  obj := by
    intro o y ho
    rcases List.mem_cons.1 ho with e | ho
    · cases e; exact hx
    · obtain ⟨y', h1, h2, h3, h4⟩ := St.erase_hp he o y ho
      exact (h4 _ _ _ (r.obj o y' h1)).mono hF (hg o h2) (fun k hk => hg k (h3 k hk)) (fun b hb => hw o y' b h1 h2 hb)
  own := by
    intro o y b ho hb
    rcases List.mem_cons.1 ho with e | ho
    · cases e; exact hown b hb
    · obtain ⟨y', h1, h2, h3, h4⟩ := St.erase_hp he o y ho
      rw [hg o h2] at hb
      exact ⟨fun h => (r.own o y' b h1 hb).1 (hF' b h), (r.own o y' b h1 hb).2⟩
  sep := by
    intro o y o' y' b ho ho' hne hb hb'
    rcases List.mem_cons.1 ho with e | ho
    · cases e
      rcases List.mem_cons.1 ho' with e' | ho'
      · cases e'; exact hne rfl
      · obtain ⟨z, h1, h2, h3, h4⟩ := St.erase_hp he o' y' ho'
        rw [hg o' h2] at hb'
        exact hsep o' z b h1 h2 hb' hb
    · obtain ⟨z, h1, h2, h3, h4⟩ := St.erase_hp he o y ho
      rw [hg o h2] at hb
      rcases List.mem_cons.1 ho' with e' | ho'
      · cases e'; exact hsep o z b h1 h2 hb hb'
      · obtain ⟨z', h1', h2', h3', h4'⟩ := St.erase_hp he o' y' ho'
        rw [hg o' h2'] at hb'
        exact r.sep o z o' z' b h1 h1' hne hb hb'

/-- A NEW BLOCK, under a name: all that mentions the name is forgotten first. -/
theorem RelG.alloc {E : Env} {F : Nat → Prop} {g : Nat → Value} {st st' : St} {a : Act} {w w' : World} (r : RelG E F g st a w) {d : Nat} {x : PObj} {v : Value} {ob : Obj} (hd : d < E.nt)
    (hn : d ∉ E.N) (he : st.erase d = some st') (hv : blk v = some w.heap.size) (hw : w'.heap = w.heap.push ob) (hos : w'.os = w.os) (htp : w'.tape = w.tape) (hout : w'.output = w.output)
    (hx : ∀ g', (∀ o, o ≠ d → g' o = g o) → g' d = v → ObjR F g' w' d x) (p : PV) (hp : ∀ g', g' d = v → VR F g' w' p v) :
    ∃ g', RelG E F g' ({ st' with hp := (d, x) :: st'.hp }.put d p) (a.put (some d) v) w' := by
  have hsz : w'.heap.size = w.heap.size + 1 := by rw [hw]; simp
  have hold : ∀ b, b < w.heap.size → w'.heap[b]? = w.heap[b]? := by
    intro b hb
    rw [hw, Array.getElem?_push, if_neg (Nat.ne_of_lt hb)]
  have hF : ∀ b, F b → F b ∧ w'.heap[b]? = w.heap[b]? := fun b hb => ⟨hb, hold b (r.w.f1 b hb).1⟩
  refine ⟨upd g d v, r.putW hd hF (fun t y hy => ?_) ?_ (hp _ (upd_same ..))⟩
  · obtain ⟨h1, h2⟩ := St.erase_fr he t y hy
    exact ⟨h1, fun o ho => upd_other g v (h2 o ho)⟩
  · refine ⟨HpR.change r.w.hp he (fun o ho => upd_other g v ho) hF (fun _ h => h) (fun o y b ho _ hb => hold b ((r.w.hp.obj o y ho).block hb)) (hx _ (fun o ho => upd_other g v ho) (upd_same ..))
      (fun b hb => ?_) (fun o y b ho _ hb hb' => ?_), r.w.f0, fun b hb => ⟨by have := (r.w.f1 b hb).1; omega, (r.w.f1 b hb).2⟩,
      r.w.ext.trans hos htp hout (by omega) (fun b hb _ => hold b (by have := r.w.ext.size; omega)), fun o ho => ?_, r.w.b0⟩
    · rw [upd_same, hv] at hb
      simp at hb; subst hb
      exact ⟨fun hF' => by have := (r.w.f1 _ hF').1; omega, .inr r.w.ext.size⟩
    · rw [upd_same, hv] at hb'
      simp at hb'; subst hb'
      have := (r.w.hp.obj o y ho).block hb
      omega
    · rw [upd_other g v (fun e : o = d => hn (e ▸ ho))]
      exact r.w.names o ho

end Go.PL
