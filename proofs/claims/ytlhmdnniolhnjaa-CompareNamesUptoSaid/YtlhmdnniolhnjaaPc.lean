/-
  Operations that leave the world alone, evaluated on abstract states; soundness. Own work.
-/
import Derived.Test.YtlhmdnniolhnjaaPb
namespace Go.PL
open Go

inductive U where
  | int (k : IntKind) | bool | str
  | sl (e : Nat) | st (fs : List (Nat × Nat)) | arr (n e : Nat) | mp (k e : Nat) | ptr (e : Nat)
  | other

structure TInf where
  size : Nat
  bytes : Nat
  und : U
  zero : List PV
  eqn : Nat := 0

def U.isAgg : U → Bool | .st _ => true | .arr _ _ => true | _ => false
def UR (P : Program) (t : TypeId) : U → Prop
  | .int k => P.underlying t = some (.int k)
  | .bool => P.underlying t = some .bool
  | .str => P.underlying t = some .string
  | .sl e => P.underlying t = some (.slice e)
  | .st fs => ∃ fields : Array Field, P.underlying t = some (.struct fields) ∧ fields.toList.map (fun f => (f.offset, f.type)) = fs
  | .arr n e => P.underlying t = some (.array n e)
  | .mp k e => P.underlying t = some (.map k e)
  | .ptr e => P.underlying t = some (.pointer e)
  | .other => ∃ d, P.underlying t = some d ∧ (match d with | .struct _ | .array _ _ => true | _ => false) = false

/-- the abstract value of a literal -/
def constPV : Value → Option PV
  | .int k n => some (.t (.int k n))
  | .bool b => some (.t (.bool b))
  | .string s => some (.t (.str s))
  | .slice none 0 0 => some .nil
  | .pointer none => some .np
  | .map none => some (.lit (.map none))
  | .nilFunc => some (.lit .nilFunc)
  | .nilIface => some (.lit .nilIface)
  | _ => none

theorem constPV_ok {v : Value} {p : PV} (h : constPV v = some p) (F : Nat → Prop) (g : Nat → Value) (w : World) : VR F g w p v := by
  unfold constPV at h
  split at h <;> simp at h <;> subst h
  · exact .t (.int _ _)
  · exact .t (.bool _)
  · exact .t (.str _)
  · exact .nil
  · exact .np
  · exact .lit rfl
  · exact .lit rfl
  · exact .lit rfl

/-- two structs of n numbers may be compared -/
def EqOk (P : Program) (t : TypeId) (n : Nat) : Prop := n ≠ 0 → P.eqGuardType P.depth t = false ∧
  ∀ (xs ys : List Int) (w : World), xs.length = n → ys.length = n → (Op.equalIn 10000 t (.agg (xs.map (Value.int .i64)).toArray) (.agg (ys.map (Value.int .i64)).toArray)).run P w = .ok (xs == ys) w

/-- an array of n numbers may be a map's key -/
def KeyOk (P : Program) (t : TypeId) (i : TInf) : Prop := ∀ m e, i.und = .arr m e → i.eqn ≠ 0 → ∀ (em : Bool) (xs : List Int) (w : World), xs.length = i.eqn → (Instr.checkKey em 10000 t (intsV xs)).run P w = .ok () w

structure TOk (P : Program) (t : TypeId) (i : TInf) : Prop where
  info : ∃ info, P.info? t = some info ∧ info.size = i.size ∧ info.bytes = i.bytes ∧ ∃ z, info.zero = some z ∧ z.cells.toList.map constPV = i.zero.map some
  und : UR P t i.und
  eqv : EqOk P t i.eqn
  keyv : KeyOk P t i
  zb : i.und = .bool → ∃ info, P.info? t = some info ∧ info.zero = some (.bool false)

def TIok (P : Program) (ti : Nat → Option TInf) : Prop := ∀ t i, ti t = some i → TOk P t i

structure Inf where
  ti : Nat → Option TInf
  N : List Nat
  nt : Nat

def ev (st : St) : Operand → Option PV
  | .tmp t => look st.fr t
  | .const v => constPV v
  | .func f => some (.fn (.func f) 0 [])
  | .global _ => none

theorem ev_ok {E : Env} {F : Nat → Prop} {g : Nat → Value} {st : St} {a : Act} {w : World} (r : RelG E F g st a w) {x : Operand} {p : PV} (h : ev st x = some p) :
    VR F g w p (a.eval x) := by
  cases x with
  | tmp t => exact r.fr t p (look_mem h)
  | const v => exact constPV_ok h F g w
  | func f => simp [ev] at h; subst h; exact .fn rfl rfl (fun j x v hx => by simp at hx)
  | global _ => simp [ev] at h

def allT : List PV → Option (List T)
  | [] => some []
  | .t x :: l => match allT l with | some r => some (x :: r) | none => none
  | _ :: _ => none

theorem allT_ok {l : List PV} {r : List T} (h : allT l = some r) : l = r.map PV.t := by
  induction l generalizing r with
  | nil => simp [allT] at h; subst h; rfl
  | cons x l ih =>
    unfold allT at h
    split at h
    · rename_i heq; cases heq
    · rename_i y l' heq; cases heq
      cases hl : allT l with
      | none => simp [hl] at h
      | some r' => simp [hl] at h; subst h; simp [ih hl]
    · exact absurd h (by simp)

def aggOf (l : List PV) : PV := match allT l with | some r => .t (.agg r) | none => .agg l

theorem aggOf_ok {F : Nat → Prop} {g : Nat → Value} {w : World} {l : List PV} {vs : Array Value} (hs : vs.size = l.length)
    (h : ∀ (j : Nat) x v, l[j]? = some x → vs[j]? = some v → VR F g w x v) : VR F g w (aggOf l) (.agg vs) := by
  unfold aggOf
  cases hl : allT l with
  | none => exact .agg hs h
  | some r =>
    have e := allT_ok hl
    refine .t (.agg (by rw [hs, e]; simp) fun j x v hx hv => ?_)
    exact (h j (.t x) v (by rw [e]; simp [hx]) hv).cells_t rfl

/-- the cells of a value -/
def PV.cells : PV → List PV
  | .t (.agg l) => l.map PV.t
  | .agg l => l
  | x => [x]

/-- is it the value of one cell, and is that seen? -/
def PV.one : PV → Bool
  | .t (.agg _) => false
  | .agg _ => false
  | .tup _ => false
  | .any => false
  | .lit .nilFunc => true
  | .lit _ => false
  | _ => true

theorem VR.cells {F : Nat → Prop} {g : Nat → Value} {w : World} {x : PV} {v : Value} (h : VR F g w x v) :
    v.cells.size = x.cells.length ∧ ∀ (j : Nat) y u, x.cells[j]? = some y → v.cells[j]? = some u → VR F g w y u := by
  have one : ∀ (x : PV) (v : Value), x.cells = [x] → v.cells = #[v] → VR F g w x v →
      v.cells.size = x.cells.length ∧ ∀ (j : Nat) y u, x.cells[j]? = some y → v.cells[j]? = some u → VR F g w y u := by
    intro x v hx hv h
    rw [hx, hv]
    refine ⟨rfl, fun j y u hy hu => ?_⟩
    cases j with
    | zero => simp at hy hu; subst hy; subst hu; exact h
    | succ j => simp at hy
  cases h with
  | t r =>
    cases r with
    | agg hs hr =>
      refine ⟨by simp [PV.cells, Value.cells, hs], fun j y u hy hu => ?_⟩
      simp only [PV.cells, List.getElem?_map, Option.map_eq_some_iff] at hy
      obtain ⟨z, hz, rfl⟩ := hy
      exact .t (hr j z u hz hu)
    | int k n => exact one _ _ rfl rfl (.t (.int k n))
    | bool b => exact one _ _ rfl rfl (.t (.bool b))
    | str s => exact one _ _ rfl rfl (.t (.str s))
    | nil h => exact one _ _ (by cases ‹T› <;> first | rfl | simp [T.view] at h) rfl (.t (.nil h))
    | sl a cap size vs h hc hF hs hv hr => exact one _ _ (by cases ‹T› <;> first | rfl | simp [T.view] at h) rfl (.t (.sl a cap size vs h hc hF hs hv hr))
  | ptr e => exact one _ _ rfl rfl (.ptr e)
  | eptr a hF e => exact one _ _ rfl rfl (.eptr a hF e)
  | own e => exact one _ _ rfl rfl (.own e)
  | aptr e => exact one _ _ rfl rfl (.aptr e)
  | map e => exact one _ _ rfl rfl (.map e)
  | nil => exact one _ _ rfl rfl .nil
  | np => exact one _ _ rfl rfl .np
  | any h => exact one _ _ rfl h (.any h)
  | lit h => exact one _ _ rfl h (.lit h)
  | fn hn hs hr => exact one _ _ rfl rfl (.fn hn hs hr)
  | tup hs hr => exact one _ _ rfl rfl (.tup hs hr)
  | agg hs hr => exact ⟨by simp [PV.cells, Value.cells, hs], hr⟩

theorem Addr.add_add (a : Addr) (x y : Nat) : (a.add x).add y = a.add (x + y) := by
  unfold Addr.add
  by_cases hx : x = 0
  · subst hx; simp
  · by_cases hy : y = 0
    · subst hy; simp [hx]
    · simp [hx, hy, Nat.add_assoc]
theorem Addr.add_none (b o n : Nat) : (⟨b, o, none⟩ : Addr).add n = ⟨b, o + n, none⟩ := by
  unfold Addr.add; split <;> simp_all

section
variable {P : Program} {w : World}

theorem run_isAgg {t : TypeId} {u : U} (h : UR P t u) : (isAgg t).run P w = .ok u.isAgg w := by
  unfold isAgg
  cases u <;> simp only [UR] at h
  case st fs =>
    obtain ⟨fields, h, _⟩ := h
    rw [Sem.run_bind, run_underlying h w]; simp [U.isAgg]
  case other =>
    obtain ⟨d, h, hd⟩ := h
    rw [Sem.run_bind, run_underlying h w]
    cases d <;> simp_all [U.isAgg]
  all_goals (rw [Sem.run_bind, run_underlying h w]; simp [U.isAgg])

theorem run_sizeOf {t : TypeId} {i : TInf} (h : TOk P t i) : (sizeOf t).run P w = .ok i.size w := by
  obtain ⟨info, h1, h2, _⟩ := h.info
  simp [sizeOf, typeInfo, h1, h2]

theorem run_loadVar_agg {t : TypeId} {i : TInf} (h : TOk P t i) (hu : i.und.isAgg = true) (a : Addr) (vs : List Value) (hl : vs.length = i.size)
    (hc : ∀ (j : Nat) v, vs[j]? = some v → w.cell? (a.add j) = some v) : (loadVar t a).run P w = .ok (.agg vs.toArray) w := by
  unfold loadVar
  have := run_loadCells_list (P := P) w a vs hc
  rw [hl] at this
  simp [run_isAgg h.und, hu, run_sizeOf h, this]

theorem run_loadVar_one {t : TypeId} {i : TInf} (h : TOk P t i) (hu : i.und.isAgg = false) (a : Addr) (v : Value) (hc : w.cell? a = some v) : (loadVar t a).run P w = .ok v w := by
  unfold loadVar
  simp [run_isAgg h.und, hu, load, Sem.run, hc]
end

/-- what a load of i's type reads off a row of cells, from its beginning -/
def readAt (i : TInf) (l : List PV) : Option PV :=
  match i.und.isAgg with
  | true => match Nat.beq (l.take i.size).length i.size with | true => some (aggOf (l.take i.size)) | false => none
  | false => match l with | x :: _ => some x | [] => none

theorem readAt_ok {P : Program} {F : Nat → Prop} {g : Nat → Value} {w : World} {t : TypeId} {i : TInf} (h : TOk P t i) {l : List PV} {p : PV} (hp : readAt i l = some p) (a : Addr)
    (hc : ∀ (j : Nat) x, l[j]? = some x → ∃ v, w.cell? (a.add j) = some v ∧ VR F g w x v) : ∃ v, (loadVar t a).run P w = .ok v w ∧ VR F g w p v := by
  unfold readAt at hp
  split at hp
  · rename_i hu
    split at hp
    · rename_i hl
      have hl := Nat.eq_of_beq_eq_true hl
      simp at hp; subst hp
      have hlen : ∀ j, j < i.size → j < l.length := by intro j hj; simp at hl; omega
      -- the cells
      have : ∃ vs : List Value, vs.length = i.size ∧ ∀ (j : Nat) v, vs[j]? = some v → w.cell? (a.add j) = some v := by
        refine ⟨(List.range i.size).map fun j => (w.cell? (a.add j)).getD undef, by simp, fun j v hv => ?_⟩
        simp only [List.getElem?_map, Option.map_eq_some_iff] at hv
        obtain ⟨k, hk, hv⟩ := hv
        obtain ⟨hk1, hk2⟩ := List.getElem?_eq_some_iff.1 hk
        simp at hk1 hk2
        subst hk2
        have hj := hlen j hk1
        obtain ⟨u, hu', _⟩ := hc j l[j] (by simp [hj])
        rw [hu'] at hv; simp at hv; subst hv; exact hu'
      obtain ⟨vs, hvl, hvc⟩ := this
      refine ⟨_, run_loadVar_agg h hu a vs hvl hvc, aggOf_ok (by simp [hvl]; simpa using hl.symm) fun j x v hx hv => ?_⟩
      have hx' : l[j]? = some x := by
        rw [List.getElem?_take] at hx
        split at hx
        · exact hx
        · cases hx
      obtain ⟨u, hu', hr⟩ := hc j x hx'
      have := hvc j v (by simpa using hv)
      rw [hu'] at this; simp at this; subst this; exact hr
    · cases hp
  · rename_i hu
    split at hp
    · rename_i x l'
      simp at hp; subst hp
      obtain ⟨v, hv, hr⟩ := hc 0 x (by simp)
      refine ⟨v, run_loadVar_one h hu a v ?_, hr⟩
      simpa [Addr.add] using hv
    · cases hp

end Go.PL
