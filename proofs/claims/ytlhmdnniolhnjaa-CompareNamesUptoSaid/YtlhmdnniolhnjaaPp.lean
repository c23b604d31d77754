/-
  Small lemmas for the printed proofs. Own work.
-/
import Derived.Test.YtlhmdnniolhnjaaPo
namespace Go.PL
open Go

/-- a list as a datum -/
def eL {α : Type} [Inhabited α] (c : α → List T) (xs : List α) : T := .sl xs.length fun i => c (xs.getD i default)
def eF {α : Type} [Inhabited α] (c : α → List T) (xs : List α) : Nat → List T := fun i => c (xs.getD i default)
def cInt (x : Int) : List T := [.int .i64 x]
def cU8 (x : Int) : List T := [.int .u8 x]
def cBool (x : Bool) : List T := [.bool x]
def cStr (x : ByteArray) : List T := [.str x]

instance : Inhabited ByteArray := ⟨ByteArray.empty⟩

theorem ite_t {b : Bool} {α : Type} {A B : Option α} {y : α} (hb : b = true) (h : (if b = true then A else B) = some y) : A = some y := by rwa [if_pos hb] at h
theorem ite_f {b : Bool} {α : Type} {A B : Option α} {y : α} (hb : b = false) (h : (if b = true then A else B) = some y) : B = some y := by rwa [if_neg (by rw [hb]; simp)] at h
theorem ite_p {p : Prop} [Decidable p] {α : Type} {A B : Option α} {y : α} (hp : p) (h : (if p then A else B) = some y) : A = some y := by rwa [if_pos hp] at h
theorem ite_n {p : Prop} [Decidable p] {α : Type} {A B : Option α} {y : α} (hp : ¬ p) (h : (if p then A else B) = some y) : B = some y := by rwa [if_neg hp] at h
theorem grd {p : Prop} [Decidable p] {α : Type} {A : Option α} {y : α} (h : (if p then A else none) = some y) : p ∧ A = some y := by
  by_cases hp : p
  · rw [if_pos hp] at h; exact ⟨hp, h⟩
  · rw [if_neg hp] at h; cases h
theorem bnd {α β : Type} {x : Option α} {f : α → Option β} {y : β} (h : x.bind f = some y) : ∃ z, x = some z ∧ f z = some y := by
  cases x with
  | none => cases h
  | some z => exact ⟨z, rfl, h⟩

/-- the type table, checked -/
def undOf : TypeDesc → U
  | .int k => .int k
  | .bool => .bool
  | .string => .str
  | .slice e => .sl e
  | .struct fs => .st (fs.toList.map fun f => (f.offset, f.type))
  | .array n e => .arr n e
  | .map k e => .mp k e
  | .pointer e => .ptr e
  | _ => .other

def zOf (z : Option Value) : Option (List (Option PV)) := match z with | some z => some (z.cells.toList.map constPV) | none => none
def chkF (P : Program) (n : Nat) : Nat → List Field → Bool
  | k, [] => Nat.beq k n
  | k, f :: fs => f.name != "_" && Nat.beq f.offset k && (match P.underlying f.type with | some (.int _) => true | _ => false) && chkF P n (k + 1) fs
def eqChk (P : Program) (t : TypeId) (n : Nat) : Bool :=
  match n with
  | 0 => true
  | n => match P.underlying t with
    | some (.struct fs) => !P.stoodInHeld t && !P.eqGuardType P.depth t && chkF P n 0 fs.toList
    | some (.array m e) => Nat.beq m n && !P.eqGuardType P.depth t && (match P.underlying e with | some (.int _) => true | _ => false) && Nat.beq (P.cellsOf e) 1
    | _ => false
theorem chkF_ok {P : Program} {n d : Nat} : ∀ {fs : List Field} {k : Nat}, chkF P n k fs = true → ∀ (xs ys : List Int) (w : World), xs.length = n → ys.length = n →
    (Op.eqFields (d + 1) (xs.map (Value.int .i64)).toArray (ys.map (Value.int .i64)).toArray fs).run P w = .ok (xs.drop k == ys.drop k) w
  | [], k, h, xs, ys, w, hx, hy => by
    simp only [chkF] at h
    have := Nat.eq_of_beq_eq_true h
    simp [Op.eqFields, List.drop_of_length_le (show xs.length ≤ k by omega), List.drop_of_length_le (show ys.length ≤ k by omega)]
  | f :: fs, k, h, xs, ys, w, hx, hy => by
    simp only [chkF, Bool.and_eq_true, bne_iff_ne] at h
    obtain ⟨⟨⟨h1, h2⟩, h3⟩, h4⟩ := h
    have h2 := Nat.eq_of_beq_eq_true h2
    split at h3
    · rename_i kk hu
      have hk : k < n := by
        rcases Nat.lt_or_ge k n with hlt | hge
        · exact hlt
        · exfalso
          have : ∀ (fs : List Field) (j : Nat), chkF P n j fs = true → j ≤ n := by
            intro fs
            induction fs with
            | nil => intro j hj; exact Nat.le_of_eq (Nat.eq_of_beq_eq_true hj)
            | cons f fs ih => intro j hj; simp only [chkF, Bool.and_eq_true] at hj; have := ih _ hj.2; omega
          have := this _ _ h4; omega
      have hpart : ∀ zs : List Int, zs.length = n → (part f.type (zs.map (Value.int .i64)).toArray f.offset).run P w = .ok (.int .i64 (zs.getD k 0)) w := by
        intro zs hz
        simp [part, isAgg, run_underlying hu, h2, List.getElem?_map, show zs[k]? = some zs[k] from List.getElem?_eq_getElem (by omega), List.getD_eq_getElem?_getD]
      simp only [Op.eqFields, if_pos h1, Sem.run_bind, hpart xs hx, hpart ys hy, Result.andThen_ok, run_equalIn_int w d f.type _ kk _ _ hu]
      have ex : xs.drop k = xs.getD k 0 :: xs.drop (k + 1) := by rw [List.drop_eq_getElem_cons (by omega)]; simp [List.getD_eq_getElem?_getD, show k < xs.length by omega]
      have ey : ys.drop k = ys.getD k 0 :: ys.drop (k + 1) := by rw [List.drop_eq_getElem_cons (by omega)]; simp [List.getD_eq_getElem?_getD, show k < ys.length by omega]
      rw [ex, ey, List.cons_beq_cons]
      cases hb : xs.getD k 0 == ys.getD k 0
      · simp
      · simp [chkF_ok h4 xs ys w hx hy]
    · cases h3
theorem run_part_ints {P : Program} {t : TypeId} {k : IntKind} (hu : P.underlying t = some (.int k)) (zs : List Int) (j : Nat) (hj : j < zs.length) (w : World) :
    (part t (zs.map (Value.int .i64)).toArray j).run P w = .ok (.int .i64 (zs.getD j 0)) w := by
  simp [part, isAgg, run_underlying hu, List.getElem?_map, show zs[j]? = some zs[j] from List.getElem?_eq_getElem hj, List.getD_eq_getElem?_getD]
theorem eqItems_ok {P : Program} {e : TypeId} {k : IntKind} (hu : P.underlying e = some (.int k)) {d n : Nat} (xs ys : List Int) (w : World) (hx : xs.length = n) (hy : ys.length = n) : ∀ is : List Nat, (∀ i, i ∈ is → i < n) →
    (Op.eqItems (d + 1) e 1 (xs.map (Value.int .i64)).toArray (ys.map (Value.int .i64)).toArray is).run P w = .ok (is.all fun i => xs.getD i 0 == ys.getD i 0) w
  | [], _ => by simp [Op.eqItems]
  | i :: is, h => by
    have hi := h i (by simp)
    simp only [Op.eqItems, Nat.mul_one, Sem.run_bind, run_part_ints hu xs i (by omega), run_part_ints hu ys i (by omega), Result.andThen_ok, run_equalIn_int w d e _ k _ _ hu]
    cases hb : xs.getD i 0 == ys.getD i 0
    · simp only [Bool.not_false, if_true, Sem.run_pure, List.all_cons, hb, Bool.false_and]
    · simp only [Bool.not_true, Bool.false_eq_true, if_false, List.all_cons, hb, Bool.true_and]
      exact eqItems_ok hu xs ys w hx hy is (fun j hj => h j (List.mem_cons_of_mem _ hj))
theorem all_eq {n : Nat} (xs ys : List Int) (hx : xs.length = n) (hy : ys.length = n) : ((List.range n).all fun i => xs.getD i 0 == ys.getD i 0) = (xs == ys) := by
  rw [Bool.eq_iff_iff]
  simp only [List.all_eq_true, List.mem_range, beq_iff_eq]
  constructor
  · intro h
    apply List.ext_getElem (by omega)
    intro i h1 h2
    have := h i (by omega)
    simpa [List.getD_eq_getElem?_getD, h1, h2] using this
  · rintro rfl i _; rfl
theorem run_forIn_unit {P : Program} {w : World} {α : Type} (f : α → PUnit → Sem (ForInStep PUnit)) : ∀ l : List α, (∀ x, x ∈ l → ∀ u, (f x u).run P w = .ok (.yield ⟨⟩) w) → (forIn l (⟨⟩ : PUnit) f).run P w = .ok ⟨⟩ w
  | [], _ => by simp
  | x :: l, h => by
    rw [List.forIn_cons, Sem.run_bind, h x (by simp)]
    simp only [Result.andThen_ok]
    exact run_forIn_unit f l (fun y hy => h y (List.mem_cons_of_mem _ hy))
def zbChk (P : Program) (t : TypeId) (u : U) : Bool :=
  match u with
  | .bool => match P.info? t with
    | some info => match info.zero with
      | some (.bool false) => true
      | _ => false
    | none => false
  | _ => true
theorem zb_of {P : Program} {t : TypeId} {u : U} (h : zbChk P t u = true) : u = .bool → ∃ info, P.info? t = some info ∧ info.zero = some (.bool false) := by
  rintro rfl
  unfold zbChk at h
  simp only at h
  split at h
  · rename_i info hi
    split at h
    · rename_i hz; exact ⟨info, hi, hz⟩
    · cases h
  · cases h
theorem keyok_of {P : Program} {t : TypeId} {i : TInf} (h : eqChk P t i.eqn = true) (hu : UR P t i.und) : KeyOk P t i := by
  intro m e hm hn em xs w hx
  rw [hm] at hu
  simp only [UR] at hu
  unfold eqChk at h
  split at h
  · rename_i h0; exact absurd h0 hn
  · rw [hu] at h
    simp only [Bool.and_eq_true] at h
    obtain ⟨⟨⟨h1, _⟩, h3⟩, h4⟩ := h
    have h1 := Nat.eq_of_beq_eq_true h1
    have h4 := Nat.eq_of_beq_eq_true h4
    split at h3
    · rename_i k hk
      obtain ⟨info, hi⟩ := info_of_underlying hk
      rw [show (10000 : Nat) = 9998 + 1 + 1 from rfl]
      generalize 9998 = dd
      rw [intsV, Instr.checkKey]
      simp only [Sem.run_bind, run_underlying hu, Result.andThen_ok]
      simp only [Std.Legacy.Range.forIn_eq_forIn_range', Std.Legacy.Range.size, Nat.sub_zero, Nat.add_one_sub_one, Nat.div_one]
      rw [run_forIn_unit _ (List.range' 0 m)]
      · simp
      intro j hj u
      have hj' : j < xs.length := by simp [List.mem_range'] at hj; omega
      simp only [Sem.run_bind, Go.run_sizeOf w hi, Result.andThen_ok, h4, Nat.mul_one, run_part_ints hk xs j hj']
      simp [Instr.checkKey, run_underlying hk]
    · cases h3

theorem eqok_of {P : Program} {t : TypeId} {n : Nat} (h : eqChk P t n = true) : EqOk P t n := by
  intro hn
  unfold eqChk at h
  split at h
  · exact absurd rfl hn
  · split at h
    · rename_i fs hu
      simp only [Bool.and_eq_true, Bool.not_eq_true'] at h
      refine ⟨h.1.2, fun xs ys w hx hy => ?_⟩
      have hf : P.fieldsOf t = fs := by simp [Program.fieldsOf, hu]
      rw [show (10000 : Nat) = 9999 + 1 from rfl, run_equalIn_agg w 9999 t _ _ (by rw [hf]; exact hu) h.1.1, hf]
      rw [show (9999 : Nat) = 9998 + 1 from rfl, chkF_ok h.2 xs ys w hx hy]
      simp
    · rename_i m e hu
      simp only [Bool.and_eq_true, Bool.not_eq_true'] at h
      obtain ⟨⟨⟨h1, h2⟩, h3⟩, h4⟩ := h
      have h1 := Nat.eq_of_beq_eq_true h1
      have h4 := Nat.eq_of_beq_eq_true h4
      refine ⟨h2, fun xs ys w hx hy => ?_⟩
      split at h3
      · rename_i k hk
        obtain ⟨info, hi⟩ := info_of_underlying hk
        rw [show (10000 : Nat) = 9999 + 1 from rfl, run_equalIn_array w 9999 _ _ hu hi, h4, show (9999 : Nat) = 9998 + 1 from rfl, h1, eqItems_ok hk xs ys w hx hy _ (fun i hi => List.mem_range.1 hi), all_eq xs ys hx hy]
      · cases h3
    · cases h

theorem tok_of {P : Program} {t : TypeId} {i : TInf} (h1 : (P.info? t).map (fun x => (x.size, x.bytes, zOf x.zero)) = some (i.size, i.bytes, some (i.zero.map some)))
    (h2 : (P.underlying t).map undOf = some i.und) (h34 : (eqChk P t i.eqn && zbChk P t i.und) = true) : TOk P t i where
  zb := zb_of (by simp only [Bool.and_eq_true] at h34; exact h34.2)
  eqv := eqok_of (by simp only [Bool.and_eq_true] at h34; exact h34.1)
  keyv := keyok_of (by simp only [Bool.and_eq_true] at h34; exact h34.1) (by
    cases hu : P.underlying t with
    | none => rw [hu] at h2; cases h2
    | some d =>
      rw [hu] at h2
      simp only [Option.map_some, Option.some.injEq] at h2
      rw [← h2]
      cases d <;> first | exact hu | exact ⟨_, hu, rfl⟩)
  info := by
    cases hi : P.info? t with
    | none => rw [hi] at h1; cases h1
    | some info =>
      rw [hi] at h1
      simp only [Option.map_some, Option.some.injEq, Prod.mk.injEq] at h1
      obtain ⟨a, b, c⟩ := h1
      unfold zOf at c
      split at c
      · rename_i z hz; exact ⟨info, rfl, a, b, z, hz, by injection c⟩
      · cases c
  und := by
    cases hu : P.underlying t with
    | none => rw [hu] at h2; cases h2
    | some d =>
      rw [hu] at h2
      simp only [Option.map_some, Option.some.injEq] at h2
      rw [← h2]
      cases d <;> first | exact hu | exact ⟨_, hu, rfl⟩

theorem tiok_nil {P : Program} : ∀ e, e ∈ ([] : List (Nat × TInf)) → TOk P e.1 e.2 := by simp
theorem tiok_cons {P : Program} {t : Nat} {i : TInf} {l : List (Nat × TInf)} (h : TOk P t i) (hl : ∀ e, e ∈ l → TOk P e.1 e.2) : ∀ e, e ∈ (t, i) :: l → TOk P e.1 e.2 := by
  intro e he
  rcases List.mem_cons.1 he with rfl | he
  · exact h
  · exact hl e he
theorem tiok_of {P : Program} {l : List (Nat × TInf)} (h : ∀ e, e ∈ l → TOk P e.1 e.2) : TIok P (look l) := fun t i hi => h (t, i) (look_mem hi)

theorem callable_of {P : Program} {k : FuncId} {fn : Func} (h : P.funcs[k]? = some fn) (h2 : (fn.body.isNone, fn.name == "runtime.NumGoroutine") = (false, false)) : Callable P k :=
  ⟨fn, h, congrArg Prod.fst h2, congrArg Prod.snd h2⟩

/-! ### posts -/
def Ret (x : PV) : PV → Hp → Prop := fun r _ => r = x
theorem ret_at {I : Inf} {rs : List ResultVar} {x : PV} {st : St} (h : resP I rs st = some x) : finQ I rs (Ret x) .ret st := ⟨.inr rfl, x, [], [], h, rfl, rfl⟩
section
variable {P : Program} {E : Env} {I : Inf} {Q : Post} {st : St}
/-- it falls through, and only so -/
def Fall (E : Env) (st1 : St) : Post := fun e s => e = .normal ∧ Le E s st1
theorem fall {st1 s : St} (h : Le E s st1) : Fall E st1 .normal s := ⟨rfl, h⟩
/-- a piece whose ways meet again -/
theorem pwp_join {A : Code} {st1 : St} (h1 : pwp P E A (Fall E st1) st) (h2 : Q .normal st1) : pwp P E A Q st := by
  intro a w r
  refine wp_mono (h1 a w r) fun e a' w' ⟨s, ⟨he, hle⟩, hr⟩ => ?_
  subst he
  exact ⟨st1, h2, hle _ _ hr⟩
/-- the same, where some ways leave: x says which -/
def Piece {S Y : Type} (E : Env) (tm : S → St) (Out : Y → Post) (x : S ⊕ Y) : Post := fun e s =>
  match x with
  | .inl v => e = .normal ∧ Le E s (tm v)
  | .inr y => Out y e s
theorem piece_in {S Y : Type} {tm : S → St} {Out : Y → Post} {v : S} {s : St} (h : Le E s (tm v)) : Piece E tm Out (.inl v) .normal s := ⟨rfl, h⟩
theorem piece_out {S Y : Type} {tm : S → St} {Out : Y → Post} {y : Y} {e : Exit} {s : St} (h : Out y e s) : Piece E tm Out (.inr y) e s := h
theorem pwp_piece {A : Code} {S Y : Type} {tm : S → St} {Out : Y → Post} {x : S ⊕ Y} (h1 : pwp P E A (Piece E tm Out x) st) (h2 : ∀ v, x = .inl v → Q .normal (tm v)) (h3 : ∀ y e s, x = .inr y → Out y e s → ∃ t, Le E s t ∧ Q e t) :
    pwp P E A Q st := by
  intro a w r
  refine wp_mono (h1 a w r) fun e a' w' ⟨s, hs, hr⟩ => ?_
  cases x with
  | inl v => obtain ⟨rfl, hle⟩ := hs; exact ⟨tm v, h2 v rfl, hle _ _ hr⟩
  | inr y => obtain ⟨t, ht, hq⟩ := h3 y e s rfl hs; exact ⟨t, hq, ht _ _ hr⟩
end

/-! ### the same datum, said otherwise -/
theorem le_nil {x : T} {f : Nat → List T} (h : x.view = some (0, f)) : ∀ F g w v, VR F g w .nil v → VR F g w (.t x) v := by
  intro F g w v hv; cases hv; exact .t (.nil h)

theorem le_sl {n n' : Nat} {f f' : Nat → List T} {x : T} (hx : x.view = some (n', f')) (hn : n' = n) (hf : ∀ i, i < n → f i = f' i) :
    ∀ F g w v, VR F g w (.t (.sl n f)) v → VR F g w (.t x) v := by
  intro F g w v hv
  subst hn
  cases hv with
  | t r =>
    cases r with
    | nil h =>
      have : n' = 0 := by simp [T.view] at h; exact h.1
      subst this
      exact .t (.nil hx)
    | sl a cap size vs h hc hF hs hc' hr =>
      simp only [T.view, Option.some.injEq, Prod.mk.injEq] at h
      obtain ⟨rfl, rfl⟩ := h
      exact .t (.sl a cap size vs hx hc hF (fun i hi => by rw [← hf i hi]; exact hs i hi) hc' fun i j y hi hy => hr i j y hi (by rw [hf i hi]; exact hy))

theorem le_slice {α : Type} [Inhabited α] {c : α → List T} {xs : List α} {l h : Int} {x : T} (hc : 0 ≤ l ∧ l ≤ h ∧ h ≤ (xs.length : Int))
    (hx : x.view = some (((xs.drop l.toNat).take (h - l).toNat).length, eF c ((xs.drop l.toNat).take (h - l).toNat))) :
    ∀ F g w v, VR F g w (.t (.sl (h - l).toNat fun k => eF c xs (l.toNat + k))) v → VR F g w (.t x) v := by
  refine le_sl hx (by simp; omega) fun i hi => ?_
  simp only [eF, List.getD_eq_getElem?_getD, List.getElem?_take, List.getElem?_drop, if_pos hi]

inductive CellsR : List PV → List T → Prop
  | nil : CellsR [] []
  | same {x : T} {l : List PV} {r : List T} (h : CellsR l r) : CellsR (.t x :: l) (x :: r)
  | empty {x : T} {f : Nat → List T} {l : List PV} {r : List T} (hx : x.view = some (0, f)) (h : CellsR l r) : CellsR (.nil :: l) (x :: r)
  | imp {p : PV} {x : T} {l : List PV} {r : List T} (hp : ∀ F g w v, VR F g w p v → VR F g w (.t x) v) (h : CellsR l r) : CellsR (p :: l) (x :: r)

theorem CellsR.get {l : List PV} {r : List T} (h : CellsR l r) : r.length = l.length ∧ ∀ (j : Nat) p x, l[j]? = some p → r[j]? = some x → ∀ F g w v, VR F g w p v → VR F g w (.t x) v := by
  induction h with
  | nil => simp
  | same _ ih =>
    refine ⟨by simp [ih.1], fun j p x hp hx => ?_⟩
    cases j with
    | zero => simp at hp hx; subst hp; subst hx; exact fun _ _ _ _ h => h
    | succ j => exact ih.2 j p x (by simpa using hp) (by simpa using hx)
  | empty hv _ ih =>
    refine ⟨by simp [ih.1], fun j p x hp hx => ?_⟩
    cases j with
    | zero => simp at hp hx; subst hp; subst hx; exact le_nil hv
    | succ j => exact ih.2 j p x (by simpa using hp) (by simpa using hx)
  | imp hv _ ih =>
    refine ⟨by simp [ih.1], fun j p x hp hx => ?_⟩
    cases j with
    | zero => simp at hp hx; subst hp; subst hx; exact hv
    | succ j => exact ih.2 j p x (by simpa using hp) (by simpa using hx)

theorem le_agg {l : List PV} {r : List T} (h : CellsR l r) : ∀ F g w v, VR F g w (.agg l) v → VR F g w (.t (.agg r)) v := by
  intro F g w v hv
  cases hv with
  | @agg _ vs hs hr =>
    refine .t (.agg (by rw [hs, h.get.1]) fun j x u hx hu => ?_)
    have hj : j < l.length := by rw [← h.get.1]; exact (List.getElem?_eq_some_iff.1 hx).1
    exact (h.get.2 j l[j] x (by simp [hj]) hx _ _ _ _ (hr j l[j] u (by simp [hj]) hu)).cells_t rfl

theorem le_box {F : Nat → Prop} {g : Nat → Value} {w : World} {o : Nat} {l : List PV} {r : List T} (h : CellsR l r) (hb : ObjR F g w o (.box l)) : ObjR F g w o (.box (r.map PV.t)) := by
  obtain ⟨b, vs, ty, h1, h2, h3, h4⟩ := hb
  refine ⟨b, vs, ty, h1, h2, by simp [h3, h.get.1], fun j x v hx hv => ?_⟩
  simp only [List.getElem?_map, Option.map_eq_some_iff] at hx
  obtain ⟨y, hy, rfl⟩ := hx
  have hj : j < l.length := by rw [← h.get.1]; exact (List.getElem?_eq_some_iff.1 hy).1
  exact h.get.2 j l[j] y (by simp [hj]) hy _ _ _ _ (h4 j l[j] v (by simp [hj]) hv)

/-! ### rows -/
theorem row_snoc {α : Type} [Inhabited α] (c : α → List T) (xs : List α) (y : α) (f : Nat → List T) (hf : f 0 = c y) : ∀ i, i < xs.length + 1 → appF xs.length (eF c xs) f i = eF c (xs ++ [y]) i := by
  intro i hi
  unfold appF eF
  split
  · rename_i h; simp [List.getD_eq_getElem?_getD, List.getElem?_append_left h]
  · have : i = xs.length := by omega
    subst this
    simp [hf]
theorem row_app {α : Type} [Inhabited α] (c : α → List T) (xs ys : List α) : ∀ i, i < xs.length + ys.length → appF xs.length (eF c xs) (eF c ys) i = eF c (xs ++ ys) i := by
  intro i hi
  unfold appF eF
  split
  · rename_i h; simp [List.getD_eq_getElem?_getD, List.getElem?_append_left h]
  · rename_i h; simp [List.getD_eq_getElem?_getD, List.getElem?_append_right (Nat.le_of_not_lt h)]
theorem row_one {α : Type} [Inhabited α] (c : α → List T) (y : α) (f : Nat → List T) (hf : f 0 = c y) : ∀ i, i < 1 → f i = eF c [y] i := by
  intro i hi
  have : i = 0 := by omega
  subst this; simp [eF, hf]
theorem row_zero {α : Type} [Inhabited α] (c : α → List T) (f : Nat → List T) : ∀ i, i < 0 → f i = eF c ([] : List α) i := fun _ h => absurd h (by omega)

theorem row_app_of {α : Type} [Inhabited α] (c : α → List T) (xs ys : List α) {n m : Nat} {f1 f2 : Nat → List T} (hn : n = xs.length) (hm : m = ys.length)
    (h1 : ∀ i, i < n → f1 i = eF c xs i) (h2 : ∀ i, i < m → f2 i = eF c ys i) : ∀ i, i < n + m → appF n f1 f2 i = eF c (xs ++ ys) i := by
  subst hn hm
  intro i hi
  have := row_app c xs ys i hi
  unfold appF at this ⊢
  split
  · rename_i hlt; rw [if_pos hlt] at this; rw [h1 _ hlt]; exact this
  · rename_i hlt; rw [if_neg hlt] at this; rw [h2 _ (by omega)]; exact this

theorem row_set {α : Type} [Inhabited α] (c : α → List T) (xs : List α) (k : Nat) (y : α) {off : Nat} {cs : List T} (hk : k < xs.length) (h : setAt (c (xs.getD k default)) off cs = c y) :
    ∀ i, i < xs.length → updF (eF c xs) k (setAt (eF c xs k) off cs) i = eF c (xs.set k y) i := by
  intro i hi
  unfold updF
  split
  · rename_i e; subst e
    simp only [eF] at h ⊢
    rw [h]; simp [List.getD_eq_getElem?_getD, hk]
  · rename_i e
    simp only [eF, List.getD_eq_getElem?_getD, List.getElem?_set, if_neg (fun (h : k = i) => e h.symm)]

theorem ok_one {s : Nat} {f : Nat → List T} (h : okCells s (f 0) = true) : ∀ i, i < 1 → okCells s (f i) = true := by
  intro i hi
  have : i = 0 := by omega
  subst this; exact h
theorem ok_eF {α : Type} [Inhabited α] {s m : Nat} {c : α → List T} {ys : List α} (h : ∀ y, okCells s (c y) = true) : ∀ i, i < m → okCells s (eF c ys i) = true := fun i _ => h _

section
variable {P : Program} {E : Env} {I : Inf} {Q : Post} {st : St}
/-- a bool of a slot, either way -/
theorem pops_bool {ops l : List Oper} {t : Nat} {b : Bool} (hl : look st.fr t = some (.t (.bool b))) (h1 : b = true → pops P E ops Q l { st with fr := (t, .t (.bool true)) :: del t st.fr })
    (h0 : b = false → pops P E ops Q l { st with fr := (t, .t (.bool false)) :: del t st.fr }) : pops P E ops Q l st := by
  cases hb : b with
  | true => subst hb; exact pops_weak (fun _ _ => Rel.slot hl (fun _ _ _ _ h => h)) (h1 rfl)
  | false => subst hb; exact pops_weak (fun _ _ => Rel.slot hl (fun _ _ _ _ h => h)) (h0 rfl)
theorem le_n {n : Nat} {l : List PV} (h : Nat.ble l.length n = true) : l.length ≤ n := Nat.le_of_ble_eq_true h
/-- one region that ends a piece -/
theorem pops_end {ops : List Oper} {l : List Oper} (hl : l = []) (h : Q .normal st) : pops P E ops Q l st := by subst hl; exact pops_nil h
end

end Go.PL
