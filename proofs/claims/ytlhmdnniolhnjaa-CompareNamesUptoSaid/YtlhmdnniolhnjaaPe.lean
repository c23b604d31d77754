/-
  Soundness of the value operations. Own work.
-/
import Derived.Test.YtlhmdnniolhnjaaPd
namespace Go.PL
open Go

section
variable {P : Program} {E : Env} {F : Nat → Prop} {g : Nat → Value} {st : St} {a : Act} {w : World}

theorem Rd.inv_int {k : IntKind} {n : Int} {v : Value} (h : Rd F w (.int k n) v) : v = .int k n := by
  cases h with
  | int => rfl
  | nil h => simp [T.view] at h
  | sl _ _ _ _ h => simp [T.view] at h
theorem Rd.inv_bool {n : Bool} {v : Value} (h : Rd F w (.bool n) v) : v = .bool n := by
  cases h with
  | bool => rfl
  | nil h => simp [T.view] at h
  | sl _ _ _ _ h => simp [T.view] at h
theorem Rd.inv_str {n : ByteArray} {v : Value} (h : Rd F w (.str n) v) : v = .string n := by
  cases h with
  | str => rfl
  | nil h => simp [T.view] at h
  | sl _ _ _ _ h => simp [T.view] at h
theorem VR.inv_int {k : IntKind} {n : Int} {v : Value} (h : VR F g w (.t (.int k n)) v) : v = .int k n := (h.cells_t rfl).inv_int
theorem VR.inv_bool {n : Bool} {v : Value} (h : VR F g w (.t (.bool n)) v) : v = .bool n := (h.cells_t rfl).inv_bool
theorem VR.inv_str {n : ByteArray} {v : Value} (h : VR F g w (.t (.str n)) v) : v = .string n := (h.cells_t rfl).inv_str

theorem run_equal_bool {t : TypeId} (ht : P.underlying t = some .bool) (x y : Bool) : (Op.equal t (.bool x) (.bool y)).run P w = .ok (x == y) w := by
  have : ∀ d, (Op.equalIn (d + 1) t (.bool x) (.bool y)).run P w = .ok (x == y) w := by
    intro d; unfold Op.equalIn; simp [run_underlying ht]
  exact this 9999

theorem tr_some {x : Option PV} {p : PV} {C : Prop} (h : tr x = some (p, C)) : x = some p := by
  unfold tr at h; split at h <;> cases h
  rfl

theorem intOp_ok {op : BinOp} {k : IntKind} {x y : Int} {p : PV} {C : Prop} (h : intOp op k x y = some (p, C)) (hC : C) (F : Nat → Prop) (g : Nat → Value) (t : TypeId) :
    ∃ v, (binOp op t (.int k x) (.int k y)).run P w = .ok v w ∧ VR F g w p v := by
  unfold intOp at h
  split at h <;> cases h
  case h_4 => exact ⟨_, by simp only [binOp, Op.intDiv, ne_eq, not_true_eq_false, if_false]; rw [if_neg hC]; rfl, .t (.int _ _)⟩
  case h_5 => exact ⟨_, by simp only [binOp, Op.intDiv, ne_eq, not_true_eq_false, if_false]; rw [if_neg hC]; rfl, .t (.int _ _)⟩
  case h_1 => exact ⟨_, by simp [binOp, Op.intArith], .t (.int _ _)⟩
  case h_2 => exact ⟨_, by simp [binOp, Op.intArith], .t (.int _ _)⟩
  case h_3 => exact ⟨_, by simp [binOp, Op.intArith], .t (.int _ _)⟩
  all_goals exact ⟨_, by simp [binOp, Op.intCmp], .t (.bool _)⟩

theorem strOp_ok {op : BinOp} {x y : ByteArray} {p : PV} {C : Prop} (h : strOp op x y = some (p, C)) (hC : C) (F : Nat → Prop) (g : Nat → Value) (t : TypeId) :
    ∃ v, (binOp op t (.string x) (.string y)).run P w = .ok v w ∧ VR F g w p v := by
  unfold strOp at h
  split at h <;> cases h
  · refine ⟨.string (x ++ y), ?_, .t (.str _)⟩
    have hm : IntKind.i64.max = 9223372036854775807 := by decide
    have : ¬ ((x.size + y.size : Nat) : Int) > IntKind.i64.max := by rw [hm]; omega
    simp only [binOp, Op.stringOp]
    rw [if_neg this]; rfl
  all_goals
    exact ⟨_, by simp [binOp, Op.stringOp], .t (.bool _)⟩

theorem boolOp_ok {op : BinOp} {x y : Bool} {p : PV} {C : Prop} (h : boolOp op x y = some (p, C)) (F : Nat → Prop) (g : Nat → Value) (t : TypeId) (ht : P.underlying t = some .bool) :
    ∃ v, (binOp op t (.bool x) (.bool y)).run P w = .ok v w ∧ VR F g w p v := by
  unfold boolOp at h
  split at h <;> cases h
  all_goals
    exact ⟨_, by simp [binOp, run_equal_bool ht], .t (.bool _)⟩

theorem intsOf_rd : ∀ {l : List T} {xs : List Int}, intsOf l = some xs → l.length = xs.length ∧ ∀ (j : Nat) x, l[j]? = some x → ∃ k, xs[j]? = some k ∧ x = T.int .i64 k
  | [], xs, h => by simp [intsOf] at h; subst h; simp
  | .int .i64 x :: l, xs, h => by
    simp only [intsOf] at h
    split at h
    · rename_i r hr
      cases h
      obtain ⟨h1, h2⟩ := intsOf_rd hr
      refine ⟨by simp [h1], fun j y hy => ?_⟩
      cases j with
      | zero => simp at hy; subst hy; exact ⟨x, by simp, rfl⟩
      | succ j => obtain ⟨k, h3, h4⟩ := h2 j y (by simpa using hy); exact ⟨k, by simpa using h3, h4⟩
    · cases h
  | .int .i8 _ :: _, _, h | .int .i16 _ :: _, _, h | .int .i32 _ :: _, _, h | .int .u8 _ :: _, _, h | .int .u16 _ :: _, _, h | .int .u32 _ :: _, _, h | .int .u64 _ :: _, _, h
  | .bool _ :: _, _, h | .str _ :: _, _, h | .sl _ _ :: _, _, h | .agg _ :: _, _, h | .lz _ :: _, _, h => by simp [intsOf] at h
theorem intsOf_val {l : List T} {xs : List Int} (h : intsOf l = some xs) {v : Value} (hv : Rd F w (.agg l) v) : v = .agg (xs.map (Value.int .i64)).toArray := by
  obtain ⟨h1, h2⟩ := intsOf_rd h
  cases hv with
  | nil h => simp [T.view] at h
  | sl _ _ _ _ h => simp [T.view] at h
  | @agg _ vs hs hr =>
    congr 1
    apply Array.ext
    · simp [hs, h1]
    · intro j hj1 hj2
      have hl : j < l.length := by omega
      obtain ⟨k, h3, h4⟩ := h2 j l[j] (by simp [hl])
      have := hr j _ vs[j] (List.getElem?_eq_getElem hl) (by simp [hj1])
      rw [h4] at this
      rw [this.inv_int]
      have : xs[j] = k := by rw [List.getElem?_eq_some_iff] at h3; exact h3.2
      simp [this]

theorem binP_ok {op : BinOp} {t : TypeId} {i : TInf} (hi : TOk P t i) {p q x : PV} {C : Prop} (h : binP i op p q = some (x, C)) (hC : C) {u v : Value} (hu : VR F g w p u) (hv : VR F g w q v)
    (xo yo : Operand) : ∃ z, (do eqGuard op t xo yo u v; binOp op t u v : Sem Value).run P w = .ok z w ∧ VR F g w x z := by
  unfold binP at h
  split at h
  · rename_i k a k' b
    have hk : k = k' := by
      by_cases hk : k = k'
      · exact hk
      · rw [if_neg hk] at h; cases h
    subst hk
    rw [if_pos rfl] at h
    obtain rfl := hu.inv_int; obtain rfl := hv.inv_int
    obtain ⟨z, hz, hr⟩ := intOp_ok (P := P) (w := w) h hC F g t
    refine ⟨z, ?_, hr⟩
    have : (eqGuard op t xo yo (.int k a) (.int k b)).run P w = .ok () w := by unfold eqGuard; cases op <;> simp
    simp [this, hz]
  · obtain rfl := hu.inv_str; obtain rfl := hv.inv_str
    rename_i a b
    obtain ⟨z, hz, hr⟩ := strOp_ok (P := P) (w := w) h hC F g t
    refine ⟨z, ?_, hr⟩
    have : (eqGuard op t xo yo (.string a) (.string b)).run P w = .ok () w := by unfold eqGuard; cases op <;> simp
    simp [this, hz]
  · rename_i l r
    unfold aggOp at h
    split at h
    · rename_i xs ys hxs hys
      split at h
      · rename_i hl1 hl2 hn
        have hl1 := Nat.eq_of_beq_eq_true hl1
        have hl2 := Nat.eq_of_beq_eq_true hl2
        have hn := Nat.le_of_ble_eq_true hn
        obtain ⟨hg, he⟩ := hi.eqv (by omega)
        have e1 := intsOf_val hxs (hu.cells_t rfl)
        have e2 := intsOf_val hys (hv.cells_t rfl)
        subst e1 e2
        have hee := he xs ys w hl1 hl2
        split at h
        · cases h
          exact ⟨.bool (xs == ys), by simp [run_eqGuard_agg w _ _ _ _ _ _ hg, run_eql_struct, hee], .t (.bool _)⟩
        · cases h
          exact ⟨.bool (!(xs == ys)), by simp [run_eqGuard_agg w _ _ _ _ _ _ hg, run_neq_struct, hee], .t (.bool _)⟩
        · cases h
      · cases h
    · cases h
  · obtain rfl := hu.inv_bool; obtain rfl := hv.inv_bool
    rename_i a b
    split at h
    · rename_i hb
      have ht := hi.und; rw [hb] at ht
      obtain ⟨z, hz, hr⟩ := boolOp_ok (P := P) (w := w) h F g t ht
      refine ⟨z, ?_, hr⟩
      have : (eqGuard op t xo yo (.bool a) (.bool b)).run P w = .ok () w := by unfold eqGuard; cases op <;> simp
      simp [this, hz]
    · cases h
  · cases h

theorem unP_ok {op : UnOp} {p x : PV} {C : Prop} (h : unP op p = some (x, C)) {u : Value} (hu : VR F g w p u) : ∃ z, (Op.unary op u).run P w = .ok z w ∧ VR F g w x z := by
  unfold unP at h
  split at h <;> cases h
  · obtain rfl := hu.inv_bool
    exact ⟨_, by simp [Op.unary], .t (.bool _)⟩
  · obtain rfl := hu.inv_int
    exact ⟨_, by simp [Op.unary, Op.intArith], .t (.int _ _)⟩

/-- a slice's value reads its length -/
theorem Rd.slice_len {x : T} {v : Value} (h : Rd F w x v) {n : Nat} {f : Nat → List T} (hx : x.view = some (n, f)) : ∃ ad cap, v = .slice ad n cap := by
  cases h with
  | int => simp [T.view] at hx
  | bool => simp [T.view] at hx
  | str => simp [T.view] at hx
  | agg => simp [T.view] at hx
  | nil h => rw [hx] at h; simp at h; exact ⟨none, 0, by rw [h.1]⟩
  | sl ad cap size vs h => rw [hx] at h; simp at h; exact ⟨some ad, cap, by rw [h.1]⟩

theorem lenP_ok (r : RelG E F g st a w) {t : TypeId} {i : TInf} (hi : TOk P t i) {p x : PV} (h : lenP st i.und p = some x) {u : Value} (hu : VR F g w p u) (ty : TypeId) :
    ∃ z, (Builtin.len_ #[t] ty #[u]).run P w = .ok z w ∧ VR F g w x z := by
  have hd := hi.und
  unfold lenP at h
  split at h
  · rename_i he; rw [he] at hd
    simp at h; subst h
    obtain rfl := hu.inv_str
    exact ⟨_, by simp [Builtin.len_, run_underlying hd, goInt], .t (.int _ _)⟩
  · rename_i he; rw [he] at hd
    simp at h; subst h
    cases hu
    exact ⟨_, by simp [Builtin.len_, run_underlying hd, goInt], .t (.int _ _)⟩
  · rename_i he; rw [he] at hd
    split at h
    · rename_i hl
      simp at h; subst h
      have ho := r.w.hp.obj _ _ (look_mem hl)
      cases hu with
      | own hg =>
        rcases ho with ⟨h1, h2⟩ | ⟨b, cap, cur, h1, _⟩
        · rw [hg] at h1; injection h1 with h1 h3 h4; subst h3; subst h2
          exact ⟨_, by simp [Builtin.len_, run_underlying hd, goInt], .t (.int _ _)⟩
        · rw [hg] at h1; injection h1 with h1 h3 h4; subst h3
          exact ⟨_, by simp [Builtin.len_, run_underlying hd, goInt], .t (.int _ _)⟩
    · cases h
  · rename_i he; rw [he] at hd
    split at h
    · rename_i hv
      simp at h; subst h
      obtain ⟨ad, cap, rfl⟩ := (hu.cells_t rfl).slice_len hv
      exact ⟨_, by simp [Builtin.len_, run_underlying hd, goInt], .t (.int _ _)⟩
    · cases h
  · cases h

theorem maxP_ok {p q x : PV} (h : maxP p q = some x) {u v : Value} (hu : VR F g w p u) (hv : VR F g w q v) (ts : Array TypeId) (ty : TypeId) :
    ∃ z, (Builtin.max_ ts ty #[u, v]).run P w = .ok z w ∧ VR F g w x z := by
  unfold maxP at h
  split at h <;> simp at h
  subst h
  obtain rfl := hu.inv_int; obtain rfl := hv.inv_int
  exact ⟨_, by simp [Builtin.max_, Builtin.max2], .t (.int _ _)⟩
theorem minP_ok {p q x : PV} (h : minP p q = some x) {u v : Value} (hu : VR F g w p u) (hv : VR F g w q v) (ts : Array TypeId) (ty : TypeId) :
    ∃ z, (Builtin.min_ ts ty #[u, v]).run P w = .ok z w ∧ VR F g w x z := by
  unfold minP at h
  split at h <;> simp at h
  subst h
  obtain rfl := hu.inv_int; obtain rfl := hv.inv_int
  exact ⟨_, by simp [Builtin.min_, Builtin.min2], .t (.int _ _)⟩

theorem loadP_ok (r : RelG E F g st a w) {t : TypeId} {i : TInf} (hi : TOk P t i) {p x : PV} {C : Prop} (h : loadP st i p = some (x, C)) (hC : C) {u : Value} (hu : VR F g w p u) :
    ∃ z, (Instr.loadAt t u).run P w = .ok z w ∧ VR F g w x z := by
  cases p with
  | ptr o off =>
    simp only [loadP] at h
    split at h
    · rename_i l hl
      have ho := r.w.hp.obj _ _ (look_mem hl)
      obtain ⟨b, vs, ty, h1, h2, h3, h4⟩ := ho
      split at h
      · rename_i q hq
        cases h
        cases hu with
        | @ptr _ _ b' hg =>
          rw [h1] at hg; injection hg with hg; injection hg with hg; injection hg with hg; subst hg
          obtain ⟨v, hv, hr⟩ := readAt_ok (g := g) hi hq ⟨b, off, none⟩ (fun j x hx => by
            rw [List.getElem?_drop] at hx
            have hlt : off + j < vs.size := by rw [h3]; exact (List.getElem?_eq_some_iff.1 hx).1
            refine ⟨vs[off + j], ?_, h4 _ _ _ hx (by simp [hlt])⟩
            rw [Addr.add_none]
            simp [World.cell?, h2, hlt])
          exact ⟨v, by simp [Instr.loadAt, Instr.sureAddr, hv], hr⟩
      · cases h
    · cases h
  | eptr l =>
    simp only [loadP] at h
    split at h
    · rename_i q hq
      cases h
      cases hu with
      | eptr ad hF hc =>
        obtain ⟨v, hv, hr⟩ := readAt_ok (g := g) hi hq ad (fun j x hx => by
          simp only [List.getElem?_map, Option.map_eq_some_iff] at hx
          obtain ⟨y, hy, rfl⟩ := hx
          obtain ⟨v, h1, h2⟩ := hc j y hy
          exact ⟨v, h1, .t h2⟩)
        exact ⟨v, by simp [Instr.loadAt, Instr.sureAddr, hv], hr⟩
    · cases h
  | aptr o s k off =>
    simp only [loadP] at h
    split at h
    · rename_i s' n f hl
      have ho := r.w.hp.obj _ _ (look_mem hl)
      split at h
      · rename_i hs
        have hs := Nat.eq_of_beq_eq_true hs
        split at h
        · rename_i q hq
          cases h
          cases hu with
          | @aptr _ _ _ _ b n' cap hg =>
            rcases ho with ⟨h1, h2⟩ | ⟨b', cap', cur, h1, h2, h3, h4, h5, h6, h7⟩
            · rw [h1] at hg; cases hg
            · rw [h1] at hg; injection hg with hg hg2 hg3; injection hg with hg; injection hg with hg
              subst hg
              subst hs
              obtain ⟨v, hv, hr⟩ := readAt_ok (g := g) hi hq ⟨b', k * s' + off, none⟩ (fun j x hx => by
                simp only [List.getElem?_map, Option.map_eq_some_iff, List.getElem?_drop] at hx
                obtain ⟨y, hy, rfl⟩ := hx
                obtain ⟨v, h8, h9⟩ := h7 k (off + j) y hC hy
                refine ⟨v, ?_, .t h9⟩
                rw [Addr.add_none]
                simp only [World.cell?, h2]
                simpa [Nat.add_assoc] using h8)
              exact ⟨v, by simp [Instr.loadAt, Instr.sureAddr, hv], hr⟩
        · cases h
      · cases h
    · cases h
  | _ => simp [loadP] at h

end
end Go.PL
