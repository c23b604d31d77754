/-
  buildSlice, store; all operations that make or write memory. Own work.
-/
import Derived.Test.YtlhmdnniolhnjaaPj
namespace Go.PL
open Go

section
variable {P : Program} {E : Env} {F : Nat → Prop} {g : Nat → Value} {st : St} {a : Act} {w : World}

theorem zeroAt_ok {j : TInf} {e : TypeId} (hj : TOk P e j) (n : Nat) (hz : j.zero.length = j.size) (h1 : 1 ≤ j.size) : ∃ info z, P.info? e = some info ∧ info.zero = some z ∧ info.size = j.size ∧ z.cells.size = j.size ∧
    ∀ (F : Nat → Prop) (g : Nat → Value) (w : World) (k : Nat) x v, (zeroAt j n)[k]? = some x → ((Array.range n).map (z.cells[· % z.cells.size]!))[k]? = some v → VR F g w x v := by
  obtain ⟨info, h1, h2, h3, z, h4, h5⟩ := hj.info
  have h6 : z.cells.size = j.zero.length := by simpa using congrArg List.length h5
  refine ⟨info, z, h1, h4, h2, by omega, fun F g w k x v hx hv => ?_⟩
  simp only [zeroAt, List.getElem?_map, Option.map_eq_some_iff] at hx
  obtain ⟨k', hk', hx⟩ := hx
  have hkn : k < n := by have := (List.getElem?_eq_some_iff.1 hk').1; simpa using this
  have hk'' : k' = k := by simp [hkn] at hk'; exact hk'.symm
  subst hk''
  simp [hkn] at hv
  rw [h6] at hv
  have hpos : 0 < j.zero.length := by omega
  have hlt : k' % j.zero.length < j.zero.length := Nat.mod_lt _ hpos
  have := congrArg (·[k' % j.zero.length]?) h5
  have hlt' : k' % j.zero.length < z.cells.size := by omega
  simp only [List.getElem?_map, Array.getElem?_toList] at this
  rw [Array.getElem?_eq_getElem hlt', List.getElem?_eq_getElem hlt] at this
  simp only [Option.map_some, Option.some.injEq] at this
  rw [List.getD_eq_getElem?_getD, List.getElem?_eq_getElem hlt, Option.getD_some] at hx
  rw [getElem!_pos z.cells _ hlt'] at hv
  subst hx; subst hv
  exact constPV_ok this F g w

theorem fill_one {places : Nat → Option (Nat × Nat)} : ∀ (ps : List (Nat × PV)) (cs out : List PV), fillP places cs ps = some out → out.length = cs.length
  | [], cs, out, h => by simp [fillP] at h; subst h; rfl
  | (i, x) :: ps, cs, out, h => by
    simp only [fillP] at h
    split at h
    · cases h
    · split at h
      · rename_i off size _ h1 h2 h3
        have h1 := Nat.eq_of_beq_eq_true h1
        have h2 := Nat.le_of_ble_eq_true h2
        rw [fill_one ps _ out h]
        simp only [List.length_append, List.length_take, List.length_drop]
        omega
      · cases h

theorem arrOf_get {ts : List T} {s i j : Nat} (hj : j < s) : (arrOf ts s i)[j]? = ts[i * s + j]? := by
  simp only [arrOf, List.getElem?_take, if_pos hj, List.getElem?_drop]

theorem arrOf_len {ts : List T} {s n i : Nat} (hl : ts.length = n * s) (hi : i < n) : (arrOf ts s i).length = s := by
  simp only [arrOf, List.length_take, List.length_drop, hl]
  have : (i + 1) * s ≤ n * s := Nat.mul_le_mul_right _ hi
  rw [Nat.add_mul, Nat.one_mul] at this
  omega

theorem buildSlice_ok {I : Inf} (hn : E.N = I.N) (hnt : E.nt = I.nt) (r : RelG E F g st a w) {t e : TypeId} {j : TInf} (hd : P.underlying t = some (.slice e)) (hj : TOk P e j) {d len : Nat}
    {parts : Array (Nat × Operand)} {ps : List (Nat × PV)} (hps : evParts st parts.toList = some ps) (h1 : len * j.size ≤ 16777216) (h2 : 1 ≤ j.size) (hz : j.zero.length = j.size) {c : List PV}
    (hc : fillP (fun i => some (i * j.size, j.size)) (zeroAt j (len * j.size)) ps = some c) {ts : List T} (hts : allT c = some ts) (hcl : c.length = len * j.size) {st' : St}
    (h : newP I st d (.arr e j.size len (arrOf ts j.size)) (.own d) = some st') :
    ∃ u w', (Instr.buildSlice t len (parts.map fun (i, x) => (i, a.eval x))).run P w = .ok u w' ∧ Rel E st' (a.put (some d) u) w' := by
  obtain ⟨info, z, hi1, hi2, hi3, hi4, hi5⟩ := zeroAt_ok hj (len * j.size) hz h2
  obtain ⟨hl, hp⟩ := evParts_ok r _ _ hps
  obtain ⟨oc, ho1, ho2, ho3⟩ := fill_ok (F := F) (g := g) (w := w) ps (parts.toList.map fun (i, x) => (i, a.eval x)) (zeroAt j (len * j.size)) ((Array.range (len * j.size)).map (z.cells[· % z.cells.size]!)) c
    (by simp [hl]) hp (by simp [zeroAt]) (hi5 F g w) hc
  have hce := allT_ok hts
  have htl : ts.length = len * j.size := by rw [← hcl, hce]; simp
  have hsz : (sizeOf e).run P w = .ok j.size w := run_sizeOf hj
  refine ⟨.slice (some ⟨w.heap.size, 0, none⟩) len len, w.alloc (.cells oc e), ?_, newP_ok hn hnt r h rfl rfl rfl rfl rfl (fun g' _ hv => ?_) (fun g' hv => .own hv)⟩
  · have : (parts.map fun (i, x) => (i, a.eval x)).toList = parts.toList.map fun (i, x) => (i, a.eval x) := by simp
    rw [← this] at ho1
    unfold Instr.buildSlice
    rw [Sem.run_bind, run_underlying hd]
    simp only [Result.andThen_ok]
    rw [Sem.run_bind, hsz]
    simp only [Result.andThen_ok]
    rw [if_neg (by omega)]
    by_cases h0 : len * j.size = 0
    · rw [if_pos h0]
      have hr0 : ∀ f : Nat → Value, (Array.range 0).map f = #[] := fun f => Array.eq_empty_of_size_eq_zero (by simp)
      rw [h0, hr0] at ho1
      rw [h0]
      simp only [Sem.run_bind, Sem.run_pure, Result.andThen_ok, hr0]
      rw [ho1]
      simp [newRow]
    · rw [if_neg h0]
      simp only [Sem.run_bind, Sem.run_pure, Result.andThen_ok, run_zeroValue hi1 hi2]
      rw [ho1]
      simp [newRow]
  · refine RowR.obj (cur := oc) ⟨fun i hi => arrOf_len htl hi, fun i k x hi hx => ?_⟩ hv (heap_alloc_new w _) (Nat.le_refl _) ?_ (by rw [ho2, hcl])
    · have hk : k < j.size := by rw [← arrOf_len htl hi]; exact (List.getElem?_eq_some_iff.1 hx).1
      rw [arrOf_get hk] at hx
      have hlt : i * j.size + k < oc.size := by rw [ho2, hce]; simp; exact (List.getElem?_eq_some_iff.1 hx).1
      refine ⟨oc[i * j.size + k], by simp [hlt], ?_⟩
      have := ho3 (i * j.size + k) (.t x) oc[i * j.size + k] (by rw [hce]; simp [hx]) (by simp [hlt])
      exact (this.cells_t rfl).mono fun b hb => ⟨hb, heap_alloc_old w _ (r.w.f1 b hb).1⟩
    · have : len ≤ len * j.size := Nat.le_mul_of_pos_right _ h2
      simp only [maxLen]; omega

theorem setRow_F {b : Nat} {cs : Array Value} (hb : ¬ F b) : ∀ k, F k → F k ∧ (w.setRow b cs).heap[k]? = w.heap[k]? :=
  fun k hk => ⟨hk, setRow_other w b k _ (fun e => hb (e ▸ hk))⟩

/-- an object of ours is written; its block stays -/
theorem RelG.write (r : RelG E F g st a w) {o b : Nat} {x y : PObj} (hl : (o, x) ∈ st.hp) (hb : blk (g o) = some b) {cs : Array Value} {ob : Obj} (hob : w.heap[b]? = some ob)
    (hy : ObjR F g (w.setRow b cs) o y) : RelG E F g { st with hp := (o, y) :: del o st.hp } a (w.setRow b cs) := by
  have hFb := (r.w.hp.own o x b hl hb).1
  have hBb := (r.w.hp.own o x b hl hb).2
  have hF := setRow_F (F := F) (w := w) (cs := cs) hFb
  have hoth : ∀ k, k ≠ b → (w.setRow b cs).heap[k]? = w.heap[k]? := fun k hk => setRow_other w b k _ hk
  refine ⟨r.nt, r.df, fun t z hz => (r.fr t z hz).mono hF (fun _ _ => rfl), ⟨⟨?_, ?_, ?_⟩, r.w.f0, fun k hk => ⟨by simpa using (r.w.f1 k hk).1, (r.w.f1 k hk).2⟩,
    r.w.ext.trans rfl rfl rfl (by simp) (fun k hk hB => hoth k (fun e => ?_)), r.w.names, r.w.b0⟩⟩
  · intro o' z hz
    rcases List.mem_cons.1 hz with e | hz
    · cases e; exact hy
    · obtain ⟨h1, h2⟩ := mem_del.1 hz
      refine (r.w.hp.obj o' z h1).mono hF rfl (fun _ _ => rfl) (fun b' hb' => hoth b' (fun e => ?_))
      subst e
      exact r.w.hp.sep o' z o x b' h1 hl h2 hb' hb
  · intro o' z b' hz hb'
    rcases List.mem_cons.1 hz with e | hz
    · cases e; exact r.w.hp.own o x b' hl hb'
    · exact r.w.hp.own o' z b' (mem_del.1 hz).1 hb'
  · intro o' z o'' z' b' hz hz' hne hb1 hb2
    have key : ∀ k u, (k, u) ∈ (o, y) :: del o st.hp → ∃ u', (k, u') ∈ st.hp := by
      intro k u hk
      rcases List.mem_cons.1 hk with e | hk
      · cases e; exact ⟨x, hl⟩
      · exact ⟨u, (mem_del.1 hk).1⟩
    obtain ⟨u, hu⟩ := key o' z hz
    obtain ⟨u', hu'⟩ := key o'' z' hz'
    exact r.w.hp.sep o' u o'' u' b' hu hu' hne hb1 hb2
  · subst e
    rcases hBb with h | h
    · exact hB h
    · omega

theorem RelG.writeO (r : RelG E F g st a w) {o b : Nat} {x y : PObj} (hl : (o, x) ∈ st.hp) (hb : blk (g o) = some b) {w' : World} {ob : Obj} (hob : w.heap[b]? = some ob) (hoth : ∀ k, k ≠ b → w'.heap[k]? = w.heap[k]?) (hsz : w'.heap.size = w.heap.size) (hos : w'.os = w.os) (htp : w'.tape = w.tape) (hout : w'.output = w.output)
    (hy : ObjR F g w' o y) : RelG E F g { st with hp := (o, y) :: del o st.hp } a w' := by
  have hFb := (r.w.hp.own o x b hl hb).1
  have hBb := (r.w.hp.own o x b hl hb).2
  have hF : ∀ k, F k → F k ∧ w'.heap[k]? = w.heap[k]? := fun k hk => ⟨hk, hoth k (fun e => hFb (e ▸ hk))⟩
  refine ⟨r.nt, r.df, fun t z hz => (r.fr t z hz).mono hF (fun _ _ => rfl), ⟨⟨?_, ?_, ?_⟩, r.w.f0, fun k hk => ⟨by rw [hsz]; exact (r.w.f1 k hk).1, (r.w.f1 k hk).2⟩,
    r.w.ext.trans hos htp hout (Nat.le_of_eq hsz.symm) (fun k hk hB => hoth k (fun e => ?_)), r.w.names, r.w.b0⟩⟩
  · intro o' z hz
    rcases List.mem_cons.1 hz with e | hz
    · cases e; exact hy
    · obtain ⟨h1, h2⟩ := mem_del.1 hz
      refine (r.w.hp.obj o' z h1).mono hF rfl (fun _ _ => rfl) (fun b' hb' => hoth b' (fun e => ?_))
      subst e
      exact r.w.hp.sep o' z o x b' h1 hl h2 hb' hb
  · intro o' z b' hz hb'
    rcases List.mem_cons.1 hz with e | hz
    · cases e; exact r.w.hp.own o x b' hl hb'
    · exact r.w.hp.own o' z b' (mem_del.1 hz).1 hb'
  · intro o' z o'' z' b' hz hz' hne hb1 hb2
    have key : ∀ k u, (k, u) ∈ (o, y) :: del o st.hp → ∃ u', (k, u') ∈ st.hp := by
      intro k u hk
      rcases List.mem_cons.1 hk with e | hk
      · cases e; exact ⟨x, hl⟩
      · exact ⟨u, (mem_del.1 hk).1⟩
    obtain ⟨u, hu⟩ := key o' z hz
    obtain ⟨u', hu'⟩ := key o'' z' hz'
    exact r.w.hp.sep o' u o'' u' b' hu hu' hne hb1 hb2
  · subst e
    rcases hBb with h | h
    · exact hB h
    · omega

theorem mfind_some {ks : List Int} : ∀ {m : List (List Int × Bool)} {i j : Nat} {b : Bool}, mfind m ks i = some (j, b) → ∃ t, j = i + t ∧ ∃ x, m[t]? = some x ∧ x.1 = ks
  | [], i, j, b, h => by simp [mfind] at h
  | e :: m, i, j, b, h => by
    simp only [mfind] at h
    split at h
    · rename_i he; cases h; exact ⟨0, by simp, e, by simp, (eq_of_beq he).symm⟩
    · obtain ⟨t, h1, x, h2, h3⟩ := mfind_some h
      exact ⟨t + 1, by omega, x, by simpa using h2, h3⟩

theorem sameBits_ints (n : Nat) (ks : List Int) : Instr.sameBits (n + 1) (intsV ks) (intsV ks) = true := by
  have : ∀ l : List Int, ((l.map (Value.int .i64)).zip (l.map (Value.int .i64))).all (fun x => Instr.sameBits n x.1 x.2) = true := by
    intro l
    induction l with
    | nil => rfl
    | cons x l ih => simp only [List.map_cons, List.zip_cons_cons, List.all_cons, ih, Bool.and_true]; cases n <;> simp [Instr.sameBits]
  simp only [intsV, Instr.sameBits, Bool.and_eq_true, beq_self_eq_true, true_and]
  exact this ks

theorem heap_setO {w : World} {r : Nat} {o o' : Obj} (hb : w.heap[r]? = some o) : (w.heap.setIfInBounds r o')[r]? = some o' ∧ ∀ r', r' ≠ r → (w.heap.setIfInBounds r o')[r']? = w.heap[r']? := by
  have hlt : r < w.heap.size := (Array.getElem?_eq_some_iff.1 hb).1
  exact ⟨by simp [hlt], fun r' hne => by simp [Ne.symm hne]⟩

theorem mapUpdate_ok {I : Inf} (hI : TIok P I.ti) (r : RelG E F g st a w) {t : Nat} {p q : PV} {n o : Nat} {m : List (List Int × Bool)} {ks : List Int} {bb : Bool} (h : mapP I st t p q = some (n, m, o, ks)) {u v : Value}
    (hu : VR F g w p u) (hv : VR F g w q v) : ∃ w', (Instr.mapUpdate t u v (.bool bb)).run P w = .ok () w' ∧ RelG E F g { st with hp := (o, .mpb n (mset m ks bb)) :: del o st.hp } a w' := by
  obtain ⟨kt, et, b, es, clock, info, h1, h2, h3, h4, h5, h6, h7, h8, h9, h10, h11, h12⟩ := mapP_ok hI r h hu hv
  have hset := heap_setO (o' := .map (es.push { key := v, val := .bool bb, born := clock }) (clock + 1)) h6
  cases hf : mfind m ks 0 with
  | none =>
    refine ⟨{ w with heap := w.heap.setIfInBounds b (.map (es.push { key := v, val := .bool bb, born := clock }) (clock + 1)) }, ?_, r.writeO h5 (by rw [h4]; rfl) h6 hset.2 (by simp) rfl rfl rfl ?_⟩
    · unfold Instr.mapUpdate
      simp only [h2, Sem.run_bind, run_underlying h1, Result.andThen_ok, Go.run_getObj_map w b es clock h6, h11, h12, hf, Option.map_none, MapKept.run_setObj_map _ h6]
    · refine ⟨b, _, _, h4, hset.1, ?_, ?_, ?_⟩
      · have := h7.1; simp only [Array.size_push, mset, hf, List.length_append, List.length_singleton]; simp at this; omega
      · intro x hx
        simp only [mset, hf, List.mem_append, List.mem_singleton] at hx
        rcases hx with hx | rfl
        · exact h7.2.1 x hx
        · exact h8
      · intro j e x he hx
        simp only [mset, hf] at hx
        have hl := h7.1
        simp at hl
        by_cases hj : j < m.length
        · rw [List.getElem?_append_left hj] at hx
          rw [Array.getElem?_push, if_neg (by omega)] at he
          exact h7.2.2 j e x (by simpa using he) hx
        · rw [List.getElem?_append_right (by omega)] at hx
          have hj' : j = m.length := by
            have := (List.getElem?_eq_some_iff.1 hx).1; simp at this; omega
          subst hj'
          simp at hx; subst hx
          rw [Array.getElem?_push, if_pos (by omega)] at he
          cases he
          exact ⟨h3, rfl⟩
  | some jx =>
    obtain ⟨j, vb⟩ := jx
    obtain ⟨t', e1, x0, e2, e3⟩ := mfind_some hf
    simp only [Nat.zero_add] at e1; subst e1
    have hl := h7.1
    simp only [Array.length_toList] at hl
    have hj : j < es.size := by rw [hl]; exact (List.getElem?_eq_some_iff.1 e2).1
    have hkey := (h7.2.2 j es[j] x0 (by simp [hj]) e2).1
    have hset := heap_setO (o' := .map (es.modify j fun e => { e with key := v, val := .bool bb }) clock) h6
    refine ⟨{ w with heap := w.heap.setIfInBounds b (.map (es.modify j fun e => { e with key := v, val := .bool bb }) clock) }, ?_, r.writeO h5 (by rw [h4]; rfl) h6 hset.2 (by simp) rfl rfl rfl ?_⟩
    · have hstay : (Instr.keyThatStays ((es[j]?.map (·.key)).getD v) v).run P w = .ok v w := by
        rw [Array.getElem?_eq_getElem hj, Option.map_some, Option.getD_some, hkey, h3, e3]
        unfold Instr.keyThatStays
        rw [show (10000 : Nat) = 9999 + 1 from rfl, if_pos (sameBits_ints 9999 ks)]
        simp
      unfold Instr.mapUpdate
      simp only [h2, Sem.run_bind, run_underlying h1, Result.andThen_ok, Go.run_getObj_map w b es clock h6, h11, h12, hf, Option.map_some, hstay, MapKept.run_setObj_map _ h6]
    · refine ⟨b, _, _, h4, hset.1, ?_, ?_, ?_⟩
      · simp only [mset, hf]; simpa using hl
      · intro x hx
        simp only [mset, hf] at hx
        rcases List.mem_or_eq_of_mem_set hx with hx | rfl
        · exact h7.2.1 x hx
        · exact h8
      · intro i e x he hx
        simp only [mset, hf] at hx
        rw [Array.getElem?_modify] at he
        rw [List.getElem?_set] at hx
        by_cases hij : j = i
        · subst hij
          rw [if_pos rfl] at he hx
          rw [Array.getElem?_eq_getElem hj] at he
          have hjm : j < m.length := by omega
          rw [if_pos hjm] at hx
          cases he; cases hx
          exact ⟨h3, rfl⟩
        · rw [if_neg hij] at he hx
          exact h7.2.2 i e x (by simpa using he) hx

theorem run_storeVar {t : TypeId} {i : TInf} (hi : TOk P t i) {b off : Nat} {cur : Array Value} {e : TypeId} (hb : w.heap[b]? = some (.cells cur e (0, 0))) {v : Value} (hv : v.cells.size = i.size)
    (hfit : off + i.size ≤ cur.size) (h1 : ∀ u, u ∈ v.cells → u.oneCell' = true) :
    (Instr.storeAt t (.pointer (some ⟨b, off, none⟩)) v).run P w = .ok () (w.setRow b (cur.toList.take off ++ v.cells.toList ++ cur.toList.drop (off + i.size)).toArray) := by
  have hs := run_storeCells_at P b off e v.cells.toList 0 cur w hb (by simp; omega) (fun u hu => h1 u (by simpa using hu))
  simp only [Nat.add_zero, Array.length_toList] at hs
  simp [Instr.storeAt, Instr.sureAddr, storeVar, run_sizeOf hi, hv]
  rw [hs, hv]
  simp

theorem all_one {x : PV} {v : Value} (h : VR F g w x v) (h1 : x.cells.all PV.one = true) : ∀ u, u ∈ v.cells → u.oneCell' = true := by
  intro u hu
  obtain ⟨k, hk, rfl⟩ := Array.mem_iff_getElem.1 hu
  obtain ⟨h2, h3⟩ := h.cells
  have hk' : k < x.cells.length := by omega
  exact (h3 k x.cells[k] v.cells[k] (by simp [hk']) (by simp [hk])).one (List.all_eq_true.1 h1 _ (List.getElem_mem hk'))

theorem storeP_ok (r : RelG E F g st a w) {t : TypeId} {i : TInf} (hi : TOk P t i) {d : Option Nat} {p x : PV} {st' : St} {C : Prop} (h : storeP st i d p x = some (st', C)) (hC : C) {u v : Value}
    (hu : VR F g w p u) (hv : VR F g w x v) : d = none ∧ ∃ w', (Instr.storeAt t u v).run P w = .ok () w' ∧ RelG E F g st' a w' := by
  unfold storeP at h
  split at h
  · cases h
  · refine ⟨rfl, ?_⟩
    obtain ⟨hvs, hvc⟩ := hv.cells
    cases p with
    | ptr o off =>
      simp only at h
      split at h
      · rename_i l hl
        split at h
        · rename_i h1 h2 h3
          have h1 := Nat.eq_of_beq_eq_true h1
          have h2 := Nat.le_of_ble_eq_true h2
          cases h
          have hlm := look_mem hl
          obtain ⟨b, vs, ty, e1, e2, e3, e4⟩ := r.w.hp.obj _ _ hlm
          cases hu with
          | @ptr _ _ b' hg =>
            rw [e1] at hg; injection hg with hg; injection hg with hg; injection hg with hg; subst hg
            refine ⟨_, run_storeVar hi e2 (by omega) (by omega) (all_one hv h3), r.write hlm (by rw [e1]; rfl) e2 ⟨b, _, ty, e1, setRow_heap w b vs _ ty _ e2, ?_, fun k y z hy hz => ?_⟩⟩
            · simp only [List.size_toArray, List.length_append, List.length_take, List.length_drop, Array.length_toList]; omega
            · have hFb := (r.w.hp.own o _ b hlm (by rw [e1]; rfl)).1
              refine VR.mono (setRow_F hFb) ?_ (fun _ _ => rfl)
              simp only [List.getElem?_toArray, List.append_assoc] at hz
              rw [List.append_assoc] at hy
              by_cases hk : k < off
              · rw [List.getElem?_append_left (by simp; omega), List.getElem?_take, if_pos hk] at hy
                rw [List.getElem?_append_left (by simp; omega), List.getElem?_take, if_pos hk] at hz
                exact e4 k y z hy (by simpa using hz)
              · rw [List.getElem?_append_right (by simp; omega)] at hy
                rw [List.getElem?_append_right (by simp; omega)] at hz
                simp only [List.length_take, Array.length_toList] at hy hz
                rw [show min off l.length = off by omega] at hy
                rw [show min off vs.size = off by omega] at hz
                by_cases hk2 : k < off + i.size
                · rw [List.getElem?_append_left (by omega)] at hy
                  rw [List.getElem?_append_left (by simp; omega)] at hz
                  exact hvc _ y z hy (by simpa using hz)
                · rw [List.getElem?_append_right (by omega), List.getElem?_drop] at hy
                  rw [List.getElem?_append_right (by simp; omega), List.getElem?_drop] at hz
                  simp only [Array.length_toList] at hz
                  rw [show off + i.size + (k - off - x.cells.length) = k by omega] at hy
                  rw [show off + i.size + (k - off - v.cells.size) = k by omega] at hz
                  exact e4 k y z hy (by simpa using hz)
        · cases h
      · cases h
    | aptr o s k off =>
      simp only at h
      split at h
      · rename_i e s' n f c hl hc
        split at h
        · rename_i h1 h2 h3 h4
          have h1 := Nat.eq_of_beq_eq_true h1
          have h2 := Nat.eq_of_beq_eq_true h2
          have h3 := Nat.le_of_ble_eq_true h3
          cases h
          subst h1
          have hlm := look_mem hl
          have hce := allT_ok hc
          have hcl : x.cells.length = c.length := by rw [hce]; simp
          rcases r.w.hp.obj _ _ hlm with ⟨e1, e2⟩ | ⟨b, cap, cur, e1, e2, e3, e4, e5, e6, e7⟩
          · omega
          · cases hu with
            | @aptr _ _ _ _ b' n' cap' hg =>
              rw [e1] at hg; injection hg with hg g2 g3; injection hg with hg; injection hg with hg; subst hg
              have hrow : (k + 1) * s' ≤ cur.size := by rw [e5]; exact Nat.mul_le_mul_right _ (by omega)
              rw [Nat.add_mul, Nat.one_mul] at hrow
              have hfk : (f k).length = s' := e6 k hC
              refine ⟨_, run_storeVar hi e2 (by omega) (by omega) (all_one hv h4), r.write hlm (by rw [e1]; rfl) e2 ?_⟩
              have hFb := (r.w.hp.own o _ b hlm (by rw [e1]; rfl)).1
              have hF := setRow_F (F := F) (w := w) (cs := (cur.toList.take (k * s' + off) ++ v.cells.toList ++ cur.toList.drop (k * s' + off + i.size)).toArray) hFb
              refine RowR.obj ⟨fun i' hi' => ?_, fun i' j x' hi' hx' => ?_⟩ e1 (setRow_heap w b cur _ e _ e2) e3 e4 ?_
              · unfold updF setAt
                split
                · simp only [List.length_append, List.length_take, List.length_drop]; omega
                · exact e6 i' hi'
              · have hget : ∀ q, q < k * s' + off ∨ k * s' + off + i.size ≤ q → ((cur.toList.take (k * s' + off) ++ v.cells.toList ++ cur.toList.drop (k * s' + off + i.size)).toArray)[q]? = cur[q]? := by
                  intro q hq
                  simp only [List.getElem?_toArray, List.append_assoc]
                  rcases hq with hq | hq
                  · rw [List.getElem?_append_left (by simp; omega), List.getElem?_take, if_pos hq]; simp
                  · rw [List.getElem?_append_right (by simp; omega), List.getElem?_append_right (by simp; omega), List.getElem?_drop]
                    simp only [List.length_take, Array.length_toList, Array.getElem?_toList]
                    congr 1; omega
                have hmid : ∀ q, q < i.size → ((cur.toList.take (k * s' + off) ++ v.cells.toList ++ cur.toList.drop (k * s' + off + i.size)).toArray)[k * s' + off + q]? = v.cells[q]? := by
                  intro q hq
                  simp only [List.getElem?_toArray, List.append_assoc]
                  rw [List.getElem?_append_right (by simp; omega), List.getElem?_append_left (by simp; omega)]
                  simp only [List.length_take, Array.length_toList, Array.getElem?_toList]
                  congr 1; omega
                unfold updF at hx'
                split at hx'
                · rename_i hik
                  subst hik
                  unfold setAt at hx'
                  have hjs : j < s' := by
                    have := (List.getElem?_eq_some_iff.1 hx').1
                    simp only [List.length_append, List.length_take, List.length_drop] at this
                    omega
                  by_cases hj : j < off
                  · rw [List.append_assoc, List.getElem?_append_left (by simp; omega), List.getElem?_take, if_pos hj] at hx'
                    obtain ⟨z, hz, hr⟩ := e7 i' j x' hi' hx'
                    exact ⟨z, by rw [hget _ (by omega)]; exact hz, hr.mono hF⟩
                  · by_cases hj2 : j < off + i.size
                    · rw [List.append_assoc, List.getElem?_append_right (by simp; omega), List.getElem?_append_left (by simp; omega)] at hx'
                      simp only [List.length_take] at hx'
                      rw [show min off (f i').length = off by omega] at hx'
                      have hq : j - off < v.cells.size := by omega
                      refine ⟨v.cells[j - off], ?_, ?_⟩
                      · have := hmid (j - off) (by omega)
                        rw [show i' * s' + off + (j - off) = i' * s' + j by omega] at this
                        rw [this]; simp [hq]
                      · have := hvc (j - off) (.t x') v.cells[j - off] (by rw [hce]; simp [hx']) (by simp [hq])
                        exact (this.cells_t rfl).mono hF
                    · rw [List.getElem?_append_right (by simp; omega), List.getElem?_drop] at hx'
                      simp only [List.length_append, List.length_take] at hx'
                      rw [show off + c.length + (j - (min off (f i').length + c.length)) = j by omega] at hx'
                      obtain ⟨z, hz, hr⟩ := e7 i' j x' hi' hx'
                      exact ⟨z, by rw [hget _ (by omega)]; exact hz, hr.mono hF⟩
                · rename_i hik
                  obtain ⟨z, hz, hr⟩ := e7 i' j x' hi' hx'
                  have hjs : j < s' := by rw [← e6 i' hi']; exact (List.getElem?_eq_some_iff.1 hx').1
                  refine ⟨z, ?_, hr.mono hF⟩
                  rw [hget]
                  · exact hz
                  · rcases Nat.lt_or_gt_of_ne hik with hlt | hgt
                    · left
                      have : (i' + 1) * s' ≤ k * s' := Nat.mul_le_mul_right _ hlt
                      rw [Nat.add_mul, Nat.one_mul] at this; omega
                    · right
                      have : (k + 1) * s' ≤ i' * s' := Nat.mul_le_mul_right _ hgt
                      rw [Nat.add_mul, Nat.one_mul] at this; omega
              · simp only [List.size_toArray, List.length_append, List.length_take, List.length_drop, Array.length_toList]; omega
        · cases h
      · cases h
    | _ => simp at h

theorem stepM_ok {I : Inf} (hI : TIok P I.ti) (hn : E.N = I.N) (hnt : E.nt = I.nt) (r : RelG E F g st a w) (o : Oper) {st' : St} {C : Prop} (h : stepM I st o = some (st', C)) (hC : C) :
    ∃ n v w', (execOp a.eval o).run P w = .ok n w' ∧ (n = .value v ∨ (n = .skip ∧ v = undef)) ∧ Rel E st' (a.put o.dst v) w' := by
  unfold stepM at h
  split at h
  · rename_i e d hop hd
    split at h
    · rename_i i hi
      split at h
      · rename_i st1 hst
        cases h
        obtain ⟨v, w', h1, h2⟩ := alloc_ok hI hn hnt r hi hst
        exact ⟨_, v, w', by unfold execOp; simp [hop, h1], .inl rfl, by rw [hd]; exact h2⟩
      · cases h
    · cases h
  · rename_i e x d hop hd
    split at h
    · rename_i p hp
      split at h
      · rename_i hm
        split at h
        · rename_i st1 hst
          cases h
          obtain ⟨v, w', h1, h2⟩ := box_ok (P := P) hn hnt r (e := e) (ev_ok r hp) hm hst
          exact ⟨_, v, w', by unfold execOp; simp [hop, h1], .inl rfl, by rw [hd]; exact h2⟩
        · cases h
      · cases h
    · cases h
  · rename_i t len parts d hop hd
    split at h
    · rename_i i ps hi hps
      split at h
      · rename_i e hu
        split at h
        · rename_i j hj
          split at h
          · rename_i c h1 h2 h3 h4
            split at h
            · rename_i ts h5 h6
              split at h
              · rename_i st1 hst
                cases h
                have hd' := (hI _ _ hi).und
                rw [hu] at hd'
                obtain ⟨v, w', h7, h8⟩ := buildSlice_ok hn hnt r hd' (hI _ _ hj) hps (Nat.le_of_ble_eq_true h1) (Nat.le_of_ble_eq_true h2) (Nat.eq_of_beq_eq_true h3) h4 h5 (Nat.eq_of_beq_eq_true h6) hst
                exact ⟨_, v, w', by unfold execOp; simp [hop, h7], .inl rfl, by rw [hd]; exact h8⟩
              · cases h
            · cases h
          · cases h
        · cases h
      · cases h
    · cases h
  · rename_i t y x d hop
    split at h
    · rename_i i p q hi hp hq
      obtain ⟨hd, w', h1, h2⟩ := storeP_ok (P := P) r (hI _ _ hi) h hC (ev_ok r hp) (ev_ok r hq)
      refine ⟨.skip, undef, w', by unfold execOp; simp [hop, h1], .inr ⟨rfl, rfl⟩, ?_⟩
      rw [hd]
      exact ⟨F, g, h2⟩
    · cases h
  · rename_i t d hop hd
    split at h
    · rename_i i hi
      split at h
      · rename_i kt et hu
        split at h
        · rename_i ik hik
          split at h
          · rename_i st1 hst
            cases h
            have hrun : (Instr.makeMap t none).run P w = .ok (.map (some w.heap.size)) (w.alloc (.map #[] 0)) := rfl
            refine ⟨_, .map (some w.heap.size), w.alloc (.map #[] 0), by unfold execOp; simp [hop, hrun], .inl rfl, by
              rw [hd]
              exact newP_ok hn hnt r hst (ob := .map #[] 0) rfl rfl rfl rfl rfl (fun g' hg1 hg2 => ⟨w.heap.size, #[], 0, hg2, heap_alloc_new w _, rfl, by simp, by simp⟩) (fun g' hg => .map hg)⟩
          · cases h
        · cases h
      · cases h
    · cases h
  · rename_i t x k v hop hd
    split at h
    · rename_i p q b hp hq hb
      split at h
      · rename_i n m o' ks hm
        cases h
        obtain ⟨w', h1, h2⟩ := mapUpdate_ok (bb := b) hI r hm (ev_ok r hp) (ev_ok r hq)
        have hv := (ev_ok r hb).inv_bool
        rw [← hv] at h1
        refine ⟨.skip, undef, w', by unfold execOp; simp [hop, h1], .inr ⟨rfl, rfl⟩, ?_⟩
        rw [hd]
        exact ⟨F, g, h2⟩
      · cases h
    · cases h
  · rename_i c d hop hd
    obtain ⟨cal, args, ats⟩ := c
    simp only at h
    split at h
    · rename_i s x t t' ha ht
      have ha' : args = #[s, x] := by rw [← Array.toArray_toList (xs := args), ha]
      have ht' : ats = #[t, t'] := by rw [← Array.toArray_toList (xs := ats), ht]
      subst ha'; subst ht'
      split at h
      · rename_i i p q h1 hi hp hq
        have h1 := Nat.eq_of_beq_eq_true h1
        subst h1
        split at h
        · rename_i e m f2 s2 hu hq'
          have hd' := (hI _ _ hi).und
          rw [hu] at hd'
          split at h
          · rename_i j hj
            split at h
            · rename_i h2 h3 h4 h5
              have h2 := Nat.le_of_ble_eq_true h2
              have h3 := Nat.le_of_ble_eq_true h3
              have h5 := Nat.eq_of_beq_eq_true h5
              split at h
              · split at h
                · rename_i st1 hst
                  cases h
                  obtain ⟨hC1, hC2⟩ := hC
                  obtain ⟨news, hs⟩ := appArg_ok r (ev_ok r hq) hq' h2 h4 hC2
                  have hv := ev_ok r hp
                  obtain ⟨u, hu'⟩ : ∃ u, a.eval s = u := ⟨_, rfl⟩
                  rw [hu'] at hv
                  cases hv with
                  | nil =>
                    obtain ⟨v, w', h7, h8⟩ := append_nil_ok (P := P) hn hnt r hd' (hI _ _ hj) o.type h3 h5 hs (by simpa using hC1) hst
                    exact ⟨_, v, w', by unfold execOp; simp [hop, resolve, invoke, builtin, hu', h7], .inl rfl, by rw [hd]; exact h8⟩
                · cases h
              · rename_i o'
                split at h
                · rename_i e' s' n f1 st1 hl he
                  split at h
                  · rename_i st2 h6 h7 hst
                    have h6 := Nat.eq_of_beq_eq_true h6
                    have h7 := Nat.eq_of_beq_eq_true h7
                    subst h6; subst h7
                    cases h
                    obtain ⟨hC1, hC2⟩ := hC
                    obtain ⟨news, hs⟩ := appArg_ok r (ev_ok r hq) hq' h2 h4 hC2
                    obtain ⟨v, w', h8, h9⟩ := append_own_ok (P := P) hn hnt r hd' (hI _ _ hj) o.type h3 h5 (ev_ok r hp) hs hC1 hl he hst
                    exact ⟨_, v, w', by unfold execOp; simp [hop, resolve, invoke, builtin, h8], .inl rfl, by rw [hd]; exact h9⟩
                  · cases h
                · cases h
              · cases h
            · cases h
          · cases h
        · cases h
      · cases h
    · cases h
  · cases h

end
end Go.PL
