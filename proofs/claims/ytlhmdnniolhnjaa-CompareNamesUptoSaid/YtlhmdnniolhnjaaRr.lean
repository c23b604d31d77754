/-
  From the reading of arguments to plain data; the frame of a law's row. Own work.
-/
import Derived.Test.YtlhmdnniolhnjaaPs
import Derived.Test.YtlhmdnniolhnjaaRows
import Derived.JoinedCond
import Derived.ProofKit
import Derived.OpenShut
import Derived.Carry
import Derived.DataReads
import Derived.ChangeAnyMap
namespace Go.PL
open Go Go.RowKit
open Go.Proofs.Ytlhmdnniolhnjaa.Rows (uptoBulk uptoBulkAll)

def RdL (F : Nat → Prop) (W : World) (l : List T) (cs : List Value) : Prop := cs.length = l.length ∧ ∀ (j : Nat) x v, l[j]? = some x → cs[j]? = some v → Rd F W x v

theorem RdL.append {F : Nat → Prop} {W : World} {l l' : List T} {cs cs' : List Value} (h : RdL F W l cs) (h' : RdL F W l' cs') : RdL F W (l ++ l') (cs ++ cs') := by
  refine ⟨by simp [h.1, h'.1], fun j x v hx hv => ?_⟩
  by_cases hj : j < l.length
  · rw [List.getElem?_append_left hj] at hx
    rw [List.getElem?_append_left (by rw [h.1]; exact hj)] at hv
    exact h.2 j x v hx hv
  · rw [List.getElem?_append_right (by omega)] at hx
    rw [List.getElem?_append_right (by rw [h.1]; omega), h.1] at hv
    exact h'.2 _ x v hx hv

def inI64 (n : Int) : Prop := -9223372036854775808 ≤ n ∧ n ≤ 9223372036854775807

section
variable {H : Type} {enc : TypeId × Value → H} {P : Program} {W : World}

/-- what reads as a datum of the type reads as plain data of ours, of modest size -/
def Opens (enc : TypeId × Value → H) (P : Program) (W : World) (t : TypeId) {X : Type} (c : X → List T) (ok : X → Prop) (fuel : Nat) : Prop :=
  ∀ cs d ps, DataW.trod enc P W 0 (fun _ => true) true fuel t cs = some (d, ps) → uptoBulk d ≤ 1048576 → ∃ x, RdL (fun b => b < W.heap.size) W (c x) cs ∧ ok x

theorem opens_zero {t : TypeId} {X : Type} {c : X → List T} {ok : X → Prop} : Opens enc P W t c ok 0 := fun cs d ps h => by simp [DataW.trod] at h

theorem RdL.one {F : Nat → Prop} {W : World} {x : T} {v : Value} (h : Rd F W x v) : RdL F W [x] [v] := by
  refine ⟨rfl, fun j y u hy hu => ?_⟩
  cases j with
  | zero => simp at hy hu; subst hy; subst hu; exact h
  | succ j => simp at hy

theorem opens_int {t : TypeId} (ht : P.underlying t = some (.int .i64)) (fuel : Nat) : Opens enc P W t cInt inI64 fuel := by
  cases fuel with
  | zero => exact opens_zero
  | succ fuel =>
    intro cs d ps h _
    unfold DataW.trod at h
    rw [ht] at h
    split at h <;> try (simp_all; done)
    rename_i k k' n hk
    split at h
    · rename_i hk2
      cases hk
      obtain ⟨rfl, hwf⟩ := hk2
      refine ⟨n, RdL.one (.int _ _), ?_⟩
      simp [Lit.wf, IntKind.min, IntKind.max, IntKind.signed, IntKind.bits] at hwf
      exact ⟨by omega, by omega⟩
    · cases h

def okStr (s : ByteArray) : Prop := s.size ≤ 1048576
theorem opens_string {t : TypeId} (ht : P.underlying t = some .string) (fuel : Nat) : Opens enc P W t cStr okStr fuel := by
  cases fuel with
  | zero => exact opens_zero
  | succ fuel =>
    intro cs d ps h hw
    unfold DataW.trod at h
    rw [ht] at h
    split at h <;> try (simp_all; done)
    rename_i s hk
    split at h
    · cases h
      refine ⟨s, RdL.one (.str _), ?_⟩
      have : s.data.toList.length + 1 ≤ 1048576 := hw
      have : s.size = s.data.toList.length := rfl
      unfold okStr
      omega
    · cases h

theorem mapM_get {α β : Type} {f : α → Option β} : ∀ {l : List α} {r : List β}, l.mapM f = some r → r.length = l.length ∧ ∀ (i : Nat) a b, l[i]? = some a → r[i]? = some b → f a = some b
  | [], r, h => by simp at h; subst h; simp
  | x :: l, r, h => by
    rw [List.mapM_cons] at h
    simp only [Option.bind_eq_bind, Option.bind_eq_some_iff] at h
    obtain ⟨y, hy, ys, hys, hr⟩ := h
    simp at hr; subst hr
    obtain ⟨h1, h2⟩ := mapM_get hys
    refine ⟨by simp [h1], fun i a b ha hb => ?_⟩
    cases i with
    | zero => simp at ha hb; subst ha; subst hb; exact hy
    | succ i => exact h2 i a b (by simpa using ha) (by simpa using hb)

theorem uptoBulk_pos : ∀ d : DataW H, 1 ≤ uptoBulk d
  | .lit l => by unfold uptoBulk; split <;> omega
  | .nil => by simp [uptoBulk]
  | .ptr d => by simp [uptoBulk]
  | .slice e s => by simp [uptoBulk]
  | .agg p => by simp [uptoBulk]
  | .iface t d => by simp [uptoBulk]
  | .map e => by simp [uptoBulk]
  | .held h => by simp [uptoBulk]
theorem bulkAll_len : ∀ l : List (DataW H), l.length ≤ uptoBulkAll l
  | [] => by simp
  | d :: l => by simp only [uptoBulkAll, List.length_cons]; have := uptoBulk_pos d; have := bulkAll_len l; omega
theorem bulkAll_mem : ∀ {l : List (DataW H)} {d : DataW H}, d ∈ l → uptoBulk d ≤ uptoBulkAll l
  | x :: l, d, h => by
    simp only [uptoBulkAll]
    rcases List.mem_cons.1 h with rfl | h
    · omega
    · have := bulkAll_mem h; omega

/-- the bytes of an element are told, but not needed -/
def okL {X : Type} (_b : Nat) (ok : X → Prop) (xs : List X) : Prop := xs.length ≤ 1048576 ∧ ∀ x, x ∈ xs → ok x

theorem opens_slice {t e b : Nat} (ht : P.underlying t = some (.slice e)) (hn : Nat.blt 0 (P.cellsOf e) = true) (hb : P.bytesOf e = b) {X : Type} [Inhabited X] {c : X → List T} {ok : X → Prop} {fuel : Nat} (he : Opens enc P W e c ok fuel) (mk : List X → T)
    (hmk : ∀ xs, (mk xs).view = some (xs.length, fun i => c (xs.getD i default))) : Opens enc P W t (fun xs => [mk xs]) (okL b ok) (fuel + 1) := by
  have hz : 0 < P.cellsOf e := by simpa [Nat.blt_eq] using hn
  clear hn
  subst hb
  intro cs d ps h hw
  unfold DataW.trod at h
  rw [ht] at h
  split at h <;> try (simp_all; done)
  · -- nil
    rename_i hk
    cases hk
    refine ⟨[], RdL.one (.nil (hmk [])), by simp, by simp⟩
  · rename_i e' a len cap hk
    cases hk
    simp only at h
    split at h
    · rename_i hcap
      simp only [Option.bind_eq_some_iff, Option.map_eq_some_iff] at h
      obtain ⟨elems, hel, rest, hrest, hd⟩ := h
      simp only [Prod.mk.injEq] at hd
      obtain ⟨rfl, rfl⟩ := hd
      obtain ⟨hlen, hget⟩ := mapM_get hel
      simp only [List.length_range] at hlen
      have hwt : uptoBulkAll (elems.map (·.1)) ≤ 1048576 := by
        have hw2 : uptoBulkAll (elems.map (·.1)) + uptoBulkAll (rest.map (·.1)) + 1 ≤ 1048576 := hw
        omega
      have hl : len ≤ 1048576 := by
        have := bulkAll_len (elems.map (·.1))
        simp only [List.length_map, hlen] at this
        omega
      -- element by element
      have each : ∀ i, i < len → ∃ x vs, W.cells? 0 (a.add (i * P.cellsOf e)) (P.cellsOf e) = some vs ∧ RdL (fun b => b < W.heap.size) W (c x) vs ∧ ok x := by
        intro i hi
        have hi' : i < elems.length := by omega
        have := hget i i elems[i] (by simp [hi]) (by simp [hi'])
        simp only [Option.bind_eq_some_iff] at this
        obtain ⟨vs, hvs, htr⟩ := this
        obtain ⟨x, h1, h2⟩ := he vs elems[i].1 elems[i].2 htr (Nat.le_trans (bulkAll_mem (List.mem_map_of_mem (List.getElem_mem hi'))) hwt)
        exact ⟨x, vs, hvs, h1, h2⟩
      have all : ∃ xs : List X, xs.length = len ∧ ∀ i, i < len → ∃ vs, W.cells? 0 (a.add (i * P.cellsOf e)) (P.cellsOf e) = some vs ∧ RdL (fun b => b < W.heap.size) W (c (xs.getD i default)) vs ∧ ok (xs.getD i default) := by
        clear hel hrest hget hw hwt hl hlen hcap
        induction len with
        | zero => exact ⟨[], rfl, fun i hi => absurd hi (Nat.not_lt_zero _)⟩
        | succ len ih =>
          obtain ⟨xs, h1, h2⟩ := ih fun i hi => each i (by omega)
          obtain ⟨x, vs, h3, h4, h5⟩ := each len (by omega)
          refine ⟨xs ++ [x], by simp [h1], fun i hi => ?_⟩
          by_cases hil : i < len
          · have : (xs ++ [x]).getD i default = xs.getD i default := by simp [List.getD_eq_getElem?_getD, List.getElem?_append_left (show i < xs.length by omega)]
            rw [this]; exact h2 i hil
          · have hil : i = len := by omega
            subst hil
            have : (xs ++ [x]).getD i default = x := by simp [List.getD_eq_getElem?_getD, ← h1]
            rw [this]; exact ⟨vs, h3, h4, h5⟩
      obtain ⟨xs, hxl, hxs⟩ := all
      refine ⟨xs, RdL.one ?_, by rw [hxl]; exact hl, fun x hx => ?_⟩
      · have hsz : ∀ i, i < len → (c (xs.getD i default)).length = P.cellsOf e := by
          intro i hi
          obtain ⟨vs, h1, h2, _⟩ := hxs i hi
          rw [← h2.1]
          unfold World.cells? at h1
          rw [if_pos (Nat.zero_le _)] at h1
          have := (mapM_get h1).1; simpa using this
        have hcell : ∀ i j, i < len → j < P.cellsOf e → ∃ u, W.cell? (a.add (i * P.cellsOf e + j)) = some u ∧ ∀ x, (c (xs.getD i default))[j]? = some x → Rd (fun b => b < W.heap.size) W x u := by
          intro i j hi hj
          obtain ⟨vs, h1, h2, _⟩ := hxs i hi
          unfold World.cells? at h1
          rw [if_pos (Nat.zero_le _)] at h1
          obtain ⟨h3, h4⟩ := mapM_get h1
          simp only [List.length_range] at h3
          have := h4 j j vs[j] (by simp [hj]) (by simp [h3, hj])
          rw [Addr.add_add] at this
          exact ⟨vs[j], this, fun x hx => h2.2 j x vs[j] hx (by simp [h3, hj])⟩
        let vsf : Nat → Nat → Value := fun i j => (W.cell? (a.add (i * P.cellsOf e + j))).getD undef
        refine .sl a cap (P.cellsOf e) vsf (n := len) (f := fun i => c (xs.getD i default)) (by rw [hmk, hxl]) hcap.2.1 (fun hn => ?_) hsz (fun i j hi hj => ?_) (fun i j x hi hx => ?_)
        · obtain ⟨u, hu, _⟩ := hcell 0 0 hn hz
          have hb := World.block_lt_of_cell? W _ hu
          have : (a.add (0 * P.cellsOf e + 0)).block = a.block := by unfold Addr.add; split <;> rfl
          rw [this] at hb
          exact hb
        · obtain ⟨u, hu, _⟩ := hcell i j hi hj
          simp [vsf, hu]
        · have hj : j < P.cellsOf e := by rw [← hsz i hi]; exact (List.getElem?_eq_some_iff.1 hx).1
          obtain ⟨u, hu, hr⟩ := hcell i j hi hj
          simp only [vsf, hu, Option.getD_some]
          exact hr x hx
      · obtain ⟨i, hi, rfl⟩ := List.getElem_of_mem hx
        obtain ⟨_, _, _, h⟩ := hxs i (by omega)
        simpa [List.getD_eq_getElem?_getD, hi] using h
    · cases h

/-- the fields of a struct, from an offset on -/
def OpensF (enc : TypeId × Value → H) (P : Program) (W : World) (off : Nat) (fs : List Field) {X : Type} (c : X → List T) (ok : X → Prop) (fuel : Nat) : Prop :=
  ∀ (cs : List Value) xs, fs.mapM (fun f => DataW.trod enc P W 0 (fun _ => true) true fuel f.type ((cs.drop f.offset).take (P.cellsOf f.type))) = some xs →
    uptoBulkAll (xs.map (·.1)) ≤ 1048576 → cs.length = off + (fs.map fun f => P.cellsOf f.type).sum → ∃ x, RdL (fun b => b < W.heap.size) W (c x) (cs.drop off) ∧ ok x

theorem opensF_nil {off fuel : Nat} : OpensF enc P W off [] (fun (_ : Unit) => []) (fun _ => True) fuel := by
  intro cs xs _ _ hl
  simp at hl
  exact ⟨(), ⟨by simp [hl], by simp⟩, trivial⟩

theorem opensF_cons {off fuel : Nat} {f : Field} {fs : List Field} {X Y : Type} {c : X → List T} {c' : Y → List T} {ok : X → Prop} {ok' : Y → Prop} (ho : f.offset = off) (h : Opens enc P W f.type c ok fuel)
    (h' : OpensF enc P W (off + P.cellsOf f.type) fs c' ok' fuel) : OpensF enc P W off (f :: fs) (fun (x : X × Y) => c x.1 ++ c' x.2) (fun x => ok x.1 ∧ ok' x.2) fuel := by
  intro cs xs hx hw hl
  rw [List.mapM_cons] at hx
  simp only [Option.bind_eq_bind, Option.bind_eq_some_iff] at hx
  obtain ⟨y, hy, ys, hys, hr⟩ := hx
  simp at hr; subst hr
  simp only [List.map_cons, uptoBulkAll] at hw
  obtain ⟨x, h1, h2⟩ := h _ _ _ hy (by omega)
  simp only [List.map_cons, List.sum_cons] at hl
  obtain ⟨x', h3, h4⟩ := h' cs ys hys (by omega) (by omega)
  refine ⟨(x, x'), ?_, h2, h4⟩
  have : cs.drop off = (cs.drop f.offset).take (P.cellsOf f.type) ++ cs.drop (off + P.cellsOf f.type) := by
    rw [ho, ← List.drop_drop, List.take_append_drop]
  rw [this]
  exact h1.append h3

theorem opens_struct {t : TypeId} {fs : Array Field} (ht : P.underlying t = some (.struct fs)) {X : Type} {c : X → List T} {ok : X → Prop} {fuel : Nat} (h : OpensF enc P W 0 fs.toList c ok fuel)
    (hs : P.cellsOf t = (fs.toList.map fun f => P.cellsOf f.type).sum) : Opens enc P W t c ok (fuel + 1) := by
  intro cs d ps hd hw
  unfold DataW.trod at hd
  rw [ht] at hd
  split at hd <;> try (simp_all; done)
  rename_i cs0 _ _ fs' hk
  cases hk
  split at hd
  · rename_i hl
    simp only [Option.map_eq_some_iff] at hd
    obtain ⟨xs, hxs, hd⟩ := hd
    simp only [Prod.mk.injEq] at hd
    obtain ⟨rfl, _⟩ := hd
    have hw2 : uptoBulkAll (xs.map (·.1)) + 1 ≤ 1048576 := hw
    have := h _ xs hxs (by omega) (by rw [hl, hs]; simp)
    simpa using this
  · cases hd

theorem Opens.map {t : TypeId} {X Y : Type} {c : X → List T} {ok : X → Prop} {c' : Y → List T} {ok' : Y → Prop} {fuel : Nat} (h : Opens enc P W t c ok fuel) (g : X → Y) (hc : ∀ x, c' (g x) = c x) (ho : ∀ x, ok x → ok' (g x)) :
    Opens enc P W t c' ok' fuel := by
  intro cs d ps hd hw
  obtain ⟨x, h1, h2⟩ := h cs d ps hd hw
  exact ⟨g x, by rw [hc]; exact h1, ho x h2⟩

end

theorem RdL.agg {F : Nat → Prop} {W : World} {l : List T} {v : Value} (h : RdL F W l v.cells.toList) (hv : ∃ vs, v = .agg vs) : Rd F W (.agg l) v := by
  obtain ⟨vs, rfl⟩ := hv
  simp only [Value.cells] at h
  exact .agg (by simpa using h.1) fun j x v hx hv => h.2 j x v hx (by simpa using hv)

section
variable {H : Type} {enc : TypeId × Value → H} {P : Program} {W : World} {r : Reach} {base : Nat}
theorem arg_struct {t : TypeId} {fs : Array Field} (ht : P.underlying t = some (.struct fs)) {X : Type} {c : X → List T} {ok : X → Prop} (hO : ∀ fuel, Opens enc P W t c ok fuel) {v : Value} {d : DataW H} {ps : List MemPlace}
    (hv : Value.okWide P W r base t v) (h : DataW.Trod enc P W 0 (fun _ => true) true t v d ps) (hw : uptoBulk d ≤ 1048576) : ∃ x, Rd (fun b => b < W.heap.size) W (.agg (c x)) v ∧ ok x := by
  obtain ⟨cs, rfl, _⟩ := Go.WideShapes.okWide_struct ht hv
  obtain ⟨fuel, hf⟩ := h
  obtain ⟨x, h1, h2⟩ := hO fuel _ _ _ hf hw
  exact ⟨x, h1.agg ⟨cs, rfl⟩, h2⟩
theorem arg_one {t : TypeId} {X : Type} {c : X → T} {ok : X → Prop} (hO : ∀ fuel, Opens enc P W t (fun x => [c x]) ok fuel) {v : Value} {d : DataW H} {ps : List MemPlace}
    (hv : v.cells = #[v]) (h : DataW.Trod enc P W 0 (fun _ => true) true t v d ps) (hw : uptoBulk d ≤ 1048576) : ∃ x, Rd (fun b => b < W.heap.size) W (c x) v ∧ ok x := by
  obtain ⟨fuel, hf⟩ := h
  obtain ⟨x, h1, h2⟩ := hO fuel _ _ _ hf hw
  exact ⟨x, h1.2 0 _ _ (by simp) (by simp [hv]), h2⟩
theorem arg_int {t : TypeId} (ht : P.underlying t = some (.int .i64)) {v : Value} {d : DataW H} {ps : List MemPlace}
    (hv : Value.okWide P W r base t v) (h : DataW.Trod enc P W 0 (fun _ => true) true t v d ps) (hw : uptoBulk d ≤ 1048576) : ∃ x, Rd (fun b => b < W.heap.size) W (.int .i64 x) v ∧ inI64 x := by
  obtain ⟨n, rfl⟩ := Go.WideShapes.okWide_int ht hv
  exact arg_one (c := fun x => .int .i64 x) (opens_int ht) rfl h hw
theorem arg_string {t : TypeId} (ht : P.underlying t = some .string) {v : Value} {d : DataW H} {ps : List MemPlace}
    (hv : Value.okWide P W r base t v) (h : DataW.Trod enc P W 0 (fun _ => true) true t v d ps) (hw : uptoBulk d ≤ 1048576) : ∃ x, Rd (fun b => b < W.heap.size) W (.str x) v ∧ okStr x := by
  obtain ⟨n, rfl⟩ := Go.WideShapes.okWide_string ht hv
  exact arg_one (c := fun x => .str x) (opens_string ht) rfl h hw
theorem arg_slice {t e : TypeId} (ht : P.underlying t = some (.slice e)) {X : Type} {c : X → T} {ok : X → Prop} (hO : ∀ fuel, Opens enc P W t (fun x => [c x]) ok fuel) {v : Value} {d : DataW H} {ps : List MemPlace}
    (hv : Value.okWide P W r base t v) (h : DataW.Trod enc P W 0 (fun _ => true) true t v d ps) (hw : uptoBulk d ≤ 1048576) : ∃ x, Rd (fun b => b < W.heap.size) W (c x) v ∧ ok x := by
  obtain ⟨a, l, q, rfl⟩ := Go.WideShapes.okWide_slice ht hv
  exact arg_one hO rfl h hw
end

/-! ### the frame -/
theorem kept_of_below {W W' : World} (h : Below W.heap.size W W') (may : MemPlace → Prop) : W.keptBut W' may := by
  refine ⟨h.os, h.output, fun i hi => ?_⟩
  rw [h.block i hi]
  cases W.heap[i]? with
  | none => trivial
  | some o => cases o <;> simp

section
variable {H : Type} {enc : TypeId × Value → H} {P : Program}

theorem trodAll_below (hl : laidOutB P = true) {W W' : World} (hb : Below W.heap.size W W') : ∀ {ts : List TypeId} {vs : List Value} {ds : List (DataW H)} {ps : List MemPlace},
    (∀ t, t ∈ ts → P.readableRec t = true ∧ t < P.types.size) → DataW.TrodAll enc P W 0 (fun _ => true) true ts vs ds ps → (∀ x, x ∈ ps → x.block < W.heap.size) →
    DataW.TrodAll enc P W' 0 (fun b => decide (b < W.heap.size)) true ts vs ds ps
  | [], [], [], ps, _, h, _ => h
  | t :: ts, v :: vs, d :: ds, ps, hr, h, hp => by
    obtain ⟨p, q, h1, h2, rfl⟩ := h
    obtain ⟨r1, r2⟩ := hr t (by simp)
    exact ⟨p, q, Go.RowKit.Below.trod hl r1 r2 h1 hb (fun x hx => hp x (List.mem_append_left _ hx)), trodAll_below hl hb (fun t ht => hr t (List.mem_cons_of_mem _ ht)) h2 (fun x hx => hp x (List.mem_append_right _ hx)), rfl⟩
  | [], _ :: _, _, _, _, h, _ => by simp [DataW.TrodAll] at h
  | [], [], _ :: _, _, _, h, _ => by simp [DataW.TrodAll] at h
  | _ :: _, [], _, _, _, h, _ => by simp [DataW.TrodAll] at h
  | _ :: _, _ :: _, [], _, _, h, _ => by simp [DataW.TrodAll] at h

/-- a law's post: true, and all as it was -/
theorem law_post (hlay : laidOutB P = true) {f : Func} {s : ChangeSpec} {W W' : World} {args : Array Value} {ds gs : List (DataW H)} {before : List MemPlace} {tb : TypeId} (hvars : s.vars = [])
    (hW : DataW.Whole enc P f.params.toList s.vars false W args.toList ds gs before) (hb : Below W.heap.size W W') (hres : f.resultTypes = #[tb]) (htb : P.underlying tb = some .bool)
    (hread : ∀ t, t ∈ f.params.toList → P.readableRec t = true ∧ t < P.types.size) (hfn : s.fn H (ds ++ gs) = { results := [.lit (.bool true)], args := ds }) :
    s.post enc P f false true false false W args (.bool true) W' := by
  have hW' := hW
  obtain ⟨p, q, hA, hV, rfl, _⟩ := hW
  rw [hvars] at hV
  cases gs with
  | cons g gs => simp [DataW.TrodVars] at hV
  | nil =>
    simp only [DataW.TrodVars] at hV
    subst hV
    have hlt : ∀ x, x ∈ p → x.block < W.heap.size := fun x hx => by simpa using hW'.lt x (by simp [hx])
    refine ⟨ds, [], p ++ [], [], p, [], hW', ?_, ?_, ?_, kept_of_below hb _, fun h => by cases h⟩
    · rw [hfn, hres]
      exact ⟨[], [], ⟨1, by simp [DataW.trod, htb, Value.cells]⟩, rfl, rfl⟩
    · rw [hfn]
      exact trodAll_below hlay hb hread hA hlt
    · rw [hvars, hfn]; exact rfl

/-- what a contract of ours gives a law's row -/
theorem PCall.law {P : Program} {k : FuncId} {args : List PV} (h : PCall P k args [] [] (Ret (.t (.bool true)))) {W : World} {vs : Array Value} (hs : vs.size = args.length)
    (hv : ∀ (j : Nat) x v, args[j]? = some x → vs[j]? = some v → VR (fun b => b < W.heap.size) (fun _ => undef) W x v) :
    Calls P k vs W fun e W' => e = .returned (.bool true) ∧ Below W.heap.size W W' := by
  refine (h (fun b => b < W.heap.size) (fun _ => undef) W vs hs hv ⟨by simp, by simp, by simp⟩ (fun _ h => h)).mono ?_
  rintro e w' ⟨v, r, H', F', g', rfl, hr, hvr, hW⟩
  unfold Ret at hr
  subst hr
  have := hvr.inv_bool
  subst this
  exact ⟨rfl, ⟨hW.ext.os, hW.ext.tape, hW.ext.output, hW.ext.size, fun b hb => hW.ext.block b hb (by rintro ⟨o, x, hx, _⟩; simp at hx)⟩⟩
end

end Go.PL
