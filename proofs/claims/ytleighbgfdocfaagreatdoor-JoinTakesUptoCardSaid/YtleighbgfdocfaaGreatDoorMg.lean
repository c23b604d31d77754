/-
  JoinTakes: for all arguments of bulk at most 1048576 the law returns true and leaves its arguments as they were; the listed tables are tied to the program's text. Own work.
  Parts ahead of it: From the reading of arguments to plain data; the frame of a law's row. Own work. What reads as data of the argument types reads as plain data of ours. Printed by a program of our own. Plain law: what is right and small. Own work. Plain law: which nodes and acts are right. Own work. Plain law: which acts fit. Own work. Plain law: what an operator keeps. Own work. Plain law: how the meaning of one key changes. Own work. Plain law: what a push changes. Own work. Plain law: the encoding of an operator is made; comparing results. Own work. Plain law: what the laws of joins ask of their arguments. Own work. Plain law: the example of the documentation. Own work. Plain law: JoinTakes: what is pushed, and the first loop. Own work. Plain law: JoinTakes: all is taken away again. Own work. Plain law: JoinTakes gives true, for all arguments. Own work. The row of JoinTakes from what its function gives, and its card. Own work.
-/
import Derived.Test.YtleighbgfdocfaaGreatDoorMf
import Derived.Test.YtleighbgfdocfaaGreatDoorRows
import Derived.JoinedCond
import Derived.ProofKit
import Derived.OpenShut
import Derived.Carry
import Derived.DataReads
import Derived.ChangeAnyMap
import Derived.KernelRfl
import Derived.Test.YtleighbgfdocfaaGreatDoorCards
import Derived.Test.YtleighbgfdocfaaGreatDoorTie
import Derived.SizedLaws
import Derived.Deep.DeepHandedRow
import Derived.Lib.LaidTab
namespace Go.PL
open Go Go.RowKit
open Go.Proofs.YtleighbgfdocfaaGreatDoor.Rows (uptoBulk uptoBulkAll)

def RdL (F : Nat → Prop) (W : World) (l : List T) (cs : List Value) : Prop := cs.length = l.length ∧ ∀ (j : Nat) x v, l[j]? = some x → cs[j]? = some v → Rd F W x v

theorem RdL.append {F : Nat → Prop} {W : World} {l l' : List T} {cs cs' : List Value} (h : RdL F W l cs) (h' : RdL F W l' cs') : RdL F W (l ++ l') (cs ++ cs') := by
  refine ⟨by simp [h.1, h'.1], fun j x v hx hv => ?_⟩
  by_cases hj : j < l.length
  · rw [List.getElem?_append_left hj] at hx
    rw [List.getElem?_append_left (by rw [h.1]; exact hj)] at hv
    exact h.2 j x v hx hv
  · rw [List.getElem?_append_right (by omega)] at hx
    rw [List.getElem?_append_right (by rw [h.1]; omega), h.1] at hv
    exact h'.2 _ x v hx hv

def inI64 (n : Int) : Prop := -9223372036854775808 ≤ n ∧ n ≤ 9223372036854775807

section
variable {H : Type} {enc : TypeId × Value → H} {P : Program} {W : World}

/-- what reads as a datum of the type reads as plain data of ours, of modest size -/
def Opens (enc : TypeId × Value → H) (P : Program) (W : World) (t : TypeId) {X : Type} (c : X → List T) (ok : X → Prop) (fuel : Nat) : Prop :=
  ∀ cs d ps, DataW.trod enc P W 0 (fun _ => true) true fuel t cs = some (d, ps) → uptoBulk d ≤ 1048576 → ∃ x, RdL (fun b => b < W.heap.size) W (c x) cs ∧ ok x

theorem opens_zero {t : TypeId} {X : Type} {c : X → List T} {ok : X → Prop} : Opens enc P W t c ok 0 := fun cs d ps h => by simp [DataW.trod] at h

theorem RdL.one {F : Nat → Prop} {W : World} {x : T} {v : Value} (h : Rd F W x v) : RdL F W [x] [v] := by
  refine ⟨rfl, fun j y u hy hu => ?_⟩
  cases j with
  | zero => simp at hy hu; subst hy; subst hu; exact h
  | succ j => simp at hy

theorem opens_int {t : TypeId} (ht : P.underlying t = some (.int .i64)) (fuel : Nat) : Opens enc P W t cInt inI64 fuel := by
  cases fuel with
  | zero => exact opens_zero
  | succ fuel =>
    intro cs d ps h _
    unfold DataW.trod at h
    rw [ht] at h
    split at h <;> try (simp_all; done)
    rename_i k k' n hk
    split at h
    · rename_i hk2
      cases hk
      obtain ⟨rfl, hwf⟩ := hk2
      refine ⟨n, RdL.one (.int _ _), ?_⟩
      simp [Lit.wf, IntKind.min, IntKind.max, IntKind.signed, IntKind.bits] at hwf
      exact ⟨by omega, by omega⟩
    · cases h

def okStr (s : ByteArray) : Prop := s.size ≤ 1048576
theorem opens_string {t : TypeId} (ht : P.underlying t = some .string) (fuel : Nat) : Opens enc P W t cStr okStr fuel := by
  cases fuel with
  | zero => exact opens_zero
  | succ fuel =>
    intro cs d ps h hw
    unfold DataW.trod at h
    rw [ht] at h
    split at h <;> try (simp_all; done)
    rename_i s hk
    split at h
    · cases h
      refine ⟨s, RdL.one (.str _), ?_⟩
      have : s.data.toList.length + 1 ≤ 1048576 := hw
      have : s.size = s.data.toList.length := rfl
      unfold okStr
      omega
    · cases h

theorem mapM_get {α β : Type} {f : α → Option β} : ∀ {l : List α} {r : List β}, l.mapM f = some r → r.length = l.length ∧ ∀ (i : Nat) a b, l[i]? = some a → r[i]? = some b → f a = some b
  | [], r, h => by simp at h; subst h; simp
  | x :: l, r, h => by
    rw [List.mapM_cons] at h
    simp only [Option.bind_eq_bind, Option.bind_eq_some_iff] at h
    obtain ⟨y, hy, ys, hys, hr⟩ := h
    simp at hr; subst hr
    obtain ⟨h1, h2⟩ := mapM_get hys
    refine ⟨by simp [h1], fun i a b ha hb => ?_⟩
    cases i with
    | zero => simp at ha hb; subst ha; subst hb; exact hy
    | succ i => exact h2 i a b (by simpa using ha) (by simpa using hb)

theorem uptoBulk_pos : ∀ d : DataW H, 1 ≤ uptoBulk d
  | .lit l => by unfold uptoBulk; split <;> omega
  | .nil => by simp [uptoBulk]
  | .ptr d => by simp [uptoBulk]
  | .slice e s => by simp [uptoBulk]
  | .agg p => by simp [uptoBulk]
  | .iface t d => by simp [uptoBulk]
  | .map e => by simp [uptoBulk]
  | .held h => by simp [uptoBulk]
theorem bulkAll_len : ∀ l : List (DataW H), l.length ≤ uptoBulkAll l
  | [] => by simp
  | d :: l => by simp only [uptoBulkAll, List.length_cons]; have := uptoBulk_pos d; have := bulkAll_len l; omega
theorem bulkAll_mem : ∀ {l : List (DataW H)} {d : DataW H}, d ∈ l → uptoBulk d ≤ uptoBulkAll l
  | x :: l, d, h => by
    simp only [uptoBulkAll]
    rcases List.mem_cons.1 h with rfl | h
    · omega
    · have := bulkAll_mem h; omega

/-- the bytes of an element are told, but not needed -/
def okL {X : Type} (_b : Nat) (ok : X → Prop) (xs : List X) : Prop := xs.length ≤ 1048576 ∧ ∀ x, x ∈ xs → ok x

theorem opens_slice {t e b : Nat} (ht : P.underlying t = some (.slice e)) (hn : Nat.blt 0 (P.cellsOf e) = true) (hb : P.bytesOf e = b) {X : Type} [Inhabited X] {c : X → List T} {ok : X → Prop} {fuel : Nat} (he : Opens enc P W e c ok fuel) (mk : List X → T)
    (hmk : ∀ xs, (mk xs).view = some (xs.length, fun i => c (xs.getD i default))) : Opens enc P W t (fun xs => [mk xs]) (okL b ok) (fuel + 1) := by
  have hz : 0 < P.cellsOf e := by simpa [Nat.blt_eq] using hn
  clear hn
  subst hb
  intro cs d ps h hw
  unfold DataW.trod at h
  rw [ht] at h
  split at h <;> try (simp_all; done)
  · -- nil
    rename_i hk
    cases hk
    refine ⟨[], RdL.one (.nil (hmk [])), by simp, by simp⟩
  · rename_i e' a len cap hk
    cases hk
    simp only at h
    split at h
    · rename_i hcap
      simp only [Option.bind_eq_some_iff, Option.map_eq_some_iff] at h
      obtain ⟨elems, hel, rest, hrest, hd⟩ := h
      simp only [Prod.mk.injEq] at hd
      obtain ⟨rfl, rfl⟩ := hd
      obtain ⟨hlen, hget⟩ := mapM_get hel
      simp only [List.length_range] at hlen
      have hwt : uptoBulkAll (elems.map (·.1)) ≤ 1048576 := by
        have hw2 : uptoBulkAll (elems.map (·.1)) + uptoBulkAll (rest.map (·.1)) + 1 ≤ 1048576 := hw
        omega
      have hl : len ≤ 1048576 := by
        have := bulkAll_len (elems.map (·.1))
        simp only [List.length_map, hlen] at this
        omega
      -- element by element
      have each : ∀ i, i < len → ∃ x vs, W.cells? 0 (a.add (i * P.cellsOf e)) (P.cellsOf e) = some vs ∧ RdL (fun b => b < W.heap.size) W (c x) vs ∧ ok x := by
        intro i hi
        have hi' : i < elems.length := by omega
        have := hget i i elems[i] (by simp [hi]) (by simp [hi'])
        simp only [Option.bind_eq_some_iff] at this
        obtain ⟨vs, hvs, htr⟩ := this
        obtain ⟨x, h1, h2⟩ := he vs elems[i].1 elems[i].2 htr (Nat.le_trans (bulkAll_mem (List.mem_map_of_mem (List.getElem_mem hi'))) hwt)
        exact ⟨x, vs, hvs, h1, h2⟩
      have all : ∃ xs : List X, xs.length = len ∧ ∀ i, i < len → ∃ vs, W.cells? 0 (a.add (i * P.cellsOf e)) (P.cellsOf e) = some vs ∧ RdL (fun b => b < W.heap.size) W (c (xs.getD i default)) vs ∧ ok (xs.getD i default) := by
        clear hel hrest hget hw hwt hl hlen hcap
        induction len with
        | zero => exact ⟨[], rfl, fun i hi => absurd hi (Nat.not_lt_zero _)⟩
        | succ len ih =>
          obtain ⟨xs, h1, h2⟩ := ih fun i hi => each i (by omega)
          obtain ⟨x, vs, h3, h4, h5⟩ := each len (by omega)
          refine ⟨xs ++ [x], by simp [h1], fun i hi => ?_⟩
          by_cases hil : i < len
          · have : (xs ++ [x]).getD i default = xs.getD i default := by simp [List.getD_eq_getElem?_getD, List.getElem?_append_left (show i < xs.length by omega)]
            rw [this]; exact h2 i hil
          · have hil : i = len := by omega
            subst hil
            have : (xs ++ [x]).getD i default = x := by simp [List.getD_eq_getElem?_getD, ← h1]
            rw [this]; exact ⟨vs, h3, h4, h5⟩
      obtain ⟨xs, hxl, hxs⟩ := all
      refine ⟨xs, RdL.one ?_, by rw [hxl]; exact hl, fun x hx => ?_⟩
      · have hsz : ∀ i, i < len → (c (xs.getD i default)).length = P.cellsOf e := by
          intro i hi
          obtain ⟨vs, h1, h2, _⟩ := hxs i hi
          rw [← h2.1]
          unfold World.cells? at h1
          rw [if_pos (Nat.zero_le _)] at h1
          have := (mapM_get h1).1; simpa using this
        have hcell : ∀ i j, i < len → j < P.cellsOf e → ∃ u, W.cell? (a.add (i * P.cellsOf e + j)) = some u ∧ ∀ x, (c (xs.getD i default))[j]? = some x → Rd (fun b => b < W.heap.size) W x u := by
          intro i j hi hj
          obtain ⟨vs, h1, h2, _⟩ := hxs i hi
          unfold World.cells? at h1
          rw [if_pos (Nat.zero_le _)] at h1
          obtain ⟨h3, h4⟩ := mapM_get h1
          simp only [List.length_range] at h3
          have := h4 j j vs[j] (by simp [hj]) (by simp [h3, hj])
          rw [Addr.add_add] at this
          exact ⟨vs[j], this, fun x hx => h2.2 j x vs[j] hx (by simp [h3, hj])⟩
        let vsf : Nat → Nat → Value := fun i j => (W.cell? (a.add (i * P.cellsOf e + j))).getD undef
        refine .sl a cap (P.cellsOf e) vsf (n := len) (f := fun i => c (xs.getD i default)) (by rw [hmk, hxl]) hcap.2.1 (fun hn => ?_) hsz (fun i j hi hj => ?_) (fun i j x hi hx => ?_)
        · obtain ⟨u, hu, _⟩ := hcell 0 0 hn hz
          have hb := World.block_lt_of_cell? W _ hu
          have : (a.add (0 * P.cellsOf e + 0)).block = a.block := by unfold Addr.add; split <;> rfl
          rw [this] at hb
          exact hb
        · obtain ⟨u, hu, _⟩ := hcell i j hi hj
          simp [vsf, hu]
        · have hj : j < P.cellsOf e := by rw [← hsz i hi]; exact (List.getElem?_eq_some_iff.1 hx).1
          obtain ⟨u, hu, hr⟩ := hcell i j hi hj
          simp only [vsf, hu, Option.getD_some]
          exact hr x hx
      · obtain ⟨i, hi, rfl⟩ := List.getElem_of_mem hx
        obtain ⟨_, _, _, h⟩ := hxs i (by omega)
        simpa [List.getD_eq_getElem?_getD, hi] using h
    · cases h

/-- the fields of a struct, from an offset on -/
def OpensF (enc : TypeId × Value → H) (P : Program) (W : World) (off : Nat) (fs : List Field) {X : Type} (c : X → List T) (ok : X → Prop) (fuel : Nat) : Prop :=
  ∀ (cs : List Value) xs, fs.mapM (fun f => DataW.trod enc P W 0 (fun _ => true) true fuel f.type ((cs.drop f.offset).take (P.cellsOf f.type))) = some xs →
    uptoBulkAll (xs.map (·.1)) ≤ 1048576 → cs.length = off + (fs.map fun f => P.cellsOf f.type).sum → ∃ x, RdL (fun b => b < W.heap.size) W (c x) (cs.drop off) ∧ ok x

theorem opensF_nil {off fuel : Nat} : OpensF enc P W off [] (fun (_ : Unit) => []) (fun _ => True) fuel := by
  intro cs xs _ _ hl
  simp at hl
  exact ⟨(), ⟨by simp [hl], by simp⟩, trivial⟩

theorem opensF_cons {off fuel : Nat} {f : Field} {fs : List Field} {X Y : Type} {c : X → List T} {c' : Y → List T} {ok : X → Prop} {ok' : Y → Prop} (ho : f.offset = off) (h : Opens enc P W f.type c ok fuel)
    (h' : OpensF enc P W (off + P.cellsOf f.type) fs c' ok' fuel) : OpensF enc P W off (f :: fs) (fun (x : X × Y) => c x.1 ++ c' x.2) (fun x => ok x.1 ∧ ok' x.2) fuel := by
  intro cs xs hx hw hl
  rw [List.mapM_cons] at hx
  simp only [Option.bind_eq_bind, Option.bind_eq_some_iff] at hx
  obtain ⟨y, hy, ys, hys, hr⟩ := hx
  simp at hr; subst hr
  simp only [List.map_cons, uptoBulkAll] at hw
  obtain ⟨x, h1, h2⟩ := h _ _ _ hy (by omega)
  simp only [List.map_cons, List.sum_cons] at hl
  obtain ⟨x', h3, h4⟩ := h' cs ys hys (by omega) (by omega)
  refine ⟨(x, x'), ?_, h2, h4⟩
  have : cs.drop off = (cs.drop f.offset).take (P.cellsOf f.type) ++ cs.drop (off + P.cellsOf f.type) := by
    rw [ho, ← List.drop_drop, List.take_append_drop]
  rw [this]
  exact h1.append h3

theorem opens_struct {t : TypeId} {fs : Array Field} (ht : P.underlying t = some (.struct fs)) {X : Type} {c : X → List T} {ok : X → Prop} {fuel : Nat} (h : OpensF enc P W 0 fs.toList c ok fuel)
    (hs : P.cellsOf t = (fs.toList.map fun f => P.cellsOf f.type).sum) : Opens enc P W t c ok (fuel + 1) := by
  intro cs d ps hd hw
  unfold DataW.trod at hd
  rw [ht] at hd
  split at hd <;> try (simp_all; done)
  rename_i cs0 _ _ fs' hk
  cases hk
  split at hd
  · rename_i hl
    simp only [Option.map_eq_some_iff] at hd
    obtain ⟨xs, hxs, hd⟩ := hd
    simp only [Prod.mk.injEq] at hd
    obtain ⟨rfl, _⟩ := hd
    have hw2 : uptoBulkAll (xs.map (·.1)) + 1 ≤ 1048576 := hw
    have := h _ xs hxs (by omega) (by rw [hl, hs]; simp)
    simpa using this
  · cases hd

theorem Opens.map {t : TypeId} {X Y : Type} {c : X → List T} {ok : X → Prop} {c' : Y → List T} {ok' : Y → Prop} {fuel : Nat} (h : Opens enc P W t c ok fuel) (g : X → Y) (hc : ∀ x, c' (g x) = c x) (ho : ∀ x, ok x → ok' (g x)) :
    Opens enc P W t c' ok' fuel := by
  intro cs d ps hd hw
  obtain ⟨x, h1, h2⟩ := h cs d ps hd hw
  exact ⟨g x, by rw [hc]; exact h1, ho x h2⟩

end

theorem RdL.agg {F : Nat → Prop} {W : World} {l : List T} {v : Value} (h : RdL F W l v.cells.toList) (hv : ∃ vs, v = .agg vs) : Rd F W (.agg l) v := by
  obtain ⟨vs, rfl⟩ := hv
  simp only [Value.cells] at h
  exact .agg (by simpa using h.1) fun j x v hx hv => h.2 j x v hx (by simpa using hv)

section
variable {H : Type} {enc : TypeId × Value → H} {P : Program} {W : World} {r : Reach} {base : Nat}
theorem arg_struct {t : TypeId} {fs : Array Field} (ht : P.underlying t = some (.struct fs)) {X : Type} {c : X → List T} {ok : X → Prop} (hO : ∀ fuel, Opens enc P W t c ok fuel) {v : Value} {d : DataW H} {ps : List MemPlace}
    (hv : Value.okWide P W r base t v) (h : DataW.Trod enc P W 0 (fun _ => true) true t v d ps) (hw : uptoBulk d ≤ 1048576) : ∃ x, Rd (fun b => b < W.heap.size) W (.agg (c x)) v ∧ ok x := by
  obtain ⟨cs, rfl, _⟩ := Go.WideShapes.okWide_struct ht hv
  obtain ⟨fuel, hf⟩ := h
  obtain ⟨x, h1, h2⟩ := hO fuel _ _ _ hf hw
  exact ⟨x, h1.agg ⟨cs, rfl⟩, h2⟩
theorem arg_one {t : TypeId} {X : Type} {c : X → T} {ok : X → Prop} (hO : ∀ fuel, Opens enc P W t (fun x => [c x]) ok fuel) {v : Value} {d : DataW H} {ps : List MemPlace}
    (hv : v.cells = #[v]) (h : DataW.Trod enc P W 0 (fun _ => true) true t v d ps) (hw : uptoBulk d ≤ 1048576) : ∃ x, Rd (fun b => b < W.heap.size) W (c x) v ∧ ok x := by
  obtain ⟨fuel, hf⟩ := h
  obtain ⟨x, h1, h2⟩ := hO fuel _ _ _ hf hw
  exact ⟨x, h1.2 0 _ _ (by simp) (by simp [hv]), h2⟩
theorem arg_slice {t e : TypeId} (ht : P.underlying t = some (.slice e)) {X : Type} {c : X → T} {ok : X → Prop} (hO : ∀ fuel, Opens enc P W t (fun x => [c x]) ok fuel) {v : Value} {d : DataW H} {ps : List MemPlace}
    (hv : Value.okWide P W r base t v) (h : DataW.Trod enc P W 0 (fun _ => true) true t v d ps) (hw : uptoBulk d ≤ 1048576) : ∃ x, Rd (fun b => b < W.heap.size) W (c x) v ∧ ok x := by
  obtain ⟨a, l, q, rfl⟩ := Go.WideShapes.okWide_slice ht hv
  exact arg_one hO rfl h hw
end

/-! ### the frame -/
theorem kept_of_below {W W' : World} (h : Below W.heap.size W W') (may : MemPlace → Prop) : W.keptBut W' may := by
  refine ⟨h.os, h.output, fun i hi => ?_⟩
  rw [h.block i hi]
  cases W.heap[i]? with
  | none => trivial
  | some o => cases o <;> simp

section
variable {H : Type} {enc : TypeId × Value → H} {P : Program}

theorem trodAll_below (hl : laidOutB P = true) {W W' : World} (hb : Below W.heap.size W W') : ∀ {ts : List TypeId} {vs : List Value} {ds : List (DataW H)} {ps : List MemPlace},
    (∀ t, t ∈ ts → P.readableRec t = true ∧ t < P.types.size) → DataW.TrodAll enc P W 0 (fun _ => true) true ts vs ds ps → (∀ x, x ∈ ps → x.block < W.heap.size) →
    DataW.TrodAll enc P W' 0 (fun b => decide (b < W.heap.size)) true ts vs ds ps
  | [], [], [], ps, _, h, _ => h
  | t :: ts, v :: vs, d :: ds, ps, hr, h, hp => by
    obtain ⟨p, q, h1, h2, rfl⟩ := h
    obtain ⟨r1, r2⟩ := hr t (by simp)
    exact ⟨p, q, Go.RowKit.Below.trod hl r1 r2 h1 hb (fun x hx => hp x (List.mem_append_left _ hx)), trodAll_below hl hb (fun t ht => hr t (List.mem_cons_of_mem _ ht)) h2 (fun x hx => hp x (List.mem_append_right _ hx)), rfl⟩
  | [], _ :: _, _, _, _, h, _ => by simp [DataW.TrodAll] at h
  | [], [], _ :: _, _, _, h, _ => by simp [DataW.TrodAll] at h
  | _ :: _, [], _, _, _, h, _ => by simp [DataW.TrodAll] at h
  | _ :: _, _ :: _, [], _, _, h, _ => by simp [DataW.TrodAll] at h

/-- a law's post: true, and all as it was -/
theorem law_post (hlay : laidOutB P = true) {f : Func} {s : ChangeSpec} {W W' : World} {args : Array Value} {ds gs : List (DataW H)} {before : List MemPlace} {tb : TypeId} (hvars : s.vars = [])
    (hW : DataW.Whole enc P f.params.toList s.vars false W args.toList ds gs before) (hb : Below W.heap.size W W') (hres : f.resultTypes = #[tb]) (htb : P.underlying tb = some .bool)
    (hread : ∀ t, t ∈ f.params.toList → P.readableRec t = true ∧ t < P.types.size) (hfn : s.fn H (ds ++ gs) = { results := [.lit (.bool true)], args := ds }) :
    s.post enc P f false true false false W args (.bool true) W' := by
  have hW' := hW
  obtain ⟨p, q, hA, hV, rfl, _⟩ := hW
  rw [hvars] at hV
  cases gs with
  | cons g gs => simp [DataW.TrodVars] at hV
  | nil =>
    simp only [DataW.TrodVars] at hV
    subst hV
    have hlt : ∀ x, x ∈ p → x.block < W.heap.size := fun x hx => by simpa using hW'.lt x (by simp [hx])
    refine ⟨ds, [], p ++ [], [], p, [], hW', ?_, ?_, ?_, kept_of_below hb _, fun h => by cases h⟩
    · rw [hfn, hres]
      exact ⟨[], [], ⟨1, by simp [DataW.trod, htb, Value.cells]⟩, rfl, rfl⟩
    · rw [hfn]
      exact trodAll_below hlay hb hread hA hlt
    · rw [hvars, hfn]; exact rfl

/-- what a contract of ours gives a law's row -/
theorem PCall.law {P : Program} {k : FuncId} {args : List PV} (h : PCall P k args [] [] (Ret (.t (.bool true)))) {W : World} {vs : Array Value} (hs : vs.size = args.length)
    (hv : ∀ (j : Nat) x v, args[j]? = some x → vs[j]? = some v → VR (fun b => b < W.heap.size) (fun _ => undef) W x v) (hg : GLP P (fun b => b < W.heap.size) W) :
    Calls P k vs W fun e W' => e = .returned (.bool true) ∧ Below W.heap.size W W' := by
  refine (h (fun b => b < W.heap.size) (fun _ => undef) W vs hs hv ⟨by simp, by simp, by simp⟩ (fun _ h => h) hg).mono ?_
  rintro e w' ⟨v, r, H', F', g', rfl, hr, hvr, hW⟩
  unfold Ret at hr
  subst hr
  have := hvr.inv_bool
  subst this
  exact ⟨rfl, ⟨hW.ext.os, hW.ext.tape, hW.ext.output, hW.ext.size, fun b hb => hW.ext.block b hb (by rintro ⟨o, x, hx, _⟩; simp at hx)⟩⟩
end

end Go.PL
namespace Go.PL
open Go Go.RowKit
set_option maxRecDepth 20000

theorem o22 {H : Type} {enc : TypeId × Value → H} {W : World} (fuel : Nat) : Opens enc Proofs.Tryz.prog W 22 (fun xs => [eL cInt (xs)]) (okL 8 inI64) fuel := by
  cases fuel with
  | zero => exact opens_zero
  | succ fuel => exact opens_slice Proofs.Tryz.underlying22 (by kernel_rfl) (by kernel_rfl) (opens_int Proofs.Tryz.underlying3 fuel) (fun xs => eL cInt (xs)) (fun _ => rfl)
inductive okExpr : Expr → Prop
  | mk0 {a b : Int} {s : ByteArray} {l : List Expr} (ha : inI64 a) (hb : inI64 b) (hs : okStr s) (hn : l.length ≤ 1048576) (hl : ∀ x, x ∈ l → okExpr x) : okExpr (.mk a b s l)
theorem okExpr.mk {a b : Int} {s : ByteArray} {l : List Expr} (ha : inI64 a) (hb : inI64 b) (hs : okStr s) (hl : okL 56 okExpr l) : okExpr (.mk a b s l) := .mk0 ha hb hs hl.1 hl.2
theorem oExpr {H : Type} {enc : TypeId × Value → H} {W : World} : ∀ fuel, Opens enc Proofs.Tryz.prog W 116 exprCells okExpr fuel ∧ Opens enc Proofs.Tryz.prog W 23 (fun xs => [.lz (.exprs xs)]) (okL 56 okExpr) fuel
  | 0 => ⟨opens_zero, opens_zero⟩
  | fuel + 1 => by
    have ih := oExpr (enc := enc) (W := W) fuel
    exact ⟨(opens_struct Proofs.Tryz.underlying116 (opensF_cons (by kernel_rfl) (opens_int Proofs.Tryz.underlying3 fuel) (opensF_cons (by kernel_rfl) (opens_int Proofs.Tryz.underlying3 fuel) (opensF_cons (by kernel_rfl) (opens_string Proofs.Tryz.underlying9 fuel) (opensF_cons (by kernel_rfl) ih.2 opensF_nil)))) (by kernel_rfl)).map (fun x => Expr.mk x.1 x.2.1 x.2.2.1 x.2.2.2.1) (fun _ => rfl) (fun x h => .mk h.1 h.2.1 h.2.2.1 h.2.2.2.1), opens_slice Proofs.Tryz.underlying23 (by kernel_rfl) (by kernel_rfl) ih.1 (fun xs => .lz (.exprs xs)) (fun _ => rfl)⟩
def okGAgg (x : GAgg) : Prop := inI64 x.Kind ∧ inI64 x.Col ∧ okStr x.Name
theorem o170 {H : Type} {enc : TypeId × Value → H} {W : World} (fuel : Nat) : Opens enc Proofs.Tryz.prog W 170 cGAgg okGAgg fuel := by
  cases fuel with
  | zero => exact opens_zero
  | succ fuel => exact (opens_struct Proofs.Tryz.underlying170 (opensF_cons (by kernel_rfl) (opens_int Proofs.Tryz.underlying3 fuel) (opensF_cons (by kernel_rfl) (opens_int Proofs.Tryz.underlying3 fuel) (opensF_cons (by kernel_rfl) (opens_string Proofs.Tryz.underlying9 fuel) opensF_nil))) (by kernel_rfl)).map (fun x => GAgg.mk x.1 x.2.1 x.2.2.1) (fun _ => rfl) (fun x h => ⟨h.1, h.2.1, h.2.2.1⟩)
theorem o24 {H : Type} {enc : TypeId × Value → H} {W : World} (fuel : Nat) : Opens enc Proofs.Tryz.prog W 24 (fun xs => [eL cGAgg (xs)]) (okL 32 okGAgg) fuel := by
  cases fuel with
  | zero => exact opens_zero
  | succ fuel => exact opens_slice Proofs.Tryz.underlying24 (by kernel_rfl) (by kernel_rfl) (o170 fuel) (fun xs => eL cGAgg (xs)) (fun _ => rfl)
def okGPat (x : GPat) : Prop := okExpr x.Pred ∧ inI64 x.Rep
theorem o121 {H : Type} {enc : TypeId × Value → H} {W : World} (fuel : Nat) : Opens enc Proofs.Tryz.prog W 121 cGPat okGPat fuel := by
  cases fuel with
  | zero => exact opens_zero
  | succ fuel => exact (opens_struct Proofs.Tryz.underlying121 (opensF_cons (by kernel_rfl) (oExpr fuel).1 (opensF_cons (by kernel_rfl) (opens_int Proofs.Tryz.underlying3 fuel) opensF_nil)) (by kernel_rfl)).map (fun x => GPat.mk x.1 x.2.1) (fun _ => rfl) (fun x h => ⟨h.1, h.2.1⟩)
theorem o25 {H : Type} {enc : TypeId × Value → H} {W : World} (fuel : Nat) : Opens enc Proofs.Tryz.prog W 25 (fun xs => [eL cGPat (xs)]) (okL 64 okGPat) fuel := by
  cases fuel with
  | zero => exact opens_zero
  | succ fuel => exact opens_slice Proofs.Tryz.underlying25 (by kernel_rfl) (by kernel_rfl) (o121 fuel) (fun xs => eL cGPat (xs)) (fun _ => rfl)
def okGCol (x : GCol) : Prop := okStr x.Name ∧ inI64 x.Type_ ∧ okStr x.Unit
theorem o261 {H : Type} {enc : TypeId × Value → H} {W : World} (fuel : Nat) : Opens enc Proofs.Tryz.prog W 261 cGCol okGCol fuel := by
  cases fuel with
  | zero => exact opens_zero
  | succ fuel => exact (opens_struct Proofs.Tryz.underlying261 (opensF_cons (by kernel_rfl) (opens_string Proofs.Tryz.underlying9 fuel) (opensF_cons (by kernel_rfl) (opens_int Proofs.Tryz.underlying3 fuel) (opensF_cons (by kernel_rfl) (opens_string Proofs.Tryz.underlying9 fuel) opensF_nil))) (by kernel_rfl)).map (fun x => GCol.mk x.1 x.2.1 x.2.2.1) (fun _ => rfl) (fun x h => ⟨h.1, h.2.1, h.2.2.1⟩)
theorem o26 {H : Type} {enc : TypeId × Value → H} {W : World} (fuel : Nat) : Opens enc Proofs.Tryz.prog W 26 (fun xs => [eL cGCol (xs)]) (okL 40 okGCol) fuel := by
  cases fuel with
  | zero => exact opens_zero
  | succ fuel => exact opens_slice Proofs.Tryz.underlying26 (by kernel_rfl) (by kernel_rfl) (o261 fuel) (fun xs => eL cGCol (xs)) (fun _ => rfl)
def okGNode (x : GNode) : Prop := inI64 x.Op ∧ okL 8 inI64 x.In ∧ okStr x.Source ∧ inI64 x.Schema ∧ okL 56 okExpr x.Exprs ∧ inI64 x.Kind ∧ inI64 x.Size ∧ inI64 x.Step ∧ okL 8 inI64 x.Key ∧ okL 8 inI64 x.Key2 ∧ inI64 x.Before ∧ inI64 x.After ∧ inI64 x.Keep ∧ okL 32 okGAgg x.Aggs ∧ okL 64 okGPat x.Seq ∧ okL 40 okGCol x.Cols
theorem o28 {H : Type} {enc : TypeId × Value → H} {W : World} (fuel : Nat) : Opens enc Proofs.Tryz.prog W 28 cGNode okGNode fuel := by
  cases fuel with
  | zero => exact opens_zero
  | succ fuel => exact (opens_struct Proofs.Tryz.underlying28 (opensF_cons (by kernel_rfl) (opens_int Proofs.Tryz.underlying3 fuel) (opensF_cons (by kernel_rfl) (o22 fuel) (opensF_cons (by kernel_rfl) (opens_string Proofs.Tryz.underlying9 fuel) (opensF_cons (by kernel_rfl) (opens_int Proofs.Tryz.underlying3 fuel) (opensF_cons (by kernel_rfl) (oExpr fuel).2 (opensF_cons (by kernel_rfl) (opens_int Proofs.Tryz.underlying3 fuel) (opensF_cons (by kernel_rfl) (opens_int Proofs.Tryz.underlying3 fuel) (opensF_cons (by kernel_rfl) (opens_int Proofs.Tryz.underlying3 fuel) (opensF_cons (by kernel_rfl) (o22 fuel) (opensF_cons (by kernel_rfl) (o22 fuel) (opensF_cons (by kernel_rfl) (opens_int Proofs.Tryz.underlying3 fuel) (opensF_cons (by kernel_rfl) (opens_int Proofs.Tryz.underlying3 fuel) (opensF_cons (by kernel_rfl) (opens_int Proofs.Tryz.underlying3 fuel) (opensF_cons (by kernel_rfl) (o24 fuel) (opensF_cons (by kernel_rfl) (o25 fuel) (opensF_cons (by kernel_rfl) (o26 fuel) opensF_nil)))))))))))))))) (by kernel_rfl)).map (fun x => GNode.mk x.1 x.2.1 x.2.2.1 x.2.2.2.1 x.2.2.2.2.1 x.2.2.2.2.2.1 x.2.2.2.2.2.2.1 x.2.2.2.2.2.2.2.1 x.2.2.2.2.2.2.2.2.1 x.2.2.2.2.2.2.2.2.2.1 x.2.2.2.2.2.2.2.2.2.2.1 x.2.2.2.2.2.2.2.2.2.2.2.1 x.2.2.2.2.2.2.2.2.2.2.2.2.1 x.2.2.2.2.2.2.2.2.2.2.2.2.2.1 x.2.2.2.2.2.2.2.2.2.2.2.2.2.2.1 x.2.2.2.2.2.2.2.2.2.2.2.2.2.2.2.1) (fun _ => rfl) (fun x h => ⟨h.1, h.2.1, h.2.2.1, h.2.2.2.1, h.2.2.2.2.1, h.2.2.2.2.2.1, h.2.2.2.2.2.2.1, h.2.2.2.2.2.2.2.1, h.2.2.2.2.2.2.2.2.1, h.2.2.2.2.2.2.2.2.2.1, h.2.2.2.2.2.2.2.2.2.2.1, h.2.2.2.2.2.2.2.2.2.2.2.1, h.2.2.2.2.2.2.2.2.2.2.2.2.1, h.2.2.2.2.2.2.2.2.2.2.2.2.2.1, h.2.2.2.2.2.2.2.2.2.2.2.2.2.2.1, h.2.2.2.2.2.2.2.2.2.2.2.2.2.2.2.1⟩)
theorem o29 {H : Type} {enc : TypeId × Value → H} {W : World} (fuel : Nat) : Opens enc Proofs.Tryz.prog W 29 (fun xs => [eL cL_cInt (xs)]) (okL 24 (okL 8 inI64)) fuel := by
  cases fuel with
  | zero => exact opens_zero
  | succ fuel => exact opens_slice Proofs.Tryz.underlying29 (by kernel_rfl) (by kernel_rfl) (o22 fuel) (fun xs => eL cL_cInt (xs)) (fun _ => rfl)
def okGValue (x : GValue) : Prop := inI64 x.Kind ∧ inI64 x.N ∧ okStr x.S
theorem o103 {H : Type} {enc : TypeId × Value → H} {W : World} (fuel : Nat) : Opens enc Proofs.Tryz.prog W 103 cGValue okGValue fuel := by
  cases fuel with
  | zero => exact opens_zero
  | succ fuel => exact (opens_struct Proofs.Tryz.underlying103 (opensF_cons (by kernel_rfl) (opens_int Proofs.Tryz.underlying3 fuel) (opensF_cons (by kernel_rfl) (opens_int Proofs.Tryz.underlying3 fuel) (opensF_cons (by kernel_rfl) (opens_string Proofs.Tryz.underlying9 fuel) opensF_nil))) (by kernel_rfl)).map (fun x => GValue.mk x.1 x.2.1 x.2.2.1) (fun _ => rfl) (fun x h => ⟨h.1, h.2.1, h.2.2.1⟩)
theorem o55 {H : Type} {enc : TypeId × Value → H} {W : World} (fuel : Nat) : Opens enc Proofs.Tryz.prog W 55 (fun xs => [eL cGValue (xs)]) (okL 32 okGValue) fuel := by
  cases fuel with
  | zero => exact opens_zero
  | succ fuel => exact opens_slice Proofs.Tryz.underlying55 (by kernel_rfl) (by kernel_rfl) (o103 fuel) (fun xs => eL cGValue (xs)) (fun _ => rfl)
def okGDelta (x : GDelta) : Prop := inI64 x.Time ∧ okL 32 okGValue x.Row ∧ inI64 x.N
theorem o57 {H : Type} {enc : TypeId × Value → H} {W : World} (fuel : Nat) : Opens enc Proofs.Tryz.prog W 57 cGDelta okGDelta fuel := by
  cases fuel with
  | zero => exact opens_zero
  | succ fuel => exact (opens_struct Proofs.Tryz.underlying57 (opensF_cons (by kernel_rfl) (opens_int Proofs.Tryz.underlying3 fuel) (opensF_cons (by kernel_rfl) (o55 fuel) (opensF_cons (by kernel_rfl) (opens_int Proofs.Tryz.underlying3 fuel) opensF_nil))) (by kernel_rfl)).map (fun x => GDelta.mk x.1 x.2.1 x.2.2.1) (fun _ => rfl) (fun x h => ⟨h.1, h.2.1, h.2.2.1⟩)
theorem o38 {H : Type} {enc : TypeId × Value → H} {W : World} (fuel : Nat) : Opens enc Proofs.Tryz.prog W 38 (fun xs => [eL cGDelta (xs)]) (okL 40 okGDelta) fuel := by
  cases fuel with
  | zero => exact opens_zero
  | succ fuel => exact opens_slice Proofs.Tryz.underlying38 (by kernel_rfl) (by kernel_rfl) (o57 fuel) (fun xs => eL cGDelta (xs)) (fun _ => rfl)
def okGAct (x : GAct) : Prop := inI64 x.Do ∧ inI64 x.C ∧ okL 40 okGDelta x.L
theorem o41 {H : Type} {enc : TypeId × Value → H} {W : World} (fuel : Nat) : Opens enc Proofs.Tryz.prog W 41 cGAct okGAct fuel := by
  cases fuel with
  | zero => exact opens_zero
  | succ fuel => exact (opens_struct Proofs.Tryz.underlying41 (opensF_cons (by kernel_rfl) (opens_int Proofs.Tryz.underlying3 fuel) (opensF_cons (by kernel_rfl) (opens_int Proofs.Tryz.underlying3 fuel) (opensF_cons (by kernel_rfl) (o38 fuel) opensF_nil))) (by kernel_rfl)).map (fun x => GAct.mk x.1 x.2.1 x.2.2.1) (fun _ => rfl) (fun x h => ⟨h.1, h.2.1, h.2.2.1⟩)
theorem o30 {H : Type} {enc : TypeId × Value → H} {W : World} (fuel : Nat) : Opens enc Proofs.Tryz.prog W 30 (fun xs => [eL cGAct (xs)]) (okL 40 okGAct) fuel := by
  cases fuel with
  | zero => exact opens_zero
  | succ fuel => exact opens_slice Proofs.Tryz.underlying30 (by kernel_rfl) (by kernel_rfl) (o41 fuel) (fun xs => eL cGAct (xs)) (fun _ => rfl)

end Go.PL
namespace Go.PL
open Go
set_option linter.unusedVariables false
set_option maxRecDepth 20000

/-- a loop that counts -/
theorem sq_count {S R : Type} {b : Bool} {bd : S → Option (S ⊕ R)} (idx : S → Int) (N : Nat) (hN : N ≤ 1000000000000000) (I : S → Prop) {Q : R → Prop}
    (h : ∀ s (k : Nat), I s → idx s = k → k ≤ N → Sq b (bd s) (sel (fun s' => idx s' = IntKind.i64.wrap ((k : Int) + 1) ∧ k < N ∧ I s') Q)) {s : S} (hs : I s) (h0 : idx s = 0) : Sq b (whileM bd s) Q := by
  refine Sq.while (fun s => I s ∧ ∃ k : Nat, idx s = k ∧ k ≤ N) (fun s => N - (idx s).toNat) (fun s hs => ?_) ⟨hs, 0, h0, by omega⟩
  obtain ⟨hI, k, hk, hkN⟩ := hs
  refine (h s k hI hk hkN).imp fun z hz => ?_
  cases z with
  | inr r => exact hz
  | inl s' =>
    obtain ⟨q1, q2, q3⟩ := hz
    rw [wrap_inc (by omega)] at q1
    exact ⟨⟨q3, k + 1, q1, by omega⟩, by rw [q1, hk]; omega⟩

theorem okExpr.len {e : Expr} (h : okExpr e) : e.Args.length ≤ 1048576 := by cases h; assumption
theorem okExpr.arg {e : Expr} (h : okExpr e) : ∀ x, x ∈ e.Args → okExpr x := by cases h; assumption
theorem sizeOf_arg {e x : Expr} (h : x ∈ e.Args) : SizeOf.sizeOf x < SizeOf.sizeOf e := by
  cases e with
  | mk a b s l =>
    have := List.sizeOf_lt_of_mem h
    simp only [Expr.Args] at this
    simp only [Expr.mk.sizeOf_spec]
    omega
theorem G79_sp (e : Expr) (h : okExpr e) : Sp (G79 e) (fun _ => True) := by
  refine fixF_sq (C := fun (a : Expr) (x : Option Int) => Con Proofs.Tryz.prog 79 [.t (eExpr a)] x (fun (y : Int) => .t (.int .i64 (y)))) (fun a => ⟨callable_of Proofs.Tryz.func79 (by kernel_rfl), fun _ h => nomatch h⟩) (fun rec a => T79 rec a) (fun rec a => T79_ok rec a)
    okExpr (fun e => SizeOf.sizeOf e) (fun _ _ => True) (fun b f e he hrec => ?_) true e h
  have hl := he.len
  unfold T79
  simp only [Tr.den, sq_bind]
  refine sq_count (fun s : Int × Int => s.2) e.Args.length (by omega) (fun _ => True) (fun s k _ hk hkN => ?_) trivial rfl
  obtain ⟨v1, v2⟩ := s
  simp only at hk
  subst hk
  unfold T79_L0
  simp only [Tr.den, Int.toNat_natCast]
  by_cases hc : k < e.Args.length
  · rw [if_pos (decT (by omega)), if_pos (by omega)]
    refine Sq.bind _ (hrec _ (he.arg _ (getD_mem hc)) (sizeOf_arg (getD_mem hc))) fun r _ => sq_some.2 ⟨rfl, hc, trivial⟩
  · rw [if_neg (decF (by omega))]
    exact sq_some.2 (sq_some.2 trivial)
theorem G80_sp (e : Expr) (h : okExpr e) : Sp (G80 e) (fun _ => True) := by
  refine fixF_sq (C := fun (a : Expr) (x : Option Int) => Con Proofs.Tryz.prog 80 [.t (eExpr a)] x (fun (y : Int) => .t (.int .i64 (y)))) (fun a => ⟨callable_of Proofs.Tryz.func80 (by kernel_rfl), fun _ h => nomatch h⟩) (fun rec a => T80 rec a) (fun rec a => T80_ok rec a)
    okExpr (fun e => SizeOf.sizeOf e) (fun _ _ => True) (fun b f e he hrec => ?_) true e h
  have hl := he.len
  unfold T80
  simp only [Tr.den, sq_bind]
  refine sq_count (fun s : Int × Int => s.2) e.Args.length (by omega) (fun _ => True) (fun s k _ hk hkN => ?_) trivial rfl
  obtain ⟨v1, v2⟩ := s
  simp only at hk
  subst hk
  unfold T80_L0
  simp only [Tr.den, Int.toNat_natCast]
  by_cases hc : k < e.Args.length
  · rw [if_pos (decT (by omega)), if_pos (by omega)]
    refine Sq.bind _ (hrec _ (he.arg _ (getD_mem hc)) (sizeOf_arg (getD_mem hc))) fun r _ => sq_some.2 ⟨rfl, hc, trivial⟩
  · rw [if_neg (decF (by omega))]
    exact sq_some.2 (sq_some.2 trivial)
theorem G150_sp (fs : List Int) (e : Expr) (hf : fs.length ≤ 1000000) (h : okExpr e) : Sp (G150 fs e) (fun _ => True) := by
  refine fixF_sq (C := fun (a : (List Int) × Expr) (x : Option Int) => Con Proofs.Tryz.prog 150 [.t (eL cInt (a.1)), .t (eExpr a.2)] x (fun (y : Int) => .t (.int .i64 (y)))) (fun a => ⟨callable_of Proofs.Tryz.func150 (by kernel_rfl), fun _ h => nomatch h⟩) (fun rec a => T150 rec a.1 a.2) (fun rec a => T150_ok rec a.1 a.2)
    (fun a => a.1.length ≤ 1000000 ∧ okExpr a.2) (fun a => SizeOf.sizeOf a.2) (fun _ _ => True) (fun b f a ha hrec => ?_) true (fs, e) ⟨hf, h⟩
  obtain ⟨fs, e⟩ := a
  obtain ⟨hf, he⟩ := ha
  simp only at hf he hrec ⊢
  have hl := he.len
  unfold T150
  simp only [Tr.den, sq_bind]
  refine sq_count (fun s : List Int × Int => s.2) e.Args.length (by omega) (fun s => s.1.length = s.2.toNat) (fun s k hI hk hkN => ?_) rfl rfl
  obtain ⟨v1, v2⟩ := s
  simp only at hk hI
  subst hk
  unfold T150_L0
  simp only [Tr.den, Int.toNat_natCast] at hI ⊢
  by_cases hc : k < e.Args.length
  · rw [if_pos (decT (by omega)), if_pos (by omega)]
    refine Sq.bind _ (hrec (fs, e.Args.getD k default) ⟨hf, he.arg _ (getD_mem hc)⟩ (sizeOf_arg (getD_mem hc))) fun r _ => ?_
    rw [if_pos (by simp only [List.length_cons, List.length_nil]; omega)]
    refine sq_some.2 ⟨rfl, hc, ?_⟩
    rw [wrap_inc (by omega)]; simp; omega
  · rw [if_neg (decF (by omega))]
    refine sq_some.2 ?_
    simp only [sel]
    have hv : v1.length = e.Args.length := by omega
    -- the second half
    have rest : Sq b ((whileM (fun s => (T150_L1 s).den) (1, v1, 0)).bind (sel (fun b10 => ((if (e.Op == 22) = true then (if decide (e.N ≥ 0) = true then some (decide (e.N < (fs.length : Int))) else some false) else some false)).bind fun j11 =>
        ((if j11 = true then (if 0 ≤ e.N ∧ e.N < (fs.length : Int) then some (if (1099511627776 : Int) < IntKind.i64.wrap (b10 + fs.getD e.N.toNat default) then (1099511627776 : Int) else IntKind.i64.wrap (b10 + fs.getD e.N.toNat default)) else none) else some b10)).bind fun j12 => some j12) some)) (fun _ => True) := by
      rw [sq_bind]
      refine sq_count (fun s : Int × List Int × Int => s.2.2) v1.length (by omega) (fun s => s.2.1 = v1) (fun s k hI hk hkN => ?_) rfl rfl
      obtain ⟨w1, w2, w3⟩ := s
      simp only at hk hI
      subst hk hI
      unfold T150_L1
      simp only [Tr.den, Int.toNat_natCast]
      by_cases hc : k < w2.length
      · rw [if_pos (decT (by omega)), if_pos (by omega), if_pos hc]
        exact sq_some.2 ⟨rfl, hc, rfl⟩
      · rw [if_neg (decF (by omega))]
        refine sq_some.2 ?_
        simp only [sel, dec_and]
        by_cases h22 : (e.Op == 22) = true
        · rw [if_pos h22]
          simp only [Option.bind_some]
          by_cases hr : e.N ≥ 0 ∧ e.N < (fs.length : Int)
          · rw [if_pos (decT hr), if_pos hr]; exact sq_some.2 trivial
          · rw [if_neg (decF hr)]; exact sq_some.2 trivial
        · rw [if_neg h22]; exact sq_some.2 trivial
    by_cases h21 : (e.Op == 21) = true
    · rw [if_pos h21]
      simp only [Option.bind_some]
      by_cases h3 : ((v1.length : Int) == 3) = true
      · rw [if_pos h3]
        have h3' : v1.length = 3 := by have := beq_iff_eq.1 h3; omega
        rw [if_pos (by omega), if_pos (by simp; omega), if_pos (by omega), if_pos (by simp; omega), if_pos (by omega), if_pos (by simp; omega)]
        exact sq_some.2 trivial
      · rw [if_neg h3]; exact rest
    · rw [if_neg h21]
      simp only [Option.bind_some, Bool.false_eq_true, if_false]
      exact rest
theorem G81_sp (e : Expr) (h : okExpr e) : Sp (G81 [] e) (fun _ => True) := by
  unfold G81 T81
  simp only [Tr.den]
  rw [whileM_stop (r := .inl []) (by unfold T81_L0; simp [Tr.den])]
  simp only [Option.bind_some, sel, sq_bind]
  exact (G150_sp [] e (by simp) h).imp fun _ _ => sq_some.2 trivial

/-! ### small -/
theorem okEs.get {l : List Expr} (h : okL 56 okExpr l) {k : Nat} (hk : k < l.length) : okExpr (l.getD k default) := h.2 _ (getD_mem hk)
theorem G33_sp (n : GNode) (h : okGNode n) : Sp (G33 [] n) (fun r => r = true → n.Key.length ≤ 20 ∧ n.Key2.length ≤ 20) := by
  obtain ⟨_, _, _, _, hE, _, _, _, _, _, _, _, _, _, hS, _⟩ := h
  have hE1 := hE.1
  have hS1 := hS.1
  unfold G33 T33
  simp only [Tr.den]
  rw [whileM_stop (r := .inl ()) (by unfold T33_L0; simp [Tr.den])]
  simp only [Option.bind_some, sel, sq_bind]
  refine sq_count (fun s : Int => s) n.Exprs.length (by omega) (fun _ => True) (fun s k _ hk hkN => ?_) trivial rfl
  subst hk
  unfold T33_L1
  simp only [Tr.den, Int.toNat_natCast, dec_and, Option.bind_some]
  by_cases hc : ((k : Int) < (n.Exprs.length : Int)) ∧ (k : Int) < 13
  · rw [if_pos (decT hc), if_pos (by omega)]
    have he := okEs.get hE (show k < n.Exprs.length by omega)
    refine Sq.bind _ (G79_sp _ he) fun r _ => ?_
    refine Sq.bind (fun _ => True) ?_ (fun j _ => ?_)
    · by_cases h1 : r > 200
      · rw [if_pos (decT h1)]; exact sq_some.2 trivial
      · rw [if_neg (decF h1), if_pos (by omega)]
        refine Sq.bind _ (G80_sp _ he) fun r _ => ?_
        by_cases h2 : r > 12
        · rw [if_pos (decT h2)]; exact sq_some.2 trivial
        · rw [if_neg (decF h2), if_pos (by omega)]
          refine Sq.bind _ (G81_sp _ he) fun r _ => sq_some.2 trivial
    · cases j with
      | true => exact sq_some.2 (sq_some.2 fun h => by cases h)
      | false => exact sq_some.2 ⟨rfl, by omega, trivial⟩
  · rw [if_neg (decF hc)]
    refine sq_some.2 ?_
    simp only [sel, sq_bind]
    refine sq_count (fun s : Int => s) n.Seq.length (by omega) (fun _ => True) (fun s k _ hk hkN => ?_) trivial rfl
    subst hk
    unfold T33_L2
    simp only [Tr.den, Int.toNat_natCast, dec_and, Option.bind_some]
    by_cases hc : ((k : Int) < (n.Seq.length : Int)) ∧ (k : Int) < 9
    · rw [if_pos (decT hc), if_pos (by omega)]
      have he : okExpr (n.Seq.getD k default).Pred := (hS.2 _ (getD_mem (show k < n.Seq.length by omega))).1
      refine Sq.bind _ (G79_sp _ he) fun r _ => ?_
      refine Sq.bind (fun _ => True) ?_ (fun j _ => ?_)
      · by_cases h1 : r > 200
        · rw [if_pos (decT h1)]; exact sq_some.2 trivial
        · rw [if_neg (decF h1), if_pos (by omega)]
          refine Sq.bind _ (G80_sp _ he) fun r _ => ?_
          by_cases h2 : r > 12
          · rw [if_pos (decT h2)]; exact sq_some.2 trivial
          · rw [if_neg (decF h2), if_pos (by omega)]
            refine Sq.bind _ (G81_sp _ he) fun r _ => sq_some.2 trivial
      · cases j with
        | true => exact sq_some.2 (sq_some.2 fun h => by cases h)
        | false => exact sq_some.2 ⟨rfl, by omega, trivial⟩
    · rw [if_neg (decF hc)]
      refine sq_some.2 ?_
      simp only [sel]
      refine sq_some.2 fun h => ?_
      have h := of_decide_eq_true h
      omega
end Go.PL
namespace Go.PL
open Go
set_option linter.unusedVariables false
set_option maxRecDepth 20000

theorem G82_nil : G82 [] = some true := by
  unfold G82 T82
  simp only [Tr.den]
  rw [whileM_stop (r := .inl ()) (by unfold T82_L0; simp [Tr.den])]
  rfl
theorem G153_eq (a b c : Int) : G153 a b c = some (decide (b ≤ a ∧ a ≤ c)) := by
  unfold G153 T153
  simp only [Tr.den, dec_and, Option.bind_some]
theorem G88_sp (l types : List Int) (h : l.length ≤ 1048576) : Sp (G88 l types) (fun r => r = true → ∀ c, c ∈ l → 0 ≤ c ∧ c < types.length) := by
  unfold G88 T88
  simp only [Tr.den, sq_bind]
  refine sq_count (fun s : Int => s) l.length (by omega) (fun s => ∀ c, c ∈ l.take s.toNat → 0 ≤ c ∧ c < types.length) (fun s k hI hk hkN => ?_) (by simp) rfl
  subst hk
  unfold T88_L0
  simp only [Tr.den, Int.toNat_natCast] at hI ⊢
  by_cases hc : k < l.length
  · rw [if_pos (decT (by omega)), if_pos (by omega)]
    by_cases h1 : l.getD k default < 0
    · rw [if_pos (decT h1)]
      exact sq_some.2 (sq_some.2 fun h => by cases h)
    · rw [if_neg (decF h1), if_pos (by omega)]
      simp only [Option.bind_some]
      by_cases h2 : l.getD k default ≥ types.length
      · rw [if_pos (decT h2)]
        exact sq_some.2 (sq_some.2 fun h => by cases h)
      · rw [if_neg (decF h2)]
        refine sq_some.2 ⟨rfl, hc, fun c hcm => ?_⟩
        rw [wrap_inc (by omega), Int.toNat_natCast, take_succ_getD hc, List.mem_append, List.mem_singleton] at hcm
        rcases hcm with hcm | rfl
        · exact hI c hcm
        · omega
  · rw [if_neg (decF (by omega))]
    refine sq_some.2 (sq_some.2 fun _ => ?_)
    rwa [List.take_of_length_le (by omega)] at hI
theorem G90_sp (n : GNode) (a b : List Int) (h : n.Key.length ≤ 1048576) (ha : ∀ c, c ∈ n.Key → 0 ≤ c ∧ c < a.length) (hb : ∀ c, c ∈ n.Key2 → 0 ≤ c ∧ c < b.length) : Sp (G90 n a b) (fun _ => True) := by
  unfold G90 T90
  simp only [Tr.den]
  by_cases hl : (n.Key.length : Int) = n.Key2.length
  · rw [if_neg (bneF hl)]
    refine sq_bind.2 ?_
    refine sq_count (fun s : Int => s) n.Key.length (by omega) (fun s => True) (fun s k hI hk hkN => ?_) trivial rfl
    subst hk
    unfold T90_L0
    simp only [Tr.den, Int.toNat_natCast]
    by_cases hc : k < n.Key.length
    · have h1 := ha _ (getD_mem hc)
      have h2 := hb _ (getD_mem (show k < n.Key2.length by omega))
      rw [if_pos (decT (by omega)), if_pos (by omega), if_pos h1, if_pos (by omega), if_pos h2]
      split
      · exact sq_some.2 (sq_some.2 trivial)
      · exact sq_some.2 ⟨rfl, hc, trivial⟩
    · rw [if_neg (decF (by omega))]
      exact sq_some.2 (sq_some.2 trivial)
  · rw [if_pos (bneT hl)]; exact sq_some.2 trivial
structure RightN (n : GNode) (a b : List Int) : Prop where
  op : (n.Op = 6 ∧ okB n) ∨ (n.Op = 7 ∧ 1 ≤ n.Keep ∧ n.Keep ≤ 10000)
  k1 : ∀ c, c ∈ n.Key → 0 ≤ c ∧ c < a.length
  k2 : ∀ c, c ∈ n.Key2 → 0 ≤ c ∧ c < b.length
  la : a.length ≤ 12
  lb : b.length ≤ 12
theorem G83_sp (n : GNode) (hop : n.Op = 6 ∨ n.Op = 7) : Sp (G83 n) (fun r => r = true → (n.Op = 6 ∧ okB n) ∨ (n.Op = 7 ∧ 1 ≤ n.Keep ∧ n.Keep ≤ 10000)) := by
  unfold G83 T83
  simp only [Tr.den, G153_eq, Option.bind_some]
  rw [if_neg (beqF (by omega)), if_neg (beqF (by omega))]
  rcases hop with h | h
  · rw [if_pos (beqT h)]
    by_cases h1 : 0 ≤ n.Before ∧ n.Before ≤ 10000
    · rw [if_pos (decT h1)]
      exact sq_some.2 fun h2 => .inl ⟨h, h1, of_decide_eq_true h2⟩
    · rw [if_neg (decF h1)]
      exact sq_some.2 fun h => by cases h
  · rw [if_neg (beqF (by omega)), if_pos (beqT h)]
    exact sq_some.2 fun h2 => .inr ⟨h, of_decide_eq_true h2⟩
theorem G84_eq (n : GNode) (hop : n.Op = 6 ∨ n.Op = 7) : G84 n = some 2 := by
  unfold G84 T84
  simp only [Tr.den]
  rcases hop with h | h <;> simp [h]
theorem G34_sp (n : GNode) (a b : List Int) (hop : n.Op = 6 ∨ n.Op = 7) (h1 : n.Key.length ≤ 1048576) (h2 : n.Key2.length ≤ 1048576) (ha : a.length ≤ 1048576) (hb : b.length ≤ 1048576) : Sp (G34 [] n [a, b]) (fun r => r = true → RightN n a b) := by
  unfold G34 T34
  simp only [Tr.den]
  rw [G82_nil]
  simp only [Option.bind_some, Bool.not_true, Bool.false_eq_true, if_false]
  refine Sq.bind (fun j : Bool => j = false → (n.Op = 6 ∧ okB n) ∨ (n.Op = 7 ∧ 1 ≤ n.Keep ∧ n.Keep ≤ 10000)) ?_ (fun j hj => ?_)
  · refine Sq.bind _ (G83_sp n hop) fun r hr => ?_
    cases r with
    | false => exact sq_some.2 fun h => by cases h
    | true =>
      simp only [Bool.not_true, Bool.false_eq_true, if_false]
      rw [G84_eq n hop]
      simp only [Option.bind_some]
      rw [if_neg (bneF (by rfl))]
      exact sq_some.2 fun _ => hr rfl
  · cases j with
    | true => exact sq_some.2 fun h => by cases h
    | false =>
      have hop' := hj rfl
      simp only [Bool.false_eq_true, if_false]
      have w : IntKind.i64.wrap ((([a, b] : List (List Int)).length : Int) - 1) = 1 := by
        show IntKind.i64.wrap (2 - 1) = 1
        rw [wrap_id] <;> omega
      rw [if_pos (by simp), w, if_pos (by simp)]
      have e0 : ([a, b] : List (List Int)).getD (0 : Int).toNat default = a := rfl
      have e1 : ([a, b] : List (List Int)).getD (1 : Int).toNat default = b := rfl
      rw [e0, e1]
      refine Sq.bind (fun j : Bool => j = false → a.length ≤ 12 ∧ b.length ≤ 12) ?_ (fun j hj => ?_)
      · refine sq_iteB (fun _ => sq_some.2 fun h => by cases h) fun _ => sq_iteB (fun _ => sq_some.2 fun h => by cases h) fun q1 => sq_iteB (fun _ => sq_some.2 fun h => by cases h) fun _ => sq_some.2 fun q2 => ?_
        have q1 := of_decide_eq_false q1
        have q2 := of_decide_eq_false q2
        omega
      · cases j with
        | true => exact sq_some.2 fun h => by cases h
        | false =>
          have hlen := hj rfl
          simp only [Bool.false_eq_true, if_false]
          rw [if_neg (beqF (by omega)), if_neg (beqF (by omega)), if_neg (beqF (by omega)), if_neg (beqF (by omega)), if_neg (beqF (by omega))]
          have hor : ((if (n.Op == 6) = true then some (n.Op == 6) else some (n.Op == 7)) : Option Bool) = some true := by
            rcases hop with h | h
            · rw [if_pos (beqT h), h]; rfl
            · rw [if_neg (beqF (by omega)), h]; rfl
          rw [hor]
          simp only [Option.bind_some, if_true]
          refine Sq.bind _ (G88_sp n.Key a h1) fun r hr => ?_
          cases r with
          | false => exact sq_some.2 fun h => by cases h
          | true =>
            simp only [if_true]
            refine Sq.bind (fun r : Bool => r = true → RightN n a b) ?_ (fun r hr => sq_some.2 hr)
            refine Sq.bind _ (G88_sp n.Key2 b h2) fun r hr2 => ?_
            cases r with
            | false => exact sq_some.2 fun h => by cases h
            | true =>
              simp only [if_true]
              refine Sq.bind _ (G90_sp n a b h1 (hr rfl) (hr2 rfl)) fun r _ => ?_
              cases r with
              | false => exact sq_some.2 fun h => by cases h
              | true => exact sq_some.2 fun _ => ⟨hop', hr rfl, hr2 rfl, hlen.1, hlen.2⟩

/-! ### rows that fit -/
theorem G184_sp (v : GValue) : Sp (G184 v) (fun _ => True) := by
  unfold G184 T184
  simp only [Tr.den]
  refine sq_iteB (fun _ => sq_some.2 trivial) fun _ => sq_iteB (fun _ => Sq.bind (fun _ => True) ?_ fun _ _ => sq_some.2 trivial) fun _ => Sq.bind (fun _ => True) ?_ fun _ _ => sq_some.2 trivial
  · exact sq_iteB (fun _ => sq_some.2 trivial) fun _ => sq_some.2 trivial
  · exact sq_iteB (fun _ => sq_iteB (fun _ => sq_some.2 trivial) fun _ => sq_iteB (fun _ => sq_some.2 trivial) fun _ => sq_some.2 trivial) fun _ => sq_some.2 trivial
theorem G149_sp (r : List GValue) (h : r.length ≤ 1048576) : Sp (G149 r) (fun _ => True) := by
  unfold G149 T149
  simp only [Tr.den, sq_bind]
  refine sq_count (fun s : Int => s) r.length (by omega) (fun s => True) (fun s k hI hk hkN => ?_) trivial rfl
  subst hk
  unfold T149_L0
  simp only [Tr.den, Int.toNat_natCast]
  by_cases hc : k < r.length
  · rw [if_pos (decT (by omega)), if_pos (by omega)]
    refine Sq.bind _ (G184_sp _) fun q _ => ?_
    cases q with
    | false => exact sq_some.2 (sq_some.2 trivial)
    | true => exact sq_some.2 ⟨rfl, hc, trivial⟩
  · rw [if_neg (decF (by omega))]
    exact sq_some.2 (sq_some.2 trivial)
theorem G78_sp (r : List GValue) (h : r.length ≤ 1048576) : Sp (G78 r) (fun _ => True) := by
  unfold G78 T78
  simp only [Tr.den]
  refine Sq.bind (fun _ => True) ?_ fun _ _ => sq_some.2 trivial
  exact sq_iteB (fun _ => Sq.bind _ (G149_sp r h) fun _ _ => sq_some.2 trivial) fun _ => sq_some.2 trivial
theorem G30_sp (x : GDelta) (types : List Int) (h : x.Row.length ≤ 1048576) (ht : types.length ≤ 1048576) : Sp (G30 [x] types 1) (fun r => r = true → 0 ≤ x.Time ∧ x.Time ≤ 2199023255552 ∧ x.Row.length = types.length) := by
  unfold G30 T30
  simp only [Tr.den, sq_bind]
  refine sq_count (fun s : Int => s) 1 (by omega) (fun s => 1 ≤ s.toNat → 0 ≤ x.Time ∧ x.Time ≤ 2199023255552 ∧ x.Row.length = types.length) (fun s k hI hk hkN => ?_) (by simp) rfl
  subst hk
  unfold T30_L0
  simp only [Tr.den, Int.toNat_natCast, dec_and, Option.bind_some] at hI ⊢
  by_cases hc : k < 1
  · obtain rfl : k = 0 := by omega
    have e0 : ([x] : List GDelta).getD 0 default = x := rfl
    have el : (([x] : List GDelta).length : Int) = 1 := rfl
    rw [if_pos (decT (by omega)), if_pos (by omega)]
    have rest : 0 ≤ x.Time ∧ x.Time ≤ 2199023255552 ∧ x.Row.length = types.length →
        Sp ((whileM (fun s => (T30_L1 [x] types ((0 : Nat) : Int) s).den) 0).bind (sel (fun _ => some (Sum.inl (IntKind.i64.wrap (((0 : Nat) : Int) + 1)))) some)) (sel (fun s' : Int => s' = IntKind.i64.wrap (((0 : Nat) : Int) + 1) ∧ 0 < 1 ∧ (1 ≤ s'.toNat → 0 ≤ x.Time ∧ x.Time ≤ 2199023255552 ∧ x.Row.length = types.length)) (fun r : Unit ⊕ Bool => Sp (sel (fun _ => some (decide ((1 : Int) ≤ 1))) some r) (fun r => r = true → 0 ≤ x.Time ∧ x.Time ≤ 2199023255552 ∧ x.Row.length = types.length))) := by
      intro hx
      have e2 : (([x] : List GDelta).getD 0 default).Row.length = types.length := hx.2.2
      refine sq_bind.2 ?_
      refine sq_count (fun s : Int => s) types.length (by omega) (fun s => True) (fun s k hI hk hkN => ?_) trivial rfl
      subst hk
      unfold T30_L1
      simp only [Tr.den, Int.toNat_natCast]
      by_cases hc : k < types.length
      · rw [if_pos (decT (by omega)), if_pos (by omega), if_pos (by omega), if_pos (by omega)]
        split
        · exact sq_some.2 (sq_some.2 (sq_some.2 fun h => by cases h))
        · exact sq_some.2 ⟨rfl, hc, trivial⟩
      · rw [if_neg (decF (by omega))]
        exact sq_some.2 (sq_some.2 ⟨rfl, by omega, fun _ => hx⟩)
    refine Sq.bind (fun j : Bool => j = false → 0 ≤ x.Time ∧ x.Time ≤ 2199023255552 ∧ x.Row.length = types.length) ?_ (fun j hj => ?_)
    · refine sq_iteB (fun _ => sq_some.2 fun h => by cases h) fun q1 => sq_grd (by omega) (sq_iteB (fun _ => sq_some.2 fun h => by cases h) fun q2 => sq_grd (by omega) (sq_iteB (fun _ => sq_some.2 fun h => by cases h) fun q3 => sq_grd (by omega) (sq_iteB (fun _ => sq_some.2 fun h => by cases h) fun q4 => sq_grd (by omega) (sq_iteB (fun _ => sq_some.2 fun h => by cases h) fun q5 => sq_grd (by omega) (Sq.bind _ (G78_sp _ h) fun r _ => sq_some.2 fun _ => ?_)))))
      have q1 := of_decide_eq_false q1
      have q2 := of_decide_eq_false q2
      simp only [bne_eq_false_iff_eq] at q5
      rw [e0] at q1 q2 q5
      omega
    · cases j with
      | true => exact sq_some.2 (sq_some.2 fun h => by cases h)
      | false => exact rest (hj rfl)
  · obtain rfl : k = 1 := by omega
    rw [if_neg (decF (by simp))]
    exact sq_some.2 (sq_some.2 fun _ => hI (by omega))
end Go.PL
namespace Go.PL
open Go
set_option linter.unusedVariables false
set_option maxRecDepth 20000

abbrev inA (x : GAct) : Int := bitA .i64 x.Do 1
abbrev isCl (x : GAct) : Bool := bitA .i64 x.Do 3 == 3
def two {α : Type} (i : Int) (a b : α) : α := if i = 0 then a else b
theorem two_get {α : Type} [Inhabited α] {i : Int} (hi : i = 0 ∨ i = 1) (a b : α) : ([a, b] : List α).getD i.toNat default = two i a b := by
  rcases hi with rfl | rfl <;> rfl
theorem two_set {α : Type} {i : Int} (hi : i = 0 ∨ i = 1) (a b c : α) : ([a, b] : List α).set i.toNat c = [if i = 0 then c else a, if i = 0 then b else c] := by
  rcases hi with rfl | rfl <;> rfl
theorem two_ite {α : Type} (i : Int) (x a b : α) : two i (if i = 0 then x else a) (if i = 0 then b else x) = x := by
  by_cases h : i = 0 <;> simp [two, h]
theorem two_len (i : Int) (x a b : List GDelta) (c : Nat) (h : x.length ≤ (two i a b).length + c) : (if i = 0 then x else a).length + (if i = 0 then b else x).length ≤ a.length + b.length + c := by
  by_cases hi : i = 0
  · unfold two at h; rw [if_pos hi] at h; rw [if_pos hi, if_pos hi]; omega
  · unfold two at h; rw [if_neg hi] at h; rw [if_neg hi, if_neg hi]; omega
def FitsR (ta tb : List Int) : List GAct → List GDelta → List GDelta → Int → Prop
  | [], _, _, _ => True
  | x :: l, s0, s1, c => (isCl x = true → x.C ≤ 2199023255552 ∧ FitsR ta tb l s0 s1 (if x.C > c then x.C else c)) ∧
    (isCl x = false → x.L.length ≤ 8 ∧ (∀ d, d ∈ x.L → c < d.Time ∧ 0 ≤ d.Time ∧ d.Time ≤ 2199023255552 ∧ d.Row.length = (two (inA x) ta tb).length ∧ -3 ≤ d.N ∧ d.N ≤ 3) ∧ (∀ d, d ∈ cons (two (inA x) s0 s1 ++ x.L) → 1 ≤ d.N ∧ d.N ≤ 20) ∧
      FitsR ta tb l (if inA x = 0 then cons (two (inA x) s0 s1 ++ x.L) else s0) (if inA x = 0 then s1 else cons (two (inA x) s0 s1 ++ x.L)) c)

theorem okGDelta.okd {l : List GDelta} (h : okL 40 okGDelta l) : okD l := ⟨fun d hd => by
  have := (h.2 d hd).2.1.1
  unfold okR; omega, fun d hd => (h.2 d hd).2.2⟩
theorem fitsL1 (ta tb : List Int) (acts : List GAct) (k : Nat) (hk : k < acts.length) (v3 : Int) (v7 : List (List GDelta)) (hok : okGAct (acts.getD k default)) (ha : ta.length ≤ 1048576) (hb : tb.length ≤ 1048576) (hL : (acts.getD k default).L.length ≤ 8) :
    Sp (whileM (fun s => (T35_L1 [ta, tb] acts v3 (k : Int) s).den) (v7, 0)) (fun z => z = .inr (.inr (.inr (.inr false))) ∨ (z = .inl v7 ∧ ∀ d, d ∈ (acts.getD k default).L → v3 < d.Time ∧ 0 ≤ d.Time ∧ d.Time ≤ 2199023255552 ∧ d.Row.length = (two (inA (acts.getD k default)) ta tb).length ∧ -3 ≤ d.N ∧ d.N ≤ 3)) := by
  have hi := bit1 (acts.getD k default).Do
  have hd := hok.2.2
  refine sq_count (fun s : List (List GDelta) × Int => s.2) (acts.getD k default).L.length (by omega) (fun s => s.1 = v7 ∧ ∀ d, d ∈ (acts.getD k default).L.take s.2.toNat → v3 < d.Time ∧ 0 ≤ d.Time ∧ d.Time ≤ 2199023255552 ∧ d.Row.length = (two (inA (acts.getD k default)) ta tb).length ∧ -3 ≤ d.N ∧ d.N ≤ 3) (fun s q hI hq hqN => ?_) ⟨rfl, by simp⟩ rfl
  obtain ⟨w7, w8⟩ := s
  obtain ⟨h1, hI⟩ := hI
  simp only at hq h1 hI
  subst hq h1
  unfold T35_L1
  simp only [Tr.den, Int.toNat_natCast] at hI ⊢
  rw [if_pos (by omega)]
  by_cases hc : q < (acts.getD k default).L.length
  · have hm := getD_mem hc
    have hx := hd.2 _ hm
    rw [if_pos (decT (by omega)), if_pos (by omega), if_pos (by omega)]
    refine Sq.bind (fun j : List (List GDelta) × Bool => j.1 = w7 ∧ (j.2 = false → v3 < ((acts.getD k default).L.getD q default).Time ∧ -3 ≤ ((acts.getD k default).L.getD q default).N ∧ ((acts.getD k default).L.getD q default).N ≤ 3)) ?_ (fun j hj => ?_)
    · refine sq_iteB (fun _ => sq_some.2 ⟨rfl, fun h => by cases h⟩) fun q1 => sq_iteB (fun _ => sq_some.2 ⟨rfl, fun h => by cases h⟩) fun q2 => sq_some.2 ⟨rfl, fun q3 => ?_⟩
      have q1 := of_decide_eq_false q1
      have q2 := of_decide_eq_false q2
      have q3 := of_decide_eq_false q3
      omega
    · obtain ⟨j1, j2⟩ := j
      obtain ⟨hj1, hj2⟩ := hj
      simp only at hj1 hj2
      subst hj1
      cases j2 with
      | true => exact sq_some.2 (.inl rfl)
      | false =>
        have hj2 := hj2 rfl
        simp only [Bool.false_eq_true, if_false]
        rw [if_pos (by simp only [List.length_cons, List.length_nil]; omega), two_get hi]
        refine Sq.bind _ (G30_sp _ _ (by exact hx.2.1.1) (by unfold two; split <;> assumption)) (fun r hr => ?_)
        cases r with
        | false => exact sq_some.2 (.inl rfl)
        | true =>
          have hr := hr rfl
          simp only at hr
          refine sq_some.2 ⟨rfl, hc, rfl, fun d hdm => ?_⟩
          rw [wrap_inc (by omega), Int.toNat_natCast, take_succ_getD hc, List.mem_append, List.mem_singleton] at hdm
          rcases hdm with hdm | rfl
          · exact hI d hdm
          · exact ⟨hj2.1, hr.1, hr.2.1, hr.2.2, hj2.2⟩
  · rw [if_neg (decF (by omega))]
    refine sq_some.2 (.inr ⟨rfl, ?_⟩)
    rwa [List.take_of_length_le (by omega)] at hI
theorem fitsL2 (ta tb : List Int) (acts : List GAct) (k : Nat) (hk : k < acts.length) (v3 : Int) (s0 s1 : List GDelta) (h0 : (two (inA (acts.getD k default)) s0 s1).length ≤ 1000000) :
    Sp (whileM (fun s => (T35_L2 [ta, tb] acts v3 (k : Int) s).den) ([s0, s1], 0)) (fun z => z = .inr (.inr (.inr (.inr false))) ∨ (z = .inl [s0, s1] ∧ ∀ d, d ∈ two (inA (acts.getD k default)) s0 s1 → 1 ≤ d.N ∧ d.N ≤ 20)) := by
  have hi := bit1 (acts.getD k default).Do
  rw [← two_get hi s0 s1] at h0 ⊢
  refine sq_count (fun s : List (List GDelta) × Int => s.2) (([s0, s1] : List (List GDelta)).getD (bitA .i64 (acts.getD k default).Do 1).toNat default).length (by omega) (fun s => s.1 = [s0, s1] ∧ ∀ d, d ∈ (([s0, s1] : List (List GDelta)).getD (bitA .i64 (acts.getD k default).Do 1).toNat default).take s.2.toNat → 1 ≤ d.N ∧ d.N ≤ 20) (fun s q hI hq hqN => ?_) ⟨rfl, by simp⟩ rfl
  obtain ⟨w7, w8⟩ := s
  obtain ⟨h1, hI⟩ := hI
  simp only at hq h1 hI
  subst hq h1
  unfold T35_L2
  simp only [Tr.den, Int.toNat_natCast] at hI ⊢
  have hlen : (([s0, s1] : List (List GDelta)).length : Int) = 2 := rfl
  have g1 : 0 ≤ bitA .i64 (acts.getD k default).Do 1 ∧ bitA .i64 (acts.getD k default).Do 1 < (([s0, s1] : List (List GDelta)).length : Int) := by omega
  have g2 : (bitA .i64 (acts.getD k default).Do 1).toNat < ([s0, s1] : List (List GDelta)).length := by simp only [List.length_cons, List.length_nil]; omega
  rw [if_pos g1, if_pos g2]
  by_cases hc : q < (([s0, s1] : List (List GDelta)).getD (bitA .i64 (acts.getD k default).Do 1).toNat default).length
  · rw [if_pos (decT (by omega)), if_pos g1, if_pos g2, if_pos (by omega)]
    refine Sq.bind (fun j : List (List GDelta) × Bool => j.1 = [s0, s1] ∧ (j.2 = false → 1 ≤ ((([s0, s1] : List (List GDelta)).getD (bitA .i64 (acts.getD k default).Do 1).toNat default).getD q default).N ∧ ((([s0, s1] : List (List GDelta)).getD (bitA .i64 (acts.getD k default).Do 1).toNat default).getD q default).N ≤ 20)) ?_ (fun j hj => ?_)
    · refine sq_iteB (fun _ => sq_some.2 ⟨rfl, fun h => by cases h⟩) fun q1 => sq_grd g1 (sq_grd g2 (sq_grd (by omega) (sq_some.2 ⟨rfl, fun q3 => ?_⟩)))
      have q1 := of_decide_eq_false q1
      have q3 := of_decide_eq_false q3
      omega
    · obtain ⟨j1, j2⟩ := j
      obtain ⟨hj1, hj2⟩ := hj
      simp only at hj1 hj2
      subst hj1
      cases j2 with
      | true => exact sq_some.2 (.inl rfl)
      | false =>
        refine sq_some.2 ⟨rfl, hc, rfl, fun d hdm => ?_⟩
        rw [wrap_inc (by omega), Int.toNat_natCast, take_succ_getD hc, List.mem_append, List.mem_singleton] at hdm
        rcases hdm with hdm | rfl
        · exact hI d hdm
        · exact hj2 rfl
  · rw [if_neg (decF (by omega))]
    refine sq_some.2 (.inr ⟨rfl, ?_⟩)
    rwa [List.take_of_length_le (by omega)] at hI
theorem G35_sp (ta tb : List Int) (acts : List GAct) (most : Nat) (hm : most ≤ 1000) (hok : okL 40 okGAct acts) (ha : ta.length ≤ 1048576) (hb : tb.length ≤ 1048576) :
    Sp (G35 [ta, tb] acts (most : Int)) (fun r => r = true → acts.length ≤ most ∧ FitsR ta tb acts [] [] (-1)) := by
  unfold G35 T35
  simp only [Tr.den]
  by_cases hlen : (acts.length : Int) > (most : Int)
  · rw [if_pos (decT hlen)]
    exact sq_some.2 fun h => by cases h
  · rw [if_neg (decF hlen)]
    simp only [Option.bind_some]
    rw [if_neg (by simp)]
    refine sq_bind.2 ?_
    refine sq_count (fun s : List (List GDelta) × Int × Int => s.2.2) acts.length (by omega) (fun s => ∃ s0 s1, s.1 = [s0, s1] ∧ okD s0 ∧ okD s1 ∧ s0.length + s1.length ≤ 8 * s.2.2.toNat ∧ (FitsR ta tb (acts.drop s.2.2.toNat) s0 s1 s.2.1 → FitsR ta tb acts [] [] (-1))) (fun s k hI hk hkN => ?_)
      ⟨[], [], rfl, .nil, .nil, by simp, by simp⟩ rfl
    obtain ⟨v2, v3, v4⟩ := s
    obtain ⟨s0, s1, e, o0, o1, hl, hI⟩ := hI
    simp only at hk e hl hI
    subst hk e
    simp only [Int.toNat_natCast] at hl hI
    unfold T35_L0
    simp only [Tr.den, Int.toNat_natCast]
    by_cases hc : k < acts.length
    · have hok' := hok.2 _ (getD_mem hc)
      have hi := bit1 (acts.getD k default).Do
      rw [drop_getD hc] at hI
      rw [if_pos (decT (by omega))]
      refine Sq.bind (fun z => z = .inr (.inr (.inr false)) ∨ ∃ t0 t1 c, z = .inl ([t0, t1], c) ∧ okD t0 ∧ okD t1 ∧ t0.length + t1.length ≤ 8 * (k + 1) ∧ (FitsR ta tb (acts.drop (k + 1)) t0 t1 c → FitsR ta tb acts [] [] (-1))) ?_ (fun z hz => ?_)
      · rw [if_pos (by omega)]
        refine sq_iteB (fun h3 => ?_) (fun h3 => ?_)
        · rw [if_pos (by omega)]
          by_cases h4 : (acts.getD k default).C > 2199023255552
          · rw [if_pos (decT h4)]; exact sq_some.2 (.inl rfl)
          · rw [if_neg (decF h4), if_pos (by omega)]
            refine sq_some.2 (.inr ⟨s0, s1, _, rfl, o0, o1, by omega, fun hF => hI ⟨fun _ => ⟨by omega, hF⟩, fun h => ?_⟩⟩)
            rw [show isCl (acts.getD k default) = true from h3] at h; cases h
        · rw [if_pos (by omega), if_pos (by omega)]
          by_cases h4 : ((acts.getD k default).L.length : Int) > 8
          · rw [if_pos (decT h4)]; exact sq_some.2 (.inl rfl)
          · rw [if_neg (decF h4)]
            refine Sq.bind _ (fitsL1 ta tb acts k hc v3 [s0, s1] hok' ha hb (by omega)) (fun z hz => ?_)
            rcases hz with rfl | ⟨rfl, hz⟩
            · exact sq_some.2 (.inl rfl)
            · simp only [sel]
              have g1 : 0 ≤ bitA .i64 (acts.getD k default).Do 1 ∧ bitA .i64 (acts.getD k default).Do 1 < (([s0, s1] : List (List GDelta)).length : Int) := by simp only [List.length_cons, List.length_nil]; omega
              have g2 : (bitA .i64 (acts.getD k default).Do 1).toNat < ([s0, s1] : List (List GDelta)).length := by simp only [List.length_cons, List.length_nil]; omega
              have otw : okD (two (inA (acts.getD k default)) s0 s1) := by unfold two; split <;> assumption
              have ltw : (two (inA (acts.getD k default)) s0 s1).length ≤ 8 * k := by unfold two; split <;> omega
              have okL' := okGDelta.okd hok'.2.2
              rw [if_pos g1, if_pos g2, if_pos (by omega), two_get hi, G47_eq _ _ otw okL' (by omega)]
              simp only [Option.bind_some]
              rw [if_pos g1, if_pos g2]
              refine sq_grd (by simp only [List.all_cons, List.all_nil, Bool.and_true, decide_eq_true_eq]; exact g2) ?_
              rw [two_set hi]
              have hcl := cons_len (two (inA (acts.getD k default)) s0 s1 ++ (acts.getD k default).L)
              rw [List.length_append] at hcl
              have okc := (otw.app okL').cons
              have etw : two (inA (acts.getD k default)) (if inA (acts.getD k default) = 0 then cons (two (inA (acts.getD k default)) s0 s1 ++ (acts.getD k default).L) else s0) (if inA (acts.getD k default) = 0 then s1 else cons (two (inA (acts.getD k default)) s0 s1 ++ (acts.getD k default).L)) = cons (two (inA (acts.getD k default)) s0 s1 ++ (acts.getD k default).L) := two_ite _ _ _ _
              have h2 := fitsL2 ta tb acts k hc v3 (if inA (acts.getD k default) = 0 then cons (two (inA (acts.getD k default)) s0 s1 ++ (acts.getD k default).L) else s0) (if inA (acts.getD k default) = 0 then s1 else cons (two (inA (acts.getD k default)) s0 s1 ++ (acts.getD k default).L)) (by rw [etw]; omega)
              rw [etw] at h2
              refine Sq.bind _ h2 (fun z hz2 => ?_)
              rcases hz2 with rfl | ⟨rfl, hz2⟩
              · exact sq_some.2 (.inl rfl)
              · refine sq_some.2 (.inr ⟨_, _, _, rfl, by split <;> assumption, by split <;> assumption, ?_, fun hF => hI ⟨fun h => ?_, fun _ => ⟨by omega, hz, hz2, hF⟩⟩⟩)
                · exact Nat.le_trans (two_len _ _ _ _ 8 (by omega)) (by omega)
                · rw [show isCl (acts.getD k default) = false from h3] at h; cases h
      · rcases hz with rfl | ⟨t0, t1, c, rfl, p0, p1, pl, hF⟩
        · exact sq_some.2 (sq_some.2 fun h => by cases h)
        · refine sq_some.2 ⟨rfl, hc, t0, t1, rfl, p0, p1, ?_, ?_⟩
          · simp only; rw [wrap_inc (by omega), Int.toNat_natCast]; exact pl
          · simp only; rw [wrap_inc (by omega), Int.toNat_natCast]; exact hF
    · rw [if_neg (decF (by omega))]
      refine sq_some.2 (sq_some.2 fun _ => ⟨by omega, hI ?_⟩)
      rw [List.drop_eq_nil_of_le (by omega)]; trivial
end Go.PL
namespace Go.PL
open Go
set_option linter.unusedVariables false
set_option maxRecDepth 20000

theorem ofK_app (n : GNode) (i : Int) (k : ByteArray) (l r : List GDelta) : ofK n i k (l ++ r) = ofK n i k l ++ ofK n i k r := List.filter_append ..
theorem Same.ofK {l r : List GDelta} (h : Same l r) (n : GNode) (i : Int) (k : ByteArray) : Same (ofK n i k l) (ofK n i k r) := h.filter (fun p => decide (keyB n i p.2 = k))
theorem Same.aft {l r : List GDelta} (h : Same l r) (t : Int) : Same (l.filter (PL.aft t)) (r.filter (PL.aft t)) := h.filter (fun p => decide (t < p.1))
theorem okN.sub {l r : List GDelta} (h : okN l) (hs : ∀ x, x ∈ r → x ∈ l) : okN r := fun x hx => h x (hs x hx)
theorem ofK_mem {n : GNode} {i : Int} {k : ByteArray} {l : List GDelta} {x : GDelta} : x ∈ ofK n i k l ↔ x ∈ l ∧ kd n i x = k := by
  unfold ofK
  rw [List.mem_filter, decide_eq_true_eq]
/-- what a push makes of a group -/
theorem ofK_push {n : GNode} {i : Int} {k : ByteArray} {a l : List GDelta} {t : Int} (ha : Can a) (hl : okN l) (hal : ∀ d, d ∈ l → aft t d = true) :
    cons (ofK n i k (a.filter (aft t)) ++ ofK n i k (cons l)) = ofK n i k ((cons (a ++ l)).filter (aft t)) := by
  have hal' : okN (a ++ l) := fun x hx => (List.mem_append.1 hx).elim (ha.n64 x) (hl x)
  have hcl := cons_can hl
  refine cons_eq ((((cons_can hal').filter _)).filter _) (fun x hx => ?_) ?_
  · rcases List.mem_append.1 hx with hx | hx
    · exact ha.n64 x (List.mem_filter.1 (ofK_mem.1 hx).1).1
    · exact hcl.n64 x (ofK_mem.1 hx).1
  · have h1 : Same (ofK n i k ((cons (a ++ l)).filter (aft t))) (ofK n i k ((a ++ l).filter (aft t))) := ((cons_same (a ++ l)).aft t).ofK n i k
    have h2 : ofK n i k ((a ++ l).filter (aft t)) = ofK n i k (a.filter (aft t)) ++ ofK n i k l := by
      rw [List.filter_append, List.filter_eq_self.2 hal, ofK_app]
    rw [h2] at h1
    exact h1.trans (Same.app (.refl _) ((cons_same l).ofK n i k).symm)

structure InOk (n : GNode) (i : Int) (a : List GDelta) : Prop where
  can : Can a
  ok : okI n i a
  len : a.length ≤ 900
  pos : ∀ d, d ∈ a → 1 ≤ d.N ∧ d.N ≤ 20
structure OInv (n : GNode) (a0 a1 : List GDelta) (t : Int) (m : KS) : Prop where
  mc : MC m
  look : ∀ k, mlook m k = keepS ⟨⟨ofK n 0 k (a0.filter (aft t)), ofK n 1 k (a1.filter (aft t))⟩⟩
theorem keepS_some {s s' : GSide} (h : keepS s = some s') : s' = s := by
  unfold keepS at h; split at h
  · cases h
  · cases h; rfl
theorem keepS_getD (s : GSide) : (keepS s).getD side0 = s := by
  unfold keepS
  split
  · rename_i h
    obtain ⟨⟨e0, e1⟩⟩ := s
    simp only at h
    have h0 : e0 = [] := List.eq_nil_of_length_eq_zero (by omega)
    have h1 : e1 = [] := List.eq_nil_of_length_eq_zero (by omega)
    subst h0 h1; rfl
  · rfl
theorem OInv.okM {n : GNode} {a0 a1 : List GDelta} {t : Int} {m : KS} (h : OInv n a0 a1 t m) (h0 : InOk n 0 a0) (h1 : InOk n 1 a1) : okM n m := by
  refine ⟨h.mc, fun k s hs => ?_⟩
  rw [h.look] at hs
  rw [keepS_some hs]
  have f : ∀ (i : Int) (a : List GDelta), (ofK n i k (a.filter (aft t))).length ≤ a.length := fun i a => Nat.le_trans (ofK_len _ _ _ _) (List.length_filter_le _ _)
  have l0 := f 0 a0
  have l1 := f 1 a1
  have q0 := h0.len
  have q1 := h1.len
  exact ⟨(h0.can.filter _).filter _, (h1.can.filter _).filter _, h0.ok.sub fun x hx => (List.mem_filter.1 (ofK_mem.1 hx).1).1, h1.ok.sub fun x hx => (List.mem_filter.1 (ofK_mem.1 hx).1).1, by simp only; omega, by simp only; omega⟩
theorem OInv.push {n : GNode} {a0 a1 : List GDelta} {t : Int} {m : KS} (h : OInv n a0 a1 t m) (c0 : Can a0) (c1 : Can a1) {i : Int} (hi : i = 0 ∨ i = 1) {l : List GDelta} (hl : okN l) (hal : ∀ d, d ∈ l → aft t d = true) :
    OInv n (if i = 0 then cons (two i a0 a1 ++ l) else a0) (if i = 0 then a1 else cons (two i a0 a1 ++ l)) t (pushM n i (cons l) m) := by
  refine ⟨pushM_mc n i _ h.mc, fun k => ?_⟩
  have e : mlook (pushM n i (cons l) m) k = keepS (updS i ⟨⟨ofK n 0 k (a0.filter (aft t)), ofK n 1 k (a1.filter (aft t))⟩⟩ (ofK n i k (cons l))) := by
    by_cases hk : k ∈ mkeys (groupM n i (cons l))
    · rw [pushM_in hk]
      unfold newS
      rw [h.look, keepS_getD]
    · rw [pushM_out hk, h.look]
      have hn : ofK n i k (cons l) = [] := by
        refine Classical.byContradiction fun hne => hk (mkeys_look.2 ⟨ofK n i k (cons l), ?_⟩)
        rw [groupM_look, if_neg hne]
      rw [hn]
      congr 1
      unfold updS
      split
      · rw [List.append_nil, show cons (ofK n 0 k (a0.filter (aft t))) = ofK n 0 k (a0.filter (aft t)) from cons_id (ofK_can (c0.filter _))]
      · rw [List.append_nil, show cons (ofK n 1 k (a1.filter (aft t))) = ofK n 1 k (a1.filter (aft t)) from cons_id (ofK_can (c1.filter _))]
  rw [e]
  congr 1
  rcases hi with rfl | rfl
  · unfold updS
    rw [if_pos rfl, if_pos rfl, if_pos rfl, show two 0 a0 a1 = a0 from rfl, ofK_push c0 hl hal]
  · unfold updS
    rw [if_neg (by omega), if_neg (by omega), if_neg (by omega), show two 1 a0 a1 = a1 from rfl, ofK_push c1 hl hal]
theorem OInv.init (n : GNode) (t : Int) : OInv n [] [] t [] := ⟨MC_nil, fun k => rfl⟩

/-! ### how many -/
theorem sumK_congr {f g : ByteArray → Int} {ks : List ByteArray} (h : ∀ k, k ∈ ks → f k = g k) : sumK f ks = sumK g ks := by
  induction ks with
  | nil => rfl
  | cons k ks ih => simp only [sumK, h k List.mem_cons_self, ih fun k' hk => h k' (List.mem_cons_of_mem _ hk)]
theorem sumK_add (f g : ByteArray → Int) (ks : List ByteArray) : sumK (fun k => f k + g k) ks = sumK f ks + sumK g ks := by
  induction ks with
  | nil => rfl
  | cons k ks ih => simp only [sumK, ih]; omega
theorem sumK_zero (ks : List ByteArray) : sumK (fun _ => 0) ks = 0 := by
  induction ks with
  | nil => rfl
  | cons k ks ih => simp only [sumK, ih]; rfl
theorem sumK_one (q : ByteArray) (v : Int) : ∀ (ks : List ByteArray), ks.Nodup → q ∈ ks → sumK (fun k => if q = k then v else 0) ks = v
  | [], _, h => by simp at h
  | k :: ks, hn, h => by
    have h1 := List.nodup_cons.1 hn
    simp only [sumK]
    by_cases hq : q = k
    · subst hq
      rw [if_pos rfl, sumK_congr (f := fun k => if q = k then v else 0) (g := fun _ => 0) (fun k' hk' => if_neg (fun he : q = k' => h1.1 (he ▸ hk'))), sumK_zero]; omega
    · rw [if_neg hq, sumK_one q v ks h1.2 ((List.mem_cons.1 h).resolve_left hq)]; omega
theorem sumK_ofK (p : Pl → Bool) (n : GNode) (i : Int) (ks : List ByteArray) (hn : ks.Nodup) : ∀ (l : List GDelta), (∀ x, x ∈ l → kd n i x ∈ ks) → sumK (fun k => wt p (ofK n i k l)) ks = wt p l
  | [], _ => by
    refine Eq.trans (sumK_congr (g := fun _ => 0) fun k _ => rfl) (sumK_zero ks)
  | x :: l, h => by
    have ih := sumK_ofK p n i ks hn l fun y hy => h y (List.mem_cons_of_mem _ hy)
    have e : ∀ k, wt p (ofK n i k (x :: l)) = (if kd n i x = k then (if p (pl x) = true then x.N else 0) else 0) + wt p (ofK n i k l) := by
      intro k
      unfold ofK
      by_cases hk : kd n i x = k
      · rw [List.filter_cons_of_pos (p := fun d => decide (kd n i d = k)) (decT hk), if_pos hk]; rfl
      · rw [List.filter_cons_of_neg (p := fun d => decide (kd n i d = k)) (decF hk), if_neg hk]; omega
    rw [sumK_congr fun k _ => e k, sumK_add, ih, sumK_one _ _ ks hn (h x List.mem_cons_self)]
    rfl
theorem OInv.key {n : GNode} {a0 a1 : List GDelta} {t : Int} {m : KS} (h : OInv n a0 a1 t m) {x : GDelta} {k : ByteArray} (hx : x ∈ ofK n 0 k (a0.filter (aft t)) ∨ x ∈ ofK n 1 k (a1.filter (aft t))) : k ∈ mkeys m := by
  refine mkeys_look.2 ⟨⟨⟨ofK n 0 k (a0.filter (aft t)), ofK n 1 k (a1.filter (aft t))⟩⟩, ?_⟩
  rw [h.look]
  unfold keepS
  rw [if_neg]
  rcases hx with hx | hx
  · have := List.length_pos_of_mem hx; simp only; omega
  · have := List.length_pos_of_mem hx; simp only; omega
theorem OInv.rows {n : GNode} {a0 a1 : List GDelta} {t : Int} {m : KS} (h : OInv n a0 a1 t m) : sumK (cntK m) (mkeys m) = wt all1 (a0.filter (aft t)) + wt all1 (a1.filter (aft t)) := by
  have hn := h.mc.nodup LO.bytes
  have e : ∀ k, k ∈ mkeys m → cntK m k = wt all1 (ofK n 0 k (a0.filter (aft t))) + wt all1 (ofK n 1 k (a1.filter (aft t))) := by
    intro k hk
    obtain ⟨s, hs⟩ := mkeys_look.1 hk
    unfold cntK
    rw [hs]
    rw [h.look] at hs
    rw [keepS_some hs]; rfl
  rw [sumK_congr e, sumK_add, sumK_ofK all1 n 0 _ hn _ fun x hx => h.key (.inl (ofK_mem.2 ⟨hx, rfl⟩)), sumK_ofK all1 n 1 _ hn _ fun x hx => h.key (.inr (ofK_mem.2 ⟨hx, rfl⟩))]
theorem OInv.empty {n : GNode} {a0 a1 : List GDelta} {t : Int} {m : KS} (h : OInv n a0 a1 t m) : m = [] ↔ a0.filter (aft t) = [] ∧ a1.filter (aft t) = [] := by
  constructor
  · intro hm
    subst hm
    constructor
    · refine List.eq_nil_iff_forall_not_mem.2 fun x hx => ?_
      have := h.key (k := kd n 0 x) (.inl (ofK_mem.2 ⟨hx, rfl⟩))
      simp [mkeys] at this
    · refine List.eq_nil_iff_forall_not_mem.2 fun x hx => ?_
      have := h.key (k := kd n 1 x) (.inr (ofK_mem.2 ⟨hx, rfl⟩))
      simp [mkeys] at this
  · rintro ⟨h0, h1⟩
    refine h.mc.ext LO.bytes MC_nil fun k => ?_
    rw [h.look, h0, h1]; rfl
theorem wt_pos : ∀ {l : List GDelta}, (∀ d, d ∈ l → 1 ≤ d.N ∧ d.N ≤ 20) → (l.length : Int) ≤ wt all1 l ∧ wt all1 l ≤ 20 * l.length
  | [], _ => by simp [wt]
  | x :: l, h => by
    have ih := wt_pos (l := l) fun d hd => h d (List.mem_cons_of_mem _ hd)
    have hx := h x List.mem_cons_self
    simp only [wt, all1, if_true, List.length_cons] at ih ⊢
    omega
end Go.PL
namespace Go.PL
open Go
set_option linter.unusedVariables false
set_option maxRecDepth 20000

theorem W_iff {a b : Int} : W a = W b ↔ ∃ k : Int, a = b + k * 18446744073709551616 := by
  show IntKind.i64.wrap a = IntKind.i64.wrap b ↔ _
  rw [wrap_def, wrap_def]
  constructor
  · intro h
    exact ⟨(a + 9223372036854775808) / 18446744073709551616 - (b + 9223372036854775808) / 18446744073709551616, by omega⟩
  · rintro ⟨k, rfl⟩; omega
theorem W_mul {a b : Int} (c : Int) (h : W a = W b) : W (a * c) = W (b * c) := by
  obtain ⟨k, rfl⟩ := W_iff.1 h
  exact W_iff.2 ⟨k * c, by rw [Int.add_mul, Int.mul_assoc, Int.mul_assoc, Int.mul_comm 18446744073709551616 c]⟩
theorem W_W (a : Int) : W (W a) = W a := wrap_wrap a
theorem W_sub {a b c d : Int} (h : W a = W c) (h' : W b = W d) : W (a - b) = W (c - d) := by
  obtain ⟨k, rfl⟩ := W_iff.1 h
  obtain ⟨k', rfl⟩ := W_iff.1 h'
  exact W_iff.2 ⟨k - k', by rw [Int.sub_mul]; omega⟩

/-! ### sums with factors -/
def wc (c : Pl → Int) : List GDelta → Int
  | [] => 0
  | x :: l => x.N * c (pl x) + wc c l
theorem wc_app (c : Pl → Int) (l r : List GDelta) : wc c (l ++ r) = wc c l + wc c r := by
  induction l with
  | nil => simp [wc]
  | cons x l ih => simp only [List.cons_append, wc, ih]; omega
theorem insD_wc (d : GDelta) (c : Pl → Int) : ∀ l, W (wc c (insD d l)) = W (wc c (d :: l))
  | [] => by
    simp only [insD, wc]
    by_cases h : d.N = 0
    · rw [if_pos h, h]; simp [wc]
    · rw [if_neg h]; rfl
  | x :: l => by
    simp only [insD]
    by_cases h1 : cmpD d x < 0
    · rw [if_pos h1]
      by_cases h : d.N = 0
      · rw [if_pos h]; simp only [wc, h]; congr 1; simp
      · rw [if_neg h]
    · rw [if_neg h1]
      by_cases h2 : cmpD d x = 0
      · rw [if_pos h2]
        have hp := cmpD_zero.1 h2
        have e : wc c (d :: x :: l) = (x.N + d.N) * c (pl x) + wc c l := by
          simp only [wc, hp, Int.add_mul]; omega
        rw [e]
        by_cases h3 : W (x.N + d.N) = 0
        · rw [if_pos h3]
          have h0 : W (x.N + d.N) = W 0 := by rw [h3]; rfl
          have := W_add (W_mul (c (pl x)) h0) (rfl : W (wc c l) = W (wc c l))
          rw [this]; simp
        · rw [if_neg h3]
          simp only [wc]
          rw [show pl (⟨x.Time, x.Row, W (x.N + d.N)⟩ : GDelta) = pl x from rfl]
          exact W_add (W_mul (c (pl x)) (W_W (x.N + d.N))) rfl
      · rw [if_neg h2]
        have ih := insD_wc d c l
        have : W (wc c (x :: insD d l)) = W (wc c (x :: d :: l)) := by
          simp only [wc] at ih ⊢
          exact W_add rfl ih
        rw [this]
        simp only [wc]; congr 1; omega
theorem cons_wc (c : Pl → Int) (l : List GDelta) : W (wc c (PL.cons l)) = W (wc c l) := by
  induction l with
  | nil => rfl
  | cons x l ih =>
    rw [show PL.cons (x :: l) = insD x (PL.cons l) from rfl, insD_wc]
    simp only [wc]
    exact W_add rfl ih

/-! ### the meaning of one key -/
def MS (n : GNode) (s : GSide) : List GDelta := if n.Op = 6 then joinF n 0 s.rows_.e0 s.rows_.e1 else asofF n s.rows_.e0 s.rows_.e1
/-- what one row of the left makes, for the right -/
def cJ (n : GNode) (i : Int) (R : List GDelta) (p : Pl → Bool) (q : Pl) : Int := wt p (joinA n i R ⟨q.1, q.2, 1⟩)
theorem joinA_wt (n : GNode) (i : Int) (p : Pl → Bool) (a : GDelta) (R : List GDelta) : W (wt p (joinA n i R a)) = W (a.N * cJ n i R p (pl a)) := by
  unfold cJ joinA
  show W (wt p ((nearF R (if i = 1 then a.Time - n.After else a.Time - n.Before) (if i = 1 then a.Time + n.Before else a.Time + n.After)).map (joinP i a))) =
    W (a.N * wt p ((nearF R (if i = 1 then a.Time - n.After else a.Time - n.Before) (if i = 1 then a.Time + n.Before else a.Time + n.After)).map (joinP i ⟨a.Time, a.Row, 1⟩)))
  generalize nearF R (if i = 1 then a.Time - n.After else a.Time - n.Before) (if i = 1 then a.Time + n.Before else a.Time + n.After) = L
  induction L with
  | nil => simp [wt]
  | cons b L ih =>
    simp only [List.map_cons, wt]
    have hpl : pl (joinP i ⟨a.Time, a.Row, 1⟩ b) = pl (joinP i a b) := by unfold joinP pairF; split <;> rfl
    have hN : (joinP i a b).N = W (a.N * b.N) := by unfold joinP pairF; split <;> rfl
    have hN1 : (joinP i ⟨a.Time, a.Row, 1⟩ b).N = W (1 * b.N) := by unfold joinP pairF; split <;> rfl
    rw [hpl, hN, hN1, Int.mul_add]
    refine W_add ?_ ih
    by_cases hp : p (pl (joinP i a b)) = true
    · rw [if_pos hp, if_pos hp, W_W, Int.one_mul]
      have := W_mul a.N (W_W b.N)
      rw [Int.mul_comm a.N (W b.N), this, Int.mul_comm]
    · rw [if_neg hp, if_neg hp, Int.mul_zero]
theorem joinF_wt (n : GNode) (i : Int) (p : Pl → Bool) (L R : List GDelta) : W (wt p (joinF n i L R)) = W (wc (cJ n i R p) L) := by
  induction L with
  | nil => rfl
  | cons a L ih =>
    rw [show joinF n i (a :: L) R = joinA n i R a ++ joinF n i L R from rfl, wt_app]
    exact W_add (joinA_wt n i p a R) ih
def cA (n : GNode) (R : List GDelta) (p : Pl → Bool) (q : Pl) : Int := wt p (asofA n R ⟨q.1, q.2, 1⟩)
theorem asofA_wt (n : GNode) (p : Pl → Bool) (a : GDelta) (R : List GDelta) : wt p (asofA n R a) = a.N * cA n R p (pl a) := by
  unfold cA asofA
  show wt p (if nearF R (a.Time - n.Keep + 1) a.Time = [] then [] else [pairF a ((nearF R (a.Time - n.Keep + 1) a.Time).getD ((nearF R (a.Time - n.Keep + 1) a.Time).length - 1) default) a.Time a.N]) =
    a.N * wt p (if nearF R (a.Time - n.Keep + 1) a.Time = [] then [] else [pairF ⟨a.Time, a.Row, 1⟩ ((nearF R (a.Time - n.Keep + 1) a.Time).getD ((nearF R (a.Time - n.Keep + 1) a.Time).length - 1) default) a.Time 1])
  split
  · simp [wt]
  · simp only [wt, Int.add_zero]
    show (if p (a.Time, a.Row ++ _) = true then a.N else 0) = a.N * (if p (a.Time, a.Row ++ _) = true then 1 else 0)
    split <;> simp
theorem asofF_wt (n : GNode) (p : Pl → Bool) (L R : List GDelta) : wt p (asofF n L R) = wc (cA n R p) L := by
  induction L with
  | nil => rfl
  | cons a L ih =>
    rw [show asofF n (a :: L) R = asofA n R a ++ asofF n L R from rfl, wt_app, ih, asofA_wt]
    rfl

/-- pairs, counted from either side -/
def tJ (n : GNode) (p : Pl → Bool) (a b : GDelta) : Int :=
  if decide (a.Time - n.Before ≤ b.Time) && decide (b.Time ≤ a.Time + n.After) && p (if b.Time > a.Time then b.Time else a.Time, a.Row ++ b.Row) then W (a.N * b.N) else 0
def sumD (f : GDelta → Int) : List GDelta → Int
  | [] => 0
  | x :: l => f x + sumD f l
theorem sumD_add (f g : GDelta → Int) (l : List GDelta) : sumD (fun x => f x + g x) l = sumD f l + sumD g l := by
  induction l with
  | nil => rfl
  | cons x l ih => simp only [sumD, ih]; omega
theorem sumD_zero (l : List GDelta) : sumD (fun _ => 0) l = 0 := by
  induction l with
  | nil => rfl
  | cons x l ih => simp only [sumD, ih]; rfl
theorem sumD_swap (f : GDelta → GDelta → Int) (A : List GDelta) : ∀ B : List GDelta, sumD (fun a => sumD (f a) B) A = sumD (fun b => sumD (fun a => f a b) A) B
  | [] => by simp only [sumD, sumD_zero]
  | b :: B => by
    simp only [sumD]
    rw [sumD_add, sumD_swap f A B]
theorem joinA0_t (n : GNode) (p : Pl → Bool) (a : GDelta) : ∀ R : List GDelta, wt p (joinA n 0 R a) = sumD (tJ n p a) R
  | [] => rfl
  | b :: R => by
    have ih := joinA0_t n p a R
    unfold joinA nearF at ih ⊢
    simp only [if_neg (show ¬ ((0 : Int) = 1) by omega)] at ih ⊢
    simp only [sumD]
    rw [List.filter_cons]
    by_cases h : (decide (a.Time - n.Before ≤ b.Time) && decide (b.Time ≤ a.Time + n.After)) = true
    · rw [if_pos h, List.map_cons]
      simp only [wt, ih]
      congr 1
      unfold tJ joinP
      rw [if_neg (show ¬ ((0 : Int) = 1) by omega), h, Bool.true_and]
      rfl
    · rw [if_neg h, ih]
      unfold tJ
      rw [if_neg (by simp only [Bool.not_eq_true] at h; rw [h]; simp)]
      omega
theorem joinA1_t (n : GNode) (p : Pl → Bool) (b : GDelta) : ∀ L : List GDelta, wt p (joinA n 1 L b) = sumD (fun a => tJ n p a b) L
  | [] => rfl
  | a :: L => by
    have ih := joinA1_t n p b L
    unfold joinA nearF at ih ⊢
    simp only [if_true] at ih ⊢
    simp only [sumD]
    rw [List.filter_cons]
    have hiff : (decide (b.Time - n.After ≤ a.Time) && decide (a.Time ≤ b.Time + n.Before)) = (decide (a.Time - n.Before ≤ b.Time) && decide (b.Time ≤ a.Time + n.After)) := by
      rw [Bool.eq_iff_iff]; simp only [Bool.and_eq_true, decide_eq_true_eq]; omega
    by_cases h : (decide (a.Time - n.Before ≤ b.Time) && decide (b.Time ≤ a.Time + n.After)) = true
    · rw [hiff, if_pos h, List.map_cons]
      simp only [wt, ih]
      congr 1
      unfold tJ joinP
      rw [if_pos rfl, h, Bool.true_and]
      have hm : (if a.Time > b.Time then a.Time else b.Time) = (if b.Time > a.Time then b.Time else a.Time) := by split <;> split <;> omega
      rw [hm, Int.mul_comm b.N a.N]
      rfl
    · rw [hiff, if_neg h, ih]
      unfold tJ
      rw [if_neg (by simp only [Bool.not_eq_true] at h; rw [h]; simp)]
      omega
theorem joinF0_t (n : GNode) (p : Pl → Bool) (R : List GDelta) : ∀ L : List GDelta, wt p (joinF n 0 L R) = sumD (fun a => sumD (tJ n p a) R) L
  | [] => rfl
  | a :: L => by rw [show joinF n 0 (a :: L) R = joinA n 0 R a ++ joinF n 0 L R from rfl, wt_app, joinA0_t, joinF0_t n p R L]; rfl
theorem joinF1_t (n : GNode) (p : Pl → Bool) (L : List GDelta) : ∀ R : List GDelta, wt p (joinF n 1 R L) = sumD (fun b => sumD (fun a => tJ n p a b) L) R
  | [] => rfl
  | b :: R => by rw [show joinF n 1 (b :: R) L = joinA n 1 L b ++ joinF n 1 R L from rfl, wt_app, joinA1_t, joinF1_t n p L R]; rfl
theorem join_swap (n : GNode) (p : Pl → Bool) (L R : List GDelta) : wt p (joinF n 0 L R) = wt p (joinF n 1 R L) := by
  rw [joinF0_t, joinF1_t]; exact sumD_swap (tJ n p) L R
end Go.PL
namespace Go.PL
open Go
set_option linter.unusedVariables false
set_option maxRecDepth 20000

theorem wt_negs (p : Pl → Bool) : ∀ l : List GDelta, W (wt p (l.map neg)) = W (- wt p l)
  | [] => rfl
  | x :: l => by
    have ih := wt_negs p l
    simp only [List.map_cons, wt]
    rw [show pl (neg x) = pl x from rfl, show (neg x).N = W (0 - x.N) from rfl, Int.neg_add]
    refine W_add ?_ ih
    by_cases h : p (pl x) = true
    · rw [if_pos h, if_pos h, W_W]; congr 1; omega
    · rw [if_neg h, if_neg h]; rfl
/-- rows that come to the right do not concern what is too early or too late -/
theorem asofA_off {n : GNode} {e1 l : List GDelta} (h1 : Can e1) (hl : Can l) (hK : 1 ≤ n.Keep) {a : GDelta}
    (h : ¬ ((l.getD 0 default).Time ≤ a.Time ∧ a.Time ≤ (l.getD (l.length - 1) default).Time + n.Keep)) : asofA n (PL.cons (e1 ++ l)) a = asofA n e1 a := by
  have hN : okN (e1 ++ l) := fun x hx => (List.mem_append.1 hx).elim (h1.n64 x) (hl.n64 x)
  have key : nearF (PL.cons (e1 ++ l)) (a.Time - n.Keep + 1) a.Time = nearF e1 (a.Time - n.Keep + 1) a.Time := by
    unfold nearF
    refine ((cons_can hN).filter _).ext (h1.filter _) ?_
    have hs := (cons_same (e1 ++ l)).filter (fun q : Pl => decide (a.Time - n.Keep + 1 ≤ q.1) && decide (q.1 ≤ a.Time))
    have e : (e1 ++ l).filter (fun d => decide (a.Time - n.Keep + 1 ≤ d.Time) && decide (d.Time ≤ a.Time)) = e1.filter (fun d => decide (a.Time - n.Keep + 1 ≤ d.Time) && decide (d.Time ≤ a.Time)) := by
      rw [List.filter_append]
      have : l.filter (fun d => decide (a.Time - n.Keep + 1 ≤ d.Time) && decide (d.Time ≤ a.Time)) = [] := by
        refine List.filter_eq_nil_iff.2 fun d hd => ?_
        obtain ⟨j, hj, rfl⟩ := List.mem_iff_getElem.1 hd
        have g1 := hl.ts.get (Nat.zero_le j) hj
        have g2 := hl.ts.get (show j ≤ l.length - 1 by omega) (by omega)
        have gj : l.getD j default = l[j] := by simp [List.getD_eq_getElem?_getD, hj]
        rw [gj] at g1 g2
        simp only [Bool.and_eq_true, decide_eq_true_eq]
        omega
      rw [this, List.append_nil]
    have hs' : Same ((PL.cons (e1 ++ l)).filter (fun d => decide (a.Time - n.Keep + 1 ≤ d.Time) && decide (d.Time ≤ a.Time))) ((e1 ++ l).filter (fun d => decide (a.Time - n.Keep + 1 ≤ d.Time) && decide (d.Time ≤ a.Time))) := hs
    rw [e] at hs'
    exact hs'
  unfold asofA
  rw [key]
theorem asofF_sum (n : GNode) (p : Pl → Bool) (R : List GDelta) : ∀ L : List GDelta, wt p (asofF n L R) = sumD (fun a => wt p (asofA n R a)) L
  | [] => rfl
  | a :: L => by rw [show asofF n (a :: L) R = asofA n R a ++ asofF n L R from rfl, wt_app, asofF_sum n p R L]; rfl
theorem sumD_part {f g : GDelta → Int} (q : GDelta → Bool) : ∀ {l : List GDelta}, (∀ x, x ∈ l → q x = false → f x = g x) → sumD f l - sumD g l = sumD f (l.filter q) - sumD g (l.filter q)
  | [], _ => rfl
  | x :: l, h => by
    have ih := sumD_part q (l := l) fun y hy => h y (List.mem_cons_of_mem _ hy)
    rw [List.filter_cons]
    cases hq : q x with
    | true => simp only [if_true, sumD]; omega
    | false =>
      have := h x List.mem_cons_self hq
      simp only [Bool.false_eq_true, if_false, sumD]; omega
theorem chg_wt {n : GNode} (hn : okNode n) (p : Pl → Bool) {i : Int} (hi : i = 0 ∨ i = 1) {l : List GDelta} {s : GSide} (hs : okSd n s) (hl : Can l) : W (wt p (chgF n i l s)) = W (wt p (MS n (updS i s l)) - wt p (MS n s)) := by
  obtain ⟨⟨e0, e1⟩⟩ := s
  have c0 : Can e0 := hs.c0
  have c1 : Can e1 := hs.c1
  unfold chgF MS updS
  by_cases h6 : n.Op = 6
  · rw [if_pos h6, if_pos h6, if_pos h6]
    rcases hi with rfl | rfl
    · rw [if_pos rfl, if_pos rfl]
      show W (wt p (joinF n 0 l e1)) = W (wt p (joinF n 0 (PL.cons (e0 ++ l)) e1) - wt p (joinF n 0 e0 e1))
      rw [joinF_wt, W_sub ((joinF_wt n 0 p (PL.cons (e0 ++ l)) e1).trans (cons_wc _ _)) (joinF_wt n 0 p e0 e1), wc_app]
      congr 1; omega
    · rw [if_neg (by omega), if_neg (by omega)]
      show W (wt p (joinF n 1 l e0)) = W (wt p (joinF n 0 e0 (PL.cons (e1 ++ l))) - wt p (joinF n 0 e0 e1))
      rw [join_swap, join_swap, joinF_wt, W_sub ((joinF_wt n 1 p (PL.cons (e1 ++ l)) e0).trans (cons_wc _ _)) (joinF_wt n 1 p e1 e0), wc_app]
      congr 1; omega
  · rw [if_neg h6, if_neg h6, if_neg h6]
    rcases hi with rfl | rfl
    · rw [if_pos rfl, if_pos rfl]
      show W (wt p (asofF n l e1)) = W (wt p (asofF n (PL.cons (e0 ++ l)) e1) - wt p (asofF n e0 e1))
      have : W (wt p (asofF n (PL.cons (e0 ++ l)) e1)) = W (wc (cA n e1 p) (e0 ++ l)) := by rw [asofF_wt]; exact cons_wc _ _
      rw [W_sub this rfl, wc_app, asofF_wt, asofF_wt]
      congr 1; omega
    · rw [if_neg (by omega), if_neg (by omega)]
      have hK : 1 ≤ n.Keep := by
        rcases hn.op with h | h
        · exact absurd h.1 h6
        · exact h.2.1
      show W (wt p (PL.cons (asofF n (nearF e0 (l.getD 0 default).Time ((l.getD (l.length - 1) default).Time + n.Keep)) (PL.cons (e1 ++ l)) ++ (asofF n (nearF e0 (l.getD 0 default).Time ((l.getD (l.length - 1) default).Time + n.Keep)) e1).map neg))) =
        W (wt p (asofF n e0 (PL.cons (e1 ++ l))) - wt p (asofF n e0 e1))
      rw [cons_same _ p, wt_app, W_add rfl (wt_negs p _)]
      rw [asofF_sum, asofF_sum, asofF_sum, asofF_sum]
      have := sumD_part (f := fun a => wt p (asofA n (PL.cons (e1 ++ l)) a)) (g := fun a => wt p (asofA n e1 a)) (fun d => decide ((l.getD 0 default).Time ≤ d.Time) && decide (d.Time ≤ (l.getD (l.length - 1) default).Time + n.Keep)) (l := e0) fun a _ hq => by
        rw [asofA_off c1 hl hK]
        intro hh
        rw [show (decide ((l.getD 0 default).Time ≤ a.Time) && decide (a.Time ≤ (l.getD (l.length - 1) default).Time + n.Keep)) = true by simp only [Bool.and_eq_true, decide_eq_true_eq]; exact hh] at hq
        cases hq
      rw [this]
      rfl

/-! ### all keys -/
theorem nodup_over : ∀ L : List ByteArray, ∃ ks : List ByteArray, ks.Nodup ∧ ∀ x, x ∈ L → x ∈ ks
  | [] => ⟨[], .nil, fun _ h => h⟩
  | k :: L => by
    obtain ⟨ks, h1, h2⟩ := nodup_over L
    by_cases hk : k ∈ ks
    · exact ⟨ks, h1, fun x hx => (List.mem_cons.1 hx).elim (fun e => e ▸ hk) (h2 x)⟩
    · exact ⟨k :: ks, List.nodup_cons.2 ⟨hk, h1⟩, fun x hx => (List.mem_cons.1 hx).elim (fun e => e ▸ List.mem_cons_self) fun h => List.mem_cons_of_mem _ (h2 x h)⟩
theorem sumK_ext (f : ByteArray → Int) : ∀ {ks ks' : List ByteArray}, ks.Nodup → ks'.Nodup → (∀ k, k ∈ ks → k ∉ ks' → f k = 0) → (∀ k, k ∈ ks' → k ∉ ks → f k = 0) → sumK f ks = sumK f ks'
  | [], ks', _, _, _, h => by
    rw [sumK_congr (f := f) (g := fun _ => 0) fun k hk => h k hk (by simp), sumK_zero]; rfl
  | k :: ks, ks', hn, hn', h, h' => by
    have h1 := List.nodup_cons.1 hn
    by_cases hk : k ∈ ks'
    · rw [sumK_perm f (kerase_perm hk)]
      simp only [sumK]
      rw [sumK_ext f h1.2 (kerase_nodup hn' k) (fun j hj hj' => ?_) (fun j hj hj' => ?_)]
      · refine h j (List.mem_cons_of_mem _ hj) fun hj2 => hj' ((kerase_mem hn').2 ⟨fun e => h1.1 (e ▸ hj), hj2⟩)
      · obtain ⟨g1, g2⟩ := (kerase_mem hn').1 hj
        exact h' j g2 fun hj2 => (List.mem_cons.1 hj2).elim g1 hj'
    · simp only [sumK]
      rw [h k List.mem_cons_self hk, sumK_ext f h1.2 hn' (fun j hj hj' => h j (List.mem_cons_of_mem _ hj) hj') (fun j hj hj' => ?_)]
      · omega
      · refine h' j hj fun hj2 => (List.mem_cons.1 hj2).elim (fun e => hk (e ▸ hj)) hj'
theorem sumK_W {f g : ByteArray → Int} {ks : List ByteArray} (h : ∀ k, k ∈ ks → W (f k) = W (g k)) : W (sumK f ks) = W (sumK g ks) := by
  induction ks with
  | nil => rfl
  | cons k ks ih => simp only [sumK]; exact W_add (h k List.mem_cons_self) (ih fun j hj => h j (List.mem_cons_of_mem _ hj))
theorem sumK_sub (f g : ByteArray → Int) (ks : List ByteArray) : sumK (fun k => f k - g k) ks = sumK f ks - sumK g ks := by
  induction ks with
  | nil => rfl
  | cons k ks ih => simp only [sumK, ih]; omega
theorem wt_flat (p : Pl → Bool) (f : ByteArray → List GDelta) (ks : List ByteArray) : wt p (ks.flatMap f) = sumK (fun k => wt p (f k)) ks := by
  induction ks with
  | nil => rfl
  | cons k ks ih => rw [List.flatMap_cons, wt_app, ih]; rfl
/-- the meaning of all that is kept -/
def fPhi (n : GNode) (p : Pl → Bool) (m : KS) (k : ByteArray) : Int := wt p (MS n ((mlook m k).getD side0))
def Phi (n : GNode) (p : Pl → Bool) (m : KS) : Int := sumK (fPhi n p m) (mkeys m)
theorem MS0 (n : GNode) : MS n side0 = [] := by unfold MS; split <;> rfl
theorem Phi_over {n : GNode} {p : Pl → Bool} {m : KS} (hm : MC m) {ks : List ByteArray} (hn : ks.Nodup) (hs : ∀ k, k ∈ mkeys m → k ∈ ks) : Phi n p m = sumK (fPhi n p m) ks := by
  refine sumK_ext _ (hm.nodup LO.bytes) hn (fun k hk hk' => absurd (hs k hk) hk') fun k _ hk => ?_
  unfold fPhi
  have : mlook m k = none := by
    cases hl : mlook m k with
    | none => rfl
    | some c => exact absurd (mkeys_look.2 ⟨c, hl⟩) hk
  rw [this]
  show wt p (MS n side0) = 0
  rw [MS0]; rfl
theorem Phi_nil (n : GNode) (p : Pl → Bool) : Phi n p [] = 0 := rfl
open Classical in
theorem push_wt {n : GNode} (hn : okNode n) (p : Pl → Bool) {i : Int} (hi : i = 0 ∨ i = 1) {l : List GDelta} {m : KS} (hm : okM n m) (hl : Can l) :
    W (wt p ((mkeys (groupM n i l)).flatMap (pushO n i l m))) = W (Phi n p (pushM n i l m) - Phi n p m) := by
  obtain ⟨ks, hk1, hk2⟩ := nodup_over (mkeys m ++ (mkeys (pushM n i l m) ++ mkeys (groupM n i l)))
  have hg := (groupM_mc n i l).nodup LO.bytes
  rw [Phi_over (pushM_mc n i l hm.mc) hk1 fun k hk => hk2 k (by simp [hk]), Phi_over hm.mc hk1 fun k hk => hk2 k (by simp [hk]), ← sumK_sub, wt_flat]
  have e1 : sumK (fun k => wt p (pushO n i l m k)) (mkeys (groupM n i l)) = sumK (fun k => if k ∈ mkeys (groupM n i l) then wt p (pushO n i l m k) else 0) ks := by
    rw [sumK_congr (f := fun k => wt p (pushO n i l m k)) (g := fun k => if k ∈ mkeys (groupM n i l) then wt p (pushO n i l m k) else 0) fun k hk => by rw [if_pos hk]]
    refine sumK_ext _ hg hk1 (fun k hk hk' => absurd (hk2 k (by simp [hk])) hk') fun k _ hk => by rw [if_neg hk]
  rw [e1]
  refine sumK_W fun k _ => ?_
  unfold fPhi
  by_cases hk : k ∈ mkeys (groupM n i l)
  · rw [if_pos hk, pushM_in hk]
    unfold newS pushO
    rw [keepS_getD]
    exact chg_wt hn p hi (hm.get k) (ofK_can hl)
  · rw [if_neg hk, pushM_out hk, Int.sub_self]
end Go.PL
namespace Go.PL
open Go
set_option linter.unusedVariables false
set_option maxRecDepth 20000

/-! ### sizes -/
theorem txtB_size2 {s : ByteArray} (h : s.size ≤ 1000000000000) : (txtB s).size ≤ s.size + 23 := by
  have := itoaB_size (n := (s.size : Int)) ⟨by omega, by omega⟩
  unfold txtB
  rw [ByteArray.size_append, ByteArray.size_append, ByteArray.size_append, sz1, sz1]
  omega
theorem G52_eq2 {s : ByteArray} (h : s.size ≤ 1000000000000) : G52 s = some (txtB s) := by
  have h1 := itoaB_size (n := (s.size : Int)) ⟨by omega, by omega⟩
  have h2 : G117 (s.size : Int) = some (itoaB s.size) := G117_eq ⟨by omega, by omega⟩
  generalize hi : itoaB (s.size : Int) = z at h1 h2
  have e1 : (z ++ (⟨#[58]⟩ : ByteArray)).size = z.size + 1 := ByteArray.size_append
  have e2 : ((z ++ (⟨#[58]⟩ : ByteArray)) ++ s).size = z.size + 1 + s.size := by rw [ByteArray.size_append, e1]
  unfold G52 T52
  refine (den_ca h2).trans ?_
  refine (den_grd ?_).trans ((den_grd ?_).trans ((den_grd ?_).trans ?_))
  · rw [sz1]; omega
  · rw [e1]; omega
  · rw [e2, sz1]; omega
  · unfold txtB
    rw [hi]
    rfl
structure okZr (r : List GValue) : Prop where
  l : r.length ≤ 12
  v : okVs r
  s : ∀ v, v ∈ r → v.S.size ≤ 1048576
def okZ (l : List GDelta) : Prop := ∀ d, d ∈ l → okZr d.Row
theorem okZ.sub {l r : List GDelta} (h : okZ l) (hs : ∀ x, x ∈ r → x ∈ l) : okZ r := fun x hx => h x (hs x hx)
theorem okZ.cons {l : List GDelta} (h : okZ l) : okZ (PL.cons l) := fun x hx => by
  obtain ⟨z, hz, e⟩ := cons_mem hx
  have : x.Row = z.Row := congrArg Prod.snd e
  rw [this]; exact h z hz
theorem okZ.app {l r : List GDelta} (h : okZ l) (h' : okZ r) : okZ (l ++ r) := fun x hx => (List.mem_append.1 hx).elim (h x) (h' x)
theorem okZ.get {l : List GDelta} (h : okZ l) (k : Nat) : okZr (l.getD k default).Row := by
  by_cases hk : k < l.length
  · exact h _ (getD_mem hk)
  · rw [List.getD_eq_getElem?_getD, List.getElem?_eq_none (by omega)]
    exact ⟨Nat.zero_le _, fun v hv => (by cases hv), fun v hv => (by cases hv)⟩
theorem foldB_size2 (b : ByteArray) : ∀ (r : List GValue), okVs r → (∀ v, v ∈ r → v.S.size ≤ 1048576) → (r.foldl (fun b v => b ++ valB v) b).size ≤ b.size + r.length * 1048700
  | [], _, _ => by simp
  | v :: r, h, hs => by
    have h1 := foldB_size2 (b ++ valB v) r (fun x hx => h x (List.mem_cons_of_mem _ hx)) fun x hx => hs x (List.mem_cons_of_mem _ hx)
    have hv := h v List.mem_cons_self
    have q1 := numB_size hv.k
    have q2 := numB_size hv.n
    have q3 := txtB_size hv.s
    have q4 := hs v List.mem_cons_self
    have h2 : (valB v).size ≤ 1048700 := by
      unfold valB
      rw [ByteArray.size_append, ByteArray.size_append]
      omega
    rw [ByteArray.size_append] at h1
    simp only [List.foldl_cons, List.length_cons]
    omega
theorem rowB_size2 {r : List GValue} (h : okZr r) : (rowB r).size ≤ 12600000 := by
  have h1 := foldB_size2 ((⟨#[]⟩ : ByteArray) ++ numB (r.length : Int)) r h.v h.s
  have h2 := numB_size (n := (r.length : Int)) ⟨by omega, by have := h.l; omega⟩
  have h3 := h.l
  rw [ByteArray.size_append, show (⟨#[]⟩ : ByteArray).size = 0 from rfl] at h1
  have : r.length * 1048700 ≤ 12 * 1048700 := Nat.mul_le_mul h3 (Nat.le_refl _)
  unfold rowB
  omega
theorem G53_ex (l : List GDelta) (ho : okD l) (hz : okZ l) (ht : okTm l) (hn : l.length ≤ 1000) : ∃ b, G53 l = some b ∧ b.size ≤ 20000000000 := by
  have hn' : (PL.cons l).length ≤ 1000 := Nat.le_trans (cons_len l) hn
  have hz' := hz.cons
  have ht' : okTm (PL.cons l) := fun x hx => by
    obtain ⟨z, hz, e⟩ := cons_mem hx
    have : x.Time = z.Time := congrArg Prod.fst e
    rw [this]; exact ht z hz
  have hN' := (cons_can ho.n).n64
  suffices h : Sp (G53 l) (fun b => b.size ≤ 20000000000) from h.get
  unfold G53 T53
  simp only [Tr.den]
  rw [G27_eq l ho.r ho.n (by omega)]
  simp only [Option.bind_some]
  rw [G119_eq (PL.cons l).length (by omega)]
  simp only [Option.bind_some]
  have hs := numB_size (n := ((PL.cons l).length : Int)) ⟨by omega, by omega⟩
  generalize PL.cons l = r at *
  rw [if_pos (by show 0 + _ ≤ _; omega)]
  simp only [Option.bind_some]
  refine Sq.bind (fun z : ByteArray ⊕ ByteArray => ∃ b, z = .inl b ∧ b.size ≤ 20000000000) (sq_count (fun s : ByteArray × Int => s.2) r.length (by omega) (fun s => s.1.size ≤ 22 + s.2.toNat * 12700000) (fun s k hI hk hkN => ?_) (by rw [ByteArray.size_append, show (⟨#[]⟩ : ByteArray).size = 0 from rfl]; simp only; omega) rfl) fun z hz => ?_
  · obtain ⟨v3, v4⟩ := s
    simp only at hk hI
    subst hk
    unfold T53_L0
    simp only [Tr.den, Int.toNat_natCast]
    have hmul : k * 12700000 ≤ 1000 * 12700000 := Nat.mul_le_mul (by omega) (Nat.le_refl _)
    rw [Int.toNat_natCast] at hI
    by_cases hc : k < r.length
    · rw [if_pos (decT (by omega)), if_pos (by omega)]
      have hT := ht'.get k
      have hR := hz'.get k
      have hNN := hN' _ (getD_mem hc)
      have b1 := rowB_size2 hR
      have iT : in64 (r.getD k default).Time := ⟨by omega, by omega⟩
      rw [G51_eq iT]
      simp only [Option.bind_some]
      rw [G120_eq _ hR.v (by have := hR.l; omega)]
      simp only [Option.bind_some]
      rw [G52_eq2 (by omega)]
      simp only [Option.bind_some]
      have b2 := txtB_size2 (s := rowB (r.getD k default).Row) (by omega)
      have b3 := numB_size iT
      have b4 := numB_size hNN
      rw [if_pos (by omega), G51_eq hNN]
      simp only [Option.bind_some]
      rw [ByteArray.size_append, if_pos (by omega), ByteArray.size_append, ByteArray.size_append, if_pos (by omega)]
      simp only [Option.bind_some]
      refine sq_some.2 ⟨rfl, hc, ?_⟩
      simp only
      rw [wrap_inc (by omega), Int.toNat_natCast, ByteArray.size_append, ByteArray.size_append, ByteArray.size_append, Nat.add_mul]
      omega
    · rw [if_neg (decF (by omega))]
      refine sq_some.2 ⟨v3, rfl, by omega⟩
  · obtain ⟨b, rfl, hb⟩ := hz
    simp only [sel]
    exact sq_some.2 hb

/-! ### all rows of an input -/
def rowsOf (i : Int) (m : KS) (k : ByteArray) : List GDelta := match mlook m k with | some s => two i s.rows_.e0 s.rows_.e1 | none => []
theorem G54s0_eq (i : Int) (n : GNode) (cl : Int) (m : KS) (hi : i = 0 ∨ i = 1) (hm : MC m) {a : List GDelta} (hc : Can a) (ho : okD a) (hp : ∀ d, d ∈ a → 1 ≤ d.N ∧ d.N ≤ 20) (hl : a.length ≤ 900)
    (hk : ∀ k, k ∈ mkeys m → rowsOf i m k = ofK n i k a) (hall : ∀ x, x ∈ a → kd n i x ∈ mkeys m) : G54s0 i n cl m = some (a, m) := by
  have hnd := hm.nodup LO.bytes
  -- any part of the rows
  have bnd : ∀ done rest : List ByteArray, (done ++ rest).Perm (mkeys m) → (∀ d, d ∈ done.flatMap (rowsOf i m) → d ∈ a) ∧ wt all1 (done.flatMap (rowsOf i m)) + wt all1 (rest.flatMap (rowsOf i m)) = wt all1 a ∧ (done.flatMap (rowsOf i m)).length ≤ 18000 := by
    intro done rest hpm
    have hmem : ∀ ks : List ByteArray, (∀ k, k ∈ ks → k ∈ mkeys m) → ∀ d, d ∈ ks.flatMap (rowsOf i m) → d ∈ a := by
      intro ks hks d hd
      obtain ⟨k, hk1, hk2⟩ := List.mem_flatMap.1 hd
      rw [hk k (hks k hk1)] at hk2
      exact (ofK_mem.1 hk2).1
    have m1 := hmem done fun k hk => hpm.mem_iff.1 (List.mem_append_left _ hk)
    have m2 := hmem rest fun k hk => hpm.mem_iff.1 (List.mem_append_right _ hk)
    have tot : wt all1 ((mkeys m).flatMap (rowsOf i m)) = wt all1 a := by
      rw [wt_flat, sumK_congr fun k hk' => by rw [hk k hk']]
      exact sumK_ofK all1 n i _ hnd a hall
    have e : wt all1 (done.flatMap (rowsOf i m)) + wt all1 (rest.flatMap (rowsOf i m)) = wt all1 a := by
      rw [← tot, ← wt_app, ← List.flatMap_append]
      exact wt_perm _ (flatMap_perm (rowsOf i m) hpm)
    refine ⟨m1, e, ?_⟩
    have w1 := wt_pos (l := done.flatMap (rowsOf i m)) fun d hd => hp d (m1 d hd)
    have w2 := wt_pos (l := rest.flatMap (rowsOf i m)) fun d hd => hp d (m2 d hd)
    have w3 := wt_pos hp
    omega
  unfold G54s0
  refine Det.eq ?_
  unfold T54s0
  simp only [Tr.wpT]
  refine loopWp (fun s : List ByteArray × KS × List GDelta => s.2.1 = m ∧ s.1.Nodup ∧ ∃ done, (done ++ s.1).Perm (mkeys m) ∧ s.2.2 = done.flatMap (rowsOf i m)) (fun s => s.1.length) (fun s hs => ?_) (s := (mkeys m, m, [])) ⟨rfl, hnd, [], .refl _, rfl⟩
  obtain ⟨rem, m', acc⟩ := s
  obtain ⟨e, h1, done, h2, h3⟩ := hs
  simp only at e h1 h2 h3
  subst e h3
  obtain ⟨q1, q2, q3⟩ := bnd done rem h2
  unfold T54s0_L0
  simp only [Tr.wpT]
  refine ⟨fun hr => ?_, fun k c hk' hc' => ?_, fun hr => ?_⟩
  · subst hr
    simp only [sel]
    rw [List.append_nil] at h2
    have hs : Same a (done.flatMap (rowsOf i m')) := fun p => by
      have : wt p (done.flatMap (rowsOf i m')) = wt p a := by
        rw [wt_perm p (flatMap_perm (rowsOf i m') h2), wt_flat, sumK_congr fun k hk' => by rw [hk k hk']]
        exact sumK_ofK p n i _ hnd a hall
      rw [this]
    have okd : okD (done.flatMap (rowsOf i m')) := ho.sub q1
    exact ⟨_, G27_eq _ okd.r okd.n (by omega), by rw [cons_eq hc okd.n hs]⟩
  · have hkm : k ∈ mkeys m' := h2.mem_iff.1 (List.mem_append_right _ hk')
    have hrow : rowsOf i m' k = two i c.rows_.e0 c.rows_.e1 := by unfold rowsOf; rw [hc']
    have hp2 := kerase_perm hk'
    have h2' : ((done ++ [k]) ++ kerase rem k).Perm (mkeys m') := by
      rw [List.append_assoc]
      exact ((List.Perm.append_left done hp2).symm).trans h2
    obtain ⟨r1, r2, r3⟩ := bnd (done ++ [k]) (kerase rem k) h2'
    rw [List.flatMap_append, List.length_append] at r3
    simp only [List.flatMap_cons, List.flatMap_nil, List.append_nil] at r3
    rw [hrow] at r3
    have fin : (fun s' : List ByteArray × KS × List GDelta => (s'.2.1 = m' ∧ s'.1.Nodup ∧ ∃ done, (done ++ s'.1).Perm (mkeys m') ∧ s'.2.2 = done.flatMap (rowsOf i m')) ∧ s'.1.length < rem.length) (kerase rem k, mput m' k c, done.flatMap (rowsOf i m') ++ two i c.rows_.e0 c.rows_.e1) := by
      refine ⟨⟨mput_self LO.bytes hm hc', kerase_nodup h1 k, done ++ [k], h2', ?_⟩, kerase_len hk'⟩
      rw [List.flatMap_append]
      simp only [List.flatMap_cons, List.flatMap_nil, List.append_nil]
      rw [hrow]
    rcases hi with rfl | rfl
    · rw [show two 0 c.rows_.e0 c.rows_.e1 = c.rows_.e0 from rfl] at r3 fin
      rw [if_pos rfl]
      exact ⟨by omega, fin⟩
    · rw [show two 1 c.rows_.e0 c.rows_.e1 = c.rows_.e1 from rfl] at r3 fin
      rw [if_neg (by omega), if_pos rfl]
      exact ⟨by omega, fin⟩
  · obtain ⟨k, rest, rfl⟩ := List.exists_cons_of_ne_nil hr
    have hkm : k ∈ mkeys m' := h2.mem_iff.1 (List.mem_append_right _ List.mem_cons_self)
    obtain ⟨c, hc⟩ := mkeys_look.1 hkm
    exact ⟨k, c, List.mem_cons_self, hc⟩

/-! ### comparing results -/
theorem G60_self (x : GDelta) (hx : okR x) : G60 x x = some true := by
  unfold G60 T60
  simp only [Tr.den]
  rw [G61_eq x x hx hx]
  simp only [Option.bind_some]
  rw [if_pos (beqT (cmpD_zero.2 rfl))]
  simp only [Option.bind_some]
  rw [show (x.N == x.N) = true from beqT rfl]
theorem G62s0_self (l : List GDelta) (ho : okRs l) (hn : l.length ≤ 1000000000000) : G62s0 l l = some true := by
  unfold G62s0 T62s0
  simp only [Tr.den]
  rw [if_neg (bneF rfl)]
  have h1 := while_trace (bd := fun s => (T62s0_L0 l l s).den) (fun i => (i : Int)) l.length (r := .inl ()) (fun i hi => ?_) ?_
  · refine (congrArg (fun x => Option.bind x _) h1).trans ?_
    rfl
  · unfold T62s0_L0
    simp only [Tr.den, Int.toNat_natCast]
    rw [if_pos (decT (by omega)), if_pos (by omega), if_pos (by omega), G60_self _ (ho _ (getD_mem hi))]
    simp only [Option.bind_some, Bool.not_true, Bool.false_eq_true, if_false]
    rw [wrap_inc (by omega)]
  · unfold T62s0_L0
    simp only [Tr.den]
    rw [if_neg (decF (by omega))]
theorem G26_same (a b : List GDelta) (ha : okD a) (hb : okD b) (hn : a.length ≤ 1000000000000) (hn' : b.length ≤ 1000000000000) (hs : Same a b) : G26 a b = some true := by
  have e : PL.cons a = PL.cons b := (cons_can ha.n).ext (cons_can hb.n) (((cons_same a).trans hs).trans (cons_same b).symm)
  have hl := cons_len a
  unfold G26 T26
  simp only [Tr.den]
  rw [G27_eq a ha.r ha.n hn]
  simp only [Option.bind_some]
  rw [G27_eq b hb.r hb.n hn', ← e]
  simp only [Option.bind_some]
  rw [G62s0_self (PL.cons a) ha.cons.r (by omega)]
  rfl
end Go.PL
namespace Go.PL
open Go
set_option linter.unusedVariables false
set_option maxRecDepth 20000

theorem G8_sp (n : GNode) (types : List (List Int)) (acts : List GAct) (most : Nat) (hm : most ≤ 1000) (hn : okGNode n) (ht : okL 24 (okL 8 inI64) types) (hok : okL 40 okGAct acts) :
    Sp (G8 n types acts (most : Int)) (fun r => r = true → ∃ ta tb, types = [ta, tb] ∧ n.Key.length ≤ 20 ∧ n.Key2.length ≤ 20 ∧ RightN n ta tb ∧ acts.length ≤ most ∧ FitsR ta tb acts [] [] (-1)) := by
  unfold G8 T8
  simp only [Tr.den]
  refine Sq.bind (fun j : Bool => j = false → (n.Op = 6 ∨ n.Op = 7) ∧ types.length = 2 ∧ n.Key.length ≤ 20 ∧ n.Key2.length ≤ 20) ?_ (fun j hj => ?_)
  · have inner : (n.Op = 6 ∨ n.Op = 7) → Sp (if ((types.length : Int) != 2) = true then some true else (G33 [] n).bind fun r => some !r) (fun j : Bool => j = false → (n.Op = 6 ∨ n.Op = 7) ∧ types.length = 2 ∧ n.Key.length ≤ 20 ∧ n.Key2.length ≤ 20) := by
      intro hop
      by_cases h2 : (types.length : Int) = 2
      · rw [if_neg (bneF h2)]
        refine Sq.bind _ (G33_sp n hn) fun r hr => sq_some.2 fun hf => ?_
        cases r with
        | false => cases hf
        | true => exact ⟨hop, by omega, (hr rfl).1, (hr rfl).2⟩
      · rw [if_pos (bneT h2)]
        exact sq_some.2 fun h => by cases h
    by_cases h6 : n.Op = 6
    · rw [if_neg (bneF h6)]; exact inner (.inl h6)
    · rw [if_pos (bneT h6)]
      by_cases h7 : n.Op = 7
      · rw [if_neg (bneF h7)]; exact inner (.inr h7)
      · rw [if_pos (bneT h7)]; exact sq_some.2 fun h => by cases h
  · cases j with
    | true => exact sq_some.2 fun h => by cases h
    | false =>
      obtain ⟨hop, h2, k1, k2⟩ := hj rfl
      simp only [Bool.false_eq_true, if_false]
      match types, h2, ht with
      | [ta, tb], _, ht =>
        have la := (ht.2 ta (by simp)).1
        have lb := (ht.2 tb (by simp)).1
        refine Sq.bind _ (G34_sp n ta tb hop (by omega) (by omega) la lb) fun r hr => ?_
        cases r with
        | false => exact sq_some.2 fun h => by cases h
        | true =>
          simp only [if_true]
          refine Sq.bind (fun r : Bool => r = true → acts.length ≤ most ∧ FitsR ta tb acts [] [] (-1)) ?_ fun r hF => sq_some.2 fun h => ⟨ta, tb, rfl, k1, k2, hr rfl, hF h⟩
          refine Sq.bind _ (G35_sp ta tb acts most hm hok la lb) fun r hr => sq_some.2 hr

theorem okI_of {n : GNode} {ta tb : List Int} (hR : RightN n ta tb) {l : List GDelta} (h : okL 40 okGDelta l) {i : Int} (hi : i = 0 ∨ i = 1) {c : Int} (hF : ∀ d, d ∈ l → c < d.Time ∧ 0 ≤ d.Time ∧ d.Time ≤ 2199023255552 ∧ d.Row.length = (two i ta tb).length ∧ -3 ≤ d.N ∧ d.N ≤ 3) : okI n i l := by
  refine ⟨fun d hd v hv => ?_, fun d hd q hq => ?_, fun d hd => ?_, fun d hd => ⟨(hF d hd).2.1, (hF d hd).2.2.1⟩, (okGDelta.okd h).n⟩
  · have := (h.2 d hd).2.1.2 v hv
    exact ⟨this.1, this.2.1, Nat.le_trans this.2.2 (by omega)⟩
  · have hl := (hF d hd).2.2.2.1
    rw [hl]
    rcases hi with rfl | rfl
    · exact hR.k1 q hq
    · exact hR.k2 q hq
  · have hl := (hF d hd).2.2.2.1
    rw [hl]
    have := hR.la
    have := hR.lb
    unfold two; split <;> omega
end Go.PL
namespace Go.PL
open Go
set_option linter.unusedVariables false
set_option maxRecDepth 20000

def optM (k : ByteArray) : Option GSide → KS
  | none => []
  | some s => [(k, s)]
theorem group1 {n : GNode} {i : Int} {l : List GDelta} {k : ByteArray} (h : ∀ d, d ∈ l → kd n i d = k) (h0 : l ≠ []) : groupM n i l = [(k, l)] := by
  refine (groupM_mc n i l).ext LO.bytes (List.pairwise_singleton _ _) fun k' => ?_
  rw [groupM_look]
  by_cases hk : k = k'
  · subst hk
    have : ofK n i k l = l := List.filter_eq_self.2 fun d hd => decT (h d hd)
    rw [this, if_neg h0]; simp [mlook]
  · have : ofK n i k' l = [] := List.filter_eq_nil_iff.2 fun d hd => decF (by rw [h d hd]; exact hk)
    rw [this, if_pos rfl]; simp [mlook, hk]
theorem ofK1 {n : GNode} {i : Int} {l : List GDelta} {k : ByteArray} (h : ∀ d, d ∈ l → kd n i d = k) : ofK n i k l = l := List.filter_eq_self.2 fun d hd => decT (h d hd)
theorem look1 (k : ByteArray) (o : Option GSide) : mlook (optM k o) k = o := by cases o <;> simp [optM, mlook]
theorem push1 {n : GNode} {i : Int} {l : List GDelta} {k : ByteArray} (h : ∀ d, d ∈ l → kd n i d = k) (h0 : l ≠ []) (o : Option GSide) :
    pushM n i l (optM k o) = optM k (keepS (updS i (o.getD side0) l)) ∧ (mkeys (groupM n i l)).flatMap (pushO n i l (optM k o)) = chgF n i l (o.getD side0) := by
  have hk : mkeys (groupM n i l) = [k] := by rw [group1 h h0]; rfl
  have hn : newS n i l (optM k o) k = keepS (updS i (o.getD side0) l) := by unfold newS; rw [look1, ofK1 h]
  constructor
  · unfold pushM
    rw [hk]
    simp only [List.foldl_cons, List.foldl_nil, hn]
    cases keepS (updS i (o.getD side0) l) with
    | none => cases o <;> simp [setS, optM, mdel]
    | some s => cases o <;> simp [setS, optM, mput, mdel, mins]
  · rw [hk]
    simp only [List.flatMap_cons, List.flatMap_nil, List.append_nil]
    unfold pushO
    rw [look1, ofK1 h]
theorem close1 (t : Int) (k : ByteArray) (s : GSide) : closeM t (optM k (some s)) = optM k (keepS (cutS t s)) := by
  have hn : newC t (optM k (some s)) k = keepS (cutS t s) := by unfold newC; rw [look1]; rfl
  unfold closeM
  rw [show mkeys (optM k (some s)) = [k] from rfl]
  simp only [List.foldl_cons, List.foldl_nil, hn]
  cases keepS (cutS t s) with
  | none => simp [setS, optM, mdel]
  | some s => simp [setS, optM, mput, mdel, mins]

def vN : GNode := GNode.mk 6 ([] : List Int) ⟨#[]⟩ 0 ([] : List Expr) 0 0 0 [0] [0] 2 5 0 ([] : List GAgg) ([] : List GPat) ([] : List GCol)
def rowX : List GValue := [GValue.mk 0 7 ⟨#[]⟩]
def atD (t n : Int) : GDelta := ⟨t, rowX, n⟩
theorem vN_ok : okNode vN := ⟨.inl ⟨rfl, ⟨by decide, by decide⟩, ⟨by decide, by decide⟩⟩, by decide, by decide⟩
theorem kX : ∀ i t n, (i = 0 ∨ i = 1) → kd vN i (atD t n) = keyB vN 0 rowX := by
  rintro i t n (rfl | rfl) <;> rfl
theorem okIX (i : Int) (hi : i = 0 ∨ i = 1) (l : List GDelta) (h : ∀ d, d ∈ l → ∃ t n, d = atD t n ∧ 0 ≤ t ∧ t ≤ 100 ∧ -10 ≤ n ∧ n ≤ 10) : okI vN i l := by
  have hv : okVs rowX := fun v hv => by
    rw [List.mem_singleton.1 hv]
    exact ⟨⟨by decide, by decide⟩, ⟨by decide, by decide⟩, by decide⟩
  have hc : okCols (colsOf vN i) rowX := by
    rcases hi with rfl | rfl <;> (intro c hc; rw [List.mem_singleton.1 (show c ∈ [(0 : Int)] from hc)]; decide)
  refine ⟨fun d hd => ?_, fun d hd => ?_, fun d hd => ?_, fun d hd => ?_, fun d hd => ?_⟩ <;> obtain ⟨t, n, rfl, h1, h2, h3, h4⟩ := h d hd
  · exact hv
  · exact hc
  · show rowX.length ≤ 1000
    decide
  · exact ⟨h1, by show t ≤ _; omega⟩
  · exact ⟨by show _ ≤ n; omega, by show n ≤ _; omega⟩

theorem okMX (k : ByteArray) (o : Option GSide) (h : ∀ s, o = some s → okSd vN s) : okM vN (optM k o) := by
  refine ⟨by cases o <;> simp [optM, MC], fun k' s hs => ?_⟩
  cases o with
  | none => simp [optM, mlook] at hs
  | some s' =>
    simp only [optM, mlook] at hs
    split at hs
    · cases hs; exact h _ rfl
    · cases hs
def x3 : GDelta := atD 3 1
def x3' : GDelta := atD 3 (-1)
def y8 : GDelta := atD 8 1
def y9 : GDelta := atD 9 1
def z8 (n : Int) : GDelta := ⟨8, rowX ++ rowX, n⟩
theorem pushX (i : Int) (hi : i = 0 ∨ i = 1) (l : List GDelta) (h : ∀ d, d ∈ l → ∃ t n, d = atD t n ∧ 0 ≤ t ∧ t ≤ 100 ∧ -10 ≤ n ∧ n ≤ 10) (hc : cons l = l) (h0 : l ≠ []) (hlen : l.length ≤ 1000) (cl : Int) (o : Option GSide) (ho : ∀ s, o = some s → okSd vN s) :
    G25s0 i l vN cl (optM (keyB vN 0 rowX) o) = some (cons (chgF vN i l (o.getD side0)), optM (keyB vN 0 rowX) (keepS (updS i (o.getD side0) l))) := by
  have hk : ∀ d, d ∈ l → kd vN i d = keyB vN 0 rowX := fun d hd => by
    obtain ⟨t, n, rfl, _⟩ := h d hd
    exact kX i t n hi
  rw [G25s0_eq i l vN cl _ hi vN_ok (okIX i hi l h) (okMX _ o ho) hlen (by rw [hc]; exact hlen), hc]
  obtain ⟨e1, e2⟩ := push1 hk h0 o
  rw [e1, e2]
theorem canX : Can [x3] ∧ Can [y8, y9] ∧ Can [y9] := by
  have e1 : cons [x3] = [x3] := by kernel_rfl
  have e2 : cons [y8, y9] = [y8, y9] := by kernel_rfl
  have e3 : cons [y9] = [y9] := by kernel_rfl
  have b : ∀ t : Int, okN [atD t 1] := fun t d hd => by rw [List.mem_singleton.1 hd]; exact ⟨by show _ ≤ (1 : Int); decide, by show (1 : Int) ≤ _; decide⟩
  refine ⟨?_, ?_, ?_⟩
  · rw [← e1]; exact cons_can (b 3)
  · rw [← e2]
    refine cons_can fun d hd => ?_
    rcases List.mem_cons.1 hd with rfl | hd
    · exact b 8 _ (List.mem_singleton.2 rfl)
    · exact b 9 d hd
  · rw [← e3]; exact cons_can (b 9)
theorem G31_eq (t n : Int) : G31 t n = some (atD t n) := by unfold G31 T31; simp only [Tr.den]; rfl
theorem inX1 (t n : Int) (h1 : 0 ≤ t) (h2 : t ≤ 100) (h3 : -10 ≤ n) (h4 : n ≤ 10) : ∀ d, d ∈ [atD t n] → ∃ t n, d = atD t n ∧ 0 ≤ t ∧ t ≤ 100 ∧ -10 ≤ n ∧ n ≤ 10 := fun d hd => ⟨t, n, List.mem_singleton.1 hd, h1, h2, h3, h4⟩
theorem inX2 : ∀ d, d ∈ [y8, y9] → ∃ t n, d = atD t n ∧ 0 ≤ t ∧ t ≤ 100 ∧ -10 ≤ n ∧ n ≤ 10 := fun d hd => by
  rcases List.mem_cons.1 hd with rfl | hd
  · exact ⟨8, 1, rfl, by decide, by decide, by decide, by decide⟩
  · rw [List.mem_singleton.1 hd]; exact ⟨9, 1, rfl, by decide, by decide, by decide, by decide⟩
theorem okS1 : okSd vN ⟨⟨[x3], []⟩⟩ := ⟨canX.1, .nil, okIX 0 (.inl rfl) _ (inX1 3 1 (by decide) (by decide) (by decide) (by decide)), .nil, by decide, by decide⟩
theorem okS2 : okSd vN ⟨⟨[x3], [y8, y9]⟩⟩ := ⟨canX.1, canX.2.1, okIX 0 (.inl rfl) _ (inX1 3 1 (by decide) (by decide) (by decide) (by decide)), okIX 1 (.inr rfl) _ inX2, by decide, by decide⟩
theorem okS3 : okSd vN ⟨⟨[], [y8, y9]⟩⟩ := ⟨.nil, canX.2.1, .nil, okIX 1 (.inr rfl) _ inX2, by decide, by decide⟩
theorem G7_eq : G7 = some true := by
  have p1 := pushX 0 (.inl rfl) [x3] (inX1 3 1 (by decide) (by decide) (by decide) (by decide)) (by kernel_rfl) (by simp) (by decide) (-1) none (fun _ h => by cases h)
  have p2 := pushX 1 (.inr rfl) [y8, y9] inX2 (by kernel_rfl) (by simp) (by decide) (-1) (some ⟨⟨[x3], []⟩⟩) (fun s h => by cases h; exact okS1)
  have p3 := pushX 0 (.inl rfl) [x3'] (inX1 3 (-1) (by decide) (by decide) (by decide) (by decide)) (by kernel_rfl) (by simp) (by decide) (-1) (some ⟨⟨[x3], [y8, y9]⟩⟩) (fun s h => by cases h; exact okS2)
  have v1 : (cons (chgF vN 0 [x3] ((none : Option GSide).getD side0)), keepS (updS 0 ((none : Option GSide).getD side0) [x3])) = (([], some ⟨⟨[x3], []⟩⟩) : List GDelta × Option GSide) := by kernel_rfl
  have v2 : (cons (chgF vN 1 [y8, y9] ((some (⟨⟨[x3], []⟩⟩ : GSide)).getD side0)), keepS (updS 1 ((some (⟨⟨[x3], []⟩⟩ : GSide)).getD side0) [y8, y9])) = (([z8 1], some ⟨⟨[x3], [y8, y9]⟩⟩) : List GDelta × Option GSide) := by kernel_rfl
  have v3 : (cons (chgF vN 0 [x3'] ((some (⟨⟨[x3], [y8, y9]⟩⟩ : GSide)).getD side0)), keepS (updS 0 ((some (⟨⟨[x3], [y8, y9]⟩⟩ : GSide)).getD side0) [x3'])) = (([z8 (-1)], some ⟨⟨[], [y8, y9]⟩⟩) : List GDelta × Option GSide) := by kernel_rfl
  have v4 : keepS (cutS (13 - backF vN) ⟨⟨[], [y8, y9]⟩⟩) = some ⟨⟨[], [y9]⟩⟩ := by kernel_rfl
  rw [(Prod.mk.inj v1).1, (Prod.mk.inj v1).2] at p1
  rw [(Prod.mk.inj v2).1, (Prod.mk.inj v2).2] at p2
  rw [(Prod.mk.inj v3).1, (Prod.mk.inj v3).2] at p3
  have p4 := G32s0_eq 13 vN (-1) (optM (keyB vN 0 rowX) (some ⟨⟨[], [y8, y9]⟩⟩)) vN_ok (okMX _ _ (fun s h => by cases h; exact okS3)) (by decide) (by decide) (by decide)
  rw [close1, v4] at p4
  have hm5 : okM vN (optM (keyB vN 0 rowX) (some ⟨⟨[], [y9]⟩⟩)) := okMX _ _ fun s h => by
    cases h
    exact ⟨.nil, canX.2.2, .nil, okIX 1 (.inr rfl) _ (inX1 9 1 (by decide) (by decide) (by decide) (by decide)), by decide, by decide⟩
  have p5 := G15s0_eq vN 13 (optM (keyB vN 0 rowX) (some ⟨⟨[], [y9]⟩⟩)) hm5.mc fun k s hs => ⟨by have := (hm5.s k s hs).l0; omega, by have := (hm5.s k s hs).l1; omega⟩
  have v5 : W (sumK (cntK (optM (keyB vN 0 rowX) (some ⟨⟨[], [y9]⟩⟩))) (mkeys (optM (keyB vN 0 rowX) (some ⟨⟨[], [y9]⟩⟩)))) = 1 := by
    rw [show mkeys (optM (keyB vN 0 rowX) (some ⟨⟨[], [y9]⟩⟩)) = [keyB vN 0 rowX] from rfl]
    simp only [sumK, cntK, look1]
    kernel_rfl
  rw [v5] at p5
  have p6 := G16s0_eq vN 13 (optM (keyB vN 0 rowX) (some ⟨⟨[], [y9]⟩⟩))
  have e9 : G9s0 (GNode.mk 6 ([] : List Int) ⟨#[]⟩ 0 ([] : List Expr) 0 0 0 [0] [0] 2 5 0 ([] : List GAgg) ([] : List GPat) ([] : List GCol)) = some (vN, -1, []) := G9s0_eq vN (by decide) (by decide)
  unfold G7 T7
  simp only [Tr.den]
  rw [e9]
  simp only [Option.bind_some, G31_eq]
  rw [show G25s0 0 [atD 3 1] vN (-1) [] = _ from p1]
  simp only [Option.bind_some]
  rw [show G25s0 1 [atD 8 1, atD 9 1] vN (-1) (optM (keyB vN 0 rowX) (some ⟨⟨[x3], []⟩⟩)) = _ from p2]
  simp only [Option.bind_some]
  rw [show G25s0 0 [atD 3 (-1)] vN (-1) (optM (keyB vN 0 rowX) (some ⟨⟨[x3], [y8, y9]⟩⟩)) = _ from p3]
  simp only [Option.bind_some]
  rw [p4]
  simp only [Option.bind_some, Int.toNat_zero]
  rw [p5]
  simp only [Option.bind_some]
  rw [p6]
  rfl
end Go.PL
namespace Go.PL
open Go
set_option linter.unusedVariables false
set_option maxRecDepth 20000

theorem boolF {b : Bool} (h : b = false) : ¬ (b = true) := by rw [h]; decide

theorem bigs {k L : Nat} (hk : k ≤ 20) (hL : L ≤ 8) : k * 800000000 + L * 100000000 ≤ 1000000000000 ∧ k * 800000000 + L * 100000000 ≤ (k + 1) * 800000000 := by omega
/-! ### a push -/
theorem pushOut_ok {n : GNode} {i : Int} {l : List GDelta} {m : KS} (hi : i = 0 ∨ i = 1) (hl : okI n i l) (hm : okM n m) (hlen : l.length ≤ 1000) :
    okD ((mkeys (groupM n i l)).flatMap (pushO n i l m)) ∧ ((mkeys (groupM n i l)).flatMap (pushO n i l m)).length ≤ l.length * 100000000 := by
  have hbig : ∀ k, (pushO n i l m k).length ≤ 100000000 := fun k => chgF_len (hm.get k) (Nat.le_trans (ofK_len n i k l) (by omega))
  have hokO : ∀ k, okD (pushO n i l m k) := fun k => chgF_ok hi (ofK_okI hl) (hm.get k)
  refine ⟨⟨fun x hx => ?_, fun x hx => ?_⟩, ?_⟩
  · obtain ⟨a, ha, hx⟩ := List.mem_flatMap.1 hx
    exact (hokO a).r x hx
  · obtain ⟨a, ha, hx⟩ := List.mem_flatMap.1 hx
    exact (hokO a).n x hx
  · refine Nat.le_trans (flatMapK_len hbig _) (Nat.mul_le_mul ?_ (Nat.le_refl _))
    rw [mkeys, List.length_map]
    exact groupM_len n i l
/-- the results so far are the meaning of what is kept -/
structure SInv (n : GNode) (m : KS) (sum : List GDelta) (c : Nat) : Prop where
  ok : okD sum
  len : sum.length ≤ c
  wt : ∀ p, W (PL.wt p sum) = W (Phi n p m)
theorem SInv.init (n : GNode) : SInv n [] [] 0 := ⟨.nil, Nat.le_refl _, fun p => rfl⟩
theorem SInv.push {n : GNode} (hN : okNode n) {i : Int} (hi : i = 0 ∨ i = 1) {l : List GDelta} {m : KS} {sum : List GDelta} {c : Nat} (hm : okM n m) (hl : okI n i l) (hlen : l.length ≤ 1000) (h : SInv n m sum c) (hc : c + l.length * 100000000 ≤ 1000000000000) :
    ∃ out, G25s0 i l n (-1) m = some (out, pushM n i (PL.cons l) m) ∧ ∃ s', G12 sum out = some s' ∧ SInv n (pushM n i (PL.cons l) m) s' (c + l.length * 100000000) := by
  have hcl := cons_len l
  have hmul : (PL.cons l).length * 100000000 ≤ l.length * 100000000 := Nat.mul_le_mul hcl (Nat.le_refl _)
  obtain ⟨q1, q2⟩ := pushOut_ok hi hl.cons hm (by omega)
  have q3 := cons_len ((mkeys (groupM n i (PL.cons l))).flatMap (pushO n i (PL.cons l) m))
  have hsl := h.len
  refine ⟨_, G25s0_eq i l n (-1) m hi hN hl hm hlen (by omega), _, G12_eq _ _ h.ok q1.cons (by omega), (h.ok.app q1.cons).cons, ?_, fun p => ?_⟩
  · refine Nat.le_trans (cons_len _) ?_
    rw [List.length_append]; omega
  · rw [cons_same _ p, wt_app]
    have h2 := push_wt hN p hi hm (cons_can hl.n)
    rw [W_add (h.wt p) ((cons_same _ p).trans h2)]
    congr 1; omega
/-- a push of results alone -/
theorem SInv.push0 {n : GNode} (hN : okNode n) {i : Int} (hi : i = 0 ∨ i = 1) {l : List GDelta} (hl : okI n i l) (hlen : l.length ≤ 1000) :
    ∃ out, G25s0 i l n (-1) [] = some (out, pushM n i (PL.cons l) []) ∧ SInv n (pushM n i (PL.cons l) []) out (l.length * 100000000) := by
  have hm : okM n [] := ⟨MC_nil, fun k s hs => by cases hs⟩
  have hcl := cons_len l
  have hmul : (PL.cons l).length * 100000000 ≤ l.length * 100000000 := Nat.mul_le_mul hcl (Nat.le_refl _)
  obtain ⟨q1, q2⟩ := pushOut_ok hi hl.cons hm (by omega)
  refine ⟨_, G25s0_eq i l n (-1) [] hi hN hl hm hlen (by omega), q1.cons, ?_, fun p => ?_⟩
  · exact Nat.le_trans (cons_len _) (Nat.le_trans q2 hmul)
  · have h2 := push_wt hN p hi hm (cons_can hl.n)
    rw [cons_same _ p, h2, Phi_nil]
    congr 1; omega

/-! ### all that is pushed -/
def pushS : List GAct → List GDelta → List GDelta → List GDelta × List GDelta
  | [], a, b => (a, b)
  | x :: l, a, b => pushS l (if inA x = 0 then PL.cons (two (inA x) a b ++ x.L) else a) (if inA x = 0 then b else PL.cons (two (inA x) a b ++ x.L))
structure PIn (n : GNode) (a0 a1 : List GDelta) (k : Nat) : Prop where
  c0 : Can a0
  i0 : okI n 0 a0
  l0 : a0.length ≤ 8 * k
  p0 : ∀ d, d ∈ a0 → 1 ≤ d.N ∧ d.N ≤ 20
  z0 : okZ a0
  c1 : Can a1
  i1 : okI n 1 a1
  l1 : a1.length ≤ 8 * k
  p1 : ∀ d, d ∈ a1 → 1 ≤ d.N ∧ d.N ≤ 20
  z1 : okZ a1
theorem PIn.nil (n : GNode) : PIn n [] [] 0 := ⟨.nil, .nil, by simp, by simp, fun _ h => (by cases h), .nil, .nil, by simp, by simp, fun _ h => (by cases h)⟩
theorem PIn.in0 {n : GNode} {a0 a1 : List GDelta} {k : Nat} (h : PIn n a0 a1 k) (hk : k ≤ 100) : InOk n 0 a0 := ⟨h.c0, h.i0, by have := h.l0; omega, h.p0⟩
theorem PIn.in1 {n : GNode} {a0 a1 : List GDelta} {k : Nat} (h : PIn n a0 a1 k) (hk : k ≤ 100) : InOk n 1 a1 := ⟨h.c1, h.i1, by have := h.l1; omega, h.p1⟩
theorem okZ_act {ta tb : List Int} {n : GNode} (hR : RightN n ta tb) {l : List GDelta} (h : okL 40 okGDelta l) {i : Int} (hF : ∀ d, d ∈ l → d.Row.length = (two i ta tb).length) : okZ l := by
  intro d hd
  have hl := hF d hd
  have h1 := (h.2 d hd).2.1.2
  refine ⟨?_, fun v hv => ?_, fun v hv => (h1 v hv).2.2⟩
  · have := hR.la
    have := hR.lb
    rw [hl]
    unfold two; split <;> omega
  · have := h1 v hv
    exact ⟨this.1, this.2.1, Nat.le_trans this.2.2 (by omega)⟩
theorem PIn.push {n : GNode} {ta tb : List Int} (hR : RightN n ta tb) {a0 a1 : List GDelta} {k : Nat} (h : PIn n a0 a1 k) {x : GAct} (hx : okL 40 okGDelta x.L) (hL : x.L.length ≤ 8)
    (hD : ∀ d, d ∈ x.L → -1 < d.Time ∧ 0 ≤ d.Time ∧ d.Time ≤ 2199023255552 ∧ d.Row.length = (two (inA x) ta tb).length ∧ -3 ≤ d.N ∧ d.N ≤ 3) (hP : ∀ d, d ∈ PL.cons (two (inA x) a0 a1 ++ x.L) → 1 ≤ d.N ∧ d.N ≤ 20) :
    okI n (inA x) x.L ∧ PIn n (if inA x = 0 then PL.cons (two (inA x) a0 a1 ++ x.L) else a0) (if inA x = 0 then a1 else PL.cons (two (inA x) a0 a1 ++ x.L)) (k + 1) := by
  have hi := bit1 x.Do
  have hIL : okI n (inA x) x.L := okI_of hR hx hi hD
  have hZ := okZ_act hR hx (i := inA x) fun d hd => (hD d hd).2.2.2.1
  refine ⟨hIL, ?_⟩
  have hcn := cons_len (two (inA x) a0 a1 ++ x.L)
  rw [List.length_append] at hcn
  rcases (show inA x = 0 ∨ inA x = 1 from hi) with e | e
  · rw [e] at hP hcn hIL ⊢
    rw [if_pos rfl, if_pos rfl]
    rw [show two 0 a0 a1 = a0 from rfl] at *
    have := h.l0
    have := h.l1
    exact ⟨cons_can (h.i0.app hIL).n, (h.i0.app hIL).cons, by omega, hP, (h.z0.app hZ).cons, h.c1, h.i1, by omega, h.p1, h.z1⟩
  · rw [e] at hP hcn hIL ⊢
    rw [if_neg (by omega), if_neg (by omega)]
    rw [show two 1 a0 a1 = a1 from rfl] at *
    have := h.l0
    have := h.l1
    exact ⟨h.c0, h.i0, by omega, h.p0, h.z0, cons_can (h.i1.app hIL).n, (h.i1.app hIL).cons, by omega, hP, (h.z1.app hZ).cons⟩
theorem fits_open {ta tb : List Int} {x : GAct} {l : List GAct} {a0 a1 : List GDelta} (h3 : isCl x = false) (h : FitsR ta tb (x :: l) a0 a1 (-1)) : x.L.length ≤ 8 ∧ (∀ d, d ∈ x.L → -1 < d.Time ∧ 0 ≤ d.Time ∧ d.Time ≤ 2199023255552 ∧ d.Row.length = (two (inA x) ta tb).length ∧ -3 ≤ d.N ∧ d.N ≤ 3) ∧ (∀ d, d ∈ PL.cons (two (inA x) a0 a1 ++ x.L) → 1 ≤ d.N ∧ d.N ≤ 20) ∧
    FitsR ta tb l (if inA x = 0 then PL.cons (two (inA x) a0 a1 ++ x.L) else a0) (if inA x = 0 then a1 else PL.cons (two (inA x) a0 a1 ++ x.L)) (-1) := h.2 h3

theorem G24s0_eq (n : GNode) (ta tb : List Int) (hR : RightN n ta tb) (acts : List GAct) (hok : okL 40 okGAct acts) (hlen : acts.length ≤ 30) (hF : FitsR ta tb acts [] [] (-1)) (hcl : ∀ j, j < acts.length → isCl (acts.getD j default) = false) :
    G24s0 acts = some [(pushS acts [] []).1, (pushS acts [] []).2] := by
  refine Sp.eq ?_
  unfold G24s0 T24s0
  simp only [Tr.den]
  refine Sq.bind (fun z => z = .inl [(pushS acts [] []).1, (pushS acts [] []).2]) (sq_count (fun s : List (List GDelta) × Int => s.2) acts.length (by omega)
    (fun s => ∃ a0 a1, s.1 = [a0, a1] ∧ PIn n a0 a1 s.2.toNat ∧ FitsR ta tb (acts.drop s.2.toNat) a0 a1 (-1) ∧ pushS (acts.drop s.2.toNat) a0 a1 = pushS acts [] []) (fun s k hI hk hkN => ?_) ⟨[], [], rfl, PIn.nil n, by simpa using hF, rfl⟩ rfl) (fun z hz => by subst hz; exact sq_some.2 rfl)
  obtain ⟨v1, v2⟩ := s
  obtain ⟨a0, a1, e1, hP, hFk, hS⟩ := hI
  simp only at hk e1 hP hFk hS
  subst hk e1
  rw [Int.toNat_natCast] at hP hFk hS
  unfold T24s0_L0
  simp only [Tr.den, Int.toNat_natCast]
  by_cases hc : k < acts.length
  · rw [if_pos (decT (by omega)), if_pos (by omega)]
    have h3 := hcl k hc
    rw [drop_getD hc] at hFk hS
    obtain ⟨hL, hD, hPs, hF'⟩ := fits_open h3 hFk
    have hx := (hok.2 _ (getD_mem hc)).2.2
    obtain ⟨hIL, hP'⟩ := hP.push hR hx hL hD hPs
    have hi := bit1 (acts.getD k default).Do
    have hne : (bitA .i64 (acts.getD k default).Do 3 != 3) = true := by
      have : (bitA .i64 (acts.getD k default).Do 3 == 3) = false := h3
      simp only [bne, this, Bool.not_false]
    rw [if_pos hne]
    have g1 : 0 ≤ bitA .i64 (acts.getD k default).Do 1 ∧ bitA .i64 (acts.getD k default).Do 1 < (([a0, a1] : List (List GDelta)).length : Int) := by simp only [List.length_cons, List.length_nil]; omega
    have g2 : (bitA .i64 (acts.getD k default).Do 1).toNat < ([a0, a1] : List (List GDelta)).length := by simp only [List.length_cons, List.length_nil]; omega
    rw [if_pos (by omega), if_pos (by omega), if_pos g1, if_pos g2, if_pos (by omega), two_get hi]
    have oktw : okI n (inA (acts.getD k default)) (two (inA (acts.getD k default)) a0 a1) := by
      rcases (show inA (acts.getD k default) = 0 ∨ inA (acts.getD k default) = 1 from hi) with h | h
      · rw [h]; exact hP.i0
      · rw [h]; exact hP.i1
    have ltw : (two (inA (acts.getD k default)) a0 a1).length ≤ 8 * k := by have := hP.l0; have := hP.l1; unfold two; split <;> omega
    rw [G47_eq _ _ oktw.okD hIL.okD (by omega)]
    simp only [Option.bind_some]
    rw [if_pos g1, if_pos g2]
    rw [if_pos (show (([((bitA .i64 (acts.getD k default).Do 1).toNat, PL.cons (two (inA (acts.getD k default)) a0 a1 ++ (acts.getD k default).L))] : List (Nat × List GDelta)).all fun p => decide (p.1 < ([a0, a1] : List (List GDelta)).length)) = true by simp only [List.all_cons, List.all_nil, Bool.and_true, decide_eq_true_eq]; exact g2)]
    simp only [Option.bind_some]
    rw [two_set hi]
    refine sq_some.2 ⟨rfl, hc, _, _, rfl, ?_, ?_, ?_⟩
    · simp only; rw [wrap_inc (by omega), Int.toNat_natCast]; exact hP'
    · simp only; rw [wrap_inc (by omega), Int.toNat_natCast]; exact hF'
    · simp only; rw [wrap_inc (by omega), Int.toNat_natCast]; exact hS
  · rw [if_neg (decF (by omega))]
    have hke : k = acts.length := by omega
    subst hke
    rw [List.drop_length] at hS
    refine sq_some.2 ?_
    rw [← hS]; rfl
theorem aft_neg {n : GNode} {i : Int} {a : List GDelta} (h : okI n i a) : ∀ d, d ∈ a → aft (-1) d = true := fun d hd => decT (by have := (h.t d hd).1; omega)
theorem aft_all {n : GNode} {i : Int} {a : List GDelta} (h : okI n i a) : a.filter (aft (-1)) = a := List.filter_eq_self.2 (aft_neg h)

/-- what the first loop leaves -/
structure TInv (n : GNode) (a0 a1 : List GDelta) (k : Nat) (m : KS) (sum : List GDelta) : Prop where
  p : PIn n a0 a1 k
  o : OInv n a0 a1 (-1) m
  s : SInv n m sum (k * 800000000)
theorem takes1 (n : GNode) (ta tb : List Int) (hN : okNode n) (hR : RightN n ta tb) (acts : List GAct) (hok : okL 40 okGAct acts) (hlen : acts.length ≤ 20) (hF : FitsR ta tb acts [] [] (-1)) (r1 : Bool) :
    Sp (whileM (fun s => (T5_L0 acts r1 (n, -1, []) s).den) (([] : KS), -1, ([] : List GDelta), 0))
      (fun z => z = .inr r1 ∨ ∃ m sum, z = .inl (m, -1, sum) ∧ (∀ j, j < acts.length → isCl (acts.getD j default) = false) ∧ TInv n (pushS acts [] []).1 (pushS acts [] []).2 acts.length m sum) := by
  refine sq_count (fun s : KS × Int × List GDelta × Int => s.2.2.2) acts.length (by omega)
    (fun s => s.2.1 = -1 ∧ ∃ a0 a1, TInv n a0 a1 s.2.2.2.toNat s.1 s.2.2.1 ∧ FitsR ta tb (acts.drop s.2.2.2.toNat) a0 a1 (-1) ∧ pushS (acts.drop s.2.2.2.toNat) a0 a1 = pushS acts [] [] ∧ ∀ j, j < s.2.2.2.toNat → isCl (acts.getD j default) = false) (fun s k hI hk hkN => ?_)
    ⟨rfl, [], [], ⟨PIn.nil n, OInv.init n _, SInv.init n⟩, by simpa using hF, rfl, fun j hj => by simp at hj⟩ rfl
  obtain ⟨m, cl, sum, v9⟩ := s
  obtain ⟨ecl, a0, a1, hT, hFk, hS, hcl⟩ := hI
  simp only at hk ecl hT hFk hS hcl
  subst hk ecl
  rw [Int.toNat_natCast] at hT hFk hS hcl
  unfold T5_L0
  simp only [Tr.den, Int.toNat_natCast]
  by_cases hc : k < acts.length
  · rw [if_pos (decT (by omega)), if_pos (by omega)]
    cases h3 : isCl (acts.getD k default) with
    | true =>
      rw [if_pos h3]
      exact sq_some.2 (.inl rfl)
    | false =>
      rw [if_neg (boolF h3), if_pos (by omega)]
      rw [drop_getD hc] at hFk hS
      obtain ⟨hL, hD, hPs, hF'⟩ := fits_open h3 hFk
      have hx := (hok.2 _ (getD_mem hc)).2.2
      obtain ⟨hIL, hP'⟩ := hT.p.push hR hx hL hD hPs
      have hi := bit1 (acts.getD k default).Do
      have hM := hT.o.okM (hT.p.in0 (by omega)) (hT.p.in1 (by omega))
      have hlmul : (acts.getD k default).L.length * 100000000 ≤ 8 * 100000000 := Nat.mul_le_mul hL (Nat.le_refl _)
      obtain ⟨hbig, hnext⟩ := bigs (k := k) (Nat.le_trans hkN hlen) hL
      obtain ⟨out, e1, s', e2, hS'⟩ := hT.s.push hN hi hM hIL (Nat.le_trans hL (by decide)) hbig
      unfold G11s0 T11s0
      simp only [Tr.den]
      rw [if_neg (boolF h3), e1]
      simp only [Option.bind_some]
      rw [e2]
      simp only [Option.bind_some]
      refine sq_some.2 ⟨rfl, hc, rfl, _, _, ⟨?_, hT.o.push hT.p.c0 hT.p.c1 hi hIL.n (aft_neg hIL), ?_⟩, ?_, ?_, ?_⟩
      · simp only; rw [wrap_inc (by omega), Int.toNat_natCast]; exact hP'
      · simp only; rw [wrap_inc (by omega), Int.toNat_natCast]; exact ⟨hS'.ok, Nat.le_trans hS'.len hnext, hS'.wt⟩
      · simp only; rw [wrap_inc (by omega), Int.toNat_natCast]; exact hF'
      · simp only; rw [wrap_inc (by omega), Int.toNat_natCast]; exact hS
      · simp only; rw [wrap_inc (by omega), Int.toNat_natCast]
        intro j hj
        by_cases hjk : j = k
        · subst hjk; exact h3
        · exact hcl j (by omega)
  · rw [if_neg (decF (by omega))]
    have hke : k = acts.length := by omega
    subst hke
    rw [List.drop_length] at hS
    refine sq_some.2 (.inr ⟨m, sum, rfl, hcl, ?_⟩)
    rw [← hS]
    exact hT
end Go.PL
namespace Go.PL
open Go
set_option linter.unusedVariables false
set_option maxRecDepth 20000

theorem part_eq {α : Type} [Inhabited α] (xs : List α) (lo n : Nat) (h : lo + n ≤ xs.length) : part xs lo n = (xs.drop lo).take n := by
  apply List.ext_getElem?
  intro i
  unfold part
  rw [List.getElem?_map, List.getElem?_take, List.getElem?_drop]
  by_cases hi : i < n
  · rw [if_pos hi, List.getElem?_range hi]
    simp [List.getD_eq_getElem?_getD, show lo + i < xs.length by omega]
  · rw [if_neg hi, List.getElem?_eq_none (by simp; omega)]; rfl
theorem part_erase {α : Type} [Inhabited α] (xs : List α) (k : Nat) (h : k < xs.length) : part xs 0 k ++ part xs (k + 1) (xs.length - (k + 1)) = xs.eraseIdx k := by
  rw [part_eq xs 0 k (by omega), part_eq xs (k + 1) _ (by omega), List.eraseIdx_eq_take_drop_succ, List.drop_zero, List.take_of_length_le (l := xs.drop (k + 1)) (by rw [List.length_drop]; omega)]
theorem wt_erase (p : Pl → Bool) : ∀ (l : List GDelta) (k : Nat), k < l.length → wt p l = (if p (pl (l.getD k default)) = true then (l.getD k default).N else 0) + wt p (l.eraseIdx k)
  | [], k, h => by simp at h
  | x :: l, 0, _ => rfl
  | x :: l, k + 1, h => by
    have ih := wt_erase p l k (by simpa using h)
    simp only [List.eraseIdx_cons_succ, wt, List.getD_cons_succ]
    omega
theorem Can.eraseIdx {l : List GDelta} (h : Can l) (k : Nat) : Can (l.eraseIdx k) :=
  ⟨h.lt.sublist (List.eraseIdx_sublist l k), fun x hx => h.nz x ((List.eraseIdx_sublist l k).mem hx), fun x hx => h.n64 x ((List.eraseIdx_sublist l k).mem hx)⟩
theorem cons_take {l : List GDelta} (h : Can l) {k : Nat} (hk : k < l.length) (hp : ∀ d, d ∈ l → 1 ≤ d.N ∧ d.N ≤ 20) : PL.cons (l ++ [neg (l.getD k default)]) = l.eraseIdx k := by
  have hx := hp _ (getD_mem hk)
  have hN : (neg (l.getD k default)).N = - (l.getD k default).N := by
    show W (0 - (l.getD k default).N) = _
    rw [W_id ⟨by omega, by omega⟩]; omega
  refine cons_eq (h.eraseIdx k) (fun x hx' => ?_) fun p => ?_
  · rcases List.mem_append.1 hx' with hx' | hx'
    · exact h.n64 x hx'
    · rw [List.mem_singleton.1 hx', hN]; exact ⟨by omega, by omega⟩
  · congr 1
    have e := wt_erase p l k hk
    rw [wt_app]
    have e2 : wt p [neg (l.getD k default)] = if p (pl (l.getD k default)) = true then - (l.getD k default).N else 0 := by
      simp only [wt, Int.add_zero]
      rw [hN]; rfl
    rw [e2, e]
    split <;> omega
theorem neg_okI {n : GNode} {i : Int} {l : List GDelta} (h : okI n i l) {k : Nat} (hk : k < l.length) : okI n i [neg (l.getD k default)] := by
  have hm : l.getD k default ∈ l := getD_mem hk
  refine ⟨fun d hd => ?_, fun d hd => ?_, fun d hd => ?_, fun d hd => ?_, fun d hd => ?_⟩
  all_goals rw [List.mem_singleton.1 hd]
  · exact h.v (l.getD k default) hm
  · exact h.c (l.getD k default) hm
  · exact h.r (l.getD k default) hm
  · exact h.t (l.getD k default) hm
  · exact W_in _
theorem InOk.take {n : GNode} {i : Int} {l : List GDelta} (h : InOk n i l) (k : Nat) : InOk n i (l.eraseIdx k) := by
  have hs := List.eraseIdx_sublist l k
  have hl := hs.length_le
  have := h.len
  exact ⟨h.can.eraseIdx k, h.ok.sub fun x hx => hs.mem hx, by omega, fun d hd => h.pos d (hs.mem hd)⟩

structure UInv (n : GNode) (A B : List GDelta) (m : KS) (sum : List GDelta) (k : Nat) : Prop where
  a : InOk n 0 A
  b : InOk n 1 B
  o : OInv n A B (-1) m
  s : SInv n m sum (100000000000 + k * 100000000)
  k : k + A.length + B.length ≤ 400
theorem UInv.two {n : GNode} {A B : List GDelta} {m : KS} {sum : List GDelta} {k : Nat} (h : UInv n A B m sum k) {i : Int} (hi : i = 0 ∨ i = 1) : InOk n i (two i A B) := by
  rcases hi with rfl | rfl
  · exact h.a
  · exact h.b
theorem UInv.step {n : GNode} (hN : okNode n) {A B : List GDelta} {m : KS} {sum : List GDelta} {k : Nat} (h : UInv n A B m sum k) {i : Int} (hi : i = 0 ∨ i = 1) {j : Nat} (hj : j < (PL.two i A B).length) :
    ∃ out, G25s0 i [neg ((PL.two i A B).getD j default)] n (-1) m = some (out, pushM n i (PL.cons [neg ((PL.two i A B).getD j default)]) m) ∧ ∃ s', G12 sum out = some s' ∧
      UInv n (if i = 0 then (PL.two i A B).eraseIdx j else A) (if i = 0 then B else (PL.two i A B).eraseIdx j) (pushM n i (PL.cons [neg ((PL.two i A B).getD j default)]) m) s' (k + 1) ∧
      (if i = 0 then (PL.two i A B).eraseIdx j else A).length + (if i = 0 then B else (PL.two i A B).eraseIdx j).length < A.length + B.length := by
  have hT := h.two hi
  have hI := neg_okI hT.ok hj
  have hM := h.o.okM h.a h.b
  have hk := h.k
  have hbig : (100000000000 + k * 100000000) + [neg ((PL.two i A B).getD j default)].length * 100000000 ≤ 1000000000000 := by
    simp only [List.length_cons, List.length_nil]; omega
  obtain ⟨out, e1, s', e2, hS⟩ := h.s.push hN hi hM hI (by simp) hbig
  have hO := h.o.push h.a.can h.b.can hi hI.n (aft_neg hI)
  have ec := cons_take hT.can hj hT.pos
  rw [ec] at hO
  have hel := List.length_eraseIdx_of_lt hj
  refine ⟨out, e1, s', e2, ?_, ?_⟩
  · have hS' : SInv n (pushM n i (PL.cons [neg ((PL.two i A B).getD j default)]) m) s' (100000000000 + (k + 1) * 100000000) := ⟨hS.ok, Nat.le_trans hS.len (by simp only [List.length_cons, List.length_nil]; omega), hS.wt⟩
    rcases hi with rfl | rfl
    · refine ⟨?_, ?_, hO, hS', ?_⟩
      · rw [if_pos rfl]; exact hT.take j
      · rw [if_pos rfl]; exact h.b
      · rw [if_pos rfl, if_pos rfl, hel]; show k + 1 + (A.length - 1) + B.length ≤ 400
        have : j < A.length := hj
        omega
    · refine ⟨?_, ?_, hO, hS', ?_⟩
      · rw [if_neg (by omega)]; exact h.a
      · rw [if_neg (by omega)]; exact hT.take j
      · rw [if_neg (by omega), if_neg (by omega), hel]; show k + 1 + A.length + (B.length - 1) ≤ 400
        have : j < B.length := hj
        omega
  · rcases hi with rfl | rfl
    · rw [if_pos rfl, if_pos rfl, hel]; show (A.length - 1) + B.length < A.length + B.length
      have : j < A.length := hj
      omega
    · rw [if_neg (by omega), if_neg (by omega), hel]; show A.length + (B.length - 1) < A.length + B.length
      have : j < B.length := hj
      omega

theorem takes2 (n : GNode) (hN : okNode n) (order : List Int) (r1 : Bool) {A B : List GDelta} {m : KS} {sum : List GDelta} (h : UInv n A B m sum 0) :
    Sp (whileM (fun s => (T5_L1 order r1 (n, -1, []) (-1) s).den) (m, sum, [A, B], 0)) (fun z => ∃ sum', z = .inl (([] : KS), sum') ∧ okD sum' ∧ sum'.length ≤ 1000000000000 ∧ Same [] sum') := by
  refine Sq.while (fun s : KS × List GDelta × List (List GDelta) × Int => ∃ A B, s.2.2.1 = [A, B] ∧ ∃ k : Nat, s.2.2.2 = (k : Int) ∧ UInv n A B s.1 s.2.1 k)
    (fun s => (s.2.2.1.getD 0 default).length + (s.2.2.1.getD 1 default).length) (fun s hI => ?_) ⟨A, B, rfl, 0, rfl, h⟩
  clear h
  obtain ⟨m, sum, all, v25⟩ := s
  obtain ⟨A, B, e1, k, e2, hU⟩ := hI
  simp only at e1 e2 hU
  subst e1 e2
  have hk := hU.k
  unfold T5_L1
  simp only [Tr.den]
  rw [if_pos (by simp only [List.length_cons, List.length_nil]; omega), if_pos (by simp), if_pos (by simp only [List.length_cons, List.length_nil]; omega), if_pos (by simp)]
  have gA : ([A, B] : List (List GDelta)).getD ((0 : Int)).toNat default = A := rfl
  have gB : ([A, B] : List (List GDelta)).getD ((1 : Int)).toNat default = B := rfl
  rw [gA, gB, wrap_add (by omega)]
  by_cases h0 : ((A.length + B.length : Nat) : Int) > 0
  · rw [if_pos (decT h0)]
    refine Sq.bind (fun s : List (List GDelta) × Int × Int => s.1 = [A, B] ∧ (s.2.1 = 0 ∨ s.2.1 = 1)) ?_ fun s1 hs1 => ?_
    · by_cases hc : (k : Int) < order.length
      · rw [if_pos (decT hc), if_pos ⟨by omega, hc⟩, if_pos ⟨by omega, hc⟩]
        exact sq_some.2 ⟨rfl, bit1 _⟩
      · rw [if_neg (decF hc)]
        exact sq_some.2 ⟨rfl, .inl rfl⟩
    obtain ⟨x1, in1, at1⟩ := s1
    obtain ⟨q1, q2⟩ := hs1
    simp only at q1 q2
    subst q1
    simp only
    rw [if_pos (by simp only [List.length_cons, List.length_nil]; omega), if_pos (by simp only [List.length_cons, List.length_nil]; omega)]
    refine Sq.bind (fun s : List (List GDelta) × Int => s.1 = [A, B] ∧ (s.2 = 0 ∨ s.2 = 1) ∧ 0 < (two s.2 A B).length) ?_ fun s2 hs2 => ?_
    · rw [two_get q2]
      by_cases hz : ((two in1 A B).length : Int) = 0
      · rw [if_pos (beqT hz)]
        refine sq_some.2 ⟨rfl, ?_, ?_⟩
        · rcases q2 with rfl | rfl
          · exact .inr rfl
          · exact .inl rfl
        · rcases q2 with rfl | rfl
          · have hz' : A.length = 0 := by have : ((A.length : Nat) : Int) = 0 := hz; omega
            show 0 < B.length
            omega
          · have hz' : B.length = 0 := by have : ((B.length : Nat) : Int) = 0 := hz; omega
            show 0 < A.length
            omega
      · rw [if_neg (beqF hz)]
        exact sq_some.2 ⟨rfl, q2, by show 0 < (two in1 A B).length; omega⟩
    obtain ⟨x2, in2⟩ := s2
    obtain ⟨q3, q4, q5⟩ := hs2
    simp only at q3 q4 q5
    subst q3
    simp only
    have g1 : 0 ≤ in2 ∧ in2 < (([A, B] : List (List GDelta)).length : Int) := by simp only [List.length_cons, List.length_nil]; omega
    have g2 : in2.toNat < ([A, B] : List (List GDelta)).length := by simp only [List.length_cons, List.length_nil]; omega
    rw [if_pos g1, if_pos g2, two_get q4]
    have hlx : (two in2 A B).length ≤ 400 := by unfold two; split <;> omega
    rw [if_pos (by omega)]
    have b1 := Int.tmod_lt_of_pos at1 (b := ((two in2 A B).length : Int)) (by omega)
    have b2 := Int.lt_tmod_of_pos at1 (b := ((two in2 A B).length : Int)) (by omega)
    refine Sq.bind (fun s : List (List GDelta) × Int => s.1 = [A, B] ∧ 0 ≤ s.2 ∧ s.2 < ((two in2 A B).length : Int)) ?_ fun s3 hs3 => ?_
    · by_cases hz : Int.tmod at1 ((two in2 A B).length : Int) < 0
      · rw [if_pos (decT hz), if_pos g1, if_pos g2, wrap_id (by omega) (by omega)]
        exact sq_some.2 ⟨rfl, by simp only; omega, by simp only; omega⟩
      · rw [if_neg (decF hz)]
        exact sq_some.2 ⟨rfl, by simp only; omega, by simp only; omega⟩
    obtain ⟨x3, at3⟩ := s3
    obtain ⟨q6, q7, q8⟩ := hs3
    simp only at q6 q7 q8
    subst q6
    obtain ⟨j, rfl⟩ := Int.eq_ofNat_of_zero_le q7
    simp only
    have hj : j < (two in2 A B).length := by omega
    rw [two_get q4, wrap_inc (n := j) (by omega), Int.sub_zero, Int.toNat_natCast]
    have t1 : ((two in2 A B).length : Int) - ((j + 1 : Nat) : Int) = (((two in2 A B).length - (j + 1) : Nat) : Int) := by omega
    rw [t1, Int.toNat_natCast, Int.toNat_natCast]
    rw [if_pos g1, if_pos g2, if_pos (by omega), if_pos g1, if_pos g2, if_pos (by omega), if_pos (by omega), if_pos g1, if_pos g2, if_pos (by omega), if_pos (by omega), if_pos g1, if_pos g2]
    rw [show ((0 : Int)).toNat = 0 from rfl, part_erase _ _ hj]
    rw [if_pos (show (([(in2.toNat, (two in2 A B).eraseIdx j)] : List (Nat × List GDelta)).all fun p => decide (p.1 < ([A, B] : List (List GDelta)).length)) = true by simp only [List.all_cons, List.all_nil, Bool.and_true, decide_eq_true_eq]; exact g2)]
    obtain ⟨out, z1, s', z2, hU', hlt⟩ := hU.step hN q4 hj
    have z1' : G25s0 in2 [⟨((two in2 A B).getD j default).Time, ((two in2 A B).getD j default).Row, IntKind.i64.wrap (0 - ((two in2 A B).getD j default).N)⟩] n (-1) m = some (out, pushM n in2 (PL.cons [neg ((two in2 A B).getD j default)]) m) := z1
    rw [z1']
    simp only [Option.bind_some]
    rw [z2]
    simp only [Option.bind_some]
    rw [two_set q4, wrap_inc (by omega)]
    exact sq_some.2 ⟨⟨_, _, rfl, k + 1, rfl, hU'⟩, hlt⟩
  · rw [if_neg (decF h0)]
    have hA : A = [] := List.eq_nil_of_length_eq_zero (by omega)
    have hB : B = [] := List.eq_nil_of_length_eq_zero (by omega)
    subst hA hB
    have hm : m = [] := hU.o.empty.2 ⟨rfl, rfl⟩
    subst hm
    refine sq_some.2 ⟨sum, rfl, hU.s.ok, Nat.le_trans hU.s.len (by simp only [List.length_nil] at hk; omega), fun p => ?_⟩
    rw [hU.s.wt p]; rfl
end Go.PL
namespace Go.PL
open Go
set_option linter.unusedVariables false
set_option maxRecDepth 20000

theorem rowsOf_eq {n : GNode} {A B : List GDelta} {m : KS} (h : OInv n A B (-1) m) (hA : okI n 0 A) (hB : okI n 1 B) {i : Int} (hi : i = 0 ∨ i = 1) {k : ByteArray} (hk : k ∈ mkeys m) : rowsOf i m k = ofK n i k (two i A B) := by
  obtain ⟨s, hs⟩ := mkeys_look.1 hk
  unfold rowsOf
  rw [hs]
  rw [h.look] at hs
  rw [keepS_some hs]
  rcases hi with rfl | rfl
  · show ofK n 0 k (A.filter (aft (-1))) = ofK n 0 k A
    rw [aft_all hA]
  · show ofK n 1 k (B.filter (aft (-1))) = ofK n 1 k B
    rw [aft_all hB]
theorem keys_all {n : GNode} {A B : List GDelta} {m : KS} (h : OInv n A B (-1) m) (hA : okI n 0 A) (hB : okI n 1 B) {i : Int} (hi : i = 0 ∨ i = 1) {x : GDelta} (hx : x ∈ two i A B) : kd n i x ∈ mkeys m := by
  rcases hi with rfl | rfl
  · exact h.key (.inl (ofK_mem.2 ⟨by rw [aft_all hA]; exact hx, rfl⟩))
  · exact h.key (.inr (ofK_mem.2 ⟨by rw [aft_all hB]; exact hx, rfl⟩))
theorem G22s0_ex {n : GNode} {A B : List GDelta} {m : KS} (h : OInv n A B (-1) m) (hA : InOk n 0 A) (hB : InOk n 1 B) (zA : okZ A) (zB : okZ B) : ∃ b, G22s0 n (-1) m = some (b, m) := by
  have all : ∀ i : Int, (i = 0 ∨ i = 1) → G54s0 i n (-1) m = some (two i A B, m) := by
    intro i hi
    have hT : InOk n i (two i A B) := by
      rcases hi with rfl | rfl
      · exact hA
      · exact hB
    exact G54s0_eq i n (-1) m hi h.mc hT.can hT.ok.okD hT.pos hT.len (fun k hk => rowsOf_eq h hA.ok hB.ok hi hk) fun x hx => keys_all h hA.ok hB.ok hi hx
  obtain ⟨b0, e0, s0⟩ := G53_ex A hA.ok.okD zA hA.ok.t (by have := hA.len; omega)
  obtain ⟨b1, e1, s1⟩ := G53_ex B hB.ok.okD zB hB.ok.t (by have := hB.len; omega)
  have n1 : in64 (-1) := ⟨by omega, by omega⟩
  have l0 := numB_size n1
  have l1 := txtB_size2 (s := b0) (by omega)
  have l2 := txtB_size2 (s := b1) (by omega)
  suffices hh : Sp (G22s0 n (-1) m) (fun z => z.2 = m) by
    obtain ⟨⟨b, m'⟩, e, q⟩ := hh.get
    simp only at q
    subst q
    exact ⟨b, e⟩
  unfold G22s0 T22s0
  simp only [Tr.den]
  rw [G51_eq n1]
  simp only [Option.bind_some]
  rw [all 0 (.inl rfl)]
  simp only [Option.bind_some]
  rw [show two (0 : Int) A B = A from rfl, e0]
  simp only [Option.bind_some]
  rw [G52_eq2 (by omega)]
  simp only [Option.bind_some]
  rw [if_pos (by omega), all 1 (.inr rfl)]
  simp only [Option.bind_some]
  rw [show two (1 : Int) A B = B from rfl, e1]
  simp only [Option.bind_some]
  rw [G52_eq2 (by omega)]
  simp only [Option.bind_some]
  rw [if_pos (by rw [ByteArray.size_append]; omega)]
  exact sq_some.2 rfl
theorem OInv.uniq {n : GNode} {A B : List GDelta} {t : Int} {m m' : KS} (h : OInv n A B t m) (h' : OInv n A B t m') : m = m' := h.mc.ext LO.bytes h'.mc fun k => by rw [h.look, h'.look]

theorem G5_true (n : GNode) (types : List (List Int)) (acts : List GAct) (order : List Int) (hn : okGNode n) (ht : okL 24 (okL 8 inI64) types) (hok : okL 40 okGAct acts) : G5 n types acts order = some true := by
  refine Sp.eq ?_
  unfold G5 T5
  simp only [Tr.den]
  rw [G7_eq]
  simp only [Option.bind_some]
  refine Sq.bind _ (G8_sp n types acts 20 (by omega) hn ht hok) (fun r hr => ?_)
  cases r with
  | false => exact sq_some.2 rfl
  | true =>
    obtain ⟨ta, tb, rfl, k1, k2, hR, hlen, hF⟩ := hr rfl
    have hN : okNode n := ⟨hR.op, by omega, by omega⟩
    simp only [Bool.not_true, Bool.false_eq_true, if_false, Option.bind_some]
    refine sq_iteB (fun _ => sq_some.2 rfl) fun _ => ?_
    rw [G9s0_eq n (by omega) (by omega)]
    simp only [Option.bind_some]
    refine Sq.bind _ (takes1 n ta tb hN hR acts hok hlen hF true) (fun z hz => ?_)
    rcases hz with rfl | ⟨m, sum, rfl, hcl, hT⟩
    · exact sq_some.2 rfl
    simp only [sel]
    rw [G24s0_eq n ta tb hR acts hok (by omega) hF hcl]
    generalize (pushS acts [] []).1 = A at hT ⊢
    generalize (pushS acts [] []).2 = B at hT ⊢
    have IA := hT.p.in0 (by omega)
    have IB := hT.p.in1 (by omega)
    have zA := hT.p.z0
    have zB := hT.p.z1
    have lA : A.length ≤ 160 := by have := hT.p.l0; omega
    have lB : B.length ≤ 160 := by have := hT.p.l1; omega
    simp only [Option.bind_some]
    have gA : ([A, B] : List (List GDelta)).getD ((0 : Int)).toNat default = A := rfl
    have gB : ([A, B] : List (List GDelta)).getD ((1 : Int)).toNat default = B := rfl
    rw [gA, gB, if_pos (by simp only [List.length_cons, List.length_nil]; omega), if_pos (by simp)]
    -- the other order
    obtain ⟨o1, e1, S1⟩ := SInv.push0 hN (.inr rfl) IB.ok (by omega)
    have O1 : OInv n [] B (-1) (pushM n 1 (PL.cons B) []) := by
      have := (OInv.init n (-1)).push .nil .nil (.inr rfl) IB.ok.n (aft_neg IB.ok)
      rw [if_neg (by omega), if_neg (by omega), show two (1 : Int) ([] : List GDelta) [] ++ B = B from rfl] at this
      rw [cons_id IB.can] at this ⊢
      exact this
    have I0 : InOk n 0 [] := ⟨.nil, .nil, by simp, by simp⟩
    obtain ⟨o2, e2, s2, e3, S2⟩ := S1.push hN (.inl rfl) (O1.okM I0 IB) IA.ok (by omega) (by omega)
    have O2 : OInv n A B (-1) (pushM n 0 (PL.cons A) (pushM n 1 (PL.cons B) [])) := by
      have := O1.push .nil IB.can (.inl rfl) IA.ok.n (aft_neg IA.ok)
      rw [if_pos rfl, if_pos rfl, show two (0 : Int) ([] : List GDelta) B ++ A = A from rfl] at this
      rw [cons_id IA.can] at this ⊢
      exact this
    have em := O2.uniq hT.o
    rw [em] at S2 e2
    rw [e1]
    simp only [Option.bind_some]
    rw [if_pos (by simp only [List.length_cons, List.length_nil]; omega), if_pos (by simp), e2]
    simp only [Option.bind_some]
    rw [e3]
    simp only [Option.bind_some]
    have hsame : Same sum s2 := fun p => by rw [hT.s.wt p, S2.wt p]
    have hsl := hT.s.len
    have hs2 := S2.len
    rw [G26_same sum s2 hT.s.ok S2.ok (by omega) (by omega) hsame]
    simp only [Option.bind_some, Bool.not_true, Bool.false_eq_true, if_false]
    obtain ⟨b, eb⟩ := G22s0_ex hT.o IA IB zA zB
    rw [eb]
    simp only [Option.bind_some]
    rw [if_neg (boolF (by simp))]
    have hU : UInv n A B m sum 0 := ⟨IA, IB, hT.o, ⟨hT.s.ok, by omega, hT.s.wt⟩, by omega⟩
    refine Sq.bind _ (takes2 n hN order true hU) (fun z hz => ?_)
    obtain ⟨sum', rfl, q1, q2, q3⟩ := hz
    simp only [sel]
    have ec : PL.cons sum' = [] := cons_eq .nil q1.n q3
    rw [if_pos trivial, G27s0_eq sum' q1.r q1.n q2, ec]
    simp only [Option.bind_some]
    rw [if_pos (by rfl)]
    rw [G15s0_eq n (-1) [] MC_nil fun k s hs => by cases hs]
    simp only [Option.bind_some]
    rw [if_pos (by rfl), G16s0_eq]
    exact sq_some.2 rfl
end Go.PL
namespace Go.Proofs.YtleighbgfdocfaaGreatDoor
open Go Go.RowKit

abbrev laid3 {H : Type} : List (String × DataW H) := [("math/bits.deBruijn32tab", Rows.laid_math_bits_deBruijn32tab), ("math/bits.deBruijn64tab", Rows.laid_math_bits_deBruijn64tab), ("internal/strconv.uint64pow10", Rows.laid_internal_strconv_uint64pow10)]
theorem own : ownKnob Tryz.prog.godebug = none := by kernel_rfl
theorem gTab : Tryz.prog.globalNamed "internal/strconv.uint64pow10" = some 0 := by kernel_rfl
theorem pow_datum : (Rows.laid_internal_strconv_uint64pow10 : DataW Unit) = Lib.tabData .u64 Lib.pow10Tab := by rfl
theorem pow_tab {W : World} (h : laidMetH Tryz.prog laid3 W) : Lib.TabIs Tryz.prog W "internal/strconv.uint64pow10" .u64 Lib.pow10Tab ∧ 0 < W.heap.size := by
  have h' : laidMet Tryz.prog laid3 W := h
  obtain ⟨ps, hv, _⟩ := h'
  obtain ⟨g1, t1, cs1, f1, p1, q1, _, _, _, _, hv2, _⟩ := hv
  obtain ⟨g2, t2, cs2, f2, p2, q2, _, _, _, _, hv3, _⟩ := hv2
  obtain ⟨g, t, cs, fuel, p, q, hg, hty, hvar, hd, _, _⟩ := hv3
  obtain rfl := Option.some.inj (gTab.symm.trans hg)
  have hT : Lib.TabIs Tryz.prog W "internal/strconv.uint64pow10" .u64 Lib.pow10Tab := by
    have ht' : ((Tryz.prog.globals[0]?).map (·.type)) = some 231 := by kernel_rfl
    obtain rfl := Option.some.inj (ht'.symm.trans hty)
    rw [pow_datum] at hd
    unfold Lib.TabIs
    rw [hvar, ← Lib.cells_of_tab Tryz.underlying231 Tryz.underlying216 (by kernel_rfl) (by kernel_rfl) hd]
  refine ⟨hT, ?_⟩
  have hc := hT.cell gTab 0 (by decide)
  refine Classical.byContradiction fun h0 => ?_
  have : W.heap[0]? = none := Array.getElem?_eq_none (by omega)
  simp [World.cell?, this] at hc
theorem glp {W : World} (h : laidMetH Tryz.prog laid3 W) : PL.GLP Tryz.prog (fun b => b < W.heap.size) W := by
  intro b hb
  obtain ⟨h1, h2⟩ := pow_tab h
  obtain rfl := Option.some.inj (gTab.symm.trans hb)
  exact ⟨h1, h2⟩

/-- what a table's datum lays -/
def cellsD : DataW Unit → Array Value
  | .agg l => (l.map fun d => match d with | .lit (.int k z) => Value.int k z | _ => .bool false).toArray
  | _ => #[]
/-- a world in which the tables hold what they are laid with -/
noncomputable def layAt (h : Array Obj) (b : Nat) (d : DataW Unit) : Array Obj := h.modify b fun
  | .cells _ t frozen => .cells (cellsD d) t frozen
  | o => o
noncomputable def laidWorld (os : Os) : World :=
  { World.holding Tryz.prog os ⟨#[], #[], []⟩ with heap := layAt (layAt (layAt (World.holding Tryz.prog os ⟨#[], #[], []⟩).heap 0 Rows.laid_internal_strconv_uint64pow10) 4 Rows.laid_math_bits_deBruijn32tab) 5 Rows.laid_math_bits_deBruijn64tab }
theorem laid_met (os : Os) (args : Array Value) : laidMet Tryz.prog laid3 ((laidWorld os).forCall (fun _ _ => 0) ⟨#[], args, []⟩).memory :=
  laidMet_of_run' 8 (by kernel_rfl) (by kernel_rfl)

noncomputable abbrev args5 : Array Value := #[.agg #[.int .i64 0, .slice none 0 0, .string .empty, .int .i64 0, .slice none 0 0, .int .i64 0, .int .i64 0, .int .i64 0, .slice none 0 0, .slice none 0 0, .int .i64 0, .int .i64 0, .int .i64 0, .slice none 0 0, .slice none 0 0, .slice none 0 0], .slice none 0 0, .slice none 0 0, .slice none 0 0]
open Go.PL in
set_option maxRecDepth 100000 in
theorem joinTakes_lift (hF : ∀ (a0 : GNode) (a1 : List (List Int)) (a2 : List GAct) (a3 : List Int), PL.okGNode a0 → PL.okL 24 (PL.okL 8 PL.inI64) a1 → PL.okL 40 PL.okGAct a2 → PL.okL 8 PL.inI64 a3 → PL.G5 a0 a1 a2 a3 = some true) (os : Os) (started : os.Started) (H : Type) (enc : TypeId × Value → H) (F : Stop.Interp) :
    ReturnsInHanded {} Tryz.checked os 5 .any ((Rows.OpenSpec.upto Rows.joinTakesSpec).preRow enc Tryz.prog Tryz.f5 Rows.joinTakesUptoRow.domain false Rows.joinTakesUptoRow.laid) (((Rows.OpenSpec.upto Rows.joinTakesSpec).at F).post enc Tryz.prog Tryz.f5 false true false false) := by
  refine returnsInHanded_of_row (C := Tryz.checked) (s := Rows.OpenSpec.upto Rows.joinTakesSpec) own started (by kernel_rfl) Tryz.func5
    (witness_row_at (enc := enc) (C := Tryz.checked) false (laidWorld os) args5 rfl (by kernel_rfl) (by kernel_rfl) (by kernel_rfl)
      (OpenSpec.preRow_of_cond 8 (x := Option.get (DataW.whole enc Tryz.prog ((laidWorld os).forCall (fun _ _ => 0) ⟨#[], args5, []⟩).memory Tryz.f5.params.toList (Rows.OpenSpec.upto Rows.joinTakesSpec).vars false args5.toList 8) (by kernel_rfl)) (Option.some_get _).symm (by kernel_rfl) (fun k hk => by cases hk; kernel_rfl) (by kernel_rfl) (laid_met os _))) ?_
  intro W base args ds gs before hval0 hW _ hcond _ hL _ _
  have hsz := hcond _ rfl
  have hval : ∀ (j : Nat) t v, Tryz.f5.params[j]? = some t → args[j]? = some v → Value.okWide Tryz.prog W .any base t v := hval0
  have hW' : DataW.Whole enc Tryz.prog Tryz.f5.params.toList Rows.joinTakesSpec.vars false W args.toList ds gs before := hW
  obtain ⟨p, q, hA0, hV, rfl, _⟩ := hW
  have hA : DataW.TrodAll enc Tryz.prog W 0 (fun _ => true) true Tryz.f5.params.toList args.toList ds p := hA0
  rw [Tryz.params5] at hA hval
  obtain ⟨v0, vs0, d0, ds0, p0, q0, hl0, rfl, rfl, h0, r0⟩ := Go.ChangeShapes.trodAll_cons hA
  obtain ⟨v1, vs1, d1, ds1, p1, q1, hl1, rfl, rfl, h1, r1⟩ := Go.ChangeShapes.trodAll_cons r0
  obtain ⟨v2, vs2, d2, ds2, p2, q2, hl2, rfl, rfl, h2, r2⟩ := Go.ChangeShapes.trodAll_cons r1
  obtain ⟨v3, vs3, d3, ds3, p3, q3, hl3, rfl, rfl, h3, r3⟩ := Go.ChangeShapes.trodAll_cons r2
  obtain ⟨hl4, rfl, rfl⟩ := Go.ChangeShapes.trodAll_nil r3
  subst hl4
  subst hl3
  subst hl2
  subst hl1
  obtain rfl : args = #[v0, v1, v2, v3] := by cases args; simp_all
  obtain ⟨rfl, rfl⟩ := Go.ChangeShapes.trodVars_none hV
  have hwt : Rows.uptoBulkAll [d0, d1, d2, d3] ≤ 1048576 := by
    have := of_decide_eq_true hsz
    simpa using this
  simp only [Rows.uptoBulkAll] at hwt
  obtain ⟨x0, hx0, ok0⟩ := arg_struct (c := cGNode) Tryz.underlying28 (fun fuel => o28 fuel) (hval 0 28 v0 rfl rfl) h0 (by omega)
  obtain ⟨x1, hx1, ok1⟩ := arg_slice (c := fun xs => eL cL_cInt xs) Tryz.underlying29 (fun fuel => o29 fuel) (hval 1 29 v1 rfl rfl) h1 (by omega)
  obtain ⟨x2, hx2, ok2⟩ := arg_slice (c := fun xs => eL cGAct xs) Tryz.underlying30 (fun fuel => o30 fuel) (hval 2 30 v2 rfl rfl) h2 (by omega)
  obtain ⟨x3, hx3, ok3⟩ := arg_slice (c := fun xs => eL cInt xs) Tryz.underlying22 (fun fuel => o22 fuel) (hval 3 22 v3 rfl rfl) h3 (by omega)
  have hn := hF x0 x1 x2 x3 ok0 ok1 ok2 ok3
  refine (PCall.law ((G5_ok x0 x1 x2 x3).h true hn) (W := W) (vs := #[v0, v1, v2, v3]) rfl (fun j x v hj hv => ?_) (glp hL)).mono fun e W' ⟨he, hb⟩ => ?_
  · match j, hj, hv with
    | 0, hj, hv => cases hj; cases hv; exact .t hx0
    | 1, hj, hv => cases hj; cases hv; exact .t hx1
    | 2, hj, hv => cases hj; cases hv; exact .t hx2
    | 3, hj, hv => cases hj; cases hv; exact .t hx3
    | j + 4, hj, hv => simp at hj
  · subst he
    exact ⟨_, rfl, law_post (by kernel_rfl) rfl hW' hb (tb := 4) (by kernel_rfl) Tryz.underlying4 (fun t ht => by rw [Tryz.params5] at ht; simp at ht; rcases ht with rfl | rfl | rfl | rfl <;> exact ⟨by kernel_rfl, of_decide_eq_true (by kernel_rfl)⟩) rfl⟩

open Go.PL in
theorem joinTakes_row (hF : ∀ (a0 : GNode) (a1 : List (List Int)) (a2 : List GAct) (a3 : List Int), PL.okGNode a0 → PL.okL 24 (PL.okL 8 PL.inI64) a1 → PL.okL 40 PL.okGAct a2 → PL.okL 8 PL.inI64 a3 → PL.G5 a0 a1 a2 a3 = some true) : Rows.JoinTakesUptoSaid :=
  OpenClaim.holds_of_cond 5 Tryz.f5 rfl rfl rfl rfl rfl rfl rfl ⟨rfl, rfl, rfl, rfl, rfl⟩ rfl rfl rfl rfl rfl (by kernel_rfl) Tryz.func5 (by kernel_rfl) (of_decide_eq_true (by kernel_rfl)) (by unfold Func.isWrapper; first | (rw [if_pos (by decide +kernel)]; kernel_rfl) | (rw [if_neg (by decide +kernel)]; exact ⟨rfl, rfl⟩))
    (fun os started H enc _ F => by rw [OpenClaim.pre_eq_preRow]; exact joinTakes_lift hF os started H enc F)
theorem joinTakes_plain (f : FuncId) (fn : Func) (hf : Tryz.pinned.checked.prog.funcNamed "errata/erratalaw32.JoinTakes" = some f) (hfn : Tryz.pinned.checked.prog.funcs[f]? = some fn) :
    true = Tryz.pinned.checked.prog.looks [] ∧ ∀ (j : Nat) t, fn.params[j]? = some t → Tryz.pinned.checked.prog.wantsStandIn t = false := by
  obtain rfl : f = 5 := Option.some.inj ((show Tryz.prog.funcNamed "errata/erratalaw32.JoinTakes" = some 5 by kernel_rfl).symm.trans hf) |>.symm
  obtain rfl : fn = Tryz.f5 := (Option.some.inj (Tryz.func5.symm.trans hfn)).symm
  refine ⟨by kernel_rfl, fun j t ht => ?_⟩
  rw [Tryz.params5] at ht
  have hm := Array.mem_of_getElem? ht
  simp at hm
  rcases hm with rfl | rfl | rfl | rfl
  · exact (show Tryz.prog.wantsStandIn 28 = false by kernel_rfl)
  · exact (show Tryz.prog.wantsStandIn 29 = false by kernel_rfl)
  · exact (show Tryz.prog.wantsStandIn 30 = false by kernel_rfl)
  · exact (show Tryz.prog.wantsStandIn 22 = false by kernel_rfl)
open Go.PL in
theorem joinTakes_card (hF : ∀ (a0 : GNode) (a1 : List (List Int)) (a2 : List GAct) (a3 : List Int), PL.okGNode a0 → PL.okL 24 (PL.okL 8 PL.inI64) a1 → PL.okL 40 PL.okGAct a2 → PL.okL 8 PL.inI64 a3 → PL.G5 a0 a1 a2 a3 = some true) : Rows.JoinTakesUptoCardSaid :=
  Claim7.holds_tied_plain_at .later [] _ _ _ _ (joinTakes_row hF) (fun _ h => by cases h) (by kernel_rfl) (fun _ h => by cases h) joinTakesUpto_row_tie rfl ⟨rfl, rfl⟩ (by kernel_rfl) rfl joinTakes_plain (by kernel_rfl)
end Go.Proofs.YtleighbgfdocfaaGreatDoor
namespace Go.Proofs.YtleighbgfdocfaaGreatDoor
theorem joinTakes_holds : Rows.JoinTakesUptoCardSaid := joinTakes_card fun n t a o h1 h2 h3 _ => PL.G5_true n t a o h1 h2 h3
#print axioms joinTakes_holds
end Go.Proofs.YtleighbgfdocfaaGreatDoor
