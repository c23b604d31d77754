/-
  Parts: From the reading of arguments to plain data; the frame of a law's row. Own work. What reads as data of the argument types reads as plain data of ours. Printed by a program of our own. Plain law: what is right and small. Own work. Plain law: which nodes and acts are right. Own work. Plain law: which acts fit. Own work. Plain law: what an operator keeps. Own work. Plain law: how the meaning of one key changes. Own work. Plain law: what a push changes. Own work. Plain law: the encoding of an operator is made. Own work. Plain facts: encodings of rows tell the rows. Own work. Plain law: the meaning of all that is kept is the reference's meaning of the two inputs. Own work. Plain law: what the laws of joins ask of their arguments. Own work. Plain law: what is pushed into the inputs; sizes. Own work. Plain law: what is forgotten changes no result. Own work. Plain law: the meaning's sort is the sort of deltas; its sum consolidates. Own work. Plain law: the meaning of joins and asofs. Own work. Plain law: the example of the documentation. Own work. Plain law: comparing results. Own work. Plain law: JoinSums gives true, for all arguments. Own work.
-/
import Derived.Test.YtjefblkdnolgaaaGreatDoorMf
import Derived.Test.YtjefblkdnolgaaaGreatDoorRows
import Derived.JoinedCond
import Derived.ProofKit
import Derived.OpenShut
import Derived.Carry
import Derived.DataReads
import Derived.ChangeAnyMap
import Derived.KernelRfl
namespace Go.PL
open Go Go.RowKit
open Go.Proofs.YtjefblkdnolgaaaGreatDoor.Rows (uptoBulk uptoBulkAll)
def RdL (F : Nat → Prop) (W : World) (l : List T) (cs : List Value) : Prop := cs.length = l.length ∧ ∀ (j : Nat) x v, l[j]? = some x → cs[j]? = some v → Rd F W x v
theorem RdL.append {F : Nat → Prop} {W : World} {l l' : List T} {cs cs' : List Value} (h : RdL F W l cs) (h' : RdL F W l' cs') : RdL F W (l ++ l') (cs ++ cs') := by
 refine ⟨by simp [h.1, h'.1], fun j x v hx hv => ?_⟩
 by_cases hj : j < l.length
 ·rw [List.getElem?_append_left hj] at hx
  rw [List.getElem?_append_left (by rw [h.1]; exact hj)] at hv
  exact h.2 j x v hx hv
 ·rw [List.getElem?_append_right (by omega)] at hx
  rw [List.getElem?_append_right (by rw [h.1]; omega), h.1] at hv
  exact h'.2 _ x v hx hv
def inI64 (n : Int) : Prop := -9223372036854775808 ≤ n ∧ n ≤ 9223372036854775807
section
variable {H : Type} {enc : TypeId × Value → H} {P : Program} {W : World}
def Opens (enc : TypeId × Value → H) (P : Program) (W : World) (t : TypeId) {X : Type} (c : X → List T) (ok : X → Prop) (fuel : Nat) : Prop :=
 ∀ cs d ps, DataW.trod enc P W 0 (fun _ => true) true fuel t cs = some (d, ps) → uptoBulk d ≤ 1048576 → ∃ x, RdL (fun b => b < W.heap.size) W (c x) cs ∧ ok x
theorem opens_zero {t : TypeId} {X : Type} {c : X → List T} {ok : X → Prop} : Opens enc P W t c ok 0 := fun cs d ps h => by simp [DataW.trod] at h
theorem RdL.one {F : Nat → Prop} {W : World} {x : T} {v : Value} (h : Rd F W x v) : RdL F W [x] [v] := by
 refine ⟨rfl, fun j y u hy hu => ?_⟩
 cases j with
 | zero => simp at hy hu; subst hy; subst hu; exact h
 | succ j => simp at hy
theorem opens_int {t : TypeId} (ht : P.underlying t = some (.int .i64)) (fuel : Nat) : Opens enc P W t cInt inI64 fuel := by
 cases fuel with
 | zero => exact opens_zero
 | succ fuel =>
  intro cs d ps h _
  unfold DataW.trod at h
  rw [ht] at h
  split at h <;> try (simp_all; done)
  rename_i k k' n hk
  split at h
  ·rename_i hk2
   cases hk
   obtain ⟨rfl, hwf⟩ := hk2
   refine ⟨n, RdL.one (.int _ _), ?_⟩
   simp [Lit.wf, IntKind.min, IntKind.max, IntKind.signed, IntKind.bits] at hwf
   exact ⟨by omega, by omega⟩
  ·cases h
def okStr (s : ByteArray) : Prop := s.size ≤ 1048576
theorem opens_string {t : TypeId} (ht : P.underlying t = some .string) (fuel : Nat) : Opens enc P W t cStr okStr fuel := by
 cases fuel with
 | zero => exact opens_zero
 | succ fuel =>
  intro cs d ps h hw
  unfold DataW.trod at h
  rw [ht] at h
  split at h <;> try (simp_all; done)
  rename_i s hk
  split at h
  ·cases h
   refine ⟨s, RdL.one (.str _), ?_⟩
   have : s.data.toList.length + 1 ≤ 1048576 := hw
   have : s.size = s.data.toList.length := rfl
   unfold okStr
   omega
  ·cases h
theorem mapM_get {α β : Type} {f : α → Option β} : ∀ {l : List α} {r : List β}, l.mapM f = some r → r.length = l.length ∧ ∀ (i : Nat) a b, l[i]? = some a → r[i]? = some b → f a = some b
 | [], r, h => by simp at h; subst h; simp
 | x :: l, r, h => by
  rw [List.mapM_cons] at h
  simp only [Option.bind_eq_bind, Option.bind_eq_some_iff] at h
  obtain ⟨y, hy, ys, hys, hr⟩ := h
  simp at hr; subst hr
  obtain ⟨h1, h2⟩ := mapM_get hys
  refine ⟨by simp [h1], fun i a b ha hb => ?_⟩
  cases i with
  | zero => simp at ha hb; subst ha; subst hb; exact hy
  | succ i => exact h2 i a b (by simpa using ha) (by simpa using hb)
theorem uptoBulk_pos : ∀ d : DataW H, 1 ≤ uptoBulk d
 | .lit l => by unfold uptoBulk; split <;> omega
 | .nil => by simp [uptoBulk]
 | .ptr d => by simp [uptoBulk]
 | .slice e s => by simp [uptoBulk]
 | .agg p => by simp [uptoBulk]
 | .iface t d => by simp [uptoBulk]
 | .map e => by simp [uptoBulk]
 | .held h => by simp [uptoBulk]
theorem bulkAll_len : ∀ l : List (DataW H), l.length ≤ uptoBulkAll l
 | [] => by simp
 | d :: l => by simp only [uptoBulkAll, List.length_cons]; have := uptoBulk_pos d; have := bulkAll_len l; omega
theorem bulkAll_mem : ∀ {l : List (DataW H)} {d : DataW H}, d ∈ l → uptoBulk d ≤ uptoBulkAll l
 | x :: l, d, h => by
  simp only [uptoBulkAll]
  rcases List.mem_cons.1 h with rfl | h
  ·omega
  ·have := bulkAll_mem h; omega
def okL {X : Type} (_b : Nat) (ok : X → Prop) (xs : List X) : Prop := xs.length ≤ 1048576 ∧ ∀ x, x ∈ xs → ok x
theorem opens_slice {t e b : Nat} (ht : P.underlying t = some (.slice e)) (hn : Nat.blt 0 (P.cellsOf e) = true) (hb : P.bytesOf e = b) {X : Type} [Inhabited X] {c : X → List T} {ok : X → Prop} {fuel : Nat} (he : Opens enc P W e c ok fuel) (mk : List X → T)
  (hmk : ∀ xs, (mk xs).view = some (xs.length, fun i => c (xs.getD i default))) : Opens enc P W t (fun xs => [mk xs]) (okL b ok) (fuel + 1) := by
 have hz : 0 < P.cellsOf e := by simpa [Nat.blt_eq] using hn
 clear hn
 subst hb
 intro cs d ps h hw
 unfold DataW.trod at h
 rw [ht] at h
 split at h <;> try (simp_all; done)
 ·
  rename_i hk
  cases hk
  refine ⟨[], RdL.one (.nil (hmk [])), by simp, by simp⟩
 ·rename_i e' a len cap hk
  cases hk
  simp only at h
  split at h
  ·rename_i hcap
   simp only [Option.bind_eq_some_iff, Option.map_eq_some_iff] at h
   obtain ⟨elems, hel, rest, hrest, hd⟩ := h
   simp only [Prod.mk.injEq] at hd
   obtain ⟨rfl, rfl⟩ := hd
   obtain ⟨hlen, hget⟩ := mapM_get hel
   simp only [List.length_range] at hlen
   have hwt : uptoBulkAll (elems.map (·.1)) ≤ 1048576 := by
    have hw2 : uptoBulkAll (elems.map (·.1)) + uptoBulkAll (rest.map (·.1)) + 1 ≤ 1048576 := hw
    omega
   have hl : len ≤ 1048576 := by
    have := bulkAll_len (elems.map (·.1))
    simp only [List.length_map, hlen] at this
    omega
   have each : ∀ i, i < len → ∃ x vs, W.cells? 0 (a.add (i * P.cellsOf e)) (P.cellsOf e) = some vs ∧ RdL (fun b => b < W.heap.size) W (c x) vs ∧ ok x := by
    intro i hi
    have hi' : i < elems.length := by omega
    have := hget i i elems[i] (by simp [hi]) (by simp [hi'])
    simp only [Option.bind_eq_some_iff] at this
    obtain ⟨vs, hvs, htr⟩ := this
    obtain ⟨x, h1, h2⟩ := he vs elems[i].1 elems[i].2 htr (Nat.le_trans (bulkAll_mem (List.mem_map_of_mem (List.getElem_mem hi'))) hwt)
    exact ⟨x, vs, hvs, h1, h2⟩
   have all : ∃ xs : List X, xs.length = len ∧ ∀ i, i < len → ∃ vs, W.cells? 0 (a.add (i * P.cellsOf e)) (P.cellsOf e) = some vs ∧ RdL (fun b => b < W.heap.size) W (c (xs.getD i default)) vs ∧ ok (xs.getD i default) := by
    clear hel hrest hget hw hwt hl hlen hcap
    induction len with
    | zero => exact ⟨[], rfl, fun i hi => absurd hi (Nat.not_lt_zero _)⟩
    | succ len ih =>
     obtain ⟨xs, h1, h2⟩ := ih fun i hi => each i (by omega)
     obtain ⟨x, vs, h3, h4, h5⟩ := each len (by omega)
     refine ⟨xs ++ [x], by simp [h1], fun i hi => ?_⟩
     by_cases hil : i < len
     ·have : (xs ++ [x]).getD i default = xs.getD i default := by simp [List.getD_eq_getElem?_getD, List.getElem?_append_left (show i < xs.length by omega)]
      rw [this]; exact h2 i hil
     ·have hil : i = len := by omega
      subst hil
      have : (xs ++ [x]).getD i default = x := by simp [List.getD_eq_getElem?_getD, ← h1]
      rw [this]; exact ⟨vs, h3, h4, h5⟩
   obtain ⟨xs, hxl, hxs⟩ := all
   refine ⟨xs, RdL.one ?_, by rw [hxl]; exact hl, fun x hx => ?_⟩
   ·have hsz : ∀ i, i < len → (c (xs.getD i default)).length = P.cellsOf e := by
     intro i hi
     obtain ⟨vs, h1, h2, _⟩ := hxs i hi
     rw [← h2.1]
     unfold World.cells? at h1
     rw [if_pos (Nat.zero_le _)] at h1
     have := (mapM_get h1).1; simpa using this
    have hcell : ∀ i j, i < len → j < P.cellsOf e → ∃ u, W.cell? (a.add (i * P.cellsOf e + j)) = some u ∧ ∀ x, (c (xs.getD i default))[j]? = some x → Rd (fun b => b < W.heap.size) W x u := by
     intro i j hi hj
     obtain ⟨vs, h1, h2, _⟩ := hxs i hi
     unfold World.cells? at h1
     rw [if_pos (Nat.zero_le _)] at h1
     obtain ⟨h3, h4⟩ := mapM_get h1
     simp only [List.length_range] at h3
     have := h4 j j vs[j] (by simp [hj]) (by simp [h3, hj])
     rw [Addr.add_add] at this
     exact ⟨vs[j], this, fun x hx => h2.2 j x vs[j] hx (by simp [h3, hj])⟩
    let vsf : Nat → Nat → Value := fun i j => (W.cell? (a.add (i * P.cellsOf e + j))).getD undef
    refine .sl a cap (P.cellsOf e) vsf (n := len) (f := fun i => c (xs.getD i default)) (by rw [hmk, hxl]) hcap.2.1 (fun hn => ?_) hsz (fun i j hi hj => ?_) (fun i j x hi hx => ?_)
    ·obtain ⟨u, hu, _⟩ := hcell 0 0 hn hz
     have hb := World.block_lt_of_cell? W _ hu
     have : (a.add (0 * P.cellsOf e + 0)).block = a.block := by unfold Addr.add; split <;> rfl
     rw [this] at hb
     exact hb
    ·obtain ⟨u, hu, _⟩ := hcell i j hi hj
     simp [vsf, hu]
    ·have hj : j < P.cellsOf e := by rw [← hsz i hi]; exact (List.getElem?_eq_some_iff.1 hx).1
     obtain ⟨u, hu, hr⟩ := hcell i j hi hj
     simp only [vsf, hu, Option.getD_some]
     exact hr x hx
   ·obtain ⟨i, hi, rfl⟩ := List.getElem_of_mem hx
    obtain ⟨_, _, _, h⟩ := hxs i (by omega)
    simpa [List.getD_eq_getElem?_getD, hi] using h
  ·cases h
def OpensF (enc : TypeId × Value → H) (P : Program) (W : World) (off : Nat) (fs : List Field) {X : Type} (c : X → List T) (ok : X → Prop) (fuel : Nat) : Prop :=
 ∀ (cs : List Value) xs, fs.mapM (fun f => DataW.trod enc P W 0 (fun _ => true) true fuel f.type ((cs.drop f.offset).take (P.cellsOf f.type))) = some xs →
  uptoBulkAll (xs.map (·.1)) ≤ 1048576 → cs.length = off + (fs.map fun f => P.cellsOf f.type).sum → ∃ x, RdL (fun b => b < W.heap.size) W (c x) (cs.drop off) ∧ ok x
theorem opensF_nil {off fuel : Nat} : OpensF enc P W off [] (fun (_ : Unit) => []) (fun _ => True) fuel := by
 intro cs xs _ _ hl
 simp at hl
 exact ⟨(), ⟨by simp [hl], by simp⟩, trivial⟩
theorem opensF_cons {off fuel : Nat} {f : Field} {fs : List Field} {X Y : Type} {c : X → List T} {c' : Y → List T} {ok : X → Prop} {ok' : Y → Prop} (ho : f.offset = off) (h : Opens enc P W f.type c ok fuel)
  (h' : OpensF enc P W (off + P.cellsOf f.type) fs c' ok' fuel) : OpensF enc P W off (f :: fs) (fun (x : X × Y) => c x.1 ++ c' x.2) (fun x => ok x.1 ∧ ok' x.2) fuel := by
 intro cs xs hx hw hl
 rw [List.mapM_cons] at hx
 simp only [Option.bind_eq_bind, Option.bind_eq_some_iff] at hx
 obtain ⟨y, hy, ys, hys, hr⟩ := hx
 simp at hr; subst hr
 simp only [List.map_cons, uptoBulkAll] at hw
 obtain ⟨x, h1, h2⟩ := h _ _ _ hy (by omega)
 simp only [List.map_cons, List.sum_cons] at hl
 obtain ⟨x', h3, h4⟩ := h' cs ys hys (by omega) (by omega)
 refine ⟨(x, x'), ?_, h2, h4⟩
 have : cs.drop off = (cs.drop f.offset).take (P.cellsOf f.type) ++ cs.drop (off + P.cellsOf f.type) := by
  rw [ho, ← List.drop_drop, List.take_append_drop]
 rw [this]
 exact h1.append h3
theorem opens_struct {t : TypeId} {fs : Array Field} (ht : P.underlying t = some (.struct fs)) {X : Type} {c : X → List T} {ok : X → Prop} {fuel : Nat} (h : OpensF enc P W 0 fs.toList c ok fuel)
  (hs : P.cellsOf t = (fs.toList.map fun f => P.cellsOf f.type).sum) : Opens enc P W t c ok (fuel + 1) := by
 intro cs d ps hd hw
 unfold DataW.trod at hd
 rw [ht] at hd
 split at hd <;> try (simp_all; done)
 rename_i cs0 _ _ fs' hk
 cases hk
 split at hd
 ·rename_i hl
  simp only [Option.map_eq_some_iff] at hd
  obtain ⟨xs, hxs, hd⟩ := hd
  simp only [Prod.mk.injEq] at hd
  obtain ⟨rfl, _⟩ := hd
  have hw2 : uptoBulkAll (xs.map (·.1)) + 1 ≤ 1048576 := hw
  have := h _ xs hxs (by omega) (by rw [hl, hs]; simp)
  simpa using this
 ·cases hd
theorem Opens.map {t : TypeId} {X Y : Type} {c : X → List T} {ok : X → Prop} {c' : Y → List T} {ok' : Y → Prop} {fuel : Nat} (h : Opens enc P W t c ok fuel) (g : X → Y) (hc : ∀ x, c' (g x) = c x) (ho : ∀ x, ok x → ok' (g x)) :
  Opens enc P W t c' ok' fuel := by
 intro cs d ps hd hw
 obtain ⟨x, h1, h2⟩ := h cs d ps hd hw
 exact ⟨g x, by rw [hc]; exact h1, ho x h2⟩
end
theorem RdL.agg {F : Nat → Prop} {W : World} {l : List T} {v : Value} (h : RdL F W l v.cells.toList) (hv : ∃ vs, v = .agg vs) : Rd F W (.agg l) v := by
 obtain ⟨vs, rfl⟩ := hv
 simp only [Value.cells] at h
 exact .agg (by simpa using h.1) fun j x v hx hv => h.2 j x v hx (by simpa using hv)
section
variable {H : Type} {enc : TypeId × Value → H} {P : Program} {W : World} {r : Reach} {base : Nat}
theorem arg_struct {t : TypeId} {fs : Array Field} (ht : P.underlying t = some (.struct fs)) {X : Type} {c : X → List T} {ok : X → Prop} (hO : ∀ fuel, Opens enc P W t c ok fuel) {v : Value} {d : DataW H} {ps : List MemPlace}
  (hv : Value.okWide P W r base t v) (h : DataW.Trod enc P W 0 (fun _ => true) true t v d ps) (hw : uptoBulk d ≤ 1048576) : ∃ x, Rd (fun b => b < W.heap.size) W (.agg (c x)) v ∧ ok x := by
 obtain ⟨cs, rfl, _⟩ := Go.WideShapes.okWide_struct ht hv
 obtain ⟨fuel, hf⟩ := h
 obtain ⟨x, h1, h2⟩ := hO fuel _ _ _ hf hw
 exact ⟨x, h1.agg ⟨cs, rfl⟩, h2⟩
theorem arg_one {t : TypeId} {X : Type} {c : X → T} {ok : X → Prop} (hO : ∀ fuel, Opens enc P W t (fun x => [c x]) ok fuel) {v : Value} {d : DataW H} {ps : List MemPlace}
  (hv : v.cells = #[v]) (h : DataW.Trod enc P W 0 (fun _ => true) true t v d ps) (hw : uptoBulk d ≤ 1048576) : ∃ x, Rd (fun b => b < W.heap.size) W (c x) v ∧ ok x := by
 obtain ⟨fuel, hf⟩ := h
 obtain ⟨x, h1, h2⟩ := hO fuel _ _ _ hf hw
 exact ⟨x, h1.2 0 _ _ (by simp) (by simp [hv]), h2⟩
theorem arg_slice {t e : TypeId} (ht : P.underlying t = some (.slice e)) {X : Type} {c : X → T} {ok : X → Prop} (hO : ∀ fuel, Opens enc P W t (fun x => [c x]) ok fuel) {v : Value} {d : DataW H} {ps : List MemPlace}
  (hv : Value.okWide P W r base t v) (h : DataW.Trod enc P W 0 (fun _ => true) true t v d ps) (hw : uptoBulk d ≤ 1048576) : ∃ x, Rd (fun b => b < W.heap.size) W (c x) v ∧ ok x := by
 obtain ⟨a, l, q, rfl⟩ := Go.WideShapes.okWide_slice ht hv
 exact arg_one hO rfl h hw
end
theorem kept_of_below {W W' : World} (h : Below W.heap.size W W') (may : MemPlace → Prop) : W.keptBut W' may := by
 refine ⟨h.os, h.output, fun i hi => ?_⟩
 rw [h.block i hi]
 cases W.heap[i]? with
 | none => trivial
 | some o => cases o <;> simp
section
variable {H : Type} {enc : TypeId × Value → H} {P : Program}
theorem trodAll_below (hl : laidOutB P = true) {W W' : World} (hb : Below W.heap.size W W') : ∀ {ts : List TypeId} {vs : List Value} {ds : List (DataW H)} {ps : List MemPlace},
  (∀ t, t ∈ ts → P.readableRec t = true ∧ t < P.types.size) → DataW.TrodAll enc P W 0 (fun _ => true) true ts vs ds ps → (∀ x, x ∈ ps → x.block < W.heap.size) →
  DataW.TrodAll enc P W' 0 (fun b => decide (b < W.heap.size)) true ts vs ds ps
 | [], [], [], ps, _, h, _ => h
 | t :: ts, v :: vs, d :: ds, ps, hr, h, hp => by
  obtain ⟨p, q, h1, h2, rfl⟩ := h
  obtain ⟨r1, r2⟩ := hr t (by simp)
  exact ⟨p, q, Go.RowKit.Below.trod hl r1 r2 h1 hb (fun x hx => hp x (List.mem_append_left _ hx)), trodAll_below hl hb (fun t ht => hr t (List.mem_cons_of_mem _ ht)) h2 (fun x hx => hp x (List.mem_append_right _ hx)), rfl⟩
 | [], _ :: _, _, _, _, h, _ => by simp [DataW.TrodAll] at h
 | [], [], _ :: _, _, _, h, _ => by simp [DataW.TrodAll] at h
 | _ :: _, [], _, _, _, h, _ => by simp [DataW.TrodAll] at h
 | _ :: _, _ :: _, [], _, _, h, _ => by simp [DataW.TrodAll] at h
theorem law_post (hlay : laidOutB P = true) {f : Func} {s : ChangeSpec} {W W' : World} {args : Array Value} {ds gs : List (DataW H)} {before : List MemPlace} {tb : TypeId} (hvars : s.vars = [])
  (hW : DataW.Whole enc P f.params.toList s.vars false W args.toList ds gs before) (hb : Below W.heap.size W W') (hres : f.resultTypes = #[tb]) (htb : P.underlying tb = some .bool)
  (hread : ∀ t, t ∈ f.params.toList → P.readableRec t = true ∧ t < P.types.size) (hfn : s.fn H (ds ++ gs) = { results := [.lit (.bool true)], args := ds }) :
  s.post enc P f false true false false W args (.bool true) W' := by
 have hW' := hW
 obtain ⟨p, q, hA, hV, rfl, _⟩ := hW
 rw [hvars] at hV
 cases gs with
 | cons g gs => simp [DataW.TrodVars] at hV
 | nil =>
  simp only [DataW.TrodVars] at hV
  subst hV
  have hlt : ∀ x, x ∈ p → x.block < W.heap.size := fun x hx => by simpa using hW'.lt x (by simp [hx])
  refine ⟨ds, [], p ++ [], [], p, [], hW', ?_, ?_, ?_, kept_of_below hb _, fun h => by cases h⟩
  ·rw [hfn, hres]
   exact ⟨[], [], ⟨1, by simp [DataW.trod, htb, Value.cells]⟩, rfl, rfl⟩
  ·rw [hfn]
   exact trodAll_below hlay hb hread hA hlt
  ·rw [hvars, hfn]; exact rfl
theorem PCall.law {P : Program} {k : FuncId} {args : List PV} (h : PCall P k args [] [] (Ret (.t (.bool true)))) {W : World} {vs : Array Value} (hs : vs.size = args.length)
  (hv : ∀ (j : Nat) x v, args[j]? = some x → vs[j]? = some v → VR (fun b => b < W.heap.size) (fun _ => undef) W x v) (hg : GLP P (fun b => b < W.heap.size) W) :
  Calls P k vs W fun e W' => e = .returned (.bool true) ∧ Below W.heap.size W W' := by
 refine (h (fun b => b < W.heap.size) (fun _ => undef) W vs hs hv ⟨by simp, by simp, by simp⟩ (fun _ h => h) hg).mono ?_
 rintro e w' ⟨v, r, H', F', g', rfl, hr, hvr, hW⟩
 unfold Ret at hr
 subst hr
 have := hvr.inv_bool
 subst this
 exact ⟨rfl, ⟨hW.ext.os, hW.ext.tape, hW.ext.output, hW.ext.size, fun b hb => hW.ext.block b hb (by rintro ⟨o, x, hx, _⟩; simp at hx)⟩⟩
end
end Go.PL
namespace Go.PL
open Go Go.RowKit
set_option maxRecDepth 20000
theorem o23 {H : Type} {enc : TypeId × Value → H} {W : World} (fuel : Nat) : Opens enc Proofs.Tryz.prog W 23 (fun xs => [eL cInt (xs)]) (okL 8 inI64) fuel := by
 cases fuel with
 | zero => exact opens_zero
 | succ fuel => exact opens_slice Proofs.Tryz.underlying23 (by kernel_rfl) (by kernel_rfl) (opens_int Proofs.Tryz.underlying3 fuel) (fun xs => eL cInt (xs)) (fun _ => rfl)
inductive okExpr : Expr → Prop
 | mk0 {a b : Int} {s : ByteArray} {l : List Expr} (ha : inI64 a) (hb : inI64 b) (hs : okStr s) (hn : l.length ≤ 1048576) (hl : ∀ x, x ∈ l → okExpr x) : okExpr (.mk a b s l)
theorem okExpr.mk {a b : Int} {s : ByteArray} {l : List Expr} (ha : inI64 a) (hb : inI64 b) (hs : okStr s) (hl : okL 56 okExpr l) : okExpr (.mk a b s l) := .mk0 ha hb hs hl.1 hl.2
theorem oExpr {H : Type} {enc : TypeId × Value → H} {W : World} : ∀ fuel, Opens enc Proofs.Tryz.prog W 90 exprCells okExpr fuel ∧ Opens enc Proofs.Tryz.prog W 24 (fun xs => [.lz (.exprs xs)]) (okL 56 okExpr) fuel
 | 0 => ⟨opens_zero, opens_zero⟩
 | fuel + 1 => by
  have ih := oExpr (enc := enc) (W := W) fuel
  exact ⟨(opens_struct Proofs.Tryz.underlying90 (opensF_cons (by kernel_rfl) (opens_int Proofs.Tryz.underlying3 fuel) (opensF_cons (by kernel_rfl) (opens_int Proofs.Tryz.underlying3 fuel) (opensF_cons (by kernel_rfl) (opens_string Proofs.Tryz.underlying9 fuel) (opensF_cons (by kernel_rfl) ih.2 opensF_nil)))) (by kernel_rfl)).map (fun x => Expr.mk x.1 x.2.1 x.2.2.1 x.2.2.2.1) (fun _ => rfl) (fun x h => .mk h.1 h.2.1 h.2.2.1 h.2.2.2.1), opens_slice Proofs.Tryz.underlying24 (by kernel_rfl) (by kernel_rfl) ih.1 (fun xs => .lz (.exprs xs)) (fun _ => rfl)⟩
def okGAgg (x : GAgg) : Prop := inI64 x.Kind ∧ inI64 x.Col ∧ okStr x.Name
theorem o122 {H : Type} {enc : TypeId × Value → H} {W : World} (fuel : Nat) : Opens enc Proofs.Tryz.prog W 122 cGAgg okGAgg fuel := by
 cases fuel with
 | zero => exact opens_zero
 | succ fuel => exact (opens_struct Proofs.Tryz.underlying122 (opensF_cons (by kernel_rfl) (opens_int Proofs.Tryz.underlying3 fuel) (opensF_cons (by kernel_rfl) (opens_int Proofs.Tryz.underlying3 fuel) (opensF_cons (by kernel_rfl) (opens_string Proofs.Tryz.underlying9 fuel) opensF_nil))) (by kernel_rfl)).map (fun x => GAgg.mk x.1 x.2.1 x.2.2.1) (fun _ => rfl) (fun x h => ⟨h.1, h.2.1, h.2.2.1⟩)
theorem o25 {H : Type} {enc : TypeId × Value → H} {W : World} (fuel : Nat) : Opens enc Proofs.Tryz.prog W 25 (fun xs => [eL cGAgg (xs)]) (okL 32 okGAgg) fuel := by
 cases fuel with
 | zero => exact opens_zero
 | succ fuel => exact opens_slice Proofs.Tryz.underlying25 (by kernel_rfl) (by kernel_rfl) (o122 fuel) (fun xs => eL cGAgg (xs)) (fun _ => rfl)
def okGPat (x : GPat) : Prop := okExpr x.Pred ∧ inI64 x.Rep
theorem o93 {H : Type} {enc : TypeId × Value → H} {W : World} (fuel : Nat) : Opens enc Proofs.Tryz.prog W 93 cGPat okGPat fuel := by
 cases fuel with
 | zero => exact opens_zero
 | succ fuel => exact (opens_struct Proofs.Tryz.underlying93 (opensF_cons (by kernel_rfl) (oExpr fuel).1 (opensF_cons (by kernel_rfl) (opens_int Proofs.Tryz.underlying3 fuel) opensF_nil)) (by kernel_rfl)).map (fun x => GPat.mk x.1 x.2.1) (fun _ => rfl) (fun x h => ⟨h.1, h.2.1⟩)
theorem o26 {H : Type} {enc : TypeId × Value → H} {W : World} (fuel : Nat) : Opens enc Proofs.Tryz.prog W 26 (fun xs => [eL cGPat (xs)]) (okL 64 okGPat) fuel := by
 cases fuel with
 | zero => exact opens_zero
 | succ fuel => exact opens_slice Proofs.Tryz.underlying26 (by kernel_rfl) (by kernel_rfl) (o93 fuel) (fun xs => eL cGPat (xs)) (fun _ => rfl)
def okGCol (x : GCol) : Prop := okStr x.Name ∧ inI64 x.Type_ ∧ okStr x.Unit
theorem o354 {H : Type} {enc : TypeId × Value → H} {W : World} (fuel : Nat) : Opens enc Proofs.Tryz.prog W 354 cGCol okGCol fuel := by
 cases fuel with
 | zero => exact opens_zero
 | succ fuel => exact (opens_struct Proofs.Tryz.underlying354 (opensF_cons (by kernel_rfl) (opens_string Proofs.Tryz.underlying9 fuel) (opensF_cons (by kernel_rfl) (opens_int Proofs.Tryz.underlying3 fuel) (opensF_cons (by kernel_rfl) (opens_string Proofs.Tryz.underlying9 fuel) opensF_nil))) (by kernel_rfl)).map (fun x => GCol.mk x.1 x.2.1 x.2.2.1) (fun _ => rfl) (fun x h => ⟨h.1, h.2.1, h.2.2.1⟩)
theorem o27 {H : Type} {enc : TypeId × Value → H} {W : World} (fuel : Nat) : Opens enc Proofs.Tryz.prog W 27 (fun xs => [eL cGCol (xs)]) (okL 40 okGCol) fuel := by
 cases fuel with
 | zero => exact opens_zero
 | succ fuel => exact opens_slice Proofs.Tryz.underlying27 (by kernel_rfl) (by kernel_rfl) (o354 fuel) (fun xs => eL cGCol (xs)) (fun _ => rfl)
def okGNode (x : GNode) : Prop := inI64 x.Op ∧ okL 8 inI64 x.In ∧ okStr x.Source ∧ inI64 x.Schema ∧ okL 56 okExpr x.Exprs ∧ inI64 x.Kind ∧ inI64 x.Size ∧ inI64 x.Step ∧ okL 8 inI64 x.Key ∧ okL 8 inI64 x.Key2 ∧ inI64 x.Before ∧ inI64 x.After ∧ inI64 x.Keep ∧ okL 32 okGAgg x.Aggs ∧ okL 64 okGPat x.Seq ∧ okL 40 okGCol x.Cols
theorem o29 {H : Type} {enc : TypeId × Value → H} {W : World} (fuel : Nat) : Opens enc Proofs.Tryz.prog W 29 cGNode okGNode fuel := by
 cases fuel with
 | zero => exact opens_zero
 | succ fuel => exact (opens_struct Proofs.Tryz.underlying29 (opensF_cons (by kernel_rfl) (opens_int Proofs.Tryz.underlying3 fuel) (opensF_cons (by kernel_rfl) (o23 fuel) (opensF_cons (by kernel_rfl) (opens_string Proofs.Tryz.underlying9 fuel) (opensF_cons (by kernel_rfl) (opens_int Proofs.Tryz.underlying3 fuel) (opensF_cons (by kernel_rfl) (oExpr fuel).2 (opensF_cons (by kernel_rfl) (opens_int Proofs.Tryz.underlying3 fuel) (opensF_cons (by kernel_rfl) (opens_int Proofs.Tryz.underlying3 fuel) (opensF_cons (by kernel_rfl) (opens_int Proofs.Tryz.underlying3 fuel) (opensF_cons (by kernel_rfl) (o23 fuel) (opensF_cons (by kernel_rfl) (o23 fuel) (opensF_cons (by kernel_rfl) (opens_int Proofs.Tryz.underlying3 fuel) (opensF_cons (by kernel_rfl) (opens_int Proofs.Tryz.underlying3 fuel) (opensF_cons (by kernel_rfl) (opens_int Proofs.Tryz.underlying3 fuel) (opensF_cons (by kernel_rfl) (o25 fuel) (opensF_cons (by kernel_rfl) (o26 fuel) (opensF_cons (by kernel_rfl) (o27 fuel) opensF_nil)))))))))))))))) (by kernel_rfl)).map (fun x => GNode.mk x.1 x.2.1 x.2.2.1 x.2.2.2.1 x.2.2.2.2.1 x.2.2.2.2.2.1 x.2.2.2.2.2.2.1 x.2.2.2.2.2.2.2.1 x.2.2.2.2.2.2.2.2.1 x.2.2.2.2.2.2.2.2.2.1 x.2.2.2.2.2.2.2.2.2.2.1 x.2.2.2.2.2.2.2.2.2.2.2.1 x.2.2.2.2.2.2.2.2.2.2.2.2.1 x.2.2.2.2.2.2.2.2.2.2.2.2.2.1 x.2.2.2.2.2.2.2.2.2.2.2.2.2.2.1 x.2.2.2.2.2.2.2.2.2.2.2.2.2.2.2.1) (fun _ => rfl) (fun x h => ⟨h.1, h.2.1, h.2.2.1, h.2.2.2.1, h.2.2.2.2.1, h.2.2.2.2.2.1, h.2.2.2.2.2.2.1, h.2.2.2.2.2.2.2.1, h.2.2.2.2.2.2.2.2.1, h.2.2.2.2.2.2.2.2.2.1, h.2.2.2.2.2.2.2.2.2.2.1, h.2.2.2.2.2.2.2.2.2.2.2.1, h.2.2.2.2.2.2.2.2.2.2.2.2.1, h.2.2.2.2.2.2.2.2.2.2.2.2.2.1, h.2.2.2.2.2.2.2.2.2.2.2.2.2.2.1, h.2.2.2.2.2.2.2.2.2.2.2.2.2.2.2.1⟩)
theorem o55 {H : Type} {enc : TypeId × Value → H} {W : World} (fuel : Nat) : Opens enc Proofs.Tryz.prog W 55 (fun xs => [eL cL_cInt (xs)]) (okL 24 (okL 8 inI64)) fuel := by
 cases fuel with
 | zero => exact opens_zero
 | succ fuel => exact opens_slice Proofs.Tryz.underlying55 (by kernel_rfl) (by kernel_rfl) (o23 fuel) (fun xs => eL cL_cInt (xs)) (fun _ => rfl)
def okGValue (x : GValue) : Prop := inI64 x.Kind ∧ inI64 x.N ∧ okStr x.S
theorem o67 {H : Type} {enc : TypeId × Value → H} {W : World} (fuel : Nat) : Opens enc Proofs.Tryz.prog W 67 cGValue okGValue fuel := by
 cases fuel with
 | zero => exact opens_zero
 | succ fuel => exact (opens_struct Proofs.Tryz.underlying67 (opensF_cons (by kernel_rfl) (opens_int Proofs.Tryz.underlying3 fuel) (opensF_cons (by kernel_rfl) (opens_int Proofs.Tryz.underlying3 fuel) (opensF_cons (by kernel_rfl) (opens_string Proofs.Tryz.underlying9 fuel) opensF_nil))) (by kernel_rfl)).map (fun x => GValue.mk x.1 x.2.1 x.2.2.1) (fun _ => rfl) (fun x h => ⟨h.1, h.2.1, h.2.2.1⟩)
theorem o48 {H : Type} {enc : TypeId × Value → H} {W : World} (fuel : Nat) : Opens enc Proofs.Tryz.prog W 48 (fun xs => [eL cGValue (xs)]) (okL 32 okGValue) fuel := by
 cases fuel with
 | zero => exact opens_zero
 | succ fuel => exact opens_slice Proofs.Tryz.underlying48 (by kernel_rfl) (by kernel_rfl) (o67 fuel) (fun xs => eL cGValue (xs)) (fun _ => rfl)
def okGDelta (x : GDelta) : Prop := inI64 x.Time ∧ okL 32 okGValue x.Row ∧ inI64 x.N
theorem o50 {H : Type} {enc : TypeId × Value → H} {W : World} (fuel : Nat) : Opens enc Proofs.Tryz.prog W 50 cGDelta okGDelta fuel := by
 cases fuel with
 | zero => exact opens_zero
 | succ fuel => exact (opens_struct Proofs.Tryz.underlying50 (opensF_cons (by kernel_rfl) (opens_int Proofs.Tryz.underlying3 fuel) (opensF_cons (by kernel_rfl) (o48 fuel) (opensF_cons (by kernel_rfl) (opens_int Proofs.Tryz.underlying3 fuel) opensF_nil))) (by kernel_rfl)).map (fun x => GDelta.mk x.1 x.2.1 x.2.2.1) (fun _ => rfl) (fun x h => ⟨h.1, h.2.1, h.2.2.1⟩)
theorem o37 {H : Type} {enc : TypeId × Value → H} {W : World} (fuel : Nat) : Opens enc Proofs.Tryz.prog W 37 (fun xs => [eL cGDelta (xs)]) (okL 40 okGDelta) fuel := by
 cases fuel with
 | zero => exact opens_zero
 | succ fuel => exact opens_slice Proofs.Tryz.underlying37 (by kernel_rfl) (by kernel_rfl) (o50 fuel) (fun xs => eL cGDelta (xs)) (fun _ => rfl)
def okGAct (x : GAct) : Prop := inI64 x.Do ∧ inI64 x.C ∧ okL 40 okGDelta x.L
theorem o85 {H : Type} {enc : TypeId × Value → H} {W : World} (fuel : Nat) : Opens enc Proofs.Tryz.prog W 85 cGAct okGAct fuel := by
 cases fuel with
 | zero => exact opens_zero
 | succ fuel => exact (opens_struct Proofs.Tryz.underlying85 (opensF_cons (by kernel_rfl) (opens_int Proofs.Tryz.underlying3 fuel) (opensF_cons (by kernel_rfl) (opens_int Proofs.Tryz.underlying3 fuel) (opensF_cons (by kernel_rfl) (o37 fuel) opensF_nil))) (by kernel_rfl)).map (fun x => GAct.mk x.1 x.2.1 x.2.2.1) (fun _ => rfl) (fun x h => ⟨h.1, h.2.1, h.2.2.1⟩)
theorem o80 {H : Type} {enc : TypeId × Value → H} {W : World} (fuel : Nat) : Opens enc Proofs.Tryz.prog W 80 (fun xs => [eL cGAct (xs)]) (okL 40 okGAct) fuel := by
 cases fuel with
 | zero => exact opens_zero
 | succ fuel => exact opens_slice Proofs.Tryz.underlying80 (by kernel_rfl) (by kernel_rfl) (o85 fuel) (fun xs => eL cGAct (xs)) (fun _ => rfl)
end Go.PL
namespace Go.PL
open Go
set_option linter.unusedVariables false
set_option maxRecDepth 20000
theorem sq_count {S R : Type} {b : Bool} {bd : S → Option (S ⊕ R)} (idx : S → Int) (N : Nat) (hN : N ≤ 1000000000000000) (I : S → Prop) {Q : R → Prop}
  (h : ∀ s (k : Nat), I s → idx s = k → k ≤ N → Sq b (bd s) (sel (fun s' => idx s' = IntKind.i64.wrap ((k : Int) + 1) ∧ k < N ∧ I s') Q)) {s : S} (hs : I s) (h0 : idx s = 0) : Sq b (whileM bd s) Q := by
 refine Sq.while (fun s => I s ∧ ∃ k : Nat, idx s = k ∧ k ≤ N) (fun s => N - (idx s).toNat) (fun s hs => ?_) ⟨hs, 0, h0, by omega⟩
 obtain ⟨hI, k, hk, hkN⟩ := hs
 refine (h s k hI hk hkN).imp fun z hz => ?_
 cases z with
 | inr r => exact hz
 | inl s' =>
  obtain ⟨q1, q2, q3⟩ := hz
  rw [wrap_inc (by omega)] at q1
  exact ⟨⟨q3, k + 1, q1, by omega⟩, by rw [q1, hk]; omega⟩
theorem okExpr.len {e : Expr} (h : okExpr e) : e.Args.length ≤ 1048576 := by cases h; assumption
theorem okExpr.arg {e : Expr} (h : okExpr e) : ∀ x, x ∈ e.Args → okExpr x := by cases h; assumption
theorem sizeOf_arg {e x : Expr} (h : x ∈ e.Args) : SizeOf.sizeOf x < SizeOf.sizeOf e := by
 cases e with
 | mk a b s l =>
  have := List.sizeOf_lt_of_mem h
  simp only [Expr.Args] at this
  simp only [Expr.mk.sizeOf_spec]
  omega
theorem G79_sp (e : Expr) (h : okExpr e) : Sp (G79 e) (fun _ => True) := by
 refine fixF_sq (C := fun (a : Expr) (x : Option Int) => Con Proofs.Tryz.prog 129 [.t (eExpr a)] x (fun (y : Int) => .t (.int .i64 (y)))) (fun a => ⟨callable_of Proofs.Tryz.func129 (by kernel_rfl), fun _ h => nomatch h⟩) (fun rec a => T79 rec a) (fun rec a => T79_ok rec a)
  okExpr (fun e => SizeOf.sizeOf e) (fun _ _ => True) (fun b f e he hrec => ?_) true e h
 have hl := he.len
 unfold T79
 simp only [Tr.den, sq_bind]
 refine sq_count (fun s : Int × Int => s.2) e.Args.length (by omega) (fun _ => True) (fun s k _ hk hkN => ?_) trivial rfl
 obtain ⟨v1, v2⟩ := s
 simp only at hk
 subst hk
 unfold T79_L0
 simp only [Tr.den, Int.toNat_natCast]
 by_cases hc : k < e.Args.length
 ·rw [if_pos (decT (by omega)), if_pos (by omega)]
  refine Sq.bind _ (hrec _ (he.arg _ (getD_mem hc)) (sizeOf_arg (getD_mem hc))) fun r _ => sq_some.2 ⟨rfl, hc, trivial⟩
 ·rw [if_neg (decF (by omega))]
  exact sq_some.2 (sq_some.2 trivial)
theorem G80_sp (e : Expr) (h : okExpr e) : Sp (G80 e) (fun _ => True) := by
 refine fixF_sq (C := fun (a : Expr) (x : Option Int) => Con Proofs.Tryz.prog 130 [.t (eExpr a)] x (fun (y : Int) => .t (.int .i64 (y)))) (fun a => ⟨callable_of Proofs.Tryz.func130 (by kernel_rfl), fun _ h => nomatch h⟩) (fun rec a => T80 rec a) (fun rec a => T80_ok rec a)
  okExpr (fun e => SizeOf.sizeOf e) (fun _ _ => True) (fun b f e he hrec => ?_) true e h
 have hl := he.len
 unfold T80
 simp only [Tr.den, sq_bind]
 refine sq_count (fun s : Int × Int => s.2) e.Args.length (by omega) (fun _ => True) (fun s k _ hk hkN => ?_) trivial rfl
 obtain ⟨v1, v2⟩ := s
 simp only at hk
 subst hk
 unfold T80_L0
 simp only [Tr.den, Int.toNat_natCast]
 by_cases hc : k < e.Args.length
 ·rw [if_pos (decT (by omega)), if_pos (by omega)]
  refine Sq.bind _ (hrec _ (he.arg _ (getD_mem hc)) (sizeOf_arg (getD_mem hc))) fun r _ => sq_some.2 ⟨rfl, hc, trivial⟩
 ·rw [if_neg (decF (by omega))]
  exact sq_some.2 (sq_some.2 trivial)
theorem G150_sp (fs : List Int) (e : Expr) (hf : fs.length ≤ 1000000) (h : okExpr e) : Sp (G150 fs e) (fun _ => True) := by
 refine fixF_sq (C := fun (a : (List Int) × Expr) (x : Option Int) => Con Proofs.Tryz.prog 211 [.t (eL cInt (a.1)), .t (eExpr a.2)] x (fun (y : Int) => .t (.int .i64 (y)))) (fun a => ⟨callable_of Proofs.Tryz.func211 (by kernel_rfl), fun _ h => nomatch h⟩) (fun rec a => T150 rec a.1 a.2) (fun rec a => T150_ok rec a.1 a.2)
  (fun a => a.1.length ≤ 1000000 ∧ okExpr a.2) (fun a => SizeOf.sizeOf a.2) (fun _ _ => True) (fun b f a ha hrec => ?_) true (fs, e) ⟨hf, h⟩
 obtain ⟨fs, e⟩ := a
 obtain ⟨hf, he⟩ := ha
 simp only at hf he hrec ⊢
 have hl := he.len
 unfold T150
 simp only [Tr.den, sq_bind]
 refine sq_count (fun s : List Int × Int => s.2) e.Args.length (by omega) (fun s => s.1.length = s.2.toNat) (fun s k hI hk hkN => ?_) rfl rfl
 obtain ⟨v1, v2⟩ := s
 simp only at hk hI
 subst hk
 unfold T150_L0
 simp only [Tr.den, Int.toNat_natCast] at hI ⊢
 by_cases hc : k < e.Args.length
 ·rw [if_pos (decT (by omega)), if_pos (by omega)]
  refine Sq.bind _ (hrec (fs, e.Args.getD k default) ⟨hf, he.arg _ (getD_mem hc)⟩ (sizeOf_arg (getD_mem hc))) fun r _ => ?_
  rw [if_pos (by simp only [List.length_cons, List.length_nil]; omega)]
  refine sq_some.2 ⟨rfl, hc, ?_⟩
  rw [wrap_inc (by omega)]; simp; omega
 ·rw [if_neg (decF (by omega))]
  refine sq_some.2 ?_
  simp only [sel]
  have hv : v1.length = e.Args.length := by omega
  have rest : Sq b ((whileM (fun s => (T150_L1 s).den) (1, v1, 0)).bind (sel (fun b10 => ((if (e.Op == 22) = true then (if decide (e.N ≥ 0) = true then some (decide (e.N < (fs.length : Int))) else some false) else some false)).bind fun j11 =>
    ((if j11 = true then (if 0 ≤ e.N ∧ e.N < (fs.length : Int) then some (if (1099511627776 : Int) < IntKind.i64.wrap (b10 + fs.getD e.N.toNat default) then (1099511627776 : Int) else IntKind.i64.wrap (b10 + fs.getD e.N.toNat default)) else none) else some b10)).bind fun j12 => some j12) some)) (fun _ => True) := by
   rw [sq_bind]
   refine sq_count (fun s : Int × List Int × Int => s.2.2) v1.length (by omega) (fun s => s.2.1 = v1) (fun s k hI hk hkN => ?_) rfl rfl
   obtain ⟨w1, w2, w3⟩ := s
   simp only at hk hI
   subst hk hI
   unfold T150_L1
   simp only [Tr.den, Int.toNat_natCast]
   by_cases hc : k < w2.length
   ·rw [if_pos (decT (by omega)), if_pos (by omega), if_pos hc]
    exact sq_some.2 ⟨rfl, hc, rfl⟩
   ·rw [if_neg (decF (by omega))]
    refine sq_some.2 ?_
    simp only [sel, dec_and]
    by_cases h22 : (e.Op == 22) = true
    ·rw [if_pos h22]
     simp only [Option.bind_some]
     by_cases hr : e.N ≥ 0 ∧ e.N < (fs.length : Int)
     ·rw [if_pos (decT hr), if_pos hr]; exact sq_some.2 trivial
     ·rw [if_neg (decF hr)]; exact sq_some.2 trivial
    ·rw [if_neg h22]; exact sq_some.2 trivial
  by_cases h21 : (e.Op == 21) = true
  ·rw [if_pos h21]
   simp only [Option.bind_some]
   by_cases h3 : ((v1.length : Int) == 3) = true
   ·rw [if_pos h3]
    have h3' : v1.length = 3 := by have := beq_iff_eq.1 h3; omega
    rw [if_pos (by omega), if_pos (by simp; omega), if_pos (by omega), if_pos (by simp; omega), if_pos (by omega), if_pos (by simp; omega)]
    exact sq_some.2 trivial
   ·rw [if_neg h3]; exact rest
  ·rw [if_neg h21]
   simp only [Option.bind_some, Bool.false_eq_true, if_false]
   exact rest
theorem G81_sp (e : Expr) (h : okExpr e) : Sp (G81 [] e) (fun _ => True) := by
 unfold G81 T81
 simp only [Tr.den]
 rw [whileM_stop (r := .inl []) (by unfold T81_L0; simp [Tr.den])]
 simp only [Option.bind_some, sel, sq_bind]
 exact (G150_sp [] e (by simp) h).imp fun _ _ => sq_some.2 trivial
theorem okEs.get {l : List Expr} (h : okL 56 okExpr l) {k : Nat} (hk : k < l.length) : okExpr (l.getD k default) := h.2 _ (getD_mem hk)
theorem G33_sp (n : GNode) (h : okGNode n) : Sp (G33 [] n) (fun r => r = true → n.Key.length ≤ 20 ∧ n.Key2.length ≤ 20) := by
 obtain ⟨_, _, _, _, hE, _, _, _, _, _, _, _, _, _, hS, _⟩ := h
 have hE1 := hE.1
 have hS1 := hS.1
 unfold G33 T33
 simp only [Tr.den]
 rw [whileM_stop (r := .inl ()) (by unfold T33_L0; simp [Tr.den])]
 simp only [Option.bind_some, sel, sq_bind]
 refine sq_count (fun s : Int => s) n.Exprs.length (by omega) (fun _ => True) (fun s k _ hk hkN => ?_) trivial rfl
 subst hk
 unfold T33_L1
 simp only [Tr.den, Int.toNat_natCast, dec_and, Option.bind_some]
 by_cases hc : ((k : Int) < (n.Exprs.length : Int)) ∧ (k : Int) < 13
 ·rw [if_pos (decT hc), if_pos (by omega)]
  have he := okEs.get hE (show k < n.Exprs.length by omega)
  refine Sq.bind _ (G79_sp _ he) fun r _ => ?_
  refine Sq.bind (fun _ => True) ?_ (fun j _ => ?_)
  ·by_cases h1 : r > 200
   ·rw [if_pos (decT h1)]; exact sq_some.2 trivial
   ·rw [if_neg (decF h1), if_pos (by omega)]
    refine Sq.bind _ (G80_sp _ he) fun r _ => ?_
    by_cases h2 : r > 12
    ·rw [if_pos (decT h2)]; exact sq_some.2 trivial
    ·rw [if_neg (decF h2), if_pos (by omega)]
     refine Sq.bind _ (G81_sp _ he) fun r _ => sq_some.2 trivial
  ·cases j with
   | true => exact sq_some.2 (sq_some.2 fun h => by cases h)
   | false => exact sq_some.2 ⟨rfl, by omega, trivial⟩
 ·rw [if_neg (decF hc)]
  refine sq_some.2 ?_
  simp only [sel, sq_bind]
  refine sq_count (fun s : Int => s) n.Seq.length (by omega) (fun _ => True) (fun s k _ hk hkN => ?_) trivial rfl
  subst hk
  unfold T33_L2
  simp only [Tr.den, Int.toNat_natCast, dec_and, Option.bind_some]
  by_cases hc : ((k : Int) < (n.Seq.length : Int)) ∧ (k : Int) < 9
  ·rw [if_pos (decT hc), if_pos (by omega)]
   have he : okExpr (n.Seq.getD k default).Pred := (hS.2 _ (getD_mem (show k < n.Seq.length by omega))).1
   refine Sq.bind _ (G79_sp _ he) fun r _ => ?_
   refine Sq.bind (fun _ => True) ?_ (fun j _ => ?_)
   ·by_cases h1 : r > 200
    ·rw [if_pos (decT h1)]; exact sq_some.2 trivial
    ·rw [if_neg (decF h1), if_pos (by omega)]
     refine Sq.bind _ (G80_sp _ he) fun r _ => ?_
     by_cases h2 : r > 12
     ·rw [if_pos (decT h2)]; exact sq_some.2 trivial
     ·rw [if_neg (decF h2), if_pos (by omega)]
      refine Sq.bind _ (G81_sp _ he) fun r _ => sq_some.2 trivial
   ·cases j with
    | true => exact sq_some.2 (sq_some.2 fun h => by cases h)
    | false => exact sq_some.2 ⟨rfl, by omega, trivial⟩
  ·rw [if_neg (decF hc)]
   refine sq_some.2 ?_
   simp only [sel]
   refine sq_some.2 fun h => ?_
   have h := of_decide_eq_true h
   omega
end Go.PL
namespace Go.PL
open Go
set_option linter.unusedVariables false
set_option maxRecDepth 20000
theorem G82_nil : G82 [] = some true := by
 unfold G82 T82
 simp only [Tr.den]
 rw [whileM_stop (r := .inl ()) (by unfold T82_L0; simp [Tr.den])]
 rfl
theorem G153_eq (a b c : Int) : G153 a b c = some (decide (b ≤ a ∧ a ≤ c)) := by
 unfold G153 T153
 simp only [Tr.den, dec_and, Option.bind_some]
theorem G88_sp (l types : List Int) (h : l.length ≤ 1048576) : Sp (G88 l types) (fun r => r = true → ∀ c, c ∈ l → 0 ≤ c ∧ c < types.length) := by
 unfold G88 T88
 simp only [Tr.den, sq_bind]
 refine sq_count (fun s : Int => s) l.length (by omega) (fun s => ∀ c, c ∈ l.take s.toNat → 0 ≤ c ∧ c < types.length) (fun s k hI hk hkN => ?_) (by simp) rfl
 subst hk
 unfold T88_L0
 simp only [Tr.den, Int.toNat_natCast] at hI ⊢
 by_cases hc : k < l.length
 ·rw [if_pos (decT (by omega)), if_pos (by omega)]
  by_cases h1 : l.getD k default < 0
  ·rw [if_pos (decT h1)]
   exact sq_some.2 (sq_some.2 fun h => by cases h)
  ·rw [if_neg (decF h1), if_pos (by omega)]
   simp only [Option.bind_some]
   by_cases h2 : l.getD k default ≥ types.length
   ·rw [if_pos (decT h2)]
    exact sq_some.2 (sq_some.2 fun h => by cases h)
   ·rw [if_neg (decF h2)]
    refine sq_some.2 ⟨rfl, hc, fun c hcm => ?_⟩
    rw [wrap_inc (by omega), Int.toNat_natCast, take_succ_getD hc, List.mem_append, List.mem_singleton] at hcm
    rcases hcm with hcm | rfl
    ·exact hI c hcm
    ·omega
 ·rw [if_neg (decF (by omega))]
  refine sq_some.2 (sq_some.2 fun _ => ?_)
  rwa [List.take_of_length_le (by omega)] at hI
theorem G90_sp (n : GNode) (a b : List Int) (h : n.Key.length ≤ 1048576) (ha : ∀ c, c ∈ n.Key → 0 ≤ c ∧ c < a.length) (hb : ∀ c, c ∈ n.Key2 → 0 ≤ c ∧ c < b.length) : Sp (G90 n a b) (fun _ => True) := by
 unfold G90 T90
 simp only [Tr.den]
 by_cases hl : (n.Key.length : Int) = n.Key2.length
 ·rw [if_neg (bneF hl)]
  refine sq_bind.2 ?_
  refine sq_count (fun s : Int => s) n.Key.length (by omega) (fun s => True) (fun s k hI hk hkN => ?_) trivial rfl
  subst hk
  unfold T90_L0
  simp only [Tr.den, Int.toNat_natCast]
  by_cases hc : k < n.Key.length
  ·have h1 := ha _ (getD_mem hc)
   have h2 := hb _ (getD_mem (show k < n.Key2.length by omega))
   rw [if_pos (decT (by omega)), if_pos (by omega), if_pos h1, if_pos (by omega), if_pos h2]
   split
   ·exact sq_some.2 (sq_some.2 trivial)
   ·exact sq_some.2 ⟨rfl, hc, trivial⟩
  ·rw [if_neg (decF (by omega))]
   exact sq_some.2 (sq_some.2 trivial)
 ·rw [if_pos (bneT hl)]; exact sq_some.2 trivial
structure RightN (n : GNode) (a b : List Int) : Prop where
 op : (n.Op = 6 ∧ okB n) ∨ (n.Op = 7 ∧ 1 ≤ n.Keep ∧ n.Keep ≤ 10000)
 k1 : ∀ c, c ∈ n.Key → 0 ≤ c ∧ c < a.length
 k2 : ∀ c, c ∈ n.Key2 → 0 ≤ c ∧ c < b.length
 la : a.length ≤ 12
 lb : b.length ≤ 12
theorem G83_sp (n : GNode) (hop : n.Op = 6 ∨ n.Op = 7) : Sp (G83 n) (fun r => r = true → (n.Op = 6 ∧ okB n) ∨ (n.Op = 7 ∧ 1 ≤ n.Keep ∧ n.Keep ≤ 10000)) := by
 unfold G83 T83
 simp only [Tr.den, G153_eq, Option.bind_some]
 rw [if_neg (beqF (by omega)), if_neg (beqF (by omega))]
 rcases hop with h | h
 ·rw [if_pos (beqT h)]
  by_cases h1 : 0 ≤ n.Before ∧ n.Before ≤ 10000
  ·rw [if_pos (decT h1)]
   exact sq_some.2 fun h2 => .inl ⟨h, h1, of_decide_eq_true h2⟩
  ·rw [if_neg (decF h1)]
   exact sq_some.2 fun h => by cases h
 ·rw [if_neg (beqF (by omega)), if_pos (beqT h)]
  exact sq_some.2 fun h2 => .inr ⟨h, of_decide_eq_true h2⟩
theorem G84_eq (n : GNode) (hop : n.Op = 6 ∨ n.Op = 7) : G84 n = some 2 := by
 unfold G84 T84
 simp only [Tr.den]
 rcases hop with h | h <;> simp [h]
theorem G34_sp (n : GNode) (a b : List Int) (hop : n.Op = 6 ∨ n.Op = 7) (h1 : n.Key.length ≤ 1048576) (h2 : n.Key2.length ≤ 1048576) (ha : a.length ≤ 1048576) (hb : b.length ≤ 1048576) : Sp (G34 [] n [a, b]) (fun r => r = true → RightN n a b) := by
 unfold G34 T34
 simp only [Tr.den]
 rw [G82_nil]
 simp only [Option.bind_some, Bool.not_true, Bool.false_eq_true, if_false]
 refine Sq.bind (fun j : Bool => j = false → (n.Op = 6 ∧ okB n) ∨ (n.Op = 7 ∧ 1 ≤ n.Keep ∧ n.Keep ≤ 10000)) ?_ (fun j hj => ?_)
 ·refine Sq.bind _ (G83_sp n hop) fun r hr => ?_
  cases r with
  | false => exact sq_some.2 fun h => by cases h
  | true =>
   simp only [Bool.not_true, Bool.false_eq_true, if_false]
   rw [G84_eq n hop]
   simp only [Option.bind_some]
   rw [if_neg (bneF (by rfl))]
   exact sq_some.2 fun _ => hr rfl
 ·cases j with
  | true => exact sq_some.2 fun h => by cases h
  | false =>
   have hop' := hj rfl
   simp only [Bool.false_eq_true, if_false]
   have w : IntKind.i64.wrap ((([a, b] : List (List Int)).length : Int) - 1) = 1 := by
    show IntKind.i64.wrap (2 - 1) = 1
    rw [wrap_id] <;> omega
   rw [if_pos (by simp), w, if_pos (by simp)]
   have e0 : ([a, b] : List (List Int)).getD (0 : Int).toNat default = a := rfl
   have e1 : ([a, b] : List (List Int)).getD (1 : Int).toNat default = b := rfl
   rw [e0, e1]
   refine Sq.bind (fun j : Bool => j = false → a.length ≤ 12 ∧ b.length ≤ 12) ?_ (fun j hj => ?_)
   ·refine sq_iteB (fun _ => sq_some.2 fun h => by cases h) fun _ => sq_iteB (fun _ => sq_some.2 fun h => by cases h) fun q1 => sq_iteB (fun _ => sq_some.2 fun h => by cases h) fun _ => sq_some.2 fun q2 => ?_
    have q1 := of_decide_eq_false q1
    have q2 := of_decide_eq_false q2
    omega
   ·cases j with
    | true => exact sq_some.2 fun h => by cases h
    | false =>
     have hlen := hj rfl
     simp only [Bool.false_eq_true, if_false]
     rw [if_neg (beqF (by omega)), if_neg (beqF (by omega)), if_neg (beqF (by omega)), if_neg (beqF (by omega)), if_neg (beqF (by omega))]
     have hor : ((if (n.Op == 6) = true then some (n.Op == 6) else some (n.Op == 7)) : Option Bool) = some true := by
      rcases hop with h | h
      ·rw [if_pos (beqT h), h]; rfl
      ·rw [if_neg (beqF (by omega)), h]; rfl
     rw [hor]
     simp only [Option.bind_some, if_true]
     refine Sq.bind _ (G88_sp n.Key a h1) fun r hr => ?_
     cases r with
     | false => exact sq_some.2 fun h => by cases h
     | true =>
      simp only [if_true]
      refine Sq.bind (fun r : Bool => r = true → RightN n a b) ?_ (fun r hr => sq_some.2 hr)
      refine Sq.bind _ (G88_sp n.Key2 b h2) fun r hr2 => ?_
      cases r with
      | false => exact sq_some.2 fun h => by cases h
      | true =>
       simp only [if_true]
       refine Sq.bind _ (G90_sp n a b h1 (hr rfl) (hr2 rfl)) fun r _ => ?_
       cases r with
       | false => exact sq_some.2 fun h => by cases h
       | true => exact sq_some.2 fun _ => ⟨hop', hr rfl, hr2 rfl, hlen.1, hlen.2⟩
theorem G184_sp (v : GValue) : Sp (G184 v) (fun _ => True) := by
 unfold G184 T184
 simp only [Tr.den]
 refine sq_iteB (fun _ => sq_some.2 trivial) fun _ => sq_iteB (fun _ => Sq.bind (fun _ => True) ?_ fun _ _ => sq_some.2 trivial) fun _ => Sq.bind (fun _ => True) ?_ fun _ _ => sq_some.2 trivial
 ·exact sq_iteB (fun _ => sq_some.2 trivial) fun _ => sq_some.2 trivial
 ·exact sq_iteB (fun _ => sq_iteB (fun _ => sq_some.2 trivial) fun _ => sq_iteB (fun _ => sq_some.2 trivial) fun _ => sq_some.2 trivial) fun _ => sq_some.2 trivial
theorem G149_sp (r : List GValue) (h : r.length ≤ 1048576) : Sp (G149 r) (fun _ => True) := by
 unfold G149 T149
 simp only [Tr.den, sq_bind]
 refine sq_count (fun s : Int => s) r.length (by omega) (fun s => True) (fun s k hI hk hkN => ?_) trivial rfl
 subst hk
 unfold T149_L0
 simp only [Tr.den, Int.toNat_natCast]
 by_cases hc : k < r.length
 ·rw [if_pos (decT (by omega)), if_pos (by omega)]
  refine Sq.bind _ (G184_sp _) fun q _ => ?_
  cases q with
  | false => exact sq_some.2 (sq_some.2 trivial)
  | true => exact sq_some.2 ⟨rfl, hc, trivial⟩
 ·rw [if_neg (decF (by omega))]
  exact sq_some.2 (sq_some.2 trivial)
theorem G78_sp (r : List GValue) (h : r.length ≤ 1048576) : Sp (G78 r) (fun _ => True) := by
 unfold G78 T78
 simp only [Tr.den]
 refine Sq.bind (fun _ => True) ?_ fun _ _ => sq_some.2 trivial
 exact sq_iteB (fun _ => Sq.bind _ (G149_sp r h) fun _ _ => sq_some.2 trivial) fun _ => sq_some.2 trivial
theorem G30_sp (x : GDelta) (types : List Int) (h : x.Row.length ≤ 1048576) (ht : types.length ≤ 1048576) : Sp (G30 [x] types 1) (fun r => r = true → 0 ≤ x.Time ∧ x.Time ≤ 2199023255552 ∧ x.Row.length = types.length) := by
 unfold G30 T30
 simp only [Tr.den, sq_bind]
 refine sq_count (fun s : Int => s) 1 (by omega) (fun s => 1 ≤ s.toNat → 0 ≤ x.Time ∧ x.Time ≤ 2199023255552 ∧ x.Row.length = types.length) (fun s k hI hk hkN => ?_) (by simp) rfl
 subst hk
 unfold T30_L0
 simp only [Tr.den, Int.toNat_natCast, dec_and, Option.bind_some] at hI ⊢
 by_cases hc : k < 1
 ·obtain rfl : k = 0 := by omega
  have e0 : ([x] : List GDelta).getD 0 default = x := rfl
  have el : (([x] : List GDelta).length : Int) = 1 := rfl
  rw [if_pos (decT (by omega)), if_pos (by omega)]
  have rest : 0 ≤ x.Time ∧ x.Time ≤ 2199023255552 ∧ x.Row.length = types.length →
    Sp ((whileM (fun s => (T30_L1 [x] types ((0 : Nat) : Int) s).den) 0).bind (sel (fun _ => some (Sum.inl (IntKind.i64.wrap (((0 : Nat) : Int) + 1)))) some)) (sel (fun s' : Int => s' = IntKind.i64.wrap (((0 : Nat) : Int) + 1) ∧ 0 < 1 ∧ (1 ≤ s'.toNat → 0 ≤ x.Time ∧ x.Time ≤ 2199023255552 ∧ x.Row.length = types.length)) (fun r : Unit ⊕ Bool => Sp (sel (fun _ => some (decide ((1 : Int) ≤ 1))) some r) (fun r => r = true → 0 ≤ x.Time ∧ x.Time ≤ 2199023255552 ∧ x.Row.length = types.length))) := by
   intro hx
   have e2 : (([x] : List GDelta).getD 0 default).Row.length = types.length := hx.2.2
   refine sq_bind.2 ?_
   refine sq_count (fun s : Int => s) types.length (by omega) (fun s => True) (fun s k hI hk hkN => ?_) trivial rfl
   subst hk
   unfold T30_L1
   simp only [Tr.den, Int.toNat_natCast]
   by_cases hc : k < types.length
   ·rw [if_pos (decT (by omega)), if_pos (by omega), if_pos (by omega), if_pos (by omega)]
    split
    ·exact sq_some.2 (sq_some.2 (sq_some.2 fun h => by cases h))
    ·exact sq_some.2 ⟨rfl, hc, trivial⟩
   ·rw [if_neg (decF (by omega))]
    exact sq_some.2 (sq_some.2 ⟨rfl, by omega, fun _ => hx⟩)
  refine Sq.bind (fun j : Bool => j = false → 0 ≤ x.Time ∧ x.Time ≤ 2199023255552 ∧ x.Row.length = types.length) ?_ (fun j hj => ?_)
  ·refine sq_iteB (fun _ => sq_some.2 fun h => by cases h) fun q1 => sq_grd (by omega) (sq_iteB (fun _ => sq_some.2 fun h => by cases h) fun q2 => sq_grd (by omega) (sq_iteB (fun _ => sq_some.2 fun h => by cases h) fun q3 => sq_grd (by omega) (sq_iteB (fun _ => sq_some.2 fun h => by cases h) fun q4 => sq_grd (by omega) (sq_iteB (fun _ => sq_some.2 fun h => by cases h) fun q5 => sq_grd (by omega) (Sq.bind _ (G78_sp _ h) fun r _ => sq_some.2 fun _ => ?_)))))
   have q1 := of_decide_eq_false q1
   have q2 := of_decide_eq_false q2
   simp only [bne_eq_false_iff_eq] at q5
   rw [e0] at q1 q2 q5
   omega
  ·cases j with
   | true => exact sq_some.2 (sq_some.2 fun h => by cases h)
   | false => exact rest (hj rfl)
 ·obtain rfl : k = 1 := by omega
  rw [if_neg (decF (by simp))]
  exact sq_some.2 (sq_some.2 fun _ => hI (by omega))
end Go.PL
namespace Go.PL
open Go
set_option linter.unusedVariables false
set_option maxRecDepth 20000
abbrev inA (x : GAct) : Int := bitA .i64 x.Do 1
abbrev isCl (x : GAct) : Bool := bitA .i64 x.Do 3 == 3
def two {α : Type} (i : Int) (a b : α) : α := if i = 0 then a else b
theorem two_get {α : Type} [Inhabited α] {i : Int} (hi : i = 0 ∨ i = 1) (a b : α) : ([a, b] : List α).getD i.toNat default = two i a b := by
 rcases hi with rfl | rfl <;> rfl
theorem two_set {α : Type} {i : Int} (hi : i = 0 ∨ i = 1) (a b c : α) : ([a, b] : List α).set i.toNat c = [if i = 0 then c else a, if i = 0 then b else c] := by
 rcases hi with rfl | rfl <;> rfl
theorem two_ite {α : Type} (i : Int) (x a b : α) : two i (if i = 0 then x else a) (if i = 0 then b else x) = x := by
 by_cases h : i = 0 <;> simp [two, h]
theorem two_len (i : Int) (x a b : List GDelta) (c : Nat) (h : x.length ≤ (two i a b).length + c) : (if i = 0 then x else a).length + (if i = 0 then b else x).length ≤ a.length + b.length + c := by
 by_cases hi : i = 0
 ·unfold two at h; rw [if_pos hi] at h; rw [if_pos hi, if_pos hi]; omega
 ·unfold two at h; rw [if_neg hi] at h; rw [if_neg hi, if_neg hi]; omega
def FitsR (ta tb : List Int) : List GAct → List GDelta → List GDelta → Int → Prop
 | [], _, _, _ => True
 | x :: l, s0, s1, c => (isCl x = true → x.C ≤ 2199023255552 ∧ FitsR ta tb l s0 s1 (if x.C > c then x.C else c)) ∧
  (isCl x = false → x.L.length ≤ 8 ∧ (∀ d, d ∈ x.L → c < d.Time ∧ 0 ≤ d.Time ∧ d.Time ≤ 2199023255552 ∧ d.Row.length = (two (inA x) ta tb).length ∧ -3 ≤ d.N ∧ d.N ≤ 3) ∧ (∀ d, d ∈ cons (two (inA x) s0 s1 ++ x.L) → 1 ≤ d.N ∧ d.N ≤ 20) ∧
   FitsR ta tb l (if inA x = 0 then cons (two (inA x) s0 s1 ++ x.L) else s0) (if inA x = 0 then s1 else cons (two (inA x) s0 s1 ++ x.L)) c)
theorem okGDelta.okd {l : List GDelta} (h : okL 40 okGDelta l) : okD l := ⟨fun d hd => by
 have := (h.2 d hd).2.1.1
 unfold okR; omega, fun d hd => (h.2 d hd).2.2⟩
theorem fitsL1 (ta tb : List Int) (acts : List GAct) (k : Nat) (hk : k < acts.length) (v3 : Int) (v7 : List (List GDelta)) (hok : okGAct (acts.getD k default)) (ha : ta.length ≤ 1048576) (hb : tb.length ≤ 1048576) (hL : (acts.getD k default).L.length ≤ 8) :
  Sp (whileM (fun s => (T35_L1 [ta, tb] acts v3 (k : Int) s).den) (v7, 0)) (fun z => z = .inr (.inr (.inr (.inr false))) ∨ (z = .inl v7 ∧ ∀ d, d ∈ (acts.getD k default).L → v3 < d.Time ∧ 0 ≤ d.Time ∧ d.Time ≤ 2199023255552 ∧ d.Row.length = (two (inA (acts.getD k default)) ta tb).length ∧ -3 ≤ d.N ∧ d.N ≤ 3)) := by
 have hi := bit1 (acts.getD k default).Do
 have hd := hok.2.2
 refine sq_count (fun s : List (List GDelta) × Int => s.2) (acts.getD k default).L.length (by omega) (fun s => s.1 = v7 ∧ ∀ d, d ∈ (acts.getD k default).L.take s.2.toNat → v3 < d.Time ∧ 0 ≤ d.Time ∧ d.Time ≤ 2199023255552 ∧ d.Row.length = (two (inA (acts.getD k default)) ta tb).length ∧ -3 ≤ d.N ∧ d.N ≤ 3) (fun s q hI hq hqN => ?_) ⟨rfl, by simp⟩ rfl
 obtain ⟨w7, w8⟩ := s
 obtain ⟨h1, hI⟩ := hI
 simp only at hq h1 hI
 subst hq h1
 unfold T35_L1
 simp only [Tr.den, Int.toNat_natCast] at hI ⊢
 rw [if_pos (by omega)]
 by_cases hc : q < (acts.getD k default).L.length
 ·have hm := getD_mem hc
  have hx := hd.2 _ hm
  rw [if_pos (decT (by omega)), if_pos (by omega), if_pos (by omega)]
  refine Sq.bind (fun j : List (List GDelta) × Bool => j.1 = w7 ∧ (j.2 = false → v3 < ((acts.getD k default).L.getD q default).Time ∧ -3 ≤ ((acts.getD k default).L.getD q default).N ∧ ((acts.getD k default).L.getD q default).N ≤ 3)) ?_ (fun j hj => ?_)
  ·refine sq_iteB (fun _ => sq_some.2 ⟨rfl, fun h => by cases h⟩) fun q1 => sq_iteB (fun _ => sq_some.2 ⟨rfl, fun h => by cases h⟩) fun q2 => sq_some.2 ⟨rfl, fun q3 => ?_⟩
   have q1 := of_decide_eq_false q1
   have q2 := of_decide_eq_false q2
   have q3 := of_decide_eq_false q3
   omega
  ·obtain ⟨j1, j2⟩ := j
   obtain ⟨hj1, hj2⟩ := hj
   simp only at hj1 hj2
   subst hj1
   cases j2 with
   | true => exact sq_some.2 (.inl rfl)
   | false =>
    have hj2 := hj2 rfl
    simp only [Bool.false_eq_true, if_false]
    rw [if_pos (by simp only [List.length_cons, List.length_nil]; omega), two_get hi]
    refine Sq.bind _ (G30_sp _ _ (by exact hx.2.1.1) (by unfold two; split <;> assumption)) (fun r hr => ?_)
    cases r with
    | false => exact sq_some.2 (.inl rfl)
    | true =>
     have hr := hr rfl
     simp only at hr
     refine sq_some.2 ⟨rfl, hc, rfl, fun d hdm => ?_⟩
     rw [wrap_inc (by omega), Int.toNat_natCast, take_succ_getD hc, List.mem_append, List.mem_singleton] at hdm
     rcases hdm with hdm | rfl
     ·exact hI d hdm
     ·exact ⟨hj2.1, hr.1, hr.2.1, hr.2.2, hj2.2⟩
 ·rw [if_neg (decF (by omega))]
  refine sq_some.2 (.inr ⟨rfl, ?_⟩)
  rwa [List.take_of_length_le (by omega)] at hI
theorem fitsL2 (ta tb : List Int) (acts : List GAct) (k : Nat) (hk : k < acts.length) (v3 : Int) (s0 s1 : List GDelta) (h0 : (two (inA (acts.getD k default)) s0 s1).length ≤ 1000000) :
  Sp (whileM (fun s => (T35_L2 [ta, tb] acts v3 (k : Int) s).den) ([s0, s1], 0)) (fun z => z = .inr (.inr (.inr (.inr false))) ∨ (z = .inl [s0, s1] ∧ ∀ d, d ∈ two (inA (acts.getD k default)) s0 s1 → 1 ≤ d.N ∧ d.N ≤ 20)) := by
 have hi := bit1 (acts.getD k default).Do
 rw [← two_get hi s0 s1] at h0 ⊢
 refine sq_count (fun s : List (List GDelta) × Int => s.2) (([s0, s1] : List (List GDelta)).getD (bitA .i64 (acts.getD k default).Do 1).toNat default).length (by omega) (fun s => s.1 = [s0, s1] ∧ ∀ d, d ∈ (([s0, s1] : List (List GDelta)).getD (bitA .i64 (acts.getD k default).Do 1).toNat default).take s.2.toNat → 1 ≤ d.N ∧ d.N ≤ 20) (fun s q hI hq hqN => ?_) ⟨rfl, by simp⟩ rfl
 obtain ⟨w7, w8⟩ := s
 obtain ⟨h1, hI⟩ := hI
 simp only at hq h1 hI
 subst hq h1
 unfold T35_L2
 simp only [Tr.den, Int.toNat_natCast] at hI ⊢
 have hlen : (([s0, s1] : List (List GDelta)).length : Int) = 2 := rfl
 have g1 : 0 ≤ bitA .i64 (acts.getD k default).Do 1 ∧ bitA .i64 (acts.getD k default).Do 1 < (([s0, s1] : List (List GDelta)).length : Int) := by omega
 have g2 : (bitA .i64 (acts.getD k default).Do 1).toNat < ([s0, s1] : List (List GDelta)).length := by simp only [List.length_cons, List.length_nil]; omega
 rw [if_pos g1, if_pos g2]
 by_cases hc : q < (([s0, s1] : List (List GDelta)).getD (bitA .i64 (acts.getD k default).Do 1).toNat default).length
 ·rw [if_pos (decT (by omega)), if_pos g1, if_pos g2, if_pos (by omega)]
  refine Sq.bind (fun j : List (List GDelta) × Bool => j.1 = [s0, s1] ∧ (j.2 = false → 1 ≤ ((([s0, s1] : List (List GDelta)).getD (bitA .i64 (acts.getD k default).Do 1).toNat default).getD q default).N ∧ ((([s0, s1] : List (List GDelta)).getD (bitA .i64 (acts.getD k default).Do 1).toNat default).getD q default).N ≤ 20)) ?_ (fun j hj => ?_)
  ·refine sq_iteB (fun _ => sq_some.2 ⟨rfl, fun h => by cases h⟩) fun q1 => sq_grd g1 (sq_grd g2 (sq_grd (by omega) (sq_some.2 ⟨rfl, fun q3 => ?_⟩)))
   have q1 := of_decide_eq_false q1
   have q3 := of_decide_eq_false q3
   omega
  ·obtain ⟨j1, j2⟩ := j
   obtain ⟨hj1, hj2⟩ := hj
   simp only at hj1 hj2
   subst hj1
   cases j2 with
   | true => exact sq_some.2 (.inl rfl)
   | false =>
    refine sq_some.2 ⟨rfl, hc, rfl, fun d hdm => ?_⟩
    rw [wrap_inc (by omega), Int.toNat_natCast, take_succ_getD hc, List.mem_append, List.mem_singleton] at hdm
    rcases hdm with hdm | rfl
    ·exact hI d hdm
    ·exact hj2 rfl
 ·rw [if_neg (decF (by omega))]
  refine sq_some.2 (.inr ⟨rfl, ?_⟩)
  rwa [List.take_of_length_le (by omega)] at hI
theorem G35_sp (ta tb : List Int) (acts : List GAct) (most : Nat) (hm : most ≤ 1000) (hok : okL 40 okGAct acts) (ha : ta.length ≤ 1048576) (hb : tb.length ≤ 1048576) :
  Sp (G35 [ta, tb] acts (most : Int)) (fun r => r = true → acts.length ≤ most ∧ FitsR ta tb acts [] [] (-1)) := by
 unfold G35 T35
 simp only [Tr.den]
 by_cases hlen : (acts.length : Int) > (most : Int)
 ·rw [if_pos (decT hlen)]
  exact sq_some.2 fun h => by cases h
 ·rw [if_neg (decF hlen)]
  simp only [Option.bind_some]
  rw [if_neg (by simp)]
  refine sq_bind.2 ?_
  refine sq_count (fun s : List (List GDelta) × Int × Int => s.2.2) acts.length (by omega) (fun s => ∃ s0 s1, s.1 = [s0, s1] ∧ okD s0 ∧ okD s1 ∧ s0.length + s1.length ≤ 8 * s.2.2.toNat ∧ (FitsR ta tb (acts.drop s.2.2.toNat) s0 s1 s.2.1 → FitsR ta tb acts [] [] (-1))) (fun s k hI hk hkN => ?_)
   ⟨[], [], rfl, .nil, .nil, by simp, by simp⟩ rfl
  obtain ⟨v2, v3, v4⟩ := s
  obtain ⟨s0, s1, e, o0, o1, hl, hI⟩ := hI
  simp only at hk e hl hI
  subst hk e
  simp only [Int.toNat_natCast] at hl hI
  unfold T35_L0
  simp only [Tr.den, Int.toNat_natCast]
  by_cases hc : k < acts.length
  ·have hok' := hok.2 _ (getD_mem hc)
   have hi := bit1 (acts.getD k default).Do
   rw [drop_getD hc] at hI
   rw [if_pos (decT (by omega))]
   refine Sq.bind (fun z => z = .inr (.inr (.inr false)) ∨ ∃ t0 t1 c, z = .inl ([t0, t1], c) ∧ okD t0 ∧ okD t1 ∧ t0.length + t1.length ≤ 8 * (k + 1) ∧ (FitsR ta tb (acts.drop (k + 1)) t0 t1 c → FitsR ta tb acts [] [] (-1))) ?_ (fun z hz => ?_)
   ·rw [if_pos (by omega)]
    refine sq_iteB (fun h3 => ?_) (fun h3 => ?_)
    ·rw [if_pos (by omega)]
     by_cases h4 : (acts.getD k default).C > 2199023255552
     ·rw [if_pos (decT h4)]; exact sq_some.2 (.inl rfl)
     ·rw [if_neg (decF h4), if_pos (by omega)]
      refine sq_some.2 (.inr ⟨s0, s1, _, rfl, o0, o1, by omega, fun hF => hI ⟨fun _ => ⟨by omega, hF⟩, fun h => ?_⟩⟩)
      rw [show isCl (acts.getD k default) = true from h3] at h; cases h
    ·rw [if_pos (by omega), if_pos (by omega)]
     by_cases h4 : ((acts.getD k default).L.length : Int) > 8
     ·rw [if_pos (decT h4)]; exact sq_some.2 (.inl rfl)
     ·rw [if_neg (decF h4)]
      refine Sq.bind _ (fitsL1 ta tb acts k hc v3 [s0, s1] hok' ha hb (by omega)) (fun z hz => ?_)
      rcases hz with rfl | ⟨rfl, hz⟩
      ·exact sq_some.2 (.inl rfl)
      ·simp only [sel]
       have g1 : 0 ≤ bitA .i64 (acts.getD k default).Do 1 ∧ bitA .i64 (acts.getD k default).Do 1 < (([s0, s1] : List (List GDelta)).length : Int) := by simp only [List.length_cons, List.length_nil]; omega
       have g2 : (bitA .i64 (acts.getD k default).Do 1).toNat < ([s0, s1] : List (List GDelta)).length := by simp only [List.length_cons, List.length_nil]; omega
       have otw : okD (two (inA (acts.getD k default)) s0 s1) := by unfold two; split <;> assumption
       have ltw : (two (inA (acts.getD k default)) s0 s1).length ≤ 8 * k := by unfold two; split <;> omega
       have okL' := okGDelta.okd hok'.2.2
       rw [if_pos g1, if_pos g2, if_pos (by omega), two_get hi, G47_eq _ _ otw okL' (by omega)]
       simp only [Option.bind_some]
       rw [if_pos g1, if_pos g2]
       refine sq_grd (by simp only [List.all_cons, List.all_nil, Bool.and_true, decide_eq_true_eq]; exact g2) ?_
       rw [two_set hi]
       have hcl := cons_len (two (inA (acts.getD k default)) s0 s1 ++ (acts.getD k default).L)
       rw [List.length_append] at hcl
       have okc := (otw.app okL').cons
       have etw : two (inA (acts.getD k default)) (if inA (acts.getD k default) = 0 then cons (two (inA (acts.getD k default)) s0 s1 ++ (acts.getD k default).L) else s0) (if inA (acts.getD k default) = 0 then s1 else cons (two (inA (acts.getD k default)) s0 s1 ++ (acts.getD k default).L)) = cons (two (inA (acts.getD k default)) s0 s1 ++ (acts.getD k default).L) := two_ite _ _ _ _
       have h2 := fitsL2 ta tb acts k hc v3 (if inA (acts.getD k default) = 0 then cons (two (inA (acts.getD k default)) s0 s1 ++ (acts.getD k default).L) else s0) (if inA (acts.getD k default) = 0 then s1 else cons (two (inA (acts.getD k default)) s0 s1 ++ (acts.getD k default).L)) (by rw [etw]; omega)
       rw [etw] at h2
       refine Sq.bind _ h2 (fun z hz2 => ?_)
       rcases hz2 with rfl | ⟨rfl, hz2⟩
       ·exact sq_some.2 (.inl rfl)
       ·refine sq_some.2 (.inr ⟨_, _, _, rfl, by split <;> assumption, by split <;> assumption, ?_, fun hF => hI ⟨fun h => ?_, fun _ => ⟨by omega, hz, hz2, hF⟩⟩⟩)
        ·exact Nat.le_trans (two_len _ _ _ _ 8 (by omega)) (by omega)
        ·rw [show isCl (acts.getD k default) = false from h3] at h; cases h
   ·rcases hz with rfl | ⟨t0, t1, c, rfl, p0, p1, pl, hF⟩
    ·exact sq_some.2 (sq_some.2 fun h => by cases h)
    ·refine sq_some.2 ⟨rfl, hc, t0, t1, rfl, p0, p1, ?_, ?_⟩
     ·simp only; rw [wrap_inc (by omega), Int.toNat_natCast]; exact pl
     ·simp only; rw [wrap_inc (by omega), Int.toNat_natCast]; exact hF
  ·rw [if_neg (decF (by omega))]
   refine sq_some.2 (sq_some.2 fun _ => ⟨by omega, hI ?_⟩)
   rw [List.drop_eq_nil_of_le (by omega)]; trivial
end Go.PL
namespace Go.PL
open Go
set_option linter.unusedVariables false
set_option maxRecDepth 20000
theorem ofK_app (n : GNode) (i : Int) (k : ByteArray) (l r : List GDelta) : ofK n i k (l ++ r) = ofK n i k l ++ ofK n i k r := List.filter_append ..
theorem Same.ofK {l r : List GDelta} (h : Same l r) (n : GNode) (i : Int) (k : ByteArray) : Same (ofK n i k l) (ofK n i k r) := h.filter (fun p => decide (keyB n i p.2 = k))
theorem Same.aft {l r : List GDelta} (h : Same l r) (t : Int) : Same (l.filter (PL.aft t)) (r.filter (PL.aft t)) := h.filter (fun p => decide (t < p.1))
theorem okN.sub {l r : List GDelta} (h : okN l) (hs : ∀ x, x ∈ r → x ∈ l) : okN r := fun x hx => h x (hs x hx)
theorem ofK_mem {n : GNode} {i : Int} {k : ByteArray} {l : List GDelta} {x : GDelta} : x ∈ ofK n i k l ↔ x ∈ l ∧ kd n i x = k := by
 unfold ofK
 rw [List.mem_filter, decide_eq_true_eq]
theorem ofK_push {n : GNode} {i : Int} {k : ByteArray} {a l : List GDelta} {t : Int} (ha : Can a) (hl : okN l) (hal : ∀ d, d ∈ l → aft t d = true) :
  cons (ofK n i k (a.filter (aft t)) ++ ofK n i k (cons l)) = ofK n i k ((cons (a ++ l)).filter (aft t)) := by
 have hal' : okN (a ++ l) := fun x hx => (List.mem_append.1 hx).elim (ha.n64 x) (hl x)
 have hcl := cons_can hl
 refine cons_eq ((((cons_can hal').filter _)).filter _) (fun x hx => ?_) ?_
 ·rcases List.mem_append.1 hx with hx | hx
  ·exact ha.n64 x (List.mem_filter.1 (ofK_mem.1 hx).1).1
  ·exact hcl.n64 x (ofK_mem.1 hx).1
 ·have h1 : Same (ofK n i k ((cons (a ++ l)).filter (aft t))) (ofK n i k ((a ++ l).filter (aft t))) := ((cons_same (a ++ l)).aft t).ofK n i k
  have h2 : ofK n i k ((a ++ l).filter (aft t)) = ofK n i k (a.filter (aft t)) ++ ofK n i k l := by
   rw [List.filter_append, List.filter_eq_self.2 hal, ofK_app]
  rw [h2] at h1
  exact h1.trans (Same.app (.refl _) ((cons_same l).ofK n i k).symm)
structure InOk (n : GNode) (i : Int) (a : List GDelta) : Prop where
 can : Can a
 ok : okI n i a
 len : a.length ≤ 900
 pos : ∀ d, d ∈ a → 1 ≤ d.N ∧ d.N ≤ 20
structure OInv (n : GNode) (a0 a1 : List GDelta) (t : Int) (m : KS) : Prop where
 mc : MC m
 look : ∀ k, mlook m k = keepS ⟨⟨ofK n 0 k (a0.filter (aft t)), ofK n 1 k (a1.filter (aft t))⟩⟩
theorem keepS_some {s s' : GSide} (h : keepS s = some s') : s' = s := by
 unfold keepS at h; split at h
 ·cases h
 ·cases h; rfl
theorem keepS_getD (s : GSide) : (keepS s).getD side0 = s := by
 unfold keepS
 split
 ·rename_i h
  obtain ⟨⟨e0, e1⟩⟩ := s
  simp only at h
  have h0 : e0 = [] := List.eq_nil_of_length_eq_zero (by omega)
  have h1 : e1 = [] := List.eq_nil_of_length_eq_zero (by omega)
  subst h0 h1; rfl
 ·rfl
theorem OInv.okM {n : GNode} {a0 a1 : List GDelta} {t : Int} {m : KS} (h : OInv n a0 a1 t m) (h0 : InOk n 0 a0) (h1 : InOk n 1 a1) : okM n m := by
 refine ⟨h.mc, fun k s hs => ?_⟩
 rw [h.look] at hs
 rw [keepS_some hs]
 have f : ∀ (i : Int) (a : List GDelta), (ofK n i k (a.filter (aft t))).length ≤ a.length := fun i a => Nat.le_trans (ofK_len _ _ _ _) (List.length_filter_le _ _)
 have l0 := f 0 a0
 have l1 := f 1 a1
 have q0 := h0.len
 have q1 := h1.len
 exact ⟨(h0.can.filter _).filter _, (h1.can.filter _).filter _, h0.ok.sub fun x hx => (List.mem_filter.1 (ofK_mem.1 hx).1).1, h1.ok.sub fun x hx => (List.mem_filter.1 (ofK_mem.1 hx).1).1, by simp only; omega, by simp only; omega⟩
theorem OInv.push {n : GNode} {a0 a1 : List GDelta} {t : Int} {m : KS} (h : OInv n a0 a1 t m) (c0 : Can a0) (c1 : Can a1) {i : Int} (hi : i = 0 ∨ i = 1) {l : List GDelta} (hl : okN l) (hal : ∀ d, d ∈ l → aft t d = true) :
  OInv n (if i = 0 then cons (two i a0 a1 ++ l) else a0) (if i = 0 then a1 else cons (two i a0 a1 ++ l)) t (pushM n i (cons l) m) := by
 refine ⟨pushM_mc n i _ h.mc, fun k => ?_⟩
 have e : mlook (pushM n i (cons l) m) k = keepS (updS i ⟨⟨ofK n 0 k (a0.filter (aft t)), ofK n 1 k (a1.filter (aft t))⟩⟩ (ofK n i k (cons l))) := by
  by_cases hk : k ∈ mkeys (groupM n i (cons l))
  ·rw [pushM_in hk]
   unfold newS
   rw [h.look, keepS_getD]
  ·rw [pushM_out hk, h.look]
   have hn : ofK n i k (cons l) = [] := by
    refine Classical.byContradiction fun hne => hk (mkeys_look.2 ⟨ofK n i k (cons l), ?_⟩)
    rw [groupM_look, if_neg hne]
   rw [hn]
   congr 1
   unfold updS
   split
   ·rw [List.append_nil, show cons (ofK n 0 k (a0.filter (aft t))) = ofK n 0 k (a0.filter (aft t)) from cons_id (ofK_can (c0.filter _))]
   ·rw [List.append_nil, show cons (ofK n 1 k (a1.filter (aft t))) = ofK n 1 k (a1.filter (aft t)) from cons_id (ofK_can (c1.filter _))]
 rw [e]
 congr 1
 rcases hi with rfl | rfl
 ·unfold updS
  rw [if_pos rfl, if_pos rfl, if_pos rfl, show two 0 a0 a1 = a0 from rfl, ofK_push c0 hl hal]
 ·unfold updS
  rw [if_neg (by omega), if_neg (by omega), if_neg (by omega), show two 1 a0 a1 = a1 from rfl, ofK_push c1 hl hal]
theorem aft_aft {t t' : Int} (h : t ≤ t') (l : List GDelta) : (l.filter (aft t)).filter (aft t') = l.filter (aft t') := by
 rw [List.filter_filter]
 congr 1
 funext d
 unfold aft
 rw [Bool.eq_iff_iff, Bool.and_eq_true, decide_eq_true_eq, decide_eq_true_eq]
 omega
theorem filter_comm' (p q : GDelta → Bool) (l : List GDelta) : (l.filter p).filter q = (l.filter q).filter p := by
 rw [List.filter_filter, List.filter_filter]
 congr 1
 funext d
 exact Bool.and_comm _ _
theorem OInv.close {n : GNode} {a0 a1 : List GDelta} {t t' : Int} {m : KS} (h : OInv n a0 a1 t m) (ht : t ≤ t') : OInv n a0 a1 t' (closeM t' m) := by
 refine ⟨closeM_mc _ h.mc, fun k => ?_⟩
 rw [closeM_look, h.look]
 have e : ∀ (i : Int) (a : List GDelta), (ofK n i k (a.filter (aft t))).filter (aft t') = ofK n i k (a.filter (aft t')) := by
  intro i a
  unfold ofK
  rw [filter_comm', aft_aft ht]
 have hc : cutS t' ⟨⟨ofK n 0 k (a0.filter (aft t)), ofK n 1 k (a1.filter (aft t))⟩⟩ = ⟨⟨ofK n 0 k (a0.filter (aft t')), ofK n 1 k (a1.filter (aft t'))⟩⟩ := by
  unfold cutS; simp only [e]
 by_cases hz : (ofK n 0 k (a0.filter (aft t))).length + (ofK n 1 k (a1.filter (aft t))).length = 0
 ·have : keepS ⟨⟨ofK n 0 k (a0.filter (aft t)), ofK n 1 k (a1.filter (aft t))⟩⟩ = none := by unfold keepS; rw [if_pos hz]
  rw [this, ← hc]
  unfold keepS cutS
  have q0 := List.length_filter_le (aft t') (ofK n 0 k (a0.filter (aft t)))
  have q1 := List.length_filter_le (aft t') (ofK n 1 k (a1.filter (aft t)))
  rw [if_pos (by simp only; omega)]
  rfl
 ·have : keepS ⟨⟨ofK n 0 k (a0.filter (aft t)), ofK n 1 k (a1.filter (aft t))⟩⟩ = some ⟨⟨ofK n 0 k (a0.filter (aft t)), ofK n 1 k (a1.filter (aft t))⟩⟩ := by unfold keepS; rw [if_neg hz]
  rw [this, Option.bind_some, hc]
theorem OInv.init (n : GNode) (t : Int) : OInv n [] [] t [] := ⟨MC_nil, fun k => rfl⟩
theorem sumK_congr {f g : ByteArray → Int} {ks : List ByteArray} (h : ∀ k, k ∈ ks → f k = g k) : sumK f ks = sumK g ks := by
 induction ks with
 | nil => rfl
 | cons k ks ih => simp only [sumK, h k List.mem_cons_self, ih fun k' hk => h k' (List.mem_cons_of_mem _ hk)]
theorem sumK_add (f g : ByteArray → Int) (ks : List ByteArray) : sumK (fun k => f k + g k) ks = sumK f ks + sumK g ks := by
 induction ks with
 | nil => rfl
 | cons k ks ih => simp only [sumK, ih]; omega
theorem sumK_zero (ks : List ByteArray) : sumK (fun _ => 0) ks = 0 := by
 induction ks with
 | nil => rfl
 | cons k ks ih => simp only [sumK, ih]; rfl
theorem sumK_one (q : ByteArray) (v : Int) : ∀ (ks : List ByteArray), ks.Nodup → q ∈ ks → sumK (fun k => if q = k then v else 0) ks = v
 | [], _, h => by simp at h
 | k :: ks, hn, h => by
  have h1 := List.nodup_cons.1 hn
  simp only [sumK]
  by_cases hq : q = k
  ·subst hq
   rw [if_pos rfl, sumK_congr (f := fun k => if q = k then v else 0) (g := fun _ => 0) (fun k' hk' => if_neg (fun he : q = k' => h1.1 (he ▸ hk'))), sumK_zero]; omega
  ·rw [if_neg hq, sumK_one q v ks h1.2 ((List.mem_cons.1 h).resolve_left hq)]; omega
theorem OInv.key {n : GNode} {a0 a1 : List GDelta} {t : Int} {m : KS} (h : OInv n a0 a1 t m) {x : GDelta} {k : ByteArray} (hx : x ∈ ofK n 0 k (a0.filter (aft t)) ∨ x ∈ ofK n 1 k (a1.filter (aft t))) : k ∈ mkeys m := by
 refine mkeys_look.2 ⟨⟨⟨ofK n 0 k (a0.filter (aft t)), ofK n 1 k (a1.filter (aft t))⟩⟩, ?_⟩
 rw [h.look]
 unfold keepS
 rw [if_neg]
 rcases hx with hx | hx
 ·have := List.length_pos_of_mem hx; simp only; omega
 ·have := List.length_pos_of_mem hx; simp only; omega
theorem OInv.empty {n : GNode} {a0 a1 : List GDelta} {t : Int} {m : KS} (h : OInv n a0 a1 t m) : m = [] ↔ a0.filter (aft t) = [] ∧ a1.filter (aft t) = [] := by
 constructor
 ·intro hm
  subst hm
  constructor
  ·refine List.eq_nil_iff_forall_not_mem.2 fun x hx => ?_
   have := h.key (k := kd n 0 x) (.inl (ofK_mem.2 ⟨hx, rfl⟩))
   simp [mkeys] at this
  ·refine List.eq_nil_iff_forall_not_mem.2 fun x hx => ?_
   have := h.key (k := kd n 1 x) (.inr (ofK_mem.2 ⟨hx, rfl⟩))
   simp [mkeys] at this
 ·rintro ⟨h0, h1⟩
  refine h.mc.ext LO.bytes MC_nil fun k => ?_
  rw [h.look, h0, h1]; rfl
end Go.PL
namespace Go.PL
open Go
set_option linter.unusedVariables false
set_option maxRecDepth 20000
theorem W_iff {a b : Int} : W a = W b ↔ ∃ k : Int, a = b + k * 18446744073709551616 := by
 show IntKind.i64.wrap a = IntKind.i64.wrap b ↔ _
 rw [wrap_def, wrap_def]
 constructor
 ·intro h
  exact ⟨(a + 9223372036854775808) / 18446744073709551616 - (b + 9223372036854775808) / 18446744073709551616, by omega⟩
 ·rintro ⟨k, rfl⟩; omega
theorem W_mul {a b : Int} (c : Int) (h : W a = W b) : W (a * c) = W (b * c) := by
 obtain ⟨k, rfl⟩ := W_iff.1 h
 exact W_iff.2 ⟨k * c, by rw [Int.add_mul, Int.mul_assoc, Int.mul_assoc, Int.mul_comm 18446744073709551616 c]⟩
theorem W_W (a : Int) : W (W a) = W a := wrap_wrap a
theorem W_sub {a b c d : Int} (h : W a = W c) (h' : W b = W d) : W (a - b) = W (c - d) := by
 obtain ⟨k, rfl⟩ := W_iff.1 h
 obtain ⟨k', rfl⟩ := W_iff.1 h'
 exact W_iff.2 ⟨k - k', by rw [Int.sub_mul]; omega⟩
def wc (c : Pl → Int) : List GDelta → Int
 | [] => 0
 | x :: l => x.N * c (pl x) + wc c l
theorem wc_app (c : Pl → Int) (l r : List GDelta) : wc c (l ++ r) = wc c l + wc c r := by
 induction l with
 | nil => simp [wc]
 | cons x l ih => simp only [List.cons_append, wc, ih]; omega
theorem insD_wc (d : GDelta) (c : Pl → Int) : ∀ l, W (wc c (insD d l)) = W (wc c (d :: l))
 | [] => by
  simp only [insD, wc]
  by_cases h : d.N = 0
  ·rw [if_pos h, h]; simp [wc]
  ·rw [if_neg h]; rfl
 | x :: l => by
  simp only [insD]
  by_cases h1 : cmpD d x < 0
  ·rw [if_pos h1]
   by_cases h : d.N = 0
   ·rw [if_pos h]; simp only [wc, h]; congr 1; simp
   ·rw [if_neg h]
  ·rw [if_neg h1]
   by_cases h2 : cmpD d x = 0
   ·rw [if_pos h2]
    have hp := cmpD_zero.1 h2
    have e : wc c (d :: x :: l) = (x.N + d.N) * c (pl x) + wc c l := by
     simp only [wc, hp, Int.add_mul]; omega
    rw [e]
    by_cases h3 : W (x.N + d.N) = 0
    ·rw [if_pos h3]
     have h0 : W (x.N + d.N) = W 0 := by rw [h3]; rfl
     have := W_add (W_mul (c (pl x)) h0) (rfl : W (wc c l) = W (wc c l))
     rw [this]; simp
    ·rw [if_neg h3]
     simp only [wc]
     rw [show pl (⟨x.Time, x.Row, W (x.N + d.N)⟩ : GDelta) = pl x from rfl]
     exact W_add (W_mul (c (pl x)) (W_W (x.N + d.N))) rfl
   ·rw [if_neg h2]
    have ih := insD_wc d c l
    have : W (wc c (x :: insD d l)) = W (wc c (x :: d :: l)) := by
     simp only [wc] at ih ⊢
     exact W_add rfl ih
    rw [this]
    simp only [wc]; congr 1; omega
theorem cons_wc (c : Pl → Int) (l : List GDelta) : W (wc c (PL.cons l)) = W (wc c l) := by
 induction l with
 | nil => rfl
 | cons x l ih =>
  rw [show PL.cons (x :: l) = insD x (PL.cons l) from rfl, insD_wc]
  simp only [wc]
  exact W_add rfl ih
def MS (n : GNode) (s : GSide) : List GDelta := if n.Op = 6 then joinF n 0 s.rows_.e0 s.rows_.e1 else asofF n s.rows_.e0 s.rows_.e1
def cJ (n : GNode) (i : Int) (R : List GDelta) (p : Pl → Bool) (q : Pl) : Int := wt p (joinA n i R ⟨q.1, q.2, 1⟩)
theorem joinA_wt (n : GNode) (i : Int) (p : Pl → Bool) (a : GDelta) (R : List GDelta) : W (wt p (joinA n i R a)) = W (a.N * cJ n i R p (pl a)) := by
 unfold cJ joinA
 show W (wt p ((nearF R (if i = 1 then a.Time - n.After else a.Time - n.Before) (if i = 1 then a.Time + n.Before else a.Time + n.After)).map (joinP i a))) =
  W (a.N * wt p ((nearF R (if i = 1 then a.Time - n.After else a.Time - n.Before) (if i = 1 then a.Time + n.Before else a.Time + n.After)).map (joinP i ⟨a.Time, a.Row, 1⟩)))
 generalize nearF R (if i = 1 then a.Time - n.After else a.Time - n.Before) (if i = 1 then a.Time + n.Before else a.Time + n.After) = L
 induction L with
 | nil => simp [wt]
 | cons b L ih =>
  simp only [List.map_cons, wt]
  have hpl : pl (joinP i ⟨a.Time, a.Row, 1⟩ b) = pl (joinP i a b) := by unfold joinP pairF; split <;> rfl
  have hN : (joinP i a b).N = W (a.N * b.N) := by unfold joinP pairF; split <;> rfl
  have hN1 : (joinP i ⟨a.Time, a.Row, 1⟩ b).N = W (1 * b.N) := by unfold joinP pairF; split <;> rfl
  rw [hpl, hN, hN1, Int.mul_add]
  refine W_add ?_ ih
  by_cases hp : p (pl (joinP i a b)) = true
  ·rw [if_pos hp, if_pos hp, W_W, Int.one_mul]
   have := W_mul a.N (W_W b.N)
   rw [Int.mul_comm a.N (W b.N), this, Int.mul_comm]
  ·rw [if_neg hp, if_neg hp, Int.mul_zero]
theorem joinF_wt (n : GNode) (i : Int) (p : Pl → Bool) (L R : List GDelta) : W (wt p (joinF n i L R)) = W (wc (cJ n i R p) L) := by
 induction L with
 | nil => rfl
 | cons a L ih =>
  rw [show joinF n i (a :: L) R = joinA n i R a ++ joinF n i L R from rfl, wt_app]
  exact W_add (joinA_wt n i p a R) ih
def cA (n : GNode) (R : List GDelta) (p : Pl → Bool) (q : Pl) : Int := wt p (asofA n R ⟨q.1, q.2, 1⟩)
theorem asofA_wt (n : GNode) (p : Pl → Bool) (a : GDelta) (R : List GDelta) : wt p (asofA n R a) = a.N * cA n R p (pl a) := by
 unfold cA asofA
 show wt p (if nearF R (a.Time - n.Keep + 1) a.Time = [] then [] else [pairF a ((nearF R (a.Time - n.Keep + 1) a.Time).getD ((nearF R (a.Time - n.Keep + 1) a.Time).length - 1) default) a.Time a.N]) =
  a.N * wt p (if nearF R (a.Time - n.Keep + 1) a.Time = [] then [] else [pairF ⟨a.Time, a.Row, 1⟩ ((nearF R (a.Time - n.Keep + 1) a.Time).getD ((nearF R (a.Time - n.Keep + 1) a.Time).length - 1) default) a.Time 1])
 split
 ·simp [wt]
 ·simp only [wt, Int.add_zero]
  show (if p (a.Time, a.Row ++ _) = true then a.N else 0) = a.N * (if p (a.Time, a.Row ++ _) = true then 1 else 0)
  split <;> simp
theorem asofF_wt (n : GNode) (p : Pl → Bool) (L R : List GDelta) : wt p (asofF n L R) = wc (cA n R p) L := by
 induction L with
 | nil => rfl
 | cons a L ih =>
  rw [show asofF n (a :: L) R = asofA n R a ++ asofF n L R from rfl, wt_app, ih, asofA_wt]
  rfl
def tJ (n : GNode) (p : Pl → Bool) (a b : GDelta) : Int :=
 if decide (a.Time - n.Before ≤ b.Time) && decide (b.Time ≤ a.Time + n.After) && p (if b.Time > a.Time then b.Time else a.Time, a.Row ++ b.Row) then W (a.N * b.N) else 0
def sumD (f : GDelta → Int) : List GDelta → Int
 | [] => 0
 | x :: l => f x + sumD f l
theorem sumD_add (f g : GDelta → Int) (l : List GDelta) : sumD (fun x => f x + g x) l = sumD f l + sumD g l := by
 induction l with
 | nil => rfl
 | cons x l ih => simp only [sumD, ih]; omega
theorem sumD_zero (l : List GDelta) : sumD (fun _ => 0) l = 0 := by
 induction l with
 | nil => rfl
 | cons x l ih => simp only [sumD, ih]; rfl
theorem sumD_swap (f : GDelta → GDelta → Int) (A : List GDelta) : ∀ B : List GDelta, sumD (fun a => sumD (f a) B) A = sumD (fun b => sumD (fun a => f a b) A) B
 | [] => by simp only [sumD, sumD_zero]
 | b :: B => by
  simp only [sumD]
  rw [sumD_add, sumD_swap f A B]
theorem sumD_congr {f g : GDelta → Int} {l : List GDelta} (h : ∀ x, x ∈ l → f x = g x) : sumD f l = sumD g l := by
 induction l with
 | nil => rfl
 | cons x l ih => simp only [sumD, h x List.mem_cons_self, ih fun y hy => h y (List.mem_cons_of_mem _ hy)]
theorem joinA0_t (n : GNode) (p : Pl → Bool) (a : GDelta) : ∀ R : List GDelta, wt p (joinA n 0 R a) = sumD (tJ n p a) R
 | [] => rfl
 | b :: R => by
  have ih := joinA0_t n p a R
  unfold joinA nearF at ih ⊢
  simp only [if_neg (show ¬ ((0 : Int) = 1) by omega)] at ih ⊢
  simp only [sumD]
  rw [List.filter_cons]
  by_cases h : (decide (a.Time - n.Before ≤ b.Time) && decide (b.Time ≤ a.Time + n.After)) = true
  ·rw [if_pos h, List.map_cons]
   simp only [wt, ih]
   congr 1
   unfold tJ joinP
   rw [if_neg (show ¬ ((0 : Int) = 1) by omega), h, Bool.true_and]
   rfl
  ·rw [if_neg h, ih]
   unfold tJ
   rw [if_neg (by simp only [Bool.not_eq_true] at h; rw [h]; simp)]
   omega
theorem joinA1_t (n : GNode) (p : Pl → Bool) (b : GDelta) : ∀ L : List GDelta, wt p (joinA n 1 L b) = sumD (fun a => tJ n p a b) L
 | [] => rfl
 | a :: L => by
  have ih := joinA1_t n p b L
  unfold joinA nearF at ih ⊢
  simp only [if_true] at ih ⊢
  simp only [sumD]
  rw [List.filter_cons]
  have hiff : (decide (b.Time - n.After ≤ a.Time) && decide (a.Time ≤ b.Time + n.Before)) = (decide (a.Time - n.Before ≤ b.Time) && decide (b.Time ≤ a.Time + n.After)) := by
   rw [Bool.eq_iff_iff]; simp only [Bool.and_eq_true, decide_eq_true_eq]; omega
  by_cases h : (decide (a.Time - n.Before ≤ b.Time) && decide (b.Time ≤ a.Time + n.After)) = true
  ·rw [hiff, if_pos h, List.map_cons]
   simp only [wt, ih]
   congr 1
   unfold tJ joinP
   rw [if_pos rfl, h, Bool.true_and]
   have hm : (if a.Time > b.Time then a.Time else b.Time) = (if b.Time > a.Time then b.Time else a.Time) := by split <;> split <;> omega
   rw [hm, Int.mul_comm b.N a.N]
   rfl
  ·rw [hiff, if_neg h, ih]
   unfold tJ
   rw [if_neg (by simp only [Bool.not_eq_true] at h; rw [h]; simp)]
   omega
theorem joinF0_t (n : GNode) (p : Pl → Bool) (R : List GDelta) : ∀ L : List GDelta, wt p (joinF n 0 L R) = sumD (fun a => sumD (tJ n p a) R) L
 | [] => rfl
 | a :: L => by rw [show joinF n 0 (a :: L) R = joinA n 0 R a ++ joinF n 0 L R from rfl, wt_app, joinA0_t, joinF0_t n p R L]; rfl
theorem joinF1_t (n : GNode) (p : Pl → Bool) (L : List GDelta) : ∀ R : List GDelta, wt p (joinF n 1 R L) = sumD (fun b => sumD (fun a => tJ n p a b) L) R
 | [] => rfl
 | b :: R => by rw [show joinF n 1 (b :: R) L = joinA n 1 L b ++ joinF n 1 R L from rfl, wt_app, joinA1_t, joinF1_t n p L R]; rfl
theorem join_swap (n : GNode) (p : Pl → Bool) (L R : List GDelta) : wt p (joinF n 0 L R) = wt p (joinF n 1 R L) := by
 rw [joinF0_t, joinF1_t]; exact sumD_swap (tJ n p) L R
end Go.PL
namespace Go.PL
open Go
set_option linter.unusedVariables false
set_option maxRecDepth 20000
theorem wt_negs (p : Pl → Bool) : ∀ l : List GDelta, W (wt p (l.map neg)) = W (- wt p l)
 | [] => rfl
 | x :: l => by
  have ih := wt_negs p l
  simp only [List.map_cons, wt]
  rw [show pl (neg x) = pl x from rfl, show (neg x).N = W (0 - x.N) from rfl, Int.neg_add]
  refine W_add ?_ ih
  by_cases h : p (pl x) = true
  ·rw [if_pos h, if_pos h, W_W]; congr 1; omega
  ·rw [if_neg h, if_neg h]; rfl
theorem asofA_off {n : GNode} {e1 l : List GDelta} (h1 : Can e1) (hl : Can l) (hK : 1 ≤ n.Keep) {a : GDelta}
  (h : ¬ ((l.getD 0 default).Time ≤ a.Time ∧ a.Time ≤ (l.getD (l.length - 1) default).Time + n.Keep)) : asofA n (PL.cons (e1 ++ l)) a = asofA n e1 a := by
 have hN : okN (e1 ++ l) := fun x hx => (List.mem_append.1 hx).elim (h1.n64 x) (hl.n64 x)
 have key : nearF (PL.cons (e1 ++ l)) (a.Time - n.Keep + 1) a.Time = nearF e1 (a.Time - n.Keep + 1) a.Time := by
  unfold nearF
  refine ((cons_can hN).filter _).ext (h1.filter _) ?_
  have hs := (cons_same (e1 ++ l)).filter (fun q : Pl => decide (a.Time - n.Keep + 1 ≤ q.1) && decide (q.1 ≤ a.Time))
  have e : (e1 ++ l).filter (fun d => decide (a.Time - n.Keep + 1 ≤ d.Time) && decide (d.Time ≤ a.Time)) = e1.filter (fun d => decide (a.Time - n.Keep + 1 ≤ d.Time) && decide (d.Time ≤ a.Time)) := by
   rw [List.filter_append]
   have : l.filter (fun d => decide (a.Time - n.Keep + 1 ≤ d.Time) && decide (d.Time ≤ a.Time)) = [] := by
    refine List.filter_eq_nil_iff.2 fun d hd => ?_
    obtain ⟨j, hj, rfl⟩ := List.mem_iff_getElem.1 hd
    have g1 := hl.ts.get (Nat.zero_le j) hj
    have g2 := hl.ts.get (show j ≤ l.length - 1 by omega) (by omega)
    have gj : l.getD j default = l[j] := by simp [List.getD_eq_getElem?_getD, hj]
    rw [gj] at g1 g2
    simp only [Bool.and_eq_true, decide_eq_true_eq]
    omega
   rw [this, List.append_nil]
  have hs' : Same ((PL.cons (e1 ++ l)).filter (fun d => decide (a.Time - n.Keep + 1 ≤ d.Time) && decide (d.Time ≤ a.Time))) ((e1 ++ l).filter (fun d => decide (a.Time - n.Keep + 1 ≤ d.Time) && decide (d.Time ≤ a.Time))) := hs
  rw [e] at hs'
  exact hs'
 unfold asofA
 rw [key]
theorem asofF_sum (n : GNode) (p : Pl → Bool) (R : List GDelta) : ∀ L : List GDelta, wt p (asofF n L R) = sumD (fun a => wt p (asofA n R a)) L
 | [] => rfl
 | a :: L => by rw [show asofF n (a :: L) R = asofA n R a ++ asofF n L R from rfl, wt_app, asofF_sum n p R L]; rfl
theorem sumD_part {f g : GDelta → Int} (q : GDelta → Bool) : ∀ {l : List GDelta}, (∀ x, x ∈ l → q x = false → f x = g x) → sumD f l - sumD g l = sumD f (l.filter q) - sumD g (l.filter q)
 | [], _ => rfl
 | x :: l, h => by
  have ih := sumD_part q (l := l) fun y hy => h y (List.mem_cons_of_mem _ hy)
  rw [List.filter_cons]
  cases hq : q x with
  | true => simp only [if_true, sumD]; omega
  | false =>
   have := h x List.mem_cons_self hq
   simp only [Bool.false_eq_true, if_false, sumD]; omega
theorem chg_wt {n : GNode} (hn : okNode n) (p : Pl → Bool) {i : Int} (hi : i = 0 ∨ i = 1) {l : List GDelta} {s : GSide} (hs : okSd n s) (hl : Can l) : W (wt p (chgF n i l s)) = W (wt p (MS n (updS i s l)) - wt p (MS n s)) := by
 obtain ⟨⟨e0, e1⟩⟩ := s
 have c0 : Can e0 := hs.c0
 have c1 : Can e1 := hs.c1
 unfold chgF MS updS
 by_cases h6 : n.Op = 6
 ·rw [if_pos h6, if_pos h6, if_pos h6]
  rcases hi with rfl | rfl
  ·rw [if_pos rfl, if_pos rfl]
   show W (wt p (joinF n 0 l e1)) = W (wt p (joinF n 0 (PL.cons (e0 ++ l)) e1) - wt p (joinF n 0 e0 e1))
   rw [joinF_wt, W_sub ((joinF_wt n 0 p (PL.cons (e0 ++ l)) e1).trans (cons_wc _ _)) (joinF_wt n 0 p e0 e1), wc_app]
   congr 1; omega
  ·rw [if_neg (by omega), if_neg (by omega)]
   show W (wt p (joinF n 1 l e0)) = W (wt p (joinF n 0 e0 (PL.cons (e1 ++ l))) - wt p (joinF n 0 e0 e1))
   rw [join_swap, join_swap, joinF_wt, W_sub ((joinF_wt n 1 p (PL.cons (e1 ++ l)) e0).trans (cons_wc _ _)) (joinF_wt n 1 p e1 e0), wc_app]
   congr 1; omega
 ·rw [if_neg h6, if_neg h6, if_neg h6]
  rcases hi with rfl | rfl
  ·rw [if_pos rfl, if_pos rfl]
   show W (wt p (asofF n l e1)) = W (wt p (asofF n (PL.cons (e0 ++ l)) e1) - wt p (asofF n e0 e1))
   have : W (wt p (asofF n (PL.cons (e0 ++ l)) e1)) = W (wc (cA n e1 p) (e0 ++ l)) := by rw [asofF_wt]; exact cons_wc _ _
   rw [W_sub this rfl, wc_app, asofF_wt, asofF_wt]
   congr 1; omega
  ·rw [if_neg (by omega), if_neg (by omega)]
   have hK : 1 ≤ n.Keep := by
    rcases hn.op with h | h
    ·exact absurd h.1 h6
    ·exact h.2.1
   show W (wt p (PL.cons (asofF n (nearF e0 (l.getD 0 default).Time ((l.getD (l.length - 1) default).Time + n.Keep)) (PL.cons (e1 ++ l)) ++ (asofF n (nearF e0 (l.getD 0 default).Time ((l.getD (l.length - 1) default).Time + n.Keep)) e1).map neg))) =
    W (wt p (asofF n e0 (PL.cons (e1 ++ l))) - wt p (asofF n e0 e1))
   rw [cons_same _ p, wt_app, W_add rfl (wt_negs p _)]
   rw [asofF_sum, asofF_sum, asofF_sum, asofF_sum]
   have := sumD_part (f := fun a => wt p (asofA n (PL.cons (e1 ++ l)) a)) (g := fun a => wt p (asofA n e1 a)) (fun d => decide ((l.getD 0 default).Time ≤ d.Time) && decide (d.Time ≤ (l.getD (l.length - 1) default).Time + n.Keep)) (l := e0) fun a _ hq => by
    rw [asofA_off c1 hl hK]
    intro hh
    rw [show (decide ((l.getD 0 default).Time ≤ a.Time) && decide (a.Time ≤ (l.getD (l.length - 1) default).Time + n.Keep)) = true by simp only [Bool.and_eq_true, decide_eq_true_eq]; exact hh] at hq
    cases hq
   rw [this]
   rfl
theorem nodup_over : ∀ L : List ByteArray, ∃ ks : List ByteArray, ks.Nodup ∧ ∀ x, x ∈ L → x ∈ ks
 | [] => ⟨[], .nil, fun _ h => h⟩
 | k :: L => by
  obtain ⟨ks, h1, h2⟩ := nodup_over L
  by_cases hk : k ∈ ks
  ·exact ⟨ks, h1, fun x hx => (List.mem_cons.1 hx).elim (fun e => e ▸ hk) (h2 x)⟩
  ·exact ⟨k :: ks, List.nodup_cons.2 ⟨hk, h1⟩, fun x hx => (List.mem_cons.1 hx).elim (fun e => e ▸ List.mem_cons_self) fun h => List.mem_cons_of_mem _ (h2 x h)⟩
theorem sumK_ext (f : ByteArray → Int) : ∀ {ks ks' : List ByteArray}, ks.Nodup → ks'.Nodup → (∀ k, k ∈ ks → k ∉ ks' → f k = 0) → (∀ k, k ∈ ks' → k ∉ ks → f k = 0) → sumK f ks = sumK f ks'
 | [], ks', _, _, _, h => by
  rw [sumK_congr (f := f) (g := fun _ => 0) fun k hk => h k hk (by simp), sumK_zero]; rfl
 | k :: ks, ks', hn, hn', h, h' => by
  have h1 := List.nodup_cons.1 hn
  by_cases hk : k ∈ ks'
  ·rw [sumK_perm f (kerase_perm hk)]
   simp only [sumK]
   rw [sumK_ext f h1.2 (kerase_nodup hn' k) (fun j hj hj' => ?_) (fun j hj hj' => ?_)]
   ·refine h j (List.mem_cons_of_mem _ hj) fun hj2 => hj' ((kerase_mem hn').2 ⟨fun e => h1.1 (e ▸ hj), hj2⟩)
   ·obtain ⟨g1, g2⟩ := (kerase_mem hn').1 hj
    exact h' j g2 fun hj2 => (List.mem_cons.1 hj2).elim g1 hj'
  ·simp only [sumK]
   rw [h k List.mem_cons_self hk, sumK_ext f h1.2 hn' (fun j hj hj' => h j (List.mem_cons_of_mem _ hj) hj') (fun j hj hj' => ?_)]
   ·omega
   ·refine h' j hj fun hj2 => (List.mem_cons.1 hj2).elim (fun e => hk (e ▸ hj)) hj'
theorem sumK_W {f g : ByteArray → Int} {ks : List ByteArray} (h : ∀ k, k ∈ ks → W (f k) = W (g k)) : W (sumK f ks) = W (sumK g ks) := by
 induction ks with
 | nil => rfl
 | cons k ks ih => simp only [sumK]; exact W_add (h k List.mem_cons_self) (ih fun j hj => h j (List.mem_cons_of_mem _ hj))
theorem sumK_sub (f g : ByteArray → Int) (ks : List ByteArray) : sumK (fun k => f k - g k) ks = sumK f ks - sumK g ks := by
 induction ks with
 | nil => rfl
 | cons k ks ih => simp only [sumK, ih]; omega
theorem wt_flat (p : Pl → Bool) (f : ByteArray → List GDelta) (ks : List ByteArray) : wt p (ks.flatMap f) = sumK (fun k => wt p (f k)) ks := by
 induction ks with
 | nil => rfl
 | cons k ks ih => rw [List.flatMap_cons, wt_app, ih]; rfl
def fPhi (n : GNode) (p : Pl → Bool) (m : KS) (k : ByteArray) : Int := wt p (MS n ((mlook m k).getD side0))
def Phi (n : GNode) (p : Pl → Bool) (m : KS) : Int := sumK (fPhi n p m) (mkeys m)
theorem MS0 (n : GNode) : MS n side0 = [] := by unfold MS; split <;> rfl
theorem Phi_over {n : GNode} {p : Pl → Bool} {m : KS} (hm : MC m) {ks : List ByteArray} (hn : ks.Nodup) (hs : ∀ k, k ∈ mkeys m → k ∈ ks) : Phi n p m = sumK (fPhi n p m) ks := by
 refine sumK_ext _ (hm.nodup LO.bytes) hn (fun k hk hk' => absurd (hs k hk) hk') fun k _ hk => ?_
 unfold fPhi
 have : mlook m k = none := by
  cases hl : mlook m k with
  | none => rfl
  | some c => exact absurd (mkeys_look.2 ⟨c, hl⟩) hk
 rw [this]
 show wt p (MS n side0) = 0
 rw [MS0]; rfl
open Classical in
theorem push_wt {n : GNode} (hn : okNode n) (p : Pl → Bool) {i : Int} (hi : i = 0 ∨ i = 1) {l : List GDelta} {m : KS} (hm : okM n m) (hl : Can l) :
  W (wt p ((mkeys (groupM n i l)).flatMap (pushO n i l m))) = W (Phi n p (pushM n i l m) - Phi n p m) := by
 obtain ⟨ks, hk1, hk2⟩ := nodup_over (mkeys m ++ (mkeys (pushM n i l m) ++ mkeys (groupM n i l)))
 have hg := (groupM_mc n i l).nodup LO.bytes
 rw [Phi_over (pushM_mc n i l hm.mc) hk1 fun k hk => hk2 k (by simp [hk]), Phi_over hm.mc hk1 fun k hk => hk2 k (by simp [hk]), ← sumK_sub, wt_flat]
 have e1 : sumK (fun k => wt p (pushO n i l m k)) (mkeys (groupM n i l)) = sumK (fun k => if k ∈ mkeys (groupM n i l) then wt p (pushO n i l m k) else 0) ks := by
  rw [sumK_congr (f := fun k => wt p (pushO n i l m k)) (g := fun k => if k ∈ mkeys (groupM n i l) then wt p (pushO n i l m k) else 0) fun k hk => by rw [if_pos hk]]
  refine sumK_ext _ hg hk1 (fun k hk hk' => absurd (hk2 k (by simp [hk])) hk') fun k _ hk => by rw [if_neg hk]
 rw [e1]
 refine sumK_W fun k _ => ?_
 unfold fPhi
 by_cases hk : k ∈ mkeys (groupM n i l)
 ·rw [if_pos hk, pushM_in hk]
  unfold newS pushO
  rw [keepS_getD]
  exact chg_wt hn p hi (hm.get k) (ofK_can hl)
 ·rw [if_neg hk, pushM_out hk, Int.sub_self]
end Go.PL
namespace Go.PL
open Go
set_option linter.unusedVariables false
set_option maxRecDepth 20000
structure okZr (r : List GValue) : Prop where
 l : r.length ≤ 12
 v : okVs r
 s : ∀ v, v ∈ r → v.S.size ≤ 1048576
def okZ (l : List GDelta) : Prop := ∀ d, d ∈ l → okZr d.Row
theorem okZ.sub {l r : List GDelta} (h : okZ l) (hs : ∀ x, x ∈ r → x ∈ l) : okZ r := fun x hx => h x (hs x hx)
theorem okZ.cons {l : List GDelta} (h : okZ l) : okZ (PL.cons l) := fun x hx => by
 obtain ⟨z, hz, e⟩ := cons_mem hx
 have : x.Row = z.Row := congrArg Prod.snd e
 rw [this]; exact h z hz
theorem okZ.app {l r : List GDelta} (h : okZ l) (h' : okZ r) : okZ (l ++ r) := fun x hx => (List.mem_append.1 hx).elim (h x) (h' x)
theorem okZ.get {l : List GDelta} (h : okZ l) (k : Nat) : okZr (l.getD k default).Row := by
 by_cases hk : k < l.length
 ·exact h _ (getD_mem hk)
 ·rw [List.getD_eq_getElem?_getD, List.getElem?_eq_none (by omega)]
  exact ⟨Nat.zero_le _, fun v hv => (by cases hv), fun v hv => (by cases hv)⟩
theorem pushOut_ok {n : GNode} {i : Int} {l : List GDelta} {m : KS} (hi : i = 0 ∨ i = 1) (hl : okI n i l) (hm : okM n m) (hlen : l.length ≤ 1000) :
  okD ((mkeys (groupM n i l)).flatMap (pushO n i l m)) ∧ ((mkeys (groupM n i l)).flatMap (pushO n i l m)).length ≤ l.length * 100000000 := by
 have hbig : ∀ k, (pushO n i l m k).length ≤ 100000000 := fun k => chgF_len (hm.get k) (Nat.le_trans (ofK_len n i k l) (by omega))
 have hokO : ∀ k, okD (pushO n i l m k) := fun k => chgF_ok hi (ofK_okI hl) (hm.get k)
 refine ⟨⟨fun x hx => ?_, fun x hx => ?_⟩, ?_⟩
 ·obtain ⟨a, ha, hx⟩ := List.mem_flatMap.1 hx
  exact (hokO a).r x hx
 ·obtain ⟨a, ha, hx⟩ := List.mem_flatMap.1 hx
  exact (hokO a).n x hx
 ·refine Nat.le_trans (flatMapK_len hbig _) (Nat.mul_le_mul ?_ (Nat.le_refl _))
  rw [mkeys, List.length_map]
  exact groupM_len n i l
theorem okZ_act {ta tb : List Int} {n : GNode} (hR : RightN n ta tb) {l : List GDelta} (h : okL 40 okGDelta l) {i : Int} (hF : ∀ d, d ∈ l → d.Row.length = (two i ta tb).length) : okZ l := by
 intro d hd
 have hl := hF d hd
 have h1 := (h.2 d hd).2.1.2
 refine ⟨?_, fun v hv => ?_, fun v hv => (h1 v hv).2.2⟩
 ·have := hR.la
  have := hR.lb
  rw [hl]
  unfold two; split <;> omega
 ·have := h1 v hv
  exact ⟨this.1, this.2.1, Nat.le_trans this.2.2 (by omega)⟩
end Go.PL
namespace Go.PL
open Go
set_option linter.unusedVariables false
set_option maxRecDepth 20000
end Go.PL
namespace Go.PL
open Go
set_option linter.unusedVariables false
set_option maxRecDepth 20000
def rowA (n : GNode) (R : List GDelta) (a : GDelta) : List GDelta := if n.Op = 6 then joinA n 0 R a else asofA n R a
theorem MS_flat (n : GNode) (s : GSide) : MS n s = s.rows_.e0.flatMap (rowA n s.rows_.e1) := by
 unfold MS rowA joinF asofF
 by_cases h : n.Op = 6
 ·simp only [if_pos h]
 ·simp only [if_neg h]
def refM (n : GNode) (A B : List GDelta) : List GDelta := A.flatMap fun a => rowA n (ofK n 1 (kd n 0 a) B) a
theorem wt_flatD (p : Pl → Bool) (f : GDelta → List GDelta) : ∀ l : List GDelta, wt p (l.flatMap f) = sumD (fun x => wt p (f x)) l
 | [] => rfl
 | x :: l => by rw [List.flatMap_cons, wt_app, wt_flatD p f l]; rfl
theorem sumK_sumD (n : GNode) (i : Int) (ks : List ByteArray) (hn : ks.Nodup) (f : ByteArray → GDelta → Int) : ∀ l : List GDelta, (∀ x, x ∈ l → kd n i x ∈ ks) → sumK (fun k => sumD (f k) (ofK n i k l)) ks = sumD (fun x => f (kd n i x) x) l
 | [], _ => Eq.trans (sumK_congr (g := fun _ => 0) fun k _ => rfl) (sumK_zero ks)
 | x :: l, h => by
  have ih := sumK_sumD n i ks hn f l fun y hy => h y (List.mem_cons_of_mem _ hy)
  have e : ∀ k, sumD (f k) (ofK n i k (x :: l)) = (if kd n i x = k then f (kd n i x) x else 0) + sumD (f k) (ofK n i k l) := by
   intro k
   unfold ofK
   by_cases hk : kd n i x = k
   ·rw [List.filter_cons_of_pos (p := fun d => decide (kd n i d = k)) (decT hk), if_pos hk, ← hk]; rfl
   ·rw [List.filter_cons_of_neg (p := fun d => decide (kd n i d = k)) (decF hk), if_neg hk]; omega
  rw [sumK_congr fun k _ => e k, sumK_add, ih, sumK_one _ _ ks hn (h x List.mem_cons_self)]
  rfl
theorem Phi_ref {n : GNode} {A B : List GDelta} {t : Int} {m : KS} (h : OInv n A B t m) (p : Pl → Bool) : Phi n p m = wt p (refM n (A.filter (aft t)) (B.filter (aft t))) := by
 obtain ⟨ks, hk1, hk2⟩ := nodup_over (mkeys m ++ (A.filter (aft t)).map (kd n 0))
 rw [Phi_over h.mc hk1 fun k hk => hk2 k (List.mem_append_left _ hk)]
 have e : ∀ k, fPhi n p m k = sumD (fun a => wt p (rowA n (ofK n 1 k (B.filter (aft t))) a)) (ofK n 0 k (A.filter (aft t))) := by
  intro k
  unfold fPhi
  rw [h.look, keepS_getD, MS_flat, wt_flatD]
 rw [sumK_congr fun k _ => e k, sumK_sumD n 0 ks hk1 (fun k a => wt p (rowA n (ofK n 1 k (B.filter (aft t))) a)) _ fun x hx => hk2 _ (List.mem_append_right _ (List.mem_map.2 ⟨x, hx, rfl⟩))]
 unfold refM
 rw [wt_flatD]
end Go.PL
namespace Go.PL
open Go
set_option linter.unusedVariables false
set_option maxRecDepth 20000
theorem G8_sp (n : GNode) (types : List (List Int)) (acts : List GAct) (most : Nat) (hm : most ≤ 1000) (hn : okGNode n) (ht : okL 24 (okL 8 inI64) types) (hok : okL 40 okGAct acts) :
  Sp (G8 n types acts (most : Int)) (fun r => r = true → ∃ ta tb, types = [ta, tb] ∧ n.Key.length ≤ 20 ∧ n.Key2.length ≤ 20 ∧ RightN n ta tb ∧ acts.length ≤ most ∧ FitsR ta tb acts [] [] (-1)) := by
 unfold G8 T8
 simp only [Tr.den]
 refine Sq.bind (fun j : Bool => j = false → (n.Op = 6 ∨ n.Op = 7) ∧ types.length = 2 ∧ n.Key.length ≤ 20 ∧ n.Key2.length ≤ 20) ?_ (fun j hj => ?_)
 ·have inner : (n.Op = 6 ∨ n.Op = 7) → Sp (if ((types.length : Int) != 2) = true then some true else (G33 [] n).bind fun r => some !r) (fun j : Bool => j = false → (n.Op = 6 ∨ n.Op = 7) ∧ types.length = 2 ∧ n.Key.length ≤ 20 ∧ n.Key2.length ≤ 20) := by
   intro hop
   by_cases h2 : (types.length : Int) = 2
   ·rw [if_neg (bneF h2)]
    refine Sq.bind _ (G33_sp n hn) fun r hr => sq_some.2 fun hf => ?_
    cases r with
    | false => cases hf
    | true => exact ⟨hop, by omega, (hr rfl).1, (hr rfl).2⟩
   ·rw [if_pos (bneT h2)]
    exact sq_some.2 fun h => by cases h
  by_cases h6 : n.Op = 6
  ·rw [if_neg (bneF h6)]; exact inner (.inl h6)
  ·rw [if_pos (bneT h6)]
   by_cases h7 : n.Op = 7
   ·rw [if_neg (bneF h7)]; exact inner (.inr h7)
   ·rw [if_pos (bneT h7)]; exact sq_some.2 fun h => by cases h
 ·cases j with
  | true => exact sq_some.2 fun h => by cases h
  | false =>
   obtain ⟨hop, h2, k1, k2⟩ := hj rfl
   simp only [Bool.false_eq_true, if_false]
   match types, h2, ht with
   | [ta, tb], _, ht =>
    have la := (ht.2 ta (by simp)).1
    have lb := (ht.2 tb (by simp)).1
    refine Sq.bind _ (G34_sp n ta tb hop (by omega) (by omega) la lb) fun r hr => ?_
    cases r with
    | false => exact sq_some.2 fun h => by cases h
    | true =>
     simp only [if_true]
     refine Sq.bind (fun r : Bool => r = true → acts.length ≤ most ∧ FitsR ta tb acts [] [] (-1)) ?_ fun r hF => sq_some.2 fun h => ⟨ta, tb, rfl, k1, k2, hr rfl, hF h⟩
     refine Sq.bind _ (G35_sp ta tb acts most hm hok la lb) fun r hr => sq_some.2 hr
theorem okI_of {n : GNode} {ta tb : List Int} (hR : RightN n ta tb) {l : List GDelta} (h : okL 40 okGDelta l) {i : Int} (hi : i = 0 ∨ i = 1) {c : Int} (hF : ∀ d, d ∈ l → c < d.Time ∧ 0 ≤ d.Time ∧ d.Time ≤ 2199023255552 ∧ d.Row.length = (two i ta tb).length ∧ -3 ≤ d.N ∧ d.N ≤ 3) : okI n i l := by
 refine ⟨fun d hd v hv => ?_, fun d hd q hq => ?_, fun d hd => ?_, fun d hd => ⟨(hF d hd).2.1, (hF d hd).2.2.1⟩, (okGDelta.okd h).n⟩
 ·have := (h.2 d hd).2.1.2 v hv
  exact ⟨this.1, this.2.1, Nat.le_trans this.2.2 (by omega)⟩
 ·have hl := (hF d hd).2.2.2.1
  rw [hl]
  rcases hi with rfl | rfl
  ·exact hR.k1 q hq
  ·exact hR.k2 q hq
 ·have hl := (hF d hd).2.2.2.1
  rw [hl]
  have := hR.la
  have := hR.lb
  unfold two; split <;> omega
end Go.PL
namespace Go.PL
open Go
set_option linter.unusedVariables false
set_option maxRecDepth 20000
theorem rowA_ok {n : GNode} {R : List GDelta} (hw : okW R) {a : GDelta} (ha : a.Row.length ≤ 1000) (hn : in64 a.N) : okD (rowA n R a) := by
 unfold rowA
 split
 ·have := joinF_ok (n := n) (i := 0) (l := [a]) (r := R) (fun d hd => by rw [List.mem_singleton.1 hd]; exact ha) hw
  simpa [joinF] using this
 ·have := asofF_ok (n := n) (l := [a]) (r := R) (fun d hd => by rw [List.mem_singleton.1 hd]; exact ha) hw (fun d hd => by rw [List.mem_singleton.1 hd]; exact hn)
  simpa [asofF] using this
theorem rowA_len (n : GNode) (R : List GDelta) (a : GDelta) : (rowA n R a).length ≤ R.length + 1 := by
 unfold rowA
 split
 ·exact Nat.le_trans (joinA_len n 0 R a) (by omega)
 ·exact Nat.le_trans (asofA_len n R a) (by omega)
theorem refM_ok {n : GNode} {A B : List GDelta} (hA : okI n 0 A) (hB : okI n 1 B) : okD (refM n A B) := by
 unfold refM
 refine okD_flat fun a ha => rowA_ok (fun d hd => hB.r d (ofK_mem.1 hd).1) (hA.r a ha) (hA.n a ha)
theorem refM_len {n : GNode} {A B : List GDelta} {c : Nat} (hB : B.length ≤ c) : (refM n A B).length ≤ A.length * (c + 1) := by
 unfold refM
 refine flatMap_len (fun a => ?_) A
 have h1 := rowA_len n (ofK n 1 (kd n 0 a) B) a
 have h2 := ofK_len n 1 (kd n 0 a) B
 omega
theorem InOk.filter {n : GNode} {i : Int} {a : List GDelta} (h : InOk n i a) (p : GDelta → Bool) : InOk n i (a.filter p) :=
 ⟨h.can.filter p, h.ok.sub fun x hx => (List.mem_filter.1 hx).1, Nat.le_trans (List.length_filter_le _ _) h.len, fun d hd => h.pos d (List.mem_filter.1 hd).1⟩
theorem okZ.filter {a : List GDelta} (h : okZ a) (p : GDelta → Bool) : okZ (a.filter p) := h.sub fun x hx => (List.mem_filter.1 hx).1
theorem filt_push {a l : List GDelta} {t : Int} (ha : Can a) (hl : okN l) (hal : ∀ d, d ∈ l → aft t d = true) : PL.cons (a.filter (aft t) ++ l) = (PL.cons (a ++ l)).filter (aft t) := by
 have hal' : okN (a ++ l) := fun x hx => (List.mem_append.1 hx).elim (ha.n64 x) (hl x)
 refine cons_eq ((cons_can hal').filter _) (fun x hx => ?_) ?_
 ·rcases List.mem_append.1 hx with hx | hx
  ·exact ha.n64 x (List.mem_filter.1 hx).1
  ·exact hl x hx
 ·have h1 := (cons_same (a ++ l)).aft t
  rw [List.filter_append, List.filter_eq_self.2 hal] at h1
  exact h1
theorem two_filter (i : Int) (A B : List GDelta) (p : GDelta → Bool) : two i (A.filter p) (B.filter p) = (two i A B).filter p := by unfold two; split <;> rfl
structure KIn (n : GNode) (a0 a1 : List GDelta) (k : Nat) : Prop where
 c0 : Can a0
 i0 : okI n 0 a0
 l0 : a0.length ≤ 8 * k
 p0 : ∀ d, d ∈ a0 → 1 ≤ d.N ∧ d.N ≤ 20
 z0 : okZ a0
 c1 : Can a1
 i1 : okI n 1 a1
 l1 : a1.length ≤ 8 * k
 p1 : ∀ d, d ∈ a1 → 1 ≤ d.N ∧ d.N ≤ 20
 z1 : okZ a1
theorem KIn.nil (n : GNode) : KIn n [] [] 0 := ⟨.nil, .nil, by simp, by simp, fun _ h => (by cases h), .nil, .nil, by simp, by simp, fun _ h => (by cases h)⟩
theorem KIn.in0 {n : GNode} {a0 a1 : List GDelta} {k : Nat} (h : KIn n a0 a1 k) (hk : k ≤ 100) : InOk n 0 a0 := ⟨h.c0, h.i0, by have := h.l0; omega, h.p0⟩
theorem KIn.in1 {n : GNode} {a0 a1 : List GDelta} {k : Nat} (h : KIn n a0 a1 k) (hk : k ≤ 100) : InOk n 1 a1 := ⟨h.c1, h.i1, by have := h.l1; omega, h.p1⟩
theorem KIn.more {n : GNode} {a0 a1 : List GDelta} {k : Nat} (h : KIn n a0 a1 k) : KIn n a0 a1 (k + 1) := ⟨h.c0, h.i0, by have := h.l0; omega, h.p0, h.z0, h.c1, h.i1, by have := h.l1; omega, h.p1, h.z1⟩
theorem KIn.push {n : GNode} {ta tb : List Int} (hR : RightN n ta tb) {a0 a1 : List GDelta} {k : Nat} (h : KIn n a0 a1 k) {x : GAct} (hx : okL 40 okGDelta x.L) (hL : x.L.length ≤ 8) {c : Int}
  (hD : ∀ d, d ∈ x.L → c < d.Time ∧ 0 ≤ d.Time ∧ d.Time ≤ 2199023255552 ∧ d.Row.length = (two (inA x) ta tb).length ∧ -3 ≤ d.N ∧ d.N ≤ 3) (hP : ∀ d, d ∈ PL.cons (two (inA x) a0 a1 ++ x.L) → 1 ≤ d.N ∧ d.N ≤ 20) :
  okI n (inA x) x.L ∧ KIn n (if inA x = 0 then PL.cons (two (inA x) a0 a1 ++ x.L) else a0) (if inA x = 0 then a1 else PL.cons (two (inA x) a0 a1 ++ x.L)) (k + 1) := by
 have hi := bit1 x.Do
 have hIL : okI n (inA x) x.L := okI_of hR hx hi hD
 have hZ := okZ_act hR hx (i := inA x) fun d hd => (hD d hd).2.2.2.1
 refine ⟨hIL, ?_⟩
 have hcn := cons_len (two (inA x) a0 a1 ++ x.L)
 rw [List.length_append] at hcn
 rcases (show inA x = 0 ∨ inA x = 1 from hi) with e | e
 ·rw [e] at hP hcn hIL ⊢
  rw [if_pos rfl, if_pos rfl]
  rw [show two 0 a0 a1 = a0 from rfl] at *
  have := h.l0
  have := h.l1
  exact ⟨cons_can (h.i0.app hIL).n, (h.i0.app hIL).cons, by omega, hP, (h.z0.app hZ).cons, h.c1, h.i1, by omega, h.p1, h.z1⟩
 ·rw [e] at hP hcn hIL ⊢
  rw [if_neg (by omega), if_neg (by omega)]
  rw [show two 1 a0 a1 = a1 from rfl] at *
  have := h.l0
  have := h.l1
  exact ⟨h.c0, h.i0, by omega, h.p0, h.z0, cons_can (h.i1.app hIL).n, (h.i1.app hIL).cons, by omega, hP, (h.z1.app hZ).cons⟩
end Go.PL
namespace Go.PL
open Go
set_option linter.unusedVariables false
set_option maxRecDepth 20000
theorem near_aft {n : GNode} {i : Int} {k : ByteArray} {B : List GDelta} {t lo hi : Int} (h : t < lo) : nearF (ofK n i k (B.filter (aft t))) lo hi = nearF (ofK n i k B) lo hi := by
 unfold nearF ofK
 rw [List.filter_filter, List.filter_filter, List.filter_filter]
 congr 1
 funext d
 rw [Bool.eq_iff_iff]
 simp only [Bool.and_eq_true, decide_eq_true_eq, aft]
 constructor
 ·rintro ⟨h1, h2⟩; exact h1
 ·intro h1; exact ⟨h1, by have := h1.1.1; omega⟩
theorem near_off {n : GNode} {i : Int} {k : ByteArray} {B l : List GDelta} {lo hi : Int} (hB : Can B) (hl : okN l) (h : ∀ d, d ∈ l → hi < d.Time) : nearF (ofK n i k (PL.cons (B ++ l))) lo hi = nearF (ofK n i k B) lo hi := by
 have hN : okN (B ++ l) := fun x hx => (List.mem_append.1 hx).elim (hB.n64 x) (hl x)
 refine Can.ext (((cons_can hN).filter _).filter _) ((hB.filter _).filter _) ?_
 have hs := ((cons_same (B ++ l)).ofK n i k).filter (fun q : Pl => decide (lo ≤ q.1) && decide (q.1 ≤ hi))
 have e : (ofK n i k (B ++ l)).filter (fun d => decide (lo ≤ d.Time) && decide (d.Time ≤ hi)) = (ofK n i k B).filter (fun d => decide (lo ≤ d.Time) && decide (d.Time ≤ hi)) := by
  rw [ofK_app, List.filter_append]
  have : (ofK n i k l).filter (fun d => decide (lo ≤ d.Time) && decide (d.Time ≤ hi)) = [] := by
   refine List.filter_eq_nil_iff.2 fun d hd => ?_
   have := h d (ofK_mem.1 hd).1
   simp only [Bool.and_eq_true, decide_eq_true_eq]
   omega
  rw [this, List.append_nil]
 have hs' : Same ((ofK n i k (PL.cons (B ++ l))).filter (fun d => decide (lo ≤ d.Time) && decide (d.Time ≤ hi))) ((ofK n i k (B ++ l)).filter (fun d => decide (lo ≤ d.Time) && decide (d.Time ≤ hi))) := hs
 rw [e] at hs'
 exact hs'
theorem joinA_near {n : GNode} {i : Int} {R R' : List GDelta} {a : GDelta} (h : nearF R (if i = 1 then a.Time - n.After else a.Time - n.Before) (if i = 1 then a.Time + n.Before else a.Time + n.After) = nearF R' (if i = 1 then a.Time - n.After else a.Time - n.Before) (if i = 1 then a.Time + n.Before else a.Time + n.After)) : joinA n i R a = joinA n i R' a := by
 unfold joinA; rw [h]
theorem asofA_near {n : GNode} {R R' : List GDelta} {a : GDelta} (h : nearF R (a.Time - n.Keep + 1) a.Time = nearF R' (a.Time - n.Keep + 1) a.Time) : asofA n R a = asofA n R' a := by
 unfold asofA; rw [h]
theorem back_6 {n : GNode} (h : n.Op = 6) : n.After ≤ backF n ∧ n.Before ≤ backF n := by
 unfold backF
 rw [if_pos h]
 split <;> omega
theorem back_7 {n : GNode} (h : ¬ n.Op = 6) : backF n = n.Keep - 1 := by unfold backF; rw [if_neg h]
theorem rowA_aft {n : GNode} {k : ByteArray} {B : List GDelta} {c : Int} {a : GDelta} (h : c < a.Time) : rowA n (ofK n 1 k (B.filter (aft (c - backF n)))) a = rowA n (ofK n 1 k B) a := by
 unfold rowA
 by_cases h6 : n.Op = 6
 ·rw [if_pos h6, if_pos h6]
  have hb := back_6 h6
  refine joinA_near ?_
  rw [if_neg (show ¬ (0 : Int) = 1 by decide), if_neg (show ¬ (0 : Int) = 1 by decide)]
  exact near_aft (by omega)
 ·rw [if_neg h6, if_neg h6]
  have hb := back_7 h6
  exact asofA_near (near_aft (by omega))
def cR (n : GNode) (B : List GDelta) (p : Pl → Bool) (q : Pl) : Int := wt p (rowA n (ofK n 1 (keyB n 0 q.2) B) ⟨q.1, q.2, 1⟩)
theorem rowA_wt (n : GNode) (B : List GDelta) (p : Pl → Bool) (a : GDelta) : W (wt p (rowA n (ofK n 1 (kd n 0 a) B) a)) = W (a.N * cR n B p (pl a)) := by
 unfold cR rowA
 by_cases h6 : n.Op = 6
 ·rw [if_pos h6, if_pos h6, joinA_wt]; rfl
 ·rw [if_neg h6, if_neg h6, asofA_wt]; rfl
theorem refM_wt (n : GNode) (B : List GDelta) (p : Pl → Bool) : ∀ A : List GDelta, W (wt p (refM n A B)) = W (wc (cR n B p) A)
 | [] => rfl
 | a :: A => by
  rw [show refM n (a :: A) B = rowA n (ofK n 1 (kd n 0 a) B) a ++ refM n A B from rfl, wt_app]
  exact W_add (rowA_wt n B p a) (refM_wt n B p A)
theorem wc_congr {c c' : Pl → Int} : ∀ {l : List GDelta}, (∀ d, d ∈ l → c (pl d) = c' (pl d)) → wc c l = wc c' l
 | [], _ => rfl
 | x :: l, h => by
  simp only [wc]
  rw [h x List.mem_cons_self, wc_congr fun d hd => h d (List.mem_cons_of_mem _ hd)]
theorem diff0 (n : GNode) (A B l : List GDelta) (p : Pl → Bool) : W (wt p (refM n (PL.cons (A ++ l)) B) - wt p (refM n A B)) = W (wc (cR n B p) l) := by
 rw [W_sub ((refM_wt n B p (PL.cons (A ++ l))).trans (cons_wc _ _)) (refM_wt n B p A), wc_app]
 congr 1; omega
theorem forget0 {n : GNode} {A B l : List GDelta} {c : Int} (hl : ∀ d, d ∈ l → c < d.Time) (p : Pl → Bool) :
  W (wt p (refM n (PL.cons (A.filter (aft (c - backF n)) ++ l)) (B.filter (aft (c - backF n)))) - wt p (refM n (A.filter (aft (c - backF n))) (B.filter (aft (c - backF n))))) = W (wt p (refM n (PL.cons (A ++ l)) B) - wt p (refM n A B)) := by
 rw [diff0, diff0]
 congr 1
 refine wc_congr fun d hd => ?_
 unfold cR
 rw [rowA_aft (a := ⟨(pl d).1, (pl d).2, 1⟩) (hl d hd)]
def refM1 (n : GNode) (A B : List GDelta) : List GDelta := B.flatMap fun b => joinA n 1 (ofK n 0 (kd n 1 b) A) b
theorem refM_swap {n : GNode} (h6 : n.Op = 6) (A B : List GDelta) (p : Pl → Bool) : wt p (refM n A B) = wt p (refM1 n A B) := by
 obtain ⟨ks, hk1, hk2⟩ := nodup_over (A.map (kd n 0) ++ B.map (kd n 1))
 have e0 := sumK_sumD n 0 ks hk1 (fun k a => wt p (rowA n (ofK n 1 k B) a)) A fun x hx => hk2 _ (List.mem_append_left _ (List.mem_map.2 ⟨x, hx, rfl⟩))
 have e1 := sumK_sumD n 1 ks hk1 (fun k b => wt p (joinA n 1 (ofK n 0 k A) b)) B fun x hx => hk2 _ (List.mem_append_right _ (List.mem_map.2 ⟨x, hx, rfl⟩))
 unfold refM refM1
 rw [wt_flatD, wt_flatD, ← e0, ← e1]
 refine sumK_congr fun k _ => ?_
 have := join_swap n p (ofK n 0 k A) (ofK n 1 k B)
 unfold joinF at this
 rw [wt_flatD, wt_flatD] at this
 rw [← this]
 refine sumD_congr fun a _ => ?_
 unfold rowA; rw [if_pos h6]
def cR1 (n : GNode) (A : List GDelta) (p : Pl → Bool) (q : Pl) : Int := wt p (joinA n 1 (ofK n 0 (keyB n 1 q.2) A) ⟨q.1, q.2, 1⟩)
theorem refM1_wt (n : GNode) (A : List GDelta) (p : Pl → Bool) : ∀ B : List GDelta, W (wt p (refM1 n A B)) = W (wc (cR1 n A p) B)
 | [] => rfl
 | b :: B => by
  rw [show refM1 n A (b :: B) = joinA n 1 (ofK n 0 (kd n 1 b) A) b ++ refM1 n A B from rfl, wt_app]
  exact W_add (joinA_wt n 1 p b (ofK n 0 (kd n 1 b) A)) (refM1_wt n A p B)
theorem diff1 {n : GNode} (h6 : n.Op = 6) (A B l : List GDelta) (p : Pl → Bool) : W (wt p (refM n A (PL.cons (B ++ l))) - wt p (refM n A B)) = W (wc (cR1 n A p) l) := by
 rw [refM_swap h6, refM_swap h6, W_sub ((refM1_wt n A p (PL.cons (B ++ l))).trans (cons_wc _ _)) (refM1_wt n A p B), wc_app]
 congr 1; omega
theorem sumD_sub (f g : GDelta → Int) (l : List GDelta) : sumD (fun x => f x - g x) l = sumD f l - sumD g l := by
 induction l with
 | nil => rfl
 | cons x l ih => simp only [sumD, ih]; omega
theorem sumD_filter {f : GDelta → Int} (q : GDelta → Bool) : ∀ {l : List GDelta}, (∀ x, x ∈ l → q x = false → f x = 0) → sumD f l = sumD f (l.filter q)
 | [], _ => rfl
 | x :: l, h => by
  have ih := sumD_filter q (l := l) fun y hy => h y (List.mem_cons_of_mem _ hy)
  rw [List.filter_cons]
  cases hq : q x with
  | true => simp only [if_true, sumD, ih]
  | false =>
   have := h x List.mem_cons_self hq
   simp only [Bool.false_eq_true, if_false, sumD]; omega
theorem diffA (n : GNode) (A B B' : List GDelta) (p : Pl → Bool) : wt p (refM n A B') - wt p (refM n A B) = sumD (fun a => wt p (rowA n (ofK n 1 (kd n 0 a) B') a) - wt p (rowA n (ofK n 1 (kd n 0 a) B) a)) A := by
 unfold refM
 rw [wt_flatD, wt_flatD, sumD_sub]
theorem forget1 {n : GNode} (hN : okNode n) {A B l : List GDelta} {c : Int} (hB : Can B) (hlN : okN l) (hl : ∀ d, d ∈ l → c < d.Time) (p : Pl → Bool) :
  W (wt p (refM n (A.filter (aft (c - backF n))) (PL.cons (B.filter (aft (c - backF n)) ++ l))) - wt p (refM n (A.filter (aft (c - backF n))) (B.filter (aft (c - backF n))))) = W (wt p (refM n A (PL.cons (B ++ l))) - wt p (refM n A B)) := by
 have hbk := backF_in hN
 by_cases h6 : n.Op = 6
 ·rw [diff1 h6, diff1 h6]
  congr 1
  refine wc_congr fun d hd => ?_
  unfold cR1
  have hb := back_6 h6
  have ht : c < (pl d).1 := hl d hd
  rw [joinA_near (n := n) (i := 1) (a := ⟨(pl d).1, (pl d).2, 1⟩) (R := ofK n 0 (keyB n 1 (pl d).2) (A.filter (aft (c - backF n)))) (R' := ofK n 0 (keyB n 1 (pl d).2) A) (by
   rw [if_pos rfl, if_pos rfl]
   exact near_aft (show c - backF n < (pl d).1 - n.After by omega))]
 ·have hal : ∀ d, d ∈ l → aft (c - backF n) d = true := fun d hd => decT (by have := hl d hd; omega)
  rw [diffA, diffA]
  congr 1
  have e : ∀ (X Y : List GDelta) (a : GDelta), rowA n X a = asofA n X a := fun X Y a => by unfold rowA; rw [if_neg h6]
  have hb := back_7 h6
  have zero : ∀ (B' : List GDelta), Can B' → ∀ a : GDelta, a.Time ≤ c → wt p (rowA n (ofK n 1 (kd n 0 a) (PL.cons (B' ++ l))) a) - wt p (rowA n (ofK n 1 (kd n 0 a) B') a) = 0 := by
   intro B' hB' a ha
   rw [e _ [] a, e _ [] a, asofA_near (near_off hB' hlN fun d hd => by have := hl d hd; omega)]
   omega
  rw [sumD_filter (f := fun a => wt p (rowA n (ofK n 1 (kd n 0 a) (PL.cons (B ++ l))) a) - wt p (rowA n (ofK n 1 (kd n 0 a) B) a)) (aft (c - backF n)) fun a _ hq => zero B hB a (by have := of_decide_eq_false hq; omega)]
  refine sumD_congr fun a ha => ?_
  by_cases hac : a.Time ≤ c
  ·rw [zero B hB a hac, zero _ (hB.filter _) a hac]
  ·rw [filt_push hB hlN hal, rowA_aft (c := c) (a := a) (by omega), rowA_aft (c := c) (a := a) (by omega)]
theorem forget {n : GNode} (hN : okNode n) {A B l : List GDelta} {c i : Int} (hi : i = 0 ∨ i = 1) (hB : Can B) (hlN : okN l) (hl : ∀ d, d ∈ l → c < d.Time) (p : Pl → Bool) :
  W (wt p (refM n (if i = 0 then PL.cons (two i (A.filter (aft (c - backF n))) (B.filter (aft (c - backF n))) ++ l) else A.filter (aft (c - backF n))) (if i = 0 then B.filter (aft (c - backF n)) else PL.cons (two i (A.filter (aft (c - backF n))) (B.filter (aft (c - backF n))) ++ l))) -
    wt p (refM n (A.filter (aft (c - backF n))) (B.filter (aft (c - backF n))))) =
   W (wt p (refM n (if i = 0 then PL.cons (two i A B ++ l) else A) (if i = 0 then B else PL.cons (two i A B ++ l))) - wt p (refM n A B)) := by
 rcases hi with rfl | rfl
 ·rw [if_pos rfl, if_pos rfl, if_pos rfl, if_pos rfl]
  exact forget0 hl p
 ·rw [if_neg (by decide), if_neg (by decide), if_neg (by decide), if_neg (by decide)]
  exact forget1 hN hB hlN hl p
end Go.PL
namespace Go.PL
open Go
set_option linter.unusedVariables false
set_option maxRecDepth 20000
theorem fixN_congr {P : Program} {A R : Type} {C C' : A → Option R → Prop} (c0 : ∀ a, C a none) (c0' : ∀ a, C' a none)
  (B : {f : A → Option R // ∀ a, C a (f a)} → A → Tr P R) (B' : {f : A → Option R // ∀ a, C' a (f a)} → A → Tr P R) (ok : ∀ f a, C a (B f a).den) (ok' : ∀ f a, C' a (B' f a).den)
  (h : ∀ f g, f.1 = g.1 → ∀ a, (B f a).den = (B' g a).den) : ∀ n, (fixN c0 B ok n).1 = (fixN c0' B' ok' n).1
 | 0 => rfl
 | n + 1 => funext fun a => h _ _ (fixN_congr c0 c0' B B' ok ok' h n) a
theorem fixF_congr {P : Program} {A R : Type} {C C' : A → Option R → Prop} (c0 : ∀ a, C a none) (c0' : ∀ a, C' a none)
  (B : {f : A → Option R // ∀ a, C a (f a)} → A → Tr P R) (B' : {f : A → Option R // ∀ a, C' a (f a)} → A → Tr P R) (ok : ∀ f a, C a (B f a).den) (ok' : ∀ f a, C' a (B' f a).den)
  (h : ∀ f g, f.1 = g.1 → ∀ a, (B f a).den = (B' g a).den) (a : A) : fixF c0 B ok a = fixF c0' B' ok' a := by
 unfold fixF
 simp only [fixN_congr c0 c0' B B' ok ok' h]
theorem G373_61 : G373 = G61 := rfl
theorem d176_1 (a1 a2 v2 : Int) (s : List GDelta × Int) : (T176s3_L1 a1 a2 v2 s).den = (T176s1_L1 a1 a2 v2 s).den := by
 obtain ⟨x, y⟩ := s
 unfold T176s3_L1 T176s1_L1
 simp only [Tr.den, G373_61]
theorem d176_0 (a1 a2 : Int) (s : List GDelta × Int) : (T176s3_L0 a1 a2 s).den = (T176s1_L0 a1 a2 s).den := by
 obtain ⟨x, y⟩ := s
 unfold T176s3_L0 T176s1_L0
 simp only [Tr.den, d176_1]
theorem G176_31 (a1 a2 : Int) (l : List GDelta) : G176s3 a1 a2 l = G176s1 a1 a2 l := by
 unfold G176s3 G176s1 T176s3 T176s1
 simp only [Tr.den, d176_0]
theorem d211_0 (a1 a2 a3 : Int) (s : List GDelta × Int) : (T211s1_L0 a1 a2 a3 s).den = (T211s0_L0 a1 a2 a3 s).den := by
 obtain ⟨x, y⟩ := s
 unfold T211s1_L0 T211s0_L0
 simp only [Tr.den]
theorem G211_10 (a1 a2 a3 : Int) (l : List GDelta) : G211s1 a1 a2 a3 l = G211s0 a1 a2 a3 l := by
 unfold G211s1 G211s0 T211s1 T211s0
 simp only [Tr.den, d211_0]
theorem d195_0 (a2 : Int) (s : List GDelta × Int × Int) : (T195s1_L0 a2 s).den = (T195s0_L0 a2 s).den := by
 obtain ⟨x, y, z⟩ := s
 unfold T195s1_L0 T195s0_L0
 simp only [Tr.den, G211_10]
theorem G195_10 (a1 a2 a3 : Int) (l : List GDelta) : G195s1 a1 a2 a3 l = G195s0 a1 a2 a3 l := by
 unfold G195s1 G195s0 T195s1 T195s0
 simp only [Tr.den, d195_0, G211_10]
theorem d177_0 (a1 : Int) (l : List GDelta) (s : Int × Int) : (T177s1_L0 a1 l s).den = (T177s0_L0 a1 l s).den := by
 obtain ⟨x, y⟩ := s
 unfold T177s1_L0 T177s0_L0
 simp only [Tr.den, G373_61]
theorem d177_1 (b : Int) (s : List GDelta × Int) : (T177s1_L1 b s).den = (T177s0_L1 b s).den := by
 obtain ⟨x, y⟩ := s
 unfold T177s1_L1 T177s0_L1
 simp only [Tr.den]
theorem d177_2 (a2 : Int) (l : List GDelta) (s : Int × Int) : (T177s1_L2 a2 l s).den = (T177s0_L2 a2 l s).den := by
 obtain ⟨x, y⟩ := s
 unfold T177s1_L2 T177s0_L2
 simp only [Tr.den, G373_61]
theorem d177_3 (b : Int) (s : List GDelta × Int) : (T177s1_L3 b s).den = (T177s0_L3 b s).den := by
 obtain ⟨x, y⟩ := s
 unfold T177s1_L3 T177s0_L3
 simp only [Tr.den]
theorem d177_4 (a1 a2 a3 : Int) (l : List GDelta) (s : Int × Int) : (T177s1_L4 a1 a2 a3 l s).den = (T177s0_L4 a1 a2 a3 l s).den := by
 obtain ⟨x, y⟩ := s
 unfold T177s1_L4 T177s0_L4
 simp only [Tr.den, G373_61]
theorem G177_10 (a1 a2 a3 : Int) (l : List GDelta) : G177s1 a1 a2 a3 l = G177s0 a1 a2 a3 l := by
 unfold G177s1 G177s0 H177s1 H177s0
 refine fixF_congr _ _ _ _ _ _ (fun f g hfg a => ?_) _
 unfold T177s1 T177s0
 simp only [Tr.den, d177_0, d177_1, d177_2, d177_3, d177_4, G195_10, hfg]
theorem d133_0 (a1 : Int) (s : List GDelta × Int × Int) : (T133s3_L0 a1 s).den = (T133s1_L0 a1 s).den := by
 obtain ⟨x, y, z⟩ := s
 unfold T133s3_L0 T133s1_L0
 simp only [Tr.den, G176_31]
theorem d133_2 (a1 v9 : Int) (s : List GDelta × Int × Int) : (T133s3_L2 a1 v9 s).den = (T133s1_L2 a1 v9 s).den := by
 obtain ⟨x, y, z⟩ := s
 unfold T133s3_L2 T133s1_L2
 simp only [Tr.den, G177_10]
theorem d133_1 (a1 : Int) (s : List GDelta × Int) : (T133s3_L1 a1 s).den = (T133s1_L1 a1 s).den := by
 obtain ⟨x, y⟩ := s
 unfold T133s3_L1 T133s1_L1
 simp only [Tr.den, d133_2, G177_10]
theorem G63_31 (l : List GDelta) : G63s3 l = G63s1 l := by
 unfold G63s3 G63s1 T63s3 T63s1 G133s3 G133s1 T133s3 T133s1
 simp only [Tr.den, d133_0, d133_1, G176_31]
def nz (d : GDelta) : Bool := !(d.N == 0)
theorem G374_eq (d : GDelta) : G374 d = some (!nz d) := by
 unfold G374 T374 nz
 simp only [Tr.den, Bool.not_not]
theorem G105s2_sp (l : List GDelta) (hn : l.length ≤ 1000000000000) :
  Sp (G105s2 l) (fun r => (r = -1 ∧ ∀ x, x ∈ l → nz x = true) ∨ ∃ k : Nat, r = k ∧ k < l.length ∧ (∀ x, x ∈ l.take k → nz x = true) ∧ nz (l.getD k default) = false) := by
 unfold G105s2 T105s2
 simp only [Tr.den, sq_bind]
 refine Sq.while (fun s : Int => ∃ k : Nat, s = k ∧ k ≤ l.length ∧ ∀ x, x ∈ l.take k → nz x = true) (fun s => (l.length - s).toNat) (fun s hs => ?_) ⟨0, rfl, by omega, by simp⟩
 obtain ⟨k, rfl, h1, h2⟩ := hs
 unfold T105s2_L0
 simp only [Tr.den, Int.toNat_natCast]
 by_cases hk : k < l.length
 ·rw [if_pos (decT (by omega)), if_pos (by omega), if_pos hk, G374_eq]
  simp only [Option.bind_some]
  cases ha : nz (l.getD k default) with
  | true =>
   rw [if_neg (by simp), wrap_inc (by omega)]
   refine sq_some.2 ⟨⟨k + 1, rfl, by omega, fun x hx => ?_⟩, by omega⟩
   rw [take_succ_getD hk, List.mem_append, List.mem_singleton] at hx
   rcases hx with hx | rfl
   ·exact h2 x hx
   ·exact ha
  | false =>
   rw [if_pos (by simp)]
   exact sq_some.2 (sq_some.2 (.inr ⟨k, rfl, hk, h2, ha⟩))
 ·rw [if_neg (decF (by omega))]
  refine sq_some.2 (sq_some.2 (.inl ⟨rfl, ?_⟩))
  rwa [List.take_of_length_le (by omega)] at h2
theorem G41s4_sp (l : List GDelta) (hn : l.length ≤ 1000000000000) : Sp (G41s4 l) (fun d => d = l.filter nz) := by
 unfold G41s4 T41s4
 simp only [Tr.den]
 refine Sq.bind _ (G105s2_sp l hn) (fun r hr => ?_)
 rcases hr with ⟨rfl, h⟩ | ⟨k, rfl, h1, h2, h3⟩
 ·rw [if_pos (beqT rfl)]
  refine sq_some.2 ?_
  exact (List.filter_eq_self.2 h).symm
 ·rw [if_neg (beqF (by omega)), wrap_inc (by omega)]
  simp only [sq_bind]
  refine Sq.while (fun s : List GDelta × Int × Int => ∃ i j : Nat, s.2.1 = i ∧ s.2.2 = j ∧ i < j ∧ j ≤ l.length ∧ s.1.length = l.length ∧ s.1.take i = (l.take j).filter nz ∧ s.1.drop j = l.drop j) (fun s => (l.length - s.2.2).toNat) (fun s hs => ?_)
   ⟨k, k + 1, rfl, rfl, by omega, by omega, rfl, ?_, rfl⟩
  ·obtain ⟨d, i, j⟩ := s
   obtain ⟨i, j, e1, e2, q1, q2, q3, q4, q5⟩ := hs
   simp only at e1 e2 q3 q4 q5
   subst e1 e2
   unfold T41s4_L0
   simp only [Tr.den, Int.toNat_natCast]
   by_cases hj : j < l.length
   ·have gj : d.getD j default = l.getD j default := by
     have := congrArg (fun x : List GDelta => x.getD 0 default) q5
     rw [drop_getD (show j < d.length by omega), drop_getD hj] at this
     simpa using this
    rw [if_pos (decT (by omega)), if_pos (by omega), if_pos (by omega), gj, G374_eq]
    simp only [Option.bind_some, Bool.not_not]
    cases ha : nz (l.getD j default) with
    | true =>
     rw [if_pos rfl, if_pos (by omega), if_pos (by omega)]
     refine sq_bind.2 (sq_grd (by simp; omega) (sq_some.2 ?_))
     rw [wrap_inc (by omega), wrap_inc (by omega)]
     refine sq_some.2 ⟨⟨i + 1, j + 1, rfl, rfl, by omega, by omega, by simp; omega, ?_, ?_⟩, by simp only; omega⟩
     ·rw [take_succ_getD (show i < (d.set i (l.getD j default)).length by simp; omega), take_succ_getD hj, List.filter_append, getD_set, if_pos ⟨rfl, by omega⟩]
      rw [List.take_set_of_le (Nat.le_refl i), q4, List.filter_cons_of_pos ha, List.filter_nil]
     ·rw [List.drop_set_of_lt (by omega)]
      have := congrArg (List.drop 1) q5
      rw [List.drop_drop, List.drop_drop] at this
      exact this
    | false =>
     rw [if_neg (by simp)]
     simp only [Option.bind_some]
     rw [wrap_inc (by omega)]
     refine sq_some.2 ⟨⟨i, j + 1, rfl, rfl, by omega, by omega, q3, ?_, ?_⟩, by simp only; omega⟩
     ·rw [take_succ_getD hj, List.filter_append, q4, List.filter_cons_of_neg (by rw [ha]; simp), List.filter_nil, List.append_nil]
     ·have := congrArg (List.drop 1) q5
      rw [List.drop_drop, List.drop_drop] at this
      exact this
   ·rw [if_neg (decF (by omega))]
    refine sq_some.2 ?_
    simp only [sel, Int.toNat_natCast]
    have e : (d.take i ++ List.replicate (d.length - i) default).take i = d.take i := by
     rw [List.take_append_of_le_length (by simp; omega), List.take_take, Nat.min_self]
    rw [if_pos (by omega), if_pos (by simp; omega), e, q4, List.take_of_length_le (by omega)]
    exact sq_some.2 rfl
  ·rw [take_succ_getD h1, List.filter_append, List.filter_eq_self.2 h2, List.filter_cons_of_neg (by rw [h3]; simp), List.filter_nil, List.append_nil]
structure SumI (d out : List GDelta) (k : Nat) : Prop where
 lt : out.Pairwise (fun x y => cmpD x y < 0)
 n64 : ∀ x, x ∈ out → in64 x.N
 ok : okRs out
 len : out.length ≤ k
 last : 0 < k → out ≠ [] ∧ pl (out.getD (out.length - 1) default) = pl (d.getD (k - 1) default)
 wt : ∀ p, W (wt p out) = W (wt p (d.take k))
theorem getD_last {α : Type} [Inhabited α] {l : List α} (h : l ≠ []) : ∃ r x, l = r ++ [x] ∧ l.getD (l.length - 1) default = x ∧ r.length = l.length - 1 := by
 refine ⟨l.dropLast, l.getLast h, (List.dropLast_concat_getLast h).symm, ?_, by simp⟩
 have h0 : 0 < l.length := List.length_pos_iff.2 h
 rw [getD_lt (by omega), List.getLast_eq_getElem]
theorem nz_can {out : List GDelta} (h1 : out.Pairwise (fun x y => cmpD x y < 0)) (h2 : ∀ x, x ∈ out → in64 x.N) : Can (out.filter nz) where
 lt := List.Pairwise.sublist List.filter_sublist h1
 nz := fun x hx => by
  have := (List.mem_filter.1 hx).2
  unfold nz at this
  intro h0
  rw [h0] at this
  cases this
 n64 := fun x hx => h2 x (List.mem_filter.1 hx).1
theorem nz_wt (p : Pl → Bool) : ∀ l : List GDelta, wt p (l.filter nz) = wt p l
 | [] => rfl
 | x :: l => by
  have ih := nz_wt p l
  by_cases h : x.N = 0
  ·rw [List.filter_cons_of_neg (by unfold nz; rw [h]; simp), ih]
   simp only [wt, h]
   split <;> omega
  ·rw [List.filter_cons_of_pos (by unfold nz; rw [Bool.not_eq_true']; exact Bool.eq_false_iff.2 (beqF h))]
   simp only [wt, ih]
theorem sumStep {d out : List GDelta} {k : Nat} (hk : k < d.length) (hs : Srt d) (ho : okRs d) (hN : okN d) (h : SumI d out k) :
  (0 < k → pl (out.getD (out.length - 1) default) = pl (d.getD k default) → SumI d (out.set (out.length - 1) ⟨(out.getD (out.length - 1) default).Time, (out.getD (out.length - 1) default).Row, W ((out.getD (out.length - 1) default).N + (d.getD k default).N)⟩) (k + 1)) ∧
  ((k = 0 ∨ pl (out.getD (out.length - 1) default) ≠ pl (d.getD k default)) → SumI d (out ++ [⟨(d.getD k default).Time, (d.getD k default).Row, (d.getD k default).N⟩]) (k + 1)) := by
 have hmem := getD_mem hk
 constructor
 ·intro h0 he
  obtain ⟨hne, hl⟩ := h.last h0
  obtain ⟨r, x, e1, e2, e3⟩ := getD_last hne
  rw [e2] at he hl ⊢
  have hset : out.set (out.length - 1) ⟨x.Time, x.Row, W (x.N + (d.getD k default).N)⟩ = r ++ [⟨x.Time, x.Row, W (x.N + (d.getD k default).N)⟩] := by
   rw [← e3, e1]
   simp
  have e4 : pl (⟨x.Time, x.Row, W (x.N + (d.getD k default).N)⟩ : GDelta) = pl x := rfl
  have hp := h.lt
  rw [e1] at hp
  obtain ⟨p1, _, p3⟩ := List.pairwise_append.1 hp
  rw [hset]
  have hlen := h.len
  have hrl : r.length + 1 = out.length := by rw [e1]; simp
  refine ⟨List.pairwise_append.2 ⟨p1, List.pairwise_singleton _ _, fun a ha b hb => ?_⟩, fun y hy => ?_, fun y hy => ?_, by simp; omega, fun _ => ⟨by simp, ?_⟩, fun p => ?_⟩
  ·rw [List.mem_singleton.1 hb, cmpD_congr (x' := a) (y' := x) rfl e4]
   exact p3 a ha x (List.mem_singleton.2 rfl)
  ·rcases List.mem_append.1 hy with hy | hy
   ·exact h.n64 y (by rw [e1]; exact List.mem_append_left _ hy)
   ·rw [List.mem_singleton.1 hy]; exact W_in _
  ·rcases List.mem_append.1 hy with hy | hy
   ·exact h.ok y (by rw [e1]; exact List.mem_append_left _ hy)
   ·rw [List.mem_singleton.1 hy]; exact h.ok x (by rw [e1]; simp)
  ·rw [getD_app, if_neg (by simp)]
   simp only [List.length_append, List.length_singleton, Nat.add_sub_cancel, Nat.sub_self]
   exact e4.trans he
  ·have hw := h.wt p
   rw [e1, wt_app] at hw
   rw [wt_app, take_succ_getD hk, wt_app]
   have hw' : W (wt p r + wt p [x] + wt p [d.getD k default]) = W (wt p (d.take k) + wt p [d.getD k default]) := W_add hw rfl
   rw [← hw']
   simp only [wt, e4, he]
   split
   ·have := W_add (a := wt p r) (c := wt p r) (b := W (x.N + (d.getD k default).N)) (d := x.N + (d.getD k default).N) rfl (W_W _)
    rw [Int.add_zero, this]
    congr 1; omega
   ·congr 1; omega
 ·intro hc
  have hgt : ∀ a, a ∈ out → cmpD a (d.getD k default) < 0 := by
   intro a ha
   have hk0 : 0 < k := by
    refine Nat.pos_of_ne_zero fun h0 => ?_
    have := h.len
    have : out = [] := List.eq_nil_of_length_eq_zero (by omega)
    rw [this] at ha; cases ha
   obtain ⟨hne, hl⟩ := h.last hk0
   have hc' := hc.resolve_left (by omega)
   obtain ⟨r, x, e1, e2, e3⟩ := getD_last hne
   rw [e2] at hl hc'
   have hx : cmpD x (d.getD k default) < 0 := by
    have hle := hs.get (i := k - 1) (j := k) (by omega) hk
    have h1 : ¬ cmpD (d.getD k default) x < 0 := by
     rw [cmpD_congr (x' := d.getD k default) (y' := d.getD (k - 1) default) rfl hl]
     exact ltD_false hle
    have h2 : cmpD x (d.getD k default) ≠ 0 := fun h0 => hc' (cmpD_zero.1 h0)
    have h3 : ¬ 0 < cmpD x (d.getD k default) := fun h0 => h1 (cmpD_gt.1 h0)
    omega
   rw [e1] at ha
   rcases List.mem_append.1 ha with ha | ha
   ·have hp := h.lt
    rw [e1] at hp
    exact TO.place.tr (pl a) (pl x) (pl _) ((List.pairwise_append.1 hp).2.2 a ha x (List.mem_singleton.2 rfl)) hx
   ·rw [List.mem_singleton.1 ha]; exact hx
  have hlen := h.len
  refine ⟨List.pairwise_append.2 ⟨h.lt, List.pairwise_singleton _ _, fun a ha b hb => ?_⟩, fun y hy => ?_, fun y hy => ?_, by simp; omega, fun _ => ⟨by simp, ?_⟩, fun p => ?_⟩
  ·rw [List.mem_singleton.1 hb]; exact hgt a ha
  ·rcases List.mem_append.1 hy with hy | hy
   ·exact h.n64 y hy
   ·rw [List.mem_singleton.1 hy]; exact hN _ hmem
  ·rcases List.mem_append.1 hy with hy | hy
   ·exact h.ok y hy
   ·rw [List.mem_singleton.1 hy]; exact ho _ hmem
  ·rw [getD_app, if_neg (by simp)]
   simp only [List.length_append, List.length_singleton, Nat.add_sub_cancel, Nat.sub_self]
   rfl
  ·rw [wt_app, take_succ_getD hk, wt_app]
   exact W_add (h.wt p) rfl
theorem loop353 (l d : List GDelta) (hd : d.Perm l) (hs : Srt d) (ho : okRs l) (hN : okN l) (hn : l.length ≤ 1000000000000) :
  Sp (whileM (fun s => (T353_L0 d s).den) (([] : List GDelta), d, 0)) (sel (fun r => SumI d r d.length) (fun _ => False)) := by
 have ho' : okRs d := fun x hx => ho x (hd.mem_iff.1 hx)
 have hN' : okN d := fun x hx => hN x (hd.mem_iff.1 hx)
 have hlen := hd.length_eq
 refine sq_count (fun s : List GDelta × List GDelta × Int => s.2.2) d.length (by omega) (fun s => s.2.1 = d ∧ SumI d s.1 s.2.2.toNat) (fun s k hI hk hkN => ?_) ⟨rfl, ⟨List.Pairwise.nil, (fun x h => by simp at h), (fun x h => by simp at h), Nat.le_refl _, fun h => absurd h (Nat.lt_irrefl 0), fun p => rfl⟩⟩ rfl
 obtain ⟨out, v, i⟩ := s
 obtain ⟨h1, h2⟩ := hI
 simp only at hk h1 h2
 subst hk h1
 rw [Int.toNat_natCast] at h2
 unfold T353_L0
 simp only [Tr.den, Int.toNat_natCast]
 by_cases hcnt : k < v.length
 ·obtain ⟨q1, q2⟩ := sumStep hcnt hs ho' hN' h2
  have hol := h2.len
  have hmem := getD_mem hcnt
  rw [if_pos (decT (by omega)), if_pos (by omega), if_pos hcnt]
  have fin : ∀ o : List GDelta, SumI v o (k + 1) → Sp (some (Sum.inl (o, v, IntKind.i64.wrap ((k : Int) + 1))) : Option ((List GDelta × List GDelta × Int) ⊕ (List GDelta ⊕ List GDelta)))
    (sel (fun s' : List GDelta × List GDelta × Int => s'.2.2 = IntKind.i64.wrap ((k : Int) + 1) ∧ k < v.length ∧ s'.2.1 = v ∧ SumI v s'.1 s'.2.2.toNat) (sel (fun r => SumI v r v.length) (fun _ : List GDelta => False))) := by
   intro o ho
   refine sq_some.2 ⟨rfl, hcnt, rfl, ?_⟩
   simp only
   rw [show (IntKind.i64.wrap ((k : Int) + 1)).toNat = k + 1 by rw [wrap_inc (by omega), Int.toNat_natCast]]
   exact ho
  have app : (k = 0 ∨ pl (out.getD (out.length - 1) default) ≠ pl (v.getD k default)) →
    Sp (((G64s0 (v.getD k default).Row).bind fun r13 => if (out.length + ([(⟨(v.getD k default).Time, r13, (v.getD k default).N⟩ : GDelta)] : List GDelta).length) * 40 ≤ 140737488355328 then some (out ++ [⟨(v.getD k default).Time, r13, (v.getD k default).N⟩], v) else none).bind fun r => some (Sum.inl (r.1, r.2, IntKind.i64.wrap ((k : Int) + 1))) : Option ((List GDelta × List GDelta × Int) ⊕ (List GDelta ⊕ List GDelta)))
     (sel (fun s' : List GDelta × List GDelta × Int => s'.2.2 = IntKind.i64.wrap ((k : Int) + 1) ∧ k < v.length ∧ s'.2.1 = v ∧ SumI v s'.1 s'.2.2.toNat) (sel (fun r => SumI v r v.length) (fun _ : List GDelta => False))) := by
   intro hc
   rw [G64s0_eq _ (by have := ho' _ hmem; unfold okR at this; omega)]
   simp only [Option.bind_some, List.length_singleton]
   rw [if_pos (by omega)]
   exact fin _ (q2 hc)
  by_cases hk0 : k = 0
  ·have hout : out = [] := List.eq_nil_of_length_eq_zero (by omega)
   rw [if_neg (decF (by rw [hout]; simp))]
   simp only [Option.bind_some, Bool.false_eq_true, if_false]
   exact app (.inl hk0)
  ·obtain ⟨hne, hl⟩ := h2.last (by omega)
   have hpos := List.length_pos_iff.2 hne
   have e1 : IntKind.i64.wrap ((out.length : Int) - 1) = ((out.length - 1 : Nat) : Int) := by
    have := wrap_sub (n := out.length) (m := 1) (by omega) (by omega)
    simpa using this
   rw [e1]
   simp only [Int.toNat_natCast]
   rw [if_pos (decT (by omega)), if_pos (by omega), if_pos (by omega), G373_61, G61_eq _ _ (h2.ok _ (getD_mem (by omega))) (ho' _ hmem)]
   simp only [Option.bind_some]
   by_cases he : pl (out.getD (out.length - 1) default) = pl (v.getD k default)
   ·rw [if_pos (beqT (cmpD_zero.2 he)), if_pos (by omega), if_pos (by omega), if_pos (by omega), if_pos (by omega)]
    rw [if_pos (by simp; omega)]
    simp only [Option.bind_some]
    exact fin _ (q1 (by omega) he)
   ·rw [if_neg (beqF fun h0 => he (cmpD_zero.1 h0))]
    exact app (.inr he)
 ·rw [if_neg (decF (by omega))]
  refine sq_some.2 ?_
  have : k = v.length := by omega
  subst this
  exact h2
theorem G353_eq (l : List GDelta) (ho : okRs l) (hN : okN l) (hn : l.length ≤ 1000000000000) : G353 l = some (PL.cons l) := by
 refine Sp.eq ?_
 unfold G353 T353
 simp only [Tr.den]
 rw [G42s0_eq l hn]
 simp only [Option.bind_some]
 rw [G63_31]
 refine Sq.bind _ (G63s1_sp l ho (by omega)) (fun d hd => ?_)
 refine Sq.bind _ (loop353 l d hd.1 hd.2 ho hN hn) (fun z hz => ?_)
 cases z with
 | inr z => exact hz.elim
 | inl z =>
  have hz' : SumI d z d.length := hz
  have h1 := hz'.len
  have h2 := hd.1.length_eq
  simp only [sel]
  refine Sq.bind _ (G41s4_sp z (by omega)) (fun r hr => ?_)
  subst hr
  refine sq_some.2 (cons_eq (nz_can hz'.lt hz'.n64) hN fun p => ?_).symm
  rw [nz_wt, hz'.wt p, List.take_length, wt_perm p hd.1]
end Go.PL
namespace Go.PL
open Go
set_option linter.unusedVariables false
set_option maxRecDepth 20000
theorem G365_eq (row : List GValue) (cols : List Int) (hc : okCols cols row) (hl : cols.length ≤ 1000) : G365 row cols = some (cols.map fun c => row.getD c.toNat default) := by
 have w : IntKind.i64.wrap ((cols.length : Int) + 2) = ((cols.length + 2 : Nat) : Int) := wrap_id (by omega) (by omega)
 unfold G365 T365
 simp only [Tr.den]
 rw [w, Int.toNat_natCast, if_pos (by omega)]
 have h1 := while_trace (bd := fun s => (T365_L0 row cols s).den) (fun k => ((cols.take k).map fun c => row.getD c.toNat default, (k : Int))) cols.length (r := .inl (cols.map fun c => row.getD c.toNat default)) (fun k hk => ?_) ?_
 ·refine (congrArg (fun x => Option.bind x _) h1).trans ?_
  rfl
 ·unfold T365_L0
  simp only [Tr.den, Int.toNat_natCast]
  have h2 := hc _ (getD_mem hk)
  rw [if_pos (decT (by omega)), if_pos (by omega), if_pos h2, if_pos (by simp; omega), wrap_inc (by omega), take_succ_getD hk, List.map_append]
  rfl
 ·unfold T365_L0
  simp only [Tr.den]
  rw [if_neg (decF (by omega)), List.take_length]
theorem G365_key {n : GNode} {i : Int} {row : List GValue} (hv : okVs row) (hc : okCols (colsOf n i) row) (hl : (colsOf n i).length ≤ 1000) : (G365 row (colsOf n i)).bind G120 = some (keyB n i row) := by
 rw [G365_eq row _ hc hl, Option.bind_some, G120_eq _ (fun v hv' => by
  obtain ⟨c, _, rfl⟩ := List.mem_map.1 hv'
  exact hv.get _) (by rw [List.length_map]; exact hl)]
 rfl
theorem G368s0_eq (n : GNode) (l : List GDelta) (hk : okI n 1 l) (hc : (colsOf n 1).length ≤ 1000) (hn : l.length ≤ 1000000000000) : G368s0 l n.Key2 = some (groupM n 1 l) := by
 unfold G368s0 T368s0
 simp only [Tr.den]
 have h1 := while_trace (bd := fun s => (T368s0_L0 l n.Key2 s).den) (fun k => (groupM n 1 (l.take k), (k : Int))) l.length (r := .inl (groupM n 1 l)) (fun k hk' => ?_) ?_
 ·refine (congrArg (fun x => Option.bind x _) h1).trans ?_
  rfl
 ·unfold T368s0_L0
  simp only [Tr.den, Int.toNat_natCast]
  have hm := getD_mem hk'
  have hkey := G365_key (n := n) (i := 1) (hk.v _ hm) (hk.c _ hm) hc
  rw [if_pos (decT (by omega)), if_pos (by omega), ← Option.bind_assoc, show n.Key2 = colsOf n 1 from rfl]
  refine (congrArg (fun x => Option.bind x _) hkey).trans ?_
  simp only [Option.bind_some]
  have h2 := ofK_len n 1 (keyB n 1 (l.getD k default).Row) (l.take k)
  simp only [List.length_take] at h2
  rw [if_pos (by rw [groupM_get]; simp only [List.length_cons, List.length_nil]; omega), wrap_inc (by omega)]
  congr 3
  unfold groupM
  rw [take_succ_getD hk', List.foldl_append]
  rfl
 ·unfold T368s0_L0
  simp only [Tr.den]
  rw [if_neg (decF (by omega)), List.take_length]
theorem G369_eq (a b : GDelta) (t n : Int) (ha : a.Row.length ≤ 1000) (hb : b.Row.length ≤ 1000) : G369 a b t n = some (pairF a b t n) := by
 unfold G369 T369
 simp only [Tr.den]
 rw [G193_eq [a.Row, b.Row] (by simp; omega) (by simp)]
 simp [pairF]
theorem joinP_0 (a b : GDelta) : joinP 0 a b = pairF a b (if b.Time > a.Time then b.Time else a.Time) (W (a.N * b.N)) := by
 unfold joinP
 rw [if_neg (by decide)]
theorem nearF_step {l : List GDelta} {p : Nat} (hp : p < l.length) (a b : Int) : nearF (l.take (p + 1)) a b = nearF (l.take p) a b ++ (if (decide (a ≤ (l.getD p default).Time) && decide ((l.getD p default).Time ≤ b)) = true then [l.getD p default] else []) := by
 unfold nearF
 rw [take_succ_getD hp, List.filter_append, List.filter_cons, List.filter_nil]
theorem G349_eq {n : GNode} {A B : List GDelta} (hN : okNode n) (h6 : n.Op = 6) (hB : okB n) (hA : okI n 0 A) (hBB : okI n 1 B) (lA : A.length ≤ 100000) (lB : B.length ≤ 100000) : G349 n A B = some (refM n A B) := by
 have hb := hB.b
 have ha := hB.a
 have tA := hA.tm
 have tB := hBB.tm
 have wA := hA.w
 have wB := hBB.w
 have len0 : ∀ l, (l : List GDelta).length ≤ 100000 → (l.flatMap fun a => rowA n (ofK n 1 (kd n 0 a) B) a).length ≤ 100000 * 100001 := fun l hl =>
  Nat.le_trans (flatMap_len (c := 100001) (fun a => Nat.le_trans (rowA_len _ _ _) (by have := ofK_len n 1 (kd n 0 a) B; omega)) l) (Nat.mul_le_mul hl (Nat.le_refl _))
 unfold G349 T349
 simp only [Tr.den]
 rw [G368s0_eq n B hBB (hN.cols 1) (by omega)]
 simp only [Option.bind_some]
 have h1 := while_trace (bd := fun z => (T349_L0 n A (groupM n 1 B) z).den) (fun q => ((A.take q).flatMap fun a => rowA n (ofK n 1 (kd n 0 a) B) a, (q : Int))) A.length (r := .inl (refM n A B)) (fun q hq => ?_) ?_
 ·refine (congrArg (fun x => Option.bind x _) h1).trans ?_
  rfl
 ·have hm := getD_mem hq
  have tq := tA.get q
  have hl0 := len0 (A.take q) (by rw [List.length_take]; omega)
  have hkey := G365_key (n := n) (i := 0) (hA.v _ hm) (hA.c _ hm) (hN.cols 0)
  unfold T349_L0
  simp only [Tr.den, Int.toNat_natCast]
  rw [if_pos (decT (by omega)), if_pos (by omega), ← Option.bind_assoc, show n.Key = colsOf n 0 from rfl]
  refine (congrArg (fun x => Option.bind x _) hkey).trans ?_
  simp only [Option.bind_some]
  have hmo := groupM_get n 1 (keyB n 0 (A.getD q default).Row) B
  have hcl := ofK_len n 1 (kd n 0 (A.getD q default)) B
  have tc : okTm (ofK n 1 (kd n 0 (A.getD q default)) B) := fun d hd => tB d (List.mem_filter.1 hd).1
  have wc' : okW (ofK n 1 (kd n 0 (A.getD q default)) B) := fun d hd => wB d (List.mem_filter.1 hd).1
  have hrow : rowA n (ofK n 1 (kd n 0 (A.getD q default)) B) (A.getD q default) = joinA n 0 (ofK n 1 (kd n 0 (A.getD q default)) B) (A.getD q default) := by unfold rowA; rw [if_pos h6]
  rw [take_succ_getD hq, List.flatMap_append, List.flatMap_singleton, hrow]
  generalize (A.take q).flatMap (fun a => rowA n (ofK n 1 (kd n 0 a) B) a) = out at *
  change _ = ofK n 1 (kd n 0 (A.getD q default)) B at hmo
  generalize ofK n 1 (kd n 0 (A.getD q default)) B = c at *
  have w1 : IntKind.i64.wrap ((A.getD q default).Time - n.Before) = (A.getD q default).Time - n.Before := wrap_id (by omega) (by omega)
  have w2 : IntKind.i64.wrap ((A.getD q default).Time + n.After) = (A.getD q default).Time + n.After := wrap_id (by omega) (by omega)
  have e0 : joinA n 0 c (A.getD q default) = (nearF c ((A.getD q default).Time - n.Before) ((A.getD q default).Time + n.After)).map (joinP 0 (A.getD q default)) := by
   unfold joinA
   rw [if_neg (by decide), if_neg (by decide)]
  rw [e0]
  have inner : whileM (fun z => (T349_L1 n A (groupM n 1 B) (q : Int) c (c.length : Int) z).den) (out, 0) = some (.inl (out ++ (nearF c ((A.getD q default).Time - n.Before) ((A.getD q default).Time + n.After)).map (joinP 0 (A.getD q default)))) := by
   have h2 := while_trace (bd := fun z => (T349_L1 n A (groupM n 1 B) (q : Int) c (c.length : Int) z).den) (fun p => (out ++ (nearF (c.take p) ((A.getD q default).Time - n.Before) ((A.getD q default).Time + n.After)).map (joinP 0 (A.getD q default)), (p : Int))) c.length (r := .inl (out ++ (nearF c ((A.getD q default).Time - n.Before) ((A.getD q default).Time + n.After)).map (joinP 0 (A.getD q default)))) (fun p hp => ?_) ?_
   ·rw [← h2]; simp [nearF]
   ·have tp := tc.get p
    have f1 := nearF_len (c.take p) ((A.getD q default).Time - n.Before) ((A.getD q default).Time + n.After)
    rw [List.length_take] at f1
    unfold T349_L1
    simp only [Tr.den, Int.toNat_natCast]
    rw [if_pos (decT (by omega)), if_pos (by omega)]
    simp only [w1, w2]
    rw [nearF_step hp, List.map_append, ← List.append_assoc, wrap_inc (by omega)]
    have f2 : (out ++ (nearF (c.take p) ((A.getD q default).Time - n.Before) ((A.getD q default).Time + n.After)).map (joinP 0 (A.getD q default))).length ≤ 100000 * 100001 + 100000 := by
     rw [List.length_append, List.length_map]; omega
    generalize out ++ (nearF (c.take p) ((A.getD q default).Time - n.Before) ((A.getD q default).Time + n.After)).map (joinP 0 (A.getD q default)) = o at *
    by_cases c1 : (A.getD q default).Time - n.Before ≤ (c.getD p default).Time
    ·rw [if_pos (decT c1)]
     simp only [Option.bind_some]
     by_cases c2 : (c.getD p default).Time ≤ (A.getD q default).Time + n.After
     ·rw [decT c1, decT c2]
      simp only [if_true, Bool.and_self]
      rw [G369_eq _ _ _ _ (wA.get q) (wc'.get p)]
      simp only [Option.bind_some, List.length_singleton]
      rw [if_pos (by omega)]
      simp only [Option.bind_some, List.map_cons, List.map_nil]
      rw [joinP_0]
     ·rw [decT c1, decide_eq_false c2]
      simp only [Bool.and_false, Bool.false_eq_true, if_false, Option.bind_some, List.map_nil, List.append_nil]
    ·rw [if_neg (decF c1)]
     simp only [Option.bind_some]
     rw [decide_eq_false c1]
     simp only [Bool.false_and, Bool.false_eq_true, if_false, Option.bind_some, List.map_nil, List.append_nil]
   ·unfold T349_L1
    simp only [Tr.den]
    rw [if_neg (decF (by omega)), List.take_length]
  generalize mlook (groupM n 1 B) (keyB n 0 (A.getD q default).Row) = o at *
  cases o with
  | none =>
   simp only [Option.getD_none] at hmo
   subst hmo
   refine (congrArg (fun x => Option.bind x _) inner).trans ?_
   simp only [Option.bind_some, sel]
   rw [wrap_inc (by omega)]
  | some o =>
   simp only [Option.getD_some] at hmo
   subst hmo
   refine (congrArg (fun x => Option.bind x _) inner).trans ?_
   simp only [Option.bind_some, sel]
   rw [wrap_inc (by omega)]
 ·unfold T349_L0
  simp only [Tr.den]
  rw [if_neg (decF (by omega)), List.take_length]
  rfl
theorem nearF_cut {c : List GDelta} {p : Nat} {lo hi : Int} (hp : p ≤ c.length) (h : ∀ j, p ≤ j → j < c.length → hi < (c.getD j default).Time) : nearF c lo hi = nearF (c.take p) lo hi := by
 have e : nearF (c.drop p) lo hi = [] := by
  unfold nearF
  refine List.filter_eq_nil_iff.2 fun d hd => ?_
  obtain ⟨j, hj, rfl⟩ := List.mem_iff_getElem.1 hd
  have hj' : j < c.length - p := by simpa using hj
  have := h (p + j) (by omega) (by omega)
  rw [getD_lt (by omega)] at this
  rw [List.getElem_drop]
  simp only [Bool.and_eq_true, decide_eq_true_eq]
  omega
 have e2 : nearF c lo hi = nearF (c.take p) lo hi ++ nearF (c.drop p) lo hi := by
  unfold nearF
  rw [← List.filter_append, List.take_append_drop]
 rw [e2, e, List.append_nil]
theorem loop350 (n : GNode) (A : List GDelta) (M : List (ByteArray × List GDelta)) (q : Nat) (hq : q < A.length) (c out : List GDelta) (hK : 1 ≤ n.Keep ∧ n.Keep ≤ 10000) (tq : 0 ≤ (A.getD q default).Time ∧ (A.getD q default).Time ≤ 2199023255552)
  (wq : (A.getD q default).Row.length ≤ 1000) (tc : okTm c) (wc' : okW c) (ts : TS c) (lc : c.length ≤ 100000) (lo : out.length ≤ 1000000) :
  Sp (whileM (fun z => (T350_L1 n A M (q : Int) c z).den) (out, (c.length : Int) - 1)) (fun z => z = .inl (out ++ asofA n c (A.getD q default))) := by
 have w1 : IntKind.i64.wrap ((A.getD q default).Time - n.Keep) = (A.getD q default).Time - n.Keep := wrap_id (by omega) (by omega)
 refine Sq.while (fun s : List GDelta × Int => ∃ p : Nat, s = (out, (p : Int) - 1) ∧ p ≤ c.length ∧ ∀ j, p ≤ j → j < c.length → (A.getD q default).Time < (c.getD j default).Time) (fun s => (s.2 + 1).toNat) (fun s hs => ?_) ⟨c.length, rfl, Nat.le_refl _, fun j h1 h2 => by omega⟩
 obtain ⟨p, rfl, hp, hl⟩ := hs
 unfold T350_L1
 simp only [Tr.den, Int.toNat_natCast]
 by_cases h0 : p = 0
 ·subst h0
  rw [if_neg (decF (by omega))]
  refine sq_some.2 ?_
  have e : asofA n c (A.getD q default) = [] := by
   unfold asofA
   rw [nearF_cut (p := 0) (by omega) hl]
   rfl
  rw [e, List.append_nil]
  rfl
 ·have e1 : ((p : Int) - 1).toNat = p - 1 := by omega
  have hp1 : p - 1 < c.length := by omega
  have tp := tc.get (p - 1)
  rw [if_pos (decT (by omega)), if_pos (by omega), e1]
  by_cases h1 : (c.getD (p - 1) default).Time ≤ (A.getD q default).Time
  ·rw [if_pos (decT h1)]
   have e2 := nearF_cut (lo := (A.getD q default).Time - n.Keep + 1) (hi := (A.getD q default).Time) hp hl
   have e3 := nearF_step hp1 ((A.getD q default).Time - n.Keep + 1) (A.getD q default).Time
   rw [show p - 1 + 1 = p by omega] at e3
   by_cases h2 : (c.getD (p - 1) default).Time > (A.getD q default).Time - n.Keep
   ·rw [if_pos (decT (by omega)), G369_eq _ _ _ _ wq (wc'.get _)]
    simp only [Option.bind_some, List.length_singleton]
    rw [if_pos (by omega)]
    refine sq_some.2 ?_
    rw [if_pos (by rw [decT (show (A.getD q default).Time - n.Keep + 1 ≤ _ by omega), decT h1]; rfl)] at e3
    have e : asofA n c (A.getD q default) = [pairF (A.getD q default) (c.getD (p - 1) default) (A.getD q default).Time (A.getD q default).N] := by
     unfold asofA
     rw [e2, e3, if_neg (by simp)]
     congr 2
     rw [getD_app, if_neg (by simp)]
     simp
    rw [e]
    rfl
   ·rw [if_neg (decF (by omega))]
    refine sq_some.2 ?_
    have e : asofA n c (A.getD q default) = [] := by
     unfold asofA
     rw [if_pos]
     rw [e2]
     unfold nearF
     refine List.filter_eq_nil_iff.2 fun d hd => ?_
     obtain ⟨j, hj, rfl⟩ := List.mem_iff_getElem.1 hd
     have hj' : j < p := by
      have := List.length_take_le p c
      omega
     have := ts.get (i := j) (j := p - 1) (by omega) hp1
     rw [getD_lt (show j < c.length by omega)] at this
     rw [List.getElem_take]
     simp only [Bool.and_eq_true, decide_eq_true_eq]
     omega
    rw [e, List.append_nil]
    rfl
  ·rw [if_neg (decF h1), wrap_id (by omega) (by omega)]
   refine sq_some.2 ⟨⟨p - 1, by rw [show ((p - 1 : Nat) : Int) = (p : Int) - 1 by omega], by omega, fun j q1 q2 => ?_⟩, by simp only; omega⟩
   by_cases hj : j = p - 1
   ·subst hj; omega
   ·exact hl j (by omega) q2
theorem G350_eq {n : GNode} {A B : List GDelta} (hN : okNode n) (h6 : ¬ n.Op = 6) (hK : 1 ≤ n.Keep ∧ n.Keep ≤ 10000) (hA : okI n 0 A) (hBB : okI n 1 B) (tsB : TS B) (lA : A.length ≤ 1000) (lB : B.length ≤ 1000) : G350 n A B = some (refM n A B) := by
 have tA := hA.tm
 have tB := hBB.tm
 have wA := hA.w
 have wB := hBB.w
 have hr : ∀ R a, rowA n R a = asofA n R a := fun R a => by unfold rowA; rw [if_neg h6]
 have len0 : ∀ l, (l : List GDelta).length ≤ 1000 → (l.flatMap fun a => rowA n (ofK n 1 (kd n 0 a) B) a).length ≤ 1000 * 1 := fun l hl =>
  Nat.le_trans (flatMap_len (c := 1) (fun a => by rw [hr]; exact asofA_len _ _ _) l) (Nat.mul_le_mul hl (Nat.le_refl _))
 unfold G350 T350
 simp only [Tr.den]
 rw [G368s0_eq n B hBB (hN.cols 1) (by omega)]
 simp only [Option.bind_some]
 have h1 := while_trace (bd := fun z => (T350_L0 n A (groupM n 1 B) z).den) (fun q => ((A.take q).flatMap fun a => rowA n (ofK n 1 (kd n 0 a) B) a, (q : Int))) A.length (r := .inl (refM n A B)) (fun q hq => ?_) ?_
 ·refine (congrArg (fun x => Option.bind x _) h1).trans ?_
  rfl
 ·have hm := getD_mem hq
  have hl0 := len0 (A.take q) (by rw [List.length_take]; omega)
  have hkey := G365_key (n := n) (i := 0) (hA.v _ hm) (hA.c _ hm) (hN.cols 0)
  unfold T350_L0
  simp only [Tr.den, Int.toNat_natCast]
  rw [if_pos (decT (by omega)), if_pos (by omega), ← Option.bind_assoc, show n.Key = colsOf n 0 from rfl]
  refine (congrArg (fun x => Option.bind x _) hkey).trans ?_
  simp only [Option.bind_some]
  have hmo := groupM_get n 1 (keyB n 0 (A.getD q default).Row) B
  change _ = ofK n 1 (kd n 0 (A.getD q default)) B at hmo
  have hcl := ofK_len n 1 (kd n 0 (A.getD q default)) B
  have tc : okTm (ofK n 1 (kd n 0 (A.getD q default)) B) := fun d hd => tB d (List.mem_filter.1 hd).1
  have wc' : okW (ofK n 1 (kd n 0 (A.getD q default)) B) := fun d hd => wB d (List.mem_filter.1 hd).1
  have ts' : TS (ofK n 1 (kd n 0 (A.getD q default)) B) := List.Pairwise.sublist List.filter_sublist tsB
  rw [take_succ_getD hq, List.flatMap_append, List.flatMap_singleton, hr]
  generalize (A.take q).flatMap (fun a => rowA n (ofK n 1 (kd n 0 a) B) a) = out at *
  generalize ofK n 1 (kd n 0 (A.getD q default)) B = c at *
  have inner := (loop350 n A (groupM n 1 B) q hq c out hK (tA.get q) (wA.get q) tc wc' ts' (by omega) (by omega)).eq
  have wl : IntKind.i64.wrap ((c.length : Int) - 1) = (c.length : Int) - 1 := wrap_id (by omega) (by omega)
  rw [← wl] at inner
  generalize mlook (groupM n 1 B) (keyB n 0 (A.getD q default).Row) = o at *
  cases o with
  | none =>
   simp only [Option.getD_none] at hmo
   subst hmo
   refine (congrArg (fun x => Option.bind x _) inner).trans ?_
   simp only [Option.bind_some, sel]
   rw [wrap_inc (by omega)]
  | some o =>
   simp only [Option.getD_some] at hmo
   subst hmo
   refine (congrArg (fun x => Option.bind x _) inner).trans ?_
   simp only [Option.bind_some, sel]
   rw [wrap_inc (by omega)]
 ·unfold T350_L0
  simp only [Tr.den]
  rw [if_neg (decF (by omega)), List.take_length]
  rfl
theorem G325s2_eq {n : GNode} (hN : okNode n) {A B : List GDelta} (hA : okI n 0 A) (hB : okI n 1 B) (tsB : TS B) (la : A.length ≤ 1000) (lb : B.length ≤ 1000) : G325s2 [] n [A, B] = some (PL.cons (refM n A B)) := by
 have hok := refM_ok hA hB
 have hlen : (refM n A B).length ≤ 1000 * 1001 := Nat.le_trans (refM_len lb) (Nat.mul_le_mul la (Nat.le_refl _))
 unfold G325s2 T325s2
 simp only [Tr.den]
 have g : ∀ (x : Option (List GDelta)), x = some (refM n A B) → (x.bind fun r => G353 r) = some (PL.cons (refM n A B)) := by
  intro x hx
  rw [hx, Option.bind_some, G353_eq _ hok.r hok.n (by omega)]
 rcases hN.op with ⟨h6, hb⟩ | ⟨h7, hk⟩
 ·rw [if_neg (beqF (by omega)), if_neg (beqF (by omega)), if_neg (beqF (by omega)), if_neg (beqF (by omega)), if_neg (beqF (by omega)), if_pos (beqT h6)]
  simp [G349_eq hN h6 hb hA hB (by omega) (by omega)]
  exact G353_eq _ hok.r hok.n (by omega)
 ·rw [if_neg (beqF (by omega)), if_neg (beqF (by omega)), if_neg (beqF (by omega)), if_neg (beqF (by omega)), if_neg (beqF (by omega)), if_neg (beqF (by omega)), if_pos (beqT h7)]
  simp [G350_eq hN (by omega) hk hA hB tsB la lb]
  exact G353_eq _ hok.r hok.n (by omega)
end Go.PL
namespace Go.PL
open Go
set_option linter.unusedVariables false
set_option maxRecDepth 20000
def optM (k : ByteArray) : Option GSide → KS
 | none => []
 | some s => [(k, s)]
theorem group1 {n : GNode} {i : Int} {l : List GDelta} {k : ByteArray} (h : ∀ d, d ∈ l → kd n i d = k) (h0 : l ≠ []) : groupM n i l = [(k, l)] := by
 refine (groupM_mc n i l).ext LO.bytes (List.pairwise_singleton _ _) fun k' => ?_
 rw [groupM_look]
 by_cases hk : k = k'
 ·subst hk
  have : ofK n i k l = l := List.filter_eq_self.2 fun d hd => decT (h d hd)
  rw [this, if_neg h0]; simp [mlook]
 ·have : ofK n i k' l = [] := List.filter_eq_nil_iff.2 fun d hd => decF (by rw [h d hd]; exact hk)
  rw [this, if_pos rfl]; simp [mlook, hk]
theorem ofK1 {n : GNode} {i : Int} {l : List GDelta} {k : ByteArray} (h : ∀ d, d ∈ l → kd n i d = k) : ofK n i k l = l := List.filter_eq_self.2 fun d hd => decT (h d hd)
theorem look1 (k : ByteArray) (o : Option GSide) : mlook (optM k o) k = o := by cases o <;> simp [optM, mlook]
theorem push1 {n : GNode} {i : Int} {l : List GDelta} {k : ByteArray} (h : ∀ d, d ∈ l → kd n i d = k) (h0 : l ≠ []) (o : Option GSide) :
  pushM n i l (optM k o) = optM k (keepS (updS i (o.getD side0) l)) ∧ (mkeys (groupM n i l)).flatMap (pushO n i l (optM k o)) = chgF n i l (o.getD side0) := by
 have hk : mkeys (groupM n i l) = [k] := by rw [group1 h h0]; rfl
 have hn : newS n i l (optM k o) k = keepS (updS i (o.getD side0) l) := by unfold newS; rw [look1, ofK1 h]
 constructor
 ·unfold pushM
  rw [hk]
  simp only [List.foldl_cons, List.foldl_nil, hn]
  cases keepS (updS i (o.getD side0) l) with
  | none => cases o <;> simp [setS, optM, mdel]
  | some s => cases o <;> simp [setS, optM, mput, mdel, mins]
 ·rw [hk]
  simp only [List.flatMap_cons, List.flatMap_nil, List.append_nil]
  unfold pushO
  rw [look1, ofK1 h]
theorem close1 (t : Int) (k : ByteArray) (s : GSide) : closeM t (optM k (some s)) = optM k (keepS (cutS t s)) := by
 have hn : newC t (optM k (some s)) k = keepS (cutS t s) := by unfold newC; rw [look1]; rfl
 unfold closeM
 rw [show mkeys (optM k (some s)) = [k] from rfl]
 simp only [List.foldl_cons, List.foldl_nil, hn]
 cases keepS (cutS t s) with
 | none => simp [setS, optM, mdel]
 | some s => simp [setS, optM, mput, mdel, mins]
def vN : GNode := GNode.mk 6 ([] : List Int) ⟨#[]⟩ 0 ([] : List Expr) 0 0 0 [0] [0] 2 5 0 ([] : List GAgg) ([] : List GPat) ([] : List GCol)
def rowX : List GValue := [GValue.mk 0 7 ⟨#[]⟩]
def atD (t n : Int) : GDelta := ⟨t, rowX, n⟩
theorem vN_ok : okNode vN := ⟨.inl ⟨rfl, ⟨by decide, by decide⟩, ⟨by decide, by decide⟩⟩, by decide, by decide⟩
theorem kX : ∀ i t n, (i = 0 ∨ i = 1) → kd vN i (atD t n) = keyB vN 0 rowX := by
 rintro i t n (rfl | rfl) <;> rfl
theorem okIX (i : Int) (hi : i = 0 ∨ i = 1) (l : List GDelta) (h : ∀ d, d ∈ l → ∃ t n, d = atD t n ∧ 0 ≤ t ∧ t ≤ 100 ∧ -10 ≤ n ∧ n ≤ 10) : okI vN i l := by
 have hv : okVs rowX := fun v hv => by
  rw [List.mem_singleton.1 hv]
  exact ⟨⟨by decide, by decide⟩, ⟨by decide, by decide⟩, by decide⟩
 have hc : okCols (colsOf vN i) rowX := by
  rcases hi with rfl | rfl <;> (intro c hc; rw [List.mem_singleton.1 (show c ∈ [(0 : Int)] from hc)]; decide)
 refine ⟨fun d hd => ?_, fun d hd => ?_, fun d hd => ?_, fun d hd => ?_, fun d hd => ?_⟩ <;> obtain ⟨t, n, rfl, h1, h2, h3, h4⟩ := h d hd
 ·exact hv
 ·exact hc
 ·show rowX.length ≤ 1000
  decide
 ·exact ⟨h1, by show t ≤ _; omega⟩
 ·exact ⟨by show _ ≤ n; omega, by show n ≤ _; omega⟩
theorem okMX (k : ByteArray) (o : Option GSide) (h : ∀ s, o = some s → okSd vN s) : okM vN (optM k o) := by
 refine ⟨by cases o <;> simp [optM, MC], fun k' s hs => ?_⟩
 cases o with
 | none => simp [optM, mlook] at hs
 | some s' =>
  simp only [optM, mlook] at hs
  split at hs
  ·cases hs; exact h _ rfl
  ·cases hs
def x3 : GDelta := atD 3 1
def x3' : GDelta := atD 3 (-1)
def y8 : GDelta := atD 8 1
def y9 : GDelta := atD 9 1
def z8 (n : Int) : GDelta := ⟨8, rowX ++ rowX, n⟩
theorem pushX (i : Int) (hi : i = 0 ∨ i = 1) (l : List GDelta) (h : ∀ d, d ∈ l → ∃ t n, d = atD t n ∧ 0 ≤ t ∧ t ≤ 100 ∧ -10 ≤ n ∧ n ≤ 10) (hc : cons l = l) (h0 : l ≠ []) (hlen : l.length ≤ 1000) (cl : Int) (o : Option GSide) (ho : ∀ s, o = some s → okSd vN s) :
  G25s0 i l vN cl (optM (keyB vN 0 rowX) o) = some (cons (chgF vN i l (o.getD side0)), optM (keyB vN 0 rowX) (keepS (updS i (o.getD side0) l))) := by
 have hk : ∀ d, d ∈ l → kd vN i d = keyB vN 0 rowX := fun d hd => by
  obtain ⟨t, n, rfl, _⟩ := h d hd
  exact kX i t n hi
 rw [G25s0_eq i l vN cl _ hi vN_ok (okIX i hi l h) (okMX _ o ho) hlen (by rw [hc]; exact hlen), hc]
 obtain ⟨e1, e2⟩ := push1 hk h0 o
 rw [e1, e2]
theorem canX : Can [x3] ∧ Can [y8, y9] ∧ Can [y9] := by
 have e1 : cons [x3] = [x3] := by kernel_rfl
 have e2 : cons [y8, y9] = [y8, y9] := by kernel_rfl
 have e3 : cons [y9] = [y9] := by kernel_rfl
 have b : ∀ t : Int, okN [atD t 1] := fun t d hd => by rw [List.mem_singleton.1 hd]; exact ⟨by show _ ≤ (1 : Int); decide, by show (1 : Int) ≤ _; decide⟩
 refine ⟨?_, ?_, ?_⟩
 ·rw [← e1]; exact cons_can (b 3)
 ·rw [← e2]
  refine cons_can fun d hd => ?_
  rcases List.mem_cons.1 hd with rfl | hd
  ·exact b 8 _ (List.mem_singleton.2 rfl)
  ·exact b 9 d hd
 ·rw [← e3]; exact cons_can (b 9)
theorem G31_eq (t n : Int) : G31 t n = some (atD t n) := by unfold G31 T31; simp only [Tr.den]; rfl
theorem inX1 (t n : Int) (h1 : 0 ≤ t) (h2 : t ≤ 100) (h3 : -10 ≤ n) (h4 : n ≤ 10) : ∀ d, d ∈ [atD t n] → ∃ t n, d = atD t n ∧ 0 ≤ t ∧ t ≤ 100 ∧ -10 ≤ n ∧ n ≤ 10 := fun d hd => ⟨t, n, List.mem_singleton.1 hd, h1, h2, h3, h4⟩
theorem inX2 : ∀ d, d ∈ [y8, y9] → ∃ t n, d = atD t n ∧ 0 ≤ t ∧ t ≤ 100 ∧ -10 ≤ n ∧ n ≤ 10 := fun d hd => by
 rcases List.mem_cons.1 hd with rfl | hd
 ·exact ⟨8, 1, rfl, by decide, by decide, by decide, by decide⟩
 ·rw [List.mem_singleton.1 hd]; exact ⟨9, 1, rfl, by decide, by decide, by decide, by decide⟩
theorem okS1 : okSd vN ⟨⟨[x3], []⟩⟩ := ⟨canX.1, .nil, okIX 0 (.inl rfl) _ (inX1 3 1 (by decide) (by decide) (by decide) (by decide)), .nil, by decide, by decide⟩
theorem okS2 : okSd vN ⟨⟨[x3], [y8, y9]⟩⟩ := ⟨canX.1, canX.2.1, okIX 0 (.inl rfl) _ (inX1 3 1 (by decide) (by decide) (by decide) (by decide)), okIX 1 (.inr rfl) _ inX2, by decide, by decide⟩
theorem okS3 : okSd vN ⟨⟨[], [y8, y9]⟩⟩ := ⟨.nil, canX.2.1, .nil, okIX 1 (.inr rfl) _ inX2, by decide, by decide⟩
theorem G7_eq : G7 = some true := by
 have p1 := pushX 0 (.inl rfl) [x3] (inX1 3 1 (by decide) (by decide) (by decide) (by decide)) (by kernel_rfl) (by simp) (by decide) (-1) none (fun _ h => by cases h)
 have p2 := pushX 1 (.inr rfl) [y8, y9] inX2 (by kernel_rfl) (by simp) (by decide) (-1) (some ⟨⟨[x3], []⟩⟩) (fun s h => by cases h; exact okS1)
 have p3 := pushX 0 (.inl rfl) [x3'] (inX1 3 (-1) (by decide) (by decide) (by decide) (by decide)) (by kernel_rfl) (by simp) (by decide) (-1) (some ⟨⟨[x3], [y8, y9]⟩⟩) (fun s h => by cases h; exact okS2)
 have v1 : (cons (chgF vN 0 [x3] ((none : Option GSide).getD side0)), keepS (updS 0 ((none : Option GSide).getD side0) [x3])) = (([], some ⟨⟨[x3], []⟩⟩) : List GDelta × Option GSide) := by kernel_rfl
 have v2 : (cons (chgF vN 1 [y8, y9] ((some (⟨⟨[x3], []⟩⟩ : GSide)).getD side0)), keepS (updS 1 ((some (⟨⟨[x3], []⟩⟩ : GSide)).getD side0) [y8, y9])) = (([z8 1], some ⟨⟨[x3], [y8, y9]⟩⟩) : List GDelta × Option GSide) := by kernel_rfl
 have v3 : (cons (chgF vN 0 [x3'] ((some (⟨⟨[x3], [y8, y9]⟩⟩ : GSide)).getD side0)), keepS (updS 0 ((some (⟨⟨[x3], [y8, y9]⟩⟩ : GSide)).getD side0) [x3'])) = (([z8 (-1)], some ⟨⟨[], [y8, y9]⟩⟩) : List GDelta × Option GSide) := by kernel_rfl
 have v4 : keepS (cutS (13 - backF vN) ⟨⟨[], [y8, y9]⟩⟩) = some ⟨⟨[], [y9]⟩⟩ := by kernel_rfl
 rw [(Prod.mk.inj v1).1, (Prod.mk.inj v1).2] at p1
 rw [(Prod.mk.inj v2).1, (Prod.mk.inj v2).2] at p2
 rw [(Prod.mk.inj v3).1, (Prod.mk.inj v3).2] at p3
 have p4 := G32s0_eq 13 vN (-1) (optM (keyB vN 0 rowX) (some ⟨⟨[], [y8, y9]⟩⟩)) vN_ok (okMX _ _ (fun s h => by cases h; exact okS3)) (by decide) (by decide) (by decide)
 rw [close1, v4] at p4
 have hm5 : okM vN (optM (keyB vN 0 rowX) (some ⟨⟨[], [y9]⟩⟩)) := okMX _ _ fun s h => by
  cases h
  exact ⟨.nil, canX.2.2, .nil, okIX 1 (.inr rfl) _ (inX1 9 1 (by decide) (by decide) (by decide) (by decide)), by decide, by decide⟩
 have p5 := G15s0_eq vN 13 (optM (keyB vN 0 rowX) (some ⟨⟨[], [y9]⟩⟩)) hm5.mc fun k s hs => ⟨by have := (hm5.s k s hs).l0; omega, by have := (hm5.s k s hs).l1; omega⟩
 have v5 : W (sumK (cntK (optM (keyB vN 0 rowX) (some ⟨⟨[], [y9]⟩⟩))) (mkeys (optM (keyB vN 0 rowX) (some ⟨⟨[], [y9]⟩⟩)))) = 1 := by
  rw [show mkeys (optM (keyB vN 0 rowX) (some ⟨⟨[], [y9]⟩⟩)) = [keyB vN 0 rowX] from rfl]
  simp only [sumK, cntK, look1]
  kernel_rfl
 rw [v5] at p5
 have p6 := G16s0_eq vN 13 (optM (keyB vN 0 rowX) (some ⟨⟨[], [y9]⟩⟩))
 have e9 : G9s0 (GNode.mk 6 ([] : List Int) ⟨#[]⟩ 0 ([] : List Expr) 0 0 0 [0] [0] 2 5 0 ([] : List GAgg) ([] : List GPat) ([] : List GCol)) = some (vN, -1, []) := G9s0_eq vN (by decide) (by decide)
 unfold G7 T7
 simp only [Tr.den]
 rw [e9]
 simp only [Option.bind_some, G31_eq]
 rw [show G25s0 0 [atD 3 1] vN (-1) [] = _ from p1]
 simp only [Option.bind_some]
 rw [show G25s0 1 [atD 8 1, atD 9 1] vN (-1) (optM (keyB vN 0 rowX) (some ⟨⟨[x3], []⟩⟩)) = _ from p2]
 simp only [Option.bind_some]
 rw [show G25s0 0 [atD 3 (-1)] vN (-1) (optM (keyB vN 0 rowX) (some ⟨⟨[x3], [y8, y9]⟩⟩)) = _ from p3]
 simp only [Option.bind_some]
 rw [p4]
 simp only [Option.bind_some, Int.toNat_zero]
 rw [p5]
 simp only [Option.bind_some]
 rw [p6]
 rfl
end Go.PL
namespace Go.PL
open Go
set_option linter.unusedVariables false
set_option maxRecDepth 20000
theorem G60_self (x : GDelta) (hx : okR x) : G60 x x = some true := by
 unfold G60 T60
 simp only [Tr.den]
 rw [G61_eq x x hx hx]
 simp only [Option.bind_some]
 rw [if_pos (beqT (cmpD_zero.2 rfl))]
 simp only [Option.bind_some]
 rw [show (x.N == x.N) = true from beqT rfl]
theorem G62s0_self (l : List GDelta) (ho : okRs l) (hn : l.length ≤ 1000000000000) : G62s0 l l = some true := by
 unfold G62s0 T62s0
 simp only [Tr.den]
 rw [if_neg (bneF rfl)]
 have h1 := while_trace (bd := fun s => (T62s0_L0 l l s).den) (fun i => (i : Int)) l.length (r := .inl ()) (fun i hi => ?_) ?_
 ·refine (congrArg (fun x => Option.bind x _) h1).trans ?_
  rfl
 ·unfold T62s0_L0
  simp only [Tr.den, Int.toNat_natCast]
  rw [if_pos (decT (by omega)), if_pos (by omega), if_pos (by omega), G60_self _ (ho _ (getD_mem hi))]
  simp only [Option.bind_some, Bool.not_true, Bool.false_eq_true, if_false]
  rw [wrap_inc (by omega)]
 ·unfold T62s0_L0
  simp only [Tr.den]
  rw [if_neg (decF (by omega))]
theorem G26_same (a b : List GDelta) (ha : okD a) (hb : okD b) (hn : a.length ≤ 1000000000000) (hn' : b.length ≤ 1000000000000) (hs : Same a b) : G26 a b = some true := by
 have e : PL.cons a = PL.cons b := (cons_can ha.n).ext (cons_can hb.n) (((cons_same a).trans hs).trans (cons_same b).symm)
 have hl := cons_len a
 unfold G26 T26
 simp only [Tr.den]
 rw [G27_eq a ha.r ha.n hn]
 simp only [Option.bind_some]
 rw [G27_eq b hb.r hb.n hn', ← e]
 simp only [Option.bind_some]
 rw [G62s0_self (PL.cons a) ha.cons.r (by omega)]
 rfl
end Go.PL
namespace Go.PL
open Go
set_option linter.unusedVariables false
set_option maxRecDepth 20000
theorem G137_can (l : List GDelta) (h : Can l) (ho : okRs l) (hn : l.length ≤ 1000000000000) : G137 l = some true := by
 unfold G137 T137
 simp only [Tr.den]
 have h1 := while_trace (bd := fun s => (T137_L0 l s).den) (fun k => (k : Int)) l.length (r := .inl ()) (fun k hk => ?_) ?_
 ·refine (congrArg (fun x => Option.bind x _) h1).trans ?_
  rfl
 ·have hm := getD_mem hk
  unfold T137_L0
  simp only [Tr.den, Int.toNat_natCast]
  rw [if_pos (decT (by omega)), if_pos (by omega), if_neg (beqF (h.nz _ hm))]
  by_cases h0 : k = 0
  ·rw [if_neg (decF (by omega))]
   simp only [Option.bind_some, Bool.false_eq_true, if_false]
   rw [wrap_inc (by omega)]
  ·have e : IntKind.i64.wrap ((k : Int) - 1) = ((k - 1 : Nat) : Int) := by
    have := wrap_sub (n := k) (m := 1) (by omega) (by omega)
    simpa using this
   have hlt : cmpD (l.getD (k - 1) default) (l.getD k default) < 0 := by
    rw [getD_lt hk, getD_lt (show k - 1 < l.length by omega)]
    exact List.pairwise_iff_getElem.1 h.lt (k - 1) k (by omega) hk (by omega)
   rw [if_pos (decT (by omega)), e, if_pos (by omega), Int.toNat_natCast, G61_eq _ _ (ho _ (getD_mem (by omega))) (ho _ hm)]
   simp only [Option.bind_some]
   rw [if_neg (decF (by omega)), wrap_inc (by omega)]
 ·unfold T137_L0
  simp only [Tr.den]
  rw [if_neg (decF (by omega))]
theorem push_sum {n : GNode} (hN : okNode n) {a0 a1 : List GDelta} {c : Int} {m : KS} (hO : OInv n a0 a1 (c - backF n) m) (h0 : InOk n 0 a0) (h1 : InOk n 1 a1) {i : Int} (hi : i = 0 ∨ i = 1) {l : List GDelta} (hl : okN l)
  (hal : ∀ d, d ∈ l → c < d.Time) (p : Pl → Bool) :
  W (wt p ((mkeys (groupM n i (PL.cons l))).flatMap (pushO n i (PL.cons l) m))) = W (wt p (refM n (if i = 0 then PL.cons (two i a0 a1 ++ l) else a0) (if i = 0 then a1 else PL.cons (two i a0 a1 ++ l))) - wt p (refM n a0 a1)) := by
 have hb := backF_in hN
 have hal' : ∀ d, d ∈ l → aft (c - backF n) d = true := fun d hd => decT (by have := hal d hd; omega)
 have hpush := hO.push h0.can h1.can hi hl hal'
 rw [push_wt hN p hi (hO.okM h0 h1) (cons_can hl), Phi_ref hpush, Phi_ref hO, ← forget hN hi h1.can hl hal p]
 have e0 : (if i = 0 then PL.cons (two i (a0.filter (aft (c - backF n))) (a1.filter (aft (c - backF n))) ++ l) else a0.filter (aft (c - backF n))) = (if i = 0 then PL.cons (two i a0 a1 ++ l) else a0).filter (aft (c - backF n)) := by
  by_cases h : i = 0
  ·rw [if_pos h, if_pos h, two_filter, filt_push (by rw [h]; exact h0.can) hl hal']
  ·rw [if_neg h, if_neg h]
 have e1 : (if i = 0 then a1.filter (aft (c - backF n)) else PL.cons (two i (a0.filter (aft (c - backF n))) (a1.filter (aft (c - backF n))) ++ l)) = (if i = 0 then a1 else PL.cons (two i a0 a1 ++ l)).filter (aft (c - backF n)) := by
  by_cases h : i = 0
  ·rw [if_pos h, if_pos h]
  ·have h1' : i = 1 := hi.resolve_left h
   rw [if_neg h, if_neg h, two_filter, filt_push (by rw [h1']; exact h1.can) hl hal']
 rw [e0, e1]
structure UI (n : GNode) (ta tb : List Int) (acts : List GAct) (k : Nat) (s : KS × Int × List GDelta × List (List GDelta) × Int) (a0 a1 : List GDelta) : Prop where
 L : s.2.2.2.1 = [a0, a1]
 sum : s.2.2.1 = PL.cons (refM n a0 a1)
 p : KIn n a0 a1 k
 o : OInv n a0 a1 (s.2.1 - backF n) s.1
 c1 : -1 ≤ s.2.1
 c2 : s.2.1 ≤ 2199023255552
 f : FitsR ta tb (acts.drop k) a0 a1 s.2.1
theorem KIn.refM_small {n : GNode} {a0 a1 : List GDelta} {k : Nat} (h : KIn n a0 a1 k) (hk : k ≤ 100) : (refM n a0 a1).length ≤ 1000 * 1001 :=
 Nat.le_trans (refM_len (c := 1000) (by have := h.l1; omega)) (Nat.mul_le_mul (by have := h.l0; omega) (Nat.le_refl _))
theorem sumsRest {n : GNode} (hN : okNode n) {a0 a1 : List GDelta} {k : Nat} (hP : KIn n a0 a1 k) (hk : k ≤ 100) (m : KS) (cl w : Int) :
  ((G325s2 [] n [a0, a1]).bind fun r14 => (G26 (PL.cons (refM n a0 a1)) r14).bind fun r15 => if (!r15) = true then (some (.inr (.inr false)) : Option ((KS × Int × List GDelta × List (List GDelta) × Int) ⊕ (Unit ⊕ Bool))) else some (.inl (m, cl, PL.cons (refM n a0 a1), [a0, a1], w))) =
    some (.inl (m, cl, PL.cons (refM n a0 a1), [a0, a1], w)) := by
 have hok := (refM_ok hP.i0 hP.i1).cons
 have hs := hP.refM_small hk
 have hcl := cons_len (refM n a0 a1)
 rw [G325s2_eq hN hP.i0 hP.i1 hP.c1.ts (by have := hP.l0; omega) (by have := hP.l1; omega)]
 simp only [Option.bind_some]
 rw [G26_same _ _ hok hok (by omega) (by omega) (Same.refl _)]
 simp only [Option.bind_some, Bool.not_true, Bool.false_eq_true, if_false]
theorem sumsMain (n : GNode) (ta tb : List Int) (acts : List GAct) (hok : okL 40 okGAct acts) (k1 : n.Key.length ≤ 20) (k2 : n.Key2.length ≤ 20) (hR : RightN n ta tb) (hlen : acts.length ≤ 30) (hF : FitsR ta tb acts [] [] (-1)) (r1 : Bool) :
  Sp (whileM (fun s => (T309_L0 n acts r1 (n, -1, []) s).den) (([] : KS), -1, ([] : List GDelta), [([] : List GDelta), ([] : List GDelta)], 0)) (fun z => z = .inl ()) := by
 have hN : okNode n := ⟨hR.op, by omega, by omega⟩
 have hb := backF_in hN
 refine sq_count (fun s : KS × Int × List GDelta × List (List GDelta) × Int => s.2.2.2.2) acts.length (by omega)
  (fun s => ∃ a0 a1, UI n ta tb acts s.2.2.2.2.toNat s a0 a1) (fun s k hI hk hkN => ?_)
  ⟨[], [], rfl, rfl, KIn.nil n, OInv.init n _, by simp only; omega, by simp only; omega, by simpa using hF⟩ rfl
 obtain ⟨m, c', sum, L, v9⟩ := s
 obtain ⟨a0, a1, hT⟩ := hI
 simp only at hk hT
 subst hk
 rw [Int.toNat_natCast] at hT
 obtain ⟨hL, hsum, hP, hO, hc1, hc2, hFk⟩ := hT
 simp only at hL hsum hO hc1 hc2 hFk
 subst hL hsum
 unfold T309_L0
 simp only [Tr.den, Int.toNat_natCast]
 by_cases hcnt : k < acts.length
 ·have hok' := hok.2 _ (getD_mem hcnt)
  have hi := bit1 (acts.getD k default).Do
  rw [drop_getD hcnt] at hFk
  have I0 := hP.in0 (show k ≤ 100 by omega)
  have I1 := hP.in1 (show k ≤ 100 by omega)
  have hok0 := (refM_ok hP.i0 hP.i1)
  have hs0 := hP.refM_small (show k ≤ 100 by omega)
  have hcl0 := cons_len (refM n a0 a1)
  rw [if_pos (decT (by omega)), if_pos (by omega)]
  have fin : ∀ (m' : KS) (cl' : Int) (b0 b1 : List GDelta), UI n ta tb acts (k + 1) (m', cl', PL.cons (refM n b0 b1), [b0, b1], IntKind.i64.wrap ((k : Int) + 1)) b0 b1 →
    Sp (some (Sum.inl (m', cl', PL.cons (refM n b0 b1), [b0, b1], IntKind.i64.wrap ((k : Int) + 1))) : Option ((KS × Int × List GDelta × List (List GDelta) × Int) ⊕ (Unit ⊕ Bool)))
     (sel (fun s' : KS × Int × List GDelta × List (List GDelta) × Int => s'.2.2.2.2 = IntKind.i64.wrap ((k : Int) + 1) ∧ k < acts.length ∧ ∃ a0 a1, UI n ta tb acts s'.2.2.2.2.toNat s' a0 a1) (fun z : Unit ⊕ Bool => z = .inl ())) := by
   intro m' cl' b0 b1 h
   refine sq_some.2 ⟨rfl, hcnt, b0, b1, ?_⟩
   simp only
   rw [show (IntKind.i64.wrap ((k : Int) + 1)).toNat = k + 1 by rw [wrap_inc (by omega), Int.toNat_natCast]]
   exact h
  unfold G11s0 T11s0
  simp only [Tr.den]
  by_cases h3 : (bitA .i64 (acts.getD k default).Do 3 == 3) = true
  ·obtain ⟨hC, hF'⟩ := hFk.1 h3
   rw [if_pos h3]
   have h3' : ¬ (bitA .i64 (acts.getD k default).Do 3 != 3) = true := bneF (beq_iff_eq.1 h3)
   have enil : G12 (PL.cons (refM n a0 a1)) [] = some (PL.cons (refM n a0 a1)) := by
    rw [G12_eq _ _ hok0.cons okD.nil (by simp only [List.length_nil]; omega), List.append_nil, cons_id (cons_can hok0.n)]
   by_cases hle : (acts.getD k default).C > c'
   ·rw [G32s0_eq _ n c' m hN (hO.okM I0 I1) (by omega) (by omega) hC]
    simp only [Option.bind_some]
    rw [G137_can [] Can.nil (fun _ h => by cases h) (by simp)]
    simp only [Option.bind_some, Bool.not_true, Bool.false_eq_true, if_false]
    rw [enil]
    simp only [Option.bind_some]
    rw [if_pos (by omega), if_neg h3']
    simp only [Option.bind_some]
    rw [if_pos hle] at hF'
    rw [sumsRest hN hP (by omega)]
    exact fin _ _ _ _ ⟨rfl, rfl, hP.more, hO.close (show c' - backF n ≤ (acts.getD k default).C - backF n by omega), show -1 ≤ (acts.getD k default).C by omega, hC, hF'⟩
   ·rw [G32s0_old _ n c' m (by omega)]
    simp only [Option.bind_some]
    rw [G137_can [] Can.nil (fun _ h => by cases h) (by simp)]
    simp only [Option.bind_some, Bool.not_true, Bool.false_eq_true, if_false]
    rw [enil]
    simp only [Option.bind_some]
    rw [if_pos (by omega), if_neg h3']
    simp only [Option.bind_some]
    rw [if_neg hle] at hF'
    rw [sumsRest hN hP (by omega)]
    exact fin _ _ _ _ ⟨rfl, rfl, hP.more, hO, hc1, hc2, hF'⟩
  ·obtain ⟨hLn, hD, hPos, hF'⟩ := hFk.2 (Bool.eq_false_iff.2 h3)
   rw [if_neg h3]
   have h3' : (bitA .i64 (acts.getD k default).Do 3 != 3) = true := bneT fun h => h3 (beq_iff_eq.2 h)
   obtain ⟨hIL, hP'⟩ := hP.push hR hok'.2.2 hLn hD hPos
   have hcl := cons_len (acts.getD k default).L
   have hal : ∀ d, d ∈ (acts.getD k default).L → aft (c' - backF n) d = true := fun d hd => decT (by have := (hD d hd).1; omega)
   have hM := hO.okM I0 I1
   have hpush := hO.push hP.c0 hP.c1 hi hIL.n hal
   have hps := push_sum hN hO I0 I1 hi hIL.n fun d hd => (hD d hd).1
   obtain ⟨q1, q2⟩ := pushOut_ok hi hIL.cons hM (by omega)
   have q3 := cons_len ((mkeys (groupM n (bitA .i64 (acts.getD k default).Do 1) (PL.cons (acts.getD k default).L))).flatMap (pushO n (bitA .i64 (acts.getD k default).Do 1) (PL.cons (acts.getD k default).L) m))
   have hmul : (PL.cons (acts.getD k default).L).length * 100000000 ≤ 8 * 100000000 := Nat.mul_le_mul (by omega) (Nat.le_refl _)
   rw [G25s0_eq (bitA .i64 (acts.getD k default).Do 1) (acts.getD k default).L n c' m hi hN hIL hM (by omega) (by omega)]
   simp only [Option.bind_some]
   generalize (mkeys (groupM n (bitA .i64 (acts.getD k default).Do 1) (PL.cons (acts.getD k default).L))).flatMap (pushO n (bitA .i64 (acts.getD k default).Do 1) (PL.cons (acts.getD k default).L) m) = out at *
   rw [G137_can _ (cons_can q1.n) q1.cons.r (by omega)]
   simp only [Option.bind_some, Bool.not_true, Bool.false_eq_true, if_false]
   rw [G12_eq _ _ hok0.cons q1.cons (by omega)]
   simp only [Option.bind_some]
   have hlt : (two (bitA .i64 (acts.getD k default).Do 1) a0 a1).length ≤ 1000 := by
    have := hP.l0; have := hP.l1
    unfold two; split <;> omega
   have hid : okD (two (bitA .i64 (acts.getD k default).Do 1) a0 a1) := by
    unfold two; split
    ·exact hP.i0.okD
    ·exact hP.i1.okD
   have hin : (bitA .i64 (acts.getD k default).Do 1).toNat < 2 := by rcases hi with h | h <;> rw [h] <;> decide
   rw [if_pos (by omega), if_pos h3']
   rw [if_pos (by omega), if_pos (by omega), if_pos (by simp only [List.length_cons, List.length_nil]; omega), if_pos (by simp only [List.length_cons, List.length_nil]; omega), if_pos (by omega), two_get hi, G12_eq _ _ hid hIL.okD (by omega)]
   simp only [Option.bind_some]
   rw [if_pos (by simp only [List.length_cons, List.length_nil]; omega), if_pos (by simp only [List.length_cons, List.length_nil]; omega)]
   rw [if_pos (by simp only [List.all_cons, List.all_nil, Bool.and_true, decide_eq_true_eq, List.length_cons, List.length_nil]; omega), two_set hi]
   simp only [Option.bind_some]
   have hsum : PL.cons (PL.cons (refM n a0 a1) ++ PL.cons out) = PL.cons (refM n (if bitA .i64 (acts.getD k default).Do 1 = 0 then PL.cons (two (bitA .i64 (acts.getD k default).Do 1) a0 a1 ++ (acts.getD k default).L) else a0) (if bitA .i64 (acts.getD k default).Do 1 = 0 then a1 else PL.cons (two (bitA .i64 (acts.getD k default).Do 1) a0 a1 ++ (acts.getD k default).L))) := by
    refine Can.ext (cons_can (hok0.cons.app q1.cons).n) (cons_can (refM_ok hP'.i0 hP'.i1).n) (((cons_same _).trans fun p => ?_).trans (cons_same _).symm)
    rw [wt_app, W_add (cons_same (refM n a0 a1) p) ((cons_same out p).trans (hps p))]
    congr 1; omega
   rw [hsum]
   rw [sumsRest hN hP' (by omega)]
   exact fin _ _ _ _ ⟨rfl, rfl, hP', hpush, hc1, hc2, hF'⟩
 ·rw [if_neg (decF (by omega))]
  exact sq_some.2 rfl
theorem G309_true (n : GNode) (types : List (List Int)) (acts : List GAct) (hn : okGNode n) (ht : okL 24 (okL 8 inI64) types) (hok : okL 40 okGAct acts) : G309 n types acts = some true := by
 refine Sp.eq ?_
 unfold G309 T309
 simp only [Tr.den]
 rw [G7_eq]
 simp only [Option.bind_some]
 refine Sq.bind _ (G8_sp n types acts 30 (by omega) hn ht hok) (fun r hr => ?_)
 cases r with
 | false => exact sq_some.2 rfl
 | true =>
  obtain ⟨ta, tb, rfl, k1, k2, hR, hlen, hF⟩ := hr rfl
  simp only [Bool.not_true, Bool.false_eq_true, if_false]
  rw [G9s0_eq n (by omega) (by omega)]
  simp only [Option.bind_some]
  refine Sq.bind _ (sumsMain n ta tb acts hok k1 k2 hR hlen hF true) (fun z hz => ?_)
  subst hz
  exact sq_some.2 rfl
end Go.PL
