/-
  JoinTells: for all arguments of bulk at most 1048576 the law returns true and leaves its arguments as they were; the listed tables are tied to the program's text. Own work.
  Parts ahead of it: From the reading of arguments to plain data; the frame of a law's row. Own work. What reads as data of the argument types reads as plain data of ours. Printed by a program of our own. Plain law: what is right and small. Own work. Plain law: which nodes and acts are right. Own work. Plain law: which acts fit. Own work. Plain law: what an operator keeps. Own work. Plain law: how the meaning of one key changes. Own work. Plain law: what a push changes. Own work. Plain law: the encoding of an operator is made. Own work. Plain facts: encodings of rows tell the rows. Own work. Plain law: the meaning of all that is kept is the reference's meaning of the two inputs. Own work. Plain law: the reference's encodings are the program's. Own work. Plain law: the reference's joins and asofs. Own work. Plain law: the reference's sums are consolidated lists. Own work. Plain law: what the laws of joins ask of their arguments. Own work. Plain law: the example of the documentation. Own work. Plain law: the reference's operator. Own work. Plain law: what the operator and the reference's operator do is the same. Own work. Plain law: JoinTells gives true, for all arguments. Own work. The row of JoinTells from what its function gives, and its card. Own work.
-/
import Derived.Test.YtleighbgfdocfaaGreatDoorMf
import Derived.Test.YtleighbgfdocfaaGreatDoorRows
import Derived.JoinedCond
import Derived.ProofKit
import Derived.OpenShut
import Derived.Carry
import Derived.DataReads
import Derived.ChangeAnyMap
import Derived.KernelRfl
import Derived.Test.YtleighbgfdocfaaGreatDoorCards
import Derived.Test.YtleighbgfdocfaaGreatDoorTie
import Derived.SizedLaws
import Derived.Deep.DeepHandedRow
import Derived.Lib.LaidTab
namespace Go.PL
open Go Go.RowKit
open Go.Proofs.YtleighbgfdocfaaGreatDoor.Rows (uptoBulk uptoBulkAll)
def RdL (F : Nat → Prop) (W : World) (l : List T) (cs : List Value) : Prop := cs.length = l.length ∧ ∀ (j : Nat) x v, l[j]? = some x → cs[j]? = some v → Rd F W x v
theorem RdL.append {F : Nat → Prop} {W : World} {l l' : List T} {cs cs' : List Value} (h : RdL F W l cs) (h' : RdL F W l' cs') : RdL F W (l ++ l') (cs ++ cs') := by
 refine ⟨by simp [h.1, h'.1], fun j x v hx hv => ?_⟩
 by_cases hj : j < l.length
 ·rw [List.getElem?_append_left hj] at hx
  rw [List.getElem?_append_left (by rw [h.1]; exact hj)] at hv
  exact h.2 j x v hx hv
 ·rw [List.getElem?_append_right (by omega)] at hx
  rw [List.getElem?_append_right (by rw [h.1]; omega), h.1] at hv
  exact h'.2 _ x v hx hv
def inI64 (n : Int) : Prop := -9223372036854775808 ≤ n ∧ n ≤ 9223372036854775807
section
variable {H : Type} {enc : TypeId × Value → H} {P : Program} {W : World}
def Opens (enc : TypeId × Value → H) (P : Program) (W : World) (t : TypeId) {X : Type} (c : X → List T) (ok : X → Prop) (fuel : Nat) : Prop :=
 ∀ cs d ps, DataW.trod enc P W 0 (fun _ => true) true fuel t cs = some (d, ps) → uptoBulk d ≤ 1048576 → ∃ x, RdL (fun b => b < W.heap.size) W (c x) cs ∧ ok x
theorem opens_zero {t : TypeId} {X : Type} {c : X → List T} {ok : X → Prop} : Opens enc P W t c ok 0 := fun cs d ps h => by simp [DataW.trod] at h
theorem RdL.one {F : Nat → Prop} {W : World} {x : T} {v : Value} (h : Rd F W x v) : RdL F W [x] [v] := by
 refine ⟨rfl, fun j y u hy hu => ?_⟩
 cases j with
 | zero => simp at hy hu; subst hy; subst hu; exact h
 | succ j => simp at hy
theorem opens_int {t : TypeId} (ht : P.underlying t = some (.int .i64)) (fuel : Nat) : Opens enc P W t cInt inI64 fuel := by
 cases fuel with
 | zero => exact opens_zero
 | succ fuel =>
  intro cs d ps h _
  unfold DataW.trod at h
  rw [ht] at h
  split at h <;> try (simp_all; done)
  rename_i k k' n hk
  split at h
  ·rename_i hk2
   cases hk
   obtain ⟨rfl, hwf⟩ := hk2
   refine ⟨n, RdL.one (.int _ _), ?_⟩
   simp [Lit.wf, IntKind.min, IntKind.max, IntKind.signed, IntKind.bits] at hwf
   exact ⟨by omega, by omega⟩
  ·cases h
def okStr (s : ByteArray) : Prop := s.size ≤ 1048576
theorem opens_string {t : TypeId} (ht : P.underlying t = some .string) (fuel : Nat) : Opens enc P W t cStr okStr fuel := by
 cases fuel with
 | zero => exact opens_zero
 | succ fuel =>
  intro cs d ps h hw
  unfold DataW.trod at h
  rw [ht] at h
  split at h <;> try (simp_all; done)
  rename_i s hk
  split at h
  ·cases h
   refine ⟨s, RdL.one (.str _), ?_⟩
   have : s.data.toList.length + 1 ≤ 1048576 := hw
   have : s.size = s.data.toList.length := rfl
   unfold okStr
   omega
  ·cases h
theorem mapM_get {α β : Type} {f : α → Option β} : ∀ {l : List α} {r : List β}, l.mapM f = some r → r.length = l.length ∧ ∀ (i : Nat) a b, l[i]? = some a → r[i]? = some b → f a = some b
 | [], r, h => by simp at h; subst h; simp
 | x :: l, r, h => by
  rw [List.mapM_cons] at h
  simp only [Option.bind_eq_bind, Option.bind_eq_some_iff] at h
  obtain ⟨y, hy, ys, hys, hr⟩ := h
  simp at hr; subst hr
  obtain ⟨h1, h2⟩ := mapM_get hys
  refine ⟨by simp [h1], fun i a b ha hb => ?_⟩
  cases i with
  | zero => simp at ha hb; subst ha; subst hb; exact hy
  | succ i => exact h2 i a b (by simpa using ha) (by simpa using hb)
theorem uptoBulk_pos : ∀ d : DataW H, 1 ≤ uptoBulk d
 | .lit l => by unfold uptoBulk; split <;> omega
 | .nil => by simp [uptoBulk]
 | .ptr d => by simp [uptoBulk]
 | .slice e s => by simp [uptoBulk]
 | .agg p => by simp [uptoBulk]
 | .iface t d => by simp [uptoBulk]
 | .map e => by simp [uptoBulk]
 | .held h => by simp [uptoBulk]
theorem bulkAll_len : ∀ l : List (DataW H), l.length ≤ uptoBulkAll l
 | [] => by simp
 | d :: l => by simp only [uptoBulkAll, List.length_cons]; have := uptoBulk_pos d; have := bulkAll_len l; omega
theorem bulkAll_mem : ∀ {l : List (DataW H)} {d : DataW H}, d ∈ l → uptoBulk d ≤ uptoBulkAll l
 | x :: l, d, h => by
  simp only [uptoBulkAll]
  rcases List.mem_cons.1 h with rfl | h
  ·omega
  ·have := bulkAll_mem h; omega
def okL {X : Type} (_b : Nat) (ok : X → Prop) (xs : List X) : Prop := xs.length ≤ 1048576 ∧ ∀ x, x ∈ xs → ok x
theorem opens_slice {t e b : Nat} (ht : P.underlying t = some (.slice e)) (hn : Nat.blt 0 (P.cellsOf e) = true) (hb : P.bytesOf e = b) {X : Type} [Inhabited X] {c : X → List T} {ok : X → Prop} {fuel : Nat} (he : Opens enc P W e c ok fuel) (mk : List X → T)
  (hmk : ∀ xs, (mk xs).view = some (xs.length, fun i => c (xs.getD i default))) : Opens enc P W t (fun xs => [mk xs]) (okL b ok) (fuel + 1) := by
 have hz : 0 < P.cellsOf e := by simpa [Nat.blt_eq] using hn
 clear hn
 subst hb
 intro cs d ps h hw
 unfold DataW.trod at h
 rw [ht] at h
 split at h <;> try (simp_all; done)
 ·
  rename_i hk
  cases hk
  refine ⟨[], RdL.one (.nil (hmk [])), by simp, by simp⟩
 ·rename_i e' a len cap hk
  cases hk
  simp only at h
  split at h
  ·rename_i hcap
   simp only [Option.bind_eq_some_iff, Option.map_eq_some_iff] at h
   obtain ⟨elems, hel, rest, hrest, hd⟩ := h
   simp only [Prod.mk.injEq] at hd
   obtain ⟨rfl, rfl⟩ := hd
   obtain ⟨hlen, hget⟩ := mapM_get hel
   simp only [List.length_range] at hlen
   have hwt : uptoBulkAll (elems.map (·.1)) ≤ 1048576 := by
    have hw2 : uptoBulkAll (elems.map (·.1)) + uptoBulkAll (rest.map (·.1)) + 1 ≤ 1048576 := hw
    omega
   have hl : len ≤ 1048576 := by
    have := bulkAll_len (elems.map (·.1))
    simp only [List.length_map, hlen] at this
    omega
   have each : ∀ i, i < len → ∃ x vs, W.cells? 0 (a.add (i * P.cellsOf e)) (P.cellsOf e) = some vs ∧ RdL (fun b => b < W.heap.size) W (c x) vs ∧ ok x := by
    intro i hi
    have hi' : i < elems.length := by omega
    have := hget i i elems[i] (by simp [hi]) (by simp [hi'])
    simp only [Option.bind_eq_some_iff] at this
    obtain ⟨vs, hvs, htr⟩ := this
    obtain ⟨x, h1, h2⟩ := he vs elems[i].1 elems[i].2 htr (Nat.le_trans (bulkAll_mem (List.mem_map_of_mem (List.getElem_mem hi'))) hwt)
    exact ⟨x, vs, hvs, h1, h2⟩
   have all : ∃ xs : List X, xs.length = len ∧ ∀ i, i < len → ∃ vs, W.cells? 0 (a.add (i * P.cellsOf e)) (P.cellsOf e) = some vs ∧ RdL (fun b => b < W.heap.size) W (c (xs.getD i default)) vs ∧ ok (xs.getD i default) := by
    clear hel hrest hget hw hwt hl hlen hcap
    induction len with
    | zero => exact ⟨[], rfl, fun i hi => absurd hi (Nat.not_lt_zero _)⟩
    | succ len ih =>
     obtain ⟨xs, h1, h2⟩ := ih fun i hi => each i (by omega)
     obtain ⟨x, vs, h3, h4, h5⟩ := each len (by omega)
     refine ⟨xs ++ [x], by simp [h1], fun i hi => ?_⟩
     by_cases hil : i < len
     ·have : (xs ++ [x]).getD i default = xs.getD i default := by simp [List.getD_eq_getElem?_getD, List.getElem?_append_left (show i < xs.length by omega)]
      rw [this]; exact h2 i hil
     ·have hil : i = len := by omega
      subst hil
      have : (xs ++ [x]).getD i default = x := by simp [List.getD_eq_getElem?_getD, ← h1]
      rw [this]; exact ⟨vs, h3, h4, h5⟩
   obtain ⟨xs, hxl, hxs⟩ := all
   refine ⟨xs, RdL.one ?_, by rw [hxl]; exact hl, fun x hx => ?_⟩
   ·have hsz : ∀ i, i < len → (c (xs.getD i default)).length = P.cellsOf e := by
     intro i hi
     obtain ⟨vs, h1, h2, _⟩ := hxs i hi
     rw [← h2.1]
     unfold World.cells? at h1
     rw [if_pos (Nat.zero_le _)] at h1
     have := (mapM_get h1).1; simpa using this
    have hcell : ∀ i j, i < len → j < P.cellsOf e → ∃ u, W.cell? (a.add (i * P.cellsOf e + j)) = some u ∧ ∀ x, (c (xs.getD i default))[j]? = some x → Rd (fun b => b < W.heap.size) W x u := by
     intro i j hi hj
     obtain ⟨vs, h1, h2, _⟩ := hxs i hi
     unfold World.cells? at h1
     rw [if_pos (Nat.zero_le _)] at h1
     obtain ⟨h3, h4⟩ := mapM_get h1
     simp only [List.length_range] at h3
     have := h4 j j vs[j] (by simp [hj]) (by simp [h3, hj])
     rw [Addr.add_add] at this
     exact ⟨vs[j], this, fun x hx => h2.2 j x vs[j] hx (by simp [h3, hj])⟩
    let vsf : Nat → Nat → Value := fun i j => (W.cell? (a.add (i * P.cellsOf e + j))).getD undef
    refine .sl a cap (P.cellsOf e) vsf (n := len) (f := fun i => c (xs.getD i default)) (by rw [hmk, hxl]) hcap.2.1 (fun hn => ?_) hsz (fun i j hi hj => ?_) (fun i j x hi hx => ?_)
    ·obtain ⟨u, hu, _⟩ := hcell 0 0 hn hz
     have hb := World.block_lt_of_cell? W _ hu
     have : (a.add (0 * P.cellsOf e + 0)).block = a.block := by unfold Addr.add; split <;> rfl
     rw [this] at hb
     exact hb
    ·obtain ⟨u, hu, _⟩ := hcell i j hi hj
     simp [vsf, hu]
    ·have hj : j < P.cellsOf e := by rw [← hsz i hi]; exact (List.getElem?_eq_some_iff.1 hx).1
     obtain ⟨u, hu, hr⟩ := hcell i j hi hj
     simp only [vsf, hu, Option.getD_some]
     exact hr x hx
   ·obtain ⟨i, hi, rfl⟩ := List.getElem_of_mem hx
    obtain ⟨_, _, _, h⟩ := hxs i (by omega)
    simpa [List.getD_eq_getElem?_getD, hi] using h
  ·cases h
def OpensF (enc : TypeId × Value → H) (P : Program) (W : World) (off : Nat) (fs : List Field) {X : Type} (c : X → List T) (ok : X → Prop) (fuel : Nat) : Prop :=
 ∀ (cs : List Value) xs, fs.mapM (fun f => DataW.trod enc P W 0 (fun _ => true) true fuel f.type ((cs.drop f.offset).take (P.cellsOf f.type))) = some xs →
  uptoBulkAll (xs.map (·.1)) ≤ 1048576 → cs.length = off + (fs.map fun f => P.cellsOf f.type).sum → ∃ x, RdL (fun b => b < W.heap.size) W (c x) (cs.drop off) ∧ ok x
theorem opensF_nil {off fuel : Nat} : OpensF enc P W off [] (fun (_ : Unit) => []) (fun _ => True) fuel := by
 intro cs xs _ _ hl
 simp at hl
 exact ⟨(), ⟨by simp [hl], by simp⟩, trivial⟩
theorem opensF_cons {off fuel : Nat} {f : Field} {fs : List Field} {X Y : Type} {c : X → List T} {c' : Y → List T} {ok : X → Prop} {ok' : Y → Prop} (ho : f.offset = off) (h : Opens enc P W f.type c ok fuel)
  (h' : OpensF enc P W (off + P.cellsOf f.type) fs c' ok' fuel) : OpensF enc P W off (f :: fs) (fun (x : X × Y) => c x.1 ++ c' x.2) (fun x => ok x.1 ∧ ok' x.2) fuel := by
 intro cs xs hx hw hl
 rw [List.mapM_cons] at hx
 simp only [Option.bind_eq_bind, Option.bind_eq_some_iff] at hx
 obtain ⟨y, hy, ys, hys, hr⟩ := hx
 simp at hr; subst hr
 simp only [List.map_cons, uptoBulkAll] at hw
 obtain ⟨x, h1, h2⟩ := h _ _ _ hy (by omega)
 simp only [List.map_cons, List.sum_cons] at hl
 obtain ⟨x', h3, h4⟩ := h' cs ys hys (by omega) (by omega)
 refine ⟨(x, x'), ?_, h2, h4⟩
 have : cs.drop off = (cs.drop f.offset).take (P.cellsOf f.type) ++ cs.drop (off + P.cellsOf f.type) := by
  rw [ho, ← List.drop_drop, List.take_append_drop]
 rw [this]
 exact h1.append h3
theorem opens_struct {t : TypeId} {fs : Array Field} (ht : P.underlying t = some (.struct fs)) {X : Type} {c : X → List T} {ok : X → Prop} {fuel : Nat} (h : OpensF enc P W 0 fs.toList c ok fuel)
  (hs : P.cellsOf t = (fs.toList.map fun f => P.cellsOf f.type).sum) : Opens enc P W t c ok (fuel + 1) := by
 intro cs d ps hd hw
 unfold DataW.trod at hd
 rw [ht] at hd
 split at hd <;> try (simp_all; done)
 rename_i cs0 _ _ fs' hk
 cases hk
 split at hd
 ·rename_i hl
  simp only [Option.map_eq_some_iff] at hd
  obtain ⟨xs, hxs, hd⟩ := hd
  simp only [Prod.mk.injEq] at hd
  obtain ⟨rfl, _⟩ := hd
  have hw2 : uptoBulkAll (xs.map (·.1)) + 1 ≤ 1048576 := hw
  have := h _ xs hxs (by omega) (by rw [hl, hs]; simp)
  simpa using this
 ·cases hd
theorem Opens.map {t : TypeId} {X Y : Type} {c : X → List T} {ok : X → Prop} {c' : Y → List T} {ok' : Y → Prop} {fuel : Nat} (h : Opens enc P W t c ok fuel) (g : X → Y) (hc : ∀ x, c' (g x) = c x) (ho : ∀ x, ok x → ok' (g x)) :
  Opens enc P W t c' ok' fuel := by
 intro cs d ps hd hw
 obtain ⟨x, h1, h2⟩ := h cs d ps hd hw
 exact ⟨g x, by rw [hc]; exact h1, ho x h2⟩
end
theorem RdL.agg {F : Nat → Prop} {W : World} {l : List T} {v : Value} (h : RdL F W l v.cells.toList) (hv : ∃ vs, v = .agg vs) : Rd F W (.agg l) v := by
 obtain ⟨vs, rfl⟩ := hv
 simp only [Value.cells] at h
 exact .agg (by simpa using h.1) fun j x v hx hv => h.2 j x v hx (by simpa using hv)
section
variable {H : Type} {enc : TypeId × Value → H} {P : Program} {W : World} {r : Reach} {base : Nat}
theorem arg_struct {t : TypeId} {fs : Array Field} (ht : P.underlying t = some (.struct fs)) {X : Type} {c : X → List T} {ok : X → Prop} (hO : ∀ fuel, Opens enc P W t c ok fuel) {v : Value} {d : DataW H} {ps : List MemPlace}
  (hv : Value.okWide P W r base t v) (h : DataW.Trod enc P W 0 (fun _ => true) true t v d ps) (hw : uptoBulk d ≤ 1048576) : ∃ x, Rd (fun b => b < W.heap.size) W (.agg (c x)) v ∧ ok x := by
 obtain ⟨cs, rfl, _⟩ := Go.WideShapes.okWide_struct ht hv
 obtain ⟨fuel, hf⟩ := h
 obtain ⟨x, h1, h2⟩ := hO fuel _ _ _ hf hw
 exact ⟨x, h1.agg ⟨cs, rfl⟩, h2⟩
theorem arg_one {t : TypeId} {X : Type} {c : X → T} {ok : X → Prop} (hO : ∀ fuel, Opens enc P W t (fun x => [c x]) ok fuel) {v : Value} {d : DataW H} {ps : List MemPlace}
  (hv : v.cells = #[v]) (h : DataW.Trod enc P W 0 (fun _ => true) true t v d ps) (hw : uptoBulk d ≤ 1048576) : ∃ x, Rd (fun b => b < W.heap.size) W (c x) v ∧ ok x := by
 obtain ⟨fuel, hf⟩ := h
 obtain ⟨x, h1, h2⟩ := hO fuel _ _ _ hf hw
 exact ⟨x, h1.2 0 _ _ (by simp) (by simp [hv]), h2⟩
theorem arg_slice {t e : TypeId} (ht : P.underlying t = some (.slice e)) {X : Type} {c : X → T} {ok : X → Prop} (hO : ∀ fuel, Opens enc P W t (fun x => [c x]) ok fuel) {v : Value} {d : DataW H} {ps : List MemPlace}
  (hv : Value.okWide P W r base t v) (h : DataW.Trod enc P W 0 (fun _ => true) true t v d ps) (hw : uptoBulk d ≤ 1048576) : ∃ x, Rd (fun b => b < W.heap.size) W (c x) v ∧ ok x := by
 obtain ⟨a, l, q, rfl⟩ := Go.WideShapes.okWide_slice ht hv
 exact arg_one hO rfl h hw
end
theorem kept_of_below {W W' : World} (h : Below W.heap.size W W') (may : MemPlace → Prop) : W.keptBut W' may := by
 refine ⟨h.os, h.output, fun i hi => ?_⟩
 rw [h.block i hi]
 cases W.heap[i]? with
 | none => trivial
 | some o => cases o <;> simp
section
variable {H : Type} {enc : TypeId × Value → H} {P : Program}
theorem trodAll_below (hl : laidOutB P = true) {W W' : World} (hb : Below W.heap.size W W') : ∀ {ts : List TypeId} {vs : List Value} {ds : List (DataW H)} {ps : List MemPlace},
  (∀ t, t ∈ ts → P.readableRec t = true ∧ t < P.types.size) → DataW.TrodAll enc P W 0 (fun _ => true) true ts vs ds ps → (∀ x, x ∈ ps → x.block < W.heap.size) →
  DataW.TrodAll enc P W' 0 (fun b => decide (b < W.heap.size)) true ts vs ds ps
 | [], [], [], ps, _, h, _ => h
 | t :: ts, v :: vs, d :: ds, ps, hr, h, hp => by
  obtain ⟨p, q, h1, h2, rfl⟩ := h
  obtain ⟨r1, r2⟩ := hr t (by simp)
  exact ⟨p, q, Go.RowKit.Below.trod hl r1 r2 h1 hb (fun x hx => hp x (List.mem_append_left _ hx)), trodAll_below hl hb (fun t ht => hr t (List.mem_cons_of_mem _ ht)) h2 (fun x hx => hp x (List.mem_append_right _ hx)), rfl⟩
 | [], _ :: _, _, _, _, h, _ => by simp [DataW.TrodAll] at h
 | [], [], _ :: _, _, _, h, _ => by simp [DataW.TrodAll] at h
 | _ :: _, [], _, _, _, h, _ => by simp [DataW.TrodAll] at h
 | _ :: _, _ :: _, [], _, _, h, _ => by simp [DataW.TrodAll] at h
theorem law_post (hlay : laidOutB P = true) {f : Func} {s : ChangeSpec} {W W' : World} {args : Array Value} {ds gs : List (DataW H)} {before : List MemPlace} {tb : TypeId} (hvars : s.vars = [])
  (hW : DataW.Whole enc P f.params.toList s.vars false W args.toList ds gs before) (hb : Below W.heap.size W W') (hres : f.resultTypes = #[tb]) (htb : P.underlying tb = some .bool)
  (hread : ∀ t, t ∈ f.params.toList → P.readableRec t = true ∧ t < P.types.size) (hfn : s.fn H (ds ++ gs) = { results := [.lit (.bool true)], args := ds }) :
  s.post enc P f false true false false W args (.bool true) W' := by
 have hW' := hW
 obtain ⟨p, q, hA, hV, rfl, _⟩ := hW
 rw [hvars] at hV
 cases gs with
 | cons g gs => simp [DataW.TrodVars] at hV
 | nil =>
  simp only [DataW.TrodVars] at hV
  subst hV
  have hlt : ∀ x, x ∈ p → x.block < W.heap.size := fun x hx => by simpa using hW'.lt x (by simp [hx])
  refine ⟨ds, [], p ++ [], [], p, [], hW', ?_, ?_, ?_, kept_of_below hb _, fun h => by cases h⟩
  ·rw [hfn, hres]
   exact ⟨[], [], ⟨1, by simp [DataW.trod, htb, Value.cells]⟩, rfl, rfl⟩
  ·rw [hfn]
   exact trodAll_below hlay hb hread hA hlt
  ·rw [hvars, hfn]; exact rfl
theorem PCall.law {P : Program} {k : FuncId} {args : List PV} (h : PCall P k args [] [] (Ret (.t (.bool true)))) {W : World} {vs : Array Value} (hs : vs.size = args.length)
  (hv : ∀ (j : Nat) x v, args[j]? = some x → vs[j]? = some v → VR (fun b => b < W.heap.size) (fun _ => undef) W x v) (hg : GLP P (fun b => b < W.heap.size) W) :
  Calls P k vs W fun e W' => e = .returned (.bool true) ∧ Below W.heap.size W W' := by
 refine (h (fun b => b < W.heap.size) (fun _ => undef) W vs hs hv ⟨by simp, by simp, by simp⟩ (fun _ h => h) hg).mono ?_
 rintro e w' ⟨v, r, H', F', g', rfl, hr, hvr, hW⟩
 unfold Ret at hr
 subst hr
 have := hvr.inv_bool
 subst this
 exact ⟨rfl, ⟨hW.ext.os, hW.ext.tape, hW.ext.output, hW.ext.size, fun b hb => hW.ext.block b hb (by rintro ⟨o, x, hx, _⟩; simp at hx)⟩⟩
end
end Go.PL
namespace Go.PL
open Go Go.RowKit
set_option maxRecDepth 20000
theorem o22 {H : Type} {enc : TypeId × Value → H} {W : World} (fuel : Nat) : Opens enc Proofs.Tryz.prog W 22 (fun xs => [eL cInt (xs)]) (okL 8 inI64) fuel := by
 cases fuel with
 | zero => exact opens_zero
 | succ fuel => exact opens_slice Proofs.Tryz.underlying22 (by kernel_rfl) (by kernel_rfl) (opens_int Proofs.Tryz.underlying3 fuel) (fun xs => eL cInt (xs)) (fun _ => rfl)
inductive okExpr : Expr → Prop
 | mk0 {a b : Int} {s : ByteArray} {l : List Expr} (ha : inI64 a) (hb : inI64 b) (hs : okStr s) (hn : l.length ≤ 1048576) (hl : ∀ x, x ∈ l → okExpr x) : okExpr (.mk a b s l)
theorem okExpr.mk {a b : Int} {s : ByteArray} {l : List Expr} (ha : inI64 a) (hb : inI64 b) (hs : okStr s) (hl : okL 56 okExpr l) : okExpr (.mk a b s l) := .mk0 ha hb hs hl.1 hl.2
theorem oExpr {H : Type} {enc : TypeId × Value → H} {W : World} : ∀ fuel, Opens enc Proofs.Tryz.prog W 116 exprCells okExpr fuel ∧ Opens enc Proofs.Tryz.prog W 23 (fun xs => [.lz (.exprs xs)]) (okL 56 okExpr) fuel
 | 0 => ⟨opens_zero, opens_zero⟩
 | fuel + 1 => by
  have ih := oExpr (enc := enc) (W := W) fuel
  exact ⟨(opens_struct Proofs.Tryz.underlying116 (opensF_cons (by kernel_rfl) (opens_int Proofs.Tryz.underlying3 fuel) (opensF_cons (by kernel_rfl) (opens_int Proofs.Tryz.underlying3 fuel) (opensF_cons (by kernel_rfl) (opens_string Proofs.Tryz.underlying9 fuel) (opensF_cons (by kernel_rfl) ih.2 opensF_nil)))) (by kernel_rfl)).map (fun x => Expr.mk x.1 x.2.1 x.2.2.1 x.2.2.2.1) (fun _ => rfl) (fun x h => .mk h.1 h.2.1 h.2.2.1 h.2.2.2.1), opens_slice Proofs.Tryz.underlying23 (by kernel_rfl) (by kernel_rfl) ih.1 (fun xs => .lz (.exprs xs)) (fun _ => rfl)⟩
def okGAgg (x : GAgg) : Prop := inI64 x.Kind ∧ inI64 x.Col ∧ okStr x.Name
theorem o170 {H : Type} {enc : TypeId × Value → H} {W : World} (fuel : Nat) : Opens enc Proofs.Tryz.prog W 170 cGAgg okGAgg fuel := by
 cases fuel with
 | zero => exact opens_zero
 | succ fuel => exact (opens_struct Proofs.Tryz.underlying170 (opensF_cons (by kernel_rfl) (opens_int Proofs.Tryz.underlying3 fuel) (opensF_cons (by kernel_rfl) (opens_int Proofs.Tryz.underlying3 fuel) (opensF_cons (by kernel_rfl) (opens_string Proofs.Tryz.underlying9 fuel) opensF_nil))) (by kernel_rfl)).map (fun x => GAgg.mk x.1 x.2.1 x.2.2.1) (fun _ => rfl) (fun x h => ⟨h.1, h.2.1, h.2.2.1⟩)
theorem o24 {H : Type} {enc : TypeId × Value → H} {W : World} (fuel : Nat) : Opens enc Proofs.Tryz.prog W 24 (fun xs => [eL cGAgg (xs)]) (okL 32 okGAgg) fuel := by
 cases fuel with
 | zero => exact opens_zero
 | succ fuel => exact opens_slice Proofs.Tryz.underlying24 (by kernel_rfl) (by kernel_rfl) (o170 fuel) (fun xs => eL cGAgg (xs)) (fun _ => rfl)
def okGPat (x : GPat) : Prop := okExpr x.Pred ∧ inI64 x.Rep
theorem o121 {H : Type} {enc : TypeId × Value → H} {W : World} (fuel : Nat) : Opens enc Proofs.Tryz.prog W 121 cGPat okGPat fuel := by
 cases fuel with
 | zero => exact opens_zero
 | succ fuel => exact (opens_struct Proofs.Tryz.underlying121 (opensF_cons (by kernel_rfl) (oExpr fuel).1 (opensF_cons (by kernel_rfl) (opens_int Proofs.Tryz.underlying3 fuel) opensF_nil)) (by kernel_rfl)).map (fun x => GPat.mk x.1 x.2.1) (fun _ => rfl) (fun x h => ⟨h.1, h.2.1⟩)
theorem o25 {H : Type} {enc : TypeId × Value → H} {W : World} (fuel : Nat) : Opens enc Proofs.Tryz.prog W 25 (fun xs => [eL cGPat (xs)]) (okL 64 okGPat) fuel := by
 cases fuel with
 | zero => exact opens_zero
 | succ fuel => exact opens_slice Proofs.Tryz.underlying25 (by kernel_rfl) (by kernel_rfl) (o121 fuel) (fun xs => eL cGPat (xs)) (fun _ => rfl)
def okGCol (x : GCol) : Prop := okStr x.Name ∧ inI64 x.Type_ ∧ okStr x.Unit
theorem o261 {H : Type} {enc : TypeId × Value → H} {W : World} (fuel : Nat) : Opens enc Proofs.Tryz.prog W 261 cGCol okGCol fuel := by
 cases fuel with
 | zero => exact opens_zero
 | succ fuel => exact (opens_struct Proofs.Tryz.underlying261 (opensF_cons (by kernel_rfl) (opens_string Proofs.Tryz.underlying9 fuel) (opensF_cons (by kernel_rfl) (opens_int Proofs.Tryz.underlying3 fuel) (opensF_cons (by kernel_rfl) (opens_string Proofs.Tryz.underlying9 fuel) opensF_nil))) (by kernel_rfl)).map (fun x => GCol.mk x.1 x.2.1 x.2.2.1) (fun _ => rfl) (fun x h => ⟨h.1, h.2.1, h.2.2.1⟩)
theorem o26 {H : Type} {enc : TypeId × Value → H} {W : World} (fuel : Nat) : Opens enc Proofs.Tryz.prog W 26 (fun xs => [eL cGCol (xs)]) (okL 40 okGCol) fuel := by
 cases fuel with
 | zero => exact opens_zero
 | succ fuel => exact opens_slice Proofs.Tryz.underlying26 (by kernel_rfl) (by kernel_rfl) (o261 fuel) (fun xs => eL cGCol (xs)) (fun _ => rfl)
def okGNode (x : GNode) : Prop := inI64 x.Op ∧ okL 8 inI64 x.In ∧ okStr x.Source ∧ inI64 x.Schema ∧ okL 56 okExpr x.Exprs ∧ inI64 x.Kind ∧ inI64 x.Size ∧ inI64 x.Step ∧ okL 8 inI64 x.Key ∧ okL 8 inI64 x.Key2 ∧ inI64 x.Before ∧ inI64 x.After ∧ inI64 x.Keep ∧ okL 32 okGAgg x.Aggs ∧ okL 64 okGPat x.Seq ∧ okL 40 okGCol x.Cols
theorem o28 {H : Type} {enc : TypeId × Value → H} {W : World} (fuel : Nat) : Opens enc Proofs.Tryz.prog W 28 cGNode okGNode fuel := by
 cases fuel with
 | zero => exact opens_zero
 | succ fuel => exact (opens_struct Proofs.Tryz.underlying28 (opensF_cons (by kernel_rfl) (opens_int Proofs.Tryz.underlying3 fuel) (opensF_cons (by kernel_rfl) (o22 fuel) (opensF_cons (by kernel_rfl) (opens_string Proofs.Tryz.underlying9 fuel) (opensF_cons (by kernel_rfl) (opens_int Proofs.Tryz.underlying3 fuel) (opensF_cons (by kernel_rfl) (oExpr fuel).2 (opensF_cons (by kernel_rfl) (opens_int Proofs.Tryz.underlying3 fuel) (opensF_cons (by kernel_rfl) (opens_int Proofs.Tryz.underlying3 fuel) (opensF_cons (by kernel_rfl) (opens_int Proofs.Tryz.underlying3 fuel) (opensF_cons (by kernel_rfl) (o22 fuel) (opensF_cons (by kernel_rfl) (o22 fuel) (opensF_cons (by kernel_rfl) (opens_int Proofs.Tryz.underlying3 fuel) (opensF_cons (by kernel_rfl) (opens_int Proofs.Tryz.underlying3 fuel) (opensF_cons (by kernel_rfl) (opens_int Proofs.Tryz.underlying3 fuel) (opensF_cons (by kernel_rfl) (o24 fuel) (opensF_cons (by kernel_rfl) (o25 fuel) (opensF_cons (by kernel_rfl) (o26 fuel) opensF_nil)))))))))))))))) (by kernel_rfl)).map (fun x => GNode.mk x.1 x.2.1 x.2.2.1 x.2.2.2.1 x.2.2.2.2.1 x.2.2.2.2.2.1 x.2.2.2.2.2.2.1 x.2.2.2.2.2.2.2.1 x.2.2.2.2.2.2.2.2.1 x.2.2.2.2.2.2.2.2.2.1 x.2.2.2.2.2.2.2.2.2.2.1 x.2.2.2.2.2.2.2.2.2.2.2.1 x.2.2.2.2.2.2.2.2.2.2.2.2.1 x.2.2.2.2.2.2.2.2.2.2.2.2.2.1 x.2.2.2.2.2.2.2.2.2.2.2.2.2.2.1 x.2.2.2.2.2.2.2.2.2.2.2.2.2.2.2.1) (fun _ => rfl) (fun x h => ⟨h.1, h.2.1, h.2.2.1, h.2.2.2.1, h.2.2.2.2.1, h.2.2.2.2.2.1, h.2.2.2.2.2.2.1, h.2.2.2.2.2.2.2.1, h.2.2.2.2.2.2.2.2.1, h.2.2.2.2.2.2.2.2.2.1, h.2.2.2.2.2.2.2.2.2.2.1, h.2.2.2.2.2.2.2.2.2.2.2.1, h.2.2.2.2.2.2.2.2.2.2.2.2.1, h.2.2.2.2.2.2.2.2.2.2.2.2.2.1, h.2.2.2.2.2.2.2.2.2.2.2.2.2.2.1, h.2.2.2.2.2.2.2.2.2.2.2.2.2.2.2.1⟩)
theorem o29 {H : Type} {enc : TypeId × Value → H} {W : World} (fuel : Nat) : Opens enc Proofs.Tryz.prog W 29 (fun xs => [eL cL_cInt (xs)]) (okL 24 (okL 8 inI64)) fuel := by
 cases fuel with
 | zero => exact opens_zero
 | succ fuel => exact opens_slice Proofs.Tryz.underlying29 (by kernel_rfl) (by kernel_rfl) (o22 fuel) (fun xs => eL cL_cInt (xs)) (fun _ => rfl)
def okGValue (x : GValue) : Prop := inI64 x.Kind ∧ inI64 x.N ∧ okStr x.S
theorem o103 {H : Type} {enc : TypeId × Value → H} {W : World} (fuel : Nat) : Opens enc Proofs.Tryz.prog W 103 cGValue okGValue fuel := by
 cases fuel with
 | zero => exact opens_zero
 | succ fuel => exact (opens_struct Proofs.Tryz.underlying103 (opensF_cons (by kernel_rfl) (opens_int Proofs.Tryz.underlying3 fuel) (opensF_cons (by kernel_rfl) (opens_int Proofs.Tryz.underlying3 fuel) (opensF_cons (by kernel_rfl) (opens_string Proofs.Tryz.underlying9 fuel) opensF_nil))) (by kernel_rfl)).map (fun x => GValue.mk x.1 x.2.1 x.2.2.1) (fun _ => rfl) (fun x h => ⟨h.1, h.2.1, h.2.2.1⟩)
theorem o55 {H : Type} {enc : TypeId × Value → H} {W : World} (fuel : Nat) : Opens enc Proofs.Tryz.prog W 55 (fun xs => [eL cGValue (xs)]) (okL 32 okGValue) fuel := by
 cases fuel with
 | zero => exact opens_zero
 | succ fuel => exact opens_slice Proofs.Tryz.underlying55 (by kernel_rfl) (by kernel_rfl) (o103 fuel) (fun xs => eL cGValue (xs)) (fun _ => rfl)
def okGDelta (x : GDelta) : Prop := inI64 x.Time ∧ okL 32 okGValue x.Row ∧ inI64 x.N
theorem o57 {H : Type} {enc : TypeId × Value → H} {W : World} (fuel : Nat) : Opens enc Proofs.Tryz.prog W 57 cGDelta okGDelta fuel := by
 cases fuel with
 | zero => exact opens_zero
 | succ fuel => exact (opens_struct Proofs.Tryz.underlying57 (opensF_cons (by kernel_rfl) (opens_int Proofs.Tryz.underlying3 fuel) (opensF_cons (by kernel_rfl) (o55 fuel) (opensF_cons (by kernel_rfl) (opens_int Proofs.Tryz.underlying3 fuel) opensF_nil))) (by kernel_rfl)).map (fun x => GDelta.mk x.1 x.2.1 x.2.2.1) (fun _ => rfl) (fun x h => ⟨h.1, h.2.1, h.2.2.1⟩)
theorem o38 {H : Type} {enc : TypeId × Value → H} {W : World} (fuel : Nat) : Opens enc Proofs.Tryz.prog W 38 (fun xs => [eL cGDelta (xs)]) (okL 40 okGDelta) fuel := by
 cases fuel with
 | zero => exact opens_zero
 | succ fuel => exact opens_slice Proofs.Tryz.underlying38 (by kernel_rfl) (by kernel_rfl) (o57 fuel) (fun xs => eL cGDelta (xs)) (fun _ => rfl)
def okGAct (x : GAct) : Prop := inI64 x.Do ∧ inI64 x.C ∧ okL 40 okGDelta x.L
theorem o41 {H : Type} {enc : TypeId × Value → H} {W : World} (fuel : Nat) : Opens enc Proofs.Tryz.prog W 41 cGAct okGAct fuel := by
 cases fuel with
 | zero => exact opens_zero
 | succ fuel => exact (opens_struct Proofs.Tryz.underlying41 (opensF_cons (by kernel_rfl) (opens_int Proofs.Tryz.underlying3 fuel) (opensF_cons (by kernel_rfl) (opens_int Proofs.Tryz.underlying3 fuel) (opensF_cons (by kernel_rfl) (o38 fuel) opensF_nil))) (by kernel_rfl)).map (fun x => GAct.mk x.1 x.2.1 x.2.2.1) (fun _ => rfl) (fun x h => ⟨h.1, h.2.1, h.2.2.1⟩)
theorem o30 {H : Type} {enc : TypeId × Value → H} {W : World} (fuel : Nat) : Opens enc Proofs.Tryz.prog W 30 (fun xs => [eL cGAct (xs)]) (okL 40 okGAct) fuel := by
 cases fuel with
 | zero => exact opens_zero
 | succ fuel => exact opens_slice Proofs.Tryz.underlying30 (by kernel_rfl) (by kernel_rfl) (o41 fuel) (fun xs => eL cGAct (xs)) (fun _ => rfl)
end Go.PL
namespace Go.PL
open Go
set_option linter.unusedVariables false
set_option maxRecDepth 20000
theorem sq_count {S R : Type} {b : Bool} {bd : S → Option (S ⊕ R)} (idx : S → Int) (N : Nat) (hN : N ≤ 1000000000000000) (I : S → Prop) {Q : R → Prop}
  (h : ∀ s (k : Nat), I s → idx s = k → k ≤ N → Sq b (bd s) (sel (fun s' => idx s' = IntKind.i64.wrap ((k : Int) + 1) ∧ k < N ∧ I s') Q)) {s : S} (hs : I s) (h0 : idx s = 0) : Sq b (whileM bd s) Q := by
 refine Sq.while (fun s => I s ∧ ∃ k : Nat, idx s = k ∧ k ≤ N) (fun s => N - (idx s).toNat) (fun s hs => ?_) ⟨hs, 0, h0, by omega⟩
 obtain ⟨hI, k, hk, hkN⟩ := hs
 refine (h s k hI hk hkN).imp fun z hz => ?_
 cases z with
 | inr r => exact hz
 | inl s' =>
  obtain ⟨q1, q2, q3⟩ := hz
  rw [wrap_inc (by omega)] at q1
  exact ⟨⟨q3, k + 1, q1, by omega⟩, by rw [q1, hk]; omega⟩
theorem okExpr.len {e : Expr} (h : okExpr e) : e.Args.length ≤ 1048576 := by cases h; assumption
theorem okExpr.arg {e : Expr} (h : okExpr e) : ∀ x, x ∈ e.Args → okExpr x := by cases h; assumption
theorem sizeOf_arg {e x : Expr} (h : x ∈ e.Args) : SizeOf.sizeOf x < SizeOf.sizeOf e := by
 cases e with
 | mk a b s l =>
  have := List.sizeOf_lt_of_mem h
  simp only [Expr.Args] at this
  simp only [Expr.mk.sizeOf_spec]
  omega
theorem G79_sp (e : Expr) (h : okExpr e) : Sp (G79 e) (fun _ => True) := by
 refine fixF_sq (C := fun (a : Expr) (x : Option Int) => Con Proofs.Tryz.prog 79 [.t (eExpr a)] x (fun (y : Int) => .t (.int .i64 (y)))) (fun a => ⟨callable_of Proofs.Tryz.func79 (by kernel_rfl), fun _ h => nomatch h⟩) (fun rec a => T79 rec a) (fun rec a => T79_ok rec a)
  okExpr (fun e => SizeOf.sizeOf e) (fun _ _ => True) (fun b f e he hrec => ?_) true e h
 have hl := he.len
 unfold T79
 simp only [Tr.den, sq_bind]
 refine sq_count (fun s : Int × Int => s.2) e.Args.length (by omega) (fun _ => True) (fun s k _ hk hkN => ?_) trivial rfl
 obtain ⟨v1, v2⟩ := s
 simp only at hk
 subst hk
 unfold T79_L0
 simp only [Tr.den, Int.toNat_natCast]
 by_cases hc : k < e.Args.length
 ·rw [if_pos (decT (by omega)), if_pos (by omega)]
  refine Sq.bind _ (hrec _ (he.arg _ (getD_mem hc)) (sizeOf_arg (getD_mem hc))) fun r _ => sq_some.2 ⟨rfl, hc, trivial⟩
 ·rw [if_neg (decF (by omega))]
  exact sq_some.2 (sq_some.2 trivial)
theorem G80_sp (e : Expr) (h : okExpr e) : Sp (G80 e) (fun _ => True) := by
 refine fixF_sq (C := fun (a : Expr) (x : Option Int) => Con Proofs.Tryz.prog 80 [.t (eExpr a)] x (fun (y : Int) => .t (.int .i64 (y)))) (fun a => ⟨callable_of Proofs.Tryz.func80 (by kernel_rfl), fun _ h => nomatch h⟩) (fun rec a => T80 rec a) (fun rec a => T80_ok rec a)
  okExpr (fun e => SizeOf.sizeOf e) (fun _ _ => True) (fun b f e he hrec => ?_) true e h
 have hl := he.len
 unfold T80
 simp only [Tr.den, sq_bind]
 refine sq_count (fun s : Int × Int => s.2) e.Args.length (by omega) (fun _ => True) (fun s k _ hk hkN => ?_) trivial rfl
 obtain ⟨v1, v2⟩ := s
 simp only at hk
 subst hk
 unfold T80_L0
 simp only [Tr.den, Int.toNat_natCast]
 by_cases hc : k < e.Args.length
 ·rw [if_pos (decT (by omega)), if_pos (by omega)]
  refine Sq.bind _ (hrec _ (he.arg _ (getD_mem hc)) (sizeOf_arg (getD_mem hc))) fun r _ => sq_some.2 ⟨rfl, hc, trivial⟩
 ·rw [if_neg (decF (by omega))]
  exact sq_some.2 (sq_some.2 trivial)
theorem G150_sp (fs : List Int) (e : Expr) (hf : fs.length ≤ 1000000) (h : okExpr e) : Sp (G150 fs e) (fun _ => True) := by
 refine fixF_sq (C := fun (a : (List Int) × Expr) (x : Option Int) => Con Proofs.Tryz.prog 150 [.t (eL cInt (a.1)), .t (eExpr a.2)] x (fun (y : Int) => .t (.int .i64 (y)))) (fun a => ⟨callable_of Proofs.Tryz.func150 (by kernel_rfl), fun _ h => nomatch h⟩) (fun rec a => T150 rec a.1 a.2) (fun rec a => T150_ok rec a.1 a.2)
  (fun a => a.1.length ≤ 1000000 ∧ okExpr a.2) (fun a => SizeOf.sizeOf a.2) (fun _ _ => True) (fun b f a ha hrec => ?_) true (fs, e) ⟨hf, h⟩
 obtain ⟨fs, e⟩ := a
 obtain ⟨hf, he⟩ := ha
 simp only at hf he hrec ⊢
 have hl := he.len
 unfold T150
 simp only [Tr.den, sq_bind]
 refine sq_count (fun s : List Int × Int => s.2) e.Args.length (by omega) (fun s => s.1.length = s.2.toNat) (fun s k hI hk hkN => ?_) rfl rfl
 obtain ⟨v1, v2⟩ := s
 simp only at hk hI
 subst hk
 unfold T150_L0
 simp only [Tr.den, Int.toNat_natCast] at hI ⊢
 by_cases hc : k < e.Args.length
 ·rw [if_pos (decT (by omega)), if_pos (by omega)]
  refine Sq.bind _ (hrec (fs, e.Args.getD k default) ⟨hf, he.arg _ (getD_mem hc)⟩ (sizeOf_arg (getD_mem hc))) fun r _ => ?_
  rw [if_pos (by simp only [List.length_cons, List.length_nil]; omega)]
  refine sq_some.2 ⟨rfl, hc, ?_⟩
  rw [wrap_inc (by omega)]; simp; omega
 ·rw [if_neg (decF (by omega))]
  refine sq_some.2 ?_
  simp only [sel]
  have hv : v1.length = e.Args.length := by omega
  have rest : Sq b ((whileM (fun s => (T150_L1 s).den) (1, v1, 0)).bind (sel (fun b10 => ((if (e.Op == 22) = true then (if decide (e.N ≥ 0) = true then some (decide (e.N < (fs.length : Int))) else some false) else some false)).bind fun j11 =>
    ((if j11 = true then (if 0 ≤ e.N ∧ e.N < (fs.length : Int) then some (if (1099511627776 : Int) < IntKind.i64.wrap (b10 + fs.getD e.N.toNat default) then (1099511627776 : Int) else IntKind.i64.wrap (b10 + fs.getD e.N.toNat default)) else none) else some b10)).bind fun j12 => some j12) some)) (fun _ => True) := by
   rw [sq_bind]
   refine sq_count (fun s : Int × List Int × Int => s.2.2) v1.length (by omega) (fun s => s.2.1 = v1) (fun s k hI hk hkN => ?_) rfl rfl
   obtain ⟨w1, w2, w3⟩ := s
   simp only at hk hI
   subst hk hI
   unfold T150_L1
   simp only [Tr.den, Int.toNat_natCast]
   by_cases hc : k < w2.length
   ·rw [if_pos (decT (by omega)), if_pos (by omega), if_pos hc]
    exact sq_some.2 ⟨rfl, hc, rfl⟩
   ·rw [if_neg (decF (by omega))]
    refine sq_some.2 ?_
    simp only [sel, dec_and]
    by_cases h22 : (e.Op == 22) = true
    ·rw [if_pos h22]
     simp only [Option.bind_some]
     by_cases hr : e.N ≥ 0 ∧ e.N < (fs.length : Int)
     ·rw [if_pos (decT hr), if_pos hr]; exact sq_some.2 trivial
     ·rw [if_neg (decF hr)]; exact sq_some.2 trivial
    ·rw [if_neg h22]; exact sq_some.2 trivial
  by_cases h21 : (e.Op == 21) = true
  ·rw [if_pos h21]
   simp only [Option.bind_some]
   by_cases h3 : ((v1.length : Int) == 3) = true
   ·rw [if_pos h3]
    have h3' : v1.length = 3 := by have := beq_iff_eq.1 h3; omega
    rw [if_pos (by omega), if_pos (by simp; omega), if_pos (by omega), if_pos (by simp; omega), if_pos (by omega), if_pos (by simp; omega)]
    exact sq_some.2 trivial
   ·rw [if_neg h3]; exact rest
  ·rw [if_neg h21]
   simp only [Option.bind_some, Bool.false_eq_true, if_false]
   exact rest
theorem G81_sp (e : Expr) (h : okExpr e) : Sp (G81 [] e) (fun _ => True) := by
 unfold G81 T81
 simp only [Tr.den]
 rw [whileM_stop (r := .inl []) (by unfold T81_L0; simp [Tr.den])]
 simp only [Option.bind_some, sel, sq_bind]
 exact (G150_sp [] e (by simp) h).imp fun _ _ => sq_some.2 trivial
theorem okEs.get {l : List Expr} (h : okL 56 okExpr l) {k : Nat} (hk : k < l.length) : okExpr (l.getD k default) := h.2 _ (getD_mem hk)
theorem G33_sp (n : GNode) (h : okGNode n) : Sp (G33 [] n) (fun r => r = true → n.Key.length ≤ 20 ∧ n.Key2.length ≤ 20) := by
 obtain ⟨_, _, _, _, hE, _, _, _, _, _, _, _, _, _, hS, _⟩ := h
 have hE1 := hE.1
 have hS1 := hS.1
 unfold G33 T33
 simp only [Tr.den]
 rw [whileM_stop (r := .inl ()) (by unfold T33_L0; simp [Tr.den])]
 simp only [Option.bind_some, sel, sq_bind]
 refine sq_count (fun s : Int => s) n.Exprs.length (by omega) (fun _ => True) (fun s k _ hk hkN => ?_) trivial rfl
 subst hk
 unfold T33_L1
 simp only [Tr.den, Int.toNat_natCast, dec_and, Option.bind_some]
 by_cases hc : ((k : Int) < (n.Exprs.length : Int)) ∧ (k : Int) < 13
 ·rw [if_pos (decT hc), if_pos (by omega)]
  have he := okEs.get hE (show k < n.Exprs.length by omega)
  refine Sq.bind _ (G79_sp _ he) fun r _ => ?_
  refine Sq.bind (fun _ => True) ?_ (fun j _ => ?_)
  ·by_cases h1 : r > 200
   ·rw [if_pos (decT h1)]; exact sq_some.2 trivial
   ·rw [if_neg (decF h1), if_pos (by omega)]
    refine Sq.bind _ (G80_sp _ he) fun r _ => ?_
    by_cases h2 : r > 12
    ·rw [if_pos (decT h2)]; exact sq_some.2 trivial
    ·rw [if_neg (decF h2), if_pos (by omega)]
     refine Sq.bind _ (G81_sp _ he) fun r _ => sq_some.2 trivial
  ·cases j with
   | true => exact sq_some.2 (sq_some.2 fun h => by cases h)
   | false => exact sq_some.2 ⟨rfl, by omega, trivial⟩
 ·rw [if_neg (decF hc)]
  refine sq_some.2 ?_
  simp only [sel, sq_bind]
  refine sq_count (fun s : Int => s) n.Seq.length (by omega) (fun _ => True) (fun s k _ hk hkN => ?_) trivial rfl
  subst hk
  unfold T33_L2
  simp only [Tr.den, Int.toNat_natCast, dec_and, Option.bind_some]
  by_cases hc : ((k : Int) < (n.Seq.length : Int)) ∧ (k : Int) < 9
  ·rw [if_pos (decT hc), if_pos (by omega)]
   have he : okExpr (n.Seq.getD k default).Pred := (hS.2 _ (getD_mem (show k < n.Seq.length by omega))).1
   refine Sq.bind _ (G79_sp _ he) fun r _ => ?_
   refine Sq.bind (fun _ => True) ?_ (fun j _ => ?_)
   ·by_cases h1 : r > 200
    ·rw [if_pos (decT h1)]; exact sq_some.2 trivial
    ·rw [if_neg (decF h1), if_pos (by omega)]
     refine Sq.bind _ (G80_sp _ he) fun r _ => ?_
     by_cases h2 : r > 12
     ·rw [if_pos (decT h2)]; exact sq_some.2 trivial
     ·rw [if_neg (decF h2), if_pos (by omega)]
      refine Sq.bind _ (G81_sp _ he) fun r _ => sq_some.2 trivial
   ·cases j with
    | true => exact sq_some.2 (sq_some.2 fun h => by cases h)
    | false => exact sq_some.2 ⟨rfl, by omega, trivial⟩
  ·rw [if_neg (decF hc)]
   refine sq_some.2 ?_
   simp only [sel]
   refine sq_some.2 fun h => ?_
   have h := of_decide_eq_true h
   omega
end Go.PL
namespace Go.PL
open Go
set_option linter.unusedVariables false
set_option maxRecDepth 20000
theorem G82_nil : G82 [] = some true := by
 unfold G82 T82
 simp only [Tr.den]
 rw [whileM_stop (r := .inl ()) (by unfold T82_L0; simp [Tr.den])]
 rfl
theorem G153_eq (a b c : Int) : G153 a b c = some (decide (b ≤ a ∧ a ≤ c)) := by
 unfold G153 T153
 simp only [Tr.den, dec_and, Option.bind_some]
theorem G88_sp (l types : List Int) (h : l.length ≤ 1048576) : Sp (G88 l types) (fun r => r = true → ∀ c, c ∈ l → 0 ≤ c ∧ c < types.length) := by
 unfold G88 T88
 simp only [Tr.den, sq_bind]
 refine sq_count (fun s : Int => s) l.length (by omega) (fun s => ∀ c, c ∈ l.take s.toNat → 0 ≤ c ∧ c < types.length) (fun s k hI hk hkN => ?_) (by simp) rfl
 subst hk
 unfold T88_L0
 simp only [Tr.den, Int.toNat_natCast] at hI ⊢
 by_cases hc : k < l.length
 ·rw [if_pos (decT (by omega)), if_pos (by omega)]
  by_cases h1 : l.getD k default < 0
  ·rw [if_pos (decT h1)]
   exact sq_some.2 (sq_some.2 fun h => by cases h)
  ·rw [if_neg (decF h1), if_pos (by omega)]
   simp only [Option.bind_some]
   by_cases h2 : l.getD k default ≥ types.length
   ·rw [if_pos (decT h2)]
    exact sq_some.2 (sq_some.2 fun h => by cases h)
   ·rw [if_neg (decF h2)]
    refine sq_some.2 ⟨rfl, hc, fun c hcm => ?_⟩
    rw [wrap_inc (by omega), Int.toNat_natCast, take_succ_getD hc, List.mem_append, List.mem_singleton] at hcm
    rcases hcm with hcm | rfl
    ·exact hI c hcm
    ·omega
 ·rw [if_neg (decF (by omega))]
  refine sq_some.2 (sq_some.2 fun _ => ?_)
  rwa [List.take_of_length_le (by omega)] at hI
theorem G90_sp (n : GNode) (a b : List Int) (h : n.Key.length ≤ 1048576) (ha : ∀ c, c ∈ n.Key → 0 ≤ c ∧ c < a.length) (hb : ∀ c, c ∈ n.Key2 → 0 ≤ c ∧ c < b.length) : Sp (G90 n a b) (fun _ => True) := by
 unfold G90 T90
 simp only [Tr.den]
 by_cases hl : (n.Key.length : Int) = n.Key2.length
 ·rw [if_neg (bneF hl)]
  refine sq_bind.2 ?_
  refine sq_count (fun s : Int => s) n.Key.length (by omega) (fun s => True) (fun s k hI hk hkN => ?_) trivial rfl
  subst hk
  unfold T90_L0
  simp only [Tr.den, Int.toNat_natCast]
  by_cases hc : k < n.Key.length
  ·have h1 := ha _ (getD_mem hc)
   have h2 := hb _ (getD_mem (show k < n.Key2.length by omega))
   rw [if_pos (decT (by omega)), if_pos (by omega), if_pos h1, if_pos (by omega), if_pos h2]
   split
   ·exact sq_some.2 (sq_some.2 trivial)
   ·exact sq_some.2 ⟨rfl, hc, trivial⟩
  ·rw [if_neg (decF (by omega))]
   exact sq_some.2 (sq_some.2 trivial)
 ·rw [if_pos (bneT hl)]; exact sq_some.2 trivial
structure RightN (n : GNode) (a b : List Int) : Prop where
 op : (n.Op = 6 ∧ okB n) ∨ (n.Op = 7 ∧ 1 ≤ n.Keep ∧ n.Keep ≤ 10000)
 k1 : ∀ c, c ∈ n.Key → 0 ≤ c ∧ c < a.length
 k2 : ∀ c, c ∈ n.Key2 → 0 ≤ c ∧ c < b.length
 la : a.length ≤ 12
 lb : b.length ≤ 12
theorem G83_sp (n : GNode) (hop : n.Op = 6 ∨ n.Op = 7) : Sp (G83 n) (fun r => r = true → (n.Op = 6 ∧ okB n) ∨ (n.Op = 7 ∧ 1 ≤ n.Keep ∧ n.Keep ≤ 10000)) := by
 unfold G83 T83
 simp only [Tr.den, G153_eq, Option.bind_some]
 rw [if_neg (beqF (by omega)), if_neg (beqF (by omega))]
 rcases hop with h | h
 ·rw [if_pos (beqT h)]
  by_cases h1 : 0 ≤ n.Before ∧ n.Before ≤ 10000
  ·rw [if_pos (decT h1)]
   exact sq_some.2 fun h2 => .inl ⟨h, h1, of_decide_eq_true h2⟩
  ·rw [if_neg (decF h1)]
   exact sq_some.2 fun h => by cases h
 ·rw [if_neg (beqF (by omega)), if_pos (beqT h)]
  exact sq_some.2 fun h2 => .inr ⟨h, of_decide_eq_true h2⟩
theorem G84_eq (n : GNode) (hop : n.Op = 6 ∨ n.Op = 7) : G84 n = some 2 := by
 unfold G84 T84
 simp only [Tr.den]
 rcases hop with h | h <;> simp [h]
theorem G34_sp (n : GNode) (a b : List Int) (hop : n.Op = 6 ∨ n.Op = 7) (h1 : n.Key.length ≤ 1048576) (h2 : n.Key2.length ≤ 1048576) (ha : a.length ≤ 1048576) (hb : b.length ≤ 1048576) : Sp (G34 [] n [a, b]) (fun r => r = true → RightN n a b) := by
 unfold G34 T34
 simp only [Tr.den]
 rw [G82_nil]
 simp only [Option.bind_some, Bool.not_true, Bool.false_eq_true, if_false]
 refine Sq.bind (fun j : Bool => j = false → (n.Op = 6 ∧ okB n) ∨ (n.Op = 7 ∧ 1 ≤ n.Keep ∧ n.Keep ≤ 10000)) ?_ (fun j hj => ?_)
 ·refine Sq.bind _ (G83_sp n hop) fun r hr => ?_
  cases r with
  | false => exact sq_some.2 fun h => by cases h
  | true =>
   simp only [Bool.not_true, Bool.false_eq_true, if_false]
   rw [G84_eq n hop]
   simp only [Option.bind_some]
   rw [if_neg (bneF (by rfl))]
   exact sq_some.2 fun _ => hr rfl
 ·cases j with
  | true => exact sq_some.2 fun h => by cases h
  | false =>
   have hop' := hj rfl
   simp only [Bool.false_eq_true, if_false]
   have w : IntKind.i64.wrap ((([a, b] : List (List Int)).length : Int) - 1) = 1 := by
    show IntKind.i64.wrap (2 - 1) = 1
    rw [wrap_id] <;> omega
   rw [if_pos (by simp), w, if_pos (by simp)]
   have e0 : ([a, b] : List (List Int)).getD (0 : Int).toNat default = a := rfl
   have e1 : ([a, b] : List (List Int)).getD (1 : Int).toNat default = b := rfl
   rw [e0, e1]
   refine Sq.bind (fun j : Bool => j = false → a.length ≤ 12 ∧ b.length ≤ 12) ?_ (fun j hj => ?_)
   ·refine sq_iteB (fun _ => sq_some.2 fun h => by cases h) fun _ => sq_iteB (fun _ => sq_some.2 fun h => by cases h) fun q1 => sq_iteB (fun _ => sq_some.2 fun h => by cases h) fun _ => sq_some.2 fun q2 => ?_
    have q1 := of_decide_eq_false q1
    have q2 := of_decide_eq_false q2
    omega
   ·cases j with
    | true => exact sq_some.2 fun h => by cases h
    | false =>
     have hlen := hj rfl
     simp only [Bool.false_eq_true, if_false]
     rw [if_neg (beqF (by omega)), if_neg (beqF (by omega)), if_neg (beqF (by omega)), if_neg (beqF (by omega)), if_neg (beqF (by omega))]
     have hor : ((if (n.Op == 6) = true then some (n.Op == 6) else some (n.Op == 7)) : Option Bool) = some true := by
      rcases hop with h | h
      ·rw [if_pos (beqT h), h]; rfl
      ·rw [if_neg (beqF (by omega)), h]; rfl
     rw [hor]
     simp only [Option.bind_some, if_true]
     refine Sq.bind _ (G88_sp n.Key a h1) fun r hr => ?_
     cases r with
     | false => exact sq_some.2 fun h => by cases h
     | true =>
      simp only [if_true]
      refine Sq.bind (fun r : Bool => r = true → RightN n a b) ?_ (fun r hr => sq_some.2 hr)
      refine Sq.bind _ (G88_sp n.Key2 b h2) fun r hr2 => ?_
      cases r with
      | false => exact sq_some.2 fun h => by cases h
      | true =>
       simp only [if_true]
       refine Sq.bind _ (G90_sp n a b h1 (hr rfl) (hr2 rfl)) fun r _ => ?_
       cases r with
       | false => exact sq_some.2 fun h => by cases h
       | true => exact sq_some.2 fun _ => ⟨hop', hr rfl, hr2 rfl, hlen.1, hlen.2⟩
theorem G184_sp (v : GValue) : Sp (G184 v) (fun _ => True) := by
 unfold G184 T184
 simp only [Tr.den]
 refine sq_iteB (fun _ => sq_some.2 trivial) fun _ => sq_iteB (fun _ => Sq.bind (fun _ => True) ?_ fun _ _ => sq_some.2 trivial) fun _ => Sq.bind (fun _ => True) ?_ fun _ _ => sq_some.2 trivial
 ·exact sq_iteB (fun _ => sq_some.2 trivial) fun _ => sq_some.2 trivial
 ·exact sq_iteB (fun _ => sq_iteB (fun _ => sq_some.2 trivial) fun _ => sq_iteB (fun _ => sq_some.2 trivial) fun _ => sq_some.2 trivial) fun _ => sq_some.2 trivial
theorem G149_sp (r : List GValue) (h : r.length ≤ 1048576) : Sp (G149 r) (fun _ => True) := by
 unfold G149 T149
 simp only [Tr.den, sq_bind]
 refine sq_count (fun s : Int => s) r.length (by omega) (fun s => True) (fun s k hI hk hkN => ?_) trivial rfl
 subst hk
 unfold T149_L0
 simp only [Tr.den, Int.toNat_natCast]
 by_cases hc : k < r.length
 ·rw [if_pos (decT (by omega)), if_pos (by omega)]
  refine Sq.bind _ (G184_sp _) fun q _ => ?_
  cases q with
  | false => exact sq_some.2 (sq_some.2 trivial)
  | true => exact sq_some.2 ⟨rfl, hc, trivial⟩
 ·rw [if_neg (decF (by omega))]
  exact sq_some.2 (sq_some.2 trivial)
theorem G78_sp (r : List GValue) (h : r.length ≤ 1048576) : Sp (G78 r) (fun _ => True) := by
 unfold G78 T78
 simp only [Tr.den]
 refine Sq.bind (fun _ => True) ?_ fun _ _ => sq_some.2 trivial
 exact sq_iteB (fun _ => Sq.bind _ (G149_sp r h) fun _ _ => sq_some.2 trivial) fun _ => sq_some.2 trivial
theorem G30_sp (x : GDelta) (types : List Int) (h : x.Row.length ≤ 1048576) (ht : types.length ≤ 1048576) : Sp (G30 [x] types 1) (fun r => r = true → 0 ≤ x.Time ∧ x.Time ≤ 2199023255552 ∧ x.Row.length = types.length) := by
 unfold G30 T30
 simp only [Tr.den, sq_bind]
 refine sq_count (fun s : Int => s) 1 (by omega) (fun s => 1 ≤ s.toNat → 0 ≤ x.Time ∧ x.Time ≤ 2199023255552 ∧ x.Row.length = types.length) (fun s k hI hk hkN => ?_) (by simp) rfl
 subst hk
 unfold T30_L0
 simp only [Tr.den, Int.toNat_natCast, dec_and, Option.bind_some] at hI ⊢
 by_cases hc : k < 1
 ·obtain rfl : k = 0 := by omega
  have e0 : ([x] : List GDelta).getD 0 default = x := rfl
  have el : (([x] : List GDelta).length : Int) = 1 := rfl
  rw [if_pos (decT (by omega)), if_pos (by omega)]
  have rest : 0 ≤ x.Time ∧ x.Time ≤ 2199023255552 ∧ x.Row.length = types.length →
    Sp ((whileM (fun s => (T30_L1 [x] types ((0 : Nat) : Int) s).den) 0).bind (sel (fun _ => some (Sum.inl (IntKind.i64.wrap (((0 : Nat) : Int) + 1)))) some)) (sel (fun s' : Int => s' = IntKind.i64.wrap (((0 : Nat) : Int) + 1) ∧ 0 < 1 ∧ (1 ≤ s'.toNat → 0 ≤ x.Time ∧ x.Time ≤ 2199023255552 ∧ x.Row.length = types.length)) (fun r : Unit ⊕ Bool => Sp (sel (fun _ => some (decide ((1 : Int) ≤ 1))) some r) (fun r => r = true → 0 ≤ x.Time ∧ x.Time ≤ 2199023255552 ∧ x.Row.length = types.length))) := by
   intro hx
   have e2 : (([x] : List GDelta).getD 0 default).Row.length = types.length := hx.2.2
   refine sq_bind.2 ?_
   refine sq_count (fun s : Int => s) types.length (by omega) (fun s => True) (fun s k hI hk hkN => ?_) trivial rfl
   subst hk
   unfold T30_L1
   simp only [Tr.den, Int.toNat_natCast]
   by_cases hc : k < types.length
   ·rw [if_pos (decT (by omega)), if_pos (by omega), if_pos (by omega), if_pos (by omega)]
    split
    ·exact sq_some.2 (sq_some.2 (sq_some.2 fun h => by cases h))
    ·exact sq_some.2 ⟨rfl, hc, trivial⟩
   ·rw [if_neg (decF (by omega))]
    exact sq_some.2 (sq_some.2 ⟨rfl, by omega, fun _ => hx⟩)
  refine Sq.bind (fun j : Bool => j = false → 0 ≤ x.Time ∧ x.Time ≤ 2199023255552 ∧ x.Row.length = types.length) ?_ (fun j hj => ?_)
  ·refine sq_iteB (fun _ => sq_some.2 fun h => by cases h) fun q1 => sq_grd (by omega) (sq_iteB (fun _ => sq_some.2 fun h => by cases h) fun q2 => sq_grd (by omega) (sq_iteB (fun _ => sq_some.2 fun h => by cases h) fun q3 => sq_grd (by omega) (sq_iteB (fun _ => sq_some.2 fun h => by cases h) fun q4 => sq_grd (by omega) (sq_iteB (fun _ => sq_some.2 fun h => by cases h) fun q5 => sq_grd (by omega) (Sq.bind _ (G78_sp _ h) fun r _ => sq_some.2 fun _ => ?_)))))
   have q1 := of_decide_eq_false q1
   have q2 := of_decide_eq_false q2
   simp only [bne_eq_false_iff_eq] at q5
   rw [e0] at q1 q2 q5
   omega
  ·cases j with
   | true => exact sq_some.2 (sq_some.2 fun h => by cases h)
   | false => exact rest (hj rfl)
 ·obtain rfl : k = 1 := by omega
  rw [if_neg (decF (by simp))]
  exact sq_some.2 (sq_some.2 fun _ => hI (by omega))
end Go.PL
namespace Go.PL
open Go
set_option linter.unusedVariables false
set_option maxRecDepth 20000
abbrev inA (x : GAct) : Int := bitA .i64 x.Do 1
abbrev isCl (x : GAct) : Bool := bitA .i64 x.Do 3 == 3
def two {α : Type} (i : Int) (a b : α) : α := if i = 0 then a else b
theorem two_get {α : Type} [Inhabited α] {i : Int} (hi : i = 0 ∨ i = 1) (a b : α) : ([a, b] : List α).getD i.toNat default = two i a b := by
 rcases hi with rfl | rfl <;> rfl
theorem two_set {α : Type} {i : Int} (hi : i = 0 ∨ i = 1) (a b c : α) : ([a, b] : List α).set i.toNat c = [if i = 0 then c else a, if i = 0 then b else c] := by
 rcases hi with rfl | rfl <;> rfl
theorem two_ite {α : Type} (i : Int) (x a b : α) : two i (if i = 0 then x else a) (if i = 0 then b else x) = x := by
 by_cases h : i = 0 <;> simp [two, h]
theorem two_len (i : Int) (x a b : List GDelta) (c : Nat) (h : x.length ≤ (two i a b).length + c) : (if i = 0 then x else a).length + (if i = 0 then b else x).length ≤ a.length + b.length + c := by
 by_cases hi : i = 0
 ·unfold two at h; rw [if_pos hi] at h; rw [if_pos hi, if_pos hi]; omega
 ·unfold two at h; rw [if_neg hi] at h; rw [if_neg hi, if_neg hi]; omega
def FitsR (ta tb : List Int) : List GAct → List GDelta → List GDelta → Int → Prop
 | [], _, _, _ => True
 | x :: l, s0, s1, c => (isCl x = true → x.C ≤ 2199023255552 ∧ FitsR ta tb l s0 s1 (if x.C > c then x.C else c)) ∧
  (isCl x = false → x.L.length ≤ 8 ∧ (∀ d, d ∈ x.L → c < d.Time ∧ 0 ≤ d.Time ∧ d.Time ≤ 2199023255552 ∧ d.Row.length = (two (inA x) ta tb).length ∧ -3 ≤ d.N ∧ d.N ≤ 3) ∧ (∀ d, d ∈ cons (two (inA x) s0 s1 ++ x.L) → 1 ≤ d.N ∧ d.N ≤ 20) ∧
   FitsR ta tb l (if inA x = 0 then cons (two (inA x) s0 s1 ++ x.L) else s0) (if inA x = 0 then s1 else cons (two (inA x) s0 s1 ++ x.L)) c)
theorem okGDelta.okd {l : List GDelta} (h : okL 40 okGDelta l) : okD l := ⟨fun d hd => by
 have := (h.2 d hd).2.1.1
 unfold okR; omega, fun d hd => (h.2 d hd).2.2⟩
theorem fitsL1 (ta tb : List Int) (acts : List GAct) (k : Nat) (hk : k < acts.length) (v3 : Int) (v7 : List (List GDelta)) (hok : okGAct (acts.getD k default)) (ha : ta.length ≤ 1048576) (hb : tb.length ≤ 1048576) (hL : (acts.getD k default).L.length ≤ 8) :
  Sp (whileM (fun s => (T35_L1 [ta, tb] acts v3 (k : Int) s).den) (v7, 0)) (fun z => z = .inr (.inr (.inr (.inr false))) ∨ (z = .inl v7 ∧ ∀ d, d ∈ (acts.getD k default).L → v3 < d.Time ∧ 0 ≤ d.Time ∧ d.Time ≤ 2199023255552 ∧ d.Row.length = (two (inA (acts.getD k default)) ta tb).length ∧ -3 ≤ d.N ∧ d.N ≤ 3)) := by
 have hi := bit1 (acts.getD k default).Do
 have hd := hok.2.2
 refine sq_count (fun s : List (List GDelta) × Int => s.2) (acts.getD k default).L.length (by omega) (fun s => s.1 = v7 ∧ ∀ d, d ∈ (acts.getD k default).L.take s.2.toNat → v3 < d.Time ∧ 0 ≤ d.Time ∧ d.Time ≤ 2199023255552 ∧ d.Row.length = (two (inA (acts.getD k default)) ta tb).length ∧ -3 ≤ d.N ∧ d.N ≤ 3) (fun s q hI hq hqN => ?_) ⟨rfl, by simp⟩ rfl
 obtain ⟨w7, w8⟩ := s
 obtain ⟨h1, hI⟩ := hI
 simp only at hq h1 hI
 subst hq h1
 unfold T35_L1
 simp only [Tr.den, Int.toNat_natCast] at hI ⊢
 rw [if_pos (by omega)]
 by_cases hc : q < (acts.getD k default).L.length
 ·have hm := getD_mem hc
  have hx := hd.2 _ hm
  rw [if_pos (decT (by omega)), if_pos (by omega), if_pos (by omega)]
  refine Sq.bind (fun j : List (List GDelta) × Bool => j.1 = w7 ∧ (j.2 = false → v3 < ((acts.getD k default).L.getD q default).Time ∧ -3 ≤ ((acts.getD k default).L.getD q default).N ∧ ((acts.getD k default).L.getD q default).N ≤ 3)) ?_ (fun j hj => ?_)
  ·refine sq_iteB (fun _ => sq_some.2 ⟨rfl, fun h => by cases h⟩) fun q1 => sq_iteB (fun _ => sq_some.2 ⟨rfl, fun h => by cases h⟩) fun q2 => sq_some.2 ⟨rfl, fun q3 => ?_⟩
   have q1 := of_decide_eq_false q1
   have q2 := of_decide_eq_false q2
   have q3 := of_decide_eq_false q3
   omega
  ·obtain ⟨j1, j2⟩ := j
   obtain ⟨hj1, hj2⟩ := hj
   simp only at hj1 hj2
   subst hj1
   cases j2 with
   | true => exact sq_some.2 (.inl rfl)
   | false =>
    have hj2 := hj2 rfl
    simp only [Bool.false_eq_true, if_false]
    rw [if_pos (by simp only [List.length_cons, List.length_nil]; omega), two_get hi]
    refine Sq.bind _ (G30_sp _ _ (by exact hx.2.1.1) (by unfold two; split <;> assumption)) (fun r hr => ?_)
    cases r with
    | false => exact sq_some.2 (.inl rfl)
    | true =>
     have hr := hr rfl
     simp only at hr
     refine sq_some.2 ⟨rfl, hc, rfl, fun d hdm => ?_⟩
     rw [wrap_inc (by omega), Int.toNat_natCast, take_succ_getD hc, List.mem_append, List.mem_singleton] at hdm
     rcases hdm with hdm | rfl
     ·exact hI d hdm
     ·exact ⟨hj2.1, hr.1, hr.2.1, hr.2.2, hj2.2⟩
 ·rw [if_neg (decF (by omega))]
  refine sq_some.2 (.inr ⟨rfl, ?_⟩)
  rwa [List.take_of_length_le (by omega)] at hI
theorem fitsL2 (ta tb : List Int) (acts : List GAct) (k : Nat) (hk : k < acts.length) (v3 : Int) (s0 s1 : List GDelta) (h0 : (two (inA (acts.getD k default)) s0 s1).length ≤ 1000000) :
  Sp (whileM (fun s => (T35_L2 [ta, tb] acts v3 (k : Int) s).den) ([s0, s1], 0)) (fun z => z = .inr (.inr (.inr (.inr false))) ∨ (z = .inl [s0, s1] ∧ ∀ d, d ∈ two (inA (acts.getD k default)) s0 s1 → 1 ≤ d.N ∧ d.N ≤ 20)) := by
 have hi := bit1 (acts.getD k default).Do
 rw [← two_get hi s0 s1] at h0 ⊢
 refine sq_count (fun s : List (List GDelta) × Int => s.2) (([s0, s1] : List (List GDelta)).getD (bitA .i64 (acts.getD k default).Do 1).toNat default).length (by omega) (fun s => s.1 = [s0, s1] ∧ ∀ d, d ∈ (([s0, s1] : List (List GDelta)).getD (bitA .i64 (acts.getD k default).Do 1).toNat default).take s.2.toNat → 1 ≤ d.N ∧ d.N ≤ 20) (fun s q hI hq hqN => ?_) ⟨rfl, by simp⟩ rfl
 obtain ⟨w7, w8⟩ := s
 obtain ⟨h1, hI⟩ := hI
 simp only at hq h1 hI
 subst hq h1
 unfold T35_L2
 simp only [Tr.den, Int.toNat_natCast] at hI ⊢
 have hlen : (([s0, s1] : List (List GDelta)).length : Int) = 2 := rfl
 have g1 : 0 ≤ bitA .i64 (acts.getD k default).Do 1 ∧ bitA .i64 (acts.getD k default).Do 1 < (([s0, s1] : List (List GDelta)).length : Int) := by omega
 have g2 : (bitA .i64 (acts.getD k default).Do 1).toNat < ([s0, s1] : List (List GDelta)).length := by simp only [List.length_cons, List.length_nil]; omega
 rw [if_pos g1, if_pos g2]
 by_cases hc : q < (([s0, s1] : List (List GDelta)).getD (bitA .i64 (acts.getD k default).Do 1).toNat default).length
 ·rw [if_pos (decT (by omega)), if_pos g1, if_pos g2, if_pos (by omega)]
  refine Sq.bind (fun j : List (List GDelta) × Bool => j.1 = [s0, s1] ∧ (j.2 = false → 1 ≤ ((([s0, s1] : List (List GDelta)).getD (bitA .i64 (acts.getD k default).Do 1).toNat default).getD q default).N ∧ ((([s0, s1] : List (List GDelta)).getD (bitA .i64 (acts.getD k default).Do 1).toNat default).getD q default).N ≤ 20)) ?_ (fun j hj => ?_)
  ·refine sq_iteB (fun _ => sq_some.2 ⟨rfl, fun h => by cases h⟩) fun q1 => sq_grd g1 (sq_grd g2 (sq_grd (by omega) (sq_some.2 ⟨rfl, fun q3 => ?_⟩)))
   have q1 := of_decide_eq_false q1
   have q3 := of_decide_eq_false q3
   omega
  ·obtain ⟨j1, j2⟩ := j
   obtain ⟨hj1, hj2⟩ := hj
   simp only at hj1 hj2
   subst hj1
   cases j2 with
   | true => exact sq_some.2 (.inl rfl)
   | false =>
    refine sq_some.2 ⟨rfl, hc, rfl, fun d hdm => ?_⟩
    rw [wrap_inc (by omega), Int.toNat_natCast, take_succ_getD hc, List.mem_append, List.mem_singleton] at hdm
    rcases hdm with hdm | rfl
    ·exact hI d hdm
    ·exact hj2 rfl
 ·rw [if_neg (decF (by omega))]
  refine sq_some.2 (.inr ⟨rfl, ?_⟩)
  rwa [List.take_of_length_le (by omega)] at hI
theorem G35_sp (ta tb : List Int) (acts : List GAct) (most : Nat) (hm : most ≤ 1000) (hok : okL 40 okGAct acts) (ha : ta.length ≤ 1048576) (hb : tb.length ≤ 1048576) :
  Sp (G35 [ta, tb] acts (most : Int)) (fun r => r = true → acts.length ≤ most ∧ FitsR ta tb acts [] [] (-1)) := by
 unfold G35 T35
 simp only [Tr.den]
 by_cases hlen : (acts.length : Int) > (most : Int)
 ·rw [if_pos (decT hlen)]
  exact sq_some.2 fun h => by cases h
 ·rw [if_neg (decF hlen)]
  simp only [Option.bind_some]
  rw [if_neg (by simp)]
  refine sq_bind.2 ?_
  refine sq_count (fun s : List (List GDelta) × Int × Int => s.2.2) acts.length (by omega) (fun s => ∃ s0 s1, s.1 = [s0, s1] ∧ okD s0 ∧ okD s1 ∧ s0.length + s1.length ≤ 8 * s.2.2.toNat ∧ (FitsR ta tb (acts.drop s.2.2.toNat) s0 s1 s.2.1 → FitsR ta tb acts [] [] (-1))) (fun s k hI hk hkN => ?_)
   ⟨[], [], rfl, .nil, .nil, by simp, by simp⟩ rfl
  obtain ⟨v2, v3, v4⟩ := s
  obtain ⟨s0, s1, e, o0, o1, hl, hI⟩ := hI
  simp only at hk e hl hI
  subst hk e
  simp only [Int.toNat_natCast] at hl hI
  unfold T35_L0
  simp only [Tr.den, Int.toNat_natCast]
  by_cases hc : k < acts.length
  ·have hok' := hok.2 _ (getD_mem hc)
   have hi := bit1 (acts.getD k default).Do
   rw [drop_getD hc] at hI
   rw [if_pos (decT (by omega))]
   refine Sq.bind (fun z => z = .inr (.inr (.inr false)) ∨ ∃ t0 t1 c, z = .inl ([t0, t1], c) ∧ okD t0 ∧ okD t1 ∧ t0.length + t1.length ≤ 8 * (k + 1) ∧ (FitsR ta tb (acts.drop (k + 1)) t0 t1 c → FitsR ta tb acts [] [] (-1))) ?_ (fun z hz => ?_)
   ·rw [if_pos (by omega)]
    refine sq_iteB (fun h3 => ?_) (fun h3 => ?_)
    ·rw [if_pos (by omega)]
     by_cases h4 : (acts.getD k default).C > 2199023255552
     ·rw [if_pos (decT h4)]; exact sq_some.2 (.inl rfl)
     ·rw [if_neg (decF h4), if_pos (by omega)]
      refine sq_some.2 (.inr ⟨s0, s1, _, rfl, o0, o1, by omega, fun hF => hI ⟨fun _ => ⟨by omega, hF⟩, fun h => ?_⟩⟩)
      rw [show isCl (acts.getD k default) = true from h3] at h; cases h
    ·rw [if_pos (by omega), if_pos (by omega)]
     by_cases h4 : ((acts.getD k default).L.length : Int) > 8
     ·rw [if_pos (decT h4)]; exact sq_some.2 (.inl rfl)
     ·rw [if_neg (decF h4)]
      refine Sq.bind _ (fitsL1 ta tb acts k hc v3 [s0, s1] hok' ha hb (by omega)) (fun z hz => ?_)
      rcases hz with rfl | ⟨rfl, hz⟩
      ·exact sq_some.2 (.inl rfl)
      ·simp only [sel]
       have g1 : 0 ≤ bitA .i64 (acts.getD k default).Do 1 ∧ bitA .i64 (acts.getD k default).Do 1 < (([s0, s1] : List (List GDelta)).length : Int) := by simp only [List.length_cons, List.length_nil]; omega
       have g2 : (bitA .i64 (acts.getD k default).Do 1).toNat < ([s0, s1] : List (List GDelta)).length := by simp only [List.length_cons, List.length_nil]; omega
       have otw : okD (two (inA (acts.getD k default)) s0 s1) := by unfold two; split <;> assumption
       have ltw : (two (inA (acts.getD k default)) s0 s1).length ≤ 8 * k := by unfold two; split <;> omega
       have okL' := okGDelta.okd hok'.2.2
       rw [if_pos g1, if_pos g2, if_pos (by omega), two_get hi, G47_eq _ _ otw okL' (by omega)]
       simp only [Option.bind_some]
       rw [if_pos g1, if_pos g2]
       refine sq_grd (by simp only [List.all_cons, List.all_nil, Bool.and_true, decide_eq_true_eq]; exact g2) ?_
       rw [two_set hi]
       have hcl := cons_len (two (inA (acts.getD k default)) s0 s1 ++ (acts.getD k default).L)
       rw [List.length_append] at hcl
       have okc := (otw.app okL').cons
       have etw : two (inA (acts.getD k default)) (if inA (acts.getD k default) = 0 then cons (two (inA (acts.getD k default)) s0 s1 ++ (acts.getD k default).L) else s0) (if inA (acts.getD k default) = 0 then s1 else cons (two (inA (acts.getD k default)) s0 s1 ++ (acts.getD k default).L)) = cons (two (inA (acts.getD k default)) s0 s1 ++ (acts.getD k default).L) := two_ite _ _ _ _
       have h2 := fitsL2 ta tb acts k hc v3 (if inA (acts.getD k default) = 0 then cons (two (inA (acts.getD k default)) s0 s1 ++ (acts.getD k default).L) else s0) (if inA (acts.getD k default) = 0 then s1 else cons (two (inA (acts.getD k default)) s0 s1 ++ (acts.getD k default).L)) (by rw [etw]; omega)
       rw [etw] at h2
       refine Sq.bind _ h2 (fun z hz2 => ?_)
       rcases hz2 with rfl | ⟨rfl, hz2⟩
       ·exact sq_some.2 (.inl rfl)
       ·refine sq_some.2 (.inr ⟨_, _, _, rfl, by split <;> assumption, by split <;> assumption, ?_, fun hF => hI ⟨fun h => ?_, fun _ => ⟨by omega, hz, hz2, hF⟩⟩⟩)
        ·exact Nat.le_trans (two_len _ _ _ _ 8 (by omega)) (by omega)
        ·rw [show isCl (acts.getD k default) = false from h3] at h; cases h
   ·rcases hz with rfl | ⟨t0, t1, c, rfl, p0, p1, pl, hF⟩
    ·exact sq_some.2 (sq_some.2 fun h => by cases h)
    ·refine sq_some.2 ⟨rfl, hc, t0, t1, rfl, p0, p1, ?_, ?_⟩
     ·simp only; rw [wrap_inc (by omega), Int.toNat_natCast]; exact pl
     ·simp only; rw [wrap_inc (by omega), Int.toNat_natCast]; exact hF
  ·rw [if_neg (decF (by omega))]
   refine sq_some.2 (sq_some.2 fun _ => ⟨by omega, hI ?_⟩)
   rw [List.drop_eq_nil_of_le (by omega)]; trivial
end Go.PL
namespace Go.PL
open Go
set_option linter.unusedVariables false
set_option maxRecDepth 20000
theorem ofK_app (n : GNode) (i : Int) (k : ByteArray) (l r : List GDelta) : ofK n i k (l ++ r) = ofK n i k l ++ ofK n i k r := List.filter_append ..
theorem Same.ofK {l r : List GDelta} (h : Same l r) (n : GNode) (i : Int) (k : ByteArray) : Same (ofK n i k l) (ofK n i k r) := h.filter (fun p => decide (keyB n i p.2 = k))
theorem Same.aft {l r : List GDelta} (h : Same l r) (t : Int) : Same (l.filter (PL.aft t)) (r.filter (PL.aft t)) := h.filter (fun p => decide (t < p.1))
theorem okN.sub {l r : List GDelta} (h : okN l) (hs : ∀ x, x ∈ r → x ∈ l) : okN r := fun x hx => h x (hs x hx)
theorem ofK_mem {n : GNode} {i : Int} {k : ByteArray} {l : List GDelta} {x : GDelta} : x ∈ ofK n i k l ↔ x ∈ l ∧ kd n i x = k := by
 unfold ofK
 rw [List.mem_filter, decide_eq_true_eq]
theorem ofK_push {n : GNode} {i : Int} {k : ByteArray} {a l : List GDelta} {t : Int} (ha : Can a) (hl : okN l) (hal : ∀ d, d ∈ l → aft t d = true) :
  cons (ofK n i k (a.filter (aft t)) ++ ofK n i k (cons l)) = ofK n i k ((cons (a ++ l)).filter (aft t)) := by
 have hal' : okN (a ++ l) := fun x hx => (List.mem_append.1 hx).elim (ha.n64 x) (hl x)
 have hcl := cons_can hl
 refine cons_eq ((((cons_can hal').filter _)).filter _) (fun x hx => ?_) ?_
 ·rcases List.mem_append.1 hx with hx | hx
  ·exact ha.n64 x (List.mem_filter.1 (ofK_mem.1 hx).1).1
  ·exact hcl.n64 x (ofK_mem.1 hx).1
 ·have h1 : Same (ofK n i k ((cons (a ++ l)).filter (aft t))) (ofK n i k ((a ++ l).filter (aft t))) := ((cons_same (a ++ l)).aft t).ofK n i k
  have h2 : ofK n i k ((a ++ l).filter (aft t)) = ofK n i k (a.filter (aft t)) ++ ofK n i k l := by
   rw [List.filter_append, List.filter_eq_self.2 hal, ofK_app]
  rw [h2] at h1
  exact h1.trans (Same.app (.refl _) ((cons_same l).ofK n i k).symm)
structure InOk (n : GNode) (i : Int) (a : List GDelta) : Prop where
 can : Can a
 ok : okI n i a
 len : a.length ≤ 900
 pos : ∀ d, d ∈ a → 1 ≤ d.N ∧ d.N ≤ 20
structure OInv (n : GNode) (a0 a1 : List GDelta) (t : Int) (m : KS) : Prop where
 mc : MC m
 look : ∀ k, mlook m k = keepS ⟨⟨ofK n 0 k (a0.filter (aft t)), ofK n 1 k (a1.filter (aft t))⟩⟩
theorem keepS_some {s s' : GSide} (h : keepS s = some s') : s' = s := by
 unfold keepS at h; split at h
 ·cases h
 ·cases h; rfl
theorem keepS_getD (s : GSide) : (keepS s).getD side0 = s := by
 unfold keepS
 split
 ·rename_i h
  obtain ⟨⟨e0, e1⟩⟩ := s
  simp only at h
  have h0 : e0 = [] := List.eq_nil_of_length_eq_zero (by omega)
  have h1 : e1 = [] := List.eq_nil_of_length_eq_zero (by omega)
  subst h0 h1; rfl
 ·rfl
theorem OInv.okM {n : GNode} {a0 a1 : List GDelta} {t : Int} {m : KS} (h : OInv n a0 a1 t m) (h0 : InOk n 0 a0) (h1 : InOk n 1 a1) : okM n m := by
 refine ⟨h.mc, fun k s hs => ?_⟩
 rw [h.look] at hs
 rw [keepS_some hs]
 have f : ∀ (i : Int) (a : List GDelta), (ofK n i k (a.filter (aft t))).length ≤ a.length := fun i a => Nat.le_trans (ofK_len _ _ _ _) (List.length_filter_le _ _)
 have l0 := f 0 a0
 have l1 := f 1 a1
 have q0 := h0.len
 have q1 := h1.len
 exact ⟨(h0.can.filter _).filter _, (h1.can.filter _).filter _, h0.ok.sub fun x hx => (List.mem_filter.1 (ofK_mem.1 hx).1).1, h1.ok.sub fun x hx => (List.mem_filter.1 (ofK_mem.1 hx).1).1, by simp only; omega, by simp only; omega⟩
theorem OInv.push {n : GNode} {a0 a1 : List GDelta} {t : Int} {m : KS} (h : OInv n a0 a1 t m) (c0 : Can a0) (c1 : Can a1) {i : Int} (hi : i = 0 ∨ i = 1) {l : List GDelta} (hl : okN l) (hal : ∀ d, d ∈ l → aft t d = true) :
  OInv n (if i = 0 then cons (two i a0 a1 ++ l) else a0) (if i = 0 then a1 else cons (two i a0 a1 ++ l)) t (pushM n i (cons l) m) := by
 refine ⟨pushM_mc n i _ h.mc, fun k => ?_⟩
 have e : mlook (pushM n i (cons l) m) k = keepS (updS i ⟨⟨ofK n 0 k (a0.filter (aft t)), ofK n 1 k (a1.filter (aft t))⟩⟩ (ofK n i k (cons l))) := by
  by_cases hk : k ∈ mkeys (groupM n i (cons l))
  ·rw [pushM_in hk]
   unfold newS
   rw [h.look, keepS_getD]
  ·rw [pushM_out hk, h.look]
   have hn : ofK n i k (cons l) = [] := by
    refine Classical.byContradiction fun hne => hk (mkeys_look.2 ⟨ofK n i k (cons l), ?_⟩)
    rw [groupM_look, if_neg hne]
   rw [hn]
   congr 1
   unfold updS
   split
   ·rw [List.append_nil, show cons (ofK n 0 k (a0.filter (aft t))) = ofK n 0 k (a0.filter (aft t)) from cons_id (ofK_can (c0.filter _))]
   ·rw [List.append_nil, show cons (ofK n 1 k (a1.filter (aft t))) = ofK n 1 k (a1.filter (aft t)) from cons_id (ofK_can (c1.filter _))]
 rw [e]
 congr 1
 rcases hi with rfl | rfl
 ·unfold updS
  rw [if_pos rfl, if_pos rfl, if_pos rfl, show two 0 a0 a1 = a0 from rfl, ofK_push c0 hl hal]
 ·unfold updS
  rw [if_neg (by omega), if_neg (by omega), if_neg (by omega), show two 1 a0 a1 = a1 from rfl, ofK_push c1 hl hal]
theorem aft_aft {t t' : Int} (h : t ≤ t') (l : List GDelta) : (l.filter (aft t)).filter (aft t') = l.filter (aft t') := by
 rw [List.filter_filter]
 congr 1
 funext d
 unfold aft
 rw [Bool.eq_iff_iff, Bool.and_eq_true, decide_eq_true_eq, decide_eq_true_eq]
 omega
theorem filter_comm' (p q : GDelta → Bool) (l : List GDelta) : (l.filter p).filter q = (l.filter q).filter p := by
 rw [List.filter_filter, List.filter_filter]
 congr 1
 funext d
 exact Bool.and_comm _ _
theorem OInv.close {n : GNode} {a0 a1 : List GDelta} {t t' : Int} {m : KS} (h : OInv n a0 a1 t m) (ht : t ≤ t') : OInv n a0 a1 t' (closeM t' m) := by
 refine ⟨closeM_mc _ h.mc, fun k => ?_⟩
 rw [closeM_look, h.look]
 have e : ∀ (i : Int) (a : List GDelta), (ofK n i k (a.filter (aft t))).filter (aft t') = ofK n i k (a.filter (aft t')) := by
  intro i a
  unfold ofK
  rw [filter_comm', aft_aft ht]
 have hc : cutS t' ⟨⟨ofK n 0 k (a0.filter (aft t)), ofK n 1 k (a1.filter (aft t))⟩⟩ = ⟨⟨ofK n 0 k (a0.filter (aft t')), ofK n 1 k (a1.filter (aft t'))⟩⟩ := by
  unfold cutS; simp only [e]
 by_cases hz : (ofK n 0 k (a0.filter (aft t))).length + (ofK n 1 k (a1.filter (aft t))).length = 0
 ·have : keepS ⟨⟨ofK n 0 k (a0.filter (aft t)), ofK n 1 k (a1.filter (aft t))⟩⟩ = none := by unfold keepS; rw [if_pos hz]
  rw [this, ← hc]
  unfold keepS cutS
  have q0 := List.length_filter_le (aft t') (ofK n 0 k (a0.filter (aft t)))
  have q1 := List.length_filter_le (aft t') (ofK n 1 k (a1.filter (aft t)))
  rw [if_pos (by simp only; omega)]
  rfl
 ·have : keepS ⟨⟨ofK n 0 k (a0.filter (aft t)), ofK n 1 k (a1.filter (aft t))⟩⟩ = some ⟨⟨ofK n 0 k (a0.filter (aft t)), ofK n 1 k (a1.filter (aft t))⟩⟩ := by unfold keepS; rw [if_neg hz]
  rw [this, Option.bind_some, hc]
theorem OInv.init (n : GNode) (t : Int) : OInv n [] [] t [] := ⟨MC_nil, fun k => rfl⟩
theorem sumK_congr {f g : ByteArray → Int} {ks : List ByteArray} (h : ∀ k, k ∈ ks → f k = g k) : sumK f ks = sumK g ks := by
 induction ks with
 | nil => rfl
 | cons k ks ih => simp only [sumK, h k List.mem_cons_self, ih fun k' hk => h k' (List.mem_cons_of_mem _ hk)]
theorem sumK_add (f g : ByteArray → Int) (ks : List ByteArray) : sumK (fun k => f k + g k) ks = sumK f ks + sumK g ks := by
 induction ks with
 | nil => rfl
 | cons k ks ih => simp only [sumK, ih]; omega
theorem sumK_zero (ks : List ByteArray) : sumK (fun _ => 0) ks = 0 := by
 induction ks with
 | nil => rfl
 | cons k ks ih => simp only [sumK, ih]; rfl
theorem sumK_one (q : ByteArray) (v : Int) : ∀ (ks : List ByteArray), ks.Nodup → q ∈ ks → sumK (fun k => if q = k then v else 0) ks = v
 | [], _, h => by simp at h
 | k :: ks, hn, h => by
  have h1 := List.nodup_cons.1 hn
  simp only [sumK]
  by_cases hq : q = k
  ·subst hq
   rw [if_pos rfl, sumK_congr (f := fun k => if q = k then v else 0) (g := fun _ => 0) (fun k' hk' => if_neg (fun he : q = k' => h1.1 (he ▸ hk'))), sumK_zero]; omega
  ·rw [if_neg hq, sumK_one q v ks h1.2 ((List.mem_cons.1 h).resolve_left hq)]; omega
theorem sumK_ofK (p : Pl → Bool) (n : GNode) (i : Int) (ks : List ByteArray) (hn : ks.Nodup) : ∀ (l : List GDelta), (∀ x, x ∈ l → kd n i x ∈ ks) → sumK (fun k => wt p (ofK n i k l)) ks = wt p l
 | [], _ => by
  refine Eq.trans (sumK_congr (g := fun _ => 0) fun k _ => rfl) (sumK_zero ks)
 | x :: l, h => by
  have ih := sumK_ofK p n i ks hn l fun y hy => h y (List.mem_cons_of_mem _ hy)
  have e : ∀ k, wt p (ofK n i k (x :: l)) = (if kd n i x = k then (if p (pl x) = true then x.N else 0) else 0) + wt p (ofK n i k l) := by
   intro k
   unfold ofK
   by_cases hk : kd n i x = k
   ·rw [List.filter_cons_of_pos (p := fun d => decide (kd n i d = k)) (decT hk), if_pos hk]; rfl
   ·rw [List.filter_cons_of_neg (p := fun d => decide (kd n i d = k)) (decF hk), if_neg hk]; omega
  rw [sumK_congr fun k _ => e k, sumK_add, ih, sumK_one _ _ ks hn (h x List.mem_cons_self)]
  rfl
theorem OInv.key {n : GNode} {a0 a1 : List GDelta} {t : Int} {m : KS} (h : OInv n a0 a1 t m) {x : GDelta} {k : ByteArray} (hx : x ∈ ofK n 0 k (a0.filter (aft t)) ∨ x ∈ ofK n 1 k (a1.filter (aft t))) : k ∈ mkeys m := by
 refine mkeys_look.2 ⟨⟨⟨ofK n 0 k (a0.filter (aft t)), ofK n 1 k (a1.filter (aft t))⟩⟩, ?_⟩
 rw [h.look]
 unfold keepS
 rw [if_neg]
 rcases hx with hx | hx
 ·have := List.length_pos_of_mem hx; simp only; omega
 ·have := List.length_pos_of_mem hx; simp only; omega
theorem OInv.rows {n : GNode} {a0 a1 : List GDelta} {t : Int} {m : KS} (h : OInv n a0 a1 t m) : sumK (cntK m) (mkeys m) = wt all1 (a0.filter (aft t)) + wt all1 (a1.filter (aft t)) := by
 have hn := h.mc.nodup LO.bytes
 have e : ∀ k, k ∈ mkeys m → cntK m k = wt all1 (ofK n 0 k (a0.filter (aft t))) + wt all1 (ofK n 1 k (a1.filter (aft t))) := by
  intro k hk
  obtain ⟨s, hs⟩ := mkeys_look.1 hk
  unfold cntK
  rw [hs]
  rw [h.look] at hs
  rw [keepS_some hs]; rfl
 rw [sumK_congr e, sumK_add, sumK_ofK all1 n 0 _ hn _ fun x hx => h.key (.inl (ofK_mem.2 ⟨hx, rfl⟩)), sumK_ofK all1 n 1 _ hn _ fun x hx => h.key (.inr (ofK_mem.2 ⟨hx, rfl⟩))]
theorem OInv.empty {n : GNode} {a0 a1 : List GDelta} {t : Int} {m : KS} (h : OInv n a0 a1 t m) : m = [] ↔ a0.filter (aft t) = [] ∧ a1.filter (aft t) = [] := by
 constructor
 ·intro hm
  subst hm
  constructor
  ·refine List.eq_nil_iff_forall_not_mem.2 fun x hx => ?_
   have := h.key (k := kd n 0 x) (.inl (ofK_mem.2 ⟨hx, rfl⟩))
   simp [mkeys] at this
  ·refine List.eq_nil_iff_forall_not_mem.2 fun x hx => ?_
   have := h.key (k := kd n 1 x) (.inr (ofK_mem.2 ⟨hx, rfl⟩))
   simp [mkeys] at this
 ·rintro ⟨h0, h1⟩
  refine h.mc.ext LO.bytes MC_nil fun k => ?_
  rw [h.look, h0, h1]; rfl
theorem wt_pos : ∀ {l : List GDelta}, (∀ d, d ∈ l → 1 ≤ d.N ∧ d.N ≤ 20) → (l.length : Int) ≤ wt all1 l ∧ wt all1 l ≤ 20 * l.length
 | [], _ => by simp [wt]
 | x :: l, h => by
  have ih := wt_pos (l := l) fun d hd => h d (List.mem_cons_of_mem _ hd)
  have hx := h x List.mem_cons_self
  simp only [wt, all1, if_true, List.length_cons] at ih ⊢
  omega
end Go.PL
namespace Go.PL
open Go
set_option linter.unusedVariables false
set_option maxRecDepth 20000
theorem W_iff {a b : Int} : W a = W b ↔ ∃ k : Int, a = b + k * 18446744073709551616 := by
 show IntKind.i64.wrap a = IntKind.i64.wrap b ↔ _
 rw [wrap_def, wrap_def]
 constructor
 ·intro h
  exact ⟨(a + 9223372036854775808) / 18446744073709551616 - (b + 9223372036854775808) / 18446744073709551616, by omega⟩
 ·rintro ⟨k, rfl⟩; omega
theorem W_mul {a b : Int} (c : Int) (h : W a = W b) : W (a * c) = W (b * c) := by
 obtain ⟨k, rfl⟩ := W_iff.1 h
 exact W_iff.2 ⟨k * c, by rw [Int.add_mul, Int.mul_assoc, Int.mul_assoc, Int.mul_comm 18446744073709551616 c]⟩
theorem W_W (a : Int) : W (W a) = W a := wrap_wrap a
theorem W_sub {a b c d : Int} (h : W a = W c) (h' : W b = W d) : W (a - b) = W (c - d) := by
 obtain ⟨k, rfl⟩ := W_iff.1 h
 obtain ⟨k', rfl⟩ := W_iff.1 h'
 exact W_iff.2 ⟨k - k', by rw [Int.sub_mul]; omega⟩
def wc (c : Pl → Int) : List GDelta → Int
 | [] => 0
 | x :: l => x.N * c (pl x) + wc c l
theorem wc_app (c : Pl → Int) (l r : List GDelta) : wc c (l ++ r) = wc c l + wc c r := by
 induction l with
 | nil => simp [wc]
 | cons x l ih => simp only [List.cons_append, wc, ih]; omega
theorem insD_wc (d : GDelta) (c : Pl → Int) : ∀ l, W (wc c (insD d l)) = W (wc c (d :: l))
 | [] => by
  simp only [insD, wc]
  by_cases h : d.N = 0
  ·rw [if_pos h, h]; simp [wc]
  ·rw [if_neg h]; rfl
 | x :: l => by
  simp only [insD]
  by_cases h1 : cmpD d x < 0
  ·rw [if_pos h1]
   by_cases h : d.N = 0
   ·rw [if_pos h]; simp only [wc, h]; congr 1; simp
   ·rw [if_neg h]
  ·rw [if_neg h1]
   by_cases h2 : cmpD d x = 0
   ·rw [if_pos h2]
    have hp := cmpD_zero.1 h2
    have e : wc c (d :: x :: l) = (x.N + d.N) * c (pl x) + wc c l := by
     simp only [wc, hp, Int.add_mul]; omega
    rw [e]
    by_cases h3 : W (x.N + d.N) = 0
    ·rw [if_pos h3]
     have h0 : W (x.N + d.N) = W 0 := by rw [h3]; rfl
     have := W_add (W_mul (c (pl x)) h0) (rfl : W (wc c l) = W (wc c l))
     rw [this]; simp
    ·rw [if_neg h3]
     simp only [wc]
     rw [show pl (⟨x.Time, x.Row, W (x.N + d.N)⟩ : GDelta) = pl x from rfl]
     exact W_add (W_mul (c (pl x)) (W_W (x.N + d.N))) rfl
   ·rw [if_neg h2]
    have ih := insD_wc d c l
    have : W (wc c (x :: insD d l)) = W (wc c (x :: d :: l)) := by
     simp only [wc] at ih ⊢
     exact W_add rfl ih
    rw [this]
    simp only [wc]; congr 1; omega
theorem cons_wc (c : Pl → Int) (l : List GDelta) : W (wc c (PL.cons l)) = W (wc c l) := by
 induction l with
 | nil => rfl
 | cons x l ih =>
  rw [show PL.cons (x :: l) = insD x (PL.cons l) from rfl, insD_wc]
  simp only [wc]
  exact W_add rfl ih
def MS (n : GNode) (s : GSide) : List GDelta := if n.Op = 6 then joinF n 0 s.rows_.e0 s.rows_.e1 else asofF n s.rows_.e0 s.rows_.e1
def cJ (n : GNode) (i : Int) (R : List GDelta) (p : Pl → Bool) (q : Pl) : Int := wt p (joinA n i R ⟨q.1, q.2, 1⟩)
theorem joinA_wt (n : GNode) (i : Int) (p : Pl → Bool) (a : GDelta) (R : List GDelta) : W (wt p (joinA n i R a)) = W (a.N * cJ n i R p (pl a)) := by
 unfold cJ joinA
 show W (wt p ((nearF R (if i = 1 then a.Time - n.After else a.Time - n.Before) (if i = 1 then a.Time + n.Before else a.Time + n.After)).map (joinP i a))) =
  W (a.N * wt p ((nearF R (if i = 1 then a.Time - n.After else a.Time - n.Before) (if i = 1 then a.Time + n.Before else a.Time + n.After)).map (joinP i ⟨a.Time, a.Row, 1⟩)))
 generalize nearF R (if i = 1 then a.Time - n.After else a.Time - n.Before) (if i = 1 then a.Time + n.Before else a.Time + n.After) = L
 induction L with
 | nil => simp [wt]
 | cons b L ih =>
  simp only [List.map_cons, wt]
  have hpl : pl (joinP i ⟨a.Time, a.Row, 1⟩ b) = pl (joinP i a b) := by unfold joinP pairF; split <;> rfl
  have hN : (joinP i a b).N = W (a.N * b.N) := by unfold joinP pairF; split <;> rfl
  have hN1 : (joinP i ⟨a.Time, a.Row, 1⟩ b).N = W (1 * b.N) := by unfold joinP pairF; split <;> rfl
  rw [hpl, hN, hN1, Int.mul_add]
  refine W_add ?_ ih
  by_cases hp : p (pl (joinP i a b)) = true
  ·rw [if_pos hp, if_pos hp, W_W, Int.one_mul]
   have := W_mul a.N (W_W b.N)
   rw [Int.mul_comm a.N (W b.N), this, Int.mul_comm]
  ·rw [if_neg hp, if_neg hp, Int.mul_zero]
theorem joinF_wt (n : GNode) (i : Int) (p : Pl → Bool) (L R : List GDelta) : W (wt p (joinF n i L R)) = W (wc (cJ n i R p) L) := by
 induction L with
 | nil => rfl
 | cons a L ih =>
  rw [show joinF n i (a :: L) R = joinA n i R a ++ joinF n i L R from rfl, wt_app]
  exact W_add (joinA_wt n i p a R) ih
def cA (n : GNode) (R : List GDelta) (p : Pl → Bool) (q : Pl) : Int := wt p (asofA n R ⟨q.1, q.2, 1⟩)
theorem asofA_wt (n : GNode) (p : Pl → Bool) (a : GDelta) (R : List GDelta) : wt p (asofA n R a) = a.N * cA n R p (pl a) := by
 unfold cA asofA
 show wt p (if nearF R (a.Time - n.Keep + 1) a.Time = [] then [] else [pairF a ((nearF R (a.Time - n.Keep + 1) a.Time).getD ((nearF R (a.Time - n.Keep + 1) a.Time).length - 1) default) a.Time a.N]) =
  a.N * wt p (if nearF R (a.Time - n.Keep + 1) a.Time = [] then [] else [pairF ⟨a.Time, a.Row, 1⟩ ((nearF R (a.Time - n.Keep + 1) a.Time).getD ((nearF R (a.Time - n.Keep + 1) a.Time).length - 1) default) a.Time 1])
 split
 ·simp [wt]
 ·simp only [wt, Int.add_zero]
  show (if p (a.Time, a.Row ++ _) = true then a.N else 0) = a.N * (if p (a.Time, a.Row ++ _) = true then 1 else 0)
  split <;> simp
theorem asofF_wt (n : GNode) (p : Pl → Bool) (L R : List GDelta) : wt p (asofF n L R) = wc (cA n R p) L := by
 induction L with
 | nil => rfl
 | cons a L ih =>
  rw [show asofF n (a :: L) R = asofA n R a ++ asofF n L R from rfl, wt_app, ih, asofA_wt]
  rfl
def tJ (n : GNode) (p : Pl → Bool) (a b : GDelta) : Int :=
 if decide (a.Time - n.Before ≤ b.Time) && decide (b.Time ≤ a.Time + n.After) && p (if b.Time > a.Time then b.Time else a.Time, a.Row ++ b.Row) then W (a.N * b.N) else 0
def sumD (f : GDelta → Int) : List GDelta → Int
 | [] => 0
 | x :: l => f x + sumD f l
theorem sumD_add (f g : GDelta → Int) (l : List GDelta) : sumD (fun x => f x + g x) l = sumD f l + sumD g l := by
 induction l with
 | nil => rfl
 | cons x l ih => simp only [sumD, ih]; omega
theorem sumD_zero (l : List GDelta) : sumD (fun _ => 0) l = 0 := by
 induction l with
 | nil => rfl
 | cons x l ih => simp only [sumD, ih]; rfl
theorem sumD_swap (f : GDelta → GDelta → Int) (A : List GDelta) : ∀ B : List GDelta, sumD (fun a => sumD (f a) B) A = sumD (fun b => sumD (fun a => f a b) A) B
 | [] => by simp only [sumD, sumD_zero]
 | b :: B => by
  simp only [sumD]
  rw [sumD_add, sumD_swap f A B]
theorem joinA0_t (n : GNode) (p : Pl → Bool) (a : GDelta) : ∀ R : List GDelta, wt p (joinA n 0 R a) = sumD (tJ n p a) R
 | [] => rfl
 | b :: R => by
  have ih := joinA0_t n p a R
  unfold joinA nearF at ih ⊢
  simp only [if_neg (show ¬ ((0 : Int) = 1) by omega)] at ih ⊢
  simp only [sumD]
  rw [List.filter_cons]
  by_cases h : (decide (a.Time - n.Before ≤ b.Time) && decide (b.Time ≤ a.Time + n.After)) = true
  ·rw [if_pos h, List.map_cons]
   simp only [wt, ih]
   congr 1
   unfold tJ joinP
   rw [if_neg (show ¬ ((0 : Int) = 1) by omega), h, Bool.true_and]
   rfl
  ·rw [if_neg h, ih]
   unfold tJ
   rw [if_neg (by simp only [Bool.not_eq_true] at h; rw [h]; simp)]
   omega
theorem joinA1_t (n : GNode) (p : Pl → Bool) (b : GDelta) : ∀ L : List GDelta, wt p (joinA n 1 L b) = sumD (fun a => tJ n p a b) L
 | [] => rfl
 | a :: L => by
  have ih := joinA1_t n p b L
  unfold joinA nearF at ih ⊢
  simp only [if_true] at ih ⊢
  simp only [sumD]
  rw [List.filter_cons]
  have hiff : (decide (b.Time - n.After ≤ a.Time) && decide (a.Time ≤ b.Time + n.Before)) = (decide (a.Time - n.Before ≤ b.Time) && decide (b.Time ≤ a.Time + n.After)) := by
   rw [Bool.eq_iff_iff]; simp only [Bool.and_eq_true, decide_eq_true_eq]; omega
  by_cases h : (decide (a.Time - n.Before ≤ b.Time) && decide (b.Time ≤ a.Time + n.After)) = true
  ·rw [hiff, if_pos h, List.map_cons]
   simp only [wt, ih]
   congr 1
   unfold tJ joinP
   rw [if_pos rfl, h, Bool.true_and]
   have hm : (if a.Time > b.Time then a.Time else b.Time) = (if b.Time > a.Time then b.Time else a.Time) := by split <;> split <;> omega
   rw [hm, Int.mul_comm b.N a.N]
   rfl
  ·rw [hiff, if_neg h, ih]
   unfold tJ
   rw [if_neg (by simp only [Bool.not_eq_true] at h; rw [h]; simp)]
   omega
theorem joinF0_t (n : GNode) (p : Pl → Bool) (R : List GDelta) : ∀ L : List GDelta, wt p (joinF n 0 L R) = sumD (fun a => sumD (tJ n p a) R) L
 | [] => rfl
 | a :: L => by rw [show joinF n 0 (a :: L) R = joinA n 0 R a ++ joinF n 0 L R from rfl, wt_app, joinA0_t, joinF0_t n p R L]; rfl
theorem joinF1_t (n : GNode) (p : Pl → Bool) (L : List GDelta) : ∀ R : List GDelta, wt p (joinF n 1 R L) = sumD (fun b => sumD (fun a => tJ n p a b) L) R
 | [] => rfl
 | b :: R => by rw [show joinF n 1 (b :: R) L = joinA n 1 L b ++ joinF n 1 R L from rfl, wt_app, joinA1_t, joinF1_t n p L R]; rfl
theorem join_swap (n : GNode) (p : Pl → Bool) (L R : List GDelta) : wt p (joinF n 0 L R) = wt p (joinF n 1 R L) := by
 rw [joinF0_t, joinF1_t]; exact sumD_swap (tJ n p) L R
end Go.PL
namespace Go.PL
open Go
set_option linter.unusedVariables false
set_option maxRecDepth 20000
theorem wt_negs (p : Pl → Bool) : ∀ l : List GDelta, W (wt p (l.map neg)) = W (- wt p l)
 | [] => rfl
 | x :: l => by
  have ih := wt_negs p l
  simp only [List.map_cons, wt]
  rw [show pl (neg x) = pl x from rfl, show (neg x).N = W (0 - x.N) from rfl, Int.neg_add]
  refine W_add ?_ ih
  by_cases h : p (pl x) = true
  ·rw [if_pos h, if_pos h, W_W]; congr 1; omega
  ·rw [if_neg h, if_neg h]; rfl
theorem asofA_off {n : GNode} {e1 l : List GDelta} (h1 : Can e1) (hl : Can l) (hK : 1 ≤ n.Keep) {a : GDelta}
  (h : ¬ ((l.getD 0 default).Time ≤ a.Time ∧ a.Time ≤ (l.getD (l.length - 1) default).Time + n.Keep)) : asofA n (PL.cons (e1 ++ l)) a = asofA n e1 a := by
 have hN : okN (e1 ++ l) := fun x hx => (List.mem_append.1 hx).elim (h1.n64 x) (hl.n64 x)
 have key : nearF (PL.cons (e1 ++ l)) (a.Time - n.Keep + 1) a.Time = nearF e1 (a.Time - n.Keep + 1) a.Time := by
  unfold nearF
  refine ((cons_can hN).filter _).ext (h1.filter _) ?_
  have hs := (cons_same (e1 ++ l)).filter (fun q : Pl => decide (a.Time - n.Keep + 1 ≤ q.1) && decide (q.1 ≤ a.Time))
  have e : (e1 ++ l).filter (fun d => decide (a.Time - n.Keep + 1 ≤ d.Time) && decide (d.Time ≤ a.Time)) = e1.filter (fun d => decide (a.Time - n.Keep + 1 ≤ d.Time) && decide (d.Time ≤ a.Time)) := by
   rw [List.filter_append]
   have : l.filter (fun d => decide (a.Time - n.Keep + 1 ≤ d.Time) && decide (d.Time ≤ a.Time)) = [] := by
    refine List.filter_eq_nil_iff.2 fun d hd => ?_
    obtain ⟨j, hj, rfl⟩ := List.mem_iff_getElem.1 hd
    have g1 := hl.ts.get (Nat.zero_le j) hj
    have g2 := hl.ts.get (show j ≤ l.length - 1 by omega) (by omega)
    have gj : l.getD j default = l[j] := by simp [List.getD_eq_getElem?_getD, hj]
    rw [gj] at g1 g2
    simp only [Bool.and_eq_true, decide_eq_true_eq]
    omega
   rw [this, List.append_nil]
  have hs' : Same ((PL.cons (e1 ++ l)).filter (fun d => decide (a.Time - n.Keep + 1 ≤ d.Time) && decide (d.Time ≤ a.Time))) ((e1 ++ l).filter (fun d => decide (a.Time - n.Keep + 1 ≤ d.Time) && decide (d.Time ≤ a.Time))) := hs
  rw [e] at hs'
  exact hs'
 unfold asofA
 rw [key]
theorem asofF_sum (n : GNode) (p : Pl → Bool) (R : List GDelta) : ∀ L : List GDelta, wt p (asofF n L R) = sumD (fun a => wt p (asofA n R a)) L
 | [] => rfl
 | a :: L => by rw [show asofF n (a :: L) R = asofA n R a ++ asofF n L R from rfl, wt_app, asofF_sum n p R L]; rfl
theorem sumD_part {f g : GDelta → Int} (q : GDelta → Bool) : ∀ {l : List GDelta}, (∀ x, x ∈ l → q x = false → f x = g x) → sumD f l - sumD g l = sumD f (l.filter q) - sumD g (l.filter q)
 | [], _ => rfl
 | x :: l, h => by
  have ih := sumD_part q (l := l) fun y hy => h y (List.mem_cons_of_mem _ hy)
  rw [List.filter_cons]
  cases hq : q x with
  | true => simp only [if_true, sumD]; omega
  | false =>
   have := h x List.mem_cons_self hq
   simp only [Bool.false_eq_true, if_false, sumD]; omega
theorem chg_wt {n : GNode} (hn : okNode n) (p : Pl → Bool) {i : Int} (hi : i = 0 ∨ i = 1) {l : List GDelta} {s : GSide} (hs : okSd n s) (hl : Can l) : W (wt p (chgF n i l s)) = W (wt p (MS n (updS i s l)) - wt p (MS n s)) := by
 obtain ⟨⟨e0, e1⟩⟩ := s
 have c0 : Can e0 := hs.c0
 have c1 : Can e1 := hs.c1
 unfold chgF MS updS
 by_cases h6 : n.Op = 6
 ·rw [if_pos h6, if_pos h6, if_pos h6]
  rcases hi with rfl | rfl
  ·rw [if_pos rfl, if_pos rfl]
   show W (wt p (joinF n 0 l e1)) = W (wt p (joinF n 0 (PL.cons (e0 ++ l)) e1) - wt p (joinF n 0 e0 e1))
   rw [joinF_wt, W_sub ((joinF_wt n 0 p (PL.cons (e0 ++ l)) e1).trans (cons_wc _ _)) (joinF_wt n 0 p e0 e1), wc_app]
   congr 1; omega
  ·rw [if_neg (by omega), if_neg (by omega)]
   show W (wt p (joinF n 1 l e0)) = W (wt p (joinF n 0 e0 (PL.cons (e1 ++ l))) - wt p (joinF n 0 e0 e1))
   rw [join_swap, join_swap, joinF_wt, W_sub ((joinF_wt n 1 p (PL.cons (e1 ++ l)) e0).trans (cons_wc _ _)) (joinF_wt n 1 p e1 e0), wc_app]
   congr 1; omega
 ·rw [if_neg h6, if_neg h6, if_neg h6]
  rcases hi with rfl | rfl
  ·rw [if_pos rfl, if_pos rfl]
   show W (wt p (asofF n l e1)) = W (wt p (asofF n (PL.cons (e0 ++ l)) e1) - wt p (asofF n e0 e1))
   have : W (wt p (asofF n (PL.cons (e0 ++ l)) e1)) = W (wc (cA n e1 p) (e0 ++ l)) := by rw [asofF_wt]; exact cons_wc _ _
   rw [W_sub this rfl, wc_app, asofF_wt, asofF_wt]
   congr 1; omega
  ·rw [if_neg (by omega), if_neg (by omega)]
   have hK : 1 ≤ n.Keep := by
    rcases hn.op with h | h
    ·exact absurd h.1 h6
    ·exact h.2.1
   show W (wt p (PL.cons (asofF n (nearF e0 (l.getD 0 default).Time ((l.getD (l.length - 1) default).Time + n.Keep)) (PL.cons (e1 ++ l)) ++ (asofF n (nearF e0 (l.getD 0 default).Time ((l.getD (l.length - 1) default).Time + n.Keep)) e1).map neg))) =
    W (wt p (asofF n e0 (PL.cons (e1 ++ l))) - wt p (asofF n e0 e1))
   rw [cons_same _ p, wt_app, W_add rfl (wt_negs p _)]
   rw [asofF_sum, asofF_sum, asofF_sum, asofF_sum]
   have := sumD_part (f := fun a => wt p (asofA n (PL.cons (e1 ++ l)) a)) (g := fun a => wt p (asofA n e1 a)) (fun d => decide ((l.getD 0 default).Time ≤ d.Time) && decide (d.Time ≤ (l.getD (l.length - 1) default).Time + n.Keep)) (l := e0) fun a _ hq => by
    rw [asofA_off c1 hl hK]
    intro hh
    rw [show (decide ((l.getD 0 default).Time ≤ a.Time) && decide (a.Time ≤ (l.getD (l.length - 1) default).Time + n.Keep)) = true by simp only [Bool.and_eq_true, decide_eq_true_eq]; exact hh] at hq
    cases hq
   rw [this]
   rfl
theorem nodup_over : ∀ L : List ByteArray, ∃ ks : List ByteArray, ks.Nodup ∧ ∀ x, x ∈ L → x ∈ ks
 | [] => ⟨[], .nil, fun _ h => h⟩
 | k :: L => by
  obtain ⟨ks, h1, h2⟩ := nodup_over L
  by_cases hk : k ∈ ks
  ·exact ⟨ks, h1, fun x hx => (List.mem_cons.1 hx).elim (fun e => e ▸ hk) (h2 x)⟩
  ·exact ⟨k :: ks, List.nodup_cons.2 ⟨hk, h1⟩, fun x hx => (List.mem_cons.1 hx).elim (fun e => e ▸ List.mem_cons_self) fun h => List.mem_cons_of_mem _ (h2 x h)⟩
theorem sumK_ext (f : ByteArray → Int) : ∀ {ks ks' : List ByteArray}, ks.Nodup → ks'.Nodup → (∀ k, k ∈ ks → k ∉ ks' → f k = 0) → (∀ k, k ∈ ks' → k ∉ ks → f k = 0) → sumK f ks = sumK f ks'
 | [], ks', _, _, _, h => by
  rw [sumK_congr (f := f) (g := fun _ => 0) fun k hk => h k hk (by simp), sumK_zero]; rfl
 | k :: ks, ks', hn, hn', h, h' => by
  have h1 := List.nodup_cons.1 hn
  by_cases hk : k ∈ ks'
  ·rw [sumK_perm f (kerase_perm hk)]
   simp only [sumK]
   rw [sumK_ext f h1.2 (kerase_nodup hn' k) (fun j hj hj' => ?_) (fun j hj hj' => ?_)]
   ·refine h j (List.mem_cons_of_mem _ hj) fun hj2 => hj' ((kerase_mem hn').2 ⟨fun e => h1.1 (e ▸ hj), hj2⟩)
   ·obtain ⟨g1, g2⟩ := (kerase_mem hn').1 hj
    exact h' j g2 fun hj2 => (List.mem_cons.1 hj2).elim g1 hj'
  ·simp only [sumK]
   rw [h k List.mem_cons_self hk, sumK_ext f h1.2 hn' (fun j hj hj' => h j (List.mem_cons_of_mem _ hj) hj') (fun j hj hj' => ?_)]
   ·omega
   ·refine h' j hj fun hj2 => (List.mem_cons.1 hj2).elim (fun e => hk (e ▸ hj)) hj'
theorem sumK_W {f g : ByteArray → Int} {ks : List ByteArray} (h : ∀ k, k ∈ ks → W (f k) = W (g k)) : W (sumK f ks) = W (sumK g ks) := by
 induction ks with
 | nil => rfl
 | cons k ks ih => simp only [sumK]; exact W_add (h k List.mem_cons_self) (ih fun j hj => h j (List.mem_cons_of_mem _ hj))
theorem sumK_sub (f g : ByteArray → Int) (ks : List ByteArray) : sumK (fun k => f k - g k) ks = sumK f ks - sumK g ks := by
 induction ks with
 | nil => rfl
 | cons k ks ih => simp only [sumK, ih]; omega
theorem wt_flat (p : Pl → Bool) (f : ByteArray → List GDelta) (ks : List ByteArray) : wt p (ks.flatMap f) = sumK (fun k => wt p (f k)) ks := by
 induction ks with
 | nil => rfl
 | cons k ks ih => rw [List.flatMap_cons, wt_app, ih]; rfl
def fPhi (n : GNode) (p : Pl → Bool) (m : KS) (k : ByteArray) : Int := wt p (MS n ((mlook m k).getD side0))
def Phi (n : GNode) (p : Pl → Bool) (m : KS) : Int := sumK (fPhi n p m) (mkeys m)
theorem MS0 (n : GNode) : MS n side0 = [] := by unfold MS; split <;> rfl
theorem Phi_over {n : GNode} {p : Pl → Bool} {m : KS} (hm : MC m) {ks : List ByteArray} (hn : ks.Nodup) (hs : ∀ k, k ∈ mkeys m → k ∈ ks) : Phi n p m = sumK (fPhi n p m) ks := by
 refine sumK_ext _ (hm.nodup LO.bytes) hn (fun k hk hk' => absurd (hs k hk) hk') fun k _ hk => ?_
 unfold fPhi
 have : mlook m k = none := by
  cases hl : mlook m k with
  | none => rfl
  | some c => exact absurd (mkeys_look.2 ⟨c, hl⟩) hk
 rw [this]
 show wt p (MS n side0) = 0
 rw [MS0]; rfl
open Classical in
theorem push_wt {n : GNode} (hn : okNode n) (p : Pl → Bool) {i : Int} (hi : i = 0 ∨ i = 1) {l : List GDelta} {m : KS} (hm : okM n m) (hl : Can l) :
  W (wt p ((mkeys (groupM n i l)).flatMap (pushO n i l m))) = W (Phi n p (pushM n i l m) - Phi n p m) := by
 obtain ⟨ks, hk1, hk2⟩ := nodup_over (mkeys m ++ (mkeys (pushM n i l m) ++ mkeys (groupM n i l)))
 have hg := (groupM_mc n i l).nodup LO.bytes
 rw [Phi_over (pushM_mc n i l hm.mc) hk1 fun k hk => hk2 k (by simp [hk]), Phi_over hm.mc hk1 fun k hk => hk2 k (by simp [hk]), ← sumK_sub, wt_flat]
 have e1 : sumK (fun k => wt p (pushO n i l m k)) (mkeys (groupM n i l)) = sumK (fun k => if k ∈ mkeys (groupM n i l) then wt p (pushO n i l m k) else 0) ks := by
  rw [sumK_congr (f := fun k => wt p (pushO n i l m k)) (g := fun k => if k ∈ mkeys (groupM n i l) then wt p (pushO n i l m k) else 0) fun k hk => by rw [if_pos hk]]
  refine sumK_ext _ hg hk1 (fun k hk hk' => absurd (hk2 k (by simp [hk])) hk') fun k _ hk => by rw [if_neg hk]
 rw [e1]
 refine sumK_W fun k _ => ?_
 unfold fPhi
 by_cases hk : k ∈ mkeys (groupM n i l)
 ·rw [if_pos hk, pushM_in hk]
  unfold newS pushO
  rw [keepS_getD]
  exact chg_wt hn p hi (hm.get k) (ofK_can hl)
 ·rw [if_neg hk, pushM_out hk, Int.sub_self]
end Go.PL
namespace Go.PL
open Go
set_option linter.unusedVariables false
set_option maxRecDepth 20000
theorem txtB_size2 {s : ByteArray} (h : s.size ≤ 1000000000000) : (txtB s).size ≤ s.size + 23 := by
 have := itoaB_size (n := (s.size : Int)) ⟨by omega, by omega⟩
 unfold txtB
 rw [ByteArray.size_append, ByteArray.size_append, ByteArray.size_append, sz1, sz1]
 omega
theorem G52_eq2 {s : ByteArray} (h : s.size ≤ 1000000000000) : G52 s = some (txtB s) := by
 have h1 := itoaB_size (n := (s.size : Int)) ⟨by omega, by omega⟩
 have h2 : G117 (s.size : Int) = some (itoaB s.size) := G117_eq ⟨by omega, by omega⟩
 generalize hi : itoaB (s.size : Int) = z at h1 h2
 have e1 : (z ++ (⟨#[58]⟩ : ByteArray)).size = z.size + 1 := ByteArray.size_append
 have e2 : ((z ++ (⟨#[58]⟩ : ByteArray)) ++ s).size = z.size + 1 + s.size := by rw [ByteArray.size_append, e1]
 unfold G52 T52
 refine (den_ca h2).trans ?_
 refine (den_grd ?_).trans ((den_grd ?_).trans ((den_grd ?_).trans ?_))
 ·rw [sz1]; omega
 ·rw [e1]; omega
 ·rw [e2, sz1]; omega
 ·unfold txtB
  rw [hi]
  rfl
structure okZr (r : List GValue) : Prop where
 l : r.length ≤ 12
 v : okVs r
 s : ∀ v, v ∈ r → v.S.size ≤ 1048576
def okZ (l : List GDelta) : Prop := ∀ d, d ∈ l → okZr d.Row
theorem okZ.sub {l r : List GDelta} (h : okZ l) (hs : ∀ x, x ∈ r → x ∈ l) : okZ r := fun x hx => h x (hs x hx)
theorem okZ.cons {l : List GDelta} (h : okZ l) : okZ (PL.cons l) := fun x hx => by
 obtain ⟨z, hz, e⟩ := cons_mem hx
 have : x.Row = z.Row := congrArg Prod.snd e
 rw [this]; exact h z hz
theorem okZ.app {l r : List GDelta} (h : okZ l) (h' : okZ r) : okZ (l ++ r) := fun x hx => (List.mem_append.1 hx).elim (h x) (h' x)
theorem okZ.get {l : List GDelta} (h : okZ l) (k : Nat) : okZr (l.getD k default).Row := by
 by_cases hk : k < l.length
 ·exact h _ (getD_mem hk)
 ·rw [List.getD_eq_getElem?_getD, List.getElem?_eq_none (by omega)]
  exact ⟨Nat.zero_le _, fun v hv => (by cases hv), fun v hv => (by cases hv)⟩
theorem foldB_size2 (b : ByteArray) : ∀ (r : List GValue), okVs r → (∀ v, v ∈ r → v.S.size ≤ 1048576) → (r.foldl (fun b v => b ++ valB v) b).size ≤ b.size + r.length * 1048700
 | [], _, _ => by simp
 | v :: r, h, hs => by
  have h1 := foldB_size2 (b ++ valB v) r (fun x hx => h x (List.mem_cons_of_mem _ hx)) fun x hx => hs x (List.mem_cons_of_mem _ hx)
  have hv := h v List.mem_cons_self
  have q1 := numB_size hv.k
  have q2 := numB_size hv.n
  have q3 := txtB_size hv.s
  have q4 := hs v List.mem_cons_self
  have h2 : (valB v).size ≤ 1048700 := by
   unfold valB
   rw [ByteArray.size_append, ByteArray.size_append]
   omega
  rw [ByteArray.size_append] at h1
  simp only [List.foldl_cons, List.length_cons]
  omega
theorem rowB_size2 {r : List GValue} (h : okZr r) : (rowB r).size ≤ 12600000 := by
 have h1 := foldB_size2 ((⟨#[]⟩ : ByteArray) ++ numB (r.length : Int)) r h.v h.s
 have h2 := numB_size (n := (r.length : Int)) ⟨by omega, by have := h.l; omega⟩
 have h3 := h.l
 rw [ByteArray.size_append, show (⟨#[]⟩ : ByteArray).size = 0 from rfl] at h1
 have : r.length * 1048700 ≤ 12 * 1048700 := Nat.mul_le_mul h3 (Nat.le_refl _)
 unfold rowB
 omega
def rowsOf (i : Int) (m : KS) (k : ByteArray) : List GDelta := match mlook m k with | some s => two i s.rows_.e0 s.rows_.e1 | none => []
theorem G54s0_eq (i : Int) (n : GNode) (cl : Int) (m : KS) (hi : i = 0 ∨ i = 1) (hm : MC m) {a : List GDelta} (hc : Can a) (ho : okD a) (hp : ∀ d, d ∈ a → 1 ≤ d.N ∧ d.N ≤ 20) (hl : a.length ≤ 900)
  (hk : ∀ k, k ∈ mkeys m → rowsOf i m k = ofK n i k a) (hall : ∀ x, x ∈ a → kd n i x ∈ mkeys m) : G54s0 i n cl m = some (a, m) := by
 have hnd := hm.nodup LO.bytes
 have bnd : ∀ done rest : List ByteArray, (done ++ rest).Perm (mkeys m) → (∀ d, d ∈ done.flatMap (rowsOf i m) → d ∈ a) ∧ wt all1 (done.flatMap (rowsOf i m)) + wt all1 (rest.flatMap (rowsOf i m)) = wt all1 a ∧ (done.flatMap (rowsOf i m)).length ≤ 18000 := by
  intro done rest hpm
  have hmem : ∀ ks : List ByteArray, (∀ k, k ∈ ks → k ∈ mkeys m) → ∀ d, d ∈ ks.flatMap (rowsOf i m) → d ∈ a := by
   intro ks hks d hd
   obtain ⟨k, hk1, hk2⟩ := List.mem_flatMap.1 hd
   rw [hk k (hks k hk1)] at hk2
   exact (ofK_mem.1 hk2).1
  have m1 := hmem done fun k hk => hpm.mem_iff.1 (List.mem_append_left _ hk)
  have m2 := hmem rest fun k hk => hpm.mem_iff.1 (List.mem_append_right _ hk)
  have tot : wt all1 ((mkeys m).flatMap (rowsOf i m)) = wt all1 a := by
   rw [wt_flat, sumK_congr fun k hk' => by rw [hk k hk']]
   exact sumK_ofK all1 n i _ hnd a hall
  have e : wt all1 (done.flatMap (rowsOf i m)) + wt all1 (rest.flatMap (rowsOf i m)) = wt all1 a := by
   rw [← tot, ← wt_app, ← List.flatMap_append]
   exact wt_perm _ (flatMap_perm (rowsOf i m) hpm)
  refine ⟨m1, e, ?_⟩
  have w1 := wt_pos (l := done.flatMap (rowsOf i m)) fun d hd => hp d (m1 d hd)
  have w2 := wt_pos (l := rest.flatMap (rowsOf i m)) fun d hd => hp d (m2 d hd)
  have w3 := wt_pos hp
  omega
 unfold G54s0
 refine Det.eq ?_
 unfold T54s0
 simp only [Tr.wpT]
 refine loopWp (fun s : List ByteArray × KS × List GDelta => s.2.1 = m ∧ s.1.Nodup ∧ ∃ done, (done ++ s.1).Perm (mkeys m) ∧ s.2.2 = done.flatMap (rowsOf i m)) (fun s => s.1.length) (fun s hs => ?_) (s := (mkeys m, m, [])) ⟨rfl, hnd, [], .refl _, rfl⟩
 obtain ⟨rem, m', acc⟩ := s
 obtain ⟨e, h1, done, h2, h3⟩ := hs
 simp only at e h1 h2 h3
 subst e h3
 obtain ⟨q1, q2, q3⟩ := bnd done rem h2
 unfold T54s0_L0
 simp only [Tr.wpT]
 refine ⟨fun hr => ?_, fun k c hk' hc' => ?_, fun hr => ?_⟩
 ·subst hr
  simp only [sel]
  rw [List.append_nil] at h2
  have hs : Same a (done.flatMap (rowsOf i m')) := fun p => by
   have : wt p (done.flatMap (rowsOf i m')) = wt p a := by
    rw [wt_perm p (flatMap_perm (rowsOf i m') h2), wt_flat, sumK_congr fun k hk' => by rw [hk k hk']]
    exact sumK_ofK p n i _ hnd a hall
   rw [this]
  have okd : okD (done.flatMap (rowsOf i m')) := ho.sub q1
  exact ⟨_, G27_eq _ okd.r okd.n (by omega), by rw [cons_eq hc okd.n hs]⟩
 ·have hkm : k ∈ mkeys m' := h2.mem_iff.1 (List.mem_append_right _ hk')
  have hrow : rowsOf i m' k = two i c.rows_.e0 c.rows_.e1 := by unfold rowsOf; rw [hc']
  have hp2 := kerase_perm hk'
  have h2' : ((done ++ [k]) ++ kerase rem k).Perm (mkeys m') := by
   rw [List.append_assoc]
   exact ((List.Perm.append_left done hp2).symm).trans h2
  obtain ⟨r1, r2, r3⟩ := bnd (done ++ [k]) (kerase rem k) h2'
  rw [List.flatMap_append, List.length_append] at r3
  simp only [List.flatMap_cons, List.flatMap_nil, List.append_nil] at r3
  rw [hrow] at r3
  have fin : (fun s' : List ByteArray × KS × List GDelta => (s'.2.1 = m' ∧ s'.1.Nodup ∧ ∃ done, (done ++ s'.1).Perm (mkeys m') ∧ s'.2.2 = done.flatMap (rowsOf i m')) ∧ s'.1.length < rem.length) (kerase rem k, mput m' k c, done.flatMap (rowsOf i m') ++ two i c.rows_.e0 c.rows_.e1) := by
   refine ⟨⟨mput_self LO.bytes hm hc', kerase_nodup h1 k, done ++ [k], h2', ?_⟩, kerase_len hk'⟩
   rw [List.flatMap_append]
   simp only [List.flatMap_cons, List.flatMap_nil, List.append_nil]
   rw [hrow]
  rcases hi with rfl | rfl
  ·rw [show two 0 c.rows_.e0 c.rows_.e1 = c.rows_.e0 from rfl] at r3 fin
   rw [if_pos rfl]
   exact ⟨by omega, fin⟩
  ·rw [show two 1 c.rows_.e0 c.rows_.e1 = c.rows_.e1 from rfl] at r3 fin
   rw [if_neg (by omega), if_pos rfl]
   exact ⟨by omega, fin⟩
 ·obtain ⟨k, rest, rfl⟩ := List.exists_cons_of_ne_nil hr
  have hkm : k ∈ mkeys m' := h2.mem_iff.1 (List.mem_append_right _ List.mem_cons_self)
  obtain ⟨c, hc⟩ := mkeys_look.1 hkm
  exact ⟨k, c, List.mem_cons_self, hc⟩
theorem pushOut_ok {n : GNode} {i : Int} {l : List GDelta} {m : KS} (hi : i = 0 ∨ i = 1) (hl : okI n i l) (hm : okM n m) (hlen : l.length ≤ 1000) :
  okD ((mkeys (groupM n i l)).flatMap (pushO n i l m)) ∧ ((mkeys (groupM n i l)).flatMap (pushO n i l m)).length ≤ l.length * 100000000 := by
 have hbig : ∀ k, (pushO n i l m k).length ≤ 100000000 := fun k => chgF_len (hm.get k) (Nat.le_trans (ofK_len n i k l) (by omega))
 have hokO : ∀ k, okD (pushO n i l m k) := fun k => chgF_ok hi (ofK_okI hl) (hm.get k)
 refine ⟨⟨fun x hx => ?_, fun x hx => ?_⟩, ?_⟩
 ·obtain ⟨a, ha, hx⟩ := List.mem_flatMap.1 hx
  exact (hokO a).r x hx
 ·obtain ⟨a, ha, hx⟩ := List.mem_flatMap.1 hx
  exact (hokO a).n x hx
 ·refine Nat.le_trans (flatMapK_len hbig _) (Nat.mul_le_mul ?_ (Nat.le_refl _))
  rw [mkeys, List.length_map]
  exact groupM_len n i l
theorem okZ_act {ta tb : List Int} {n : GNode} (hR : RightN n ta tb) {l : List GDelta} (h : okL 40 okGDelta l) {i : Int} (hF : ∀ d, d ∈ l → d.Row.length = (two i ta tb).length) : okZ l := by
 intro d hd
 have hl := hF d hd
 have h1 := (h.2 d hd).2.1.2
 refine ⟨?_, fun v hv => ?_, fun v hv => (h1 v hv).2.2⟩
 ·have := hR.la
  have := hR.lb
  rw [hl]
  unfold two; split <;> omega
 ·have := h1 v hv
  exact ⟨this.1, this.2.1, Nat.le_trans this.2.2 (by omega)⟩
theorem aft_neg {n : GNode} {i : Int} {a : List GDelta} (h : okI n i a) : ∀ d, d ∈ a → aft (-1) d = true := fun d hd => decT (by have := (h.t d hd).1; omega)
theorem aft_all {n : GNode} {i : Int} {a : List GDelta} (h : okI n i a) : a.filter (aft (-1)) = a := List.filter_eq_self.2 (aft_neg h)
theorem rowsOf_eq {n : GNode} {A B : List GDelta} {m : KS} (h : OInv n A B (-1) m) (hA : okI n 0 A) (hB : okI n 1 B) {i : Int} (hi : i = 0 ∨ i = 1) {k : ByteArray} (hk : k ∈ mkeys m) : rowsOf i m k = ofK n i k (two i A B) := by
 obtain ⟨s, hs⟩ := mkeys_look.1 hk
 unfold rowsOf
 rw [hs]
 rw [h.look] at hs
 rw [keepS_some hs]
 rcases hi with rfl | rfl
 ·show ofK n 0 k (A.filter (aft (-1))) = ofK n 0 k A
  rw [aft_all hA]
 ·show ofK n 1 k (B.filter (aft (-1))) = ofK n 1 k B
  rw [aft_all hB]
theorem keys_all {n : GNode} {A B : List GDelta} {m : KS} (h : OInv n A B (-1) m) (hA : okI n 0 A) (hB : okI n 1 B) {i : Int} (hi : i = 0 ∨ i = 1) {x : GDelta} (hx : x ∈ two i A B) : kd n i x ∈ mkeys m := by
 rcases hi with rfl | rfl
 ·exact h.key (.inl (ofK_mem.2 ⟨by rw [aft_all hA]; exact hx, rfl⟩))
 ·exact h.key (.inr (ofK_mem.2 ⟨by rw [aft_all hB]; exact hx, rfl⟩))
end Go.PL
namespace Go.PL
open Go
set_option linter.unusedVariables false
set_option maxRecDepth 20000
def bl (b : ByteArray) : List UInt8 := b.data.toList
theorem bl_app (a b : ByteArray) : bl (a ++ b) = bl a ++ bl b := by
 unfold bl; rw [ByteArray.data_append, Array.toList_append]
theorem bl_inj {a b : ByteArray} (h : bl a = bl b) : a = b := by
 cases a; cases b; simp [bl] at h; simp [h]
theorem dig_toNat {d : Nat} (h : d < 10) : (UInt8.ofNat (48 + d)).toNat = 48 + d := by
 rw [UInt8.toNat_ofNat']; omega
def decV (l : List UInt8) : Nat := l.foldl (fun a b => a * 10 + (b.toNat - 48)) 0
theorem decV_dig (u : Nat) : decV (Lib.decDigits u) = u := by
 induction u using Nat.strongRecOn with
 | _ u ih =>
  by_cases h : u < 10
  ·rw [Lib.decDigits, dif_pos h]
   simp only [decV, List.foldl_cons, List.foldl_nil]
   rw [dig_toNat h]; omega
  ·rw [Lib.decDigits, dif_neg h]
   have := ih (u / 10) (by omega)
   unfold decV at this ⊢
   rw [List.foldl_append, this]
   simp only [List.foldl_cons, List.foldl_nil]
   rw [dig_toNat (by omega)]; omega
theorem dig_mem (u : Nat) : ∀ b, b ∈ Lib.decDigits u → 48 ≤ b.toNat ∧ b.toNat ≤ 57 := by
 induction u using Nat.strongRecOn with
 | _ u ih =>
  intro b hb
  by_cases h : u < 10
  ·rw [Lib.decDigits, dif_pos h, List.mem_singleton] at hb
   rw [hb, dig_toNat h]; omega
  ·rw [Lib.decDigits, dif_neg h, List.mem_append, List.mem_singleton] at hb
   rcases hb with hb | rfl
   ·exact ih (u / 10) (by omega) b hb
   ·rw [dig_toNat (by omega)]; omega
theorem itoa_mem (n : Int) : ∀ b, b ∈ Lib.itoa n → b.toNat = 45 ∨ (48 ≤ b.toNat ∧ b.toNat ≤ 57) := by
 intro b hb
 unfold Lib.itoa at hb
 split at hb
 ·rcases List.mem_cons.1 hb with rfl | hb
  ·exact .inl rfl
  ·exact .inr (dig_mem _ b hb)
 ·exact .inr (dig_mem _ b hb)
theorem no45 (u : Nat) (l : List UInt8) : Lib.decDigits u ≠ 45 :: l := by
 intro h
 have := dig_mem u 45 (by rw [h]; exact List.mem_cons_self)
 have e : (45 : UInt8).toNat = 45 := rfl
 omega
theorem itoa_inj {n m : Int} (h : Lib.itoa n = Lib.itoa m) : n = m := by
 unfold Lib.itoa at h
 split at h <;> split at h
 ·have := congrArg decV (List.cons.inj h).2
  rw [decV_dig, decV_dig] at this; omega
 ·exact absurd h.symm (no45 _ _)
 ·exact absurd h (no45 _ _)
 ·have := congrArg decV h
  rw [decV_dig, decV_dig] at this; omega
theorem split_mark {c : UInt8} : ∀ {l l' x y : List UInt8}, (∀ b, b ∈ l → b ≠ c) → (∀ b, b ∈ l' → b ≠ c) → l ++ c :: x = l' ++ c :: y → l = l' ∧ x = y
 | [], [], x, y, _, _, h => ⟨rfl, (List.cons.inj h).2⟩
 | [], b :: l', x, y, _, h', h => absurd (List.cons.inj h).1.symm (h' b List.mem_cons_self)
 | b :: l, [], x, y, h', _, h => absurd (List.cons.inj h).1 (h' b List.mem_cons_self)
 | b :: l, b' :: l', x, y, h1, h2, h => by
  obtain ⟨e1, e2⟩ := List.cons.inj h
  obtain ⟨q1, q2⟩ := split_mark (fun b hb => h1 b (List.mem_cons_of_mem _ hb)) (fun b hb => h2 b (List.mem_cons_of_mem _ hb)) e2
  exact ⟨by rw [e1, q1], q2⟩
theorem itoa_no (n : Int) {c : UInt8} (h : 58 ≤ c.toNat) : ∀ b, b ∈ Lib.itoa n → b ≠ c := by
 rintro b hb rfl
 have := itoa_mem n b hb
 omega
theorem bl_itoa (n : Int) : bl (itoaB n) = Lib.itoa n := rfl
theorem bl_num (n : Int) : bl (numB n) = Lib.itoa n ++ [59] := by unfold numB; rw [bl_app, bl_itoa]; rfl
theorem num_inj {n m : Int} {x y : List UInt8} (h : bl (numB n) ++ x = bl (numB m) ++ y) : n = m ∧ x = y := by
 rw [bl_num, bl_num, List.append_assoc, List.append_assoc] at h
 obtain ⟨q1, q2⟩ := split_mark (itoa_no n (by decide)) (itoa_no m (by decide)) h
 exact ⟨itoa_inj q1, q2⟩
theorem bl_txt (s : ByteArray) : bl (txtB s) = Lib.itoa s.size ++ 58 :: (bl s ++ [44]) := by
 unfold txtB
 rw [bl_app, bl_app, bl_app, bl_itoa]
 simp [bl]
theorem txt_inj {s t : ByteArray} {x y : List UInt8} (h : bl (txtB s) ++ x = bl (txtB t) ++ y) : s = t ∧ x = y := by
 rw [bl_txt, bl_txt, List.append_assoc, List.append_assoc] at h
 obtain ⟨q1, q2⟩ := split_mark (itoa_no _ (by decide)) (itoa_no _ (by decide)) h
 have hs := itoa_inj q1
 have hl : (bl s).length = (bl t).length := by
  have e : ∀ z : ByteArray, (bl z).length = z.size := fun z => by unfold bl; rw [Array.length_toList]; rfl
  rw [e, e]; omega
 have q2' : (bl s ++ [44]) ++ x = (bl t ++ [44]) ++ y := q2
 rw [List.append_assoc, List.append_assoc] at q2'
 obtain ⟨q3, q4⟩ := List.append_inj q2' hl
 exact ⟨bl_inj q3, (List.cons.inj q4).2⟩
theorem val_inj {v w : GValue} {x y : List UInt8} (h : bl (valB v) ++ x = bl (valB w) ++ y) : v = w ∧ x = y := by
 unfold valB at h
 rw [bl_app, bl_app, bl_app, bl_app] at h
 simp only [List.append_assoc] at h
 obtain ⟨q1, h⟩ := num_inj h
 obtain ⟨q2, h⟩ := num_inj h
 obtain ⟨q3, h⟩ := txt_inj h
 refine ⟨?_, h⟩
 cases v; cases w; simp_all
theorem bl_fold (b : ByteArray) : ∀ r : List GValue, bl (r.foldl (fun b v => b ++ valB v) b) = bl b ++ r.flatMap (fun v => bl (valB v))
 | [] => by simp
 | v :: r => by rw [List.foldl_cons, bl_fold, bl_app, List.flatMap_cons, List.append_assoc]
theorem bl_row (r : List GValue) : bl (rowB r) = bl (numB r.length) ++ r.flatMap (fun v => bl (valB v)) := by
 unfold rowB
 rw [bl_fold, bl_app]; rfl
theorem vals_inj : ∀ {r s : List GValue} {x y : List UInt8}, r.length = s.length → r.flatMap (fun v => bl (valB v)) ++ x = s.flatMap (fun v => bl (valB v)) ++ y → r = s ∧ x = y
 | [], [], x, y, _, h => ⟨rfl, h⟩
 | [], _ :: _, _, _, h, _ => by cases h
 | _ :: _, [], _, _, h, _ => by cases h
 | v :: r, w :: s, x, y, hl, h => by
  rw [List.flatMap_cons, List.flatMap_cons, List.append_assoc, List.append_assoc] at h
  obtain ⟨q1, q2⟩ := val_inj h
  obtain ⟨q3, q4⟩ := vals_inj (by simpa using hl) q2
  exact ⟨by rw [q1, q3], q4⟩
theorem rowB_inj {r s : List GValue} (h : rowB r = rowB s) : r = s := by
 have h := congrArg (fun b => bl b ++ []) h
 simp only [bl_row] at h
 rw [List.append_assoc, List.append_assoc] at h
 obtain ⟨q1, q2⟩ := num_inj h
 exact (vals_inj (by omega) q2).1
def keyV (n : GNode) (i : Int) (row : List GValue) : List GValue := (colsOf n i).map fun c => row.getD c.toNat default
theorem kd_iff (n : GNode) (i j : Int) (a b : GDelta) : kd n i a = kd n j b ↔ keyV n i a.Row = keyV n j b.Row :=
 ⟨fun h => rowB_inj h, fun h => by show rowB (keyV n i a.Row) = rowB (keyV n j b.Row); rw [h]⟩
end Go.PL
namespace Go.PL
open Go
set_option linter.unusedVariables false
set_option maxRecDepth 20000
def rowA (n : GNode) (R : List GDelta) (a : GDelta) : List GDelta := if n.Op = 6 then joinA n 0 R a else asofA n R a
theorem MS_flat (n : GNode) (s : GSide) : MS n s = s.rows_.e0.flatMap (rowA n s.rows_.e1) := by
 unfold MS rowA joinF asofF
 by_cases h : n.Op = 6
 ·simp only [if_pos h]
 ·simp only [if_neg h]
def refM (n : GNode) (A B : List GDelta) : List GDelta := A.flatMap fun a => rowA n (ofK n 1 (kd n 0 a) B) a
theorem wt_flatD (p : Pl → Bool) (f : GDelta → List GDelta) : ∀ l : List GDelta, wt p (l.flatMap f) = sumD (fun x => wt p (f x)) l
 | [] => rfl
 | x :: l => by rw [List.flatMap_cons, wt_app, wt_flatD p f l]; rfl
theorem sumK_sumD (n : GNode) (i : Int) (ks : List ByteArray) (hn : ks.Nodup) (f : ByteArray → GDelta → Int) : ∀ l : List GDelta, (∀ x, x ∈ l → kd n i x ∈ ks) → sumK (fun k => sumD (f k) (ofK n i k l)) ks = sumD (fun x => f (kd n i x) x) l
 | [], _ => Eq.trans (sumK_congr (g := fun _ => 0) fun k _ => rfl) (sumK_zero ks)
 | x :: l, h => by
  have ih := sumK_sumD n i ks hn f l fun y hy => h y (List.mem_cons_of_mem _ hy)
  have e : ∀ k, sumD (f k) (ofK n i k (x :: l)) = (if kd n i x = k then f (kd n i x) x else 0) + sumD (f k) (ofK n i k l) := by
   intro k
   unfold ofK
   by_cases hk : kd n i x = k
   ·rw [List.filter_cons_of_pos (p := fun d => decide (kd n i d = k)) (decT hk), if_pos hk, ← hk]; rfl
   ·rw [List.filter_cons_of_neg (p := fun d => decide (kd n i d = k)) (decF hk), if_neg hk]; omega
  rw [sumK_congr fun k _ => e k, sumK_add, ih, sumK_one _ _ ks hn (h x List.mem_cons_self)]
  rfl
theorem Phi_ref {n : GNode} {A B : List GDelta} {t : Int} {m : KS} (h : OInv n A B t m) (p : Pl → Bool) : Phi n p m = wt p (refM n (A.filter (aft t)) (B.filter (aft t))) := by
 obtain ⟨ks, hk1, hk2⟩ := nodup_over (mkeys m ++ (A.filter (aft t)).map (kd n 0))
 rw [Phi_over h.mc hk1 fun k hk => hk2 k (List.mem_append_left _ hk)]
 have e : ∀ k, fPhi n p m k = sumD (fun a => wt p (rowA n (ofK n 1 k (B.filter (aft t))) a)) (ofK n 0 k (A.filter (aft t))) := by
  intro k
  unfold fPhi
  rw [h.look, keepS_getD, MS_flat, wt_flatD]
 rw [sumK_congr fun k _ => e k, sumK_sumD n 0 ks hk1 (fun k a => wt p (rowA n (ofK n 1 k (B.filter (aft t))) a)) _ fun x hx => hk2 _ (List.mem_append_right _ (List.mem_map.2 ⟨x, hx, rfl⟩))]
 unfold refM
 rw [wt_flatD]
end Go.PL
namespace Go.PL
open Go
set_option linter.unusedVariables false
set_option maxRecDepth 20000
theorem w8 {n : Int} (h0 : 0 ≤ n) (h1 : n ≤ 255) : IntKind.u8.wrap n = n := by
 simp only [IntKind.wrap, IntKind.bits, IntKind.signed]
 simp
 omega
theorem bstr1 (x : Int) : bstr (([x] : List Int)).length (eF cU8 ([x] : List Int)) = ⟨#[UInt8.ofNat x.toNat]⟩ := rfl
def digB (u : Nat) : ByteArray := ⟨(Lib.decDigits u).toArray⟩
theorem digB_size (u : Nat) (h : u ≤ 9223372036854775808) : (digB u).size ≤ 21 := by
 have h1 := Lib.itoa_length_le (-(u : Int)) (by omega) (by omega)
 show (Lib.decDigits u).toArray.size ≤ 21
 rw [List.size_toArray]
 by_cases hu : u = 0
 ·subst hu; rw [Lib.decDigits, dif_pos (by decide)]; decide
 ·rw [Lib.itoa_neg u (by omega)] at h1
  simp only [List.length_cons] at h1; omega
theorem G122_sq (b : Bool) (n : Int) (h : n ≤ 0 ∧ -9223372036854775808 ≤ n) : Sq b (G122 n) (fun d => d = digB n.natAbs) := by
 refine fixF_sq (C := fun (a : Int) (x : Option (ByteArray)) => Con Proofs.Tryz.prog 122 [.t (.int .i64 (a))] x (fun (y : ByteArray) => .t (.str (y)))) (fun a => ⟨callable_of Proofs.Tryz.func122 (by kernel_rfl), fun _ h => nomatch h⟩) (fun rec a => T122 rec a) (fun rec a => T122_ok rec a)
  (fun n => n ≤ 0 ∧ -9223372036854775808 ≤ n) (fun n => n.natAbs) (fun n d => d = digB n.natAbs) (fun b f n hn hrec => ?_) b n h
 obtain ⟨u, rfl⟩ : ∃ u : Nat, n = -(u : Int) := ⟨n.natAbs, by omega⟩
 have hu : u ≤ 9223372036854775808 := by omega
 have e1 : Int.tmod (-(u : Int)) 10 = -((u % 10 : Nat) : Int) := by rw [Int.neg_tmod]; rfl
 have e2 : Int.tdiv (-(u : Int)) 10 = -((u / 10 : Nat) : Int) := by rw [Int.neg_tdiv]; rfl
 have e3 : IntKind.u8.wrap (IntKind.i64.wrap (48 - Int.tmod (-(u : Int)) 10)) = ((48 + u % 10 : Nat) : Int) := by
  rw [e1, wrap_id (by omega) (by omega), w8 (by omega) (by omega)]; omega
 have e4 : IntKind.i64.wrap (Int.tdiv (-(u : Int)) 10) = -((u / 10 : Nat) : Int) := by rw [e2, wrap_id (by omega) (by omega)]
 have ea : (-(u : Int)).natAbs = u := by omega
 unfold T122
 simp only [Tr.den]
 rw [e3, e4, bstr1, Int.toNat_natCast, ea]
 by_cases hs : u < 10
 ·rw [if_pos (decT (by omega))]
  refine sq_some.2 ?_
  unfold digB
  rw [Lib.decDigits, dif_pos hs, Nat.mod_eq_of_lt hs]
 ·rw [if_neg (decF (by omega))]
  refine Sq.bind _ (hrec _ ⟨by omega, by omega⟩ (by rw [ea]; omega)) fun r hr => ?_
  subst hr
  rw [show (-((u / 10 : Nat) : Int)).natAbs = u / 10 by omega]
  have hz := digB_size (u / 10) (by omega)
  rw [if_pos (by rw [sz1]; omega)]
  refine sq_some.2 (bl_inj ?_)
  rw [bl_app]
  show Lib.decDigits (u / 10) ++ [UInt8.ofNat (48 + u % 10)] = Lib.decDigits u
  rw [Lib.decDigits.eq_1 u, dif_neg hs]
theorem G122_eq (u : Nat) (h : u ≤ 9223372036854775808) : G122 (-(u : Int)) = some (digB u) := by
 have := Sp.eq (G122_sq true (-(u : Int)) ⟨by omega, by omega⟩)
 rw [show (-(u : Int)).natAbs = u by omega] at this
 exact this
theorem itoaB_pos (u : Nat) : itoaB (u : Int) = digB u := by unfold itoaB digB; rw [Lib.itoa_nonneg]
theorem itoaB_neg (u : Nat) (h : 1 ≤ u) : itoaB (-(u : Int)) = (⟨#[45]⟩ : ByteArray) ++ digB u := by
 refine bl_inj ?_
 rw [bl_app]
 show Lib.itoa (-(u : Int)) = [45] ++ Lib.decDigits u
 rw [Lib.itoa_neg u h]; rfl
theorem den_itT {P : Program} {Y : Type} {n : Nat} {c : Bool} {t e : Tr P Y} (h : c = true) : (Tr.ite n c t e).den = t.den := if_pos h
theorem den_itF {P : Program} {Y : Type} {n : Nat} {c : Bool} {t e : Tr P Y} (h : ¬ c = true) : (Tr.ite n c t e).den = e.den := if_neg h
theorem G55_eq {n : Int} (h : in64 n) : G55 n = some (numB n) := by
 obtain ⟨h0, h1⟩ := h
 unfold G55 T55
 by_cases hn : n < 0
 ·obtain ⟨u, rfl⟩ : ∃ u : Nat, n = -(u : Int) := ⟨n.natAbs, by omega⟩
  have hz := digB_size u (by omega)
  refine (den_itT (decT hn)).trans ((den_ca (G122_eq u (by omega))).trans ((den_grd ?_).trans ((den_grd ?_).trans ?_)))
  ·rw [sz1]; omega
  ·rw [ByteArray.size_append, sz1, sz1]; omega
  ·rw [← itoaB_neg u (by omega)]; rfl
 ·obtain ⟨u, rfl⟩ : ∃ u : Nat, n = (u : Int) := ⟨n.natAbs, by omega⟩
  have hz := digB_size u (by omega)
  have e : IntKind.i64.wrap (0 - (u : Int)) = -(u : Int) := by rw [show (0 : Int) - (u : Int) = -(u : Int) by omega, wrap_id (by omega) (by omega)]
  refine (den_itF (decF hn)).trans ((den_ca (by rw [e]; exact G122_eq u (by omega))).trans ((den_grd ?_).trans ?_))
  ·rw [sz1]; omega
  ·rw [← itoaB_pos]; rfl
theorem G56_eq {s : ByteArray} (h : s.size ≤ 1000000000000) : G56 s = some (txtB s) := by
 have hz := digB_size s.size (by omega)
 have e : IntKind.i64.wrap (0 - (s.size : Int)) = -(s.size : Int) := by rw [show (0 : Int) - (s.size : Int) = -(s.size : Int) by omega, wrap_id (by omega) (by omega)]
 have h2 : G122 (IntKind.i64.wrap (0 - (s.size : Int))) = some (itoaB (s.size : Int)) := by rw [e, itoaB_pos]; exact G122_eq s.size (by omega)
 rw [← itoaB_pos] at hz
 generalize hi : itoaB (s.size : Int) = z at hz h2
 have e1 : (z ++ (⟨#[58]⟩ : ByteArray)).size = z.size + 1 := ByteArray.size_append
 have e2 : ((z ++ (⟨#[58]⟩ : ByteArray)) ++ s).size = z.size + 1 + s.size := by rw [ByteArray.size_append, e1]
 unfold G56 T56
 refine (den_ca h2).trans ((den_grd ?_).trans ((den_grd ?_).trans ((den_grd ?_).trans ?_)))
 ·rw [sz1]; omega
 ·rw [e1]; omega
 ·rw [e2, sz1]; omega
 ·unfold txtB
  rw [hi]
  rfl
theorem G123_eq (n : Nat) (h : n ≤ 1000000000000) : G123 (n : Int) = some (numB (n : Int)) := by
 unfold G123 T123
 simp only [Tr.den]
 rw [if_neg (decF (by omega)), G55_eq (n := (n : Int)) ⟨by omega, by omega⟩]
 rfl
theorem G169_eq {v : GValue} (h : okV v) : G169 v = some (valB v) := by
 have h1 := numB_size h.k
 have h2 := numB_size h.n
 have h3 := txtB_size h.s
 have h4 := h.s
 unfold G169 T169
 simp only [Tr.den, G55_eq h.k, G55_eq h.n, G56_eq (s := v.S) (by omega), Option.bind_some]
 rw [if_pos (by omega), ByteArray.size_append, if_pos (by omega)]
 rfl
theorem nil_app (b : ByteArray) : (⟨#[]⟩ : ByteArray) ++ b = b := bl_inj (by rw [bl_app]; rfl)
theorem G124_eq (r : List GValue) (h : okVs r) (hn : r.length ≤ 1000) : G124 r = some (rowB r) := by
 have hs := numB_size (n := (r.length : Int)) ⟨by omega, by omega⟩
 have e0 : rowB r = r.foldl (fun b v => b ++ valB v) (numB (r.length : Int)) := by unfold rowB; rw [nil_app]
 unfold G124 T124
 simp only [Tr.den]
 rw [G123_eq r.length (by omega), e0]
 simp only [Option.bind_some]
 have h1 := while_trace (bd := fun s => (T124_L0 r s).den) (fun i => ((r.take i).foldl (fun b v => b ++ valB v) (numB (r.length : Int)), (i : Int))) r.length (r := .inl (r.foldl (fun b v => b ++ valB v) (numB (r.length : Int)))) (fun i hi => ?_) ?_
 ·refine (congrArg (fun x => Option.bind x _) h1).trans ?_
  rfl
 ·unfold T124_L0
  simp only [Tr.den, Int.toNat_natCast]
  have h2 := foldB_size (numB (r.length : Int)) (r.take i) fun v hv => h v (List.mem_of_mem_take hv)
  have h3 := valB_size (h.get i)
  simp only [List.length_take] at h2
  rw [if_pos (decT (by omega)), if_pos (by omega), G169_eq (h.get i)]
  simp only [Option.bind_some]
  rw [if_pos (by
   have : min i r.length * 1073742000 ≤ 1000 * 1073742000 := Nat.mul_le_mul (by omega) (Nat.le_refl _)
   omega)]
  rw [wrap_inc (by omega), take_succ_getD hi, List.foldl_append]
  rfl
 ·unfold T124_L0
  simp only [Tr.den]
  rw [if_neg (decF (by omega)), List.take_length]
def deltaB (d : GDelta) : ByteArray := (numB d.Time ++ txtB (rowB d.Row)) ++ numB d.N
def listB (l : List GDelta) : ByteArray := l.foldl (fun b d => b ++ deltaB d) (numB (l.length : Int))
structure okY (l : List GDelta) : Prop where
 d : okD l
 z : okZ l
 t : okTm l
 n : l.length ≤ 1000
theorem okY.cons {l : List GDelta} (h : okY l) : okY (PL.cons l) := ⟨h.d.cons, h.z.cons, fun x hx => by
  obtain ⟨z, hz, e⟩ := cons_mem hx
  have : x.Time = z.Time := congrArg Prod.fst e
  rw [this]; exact h.t z hz, Nat.le_trans (cons_len l) h.n⟩
theorem okY.sub {l r : List GDelta} (h : okY l) (hs : ∀ x, x ∈ r → x ∈ l) (hn : r.length ≤ 1000) : okY r := ⟨h.d.sub hs, h.z.sub hs, fun x hx => h.t x (hs x hx), hn⟩
theorem deltaB_size {l : List GDelta} (h : okY l) (k : Nat) (hk : k < l.length) : (deltaB (l.getD k default)).size ≤ 12700000 := by
 have hm := getD_mem hk
 have hT := h.t.get k
 have hR := h.z.get k
 have b1 := rowB_size2 hR
 have iT : in64 (l.getD k default).Time := ⟨by omega, by omega⟩
 have b2 := txtB_size2 (s := rowB (l.getD k default).Row) (by omega)
 have b3 := numB_size iT
 have b4 := numB_size (h.d.n _ hm)
 unfold deltaB
 rw [ByteArray.size_append, ByteArray.size_append]
 omega
theorem foldD_size (b : ByteArray) {l : List GDelta} (h : okY l) : ∀ k, k ≤ l.length → ((l.take k).foldl (fun b d => b ++ deltaB d) b).size ≤ b.size + k * 12700000
 | 0, _ => by simp
 | k + 1, hk => by
  have h1 := foldD_size b h k (by omega)
  have h2 := deltaB_size h k (by omega)
  rw [take_succ_getD (by omega), List.foldl_append]
  simp only [List.foldl_cons, List.foldl_nil]
  rw [ByteArray.size_append]
  omega
theorem listB_size {l : List GDelta} (h : okY l) : (listB l).size ≤ 20000000000 := by
 have hn := h.n
 have h1 := foldD_size (numB (l.length : Int)) h l.length (Nat.le_refl _)
 have h2 := numB_size (n := (l.length : Int)) ⟨by omega, by omega⟩
 rw [List.take_length] at h1
 unfold listB
 have : l.length * 12700000 ≤ 1000 * 12700000 := Nat.mul_le_mul hn (Nat.le_refl _)
 omega
theorem app3 (a b c d : ByteArray) : ((a ++ b) ++ c) ++ d = a ++ ((b ++ c) ++ d) := by
 refine bl_inj ?_
 simp only [bl_app, List.append_assoc]
theorem G57_eq {l : List GDelta} (h : okY l) : G57 l = some (listB (PL.cons l)) := by
 have hY := h.cons
 have hn := h.n
 unfold G57 T57
 simp only [Tr.den]
 rw [G107_eq l h.d.r h.d.n (by omega)]
 simp only [Option.bind_some]
 generalize PL.cons l = r at *
 have hr := hY.n
 rw [G123_eq r.length (by omega)]
 simp only [Option.bind_some]
 have hs := numB_size (n := (r.length : Int)) ⟨by omega, by omega⟩
 have h1 := while_trace (bd := fun s => (T57_L0 r s).den) (fun i => ((r.take i).foldl (fun b d => b ++ deltaB d) (numB (r.length : Int)), (i : Int))) r.length (r := .inl (listB r)) (fun i hi => ?_) ?_
 ·refine (congrArg (fun x => Option.bind x _) h1).trans ?_
  rfl
 ·unfold T57_L0
  simp only [Tr.den, Int.toNat_natCast]
  have h2 := foldD_size (numB (r.length : Int)) hY i (by omega)
  have hmul : i * 12700000 ≤ 1000 * 12700000 := Nat.mul_le_mul (by omega) (Nat.le_refl _)
  have hm := getD_mem hi
  have hT := hY.t.get i
  have hR := hY.z.get i
  have b1 := rowB_size2 hR
  have iT : in64 (r.getD i default).Time := ⟨by omega, by omega⟩
  have b2 := txtB_size2 (s := rowB (r.getD i default).Row) (by omega)
  have b3 := numB_size iT
  have b4 := numB_size (hY.d.n _ hm)
  have hl := hR.l
  rw [if_pos (decT (by omega)), if_pos (by omega), G55_eq iT]
  simp only [Option.bind_some]
  rw [if_pos (by omega), if_pos (by omega), G124_eq _ hR.v (by omega)]
  simp only [Option.bind_some]
  rw [G56_eq (by omega)]
  simp only [Option.bind_some]
  rw [ByteArray.size_append, if_pos (by omega), if_pos (by omega), G55_eq (hY.d.n _ hm)]
  simp only [Option.bind_some]
  rw [ByteArray.size_append, ByteArray.size_append, if_pos (by omega), wrap_inc (by omega), take_succ_getD hi, List.foldl_append]
  simp only [List.foldl_cons, List.foldl_nil]
  rw [app3]
  rfl
 ·unfold T57_L0
  simp only [Tr.den]
  rw [if_neg (decF (by omega)), List.take_length]
  rfl
theorem G53_eq {l : List GDelta} (h : okY l) : G53 l = some (listB (PL.cons l)) := by
 have hY := h.cons
 have hn := h.n
 unfold G53 T53
 simp only [Tr.den]
 rw [G27_eq l h.d.r h.d.n (by omega)]
 simp only [Option.bind_some]
 generalize PL.cons l = r at *
 have hr := hY.n
 rw [G119_eq r.length (by omega)]
 simp only [Option.bind_some]
 have hs := numB_size (n := (r.length : Int)) ⟨by omega, by omega⟩
 rw [if_pos (by show 0 + _ ≤ _; omega), nil_app]
 simp only [Option.bind_some]
 have h1 := while_trace (bd := fun s => (T53_L0 r s).den) (fun i => ((r.take i).foldl (fun b d => b ++ deltaB d) (numB (r.length : Int)), (i : Int))) r.length (r := .inl (listB r)) (fun i hi => ?_) ?_
 ·refine (congrArg (fun x => Option.bind x _) h1).trans ?_
  rfl
 ·unfold T53_L0
  simp only [Tr.den, Int.toNat_natCast]
  have h2 := foldD_size (numB (r.length : Int)) hY i (by omega)
  have h3 := deltaB_size hY i hi
  have hmul : i * 12700000 ≤ 1000 * 12700000 := Nat.mul_le_mul (by omega) (Nat.le_refl _)
  have hm := getD_mem hi
  have hT := hY.t.get i
  have hR := hY.z.get i
  have b1 := rowB_size2 hR
  have iT : in64 (r.getD i default).Time := ⟨by omega, by omega⟩
  have b2 := txtB_size2 (s := rowB (r.getD i default).Row) (by omega)
  have b3 := numB_size iT
  have b4 := numB_size (hY.d.n _ hm)
  have hl := hR.l
  rw [if_pos (decT (by omega)), if_pos (by omega), G51_eq iT]
  simp only [Option.bind_some]
  rw [G120_eq _ hR.v (by omega)]
  simp only [Option.bind_some]
  rw [G52_eq2 (by omega)]
  simp only [Option.bind_some]
  rw [if_pos (by omega), G51_eq (hY.d.n _ hm)]
  simp only [Option.bind_some]
  rw [ByteArray.size_append, if_pos (by omega), ByteArray.size_append, ByteArray.size_append, if_pos (by omega)]
  simp only [Option.bind_some]
  rw [wrap_inc (by omega), take_succ_getD hi, List.foldl_append]
  simp only [List.foldl_cons, List.foldl_nil]
  rfl
 ·unfold T53_L0
  simp only [Tr.den]
  rw [if_neg (decF (by omega)), List.take_length]
  rfl
end Go.PL
namespace Go.PL
open Go
set_option linter.unusedVariables false
set_option maxRecDepth 20000
theorem G161_eq (row : List GValue) (cols : List Int) (hc : okCols cols row) (hl : cols.length ≤ 1000) : G161 row cols = some (cols.map fun c => row.getD c.toNat default) := by
 unfold G161 T161
 simp only [Tr.den]
 have h1 := while_trace (bd := fun s => (T161_L0 row cols s).den) (fun k => ((cols.take k).map fun c => row.getD c.toNat default, (k : Int))) cols.length (r := .inl (cols.map fun c => row.getD c.toNat default)) (fun k hk => ?_) ?_
 ·refine (congrArg (fun x => Option.bind x _) h1).trans ?_
  rfl
 ·unfold T161_L0
  simp only [Tr.den, Int.toNat_natCast]
  have h2 := hc _ (getD_mem hk)
  rw [if_pos (decT (by omega)), if_pos (by omega), if_pos h2, if_pos (by simp; omega), wrap_inc (by omega), take_succ_getD hk, List.map_append]
  rfl
 ·unfold T161_L0
  simp only [Tr.den]
  rw [if_neg (decF (by omega)), List.take_length]
theorem keyV_len (n : GNode) (i : Int) (row : List GValue) : (keyV n i row).length = (colsOf n i).length := by unfold keyV; rw [List.length_map]
theorem G161_key (n : GNode) (i : Int) (row : List GValue) (hc : okCols (colsOf n i) row) (hl : (colsOf n i).length ≤ 1000) : G161 row (colsOf n i) = some (keyV n i row) := G161_eq row _ hc hl
theorem G160_eq (a b : List GValue) (ha : a.length ≤ 1073741824) (hb : b.length ≤ 1073741824) : G160 a b = some (cmpR a b == 0) := by
 unfold G160 T160
 simp only [Tr.den]
 rw [G116_eq a b ha hb]
 rfl
theorem key_dec (n : GNode) (a b : GDelta) : (cmpR (keyV n 0 a.Row) (keyV n 1 b.Row) == 0) = decide (kd n 1 b = kd n 0 a) := by
 rw [Bool.eq_iff_iff, beq_iff_eq, decide_eq_true_eq, kd_iff, TO.row.eq]
 exact ⟨fun h => h.symm, fun h => h.symm⟩
theorem G162_eq (a b : GDelta) (t n : Int) (ha : a.Row.length ≤ 1000) (hb : b.Row.length ≤ 1000) : G162 a b t n = some (pairF a b t n) := by
 unfold G162 T162
 simp only [Tr.den]
 rw [if_pos (by omega), if_pos (by omega)]
 rfl
def condJ (n : GNode) (a b : GDelta) : Bool := decide (kd n 1 b = kd n 0 a) && (decide (a.Time - n.Before ≤ b.Time) && decide (b.Time ≤ a.Time + n.After))
def refJ (n : GNode) (B : List GDelta) (a : GDelta) : List GDelta := (B.filter (condJ n a)).map (joinP 0 a)
theorem joinP0 (a b : GDelta) : joinP 0 a b = pairF a b (if b.Time > a.Time then b.Time else a.Time) (W (a.N * b.N)) := by unfold joinP; rw [if_neg (show ¬ (0 : Int) = 1 by decide)]
theorem refJ_eq (n : GNode) (B : List GDelta) (a : GDelta) : refJ n B a = joinA n 0 (ofK n 1 (kd n 0 a) B) a := by
 unfold refJ joinA nearF ofK
 rw [if_neg (by omega), if_neg (by omega), List.filter_filter]
 congr 2
 funext b
 unfold condJ
 rw [Bool.and_comm]
structure okJ (n : GNode) (i : Int) (l : List GDelta) : Prop where
 c : ∀ d, d ∈ l → okCols (colsOf n i) d.Row
 w : okW l
 t : okTm l
 n : l.length ≤ 1000000
theorem okI.okJ {n : GNode} {i : Int} {l : List GDelta} (h : okI n i l) (hn : l.length ≤ 1000000) : okJ n i l := ⟨h.c, h.w, h.tm, hn⟩
theorem G111_eq (n : GNode) (A B : List GDelta) (hN : okNode n) (hB : okB n) (hA : okJ n 0 A) (hBB : okJ n 1 B) : G111 n A B = some (A.flatMap (refJ n B)) := by
 have hb := hB.b
 have ha := hB.a
 have lA := hA.n
 have lB := hBB.n
 have len0 : ∀ l, (l : List GDelta).length ≤ 1000000 → (l.flatMap (refJ n B)).length ≤ 1000000 * 1000000 := fun l hl =>
  Nat.le_trans (flatMap_len (c := B.length) (fun a => by unfold refJ; rw [List.length_map]; exact List.length_filter_le _ _) l) (Nat.mul_le_mul hl lB)
 unfold G111 T111
 simp only [Tr.den]
 have h1 := while_trace (bd := fun z => (T111_L0 n A B z).den) (fun q => ((A.take q).flatMap (refJ n B), (q : Int))) A.length (r := .inl (A.flatMap (refJ n B))) (fun q hq => ?_) ?_
 ·refine (congrArg (fun x => Option.bind x _) h1).trans ?_
  rfl
 ·have hm := getD_mem hq
  have tq := hA.t.get q
  have hl0 := len0 (A.take q) (by rw [List.length_take]; omega)
  unfold T111_L0
  simp only [Tr.den]
  rw [if_pos (decT (by omega))]
  have inner : whileM (fun z => (T111_L1 n A B (q : Int) z).den) ((A.take q).flatMap (refJ n B), 0) = some (.inl ((A.take q).flatMap (refJ n B) ++ refJ n B (A.getD q default))) := by
   have h2 := while_trace (bd := fun z => (T111_L1 n A B (q : Int) z).den) (fun p => ((A.take q).flatMap (refJ n B) ++ ((B.take p).filter (condJ n (A.getD q default))).map (joinP 0 (A.getD q default)), (p : Int))) B.length (r := .inl ((A.take q).flatMap (refJ n B) ++ refJ n B (A.getD q default))) (fun p hp => ?_) ?_
   ·rw [← h2]; simp
   ·have hmb := getD_mem hp
    have tp := hBB.t.get p
    have w1 : IntKind.i64.wrap ((A.getD q default).Time - n.Before) = (A.getD q default).Time - n.Before := wrap_id (by omega) (by omega)
    have w2 : IntKind.i64.wrap ((A.getD q default).Time + n.After) = (A.getD q default).Time + n.After := wrap_id (by omega) (by omega)
    have f1 : ((B.take p).filter (condJ n (A.getD q default))).length ≤ p := Nat.le_trans (List.length_filter_le _ _) (by rw [List.length_take]; omega)
    unfold T111_L1
    simp only [Tr.den, Int.toNat_natCast]
    rw [if_pos (decT (by omega)), if_pos (by omega), show n.Key = colsOf n 0 from rfl, G161_key n 0 _ (hA.c _ hm) (hN.cols 0)]
    simp only [Option.bind_some]
    rw [if_pos (by omega), show n.Key2 = colsOf n 1 from rfl, G161_key n 1 _ (hBB.c _ hmb) (hN.cols 1)]
    simp only [Option.bind_some]
    rw [G160_eq _ _ (by rw [keyV_len]; have := hN.cols 0; omega) (by rw [keyV_len]; have := hN.cols 1; omega)]
    simp only [Option.bind_some]
    simp only [key_dec, w1, w2]
    rw [take_succ_getD hp, List.filter_append, List.map_append]
    have fin : ∀ c : Bool, c = condJ n (A.getD q default) (B.getD p default) →
      ((if c = true then
        if 0 ≤ (q : Int) ∧ (q : Int) < (A.length : Int) then if 0 ≤ (p : Int) ∧ (p : Int) < (B.length : Int) then if 0 ≤ (q : Int) ∧ (q : Int) < (A.length : Int) then if 0 ≤ (p : Int) ∧ (p : Int) < (B.length : Int) then if 0 ≤ (q : Int) ∧ (q : Int) < (A.length : Int) then if 0 ≤ (p : Int) ∧ (p : Int) < (B.length : Int) then
         (G162 (A.getD q default) (B.getD p default) (if (B.getD p default).Time > (A.getD q default).Time then (B.getD p default).Time else (A.getD q default).Time) (IntKind.i64.wrap ((A.getD q default).N * (B.getD p default).N))).bind fun r =>
          if ((List.flatMap (refJ n B) (List.take q A) ++ List.map (joinP 0 (A.getD q default)) (List.filter (condJ n (A.getD q default)) (List.take p B))).length + 1) * 40 ≤ 140737488355328 then
           some (List.flatMap (refJ n B) (List.take q A) ++ List.map (joinP 0 (A.getD q default)) (List.filter (condJ n (A.getD q default)) (List.take p B)) ++ [r]) else none
         else none else none else none else none else none else none
        else some (List.flatMap (refJ n B) (List.take q A) ++ List.map (joinP 0 (A.getD q default)) (List.filter (condJ n (A.getD q default)) (List.take p B)))) : Option (List GDelta)) =
      some (List.flatMap (refJ n B) (List.take q A) ++ (List.map (joinP 0 (A.getD q default)) (List.filter (condJ n (A.getD q default)) (List.take p B)) ++ List.map (joinP 0 (A.getD q default)) (List.filter (condJ n (A.getD q default)) [B.getD p default]))) := by
     intro c hc
     cases c with
     | true =>
      rw [if_pos rfl, if_pos (by omega), if_pos (by omega), if_pos (by omega), if_pos (by omega), if_pos (by omega), if_pos (by omega), G162_eq _ _ _ _ (hA.w.get q) (hBB.w.get p)]
      simp only [Option.bind_some]
      rw [if_pos (by rw [List.length_append, List.length_map]; omega), List.filter_cons_of_pos hc.symm, List.filter_nil, List.append_assoc, List.map_cons, List.map_nil, joinP0]
     | false =>
      rw [if_neg (by simp), List.filter_cons_of_neg (by rw [← hc]; simp), List.filter_nil, List.map_nil, List.append_nil]
    by_cases c1 : kd n 1 (B.getD p default) = kd n 0 (A.getD q default)
    ·rw [if_pos (decT c1), if_pos (by omega), if_pos (by omega)]
     by_cases c2 : (A.getD q default).Time - n.Before ≤ (B.getD p default).Time
     ·rw [if_pos (decT c2), if_pos (by omega), if_pos (by omega)]
      simp only [Option.bind_some]
      rw [fin _ (by unfold condJ; rw [decT c1, decT c2]; rfl)]
      simp only [Option.bind_some]
      rw [wrap_inc (by omega)]
     ·rw [if_neg (decF c2)]
      simp only [Option.bind_some]
      rw [fin false (by unfold condJ; rw [show decide ((A.getD q default).Time - n.Before ≤ (B.getD p default).Time) = false from decide_eq_false c2]; simp)]
      simp only [Option.bind_some]
      rw [wrap_inc (by omega)]
    ·rw [if_neg (decF c1)]
     simp only [Option.bind_some]
     rw [fin false (by unfold condJ; rw [show decide (kd n 1 (B.getD p default) = kd n 0 (A.getD q default)) = false from decide_eq_false c1]; rfl)]
     simp only [Option.bind_some]
     rw [wrap_inc (by omega)]
   ·unfold T111_L1
    simp only [Tr.den]
    rw [if_neg (decF (by omega)), List.take_length]
    rfl
  rw [inner]
  simp only [Option.bind_some, sel]
  rw [wrap_inc (by omega), take_succ_getD hq, List.flatMap_append]
  simp
 ·unfold T111_L0
  simp only [Tr.den]
  rw [if_neg (decF (by omega)), List.take_length]
def condA (n : GNode) (a b : GDelta) : Bool := decide (kd n 1 b = kd n 0 a) && (decide (a.Time - n.Keep < b.Time) && decide (b.Time ≤ a.Time))
theorem near_condA (n : GNode) (a : GDelta) (B : List GDelta) : nearF (ofK n 1 (kd n 0 a) B) (a.Time - n.Keep + 1) a.Time = B.filter (condA n a) := by
 unfold nearF ofK
 rw [List.filter_filter]
 congr 1
 funext b
 unfold condA
 rw [Bool.and_comm, show decide (a.Time - n.Keep + 1 ≤ b.Time) = decide (a.Time - n.Keep < b.Time) from rfl]
def bestI (c : GDelta → Bool) (B : List GDelta) : Nat → Int
 | 0 => -1
 | p + 1 => if c (B.getD p default) = true then (p : Int) else bestI c B p
theorem bestI_ok (c : GDelta → Bool) (B : List GDelta) : ∀ p, p ≤ B.length → (bestI c B p = -1 ∧ (B.take p).filter c = []) ∨ ∃ j : Nat, bestI c B p = j ∧ j < p ∧ (B.take p).filter c ≠ [] ∧ ((B.take p).filter c).getD (((B.take p).filter c).length - 1) default = B.getD j default
 | 0, _ => .inl ⟨rfl, rfl⟩
 | p + 1, h => by
  have ih := bestI_ok c B p (by omega)
  rw [take_succ_getD (by omega), List.filter_append]
  unfold bestI
  by_cases hc : c (B.getD p default) = true
  ·rw [if_pos hc, List.filter_cons_of_pos hc, List.filter_nil]
   refine .inr ⟨p, rfl, by omega, by simp, ?_⟩
   rw [List.length_append, getD_app, if_neg (by simp)]
   simp
  ·rw [if_neg hc, List.filter_cons_of_neg hc, List.filter_nil, List.append_nil]
   rcases ih with ih | ⟨j, h1, h2, h3⟩
   ·exact .inl ih
   ·exact .inr ⟨j, h1, by omega, h3⟩
theorem G112_eq (n : GNode) (A B : List GDelta) (hN : okNode n) (hK : 1 ≤ n.Keep ∧ n.Keep ≤ 10000) (hA : okJ n 0 A) (hBB : okJ n 1 B) : G112 n A B = some (A.flatMap fun a => asofA n (ofK n 1 (kd n 0 a) B) a) := by
 have lA := hA.n
 have lB := hBB.n
 unfold G112 T112
 simp only [Tr.den]
 have h1 := while_trace (bd := fun z => (T112_L0 n A B z).den) (fun q => ((A.take q).flatMap (fun a => asofA n (ofK n 1 (kd n 0 a) B) a), (q : Int))) A.length (r := .inl (A.flatMap fun a => asofA n (ofK n 1 (kd n 0 a) B) a)) (fun q hq => ?_) ?_
 ·refine (congrArg (fun x => Option.bind x _) h1).trans ?_
  rfl
 ·have hm := getD_mem hq
  have tq := hA.t.get q
  have hl0 : ((A.take q).flatMap (fun a => asofA n (ofK n 1 (kd n 0 a) B) a)).length ≤ 1000000 := by
   have := flatMap_len (f := fun a => asofA n (ofK n 1 (kd n 0 a) B) a) (c := 1) (fun a => asofA_len n _ a) (A.take q)
   rw [List.length_take] at this; omega
  unfold T112_L0
  simp only [Tr.den, Int.toNat_natCast]
  rw [if_pos (decT (by omega))]
  have inner : whileM (fun z => (T112_L1 n A B (q : Int) z).den) ((A.take q).flatMap (fun a => asofA n (ofK n 1 (kd n 0 a) B) a), -1, 0) = some (.inl ((A.take q).flatMap (fun a => asofA n (ofK n 1 (kd n 0 a) B) a), bestI (condA n (A.getD q default)) B B.length)) := by
   refine while_trace (bd := fun z => (T112_L1 n A B (q : Int) z).den) (fun p => ((A.take q).flatMap (fun a => asofA n (ofK n 1 (kd n 0 a) B) a), bestI (condA n (A.getD q default)) B p, (p : Int))) B.length (fun p hp => ?_) ?_
   ·have hmb := getD_mem hp
    have tp := hBB.t.get p
    have w1 : IntKind.i64.wrap ((A.getD q default).Time - n.Keep) = (A.getD q default).Time - n.Keep := wrap_id (by omega) (by omega)
    unfold T112_L1
    simp only [Tr.den, Int.toNat_natCast]
    rw [if_pos (decT (by omega)), if_pos (by omega), show n.Key = colsOf n 0 from rfl, G161_key n 0 _ (hA.c _ hm) (hN.cols 0)]
    simp only [Option.bind_some]
    rw [if_pos (by omega), show n.Key2 = colsOf n 1 from rfl, G161_key n 1 _ (hBB.c _ hmb) (hN.cols 1)]
    simp only [Option.bind_some]
    rw [G160_eq _ _ (by rw [keyV_len]; have := hN.cols 0; omega) (by rw [keyV_len]; have := hN.cols 1; omega)]
    simp only [Option.bind_some]
    simp only [key_dec, w1]
    have fin : ∀ c : Bool, c = condA n (A.getD q default) (B.getD p default) → ∀ acc : List GDelta,
      ((if c = true then some (acc, (p : Int)) else some (acc, bestI (condA n (A.getD q default)) B p)).bind fun v => some (Sum.inl (v.1, v.2, IntKind.i64.wrap ((p : Int) + 1))) : Option ((List GDelta × Int × Int) ⊕ ((List GDelta × Int) ⊕ ((List GDelta × Int) ⊕ (List GDelta ⊕ List GDelta))))) =
      some (.inl (acc, bestI (condA n (A.getD q default)) B (p + 1), ((p + 1 : Nat) : Int))) := by
     intro c hc acc
     show _ = some (Sum.inl (acc, if condA n (A.getD q default) (B.getD p default) = true then (p : Int) else bestI (condA n (A.getD q default)) B p, ((p + 1 : Nat) : Int)))
     rw [← hc]
     cases c with
     | true =>
      rw [if_pos rfl, if_pos rfl]
      simp only [Option.bind_some]
      rw [wrap_inc (by omega)]
     | false =>
      rw [if_neg (by simp), if_neg (by simp)]
      simp only [Option.bind_some]
      rw [wrap_inc (by omega)]
    by_cases c1 : kd n 1 (B.getD p default) = kd n 0 (A.getD q default)
    ·rw [if_pos (decT c1), if_pos (by omega), if_pos (by omega)]
     by_cases c2 : (A.getD q default).Time - n.Keep < (B.getD p default).Time
     ·rw [if_pos (decT c2), if_pos (by omega), if_pos (by omega)]
      simp only [Option.bind_some]
      exact fin _ (by unfold condA; rw [decT c1, decT c2]; rfl) _
     ·rw [if_neg (decF c2)]
      simp only [Option.bind_some]
      exact fin false (by unfold condA; rw [show decide ((A.getD q default).Time - n.Keep < (B.getD p default).Time) = false from decide_eq_false c2]; simp) _
    ·rw [if_neg (decF c1)]
     simp only [Option.bind_some]
     exact fin false (by unfold condA; rw [show decide (kd n 1 (B.getD p default) = kd n 0 (A.getD q default)) = false from decide_eq_false c1]; rfl) _
   ·unfold T112_L1
    simp only [Tr.den]
    rw [if_neg (decF (by omega))]
  rw [inner]
  simp only [Option.bind_some, sel]
  have hb := bestI_ok (condA n (A.getD q default)) B B.length (Nat.le_refl _)
  rw [List.take_length] at hb
  have hA1 : asofA n (ofK n 1 (kd n 0 (A.getD q default)) B) (A.getD q default) = if B.filter (condA n (A.getD q default)) = [] then [] else [pairF (A.getD q default) ((B.filter (condA n (A.getD q default))).getD ((B.filter (condA n (A.getD q default))).length - 1) default) (A.getD q default).Time (A.getD q default).N] := by
   unfold asofA
   rw [near_condA]
  rw [take_succ_getD hq, List.flatMap_append, List.flatMap_cons, List.flatMap_nil, List.append_nil, hA1]
  rcases hb with ⟨h2, h3⟩ | ⟨j, h2, h3, h4, h5⟩
  ·rw [h2, if_neg (decF (by omega)), if_pos h3]
   simp only [Option.bind_some, List.append_nil]
   rw [wrap_inc (by omega)]
  ·rw [h2, if_pos (decT (by omega)), if_neg h4, h5]
   simp only [Int.toNat_natCast]
   rw [if_pos (by omega), if_pos (by omega), if_pos (by omega), if_pos (by omega), G162_eq _ _ _ _ (hA.w.get q) (hBB.w.get j)]
   simp only [Option.bind_some]
   rw [if_pos (by omega)]
   simp only [Option.bind_some]
   rw [wrap_inc (by omega)]
 ·unfold T112_L0
  simp only [Tr.den]
  rw [if_neg (decF (by omega)), List.take_length]
end Go.PL
namespace Go.PL
open Go
set_option linter.unusedVariables false
set_option maxRecDepth 20000
structure MI (o X Y T : List GDelta) : Prop where
 can : Can o
 lt : ∀ x, x ∈ o → ∀ y, y ∈ X ++ Y → cmpD x y < 0
 same : Same (o ++ (X ++ Y)) T
 cx : Can X
 cy : Can Y
theorem Can.snoc {o : List GDelta} {x : GDelta} (h : Can o) (h1 : ∀ y, y ∈ o → cmpD y x < 0) (h2 : x.N ≠ 0) (h3 : in64 x.N) : Can (o ++ [x]) := by
 refine ⟨List.pairwise_append.2 ⟨h.lt, List.pairwise_singleton _ _, fun y hy z hz => ?_⟩, fun y hy => ?_, fun y hy => ?_⟩
 ·rw [List.mem_singleton.1 hz]; exact h1 y hy
 ·rcases List.mem_append.1 hy with hy | hy
  ·exact h.nz y hy
  ·rw [List.mem_singleton.1 hy]; exact h2
 ·rcases List.mem_append.1 hy with hy | hy
  ·exact h.n64 y hy
  ·rw [List.mem_singleton.1 hy]; exact h3
theorem lt_all {x y : GDelta} {Y : List GDelta} (h : Can (y :: Y)) (hx : cmpD x y < 0) : ∀ z, z ∈ y :: Y → cmpD x z < 0 := by
 intro z hz
 rcases List.mem_cons.1 hz with rfl | hz
 ·exact hx
 ·exact cmpD_tr hx (h.head z hz)
theorem MI.left {o X Y T : List GDelta} {x : GDelta} (h : MI o (x :: X) Y T) (hy : ∀ z, z ∈ Y → cmpD x z < 0) : MI (o ++ [x]) X Y T := by
 refine ⟨h.can.snoc (fun y hy' => h.lt y hy' x (by simp)) (h.cx.nz x List.mem_cons_self) (h.cx.n64 x List.mem_cons_self), fun z hz w hw => ?_, ?_, h.cx.tail, h.cy⟩
 ·rcases List.mem_append.1 hz with hz | hz
  ·exact h.lt z hz w (by rcases List.mem_append.1 hw with hw | hw <;> simp [hw])
  ·rw [List.mem_singleton.1 hz]
   rcases List.mem_append.1 hw with hw | hw
   ·exact h.cx.head w hw
   ·exact hy w hw
 ·have := h.same
  simpa using this
theorem MI.right {o X Y T : List GDelta} {y : GDelta} (h : MI o X (y :: Y) T) (hx : ∀ z, z ∈ X → cmpD y z < 0) : MI (o ++ [y]) X Y T := by
 refine ⟨h.can.snoc (fun z hz => h.lt z hz y (by simp)) (h.cy.nz y List.mem_cons_self) (h.cy.n64 y List.mem_cons_self), fun z hz w hw => ?_, ?_, h.cx, h.cy.tail⟩
 ·rcases List.mem_append.1 hz with hz | hz
  ·exact h.lt z hz w (by rcases List.mem_append.1 hw with hw | hw <;> simp [hw])
  ·rw [List.mem_singleton.1 hz]
   rcases List.mem_append.1 hw with hw | hw
   ·exact hx w hw
   ·exact h.cy.head w hw
 ·refine Same.trans (.of_perm ?_) h.same
  rw [List.append_assoc]
  refine List.Perm.append_left _ ?_
  show (y :: (X ++ Y)).Perm (X ++ y :: Y)
  exact List.perm_middle.symm
theorem both_wt {o X Y : List GDelta} {x y : GDelta} (hp : pl x = pl y) (p : Pl → Bool) : W (wt p (o ++ (x :: X ++ y :: Y))) = W (wt p o + (if p (pl y) = true then W (y.N + x.N) else 0) + wt p (X ++ Y)) := by
 rw [wt_app, wt_app, wt_app]
 simp only [wt, hp]
 by_cases h : p (pl y) = true
 ·rw [if_pos h, if_pos h, if_pos h]
  have := W_add (W_add (rfl : W (wt p o) = W (wt p o)) (W_W (y.N + x.N))) (rfl : W (wt p X + wt p Y) = W (wt p X + wt p Y))
  rw [this]; congr 1; omega
 ·rw [if_neg h, if_neg h, if_neg h]; congr 1; omega
theorem MI.both {o X Y T : List GDelta} {x y : GDelta} (h : MI o (x :: X) (y :: Y) T) (hp : pl x = pl y) (h0 : W (y.N + x.N) ≠ 0) : MI (o ++ [⟨y.Time, y.Row, W (y.N + x.N)⟩]) X Y T := by
 have e : ∀ z : GDelta, cmpD (⟨y.Time, y.Row, W (y.N + x.N)⟩ : GDelta) z = cmpD y z := fun z => rfl
 have e' : ∀ z : GDelta, cmpD z (⟨y.Time, y.Row, W (y.N + x.N)⟩ : GDelta) = cmpD z y := fun z => rfl
 refine ⟨h.can.snoc (fun z hz => by rw [e']; exact h.lt z hz y (by simp)) h0 (W_in _), fun z hz w hw => ?_, fun p => ?_, h.cx.tail, h.cy.tail⟩
 ·rcases List.mem_append.1 hz with hz | hz
  ·exact h.lt z hz w (by rcases List.mem_append.1 hw with hw | hw <;> simp [hw])
  ·rw [List.mem_singleton.1 hz, e]
   rcases List.mem_append.1 hw with hw | hw
   ·rw [← cmpD_congr hp rfl]; exact h.cx.head w hw
   ·exact h.cy.head w hw
 ·rw [← h.same p, both_wt hp, wt_app, wt_app]
  simp only [wt, Int.add_zero]
  rfl
theorem MI.both0 {o X Y T : List GDelta} {x y : GDelta} (h : MI o (x :: X) (y :: Y) T) (hp : pl x = pl y) (h0 : W (y.N + x.N) = 0) : MI o X Y T := by
 refine ⟨h.can, fun z hz w hw => h.lt z hz w (by rcases List.mem_append.1 hw with hw | hw <;> simp [hw]), fun p => ?_, h.cx.tail, h.cy.tail⟩
 rw [← h.same p, both_wt hp, wt_app, h0]
 simp
theorem Can.drop {l : List GDelta} (h : Can l) (k : Nat) : Can (l.drop k) := ⟨h.lt.drop, fun x hx => h.nz x (List.mem_of_mem_drop hx), fun x hx => h.n64 x (List.mem_of_mem_drop hx)⟩
theorem G165_eq (a b : GDelta) (ha : okR a) (hb : okR b) : G165 a b = some (cmpD a b) := by
 unfold G165 T165
 simp only [Tr.den]
 rw [G116_eq _ _ ha hb]
 unfold cmpD thenC cmpI
 by_cases h1 : a.Time < b.Time
 ·rw [if_pos (decT h1), if_pos h1, if_neg (by omega)]
 ·rw [if_neg (decF h1), if_neg h1]
  by_cases h2 : b.Time < a.Time
  ·rw [if_pos (decT h2), if_pos h2, if_neg (by omega)]
  ·rw [if_neg (decF h2), if_neg h2, if_pos rfl]; rfl
theorem merge114 (a b : List GDelta) (ha : Can a) (hb : Can b) (oa : okRs a) (ob : okRs b) (hn : a.length + b.length ≤ 1000000000000) :
  Sp (whileM (fun s => (T114_L0 a b s).den) (([] : List GDelta), 0, 0)) (sel (fun r => Can r ∧ Same r (a ++ b)) (fun _ => False)) := by
 refine Sq.while (fun s : List GDelta × Int × Int => ∃ i k : Nat, s.2.1 = i ∧ s.2.2 = k ∧ i ≤ a.length ∧ k ≤ b.length ∧ MI s.1 (a.drop i) (b.drop k) (a ++ b) ∧ s.1.length ≤ i + k) (fun s => (a.length - s.2.1).toNat + (b.length - s.2.2).toNat) (fun s hs => ?_)
  ⟨0, 0, rfl, rfl, by omega, by omega, ⟨.nil, by simp, by simpa using Same.refl _, ha, hb⟩, by simp⟩
 obtain ⟨o, i, k⟩ := s
 obtain ⟨i, k, e1, e2, h1, h2, hM, hlen⟩ := hs
 simp only at e1 e2 hM hlen
 subst e1 e2
 unfold T114_L0
 simp only [Tr.den, Int.toNat_natCast]
 have w1 : k < b.length → (if IntKind.i64.wrap ((b.length : Int) - 1) < (k : Int) then IntKind.i64.wrap ((b.length : Int) - 1) else (k : Int)) = (k : Int) := by
  intro hk
  rw [wrap_id (by omega) (by omega), if_neg (by omega)]
 have left : i < a.length → (∀ z, z ∈ b.drop k → cmpD (a.getD i default) z < 0) → ∀ c : Int, c < 0 → ∀ f : Option (List GDelta × Int × Int),
   Sp ((if decide (c < 0) = true then if 0 ≤ (i : Int) ∧ (i : Int) < (a.length : Int) then if (o.length + [a.getD i default].length) * 40 ≤ 140737488355328 then some (o ++ [a.getD i default], IntKind.i64.wrap ((i : Int) + 1), (k : Int)) else none else none else f).bind fun v => some (Sum.inl (v.1, v.2.1, v.2.2)))
    (sel (fun s' : List GDelta × Int × Int => (∃ i k : Nat, s'.2.1 = i ∧ s'.2.2 = k ∧ i ≤ a.length ∧ k ≤ b.length ∧ MI s'.1 (a.drop i) (b.drop k) (a ++ b) ∧ s'.1.length ≤ i + k) ∧ (a.length - s'.2.1).toNat + (b.length - s'.2.2).toNat < (a.length - (i : Int)).toNat + (b.length - (k : Int)).toNat) (sel (fun r : List GDelta => Can r ∧ Same r (a ++ b)) (fun _ : List GDelta => False))) := by
  intro hi hlt c hc f
  rw [if_pos (decT hc), if_pos (by omega), if_pos (by simp only [List.length_cons, List.length_nil]; omega), wrap_inc (by omega)]
  rw [drop_getD hi] at hM
  exact sq_some.2 ⟨⟨i + 1, k, rfl, rfl, by omega, h2, hM.left hlt, by simp only [List.length_append, List.length_cons, List.length_nil]; omega⟩, by simp only; omega⟩
 have right : k < b.length → (∀ z, z ∈ a.drop i → cmpD (b.getD k default) z < 0) → ∀ c : Int, 0 < c → ∀ f : Option (List GDelta × Int × Int),
   Sp ((if decide (c < 0) = true then f else
       if 0 ≤ (if IntKind.i64.wrap ((b.length : Int) - 1) < (k : Int) then IntKind.i64.wrap ((b.length : Int) - 1) else (k : Int)) ∧ (if IntKind.i64.wrap ((b.length : Int) - 1) < (k : Int) then IntKind.i64.wrap ((b.length : Int) - 1) else (k : Int)) < (b.length : Int) then
        (if (c == 0) = true then if 0 ≤ (i : Int) ∧ (i : Int) < (a.length : Int) then some (IntKind.i64.wrap ((b.getD (if IntKind.i64.wrap ((b.length : Int) - 1) < (k : Int) then IntKind.i64.wrap ((b.length : Int) - 1) else (k : Int)).toNat default).N + (a.getD i default).N), o, IntKind.i64.wrap ((i : Int) + 1)) else none
         else some ((b.getD (if IntKind.i64.wrap ((b.length : Int) - 1) < (k : Int) then IntKind.i64.wrap ((b.length : Int) - 1) else (k : Int)).toNat default).N, o, (i : Int))).bind fun v =>
         (if (v.1 != 0) = true then if (v.2.1.length + [(⟨(b.getD (if IntKind.i64.wrap ((b.length : Int) - 1) < (k : Int) then IntKind.i64.wrap ((b.length : Int) - 1) else (k : Int)).toNat default).Time, (b.getD (if IntKind.i64.wrap ((b.length : Int) - 1) < (k : Int) then IntKind.i64.wrap ((b.length : Int) - 1) else (k : Int)).toNat default).Row, v.1⟩ : GDelta)].length) * 40 ≤ 140737488355328 then
           some (v.2.1 ++ [(⟨(b.getD (if IntKind.i64.wrap ((b.length : Int) - 1) < (k : Int) then IntKind.i64.wrap ((b.length : Int) - 1) else (k : Int)).toNat default).Time, (b.getD (if IntKind.i64.wrap ((b.length : Int) - 1) < (k : Int) then IntKind.i64.wrap ((b.length : Int) - 1) else (k : Int)).toNat default).Row, v.1⟩ : GDelta)]) else none
          else some v.2.1).bind fun v_1 => some (v_1, v.2.2, IntKind.i64.wrap ((k : Int) + 1))
       else none).bind fun v => some (Sum.inl (v.1, v.2.1, v.2.2)))
    (sel (fun s' : List GDelta × Int × Int => (∃ i k : Nat, s'.2.1 = i ∧ s'.2.2 = k ∧ i ≤ a.length ∧ k ≤ b.length ∧ MI s'.1 (a.drop i) (b.drop k) (a ++ b) ∧ s'.1.length ≤ i + k) ∧ (a.length - s'.2.1).toNat + (b.length - s'.2.2).toNat < (a.length - (i : Int)).toNat + (b.length - (k : Int)).toNat) (sel (fun r : List GDelta => Can r ∧ Same r (a ++ b)) (fun _ : List GDelta => False))) := by
  intro hk hlt c hc f
  rw [if_neg (decF (by omega)), w1 hk, if_pos (by omega), if_neg (beqF (by omega))]
  simp only [Option.bind_some, Int.toNat_natCast]
  rw [drop_getD hk] at hM
  rw [if_pos (bneT (hM.cy.nz _ List.mem_cons_self)), if_pos (by simp only [List.length_cons, List.length_nil]; omega), wrap_inc (by omega)]
  simp only [Option.bind_some]
  exact sq_some.2 ⟨⟨i, k + 1, rfl, rfl, h1, by omega, hM.right hlt, by simp only [List.length_append, List.length_cons, List.length_nil]; omega⟩, by simp only; omega⟩
 by_cases hi : i < a.length
 ·rw [if_pos (decT (show (i : Int) < a.length by omega))]
  simp only [Option.bind_some, if_true]
  rw [if_neg (decF (show ¬ (i : Int) ≥ a.length by omega))]
  by_cases hk : k < b.length
  ·rw [if_neg (decF (show ¬ (k : Int) ≥ b.length by omega)), if_pos (by omega), if_pos (by omega), G165_eq _ _ (oa.get i) (ob.get k)]
   simp only [Option.bind_some]
   have hX := drop_getD hi
   have hY := drop_getD hk
   have cX := ha.drop i
   have cY := hb.drop k
   by_cases c1 : cmpD (a.getD i default) (b.getD k default) < 0
   ·exact left hi (by rw [hY] at cY ⊢; exact lt_all cY c1) _ c1 _
   ·by_cases c2 : cmpD (a.getD i default) (b.getD k default) = 0
    ·have hp := cmpD_zero.1 c2
     rw [if_neg (decF c1), w1 hk, if_pos (by omega), if_pos (beqT c2), if_pos (by omega)]
     simp only [Option.bind_some, Int.toNat_natCast]
     rw [hX, hY] at hM
     by_cases h0 : W ((b.getD k default).N + (a.getD i default).N) = 0
     ·rw [if_neg (bneF h0)]
      simp only [Option.bind_some]
      rw [wrap_inc (by omega), wrap_inc (by omega)]
      exact sq_some.2 ⟨⟨i + 1, k + 1, rfl, rfl, by omega, by omega, hM.both0 hp h0, by simp only; omega⟩, by simp only; omega⟩
     ·rw [if_pos (bneT h0), if_pos (by simp only [List.length_cons, List.length_nil]; omega)]
      simp only [Option.bind_some]
      rw [wrap_inc (by omega), wrap_inc (by omega)]
      exact sq_some.2 ⟨⟨i + 1, k + 1, rfl, rfl, by omega, by omega, hM.both hp h0, by simp only [List.length_append, List.length_cons, List.length_nil]; omega⟩, by simp only; omega⟩
    ·have c3 : 0 < cmpD (a.getD i default) (b.getD k default) := by omega
     exact right hk (by rw [hX] at cX ⊢; exact lt_all cX (cmpD_gt.1 c3)) _ c3 _
  ·rw [if_pos (decT (show (k : Int) ≥ b.length by omega))]
   simp only [Option.bind_some]
   exact left hi (by rw [List.drop_eq_nil_of_le (show b.length ≤ k by omega)]; simp) (-1) (by omega) _
 ·rw [if_neg (decF (show ¬ (i : Int) < a.length by omega))]
  simp only [Option.bind_some]
  by_cases hk : k < b.length
  ·rw [if_pos (decT (show (k : Int) < b.length by omega)), if_pos (decT (show (i : Int) ≥ a.length by omega))]
   simp only [Option.bind_some]
   exact right hk (by rw [List.drop_eq_nil_of_le (show a.length ≤ i by omega)]; simp) 1 (by omega) _
  ·rw [if_neg (decF (show ¬ (k : Int) < b.length by omega))]
   refine sq_some.2 ⟨hM.can, ?_⟩
   have := hM.same
   rw [List.drop_eq_nil_of_le (show a.length ≤ i by omega), List.drop_eq_nil_of_le (show b.length ≤ k by omega)] at this
   simpa using this
theorem G114_eq (l : List GDelta) (ho : okD l) (hn : l.length ≤ 1000000000000) : G114 l = some (PL.cons l) := by
 refine Sp.eq ?_
 refine fixF_sq (C := fun (a : List GDelta) (x : Option (List GDelta)) => Con Proofs.Tryz.prog 114 [.t (eL cGDelta (a))] x (fun (y : List GDelta) => .t (eL cGDelta (y)))) (fun a => ⟨callable_of Proofs.Tryz.func114 (by kernel_rfl), fun _ h => nomatch h⟩) (fun rec a => T114 rec a) (fun rec a => T114_ok rec a)
  (fun l => okD l ∧ l.length ≤ 1000000000000) (fun l => l.length) (fun l d => d = PL.cons l) (fun b f l hl hrec => ?_) true l ⟨ho, hn⟩
 obtain ⟨ho, hn⟩ := hl
 unfold T114
 simp only [Tr.den]
 by_cases h0 : l.length = 0
 ·rw [if_pos (beqT (by omega))]
  simp only [Option.bind_some, if_true]
  rw [List.eq_nil_of_length_eq_zero h0]
  exact sq_some.2 rfl
 rw [if_neg (beqF (by omega))]
 by_cases hl1 : l.length = 1
 ·obtain ⟨x, rfl⟩ := List.length_eq_one_iff.1 hl1
  have e1 : (([x] : List GDelta).length : Int) = 1 := rfl
  have e2 : ([x] : List GDelta).getD (0 : Int).toNat default = x := rfl
  rw [if_pos (beqT e1), if_pos (by omega), e2]
  simp only [Option.bind_some]
  have hc : PL.cons [x] = if x.N = 0 then [] else [x] := rfl
  rw [hc]
  by_cases hz : x.N = 0
  ·rw [if_pos (beqT hz), if_pos hz]; exact sq_some.2 rfl
  ·have hr : x.Row.length ≤ 1073741824 := ho.r x List.mem_cons_self
   rw [if_neg (beqF hz), if_pos (beqT e1), if_pos (by omega), if_pos (by omega), if_pos (by omega), if_pos (by omega), if_neg hz]; exact sq_some.2 rfl
 rw [if_neg (beqF (by omega))]
 simp only [Option.bind_some, Bool.false_eq_true, if_false]
 have w1 : IntKind.i64.wrap (Int.tdiv (l.length : Int) 2) = ((l.length / 2 : Nat) : Int) := by
  rw [show Int.tdiv (l.length : Int) 2 = ((l.length / 2 : Nat) : Int) from rfl]
  rw [wrap_nat (by omega)]
 rw [if_neg (beqF (by omega)), w1]
 have e1 : (l.drop (0 : Int).toNat).take (((l.length / 2 : Nat) : Int) - 0).toNat = l.take (l.length / 2) := by rw [Int.toNat_zero, List.drop_zero, Int.sub_zero, Int.toNat_natCast]
 have e2 : (l.drop ((l.length / 2 : Nat) : Int).toNat).take ((l.length : Int) - ((l.length / 2 : Nat) : Int)).toNat = l.drop (l.length / 2) := by
  rw [Int.toNat_natCast]; exact List.take_of_length_le (by simp only [List.length_drop]; omega)
 have o1 : okD (l.take (l.length / 2)) := ho.sub fun x hx => List.mem_of_mem_take hx
 have o2 : okD (l.drop (l.length / 2)) := ho.sub fun x hx => List.mem_of_mem_drop hx
 rw [if_pos (by omega), e1]
 refine Sq.bind _ (hrec _ ⟨o1, by simp; omega⟩ (by simp; omega)) (fun r1 h1 => ?_)
 rw [if_pos (by omega), e2]
 refine Sq.bind _ (hrec _ ⟨o2, by simp; omega⟩ (by simp; omega)) (fun r2 h2' => ?_)
 subst h1 h2'
 have l1 := cons_len (l.take (l.length / 2))
 have l2 := cons_len (l.drop (l.length / 2))
 simp only [List.length_take, List.length_drop] at l1 l2
 obtain ⟨z, hz1, hz2⟩ := (merge114 _ _ (cons_can o1.n) (cons_can o2.n) o1.cons.r o2.cons.r (by omega)).get
 rw [hz1]
 cases z with
 | inr z => exact hz2.elim
 | inl z =>
  refine sq_some.2 (cons_eq hz2.1 ho.n ?_).symm
  refine hz2.2.trans (((cons_same _).app (cons_same _)).trans ?_)
  rw [List.take_append_drop]
  exact Same.refl _
end Go.PL
namespace Go.PL
open Go
set_option linter.unusedVariables false
set_option maxRecDepth 20000
theorem G8_sp (n : GNode) (types : List (List Int)) (acts : List GAct) (most : Nat) (hm : most ≤ 1000) (hn : okGNode n) (ht : okL 24 (okL 8 inI64) types) (hok : okL 40 okGAct acts) :
  Sp (G8 n types acts (most : Int)) (fun r => r = true → ∃ ta tb, types = [ta, tb] ∧ n.Key.length ≤ 20 ∧ n.Key2.length ≤ 20 ∧ RightN n ta tb ∧ acts.length ≤ most ∧ FitsR ta tb acts [] [] (-1)) := by
 unfold G8 T8
 simp only [Tr.den]
 refine Sq.bind (fun j : Bool => j = false → (n.Op = 6 ∨ n.Op = 7) ∧ types.length = 2 ∧ n.Key.length ≤ 20 ∧ n.Key2.length ≤ 20) ?_ (fun j hj => ?_)
 ·have inner : (n.Op = 6 ∨ n.Op = 7) → Sp (if ((types.length : Int) != 2) = true then some true else (G33 [] n).bind fun r => some !r) (fun j : Bool => j = false → (n.Op = 6 ∨ n.Op = 7) ∧ types.length = 2 ∧ n.Key.length ≤ 20 ∧ n.Key2.length ≤ 20) := by
   intro hop
   by_cases h2 : (types.length : Int) = 2
   ·rw [if_neg (bneF h2)]
    refine Sq.bind _ (G33_sp n hn) fun r hr => sq_some.2 fun hf => ?_
    cases r with
    | false => cases hf
    | true => exact ⟨hop, by omega, (hr rfl).1, (hr rfl).2⟩
   ·rw [if_pos (bneT h2)]
    exact sq_some.2 fun h => by cases h
  by_cases h6 : n.Op = 6
  ·rw [if_neg (bneF h6)]; exact inner (.inl h6)
  ·rw [if_pos (bneT h6)]
   by_cases h7 : n.Op = 7
   ·rw [if_neg (bneF h7)]; exact inner (.inr h7)
   ·rw [if_pos (bneT h7)]; exact sq_some.2 fun h => by cases h
 ·cases j with
  | true => exact sq_some.2 fun h => by cases h
  | false =>
   obtain ⟨hop, h2, k1, k2⟩ := hj rfl
   simp only [Bool.false_eq_true, if_false]
   match types, h2, ht with
   | [ta, tb], _, ht =>
    have la := (ht.2 ta (by simp)).1
    have lb := (ht.2 tb (by simp)).1
    refine Sq.bind _ (G34_sp n ta tb hop (by omega) (by omega) la lb) fun r hr => ?_
    cases r with
    | false => exact sq_some.2 fun h => by cases h
    | true =>
     simp only [if_true]
     refine Sq.bind (fun r : Bool => r = true → acts.length ≤ most ∧ FitsR ta tb acts [] [] (-1)) ?_ fun r hF => sq_some.2 fun h => ⟨ta, tb, rfl, k1, k2, hr rfl, hF h⟩
     refine Sq.bind _ (G35_sp ta tb acts most hm hok la lb) fun r hr => sq_some.2 hr
theorem okI_of {n : GNode} {ta tb : List Int} (hR : RightN n ta tb) {l : List GDelta} (h : okL 40 okGDelta l) {i : Int} (hi : i = 0 ∨ i = 1) {c : Int} (hF : ∀ d, d ∈ l → c < d.Time ∧ 0 ≤ d.Time ∧ d.Time ≤ 2199023255552 ∧ d.Row.length = (two i ta tb).length ∧ -3 ≤ d.N ∧ d.N ≤ 3) : okI n i l := by
 refine ⟨fun d hd v hv => ?_, fun d hd q hq => ?_, fun d hd => ?_, fun d hd => ⟨(hF d hd).2.1, (hF d hd).2.2.1⟩, (okGDelta.okd h).n⟩
 ·have := (h.2 d hd).2.1.2 v hv
  exact ⟨this.1, this.2.1, Nat.le_trans this.2.2 (by omega)⟩
 ·have hl := (hF d hd).2.2.2.1
  rw [hl]
  rcases hi with rfl | rfl
  ·exact hR.k1 q hq
  ·exact hR.k2 q hq
 ·have hl := (hF d hd).2.2.2.1
  rw [hl]
  have := hR.la
  have := hR.lb
  unfold two; split <;> omega
end Go.PL
namespace Go.PL
open Go
set_option linter.unusedVariables false
set_option maxRecDepth 20000
def optM (k : ByteArray) : Option GSide → KS
 | none => []
 | some s => [(k, s)]
theorem group1 {n : GNode} {i : Int} {l : List GDelta} {k : ByteArray} (h : ∀ d, d ∈ l → kd n i d = k) (h0 : l ≠ []) : groupM n i l = [(k, l)] := by
 refine (groupM_mc n i l).ext LO.bytes (List.pairwise_singleton _ _) fun k' => ?_
 rw [groupM_look]
 by_cases hk : k = k'
 ·subst hk
  have : ofK n i k l = l := List.filter_eq_self.2 fun d hd => decT (h d hd)
  rw [this, if_neg h0]; simp [mlook]
 ·have : ofK n i k' l = [] := List.filter_eq_nil_iff.2 fun d hd => decF (by rw [h d hd]; exact hk)
  rw [this, if_pos rfl]; simp [mlook, hk]
theorem ofK1 {n : GNode} {i : Int} {l : List GDelta} {k : ByteArray} (h : ∀ d, d ∈ l → kd n i d = k) : ofK n i k l = l := List.filter_eq_self.2 fun d hd => decT (h d hd)
theorem look1 (k : ByteArray) (o : Option GSide) : mlook (optM k o) k = o := by cases o <;> simp [optM, mlook]
theorem push1 {n : GNode} {i : Int} {l : List GDelta} {k : ByteArray} (h : ∀ d, d ∈ l → kd n i d = k) (h0 : l ≠ []) (o : Option GSide) :
  pushM n i l (optM k o) = optM k (keepS (updS i (o.getD side0) l)) ∧ (mkeys (groupM n i l)).flatMap (pushO n i l (optM k o)) = chgF n i l (o.getD side0) := by
 have hk : mkeys (groupM n i l) = [k] := by rw [group1 h h0]; rfl
 have hn : newS n i l (optM k o) k = keepS (updS i (o.getD side0) l) := by unfold newS; rw [look1, ofK1 h]
 constructor
 ·unfold pushM
  rw [hk]
  simp only [List.foldl_cons, List.foldl_nil, hn]
  cases keepS (updS i (o.getD side0) l) with
  | none => cases o <;> simp [setS, optM, mdel]
  | some s => cases o <;> simp [setS, optM, mput, mdel, mins]
 ·rw [hk]
  simp only [List.flatMap_cons, List.flatMap_nil, List.append_nil]
  unfold pushO
  rw [look1, ofK1 h]
theorem close1 (t : Int) (k : ByteArray) (s : GSide) : closeM t (optM k (some s)) = optM k (keepS (cutS t s)) := by
 have hn : newC t (optM k (some s)) k = keepS (cutS t s) := by unfold newC; rw [look1]; rfl
 unfold closeM
 rw [show mkeys (optM k (some s)) = [k] from rfl]
 simp only [List.foldl_cons, List.foldl_nil, hn]
 cases keepS (cutS t s) with
 | none => simp [setS, optM, mdel]
 | some s => simp [setS, optM, mput, mdel, mins]
def vN : GNode := GNode.mk 6 ([] : List Int) ⟨#[]⟩ 0 ([] : List Expr) 0 0 0 [0] [0] 2 5 0 ([] : List GAgg) ([] : List GPat) ([] : List GCol)
def rowX : List GValue := [GValue.mk 0 7 ⟨#[]⟩]
def atD (t n : Int) : GDelta := ⟨t, rowX, n⟩
theorem vN_ok : okNode vN := ⟨.inl ⟨rfl, ⟨by decide, by decide⟩, ⟨by decide, by decide⟩⟩, by decide, by decide⟩
theorem kX : ∀ i t n, (i = 0 ∨ i = 1) → kd vN i (atD t n) = keyB vN 0 rowX := by
 rintro i t n (rfl | rfl) <;> rfl
theorem okIX (i : Int) (hi : i = 0 ∨ i = 1) (l : List GDelta) (h : ∀ d, d ∈ l → ∃ t n, d = atD t n ∧ 0 ≤ t ∧ t ≤ 100 ∧ -10 ≤ n ∧ n ≤ 10) : okI vN i l := by
 have hv : okVs rowX := fun v hv => by
  rw [List.mem_singleton.1 hv]
  exact ⟨⟨by decide, by decide⟩, ⟨by decide, by decide⟩, by decide⟩
 have hc : okCols (colsOf vN i) rowX := by
  rcases hi with rfl | rfl <;> (intro c hc; rw [List.mem_singleton.1 (show c ∈ [(0 : Int)] from hc)]; decide)
 refine ⟨fun d hd => ?_, fun d hd => ?_, fun d hd => ?_, fun d hd => ?_, fun d hd => ?_⟩ <;> obtain ⟨t, n, rfl, h1, h2, h3, h4⟩ := h d hd
 ·exact hv
 ·exact hc
 ·show rowX.length ≤ 1000
  decide
 ·exact ⟨h1, by show t ≤ _; omega⟩
 ·exact ⟨by show _ ≤ n; omega, by show n ≤ _; omega⟩
theorem okMX (k : ByteArray) (o : Option GSide) (h : ∀ s, o = some s → okSd vN s) : okM vN (optM k o) := by
 refine ⟨by cases o <;> simp [optM, MC], fun k' s hs => ?_⟩
 cases o with
 | none => simp [optM, mlook] at hs
 | some s' =>
  simp only [optM, mlook] at hs
  split at hs
  ·cases hs; exact h _ rfl
  ·cases hs
def x3 : GDelta := atD 3 1
def x3' : GDelta := atD 3 (-1)
def y8 : GDelta := atD 8 1
def y9 : GDelta := atD 9 1
def z8 (n : Int) : GDelta := ⟨8, rowX ++ rowX, n⟩
theorem pushX (i : Int) (hi : i = 0 ∨ i = 1) (l : List GDelta) (h : ∀ d, d ∈ l → ∃ t n, d = atD t n ∧ 0 ≤ t ∧ t ≤ 100 ∧ -10 ≤ n ∧ n ≤ 10) (hc : cons l = l) (h0 : l ≠ []) (hlen : l.length ≤ 1000) (cl : Int) (o : Option GSide) (ho : ∀ s, o = some s → okSd vN s) :
  G25s0 i l vN cl (optM (keyB vN 0 rowX) o) = some (cons (chgF vN i l (o.getD side0)), optM (keyB vN 0 rowX) (keepS (updS i (o.getD side0) l))) := by
 have hk : ∀ d, d ∈ l → kd vN i d = keyB vN 0 rowX := fun d hd => by
  obtain ⟨t, n, rfl, _⟩ := h d hd
  exact kX i t n hi
 rw [G25s0_eq i l vN cl _ hi vN_ok (okIX i hi l h) (okMX _ o ho) hlen (by rw [hc]; exact hlen), hc]
 obtain ⟨e1, e2⟩ := push1 hk h0 o
 rw [e1, e2]
theorem canX : Can [x3] ∧ Can [y8, y9] ∧ Can [y9] := by
 have e1 : cons [x3] = [x3] := by kernel_rfl
 have e2 : cons [y8, y9] = [y8, y9] := by kernel_rfl
 have e3 : cons [y9] = [y9] := by kernel_rfl
 have b : ∀ t : Int, okN [atD t 1] := fun t d hd => by rw [List.mem_singleton.1 hd]; exact ⟨by show _ ≤ (1 : Int); decide, by show (1 : Int) ≤ _; decide⟩
 refine ⟨?_, ?_, ?_⟩
 ·rw [← e1]; exact cons_can (b 3)
 ·rw [← e2]
  refine cons_can fun d hd => ?_
  rcases List.mem_cons.1 hd with rfl | hd
  ·exact b 8 _ (List.mem_singleton.2 rfl)
  ·exact b 9 d hd
 ·rw [← e3]; exact cons_can (b 9)
theorem G31_eq (t n : Int) : G31 t n = some (atD t n) := by unfold G31 T31; simp only [Tr.den]; rfl
theorem inX1 (t n : Int) (h1 : 0 ≤ t) (h2 : t ≤ 100) (h3 : -10 ≤ n) (h4 : n ≤ 10) : ∀ d, d ∈ [atD t n] → ∃ t n, d = atD t n ∧ 0 ≤ t ∧ t ≤ 100 ∧ -10 ≤ n ∧ n ≤ 10 := fun d hd => ⟨t, n, List.mem_singleton.1 hd, h1, h2, h3, h4⟩
theorem inX2 : ∀ d, d ∈ [y8, y9] → ∃ t n, d = atD t n ∧ 0 ≤ t ∧ t ≤ 100 ∧ -10 ≤ n ∧ n ≤ 10 := fun d hd => by
 rcases List.mem_cons.1 hd with rfl | hd
 ·exact ⟨8, 1, rfl, by decide, by decide, by decide, by decide⟩
 ·rw [List.mem_singleton.1 hd]; exact ⟨9, 1, rfl, by decide, by decide, by decide, by decide⟩
theorem okS1 : okSd vN ⟨⟨[x3], []⟩⟩ := ⟨canX.1, .nil, okIX 0 (.inl rfl) _ (inX1 3 1 (by decide) (by decide) (by decide) (by decide)), .nil, by decide, by decide⟩
theorem okS2 : okSd vN ⟨⟨[x3], [y8, y9]⟩⟩ := ⟨canX.1, canX.2.1, okIX 0 (.inl rfl) _ (inX1 3 1 (by decide) (by decide) (by decide) (by decide)), okIX 1 (.inr rfl) _ inX2, by decide, by decide⟩
theorem okS3 : okSd vN ⟨⟨[], [y8, y9]⟩⟩ := ⟨.nil, canX.2.1, .nil, okIX 1 (.inr rfl) _ inX2, by decide, by decide⟩
theorem G7_eq : G7 = some true := by
 have p1 := pushX 0 (.inl rfl) [x3] (inX1 3 1 (by decide) (by decide) (by decide) (by decide)) (by kernel_rfl) (by simp) (by decide) (-1) none (fun _ h => by cases h)
 have p2 := pushX 1 (.inr rfl) [y8, y9] inX2 (by kernel_rfl) (by simp) (by decide) (-1) (some ⟨⟨[x3], []⟩⟩) (fun s h => by cases h; exact okS1)
 have p3 := pushX 0 (.inl rfl) [x3'] (inX1 3 (-1) (by decide) (by decide) (by decide) (by decide)) (by kernel_rfl) (by simp) (by decide) (-1) (some ⟨⟨[x3], [y8, y9]⟩⟩) (fun s h => by cases h; exact okS2)
 have v1 : (cons (chgF vN 0 [x3] ((none : Option GSide).getD side0)), keepS (updS 0 ((none : Option GSide).getD side0) [x3])) = (([], some ⟨⟨[x3], []⟩⟩) : List GDelta × Option GSide) := by kernel_rfl
 have v2 : (cons (chgF vN 1 [y8, y9] ((some (⟨⟨[x3], []⟩⟩ : GSide)).getD side0)), keepS (updS 1 ((some (⟨⟨[x3], []⟩⟩ : GSide)).getD side0) [y8, y9])) = (([z8 1], some ⟨⟨[x3], [y8, y9]⟩⟩) : List GDelta × Option GSide) := by kernel_rfl
 have v3 : (cons (chgF vN 0 [x3'] ((some (⟨⟨[x3], [y8, y9]⟩⟩ : GSide)).getD side0)), keepS (updS 0 ((some (⟨⟨[x3], [y8, y9]⟩⟩ : GSide)).getD side0) [x3'])) = (([z8 (-1)], some ⟨⟨[], [y8, y9]⟩⟩) : List GDelta × Option GSide) := by kernel_rfl
 have v4 : keepS (cutS (13 - backF vN) ⟨⟨[], [y8, y9]⟩⟩) = some ⟨⟨[], [y9]⟩⟩ := by kernel_rfl
 rw [(Prod.mk.inj v1).1, (Prod.mk.inj v1).2] at p1
 rw [(Prod.mk.inj v2).1, (Prod.mk.inj v2).2] at p2
 rw [(Prod.mk.inj v3).1, (Prod.mk.inj v3).2] at p3
 have p4 := G32s0_eq 13 vN (-1) (optM (keyB vN 0 rowX) (some ⟨⟨[], [y8, y9]⟩⟩)) vN_ok (okMX _ _ (fun s h => by cases h; exact okS3)) (by decide) (by decide) (by decide)
 rw [close1, v4] at p4
 have hm5 : okM vN (optM (keyB vN 0 rowX) (some ⟨⟨[], [y9]⟩⟩)) := okMX _ _ fun s h => by
  cases h
  exact ⟨.nil, canX.2.2, .nil, okIX 1 (.inr rfl) _ (inX1 9 1 (by decide) (by decide) (by decide) (by decide)), by decide, by decide⟩
 have p5 := G15s0_eq vN 13 (optM (keyB vN 0 rowX) (some ⟨⟨[], [y9]⟩⟩)) hm5.mc fun k s hs => ⟨by have := (hm5.s k s hs).l0; omega, by have := (hm5.s k s hs).l1; omega⟩
 have v5 : W (sumK (cntK (optM (keyB vN 0 rowX) (some ⟨⟨[], [y9]⟩⟩))) (mkeys (optM (keyB vN 0 rowX) (some ⟨⟨[], [y9]⟩⟩)))) = 1 := by
  rw [show mkeys (optM (keyB vN 0 rowX) (some ⟨⟨[], [y9]⟩⟩)) = [keyB vN 0 rowX] from rfl]
  simp only [sumK, cntK, look1]
  kernel_rfl
 rw [v5] at p5
 have p6 := G16s0_eq vN 13 (optM (keyB vN 0 rowX) (some ⟨⟨[], [y9]⟩⟩))
 have e9 : G9s0 (GNode.mk 6 ([] : List Int) ⟨#[]⟩ 0 ([] : List Expr) 0 0 0 [0] [0] 2 5 0 ([] : List GAgg) ([] : List GPat) ([] : List GCol)) = some (vN, -1, []) := G9s0_eq vN (by decide) (by decide)
 unfold G7 T7
 simp only [Tr.den]
 rw [e9]
 simp only [Option.bind_some, G31_eq]
 rw [show G25s0 0 [atD 3 1] vN (-1) [] = _ from p1]
 simp only [Option.bind_some]
 rw [show G25s0 1 [atD 8 1, atD 9 1] vN (-1) (optM (keyB vN 0 rowX) (some ⟨⟨[x3], []⟩⟩)) = _ from p2]
 simp only [Option.bind_some]
 rw [show G25s0 0 [atD 3 (-1)] vN (-1) (optM (keyB vN 0 rowX) (some ⟨⟨[x3], [y8, y9]⟩⟩)) = _ from p3]
 simp only [Option.bind_some]
 rw [p4]
 simp only [Option.bind_some, Int.toNat_zero]
 rw [p5]
 simp only [Option.bind_some]
 rw [p6]
 rfl
end Go.PL
namespace Go.PL
open Go
set_option linter.unusedVariables false
set_option maxRecDepth 20000
theorem G106_sq (b : Bool) (e : Expr) (h : okExpr e) : Sq b (G106 e) (fun d => d = e) := by
 refine fixF_sq (C := fun (a : Expr) (x : Option (Expr)) => Con Proofs.Tryz.prog 106 [.t (eExpr a)] x (fun (y : Expr) => .t (eExpr y))) (fun a => ⟨callable_of Proofs.Tryz.func106 (by kernel_rfl), fun _ h => nomatch h⟩) (fun rec a => T106 rec a) (fun rec a => T106_ok rec a)
  okExpr (fun e => SizeOf.sizeOf e) (fun e d => d = e) (fun b f e he hrec => ?_) b e h
 have hl := he.len
 unfold T106
 simp only [Tr.den]
 refine Sq.bind (fun z => z = .inl e.Args) (sq_count (fun s : List Expr × Int => s.2) e.Args.length (by omega) (fun s => s.1 = e.Args.take s.2.toNat) (fun s k hI hk hkN => ?_) (by simp) rfl) fun z hz => ?_
 ·obtain ⟨v1, v2⟩ := s
  simp only at hk hI
  subst hk
  rw [Int.toNat_natCast] at hI
  subst hI
  unfold T106_L0
  simp only [Tr.den, Int.toNat_natCast]
  by_cases hc : k < e.Args.length
  ·rw [if_pos (decT (by omega)), if_pos (by omega)]
   refine Sq.bind _ (hrec _ (he.arg _ (getD_mem hc)) (sizeOf_arg (getD_mem hc))) fun r hr => ?_
   subst hr
   rw [if_pos (by rw [List.length_take]; omega)]
   refine sq_some.2 ⟨rfl, hc, ?_⟩
   simp only
   rw [wrap_inc (by omega), Int.toNat_natCast, take_succ_getD hc]
  ·rw [if_neg (decF (by omega))]
   refine sq_some.2 ?_
   simp only [sel]
   rw [List.take_of_length_le (by omega)]
 ·subst hz
  simp only [sel]
  refine sq_some.2 ?_
  cases e; rfl
theorem G106_eq {e : Expr} (h : okExpr e) : G106 e = some e := Sp.eq (G106_sq true e h)
theorem G43_eq {n : GNode} (h : okGNode n) : G43 n = some n := by
 obtain ⟨_, hIn, _, _, hEx, _, _, _, hK, hK2, _, _, _, hAg, hSq, hCo⟩ := h
 have l1 : n.In.length ≤ 1048576 := hIn.1
 have l2 : n.Exprs.length ≤ 1048576 := hEx.1
 have l3 : n.Key.length ≤ 1048576 := hK.1
 have l4 : n.Key2.length ≤ 1048576 := hK2.1
 have l5 : n.Aggs.length ≤ 1048576 := hAg.1
 have l6 : n.Seq.length ≤ 1048576 := hSq.1
 have l7 : n.Cols.length ≤ 1048576 := hCo.1
 unfold G43 T43
 simp only [Tr.den, List.nil_append, List.length_nil]
 rw [if_pos (by omega)]
 have h1 := while_trace (bd := fun s => (T43_L0 n s).den) (fun i => (n.In, n.Exprs.take i, (i : Int))) n.Exprs.length (r := .inl (n.In, n.Exprs)) (fun i hi => ?_) ?_
 ·refine (congrArg (fun x => Option.bind x _) h1).trans ?_
  simp only [Option.bind_some, sel]
  rw [if_pos (by omega), if_pos (by omega), if_pos (by omega)]
  have h2 := while_trace (bd := fun s => (T43_L1 n s).den) (fun i => (n.In, n.Exprs, n.Key, n.Key2, n.Aggs, n.Seq.take i, (i : Int))) n.Seq.length (r := .inl (n.In, n.Exprs, n.Key, n.Key2, n.Aggs, n.Seq)) (fun i hi => ?_) ?_
  ·refine (congrArg (fun x => Option.bind x _) h2).trans ?_
   simp only [Option.bind_some, sel]
   rw [if_pos (by omega)]
  ·unfold T43_L1
   simp only [Tr.den, Int.toNat_natCast]
   rw [if_pos (decT (by omega)), if_pos (by omega), G106_eq (hSq.2 _ (getD_mem hi)).1]
   simp only [Option.bind_some]
   rw [if_pos (by omega), if_pos (by rw [List.length_take]; omega), wrap_inc (by omega), take_succ_getD hi]
  ·unfold T43_L1
   simp only [Tr.den]
   rw [if_neg (decF (by omega)), List.take_length]
 ·unfold T43_L0
  simp only [Tr.den, Int.toNat_natCast]
  rw [if_pos (decT (by omega)), if_pos (by omega), G106_eq (hEx.2 _ (getD_mem hi))]
  simp only [Option.bind_some]
  rw [if_pos (by rw [List.length_take]; omega), wrap_inc (by omega), take_succ_getD hi]
 ·unfold T43_L0
  simp only [Tr.den]
  rw [if_neg (decF (by omega)), List.take_length]
theorem G17s0_eq {n : GNode} (h : okGNode n) : G17s0 n = some ⟨n, [[], []], -1⟩ := by
 unfold G17s0 T17s0
 simp only [Tr.den]
 rw [G43_eq h]
 rfl
theorem G83_t {n : GNode} (hn : okNode n) : G83 n = some true := by
 unfold G83 T83
 simp only [Tr.den, G153_eq, Option.bind_some]
 rcases hn.op with ⟨h, hB⟩ | ⟨h, hK⟩
 ·rw [if_neg (beqF (by omega)), if_neg (beqF (by omega)), if_pos (beqT h), if_pos (decT hB.b)]
  simp only [Option.bind_some]
  rw [decT hB.a]
 ·rw [if_neg (beqF (by omega)), if_neg (beqF (by omega)), if_neg (beqF (by omega)), if_pos (beqT h), decT hK]
theorem G44_eq {n : GNode} (hn : okNode n) : G44 n = some (backF n, 0) := by
 unfold G44 T44
 simp only [Tr.den]
 rw [G83_t hn]
 simp only [Option.bind_some, Bool.not_true, Bool.false_eq_true, if_false]
 unfold backF
 rcases hn.op with ⟨h, hB⟩ | ⟨h, hK⟩
 ·rw [if_neg (beqF (by omega)), if_neg (beqF (by omega)), if_pos (beqT h), if_pos h]
 ·rw [if_neg (beqF (by omega)), if_neg (beqF (by omega)), if_neg (beqF (by omega)), if_pos (beqT h), if_neg (by omega), wrap_id (by omega) (by omega)]
theorem G45_eq (l : List GDelta) (t : Int) (ho : okD l) (hn : l.length ≤ 1000000000000) : G45 l t = some (PL.cons (l.filter (aft t))) := by
 unfold G45 T45
 simp only [Tr.den]
 have h1 := while_trace (bd := fun s => (T45_L0 l t s).den) (fun i => ((l.take i).filter (aft t), (i : Int))) l.length (r := .inl (l.filter (aft t))) (fun i hi => ?_) ?_
 ·refine (congrArg (fun x => Option.bind x _) h1).trans ?_
  simp only [Option.bind_some, sel]
  have h2 : okD (l.filter (aft t)) := ho.sub fun x hx => (List.mem_filter.1 hx).1
  rw [G107_eq _ h2.r h2.n (by have := List.length_filter_le (aft t) l; omega)]
  rfl
 ·unfold T45_L0
  simp only [Tr.den, Int.toNat_natCast]
  have hl := List.length_filter_le (aft t) (l.take i)
  rw [List.length_take] at hl
  rw [if_pos (decT (by omega)), if_pos (by omega), take_succ_getD hi, List.filter_append]
  by_cases hc : (l.getD i default).Time > t
  ·rw [if_pos (decT hc), if_pos (by omega), if_pos (by simp only [List.length_cons, List.length_nil]; omega)]
   simp only [Option.bind_some]
   rw [List.filter_cons_of_pos (show aft t (l.getD i default) = true from decT hc), wrap_inc (by omega)]
   rfl
  ·rw [if_neg (decF hc)]
   simp only [Option.bind_some]
   rw [List.filter_cons_of_neg (show ¬ aft t (l.getD i default) = true from decF hc), wrap_inc (by omega)]
   simp
 ·unfold T45_L0
  simp only [Tr.den]
  rw [if_neg (decF (by omega)), List.take_length]
theorem G45_can (l : List GDelta) (t : Int) (ho : okD l) (hc : Can l) (hn : l.length ≤ 1000000000000) : G45 l t = some (l.filter (aft t)) := by
 rw [G45_eq l t ho hn, cons_id (hc.filter _)]
theorem G48_eq (a b : List GDelta) (ha : okD a) (hb : okD b) (hn : a.length + b.length ≤ 1000000000000) : G48 a b = some (PL.cons (a ++ b.map neg)) := by
 unfold G48 T48
 simp only [Tr.den, List.nil_append, List.length_nil]
 rw [if_pos (by omega)]
 have h1 := while_trace (bd := fun s => (T48_L0 b s).den) (fun i => (a ++ (b.take i).map neg, (i : Int))) b.length (r := .inl (a ++ b.map neg)) (fun i hi => ?_) ?_
 ·rw [show (a ++ (b.take 0).map neg, ((0 : Nat) : Int)) = (a, 0) by simp] at h1
  rw [h1]
  simp only [Option.bind_some, sel]
  have ok : okD (a ++ b.map neg) := ha.app (neg_ok hb)
  rw [G107_eq _ ok.r ok.n (by simp; omega)]
  rfl
 ·unfold T48_L0
  simp only [Tr.den, Int.toNat_natCast]
  rw [if_pos (decT (by omega)), if_pos (by omega), if_pos (by omega), G115_eq _ _ (hb.r _ (getD_mem hi))]
  simp only [Option.bind_some]
  rw [if_pos (by simp; omega), wrap_inc (by omega), take_succ_getD hi, List.map_append, ← List.append_assoc]
  rfl
 ·unfold T48_L0
  simp only [Tr.den]
  rw [if_neg (decF (by omega)), List.take_length]
theorem G50_eq (l : List GDelta) (hn : l.length ≤ 1000000000000) : G50 l = some (W (wt all1 l)) := by
 unfold G50 T50
 simp only [Tr.den]
 have h1 := while_trace (bd := fun s => (T50_L0 l s).den) (fun i => (W (wt all1 (l.take i)), (i : Int))) l.length (r := .inl (W (wt all1 l))) (fun i hi => ?_) ?_
 ·refine (congrArg (fun x => Option.bind x _) h1).trans ?_
  rfl
 ·unfold T50_L0
  simp only [Tr.den, Int.toNat_natCast]
  rw [if_pos (decT (by omega)), if_pos (by omega), wrap_inc (by omega), take_succ_getD hi, wt_app, show wt all1 [l.getD i default] = (l.getD i default).N by simp [wt, all1]]
  rw [show IntKind.i64.wrap (W (wt all1 (l.take i)) + (l.getD i default).N) = W (wt all1 (l.take i) + (l.getD i default).N) from wrap_addL _ _]
 ·unfold T50_L0
  simp only [Tr.den]
  rw [if_neg (decF (by omega)), List.take_length]
theorem G20_self (l : List GDelta) (ho : okRs l) (hn : l.length ≤ 1000000000000) : G20 l l = some true := by
 unfold G20 T20
 simp only [Tr.den]
 rw [if_neg (bneF rfl)]
 have h1 := while_trace (bd := fun s => (T20_L0 l l s).den) (fun i => (i : Int)) l.length (r := .inl ()) (fun i hi => ?_) ?_
 ·refine (congrArg (fun x => Option.bind x _) h1).trans ?_
  rfl
 ·unfold T20_L0
  simp only [Tr.den, Int.toNat_natCast]
  rw [if_pos (decT (by omega)), if_pos (by omega), if_pos (by omega), G49_eq _ _ (ho _ (getD_mem hi)) (ho _ (getD_mem hi))]
  simp only [Option.bind_some]
  rw [if_neg (bneF (cmpD_zero.2 rfl)), if_pos (by omega), if_pos (by omega)]
  simp only [Option.bind_some]
  rw [if_neg (bneF rfl), wrap_inc (by omega)]
 ·unfold T20_L0
  simp only [Tr.den]
  rw [if_neg (decF (by omega))]
theorem rowA_ok {n : GNode} {R : List GDelta} (hw : okW R) {a : GDelta} (ha : a.Row.length ≤ 1000) (hn : in64 a.N) : okD (rowA n R a) := by
 unfold rowA
 split
 ·have := joinF_ok (n := n) (i := 0) (l := [a]) (r := R) (fun d hd => by rw [List.mem_singleton.1 hd]; exact ha) hw
  simpa [joinF] using this
 ·have := asofF_ok (n := n) (l := [a]) (r := R) (fun d hd => by rw [List.mem_singleton.1 hd]; exact ha) hw (fun d hd => by rw [List.mem_singleton.1 hd]; exact hn)
  simpa [asofF] using this
theorem rowA_len (n : GNode) (R : List GDelta) (a : GDelta) : (rowA n R a).length ≤ R.length + 1 := by
 unfold rowA
 split
 ·exact Nat.le_trans (joinA_len n 0 R a) (by omega)
 ·exact Nat.le_trans (asofA_len n R a) (by omega)
theorem refM_ok {n : GNode} {A B : List GDelta} (hA : okI n 0 A) (hB : okI n 1 B) : okD (refM n A B) := by
 unfold refM
 refine okD_flat fun a ha => rowA_ok (fun d hd => hB.r d (ofK_mem.1 hd).1) (hA.r a ha) (hA.n a ha)
theorem refM_len {n : GNode} {A B : List GDelta} {c : Nat} (hB : B.length ≤ c) : (refM n A B).length ≤ A.length * (c + 1) := by
 unfold refM
 refine flatMap_len (fun a => ?_) A
 have h1 := rowA_len n (ofK n 1 (kd n 0 a) B) a
 have h2 := ofK_len n 1 (kd n 0 a) B
 omega
theorem G46_eq {n : GNode} (hN : okNode n) {A B : List GDelta} (hA : okI n 0 A) (hB : okI n 1 B) (la : A.length ≤ 1000) (lb : B.length ≤ 1000) : G46 [] n [A, B] = some (PL.cons (refM n A B)) := by
 have e0 : (([A, B] : List (List GDelta)).length : Int) = 2 := rfl
 have eA : ([A, B] : List (List GDelta)).getD (0 : Int).toNat default = A := rfl
 have eB : ([A, B] : List (List GDelta)).getD (1 : Int).toNat default = B := rfl
 have hl : (refM n A B).length ≤ 1000 * 1001 := Nat.le_trans (refM_len lb) (Nat.mul_le_mul la (Nat.le_refl _))
 have hok := refM_ok hA hB
 unfold G46 T46
 simp only [Tr.den]
 rw [e0, if_pos (decT (by omega)), if_pos (by omega), eA]
 simp only [Option.bind_some]
 rw [if_pos (decT (by omega)), if_pos (by omega), eB]
 simp only [Option.bind_some]
 have main : (if (n.Op == 6) = true then (G111 n A B).bind fun r => some r else ((if (n.Op == 7) = true then (G112 n A B).bind fun r => some r else if (n.Op == 8) = true then none else some []).bind fun v => some v)) = some (refM n A B) := by
  rcases hN.op with ⟨h, hBB⟩ | ⟨h, hK⟩
  ·rw [if_pos (beqT h), G111_eq n A B hN hBB (hA.okJ (by omega)) (hB.okJ (by omega))]
   simp only [Option.bind_some]
   unfold refM rowA
   simp only [if_pos h]
   congr 1
   refine congrArg (fun f => List.flatMap f A) ?_
   funext a
   exact refJ_eq n B a
  ·rw [if_neg (beqF (by omega)), if_pos (beqT h), G112_eq n A B hN hK (hA.okJ (by omega)) (hB.okJ (by omega))]
   simp only [Option.bind_some]
   unfold refM rowA
   simp only [if_neg (show ¬ n.Op = 6 by omega)]
 have hop : n.Op = 6 ∨ n.Op = 7 := by rcases hN.op with h | h <;> omega
 rw [if_neg (beqF (by omega)), if_neg (beqF (by omega)), if_neg (beqF (by omega)), if_neg (beqF (by omega)), if_neg (beqF (by omega)), main]
 simp only [Option.bind_some]
 rw [G114_eq _ hok (by omega)]
 rfl
end Go.PL
namespace Go.PL
open Go
set_option linter.unusedVariables false
set_option maxRecDepth 20000
theorem InOk.okY {n : GNode} {i : Int} {a : List GDelta} (h : InOk n i a) (z : okZ a) : okY a := ⟨h.ok.okD, z, h.ok.t, by have := h.len; omega⟩
theorem InOk.filter {n : GNode} {i : Int} {a : List GDelta} (h : InOk n i a) (p : GDelta → Bool) : InOk n i (a.filter p) :=
 ⟨h.can.filter p, h.ok.sub fun x hx => (List.mem_filter.1 hx).1, Nat.le_trans (List.length_filter_le _ _) h.len, fun d hd => h.pos d (List.mem_filter.1 hd).1⟩
theorem okZ.filter {a : List GDelta} (h : okZ a) (p : GDelta → Bool) : okZ (a.filter p) := h.sub fun x hx => (List.mem_filter.1 hx).1
def opB (cl : Int) (A B : List GDelta) : ByteArray := (numB cl ++ txtB (listB A)) ++ txtB (listB B)
theorem G22s0_val {n : GNode} {A B : List GDelta} {m : KS} (h : OInv n A B (-1) m) (hA : InOk n 0 A) (hB : InOk n 1 B) (zA : okZ A) (zB : okZ B) {cl : Int} (hc : in64 cl) : G22s0 n cl m = some (opB cl A B, m) := by
 have all : ∀ i : Int, (i = 0 ∨ i = 1) → G54s0 i n cl m = some (two i A B, m) := by
  intro i hi
  have hT : InOk n i (two i A B) := by
   rcases hi with rfl | rfl
   ·exact hA
   ·exact hB
  exact G54s0_eq i n cl m hi h.mc hT.can hT.ok.okD hT.pos hT.len (fun k hk => rowsOf_eq h hA.ok hB.ok hi hk) fun x hx => keys_all h hA.ok hB.ok hi hx
 have eA : G53 A = some (listB A) := by rw [G53_eq (hA.okY zA), cons_id hA.can]
 have eB : G53 B = some (listB B) := by rw [G53_eq (hB.okY zB), cons_id hB.can]
 have sA := listB_size (hA.okY zA)
 have sB := listB_size (hB.okY zB)
 have l0 := numB_size hc
 have l1 := txtB_size2 (s := listB A) (by omega)
 have l2 := txtB_size2 (s := listB B) (by omega)
 unfold G22s0 T22s0
 simp only [Tr.den]
 rw [G51_eq hc]
 simp only [Option.bind_some]
 rw [all 0 (.inl rfl)]
 simp only [Option.bind_some]
 rw [show two (0 : Int) A B = A from rfl, eA]
 simp only [Option.bind_some]
 rw [G52_eq2 (by omega)]
 simp only [Option.bind_some]
 rw [if_pos (by omega), all 1 (.inr rfl)]
 simp only [Option.bind_some]
 rw [show two (1 : Int) A B = B from rfl, eB]
 simp only [Option.bind_some]
 rw [G52_eq2 (by omega)]
 simp only [Option.bind_some]
 rw [if_pos (by rw [ByteArray.size_append]; omega)]
 rfl
theorem G23s0_val {n : GNode} {A B : List GDelta} (hA : InOk n 0 A) (hB : InOk n 1 B) (zA : okZ A) (zB : okZ B) {cl : Int} (hc : in64 cl) : G23s0 ⟨n, [A, B], cl⟩ = some (opB cl A B) := by
 have eA : G57 A = some (listB A) := by rw [G57_eq (hA.okY zA), cons_id hA.can]
 have eB : G57 B = some (listB B) := by rw [G57_eq (hB.okY zB), cons_id hB.can]
 have sA := listB_size (hA.okY zA)
 have sB := listB_size (hB.okY zB)
 have l0 := numB_size hc
 have l1 := txtB_size2 (s := listB A) (by omega)
 have l2 := txtB_size2 (s := listB B) (by omega)
 have e0 : (([A, B] : List (List GDelta)).length : Int) = 2 := rfl
 have gA : ([A, B] : List (List GDelta)).getD (0 : Int).toNat default = A := rfl
 have gB : ([A, B] : List (List GDelta)).getD (1 : Int).toNat default = B := rfl
 unfold G23s0 T23s0
 simp only [Tr.den]
 rw [G55_eq hc]
 simp only [Option.bind_some]
 rw [e0, if_pos (by omega), gA, eA]
 simp only [Option.bind_some]
 rw [G56_eq (by omega)]
 simp only [Option.bind_some]
 rw [if_pos (by omega), if_pos (by omega), gB, eB]
 simp only [Option.bind_some]
 rw [G56_eq (by omega)]
 simp only [Option.bind_some]
 rw [if_pos (by rw [ByteArray.size_append]; omega)]
 rfl
theorem OInv.cut {n : GNode} {a0 a1 : List GDelta} {t : Int} {m : KS} (h : OInv n a0 a1 t m) (h0 : okI n 0 a0) (h1 : okI n 1 a1) : OInv n (a0.filter (aft t)) (a1.filter (aft t)) (-1) m := by
 refine ⟨h.mc, fun k => ?_⟩
 rw [h.look, aft_all (h0.sub fun x hx => (List.mem_filter.1 hx).1), aft_all (h1.sub fun x hx => (List.mem_filter.1 hx).1)]
theorem G21s0_eq {n : GNode} {A B : List GDelta} (hA : InOk n 0 A) (hB : InOk n 1 B) (cl : Int) : G21s0 ⟨n, [A, B], cl⟩ = some (wt all1 A + wt all1 B) := by
 have e0 : (([A, B] : List (List GDelta)).length : Int) = 2 := rfl
 have gA : ([A, B] : List (List GDelta)).getD (0 : Int).toNat default = A := rfl
 have gB : ([A, B] : List (List GDelta)).getD (1 : Int).toNat default = B := rfl
 have pA := wt_pos hA.pos
 have pB := wt_pos hB.pos
 have lA := hA.len
 have lB := hB.len
 unfold G21s0 T21s0
 simp only [Tr.den]
 rw [e0, if_pos (by omega), gA, G50_eq _ (by omega)]
 simp only [Option.bind_some]
 rw [if_pos (by omega), gB, G50_eq _ (by omega)]
 simp only [Option.bind_some]
 rw [W_id ⟨by omega, by omega⟩, W_id ⟨by omega, by omega⟩, wrap_id (by omega) (by omega)]
theorem G18s0_old (c : Int) (n : GNode) (L : List (List GDelta)) (cl : Int) (h : c ≤ cl) : G18s0 c ⟨n, L, cl⟩ = some (L, cl) := by
 unfold G18s0 T18s0
 simp only [Tr.den]
 rw [if_pos (decT h)]
theorem G18s0_eq (c : Int) {n : GNode} (hN : okNode n) {A B : List GDelta} (hA : InOk n 0 A) (hB : InOk n 1 B) (cl : Int) (h : cl < c) (h0 : 0 ≤ c) (h1 : c ≤ 2199023255552) : G18s0 c ⟨n, [A, B], cl⟩ = some ([A.filter (aft (c - backF n)), B.filter (aft (c - backF n))], c) := by
 have e0 : (([A, B] : List (List GDelta)).length : Int) = 2 := rfl
 have gA : ([A, B] : List (List GDelta)).getD (0 : Int).toNat default = A := rfl
 have gB : ([A, B] : List (List GDelta)).getD (1 : Int).toNat default = B := rfl
 have hbk := backF_in hN
 have lA := hA.len
 have lB := hB.len
 unfold G18s0 T18s0
 simp only [Tr.den]
 rw [if_neg (decF (by omega)), G44_eq hN]
 simp only [Option.bind_some]
 rw [wrap_id (by omega) (by omega), e0, if_pos (by omega), gA, G45_can A _ hA.ok.okD hA.can (by omega)]
 simp only [Option.bind_some]
 rw [if_pos (by omega), gB, G45_can B _ hB.ok.okD hB.can (by omega)]
 rfl
theorem bitA_id {i : Int} (hi : i = 0 ∨ i = 1) : bitA .i64 i 1 = i := by
 rcases hi with rfl | rfl <;> decide
def refP (n : GNode) (A B A' B' : List GDelta) : List GDelta := PL.cons (PL.cons (refM n A' B') ++ (PL.cons (refM n A B)).map neg)
theorem okI_two {n : GNode} {i : Int} (hi : i = 0 ∨ i = 1) {A B : List GDelta} (hA : okI n 0 A) (hB : okI n 1 B) : okI n i (two i A B) := by
 rcases hi with rfl | rfl
 ·exact hA
 ·exact hB
theorem G19s0_eq {n : GNode} (hN : okNode n) {A B : List GDelta} (hA : okI n 0 A) (hB : okI n 1 B) (lA : A.length ≤ 900) (lB : B.length ≤ 900) (cl : Int) {i : Int} (hi : i = 0 ∨ i = 1) {l : List GDelta} (hl : okI n i l) (hn : l.length ≤ 8) :
  G19s0 i l ⟨n, [A, B], cl⟩ = some (refP n A B (if i = 0 then PL.cons (two i A B ++ l) else A) (if i = 0 then B else PL.cons (two i A B ++ l)), [if i = 0 then PL.cons (two i A B ++ l) else A, if i = 0 then B else PL.cons (two i A B ++ l)]) := by
 have e0 : (([A, B] : List (List GDelta)).length : Int) = 2 := rfl
 have e0' : ([A, B] : List (List GDelta)).length = 2 := rfl
 have gA : ([A, B] : List (List GDelta)).getD (0 : Int).toNat default = A := rfl
 have gB : ([A, B] : List (List GDelta)).getD (1 : Int).toNat default = B := rfl
 have okt := okI_two hi hA hB
 have ltw : (two i A B).length ≤ 900 := by unfold two; split <;> omega
 have hcl := cons_len (two i A B ++ l)
 rw [List.length_append] at hcl
 have okc := (okt.app hl).cons
 have hA' : okI n 0 (if i = 0 then PL.cons (two i A B ++ l) else A) := by
  by_cases h : i = 0
  ·rw [if_pos h]; subst h; exact okc
  ·rw [if_neg h]; exact hA
 have hB' : okI n 1 (if i = 0 then B else PL.cons (two i A B ++ l)) := by
  by_cases h : i = 0
  ·rw [if_pos h]; exact hB
  ·have h1 := hi.resolve_left h
   rw [if_neg h]; subst h1; exact okc
 have lA' : (if i = 0 then PL.cons (two i A B ++ l) else A).length ≤ 1000 := by split <;> omega
 have lB' : (if i = 0 then B else PL.cons (two i A B ++ l)).length ≤ 1000 := by split <;> omega
 have m0 : (refM n A B).length ≤ 1000 * 1001 := Nat.le_trans (refM_len (c := 1000) (by omega)) (Nat.mul_le_mul (by omega) (Nat.le_refl _))
 have m1 : (refM n (if i = 0 then PL.cons (two i A B ++ l) else A) (if i = 0 then B else PL.cons (two i A B ++ l))).length ≤ 1000 * 1001 := Nat.le_trans (refM_len lB') (Nat.mul_le_mul lA' (Nat.le_refl _))
 have c0 := cons_len (refM n A B)
 have c1 := cons_len (refM n (if i = 0 then PL.cons (two i A B ++ l) else A) (if i = 0 then B else PL.cons (two i A B ++ l)))
 have hi2 : 0 ≤ i ∧ i < 2 := by omega
 unfold G19s0 T19s0
 simp only [Tr.den]
 rw [G46_eq hN hA hB (by omega) (by omega)]
 simp only [Option.bind_some]
 rw [bitA_id hi, e0, if_pos (by omega), if_pos (by omega), if_pos hi2, gA, gB, two_get hi, G47_eq _ _ okt.okD hl.okD (by omega)]
 simp only [Option.bind_some]
 rw [e0, if_pos hi2, e0', if_pos (by omega)]
 rw [if_pos (show (([(i.toNat, PL.cons (two i A B ++ l))] : List (Nat × List GDelta)).all fun p => decide (p.1 < 2)) = true by simp only [List.all_cons, List.all_nil, Bool.and_true, decide_eq_true_eq]; omega)]
 rw [two_set hi, G46_eq hN hA' hB' lA' lB']
 simp only [Option.bind_some]
 rw [G48_eq _ _ (refM_ok hA' hB').cons (refM_ok hA hB).cons (by omega)]
 rfl
theorem refP_wt {n : GNode} (A B A' B' : List GDelta) (p : Pl → Bool) : W (wt p (refP n A B A' B')) = W (wt p (refM n A' B') - wt p (refM n A B)) := by
 unfold refP
 rw [cons_same _ p, wt_app]
 refine Eq.trans (W_add (cons_same (refM n A' B') p) (wt_negs p _)) ?_
 rw [show wt p (refM n A' B') + -wt p (PL.cons (refM n A B)) = wt p (refM n A' B') - wt p (PL.cons (refM n A B)) by omega]
 exact W_sub rfl (cons_same (refM n A B) p)
theorem push_same {n : GNode} (hN : okNode n) {a0 a1 : List GDelta} {t : Int} {m : KS} (hO : OInv n a0 a1 t m) (h0 : InOk n 0 a0) (h1 : InOk n 1 a1) {i : Int} (hi : i = 0 ∨ i = 1) {l : List GDelta} (hl : okI n i l) (hlen : l.length ≤ 8)
  {b0 b1 : List GDelta} (hO' : OInv n b0 b1 t (pushM n i (PL.cons l) m)) (A1 : okI n 0 b0) (B1 : okI n 1 b1) :
  PL.cons ((mkeys (groupM n i (PL.cons l))).flatMap (pushO n i (PL.cons l) m)) = refP n (a0.filter (aft t)) (a1.filter (aft t)) (b0.filter (aft t)) (b1.filter (aft t)) := by
 have hm := hO.okM h0 h1
 have hcl := cons_len l
 obtain ⟨q1, q2⟩ := pushOut_ok hi hl.cons hm (by omega)
 have okA' : okI n 0 (b0.filter (aft t)) := A1.sub fun x hx => (List.mem_filter.1 hx).1
 have okB' : okI n 1 (b1.filter (aft t)) := B1.sub fun x hx => (List.mem_filter.1 hx).1
 have okA : okI n 0 (a0.filter (aft t)) := h0.ok.sub fun x hx => (List.mem_filter.1 hx).1
 have okB : okI n 1 (a1.filter (aft t)) := h1.ok.sub fun x hx => (List.mem_filter.1 hx).1
 have okP : okD (PL.cons (refM n (b0.filter (aft t)) (b1.filter (aft t))) ++ (PL.cons (refM n (a0.filter (aft t)) (a1.filter (aft t)))).map neg) := (refM_ok okA' okB').cons.app (neg_ok (refM_ok okA okB).cons)
 refine (cons_can q1.n).ext (cons_can okP.n) fun p => ?_
 rw [cons_same _ p, push_wt hN p hi hm (cons_can hl.n), Phi_ref hO', Phi_ref hO]
 exact (refP_wt _ _ _ _ p).symm
end Go.PL
namespace Go.PL
open Go
set_option linter.unusedVariables false
set_option maxRecDepth 20000
theorem filt_push {a l : List GDelta} {t : Int} (ha : Can a) (hl : okN l) (hal : ∀ d, d ∈ l → aft t d = true) : PL.cons (a.filter (aft t) ++ l) = (PL.cons (a ++ l)).filter (aft t) := by
 have hal' : okN (a ++ l) := fun x hx => (List.mem_append.1 hx).elim (ha.n64 x) (hl x)
 refine cons_eq ((cons_can hal').filter _) (fun x hx => ?_) ?_
 ·rcases List.mem_append.1 hx with hx | hx
  ·exact ha.n64 x (List.mem_filter.1 hx).1
  ·exact hl x hx
 ·have h1 := (cons_same (a ++ l)).aft t
  rw [List.filter_append, List.filter_eq_self.2 hal] at h1
  exact h1
theorem two_filter (i : Int) (A B : List GDelta) (p : GDelta → Bool) : two i (A.filter p) (B.filter p) = (two i A B).filter p := by unfold two; split <;> rfl
structure KIn (n : GNode) (a0 a1 : List GDelta) (k : Nat) : Prop where
 c0 : Can a0
 i0 : okI n 0 a0
 l0 : a0.length ≤ 8 * k
 p0 : ∀ d, d ∈ a0 → 1 ≤ d.N ∧ d.N ≤ 20
 z0 : okZ a0
 c1 : Can a1
 i1 : okI n 1 a1
 l1 : a1.length ≤ 8 * k
 p1 : ∀ d, d ∈ a1 → 1 ≤ d.N ∧ d.N ≤ 20
 z1 : okZ a1
theorem KIn.nil (n : GNode) : KIn n [] [] 0 := ⟨.nil, .nil, by simp, by simp, fun _ h => (by cases h), .nil, .nil, by simp, by simp, fun _ h => (by cases h)⟩
theorem KIn.in0 {n : GNode} {a0 a1 : List GDelta} {k : Nat} (h : KIn n a0 a1 k) (hk : k ≤ 100) : InOk n 0 a0 := ⟨h.c0, h.i0, by have := h.l0; omega, h.p0⟩
theorem KIn.in1 {n : GNode} {a0 a1 : List GDelta} {k : Nat} (h : KIn n a0 a1 k) (hk : k ≤ 100) : InOk n 1 a1 := ⟨h.c1, h.i1, by have := h.l1; omega, h.p1⟩
theorem KIn.more {n : GNode} {a0 a1 : List GDelta} {k : Nat} (h : KIn n a0 a1 k) : KIn n a0 a1 (k + 1) := ⟨h.c0, h.i0, by have := h.l0; omega, h.p0, h.z0, h.c1, h.i1, by have := h.l1; omega, h.p1, h.z1⟩
theorem KIn.push {n : GNode} {ta tb : List Int} (hR : RightN n ta tb) {a0 a1 : List GDelta} {k : Nat} (h : KIn n a0 a1 k) {x : GAct} (hx : okL 40 okGDelta x.L) (hL : x.L.length ≤ 8) {c : Int}
  (hD : ∀ d, d ∈ x.L → c < d.Time ∧ 0 ≤ d.Time ∧ d.Time ≤ 2199023255552 ∧ d.Row.length = (two (inA x) ta tb).length ∧ -3 ≤ d.N ∧ d.N ≤ 3) (hP : ∀ d, d ∈ PL.cons (two (inA x) a0 a1 ++ x.L) → 1 ≤ d.N ∧ d.N ≤ 20) :
  okI n (inA x) x.L ∧ KIn n (if inA x = 0 then PL.cons (two (inA x) a0 a1 ++ x.L) else a0) (if inA x = 0 then a1 else PL.cons (two (inA x) a0 a1 ++ x.L)) (k + 1) := by
 have hi := bit1 x.Do
 have hIL : okI n (inA x) x.L := okI_of hR hx hi hD
 have hZ := okZ_act hR hx (i := inA x) fun d hd => (hD d hd).2.2.2.1
 refine ⟨hIL, ?_⟩
 have hcn := cons_len (two (inA x) a0 a1 ++ x.L)
 rw [List.length_append] at hcn
 rcases (show inA x = 0 ∨ inA x = 1 from hi) with e | e
 ·rw [e] at hP hcn hIL ⊢
  rw [if_pos rfl, if_pos rfl]
  rw [show two 0 a0 a1 = a0 from rfl] at *
  have := h.l0
  have := h.l1
  exact ⟨cons_can (h.i0.app hIL).n, (h.i0.app hIL).cons, by omega, hP, (h.z0.app hZ).cons, h.c1, h.i1, by omega, h.p1, h.z1⟩
 ·rw [e] at hP hcn hIL ⊢
  rw [if_neg (by omega), if_neg (by omega)]
  rw [show two 1 a0 a1 = a1 from rfl] at *
  have := h.l0
  have := h.l1
  exact ⟨h.c0, h.i0, by omega, h.p0, h.z0, cons_can (h.i1.app hIL).n, (h.i1.app hIL).cons, by omega, hP, (h.z1.app hZ).cons⟩
structure TI (n : GNode) (ta tb : List Int) (acts : List GAct) (k : Nat) (s : KS × Int × List (List GDelta) × Int × Int) (a0 a1 : List GDelta) : Prop where
 L : s.2.2.1 = [a0.filter (aft (s.2.1 - backF n)), a1.filter (aft (s.2.1 - backF n))]
 c : s.2.2.2.1 = s.2.1
 p : KIn n a0 a1 k
 o : OInv n a0 a1 (s.2.1 - backF n) s.1
 c1 : -1 ≤ s.2.1
 c2 : s.2.1 ≤ 2199023255552
 f : FitsR ta tb (acts.drop k) a0 a1 s.2.1
theorem tellsRest {n : GNode} (hN : okNode n) {ta tb : List Int} {acts : List GAct} {k : Nat} (hk : k ≤ 100) (x y : List GDelta) (hxy : x = y) (hx : okRs x) (hlx : x.length ≤ 1000000000000) (m : KS) (cl : Int) (L : List (List GDelta)) (c' : Int) (w : Int) (a0 a1 : List GDelta)
  (h : TI n ta tb acts k (m, cl, L, c', w) a0 a1) :
  (G20 x y).bind (fun r16 =>
   (if (!r16) = true then some (m, true) else (G15s0 n cl m).bind fun r19 => (G21s0 ⟨n, L, c'⟩).bind fun r20 => if (r19.1 != r20) = true then some (r19.2, true) else (G16s0 n cl r19.2).bind fun r21 => (G21s0 ⟨n, L, c'⟩).bind fun r22 =>
    if (!(r21 == (r22 == 0))) = true then some (r19.2, true) else (G22s0 n cl r19.2).bind fun r23 => (G23s0 ⟨n, L, c'⟩).bind fun r24 => some (r23.2, !(r23.1.toList == r24.toList))).bind fun v =>
   if v.2 = true then (some (.inr (.inr false)) : Option ((KS × Int × List (List GDelta) × Int × Int) ⊕ (Unit ⊕ Bool))) else some (.inl (v.1, cl, L, c', w))) = some (.inl (m, cl, L, c', w)) := by
 obtain ⟨hL, hc, hP, hO, hc1, hc2, hf⟩ := h
 simp only at hL hc hP hO hc1 hc2
 subst hxy hL hc
 have I0 := (hP.in0 hk).filter (aft (c' - backF n))
 have I1 := (hP.in1 hk).filter (aft (c' - backF n))
 have Z0 := hP.z0.filter (aft (c' - backF n))
 have Z1 := hP.z1.filter (aft (c' - backF n))
 have hcut := hO.cut hP.i0 hP.i1
 have hM := hO.okM (hP.in0 hk) (hP.in1 hk)
 have hrows := hO.rows
 have hem := hO.empty
 generalize a0.filter (aft (c' - backF n)) = A at *
 generalize a1.filter (aft (c' - backF n)) = B at *
 have q0 := wt_pos I0.pos
 have q1 := wt_pos I1.pos
 have lA := I0.len
 have lB := I1.len
 rw [G20_self x hx hlx]
 simp only [Option.bind_some, Bool.not_true, Bool.false_eq_true, if_false]
 rw [G15s0_eq n c' m hO.mc fun k s hs => ⟨by have := (hM.s k s hs).l0; omega, by have := (hM.s k s hs).l1; omega⟩]
 simp only [Option.bind_some]
 rw [G21s0_eq I0 I1 c', hrows, W_id ⟨by omega, by omega⟩]
 simp only [Option.bind_some]
 rw [if_neg (bneF rfl), G16s0_eq]
 simp only [Option.bind_some]
 have hz : (decide (m = []) == (wt all1 A + wt all1 B == 0)) = true := by
  rw [beq_iff_eq, Bool.eq_iff_iff, decide_eq_true_eq, beq_iff_eq, hem]
  constructor
  ·rintro ⟨z0, z1⟩; rw [z0, z1]; rfl
  ·intro hz
   exact ⟨List.eq_nil_of_length_eq_zero (by omega), List.eq_nil_of_length_eq_zero (by omega)⟩
 rw [hz]
 simp only [Bool.not_true, Bool.false_eq_true, if_false]
 rw [G22s0_val hcut I0 I1 Z0 Z1 ⟨by omega, by omega⟩]
 simp only [Option.bind_some]
 rw [G23s0_val I0 I1 Z0 Z1 ⟨by omega, by omega⟩]
 simp only [Option.bind_some]
 rw [show ((opB c' A B).toList == (opB c' A B).toList) = true from beq_iff_eq.2 rfl]
 simp only [Bool.not_true, Bool.false_eq_true, if_false]
theorem tellsMain (n : GNode) (ta tb : List Int) (acts : List GAct) (hok : okL 40 okGAct acts) (k1 : n.Key.length ≤ 20) (k2 : n.Key2.length ≤ 20) (hR : RightN n ta tb) (hlen : acts.length ≤ 25) (hF : FitsR ta tb acts [] [] (-1)) (r1 : Bool) :
  Sp (whileM (fun s => (T4_L0 acts r1 (n, -1, []) ⟨n, [[], []], -1⟩ s).den) (([] : KS), -1, [([] : List GDelta), ([] : List GDelta)], -1, 0)) (fun z => z = .inl ()) := by
 have hN : okNode n := ⟨hR.op, by omega, by omega⟩
 have hb := backF_in hN
 refine sq_count (fun s : KS × Int × List (List GDelta) × Int × Int => s.2.2.2.2) acts.length (by omega)
  (fun s => ∃ a0 a1, TI n ta tb acts s.2.2.2.2.toNat s a0 a1) (fun s k hI hk hkN => ?_)
  ⟨[], [], rfl, rfl, KIn.nil n, OInv.init n _, by simp only; omega, by simp only; omega, by simpa using hF⟩ rfl
 obtain ⟨m, cl, L, c', v9⟩ := s
 obtain ⟨a0, a1, hT⟩ := hI
 simp only at hk hT
 subst hk
 rw [Int.toNat_natCast] at hT
 obtain ⟨hL, hc, hP, hO, hc1, hc2, hFk⟩ := hT
 simp only at hL hc hO hc1 hc2 hFk
 subst hL hc
 unfold T4_L0
 simp only [Tr.den, Int.toNat_natCast]
 by_cases hcnt : k < acts.length
 ·have hok' := hok.2 _ (getD_mem hcnt)
  have hi := bit1 (acts.getD k default).Do
  rw [drop_getD hcnt] at hFk
  have I0 := hP.in0 (show k ≤ 100 by omega)
  have I1 := hP.in1 (show k ≤ 100 by omega)
  rw [if_pos (decT (by omega)), if_pos (by omega)]
  have fin : ∀ (m' : KS) (cl' : Int) (b0 b1 : List GDelta), TI n ta tb acts (k + 1) (m', cl', [b0.filter (aft (cl' - backF n)), b1.filter (aft (cl' - backF n))], cl', IntKind.i64.wrap ((k : Int) + 1)) b0 b1 →
    Sp (some (Sum.inl (m', cl', [b0.filter (aft (cl' - backF n)), b1.filter (aft (cl' - backF n))], cl', IntKind.i64.wrap ((k : Int) + 1))) : Option ((KS × Int × List (List GDelta) × Int × Int) ⊕ (Unit ⊕ Bool)))
     (sel (fun s' : KS × Int × List (List GDelta) × Int × Int => s'.2.2.2.2 = IntKind.i64.wrap ((k : Int) + 1) ∧ k < acts.length ∧ ∃ a0 a1, TI n ta tb acts s'.2.2.2.2.toNat s' a0 a1) (fun z : Unit ⊕ Bool => z = .inl ())) := by
   intro m' cl' b0 b1 h
   refine sq_some.2 ⟨rfl, hcnt, b0, b1, ?_⟩
   simp only
   rw [show (IntKind.i64.wrap ((k : Int) + 1)).toNat = k + 1 by rw [wrap_inc (by omega), Int.toNat_natCast]]
   exact h
  unfold G11s0 T11s0
  simp only [Tr.den]
  by_cases h3 : (bitA .i64 (acts.getD k default).Do 3 == 3) = true
  ·obtain ⟨hC, hF'⟩ := hFk.1 h3
   rw [if_pos h3, if_pos h3]
   by_cases hle : (acts.getD k default).C > c'
   ·rw [G32s0_eq _ n c' m hN (hO.okM I0 I1) (by omega) (by omega) hC]
    simp only [Option.bind_some]
    rw [if_pos (by omega), if_pos (by omega), G18s0_eq _ hN (I0.filter _) (I1.filter _) c' (by omega) (by omega) hC]
    simp only [Option.bind_some]
    rw [if_pos hle] at hF'
    rw [aft_aft (by omega), aft_aft (by omega)]
    have hT' : TI n ta tb acts (k + 1) (closeM ((acts.getD k default).C - backF n) m, (acts.getD k default).C, [a0.filter (aft ((acts.getD k default).C - backF n)), a1.filter (aft ((acts.getD k default).C - backF n))], (acts.getD k default).C, IntKind.i64.wrap ((k : Int) + 1)) a0 a1 :=
     ⟨rfl, rfl, hP.more, hO.close (show c' - backF n ≤ (acts.getD k default).C - backF n by omega), show -1 ≤ (acts.getD k default).C by omega, hC, hF'⟩
    rw [tellsRest hN (show k + 1 ≤ 100 by omega) [] [] rfl (fun _ h => by cases h) (by simp) _ _ _ _ _ a0 a1 hT']
    exact fin _ _ _ _ hT'
   ·rw [G32s0_old _ n c' m (by omega)]
    simp only [Option.bind_some]
    rw [if_pos (by omega), if_pos (by omega), G18s0_old _ n _ c' (by omega)]
    simp only [Option.bind_some]
    rw [if_neg hle] at hF'
    have hT' : TI n ta tb acts (k + 1) (m, c', [a0.filter (aft (c' - backF n)), a1.filter (aft (c' - backF n))], c', IntKind.i64.wrap ((k : Int) + 1)) a0 a1 :=
     ⟨rfl, rfl, hP.more, hO, hc1, hc2, hF'⟩
    rw [tellsRest hN (show k + 1 ≤ 100 by omega) [] [] rfl (fun _ h => by cases h) (by simp) _ _ _ _ _ a0 a1 hT']
    exact fin _ _ _ _ hT'
  ·obtain ⟨hLn, hD, hPos, hF'⟩ := hFk.2 (Bool.eq_false_iff.2 h3)
   rw [if_neg h3, if_neg h3]
   obtain ⟨hIL, hP'⟩ := hP.push hR hok'.2.2 hLn hD hPos
   have hcl := cons_len (acts.getD k default).L
   have hal : ∀ d, d ∈ (acts.getD k default).L → aft (c' - backF n) d = true := fun d hd => decT (by have := (hD d hd).1; omega)
   have hM := hO.okM I0 I1
   have hpush := hO.push hP.c0 hP.c1 hi hIL.n hal
   obtain ⟨q1, q2⟩ := pushOut_ok hi hIL.cons hM (by omega)
   have q3 := cons_len ((mkeys (groupM n (bitA .i64 (acts.getD k default).Do 1) (PL.cons (acts.getD k default).L))).flatMap (pushO n (bitA .i64 (acts.getD k default).Do 1) (PL.cons (acts.getD k default).L) m))
   have hmul : (PL.cons (acts.getD k default).L).length * 100000000 ≤ 8 * 100000000 := Nat.mul_le_mul (by omega) (Nat.le_refl _)
   have f0 := I0.filter (aft (c' - backF n))
   have f1 := I1.filter (aft (c' - backF n))
   rw [G25s0_eq (bitA .i64 (acts.getD k default).Do 1) (acts.getD k default).L n c' m hi hN hIL hM (by omega) (by omega)]
   simp only [Option.bind_some]
   rw [if_pos (by omega), if_pos (by omega), if_pos (by omega), G19s0_eq hN f0.ok f1.ok f0.len f1.len c' hi hIL hLn]
   simp only [Option.bind_some]
   have hps := push_same hN hO I0 I1 hi hIL hLn hpush hP'.i0 hP'.i1
   have e0 : (if bitA .i64 (acts.getD k default).Do 1 = 0 then PL.cons (two (bitA .i64 (acts.getD k default).Do 1) (a0.filter (aft (c' - backF n))) (a1.filter (aft (c' - backF n))) ++ (acts.getD k default).L) else a0.filter (aft (c' - backF n))) = (if bitA .i64 (acts.getD k default).Do 1 = 0 then PL.cons (two (bitA .i64 (acts.getD k default).Do 1) a0 a1 ++ (acts.getD k default).L) else a0).filter (aft (c' - backF n)) := by
    by_cases h : bitA .i64 (acts.getD k default).Do 1 = 0
    ·rw [if_pos h, if_pos h, two_filter, filt_push (by rw [h]; exact hP.c0) hIL.n hal]
    ·rw [if_neg h, if_neg h]
   have e1 : (if bitA .i64 (acts.getD k default).Do 1 = 0 then a1.filter (aft (c' - backF n)) else PL.cons (two (bitA .i64 (acts.getD k default).Do 1) (a0.filter (aft (c' - backF n))) (a1.filter (aft (c' - backF n))) ++ (acts.getD k default).L)) = (if bitA .i64 (acts.getD k default).Do 1 = 0 then a1 else PL.cons (two (bitA .i64 (acts.getD k default).Do 1) a0 a1 ++ (acts.getD k default).L)).filter (aft (c' - backF n)) := by
    by_cases h : bitA .i64 (acts.getD k default).Do 1 = 0
    ·rw [if_pos h, if_pos h]
    ·have h1 : bitA .i64 (acts.getD k default).Do 1 = 1 := hi.resolve_left h
     rw [if_neg h, if_neg h, two_filter, filt_push (by rw [h1]; exact hP.c1) hIL.n hal]
   rw [e0, e1]
   have hT' : TI n ta tb acts (k + 1) (pushM n (bitA .i64 (acts.getD k default).Do 1) (PL.cons (acts.getD k default).L) m, c', [(if bitA .i64 (acts.getD k default).Do 1 = 0 then PL.cons (two (bitA .i64 (acts.getD k default).Do 1) a0 a1 ++ (acts.getD k default).L) else a0).filter (aft (c' - backF n)), (if bitA .i64 (acts.getD k default).Do 1 = 0 then a1 else PL.cons (two (bitA .i64 (acts.getD k default).Do 1) a0 a1 ++ (acts.getD k default).L)).filter (aft (c' - backF n))], c', IntKind.i64.wrap ((k : Int) + 1)) _ _ :=
    ⟨rfl, rfl, hP', hpush, hc1, hc2, hF'⟩
   rw [tellsRest hN (show k + 1 ≤ 100 by omega) _ _ hps q1.cons.r (by omega) _ _ _ _ _ _ _ hT']
   exact fin _ _ _ _ hT'
 ·rw [if_neg (decF (by omega))]
  exact sq_some.2 rfl
theorem G4_true (n : GNode) (types : List (List Int)) (acts : List GAct) (hn : okGNode n) (ht : okL 24 (okL 8 inI64) types) (hok : okL 40 okGAct acts) : G4 n types acts = some true := by
 refine Sp.eq ?_
 unfold G4 T4
 simp only [Tr.den]
 rw [G7_eq]
 simp only [Option.bind_some]
 refine Sq.bind _ (G8_sp n types acts 25 (by omega) hn ht hok) (fun r hr => ?_)
 cases r with
 | false => exact sq_some.2 rfl
 | true =>
  obtain ⟨ta, tb, rfl, k1, k2, hR, hlen, hF⟩ := hr rfl
  simp only [Bool.not_true, Bool.false_eq_true, if_false]
  rw [G9s0_eq n (by omega) (by omega)]
  simp only [Option.bind_some]
  rw [G17s0_eq hn]
  simp only [Option.bind_some]
  refine Sq.bind _ (tellsMain n ta tb acts hok k1 k2 hR hlen hF true) (fun z hz => ?_)
  subst hz
  exact sq_some.2 rfl
end Go.PL
namespace Go.Proofs.YtleighbgfdocfaaGreatDoor
open Go Go.RowKit
abbrev laid3 {H : Type} : List (String × DataW H) := [("math/bits.deBruijn32tab", Rows.laid_math_bits_deBruijn32tab), ("math/bits.deBruijn64tab", Rows.laid_math_bits_deBruijn64tab), ("internal/strconv.uint64pow10", Rows.laid_internal_strconv_uint64pow10)]
theorem own : ownKnob Tryz.prog.godebug = none := by kernel_rfl
theorem gTab : Tryz.prog.globalNamed "internal/strconv.uint64pow10" = some 0 := by kernel_rfl
theorem pow_datum : (Rows.laid_internal_strconv_uint64pow10 : DataW Unit) = Lib.tabData .u64 Lib.pow10Tab := by rfl
theorem pow_tab {W : World} (h : laidMetH Tryz.prog laid3 W) : Lib.TabIs Tryz.prog W "internal/strconv.uint64pow10" .u64 Lib.pow10Tab ∧ 0 < W.heap.size := by
 have h' : laidMet Tryz.prog laid3 W := h
 obtain ⟨ps, hv, _⟩ := h'
 obtain ⟨g1, t1, cs1, f1, p1, q1, _, _, _, _, hv2, _⟩ := hv
 obtain ⟨g2, t2, cs2, f2, p2, q2, _, _, _, _, hv3, _⟩ := hv2
 obtain ⟨g, t, cs, fuel, p, q, hg, hty, hvar, hd, _, _⟩ := hv3
 obtain rfl := Option.some.inj (gTab.symm.trans hg)
 have hT : Lib.TabIs Tryz.prog W "internal/strconv.uint64pow10" .u64 Lib.pow10Tab := by
  have ht' : ((Tryz.prog.globals[0]?).map (·.type)) = some 231 := by kernel_rfl
  obtain rfl := Option.some.inj (ht'.symm.trans hty)
  rw [pow_datum] at hd
  unfold Lib.TabIs
  rw [hvar, ← Lib.cells_of_tab Tryz.underlying231 Tryz.underlying216 (by kernel_rfl) (by kernel_rfl) hd]
 refine ⟨hT, ?_⟩
 have hc := hT.cell gTab 0 (by decide)
 refine Classical.byContradiction fun h0 => ?_
 have : W.heap[0]? = none := Array.getElem?_eq_none (by omega)
 simp [World.cell?, this] at hc
theorem glp {W : World} (h : laidMetH Tryz.prog laid3 W) : PL.GLP Tryz.prog (fun b => b < W.heap.size) W := by
 intro b hb
 obtain ⟨h1, h2⟩ := pow_tab h
 obtain rfl := Option.some.inj (gTab.symm.trans hb)
 exact ⟨h1, h2⟩
def cellsD : DataW Unit → Array Value
 | .agg l => (l.map fun d => match d with | .lit (.int k z) => Value.int k z | _ => .bool false).toArray
 | _ => #[]
noncomputable def layAt (h : Array Obj) (b : Nat) (d : DataW Unit) : Array Obj := h.modify b fun
 | .cells _ t frozen => .cells (cellsD d) t frozen
 | o => o
noncomputable def laidWorld (os : Os) : World :=
 { World.holding Tryz.prog os ⟨#[], #[], []⟩ with heap := layAt (layAt (layAt (World.holding Tryz.prog os ⟨#[], #[], []⟩).heap 0 Rows.laid_internal_strconv_uint64pow10) 4 Rows.laid_math_bits_deBruijn32tab) 5 Rows.laid_math_bits_deBruijn64tab }
theorem laid_met (os : Os) (args : Array Value) : laidMet Tryz.prog laid3 ((laidWorld os).forCall (fun _ _ => 0) ⟨#[], args, []⟩).memory :=
 laidMet_of_run' 8 (by kernel_rfl) (by kernel_rfl)
noncomputable abbrev args4 : Array Value := #[.agg #[.int .i64 0, .slice none 0 0, .string .empty, .int .i64 0, .slice none 0 0, .int .i64 0, .int .i64 0, .int .i64 0, .slice none 0 0, .slice none 0 0, .int .i64 0, .int .i64 0, .int .i64 0, .slice none 0 0, .slice none 0 0, .slice none 0 0], .slice none 0 0, .slice none 0 0]
open Go.PL in
set_option maxRecDepth 100000 in
theorem joinTells_lift (hF : ∀ (a0 : GNode) (a1 : List (List Int)) (a2 : List GAct), PL.okGNode a0 → PL.okL 24 (PL.okL 8 PL.inI64) a1 → PL.okL 40 PL.okGAct a2 → PL.G4 a0 a1 a2 = some true) (os : Os) (started : os.Started) (H : Type) (enc : TypeId × Value → H) (F : Stop.Interp) :
  ReturnsInHanded {} Tryz.checked os 4 .any ((Rows.OpenSpec.upto Rows.joinTellsSpec).preRow enc Tryz.prog Tryz.f4 Rows.joinTellsUptoRow.domain false Rows.joinTellsUptoRow.laid) (((Rows.OpenSpec.upto Rows.joinTellsSpec).at F).post enc Tryz.prog Tryz.f4 false true false false) := by
 refine returnsInHanded_of_row (C := Tryz.checked) (s := Rows.OpenSpec.upto Rows.joinTellsSpec) own started (by kernel_rfl) Tryz.func4
  (witness_row_at (enc := enc) (C := Tryz.checked) false (laidWorld os) args4 rfl (by kernel_rfl) (by kernel_rfl) (by kernel_rfl)
   (OpenSpec.preRow_of_cond 8 (x := Option.get (DataW.whole enc Tryz.prog ((laidWorld os).forCall (fun _ _ => 0) ⟨#[], args4, []⟩).memory Tryz.f4.params.toList (Rows.OpenSpec.upto Rows.joinTellsSpec).vars false args4.toList 8) (by kernel_rfl)) (Option.some_get _).symm (by kernel_rfl) (fun k hk => by cases hk; kernel_rfl) (by kernel_rfl) (laid_met os _))) ?_
 intro W base args ds gs before hval0 hW _ hcond _ hL _ _
 have hsz := hcond _ rfl
 have hval : ∀ (j : Nat) t v, Tryz.f4.params[j]? = some t → args[j]? = some v → Value.okWide Tryz.prog W .any base t v := hval0
 have hW' : DataW.Whole enc Tryz.prog Tryz.f4.params.toList Rows.joinTellsSpec.vars false W args.toList ds gs before := hW
 obtain ⟨p, q, hA0, hV, rfl, _⟩ := hW
 have hA : DataW.TrodAll enc Tryz.prog W 0 (fun _ => true) true Tryz.f4.params.toList args.toList ds p := hA0
 rw [Tryz.params4] at hA hval
 obtain ⟨v0, vs0, d0, ds0, p0, q0, hl0, rfl, rfl, h0, r0⟩ := Go.ChangeShapes.trodAll_cons hA
 obtain ⟨v1, vs1, d1, ds1, p1, q1, hl1, rfl, rfl, h1, r1⟩ := Go.ChangeShapes.trodAll_cons r0
 obtain ⟨v2, vs2, d2, ds2, p2, q2, hl2, rfl, rfl, h2, r2⟩ := Go.ChangeShapes.trodAll_cons r1
 obtain ⟨hl3, rfl, rfl⟩ := Go.ChangeShapes.trodAll_nil r2
 subst hl3
 subst hl2
 subst hl1
 obtain rfl : args = #[v0, v1, v2] := by cases args; simp_all
 obtain ⟨rfl, rfl⟩ := Go.ChangeShapes.trodVars_none hV
 have hwt : Rows.uptoBulkAll [d0, d1, d2] ≤ 1048576 := by
  have := of_decide_eq_true hsz
  simpa using this
 simp only [Rows.uptoBulkAll] at hwt
 obtain ⟨x0, hx0, ok0⟩ := arg_struct (c := cGNode) Tryz.underlying28 (fun fuel => o28 fuel) (hval 0 28 v0 rfl rfl) h0 (by omega)
 obtain ⟨x1, hx1, ok1⟩ := arg_slice (c := fun xs => eL cL_cInt xs) Tryz.underlying29 (fun fuel => o29 fuel) (hval 1 29 v1 rfl rfl) h1 (by omega)
 obtain ⟨x2, hx2, ok2⟩ := arg_slice (c := fun xs => eL cGAct xs) Tryz.underlying30 (fun fuel => o30 fuel) (hval 2 30 v2 rfl rfl) h2 (by omega)
 have hn := hF x0 x1 x2 ok0 ok1 ok2
 refine (PCall.law ((G4_ok x0 x1 x2).h true hn) (W := W) (vs := #[v0, v1, v2]) rfl (fun j x v hj hv => ?_) (glp hL)).mono fun e W' ⟨he, hb⟩ => ?_
 ·match j, hj, hv with
  | 0, hj, hv => cases hj; cases hv; exact .t hx0
  | 1, hj, hv => cases hj; cases hv; exact .t hx1
  | 2, hj, hv => cases hj; cases hv; exact .t hx2
  | j + 3, hj, hv => simp at hj
 ·subst he
  exact ⟨_, rfl, law_post (by kernel_rfl) rfl hW' hb (tb := 4) (by kernel_rfl) Tryz.underlying4 (fun t ht => by rw [Tryz.params4] at ht; simp at ht; rcases ht with rfl | rfl | rfl <;> exact ⟨by kernel_rfl, of_decide_eq_true (by kernel_rfl)⟩) rfl⟩
open Go.PL in
theorem joinTells_row (hF : ∀ (a0 : GNode) (a1 : List (List Int)) (a2 : List GAct), PL.okGNode a0 → PL.okL 24 (PL.okL 8 PL.inI64) a1 → PL.okL 40 PL.okGAct a2 → PL.G4 a0 a1 a2 = some true) : Rows.JoinTellsUptoSaid :=
 OpenClaim.holds_of_cond 4 Tryz.f4 rfl rfl rfl rfl rfl rfl rfl ⟨rfl, rfl, rfl, rfl, rfl⟩ rfl rfl rfl rfl rfl (by kernel_rfl) Tryz.func4 (by kernel_rfl) (of_decide_eq_true (by kernel_rfl)) (by unfold Func.isWrapper; first | (rw [if_pos (by decide +kernel)]; kernel_rfl) | (rw [if_neg (by decide +kernel)]; exact ⟨rfl, rfl⟩))
  (fun os started H enc _ F => by rw [OpenClaim.pre_eq_preRow]; exact joinTells_lift hF os started H enc F)
theorem joinTells_plain (f : FuncId) (fn : Func) (hf : Tryz.pinned.checked.prog.funcNamed "errata/erratalaw32.JoinTells" = some f) (hfn : Tryz.pinned.checked.prog.funcs[f]? = some fn) :
  true = Tryz.pinned.checked.prog.looks [] ∧ ∀ (j : Nat) t, fn.params[j]? = some t → Tryz.pinned.checked.prog.wantsStandIn t = false := by
 obtain rfl : f = 4 := Option.some.inj ((show Tryz.prog.funcNamed "errata/erratalaw32.JoinTells" = some 4 by kernel_rfl).symm.trans hf) |>.symm
 obtain rfl : fn = Tryz.f4 := (Option.some.inj (Tryz.func4.symm.trans hfn)).symm
 refine ⟨by kernel_rfl, fun j t ht => ?_⟩
 rw [Tryz.params4] at ht
 have hm := Array.mem_of_getElem? ht
 simp at hm
 rcases hm with rfl | rfl | rfl
 ·exact (show Tryz.prog.wantsStandIn 28 = false by kernel_rfl)
 ·exact (show Tryz.prog.wantsStandIn 29 = false by kernel_rfl)
 ·exact (show Tryz.prog.wantsStandIn 30 = false by kernel_rfl)
open Go.PL in
theorem joinTells_card (hF : ∀ (a0 : GNode) (a1 : List (List Int)) (a2 : List GAct), PL.okGNode a0 → PL.okL 24 (PL.okL 8 PL.inI64) a1 → PL.okL 40 PL.okGAct a2 → PL.G4 a0 a1 a2 = some true) : Rows.JoinTellsUptoCardSaid :=
 Claim7.holds_tied_plain_at .later [] _ _ _ _ (joinTells_row hF) (fun _ h => by cases h) (by kernel_rfl) (fun _ h => by cases h) joinTellsUpto_row_tie rfl ⟨rfl, rfl⟩ (by kernel_rfl) rfl joinTells_plain (by kernel_rfl)
end Go.Proofs.YtleighbgfdocfaaGreatDoor
namespace Go.Proofs.YtleighbgfdocfaaGreatDoor
theorem joinTells_holds : Rows.JoinTellsUptoCardSaid := joinTells_card fun n t a h1 h2 h3 => PL.G4_true n t a h1 h2 h3
#print axioms joinTells_holds
end Go.Proofs.YtleighbgfdocfaaGreatDoor
