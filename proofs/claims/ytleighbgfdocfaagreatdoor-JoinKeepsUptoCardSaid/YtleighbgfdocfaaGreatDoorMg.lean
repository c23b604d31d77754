/-
  JoinKeeps: for all arguments of bulk at most 1048576 the law returns true and leaves its arguments as they were; the listed tables are tied to the program's text. Own work.
  Parts ahead of it: From the reading of arguments to plain data; the frame of a law's row. Own work. What reads as data of the argument types reads as plain data of ours. Printed by a program of our own. Plain law: what is right and small. Own work. Plain law: which nodes and acts are right. Own work. Plain law: which acts fit. Own work. Plain law: what an operator keeps. Own work. Plain law: JoinKeeps. Own work. Plain law: the example of the documentation. Own work. Plain law: JoinKeeps gives true, for all arguments. Own work. The row of JoinKeeps from what its function gives, and its card. Own work.
-/
import Derived.Test.YtleighbgfdocfaaGreatDoorMf
import Derived.Test.YtleighbgfdocfaaGreatDoorRows
import Derived.JoinedCond
import Derived.ProofKit
import Derived.OpenShut
import Derived.Carry
import Derived.DataReads
import Derived.ChangeAnyMap
import Derived.KernelRfl
import Derived.Test.YtleighbgfdocfaaGreatDoorCards
import Derived.Test.YtleighbgfdocfaaGreatDoorTie
import Derived.SizedLaws
import Derived.Deep.DeepHandedRow
import Derived.Lib.LaidTab
namespace Go.PL
open Go Go.RowKit
open Go.Proofs.YtleighbgfdocfaaGreatDoor.Rows (uptoBulk uptoBulkAll)

def RdL (F : Nat → Prop) (W : World) (l : List T) (cs : List Value) : Prop := cs.length = l.length ∧ ∀ (j : Nat) x v, l[j]? = some x → cs[j]? = some v → Rd F W x v

theorem RdL.append {F : Nat → Prop} {W : World} {l l' : List T} {cs cs' : List Value} (h : RdL F W l cs) (h' : RdL F W l' cs') : RdL F W (l ++ l') (cs ++ cs') := by
  refine ⟨by simp [h.1, h'.1], fun j x v hx hv => ?_⟩
  by_cases hj : j < l.length
  · rw [List.getElem?_append_left hj] at hx
    rw [List.getElem?_append_left (by rw [h.1]; exact hj)] at hv
    exact h.2 j x v hx hv
  · rw [List.getElem?_append_right (by omega)] at hx
    rw [List.getElem?_append_right (by rw [h.1]; omega), h.1] at hv
    exact h'.2 _ x v hx hv

def inI64 (n : Int) : Prop := -9223372036854775808 ≤ n ∧ n ≤ 9223372036854775807

section
variable {H : Type} {enc : TypeId × Value → H} {P : Program} {W : World}

/-- what reads as a datum of the type reads as plain data of ours, of modest size -/
def Opens (enc : TypeId × Value → H) (P : Program) (W : World) (t : TypeId) {X : Type} (c : X → List T) (ok : X → Prop) (fuel : Nat) : Prop :=
  ∀ cs d ps, DataW.trod enc P W 0 (fun _ => true) true fuel t cs = some (d, ps) → uptoBulk d ≤ 1048576 → ∃ x, RdL (fun b => b < W.heap.size) W (c x) cs ∧ ok x

theorem opens_zero {t : TypeId} {X : Type} {c : X → List T} {ok : X → Prop} : Opens enc P W t c ok 0 := fun cs d ps h => by simp [DataW.trod] at h

theorem RdL.one {F : Nat → Prop} {W : World} {x : T} {v : Value} (h : Rd F W x v) : RdL F W [x] [v] := by
  refine ⟨rfl, fun j y u hy hu => ?_⟩
  cases j with
  | zero => simp at hy hu; subst hy; subst hu; exact h
  | succ j => simp at hy

theorem opens_int {t : TypeId} (ht : P.underlying t = some (.int .i64)) (fuel : Nat) : Opens enc P W t cInt inI64 fuel := by
  cases fuel with
  | zero => exact opens_zero
  | succ fuel =>
    intro cs d ps h _
    unfold DataW.trod at h
    rw [ht] at h
    split at h <;> try (simp_all; done)
    rename_i k k' n hk
    split at h
    · rename_i hk2
      cases hk
      obtain ⟨rfl, hwf⟩ := hk2
      refine ⟨n, RdL.one (.int _ _), ?_⟩
      simp [Lit.wf, IntKind.min, IntKind.max, IntKind.signed, IntKind.bits] at hwf
      exact ⟨by omega, by omega⟩
    · cases h

def okStr (s : ByteArray) : Prop := s.size ≤ 1048576
theorem opens_string {t : TypeId} (ht : P.underlying t = some .string) (fuel : Nat) : Opens enc P W t cStr okStr fuel := by
  cases fuel with
  | zero => exact opens_zero
  | succ fuel =>
    intro cs d ps h hw
    unfold DataW.trod at h
    rw [ht] at h
    split at h <;> try (simp_all; done)
    rename_i s hk
    split at h
    · cases h
      refine ⟨s, RdL.one (.str _), ?_⟩
      have : s.data.toList.length + 1 ≤ 1048576 := hw
      have : s.size = s.data.toList.length := rfl
      unfold okStr
      omega
    · cases h

theorem mapM_get {α β : Type} {f : α → Option β} : ∀ {l : List α} {r : List β}, l.mapM f = some r → r.length = l.length ∧ ∀ (i : Nat) a b, l[i]? = some a → r[i]? = some b → f a = some b
  | [], r, h => by simp at h; subst h; simp
  | x :: l, r, h => by
    rw [List.mapM_cons] at h
    simp only [Option.bind_eq_bind, Option.bind_eq_some_iff] at h
    obtain ⟨y, hy, ys, hys, hr⟩ := h
    simp at hr; subst hr
    obtain ⟨h1, h2⟩ := mapM_get hys
    refine ⟨by simp [h1], fun i a b ha hb => ?_⟩
    cases i with
    | zero => simp at ha hb; subst ha; subst hb; exact hy
    | succ i => exact h2 i a b (by simpa using ha) (by simpa using hb)

theorem uptoBulk_pos : ∀ d : DataW H, 1 ≤ uptoBulk d
  | .lit l => by unfold uptoBulk; split <;> omega
  | .nil => by simp [uptoBulk]
  | .ptr d => by simp [uptoBulk]
  | .slice e s => by simp [uptoBulk]
  | .agg p => by simp [uptoBulk]
  | .iface t d => by simp [uptoBulk]
  | .map e => by simp [uptoBulk]
  | .held h => by simp [uptoBulk]
theorem bulkAll_len : ∀ l : List (DataW H), l.length ≤ uptoBulkAll l
  | [] => by simp
  | d :: l => by simp only [uptoBulkAll, List.length_cons]; have := uptoBulk_pos d; have := bulkAll_len l; omega
theorem bulkAll_mem : ∀ {l : List (DataW H)} {d : DataW H}, d ∈ l → uptoBulk d ≤ uptoBulkAll l
  | x :: l, d, h => by
    simp only [uptoBulkAll]
    rcases List.mem_cons.1 h with rfl | h
    · omega
    · have := bulkAll_mem h; omega

/-- the bytes of an element are told, but not needed -/
def okL {X : Type} (_b : Nat) (ok : X → Prop) (xs : List X) : Prop := xs.length ≤ 1048576 ∧ ∀ x, x ∈ xs → ok x

theorem opens_slice {t e b : Nat} (ht : P.underlying t = some (.slice e)) (hn : Nat.blt 0 (P.cellsOf e) = true) (hb : P.bytesOf e = b) {X : Type} [Inhabited X] {c : X → List T} {ok : X → Prop} {fuel : Nat} (he : Opens enc P W e c ok fuel) (mk : List X → T)
    (hmk : ∀ xs, (mk xs).view = some (xs.length, fun i => c (xs.getD i default))) : Opens enc P W t (fun xs => [mk xs]) (okL b ok) (fuel + 1) := by
  have hz : 0 < P.cellsOf e := by simpa [Nat.blt_eq] using hn
  clear hn
  subst hb
  intro cs d ps h hw
  unfold DataW.trod at h
  rw [ht] at h
  split at h <;> try (simp_all; done)
  · -- nil
    rename_i hk
    cases hk
    refine ⟨[], RdL.one (.nil (hmk [])), by simp, by simp⟩
  · rename_i e' a len cap hk
    cases hk
    simp only at h
    split at h
    · rename_i hcap
      simp only [Option.bind_eq_some_iff, Option.map_eq_some_iff] at h
      obtain ⟨elems, hel, rest, hrest, hd⟩ := h
      simp only [Prod.mk.injEq] at hd
      obtain ⟨rfl, rfl⟩ := hd
      obtain ⟨hlen, hget⟩ := mapM_get hel
      simp only [List.length_range] at hlen
      have hwt : uptoBulkAll (elems.map (·.1)) ≤ 1048576 := by
        have hw2 : uptoBulkAll (elems.map (·.1)) + uptoBulkAll (rest.map (·.1)) + 1 ≤ 1048576 := hw
        omega
      have hl : len ≤ 1048576 := by
        have := bulkAll_len (elems.map (·.1))
        simp only [List.length_map, hlen] at this
        omega
      -- element by element
      have each : ∀ i, i < len → ∃ x vs, W.cells? 0 (a.add (i * P.cellsOf e)) (P.cellsOf e) = some vs ∧ RdL (fun b => b < W.heap.size) W (c x) vs ∧ ok x := by
        intro i hi
        have hi' : i < elems.length := by omega
        have := hget i i elems[i] (by simp [hi]) (by simp [hi'])
        simp only [Option.bind_eq_some_iff] at this
        obtain ⟨vs, hvs, htr⟩ := this
        obtain ⟨x, h1, h2⟩ := he vs elems[i].1 elems[i].2 htr (Nat.le_trans (bulkAll_mem (List.mem_map_of_mem (List.getElem_mem hi'))) hwt)
        exact ⟨x, vs, hvs, h1, h2⟩
      have all : ∃ xs : List X, xs.length = len ∧ ∀ i, i < len → ∃ vs, W.cells? 0 (a.add (i * P.cellsOf e)) (P.cellsOf e) = some vs ∧ RdL (fun b => b < W.heap.size) W (c (xs.getD i default)) vs ∧ ok (xs.getD i default) := by
        clear hel hrest hget hw hwt hl hlen hcap
        induction len with
        | zero => exact ⟨[], rfl, fun i hi => absurd hi (Nat.not_lt_zero _)⟩
        | succ len ih =>
          obtain ⟨xs, h1, h2⟩ := ih fun i hi => each i (by omega)
          obtain ⟨x, vs, h3, h4, h5⟩ := each len (by omega)
          refine ⟨xs ++ [x], by simp [h1], fun i hi => ?_⟩
          by_cases hil : i < len
          · have : (xs ++ [x]).getD i default = xs.getD i default := by simp [List.getD_eq_getElem?_getD, List.getElem?_append_left (show i < xs.length by omega)]
            rw [this]; exact h2 i hil
          · have hil : i = len := by omega
            subst hil
            have : (xs ++ [x]).getD i default = x := by simp [List.getD_eq_getElem?_getD, ← h1]
            rw [this]; exact ⟨vs, h3, h4, h5⟩
      obtain ⟨xs, hxl, hxs⟩ := all
      refine ⟨xs, RdL.one ?_, by rw [hxl]; exact hl, fun x hx => ?_⟩
      · have hsz : ∀ i, i < len → (c (xs.getD i default)).length = P.cellsOf e := by
          intro i hi
          obtain ⟨vs, h1, h2, _⟩ := hxs i hi
          rw [← h2.1]
          unfold World.cells? at h1
          rw [if_pos (Nat.zero_le _)] at h1
          have := (mapM_get h1).1; simpa using this
        have hcell : ∀ i j, i < len → j < P.cellsOf e → ∃ u, W.cell? (a.add (i * P.cellsOf e + j)) = some u ∧ ∀ x, (c (xs.getD i default))[j]? = some x → Rd (fun b => b < W.heap.size) W x u := by
          intro i j hi hj
          obtain ⟨vs, h1, h2, _⟩ := hxs i hi
          unfold World.cells? at h1
          rw [if_pos (Nat.zero_le _)] at h1
          obtain ⟨h3, h4⟩ := mapM_get h1
          simp only [List.length_range] at h3
          have := h4 j j vs[j] (by simp [hj]) (by simp [h3, hj])
          rw [Addr.add_add] at this
          exact ⟨vs[j], this, fun x hx => h2.2 j x vs[j] hx (by simp [h3, hj])⟩
        let vsf : Nat → Nat → Value := fun i j => (W.cell? (a.add (i * P.cellsOf e + j))).getD undef
        refine .sl a cap (P.cellsOf e) vsf (n := len) (f := fun i => c (xs.getD i default)) (by rw [hmk, hxl]) hcap.2.1 (fun hn => ?_) hsz (fun i j hi hj => ?_) (fun i j x hi hx => ?_)
        · obtain ⟨u, hu, _⟩ := hcell 0 0 hn hz
          have hb := World.block_lt_of_cell? W _ hu
          have : (a.add (0 * P.cellsOf e + 0)).block = a.block := by unfold Addr.add; split <;> rfl
          rw [this] at hb
          exact hb
        · obtain ⟨u, hu, _⟩ := hcell i j hi hj
          simp [vsf, hu]
        · have hj : j < P.cellsOf e := by rw [← hsz i hi]; exact (List.getElem?_eq_some_iff.1 hx).1
          obtain ⟨u, hu, hr⟩ := hcell i j hi hj
          simp only [vsf, hu, Option.getD_some]
          exact hr x hx
      · obtain ⟨i, hi, rfl⟩ := List.getElem_of_mem hx
        obtain ⟨_, _, _, h⟩ := hxs i (by omega)
        simpa [List.getD_eq_getElem?_getD, hi] using h
    · cases h

/-- the fields of a struct, from an offset on -/
def OpensF (enc : TypeId × Value → H) (P : Program) (W : World) (off : Nat) (fs : List Field) {X : Type} (c : X → List T) (ok : X → Prop) (fuel : Nat) : Prop :=
  ∀ (cs : List Value) xs, fs.mapM (fun f => DataW.trod enc P W 0 (fun _ => true) true fuel f.type ((cs.drop f.offset).take (P.cellsOf f.type))) = some xs →
    uptoBulkAll (xs.map (·.1)) ≤ 1048576 → cs.length = off + (fs.map fun f => P.cellsOf f.type).sum → ∃ x, RdL (fun b => b < W.heap.size) W (c x) (cs.drop off) ∧ ok x

theorem opensF_nil {off fuel : Nat} : OpensF enc P W off [] (fun (_ : Unit) => []) (fun _ => True) fuel := by
  intro cs xs _ _ hl
  simp at hl
  exact ⟨(), ⟨by simp [hl], by simp⟩, trivial⟩

theorem opensF_cons {off fuel : Nat} {f : Field} {fs : List Field} {X Y : Type} {c : X → List T} {c' : Y → List T} {ok : X → Prop} {ok' : Y → Prop} (ho : f.offset = off) (h : Opens enc P W f.type c ok fuel)
    (h' : OpensF enc P W (off + P.cellsOf f.type) fs c' ok' fuel) : OpensF enc P W off (f :: fs) (fun (x : X × Y) => c x.1 ++ c' x.2) (fun x => ok x.1 ∧ ok' x.2) fuel := by
  intro cs xs hx hw hl
  rw [List.mapM_cons] at hx
  simp only [Option.bind_eq_bind, Option.bind_eq_some_iff] at hx
  obtain ⟨y, hy, ys, hys, hr⟩ := hx
  simp at hr; subst hr
  simp only [List.map_cons, uptoBulkAll] at hw
  obtain ⟨x, h1, h2⟩ := h _ _ _ hy (by omega)
  simp only [List.map_cons, List.sum_cons] at hl
  obtain ⟨x', h3, h4⟩ := h' cs ys hys (by omega) (by omega)
  refine ⟨(x, x'), ?_, h2, h4⟩
  have : cs.drop off = (cs.drop f.offset).take (P.cellsOf f.type) ++ cs.drop (off + P.cellsOf f.type) := by
    rw [ho, ← List.drop_drop, List.take_append_drop]
  rw [this]
  exact h1.append h3

theorem opens_struct {t : TypeId} {fs : Array Field} (ht : P.underlying t = some (.struct fs)) {X : Type} {c : X → List T} {ok : X → Prop} {fuel : Nat} (h : OpensF enc P W 0 fs.toList c ok fuel)
    (hs : P.cellsOf t = (fs.toList.map fun f => P.cellsOf f.type).sum) : Opens enc P W t c ok (fuel + 1) := by
  intro cs d ps hd hw
  unfold DataW.trod at hd
  rw [ht] at hd
  split at hd <;> try (simp_all; done)
  rename_i cs0 _ _ fs' hk
  cases hk
  split at hd
  · rename_i hl
    simp only [Option.map_eq_some_iff] at hd
    obtain ⟨xs, hxs, hd⟩ := hd
    simp only [Prod.mk.injEq] at hd
    obtain ⟨rfl, _⟩ := hd
    have hw2 : uptoBulkAll (xs.map (·.1)) + 1 ≤ 1048576 := hw
    have := h _ xs hxs (by omega) (by rw [hl, hs]; simp)
    simpa using this
  · cases hd

theorem Opens.map {t : TypeId} {X Y : Type} {c : X → List T} {ok : X → Prop} {c' : Y → List T} {ok' : Y → Prop} {fuel : Nat} (h : Opens enc P W t c ok fuel) (g : X → Y) (hc : ∀ x, c' (g x) = c x) (ho : ∀ x, ok x → ok' (g x)) :
    Opens enc P W t c' ok' fuel := by
  intro cs d ps hd hw
  obtain ⟨x, h1, h2⟩ := h cs d ps hd hw
  exact ⟨g x, by rw [hc]; exact h1, ho x h2⟩

end

theorem RdL.agg {F : Nat → Prop} {W : World} {l : List T} {v : Value} (h : RdL F W l v.cells.toList) (hv : ∃ vs, v = .agg vs) : Rd F W (.agg l) v := by
  obtain ⟨vs, rfl⟩ := hv
  simp only [Value.cells] at h
  exact .agg (by simpa using h.1) fun j x v hx hv => h.2 j x v hx (by simpa using hv)

section
variable {H : Type} {enc : TypeId × Value → H} {P : Program} {W : World} {r : Reach} {base : Nat}
theorem arg_struct {t : TypeId} {fs : Array Field} (ht : P.underlying t = some (.struct fs)) {X : Type} {c : X → List T} {ok : X → Prop} (hO : ∀ fuel, Opens enc P W t c ok fuel) {v : Value} {d : DataW H} {ps : List MemPlace}
    (hv : Value.okWide P W r base t v) (h : DataW.Trod enc P W 0 (fun _ => true) true t v d ps) (hw : uptoBulk d ≤ 1048576) : ∃ x, Rd (fun b => b < W.heap.size) W (.agg (c x)) v ∧ ok x := by
  obtain ⟨cs, rfl, _⟩ := Go.WideShapes.okWide_struct ht hv
  obtain ⟨fuel, hf⟩ := h
  obtain ⟨x, h1, h2⟩ := hO fuel _ _ _ hf hw
  exact ⟨x, h1.agg ⟨cs, rfl⟩, h2⟩
theorem arg_one {t : TypeId} {X : Type} {c : X → T} {ok : X → Prop} (hO : ∀ fuel, Opens enc P W t (fun x => [c x]) ok fuel) {v : Value} {d : DataW H} {ps : List MemPlace}
    (hv : v.cells = #[v]) (h : DataW.Trod enc P W 0 (fun _ => true) true t v d ps) (hw : uptoBulk d ≤ 1048576) : ∃ x, Rd (fun b => b < W.heap.size) W (c x) v ∧ ok x := by
  obtain ⟨fuel, hf⟩ := h
  obtain ⟨x, h1, h2⟩ := hO fuel _ _ _ hf hw
  exact ⟨x, h1.2 0 _ _ (by simp) (by simp [hv]), h2⟩
theorem arg_int {t : TypeId} (ht : P.underlying t = some (.int .i64)) {v : Value} {d : DataW H} {ps : List MemPlace}
    (hv : Value.okWide P W r base t v) (h : DataW.Trod enc P W 0 (fun _ => true) true t v d ps) (hw : uptoBulk d ≤ 1048576) : ∃ x, Rd (fun b => b < W.heap.size) W (.int .i64 x) v ∧ inI64 x := by
  obtain ⟨n, rfl⟩ := Go.WideShapes.okWide_int ht hv
  exact arg_one (c := fun x => .int .i64 x) (opens_int ht) rfl h hw
theorem arg_string {t : TypeId} (ht : P.underlying t = some .string) {v : Value} {d : DataW H} {ps : List MemPlace}
    (hv : Value.okWide P W r base t v) (h : DataW.Trod enc P W 0 (fun _ => true) true t v d ps) (hw : uptoBulk d ≤ 1048576) : ∃ x, Rd (fun b => b < W.heap.size) W (.str x) v ∧ okStr x := by
  obtain ⟨n, rfl⟩ := Go.WideShapes.okWide_string ht hv
  exact arg_one (c := fun x => .str x) (opens_string ht) rfl h hw
theorem arg_slice {t e : TypeId} (ht : P.underlying t = some (.slice e)) {X : Type} {c : X → T} {ok : X → Prop} (hO : ∀ fuel, Opens enc P W t (fun x => [c x]) ok fuel) {v : Value} {d : DataW H} {ps : List MemPlace}
    (hv : Value.okWide P W r base t v) (h : DataW.Trod enc P W 0 (fun _ => true) true t v d ps) (hw : uptoBulk d ≤ 1048576) : ∃ x, Rd (fun b => b < W.heap.size) W (c x) v ∧ ok x := by
  obtain ⟨a, l, q, rfl⟩ := Go.WideShapes.okWide_slice ht hv
  exact arg_one hO rfl h hw
end

/-! ### the frame -/
theorem kept_of_below {W W' : World} (h : Below W.heap.size W W') (may : MemPlace → Prop) : W.keptBut W' may := by
  refine ⟨h.os, h.output, fun i hi => ?_⟩
  rw [h.block i hi]
  cases W.heap[i]? with
  | none => trivial
  | some o => cases o <;> simp

section
variable {H : Type} {enc : TypeId × Value → H} {P : Program}

theorem trodAll_below (hl : laidOutB P = true) {W W' : World} (hb : Below W.heap.size W W') : ∀ {ts : List TypeId} {vs : List Value} {ds : List (DataW H)} {ps : List MemPlace},
    (∀ t, t ∈ ts → P.readableRec t = true ∧ t < P.types.size) → DataW.TrodAll enc P W 0 (fun _ => true) true ts vs ds ps → (∀ x, x ∈ ps → x.block < W.heap.size) →
    DataW.TrodAll enc P W' 0 (fun b => decide (b < W.heap.size)) true ts vs ds ps
  | [], [], [], ps, _, h, _ => h
  | t :: ts, v :: vs, d :: ds, ps, hr, h, hp => by
    obtain ⟨p, q, h1, h2, rfl⟩ := h
    obtain ⟨r1, r2⟩ := hr t (by simp)
    exact ⟨p, q, Go.RowKit.Below.trod hl r1 r2 h1 hb (fun x hx => hp x (List.mem_append_left _ hx)), trodAll_below hl hb (fun t ht => hr t (List.mem_cons_of_mem _ ht)) h2 (fun x hx => hp x (List.mem_append_right _ hx)), rfl⟩
  | [], _ :: _, _, _, _, h, _ => by simp [DataW.TrodAll] at h
  | [], [], _ :: _, _, _, h, _ => by simp [DataW.TrodAll] at h
  | _ :: _, [], _, _, _, h, _ => by simp [DataW.TrodAll] at h
  | _ :: _, _ :: _, [], _, _, h, _ => by simp [DataW.TrodAll] at h

/-- a law's post: true, and all as it was -/
theorem law_post (hlay : laidOutB P = true) {f : Func} {s : ChangeSpec} {W W' : World} {args : Array Value} {ds gs : List (DataW H)} {before : List MemPlace} {tb : TypeId} (hvars : s.vars = [])
    (hW : DataW.Whole enc P f.params.toList s.vars false W args.toList ds gs before) (hb : Below W.heap.size W W') (hres : f.resultTypes = #[tb]) (htb : P.underlying tb = some .bool)
    (hread : ∀ t, t ∈ f.params.toList → P.readableRec t = true ∧ t < P.types.size) (hfn : s.fn H (ds ++ gs) = { results := [.lit (.bool true)], args := ds }) :
    s.post enc P f false true false false W args (.bool true) W' := by
  have hW' := hW
  obtain ⟨p, q, hA, hV, rfl, _⟩ := hW
  rw [hvars] at hV
  cases gs with
  | cons g gs => simp [DataW.TrodVars] at hV
  | nil =>
    simp only [DataW.TrodVars] at hV
    subst hV
    have hlt : ∀ x, x ∈ p → x.block < W.heap.size := fun x hx => by simpa using hW'.lt x (by simp [hx])
    refine ⟨ds, [], p ++ [], [], p, [], hW', ?_, ?_, ?_, kept_of_below hb _, fun h => by cases h⟩
    · rw [hfn, hres]
      exact ⟨[], [], ⟨1, by simp [DataW.trod, htb, Value.cells]⟩, rfl, rfl⟩
    · rw [hfn]
      exact trodAll_below hlay hb hread hA hlt
    · rw [hvars, hfn]; exact rfl

/-- what a contract of ours gives a law's row -/
theorem PCall.law {P : Program} {k : FuncId} {args : List PV} (h : PCall P k args [] [] (Ret (.t (.bool true)))) {W : World} {vs : Array Value} (hs : vs.size = args.length)
    (hv : ∀ (j : Nat) x v, args[j]? = some x → vs[j]? = some v → VR (fun b => b < W.heap.size) (fun _ => undef) W x v) (hg : GLP P (fun b => b < W.heap.size) W) :
    Calls P k vs W fun e W' => e = .returned (.bool true) ∧ Below W.heap.size W W' := by
  refine (h (fun b => b < W.heap.size) (fun _ => undef) W vs hs hv ⟨by simp, by simp, by simp⟩ (fun _ h => h) hg).mono ?_
  rintro e w' ⟨v, r, H', F', g', rfl, hr, hvr, hW⟩
  unfold Ret at hr
  subst hr
  have := hvr.inv_bool
  subst this
  exact ⟨rfl, ⟨hW.ext.os, hW.ext.tape, hW.ext.output, hW.ext.size, fun b hb => hW.ext.block b hb (by rintro ⟨o, x, hx, _⟩; simp at hx)⟩⟩
end

end Go.PL
namespace Go.PL
open Go Go.RowKit
set_option maxRecDepth 20000

theorem o22 {H : Type} {enc : TypeId × Value → H} {W : World} (fuel : Nat) : Opens enc Proofs.Tryz.prog W 22 (fun xs => [eL cInt (xs)]) (okL 8 inI64) fuel := by
  cases fuel with
  | zero => exact opens_zero
  | succ fuel => exact opens_slice Proofs.Tryz.underlying22 (by kernel_rfl) (by kernel_rfl) (opens_int Proofs.Tryz.underlying3 fuel) (fun xs => eL cInt (xs)) (fun _ => rfl)
inductive okExpr : Expr → Prop
  | mk0 {a b : Int} {s : ByteArray} {l : List Expr} (ha : inI64 a) (hb : inI64 b) (hs : okStr s) (hn : l.length ≤ 1048576) (hl : ∀ x, x ∈ l → okExpr x) : okExpr (.mk a b s l)
theorem okExpr.mk {a b : Int} {s : ByteArray} {l : List Expr} (ha : inI64 a) (hb : inI64 b) (hs : okStr s) (hl : okL 56 okExpr l) : okExpr (.mk a b s l) := .mk0 ha hb hs hl.1 hl.2
theorem oExpr {H : Type} {enc : TypeId × Value → H} {W : World} : ∀ fuel, Opens enc Proofs.Tryz.prog W 116 exprCells okExpr fuel ∧ Opens enc Proofs.Tryz.prog W 23 (fun xs => [.lz (.exprs xs)]) (okL 56 okExpr) fuel
  | 0 => ⟨opens_zero, opens_zero⟩
  | fuel + 1 => by
    have ih := oExpr (enc := enc) (W := W) fuel
    exact ⟨(opens_struct Proofs.Tryz.underlying116 (opensF_cons (by kernel_rfl) (opens_int Proofs.Tryz.underlying3 fuel) (opensF_cons (by kernel_rfl) (opens_int Proofs.Tryz.underlying3 fuel) (opensF_cons (by kernel_rfl) (opens_string Proofs.Tryz.underlying9 fuel) (opensF_cons (by kernel_rfl) ih.2 opensF_nil)))) (by kernel_rfl)).map (fun x => Expr.mk x.1 x.2.1 x.2.2.1 x.2.2.2.1) (fun _ => rfl) (fun x h => .mk h.1 h.2.1 h.2.2.1 h.2.2.2.1), opens_slice Proofs.Tryz.underlying23 (by kernel_rfl) (by kernel_rfl) ih.1 (fun xs => .lz (.exprs xs)) (fun _ => rfl)⟩
def okGAgg (x : GAgg) : Prop := inI64 x.Kind ∧ inI64 x.Col ∧ okStr x.Name
theorem o170 {H : Type} {enc : TypeId × Value → H} {W : World} (fuel : Nat) : Opens enc Proofs.Tryz.prog W 170 cGAgg okGAgg fuel := by
  cases fuel with
  | zero => exact opens_zero
  | succ fuel => exact (opens_struct Proofs.Tryz.underlying170 (opensF_cons (by kernel_rfl) (opens_int Proofs.Tryz.underlying3 fuel) (opensF_cons (by kernel_rfl) (opens_int Proofs.Tryz.underlying3 fuel) (opensF_cons (by kernel_rfl) (opens_string Proofs.Tryz.underlying9 fuel) opensF_nil))) (by kernel_rfl)).map (fun x => GAgg.mk x.1 x.2.1 x.2.2.1) (fun _ => rfl) (fun x h => ⟨h.1, h.2.1, h.2.2.1⟩)
theorem o24 {H : Type} {enc : TypeId × Value → H} {W : World} (fuel : Nat) : Opens enc Proofs.Tryz.prog W 24 (fun xs => [eL cGAgg (xs)]) (okL 32 okGAgg) fuel := by
  cases fuel with
  | zero => exact opens_zero
  | succ fuel => exact opens_slice Proofs.Tryz.underlying24 (by kernel_rfl) (by kernel_rfl) (o170 fuel) (fun xs => eL cGAgg (xs)) (fun _ => rfl)
def okGPat (x : GPat) : Prop := okExpr x.Pred ∧ inI64 x.Rep
theorem o121 {H : Type} {enc : TypeId × Value → H} {W : World} (fuel : Nat) : Opens enc Proofs.Tryz.prog W 121 cGPat okGPat fuel := by
  cases fuel with
  | zero => exact opens_zero
  | succ fuel => exact (opens_struct Proofs.Tryz.underlying121 (opensF_cons (by kernel_rfl) (oExpr fuel).1 (opensF_cons (by kernel_rfl) (opens_int Proofs.Tryz.underlying3 fuel) opensF_nil)) (by kernel_rfl)).map (fun x => GPat.mk x.1 x.2.1) (fun _ => rfl) (fun x h => ⟨h.1, h.2.1⟩)
theorem o25 {H : Type} {enc : TypeId × Value → H} {W : World} (fuel : Nat) : Opens enc Proofs.Tryz.prog W 25 (fun xs => [eL cGPat (xs)]) (okL 64 okGPat) fuel := by
  cases fuel with
  | zero => exact opens_zero
  | succ fuel => exact opens_slice Proofs.Tryz.underlying25 (by kernel_rfl) (by kernel_rfl) (o121 fuel) (fun xs => eL cGPat (xs)) (fun _ => rfl)
def okGCol (x : GCol) : Prop := okStr x.Name ∧ inI64 x.Type_ ∧ okStr x.Unit
theorem o261 {H : Type} {enc : TypeId × Value → H} {W : World} (fuel : Nat) : Opens enc Proofs.Tryz.prog W 261 cGCol okGCol fuel := by
  cases fuel with
  | zero => exact opens_zero
  | succ fuel => exact (opens_struct Proofs.Tryz.underlying261 (opensF_cons (by kernel_rfl) (opens_string Proofs.Tryz.underlying9 fuel) (opensF_cons (by kernel_rfl) (opens_int Proofs.Tryz.underlying3 fuel) (opensF_cons (by kernel_rfl) (opens_string Proofs.Tryz.underlying9 fuel) opensF_nil))) (by kernel_rfl)).map (fun x => GCol.mk x.1 x.2.1 x.2.2.1) (fun _ => rfl) (fun x h => ⟨h.1, h.2.1, h.2.2.1⟩)
theorem o26 {H : Type} {enc : TypeId × Value → H} {W : World} (fuel : Nat) : Opens enc Proofs.Tryz.prog W 26 (fun xs => [eL cGCol (xs)]) (okL 40 okGCol) fuel := by
  cases fuel with
  | zero => exact opens_zero
  | succ fuel => exact opens_slice Proofs.Tryz.underlying26 (by kernel_rfl) (by kernel_rfl) (o261 fuel) (fun xs => eL cGCol (xs)) (fun _ => rfl)
def okGNode (x : GNode) : Prop := inI64 x.Op ∧ okL 8 inI64 x.In ∧ okStr x.Source ∧ inI64 x.Schema ∧ okL 56 okExpr x.Exprs ∧ inI64 x.Kind ∧ inI64 x.Size ∧ inI64 x.Step ∧ okL 8 inI64 x.Key ∧ okL 8 inI64 x.Key2 ∧ inI64 x.Before ∧ inI64 x.After ∧ inI64 x.Keep ∧ okL 32 okGAgg x.Aggs ∧ okL 64 okGPat x.Seq ∧ okL 40 okGCol x.Cols
theorem o28 {H : Type} {enc : TypeId × Value → H} {W : World} (fuel : Nat) : Opens enc Proofs.Tryz.prog W 28 cGNode okGNode fuel := by
  cases fuel with
  | zero => exact opens_zero
  | succ fuel => exact (opens_struct Proofs.Tryz.underlying28 (opensF_cons (by kernel_rfl) (opens_int Proofs.Tryz.underlying3 fuel) (opensF_cons (by kernel_rfl) (o22 fuel) (opensF_cons (by kernel_rfl) (opens_string Proofs.Tryz.underlying9 fuel) (opensF_cons (by kernel_rfl) (opens_int Proofs.Tryz.underlying3 fuel) (opensF_cons (by kernel_rfl) (oExpr fuel).2 (opensF_cons (by kernel_rfl) (opens_int Proofs.Tryz.underlying3 fuel) (opensF_cons (by kernel_rfl) (opens_int Proofs.Tryz.underlying3 fuel) (opensF_cons (by kernel_rfl) (opens_int Proofs.Tryz.underlying3 fuel) (opensF_cons (by kernel_rfl) (o22 fuel) (opensF_cons (by kernel_rfl) (o22 fuel) (opensF_cons (by kernel_rfl) (opens_int Proofs.Tryz.underlying3 fuel) (opensF_cons (by kernel_rfl) (opens_int Proofs.Tryz.underlying3 fuel) (opensF_cons (by kernel_rfl) (opens_int Proofs.Tryz.underlying3 fuel) (opensF_cons (by kernel_rfl) (o24 fuel) (opensF_cons (by kernel_rfl) (o25 fuel) (opensF_cons (by kernel_rfl) (o26 fuel) opensF_nil)))))))))))))))) (by kernel_rfl)).map (fun x => GNode.mk x.1 x.2.1 x.2.2.1 x.2.2.2.1 x.2.2.2.2.1 x.2.2.2.2.2.1 x.2.2.2.2.2.2.1 x.2.2.2.2.2.2.2.1 x.2.2.2.2.2.2.2.2.1 x.2.2.2.2.2.2.2.2.2.1 x.2.2.2.2.2.2.2.2.2.2.1 x.2.2.2.2.2.2.2.2.2.2.2.1 x.2.2.2.2.2.2.2.2.2.2.2.2.1 x.2.2.2.2.2.2.2.2.2.2.2.2.2.1 x.2.2.2.2.2.2.2.2.2.2.2.2.2.2.1 x.2.2.2.2.2.2.2.2.2.2.2.2.2.2.2.1) (fun _ => rfl) (fun x h => ⟨h.1, h.2.1, h.2.2.1, h.2.2.2.1, h.2.2.2.2.1, h.2.2.2.2.2.1, h.2.2.2.2.2.2.1, h.2.2.2.2.2.2.2.1, h.2.2.2.2.2.2.2.2.1, h.2.2.2.2.2.2.2.2.2.1, h.2.2.2.2.2.2.2.2.2.2.1, h.2.2.2.2.2.2.2.2.2.2.2.1, h.2.2.2.2.2.2.2.2.2.2.2.2.1, h.2.2.2.2.2.2.2.2.2.2.2.2.2.1, h.2.2.2.2.2.2.2.2.2.2.2.2.2.2.1, h.2.2.2.2.2.2.2.2.2.2.2.2.2.2.2.1⟩)
theorem o29 {H : Type} {enc : TypeId × Value → H} {W : World} (fuel : Nat) : Opens enc Proofs.Tryz.prog W 29 (fun xs => [eL cL_cInt (xs)]) (okL 24 (okL 8 inI64)) fuel := by
  cases fuel with
  | zero => exact opens_zero
  | succ fuel => exact opens_slice Proofs.Tryz.underlying29 (by kernel_rfl) (by kernel_rfl) (o22 fuel) (fun xs => eL cL_cInt (xs)) (fun _ => rfl)
def okGValue (x : GValue) : Prop := inI64 x.Kind ∧ inI64 x.N ∧ okStr x.S
theorem o103 {H : Type} {enc : TypeId × Value → H} {W : World} (fuel : Nat) : Opens enc Proofs.Tryz.prog W 103 cGValue okGValue fuel := by
  cases fuel with
  | zero => exact opens_zero
  | succ fuel => exact (opens_struct Proofs.Tryz.underlying103 (opensF_cons (by kernel_rfl) (opens_int Proofs.Tryz.underlying3 fuel) (opensF_cons (by kernel_rfl) (opens_int Proofs.Tryz.underlying3 fuel) (opensF_cons (by kernel_rfl) (opens_string Proofs.Tryz.underlying9 fuel) opensF_nil))) (by kernel_rfl)).map (fun x => GValue.mk x.1 x.2.1 x.2.2.1) (fun _ => rfl) (fun x h => ⟨h.1, h.2.1, h.2.2.1⟩)
theorem o55 {H : Type} {enc : TypeId × Value → H} {W : World} (fuel : Nat) : Opens enc Proofs.Tryz.prog W 55 (fun xs => [eL cGValue (xs)]) (okL 32 okGValue) fuel := by
  cases fuel with
  | zero => exact opens_zero
  | succ fuel => exact opens_slice Proofs.Tryz.underlying55 (by kernel_rfl) (by kernel_rfl) (o103 fuel) (fun xs => eL cGValue (xs)) (fun _ => rfl)
def okGDelta (x : GDelta) : Prop := inI64 x.Time ∧ okL 32 okGValue x.Row ∧ inI64 x.N
theorem o57 {H : Type} {enc : TypeId × Value → H} {W : World} (fuel : Nat) : Opens enc Proofs.Tryz.prog W 57 cGDelta okGDelta fuel := by
  cases fuel with
  | zero => exact opens_zero
  | succ fuel => exact (opens_struct Proofs.Tryz.underlying57 (opensF_cons (by kernel_rfl) (opens_int Proofs.Tryz.underlying3 fuel) (opensF_cons (by kernel_rfl) (o55 fuel) (opensF_cons (by kernel_rfl) (opens_int Proofs.Tryz.underlying3 fuel) opensF_nil))) (by kernel_rfl)).map (fun x => GDelta.mk x.1 x.2.1 x.2.2.1) (fun _ => rfl) (fun x h => ⟨h.1, h.2.1, h.2.2.1⟩)
theorem o38 {H : Type} {enc : TypeId × Value → H} {W : World} (fuel : Nat) : Opens enc Proofs.Tryz.prog W 38 (fun xs => [eL cGDelta (xs)]) (okL 40 okGDelta) fuel := by
  cases fuel with
  | zero => exact opens_zero
  | succ fuel => exact opens_slice Proofs.Tryz.underlying38 (by kernel_rfl) (by kernel_rfl) (o57 fuel) (fun xs => eL cGDelta (xs)) (fun _ => rfl)
def okGAct (x : GAct) : Prop := inI64 x.Do ∧ inI64 x.C ∧ okL 40 okGDelta x.L
theorem o41 {H : Type} {enc : TypeId × Value → H} {W : World} (fuel : Nat) : Opens enc Proofs.Tryz.prog W 41 cGAct okGAct fuel := by
  cases fuel with
  | zero => exact opens_zero
  | succ fuel => exact (opens_struct Proofs.Tryz.underlying41 (opensF_cons (by kernel_rfl) (opens_int Proofs.Tryz.underlying3 fuel) (opensF_cons (by kernel_rfl) (opens_int Proofs.Tryz.underlying3 fuel) (opensF_cons (by kernel_rfl) (o38 fuel) opensF_nil))) (by kernel_rfl)).map (fun x => GAct.mk x.1 x.2.1 x.2.2.1) (fun _ => rfl) (fun x h => ⟨h.1, h.2.1, h.2.2.1⟩)
theorem o30 {H : Type} {enc : TypeId × Value → H} {W : World} (fuel : Nat) : Opens enc Proofs.Tryz.prog W 30 (fun xs => [eL cGAct (xs)]) (okL 40 okGAct) fuel := by
  cases fuel with
  | zero => exact opens_zero
  | succ fuel => exact opens_slice Proofs.Tryz.underlying30 (by kernel_rfl) (by kernel_rfl) (o41 fuel) (fun xs => eL cGAct (xs)) (fun _ => rfl)

end Go.PL
namespace Go.PL
open Go
set_option linter.unusedVariables false
set_option maxRecDepth 20000

/-- a loop that counts -/
theorem sq_count {S R : Type} {b : Bool} {bd : S → Option (S ⊕ R)} (idx : S → Int) (N : Nat) (hN : N ≤ 1000000000000000) (I : S → Prop) {Q : R → Prop}
    (h : ∀ s (k : Nat), I s → idx s = k → k ≤ N → Sq b (bd s) (sel (fun s' => idx s' = IntKind.i64.wrap ((k : Int) + 1) ∧ k < N ∧ I s') Q)) {s : S} (hs : I s) (h0 : idx s = 0) : Sq b (whileM bd s) Q := by
  refine Sq.while (fun s => I s ∧ ∃ k : Nat, idx s = k ∧ k ≤ N) (fun s => N - (idx s).toNat) (fun s hs => ?_) ⟨hs, 0, h0, by omega⟩
  obtain ⟨hI, k, hk, hkN⟩ := hs
  refine (h s k hI hk hkN).imp fun z hz => ?_
  cases z with
  | inr r => exact hz
  | inl s' =>
    obtain ⟨q1, q2, q3⟩ := hz
    rw [wrap_inc (by omega)] at q1
    exact ⟨⟨q3, k + 1, q1, by omega⟩, by rw [q1, hk]; omega⟩

theorem okExpr.len {e : Expr} (h : okExpr e) : e.Args.length ≤ 1048576 := by cases h; assumption
theorem okExpr.arg {e : Expr} (h : okExpr e) : ∀ x, x ∈ e.Args → okExpr x := by cases h; assumption
theorem sizeOf_arg {e x : Expr} (h : x ∈ e.Args) : SizeOf.sizeOf x < SizeOf.sizeOf e := by
  cases e with
  | mk a b s l =>
    have := List.sizeOf_lt_of_mem h
    simp only [Expr.Args] at this
    simp only [Expr.mk.sizeOf_spec]
    omega
theorem G79_sp (e : Expr) (h : okExpr e) : Sp (G79 e) (fun _ => True) := by
  refine fixF_sq (C := fun (a : Expr) (x : Option Int) => Con Proofs.Tryz.prog 79 [.t (eExpr a)] x (fun (y : Int) => .t (.int .i64 (y)))) (fun a => ⟨callable_of Proofs.Tryz.func79 (by kernel_rfl), fun _ h => nomatch h⟩) (fun rec a => T79 rec a) (fun rec a => T79_ok rec a)
    okExpr (fun e => SizeOf.sizeOf e) (fun _ _ => True) (fun b f e he hrec => ?_) true e h
  have hl := he.len
  unfold T79
  simp only [Tr.den, sq_bind]
  refine sq_count (fun s : Int × Int => s.2) e.Args.length (by omega) (fun _ => True) (fun s k _ hk hkN => ?_) trivial rfl
  obtain ⟨v1, v2⟩ := s
  simp only at hk
  subst hk
  unfold T79_L0
  simp only [Tr.den, Int.toNat_natCast]
  by_cases hc : k < e.Args.length
  · rw [if_pos (decT (by omega)), if_pos (by omega)]
    refine Sq.bind _ (hrec _ (he.arg _ (getD_mem hc)) (sizeOf_arg (getD_mem hc))) fun r _ => sq_some.2 ⟨rfl, hc, trivial⟩
  · rw [if_neg (decF (by omega))]
    exact sq_some.2 (sq_some.2 trivial)
theorem G80_sp (e : Expr) (h : okExpr e) : Sp (G80 e) (fun _ => True) := by
  refine fixF_sq (C := fun (a : Expr) (x : Option Int) => Con Proofs.Tryz.prog 80 [.t (eExpr a)] x (fun (y : Int) => .t (.int .i64 (y)))) (fun a => ⟨callable_of Proofs.Tryz.func80 (by kernel_rfl), fun _ h => nomatch h⟩) (fun rec a => T80 rec a) (fun rec a => T80_ok rec a)
    okExpr (fun e => SizeOf.sizeOf e) (fun _ _ => True) (fun b f e he hrec => ?_) true e h
  have hl := he.len
  unfold T80
  simp only [Tr.den, sq_bind]
  refine sq_count (fun s : Int × Int => s.2) e.Args.length (by omega) (fun _ => True) (fun s k _ hk hkN => ?_) trivial rfl
  obtain ⟨v1, v2⟩ := s
  simp only at hk
  subst hk
  unfold T80_L0
  simp only [Tr.den, Int.toNat_natCast]
  by_cases hc : k < e.Args.length
  · rw [if_pos (decT (by omega)), if_pos (by omega)]
    refine Sq.bind _ (hrec _ (he.arg _ (getD_mem hc)) (sizeOf_arg (getD_mem hc))) fun r _ => sq_some.2 ⟨rfl, hc, trivial⟩
  · rw [if_neg (decF (by omega))]
    exact sq_some.2 (sq_some.2 trivial)
theorem G150_sp (fs : List Int) (e : Expr) (hf : fs.length ≤ 1000000) (h : okExpr e) : Sp (G150 fs e) (fun _ => True) := by
  refine fixF_sq (C := fun (a : (List Int) × Expr) (x : Option Int) => Con Proofs.Tryz.prog 150 [.t (eL cInt (a.1)), .t (eExpr a.2)] x (fun (y : Int) => .t (.int .i64 (y)))) (fun a => ⟨callable_of Proofs.Tryz.func150 (by kernel_rfl), fun _ h => nomatch h⟩) (fun rec a => T150 rec a.1 a.2) (fun rec a => T150_ok rec a.1 a.2)
    (fun a => a.1.length ≤ 1000000 ∧ okExpr a.2) (fun a => SizeOf.sizeOf a.2) (fun _ _ => True) (fun b f a ha hrec => ?_) true (fs, e) ⟨hf, h⟩
  obtain ⟨fs, e⟩ := a
  obtain ⟨hf, he⟩ := ha
  simp only at hf he hrec ⊢
  have hl := he.len
  unfold T150
  simp only [Tr.den, sq_bind]
  refine sq_count (fun s : List Int × Int => s.2) e.Args.length (by omega) (fun s => s.1.length = s.2.toNat) (fun s k hI hk hkN => ?_) rfl rfl
  obtain ⟨v1, v2⟩ := s
  simp only at hk hI
  subst hk
  unfold T150_L0
  simp only [Tr.den, Int.toNat_natCast] at hI ⊢
  by_cases hc : k < e.Args.length
  · rw [if_pos (decT (by omega)), if_pos (by omega)]
    refine Sq.bind _ (hrec (fs, e.Args.getD k default) ⟨hf, he.arg _ (getD_mem hc)⟩ (sizeOf_arg (getD_mem hc))) fun r _ => ?_
    rw [if_pos (by simp only [List.length_cons, List.length_nil]; omega)]
    refine sq_some.2 ⟨rfl, hc, ?_⟩
    rw [wrap_inc (by omega)]; simp; omega
  · rw [if_neg (decF (by omega))]
    refine sq_some.2 ?_
    simp only [sel]
    have hv : v1.length = e.Args.length := by omega
    -- the second half
    have rest : Sq b ((whileM (fun s => (T150_L1 s).den) (1, v1, 0)).bind (sel (fun b10 => ((if (e.Op == 22) = true then (if decide (e.N ≥ 0) = true then some (decide (e.N < (fs.length : Int))) else some false) else some false)).bind fun j11 =>
        ((if j11 = true then (if 0 ≤ e.N ∧ e.N < (fs.length : Int) then some (if (1099511627776 : Int) < IntKind.i64.wrap (b10 + fs.getD e.N.toNat default) then (1099511627776 : Int) else IntKind.i64.wrap (b10 + fs.getD e.N.toNat default)) else none) else some b10)).bind fun j12 => some j12) some)) (fun _ => True) := by
      rw [sq_bind]
      refine sq_count (fun s : Int × List Int × Int => s.2.2) v1.length (by omega) (fun s => s.2.1 = v1) (fun s k hI hk hkN => ?_) rfl rfl
      obtain ⟨w1, w2, w3⟩ := s
      simp only at hk hI
      subst hk hI
      unfold T150_L1
      simp only [Tr.den, Int.toNat_natCast]
      by_cases hc : k < w2.length
      · rw [if_pos (decT (by omega)), if_pos (by omega), if_pos hc]
        exact sq_some.2 ⟨rfl, hc, rfl⟩
      · rw [if_neg (decF (by omega))]
        refine sq_some.2 ?_
        simp only [sel, dec_and]
        by_cases h22 : (e.Op == 22) = true
        · rw [if_pos h22]
          simp only [Option.bind_some]
          by_cases hr : e.N ≥ 0 ∧ e.N < (fs.length : Int)
          · rw [if_pos (decT hr), if_pos hr]; exact sq_some.2 trivial
          · rw [if_neg (decF hr)]; exact sq_some.2 trivial
        · rw [if_neg h22]; exact sq_some.2 trivial
    by_cases h21 : (e.Op == 21) = true
    · rw [if_pos h21]
      simp only [Option.bind_some]
      by_cases h3 : ((v1.length : Int) == 3) = true
      · rw [if_pos h3]
        have h3' : v1.length = 3 := by have := beq_iff_eq.1 h3; omega
        rw [if_pos (by omega), if_pos (by simp; omega), if_pos (by omega), if_pos (by simp; omega), if_pos (by omega), if_pos (by simp; omega)]
        exact sq_some.2 trivial
      · rw [if_neg h3]; exact rest
    · rw [if_neg h21]
      simp only [Option.bind_some, Bool.false_eq_true, if_false]
      exact rest
theorem G81_sp (e : Expr) (h : okExpr e) : Sp (G81 [] e) (fun _ => True) := by
  unfold G81 T81
  simp only [Tr.den]
  rw [whileM_stop (r := .inl []) (by unfold T81_L0; simp [Tr.den])]
  simp only [Option.bind_some, sel, sq_bind]
  exact (G150_sp [] e (by simp) h).imp fun _ _ => sq_some.2 trivial

/-! ### small -/
theorem okEs.get {l : List Expr} (h : okL 56 okExpr l) {k : Nat} (hk : k < l.length) : okExpr (l.getD k default) := h.2 _ (getD_mem hk)
theorem G33_sp (n : GNode) (h : okGNode n) : Sp (G33 [] n) (fun r => r = true → n.Key.length ≤ 20 ∧ n.Key2.length ≤ 20) := by
  obtain ⟨_, _, _, _, hE, _, _, _, _, _, _, _, _, _, hS, _⟩ := h
  have hE1 := hE.1
  have hS1 := hS.1
  unfold G33 T33
  simp only [Tr.den]
  rw [whileM_stop (r := .inl ()) (by unfold T33_L0; simp [Tr.den])]
  simp only [Option.bind_some, sel, sq_bind]
  refine sq_count (fun s : Int => s) n.Exprs.length (by omega) (fun _ => True) (fun s k _ hk hkN => ?_) trivial rfl
  subst hk
  unfold T33_L1
  simp only [Tr.den, Int.toNat_natCast, dec_and, Option.bind_some]
  by_cases hc : ((k : Int) < (n.Exprs.length : Int)) ∧ (k : Int) < 13
  · rw [if_pos (decT hc), if_pos (by omega)]
    have he := okEs.get hE (show k < n.Exprs.length by omega)
    refine Sq.bind _ (G79_sp _ he) fun r _ => ?_
    refine Sq.bind (fun _ => True) ?_ (fun j _ => ?_)
    · by_cases h1 : r > 200
      · rw [if_pos (decT h1)]; exact sq_some.2 trivial
      · rw [if_neg (decF h1), if_pos (by omega)]
        refine Sq.bind _ (G80_sp _ he) fun r _ => ?_
        by_cases h2 : r > 12
        · rw [if_pos (decT h2)]; exact sq_some.2 trivial
        · rw [if_neg (decF h2), if_pos (by omega)]
          refine Sq.bind _ (G81_sp _ he) fun r _ => sq_some.2 trivial
    · cases j with
      | true => exact sq_some.2 (sq_some.2 fun h => by cases h)
      | false => exact sq_some.2 ⟨rfl, by omega, trivial⟩
  · rw [if_neg (decF hc)]
    refine sq_some.2 ?_
    simp only [sel, sq_bind]
    refine sq_count (fun s : Int => s) n.Seq.length (by omega) (fun _ => True) (fun s k _ hk hkN => ?_) trivial rfl
    subst hk
    unfold T33_L2
    simp only [Tr.den, Int.toNat_natCast, dec_and, Option.bind_some]
    by_cases hc : ((k : Int) < (n.Seq.length : Int)) ∧ (k : Int) < 9
    · rw [if_pos (decT hc), if_pos (by omega)]
      have he : okExpr (n.Seq.getD k default).Pred := (hS.2 _ (getD_mem (show k < n.Seq.length by omega))).1
      refine Sq.bind _ (G79_sp _ he) fun r _ => ?_
      refine Sq.bind (fun _ => True) ?_ (fun j _ => ?_)
      · by_cases h1 : r > 200
        · rw [if_pos (decT h1)]; exact sq_some.2 trivial
        · rw [if_neg (decF h1), if_pos (by omega)]
          refine Sq.bind _ (G80_sp _ he) fun r _ => ?_
          by_cases h2 : r > 12
          · rw [if_pos (decT h2)]; exact sq_some.2 trivial
          · rw [if_neg (decF h2), if_pos (by omega)]
            refine Sq.bind _ (G81_sp _ he) fun r _ => sq_some.2 trivial
      · cases j with
        | true => exact sq_some.2 (sq_some.2 fun h => by cases h)
        | false => exact sq_some.2 ⟨rfl, by omega, trivial⟩
    · rw [if_neg (decF hc)]
      refine sq_some.2 ?_
      simp only [sel]
      refine sq_some.2 fun h => ?_
      have h := of_decide_eq_true h
      omega
end Go.PL
namespace Go.PL
open Go
set_option linter.unusedVariables false
set_option maxRecDepth 20000

theorem G82_nil : G82 [] = some true := by
  unfold G82 T82
  simp only [Tr.den]
  rw [whileM_stop (r := .inl ()) (by unfold T82_L0; simp [Tr.den])]
  rfl
theorem G153_eq (a b c : Int) : G153 a b c = some (decide (b ≤ a ∧ a ≤ c)) := by
  unfold G153 T153
  simp only [Tr.den, dec_and, Option.bind_some]
theorem G88_sp (l types : List Int) (h : l.length ≤ 1048576) : Sp (G88 l types) (fun r => r = true → ∀ c, c ∈ l → 0 ≤ c ∧ c < types.length) := by
  unfold G88 T88
  simp only [Tr.den, sq_bind]
  refine sq_count (fun s : Int => s) l.length (by omega) (fun s => ∀ c, c ∈ l.take s.toNat → 0 ≤ c ∧ c < types.length) (fun s k hI hk hkN => ?_) (by simp) rfl
  subst hk
  unfold T88_L0
  simp only [Tr.den, Int.toNat_natCast] at hI ⊢
  by_cases hc : k < l.length
  · rw [if_pos (decT (by omega)), if_pos (by omega)]
    by_cases h1 : l.getD k default < 0
    · rw [if_pos (decT h1)]
      exact sq_some.2 (sq_some.2 fun h => by cases h)
    · rw [if_neg (decF h1), if_pos (by omega)]
      simp only [Option.bind_some]
      by_cases h2 : l.getD k default ≥ types.length
      · rw [if_pos (decT h2)]
        exact sq_some.2 (sq_some.2 fun h => by cases h)
      · rw [if_neg (decF h2)]
        refine sq_some.2 ⟨rfl, hc, fun c hcm => ?_⟩
        rw [wrap_inc (by omega), Int.toNat_natCast, take_succ_getD hc, List.mem_append, List.mem_singleton] at hcm
        rcases hcm with hcm | rfl
        · exact hI c hcm
        · omega
  · rw [if_neg (decF (by omega))]
    refine sq_some.2 (sq_some.2 fun _ => ?_)
    rwa [List.take_of_length_le (by omega)] at hI
theorem G90_sp (n : GNode) (a b : List Int) (h : n.Key.length ≤ 1048576) (ha : ∀ c, c ∈ n.Key → 0 ≤ c ∧ c < a.length) (hb : ∀ c, c ∈ n.Key2 → 0 ≤ c ∧ c < b.length) : Sp (G90 n a b) (fun _ => True) := by
  unfold G90 T90
  simp only [Tr.den]
  by_cases hl : (n.Key.length : Int) = n.Key2.length
  · rw [if_neg (bneF hl)]
    refine sq_bind.2 ?_
    refine sq_count (fun s : Int => s) n.Key.length (by omega) (fun s => True) (fun s k hI hk hkN => ?_) trivial rfl
    subst hk
    unfold T90_L0
    simp only [Tr.den, Int.toNat_natCast]
    by_cases hc : k < n.Key.length
    · have h1 := ha _ (getD_mem hc)
      have h2 := hb _ (getD_mem (show k < n.Key2.length by omega))
      rw [if_pos (decT (by omega)), if_pos (by omega), if_pos h1, if_pos (by omega), if_pos h2]
      split
      · exact sq_some.2 (sq_some.2 trivial)
      · exact sq_some.2 ⟨rfl, hc, trivial⟩
    · rw [if_neg (decF (by omega))]
      exact sq_some.2 (sq_some.2 trivial)
  · rw [if_pos (bneT hl)]; exact sq_some.2 trivial
structure RightN (n : GNode) (a b : List Int) : Prop where
  op : (n.Op = 6 ∧ okB n) ∨ (n.Op = 7 ∧ 1 ≤ n.Keep ∧ n.Keep ≤ 10000)
  k1 : ∀ c, c ∈ n.Key → 0 ≤ c ∧ c < a.length
  k2 : ∀ c, c ∈ n.Key2 → 0 ≤ c ∧ c < b.length
  la : a.length ≤ 12
  lb : b.length ≤ 12
theorem G83_sp (n : GNode) (hop : n.Op = 6 ∨ n.Op = 7) : Sp (G83 n) (fun r => r = true → (n.Op = 6 ∧ okB n) ∨ (n.Op = 7 ∧ 1 ≤ n.Keep ∧ n.Keep ≤ 10000)) := by
  unfold G83 T83
  simp only [Tr.den, G153_eq, Option.bind_some]
  rw [if_neg (beqF (by omega)), if_neg (beqF (by omega))]
  rcases hop with h | h
  · rw [if_pos (beqT h)]
    by_cases h1 : 0 ≤ n.Before ∧ n.Before ≤ 10000
    · rw [if_pos (decT h1)]
      exact sq_some.2 fun h2 => .inl ⟨h, h1, of_decide_eq_true h2⟩
    · rw [if_neg (decF h1)]
      exact sq_some.2 fun h => by cases h
  · rw [if_neg (beqF (by omega)), if_pos (beqT h)]
    exact sq_some.2 fun h2 => .inr ⟨h, of_decide_eq_true h2⟩
theorem G84_eq (n : GNode) (hop : n.Op = 6 ∨ n.Op = 7) : G84 n = some 2 := by
  unfold G84 T84
  simp only [Tr.den]
  rcases hop with h | h <;> simp [h]
theorem G34_sp (n : GNode) (a b : List Int) (hop : n.Op = 6 ∨ n.Op = 7) (h1 : n.Key.length ≤ 1048576) (h2 : n.Key2.length ≤ 1048576) (ha : a.length ≤ 1048576) (hb : b.length ≤ 1048576) : Sp (G34 [] n [a, b]) (fun r => r = true → RightN n a b) := by
  unfold G34 T34
  simp only [Tr.den]
  rw [G82_nil]
  simp only [Option.bind_some, Bool.not_true, Bool.false_eq_true, if_false]
  refine Sq.bind (fun j : Bool => j = false → (n.Op = 6 ∧ okB n) ∨ (n.Op = 7 ∧ 1 ≤ n.Keep ∧ n.Keep ≤ 10000)) ?_ (fun j hj => ?_)
  · refine Sq.bind _ (G83_sp n hop) fun r hr => ?_
    cases r with
    | false => exact sq_some.2 fun h => by cases h
    | true =>
      simp only [Bool.not_true, Bool.false_eq_true, if_false]
      rw [G84_eq n hop]
      simp only [Option.bind_some]
      rw [if_neg (bneF (by rfl))]
      exact sq_some.2 fun _ => hr rfl
  · cases j with
    | true => exact sq_some.2 fun h => by cases h
    | false =>
      have hop' := hj rfl
      simp only [Bool.false_eq_true, if_false]
      have w : IntKind.i64.wrap ((([a, b] : List (List Int)).length : Int) - 1) = 1 := by
        show IntKind.i64.wrap (2 - 1) = 1
        rw [wrap_id] <;> omega
      rw [if_pos (by simp), w, if_pos (by simp)]
      have e0 : ([a, b] : List (List Int)).getD (0 : Int).toNat default = a := rfl
      have e1 : ([a, b] : List (List Int)).getD (1 : Int).toNat default = b := rfl
      rw [e0, e1]
      refine Sq.bind (fun j : Bool => j = false → a.length ≤ 12 ∧ b.length ≤ 12) ?_ (fun j hj => ?_)
      · refine sq_iteB (fun _ => sq_some.2 fun h => by cases h) fun _ => sq_iteB (fun _ => sq_some.2 fun h => by cases h) fun q1 => sq_iteB (fun _ => sq_some.2 fun h => by cases h) fun _ => sq_some.2 fun q2 => ?_
        have q1 := of_decide_eq_false q1
        have q2 := of_decide_eq_false q2
        omega
      · cases j with
        | true => exact sq_some.2 fun h => by cases h
        | false =>
          have hlen := hj rfl
          simp only [Bool.false_eq_true, if_false]
          rw [if_neg (beqF (by omega)), if_neg (beqF (by omega)), if_neg (beqF (by omega)), if_neg (beqF (by omega)), if_neg (beqF (by omega))]
          have hor : ((if (n.Op == 6) = true then some (n.Op == 6) else some (n.Op == 7)) : Option Bool) = some true := by
            rcases hop with h | h
            · rw [if_pos (beqT h), h]; rfl
            · rw [if_neg (beqF (by omega)), h]; rfl
          rw [hor]
          simp only [Option.bind_some, if_true]
          refine Sq.bind _ (G88_sp n.Key a h1) fun r hr => ?_
          cases r with
          | false => exact sq_some.2 fun h => by cases h
          | true =>
            simp only [if_true]
            refine Sq.bind (fun r : Bool => r = true → RightN n a b) ?_ (fun r hr => sq_some.2 hr)
            refine Sq.bind _ (G88_sp n.Key2 b h2) fun r hr2 => ?_
            cases r with
            | false => exact sq_some.2 fun h => by cases h
            | true =>
              simp only [if_true]
              refine Sq.bind _ (G90_sp n a b h1 (hr rfl) (hr2 rfl)) fun r _ => ?_
              cases r with
              | false => exact sq_some.2 fun h => by cases h
              | true => exact sq_some.2 fun _ => ⟨hop', hr rfl, hr2 rfl, hlen.1, hlen.2⟩

/-! ### rows that fit -/
theorem G184_sp (v : GValue) : Sp (G184 v) (fun _ => True) := by
  unfold G184 T184
  simp only [Tr.den]
  refine sq_iteB (fun _ => sq_some.2 trivial) fun _ => sq_iteB (fun _ => Sq.bind (fun _ => True) ?_ fun _ _ => sq_some.2 trivial) fun _ => Sq.bind (fun _ => True) ?_ fun _ _ => sq_some.2 trivial
  · exact sq_iteB (fun _ => sq_some.2 trivial) fun _ => sq_some.2 trivial
  · exact sq_iteB (fun _ => sq_iteB (fun _ => sq_some.2 trivial) fun _ => sq_iteB (fun _ => sq_some.2 trivial) fun _ => sq_some.2 trivial) fun _ => sq_some.2 trivial
theorem G149_sp (r : List GValue) (h : r.length ≤ 1048576) : Sp (G149 r) (fun _ => True) := by
  unfold G149 T149
  simp only [Tr.den, sq_bind]
  refine sq_count (fun s : Int => s) r.length (by omega) (fun s => True) (fun s k hI hk hkN => ?_) trivial rfl
  subst hk
  unfold T149_L0
  simp only [Tr.den, Int.toNat_natCast]
  by_cases hc : k < r.length
  · rw [if_pos (decT (by omega)), if_pos (by omega)]
    refine Sq.bind _ (G184_sp _) fun q _ => ?_
    cases q with
    | false => exact sq_some.2 (sq_some.2 trivial)
    | true => exact sq_some.2 ⟨rfl, hc, trivial⟩
  · rw [if_neg (decF (by omega))]
    exact sq_some.2 (sq_some.2 trivial)
theorem G78_sp (r : List GValue) (h : r.length ≤ 1048576) : Sp (G78 r) (fun _ => True) := by
  unfold G78 T78
  simp only [Tr.den]
  refine Sq.bind (fun _ => True) ?_ fun _ _ => sq_some.2 trivial
  exact sq_iteB (fun _ => Sq.bind _ (G149_sp r h) fun _ _ => sq_some.2 trivial) fun _ => sq_some.2 trivial
theorem G30_sp (x : GDelta) (types : List Int) (h : x.Row.length ≤ 1048576) (ht : types.length ≤ 1048576) : Sp (G30 [x] types 1) (fun r => r = true → 0 ≤ x.Time ∧ x.Time ≤ 2199023255552 ∧ x.Row.length = types.length) := by
  unfold G30 T30
  simp only [Tr.den, sq_bind]
  refine sq_count (fun s : Int => s) 1 (by omega) (fun s => 1 ≤ s.toNat → 0 ≤ x.Time ∧ x.Time ≤ 2199023255552 ∧ x.Row.length = types.length) (fun s k hI hk hkN => ?_) (by simp) rfl
  subst hk
  unfold T30_L0
  simp only [Tr.den, Int.toNat_natCast, dec_and, Option.bind_some] at hI ⊢
  by_cases hc : k < 1
  · obtain rfl : k = 0 := by omega
    have e0 : ([x] : List GDelta).getD 0 default = x := rfl
    have el : (([x] : List GDelta).length : Int) = 1 := rfl
    rw [if_pos (decT (by omega)), if_pos (by omega)]
    have rest : 0 ≤ x.Time ∧ x.Time ≤ 2199023255552 ∧ x.Row.length = types.length →
        Sp ((whileM (fun s => (T30_L1 [x] types ((0 : Nat) : Int) s).den) 0).bind (sel (fun _ => some (Sum.inl (IntKind.i64.wrap (((0 : Nat) : Int) + 1)))) some)) (sel (fun s' : Int => s' = IntKind.i64.wrap (((0 : Nat) : Int) + 1) ∧ 0 < 1 ∧ (1 ≤ s'.toNat → 0 ≤ x.Time ∧ x.Time ≤ 2199023255552 ∧ x.Row.length = types.length)) (fun r : Unit ⊕ Bool => Sp (sel (fun _ => some (decide ((1 : Int) ≤ 1))) some r) (fun r => r = true → 0 ≤ x.Time ∧ x.Time ≤ 2199023255552 ∧ x.Row.length = types.length))) := by
      intro hx
      have e2 : (([x] : List GDelta).getD 0 default).Row.length = types.length := hx.2.2
      refine sq_bind.2 ?_
      refine sq_count (fun s : Int => s) types.length (by omega) (fun s => True) (fun s k hI hk hkN => ?_) trivial rfl
      subst hk
      unfold T30_L1
      simp only [Tr.den, Int.toNat_natCast]
      by_cases hc : k < types.length
      · rw [if_pos (decT (by omega)), if_pos (by omega), if_pos (by omega), if_pos (by omega)]
        split
        · exact sq_some.2 (sq_some.2 (sq_some.2 fun h => by cases h))
        · exact sq_some.2 ⟨rfl, hc, trivial⟩
      · rw [if_neg (decF (by omega))]
        exact sq_some.2 (sq_some.2 ⟨rfl, by omega, fun _ => hx⟩)
    refine Sq.bind (fun j : Bool => j = false → 0 ≤ x.Time ∧ x.Time ≤ 2199023255552 ∧ x.Row.length = types.length) ?_ (fun j hj => ?_)
    · refine sq_iteB (fun _ => sq_some.2 fun h => by cases h) fun q1 => sq_grd (by omega) (sq_iteB (fun _ => sq_some.2 fun h => by cases h) fun q2 => sq_grd (by omega) (sq_iteB (fun _ => sq_some.2 fun h => by cases h) fun q3 => sq_grd (by omega) (sq_iteB (fun _ => sq_some.2 fun h => by cases h) fun q4 => sq_grd (by omega) (sq_iteB (fun _ => sq_some.2 fun h => by cases h) fun q5 => sq_grd (by omega) (Sq.bind _ (G78_sp _ h) fun r _ => sq_some.2 fun _ => ?_)))))
      have q1 := of_decide_eq_false q1
      have q2 := of_decide_eq_false q2
      simp only [bne_eq_false_iff_eq] at q5
      rw [e0] at q1 q2 q5
      omega
    · cases j with
      | true => exact sq_some.2 (sq_some.2 fun h => by cases h)
      | false => exact rest (hj rfl)
  · obtain rfl : k = 1 := by omega
    rw [if_neg (decF (by simp))]
    exact sq_some.2 (sq_some.2 fun _ => hI (by omega))
end Go.PL
namespace Go.PL
open Go
set_option linter.unusedVariables false
set_option maxRecDepth 20000

abbrev inA (x : GAct) : Int := bitA .i64 x.Do 1
abbrev isCl (x : GAct) : Bool := bitA .i64 x.Do 3 == 3
def two {α : Type} (i : Int) (a b : α) : α := if i = 0 then a else b
theorem two_get {α : Type} [Inhabited α] {i : Int} (hi : i = 0 ∨ i = 1) (a b : α) : ([a, b] : List α).getD i.toNat default = two i a b := by
  rcases hi with rfl | rfl <;> rfl
theorem two_set {α : Type} {i : Int} (hi : i = 0 ∨ i = 1) (a b c : α) : ([a, b] : List α).set i.toNat c = [if i = 0 then c else a, if i = 0 then b else c] := by
  rcases hi with rfl | rfl <;> rfl
theorem two_ite {α : Type} (i : Int) (x a b : α) : two i (if i = 0 then x else a) (if i = 0 then b else x) = x := by
  by_cases h : i = 0 <;> simp [two, h]
theorem two_len (i : Int) (x a b : List GDelta) (c : Nat) (h : x.length ≤ (two i a b).length + c) : (if i = 0 then x else a).length + (if i = 0 then b else x).length ≤ a.length + b.length + c := by
  by_cases hi : i = 0
  · unfold two at h; rw [if_pos hi] at h; rw [if_pos hi, if_pos hi]; omega
  · unfold two at h; rw [if_neg hi] at h; rw [if_neg hi, if_neg hi]; omega
def FitsR (ta tb : List Int) : List GAct → List GDelta → List GDelta → Int → Prop
  | [], _, _, _ => True
  | x :: l, s0, s1, c => (isCl x = true → x.C ≤ 2199023255552 ∧ FitsR ta tb l s0 s1 (if x.C > c then x.C else c)) ∧
    (isCl x = false → x.L.length ≤ 8 ∧ (∀ d, d ∈ x.L → c < d.Time ∧ 0 ≤ d.Time ∧ d.Time ≤ 2199023255552 ∧ d.Row.length = (two (inA x) ta tb).length ∧ -3 ≤ d.N ∧ d.N ≤ 3) ∧ (∀ d, d ∈ cons (two (inA x) s0 s1 ++ x.L) → 1 ≤ d.N ∧ d.N ≤ 20) ∧
      FitsR ta tb l (if inA x = 0 then cons (two (inA x) s0 s1 ++ x.L) else s0) (if inA x = 0 then s1 else cons (two (inA x) s0 s1 ++ x.L)) c)

theorem okGDelta.okd {l : List GDelta} (h : okL 40 okGDelta l) : okD l := ⟨fun d hd => by
  have := (h.2 d hd).2.1.1
  unfold okR; omega, fun d hd => (h.2 d hd).2.2⟩
theorem fitsL1 (ta tb : List Int) (acts : List GAct) (k : Nat) (hk : k < acts.length) (v3 : Int) (v7 : List (List GDelta)) (hok : okGAct (acts.getD k default)) (ha : ta.length ≤ 1048576) (hb : tb.length ≤ 1048576) (hL : (acts.getD k default).L.length ≤ 8) :
    Sp (whileM (fun s => (T35_L1 [ta, tb] acts v3 (k : Int) s).den) (v7, 0)) (fun z => z = .inr (.inr (.inr (.inr false))) ∨ (z = .inl v7 ∧ ∀ d, d ∈ (acts.getD k default).L → v3 < d.Time ∧ 0 ≤ d.Time ∧ d.Time ≤ 2199023255552 ∧ d.Row.length = (two (inA (acts.getD k default)) ta tb).length ∧ -3 ≤ d.N ∧ d.N ≤ 3)) := by
  have hi := bit1 (acts.getD k default).Do
  have hd := hok.2.2
  refine sq_count (fun s : List (List GDelta) × Int => s.2) (acts.getD k default).L.length (by omega) (fun s => s.1 = v7 ∧ ∀ d, d ∈ (acts.getD k default).L.take s.2.toNat → v3 < d.Time ∧ 0 ≤ d.Time ∧ d.Time ≤ 2199023255552 ∧ d.Row.length = (two (inA (acts.getD k default)) ta tb).length ∧ -3 ≤ d.N ∧ d.N ≤ 3) (fun s q hI hq hqN => ?_) ⟨rfl, by simp⟩ rfl
  obtain ⟨w7, w8⟩ := s
  obtain ⟨h1, hI⟩ := hI
  simp only at hq h1 hI
  subst hq h1
  unfold T35_L1
  simp only [Tr.den, Int.toNat_natCast] at hI ⊢
  rw [if_pos (by omega)]
  by_cases hc : q < (acts.getD k default).L.length
  · have hm := getD_mem hc
    have hx := hd.2 _ hm
    rw [if_pos (decT (by omega)), if_pos (by omega), if_pos (by omega)]
    refine Sq.bind (fun j : List (List GDelta) × Bool => j.1 = w7 ∧ (j.2 = false → v3 < ((acts.getD k default).L.getD q default).Time ∧ -3 ≤ ((acts.getD k default).L.getD q default).N ∧ ((acts.getD k default).L.getD q default).N ≤ 3)) ?_ (fun j hj => ?_)
    · refine sq_iteB (fun _ => sq_some.2 ⟨rfl, fun h => by cases h⟩) fun q1 => sq_iteB (fun _ => sq_some.2 ⟨rfl, fun h => by cases h⟩) fun q2 => sq_some.2 ⟨rfl, fun q3 => ?_⟩
      have q1 := of_decide_eq_false q1
      have q2 := of_decide_eq_false q2
      have q3 := of_decide_eq_false q3
      omega
    · obtain ⟨j1, j2⟩ := j
      obtain ⟨hj1, hj2⟩ := hj
      simp only at hj1 hj2
      subst hj1
      cases j2 with
      | true => exact sq_some.2 (.inl rfl)
      | false =>
        have hj2 := hj2 rfl
        simp only [Bool.false_eq_true, if_false]
        rw [if_pos (by simp only [List.length_cons, List.length_nil]; omega), two_get hi]
        refine Sq.bind _ (G30_sp _ _ (by exact hx.2.1.1) (by unfold two; split <;> assumption)) (fun r hr => ?_)
        cases r with
        | false => exact sq_some.2 (.inl rfl)
        | true =>
          have hr := hr rfl
          simp only at hr
          refine sq_some.2 ⟨rfl, hc, rfl, fun d hdm => ?_⟩
          rw [wrap_inc (by omega), Int.toNat_natCast, take_succ_getD hc, List.mem_append, List.mem_singleton] at hdm
          rcases hdm with hdm | rfl
          · exact hI d hdm
          · exact ⟨hj2.1, hr.1, hr.2.1, hr.2.2, hj2.2⟩
  · rw [if_neg (decF (by omega))]
    refine sq_some.2 (.inr ⟨rfl, ?_⟩)
    rwa [List.take_of_length_le (by omega)] at hI
theorem fitsL2 (ta tb : List Int) (acts : List GAct) (k : Nat) (hk : k < acts.length) (v3 : Int) (s0 s1 : List GDelta) (h0 : (two (inA (acts.getD k default)) s0 s1).length ≤ 1000000) :
    Sp (whileM (fun s => (T35_L2 [ta, tb] acts v3 (k : Int) s).den) ([s0, s1], 0)) (fun z => z = .inr (.inr (.inr (.inr false))) ∨ (z = .inl [s0, s1] ∧ ∀ d, d ∈ two (inA (acts.getD k default)) s0 s1 → 1 ≤ d.N ∧ d.N ≤ 20)) := by
  have hi := bit1 (acts.getD k default).Do
  rw [← two_get hi s0 s1] at h0 ⊢
  refine sq_count (fun s : List (List GDelta) × Int => s.2) (([s0, s1] : List (List GDelta)).getD (bitA .i64 (acts.getD k default).Do 1).toNat default).length (by omega) (fun s => s.1 = [s0, s1] ∧ ∀ d, d ∈ (([s0, s1] : List (List GDelta)).getD (bitA .i64 (acts.getD k default).Do 1).toNat default).take s.2.toNat → 1 ≤ d.N ∧ d.N ≤ 20) (fun s q hI hq hqN => ?_) ⟨rfl, by simp⟩ rfl
  obtain ⟨w7, w8⟩ := s
  obtain ⟨h1, hI⟩ := hI
  simp only at hq h1 hI
  subst hq h1
  unfold T35_L2
  simp only [Tr.den, Int.toNat_natCast] at hI ⊢
  have hlen : (([s0, s1] : List (List GDelta)).length : Int) = 2 := rfl
  have g1 : 0 ≤ bitA .i64 (acts.getD k default).Do 1 ∧ bitA .i64 (acts.getD k default).Do 1 < (([s0, s1] : List (List GDelta)).length : Int) := by omega
  have g2 : (bitA .i64 (acts.getD k default).Do 1).toNat < ([s0, s1] : List (List GDelta)).length := by simp only [List.length_cons, List.length_nil]; omega
  rw [if_pos g1, if_pos g2]
  by_cases hc : q < (([s0, s1] : List (List GDelta)).getD (bitA .i64 (acts.getD k default).Do 1).toNat default).length
  · rw [if_pos (decT (by omega)), if_pos g1, if_pos g2, if_pos (by omega)]
    refine Sq.bind (fun j : List (List GDelta) × Bool => j.1 = [s0, s1] ∧ (j.2 = false → 1 ≤ ((([s0, s1] : List (List GDelta)).getD (bitA .i64 (acts.getD k default).Do 1).toNat default).getD q default).N ∧ ((([s0, s1] : List (List GDelta)).getD (bitA .i64 (acts.getD k default).Do 1).toNat default).getD q default).N ≤ 20)) ?_ (fun j hj => ?_)
    · refine sq_iteB (fun _ => sq_some.2 ⟨rfl, fun h => by cases h⟩) fun q1 => sq_grd g1 (sq_grd g2 (sq_grd (by omega) (sq_some.2 ⟨rfl, fun q3 => ?_⟩)))
      have q1 := of_decide_eq_false q1
      have q3 := of_decide_eq_false q3
      omega
    · obtain ⟨j1, j2⟩ := j
      obtain ⟨hj1, hj2⟩ := hj
      simp only at hj1 hj2
      subst hj1
      cases j2 with
      | true => exact sq_some.2 (.inl rfl)
      | false =>
        refine sq_some.2 ⟨rfl, hc, rfl, fun d hdm => ?_⟩
        rw [wrap_inc (by omega), Int.toNat_natCast, take_succ_getD hc, List.mem_append, List.mem_singleton] at hdm
        rcases hdm with hdm | rfl
        · exact hI d hdm
        · exact hj2 rfl
  · rw [if_neg (decF (by omega))]
    refine sq_some.2 (.inr ⟨rfl, ?_⟩)
    rwa [List.take_of_length_le (by omega)] at hI
theorem G35_sp (ta tb : List Int) (acts : List GAct) (most : Nat) (hm : most ≤ 1000) (hok : okL 40 okGAct acts) (ha : ta.length ≤ 1048576) (hb : tb.length ≤ 1048576) :
    Sp (G35 [ta, tb] acts (most : Int)) (fun r => r = true → acts.length ≤ most ∧ FitsR ta tb acts [] [] (-1)) := by
  unfold G35 T35
  simp only [Tr.den]
  by_cases hlen : (acts.length : Int) > (most : Int)
  · rw [if_pos (decT hlen)]
    exact sq_some.2 fun h => by cases h
  · rw [if_neg (decF hlen)]
    simp only [Option.bind_some]
    rw [if_neg (by simp)]
    refine sq_bind.2 ?_
    refine sq_count (fun s : List (List GDelta) × Int × Int => s.2.2) acts.length (by omega) (fun s => ∃ s0 s1, s.1 = [s0, s1] ∧ okD s0 ∧ okD s1 ∧ s0.length + s1.length ≤ 8 * s.2.2.toNat ∧ (FitsR ta tb (acts.drop s.2.2.toNat) s0 s1 s.2.1 → FitsR ta tb acts [] [] (-1))) (fun s k hI hk hkN => ?_)
      ⟨[], [], rfl, .nil, .nil, by simp, by simp⟩ rfl
    obtain ⟨v2, v3, v4⟩ := s
    obtain ⟨s0, s1, e, o0, o1, hl, hI⟩ := hI
    simp only at hk e hl hI
    subst hk e
    simp only [Int.toNat_natCast] at hl hI
    unfold T35_L0
    simp only [Tr.den, Int.toNat_natCast]
    by_cases hc : k < acts.length
    · have hok' := hok.2 _ (getD_mem hc)
      have hi := bit1 (acts.getD k default).Do
      rw [drop_getD hc] at hI
      rw [if_pos (decT (by omega))]
      refine Sq.bind (fun z => z = .inr (.inr (.inr false)) ∨ ∃ t0 t1 c, z = .inl ([t0, t1], c) ∧ okD t0 ∧ okD t1 ∧ t0.length + t1.length ≤ 8 * (k + 1) ∧ (FitsR ta tb (acts.drop (k + 1)) t0 t1 c → FitsR ta tb acts [] [] (-1))) ?_ (fun z hz => ?_)
      · rw [if_pos (by omega)]
        refine sq_iteB (fun h3 => ?_) (fun h3 => ?_)
        · rw [if_pos (by omega)]
          by_cases h4 : (acts.getD k default).C > 2199023255552
          · rw [if_pos (decT h4)]; exact sq_some.2 (.inl rfl)
          · rw [if_neg (decF h4), if_pos (by omega)]
            refine sq_some.2 (.inr ⟨s0, s1, _, rfl, o0, o1, by omega, fun hF => hI ⟨fun _ => ⟨by omega, hF⟩, fun h => ?_⟩⟩)
            rw [show isCl (acts.getD k default) = true from h3] at h; cases h
        · rw [if_pos (by omega), if_pos (by omega)]
          by_cases h4 : ((acts.getD k default).L.length : Int) > 8
          · rw [if_pos (decT h4)]; exact sq_some.2 (.inl rfl)
          · rw [if_neg (decF h4)]
            refine Sq.bind _ (fitsL1 ta tb acts k hc v3 [s0, s1] hok' ha hb (by omega)) (fun z hz => ?_)
            rcases hz with rfl | ⟨rfl, hz⟩
            · exact sq_some.2 (.inl rfl)
            · simp only [sel]
              have g1 : 0 ≤ bitA .i64 (acts.getD k default).Do 1 ∧ bitA .i64 (acts.getD k default).Do 1 < (([s0, s1] : List (List GDelta)).length : Int) := by simp only [List.length_cons, List.length_nil]; omega
              have g2 : (bitA .i64 (acts.getD k default).Do 1).toNat < ([s0, s1] : List (List GDelta)).length := by simp only [List.length_cons, List.length_nil]; omega
              have otw : okD (two (inA (acts.getD k default)) s0 s1) := by unfold two; split <;> assumption
              have ltw : (two (inA (acts.getD k default)) s0 s1).length ≤ 8 * k := by unfold two; split <;> omega
              have okL' := okGDelta.okd hok'.2.2
              rw [if_pos g1, if_pos g2, if_pos (by omega), two_get hi, G47_eq _ _ otw okL' (by omega)]
              simp only [Option.bind_some]
              rw [if_pos g1, if_pos g2]
              refine sq_grd (by simp only [List.all_cons, List.all_nil, Bool.and_true, decide_eq_true_eq]; exact g2) ?_
              rw [two_set hi]
              have hcl := cons_len (two (inA (acts.getD k default)) s0 s1 ++ (acts.getD k default).L)
              rw [List.length_append] at hcl
              have okc := (otw.app okL').cons
              have etw : two (inA (acts.getD k default)) (if inA (acts.getD k default) = 0 then cons (two (inA (acts.getD k default)) s0 s1 ++ (acts.getD k default).L) else s0) (if inA (acts.getD k default) = 0 then s1 else cons (two (inA (acts.getD k default)) s0 s1 ++ (acts.getD k default).L)) = cons (two (inA (acts.getD k default)) s0 s1 ++ (acts.getD k default).L) := two_ite _ _ _ _
              have h2 := fitsL2 ta tb acts k hc v3 (if inA (acts.getD k default) = 0 then cons (two (inA (acts.getD k default)) s0 s1 ++ (acts.getD k default).L) else s0) (if inA (acts.getD k default) = 0 then s1 else cons (two (inA (acts.getD k default)) s0 s1 ++ (acts.getD k default).L)) (by rw [etw]; omega)
              rw [etw] at h2
              refine Sq.bind _ h2 (fun z hz2 => ?_)
              rcases hz2 with rfl | ⟨rfl, hz2⟩
              · exact sq_some.2 (.inl rfl)
              · refine sq_some.2 (.inr ⟨_, _, _, rfl, by split <;> assumption, by split <;> assumption, ?_, fun hF => hI ⟨fun h => ?_, fun _ => ⟨by omega, hz, hz2, hF⟩⟩⟩)
                · exact Nat.le_trans (two_len _ _ _ _ 8 (by omega)) (by omega)
                · rw [show isCl (acts.getD k default) = false from h3] at h; cases h
      · rcases hz with rfl | ⟨t0, t1, c, rfl, p0, p1, pl, hF⟩
        · exact sq_some.2 (sq_some.2 fun h => by cases h)
        · refine sq_some.2 ⟨rfl, hc, t0, t1, rfl, p0, p1, ?_, ?_⟩
          · simp only; rw [wrap_inc (by omega), Int.toNat_natCast]; exact pl
          · simp only; rw [wrap_inc (by omega), Int.toNat_natCast]; exact hF
    · rw [if_neg (decF (by omega))]
      refine sq_some.2 (sq_some.2 fun _ => ⟨by omega, hI ?_⟩)
      rw [List.drop_eq_nil_of_le (by omega)]; trivial
end Go.PL
namespace Go.PL
open Go
set_option linter.unusedVariables false
set_option maxRecDepth 20000

theorem ofK_app (n : GNode) (i : Int) (k : ByteArray) (l r : List GDelta) : ofK n i k (l ++ r) = ofK n i k l ++ ofK n i k r := List.filter_append ..
theorem Same.ofK {l r : List GDelta} (h : Same l r) (n : GNode) (i : Int) (k : ByteArray) : Same (ofK n i k l) (ofK n i k r) := h.filter (fun p => decide (keyB n i p.2 = k))
theorem Same.aft {l r : List GDelta} (h : Same l r) (t : Int) : Same (l.filter (PL.aft t)) (r.filter (PL.aft t)) := h.filter (fun p => decide (t < p.1))
theorem okN.sub {l r : List GDelta} (h : okN l) (hs : ∀ x, x ∈ r → x ∈ l) : okN r := fun x hx => h x (hs x hx)
theorem ofK_mem {n : GNode} {i : Int} {k : ByteArray} {l : List GDelta} {x : GDelta} : x ∈ ofK n i k l ↔ x ∈ l ∧ kd n i x = k := by
  unfold ofK
  rw [List.mem_filter, decide_eq_true_eq]
/-- what a push makes of a group -/
theorem ofK_push {n : GNode} {i : Int} {k : ByteArray} {a l : List GDelta} {t : Int} (ha : Can a) (hl : okN l) (hal : ∀ d, d ∈ l → aft t d = true) :
    cons (ofK n i k (a.filter (aft t)) ++ ofK n i k (cons l)) = ofK n i k ((cons (a ++ l)).filter (aft t)) := by
  have hal' : okN (a ++ l) := fun x hx => (List.mem_append.1 hx).elim (ha.n64 x) (hl x)
  have hcl := cons_can hl
  refine cons_eq ((((cons_can hal').filter _)).filter _) (fun x hx => ?_) ?_
  · rcases List.mem_append.1 hx with hx | hx
    · exact ha.n64 x (List.mem_filter.1 (ofK_mem.1 hx).1).1
    · exact hcl.n64 x (ofK_mem.1 hx).1
  · have h1 : Same (ofK n i k ((cons (a ++ l)).filter (aft t))) (ofK n i k ((a ++ l).filter (aft t))) := ((cons_same (a ++ l)).aft t).ofK n i k
    have h2 : ofK n i k ((a ++ l).filter (aft t)) = ofK n i k (a.filter (aft t)) ++ ofK n i k l := by
      rw [List.filter_append, List.filter_eq_self.2 hal, ofK_app]
    rw [h2] at h1
    exact h1.trans (Same.app (.refl _) ((cons_same l).ofK n i k).symm)

structure InOk (n : GNode) (i : Int) (a : List GDelta) : Prop where
  can : Can a
  ok : okI n i a
  len : a.length ≤ 900
  pos : ∀ d, d ∈ a → 1 ≤ d.N ∧ d.N ≤ 20
structure OInv (n : GNode) (a0 a1 : List GDelta) (t : Int) (m : KS) : Prop where
  mc : MC m
  look : ∀ k, mlook m k = keepS ⟨⟨ofK n 0 k (a0.filter (aft t)), ofK n 1 k (a1.filter (aft t))⟩⟩
theorem keepS_some {s s' : GSide} (h : keepS s = some s') : s' = s := by
  unfold keepS at h; split at h
  · cases h
  · cases h; rfl
theorem keepS_getD (s : GSide) : (keepS s).getD side0 = s := by
  unfold keepS
  split
  · rename_i h
    obtain ⟨⟨e0, e1⟩⟩ := s
    simp only at h
    have h0 : e0 = [] := List.eq_nil_of_length_eq_zero (by omega)
    have h1 : e1 = [] := List.eq_nil_of_length_eq_zero (by omega)
    subst h0 h1; rfl
  · rfl
theorem OInv.okM {n : GNode} {a0 a1 : List GDelta} {t : Int} {m : KS} (h : OInv n a0 a1 t m) (h0 : InOk n 0 a0) (h1 : InOk n 1 a1) : okM n m := by
  refine ⟨h.mc, fun k s hs => ?_⟩
  rw [h.look] at hs
  rw [keepS_some hs]
  have f : ∀ (i : Int) (a : List GDelta), (ofK n i k (a.filter (aft t))).length ≤ a.length := fun i a => Nat.le_trans (ofK_len _ _ _ _) (List.length_filter_le _ _)
  have l0 := f 0 a0
  have l1 := f 1 a1
  have q0 := h0.len
  have q1 := h1.len
  exact ⟨(h0.can.filter _).filter _, (h1.can.filter _).filter _, h0.ok.sub fun x hx => (List.mem_filter.1 (ofK_mem.1 hx).1).1, h1.ok.sub fun x hx => (List.mem_filter.1 (ofK_mem.1 hx).1).1, by simp only; omega, by simp only; omega⟩
theorem OInv.push {n : GNode} {a0 a1 : List GDelta} {t : Int} {m : KS} (h : OInv n a0 a1 t m) (c0 : Can a0) (c1 : Can a1) {i : Int} (hi : i = 0 ∨ i = 1) {l : List GDelta} (hl : okN l) (hal : ∀ d, d ∈ l → aft t d = true) :
    OInv n (if i = 0 then cons (two i a0 a1 ++ l) else a0) (if i = 0 then a1 else cons (two i a0 a1 ++ l)) t (pushM n i (cons l) m) := by
  refine ⟨pushM_mc n i _ h.mc, fun k => ?_⟩
  have e : mlook (pushM n i (cons l) m) k = keepS (updS i ⟨⟨ofK n 0 k (a0.filter (aft t)), ofK n 1 k (a1.filter (aft t))⟩⟩ (ofK n i k (cons l))) := by
    by_cases hk : k ∈ mkeys (groupM n i (cons l))
    · rw [pushM_in hk]
      unfold newS
      rw [h.look, keepS_getD]
    · rw [pushM_out hk, h.look]
      have hn : ofK n i k (cons l) = [] := by
        refine Classical.byContradiction fun hne => hk (mkeys_look.2 ⟨ofK n i k (cons l), ?_⟩)
        rw [groupM_look, if_neg hne]
      rw [hn]
      congr 1
      unfold updS
      split
      · rw [List.append_nil, show cons (ofK n 0 k (a0.filter (aft t))) = ofK n 0 k (a0.filter (aft t)) from cons_id (ofK_can (c0.filter _))]
      · rw [List.append_nil, show cons (ofK n 1 k (a1.filter (aft t))) = ofK n 1 k (a1.filter (aft t)) from cons_id (ofK_can (c1.filter _))]
  rw [e]
  congr 1
  rcases hi with rfl | rfl
  · unfold updS
    rw [if_pos rfl, if_pos rfl, if_pos rfl, show two 0 a0 a1 = a0 from rfl, ofK_push c0 hl hal]
  · unfold updS
    rw [if_neg (by omega), if_neg (by omega), if_neg (by omega), show two 1 a0 a1 = a1 from rfl, ofK_push c1 hl hal]
theorem aft_aft {t t' : Int} (h : t ≤ t') (l : List GDelta) : (l.filter (aft t)).filter (aft t') = l.filter (aft t') := by
  rw [List.filter_filter]
  congr 1
  funext d
  unfold aft
  rw [Bool.eq_iff_iff, Bool.and_eq_true, decide_eq_true_eq, decide_eq_true_eq]
  omega
theorem filter_comm' (p q : GDelta → Bool) (l : List GDelta) : (l.filter p).filter q = (l.filter q).filter p := by
  rw [List.filter_filter, List.filter_filter]
  congr 1
  funext d
  exact Bool.and_comm _ _
theorem OInv.close {n : GNode} {a0 a1 : List GDelta} {t t' : Int} {m : KS} (h : OInv n a0 a1 t m) (ht : t ≤ t') : OInv n a0 a1 t' (closeM t' m) := by
  refine ⟨closeM_mc _ h.mc, fun k => ?_⟩
  rw [closeM_look, h.look]
  have e : ∀ (i : Int) (a : List GDelta), (ofK n i k (a.filter (aft t))).filter (aft t') = ofK n i k (a.filter (aft t')) := by
    intro i a
    unfold ofK
    rw [filter_comm', aft_aft ht]
  have hc : cutS t' ⟨⟨ofK n 0 k (a0.filter (aft t)), ofK n 1 k (a1.filter (aft t))⟩⟩ = ⟨⟨ofK n 0 k (a0.filter (aft t')), ofK n 1 k (a1.filter (aft t'))⟩⟩ := by
    unfold cutS; simp only [e]
  by_cases hz : (ofK n 0 k (a0.filter (aft t))).length + (ofK n 1 k (a1.filter (aft t))).length = 0
  · have : keepS ⟨⟨ofK n 0 k (a0.filter (aft t)), ofK n 1 k (a1.filter (aft t))⟩⟩ = none := by unfold keepS; rw [if_pos hz]
    rw [this, ← hc]
    unfold keepS cutS
    have q0 := List.length_filter_le (aft t') (ofK n 0 k (a0.filter (aft t)))
    have q1 := List.length_filter_le (aft t') (ofK n 1 k (a1.filter (aft t)))
    rw [if_pos (by simp only; omega)]
    rfl
  · have : keepS ⟨⟨ofK n 0 k (a0.filter (aft t)), ofK n 1 k (a1.filter (aft t))⟩⟩ = some ⟨⟨ofK n 0 k (a0.filter (aft t)), ofK n 1 k (a1.filter (aft t))⟩⟩ := by unfold keepS; rw [if_neg hz]
    rw [this, Option.bind_some, hc]
theorem OInv.init (n : GNode) (t : Int) : OInv n [] [] t [] := ⟨MC_nil, fun k => rfl⟩

/-! ### how many -/
theorem sumK_congr {f g : ByteArray → Int} {ks : List ByteArray} (h : ∀ k, k ∈ ks → f k = g k) : sumK f ks = sumK g ks := by
  induction ks with
  | nil => rfl
  | cons k ks ih => simp only [sumK, h k List.mem_cons_self, ih fun k' hk => h k' (List.mem_cons_of_mem _ hk)]
theorem sumK_add (f g : ByteArray → Int) (ks : List ByteArray) : sumK (fun k => f k + g k) ks = sumK f ks + sumK g ks := by
  induction ks with
  | nil => rfl
  | cons k ks ih => simp only [sumK, ih]; omega
theorem sumK_zero (ks : List ByteArray) : sumK (fun _ => 0) ks = 0 := by
  induction ks with
  | nil => rfl
  | cons k ks ih => simp only [sumK, ih]; rfl
theorem sumK_one (q : ByteArray) (v : Int) : ∀ (ks : List ByteArray), ks.Nodup → q ∈ ks → sumK (fun k => if q = k then v else 0) ks = v
  | [], _, h => by simp at h
  | k :: ks, hn, h => by
    have h1 := List.nodup_cons.1 hn
    simp only [sumK]
    by_cases hq : q = k
    · subst hq
      rw [if_pos rfl, sumK_congr (f := fun k => if q = k then v else 0) (g := fun _ => 0) (fun k' hk' => if_neg (fun he : q = k' => h1.1 (he ▸ hk'))), sumK_zero]; omega
    · rw [if_neg hq, sumK_one q v ks h1.2 ((List.mem_cons.1 h).resolve_left hq)]; omega
theorem sumK_ofK (p : Pl → Bool) (n : GNode) (i : Int) (ks : List ByteArray) (hn : ks.Nodup) : ∀ (l : List GDelta), (∀ x, x ∈ l → kd n i x ∈ ks) → sumK (fun k => wt p (ofK n i k l)) ks = wt p l
  | [], _ => by
    refine Eq.trans (sumK_congr (g := fun _ => 0) fun k _ => rfl) (sumK_zero ks)
  | x :: l, h => by
    have ih := sumK_ofK p n i ks hn l fun y hy => h y (List.mem_cons_of_mem _ hy)
    have e : ∀ k, wt p (ofK n i k (x :: l)) = (if kd n i x = k then (if p (pl x) = true then x.N else 0) else 0) + wt p (ofK n i k l) := by
      intro k
      unfold ofK
      by_cases hk : kd n i x = k
      · rw [List.filter_cons_of_pos (p := fun d => decide (kd n i d = k)) (decT hk), if_pos hk]; rfl
      · rw [List.filter_cons_of_neg (p := fun d => decide (kd n i d = k)) (decF hk), if_neg hk]; omega
    rw [sumK_congr fun k _ => e k, sumK_add, ih, sumK_one _ _ ks hn (h x List.mem_cons_self)]
    rfl
theorem OInv.key {n : GNode} {a0 a1 : List GDelta} {t : Int} {m : KS} (h : OInv n a0 a1 t m) {x : GDelta} {k : ByteArray} (hx : x ∈ ofK n 0 k (a0.filter (aft t)) ∨ x ∈ ofK n 1 k (a1.filter (aft t))) : k ∈ mkeys m := by
  refine mkeys_look.2 ⟨⟨⟨ofK n 0 k (a0.filter (aft t)), ofK n 1 k (a1.filter (aft t))⟩⟩, ?_⟩
  rw [h.look]
  unfold keepS
  rw [if_neg]
  rcases hx with hx | hx
  · have := List.length_pos_of_mem hx; simp only; omega
  · have := List.length_pos_of_mem hx; simp only; omega
theorem OInv.rows {n : GNode} {a0 a1 : List GDelta} {t : Int} {m : KS} (h : OInv n a0 a1 t m) : sumK (cntK m) (mkeys m) = wt all1 (a0.filter (aft t)) + wt all1 (a1.filter (aft t)) := by
  have hn := h.mc.nodup LO.bytes
  have e : ∀ k, k ∈ mkeys m → cntK m k = wt all1 (ofK n 0 k (a0.filter (aft t))) + wt all1 (ofK n 1 k (a1.filter (aft t))) := by
    intro k hk
    obtain ⟨s, hs⟩ := mkeys_look.1 hk
    unfold cntK
    rw [hs]
    rw [h.look] at hs
    rw [keepS_some hs]; rfl
  rw [sumK_congr e, sumK_add, sumK_ofK all1 n 0 _ hn _ fun x hx => h.key (.inl (ofK_mem.2 ⟨hx, rfl⟩)), sumK_ofK all1 n 1 _ hn _ fun x hx => h.key (.inr (ofK_mem.2 ⟨hx, rfl⟩))]
theorem OInv.empty {n : GNode} {a0 a1 : List GDelta} {t : Int} {m : KS} (h : OInv n a0 a1 t m) : m = [] ↔ a0.filter (aft t) = [] ∧ a1.filter (aft t) = [] := by
  constructor
  · intro hm
    subst hm
    constructor
    · refine List.eq_nil_iff_forall_not_mem.2 fun x hx => ?_
      have := h.key (k := kd n 0 x) (.inl (ofK_mem.2 ⟨hx, rfl⟩))
      simp [mkeys] at this
    · refine List.eq_nil_iff_forall_not_mem.2 fun x hx => ?_
      have := h.key (k := kd n 1 x) (.inr (ofK_mem.2 ⟨hx, rfl⟩))
      simp [mkeys] at this
  · rintro ⟨h0, h1⟩
    refine h.mc.ext LO.bytes MC_nil fun k => ?_
    rw [h.look, h0, h1]; rfl
theorem wt_pos : ∀ {l : List GDelta}, (∀ d, d ∈ l → 1 ≤ d.N ∧ d.N ≤ 20) → (l.length : Int) ≤ wt all1 l ∧ wt all1 l ≤ 20 * l.length
  | [], _ => by simp [wt]
  | x :: l, h => by
    have ih := wt_pos (l := l) fun d hd => h d (List.mem_cons_of_mem _ hd)
    have hx := h x List.mem_cons_self
    simp only [wt, all1, if_true, List.length_cons] at ih ⊢
    omega
end Go.PL
namespace Go.PL
open Go
set_option linter.unusedVariables false
set_option maxRecDepth 20000

theorem G8_sp (n : GNode) (types : List (List Int)) (acts : List GAct) (most : Nat) (hm : most ≤ 1000) (hn : okGNode n) (ht : okL 24 (okL 8 inI64) types) (hok : okL 40 okGAct acts) :
    Sp (G8 n types acts (most : Int)) (fun r => r = true → ∃ ta tb, types = [ta, tb] ∧ n.Key.length ≤ 20 ∧ n.Key2.length ≤ 20 ∧ RightN n ta tb ∧ acts.length ≤ most ∧ FitsR ta tb acts [] [] (-1)) := by
  unfold G8 T8
  simp only [Tr.den]
  refine Sq.bind (fun j : Bool => j = false → (n.Op = 6 ∨ n.Op = 7) ∧ types.length = 2 ∧ n.Key.length ≤ 20 ∧ n.Key2.length ≤ 20) ?_ (fun j hj => ?_)
  · have inner : (n.Op = 6 ∨ n.Op = 7) → Sp (if ((types.length : Int) != 2) = true then some true else (G33 [] n).bind fun r => some !r) (fun j : Bool => j = false → (n.Op = 6 ∨ n.Op = 7) ∧ types.length = 2 ∧ n.Key.length ≤ 20 ∧ n.Key2.length ≤ 20) := by
      intro hop
      by_cases h2 : (types.length : Int) = 2
      · rw [if_neg (bneF h2)]
        refine Sq.bind _ (G33_sp n hn) fun r hr => sq_some.2 fun hf => ?_
        cases r with
        | false => cases hf
        | true => exact ⟨hop, by omega, (hr rfl).1, (hr rfl).2⟩
      · rw [if_pos (bneT h2)]
        exact sq_some.2 fun h => by cases h
    by_cases h6 : n.Op = 6
    · rw [if_neg (bneF h6)]; exact inner (.inl h6)
    · rw [if_pos (bneT h6)]
      by_cases h7 : n.Op = 7
      · rw [if_neg (bneF h7)]; exact inner (.inr h7)
      · rw [if_pos (bneT h7)]; exact sq_some.2 fun h => by cases h
  · cases j with
    | true => exact sq_some.2 fun h => by cases h
    | false =>
      obtain ⟨hop, h2, k1, k2⟩ := hj rfl
      simp only [Bool.false_eq_true, if_false]
      match types, h2, ht with
      | [ta, tb], _, ht =>
        have la := (ht.2 ta (by simp)).1
        have lb := (ht.2 tb (by simp)).1
        refine Sq.bind _ (G34_sp n ta tb hop (by omega) (by omega) la lb) fun r hr => ?_
        cases r with
        | false => exact sq_some.2 fun h => by cases h
        | true =>
          simp only [if_true]
          refine Sq.bind (fun r : Bool => r = true → acts.length ≤ most ∧ FitsR ta tb acts [] [] (-1)) ?_ fun r hF => sq_some.2 fun h => ⟨ta, tb, rfl, k1, k2, hr rfl, hF h⟩
          refine Sq.bind _ (G35_sp ta tb acts most hm hok la lb) fun r hr => sq_some.2 hr

theorem okI_of {n : GNode} {ta tb : List Int} (hR : RightN n ta tb) {l : List GDelta} (h : okL 40 okGDelta l) {i : Int} (hi : i = 0 ∨ i = 1) {c : Int} (hF : ∀ d, d ∈ l → c < d.Time ∧ 0 ≤ d.Time ∧ d.Time ≤ 2199023255552 ∧ d.Row.length = (two i ta tb).length ∧ -3 ≤ d.N ∧ d.N ≤ 3) : okI n i l := by
  refine ⟨fun d hd v hv => ?_, fun d hd q hq => ?_, fun d hd => ?_, fun d hd => ⟨(hF d hd).2.1, (hF d hd).2.2.1⟩, (okGDelta.okd h).n⟩
  · have := (h.2 d hd).2.1.2 v hv
    exact ⟨this.1, this.2.1, Nat.le_trans this.2.2 (by omega)⟩
  · have hl := (hF d hd).2.2.2.1
    rw [hl]
    rcases hi with rfl | rfl
    · exact hR.k1 q hq
    · exact hR.k2 q hq
  · have hl := (hF d hd).2.2.2.1
    rw [hl]
    have := hR.la
    have := hR.lb
    unfold two; split <;> omega

/-- the numbers of rows -/
theorem keepsL1 (acts : List GAct) (r1 : Bool) (r3 : GNode × Int × KS) (bk : Int) (hb : 0 ≤ bk ∧ bk ≤ 10000) (v9 : Int) (r10 : List GDelta × KS × Int) (c : Int) (hc : -1 ≤ c ∧ c ≤ 2199023255552) (n : GNode) (a0 a1 : List GDelta) (h0 : InOk n 0 a0) (h1 : InOk n 1 a1) :
    whileM (fun s => (T3_L1 acts r1 r3 (bk, 0) v9 r10 c s).den) ([a0, a1], 0, 0) = some (.inl ([a0, a1], wt all1 (a0.filter (aft (c - bk))) + wt all1 (a1.filter (aft (c - bk))))) := by
  have full : ∀ (i : Int) (a : List GDelta), InOk n i a → ∃ x, (if decide (c ≥ 0) = true then (G14 a (IntKind.i64.wrap (c - bk))).bind (fun r => G13 r) else G13 a) = some x ∧ x = wt all1 (a.filter (aft (c - bk))) ∧ 0 ≤ x ∧ x ≤ 20000 := by
    intro i a ha
    have hp := wt_pos (l := a.filter (aft (c - bk))) fun d hd => ha.pos d (List.mem_filter.1 hd).1
    have hl := List.length_filter_le (aft (c - bk)) a
    have hal := ha.len
    refine ⟨wt all1 (a.filter (aft (c - bk))), ?_, rfl, by omega, by omega⟩
    have hW : W (wt all1 (a.filter (aft (c - bk)))) = wt all1 (a.filter (aft (c - bk))) := W_id ⟨by omega, by omega⟩
    by_cases hc0 : c ≥ 0
    · rw [if_pos (decT hc0), wrap_id (by omega) (by omega), G14_can a (c - bk) ha.ok.okD ha.can (by omega)]
      simp only [Option.bind_some]
      rw [G13_eq _ (by omega), hW]
    · rw [if_neg (decF hc0)]
      have : a.filter (aft (c - bk)) = a := List.filter_eq_self.2 fun d hd => by
        have := (ha.ok.t d hd).1
        exact decT (by omega)
      rw [this] at hW ⊢
      rw [G13_eq _ (by omega), hW]
  obtain ⟨x0, e0, q0, p0, p0'⟩ := full 0 a0 h0
  obtain ⟨x1, e1, q1, p1, p1'⟩ := full 1 a1 h1
  have step : ∀ (k : Nat) (v : Int) (a : List GDelta) (x : Int), k < 2 → ([a0, a1] : List (List GDelta)).getD k default = a → (if decide (c ≥ 0) = true then (G14 a (IntKind.i64.wrap (c - bk))).bind (fun r => G13 r) else G13 a) = some x → 0 ≤ x ∧ x ≤ 20000 → 0 ≤ v ∧ v ≤ 20000 →
      (T3_L1 acts r1 r3 (bk, 0) v9 r10 c ([a0, a1], v, (k : Int))).den = some (.inl ([a0, a1], v + x, ((k + 1 : Nat) : Int))) := by
    intro k v a x hk ha hx hx' hv
    unfold T3_L1
    simp only [Tr.den, Int.toNat_natCast]
    have g1 : 0 ≤ (k : Int) ∧ (k : Int) < (([a0, a1] : List (List GDelta)).length : Int) := by simp only [List.length_cons, List.length_nil]; omega
    have g2 : k < ([a0, a1] : List (List GDelta)).length := by simp only [List.length_cons, List.length_nil]; omega
    rw [if_pos (decT (by omega)), if_pos g1, if_pos g2, if_pos g1, if_pos g2, ha]
    by_cases hc0 : c ≥ 0
    · rw [if_pos (decT hc0)] at hx ⊢
      obtain ⟨y, hy1, hy2⟩ := bnd hx
      rw [hy1]
      simp only [Option.bind_some]
      rw [hy2]
      simp only [Option.bind_some]
      rw [wrap_inc (by omega), wrap_id (n := v + x) (by omega) (by omega)]
    · rw [if_neg (decF hc0)] at hx ⊢
      rw [hx]
      simp only [Option.bind_some]
      rw [wrap_inc (by omega), wrap_id (n := v + x) (by omega) (by omega)]
  rw [whileM_next (step 0 0 a0 x0 (by omega) rfl e0 ⟨p0, p0'⟩ ⟨by omega, by omega⟩), whileM_next (step 1 (0 + x0) a1 x1 (by omega) rfl e1 ⟨p1, p1'⟩ ⟨by omega, by omega⟩)]
  refine whileM_stop ?_
  unfold T3_L1
  simp only [Tr.den]
  rw [if_neg (by decide), ← q0, ← q1, Int.zero_add]

theorem keepsMain (n : GNode) (ta tb : List Int) (acts : List GAct) (hok : okL 40 okGAct acts) (k1 : n.Key.length ≤ 20) (k2 : n.Key2.length ≤ 20) (hR : RightN n ta tb) (hlen : acts.length ≤ 30) (hF : FitsR ta tb acts [] [] (-1)) (r1 : Bool) :
    Sp (whileM (fun s => (T3_L0 acts r1 (n, -1, []) (backF n, 0) s).den) (([] : KS), -1, -1, [([] : List GDelta), ([] : List GDelta)], 0)) (fun z => z = .inl ()) := by
  have hN : okNode n := ⟨hR.op, by omega, by omega⟩
  have hb := backF_in hN
  refine sq_count (fun s : KS × Int × Int × List (List GDelta) × Int => s.2.2.2.2) acts.length (by omega)
    (fun s => ∃ a0 a1, s.2.2.2.1 = [a0, a1] ∧ s.2.1 = s.2.2.1 ∧ (Can a0 ∧ okI n 0 a0 ∧ a0.length ≤ 8 * s.2.2.2.2.toNat ∧ ∀ d, d ∈ a0 → 1 ≤ d.N ∧ d.N ≤ 20) ∧ (Can a1 ∧ okI n 1 a1 ∧ a1.length ≤ 8 * s.2.2.2.2.toNat ∧ ∀ d, d ∈ a1 → 1 ≤ d.N ∧ d.N ≤ 20) ∧
      OInv n a0 a1 (s.2.1 - backF n) s.1 ∧ -1 ≤ s.2.1 ∧ s.2.1 ≤ 2199023255552 ∧ FitsR ta tb (acts.drop s.2.2.2.2.toNat) a0 a1 s.2.1) (fun s k hI hk hkN => ?_)
    ⟨[], [], rfl, rfl, ⟨.nil, .nil, by simp, by simp⟩, ⟨.nil, .nil, by simp, by simp⟩, OInv.init n _, by simp only; omega, by simp only; omega, by simpa using hF⟩ rfl
  obtain ⟨m, cl, c, v8, v9⟩ := s
  obtain ⟨a0, a1, e1, e2, ⟨c0, i0, l0, p0⟩, ⟨c1, i1, l1, p1⟩, hO, hc1, hc2, hF⟩ := hI
  simp only at hk e1 e2 l0 l1 hO hc1 hc2 hF
  subst hk e1 e2
  simp only [Int.toNat_natCast] at l0 l1 hF
  unfold T3_L0
  simp only [Tr.den, Int.toNat_natCast]
  by_cases hc : k < acts.length
  · have hok' := hok.2 _ (getD_mem hc)
    have hi := bit1 (acts.getD k default).Do
    rw [drop_getD hc] at hF
    have I0 : InOk n 0 a0 := ⟨c0, i0, by omega, p0⟩
    have I1 : InOk n 1 a1 := ⟨c1, i1, by omega, p1⟩
    rw [if_pos (decT (by omega)), if_pos (by omega)]
    -- the rest, from what the act leaves
    have rest : ∀ (out : List GDelta) (m' : KS) (c' : Int) (b0 b1 : List GDelta), InOk n 0 b0 → InOk n 1 b1 → b0.length ≤ 8 * (k + 1) → b1.length ≤ 8 * (k + 1) → OInv n b0 b1 (c' - backF n) m' → -1 ≤ c' → c' ≤ 2199023255552 → FitsR ta tb (acts.drop (k + 1)) b0 b1 c' →
        Sp ((whileM (fun s => (T3_L1 acts r1 (n, -1, []) (backF n, 0) (k : Int) (out, m', c') c' s).den) ([b0, b1], 0, 0)).bind (sel (fun x => (G15s0 n c' m').bind fun r24 =>
            (if (r24.1 != x.2) = true then some (x.1, true) else (G16s0 n c' r24.2).bind fun r27 => some (x.1, !(r27 == (x.2 == 0)))).bind fun v =>
            if v.2 = true then some (.inr (.inr false)) else some (.inl (r24.2, c', c', v.1, IntKind.i64.wrap ((k : Int) + 1)))) some))
          (sel (fun s' : KS × Int × Int × List (List GDelta) × Int => s'.2.2.2.2 = IntKind.i64.wrap ((k : Int) + 1) ∧ k < acts.length ∧ ∃ a0 a1, s'.2.2.2.1 = [a0, a1] ∧ s'.2.1 = s'.2.2.1 ∧ (Can a0 ∧ okI n 0 a0 ∧ a0.length ≤ 8 * s'.2.2.2.2.toNat ∧ ∀ d, d ∈ a0 → 1 ≤ d.N ∧ d.N ≤ 20) ∧ (Can a1 ∧ okI n 1 a1 ∧ a1.length ≤ 8 * s'.2.2.2.2.toNat ∧ ∀ d, d ∈ a1 → 1 ≤ d.N ∧ d.N ≤ 20) ∧
            OInv n a0 a1 (s'.2.1 - backF n) s'.1 ∧ -1 ≤ s'.2.1 ∧ s'.2.1 ≤ 2199023255552 ∧ FitsR ta tb (acts.drop s'.2.2.2.2.toNat) a0 a1 s'.2.1) (fun z : Unit ⊕ Bool => z = .inl ())) := by
      intro out m' c' b0 b1 J0 J1 jl0 jl1 hO' hc1' hc2' hF'
      rw [keepsL1 acts r1 (n, -1, []) (backF n) hb (k : Int) (out, m', c') c' ⟨hc1', hc2'⟩ n b0 b1 J0 J1]
      simp only [Option.bind_some, sel]
      have hM := hO'.okM J0 J1
      rw [G15s0_eq n c' m' hO'.mc fun k s hs => ⟨by have := (hM.s k s hs).l0; omega, by have := (hM.s k s hs).l1; omega⟩]
      simp only [Option.bind_some]
      have q0 := wt_pos (l := b0.filter (aft (c' - backF n))) fun d hd => J0.pos d (List.mem_filter.1 hd).1
      have q1 := wt_pos (l := b1.filter (aft (c' - backF n))) fun d hd => J1.pos d (List.mem_filter.1 hd).1
      have f0 := List.length_filter_le (aft (c' - backF n)) b0
      have f1 := List.length_filter_le (aft (c' - backF n)) b1
      have lb0 := J0.len
      have lb1 := J1.len
      have hrows : W (sumK (cntK m') (mkeys m')) = wt all1 (b0.filter (aft (c' - backF n))) + wt all1 (b1.filter (aft (c' - backF n))) := by
        rw [hO'.rows]; exact W_id ⟨by omega, by omega⟩
      rw [hrows, if_neg (bneF rfl), G16s0_eq]
      simp only [Option.bind_some]
      have hem := hO'.empty
      have hz : (decide (m' = []) == (wt all1 (b0.filter (aft (c' - backF n))) + wt all1 (b1.filter (aft (c' - backF n))) == 0)) = true := by
        rw [beq_iff_eq, Bool.eq_iff_iff, decide_eq_true_eq, beq_iff_eq, hem]
        constructor
        · rintro ⟨z0, z1⟩; rw [z0, z1]; rfl
        · intro hz
          exact ⟨List.eq_nil_of_length_eq_zero (by omega), List.eq_nil_of_length_eq_zero (by omega)⟩
      rw [hz]
      simp only [Bool.not_true, Bool.false_eq_true, if_false]
      refine sq_some.2 ⟨rfl, hc, b0, b1, rfl, rfl, ⟨J0.can, J0.ok, ?_, J0.pos⟩, ⟨J1.can, J1.ok, ?_, J1.pos⟩, hO', hc1', hc2', ?_⟩
      · simp only; rw [wrap_inc (by omega), Int.toNat_natCast]; exact jl0
      · simp only; rw [wrap_inc (by omega), Int.toNat_natCast]; exact jl1
      · simp only; rw [wrap_inc (by omega), Int.toNat_natCast]; exact hF'
    unfold G11s0 T11s0
    simp only [Tr.den]
    cases h3 : (bitA .i64 (acts.getD k default).Do 3 == 3) with
    | true =>
      obtain ⟨hC, hF'⟩ := hF.1 h3
      simp only [if_true]
      by_cases hle : (acts.getD k default).C > cl
      · rw [G32s0_eq _ n cl m hN (hO.okM I0 I1) (by omega) (by omega) hC]
        simp only [Option.bind_some]
        rw [if_pos (by omega), if_pos (by omega)]
        simp only [Option.bind_some]
        rw [if_pos hle] at hF' ⊢
        exact rest [] _ _ a0 a1 I0 I1 (by omega) (by omega) (hO.close (by omega)) (by omega) hC hF'
      · rw [G32s0_old _ n cl m (by omega)]
        simp only [Option.bind_some]
        rw [if_pos (by omega), if_pos (by omega)]
        simp only [Option.bind_some]
        rw [if_neg hle] at hF' ⊢
        exact rest [] _ _ a0 a1 I0 I1 (by omega) (by omega) hO hc1 hc2 hF'
    | false =>
      obtain ⟨hL, hD, hP, hF'⟩ := hF.2 h3
      simp only [Bool.false_eq_true, if_false]
      have hIL := okI_of hR hok'.2.2 hi hD
      have hcl := cons_len (acts.getD k default).L
      rw [G25s0_eq (bitA .i64 (acts.getD k default).Do 1) (acts.getD k default).L n cl m hi hN hIL (hO.okM I0 I1) (by omega) (by omega)]
      simp only [Option.bind_some]
      have g1 : 0 ≤ bitA .i64 (acts.getD k default).Do 1 ∧ bitA .i64 (acts.getD k default).Do 1 < (([a0, a1] : List (List GDelta)).length : Int) := by simp only [List.length_cons, List.length_nil]; omega
      have g2 : (bitA .i64 (acts.getD k default).Do 1).toNat < ([a0, a1] : List (List GDelta)).length := by simp only [List.length_cons, List.length_nil]; omega
      rw [if_pos (by omega), if_pos (by omega), if_pos (by omega), if_pos g1, if_pos g2, if_pos (by omega), two_get hi]
      have oktw : okI n (inA (acts.getD k default)) (two (inA (acts.getD k default)) a0 a1) := by
        rcases (show inA (acts.getD k default) = 0 ∨ inA (acts.getD k default) = 1 from hi) with h | h
        · rw [h]; exact i0
        · rw [h]; exact i1
      have ltw : (two (inA (acts.getD k default)) a0 a1).length ≤ 8 * k := by unfold two; split <;> omega
      rw [G12_eq _ _ oktw.okD hIL.okD (by omega)]
      simp only [Option.bind_some]
      rw [if_pos g1, if_pos g2]
      rw [if_pos (show (([((bitA .i64 (acts.getD k default).Do 1).toNat, cons (two (inA (acts.getD k default)) a0 a1 ++ (acts.getD k default).L))] : List (Nat × List GDelta)).all fun p => decide (p.1 < ([a0, a1] : List (List GDelta)).length)) = true by simp only [List.all_cons, List.all_nil, Bool.and_true, decide_eq_true_eq]; exact g2)]
      simp only [Option.bind_some]
      rw [two_set hi]
      have hcn := cons_len (two (inA (acts.getD k default)) a0 a1 ++ (acts.getD k default).L)
      rw [List.length_append] at hcn
      have okc : okI n (inA (acts.getD k default)) (cons (two (inA (acts.getD k default)) a0 a1 ++ (acts.getD k default).L)) := (oktw.app hIL).cons
      have cc : Can (cons (two (inA (acts.getD k default)) a0 a1 ++ (acts.getD k default).L)) := cons_can (oktw.app hIL).n
      have hlens := two_len (inA (acts.getD k default)) (cons (two (inA (acts.getD k default)) a0 a1 ++ (acts.getD k default).L)) a0 a1 8 (by omega)
      have hpush := hO.push c0 c1 hi hIL.n fun d hd => decT (by have := (hD d hd).1; omega)
      refine rest _ _ cl _ _ ?_ ?_ ?_ ?_ hpush hc1 hc2 hF'
      · by_cases h : inA (acts.getD k default) = 0
        · rw [if_pos h]; rw [h] at okc; exact ⟨cc, by rw [h]; exact okc, by omega, hP⟩
        · rw [if_neg h]; exact I0
      · by_cases h : inA (acts.getD k default) = 0
        · rw [if_pos h]; exact I1
        · have h1 : inA (acts.getD k default) = 1 := (show inA (acts.getD k default) = 0 ∨ inA (acts.getD k default) = 1 from hi).resolve_left h
          rw [if_neg h]; rw [h1] at okc; exact ⟨cc, by rw [h1]; exact okc, by omega, hP⟩
      · split <;> omega
      · split <;> omega
  · rw [if_neg (decF (by omega))]
    exact sq_some.2 rfl
end Go.PL
namespace Go.PL
open Go
set_option linter.unusedVariables false
set_option maxRecDepth 20000

def optM (k : ByteArray) : Option GSide → KS
  | none => []
  | some s => [(k, s)]
theorem group1 {n : GNode} {i : Int} {l : List GDelta} {k : ByteArray} (h : ∀ d, d ∈ l → kd n i d = k) (h0 : l ≠ []) : groupM n i l = [(k, l)] := by
  refine (groupM_mc n i l).ext LO.bytes (List.pairwise_singleton _ _) fun k' => ?_
  rw [groupM_look]
  by_cases hk : k = k'
  · subst hk
    have : ofK n i k l = l := List.filter_eq_self.2 fun d hd => decT (h d hd)
    rw [this, if_neg h0]; simp [mlook]
  · have : ofK n i k' l = [] := List.filter_eq_nil_iff.2 fun d hd => decF (by rw [h d hd]; exact hk)
    rw [this, if_pos rfl]; simp [mlook, hk]
theorem ofK1 {n : GNode} {i : Int} {l : List GDelta} {k : ByteArray} (h : ∀ d, d ∈ l → kd n i d = k) : ofK n i k l = l := List.filter_eq_self.2 fun d hd => decT (h d hd)
theorem look1 (k : ByteArray) (o : Option GSide) : mlook (optM k o) k = o := by cases o <;> simp [optM, mlook]
theorem push1 {n : GNode} {i : Int} {l : List GDelta} {k : ByteArray} (h : ∀ d, d ∈ l → kd n i d = k) (h0 : l ≠ []) (o : Option GSide) :
    pushM n i l (optM k o) = optM k (keepS (updS i (o.getD side0) l)) ∧ (mkeys (groupM n i l)).flatMap (pushO n i l (optM k o)) = chgF n i l (o.getD side0) := by
  have hk : mkeys (groupM n i l) = [k] := by rw [group1 h h0]; rfl
  have hn : newS n i l (optM k o) k = keepS (updS i (o.getD side0) l) := by unfold newS; rw [look1, ofK1 h]
  constructor
  · unfold pushM
    rw [hk]
    simp only [List.foldl_cons, List.foldl_nil, hn]
    cases keepS (updS i (o.getD side0) l) with
    | none => cases o <;> simp [setS, optM, mdel]
    | some s => cases o <;> simp [setS, optM, mput, mdel, mins]
  · rw [hk]
    simp only [List.flatMap_cons, List.flatMap_nil, List.append_nil]
    unfold pushO
    rw [look1, ofK1 h]
theorem close1 (t : Int) (k : ByteArray) (s : GSide) : closeM t (optM k (some s)) = optM k (keepS (cutS t s)) := by
  have hn : newC t (optM k (some s)) k = keepS (cutS t s) := by unfold newC; rw [look1]; rfl
  unfold closeM
  rw [show mkeys (optM k (some s)) = [k] from rfl]
  simp only [List.foldl_cons, List.foldl_nil, hn]
  cases keepS (cutS t s) with
  | none => simp [setS, optM, mdel]
  | some s => simp [setS, optM, mput, mdel, mins]

def vN : GNode := GNode.mk 6 ([] : List Int) ⟨#[]⟩ 0 ([] : List Expr) 0 0 0 [0] [0] 2 5 0 ([] : List GAgg) ([] : List GPat) ([] : List GCol)
def rowX : List GValue := [GValue.mk 0 7 ⟨#[]⟩]
def atD (t n : Int) : GDelta := ⟨t, rowX, n⟩
theorem vN_ok : okNode vN := ⟨.inl ⟨rfl, ⟨by decide, by decide⟩, ⟨by decide, by decide⟩⟩, by decide, by decide⟩
theorem kX : ∀ i t n, (i = 0 ∨ i = 1) → kd vN i (atD t n) = keyB vN 0 rowX := by
  rintro i t n (rfl | rfl) <;> rfl
theorem okIX (i : Int) (hi : i = 0 ∨ i = 1) (l : List GDelta) (h : ∀ d, d ∈ l → ∃ t n, d = atD t n ∧ 0 ≤ t ∧ t ≤ 100 ∧ -10 ≤ n ∧ n ≤ 10) : okI vN i l := by
  have hv : okVs rowX := fun v hv => by
    rw [List.mem_singleton.1 hv]
    exact ⟨⟨by decide, by decide⟩, ⟨by decide, by decide⟩, by decide⟩
  have hc : okCols (colsOf vN i) rowX := by
    rcases hi with rfl | rfl <;> (intro c hc; rw [List.mem_singleton.1 (show c ∈ [(0 : Int)] from hc)]; decide)
  refine ⟨fun d hd => ?_, fun d hd => ?_, fun d hd => ?_, fun d hd => ?_, fun d hd => ?_⟩ <;> obtain ⟨t, n, rfl, h1, h2, h3, h4⟩ := h d hd
  · exact hv
  · exact hc
  · show rowX.length ≤ 1000
    decide
  · exact ⟨h1, by show t ≤ _; omega⟩
  · exact ⟨by show _ ≤ n; omega, by show n ≤ _; omega⟩

theorem okMX (k : ByteArray) (o : Option GSide) (h : ∀ s, o = some s → okSd vN s) : okM vN (optM k o) := by
  refine ⟨by cases o <;> simp [optM, MC], fun k' s hs => ?_⟩
  cases o with
  | none => simp [optM, mlook] at hs
  | some s' =>
    simp only [optM, mlook] at hs
    split at hs
    · cases hs; exact h _ rfl
    · cases hs
def x3 : GDelta := atD 3 1
def x3' : GDelta := atD 3 (-1)
def y8 : GDelta := atD 8 1
def y9 : GDelta := atD 9 1
def z8 (n : Int) : GDelta := ⟨8, rowX ++ rowX, n⟩
theorem pushX (i : Int) (hi : i = 0 ∨ i = 1) (l : List GDelta) (h : ∀ d, d ∈ l → ∃ t n, d = atD t n ∧ 0 ≤ t ∧ t ≤ 100 ∧ -10 ≤ n ∧ n ≤ 10) (hc : cons l = l) (h0 : l ≠ []) (hlen : l.length ≤ 1000) (cl : Int) (o : Option GSide) (ho : ∀ s, o = some s → okSd vN s) :
    G25s0 i l vN cl (optM (keyB vN 0 rowX) o) = some (cons (chgF vN i l (o.getD side0)), optM (keyB vN 0 rowX) (keepS (updS i (o.getD side0) l))) := by
  have hk : ∀ d, d ∈ l → kd vN i d = keyB vN 0 rowX := fun d hd => by
    obtain ⟨t, n, rfl, _⟩ := h d hd
    exact kX i t n hi
  rw [G25s0_eq i l vN cl _ hi vN_ok (okIX i hi l h) (okMX _ o ho) hlen (by rw [hc]; exact hlen), hc]
  obtain ⟨e1, e2⟩ := push1 hk h0 o
  rw [e1, e2]
theorem okAt (i : Int) (hi : i = 0 ∨ i = 1) (l : List GDelta) (h : ∀ d, d ∈ l → ∃ t n, d = atD t n ∧ 0 ≤ t ∧ t ≤ 100 ∧ -10 ≤ n ∧ n ≤ 10) : okI vN i l := okIX i hi l h
theorem canX : Can [x3] ∧ Can [y8, y9] ∧ Can [y9] := by
  have e1 : cons [x3] = [x3] := by kernel_rfl
  have e2 : cons [y8, y9] = [y8, y9] := by kernel_rfl
  have e3 : cons [y9] = [y9] := by kernel_rfl
  have b : ∀ t : Int, okN [atD t 1] := fun t d hd => by rw [List.mem_singleton.1 hd]; exact ⟨by show _ ≤ (1 : Int); decide, by show (1 : Int) ≤ _; decide⟩
  refine ⟨?_, ?_, ?_⟩
  · rw [← e1]; exact cons_can (b 3)
  · rw [← e2]
    refine cons_can fun d hd => ?_
    rcases List.mem_cons.1 hd with rfl | hd
    · exact b 8 _ (List.mem_singleton.2 rfl)
    · exact b 9 d hd
  · rw [← e3]; exact cons_can (b 9)
theorem G31_eq (t n : Int) : G31 t n = some (atD t n) := by unfold G31 T31; simp only [Tr.den]; rfl
theorem inX1 (t n : Int) (h1 : 0 ≤ t) (h2 : t ≤ 100) (h3 : -10 ≤ n) (h4 : n ≤ 10) : ∀ d, d ∈ [atD t n] → ∃ t n, d = atD t n ∧ 0 ≤ t ∧ t ≤ 100 ∧ -10 ≤ n ∧ n ≤ 10 := fun d hd => ⟨t, n, List.mem_singleton.1 hd, h1, h2, h3, h4⟩
theorem inX2 : ∀ d, d ∈ [y8, y9] → ∃ t n, d = atD t n ∧ 0 ≤ t ∧ t ≤ 100 ∧ -10 ≤ n ∧ n ≤ 10 := fun d hd => by
  rcases List.mem_cons.1 hd with rfl | hd
  · exact ⟨8, 1, rfl, by decide, by decide, by decide, by decide⟩
  · rw [List.mem_singleton.1 hd]; exact ⟨9, 1, rfl, by decide, by decide, by decide, by decide⟩
theorem okS1 : okSd vN ⟨⟨[x3], []⟩⟩ := ⟨canX.1, .nil, okIX 0 (.inl rfl) _ (inX1 3 1 (by decide) (by decide) (by decide) (by decide)), .nil, by decide, by decide⟩
theorem okS2 : okSd vN ⟨⟨[x3], [y8, y9]⟩⟩ := ⟨canX.1, canX.2.1, okIX 0 (.inl rfl) _ (inX1 3 1 (by decide) (by decide) (by decide) (by decide)), okIX 1 (.inr rfl) _ inX2, by decide, by decide⟩
theorem okS3 : okSd vN ⟨⟨[], [y8, y9]⟩⟩ := ⟨.nil, canX.2.1, .nil, okIX 1 (.inr rfl) _ inX2, by decide, by decide⟩
theorem G7_eq : G7 = some true := by
  have p1 := pushX 0 (.inl rfl) [x3] (inX1 3 1 (by decide) (by decide) (by decide) (by decide)) (by kernel_rfl) (by simp) (by decide) (-1) none (fun _ h => by cases h)
  have p2 := pushX 1 (.inr rfl) [y8, y9] inX2 (by kernel_rfl) (by simp) (by decide) (-1) (some ⟨⟨[x3], []⟩⟩) (fun s h => by cases h; exact okS1)
  have p3 := pushX 0 (.inl rfl) [x3'] (inX1 3 (-1) (by decide) (by decide) (by decide) (by decide)) (by kernel_rfl) (by simp) (by decide) (-1) (some ⟨⟨[x3], [y8, y9]⟩⟩) (fun s h => by cases h; exact okS2)
  have v1 : (cons (chgF vN 0 [x3] ((none : Option GSide).getD side0)), keepS (updS 0 ((none : Option GSide).getD side0) [x3])) = (([], some ⟨⟨[x3], []⟩⟩) : List GDelta × Option GSide) := by kernel_rfl
  have v2 : (cons (chgF vN 1 [y8, y9] ((some (⟨⟨[x3], []⟩⟩ : GSide)).getD side0)), keepS (updS 1 ((some (⟨⟨[x3], []⟩⟩ : GSide)).getD side0) [y8, y9])) = (([z8 1], some ⟨⟨[x3], [y8, y9]⟩⟩) : List GDelta × Option GSide) := by kernel_rfl
  have v3 : (cons (chgF vN 0 [x3'] ((some (⟨⟨[x3], [y8, y9]⟩⟩ : GSide)).getD side0)), keepS (updS 0 ((some (⟨⟨[x3], [y8, y9]⟩⟩ : GSide)).getD side0) [x3'])) = (([z8 (-1)], some ⟨⟨[], [y8, y9]⟩⟩) : List GDelta × Option GSide) := by kernel_rfl
  have v4 : keepS (cutS (13 - backF vN) ⟨⟨[], [y8, y9]⟩⟩) = some ⟨⟨[], [y9]⟩⟩ := by kernel_rfl
  rw [(Prod.mk.inj v1).1, (Prod.mk.inj v1).2] at p1
  rw [(Prod.mk.inj v2).1, (Prod.mk.inj v2).2] at p2
  rw [(Prod.mk.inj v3).1, (Prod.mk.inj v3).2] at p3
  have p4 := G32s0_eq 13 vN (-1) (optM (keyB vN 0 rowX) (some ⟨⟨[], [y8, y9]⟩⟩)) vN_ok (okMX _ _ (fun s h => by cases h; exact okS3)) (by decide) (by decide) (by decide)
  rw [close1, v4] at p4
  have hm5 : okM vN (optM (keyB vN 0 rowX) (some ⟨⟨[], [y9]⟩⟩)) := okMX _ _ fun s h => by
    cases h
    exact ⟨.nil, canX.2.2, .nil, okIX 1 (.inr rfl) _ (inX1 9 1 (by decide) (by decide) (by decide) (by decide)), by decide, by decide⟩
  have p5 := G15s0_eq vN 13 (optM (keyB vN 0 rowX) (some ⟨⟨[], [y9]⟩⟩)) hm5.mc fun k s hs => ⟨by have := (hm5.s k s hs).l0; omega, by have := (hm5.s k s hs).l1; omega⟩
  have v5 : W (sumK (cntK (optM (keyB vN 0 rowX) (some ⟨⟨[], [y9]⟩⟩))) (mkeys (optM (keyB vN 0 rowX) (some ⟨⟨[], [y9]⟩⟩)))) = 1 := by
    rw [show mkeys (optM (keyB vN 0 rowX) (some ⟨⟨[], [y9]⟩⟩)) = [keyB vN 0 rowX] from rfl]
    simp only [sumK, cntK, look1]
    kernel_rfl
  rw [v5] at p5
  have p6 := G16s0_eq vN 13 (optM (keyB vN 0 rowX) (some ⟨⟨[], [y9]⟩⟩))
  have e9 : G9s0 (GNode.mk 6 ([] : List Int) ⟨#[]⟩ 0 ([] : List Expr) 0 0 0 [0] [0] 2 5 0 ([] : List GAgg) ([] : List GPat) ([] : List GCol)) = some (vN, -1, []) := G9s0_eq vN (by decide) (by decide)
  unfold G7 T7
  simp only [Tr.den]
  rw [e9]
  simp only [Option.bind_some, G31_eq]
  rw [show G25s0 0 [atD 3 1] vN (-1) [] = _ from p1]
  simp only [Option.bind_some]
  rw [show G25s0 1 [atD 8 1, atD 9 1] vN (-1) (optM (keyB vN 0 rowX) (some ⟨⟨[x3], []⟩⟩)) = _ from p2]
  simp only [Option.bind_some]
  rw [show G25s0 0 [atD 3 (-1)] vN (-1) (optM (keyB vN 0 rowX) (some ⟨⟨[x3], [y8, y9]⟩⟩)) = _ from p3]
  simp only [Option.bind_some]
  rw [p4]
  simp only [Option.bind_some, Int.toNat_zero]
  rw [p5]
  simp only [Option.bind_some]
  rw [p6]
  rfl
end Go.PL
namespace Go.PL
open Go
set_option linter.unusedVariables false
set_option maxRecDepth 20000

theorem G3_true (n : GNode) (types : List (List Int)) (acts : List GAct) (hn : okGNode n) (ht : okL 24 (okL 8 inI64) types) (hok : okL 40 okGAct acts) : G3 n types acts = some true := by
  refine Sp.eq ?_
  unfold G3 T3
  simp only [Tr.den]
  rw [G7_eq]
  simp only [Option.bind_some]
  refine Sq.bind _ (G8_sp n types acts 30 (by omega) hn ht hok) (fun r hr => ?_)
  cases r with
  | false => exact sq_some.2 rfl
  | true =>
    obtain ⟨ta, tb, rfl, k1, k2, hR, hlen, hF⟩ := hr rfl
    simp only [Bool.not_true, Bool.false_eq_true, if_false]
    rw [G9s0_eq n (by omega) (by omega)]
    simp only [Option.bind_some]
    rw [G10_eq' hR.op]
    simp only [Option.bind_some]
    refine Sq.bind _ (keepsMain n ta tb acts hok k1 k2 hR hlen hF true) (fun z hz => ?_)
    subst hz
    exact sq_some.2 rfl
end Go.PL
namespace Go.Proofs.YtleighbgfdocfaaGreatDoor
open Go Go.RowKit

abbrev laid3 {H : Type} : List (String × DataW H) := [("math/bits.deBruijn32tab", Rows.laid_math_bits_deBruijn32tab), ("math/bits.deBruijn64tab", Rows.laid_math_bits_deBruijn64tab), ("internal/strconv.uint64pow10", Rows.laid_internal_strconv_uint64pow10)]
theorem own : ownKnob Tryz.prog.godebug = none := by kernel_rfl
theorem gTab : Tryz.prog.globalNamed "internal/strconv.uint64pow10" = some 0 := by kernel_rfl
theorem pow_datum : (Rows.laid_internal_strconv_uint64pow10 : DataW Unit) = Lib.tabData .u64 Lib.pow10Tab := by rfl
theorem pow_tab {W : World} (h : laidMetH Tryz.prog laid3 W) : Lib.TabIs Tryz.prog W "internal/strconv.uint64pow10" .u64 Lib.pow10Tab ∧ 0 < W.heap.size := by
  have h' : laidMet Tryz.prog laid3 W := h
  obtain ⟨ps, hv, _⟩ := h'
  obtain ⟨g1, t1, cs1, f1, p1, q1, _, _, _, _, hv2, _⟩ := hv
  obtain ⟨g2, t2, cs2, f2, p2, q2, _, _, _, _, hv3, _⟩ := hv2
  obtain ⟨g, t, cs, fuel, p, q, hg, hty, hvar, hd, _, _⟩ := hv3
  obtain rfl := Option.some.inj (gTab.symm.trans hg)
  have hT : Lib.TabIs Tryz.prog W "internal/strconv.uint64pow10" .u64 Lib.pow10Tab := by
    have ht' : ((Tryz.prog.globals[0]?).map (·.type)) = some 231 := by kernel_rfl
    obtain rfl := Option.some.inj (ht'.symm.trans hty)
    rw [pow_datum] at hd
    unfold Lib.TabIs
    rw [hvar, ← Lib.cells_of_tab Tryz.underlying231 Tryz.underlying216 (by kernel_rfl) (by kernel_rfl) hd]
  refine ⟨hT, ?_⟩
  have hc := hT.cell gTab 0 (by decide)
  refine Classical.byContradiction fun h0 => ?_
  have : W.heap[0]? = none := Array.getElem?_eq_none (by omega)
  simp [World.cell?, this] at hc
theorem glp {W : World} (h : laidMetH Tryz.prog laid3 W) : PL.GLP Tryz.prog (fun b => b < W.heap.size) W := by
  intro b hb
  obtain ⟨h1, h2⟩ := pow_tab h
  obtain rfl := Option.some.inj (gTab.symm.trans hb)
  exact ⟨h1, h2⟩

/-- what a table's datum lays -/
def cellsD : DataW Unit → Array Value
  | .agg l => (l.map fun d => match d with | .lit (.int k z) => Value.int k z | _ => .bool false).toArray
  | _ => #[]
/-- a world in which the tables hold what they are laid with -/
noncomputable def layAt (h : Array Obj) (b : Nat) (d : DataW Unit) : Array Obj := h.modify b fun
  | .cells _ t frozen => .cells (cellsD d) t frozen
  | o => o
noncomputable def laidWorld (os : Os) : World :=
  { World.holding Tryz.prog os ⟨#[], #[], []⟩ with heap := layAt (layAt (layAt (World.holding Tryz.prog os ⟨#[], #[], []⟩).heap 0 Rows.laid_internal_strconv_uint64pow10) 4 Rows.laid_math_bits_deBruijn32tab) 5 Rows.laid_math_bits_deBruijn64tab }
theorem laid_met (os : Os) (args : Array Value) : laidMet Tryz.prog laid3 ((laidWorld os).forCall (fun _ _ => 0) ⟨#[], args, []⟩).memory :=
  laidMet_of_run' 8 (by kernel_rfl) (by kernel_rfl)

noncomputable abbrev args3 : Array Value := #[.agg #[.int .i64 0, .slice none 0 0, .string .empty, .int .i64 0, .slice none 0 0, .int .i64 0, .int .i64 0, .int .i64 0, .slice none 0 0, .slice none 0 0, .int .i64 0, .int .i64 0, .int .i64 0, .slice none 0 0, .slice none 0 0, .slice none 0 0], .slice none 0 0, .slice none 0 0]
open Go.PL in
set_option maxRecDepth 100000 in
theorem joinKeeps_lift (hF : ∀ (a0 : GNode) (a1 : List (List Int)) (a2 : List GAct), PL.okGNode a0 → PL.okL 24 (PL.okL 8 PL.inI64) a1 → PL.okL 40 PL.okGAct a2 → PL.G3 a0 a1 a2 = some true) (os : Os) (started : os.Started) (H : Type) (enc : TypeId × Value → H) (F : Stop.Interp) :
    ReturnsInHanded {} Tryz.checked os 3 .any ((Rows.OpenSpec.upto Rows.joinKeepsSpec).preRow enc Tryz.prog Tryz.f3 Rows.joinKeepsUptoRow.domain false Rows.joinKeepsUptoRow.laid) (((Rows.OpenSpec.upto Rows.joinKeepsSpec).at F).post enc Tryz.prog Tryz.f3 false true false false) := by
  refine returnsInHanded_of_row (C := Tryz.checked) (s := Rows.OpenSpec.upto Rows.joinKeepsSpec) own started (by kernel_rfl) Tryz.func3
    (witness_row_at (enc := enc) (C := Tryz.checked) false (laidWorld os) args3 rfl (by kernel_rfl) (by kernel_rfl) (by kernel_rfl)
      (OpenSpec.preRow_of_cond 8 (x := Option.get (DataW.whole enc Tryz.prog ((laidWorld os).forCall (fun _ _ => 0) ⟨#[], args3, []⟩).memory Tryz.f3.params.toList (Rows.OpenSpec.upto Rows.joinKeepsSpec).vars false args3.toList 8) (by kernel_rfl)) (Option.some_get _).symm (by kernel_rfl) (fun k hk => by cases hk; kernel_rfl) (by kernel_rfl) (laid_met os _))) ?_
  intro W base args ds gs before hval0 hW _ hcond _ hL _ _
  have hsz := hcond _ rfl
  have hval : ∀ (j : Nat) t v, Tryz.f3.params[j]? = some t → args[j]? = some v → Value.okWide Tryz.prog W .any base t v := hval0
  have hW' : DataW.Whole enc Tryz.prog Tryz.f3.params.toList Rows.joinKeepsSpec.vars false W args.toList ds gs before := hW
  obtain ⟨p, q, hA0, hV, rfl, _⟩ := hW
  have hA : DataW.TrodAll enc Tryz.prog W 0 (fun _ => true) true Tryz.f3.params.toList args.toList ds p := hA0
  rw [Tryz.params3] at hA hval
  obtain ⟨v0, vs0, d0, ds0, p0, q0, hl0, rfl, rfl, h0, r0⟩ := Go.ChangeShapes.trodAll_cons hA
  obtain ⟨v1, vs1, d1, ds1, p1, q1, hl1, rfl, rfl, h1, r1⟩ := Go.ChangeShapes.trodAll_cons r0
  obtain ⟨v2, vs2, d2, ds2, p2, q2, hl2, rfl, rfl, h2, r2⟩ := Go.ChangeShapes.trodAll_cons r1
  obtain ⟨hl3, rfl, rfl⟩ := Go.ChangeShapes.trodAll_nil r2
  subst hl3
  subst hl2
  subst hl1
  obtain rfl : args = #[v0, v1, v2] := by cases args; simp_all
  obtain ⟨rfl, rfl⟩ := Go.ChangeShapes.trodVars_none hV
  have hwt : Rows.uptoBulkAll [d0, d1, d2] ≤ 1048576 := by
    have := of_decide_eq_true hsz
    simpa using this
  simp only [Rows.uptoBulkAll] at hwt
  obtain ⟨x0, hx0, ok0⟩ := arg_struct (c := cGNode) Tryz.underlying28 (fun fuel => o28 fuel) (hval 0 28 v0 rfl rfl) h0 (by omega)
  obtain ⟨x1, hx1, ok1⟩ := arg_slice (c := fun xs => eL cL_cInt xs) Tryz.underlying29 (fun fuel => o29 fuel) (hval 1 29 v1 rfl rfl) h1 (by omega)
  obtain ⟨x2, hx2, ok2⟩ := arg_slice (c := fun xs => eL cGAct xs) Tryz.underlying30 (fun fuel => o30 fuel) (hval 2 30 v2 rfl rfl) h2 (by omega)
  have hn := hF x0 x1 x2 ok0 ok1 ok2
  refine (PCall.law ((G3_ok x0 x1 x2).h true hn) (W := W) (vs := #[v0, v1, v2]) rfl (fun j x v hj hv => ?_) (glp hL)).mono fun e W' ⟨he, hb⟩ => ?_
  · match j, hj, hv with
    | 0, hj, hv => cases hj; cases hv; exact .t hx0
    | 1, hj, hv => cases hj; cases hv; exact .t hx1
    | 2, hj, hv => cases hj; cases hv; exact .t hx2
    | j + 3, hj, hv => simp at hj
  · subst he
    exact ⟨_, rfl, law_post (by kernel_rfl) rfl hW' hb (tb := 4) (by kernel_rfl) Tryz.underlying4 (fun t ht => by rw [Tryz.params3] at ht; simp at ht; rcases ht with rfl | rfl | rfl <;> exact ⟨by kernel_rfl, of_decide_eq_true (by kernel_rfl)⟩) rfl⟩

open Go.PL in
theorem joinKeeps_row (hF : ∀ (a0 : GNode) (a1 : List (List Int)) (a2 : List GAct), PL.okGNode a0 → PL.okL 24 (PL.okL 8 PL.inI64) a1 → PL.okL 40 PL.okGAct a2 → PL.G3 a0 a1 a2 = some true) : Rows.JoinKeepsUptoSaid :=
  OpenClaim.holds_of_cond 3 Tryz.f3 rfl rfl rfl rfl rfl rfl rfl ⟨rfl, rfl, rfl, rfl, rfl⟩ rfl rfl rfl rfl rfl (by kernel_rfl) Tryz.func3 (by kernel_rfl) (of_decide_eq_true (by kernel_rfl)) (by unfold Func.isWrapper; first | (rw [if_pos (by decide +kernel)]; kernel_rfl) | (rw [if_neg (by decide +kernel)]; exact ⟨rfl, rfl⟩))
    (fun os started H enc _ F => by rw [OpenClaim.pre_eq_preRow]; exact joinKeeps_lift hF os started H enc F)
theorem joinKeeps_plain (f : FuncId) (fn : Func) (hf : Tryz.pinned.checked.prog.funcNamed "errata/erratalaw32.JoinKeeps" = some f) (hfn : Tryz.pinned.checked.prog.funcs[f]? = some fn) :
    true = Tryz.pinned.checked.prog.looks [] ∧ ∀ (j : Nat) t, fn.params[j]? = some t → Tryz.pinned.checked.prog.wantsStandIn t = false := by
  obtain rfl : f = 3 := Option.some.inj ((show Tryz.prog.funcNamed "errata/erratalaw32.JoinKeeps" = some 3 by kernel_rfl).symm.trans hf) |>.symm
  obtain rfl : fn = Tryz.f3 := (Option.some.inj (Tryz.func3.symm.trans hfn)).symm
  refine ⟨by kernel_rfl, fun j t ht => ?_⟩
  rw [Tryz.params3] at ht
  have hm := Array.mem_of_getElem? ht
  simp at hm
  rcases hm with rfl | rfl | rfl
  · exact (show Tryz.prog.wantsStandIn 28 = false by kernel_rfl)
  · exact (show Tryz.prog.wantsStandIn 29 = false by kernel_rfl)
  · exact (show Tryz.prog.wantsStandIn 30 = false by kernel_rfl)
open Go.PL in
theorem joinKeeps_card (hF : ∀ (a0 : GNode) (a1 : List (List Int)) (a2 : List GAct), PL.okGNode a0 → PL.okL 24 (PL.okL 8 PL.inI64) a1 → PL.okL 40 PL.okGAct a2 → PL.G3 a0 a1 a2 = some true) : Rows.JoinKeepsUptoCardSaid :=
  Claim7.holds_tied_plain_at .later [] _ _ _ _ (joinKeeps_row hF) (fun _ h => by cases h) (by kernel_rfl) (fun _ h => by cases h) joinKeepsUpto_row_tie rfl ⟨rfl, rfl⟩ (by kernel_rfl) rfl joinKeeps_plain (by kernel_rfl)
end Go.Proofs.YtleighbgfdocfaaGreatDoor
namespace Go.Proofs.YtleighbgfdocfaaGreatDoor
theorem joinKeeps_holds : Rows.JoinKeepsUptoCardSaid := joinKeeps_card PL.G3_true
#print axioms joinKeeps_holds
end Go.Proofs.YtleighbgfdocfaaGreatDoor
