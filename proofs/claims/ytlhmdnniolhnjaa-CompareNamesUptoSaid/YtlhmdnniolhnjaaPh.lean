/-
  Operations that make or write memory, on abstract states; soundness. Own work.
-/
import Derived.Test.YtlhmdnniolhnjaaPg
namespace Go.PL
open Go

def nmem (d : Nat) : List Nat → Bool
  | [] => true
  | k :: l => match Nat.beq k d with | true => false | false => nmem d l
theorem nmem_ok {d : Nat} : ∀ {l : List Nat}, nmem d l = true → d ∉ l
  | [], _ => by simp
  | k :: l, h => by
    simp only [nmem] at h
    split at h
    · cases h
    · rename_i hk
      simp only [List.mem_cons, not_or]
      exact ⟨fun e => Nat.ne_of_beq_eq_false hk e.symm, nmem_ok h⟩

def noMention (d : Nat) : List PV → Bool
  | [] => true
  | x :: l => match x.mentions d with | true => false | false => noMention d l
theorem noMention_ok {d : Nat} : ∀ {l : List PV}, noMention d l = true → ∀ x, x ∈ l → ∀ k, k ∈ x.names → k ≠ d
  | [], _ => by simp
  | y :: l, h => by
    simp only [noMention] at h
    split at h
    · cases h
    · rename_i hk
      intro x hx
      rcases List.mem_cons.1 hx with rfl | hx
      · exact PV.not_mentions hk
      · exact noMention_ok h x hx

/-- a new object under the name d -/
def newP (I : Inf) (st : St) (d : Nat) (x : PObj) (p : PV) : Option St :=
  match Nat.blt d I.nt, nmem d I.N, st.erase d with
  | true, true, some st' => some ({ st' with hp := (d, x) :: st'.hp }.put d p)
  | _, _, _ => none

def arrOf (ts : List T) (s : Nat) : Nat → List T := fun i => (ts.drop (i * s)).take s
def appF (n : Nat) (f1 f2 : Nat → List T) : Nat → List T := fun i => if i < n then f1 i else f2 (i - n)
def okCells (s : Nat) (l : List T) : Bool := Nat.beq l.length s && l.all (fun x => (PV.t x).one)
def appC (n m b s : Nat) (f : Nat → List T) : Prop := (n + m) * b ≤ 140737488355328 ∧ ∀ i, i < m → okCells s (f i) = true
def setAt (l : List T) (off : Nat) (c : List T) : List T := l.take off ++ c ++ l.drop (off + c.length)
def updF (f : Nat → List T) (k : Nat) (c : List T) : Nat → List T := fun i => if i = k then c else f i

def zeroAt (j : TInf) (n : Nat) : List PV := (List.range n).map fun k => j.zero.getD (k % j.zero.length) .nil

def okS (s : Nat) : Option Nat → Bool | some k => Nat.beq k s | none => true

def appArg (st : St) : PV → Option (Nat × (Nat → List T) × Option Nat)
  | .own o => match look st.hp o with | some (.arr _ s n f) => some (n, f, some s) | _ => none
  | .t x => match x.view with | some (n, f) => some (n, f, none) | none => none
  | _ => none

def storeP (st : St) (i : TInf) (d : Option Nat) (p x : PV) : Option (St × Prop) :=
  match d with
  | some _ => none
  | none =>
    match p with
    | .ptr o off => match look st.hp o with
      | some (.box l) => match Nat.beq x.cells.length i.size, Nat.ble (off + i.size) l.length, x.cells.all PV.one with
        | true, true, true => some ({ st with hp := (o, .box (l.take off ++ x.cells ++ l.drop (off + i.size))) :: del o st.hp }, True)
        | _, _, _ => none
      | _ => none
    | .aptr o s k off => match look st.hp o, allT x.cells with
      | some (.arr e s' n f), some c => match Nat.beq s' s, Nat.beq c.length i.size, Nat.ble (off + i.size) s, x.cells.all PV.one with
        | true, true, true, true => some ({ st with hp := (o, .arr e s' n (updF f k (setAt (f k) off c))) :: del o st.hp }, k < n)
        | _, _, _, _ => none
      | _, _ => none
    | _ => none

def stepM (I : Inf) (st : St) (o : Oper) : Option (St × Prop) :=
  match o.op, o.dst with
  | .alloc e, some d => match I.ti e with
    | some i => match newP I st d (.box i.zero) (.ptr d 0) with | some st' => some (st', True) | none => none
    | none => none
  | .box _ x, some d => match ev st x with
    | some p => match noMention d p.cells with
      | true => match newP I st d (.box p.cells) (.ptr d 0) with | some st' => some (st', True) | none => none
      | false => none
    | none => none
  | .buildSlice t len parts, some d => match I.ti t, evParts st parts.toList with
    | some i, some ps => match i.und with
      | .sl e => match I.ti e with
        | some j => match Nat.ble (len * j.size) 16777216, Nat.ble 1 j.size, Nat.beq j.zero.length j.size, fillP (fun i => some (i * j.size, j.size)) (zeroAt j (len * j.size)) ps with
          | true, true, true, some c => match allT c, Nat.beq c.length (len * j.size) with
            | some ts, true => match newP I st d (.arr e j.size len (arrOf ts j.size)) (.own d) with | some st' => some (st', True) | none => none
            | _, _ => none
          | _, _, _, _ => none
        | none => none
      | _ => none
    | _, _ => none
  | .store t a x, d => match I.ti t, ev st a, ev st x with
    | some i, some p, some q => storeP st i d p q
    | _, _, _ => none
  | .makeMap t none, some d => match I.ti t with
    | some i => match i.und with
      | .mp kt _ => match I.ti kt with
        | some ik => match newP I st d (.mpb ik.eqn []) (.map d) with | some st' => some (st', True) | none => none
        | none => none
      | _ => none
    | none => none
  | .mapUpdate t x k v, none => match ev st x, ev st k, ev st v with
    | some p, some q, some (.t (.bool b)) => match mapP I st t p q with
      | some (n, m, o, ks) => some ({ st with hp := (o, .mpb n (mset m ks b)) :: del o st.hp }, True)
      | none => none
    | _, _, _ => none
  | .call c, some d => match c.callee, c.args.toList, c.argTypes.toList with
    | .builtin .append, [s, x], [t, t'] => match Nat.beq t t', I.ti t, ev st s, ev st x with
      | true, some i, some p, some q => match i.und, appArg st q with
        | .sl e, some (m, f2, s2) => match I.ti e with
          | some j => match Nat.ble 1 j.size, Nat.ble 1 j.bytes, okS j.size s2, Nat.beq j.zero.length j.size with
            | true, true, true, true => match p with
              | .nil => match newP I st d (.arr e j.size m f2) (.own d) with
                | some st' => some (st', appC 0 m j.bytes j.size f2)
                | none => none
              | .own o => match look st.hp o, st.erase o with
                | some (.arr e' s' n f1), some st1 => match Nat.beq e e', Nat.beq s' j.size, newP I st1 d (.arr e j.size (n + m) (appF n f1 f2)) (.own d) with
                  | true, true, some st' => some (st', appC n m j.bytes j.size f2)
                  | _, _, _ => none
                | _, _ => none
              | _ => none
            | _, _, _, _ => none
          | none => none
        | _, _ => none
      | _, _, _, _ => none
    | _, _, _ => none
  | _, _ => none

section
variable {P : Program} {E : Env} {F : Nat → Prop} {g : Nat → Value} {st : St} {a : Act} {w : World}

/-- a new block, whose object may only mention other names -/
theorem newP_ok {I : Inf} (hn : E.N = I.N) (hnt : E.nt = I.nt) (r : RelG E F g st a w) {d : Nat} {x : PObj} {p : PV} {st' : St} (h : newP I st d x p = some st') {w' : World} {v : Value} {ob : Obj}
    (hv : blk v = some w.heap.size) (hw : w'.heap = w.heap.push ob) (hos : w'.os = w.os) (htp : w'.tape = w.tape) (hout : w'.output = w.output)
    (hx : ∀ g', (∀ o, o ≠ d → g' o = g o) → g' d = v → ObjR F g' w' d x) (hp : ∀ g', g' d = v → VR F g' w' p v) :
    Rel E st' (a.put (some d) v) w' := by
  unfold newP at h
  split at h
  · rename_i st1 h1 h2 h3
    cases h
    have hd : d < E.nt := by rw [hnt]; simpa [Nat.blt_eq] using h1
    obtain ⟨g', hg'⟩ := r.alloc hd (by rw [hn]; exact nmem_ok h2) h3 hv hw hos htp hout hx p hp
    exact ⟨F, g', hg'⟩
  · cases h

theorem cells_alloc (w : World) (c : Array Value) (t : TypeId) : (w.alloc (.cells c t)).heap[w.heap.size]? = some (.cells c t (0, 0)) := heap_alloc_new w _

end
end Go.PL
