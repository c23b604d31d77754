/-
  The abstract values of the seat's program logic and what they say of a world. Own work.
-/
import Derived.WalkKit
import Derived.KernelRfl
import Derived.Laws.StructEq
import Derived.WideKeyRuns
namespace Go.PL
open Go

/-- expressions of the program api, as plain data -/
inductive Expr where
  | mk (Op N : Int) (S : ByteArray) (Args : List Expr)

instance : Inhabited Expr := ⟨.mk 0 0 ByteArray.empty []⟩
def Expr.Op : Expr → Int | .mk a _ _ _ => a
def Expr.N : Expr → Int | .mk _ a _ _ => a
def Expr.S : Expr → ByteArray | .mk _ _ a _ => a
def Expr.Args : Expr → List Expr | .mk _ _ _ a => a

/-- lists of data of a recursive type -/
inductive Lz where
  | exprs (l : List Expr)

inductive T where
  | int (k : IntKind) (n : Int)
  | bool (b : Bool)
  | str (s : ByteArray)
  | sl (n : Nat) (f : Nat → List T)
  | agg (l : List T)
  | lz (x : Lz)
instance : Inhabited T := ⟨.bool false⟩

abbrev T.i (n : Int) : T := .int .i64 n
def exprCells (e : Expr) : List T := [.int .i64 e.Op, .int .i64 e.N, .str e.S, .lz (.exprs e.Args)]

def Lz.len : Lz → Nat | .exprs l => l.length
def Lz.cells : Lz → Nat → List T | .exprs l => fun i => exprCells (l.getD i default)

def T.view : T → Option (Nat × (Nat → List T))
  | .sl n f => some (n, f)
  | .lz x => some (x.len, x.cells)
  | _ => none

/-- 'in the world w, where the blocks of F stay as they are, the value reads as the datum' -/
inductive Rd (F : Nat → Prop) (w : World) : T → Value → Prop
  | int (k : IntKind) (n : Int) : Rd F w (.int k n) (.int k n)
  | bool (b : Bool) : Rd F w (.bool b) (.bool b)
  | str (s : ByteArray) : Rd F w (.str s) (.string s)
  | nil {t : T} {f : Nat → List T} (h : t.view = some (0, f)) : Rd F w t (.slice none 0 0)
  | sl {t : T} {n : Nat} {f : Nat → List T} (a : Addr) (cap size : Nat) (vs : Nat → Nat → Value) (h : t.view = some (n, f)) (hc : n ≤ cap) (hF : 0 < n → F a.block)
      (hs : ∀ i, i < n → (f i).length = size) (hv : ∀ i j, i < n → j < size → w.cell? (a.add (i * size + j)) = some (vs i j))
      (hr : ∀ (i j : Nat) x, i < n → (f i)[j]? = some x → Rd F w x (vs i j)) : Rd F w t (.slice (some a) n cap)
  | agg {l : List T} {vs : Array Value} (hs : vs.size = l.length) (hr : ∀ (j : Nat) x v, l[j]? = some x → vs[j]? = some v → Rd F w x v) : Rd F w (.agg l) (.agg vs)

theorem Rd.mono {F F' : Nat → Prop} {w w' : World} (h : ∀ b, F b → F' b ∧ w'.heap[b]? = w.heap[b]?) {t : T} {v : Value} (r : Rd F w t v) : Rd F' w' t v := by
  induction r with
  | int k n => exact .int k n
  | bool b => exact .bool b
  | str s => exact .str s
  | nil h => exact .nil h
  | sl a cap size vs hw hc hF hs hv hr ih =>
    refine .sl a cap size vs hw hc (fun hn => (h _ (hF hn)).1) hs (fun i j hi hj => ?_) ih
    have hb : (a.add (i * size + j)).block = a.block := by unfold Addr.add; split <;> rfl
    rw [World.cell?_of_block (w := w) (w' := w') (by rw [hb]; exact (h _ (hF (by omega))).2)]
    exact hv i j hi hj
  | agg hs hr ih => exact .agg hs ih

inductive PV where
  | t (x : T)
  | ptr (o off : Nat)
  | eptr (l : List T)
  | own (o : Nat)
  | aptr (o s i off : Nat)
  | map (o : Nat)
  | nil
  | np
  | fn (f : Fn) (n : Nat) (cs : List PV)
  | tup (l : List PV)
  | agg (l : List PV)
  | any
  | lit (v : Value)
instance : Inhabited PV := ⟨.nil⟩

inductive VR (F : Nat → Prop) (g : Nat → Value) (w : World) : PV → Value → Prop
  | t {x : T} {v : Value} (h : Rd F w x v) : VR F g w (.t x) v
  | ptr {o off b : Nat} (h : g o = .pointer (some ⟨b, 0, none⟩)) : VR F g w (.ptr o off) (.pointer (some ⟨b, off, none⟩))
  | eptr {l : List T} (a : Addr) (hF : l ≠ [] → F a.block) (h : ∀ (j : Nat) x, l[j]? = some x → ∃ u, w.cell? (a.add j) = some u ∧ Rd F w x u) : VR F g w (.eptr l) (.pointer (some a))
  | own {o n cap : Nat} {a : Option Addr} (h : g o = .slice a n cap) : VR F g w (.own o) (.slice a n cap)
  | aptr {o s i off b n cap : Nat} (h : g o = .slice (some ⟨b, 0, none⟩) n cap) : VR F g w (.aptr o s i off) (.pointer (some ⟨b, i * s + off, none⟩))
  | map {o b : Nat} (h : g o = .map (some b)) : VR F g w (.map o) (.map (some b))
  | nil : VR F g w .nil (.slice none 0 0)
  | np : VR F g w .np (.pointer none)
  | fn {f : Fn} {n : Nat} {cs : List PV} {us vs : Array Value} (hn : us.size = n) (hs : (us ++ vs).size = cs.length) (hr : ∀ (j : Nat) x v, cs[j]? = some x → (us ++ vs)[j]? = some v → VR F g w x v) : VR F g w (.fn f n cs) (.func f us vs)
  | tup {l : List PV} {vs : Array Value} (hs : vs.size = l.length) (hr : ∀ (j : Nat) x v, l[j]? = some x → vs[j]? = some v → VR F g w x v) : VR F g w (.tup l) (.tuple vs)
  | agg {l : List PV} {vs : Array Value} (hs : vs.size = l.length) (hr : ∀ (j : Nat) x v, l[j]? = some x → vs[j]? = some v → VR F g w x v) : VR F g w (.agg l) (.agg vs)
  | any {v : Value} (h : v.cells = #[v]) : VR F g w .any v
  | lit {v : Value} (h : v.cells = #[v]) : VR F g w (.lit v) v

/-- which names does it mention? -/
def PV.names : PV → List Nat
  | .ptr o _ => [o]
  | .own o => [o]
  | .aptr o _ _ _ => [o]
  | .map o => [o]
  | .fn _ _ cs => go cs
  | .tup l => go l
  | .agg l => go l
  | _ => []
where go : List PV → List Nat
  | [] => []
  | x :: l => x.names ++ go l

theorem PV.names_go_mem {l : List PV} {j : Nat} {x : PV} {o : Nat} (h : l[j]? = some x) (ho : o ∈ x.names) : o ∈ PV.names.go l := by
  induction l generalizing j with
  | nil => simp at h
  | cons y l ih =>
    simp only [PV.names.go, List.mem_append]
    cases j with
    | zero => simp at h; subst h; exact .inl ho
    | succ j => exact .inr (ih (by simpa using h))

theorem VR.mono {F F' : Nat → Prop} {g g' : Nat → Value} {w w' : World} (h : ∀ b, F b → F' b ∧ w'.heap[b]? = w.heap[b]?) {p : PV} {v : Value} (r : VR F g w p v)
    (hg : ∀ o, o ∈ p.names → g' o = g o) : VR F' g' w' p v := by
  induction r with
  | t r => exact .t (r.mono h)
  | ptr e => exact .ptr (by rw [hg _ (by simp [PV.names])]; exact e)
  | eptr a hF e =>
    refine .eptr a (fun hl => (h _ (hF hl)).1) (fun j x hx => ?_)
    obtain ⟨u, hu, hr⟩ := e j x hx
    refine ⟨u, ?_, hr.mono h⟩
    have hb : (a.add j).block = a.block := by unfold Addr.add; split <;> rfl
    have hl : F a.block := hF (by intro hn; subst hn; simp at hx)
    rw [World.cell?_of_block (w := w) (w' := w') (by rw [hb]; exact (h _ hl).2)]
    exact hu
  | own e => exact .own (by rw [hg _ (by simp [PV.names])]; exact e)
  | aptr e => exact .aptr (by rw [hg _ (by simp [PV.names])]; exact e)
  | map e => exact .map (by rw [hg _ (by simp [PV.names])]; exact e)
  | nil => exact .nil
  | np => exact .np
  | any h => exact .any h
  | lit h => exact .lit h
  | fn hn hs hr ih => exact .fn hn hs fun j x v hx hv => ih j x v hx hv fun o ho => hg o (by simp only [PV.names]; exact PV.names_go_mem hx ho)
  | tup hs hr ih => exact .tup hs fun j x v hx hv => ih j x v hx hv fun o ho => hg o (by simp only [PV.names]; exact PV.names_go_mem hx ho)
  | agg hs hr ih => exact .agg hs fun j x v hx hv => ih j x v hx hv fun o ho => hg o (by simp only [PV.names]; exact PV.names_go_mem hx ho)

end Go.PL
