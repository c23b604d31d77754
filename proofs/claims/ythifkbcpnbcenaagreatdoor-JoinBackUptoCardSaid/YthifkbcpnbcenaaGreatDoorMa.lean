/-
  Parts: The abstract values of the seat's program logic and what they say of a world. Own work. Abstract states: a frame of abstract values, a heap of abstract objects; what they say of an activation and a world. Own work. Operations that leave the world alone, evaluated on abstract states; soundness. Own work. Value operations on abstract states, with the condition under which they go through; soundness. Own work. Soundness of the value operations. Own work. Soundness of the value operations: addresses, aggregates, slices of strings; all of them. Own work. Maps whose keys are arrays of numbers and whose values are truth values. Own work. The value operations, all in one. Own work. Operations that make or write memory, on abstract states; soundness. Own work. Soundness of the operations that make or write memory. Own work. append, buildSlice, store; all operations that make or write memory. Own work. buildSlice, store; all operations that make or write memory. Own work. append of a string's bytes to a row of ours. Own work (the proofs of Pj, for strings). Runs of operations, and the rules for code, on abstract states. Own work. The rules: regions, code, calls, functions. Own work.
-/
import Derived.WalkKit
import Derived.KernelRfl
import Derived.Laws.StructEq
import Derived.WideKeyRuns
import Derived.Laws.Pointers
import Derived.Maps.RangeRun
import Derived.LaidEqlPtr
import Derived.Lib.AppendStr
import Derived.LoopN
import Derived.Lib.LaidTab
import Derived.Lib.ItoaNum
namespace Go.PL
open Go
inductive Expr where
 | mk (Op N:Int) (S:ByteArray) (Args:List Expr)
instance:Inhabited Expr:=⟨.mk 0 0 ByteArray.empty []⟩
def Expr.Op:Expr→Int | .mk a _ _ _=>a
def Expr.N:Expr→Int | .mk _ a _ _=>a
def Expr.S:Expr→ByteArray | .mk _ _ a _=>a
def Expr.Args:Expr→List Expr | .mk _ _ _ a=>a
inductive Lz where
 | exprs (l:List Expr)
inductive T where
 | int (k:IntKind) (n:Int)
 | bool (b:Bool)
 | str (s:ByteArray)
 | sl (n:Nat) (f:Nat→List T)
 | agg (l:List T)
 | lz (x:Lz)
 | fv (f:Nat)
instance:Inhabited T:=⟨.bool false⟩
abbrev T.i (n:Int):T:=.int .i64 n
def exprCells(e:Expr):List T:=[.int .i64 e.Op,.int .i64 e.N,.str e.S,.lz (.exprs e.Args)]
def Lz.len:Lz→Nat | .exprs l=>l.length
def Lz.cells:Lz→Nat→List T | .exprs l=>fun i=>exprCells (l.getD i default)
def T.view:T→Option (Nat×(Nat→List T))
 | .sl n f=>some (n,f)
 | .lz x=>some (x.len,x.cells)
 | _=>none
inductive Rd (F:Nat→Prop)(w:World):T→Value→Prop
 | int (k:IntKind) (n:Int):Rd F w (.int k n) (.int k n)
 | bool (b:Bool):Rd F w (.bool b) (.bool b)
 | str (s:ByteArray):Rd F w (.str s) (.string s)
 | fv (f:Nat):Rd F w (.fv f) (.func (.func f) #[] #[])
 | nil {t:T} {f:Nat→List T} (h:t.view=some (0,f)):Rd F w t (.slice none 0 0)
 | sl {t:T} {n:Nat} {f:Nat→List T} (a:Addr) (cap size:Nat) (vs:Nat→Nat→Value) (h:t.view=some (n,f)) (hc:n≤cap) (hF:0<n→F a.block)
   (hs:∀ i,i<n→(f i).length=size) (hv:∀ i j,i<n→j<size→w.cell? (a.add (i*size+j))=some (vs i j))
   (hr:∀ (i j:Nat) x,i<n→(f i)[j]? = some x→Rd F w x (vs i j)):Rd F w t (.slice (some a) n cap)
 | agg {l:List T} {vs:Array Value} (hs:vs.size=l.length) (hr:∀ (j:Nat) x v,l[j]? = some x→vs[j]? = some v→Rd F w x v):Rd F w (.agg l) (.agg vs)
theorem Rd.mono{F F':Nat→Prop}{w w':World}(h:∀ b,F b→F' b∧w'.heap[b]? = w.heap[b]?){t:T}{v:Value}(r:Rd F w t v):Rd F' w' t v:=by
 induction r with
 | int k n=>exact .int k n
 | bool b=>exact .bool b
 | str s=>exact .str s
 | fv f=>exact .fv f
 | nil h=>exact .nil h
 | sl a cap size vs hw hc hF hs hv hr ih=>
  refine .sl a cap size vs hw hc (fun hn=>(h _ (hF hn)).1) hs (fun i j hi hj=>?_) ih
  have hb:(a.add (i*size+j)).block=a.block:=by unfold Addr.add; split <;> rfl
  rw[World.cell?_of_block (w:=w) (w':=w') (by rw[hb]; exact(h _ (hF (by omega))).2)]
  exact hv i j hi hj
 | agg hs hr ih=>exact .agg hs ih
inductive PV where
 | t (x:T)
 | ptr (o off:Nat)
 | eptr (l:List T)
 | own (o:Nat)
 | aptr (o s i off:Nat)
 | map (o:Nat)
 | nil
 | np
 | fn (f:Fn) (n:Nat) (cs:List PV)
 | tup (l:List PV)
 | agg (l:List PV)
 | any
 | lit (v:Value)
instance:Inhabited PV:=⟨.nil⟩
inductive VR (F:Nat→Prop)(g:Nat→Value)(w:World):PV→Value→Prop
 | t {x:T} {v:Value} (h:Rd F w x v):VR F g w (.t x) v
 | ptr {o off b:Nat} (h:g o = .pointer (some ⟨b,0,none⟩)):VR F g w (.ptr o off) (.pointer (some ⟨b,off,none⟩))
 | eptr {l:List T} (a:Addr) (hF:l≠[]→F a.block) (h:∀ (j:Nat) x,l[j]? = some x→∃ u,w.cell? (a.add j)=some u∧Rd F w x u):VR F g w (.eptr l) (.pointer (some a))
 | own {o n cap:Nat} {a:Option Addr} (h:g o = .slice a n cap):VR F g w (.own o) (.slice a n cap)
 | aptr {o s i off b n cap:Nat} (h:g o = .slice (some ⟨b,0,none⟩) n cap):VR F g w (.aptr o s i off) (.pointer (some ⟨b,i*s+off,none⟩))
 | map {o b:Nat} (h:g o = .map (some b)):VR F g w (.map o) (.map (some b))
 | nil:VR F g w .nil (.slice none 0 0)
 | np:VR F g w .np (.pointer none)
 | fn {f:Fn} {n:Nat} {cs:List PV} {us vs:Array Value} (hn:us.size=n) (hs:(us++vs).size=cs.length) (hr:∀ (j:Nat) x v,cs[j]? = some x→(us++vs)[j]? = some v→VR F g w x v):VR F g w (.fn f n cs) (.func f us vs)
 | tup {l:List PV} {vs:Array Value} (hs:vs.size=l.length) (hr:∀ (j:Nat) x v,l[j]? = some x→vs[j]? = some v→VR F g w x v):VR F g w (.tup l) (.tuple vs)
 | agg {l:List PV} {vs:Array Value} (hs:vs.size=l.length) (hr:∀ (j:Nat) x v,l[j]? = some x→vs[j]? = some v→VR F g w x v):VR F g w (.agg l) (.agg vs)
 | any {v:Value} (h:v.cells=#[v]):VR F g w .any v
 | lit {v:Value} (h:v.cells=#[v]):VR F g w (.lit v) v
def PV.names:PV→List Nat
 | .ptr o _=>[o]
 | .own o=>[o]
 | .aptr o _ _ _=>[o]
 | .map o=>[o]
 | .fn _ _ cs=>go cs
 | .tup l=>go l
 | .agg l=>go l
 | _=>[]
where go:List PV→List Nat
 | []=>[]
 | x::l=>x.names++go l
theorem PV.names_go_mem{l:List PV}{j:Nat}{x:PV}{o:Nat}(h:l[j]? = some x)(ho:o∈x.names):o∈PV.names.go l:=by
 induction l generalizing j with
 | nil=>simp at h
 | cons y l ih=>
  simp only[PV.names.go,List.mem_append]
  cases j with
  | zero=>simp at h; subst h; exact .inl ho
  | succ j=>exact .inr (ih (by simpa using h))
theorem VR.mono{F F':Nat→Prop}{g g':Nat→Value}{w w':World}(h:∀ b,F b→F' b∧w'.heap[b]? = w.heap[b]?){p:PV}{v:Value}(r:VR F g w p v)
  (hg:∀ o,o∈p.names→g' o=g o):VR F' g' w' p v:=by
 induction r with
 | t r=>exact .t (r.mono h)
 | ptr e=>exact .ptr (by rw[hg _ (by simp[PV.names])]; exact e)
 | eptr a hF e=>
  refine .eptr a (fun hl=>(h _ (hF hl)).1) (fun j x hx=>?_)
  obtain⟨u,hu,hr⟩:=e j x hx
  refine⟨u,?_,hr.mono h⟩
  have hb:(a.add j).block=a.block:=by unfold Addr.add; split <;> rfl
  have hl:F a.block:=hF (by intro hn; subst hn; simp at hx)
  rw[World.cell?_of_block (w:=w) (w':=w') (by rw[hb]; exact(h _ hl).2)]
  exact hu
 | own e=>exact .own (by rw[hg _ (by simp[PV.names])]; exact e)
 | aptr e=>exact .aptr (by rw[hg _ (by simp[PV.names])]; exact e)
 | map e=>exact .map (by rw[hg _ (by simp[PV.names])]; exact e)
 | nil=>exact .nil
 | np=>exact .np
 | any h=>exact .any h
 | lit h=>exact .lit h
 | fn hn hs hr ih=>exact .fn hn hs fun j x v hx hv=>ih j x v hx hv fun o ho=>hg o (by simp only[PV.names]; exact PV.names_go_mem hx ho)
 | tup hs hr ih=>exact .tup hs fun j x v hx hv=>ih j x v hx hv fun o ho=>hg o (by simp only[PV.names]; exact PV.names_go_mem hx ho)
 | agg hs hr ih=>exact .agg hs fun j x v hx hv=>ih j x v hx hv fun o ho=>hg o (by simp only[PV.names]; exact PV.names_go_mem hx ho)
inductive Mem where
 | d (x:T)
 | box (l:List T)
 | row (e:TypeId) (s n:Nat) (f:Nat→List T)
instance:Inhabited Mem:=⟨.box []⟩
def Mem.owned:Mem→Bool
 | .d _=>false
 | _=>true
inductive Cel where
 | d (x:T)
 | row (e:TypeId) (s n:Nat) (f:Nat→List T)
 | any
instance:Inhabited Cel:=⟨.any⟩
def Cel.owned:Cel→Bool
 | .row ..=>true
 | _=>false
structure Iter where
 o:Nat
 rem:List T
 cur:Option T
inductive PObj where
 | box (l:List PV)
 | arr (e:TypeId) (s n:Nat) (f:Nat→List T)
 | mpb (n:Nat) (m:List (List Int×Bool))
 | mp (it:Option Iter) (m:List (T×Mem)) (hole:Option (T×Option PV))
 | bld (ty e:TypeId) (s:ByteArray)
 | arm (e:TypeId) (s n:Nat) (f:Nat→List Cel) (ov:Option (Nat×Nat×PV))
instance:Inhabited PObj:=⟨.box []⟩
def itN:Option Iter→List Nat
 | none=>[]
 | some i=>[i.o]
def hoN:Option (T×Option PV)→List Nat
 | some (_,some p)=>p.names
 | _=>[]
def ovN:Option (Nat×Nat×PV)→List Nat
 | some (_,_,p)=>p.names
 | none=>[]
def PObj.names:PObj→List Nat
 | .box l=>PV.names.go l
 | .arr ..=>[]
 | .mpb ..=>[]
 | .mp it _ ho=>itN it++hoN ho
 | .bld ..=>[]
 | .arm _ _ _ _ ov=>ovN ov
def PObj.plain:PObj→Bool
 | .mp ..=>false
 | .bld ..=>false
 | .arm ..=>false
 | _=>true
def blk:Value→Option Nat
 | .pointer (some a)=>some a.block
 | .slice (some a) _ _=>some a.block
 | .map (some b)=>some b
 | _=>none
def intsV(l:List Int):Value:=.agg (l.map (Value.int .i64)).toArray
def BoxV(F:Nat→Prop)(g:Nat→Value)(w:World)(u:Value)(l:List PV):Prop:=
 ∃ b vs ty,u = .pointer (some ⟨b,0,none⟩)∧w.heap[b]? = some (.cells vs ty (0,0))∧vs.size=l.length∧∀ (j:Nat) x v,l[j]? = some x→vs[j]? = some v→VR F g w x v
def ArrV(F:Nat→Prop)(w:World)(u:Value)(e:TypeId)(s n:Nat)(f:Nat→List T):Prop:=
 (u = .slice none 0 0∧n=0)∨∃ b cap cur,u = .slice (some ⟨b,0,none⟩) n cap∧w.heap[b]? = some (.cells cur e (0,0))∧n≤cap∧cap≤maxLen ∧
   cur.size=cap*s∧(∀ i,i<n→(f i).length=s)∧∀ (i j:Nat) x,i<n→(f i)[j]? = some x→∃ v,cur[i*s+j]? = some v∧Rd F w x v
def MemR(F:Nat→Prop)(w:World):Mem→Value→Prop
 | .d x,v=>Rd F w x v
 | .box l,v=>BoxV F (fun _=>undef) w v (l.map .t)
 | .row e s n f,v=>ArrV F w v e s n f
inductive KeyR:T→Value→Prop
 | int (k:IntKind) (n:Int):KeyR (.int k n) (.int k n)
 | str (s:ByteArray):KeyR (.str s) (.string s)
def EntR(F:Nat→Prop)(w:World)(x:T×Mem)(e:MapEntry):Prop:=KeyR x.1 e.key∧MemR F w x.2 e.val
inductive AllR {α β:Type}(R:α→β→Prop):List α→List β→Prop
 | nil:AllR R [] []
 | cons {a:α} {b:β} {l:List α} {r:List β} (h:R a b) (t:AllR R l r):AllR R (a::l) (b::r)
def HoleR(F:Nat→Prop)(g:Nat→Value)(w:World):Option (T×Option PV)→List MapEntry→Prop
 | none,l=>l=[]
 | some (k,none),l=>l=[]∨∃ e,l=[e]∧KeyR k e.key
 | some (k,some p),l=>∃ e,l=[e]∧KeyR k e.key∧VR F g w p e.val
def hoK:Option (T×Option PV)→List T
 | none=>[]
 | some (k,_)=>[k]
def ItR(g:Nat→Value)(w:World)(b:Nat)(es:Array MapEntry)(clock:Nat):Option Iter→Prop
 | none=>True
 | some i=>∃ r since seen c0,g i.o = .pointer (some ⟨r,0,none⟩)∧w.heap[r]? = some (.mapIter (some b) since seen c0)∧(∀ e,e∈es.toList→e.born<since)∧(since≤c0∧since≤clock) ∧
   (∀ e,e∈es.toList→((∃ k,k∈i.rem∧KeyR k e.key)↔seen.contains e.born=false))∧(∀ k,k∈i.rem→∃ e,e∈es.toList∧KeyR k e.key)∧i.rem.Nodup ∧
   ∀ k,i.cur=some k→c0=clock∧(∃ e,e∈es.toList∧KeyR k e.key∧∃ q:Array Nat,seen=q.push e.born)∧k∉i.rem
structure MpR (F:Nat→Prop)(g:Nat→Value)(w:World)(b:Nat)(es:Array MapEntry)(clock:Nat)(it:Option Iter)(m:List (T×Mem))(ho:Option (T×Option PV))(l r:List MapEntry):Prop where
 perm:(l++r).Perm es.toList
 ent:AllR (EntR F w) m l
 hole:HoleR F g w ho r
 keys:(m.map (·.1)++hoK ho).Nodup
 born:(es.toList.map (·.born)).Nodup
 old:∀ e,e∈es.toList→e.born<clock
 sep:∀ (i j:Nat) x y e e' c,m[i]? = some x→m[j]? = some y→l[i]? = some e→l[j]? = some e'→i≠j→x.2.owned=true→y.2.owned=true→blk e.val=some c→blk e'.val=some c→False
 it:ItR g w b es clock it
def byteCs(s:ByteArray):List Value:=s.data.toList.map fun b=>Value.int .u8 b.toNat
def BldV(w:World)(u:Value)(ty e:TypeId)(s:ByteArray):Prop:=
 ∃ b p v,u = .pointer (some ⟨b,0,none⟩)∧w.heap[b]? = some (.cells #[p,v] ty (0,0))∧(p = .pointer none∨p = .pointer (some ⟨b,0,none⟩)) ∧
  ((v = .slice none 0 0∧s.size=0)∨∃ r cap cur,v = .slice (some ⟨r,0,none⟩) s.size cap∧w.heap[r]? = some (.cells cur e (0,0))∧r≠b∧s.size≤cap∧cap≤maxLen∧cur.size=cap∧cur.toList.take s.size=byteCs s)
def CelR(F:Nat→Prop)(w:World):Cel→Value→Prop
 | .d x,v=>Rd F w x v
 | .row e s n f,v=>ArrV F w v e s n f
 | .any,_=>True
structure ArmC (F:Nat→Prop)(g:Nat→Value)(w:World)(b:Nat)(s n:Nat)(f:Nat→List Cel)(ov:Option (Nat×Nat×PV))(cur:Array Value):Prop where
 len:∀ i,i<n→(f i).length=s
 cell:∀ (i j:Nat) x,i<n→(f i)[j]? = some x→∃ v,cur[i*s+j]? = some v∧CelR F w x v
 sep:∀ (i j i' j':Nat) x x' v v' c,i<n→i' < n→(f i)[j]? = some x→(f i')[j']? = some x'→x.owned=true→x'.owned=true→cur[i*s+j]? = some v→cur[i'*s+j']? = some v'→blk v=some c→blk v'=some c→i=i'∧j=j'
 own:∀ (i j:Nat) x v,i<n→(f i)[j]? = some x→x.owned=true→cur[i*s+j]? = some v→blk v≠some b
 ov:∀ i j p,ov=some (i,j,p)→i<n∧(f i)[j]? = some .any∧∀ v,cur[i*s+j]? = some v→VR F g w p v
def ArmV(F:Nat→Prop)(g:Nat→Value)(w:World)(u:Value)(e:TypeId)(s n:Nat)(f:Nat→List Cel)(ov:Option (Nat×Nat×PV)):Prop:=
 (u = .slice none 0 0∧n=0∧ov=none)∨∃ b cap cur,u = .slice (some ⟨b,0,none⟩) n cap∧w.heap[b]? = some (.cells cur e (0,0))∧n≤cap∧cap≤maxLen∧cur.size=cap*s∧ArmC F g w b s n f ov cur
def ObjR(F:Nat→Prop)(g:Nat→Value)(w:World)(o:Nat):PObj→Prop
 | .arm e s n f ov=>ArmV F g w (g o) e s n f ov
 | .bld ty e s=>BldV w (g o) ty e s
 | .box l=>BoxV F g w (g o) l
 | .arr e s n f=>ArrV F w (g o) e s n f
 | .mpb n m=>∃ b es clock,g o = .map (some b)∧w.heap[b]? = some (.map es clock)∧es.size=m.length∧(∀ x,x∈m→x.1.length=n) ∧
   ∀ (j:Nat) e x,es[j]? = some e→m[j]? = some x→e.key=intsV x.1∧e.val = .bool x.2
 | .mp it m ho=>∃ b es clock,g o = .map (some b)∧w.heap[b]? = some (.map es clock)∧∃ l r,MpR F g w b es clock it m ho l r
inductive Foot (g:Nat→Value)(w:World)(o:Nat):PObj→Nat→Prop
 | self {x:PObj} {b:Nat} (h:blk (g o)=some b):Foot g w o x b
 | iter {i:Iter} {m:List (T×Mem)} {ho:Option (T×Option PV)} {b:Nat} (h:blk (g i.o)=some b):Foot g w o (.mp (some i) m ho) b
 | mem {it:Option Iter} {m:List (T×Mem)} {ho:Option (T×Option PV)} {b bm cl:Nat} {es:Array MapEntry} {e:MapEntry} {x:T×Mem} (hg:g o = .map (some bm)) (hb:w.heap[bm]? = some (.map es cl))
   (he:e∈es.toList) (hx:x∈m) (hk:KeyR x.1 e.key) (hy:x.2.owned=true) (h:blk e.val=some b):Foot g w o (.mp it m ho) b
 | bld {ty e:TypeId} {s:ByteArray} {b c:Nat} {p v:Value} (hg:g o = .pointer (some ⟨b,0,none⟩)) (hb:w.heap[b]? = some (.cells #[p,v] ty (0,0))) (h:blk v=some c):Foot g w o (.bld ty e s) c
 | arm {e:TypeId} {s n:Nat} {f:Nat→List Cel} {ov:Option (Nat×Nat×PV)} {b bm cap i j:Nat} {cur:Array Value} {x:Cel} {v:Value} (hg:g o = .slice (some ⟨bm,0,none⟩) n cap) (hb:w.heap[bm]? = some (.cells cur e (0,0))) (hi:i<n)
   (hx:(f i)[j]? = some x) (hy:x.owned=true) (hv:cur[i*s+j]? = some v) (h:blk v=some b):Foot g w o (.arm e s n f ov) b
theorem Foot.toBlk{g:Nat→Value}{w:World}{o b:Nat}{x:PObj}(h:Foot g w o x b)(hx:x.plain=true):blk (g o)=some b:=by
 cases h with
 | self h=>exact h
 | iter h=>cases hx
 | mem=>cases hx
 | bld=>cases hx
 | arm=>cases hx
abbrev Fr:=List (Nat×PV)
abbrev Hp:=List (Nat×PObj)
structure St where
 fr:Fr
 hp:Hp
def look{α:Type}:List (Nat×α)→Nat→Option α
 | [],_=>none
 | (k,v)::l,t=>match Nat.beq k t with | true=>some v | false=>look l t
theorem look_mem{α:Type}{l:List (Nat×α)}{t:Nat}{v:α}(h:look l t=some v):(t,v)∈l:=by
 induction l with
 | nil=>simp[look]at h
 | cons e l ih=>
  obtain⟨k,u⟩:=e
  unfold look at h
  split at h
  ·rename_i hk
   have:k=t:=Nat.eq_of_beq_eq_true hk
   simp at h; subst this; subst h; simp
  ·exact List.mem_cons_of_mem _ (ih h)
def del{α:Type}(t:Nat)(l:List (Nat×α)):List (Nat×α):=l.filter fun e=>!(Nat.beq e.1 t)
theorem mem_del{α:Type}{t k:Nat}{v:α}{l:List (Nat×α)}:(k,v)∈del t l↔(k,v)∈l∧k≠t:=by
 simp only[del,List.mem_filter]
 refine and_congr_right fun _=>?_
 cases h:Nat.beq k t with
 | true=>simp[Nat.eq_of_beq_eq_true h]
 | false=>simp[Nat.ne_of_beq_eq_false h]
def St.put(st:St)(d:Nat)(x:PV):St:={ st with fr:=(d,x)::del d st.fr }
structure Env where
 w0:World
 F0:Nat→Prop
 B0:Nat→Prop
 g0:Nat→Value
 N:List Nat
 nt:Nat
structure HpR (F:Nat→Prop)(g:Nat→Value)(w:World)(B:Nat→Prop)(H:Hp):Prop where
 obj:∀ o x,(o,x)∈H→ObjR F g w o x
 own:∀ o x b,(o,x)∈H→Foot g w o x b→¬ F b∧B b
 sep:∀ o x o' y b,(o,x)∈H→(o',y)∈H→o≠o'→Foot g w o x b→Foot g w o' y b→False
structure ExtB (B:Nat→Prop)(w0 w:World):Prop where
 os:w.os=w0.os
 tape:w.tape=w0.tape
 output:w.output=w0.output
 size:w0.heap.size≤w.heap.size
 block:∀ b,b<w0.heap.size→¬ B b→w.heap[b]? = w0.heap[b]?
structure RelW (E:Env)(F:Nat→Prop)(g:Nat→Value)(H:Hp)(w:World):Prop where
 hp:HpR F g w (fun b=>E.B0 b∨E.w0.heap.size≤b) H
 f0:∀ b,E.F0 b→F b
 f1:∀ b,F b→b<w.heap.size∧(E.F0 b∨E.B0 b∨E.w0.heap.size≤b)
 ext:ExtB E.B0 E.w0 w
 names:∀ o,o∈E.N→g o=E.g0 o
 b0:∀ b,E.B0 b→b<E.w0.heap.size
structure RelG (E:Env)(F:Nat→Prop)(g:Nat→Value)(st:St)(a:Act)(w:World):Prop where
 nt:a.tmps.size=E.nt
 df:a.defers=[]
 fr:∀ t x,(t,x)∈st.fr→VR F g w x (a.tmps.getD t undef)
 w:RelW E F g st.hp w
def Rel(E:Env)(st:St)(a:Act)(w:World):Prop:=∃ F g,RelG E F g st a w
theorem AllR.get{α β:Type}{R:α→β→Prop}{l:List α}{r:List β}(h:AllR R l r):r.length=l.length∧∀ (j:Nat) a b,l[j]? = some a→r[j]? = some b→R a b:=by
 induction h with
 | nil=>simp
 | cons h _ ih=>
  refine⟨by simp[ih.1],fun j a b ha hb=>?_⟩
  cases j with
  | zero=>simp at ha hb; subst ha; subst hb; exact h
  | succ j=>exact ih.2 j a b (by simpa using ha) (by simpa using hb)
theorem AllR.mono{α β:Type}{R R':α→β→Prop}{l:List α}{r:List β}(h:AllR R l r)(hr:∀ a b,a∈l→b∈r→R a b→R' a b):AllR R' l r:=by
 induction h with
 | nil=>exact .nil
 | cons h _ ih=>exact .cons (hr _ _ (by simp) (by simp) h) (ih fun a b ha hb=>hr a b (List.mem_cons_of_mem _ ha) (List.mem_cons_of_mem _ hb))
theorem AllR.mem{α β:Type}{R:α→β→Prop}{l:List α}{r:List β}(h:AllR R l r){a:α}(ha:a∈l):∃ (j:Nat) (b:β),l[j]? = some a∧r[j]? = some b∧R a b:=by
 obtain⟨j,hj,rfl⟩:=List.mem_iff_getElem.1 ha
 have hj':j<r.length:=by rw[h.get.1]; exact hj
 exact⟨j,r[j],by simp[hj],by simp[hj'],h.get.2 j _ _ (by simp[hj]) (by simp[hj'])⟩
theorem AllR.memr{α β:Type}{R:α→β→Prop}{l:List α}{r:List β}(h:AllR R l r){b:β}(hb:b∈r):∃ (j:Nat) (a:α),l[j]? = some a∧r[j]? = some b∧R a b:=by
 obtain⟨j,hj,rfl⟩:=List.mem_iff_getElem.1 hb
 have hj':j<l.length:=by rw[←h.get.1]; exact hj
 exact⟨j,l[j],by simp[hj'],by simp[hj],h.get.2 j _ _ (by simp[hj']) (by simp[hj])⟩
theorem KeyR.inj{k k':T}{v:Value}(h:KeyR k v)(h':KeyR k' v):k=k':=by
 cases h <;> cases h' <;> rfl
theorem KeyR.inj'{k:T}{v v':Value}(h:KeyR k v)(h':KeyR k v'):v=v':=by
 cases h <;> cases h' <;> rfl
theorem MemR.block{F:Nat→Prop}{w:World}{y:Mem}{v:Value}(h:MemR F w y v)(hy:y.owned=true){b:Nat}(hb:blk v=some b):∃ vs ty,w.heap[b]? = some (.cells vs ty (0,0)):=by
 cases y with
 | d x=>cases hy
 | box l=>
  obtain⟨b',vs,ty,h1,h2,_⟩:=h
  rw[h1]at hb; simp[blk]at hb; subst hb; exact⟨_,_,h2⟩
 | row e s n f=>
  rcases h with⟨h1,_⟩ | ⟨b',cap,cur,h1,h2,_⟩
  ·rw[h1]at hb; simp[blk]at hb
  ·rw[h1]at hb; simp[blk]at hb; subst hb; exact⟨_,_,h2⟩
theorem MpR.entry{F:Nat→Prop}{g:Nat→Value}{w:World}{b clock:Nat}{es:Array MapEntry}{it:Option Iter}{m:List (T×Mem)}{ho:Option (T×Option PV)}{l r:List MapEntry}(h:MpR F g w b es clock it m ho l r)
  {x:T×Mem}{e:MapEntry}(hx:x∈m)(he:e∈es.toList)(hk:KeyR x.1 e.key):EntR F w x e∧∃ j:Nat,m[j]? = some x∧l[j]? = some e:=by
 have hnd:=h.keys
 rw[List.nodup_append]at hnd
 obtain⟨hn1,hn2,hn3⟩:=hnd
 have he':=h.perm.mem_iff.2 he
 rcases List.mem_append.1 he' with hl | hr
 ·obtain⟨j,y,hy,hj,hR⟩:=h.ent.memr hl
  obtain⟨i,hi,rfl⟩:=List.mem_iff_getElem.1 hx
  have hyx:y.1=(m[i]).1:=hR.1.inj hk
  have hj':j<m.length:=(List.getElem?_eq_some_iff.1 hy).1
  have:j=i:=by
   have e1:(m.map (·.1))[j]? = some y.1:=by simp[hy]
   have e2:(m.map (·.1))[i]? = some y.1:=by simp[hi,hyx]
   exact(List.getElem?_inj (by simpa using hj') hn1).1 (e1.trans e2.symm)
  subst this
  have:y=m[j]:=by have:=(List.getElem?_eq_some_iff.1 hy).2; exact this.symm
  subst this
  exact⟨hR,j,by simp[hj'],hj⟩
 ·exfalso
  have hmem:x.1∈m.map (·.1):=List.mem_map_of_mem hx
  have hh:=h.hole
  cases ho with
  | none=>simp only[HoleR]at hh; subst hh; simp at hr
  | some kp=>
   obtain⟨k,p⟩:=kp
   have hk':KeyR k e.key:=by
    cases p with
    | none=>
     rcases hh with rfl | ⟨e',rfl,h2⟩
     ·simp at hr
     ·simp at hr; subst hr; exact h2
    | some p=>
     obtain⟨e',rfl,h2,_⟩:=hh
     simp at hr; subst hr; exact h2
   have:k=x.1:=hk'.inj hk
   exact hn3 _ hmem k (by simp[hoK]) this.symm
theorem CelR.block{F:Nat→Prop}{w:World}{y:Cel}{v:Value}(h:CelR F w y v)(hy:y.owned=true){b:Nat}(hb:blk v=some b):∃ vs ty,w.heap[b]? = some (.cells vs ty (0,0)):=by
 cases y with
 | d x=>cases hy
 | any=>cases hy
 | row e s n f=>
  rcases h with⟨h1,_⟩ | ⟨b',cap,cur,h1,h2,_⟩
  ·rw[h1]at hb; simp[blk]at hb
  ·rw[h1]at hb; simp[blk]at hb; subst hb; exact⟨_,_,h2⟩
theorem Foot.block{F:Nat→Prop}{g:Nat→Value}{w:World}{o:Nat}{x:PObj}{b:Nat}(hf:Foot g w o x b)(h:ObjR F g w o x):b<w.heap.size:=by
 have lt:∀ {b:Nat} {ob:Obj},w.heap[b]? = some ob→b<w.heap.size:=fun h=>(Array.getElem?_eq_some_iff.1 h).1
 cases hf with
 | self hb=>
  cases x with
  | box l=>
   obtain⟨b',vs,ty,h1,h2,_⟩:=h
   rw[h1]at hb; simp[blk]at hb; subst hb; exact lt h2
  | arr e s n f=>
   rcases h with⟨h1,_⟩ | ⟨b',cap,cur,h1,h2,_⟩
   ·rw[h1]at hb; simp[blk]at hb
   ·rw[h1]at hb; simp[blk]at hb; subst hb; exact lt h2
  | mpb n m=>
   obtain⟨b',es,cl,h1,h2,_⟩:=h
   rw[h1]at hb; simp[blk]at hb; subst hb; exact lt h2
  | mp it m ho=>
   obtain⟨b',es,cl,h1,h2,_⟩:=h
   rw[h1]at hb; simp[blk]at hb; subst hb; exact lt h2
  | bld ty e s=>
   obtain⟨b',p,v,h1,h2,_⟩:=h
   rw[h1]at hb; simp[blk]at hb; subst hb; exact lt h2
  | arm e s n f ov=>
   rcases h with⟨h1,_⟩ | ⟨b',cap,cur,h1,h2,_⟩
   ·rw[h1]at hb; simp[blk]at hb
   ·rw[h1]at hb; simp[blk]at hb; subst hb; exact lt h2
 | bld hg hb hv=>
  obtain⟨b',p,v,h1,h2,_,h3⟩:=h
  rw[h1]at hg; injection hg with hg; injection hg with hg; injection hg with hg; subst hg
  rw[h2]at hb; injection hb with hb; injection hb with hb; injection hb with hb; injection hb with hb1 hb2; injection hb2 with hb2; subst hb2
  rcases h3 with⟨h4,_⟩ | ⟨r,cap,cur,h4,h5,_⟩
  ·rw[h4]at hv; simp[blk]at hv
  ·rw[h4]at hv; simp[blk]at hv; subst hv; exact lt h5
 | arm hg hb hi hx hy hv hbl=>
  rcases h with⟨h1,_⟩ | ⟨b',cap,cur,h1,h2,_,_,_,hC⟩
  ·rw[h1]at hg; cases hg
  ·rw[h1]at hg; injection hg with hg; injection hg with hg; injection hg with hg; subst hg
   rw[h2]at hb; injection hb with hb; injection hb with hb; subst hb
   obtain⟨v',hv',hR⟩:=hC.cell _ _ _ hi hx
   rw[hv]at hv'; cases hv'
   obtain⟨vs,ty,h3⟩:=hR.block hy hbl
   exact lt h3
 | iter hb=>
  obtain⟨b',es,cl,h1,h2,l,r,hM⟩:=h
  obtain⟨r',since,seen,c0,e1,e2,_⟩:=hM.it
  rw[e1]at hb; simp[blk]at hb; subst hb; exact lt e2
 | mem hg hb he hx hk ho hv=>
  obtain⟨b',es,cl,h1,h2,l,r,hM⟩:=h
  rw[h1]at hg; injection hg with hg; injection hg with hg; subst hg
  rw[h2]at hb; injection hb with hb; injection hb with hb1 hb2; subst hb1
  obtain⟨vs,ty,h3⟩:=(hM.entry hx he hk).1.2.block ho hv
  exact lt h3
theorem ObjR.block{F:Nat→Prop}{g:Nat→Value}{w:World}{o:Nat}{x:PObj}(h:ObjR F g w o x){b:Nat}(hb:blk (g o)=some b):b<w.heap.size:=(Foot.self hb).block h
theorem BoxV.mono{F F':Nat→Prop}{g g':Nat→Value}{w w':World}(h:∀ b,F b→F' b∧w'.heap[b]? = w.heap[b]?){u:Value}{l:List PV}(r:BoxV F g w u l)(hg:∀ o,o∈PV.names.go l→g' o=g o)
  (hb:∀ b,blk u=some b→w'.heap[b]? = w.heap[b]?):BoxV F' g' w' u l:=by
 obtain⟨b,vs,ty,h1,h2,h3,h4⟩:=r
 exact⟨b,vs,ty,h1,by rw[hb b (by rw[h1]; rfl)]; exact h2,h3,fun j x v hx hv=>(h4 j x v hx hv).mono h fun o' ho'=>hg o' (PV.names_go_mem hx ho')⟩
theorem ArrV.mono{F F':Nat→Prop}{w w':World}(h:∀ b,F b→F' b∧w'.heap[b]? = w.heap[b]?){u:Value}{e:TypeId}{s n:Nat}{f:Nat→List T}(r:ArrV F w u e s n f)
  (hb:∀ b,blk u=some b→w'.heap[b]? = w.heap[b]?):ArrV F' w' u e s n f:=by
 rcases r with h1 | ⟨b,cap,cur,h1,h2,h3,h4,h5,h6,h7⟩
 ·exact .inl h1
 ·refine .inr ⟨b,cap,cur,h1,by rw[hb b (by rw[h1]; rfl)]; exact h2,h3,h4,h5,h6,fun i j x hi hx=>?_⟩
  obtain⟨v,hv,hr⟩:=h7 i j x hi hx
  exact⟨v,hv,hr.mono h⟩
theorem names_go_t(l:List T):PV.names.go (l.map PV.t)=[]:=by
 induction l with
 | nil=>rfl
 | cons x l ih=>simp[PV.names.go,PV.names,ih]
theorem MemR.mono{F F':Nat→Prop}{w w':World}(h:∀ b,F b→F' b∧w'.heap[b]? = w.heap[b]?){y:Mem}{v:Value}(r:MemR F w y v)
  (hb:∀ b,y.owned=true→blk v=some b→w'.heap[b]? = w.heap[b]?):MemR F' w' y v:=by
 cases y with
 | d x=>exact Rd.mono h r
 | box l=>exact BoxV.mono h r (fun _ _=>rfl) (fun b hb'=>hb b rfl hb')
 | row e s n f=>exact ArrV.mono h r (fun b hb'=>hb b rfl hb')
theorem HoleR.mono{F F':Nat→Prop}{g g':Nat→Value}{w w':World}(h:∀ b,F b→F' b∧w'.heap[b]? = w.heap[b]?){ho:Option (T×Option PV)}{l:List MapEntry}(r:HoleR F g w ho l)
  (hg:∀ o,o∈hoN ho→g' o=g o):HoleR F' g' w' ho l:=by
 cases ho with
 | none=>exact r
 | some kp=>
  obtain⟨k,p⟩:=kp
  cases p with
  | none=>exact r
  | some p=>
   obtain⟨e,h1,h2,h3⟩:=r
   exact⟨e,h1,h2,h3.mono h hg⟩
theorem CelR.mono{F F':Nat→Prop}{w w':World}(h:∀ b,F b→F' b∧w'.heap[b]? = w.heap[b]?){y:Cel}{v:Value}(r:CelR F w y v)
  (hb:∀ b,y.owned=true→blk v=some b→w'.heap[b]? = w.heap[b]?):CelR F' w' y v:=by
 cases y with
 | d x=>exact Rd.mono h r
 | any=>exact True.intro
 | row e s n f=>exact ArrV.mono h r (fun b hb'=>hb b rfl hb')
theorem ArmC.mono{F F':Nat→Prop}{g g':Nat→Value}{w w':World}(h:∀ b,F b→F' b∧w'.heap[b]? = w.heap[b]?){b s n:Nat}{f:Nat→List Cel}{ov:Option (Nat×Nat×PV)}{cur:Array Value}(r:ArmC F g w b s n f ov cur)
  (hg:∀ o,o∈ovN ov→g' o=g o)(hb:∀ (i j:Nat) x v c,i<n→(f i)[j]? = some x→x.owned=true→cur[i*s+j]? = some v→blk v=some c→w'.heap[c]? = w.heap[c]?):ArmC F' g' w' b s n f ov cur where
 len:=r.len
 cell:=fun i j x hi hx=>by
  obtain⟨v,hv,hR⟩:=r.cell i j x hi hx
  exact⟨v,hv,hR.mono h fun c hy hc=>hb i j x v c hi hx hy hv hc⟩
 sep:=r.sep
 own:=r.own
 ov:=fun i j p e=>by
  obtain⟨h1,h2,h3⟩:=r.ov i j p e
  subst e
  exact⟨h1,h2,fun v hv=>(h3 v hv).mono h hg⟩
theorem ObjR.monoF{F F':Nat→Prop}{g g':Nat→Value}{w w':World}(h:∀ b,F b→F' b∧w'.heap[b]? = w.heap[b]?){o:Nat}{x:PObj}(r:ObjR F g w o x)
  (ho:g' o=g o)(hg:∀ o,o∈x.names→g' o=g o)(hb:∀ b,Foot g w o x b→w'.heap[b]? = w.heap[b]?):ObjR F' g' w' o x:=by
 cases x with
 | box l=>simp only[ObjR]; rw[ho]; exact BoxV.mono h r hg (fun b hb'=>hb b (.self hb'))
 | arr e s n f=>simp only[ObjR]; rw[ho]; exact ArrV.mono h r (fun b hb'=>hb b (.self hb'))
 | mpb n m=>
  obtain⟨b,es,cl,h1,h2,h3⟩:=r
  exact⟨b,es,cl,by rw[ho]; exact h1,by rw[hb b (.self (by rw[h1]; rfl))]; exact h2,h3⟩
 | bld ty e s=>
  obtain⟨b,p,v,h1,h2,h3,h4⟩:=r
  refine⟨b,p,v,by rw[ho]; exact h1,by rw[hb b (.self (by rw[h1]; rfl))]; exact h2,h3,?_⟩
  rcases h4 with h4 | ⟨r,cap,cur,h4,h5,h6⟩
  ·exact .inl h4
  ·exact .inr ⟨r,cap,cur,h4,by rw[hb r (.bld h1 h2 (by rw[h4]; rfl))]; exact h5,h6⟩
 | arm e s n f ov=>
  simp only[ObjR]
  rcases r with⟨h1,h2⟩ | ⟨b,cap,cur,h1,h2,h3,h4,h5,hC⟩
  ·exact .inl ⟨by rw[ho]; exact h1,h2⟩
  ·exact .inr ⟨b,cap,cur,by rw[ho]; exact h1,by rw[hb b (.self (by rw[h1]; rfl))]; exact h2,h3,h4,h5,hC.mono h hg fun i j x v c hi hx hy hv hc=>hb c (.arm h1 h2 hi hx hy hv hc)⟩
 | mp it m hl=>
  obtain⟨b,es,cl,h1,h2,l,q,hM⟩:=r
  refine⟨b,es,cl,by rw[ho]; exact h1,by rw[hb b (.self (by rw[h1]; rfl))]; exact h2,l,q,hM.perm,?_,hM.hole.mono h (fun k hk=>hg k (by simp[PObj.names,hk])),hM.keys,hM.born,hM.old,hM.sep,?_⟩
  ·refine hM.ent.mono fun x e hx he hR=>⟨hR.1,hR.2.mono h fun b' ho' hb'=>hb b' ?_⟩
   exact .mem h1 h2 (hM.perm.mem_iff.1 (List.mem_append_left _ he)) hx hR.1 ho' hb'
  ·cases it with
   | none=>exact True.intro
   | some i=>
    obtain⟨r',since,seen,c0,e1,e2,e3⟩:=hM.it
    exact⟨r',since,seen,c0,by rw[hg i.o (by simp[PObj.names,itN])]; exact e1,by rw[hb r' (.iter (by rw[e1]; rfl))]; exact e2,e3⟩
theorem Foot.mono{g g':Nat→Value}{w w':World}{o:Nat}{x:PObj}(ho:g' o=g o)(hg:∀ o,o∈x.names→g' o=g o)(hb:∀ b,blk (g o)=some b→w'.heap[b]? = w.heap[b]?){b:Nat}(h:Foot g' w' o x b):Foot g w o x b:=by
 cases h with
 | self h=>exact .self (ho▸h)
 | iter h=>exact .iter (by rw[←hg _ (by simp[PObj.names,itN])]; exact h)
 | mem h1 h2 h3 h4 h5 h6 h7=>
  rw[ho]at h1
  exact .mem h1 (by rw[←hb _ (by rw[h1]; rfl)]; exact h2) h3 h4 h5 h6 h7
 | bld h1 h2 h3=>
  rw[ho]at h1
  exact .bld h1 (by rw[←hb _ (by rw[h1]; rfl)]; exact h2) h3
 | arm h1 h2 h3 h4 h5 h6 h7=>
  rw[ho]at h1
  exact .arm h1 (by rw[←hb _ (by rw[h1]; rfl)]; exact h2) h3 h4 h5 h6 h7
theorem ObjR.mono{F F':Nat→Prop}{g g':Nat→Value}{w w':World}(h:∀ b,F b→F' b∧w'.heap[b]? = w.heap[b]?){o:Nat}{x:PObj}(r:ObjR F g w o x)
  (ho:g' o=g o)(hg:∀ o,o∈x.names→g' o=g o)(hb:∀ b,Foot g w o x b→w'.heap[b]? = w.heap[b]?):ObjR F' g' w' o x:=r.monoF h ho hg hb
theorem Act.put_size(a:Act)(d:Nat)(v:Value):(a.put (some d) v).tmps.size=a.tmps.size:=by simp[Act.put]
theorem Act.put_same(a:Act)(d:Nat)(v:Value)(h:d<a.tmps.size):(a.put (some d) v).tmps.getD d undef=v:=by
 simp[Act.put,h]
theorem Act.put_other(a:Act)(d t:Nat)(v:Value)(h:t≠d):(a.put (some d) v).tmps.getD t undef=a.tmps.getD t undef:=by
 have h':d≠t:=fun e=>h e.symm
 simp only[Act.put]
 by_cases ht:t<a.tmps.size
 ·simp[ht,h']
 ·simp[ht]
theorem RelG.put{E:Env}{F:Nat→Prop}{g:Nat→Value}{st:St}{a:Act}{w:World}(r:RelG E F g st a w){d:Nat}{x:PV}{v:Value}(hd:d<E.nt)
  (h:VR F g w x v):RelG E F g (st.put d x) (a.put (some d) v) w where
 nt:=by rw[Act.put_size]; exact r.nt
 df:=r.df
 fr:=by
  intro t y hy
  simp only[St.put,List.mem_cons,Prod.mk.injEq]at hy
  rcases hy with⟨rfl,rfl⟩ | hy
  ·rw[Act.put_same _ _ _ (by rw[r.nt]; exact hd)]; exact h
  ·obtain⟨h1,h2⟩:=mem_del.1 hy
   rw[Act.put_other _ _ _ _ h2]; exact r.fr t y h1
 w:=r.w
theorem RelG.putW{E:Env}{F F':Nat→Prop}{g g':Nat→Value}{st st':St}{a:Act}{w w':World}(r:RelG E F g st a w){d:Nat}{x:PV}{v:Value}(hd:d<E.nt)
  (hf:∀ b,F b→F' b∧w'.heap[b]? = w.heap[b]?)(hg:∀ t y,(t,y)∈st'.fr→(t,y)∈st.fr∧∀ o,o∈y.names→g' o=g o)(hw:RelW E F' g' st'.hp w')
  (h:VR F' g' w' x v):RelG E F' g' (st'.put d x) (a.put (some d) v) w' where
 nt:=by rw[Act.put_size]; exact r.nt
 df:=r.df
 fr:=by
  intro t y hy
  simp only[St.put,List.mem_cons,Prod.mk.injEq]at hy
  rcases hy with⟨rfl,rfl⟩ | hy
  ·rw[Act.put_same _ _ _ (by rw[r.nt]; exact hd)]; exact h
  ·obtain⟨h1,h2⟩:=mem_del.1 hy
   obtain⟨h3,h4⟩:=hg t y h1
   rw[Act.put_other _ _ _ _ h2]; exact(r.fr t y h3).mono hf h4
 w:=hw
theorem ExtB.trans{B:Nat→Prop}{w0 w w':World}(h:ExtB B w0 w)(h1:w'.os=w.os)(h2:w'.tape=w.tape)(h3:w'.output=w.output)(h4:w.heap.size≤w'.heap.size)
  (h5:∀ b,b<w0.heap.size→¬ B b→w'.heap[b]? = w.heap[b]?):ExtB B w0 w':=
 ⟨h1.trans h.os,h2.trans h.tape,h3.trans h.output,Nat.le_trans h.size h4,fun b hb hB=>(h5 b hb hB).trans (h.block b hb hB)⟩
def PV.mentions(o:Nat)(x:PV):Bool:=x.names.any fun k=>Nat.beq k o
theorem PV.not_mentions{o:Nat}{x:PV}(h:x.mentions o=false):∀ k,k∈x.names→k≠o:=by
 intro k hk he
 subst he
 simp only[PV.mentions,List.any_eq_false]at h
 exact h k hk (Nat.beq_refl k)
def PObj.mentions(o:Nat)(x:PObj):Bool:=x.names.any fun k=>Nat.beq k o
theorem PObj.not_mentions{o:Nat}{x:PObj}(h:x.mentions o=false):∀ k,k∈x.names→k≠o:=by
 intro k hk he
 subst he
 simp only[PObj.mentions,List.any_eq_false]at h
 exact h k hk (Nat.beq_refl k)
def PV.er(o:Nat)(x:PV):Option PV:=
 match x.mentions o with
 | false=>some x
 | true=>match x with
  | .own _=>some .any
  | .ptr _ _=>some .any
  | .aptr _ _ _ _=>some .any
  | .map _=>some .any
  | .fn _ _ _=>some .any
  | _=>none
def erCells(o:Nat):List PV→Option (List PV)
 | []=>some []
 | x::l=>match x.er o,erCells o l with
  | some y,some r=>some (y::r)
  | _,_=>none
theorem PV.er_ok{o:Nat}{x y:PV}(h:x.er o=some y):(∀ k,k∈y.names→k≠o)∧∀ F g w v,VR F g w x v→VR F g w y v:=by
 unfold PV.er at h
 split at h
 ·rename_i hm; cases h; exact⟨PV.not_mentions hm,fun _ _ _ _ h=>h⟩
 ·split at h <;> cases h
  all_goals
   refine⟨by simp[PV.names],fun F g w v hv=>?_⟩
   cases hv <;> exact .any rfl
theorem erCells_ok{o:Nat}:∀ {l r:List PV},erCells o l=some r→r.length=l.length∧(∀ k,k∈PV.names.go r→k≠o) ∧
  ∀ (j:Nat) y,r[j]? = some y→∃ x,l[j]? = some x∧∀ F g w v,VR F g w x v→VR F g w y v
 | [],r,h=>by simp[erCells]at h; subst h; simp[PV.names.go]
 | x::l,r,h=>by
  simp only[erCells]at h
  split at h
  ·rename_i y r' hy hr
   cases h
   obtain⟨h1,h2,h3⟩:=erCells_ok hr
   obtain⟨h4,h5⟩:=PV.er_ok hy
   refine⟨by simp[h1],fun k hk=>?_,fun j z hz=>?_⟩
   ·simp only[PV.names.go,List.mem_append]at hk
    rcases hk with hk | hk
    ·exact h4 k hk
    ·exact h2 k hk
   ·cases j with
    | zero=>simp at hz; subst hz; exact⟨x,by simp,h5⟩
    | succ j=>simpa using h3 j z (by simpa using hz)
  ·cases h
def erIt(o:Nat):Option Iter→Option Iter
 | none=>none
 | some i=>match Nat.beq i.o o with | true=>none | false=>some i
def erHo(o:Nat):Option (T×Option PV)→Option (T×Option PV)
 | some (k,some p)=>match p.mentions o with | true=>some (k,none) | false=>some (k,some p)
 | x=>x
def erOv(o:Nat):Option (Nat×Nat×PV)→Option (Nat×Nat×PV)
 | some (i,j,p)=>match p.mentions o with | true=>none | false=>some (i,j,p)
 | none=>none
def PObj.er(o:Nat):PObj→Option PObj
 | .arm e s n f ov=>some (.arm e s n f (erOv o ov))
 | .box l=>match erCells o l with | some r=>some (.box r) | none=>none
 | .arr e s n f=>some (.arr e s n f)
 | .mpb n m=>some (.mpb n m)
 | .mp it m ho=>some (.mp (erIt o it) m (erHo o ho))
 | .bld ty e s=>some (.bld ty e s)
theorem erIt_ok{o:Nat}{it:Option Iter}:(∀ k,k∈itN (erIt o it)→k≠o)∧(erIt o it=it∨erIt o it=none):=by
 cases it with
 | none=>simp[erIt,itN]
 | some i=>
  simp only[erIt]
  split
  ·exact⟨by simp[itN],.inr rfl⟩
  ·rename_i hk
   exact⟨fun k hk'=>by simp[itN]at hk'; subst hk'; exact Nat.ne_of_beq_eq_false hk,.inl rfl⟩
theorem erHo_ok{o:Nat}{ho:Option (T×Option PV)}:(∀ k,k∈hoN (erHo o ho)→k≠o)∧hoK (erHo o ho)=hoK ho∧∀ F g w l,HoleR F g w ho l→HoleR F g w (erHo o ho) l:=by
 rcases ho with _ | ⟨k,_ | p⟩
 ·exact⟨by simp[erHo,hoN],rfl,fun _ _ _ _ h=>h⟩
 ·exact⟨by simp[erHo,hoN],rfl,fun _ _ _ _ h=>h⟩
 ·simp only[erHo]
  split
  ·exact⟨by simp[hoN],rfl,fun F g w l ⟨e,h1,h2,_⟩=>.inr ⟨e,h1,h2⟩⟩
  ·rename_i hm
   exact⟨fun k hk=>PV.not_mentions hm k hk,rfl,fun _ _ _ _ h=>h⟩
theorem erOv_ok{o:Nat}{ov:Option (Nat×Nat×PV)}:(∀ k,k∈ovN (erOv o ov)→k≠o)∧(erOv o ov=ov∨erOv o ov=none):=by
 rcases ov with _ | ⟨i,j,p⟩
 ·exact⟨by simp[erOv,ovN],.inl rfl⟩
 ·simp only[erOv]
  split
  ·exact⟨by simp[ovN],.inr rfl⟩
  ·rename_i hm
   exact⟨fun k hk=>PV.not_mentions hm k hk,.inl rfl⟩
theorem PObj.er_foot{o:Nat}{x y:PObj}(h:x.er o=some y){g:Nat→Value}{w:World}{t b:Nat}(hf:Foot g w t y b):Foot g w t x b:=by
 cases hf with
 | self h=>exact .self h
 | @iter i m ho b hb=>
  cases x with
  | mp it m' ho'=>
   simp only[PObj.er,Option.some.injEq,PObj.mp.injEq]at h
   rcases (erIt_ok (o:=o) (it:=it)).2 with e | e
   ·rw[e]at h; rw[h.1]; exact .iter hb
   ·rw[e]at h; cases h.1
  | box l=>simp only[PObj.er]at h; split at h <;> cases h
  | arr=>cases h
  | mpb=>cases h
  | bld=>cases h
  | arm=>cases h
 | mem h1 h2 h3 h4 h5 h6 h7=>
  cases x with
  | mp it m' ho'=>
   simp only[PObj.er,Option.some.injEq,PObj.mp.injEq]at h
   rw[←h.2.1]at h4
   exact .mem h1 h2 h3 h4 h5 h6 h7
  | box l=>simp only[PObj.er]at h; split at h <;> cases h
  | arr=>cases h
  | mpb=>cases h
  | bld=>cases h
  | arm=>cases h
 | arm h1 h2 h3 h4 h5 h6 h7=>
  cases x with
  | arm e s n f ov=>
   simp only[PObj.er,Option.some.injEq,PObj.arm.injEq]at h
   obtain⟨rfl,rfl,rfl,rfl,_⟩:=h
   exact .arm h1 h2 h3 h4 h5 h6 h7
  | box l=>simp only[PObj.er]at h; split at h <;> cases h
  | arr=>cases h
  | mpb=>cases h
  | mp=>cases h
  | bld=>cases h
 | bld h1 h2 h3=>
  cases x with
  | bld ty e s=>simp only[PObj.er,Option.some.injEq,PObj.bld.injEq]at h; obtain⟨rfl,rfl,rfl⟩:=h; exact .bld h1 h2 h3
  | box l=>simp only[PObj.er]at h; split at h <;> cases h
  | arr=>cases h
  | mpb=>cases h
  | mp=>cases h
  | arm=>cases h
theorem PObj.er_ok{o:Nat}{x y:PObj}(h:x.er o=some y):(∀ k,k∈y.names→k≠o)∧∀ F g w t,ObjR F g w t x→ObjR F g w t y:=by
 cases x with
 | box l=>
  simp only[PObj.er]at h
  split at h
  ·rename_i r hr
   cases h
   obtain⟨h1,h2,h3⟩:=erCells_ok hr
   refine⟨h2,fun F g w t ⟨b,vs,ty,e1,e2,e3,e4⟩=>⟨b,vs,ty,e1,e2,by omega,fun j y v hy hv=>?_⟩⟩
   obtain⟨x,hx,hxy⟩:=h3 j y hy
   exact hxy _ _ _ _ (e4 j x v hx hv)
  ·cases h
 | arr e s n f=>
  simp only[PObj.er]at h; cases h
  exact⟨by simp[PObj.names],fun _ _ _ _ h=>h⟩
 | mpb n m=>
  simp only[PObj.er]at h; cases h
  exact⟨by simp[PObj.names],fun _ _ _ _ h=>h⟩
 | bld ty e s=>
  simp only[PObj.er]at h; cases h
  exact⟨by simp[PObj.names],fun _ _ _ _ h=>h⟩
 | arm e s n f ov=>
  simp only[PObj.er]at h; cases h
  refine⟨(erOv_ok (o:=o)).1,fun F g w t h=>?_⟩
  rcases (erOv_ok (o:=o) (ov:=ov)).2 with e1 | e1
  ·rw[e1]; exact h
  ·rw[e1]
   rcases h with⟨h1,h2,_⟩ | ⟨b,cap,cur,h1,h2,h3,h4,h5,hC⟩
   ·exact .inl ⟨h1,h2,rfl⟩
   ·exact .inr ⟨b,cap,cur,h1,h2,h3,h4,h5,hC.len,hC.cell,hC.sep,hC.own,fun i j p e=>by cases e⟩
 | mp it m ho=>
  simp only[PObj.er]at h; cases h
  refine⟨fun k hk=>?_,fun F g w t ⟨b,es,cl,h1,h2,l,r,hM⟩=>⟨b,es,cl,h1,h2,l,r,hM.perm,hM.ent,(erHo_ok (o:=o)).2.2 _ _ _ _ hM.hole,?_,hM.born,hM.old,hM.sep,?_⟩⟩
  ·simp only[PObj.names,List.mem_append]at hk
   rcases hk with hk | hk
   ·exact(erIt_ok (o:=o)).1 k hk
   ·exact(erHo_ok (o:=o)).1 k hk
  ·rw[(erHo_ok (o:=o)).2.1]; exact hM.keys
  ·rcases (erIt_ok (o:=o) (it:=it)).2 with e | e
   ·rw[e]; exact hM.it
   ·rw[e]; exact True.intro
def erHp(o:Nat):Hp→Option Hp
 | []=>some []
 | (k,x)::l=>match Nat.beq k o with
  | true=>erHp o l
  | false=>match x.er o,erHp o l with
   | some y,some r=>some ((k,y)::r)
   | _,_=>none
def St.erase(o:Nat)(st:St):Option St:=
 match erHp o st.hp with
 | none=>none
 | some h=>some { fr:=st.fr.filter (fun e=>!(e.2.mentions o)),hp:=h }
theorem St.erase_fr{o:Nat}{st st':St}(h:st.erase o=some st'):(∀ t x,(t,x)∈st'.fr→(t,x)∈st.fr∧∀ k,k∈x.names→k≠o):=by
 unfold St.erase at h
 split at h
 ·cases h
 ·simp at h; subst h
  intro t x hx
  simp only[List.mem_filter]at hx
  exact⟨hx.1,PV.not_mentions (by simpa using hx.2)⟩
theorem erHp_ok{o:Nat}:∀ {l r:Hp},erHp o l=some r→∀ t y,(t,y)∈r→∃ x,(t,x)∈l∧t≠o∧(∀ k,k∈y.names→k≠o)∧(∀ F g w,ObjR F g w t x→ObjR F g w t y)∧∀ g w b,Foot g w t y b→Foot g w t x b
 | [],r,h,t,y,hy=>by simp[erHp]at h; subst h; simp at hy
 | (k,x)::l,r,h,t,y,hy=>by
  simp only[erHp]at h
  split at h
  ·obtain⟨x',h1,h2⟩:=erHp_ok h t y hy
   exact⟨x',List.mem_cons_of_mem _ h1,h2⟩
  ·rename_i hk
   split at h
   ·rename_i y' r' hy' hr
    cases h
    rcases List.mem_cons.1 hy with e | hy
    ·cases e
     obtain⟨h1,h2⟩:=PObj.er_ok hy'
     exact⟨x,by simp,Nat.ne_of_beq_eq_false hk,h1,fun F g w=>h2 F g w _,fun g w b=>PObj.er_foot hy'⟩
    ·obtain⟨x',h1,h2⟩:=erHp_ok hr t y hy
     exact⟨x',List.mem_cons_of_mem _ h1,h2⟩
   ·cases h
theorem St.erase_hp{o:Nat}{st st':St}(h:st.erase o=some st'):∀ t y,(t,y)∈st'.hp→∃ x,(t,x)∈st.hp∧t≠o∧(∀ k,k∈y.names→k≠o)∧(∀ F g w,ObjR F g w t x→ObjR F g w t y)∧∀ g w b,Foot g w t y b→Foot g w t x b:=by
 unfold St.erase at h
 split at h
 ·cases h
 ·rename_i hr
  simp at h; subst h
  exact erHp_ok hr
def upd(g:Nat→Value)(o:Nat)(v:Value):Nat→Value:=fun k=>if k=o then v else g k
theorem upd_same(g:Nat→Value)(o:Nat)(v:Value):upd g o v o=v:=by simp[upd]
theorem upd_other(g:Nat→Value){o k:Nat}(v:Value)(h:k≠o):upd g o v k=g k:=by simp[upd,h]
theorem VR.cells_t{F:Nat→Prop}{g:Nat→Value}{w:World}{x:PV}{v:Value}(h:VR F g w x v){y:T}(e:x = .t y):Rd F w y v:=by
 subst e; cases h with | t h=>exact h
theorem HpR.change{F F':Nat→Prop}{g g':Nat→Value}{st st':St}{w w':World}{d:Nat}{x:PObj}{B:Nat→Prop}(r:HpR F g w B st.hp)(he:st.erase d=some st')
  (hg:∀ o,o≠d→g' o=g o)(hF:∀ b,F b→F' b∧w'.heap[b]? = w.heap[b]?)(hF':∀ b,F' b→F b)
  (hw:∀ o y b,(o,y)∈st.hp→o≠d→Foot g w o y b→w'.heap[b]? = w.heap[b]?)(hx:ObjR F' g' w' d x)
  (hown:∀ b,Foot g' w' d x b→¬ F' b∧B b)(hsep:∀ o y b,(o,y)∈st.hp→o≠d→Foot g w o y b→Foot g' w' d x b→False):
  HpR F' g' w' B ((d,x)::st'.hp):=by
 have foot:∀ o y b,(o,y)∈st'.hp→Foot g' w' o y b→∃ y',(o,y')∈st.hp∧o≠d∧Foot g w o y' b:=by
  intro o y b ho hb
  obtain⟨y',h1,h2,h3,h4,h5⟩:=St.erase_hp he o y ho
  exact⟨y',h1,h2,h5 _ _ _ (hb.mono (hg o h2) (fun k hk=>hg k (h3 k hk)) (fun b' hb'=>hw o y' b' h1 h2 (.self hb')))⟩
 refine⟨?_,?_,?_⟩
 ·intro o y ho
  rcases List.mem_cons.1 ho with e | ho
  ·cases e; exact hx
  ·obtain⟨y',h1,h2,h3,h4,h5⟩:=St.erase_hp he o y ho
   exact(h4 _ _ _ (r.obj o y' h1)).mono hF (hg o h2) (fun k hk=>hg k (h3 k hk)) (fun b hb=>hw o y' b h1 h2 (h5 _ _ _ hb))
 ·intro o y b ho hb
  rcases List.mem_cons.1 ho with e | ho
  ·cases e; exact hown b hb
  ·obtain⟨y',h1,h2,h3⟩:=foot o y b ho hb
   exact⟨fun h=>(r.own o y' b h1 h3).1 (hF' b h),(r.own o y' b h1 h3).2⟩
 ·intro o y o' y' b ho ho' hne hb hb'
  rcases List.mem_cons.1 ho with e | ho
  ·cases e
   rcases List.mem_cons.1 ho' with e' | ho'
   ·cases e'; exact hne rfl
   ·obtain⟨z,h1,h2,h3⟩:=foot o' y' b ho' hb'
    exact hsep o' z b h1 h2 h3 hb
  ·obtain⟨z,h1,h2,h3⟩:=foot o y b ho hb
   rcases List.mem_cons.1 ho' with e' | ho'
   ·cases e'; exact hsep o z b h1 h2 h3 hb'
   ·obtain⟨z',h1',h2',h3'⟩:=foot o' y' b ho' hb'
    exact r.sep o z o' z' b h1 h1' hne h3 h3'
theorem RelG.allocF{E:Env}{F:Nat→Prop}{g:Nat→Value}{st st':St}{a:Act}{w w':World}(r:RelG E F g st a w){d:Nat}{x:PObj}{v:Value}{ob:Obj}(hd:d<E.nt)
  (hn:d∉E.N)(he:st.erase d=some st')(hv:blk v=some w.heap.size)(hw:w'.heap=w.heap.push ob)(hos:w'.os=w.os)(htp:w'.tape=w.tape)(hout:w'.output=w.output)
  (hft:∀ g' b,g' d=v→Foot g' w' d x b→blk v=some b)(hx:∀ g',(∀ o,o≠d→g' o=g o)→g' d=v→ObjR F g' w' d x)(p:PV)(hp:∀ g',g' d=v→VR F g' w' p v):
  ∃ g',RelG E F g' ({ st' with hp:=(d,x)::st'.hp }.put d p) (a.put (some d) v) w':=by
 have hsz:w'.heap.size=w.heap.size+1:=by rw[hw]; simp
 have hold:∀ b,b<w.heap.size→w'.heap[b]? = w.heap[b]?:=by
  intro b hb
  rw[hw,Array.getElem?_push,if_neg (Nat.ne_of_lt hb)]
 have hF:∀ b,F b→F b∧w'.heap[b]? = w.heap[b]?:=fun b hb=>⟨hb,hold b (r.w.f1 b hb).1⟩
 refine⟨upd g d v,r.putW hd hF (fun t y hy=>?_) ?_ (hp _ (upd_same ..))⟩
 ·obtain⟨h1,h2⟩:=St.erase_fr he t y hy
  exact⟨h1,fun o ho=>upd_other g v (h2 o ho)⟩
 ·refine⟨HpR.change r.w.hp he (fun o ho=>upd_other g v ho) hF (fun _ h=>h) (fun o y b ho _ hb=>hold b (hb.block (r.w.hp.obj o y ho))) (hx _ (fun o ho=>upd_other g v ho) (upd_same ..))
   (fun b hb=>?_) (fun o y b ho _ hb hb'=>?_),r.w.f0,fun b hb=>⟨by have:=(r.w.f1 b hb).1; omega,(r.w.f1 b hb).2⟩,
   r.w.ext.trans hos htp hout (by omega) (fun b hb _=>hold b (by have:=r.w.ext.size; omega)),fun o ho=>?_,r.w.b0⟩
  ·have hb:=hft _ _ (upd_same ..) hb
   rw[hv]at hb
   simp at hb; subst hb
   exact⟨fun hF'=>by have:=(r.w.f1 _ hF').1; omega,.inr r.w.ext.size⟩
  ·have hb':=hft _ _ (upd_same ..) hb'
   rw[hv]at hb'
   simp at hb'; subst hb'
   have:=hb.block (r.w.hp.obj o y ho)
   omega
  ·rw[upd_other g v (fun e:o=d=>hn (e▸ho))]
   exact r.w.names o ho
theorem RelG.alloc{E:Env}{F:Nat→Prop}{g:Nat→Value}{st st':St}{a:Act}{w w':World}(r:RelG E F g st a w){d:Nat}{x:PObj}{v:Value}{ob:Obj}(hd:d<E.nt)
  (hn:d∉E.N)(he:st.erase d=some st')(hv:blk v=some w.heap.size)(hw:w'.heap=w.heap.push ob)(hos:w'.os=w.os)(htp:w'.tape=w.tape)(hout:w'.output=w.output)
  (hpl:x.plain=true)(hx:∀ g',(∀ o,o≠d→g' o=g o)→g' d=v→ObjR F g' w' d x)(p:PV)(hp:∀ g',g' d=v→VR F g' w' p v):
  ∃ g',RelG E F g' ({ st' with hp:=(d,x)::st'.hp }.put d p) (a.put (some d) v) w':=
 r.allocF hd hn he hv hw hos htp hout (fun g' b hg hb=>by rw[←hg]; exact hb.toBlk hpl) hx p hp
inductive U where
 | int (k:IntKind) | bool | str
 | sl (e:Nat) | st (fs:List (Nat×Nat)) | arr (n e:Nat) | mp (k e:Nat) | ptr (e:Nat)
 | other | ifc
structure TInf where
 size:Nat
 bytes:Nat
 und:U
 zero:List PV
 eqn:Nat:=0
 eqf:Nat:=0
def U.isAgg:U→Bool | .st _=>true | .arr _ _=>true | _=>false
def UR(P:Program)(t:TypeId):U→Prop
 | .int k=>P.underlying t=some (.int k)
 | .bool=>P.underlying t=some .bool
 | .str=>P.underlying t=some .string
 | .sl e=>P.underlying t=some (.slice e)
 | .st fs=>∃ fields:Array Field,P.underlying t=some (.struct fields)∧fields.toList.map (fun f=>(f.offset,f.type))=fs
 | .arr n e=>P.underlying t=some (.array n e)
 | .mp k e=>P.underlying t=some (.map k e)
 | .ptr e=>P.underlying t=some (.pointer e)
 | .ifc=>∃ ms,P.underlying t=some (.interface ms)
 | .other=>∃ d,P.underlying t=some d∧(match d with | .struct _ | .array _ _=>true | _=>false)=false
def constPV:Value→Option PV
 | .int k n=>some (.t (.int k n))
 | .bool b=>some (.t (.bool b))
 | .string s=>some (.t (.str s))
 | .slice none 0 0=>some .nil
 | .pointer none=>some .np
 | .map none=>some (.lit (.map none))
 | .nilFunc=>some (.lit .nilFunc)
 | .nilIface=>some (.lit .nilIface)
 | _=>none
theorem constPV_ok{v:Value}{p:PV}(h:constPV v=some p)(F:Nat→Prop)(g:Nat→Value)(w:World):VR F g w p v:=by
 unfold constPV at h
 split at h <;> simp at h <;> subst h
 ·exact .t (.int _ _)
 ·exact .t (.bool _)
 ·exact .t (.str _)
 ·exact .nil
 ·exact .np
 ·exact .lit rfl
 ·exact .lit rfl
 ·exact .lit rfl
def flatEq:List T→List T→Option Bool
 | [],[]=>some true
 | .int k a::l,.int k' b::r=>if k=k' then (match flatEq l r with | some c=>some ((a==b)&&c) | none=>none) else none
 | .str a::l,.str b::r=>match flatEq l r with | some c=>some ((a.toList==b.toList)&&c) | none=>none
 | .bool a::l,.bool b::r=>match flatEq l r with | some c=>some ((a==b)&&c) | none=>none
 | _,_=>none
def kcode:List T→Nat
 | []=>0
 | .int _ _::l=>1+4*kcode l
 | .str _::l=>2+4*kcode l
 | .bool _::l=>3+4*kcode l
 | _::l=>4*kcode l
def sval:T→Value
 | .int k a=>.int k a
 | .str a=>.string a
 | .bool a=>.bool a
 | _=>undef
def EqOk(P:Program)(t:TypeId)(n:Nat):Prop:=n≠0→P.eqGuardType P.depth t=false ∧
 ∀ (xs ys:List Int) (w:World),xs.length=n→ys.length=n→(Op.equalIn 10000 t (.agg (xs.map (Value.int .i64)).toArray) (.agg (ys.map (Value.int .i64)).toArray)).run P w = .ok (xs==ys) w
def EqFOk(P:Program)(t:TypeId)(n:Nat):Prop:=n≠0→P.eqGuardType P.depth t=false ∧
 ∀ (l r:List T) (b:Bool) (w:World),flatEq l r=some b→kcode l=n→(Op.equalIn 10000 t (.agg (l.map sval).toArray) (.agg (r.map sval).toArray)).run P w = .ok b w
def KeyOk(P:Program)(t:TypeId)(i:TInf):Prop:=∀ m e,i.und = .arr m e→i.eqn≠0→∀ (em:Bool) (xs:List Int) (w:World),xs.length=i.eqn→(Instr.checkKey em 10000 t (intsV xs)).run P w = .ok () w
structure TOk (P:Program)(t:TypeId)(i:TInf):Prop where
 info:∃ info,P.info? t=some info∧info.size=i.size∧info.bytes=i.bytes∧∃ z,info.zero=some z∧z.cells.toList.map constPV=i.zero.map some
 und:UR P t i.und
 eqv:EqOk P t i.eqn
 eqf:EqFOk P t i.eqf
 keyv:KeyOk P t i
 zb:i.und = .bool→∃ info,P.info? t=some info∧info.zero=some (.bool false)
def TIok(P:Program)(ti:Nat→Option TInf):Prop:=∀ t i,ti t=some i→TOk P t i
structure Inf where
 ti:Nat→Option TInf
 N:List Nat
 nt:Nat
def ev(st:St):Operand→Option PV
 | .tmp t=>look st.fr t
 | .const v=>constPV v
 | .func f=>some (.fn (.func f) 0 [])
 | .global _=>none
theorem ev_ok{E:Env}{F:Nat→Prop}{g:Nat→Value}{st:St}{a:Act}{w:World}(r:RelG E F g st a w){x:Operand}{p:PV}(h:ev st x=some p):
  VR F g w p (a.eval x):=by
 cases x with
 | tmp t=>exact r.fr t p (look_mem h)
 | const v=>exact constPV_ok h F g w
 | func f=>simp[ev]at h; subst h; exact .fn rfl rfl (fun j x v hx=>by simp at hx)
 | global _=>simp[ev]at h
def allT:List PV→Option (List T)
 | []=>some []
 | .t x::l=>match allT l with | some r=>some (x::r) | none=>none
 | _::_=>none
theorem allT_ok{l:List PV}{r:List T}(h:allT l=some r):l=r.map PV.t:=by
 induction l generalizing r with
 | nil=>simp[allT]at h; subst h; rfl
 | cons x l ih=>
  unfold allT at h
  split at h
  ·rename_i heq; cases heq
  ·rename_i y l' heq; cases heq
   cases hl:allT l with
   | none=>simp[hl]at h
   | some r'=>simp[hl]at h; subst h; simp[ih hl]
  ·exact absurd h (by simp)
def aggOf(l:List PV):PV:=match allT l with | some r=>.t (.agg r) | none=>.agg l
theorem aggOf_ok{F:Nat→Prop}{g:Nat→Value}{w:World}{l:List PV}{vs:Array Value}(hs:vs.size=l.length)
  (h:∀ (j:Nat) x v,l[j]? = some x→vs[j]? = some v→VR F g w x v):VR F g w (aggOf l) (.agg vs):=by
 unfold aggOf
 cases hl:allT l with
 | none=>exact .agg hs h
 | some r=>
  have e:=allT_ok hl
  refine .t (.agg (by rw[hs,e]; simp) fun j x v hx hv=>?_)
  exact(h j (.t x) v (by rw[e]; simp[hx]) hv).cells_t rfl
def PV.cells:PV→List PV
 | .t (.agg l)=>l.map PV.t
 | .agg l=>l
 | x=>[x]
def PV.one:PV→Bool
 | .t (.agg _)=>false
 | .agg _=>false
 | .tup _=>false
 | .any=>false
 | .lit .nilFunc=>true
 | .lit _=>false
 | _=>true
theorem VR.cells{F:Nat→Prop}{g:Nat→Value}{w:World}{x:PV}{v:Value}(h:VR F g w x v):
  v.cells.size=x.cells.length∧∀ (j:Nat) y u,x.cells[j]? = some y→v.cells[j]? = some u→VR F g w y u:=by
 have one:∀ (x:PV) (v:Value),x.cells=[x]→v.cells=#[v]→VR F g w x v →
   v.cells.size=x.cells.length∧∀ (j:Nat) y u,x.cells[j]? = some y→v.cells[j]? = some u→VR F g w y u:=by
  intro x v hx hv h
  rw[hx,hv]
  refine⟨rfl,fun j y u hy hu=>?_⟩
  cases j with
  | zero=>simp at hy hu; subst hy; subst hu; exact h
  | succ j=>simp at hy
 cases h with
 | t r=>
  cases r with
  | agg hs hr=>
   refine⟨by simp[PV.cells,Value.cells,hs],fun j y u hy hu=>?_⟩
   simp only[PV.cells,List.getElem?_map,Option.map_eq_some_iff]at hy
   obtain⟨z,hz,rfl⟩:=hy
   exact .t (hr j z u hz hu)
  | int k n=>exact one _ _ rfl rfl (.t (.int k n))
  | bool b=>exact one _ _ rfl rfl (.t (.bool b))
  | str s=>exact one _ _ rfl rfl (.t (.str s))
  | fv f=>exact one _ _ rfl rfl (.t (.fv f))
  | nil h=>exact one _ _ (by cases ‹T› <;> first | rfl | simp[T.view]at h) rfl (.t (.nil h))
  | sl a cap size vs h hc hF hs hv hr=>exact one _ _ (by cases ‹T› <;> first | rfl | simp[T.view]at h) rfl (.t (.sl a cap size vs h hc hF hs hv hr))
 | ptr e=>exact one _ _ rfl rfl (.ptr e)
 | eptr a hF e=>exact one _ _ rfl rfl (.eptr a hF e)
 | own e=>exact one _ _ rfl rfl (.own e)
 | aptr e=>exact one _ _ rfl rfl (.aptr e)
 | map e=>exact one _ _ rfl rfl (.map e)
 | nil=>exact one _ _ rfl rfl .nil
 | np=>exact one _ _ rfl rfl .np
 | any h=>exact one _ _ rfl h (.any h)
 | lit h=>exact one _ _ rfl h (.lit h)
 | fn hn hs hr=>exact one _ _ rfl rfl (.fn hn hs hr)
 | tup hs hr=>exact one _ _ rfl rfl (.tup hs hr)
 | agg hs hr=>exact⟨by simp[PV.cells,Value.cells,hs],hr⟩
theorem Addr.add_add(a:Addr)(x y:Nat):(a.add x).add y=a.add (x+y):=by
 unfold Addr.add
 by_cases hx:x=0
 ·subst hx; simp
 ·by_cases hy:y=0
  ·subst hy; simp[hx]
  ·simp[hx,hy,Nat.add_assoc]
theorem Addr.add_none(b o n:Nat):(⟨b,o,none⟩:Addr).add n=⟨b,o+n,none⟩:=by
 unfold Addr.add; split <;> simp_all
section
variable {P:Program} {w:World}
theorem run_isAgg{t:TypeId}{u:U}(h:UR P t u):(isAgg t).run P w = .ok u.isAgg w:=by
 unfold isAgg
 cases u <;> simp only[UR]at h
 case st fs=>
  obtain⟨fields,h,_⟩:=h
  rw[Sem.run_bind,run_underlying h w]; simp[U.isAgg]
 case ifc=>
  obtain⟨ms,h⟩:=h
  rw[Sem.run_bind,run_underlying h w]; simp[U.isAgg]
 case other=>
  obtain⟨d,h,hd⟩:=h
  rw[Sem.run_bind,run_underlying h w]
  cases d <;> simp_all [U.isAgg]
 all_goals (rw[Sem.run_bind,run_underlying h w]; simp[U.isAgg])
theorem run_sizeOf{t:TypeId}{i:TInf}(h:TOk P t i):(sizeOf t).run P w = .ok i.size w:=by
 obtain⟨info,h1,h2,_⟩:=h.info
 simp[sizeOf,typeInfo,h1,h2]
theorem run_loadVar_agg{t:TypeId}{i:TInf}(h:TOk P t i)(hu:i.und.isAgg=true)(a:Addr)(vs:List Value)(hl:vs.length=i.size)
  (hc:∀ (j:Nat) v,vs[j]? = some v→w.cell? (a.add j)=some v):(loadVar t a).run P w = .ok (.agg vs.toArray) w:=by
 unfold loadVar
 have:=run_loadCells_list (P:=P) w a vs hc
 rw[hl]at this
 simp[run_isAgg h.und,hu,run_sizeOf h,this]
theorem run_loadVar_one{t:TypeId}{i:TInf}(h:TOk P t i)(hu:i.und.isAgg=false)(a:Addr)(v:Value)(hc:w.cell? a=some v):(loadVar t a).run P w = .ok v w:=by
 unfold loadVar
 simp[run_isAgg h.und,hu,load,Sem.run,hc]
end
def readAt(i:TInf)(l:List PV):Option PV:=
 match i.und.isAgg with
 | true=>match Nat.beq (l.take i.size).length i.size with | true=>some (aggOf (l.take i.size)) | false=>none
 | false=>match l with | x::_=>some x | []=>none
theorem readAt_ok{P:Program}{F:Nat→Prop}{g:Nat→Value}{w:World}{t:TypeId}{i:TInf}(h:TOk P t i){l:List PV}{p:PV}(hp:readAt i l=some p)(a:Addr)
  (hc:∀ (j:Nat) x,l[j]? = some x→∃ v,w.cell? (a.add j)=some v∧VR F g w x v):∃ v,(loadVar t a).run P w = .ok v w∧VR F g w p v:=by
 unfold readAt at hp
 split at hp
 ·rename_i hu
  split at hp
  ·rename_i hl
   have hl:=Nat.eq_of_beq_eq_true hl
   simp at hp; subst hp
   have hlen:∀ j,j<i.size→j<l.length:=by intro j hj; simp at hl; omega
   have:∃ vs:List Value,vs.length=i.size∧∀ (j:Nat) v,vs[j]? = some v→w.cell? (a.add j)=some v:=by
    refine⟨(List.range i.size).map fun j=>(w.cell? (a.add j)).getD undef,by simp,fun j v hv=>?_⟩
    simp only[List.getElem?_map,Option.map_eq_some_iff]at hv
    obtain⟨k,hk,hv⟩:=hv
    obtain⟨hk1,hk2⟩:=List.getElem?_eq_some_iff.1 hk
    simp at hk1 hk2
    subst hk2
    have hj:=hlen j hk1
    obtain⟨u,hu',_⟩:=hc j l[j] (by simp[hj])
    rw[hu']at hv; simp at hv; subst hv; exact hu'
   obtain⟨vs,hvl,hvc⟩:=this
   refine⟨_,run_loadVar_agg h hu a vs hvl hvc,aggOf_ok (by simp[hvl]; simpa using hl.symm) fun j x v hx hv=>?_⟩
   have hx':l[j]? = some x:=by
    rw[List.getElem?_take]at hx
    split at hx
    ·exact hx
    ·cases hx
   obtain⟨u,hu',hr⟩:=hc j x hx'
   have:=hvc j v (by simpa using hv)
   rw[hu']at this; simp at this; subst this; exact hr
  ·cases hp
 ·rename_i hu
  split at hp
  ·rename_i x l'
   simp at hp; subst hp
   obtain⟨v,hv,hr⟩:=hc 0 x (by simp)
   refine⟨v,run_loadVar_one h hu a v ?_,hr⟩
   simpa[Addr.add] using hv
  ·cases hp
def bitA(k:IntKind)(a b:Int):Int:=k.wrap ((BitVec.ofInt k.bits a &&& BitVec.ofInt k.bits b).toNat:Int)
def bitO(k:IntKind)(a b:Int):Int:=k.wrap ((BitVec.ofInt k.bits a ||| BitVec.ofInt k.bits b).toNat:Int)
def bitX(k:IntKind)(a b:Int):Int:=k.wrap ((BitVec.ofInt k.bits a ^^^ BitVec.ofInt k.bits b).toNat:Int)
def bitN(k:IntKind)(a b:Int):Int:=k.wrap ((BitVec.ofInt k.bits a &&& ~~~ BitVec.ofInt k.bits b).toNat:Int)
def shlI(k:IntKind)(a b:Int):Int:=k.wrap (a*2 ^ (min b.toNat k.bits))
def shrI(k:IntKind)(a b:Int):Int:=a.fdiv (2 ^ (min b.toNat k.bits))
def intOp(op:BinOp)(k:IntKind)(a b:Int):Option (PV×Prop):=
 match op with
 | .add=>some (.t (.int k (k.wrap (a+b))),True)
 | .sub=>some (.t (.int k (k.wrap (a-b))),True)
 | .mul=>some (.t (.int k (k.wrap (a*b))),True)
 | .quo=>some (.t (.int k (k.wrap (a.tdiv b))),b≠0)
 | .rem=>some (.t (.int k (a.tmod b)),b≠0)
 | .eql=>some (.t (.bool (a==b)),True)
 | .neq=>some (.t (.bool (a != b)),True)
 | .lss=>some (.t (.bool (decide (a<b))),True)
 | .leq=>some (.t (.bool (decide (a≤b))),True)
 | .gtr=>some (.t (.bool (decide (a>b))),True)
 | .geq=>some (.t (.bool (decide (a≥b))),True)
 | .and=>some (.t (.int k (bitA k a b)),True)
 | .or=>some (.t (.int k (bitO k a b)),True)
 | .xor=>some (.t (.int k (bitX k a b)),True)
 | .andNot=>some (.t (.int k (bitN k a b)),True)
 | _=>none
def strOp(op:BinOp)(a b:ByteArray):Option (PV×Prop):=
 match op with
 | .add=>some (.t (.str (a++b)),((a.size+b.size:Nat):Int)≤9223372036854775807)
 | .eql=>some (.t (.bool (a.toList==b.toList)),True)
 | .neq=>some (.t (.bool (!(a.toList==b.toList))),True)
 | .lss=>some (.t (.bool (Op.bytesLess a.toList b.toList)),True)
 | .leq=>some (.t (.bool (Op.bytesLess a.toList b.toList || a.toList==b.toList)),True)
 | .gtr=>some (.t (.bool (!(Op.bytesLess a.toList b.toList || a.toList==b.toList))),True)
 | .geq=>some (.t (.bool (!(Op.bytesLess a.toList b.toList))),True)
 | _=>none
def boolOp(op:BinOp)(a b:Bool):Option (PV×Prop):=
 match op with
 | .eql=>some (.t (.bool (a==b)),True)
 | .neq=>some (.t (.bool (!(a==b))),True)
 | _=>none
def intsOf:List T→Option (List Int)
 | []=>some []
 | .int .i64 x::l=>match intsOf l with | some r=>some (x::r) | none=>none
 | _=>none
def aggOp(n f:Nat)(op:BinOp)(l r:List T):Option (PV×Prop):=
 match Nat.beq f 0 with
 | false=>match flatEq l r,Nat.beq (kcode l) f with
  | some b,true=>match op with
   | .eql=>some (.t (.bool b),True)
   | .neq=>some (.t (.bool (!b)),True)
   | _=>none
  | _,_=>none
 | true=>match intsOf l,intsOf r with
 | some xs,some ys=>match Nat.beq xs.length n,Nat.beq ys.length n,Nat.ble 1 n with
  | true,true,true=>match op with
   | .eql=>some (.t (.bool (xs==ys)),True)
   | .neq=>some (.t (.bool (!(xs==ys))),True)
   | _=>none
  | _,_,_=>none
 | _,_=>none
def mfind:List (List Int×Bool)→List Int→Nat→Option (Nat×Bool)
 | [],_,_=>none
 | e::m,ks,i=>match ks==e.1 with | true=>some (i,e.2) | false=>mfind m ks (i+1)
def mget(m:List (List Int×Bool))(ks:List Int):Bool:=match mfind m ks 0 with | some (_,b)=>b | none=>false
def mhas(m:List (List Int×Bool))(ks:List Int):Bool:=(mfind m ks 0).isSome
def mset(m:List (List Int×Bool))(ks:List Int)(b:Bool):List (List Int×Bool):=match mfind m ks 0 with | some (i,_)=>m.set i (ks,b) | none=>m++[(ks,b)]
def mapP(I:Inf)(st:St)(t:Nat)(x k:PV):Option (Nat×List (List Int×Bool)×Nat×List Int):=
 match I.ti t,x,k with
 | some i,.map o,.t (.agg l)=>match i.und,look st.hp o,intsOf l with
  | .mp kt et,some (.mpb n m),some ks=>match I.ti kt,I.ti et with
   | some ik,some ie=>match ik.und,ie.und,ie.zero,Nat.beq ik.eqn n,Nat.beq ks.length n,Nat.ble 1 n with
    | .arr _ _,.bool,[.t (.bool false)],true,true,true=>some (n,m,o,ks)
    | _,_,_,_,_,_=>none
   | _,_=>none
  | _,_,_=>none
 | _,_,_=>none
def isSh:BinOp→Bool | .shl=>true | .shr=>true | _=>false
def shOp(op:BinOp)(k:IntKind)(a b:Int):Option (PV×Prop):=
 match op with
 | .shl=>some (.t (.int k (shlI k a b)),0≤b)
 | .shr=>some (.t (.int k (shrI k a b)),0≤b)
 | _=>none
def nilOp(op:BinOp)(u:U)(b:Bool):Option (PV×Prop):=
 match u,op with
 | .ptr _,.eql=>some (.t (.bool b),True)
 | .ptr _,.neq=>some (.t (.bool (!b)),True)
 | _,_=>none
def ifcP(u:U)(op:BinOp)(y:Operand):Option (PV×Prop):=
 match u,y,op with
 | .ifc,.const _,.eql=>some (.t (.bool true),True)
 | .ifc,.const _,.neq=>some (.t (.bool false),True)
 | _,_,_=>none
def binP(i:TInf)(op:BinOp)(x y:PV):Option (PV×Prop):=
 match x,y with
 | .t (.int k a),.t (.int k' b)=>match isSh op with | true=>shOp op k a b | false=>if k=k' then intOp op k a b else none
 | .ptr _ _,.np=>nilOp op i.und false
 | .np,.np=>nilOp op i.und true
 | .t (.str a),.t (.str b)=>strOp op a b
 | .t (.agg l),.t (.agg r)=>aggOp i.eqn i.eqf op l r
 | .t (.bool a),.t (.bool b)=>match i.und with | .bool=>boolOp op a b | _=>none
 | _,_=>none
def unP(op:UnOp)(x:PV):Option (PV×Prop):=
 match op,x with
 | .not,.t (.bool b)=>some (.t (.bool (!b)),True)
 | .neg,.t (.int k a)=>some (.t (.int k (k.wrap (0-a))),True)
 | _,_=>none
def lenP(st:St)(u:U)(x:PV):Option PV:=
 match u,x with
 | .str,.t (.str s)=>some (.t (.i s.size))
 | .sl _,.nil=>some (.t (.i 0))
 | .sl _,.own o=>match look st.hp o with | some (.arr _ _ n _)=>some (.t (.i n)) | some (.arm _ _ n _ _)=>some (.t (.i n)) | _=>none
 | .sl _,.t x=>match x.view with | some (n,_)=>some (.t (.i n)) | none=>none
 | _,_=>none
def maxP:PV→PV→Option PV
 | .t (.int k a),.t (.int _ b)=>some (.t (.int k (if b>a then b else a)))
 | _,_=>none
def minP:PV→PV→Option PV
 | .t (.int k a),.t (.int _ b)=>some (.t (.int k (if b<a then b else a)))
 | _,_=>none
def fieldP(ti:Nat→Option TInf)(fs:List (Nat×Nat))(f:Nat):Option Nat:=
 match fs[f]? with
 | some (off,t)=>match ti t with
  | some i=>match Nat.beq i.size 0 with | true=>none | false=>some off
  | none=>none
 | none=>none
def indexP(st:St)(s:Nat)(x:PV)(i:Int):Option (PV×Prop):=
 match x with
 | .t x=>match x.view with
  | some (n,f)=>match Nat.beq (f i.toNat).length s with
   | true=>some (.eptr (f i.toNat),0≤i∧i<(n:Int))
   | false=>none
  | none=>none
 | .own o=>match look st.hp o with
  | some (.arr _ s' n _)=>match Nat.beq s' s with
   | true=>some (.aptr o s i.toNat 0,0≤i∧i<(n:Int))
   | false=>none
  | some (.arm _ s' n _ _)=>match Nat.beq s' s with
   | true=>some (.aptr o s i.toNat 0,0≤i∧i<(n:Int))
   | false=>none
  | _=>none
 | _=>none
def optInt(st:St)(d:Int):Option Operand→Option Int
 | none=>some d
 | some x=>match ev st x with | some (.t (.int _ n))=>some n | _=>none
def armCells(ov:Option (Nat×Nat×PV))(k:Nat):Nat→List Cel→Option (List PV×Prop)
 | _,[]=>some ([],True)
 | j,c::l=>match c,armCells ov k (j+1) l with
  | .d x,some (r,C)=>some (.t x::r,C)
  | .any,some (r,C)=>match ov with
   | some (i,j',p)=>match Nat.beq j' j with | true=>some (p::r,k=i∧C) | false=>none
   | none=>none
  | _,_=>none
def loadP(st:St)(i:TInf)(x:PV):Option (PV×Prop):=
 match x with
 | .ptr o off=>match look st.hp o with
  | some (.box l)=>match readAt i (l.drop off) with | some p=>some (p,True) | none=>none
  | _=>none
 | .eptr l=>match readAt i (l.map PV.t) with | some p=>some (p,True) | none=>none
 | .aptr o s k off=>match look st.hp o with
  | some (.arr _ s' n f)=>match Nat.beq s' s with
   | true=>match readAt i (((f k).drop off).map PV.t) with | some p=>some (p,k<n) | none=>none
   | false=>none
  | some (.arm _ s' n f ov)=>match Nat.beq s' s,armCells ov k off (((f k).drop off).take i.size) with
   | true,some (l,C)=>match readAt i l with | some p=>some (p,k<n∧C) | none=>none
   | _,_=>none
  | _=>none
 | _=>none
def fillP(places:Nat→Option (Nat×Nat))(cells:List PV):List (Nat×PV)→Option (List PV)
 | []=>some cells
 | (i,x)::rest=>match places i with
  | none=>none
  | some (off,size)=>match Nat.beq x.cells.length size,Nat.ble (off+size) cells.length,(x.cells.all PV.one) with
   | true,true,true=>fillP places (cells.take off++x.cells++cells.drop (off+size)) rest
   | _,_,_=>none
def evParts(st:St):List (Nat×Operand)→Option (List (Nat×PV))
 | []=>some []
 | (i,x)::l=>match ev st x,evParts st l with
  | some p,some r=>some ((i,p)::r)
  | _,_=>none
def placesP(ti:Nat→Option TInf):List (Nat×Nat)→Option (List (Nat×Nat))
 | []=>some []
 | (off,t)::l=>match ti t,placesP ti l with
  | some i,some r=>some ((off,i.size)::r)
  | _,_=>none
def buildP(I:Inf)(st:St)(t:Nat)(parts:List (Nat×Operand)):Option PV:=
 match I.ti t,evParts st parts with
 | some i,some ps=>match i.und with
  | .st fs=>match placesP I.ti fs with
   | some pl=>match fillP (pl[·]?) i.zero ps with | some c=>some (aggOf c) | none=>none
   | none=>none
  | .arr _ e=>match I.ti e with
   | some ie=>match fillP (fun i=>some (i*ie.size,ie.size)) i.zero ps with | some c=>some (aggOf c) | none=>none
   | none=>none
  | _=>none
 | _,_=>none
def evList(st:St):List Operand→Option (List PV)
 | []=>some []
 | x::l=>match ev st x,evList st l with
  | some p,some r=>some (p::r)
  | _,_=>none
def tr(x:Option PV):Option (PV×Prop):=match x with | some p=>some (p,True) | none=>none
def u8Of:List T→Int | [.int .u8 k]=>k | _=>0
def isU8:List T→Bool | [.int .u8 _]=>true | _=>false
def bstr(n:Nat)(f:Nat→List T):ByteArray:=((List.range n).map fun i=>u8Of (f i)).foldl (fun r n=>r.push (UInt8.ofNat n.toNat)) ByteArray.empty
def rowOf(st:St):PV→Option (Nat×(Nat→List T))
 | .own o=>match look st.hp o with | some (.arr _ _ n f)=>some (n,f) | _=>none
 | .t x=>x.view
 | .nil=>some (0,fun _=>[])
 | _=>none
def callP(I:Inf)(st:St)(c:Call):Option (PV×Prop):=
 match c.callee,c.args.toList,c.argTypes.toList with
 | .builtin .len,[x],[t]=>match I.ti t,ev st x with
  | some i,some p=>tr (lenP st i.und p)
  | _,_=>none
 | .builtin .cap,[x],[t]=>match I.ti t,ev st x with
  | some i,some .nil=>match i.und with | .sl _=>some (.t (.i 0),True) | _=>none
  | _,_=>none
 | .builtin .max,[x,y],_=>match ev st x,ev st y with
  | some p,some q=>tr (maxP p q)
  | _,_=>none
 | .builtin .min,[x,y],_=>match ev st x,ev st y with
  | some p,some q=>tr (minP p q)
  | _,_=>none
 | _,_,_=>none
def entP(di:Nat):Hp→Option (PV×Prop)
 | []=>none
 | (_,.mp (some i) _ ho)::l=>match Nat.beq i.o di with
  | true=>match i.cur,ho with
   | some k',some (k,some p)=>some (.tup [.t k',p],k'=k)
   | _,_=>none
  | false=>entP di l
 | _::l=>entP di l
def ptrP(I:Inf)(st:St)(u:U)(op:BinOp)(o o':Nat):Option (PV×Prop):=
 match u with
 | .ptr e=>match I.ti e with
  | some j=>match Nat.beq j.size 0,Nat.beq o o' with
   | false,true=>match op with | .eql=>some (.t (.bool true),True) | .neq=>some (.t (.bool false),True) | _=>none
   | false,false=>match look st.hp o,look st.hp o' with
    | some (.box _),some (.box _)=>match op with | .eql=>some (.t (.bool false),True) | .neq=>some (.t (.bool true),True) | _=>none
    | _,_=>none
   | _,_=>none
  | none=>none
 | _=>none
def pev(I:Inf)(st:St):Op→Option (PV×Prop)
 | .move x | .assign x=>tr (ev st x)
 | .pick c a b=>match ev st c with
  | some (.t (.bool true))=>tr (ev st a)
  | some (.t (.bool false))=>tr (ev st b)
  | _=>none
 | .load t a=>match I.ti t,ev st a with
  | some i,some x=>loadP st i x
  | _,_=>none
 | .nilCheck x=>match ev st x with
  | some (.ptr o off)=>some (.ptr o off,True)
  | some (.eptr l)=>some (.eptr l,True)
  | some (.aptr o s i off)=>some (.aptr o s i off,True)
  | _=>none
 | .binOp op t x y _=>match I.ti t,ev st x,ev st y with
  | some i,some (.lit .nilIface),some (.lit .nilIface)=>ifcP i.und op y
  | some i,some (.ptr o 0),some (.ptr o' 0)=>ptrP I st i.und op o o'
  | some i,some p,some q=>binP i op p q
  | _,_,_=>none
 | .unOp op _ x=>match ev st x with | some p=>unP op p | none=>none
 | .convert s d x=>match I.ti s,I.ti d,ev st x with
  | some _,some j,some (.t (.int _ n))=>match j.und with
   | .int k=>some (.t (.int k (k.wrap n)),True)
   | _=>none
  | some i,some j,some p=>match i.und,j.und,rowOf st p with
   | .sl e,.str,some (n,f)=>match I.ti e with
    | some k=>match k.und with
     | .int .u8=>some (.t (.str (bstr n f)),∀ i,i<n→isU8 (f i)=true)
     | _=>none
    | none=>none
   | _,_,_=>none
  | _,_,_=>none
 | .makeFunc fn fs cs=>match evList st (fs.toList++cs.toList) with | some l=>some (.fn fn fs.toList.length l,True) | _=>none
 | .fieldAddr s x f=>match I.ti s,ev st x with
  | some i,some p=>match i.und with
   | .st fs=>match fieldP I.ti fs f,p with
    | some off,.ptr o k=>some (.ptr o (k+off),True)
    | some off,.eptr l=>some (.eptr (l.drop off),True)
    | some off,.aptr o s i k=>some (.aptr o s i (k+off),True)
    | _,_=>none
   | _=>none
  | _,_=>none
 | .field t x f=>match I.ti t,ev st x with
  | some i,some p=>match i.und with
   | .st fs=>match fs[f]? with
    | some (off,u)=>match I.ti u with
     | some j=>match p with
      | .t (.agg l)=>tr (readAt j ((l.drop off).map PV.t))
      | .agg l=>tr (readAt j (l.drop off))
      | _=>none
     | none=>none
    | none=>none
   | _=>none
  | _,_=>none
 | .indexAddr t x ix=>match I.ti t,ev st x,ev st ix with
  | some i,some p,some (.t (.int _ k))=>match i.und with
   | .sl e=>match I.ti e with | some j=>indexP st j.size p k | none=>none
   | .arr n e=>match I.ti e,p with | some j,.ptr o off=>some (.ptr o (off+k.toNat*j.size),0≤k∧k<(n:Int)) | _,_=>none
   | _=>none
  | _,_,_=>none
 | .index t x ix=>match I.ti t,ev st x,ev st ix with
  | some i,some (.t (.str s)),some (.t (.int _ k))=>match i.und with
   | .str=>some (.t (.int .u8 ((s[k.toNat]?.getD 0).toNat:Int)),0≤k∧k<(s.size:Int))
   | _=>none
  | some i,some (.t (.agg l)),some (.t (.int _ k))=>match i.und with
   | .arr n e=>match I.ti e with
    | some j=>match readAt j ((l.drop (k.toNat*j.size)).map PV.t) with
     | some q=>some (q,0≤k∧k<(n:Int))
     | none=>none
    | none=>none
   | _=>none
  | some i,some (.agg l),some (.t (.int _ k))=>match i.und with
   | .arr n e=>match I.ti e with
    | some j=>match readAt j (l.drop (k.toNat*j.size)) with
     | some q=>some (q,0≤k∧k<(n:Int))
     | none=>none
    | none=>none
   | _=>none
  | _,_,_=>none
 | .extract x i=>match ev st x with | some (.tup l)=>tr l[i]? | _=>none
 | .build t parts=>tr (buildP I st t parts.toList)
 | .slice t x lo hi mx=>match mx,I.ti t,ev st x with
  | none,some i,some (.t (.str s))=>match i.und,optInt st 0 lo,optInt st s.size hi with
   | .str,some l,some h=>some (.t (.str (s.extract l.toNat h.toNat)),0≤l∧l≤h∧h≤(s.size:Int))
   | _,_,_=>none
  | none,some i,some (.t x)=>match i.und,x.view with
   | .sl e,some (n,f)=>match I.ti e,optInt st 0 lo,optInt st n hi with
    | some j,some l,some h=>match Nat.beq (f 0).length j.size with
     | true=>some (.t (.sl (h-l).toNat (fun k=>f (l.toNat+k))),0≤l∧l≤h∧h≤(n:Int))
     | false=>none
    | _,_,_=>none
   | _,_=>none
  | none,some i,some .nil=>match i.und,optInt st 0 lo,optInt st 0 hi with
   | .sl e,some l,some h=>match I.ti e with
    | some _=>some (.nil,0≤l∧l≤h∧h≤0)
    | none=>none
   | _,_,_=>none
  | _,_,_=>none
 | .lookup t x k true=>match ev st x,ev st k with
  | some p,some q=>match mapP I st t p q with
   | some (_,m,_,ks)=>some (.tup [.t (.bool (mget m ks)),.t (.bool (mhas m ks))],True)
   | none=>none
  | _,_=>none
 | .call c=>callP I st c
 | .entry x=>match ev st x with
  | some (.ptr di 0)=>entP di st.hp
  | _=>none
 | _=>none
section
variable {P:Program} {E:Env} {F:Nat→Prop} {g:Nat→Value} {st:St} {a:Act} {w:World}
theorem Rd.inv_int{k:IntKind}{n:Int}{v:Value}(h:Rd F w (.int k n) v):v = .int k n:=by
 cases h with
 | int=>rfl
 | nil h=>simp[T.view]at h
 | sl _ _ _ _ h=>simp[T.view]at h
theorem Rd.inv_bool{n:Bool}{v:Value}(h:Rd F w (.bool n) v):v = .bool n:=by
 cases h with
 | bool=>rfl
 | nil h=>simp[T.view]at h
 | sl _ _ _ _ h=>simp[T.view]at h
theorem Rd.inv_str{n:ByteArray}{v:Value}(h:Rd F w (.str n) v):v = .string n:=by
 cases h with
 | str=>rfl
 | nil h=>simp[T.view]at h
 | sl _ _ _ _ h=>simp[T.view]at h
theorem VR.inv_int{k:IntKind}{n:Int}{v:Value}(h:VR F g w (.t (.int k n)) v):v = .int k n:=(h.cells_t rfl).inv_int
theorem VR.inv_bool{n:Bool}{v:Value}(h:VR F g w (.t (.bool n)) v):v = .bool n:=(h.cells_t rfl).inv_bool
theorem VR.inv_str{n:ByteArray}{v:Value}(h:VR F g w (.t (.str n)) v):v = .string n:=(h.cells_t rfl).inv_str
theorem run_equal_bool{t:TypeId}(ht:P.underlying t=some .bool)(x y:Bool):(Op.equal t (.bool x) (.bool y)).run P w = .ok (x==y) w:=by
 have:∀ d,(Op.equalIn (d+1) t (.bool x) (.bool y)).run P w = .ok (x==y) w:=by
  intro d; unfold Op.equalIn; simp[run_underlying ht]
 exact this 9999
theorem tr_some{x:Option PV}{p:PV}{C:Prop}(h:tr x=some (p,C)):x=some p:=by
 unfold tr at h; split at h <;> cases h
 rfl
theorem intOp_ok{op:BinOp}{k:IntKind}{x y:Int}{p:PV}{C:Prop}(h:intOp op k x y=some (p,C))(hC:C)(F:Nat→Prop)(g:Nat→Value)(t:TypeId):
  ∃ v,(binOp op t (.int k x) (.int k y)).run P w = .ok v w∧VR F g w p v:=by
 unfold intOp at h
 split at h <;> cases h
 case h_4=>exact⟨_,by simp only[binOp,Op.intDiv,ne_eq,not_true_eq_false,if_false]; rw[if_neg hC]; rfl,.t (.int _ _)⟩
 case h_5=>exact⟨_,by simp only[binOp,Op.intDiv,ne_eq,not_true_eq_false,if_false]; rw[if_neg hC]; rfl,.t (.int _ _)⟩
 case h_1=>exact⟨_,by simp[binOp,Op.intArith],.t (.int _ _)⟩
 case h_2=>exact⟨_,by simp[binOp,Op.intArith],.t (.int _ _)⟩
 case h_3=>exact⟨_,by simp[binOp,Op.intArith],.t (.int _ _)⟩
 case h_12=>exact⟨_,by simp[binOp,Op.intBits,bitA],.t (.int _ _)⟩
 case h_13=>exact⟨_,by simp[binOp,Op.intBits,bitO],.t (.int _ _)⟩
 case h_14=>exact⟨_,by simp[binOp,Op.intBits,bitX],.t (.int _ _)⟩
 case h_15=>exact⟨_,by simp[binOp,Op.intBits,bitN],.t (.int _ _)⟩
 all_goals exact⟨_,by simp[binOp,Op.intCmp],.t (.bool _)⟩
theorem strOp_ok{op:BinOp}{x y:ByteArray}{p:PV}{C:Prop}(h:strOp op x y=some (p,C))(hC:C)(F:Nat→Prop)(g:Nat→Value)(t:TypeId):
  ∃ v,(binOp op t (.string x) (.string y)).run P w = .ok v w∧VR F g w p v:=by
 unfold strOp at h
 split at h <;> cases h
 ·refine⟨.string (x++y),?_,.t (.str _)⟩
  have hm:IntKind.i64.max=9223372036854775807:=by decide
  have:¬ ((x.size+y.size:Nat):Int)>IntKind.i64.max:=by rw[hm]; omega
  simp only[binOp,Op.stringOp]
  rw[if_neg this]; rfl
 all_goals
  exact⟨_,by simp[binOp,Op.stringOp],.t (.bool _)⟩
theorem boolOp_ok{op:BinOp}{x y:Bool}{p:PV}{C:Prop}(h:boolOp op x y=some (p,C))(F:Nat→Prop)(g:Nat→Value)(t:TypeId)(ht:P.underlying t=some .bool):
  ∃ v,(binOp op t (.bool x) (.bool y)).run P w = .ok v w∧VR F g w p v:=by
 unfold boolOp at h
 split at h <;> cases h
 all_goals
  exact⟨_,by simp[binOp,run_equal_bool ht],.t (.bool _)⟩
theorem intsOf_rd:∀ {l:List T} {xs:List Int},intsOf l=some xs→l.length=xs.length∧∀ (j:Nat) x,l[j]? = some x→∃ k,xs[j]? = some k∧x=T.int .i64 k
 | [],xs,h=>by simp[intsOf]at h; subst h; simp
 | .int .i64 x::l,xs,h=>by
  simp only[intsOf]at h
  split at h
  ·rename_i r hr
   cases h
   obtain⟨h1,h2⟩:=intsOf_rd hr
   refine⟨by simp[h1],fun j y hy=>?_⟩
   cases j with
   | zero=>simp at hy; subst hy; exact⟨x,by simp,rfl⟩
   | succ j=>obtain⟨k,h3,h4⟩:=h2 j y (by simpa using hy); exact⟨k,by simpa using h3,h4⟩
  ·cases h
 | .int .i8 _::_,_,h | .int .i16 _::_,_,h | .int .i32 _::_,_,h | .int .u8 _::_,_,h | .int .u16 _::_,_,h | .int .u32 _::_,_,h | .int .u64 _::_,_,h
 | .bool _::_,_,h | .str _::_,_,h | .sl _ _::_,_,h | .agg _::_,_,h | .lz _::_,_,h | .fv _::_,_,h=>by simp[intsOf]at h
theorem flat_cells{l:List T}{F:Nat→Prop}{w:World}{v:Value}(h:∀ x,x∈l→∀ u,Rd F w x u→u=sval x)(hv:Rd F w (.agg l) v):v = .agg (l.map sval).toArray:=by
 cases hv with
 | nil h=>simp[T.view]at h
 | sl _ _ _ _ h=>simp[T.view]at h
 | @agg _ vs hs hr=>
  congr 1
  apply Array.ext
  ·simp[hs]
  ·intro j hj1 hj2
   have hl:j<l.length:=by omega
   have:=hr j _ vs[j] (List.getElem?_eq_getElem hl) (by simp[hj1])
   have:=h _ (List.getElem_mem hl) _ this
   simp[this]
theorem flat_mem:∀ {l r:List T} {b:Bool},flatEq l r=some b→(∀ x,(x∈l∨x∈r)→∀ (F:Nat→Prop) (w:World) (u:Value),Rd F w x u→u=sval x)∧l.length=r.length
 | [],[],_,_=>⟨fun x hx=>by simp at hx,rfl⟩
 | .int k a::l,.int k' b::r,c,h=>by
  simp only[flatEq]at h
  split at h
  ·split at h
   ·rename_i hc
    obtain⟨h1,h2⟩:=flat_mem hc
    refine⟨fun x hx F w u hu=>?_,by simp[h2]⟩
    simp only[List.mem_cons]at hx
    rcases hx with (rfl | hx) | (rfl | hx)
    ·cases hu <;> first | rfl | (rename_i hh; simp[T.view]at hh)
    ·exact h1 x (.inl hx) F w u hu
    ·cases hu <;> first | rfl | (rename_i hh; simp[T.view]at hh)
    ·exact h1 x (.inr hx) F w u hu
   ·cases h
  ·cases h
 | .str a::l,.str b::r,c,h=>by
  simp only[flatEq]at h
  split at h
  ·rename_i hc
   obtain⟨h1,h2⟩:=flat_mem hc
   refine⟨fun x hx F w u hu=>?_,by simp[h2]⟩
   simp only[List.mem_cons]at hx
   rcases hx with (rfl | hx) | (rfl | hx)
   ·cases hu <;> first | rfl | (rename_i hh; simp[T.view]at hh)
   ·exact h1 x (.inl hx) F w u hu
   ·cases hu <;> first | rfl | (rename_i hh; simp[T.view]at hh)
   ·exact h1 x (.inr hx) F w u hu
  ·cases h
 | .bool a::l,.bool b::r,c,h=>by
  simp only[flatEq]at h
  split at h
  ·rename_i hc
   obtain⟨h1,h2⟩:=flat_mem hc
   refine⟨fun x hx F w u hu=>?_,by simp[h2]⟩
   simp only[List.mem_cons]at hx
   rcases hx with (rfl | hx) | (rfl | hx)
   ·cases hu <;> first | rfl | (rename_i hh; simp[T.view]at hh)
   ·exact h1 x (.inl hx) F w u hu
   ·cases hu <;> first | rfl | (rename_i hh; simp[T.view]at hh)
   ·exact h1 x (.inr hx) F w u hu
  ·cases h
theorem flat_val{l r:List T}{b:Bool}(h:flatEq l r=some b){F:Nat→Prop}{w:World}:(∀ {v},Rd F w (.agg l) v→v = .agg (l.map sval).toArray)∧(∀ {v},Rd F w (.agg r) v→v = .agg (r.map sval).toArray):=
 ⟨fun hv=>flat_cells (fun x hx u hu=>(flat_mem h).1 x (.inl hx) F w u hu) hv,fun hv=>flat_cells (fun x hx u hu=>(flat_mem h).1 x (.inr hx) F w u hu) hv⟩
theorem intsOf_val{l:List T}{xs:List Int}(h:intsOf l=some xs){v:Value}(hv:Rd F w (.agg l) v):v = .agg (xs.map (Value.int .i64)).toArray:=by
 obtain⟨h1,h2⟩:=intsOf_rd h
 cases hv with
 | nil h=>simp[T.view]at h
 | sl _ _ _ _ h=>simp[T.view]at h
 | @agg _ vs hs hr=>
  congr 1
  apply Array.ext
  ·simp[hs,h1]
  ·intro j hj1 hj2
   have hl:j<l.length:=by omega
   obtain⟨k,h3,h4⟩:=h2 j l[j] (by simp[hl])
   have:=hr j _ vs[j] (List.getElem?_eq_getElem hl) (by simp[hj1])
   rw[h4]at this
   rw[this.inv_int]
   have:xs[j]=k:=by rw[List.getElem?_eq_some_iff]at h3; exact h3.2
   simp[this]
theorem binP_ok{op:BinOp}{t:TypeId}{i:TInf}(hi:TOk P t i){p q x:PV}{C:Prop}(h:binP i op p q=some (x,C))(hC:C){u v:Value}(hu:VR F g w p u)(hv:VR F g w q v)
  (xo yo:Operand):∃ z,(do eqGuard op t xo yo u v; binOp op t u v:Sem Value).run P w = .ok z w∧VR F g w x z:=by
 unfold binP at h
 have hnil:∀ {q:Option Addr} {b:Bool},nilOp op i.und b=some (x,C)→q.isNone=b→∃ z,(do eqGuard op t xo yo (.pointer q) (.pointer none); binOp op t (.pointer q) (.pointer none):Sem Value).run P w = .ok z w∧VR F g w x z:=by
  intro q b hn hq
  unfold nilOp at hn
  have hg:∀ o:BinOp,(eqGuard o t xo yo (.pointer q) (.pointer none)).run P w = .ok () w:=fun o=>by unfold eqGuard; cases o <;> simp
  split at hn
  ·rename_i e hu'
   have ht:=hi.und; rw[hu']at ht
   cases hn
   refine⟨.bool b,?_,.t (.bool _)⟩
   have ht':P.underlying t=some (.pointer (P.pointee t)):=by unfold Program.pointee; rw[ht]
   have he:(Op.equal t (.pointer q) (.pointer none)).run P w = .ok b w:=by rw[←hq]; exact run_equal_pointer_nil w t q ht'
   simp[hg,binOp,he]
  ·rename_i e hu'
   have ht:=hi.und; rw[hu']at ht
   cases hn
   refine⟨.bool (!b),?_,.t (.bool _)⟩
   have ht':P.underlying t=some (.pointer (P.pointee t)):=by unfold Program.pointee; rw[ht]
   have he:(Op.equal t (.pointer q) (.pointer none)).run P w = .ok b w:=by rw[←hq]; exact run_equal_pointer_nil w t q ht'
   simp[hg,binOp,he]
  ·cases hn
 split at h
 ·rename_i k a k' b
  obtain rfl:=hu.inv_int; obtain rfl:=hv.inv_int
  split at h
  ·rename_i hsh
   unfold shOp at h
   have hgd:(eqGuard op t xo yo (.int k a) (.int k' b)).run P w = .ok () w:=by unfold eqGuard; cases op <;> simp
   split at h
   ·cases h
    refine⟨_,?_,.t (.int _ _)⟩
    have hb:¬ b<0:=by omega
    simp only[Sem.run_bind,hgd,Result.andThen_ok,binOp,Op.shift,if_neg hb,shlI,Sem.run_pure]
   ·cases h
    refine⟨_,?_,.t (.int _ _)⟩
    have hb:¬ b<0:=by omega
    simp only[Sem.run_bind,hgd,Result.andThen_ok,binOp,Op.shift,if_neg hb,shrI,Sem.run_pure]
   ·cases h
  have hk:k=k':=by
   by_cases hk:k=k'
   ·exact hk
   ·rw[if_neg hk]at h; cases h
  subst hk
  rw[if_pos rfl]at h
  obtain⟨z,hz,hr⟩:=intOp_ok (P:=P) (w:=w) h hC F g t
  refine⟨z,?_,hr⟩
  have:(eqGuard op t xo yo (.int k a) (.int k b)).run P w = .ok () w:=by unfold eqGuard; cases op <;> simp
  simp[this,hz]
 ·cases hu with
  | ptr hg=>cases hv with | np=>exact hnil h rfl
 ·cases hu with
  | np=>cases hv with | np=>exact hnil h rfl
 ·obtain rfl:=hu.inv_str; obtain rfl:=hv.inv_str
  rename_i a b
  obtain⟨z,hz,hr⟩:=strOp_ok (P:=P) (w:=w) h hC F g t
  refine⟨z,?_,hr⟩
  have:(eqGuard op t xo yo (.string a) (.string b)).run P w = .ok () w:=by unfold eqGuard; cases op <;> simp
  simp[this,hz]
 ·rename_i l r
  unfold aggOp at h
  split at h
  ·rename_i hflat
   split at h
   ·rename_i b hb hl
    have hl:=Nat.eq_of_beq_eq_true hl
    obtain⟨hg,he⟩:=hi.eqf (by intro h0; rw[h0]at hflat; cases hflat)
    obtain⟨f1,f2⟩:=flat_val hb
    have e1:=f1 (hu.cells_t rfl)
    have e2:=f2 (hv.cells_t rfl)
    subst e1 e2
    have hee:=he _ _ b w hb hl
    split at h
    ·cases h
     exact⟨.bool b,by simp[run_eqGuard_agg w _ _ _ _ _ _ hg,run_eql_struct,hee],.t (.bool _)⟩
    ·cases h
     exact⟨.bool (!b),by simp[run_eqGuard_agg w _ _ _ _ _ _ hg,run_neq_struct,hee],.t (.bool _)⟩
    ·cases h
   ·cases h
  ·rename_i hflat
   split at h
   ·rename_i xs ys hxs hys
    split at h
    ·rename_i hl1 hl2 hn
     have hl1:=Nat.eq_of_beq_eq_true hl1
     have hl2:=Nat.eq_of_beq_eq_true hl2
     have hn:=Nat.le_of_ble_eq_true hn
     obtain⟨hg,he⟩:=hi.eqv (by omega)
     have e1:=intsOf_val hxs (hu.cells_t rfl)
     have e2:=intsOf_val hys (hv.cells_t rfl)
     subst e1 e2
     have hee:=he xs ys w hl1 hl2
     split at h
     ·cases h
      exact⟨.bool (xs==ys),by simp[run_eqGuard_agg w _ _ _ _ _ _ hg,run_eql_struct,hee],.t (.bool _)⟩
     ·cases h
      exact⟨.bool (!(xs==ys)),by simp[run_eqGuard_agg w _ _ _ _ _ _ hg,run_neq_struct,hee],.t (.bool _)⟩
     ·cases h
    ·cases h
   ·cases h
 ·obtain rfl:=hu.inv_bool; obtain rfl:=hv.inv_bool
  rename_i a b
  split at h
  ·rename_i hb
   have ht:=hi.und; rw[hb]at ht
   obtain⟨z,hz,hr⟩:=boolOp_ok (P:=P) (w:=w) h F g t ht
   refine⟨z,?_,hr⟩
   have:(eqGuard op t xo yo (.bool a) (.bool b)).run P w = .ok () w:=by unfold eqGuard; cases op <;> simp
   simp[this,hz]
  ·cases h
 ·cases h
theorem unP_ok{op:UnOp}{p x:PV}{C:Prop}(h:unP op p=some (x,C)){u:Value}(hu:VR F g w p u):∃ z,(Op.unary op u).run P w = .ok z w∧VR F g w x z:=by
 unfold unP at h
 split at h <;> cases h
 ·obtain rfl:=hu.inv_bool
  exact⟨_,by simp[Op.unary],.t (.bool _)⟩
 ·obtain rfl:=hu.inv_int
  exact⟨_,by simp[Op.unary,Op.intArith],.t (.int _ _)⟩
theorem Rd.slice_len{x:T}{v:Value}(h:Rd F w x v){n:Nat}{f:Nat→List T}(hx:x.view=some (n,f)):∃ ad cap,v = .slice ad n cap:=by
 cases h with
 | int=>simp[T.view]at hx
 | bool=>simp[T.view]at hx
 | str=>simp[T.view]at hx
 | fv=>simp[T.view]at hx
 | agg=>simp[T.view]at hx
 | nil h=>rw[hx]at h; simp at h; exact⟨none,0,by rw[h.1]⟩
 | sl ad cap size vs h=>rw[hx]at h; simp at h; exact⟨some ad,cap,by rw[h.1]⟩
theorem lenP_ok(r:RelG E F g st a w){t:TypeId}{i:TInf}(hi:TOk P t i){p x:PV}(h:lenP st i.und p=some x){u:Value}(hu:VR F g w p u)(ty:TypeId):
  ∃ z,(Builtin.len_ #[t] ty #[u]).run P w = .ok z w∧VR F g w x z:=by
 have hd:=hi.und
 unfold lenP at h
 split at h
 ·rename_i he; rw[he]at hd
  simp at h; subst h
  obtain rfl:=hu.inv_str
  exact⟨_,by simp[Builtin.len_,run_underlying hd,goInt],.t (.int _ _)⟩
 ·rename_i he; rw[he]at hd
  simp at h; subst h
  cases hu
  exact⟨_,by simp[Builtin.len_,run_underlying hd,goInt],.t (.int _ _)⟩
 ·rename_i he; rw[he]at hd
  split at h
  ·rename_i hl
   simp at h; subst h
   have ho:=r.w.hp.obj _ _ (look_mem hl)
   cases hu with
   | own hg=>
    rcases ho with⟨h1,h2⟩ | ⟨b,cap,cur,h1,_⟩
    ·rw[hg]at h1; injection h1 with h1 h3 h4; subst h3; subst h2
     exact⟨_,by simp[Builtin.len_,run_underlying hd,goInt],.t (.int _ _)⟩
    ·rw[hg]at h1; injection h1 with h1 h3 h4; subst h3
     exact⟨_,by simp[Builtin.len_,run_underlying hd,goInt],.t (.int _ _)⟩
  ·rename_i hl
   simp at h; subst h
   have ho:=r.w.hp.obj _ _ (look_mem hl)
   cases hu with
   | own hg=>
    rcases ho with⟨h1,h2,_⟩ | ⟨b,cap,cur,h1,_⟩
    ·rw[hg]at h1; injection h1 with h1 h3 h4; subst h3; subst h2
     exact⟨_,by simp[Builtin.len_,run_underlying hd,goInt],.t (.int _ _)⟩
    ·rw[hg]at h1; injection h1 with h1 h3 h4; subst h3
     exact⟨_,by simp[Builtin.len_,run_underlying hd,goInt],.t (.int _ _)⟩
  ·cases h
 ·rename_i he; rw[he]at hd
  split at h
  ·rename_i hv
   simp at h; subst h
   obtain⟨ad,cap,rfl⟩:=(hu.cells_t rfl).slice_len hv
   exact⟨_,by simp[Builtin.len_,run_underlying hd,goInt],.t (.int _ _)⟩
  ·cases h
 ·cases h
theorem maxP_ok{p q x:PV}(h:maxP p q=some x){u v:Value}(hu:VR F g w p u)(hv:VR F g w q v)(ts:Array TypeId)(ty:TypeId):
  ∃ z,(Builtin.max_ ts ty #[u,v]).run P w = .ok z w∧VR F g w x z:=by
 unfold maxP at h
 split at h <;> simp at h
 subst h
 obtain rfl:=hu.inv_int; obtain rfl:=hv.inv_int
 exact⟨_,by simp[Builtin.max_,Builtin.max2],.t (.int _ _)⟩
theorem minP_ok{p q x:PV}(h:minP p q=some x){u v:Value}(hu:VR F g w p u)(hv:VR F g w q v)(ts:Array TypeId)(ty:TypeId):
  ∃ z,(Builtin.min_ ts ty #[u,v]).run P w = .ok z w∧VR F g w x z:=by
 unfold minP at h
 split at h <;> simp at h
 subst h
 obtain rfl:=hu.inv_int; obtain rfl:=hv.inv_int
 exact⟨_,by simp[Builtin.min_,Builtin.min2],.t (.int _ _)⟩
theorem armCells_ok{ov:Option (Nat×Nat×PV)}{k:Nat}:∀ {cs:List Cel} {j:Nat} {l:List PV} {C:Prop},armCells ov k j cs=some (l,C)→C →
  ∀ (q:Nat) x,l[q]? = some x→∃ c,cs[q]? = some c∧((∃ y,c = .d y∧x = .t y)∨(c = .any∧ov=some (k,j+q,x)))
 | [],j,l,C,h,_,q,x,hx=>by
  simp only[armCells,Option.some.injEq,Prod.mk.injEq]at h
  rw[←h.1]at hx; simp at hx
 | c::cs,j,l,C,h,hC,q,x,hx=>by
  simp only[armCells]at h
  split at h
  ·rename_i y r C' hr
   cases h
   cases q with
   | zero=>simp at hx; subst hx; exact⟨_,rfl,.inl ⟨_,rfl,rfl⟩⟩
   | succ q=>
    obtain⟨c,h1,h2⟩:=armCells_ok hr hC q x (by simpa using hx)
    exact⟨c,by simpa using h1,by rw[show j+(q+1)=j+1+q by omega]; exact h2⟩
  ·rename_i r C' hr
   split at h
   ·rename_i i j' p
    split at h
    ·rename_i hj
     have hj:=Nat.eq_of_beq_eq_true hj
     cases h
     obtain⟨hk,hC⟩:=hC
     cases q with
     | zero=>simp at hx; subst hx; subst hk; subst hj; exact⟨_,rfl,.inr ⟨rfl,rfl⟩⟩
     | succ q=>
      obtain⟨c,h1,h2⟩:=armCells_ok hr hC q x (by simpa using hx)
      exact⟨c,by simpa using h1,by rw[show j+(q+1)=j+1+q by omega]; exact h2⟩
    ·cases h
   ·cases h
  ·cases h
theorem loadP_ok(r:RelG E F g st a w){t:TypeId}{i:TInf}(hi:TOk P t i){p x:PV}{C:Prop}(h:loadP st i p=some (x,C))(hC:C){u:Value}(hu:VR F g w p u):
  ∃ z,(Instr.loadAt t u).run P w = .ok z w∧VR F g w x z:=by
 cases p with
 | ptr o off=>
  simp only[loadP]at h
  split at h
  ·rename_i l hl
   have ho:=r.w.hp.obj _ _ (look_mem hl)
   obtain⟨b,vs,ty,h1,h2,h3,h4⟩:=ho
   split at h
   ·rename_i q hq
    cases h
    cases hu with
    | @ptr _ _ b' hg=>
     rw[h1]at hg; injection hg with hg; injection hg with hg; injection hg with hg; subst hg
     obtain⟨v,hv,hr⟩:=readAt_ok (g:=g) hi hq ⟨b,off,none⟩ (fun j x hx=>by
      rw[List.getElem?_drop]at hx
      have hlt:off+j<vs.size:=by rw[h3]; exact(List.getElem?_eq_some_iff.1 hx).1
      refine⟨vs[off+j],?_,h4 _ _ _ hx (by simp[hlt])⟩
      rw[Addr.add_none]
      simp[World.cell?,h2,hlt])
     exact⟨v,by simp[Instr.loadAt,Instr.sureAddr,hv],hr⟩
   ·cases h
  ·cases h
 | eptr l=>
  simp only[loadP]at h
  split at h
  ·rename_i q hq
   cases h
   cases hu with
   | eptr ad hF hc=>
    obtain⟨v,hv,hr⟩:=readAt_ok (g:=g) hi hq ad (fun j x hx=>by
     simp only[List.getElem?_map,Option.map_eq_some_iff]at hx
     obtain⟨y,hy,rfl⟩:=hx
     obtain⟨v,h1,h2⟩:=hc j y hy
     exact⟨v,h1,.t h2⟩)
    exact⟨v,by simp[Instr.loadAt,Instr.sureAddr,hv],hr⟩
  ·cases h
 | aptr o s k off=>
  simp only[loadP]at h
  split at h
  ·rename_i s' n f hl
   have ho:=r.w.hp.obj _ _ (look_mem hl)
   split at h
   ·rename_i hs
    have hs:=Nat.eq_of_beq_eq_true hs
    split at h
    ·rename_i q hq
     cases h
     cases hu with
     | @aptr _ _ _ _ b n' cap hg=>
      rcases ho with⟨h1,h2⟩ | ⟨b',cap',cur,h1,h2,h3,h4,h5,h6,h7⟩
      ·rw[h1]at hg; cases hg
      ·rw[h1]at hg; injection hg with hg hg2 hg3; injection hg with hg; injection hg with hg
       subst hg
       subst hs
       obtain⟨v,hv,hr⟩:=readAt_ok (g:=g) hi hq ⟨b',k*s'+off,none⟩ (fun j x hx=>by
        simp only[List.getElem?_map,Option.map_eq_some_iff,List.getElem?_drop]at hx
        obtain⟨y,hy,rfl⟩:=hx
        obtain⟨v,h8,h9⟩:=h7 k (off+j) y hC hy
        refine⟨v,?_,.t h9⟩
        rw[Addr.add_none]
        simp only[World.cell?,h2]
        simpa[Nat.add_assoc] using h8)
       exact⟨v,by simp[Instr.loadAt,Instr.sureAddr,hv],hr⟩
    ·cases h
   ·cases h
  ·rename_i s' n f ov hl
   have ho:=r.w.hp.obj _ _ (look_mem hl)
   split at h
   ·rename_i lv C' hs hcs
    have hs:=Nat.eq_of_beq_eq_true hs
    split at h
    ·rename_i q hq
     cases h
     obtain⟨hkn,hC⟩:=hC
     cases hu with
     | @aptr _ _ _ _ b n' cap hg=>
      rcases ho with⟨h1,h2,_⟩ | ⟨b',cap',cur,h1,h2,h3,h4,h5,hA⟩
      ·rw[h1]at hg; cases hg
      ·rw[h1]at hg; injection hg with hg hg2 hg3; injection hg with hg; injection hg with hg
       subst hg
       subst hs
       obtain⟨v,hv,hr⟩:=readAt_ok (g:=g) (F:=F) (w:=w) hi hq ⟨b',k*s'+off,none⟩ (fun j x hx=>by
        obtain⟨c,h6,h7⟩:=armCells_ok hcs hC j x hx
        have h8:(f k)[off+j]? = some c:=by
         rw[List.getElem?_take]at h6
         split at h6
         ·rwa [List.getElem?_drop]at h6
         ·cases h6
        obtain⟨v,hv,hR⟩:=hA.cell k (off+j) c hkn h8
        refine⟨v,?_,?_⟩
        ·rw[Addr.add_none]
         simp only[World.cell?,h2]
         simpa[Nat.add_assoc] using hv
        ·rcases h7 with⟨y,rfl,rfl⟩ | ⟨rfl,rfl⟩
         ·exact .t hR
         ·exact(hA.ov _ _ _ rfl).2.2 v hv)
       exact⟨v,by simp[Instr.loadAt,Instr.sureAddr,hv],hr⟩
    ·cases h
   ·cases h
  ·cases h
 | _=>simp[loadP]at h
end
section
variable {P:Program} {E:Env} {F:Nat→Prop} {g:Nat→Value} {st:St} {a:Act} {w:World}
theorem run_fieldAt{ti:Nat→Option TInf}(hI:TIok P ti){s:TypeId}{i:TInf}(hi:TOk P s i){fs:List (Nat×Nat)}(hu:i.und = .st fs){f off:Nat}(hf:fieldP ti fs f=some off)(ad:Addr):
  (Instr.fieldAt s (.pointer (some ad)) f).run P w = .ok (.pointer (some (ad.add off))) w:=by
 have hd:=hi.und
 rw[hu]at hd
 obtain⟨fields,h1,h2⟩:=hd
 unfold fieldP at hf
 split at hf
 ·rename_i o t hft
  split at hf
  ·rename_i j hj
   split at hf
   ·cases hf
   ·rename_i hz
    cases hf
    have hz:=Nat.ne_of_beq_eq_false hz
    rw[←h2,List.getElem?_map,Option.map_eq_some_iff]at hft
    obtain⟨fd,hfd,he⟩:=hft
    cases he
    have hfd':fields[f]? = some fd:=by simpa using hfd
    have hs:=run_sizeOf (w:=w) (hI _ _ hj)
    simp[Instr.fieldAt,run_underlying h1,hfd',Instr.sureAddr,fieldPlace,hs,hz]
  ·cases hf
 ·cases hf
theorem indexP_ok(r:RelG E F g st a w){t e:TypeId}{i j:TInf}(hi:TOk P t i)(hu:i.und = .sl e)(hj:TOk P e j){p x:PV}{n:Int}{C:Prop}
  (h:indexP st j.size p n=some (x,C))(hC:C){u:Value}(hv:VR F g w p u)(k:IntKind):
  ∃ z,(Instr.indexAt t u (.int k n)).run P w = .ok z w∧VR F g w x z:=by
 have hd:=hi.und
 rw[hu]at hd
 cases p with
 | t p=>
  simp only[indexP]at h
  split at h
  ·rename_i m f hm
   split at h
   ·rename_i hl
    have hl:=Nat.eq_of_beq_eq_true hl
    cases h
    have hr:=hv.cells_t rfl
    have hlt:n.toNat<m:=by omega
    obtain⟨ad,cap,rfl⟩:=hr.slice_len hm
    cases hr with
    | nil h=>rw[hm]at h; simp at h; omega
    | sl ad cap size vs h hc hF hs hv' hr'=>
     rw[hm]at h; simp at h; obtain⟨_,rfl⟩:=h
     refine⟨.pointer (some (ad.add (n.toNat*j.size))),?_,.eptr _ (fun _=>?_) (fun q y hy=>?_)⟩
     ·simp[Instr.indexAt,asIntOf,run_underlying hd,hC,run_sizeOf hj]
     ·have:(ad.add (n.toNat*j.size)).block=ad.block:=by unfold Addr.add; split <;> rfl
      rw[this]; exact hF (by omega)
     ·have hsz:size=j.size:=by rw[←hs _ hlt,hl]
      subst hsz
      have hq:q<j.size:=by rw[←hs _ hlt]; exact(List.getElem?_eq_some_iff.1 hy).1
      refine⟨vs n.toNat q,?_,hr' _ _ _ hlt hy⟩
      rw[Addr.add_add]
      exact hv' n.toNat q hlt hq
   ·cases h
  ·cases h
 | own o=>
  simp only[indexP]at h
  split at h
  ·rename_i e' s' m f hl
   split at h
   ·rename_i hs
    have hs:=Nat.eq_of_beq_eq_true hs
    cases h
    have ho:=r.w.hp.obj _ _ (look_mem hl)
    have hlt:n.toNat<m:=by omega
    cases hv with
    | @own _ n' cap ad hg=>
     rcases ho with⟨h1,h2⟩ | ⟨b,cap',cur,h1,h2,h3,h4,h5,h6,h7⟩
     ·omega
     ·rw[h1]at hg; injection hg with hg hg2 hg3
      subst hg; subst hg2; subst hg3
      refine⟨.pointer (some ⟨b,n.toNat*j.size+0,none⟩),?_,.aptr h1⟩
      simp only[Instr.indexAt,asIntOf,Sem.run_bind,Sem.run_pure,Result.andThen_ok,run_underlying hd]
      rw[if_pos hC]
      simp[run_sizeOf hj,Addr.add_none]
   ·cases h
  ·rename_i e' s' m f ov hl
   split at h
   ·rename_i hs
    have hs:=Nat.eq_of_beq_eq_true hs
    cases h
    have ho:=r.w.hp.obj _ _ (look_mem hl)
    have hlt:n.toNat<m:=by omega
    cases hv with
    | @own _ n' cap ad hg=>
     rcases ho with⟨h1,h2,_⟩ | ⟨b,cap',cur,h1,h2,h3,h4,h5,hA⟩
     ·omega
     ·rw[h1]at hg; injection hg with hg hg2 hg3
      subst hg; subst hg2; subst hg3
      refine⟨.pointer (some ⟨b,n.toNat*j.size+0,none⟩),?_,.aptr h1⟩
      simp only[Instr.indexAt,asIntOf,Sem.run_bind,Sem.run_pure,Result.andThen_ok,run_underlying hd]
      rw[if_pos hC]
      simp[run_sizeOf hj,Addr.add_none]
   ·cases h
  ·cases h
 | _=>simp[indexP]at h
theorem foldl_set(off:Nat):∀ (xs:List Value) (k:Nat) (cs:Array Value) (j:Nat),
  ((xs.zipIdx k).foldl (fun cs (c,j)=>cs.setIfInBounds (off+j) c) cs).size=cs.size ∧
  ((xs.zipIdx k).foldl (fun cs (c,j)=>cs.setIfInBounds (off+j) c) cs)[j]? = if off+k≤j∧j<off+k+xs.length∧j<cs.size then xs[j-(off+k)]? else cs[j]?
 | [],k,cs,j=>by simp; omega
 | x::xs,k,cs,j=>by
  obtain⟨h1,h2⟩:=foldl_set off xs (k+1) (cs.setIfInBounds (off+k) x) j
  simp only[List.zipIdx_cons,List.foldl_cons]
  refine⟨by rw[h1]; simp,?_⟩
  rw[h2]
  simp only[Array.size_setIfInBounds,List.length_cons,Array.getElem?_setIfInBounds]
  by_cases hj:j=off+k
  ·subst hj
   simp
   by_cases hlt:off+k<cs.size
   ·simp[hlt]
    intro h; omega
   ·simp[hlt]
  ·by_cases hin:off+(k+1)≤j∧j<off+(k+1)+xs.length∧j<cs.size
   ·rw[if_pos hin,if_pos (by omega)]
    rw[show j-(off+k)=(j-(off+(k+1)))+1 by omega]
    simp
   ·rw[if_neg hin,if_neg (by omega),if_neg (by omega)]
theorem fill_ok{places:Nat→Option (Nat×Nat)}:∀ (ps:List (Nat×PV)) (vs:List (Nat×Value)) (cs:List PV) (cells:Array Value) (out:List PV),
  vs.length=ps.length→(∀ (j:Nat) i x i' v,ps[j]? = some (i,x)→vs[j]? = some (i',v)→i'=i∧VR F g w x v) →
  cells.size=cs.length→(∀ (j:Nat) x v,cs[j]? = some x→cells[j]? = some v→VR F g w x v)→fillP places cs ps=some out →
  ∃ oc,Instr.fill places cells vs=some oc∧oc.size=out.length∧∀ (j:Nat) x v,out[j]? = some x→oc[j]? = some v→VR F g w x v
 | [],vs,cs,cells,out,hl,_,hs,hc,h=>by
  simp[fillP]at h; subst h
  have:vs=[]:=List.eq_nil_of_length_eq_zero hl
  subst this
  exact⟨cells,rfl,hs,hc⟩
 | (i,x)::ps,[],cs,cells,out,hl,_,_,_,_=>by simp at hl
 | (i,x)::ps,(i',v)::vs,cs,cells,out,hl,hp,hs,hc,h=>by
  obtain⟨hi,hx⟩:=hp 0 i x i' v (by simp) (by simp)
  subst hi
  simp only[fillP]at h
  split at h
  ·cases h
  ·rename_i off size hpl
   split at h
   ·rename_i h1 h2 h3
    have h1:=Nat.eq_of_beq_eq_true h1
    have h2:=Nat.le_of_ble_eq_true h2
    obtain⟨hcs,hcr⟩:=hx.cells
    have hset:=foldl_set off v.cells.toList 0 cells
    have key:=fill_ok ps vs _ (v.cells.zipIdx.foldl (fun cs (c,j)=>cs.setIfInBounds (off+j) c) cells) out (by simpa using hl)
     (fun j i x i' v hj hj'=>hp (j+1) i x i' v (by simpa using hj) (by simpa using hj')) (by
      rw[←Array.foldl_toList]
      simp only[Array.toList_zipIdx]
      rw[(hset 0).1]
      simp only[List.length_append,List.length_take,List.length_drop]
      omega) (fun j y u hy hu=>by
      rw[←Array.foldl_toList]at hu
      simp only[Array.toList_zipIdx]at hu
      rw[(hset j).2]at hu
      have hjlen:j<cs.length:=by
       have:=(List.getElem?_eq_some_iff.1 hy).1
       simp only[List.length_append,List.length_take,List.length_drop]at this
       omega
      simp only[Nat.add_zero,Array.length_toList]at hu
      by_cases hin:off≤j∧j<off+x.cells.length
      ·rw[if_pos (by omega)]at hu
       rw[List.append_assoc,List.getElem?_append_right (by simp; omega)]at hy
       rw[List.getElem?_append_left (by simp; omega)]at hy
       simp only[List.length_take]at hy
       rw[show min off cs.length=off by omega]at hy
       exact hcr _ _ _ hy (by simpa using hu)
      ·rw[if_neg (by omega)]at hu
       refine hc j y u ?_ hu
       by_cases hlo:j<off
       ·rw[List.append_assoc,List.getElem?_append_left (by simp; omega)]at hy
        rw[List.getElem?_take,if_pos hlo]at hy
        exact hy
       ·rw[List.getElem?_append_right (by simp; omega)]at hy
        rw[List.getElem?_drop]at hy
        simp only[List.length_append,List.length_take]at hy
        rw[show off+size+(j-(min off cs.length+x.cells.length))=j by omega]at hy
        exact hy) h
    obtain⟨oc,ho1,ho2⟩:=key
    refine⟨oc,?_,ho2⟩
    simp only[Instr.fill,hpl]
    rw[if_neg (by simp only[ne_eq,Bool.or_eq_true,decide_eq_true_eq,not_or,Decidable.not_not]; omega)]
    exact ho1
   ·cases h
theorem evParts_ok(r:RelG E F g st a w):∀ (l:List (Nat×Operand)) (ps:List (Nat×PV)),evParts st l=some ps →
  ps.length=l.length∧∀ (j:Nat) i x i' v,ps[j]? = some (i,x)→(l.map fun (i,x)=>(i,a.eval x))[j]? = some (i',v)→i'=i∧VR F g w x v
 | [],ps,h=>by simp[evParts]at h; subst h; simp
 | (i,x)::l,ps,h=>by
  simp only[evParts]at h
  split at h
  ·rename_i p q hp hq
   cases h
   obtain⟨h1,h2⟩:=evParts_ok r l q hq
   refine⟨by simp[h1],fun j i' y i'' v hj hj'=>?_⟩
   cases j with
   | zero=>simp at hj hj'; obtain⟨rfl,rfl⟩:=hj; obtain⟨rfl,rfl⟩:=hj'; exact⟨rfl,ev_ok r hp⟩
   | succ j=>exact h2 j i' y i'' v (by simpa using hj) (by simpa using hj')
  ·cases h
theorem evList_ok(r:RelG E F g st a w):∀ (l:List Operand) (ps:List PV),evList st l=some ps →
  ps.length=l.length∧∀ (j:Nat) x v,ps[j]? = some x→(l.map a.eval)[j]? = some v→VR F g w x v
 | [],ps,h=>by simp[evList]at h; subst h; simp
 | x::l,ps,h=>by
  simp only[evList]at h
  split at h
  ·rename_i p q hp hq
   cases h
   obtain⟨h1,h2⟩:=evList_ok r l q hq
   refine⟨by simp[h1],fun j y v hj hj'=>?_⟩
   cases j with
   | zero=>simp at hj hj'; subst hj; subst hj'; exact ev_ok r hp
   | succ j=>exact h2 j y v (by simpa using hj) (by simpa using hj')
  ·cases h
theorem placesP_ok{ti:Nat→Option TInf}(hI:TIok P ti):∀ (fs:List Field) (pl:List (Nat×Nat)),placesP ti (fs.map fun f=>(f.offset,f.type))=some pl →
  fs.mapM (fun f=>(P.info? f.type).map fun i=>(f.offset,i.size))=some pl
 | [],pl,h=>by simp[placesP]at h; subst h; rfl
 | f::fs,pl,h=>by
  simp only[List.map_cons,placesP]at h
  split at h
  ·rename_i i q hi hq
   cases h
   obtain⟨info,h1,h2,_⟩:=(hI _ _ hi).info
   simp[List.mapM_cons,h1,h2,placesP_ok hI fs q hq]
  ·cases h
theorem zero_ok{t:TypeId}{i:TInf}(hi:TOk P t i):∃ info z,P.info? t=some info∧info.zero=some z∧z.cells.size=i.zero.length ∧
  ∀ (j:Nat) x v,i.zero[j]? = some x→z.cells[j]? = some v→VR F g w x v:=by
 obtain⟨info,h1,_,_,z,h4,h5⟩:=hi.info
 refine⟨info,z,h1,h4,by simpa using congrArg List.length h5,fun j x v hx hv=>?_⟩
 have:=congrArg (·[j]?) h5
 have hv':z.cells.toList[j]? = some v:=by simpa using hv
 simp only[List.getElem?_map,hx,hv',Option.map_some]at this
 exact constPV_ok (by simpa using this) F g w
theorem buildP_ok{I:Inf}(hI:TIok P I.ti)(r:RelG E F g st a w){t:TypeId}{parts:Array (Nat×Operand)}{x:PV}(h:buildP I st t parts.toList=some x):
  ∃ z,(Instr.build t (parts.map fun (i,x)=>(i,a.eval x))).run P w = .ok z w∧VR F g w x z:=by
 unfold buildP at h
 split at h
 ·rename_i i ps hi hps
  obtain⟨hl,hp⟩:=evParts_ok r _ _ hps
  obtain⟨info,z,h1,h2,h3,h4⟩:=zero_ok (F:=F) (g:=g) (w:=w) (hI _ _ hi)
  have hd:=(hI _ _ hi).und
  split at h
  ·rename_i fs hu
   rw[hu]at hd
   obtain⟨fields,hf1,hf2⟩:=hd
   split at h
   ·rename_i pl hpl
    split at h
    ·rename_i c hc
     cases h
     obtain⟨oc,ho1,ho2,ho3⟩:=fill_ok (F:=F) (g:=g) (w:=w) ps (parts.toList.map fun (i,x)=>(i,a.eval x)) i.zero z.cells c (by simp[hl]) hp h3 h4 hc
     refine⟨.agg oc,run_build w t _ oc ?_,aggOf_ok ho2 ho3⟩
     unfold Program.built
     rw[h1,hf1]
     simp only[h2]
     rw[placesP_ok hI fields.toList pl (by rw[hf2]; exact hpl)]
     simpa using ho1
    ·cases h
   ·cases h
  ·rename_i n e hu
   rw[hu]at hd
   split at h
   ·rename_i ie hie
    split at h
    ·rename_i c hc
     cases h
     obtain⟨oc,ho1,ho2,ho3⟩:=fill_ok (F:=F) (g:=g) (w:=w) ps (parts.toList.map fun (i,x)=>(i,a.eval x)) i.zero z.cells c (by simp[hl]) hp h3 h4 hc
     obtain⟨info',h1',h2',_⟩:=(hI _ _ hie).info
     refine⟨.agg oc,run_build w t _ oc ?_,aggOf_ok ho2 ho3⟩
     unfold Program.built
     simp only[UR]at hd
     rw[h1,hd]
     simp only[h2,h1',h2']
     simpa using ho1
    ·cases h
   ·cases h
  ·cases h
 ·cases h
end
section
variable {P:Program} {E:Env} {F:Nat→Prop} {g:Nat→Value} {st:St} {a:Act} {w:World}
def MapIs(n:Nat)(m:List (List Int×Bool))(es:List MapEntry):Prop:=es.length=m.length∧(∀ x,x∈m→x.1.length=n)∧∀ (j:Nat) e x,es[j]? = some e→m[j]? = some x→e.key=intsV x.1∧e.val = .bool x.2
theorem findAsking_ok{kt:TypeId}{n:Nat}(hn:n≠0)(hE:EqOk P kt n){ks:List Int}(hk:ks.length=n):∀ (m:List (List Int×Bool)) (es:List MapEntry) (i:Nat),MapIs n m es →
  (Instr.findAsking kt (intsV ks) es i).run P w = .ok ((mfind m ks i).map fun x=>(x.1,.bool x.2)) w
 | [],es,i,h=>by
  have:es=[]:=List.eq_nil_of_length_eq_zero (by simpa using h.1)
  subst this
  simp[Instr.findAsking,mfind]
 | x::m,es,i,h=>by
  cases es with
  | nil=>have:=h.1; simp at this
  | cons e es=>
   obtain⟨h1,h2⟩:=h.2.2 0 e x (by simp) (by simp)
   have hl:=h.2.1 x (by simp)
   have heq:(Op.equal kt (intsV ks) e.key).run P w = .ok (ks==x.1) w:=by
    rw[h1]; exact(hE hn).2 ks x.1 w hk hl
   have ih:=findAsking_ok hn hE hk m es (i+1) ⟨by have:=h.1; simpa using this,fun y hy=>h.2.1 y (List.mem_cons_of_mem _ hy),fun j e' y he hy=>h.2.2 (j+1) e' y (by simpa using he) (by simpa using hy)⟩
   simp only[Instr.findAsking,Sem.run_bind,heq,Result.andThen_ok,mfind]
   cases hb:ks==x.1
   ·simp only[Bool.false_eq_true,if_false]; exact ih
   ·simp[h2]
theorem mapP_ok{I:Inf}(hI:TIok P I.ti)(r:RelG E F g st a w){t:Nat}{p q:PV}{n o:Nat}{m:List (List Int×Bool)}{ks:List Int}(h:mapP I st t p q=some (n,m,o,ks)){u v:Value}
  (hu:VR F g w p u)(hv:VR F g w q v):∃ kt et b es clock info,P.underlying t=some (.map kt et)∧u = .map (some b)∧v=intsV ks∧g o = .map (some b)∧(o,.mpb n m)∈st.hp ∧
   w.heap[b]? = some (.map es clock)∧MapIs n m es.toList∧ks.length=n∧P.info? et=some info∧info.zero=some (.bool false) ∧
   (∀ em,(Instr.checkKey em 10000 kt v).run P w = .ok () w)∧(Instr.findKey kt v es.toList).run P w = .ok ((mfind m ks 0).map fun x=>(x.1,.bool x.2)) w:=by
 unfold mapP at h
 split at h
 ·rename_i i o' l hi
  split at h
  ·rename_i kt et n' m' ks' hui hlk hin
   split at h
   ·rename_i ik ie hik hie
    split at h
    ·rename_i ma me h1 h2 h3 h4 h5 h6
     cases h
     have h4:=Nat.eq_of_beq_eq_true h4
     have h5:=Nat.eq_of_beq_eq_true h5
     have h6:=Nat.le_of_ble_eq_true h6
     have hm:=(hI _ _ hi).und; rw[hui]at hm
     have hk:=(hI _ _ hik).und; rw[h1]at hk
     simp only[UR]at hm hk
     have hlm:=look_mem hlk
     obtain⟨b,es,clock,e1,e2,e3,e4,e5⟩:=r.w.hp.obj _ _ hlm
     have hv':=intsOf_val hin (hv.cells_t rfl)
     obtain⟨info,f1,f4⟩:=(hI _ _ hie).zb h2
     cases hu with
     | map hg=>
      rw[e1]at hg; injection hg with hg; injection hg with hg; subst hg
      have hMap:MapIs n m es.toList:=⟨by simpa using e3,e4,fun j e x he hx=>e5 j e x (by simpa using he) hx⟩
      refine⟨kt,et,b,es,clock,info,hm,rfl,hv',e1,hlm,e2,hMap,h5,f1,f4,fun em=>?_,?_⟩
      ·rw[hv']; exact(hI _ _ hik).keyv ma me h1 (by omega) em ks w (by omega)
      ·rw[hv',run_findKey_eq w (by rw[hk])]
       exact findAsking_ok (by omega) (by rw[←h4]; exact(hI _ _ hik).eqv) h5 m _ 0 hMap
    ·cases h
   ·cases h
  ·cases h
 ·cases h
end
section
variable {P:Program} {E:Env} {F:Nat→Prop} {g:Nat→Value} {st:St} {a:Act} {w:World}
theorem optInt_ok(r:RelG E F g st a w){d n:Int}{x:Option Operand}(h:optInt st d x=some n):
  (x=none∧n=d)∨∃ y k,x=some y∧a.eval y = .int k n:=by
 cases x with
 | none=>simp[optInt]at h; exact .inl ⟨rfl,h.symm⟩
 | some y=>
  simp only[optInt]at h
  split at h
  ·rename_i k m hy
   cases h
   exact .inr ⟨y,k,rfl,(ev_ok r hy).inv_int⟩
  ·cases h
theorem run_sliceBound{k:IntKind}{n:Int}{y:Nat}{c:BoundsCode}(h:0≤n∧n≤(y:Int)):(Instr.sliceBound (.int k n) y c).run P w = .ok n.toNat w:=by
 simp[Instr.sliceBound,asIntOf,h]
theorem run_slice_str(r:RelG E F g st a w){t:TypeId}(ht:P.underlying t=some .string)(s:ByteArray){lo hi:Option Operand}{l h:Int}
  (hl:optInt st 0 lo=some l)(hh:optInt st s.size hi=some h)(hc:0≤l∧l≤h∧h≤(s.size:Int)):
  (Instr.sliceAt t (.string s) (lo.map a.eval) (hi.map a.eval) none).run P w = .ok (.string (s.extract l.toNat h.toNat)) w:=by
 obtain⟨h1,h2,h3⟩:=hc
 have e:(Instr.sliceAt t (.string s) (lo.map a.eval) (hi.map a.eval) none).run P w=(Instr.slice t (.string s) (lo.map a.eval) (hi.map a.eval) none).run P w:=by
  simp[Instr.sliceAt,run_underlying ht]
 rw[e]
 have hb:(Instr.sliceBounds false s.size s.size (lo.map a.eval) (hi.map a.eval) none).run P w = .ok (l.toNat,h.toNat,s.size) w:=by
  unfold Instr.sliceBounds
  rcases optInt_ok r hl with⟨rfl,rfl⟩ | ⟨y,k,rfl,hy⟩ <;> rcases optInt_ok r hh with⟨rfl,rfl⟩ | ⟨y',k',rfl,hy'⟩
  ·simp
  ·simp[hy',run_sliceBound (P:=P) (w:=w) (k:=k') (n:=h) (y:=s.size) ⟨by omega,h3⟩]
  ·simp[hy,run_sliceBound (P:=P) (w:=w) (k:=k) (n:=l) (y:=s.size) ⟨h1,by omega⟩]
  ·simp[hy,hy',run_sliceBound (P:=P) (w:=w) (k:=k') (n:=h) (y:=s.size) ⟨by omega,h3⟩,run_sliceBound (P:=P) (w:=w) (k:=k) (n:=l) (y:=h.toNat) ⟨h1,by omega⟩]
 simp[Instr.slice,run_underlying ht,hb]
theorem isU8_ok{l:List T}(h:isU8 l=true):∃ k,l=[.int .u8 k]:=by
 unfold isU8 at h
 split at h
 ·exact⟨_,rfl⟩
 ·cases h
theorem row_cells(r:RelG E F g st a w){p:PV}{v:Value}(hv:VR F g w p v){n:Nat}{f:Nat→List T}(h:rowOf st p=some (n,f))(h1:∀ i,i<n→(f i).length=1):
  (v = .slice none 0 0∧n=0)∨∃ ad c,v = .slice (some ad) n c∧∀ i x,i<n→f i=[x]→∃ u,w.cell? (ad.add i)=some u∧Rd F w x u:=by
 cases p with
 | own o=>
  simp only[rowOf]at h
  split at h
  ·rename_i e s' n' f' hl
   cases h
   cases hv with
   | own hg=>
    rcases r.w.hp.obj _ _ (look_mem hl) with⟨e1,e2⟩ | ⟨b,cap,cur,e1,e2,e3,e4,e5,e6,e7⟩
    ·rw[hg]at e1; exact .inl ⟨e1,e2⟩
    ·rw[hg]at e1; injection e1 with e8 e9 e10
     refine .inr ⟨⟨b,0,none⟩,cap,by rw[e8,e9,e10],fun i x hi hx=>?_⟩
     have hs:s'=1:=by rw[←e6 i hi]; exact h1 i hi
     subst hs
     obtain⟨u,hu,hr⟩:=e7 i 0 x hi (by rw[hx]; rfl)
     refine⟨u,?_,hr⟩
     rw[Addr.add_none]
     simp only[World.cell?,e2]
     simpa using hu
  ·cases h
 | t x=>
  simp only[rowOf]at h
  cases hv.cells_t rfl with
  | nil h'=>rw[h]at h'; simp at h'; exact .inl ⟨rfl,h'.1⟩
  | sl ad cap size vs h' hc hF hs hv' hr'=>
   rw[h]at h'; simp at h'; obtain⟨rfl,rfl⟩:=h'
   refine .inr ⟨ad,cap,rfl,fun i y hi hy=>?_⟩
   have hs1:size=1:=by rw[←hs i hi]; exact h1 i hi
   subst hs1
   have:=hv' i 0 hi (by omega)
   refine⟨vs i 0,by simpa using this,hr' i 0 y hi (by rw[hy]; rfl)⟩
  | int=>simp[T.view]at h
  | bool=>simp[T.view]at h
  | str=>simp[T.view]at h
  | fv=>simp[T.view]at h
  | agg=>simp[T.view]at h
 | nil=>simp[rowOf]at h; cases hv; exact .inl ⟨rfl,h.1.symm⟩
 | _=>simp[rowOf]at h
theorem run_bstr(r:RelG E F g st a w){p:PV}{v:Value}(hv:VR F g w p v){n:Nat}{f:Nat→List T}(h:rowOf st p=some (n,f))(hu:∀ i,i<n→isU8 (f i)=true):
  (∃ ad l c,v = .slice ad l c)∧(Conv.bytesToString v).run P w = .ok (.string (bstr n f)) w:=by
 have hlen:∀ i,i<n→(f i).length=1:=fun i hi=>by obtain⟨k,hk⟩:=isU8_ok (hu i hi); rw[hk]; rfl
 rcases row_cells r hv h hlen with⟨rfl,rfl⟩ | ⟨ad,c,rfl,hc⟩
 ·exact⟨⟨_,_,_,rfl⟩,by simp[Conv.bytesToString,bstr]⟩
 ·refine⟨⟨_,_,_,rfl⟩,?_⟩
  rw[run_bytesToString (P:=P) w ad n c ((List.range n).map fun i=>u8Of (f i))]
  ·rfl
  ·have:=run_loadCells_list (P:=P) w ad (((List.range n).map fun i=>u8Of (f i)).map (Value.int .u8)) (fun j v hv=>by
    simp only[List.getElem?_map,Option.map_eq_some_iff]at hv
    obtain⟨y,⟨i,hi,rfl⟩,rfl⟩:=hv
    obtain⟨hi1,hi2⟩:=List.getElem?_eq_some_iff.1 hi
    simp at hi1 hi2
    subst hi2
    obtain⟨k,hk⟩:=isU8_ok (hu j hi1)
    obtain⟨u,hu',hr⟩:=hc j _ hi1 hk
    rw[hk]
    simp only[u8Of]
    rw[hr.inv_int]at hu'
    exact hu')
   simpa using this
theorem run_slice_sl(r:RelG E F g st a w){t e:TypeId}{j:TInf}(ht:P.underlying t=some (.slice e))(hj:TOk P e j){x:T}{v:Value}(hv:Rd F w x v){n:Nat}{f:Nat→List T}(hsz:(f 0).length=j.size)(hx:x.view=some (n,f))
  {lo hi:Option Operand}{l h:Int}(hl:optInt st 0 lo=some l)(hh:optInt st n hi=some h)(hc:0≤l∧l≤h∧h≤(n:Int)):
  ∃ z,(Instr.sliceAt t v (lo.map a.eval) (hi.map a.eval) none).run P w = .ok z w∧Rd F w (.sl (h-l).toNat (fun k=>f (l.toNat+k))) z:=by
 obtain⟨h1,h2,h3⟩:=hc
 obtain⟨ad,cap,rfl⟩:=hv.slice_len hx
 have hcap:n≤cap:=by
  cases hv with
  | nil h=>rw[hx]at h; simp at h; omega
  | sl _ _ _ _ h hc=>rw[hx]at h; simp at h; omega
 have e:(Instr.sliceAt t (.slice ad n cap) (lo.map a.eval) (hi.map a.eval) none).run P w=(Instr.slice t (.slice ad n cap) (lo.map a.eval) (hi.map a.eval) none).run P w:=by
  simp[Instr.sliceAt,run_underlying ht]
 have hb:(Instr.sliceBounds true n cap (lo.map a.eval) (hi.map a.eval) none).run P w = .ok (l.toNat,h.toNat,cap) w:=by
  unfold Instr.sliceBounds
  rcases optInt_ok r hl with⟨rfl,rfl⟩ | ⟨y,k,rfl,hy⟩ <;> rcases optInt_ok r hh with⟨rfl,rfl⟩ | ⟨y',k',rfl,hy'⟩
  ·simp
  ·simp[hy',run_sliceBound (P:=P) (w:=w) (k:=k') (n:=h) (y:=cap) ⟨by omega,by omega⟩]
  ·simp[hy,run_sliceBound (P:=P) (w:=w) (k:=k) (n:=l) (y:=n) ⟨h1,by omega⟩]
  ·simp[hy,hy',run_sliceBound (P:=P) (w:=w) (k:=k') (n:=h) (y:=cap) ⟨by omega,by omega⟩,run_sliceBound (P:=P) (w:=w) (k:=k) (n:=l) (y:=h.toNat) ⟨h1,by omega⟩]
 refine⟨.slice (if cap=l.toNat then ad else ad.map (·.add (l.toNat*j.size))) (h.toNat-l.toNat) (cap-l.toNat),?_,?_⟩
 ·rw[e]
  simp[Instr.slice,run_underlying ht,hb,run_sizeOf hj]
 ·have hn:h.toNat-l.toNat=(h-l).toNat:=by omega
  rw[hn]
  cases hv with
  | nil h'=>
   rw[hx]at h'; simp at h'
   have hl0:l.toNat=0:=by omega
   have hh0:(h-l).toNat=0:=by omega
   rw[hl0,hh0]
   simp
   exact .nil rfl
  | sl ad cap' size vs h' hc hF hs hv' hr'=>
   rw[hx]at h'; simp at h'; obtain⟨_,rfl⟩:=h'
   by_cases hz:(h-l).toNat=0
   ·rw[hz]
    have H:∀ a':Addr,Rd F w (.sl 0 fun k=>f (l.toNat+k)) (.slice (some a') 0 (cap-l.toNat)):=fun a'=>
     .sl a' _ 0 (fun _ _=>undef) rfl (by omega) (fun h=>by omega) (fun i hi=>by omega) (fun i _ hi=>by omega) (fun i _ _ hi=>by omega)
    split
    ·exact H _
    ·exact H _
   ·have hcl:¬ cap=l.toNat:=by omega
    rw[if_neg hcl]
    simp only[Option.map_some]
    have hsz':size=j.size:=by rw[←hs 0 (by omega),hsz]
    subst hsz'
    have hblk:(ad.add (l.toNat*j.size)).block=ad.block:=by unfold Addr.add; split <;> rfl
    refine .sl _ _ j.size (fun i q=>vs (l.toNat+i) q) rfl (by omega) (fun _=>by rw[hblk]; exact hF (by omega)) (fun i hi=>hs _ (by omega)) (fun i q hi hq=>?_) (fun i q y hi hy=>hr' _ _ _ (by omega) hy)
    rw[Addr.add_add,←Nat.add_assoc,←Nat.add_mul]
    exact hv' _ _ (by omega) hq
theorem run_slice_nil(r:RelG E F g st a w){t e:TypeId}{j:TInf}(ht:P.underlying t=some (.slice e))(hj:TOk P e j){lo hi:Option Operand}{l h:Int}(hl:optInt st 0 lo=some l)(hh:optInt st 0 hi=some h)
  (hc:0≤l∧l≤h∧h≤0):(Instr.sliceAt t (.slice none 0 0) (lo.map a.eval) (hi.map a.eval) none).run P w = .ok (.slice none 0 0) w:=by
 obtain⟨h1,h2,h3⟩:=hc
 have hl0:l=0:=by omega
 have hh0:h=0:=by omega
 subst hl0; subst hh0
 have e:(Instr.sliceAt t (.slice none 0 0) (lo.map a.eval) (hi.map a.eval) none).run P w=(Instr.slice t (.slice none 0 0) (lo.map a.eval) (hi.map a.eval) none).run P w:=by
  simp[Instr.sliceAt,run_underlying ht]
 have hb:(Instr.sliceBounds true 0 0 (lo.map a.eval) (hi.map a.eval) none).run P w = .ok (0,0,0) w:=by
  unfold Instr.sliceBounds
  rcases optInt_ok r hl with⟨rfl,_⟩ | ⟨y,k,rfl,hy⟩ <;> rcases optInt_ok r hh with⟨rfl,_⟩ | ⟨y',k',rfl,hy'⟩
  ·simp
  ·simp[hy',run_sliceBound (P:=P) (w:=w) (k:=k') (n:=0) (y:=0) ⟨by omega,by omega⟩]
  ·simp[hy,run_sliceBound (P:=P) (w:=w) (k:=k) (n:=0) (y:=0) ⟨by omega,by omega⟩]
  ·simp[hy,hy',run_sliceBound (P:=P) (w:=w) (k:=k') (n:=0) (y:=0) ⟨by omega,by omega⟩,run_sliceBound (P:=P) (w:=w) (k:=k) (n:=0) (y:=0) ⟨by omega,by omega⟩]
 rw[e]
 simp[Instr.slice,run_underlying ht,hb,run_sizeOf hj]
theorem part_ok{t:TypeId}{j:TInf}(hj':TOk P t j){off:Nat}{x:PV}:∀ (l:List PV) (vs:Array Value),vs.size=l.length→(∀ (j:Nat) x v,l[j]? = some x→vs[j]? = some v→VR F g w x v)→readAt j (l.drop off)=some x →
  ∃ z,(part t vs off).run P w = .ok z w∧VR F g w x z:=by
 intro l vs hs hr hx
 unfold readAt at hx
 split at hx
 ·rename_i hagg
  split at hx
  ·rename_i hlen
   have hlen:=Nat.eq_of_beq_eq_true hlen
   cases hx
   simp only[List.length_take,List.length_drop]at hlen
   refine⟨_,by simp[part,run_isAgg hj'.und,hagg,run_sizeOf hj']; rfl,aggOf_ok (by simp[hs]; omega) fun q y v hy hv=>?_⟩
   rw[List.getElem?_take]at hy
   split at hy
   ·rw[List.getElem?_drop]at hy
    refine hr _ y v hy ?_
    rw[Array.getElem?_extract]at hv
    split at hv
    ·exact hv
    ·cases hv
   ·cases hy
  ·cases hx
 ·rename_i hagg
  split at hx
  ·rename_i y l' hl
   cases hx
   have hlo:l[off]? = some x:=by
    have:=congrArg (·[0]?) hl
    simpa[List.getElem?_drop] using this
   have hlt:off<vs.size:=by rw[hs]; exact(List.getElem?_eq_some_iff.1 hlo).1
   refine⟨vs[off],by simp[part,run_isAgg hj'.und,hagg,hlt],hr _ x _ hlo (by simp[hlt])⟩
  ·cases hx
theorem KeyR.toRd{F:Nat→Prop}{w:World}{k:T}{v:Value}(h:KeyR k v):Rd F w k v:=by
 cases h with
 | int k n=>exact .int k n
 | str s=>exact .str s
theorem entP_ok(r:RelG E F g st a w){di:Nat}{x:PV}{C:Prop}{u:Value}(hu:VR F g w (.ptr di 0) u):∀ {l:Hp},(∀ e,e∈l→e∈st.hp)→entP di l=some (x,C)→C →
  ∃ v,(Instr.entry u).run P w = .ok v w∧VR F g w x v
 | [],_,h,_=>by simp[entP]at h
 | (o,.box _)::l,hs,h,hC=>entP_ok r hu (fun e he=>hs e (List.mem_cons_of_mem _ he)) (by simpa[entP] using h) hC
 | (o,.arr ..)::l,hs,h,hC=>entP_ok r hu (fun e he=>hs e (List.mem_cons_of_mem _ he)) (by simpa[entP] using h) hC
 | (o,.mpb ..)::l,hs,h,hC=>entP_ok r hu (fun e he=>hs e (List.mem_cons_of_mem _ he)) (by simpa[entP] using h) hC
 | (o,.arm ..)::l,hs,h,hC=>entP_ok r hu (fun e he=>hs e (List.mem_cons_of_mem _ he)) (by simpa[entP] using h) hC
 | (o,.bld ..)::l,hs,h,hC=>entP_ok r hu (fun e he=>hs e (List.mem_cons_of_mem _ he)) (by simpa[entP] using h) hC
 | (o,.mp none _ _)::l,hs,h,hC=>entP_ok r hu (fun e he=>hs e (List.mem_cons_of_mem _ he)) (by simpa[entP] using h) hC
 | (o,.mp (some i) m ho)::l,hs,h,hC=>by
  simp only[entP]at h
  split at h
  ·rename_i hb
   have hb:=Nat.eq_of_beq_eq_true hb
   subst hb
   split at h
   ·rename_i k' k p hcur
    cases h
    have hC:k'=k:=hC
    subst hC
    obtain⟨b,es,clock,h1,h2,l1,r1,hM⟩:=r.w.hp.obj _ _ (hs _ (List.mem_cons_self ..))
    obtain⟨rr,since,seen,c0,g1,g2,g3,g4,g5,g6,g7,g8⟩:=hM.it
    obtain⟨e1,⟨e,he,hke,q,hq⟩,e3⟩:=g8 k' hcur
    obtain⟨e',hr1,hke',hv⟩:=hM.hole
    have hee:e=e':=by
     have he':=hM.perm.mem_iff.2 he
     rcases List.mem_append.1 he' with hl | hr
     ·exfalso
      obtain⟨j,y,hy,hj,hR⟩:=hM.ent.memr hl
      have hyk:y.1=k':=hR.1.inj hke
      have hnd:=hM.keys
      rw[List.nodup_append]at hnd
      exact hnd.2.2 _ (List.mem_map_of_mem (List.mem_of_getElem? hy)) k' (by simp[hoK]) hyk
     ·rw[hr1]at hr; simpa using hr
    subst hee
    subst hq; subst e1
    have hrun:=run_entry_at (P:=P) w rr b since q es c0 e g2 h2 he hM.born
    cases hu with
    | ptr hg=>
     rw[g1]at hg
     injection hg with hg; injection hg with hg; injection hg with hg
     subst hg
     refine⟨_,hrun,.tup rfl fun j y v hy hv'=>?_⟩
     match j,hy,hv' with
     | 0,hy,hv'=>simp at hy hv'; subst hy; subst hv'; exact .t hke.toRd
     | 1,hy,hv'=>simp at hy hv'; subst hy; subst hv'; exact hv
     | j+2,hy,_=>simp at hy
   ·cases h
  ·exact entP_ok r hu (fun e he=>hs e (List.mem_cons_of_mem _ he)) h hC
theorem run_equal_ifc{t:TypeId}{ms:Array (String×TypeId)}(hT:P.underlying t=some (.interface ms)):(Op.equal t .nilIface .nilIface).run P w = .ok true w:=by
 unfold Op.equal
 rw[show Op.maxDepth=9999+1 from rfl]
 unfold Op.equalIn
 rw[Sem.run_bind,run_underlying hT w]
 rfl
theorem run_nilIfc{t:TypeId}{ms:Array (String×TypeId)}(hT:P.underlying t=some (.interface ms))(y:Operand)(c:Value)(b:Bool){op:BinOp}(hop:op=if b then .eql else .neq):
  (do eqGuard op t y (.const c) .nilIface .nilIface; binOp op t .nilIface .nilIface:Sem Value).run P w = .ok (.bool b) w:=by
 have he:=run_equal_ifc (w:=w) hT
 cases b <;> subst hop <;> simp[eqGuard,binOp,he]
theorem run_equal_ptrs{t e:TypeId}{j:TypeInfo}{a b:Addr}(hp:P.underlying t=some (.pointer e))(hte:P.info? e=some j)(hsz:j.size≠0){c:Bool}(hs:(sameAddr a b).run P w = .ok c w){op:BinOp}(hop:op = .eql∨op = .neq)(xo yo:Operand):
  (do eqGuard op t xo yo (.pointer (some a)) (.pointer (some b)); binOp op t (.pointer (some a)) (.pointer (some b)):Sem Value).run P w = .ok (.bool (match op with | .eql=>c | _=>!c)) w:=by
 have he:(Op.equal t (.pointer (some a)) (.pointer (some b))).run P w = .ok c w:=by
  have h:∀ d:Nat,(Op.equalIn (d+1) t (.pointer (some a)) (.pointer (some b))).run P w = .ok c w:=fun d=>by
   simp[Op.equalIn,run_underlying hp,sizeOf,typeInfo,hte,hsz,hs]
  simp[Op.equal,Op.maxDepth,h 9999]
 have hg:(eqGuard op t xo yo (.pointer (some a)) (.pointer (some b))).run P w = .ok () w:=by unfold eqGuard; cases op <;> simp
 rcases hop with rfl | rfl <;> simp[hg,binOp,he]
theorem ptrP_ok{I:Inf}(hI:TIok P I.ti)(r:RelG E F g st a w){t:TypeId}{i:TInf}(hi:I.ti t=some i){op:BinOp}{o o':Nat}{x:PV}{C:Prop}(h:ptrP I st i.und op o o'=some (x,C)){u v:Value}
  (hu:VR F g w (.ptr o 0) u)(hv:VR F g w (.ptr o' 0) v)(xo yo:Operand):∃ z,(do eqGuard op t xo yo u v; binOp op t u v:Sem Value).run P w = .ok z w∧VR F g w x z:=by
 unfold ptrP at h
 split at h
 ·rename_i e hund
  have hT:P.underlying t=some (.pointer e):=by have hT:=(hI _ _ hi).und; rw[hund]at hT; exact hT
  split at h
  ·rename_i j hj
   obtain⟨info,hi1,hi2,_⟩:=(hI _ _ hj).info
   split at h
   ·rename_i hz heq
    have hz:info.size≠0:=by rw[hi2]; exact Nat.ne_of_beq_eq_false hz
    have heq:=Nat.eq_of_beq_eq_true heq
    subst heq
    cases hu with | @ptr _ _ b hg=>cases hv with | @ptr _ _ b' hg'=>
     rw[hg]at hg'
     injection hg' with hg'; injection hg' with hg'; injection hg' with hg'
     subst hg'
     have hs:=run_sameAddr_same (P:=P) w (⟨b,0,none⟩:Addr)
     split at h <;> cases h
     ·exact⟨_,run_equal_ptrs hT hi1 hz hs (.inl rfl) xo yo,.t (.bool _)⟩
     ·exact⟨_,run_equal_ptrs hT hi1 hz hs (.inr rfl) xo yo,.t (.bool _)⟩
   ·rename_i hz heq
    have hz:info.size≠0:=by rw[hi2]; exact Nat.ne_of_beq_eq_false hz
    have heq:=Nat.ne_of_beq_eq_false heq
    split at h
    ·rename_i l l' hl hl'
     have hl:=look_mem hl
     have hl':=look_mem hl'
     obtain⟨b,vs,ty,e1,e2,_⟩:=r.w.hp.obj _ _ hl
     obtain⟨b',vs',ty',e1',e2',_⟩:=r.w.hp.obj _ _ hl'
     cases hu with | ptr hg=>cases hv with | ptr hg'=>
      rw[e1]at hg; rw[e1']at hg'
      injection hg with hg; injection hg with hg; injection hg with hg
      injection hg' with hg'; injection hg' with hg'; injection hg' with hg'
      subst hg; subst hg'
      have hne:b≠b':=fun hb=>r.w.hp.sep _ _ _ _ b hl hl' heq (.self (by rw[e1]; rfl)) (.self (by rw[e1',hb]; rfl))
      have hs:=run_sameAddr_other (P:=P) w (a:=⟨b,0,none⟩) (b:=⟨b',0,none⟩) (fun hh=>hne (by injection hh)) e2 e2'
      split at h <;> cases h
      ·exact⟨_,run_equal_ptrs hT hi1 hz hs (.inl rfl) xo yo,.t (.bool _)⟩
      ·exact⟨_,run_equal_ptrs hT hi1 hz hs (.inr rfl) xo yo,.t (.bool _)⟩
    ·cases h
   ·cases h
  ·cases h
 ·cases h
theorem pev_ok{I:Inf}(hI:TIok P I.ti)(r:RelG E F g st a w)(o:Oper){x:PV}{C:Prop}(h:pev I st o.op=some (x,C))(hC:C):
  ∃ v,(execOp a.eval o).run P w = .ok (.value v) w∧VR F g w x v:=by
 unfold execOp
 cases hop:o.op with
 | move y=>
  simp only[hop,pev]at h
  exact⟨_,by simp,ev_ok r (tr_some h)⟩
 | assign y=>
  simp only[hop,pev]at h
  exact⟨_,by simp,ev_ok r (tr_some h)⟩
 | pick c y z=>
  simp only[hop,pev]at h
  split at h
  ·rename_i hc
   have:=(ev_ok r hc).inv_bool
   exact⟨_,by simp[this,asBool],ev_ok r (tr_some h)⟩
  ·rename_i hc
   have:=(ev_ok r hc).inv_bool
   exact⟨_,by simp[this,asBool],ev_ok r (tr_some h)⟩
  ·cases h
 | load t y=>
  simp only[hop,pev]at h
  split at h
  ·rename_i i p hi hp
   obtain⟨z,hz,hr⟩:=loadP_ok r (hI _ _ hi) h hC (ev_ok r hp)
   exact⟨z,by simp[hz],hr⟩
  ·cases h
 | nilCheck y=>
  simp only[hop,pev]at h
  split at h
  ·rename_i hp; cases h
   have hv:=ev_ok r hp
   obtain⟨u,hu⟩:∃ u,a.eval y=u:=⟨_,rfl⟩
   rw[hu]at hv
   cases hv with | ptr e=>exact⟨_,by simp[hu],.ptr e⟩
  ·rename_i hp; cases h
   have hv:=ev_ok r hp
   obtain⟨u,hu⟩:∃ u,a.eval y=u:=⟨_,rfl⟩
   rw[hu]at hv
   cases hv with | eptr ad hF e=>exact⟨_,by simp[hu],.eptr ad hF e⟩
  ·rename_i hp; cases h
   have hv:=ev_ok r hp
   obtain⟨u,hu⟩:∃ u,a.eval y=u:=⟨_,rfl⟩
   rw[hu]at hv
   cases hv with | aptr e=>exact⟨_,by simp[hu],.aptr e⟩
  ·cases h
 | binOp op t y z u=>
  simp only[hop,pev]at h
  split at h
  ·rename_i i hi hp hq
   have hv1:=ev_ok r hp
   have hv2:=ev_ok r hq
   have hT:=(hI _ _ hi).und
   generalize hu1:a.eval y=u1 at hv1
   generalize hu2:a.eval z=u2 at hv2
   cases hv1 with | lit _=>cases hv2 with | lit _=>
    unfold ifcP at h
    split at h
    ·rename_i vc hund
     rw[hund]at hT
     obtain⟨ms,hT⟩:=hT
     cases h
     refine⟨.bool true,?_,.t (.bool _)⟩
     have hv:=run_nilIfc (w:=w) hT y vc true rfl
     simp only[hu1,hu2,Sem.run_bind,Sem.run_pure,if_true]at hv ⊢
     rw[hv]; rfl
    ·rename_i vc hund
     rw[hund]at hT
     obtain⟨ms,hT⟩:=hT
     cases h
     refine⟨.bool false,?_,.t (.bool _)⟩
     have hv:=run_nilIfc (w:=w) hT y vc false rfl
     simp only[hu1,hu2,Sem.run_bind,Sem.run_pure,Bool.false_eq_true,if_false]at hv ⊢
     rw[hv]; rfl
    ·cases h
  ·rename_i i o1 o2 hi hp hq
   obtain⟨v,hv,hr⟩:=ptrP_ok hI r hi h (ev_ok r hp) (ev_ok r hq) y z
   refine⟨v,?_,hr⟩
   simp only[Sem.run_bind,Sem.run_pure]at hv ⊢
   rw[hv]; rfl
  ·rename_i i p q _ _ hi hp hq
   obtain⟨v,hv,hr⟩:=binP_ok (P:=P) (hI _ _ hi) h hC (ev_ok r hp) (ev_ok r hq) y z
   refine⟨v,?_,hr⟩
   simp only[Sem.run_bind,Sem.run_pure]at hv ⊢
   rw[hv]; rfl
  ·cases h
 | unOp op t y=>
  simp only[hop,pev]at h
  split at h
  ·rename_i p hp
   obtain⟨v,hv,hr⟩:=unP_ok (P:=P) (w:=w) h (ev_ok r hp)
   exact⟨v,by simp[hv],hr⟩
  ·cases h
 | convert s d y=>
  simp only[hop,pev]at h
  split at h
  ·rename_i i j k n hi hj hp
   split at h
   ·rename_i k' hk
    cases h
    have hv:=(ev_ok r hp).inv_int
    have hd:=(hI _ _ hj).und
    rw[hk]at hd
    have hs:∃ dd,P.underlying s=some dd:=by
     have:=(hI _ _ hi).und
     cases hu:i.und <;> rw[hu]at this <;> simp only[UR]at this
     case st fs=>obtain⟨f,h1,_⟩:=this; exact⟨_,h1⟩
     case other=>obtain⟨f,h1,_⟩:=this; exact⟨_,h1⟩
     case ifc=>obtain⟨f,h1⟩:=this; exact⟨_,h1⟩
     all_goals exact⟨_,this⟩
    obtain⟨dd,hs⟩:=hs
    have:(convert s d (.int k n)).run P w = .ok (.int k' (k'.wrap n)) w:=by
     unfold convert
     rw[Sem.run_bind,run_underlying hs]
     simp only[Result.andThen_ok]
     rw[Sem.run_bind,run_underlying hd]
     simp[Conv.intToInt]
    exact⟨_,by simp[hv,this],.t (.int _ _)⟩
   ·cases h
  ·rename_i i j p hne hi hj hp
   split at h
   ·rename_i e n f hui huj hrow
    split at h
    ·rename_i k hk
     split at h
     ·rename_i huk
      cases h
      have hs:=(hI _ _ hi).und; rw[hui]at hs
      have hd:=(hI _ _ hj).und; rw[huj]at hd
      have he:=(hI _ _ hk).und; rw[huk]at he
      obtain⟨⟨ad,l,c,hv⟩,hrun⟩:=run_bstr (P:=P) r (ev_ok r hp) hrow hC
      refine⟨_,?_,.t (.str _)⟩
      rw[hv]at hrun
      simp[hv,run_convert_bytes_string w s d e ad l c hs he hd,hrun]
     ·cases h
    ·cases h
   ·cases h
  ·cases h
 | makeFunc fn fs cs=>
  simp only[hop,pev]at h
  split at h
  ·rename_i l hl
   cases h
   obtain⟨h1,h2⟩:=evList_ok r _ _ hl
   refine⟨.func fn (fs.map a.eval) (cs.map a.eval),by simp[Instr.makeFunc],.fn (by simp) (by simpa using h1.symm) fun j y v hy hv=>h2 j y v hy ?_⟩
   rw[List.map_append]
   rw[←Array.getElem?_toList]at hv
   simpa using hv
  ·cases h
 | fieldAddr s y f=>
  simp only[hop,pev]at h
  split at h
  ·rename_i i p hi hp
   split at h
   ·rename_i fs hu
    have hv:=ev_ok r hp
    obtain⟨v0,hv0⟩:∃ u,a.eval y=u:=⟨_,rfl⟩
    rw[hv0]at hv
    split at h
    ·rename_i off o k hf
     cases h
     cases hv with
     | ptr e=>exact⟨_,by simp[hv0,run_fieldAt hI (hI _ _ hi) hu hf]; rfl,by rw[Addr.add_none]; exact .ptr e⟩
    ·rename_i off l hf
     cases h
     cases hv with
     | eptr ad hF e=>
      refine⟨_,by simp[hv0,run_fieldAt hI (hI _ _ hi) hu hf]; rfl,.eptr _ (fun hl=>?_) fun j x hx=>?_⟩
      ·have:(ad.add off).block=ad.block:=by unfold Addr.add; split <;> rfl
       rw[this]; exact hF (fun e=>hl (by rw[e]; simp))
      ·rw[Addr.add_add]; exact e _ _ (by rw[List.getElem?_drop]at hx; exact hx)
    ·rename_i off o s i' k hf
     cases h
     cases hv with
     | aptr e=>exact⟨_,by simp[hv0,run_fieldAt hI (hI _ _ hi) hu hf]; rfl,by rw[Addr.add_none,Nat.add_assoc]; exact .aptr e⟩
    ·cases h
   ·cases h
  ·cases h
 | field t y f=>
  simp only[hop,pev]at h
  split at h
  ·rename_i i p hi hp
   split at h
   ·rename_i fs hu
    split at h
    ·rename_i off u hf
     split at h
     ·rename_i j hj
      have hv:=ev_ok r hp
      obtain⟨v0,hv0⟩:∃ u,a.eval y=u:=⟨_,rfl⟩
      rw[hv0]at hv
      have hd:=(hI _ _ hi).und
      rw[hu]at hd
      obtain⟨fields,h1,h2⟩:=hd
      rw[←h2,List.getElem?_map,Option.map_eq_some_iff]at hf
      obtain⟨fd,hfd,he⟩:=hf
      cases he
      have hfd':fields[f]? = some fd:=by simpa using hfd
      have key:∀ (l:List PV) (vs:Array Value),vs.size=l.length→(∀ (j:Nat) x v,l[j]? = some x→vs[j]? = some v→VR F g w x v)→readAt j (l.drop fd.offset)=some x →
        ∃ z,(part fd.type vs fd.offset).run P w = .ok z w∧VR F g w x z:=by
       intro l vs hs hr hx
       have hj':=hI _ _ hj
       unfold readAt at hx
       split at hx
       ·rename_i hagg
        split at hx
        ·rename_i hlen
         have hlen:=Nat.eq_of_beq_eq_true hlen
         cases hx
         simp only[List.length_take,List.length_drop]at hlen
         refine⟨_,by simp[part,run_isAgg hj'.und,hagg,run_sizeOf hj']; rfl,aggOf_ok (by simp[hs]; omega) fun q y v hy hv=>?_⟩
         rw[List.getElem?_take]at hy
         split at hy
         ·rw[List.getElem?_drop]at hy
          refine hr _ y v hy ?_
          rw[Array.getElem?_extract]at hv
          split at hv
          ·exact hv
          ·cases hv
         ·cases hy
        ·cases hx
       ·rename_i hagg
        split at hx
        ·rename_i y l' hl
         cases hx
         have hlo:l[fd.offset]? = some x:=by
          have:=congrArg (·[0]?) hl
          simpa[List.getElem?_drop] using this
         have hlt:fd.offset<vs.size:=by rw[hs]; exact(List.getElem?_eq_some_iff.1 hlo).1
         refine⟨vs[fd.offset],by simp[part,run_isAgg hj'.und,hagg,hlt],hr _ x _ hlo (by simp[hlt])⟩
        ·cases hx
      split at h
      ·rename_i l
       have hr:=hv.cells_t rfl
       cases hr with
       | @agg _ vs hs hr=>
        obtain⟨z,hz,hr'⟩:=key (l.map PV.t) vs (by simp[hs]) (fun q y v hy hv=>by
         simp only[List.getElem?_map,Option.map_eq_some_iff]at hy
         obtain⟨y',hy,rfl⟩:=hy
         exact .t (hr q y' v hy hv)) (by simpa using tr_some h)
        exact⟨z,by simp[hv0,Instr.field,run_underlying h1,hfd',asAgg,hz],hr'⟩
       | nil h=>simp[T.view]at h
       | sl _ _ _ _ h=>simp[T.view]at h
      ·cases hv with
       | agg hs hr=>
        obtain⟨z,hz,hr'⟩:=key _ _ hs hr (tr_some h)
        exact⟨z,by simp[hv0,Instr.field,run_underlying h1,hfd',asAgg,hz],hr'⟩
      ·cases h
     ·cases h
    ·cases h
   ·cases h
  ·cases h
 | indexAddr t y ix=>
  simp only[hop,pev]at h
  split at h
  ·rename_i i p k n hi hp hn
   split at h
   ·rename_i e hu
    split at h
    ·rename_i j hj
     have hix:=(ev_ok r hn).inv_int
     obtain⟨z,hz,hr⟩:=indexP_ok r (hI _ _ hi) hu (hI _ _ hj) h hC (ev_ok r hp) k
     exact⟨z,by simp[hix,hz],hr⟩
    ·cases h
   ·rename_i m e hu
    split at h
    ·rename_i j q off hj
     cases h
     have hix:=(ev_ok r hn).inv_int
     have hv:=ev_ok r hp
     obtain⟨u,hu'⟩:∃ u,a.eval y=u:=⟨_,rfl⟩
     rw[hu']at hv
     have hd:=(hI _ _ hi).und
     rw[hu]at hd
     cases hv with
     | @ptr _ _ b hg=>
      refine⟨.pointer (some ⟨b,off+n.toNat*j.size,none⟩),?_,.ptr hg⟩
      simp[hix,hu',Instr.indexAt,Instr.sureAddr,asIntOf,run_underlying hd,run_sizeOf (hI _ _ hj),hC,Addr.add_none]
    ·cases h
   ·cases h
  ·cases h
 | lookup t y k ok=>
  cases ok with
  | false=>simp[hop,pev]at h
  | true=>
   simp only[hop,pev]at h
   split at h
   ·rename_i p q hp hq
    split at h
    ·rename_i n m o' ks hm
     cases h
     obtain⟨kt,et,b,es,clock,info,h1,h2,h3,h4,h5,h6,h7,h8,h9,h10,h11,h12⟩:=mapP_ok hI r hm (ev_ok r hp) (ev_ok r hq)
     have hget:(getObj b).run P w = .ok (.map es clock) w:=Go.run_getObj_map w b es clock h6
     have hz:(zeroValue et).run P w = .ok (.bool false) w:=by simp[zeroValue,typeInfo,h9,h10]
     refine⟨.tuple #[.bool (mget m ks),.bool (mhas m ks)],?_,.tup rfl fun j x v hx hv=>?_⟩
     ·simp only[h2]
      have hrun:(Instr.lookup t (.map (some b)) (a.eval k) true).run P w = .ok (.tuple #[.bool (mget m ks),.bool (mhas m ks)]) w:=by
       unfold Instr.lookup
       simp only[Sem.run_bind,run_underlying h1,Result.andThen_ok,hget,Sem.run_pure,h11,h12]
       unfold mget mhas
       cases hf:mfind m ks 0 with
       | none=>simp[hz]
       | some x=>simp
      simp[hrun]
     ·match j,hx,hv with
      | 0,hx,hv=>simp at hx hv; subst hx; subst hv; exact .t (.bool _)
      | 1,hx,hv=>simp at hx hv; subst hx; subst hv; exact .t (.bool _)
      | j+2,hx,hv=>simp at hx
    ·cases h
   ·cases h
 | index t y ix=>
  simp only[hop,pev]at h
  split at h
  ·rename_i i s k n hi hp hn
   split at h
   ·rename_i hu
    cases h
    have hd:=(hI _ _ hi).und
    rw[hu]at hd
    have hix:=(ev_ok r hn).inv_int
    have hs:=(ev_ok r hp).inv_str
    have hlt:n.toNat<s.size:=by omega
    refine⟨.int .u8 ((s[n.toNat]?.getD 0).toNat:Int),?_,.t (.int _ _)⟩
    simp[hix,hs,Instr.index,asIntOf,run_underlying hd,hC.1,hlt]
   ·cases h
  ·rename_i i l k n hi hp hn
   split at h
   ·rename_i m e hu
    split at h
    ·rename_i j hj
     split at h
     ·rename_i q hq
      cases h
      have hd:=(hI _ _ hi).und
      rw[hu]at hd
      have hix:=(ev_ok r hn).inv_int
      have hv:=ev_ok r hp
      obtain⟨v0,hv0⟩:∃ u,a.eval y=u:=⟨_,rfl⟩
      rw[hv0]at hv
      have hr:=hv.cells_t rfl
      cases hr with
      | @agg _ vs hs hr=>
       obtain⟨z,hz,hr'⟩:=part_ok (P:=P) (F:=F) (g:=g) (w:=w) (hI _ _ hj) (off:=n.toNat*j.size) (l.map PV.t) vs (by simp[hs]) (fun q y v hy hv=>by
        simp only[List.getElem?_map,Option.map_eq_some_iff]at hy
        obtain⟨y',hy,rfl⟩:=hy
        exact .t (hr q y' v hy hv)) (by simpa using hq)
       exact⟨z,by simp[hix,hv0,Instr.index,asIntOf,run_underlying hd,hC.1,hC.2,run_sizeOf (hI _ _ hj),hz],hr'⟩
      | nil h=>simp[T.view]at h
      | sl _ _ _ _ h=>simp[T.view]at h
     ·cases h
    ·cases h
   ·cases h
  ·rename_i i l k n hi hp hn
   split at h
   ·rename_i m e hu
    split at h
    ·rename_i j hj
     split at h
     ·rename_i q hq
      cases h
      have hd:=(hI _ _ hi).und
      rw[hu]at hd
      have hix:=(ev_ok r hn).inv_int
      have hv:=ev_ok r hp
      obtain⟨v0,hv0⟩:∃ u,a.eval y=u:=⟨_,rfl⟩
      rw[hv0]at hv
      cases hv with
      | agg hs hr=>
       obtain⟨z,hz,hr'⟩:=part_ok (P:=P) (F:=F) (g:=g) (w:=w) (hI _ _ hj) (off:=n.toNat*j.size) _ _ hs hr hq
       exact⟨z,by simp[hix,hv0,Instr.index,asIntOf,run_underlying hd,hC.1,hC.2,run_sizeOf (hI _ _ hj),hz],hr'⟩
     ·cases h
    ·cases h
   ·cases h
  ·cases h
 | extract y i=>
  simp only[hop,pev]at h
  split at h
  ·rename_i l hl
   have hv:=ev_ok r hl
   obtain⟨u,hu⟩:∃ u,a.eval y=u:=⟨_,rfl⟩
   rw[hu]at hv
   have hx:=tr_some h
   cases hv with
   | @tup _ vs hs hr=>
    have hlt:i<vs.size:=by rw[hs]; exact(List.getElem?_eq_some_iff.1 hx).1
    exact⟨vs[i],by simp[hu,Instr.extract,hlt],hr i x _ hx (by simp[hlt])⟩
  ·cases h
 | build t parts=>
  simp only[hop,pev]at h
  obtain⟨z,hz,hr⟩:=buildP_ok hI r (tr_some h)
  exact⟨z,by simp[hz],hr⟩
 | slice t y lo hi mx=>
  simp only[hop,pev]at h
  split at h
  ·rename_i i s hi' hp
   split at h
   ·rename_i l hh hu hl hh'
    cases h
    have hd:=(hI _ _ hi').und
    rw[hu]at hd
    have hs:=(ev_ok r hp).inv_str
    exact⟨_,by simp[hs,run_slice_str r hd s hl hh' hC],.t (.str _)⟩
   ·cases h
  ·rename_i i x hi' hp
   split at h
   ·rename_i e n f hu hx
    split at h
    ·rename_i j l hh hj hl hh'
     split at h
     ·rename_i hlen
      cases h
      have hd:=(hI _ _ hi').und
      rw[hu]at hd
      obtain⟨z,hz,hr⟩:=run_slice_sl (P:=P) r hd (hI _ _ hj) ((ev_ok r hp).cells_t rfl) (Nat.eq_of_beq_eq_true hlen) hx hl hh' hC
      exact⟨z,by simp[hz],.t hr⟩
     ·cases h
    ·cases h
   ·cases h
  ·rename_i i hi' hp
   split at h
   ·rename_i e l hh hu hl hh'
    split at h
    ·rename_i j hj
     cases h
     have hd:=(hI _ _ hi').und
     rw[hu]at hd
     obtain⟨u,hu'⟩:∃ u,a.eval y=u:=⟨_,rfl⟩
     have hv:=ev_ok r hp
     rw[hu']at hv
     cases hv
     exact⟨.slice none 0 0,by simp[hu',run_slice_nil r hd (hI _ _ hj) hl hh' hC],.nil⟩
    ·cases h
   ·cases h
  ·cases h
 | entry y=>
  simp only[hop,pev]at h
  split at h
  ·rename_i di hp
   obtain⟨v,h1,h2⟩:=entP_ok (P:=P) r (ev_ok r hp) (fun e he=>he) h hC
   exact⟨v,by simp[h1],h2⟩
  ·cases h
 | call c=>
  simp only[hop,pev,callP]at h
  obtain⟨cal,args,ats⟩:=c
  simp only at h
  split at h
  ·rename_i y t ha ht
   have ha':args=#[y]:=by rw[←Array.toArray_toList (xs:=args),ha]
   have ht':ats=#[t]:=by rw[←Array.toArray_toList (xs:=ats),ht]
   subst ha'; subst ht'
   split at h
   ·rename_i i p hi hp
    obtain⟨z,hz,hr⟩:=lenP_ok (P:=P) r (hI _ _ hi) (tr_some h) (ev_ok r hp) o.type
    exact⟨z,by simp[resolve,invoke,builtin,hz],hr⟩
   ·cases h
  ·rename_i y t ha ht
   have ha':args=#[y]:=by rw[←Array.toArray_toList (xs:=args),ha]
   have ht':ats=#[t]:=by rw[←Array.toArray_toList (xs:=ats),ht]
   subst ha'; subst ht'
   split at h
   ·rename_i i hi hp
    split at h
    ·rename_i e hu
     cases h
     have hd:=(hI _ _ hi).und
     rw[hu]at hd
     obtain⟨u,hu'⟩:∃ u,a.eval y=u:=⟨_,rfl⟩
     have hv:=ev_ok r hp
     rw[hu']at hv
     cases hv
     exact⟨.int .i64 0,by simp[hu',resolve,invoke,builtin,Builtin.cap_,run_underlying hd,goInt],.t (.int _ _)⟩
    ·cases h
   ·cases h
  ·rename_i y z ha
   have ha':args=#[y,z]:=by rw[←Array.toArray_toList (xs:=args),ha]
   subst ha'
   split at h
   ·rename_i p q hp hq
    obtain⟨z',hz,hr⟩:=maxP_ok (P:=P) (w:=w) (tr_some h) (ev_ok r hp) (ev_ok r hq) ats o.type
    exact⟨z',by simp[resolve,invoke,builtin,hz],hr⟩
   ·cases h
  ·rename_i y z ha
   have ha':args=#[y,z]:=by rw[←Array.toArray_toList (xs:=args),ha]
   subst ha'
   split at h
   ·rename_i p q hp hq
    obtain⟨z',hz,hr⟩:=minP_ok (P:=P) (w:=w) (tr_some h) (ev_ok r hp) (ev_ok r hq) ats o.type
    exact⟨z',by simp[resolve,invoke,builtin,hz],hr⟩
   ·cases h
  ·cases h
 | _=>simp[hop,pev]at h
end
def nmem(d:Nat):List Nat→Bool
 | []=>true
 | k::l=>match Nat.beq k d with | true=>false | false=>nmem d l
theorem nmem_ok{d:Nat}:∀ {l:List Nat},nmem d l=true→d∉l
 | [],_=>by simp
 | k::l,h=>by
  simp only[nmem]at h
  split at h
  ·cases h
  ·rename_i hk
   simp only[List.mem_cons,not_or]
   exact⟨fun e=>Nat.ne_of_beq_eq_false hk e.symm,nmem_ok h⟩
def noMention(d:Nat):List PV→Bool
 | []=>true
 | x::l=>match x.mentions d with | true=>false | false=>noMention d l
theorem noMention_ok{d:Nat}:∀ {l:List PV},noMention d l=true→∀ x,x∈l→∀ k,k∈x.names→k≠d
 | [],_=>by simp
 | y::l,h=>by
  simp only[noMention]at h
  split at h
  ·cases h
  ·rename_i hk
   intro x hx
   rcases List.mem_cons.1 hx with rfl | hx
   ·exact PV.not_mentions hk
   ·exact noMention_ok h x hx
def newP(I:Inf)(st:St)(d:Nat)(x:PObj)(p:PV):Option St:=
 match Nat.blt d I.nt,nmem d I.N,st.erase d with
 | true,true,some st'=>some ({ st' with hp:=(d,x)::st'.hp }.put d p)
 | _,_,_=>none
def arrOf(ts:List T)(s:Nat):Nat→List T:=fun i=>(ts.drop (i*s)).take s
def appF(n:Nat)(f1 f2:Nat→List T):Nat→List T:=fun i=>if i<n then f1 i else f2 (i-n)
def okCells(s:Nat)(l:List T):Bool:=Nat.beq l.length s&&l.all (fun x=>(PV.t x).one)
def appC(n m b s:Nat)(f:Nat→List T):Prop:=(n+m)*b≤140737488355328∧∀ i,i<m→okCells s (f i)=true
def setAt(l:List T)(off:Nat)(c:List T):List T:=l.take off++c++l.drop (off+c.length)
def setC(s:Nat)(l:List T)(off:Nat)(c:List T):List T:=match Nat.beq off 0,Nat.beq c.length s with | true,true=>c | _,_=>setAt l off c
theorem setC_eq{s:Nat}{l:List T}{off:Nat}{c:List T}(h:l.length=s):setC s l off c=setAt l off c:=by
 unfold setC
 split
 ·rename_i h1 h2
  have h1:=Nat.eq_of_beq_eq_true h1
  have h2:=Nat.eq_of_beq_eq_true h2
  subst h1
  simp[setAt,h2,←h]
 ·rfl
def updF(f:Nat→List T)(k:Nat)(c:List T):Nat→List T:=fun i=>if i=k then c else f i
def updA(f:Nat→List Cel)(k off:Nat)(c:Cel):Nat→List Cel:=fun i=>if i=k then (f i).set off c else f i
def armSet(ov:Option (Nat×Nat×PV))(f:Nat→List Cel)(k off:Nat)(x:PV):Option ((Nat→List Cel)×Option (Nat×Nat×PV)):=
 match x,ov with
 | .t y,none=>some (updA f k off (.d y),none)
 | .t y,some (i,j,p)=>match Nat.beq j off with | true=>none | false=>some (updA f k off (.d y),some (i,j,p))
 | .own q,none=>some (updA f k off .any,some (k,off,.own q))
 | _,_=>none
def zeroAt(j:TInf)(n:Nat):List PV:=(List.range n).map fun k=>j.zero.getD (k % j.zero.length) .nil
def okS(s:Nat):Option Nat→Bool | some k=>Nat.beq k s | none=>true
def appArg(st:St):PV→Option (Nat×(Nat→List T)×Option Nat)
 | .own o=>match look st.hp o with | some (.arr _ s n f)=>some (n,f,some s) | _=>none
 | .t x=>match x.view with | some (n,f)=>some (n,f,none) | none=>none
 | _=>none
def storeP(st:St)(i:TInf)(d:Option Nat)(p x:PV):Option (St×Prop):=
 match d with
 | some _=>none
 | none=>
  match p with
  | .ptr o off=>match look st.hp o with
   | some (.box l)=>match Nat.beq x.cells.length i.size,Nat.ble (off+i.size) l.length,x.cells.all PV.one with
    | true,true,true=>some ({ st with hp:=(o,.box (l.take off++x.cells++l.drop (off+i.size)))::del o st.hp },True)
    | _,_,_=>none
   | _=>none
  | .aptr o s k off=>match look st.hp o,allT x.cells with
   | some (.arr e s' n f),some c=>match Nat.beq s' s,Nat.beq c.length i.size,Nat.ble (off+i.size) s,x.cells.all PV.one with
    | true,true,true,true=>some ({ st with hp:=(o,.arr e s' n (updF f k (setC s' (f k) off c)))::del o st.hp },k<n)
    | _,_,_,_=>none
   | some (.arm e s' n f ov),_=>match Nat.beq s' s,Nat.beq i.size 1,Nat.ble (off+1) s,x.one,armSet ov f k off x with
    | true,true,true,true,some (f',ov')=>some ({ st with hp:=(o,.arm e s' n f' ov')::del o st.hp },k<n)
    | _,_,_,_,_=>none
   | _,_=>none
  | _=>none
def stepM(I:Inf)(st:St)(o:Oper):Option (St×Prop):=
 match o.op,o.dst with
 | .alloc e,some d=>match I.ti e with
  | some i=>match newP I st d (.box i.zero) (.ptr d 0) with | some st'=>some (st',True) | none=>none
  | none=>none
 | .box _ x,some d=>match ev st x with
  | some p=>match noMention d p.cells with
   | true=>match newP I st d (.box p.cells) (.ptr d 0) with | some st'=>some (st',True) | none=>none
   | false=>none
  | none=>none
 | .buildSlice t len parts,some d=>match I.ti t,evParts st parts.toList with
  | some i,some ps=>match i.und with
   | .sl e=>match I.ti e with
    | some j=>match Nat.ble (len*j.size) 16777216,Nat.ble 1 j.size,Nat.beq j.zero.length j.size,fillP (fun i=>some (i*j.size,j.size)) (zeroAt j (len*j.size)) ps with
     | true,true,true,some c=>match allT c,Nat.beq c.length (len*j.size) with
      | some ts,true=>match newP I st d (.arr e j.size len (arrOf ts j.size)) (.own d) with | some st'=>some (st',True) | none=>none
      | _,_=>none
     | _,_,_,_=>none
    | none=>none
   | _=>none
  | _,_=>none
 | .store t a x,d=>match I.ti t,ev st a,ev st x with
  | some i,some p,some q=>storeP st i d p q
  | _,_,_=>none
 | .makeMap t none,some d=>match I.ti t with
  | some i=>match i.und with
   | .mp kt _=>match I.ti kt with
    | some ik=>match newP I st d (.mpb ik.eqn []) (.map d) with | some st'=>some (st',True) | none=>none
    | none=>none
   | _=>none
  | none=>none
 | .mapUpdate t x k v,none=>match ev st x,ev st k,ev st v with
  | some p,some q,some (.t (.bool b))=>match mapP I st t p q with
   | some (n,m,o,ks)=>some ({ st with hp:=(o,.mpb n (mset m ks b))::del o st.hp },True)
   | none=>none
  | _,_,_=>none
 | .call c,some d=>match c.callee,c.args.toList,c.argTypes.toList with
  | .builtin .append,[s,x],[t,t']=>match Nat.beq t t',I.ti t,ev st s,ev st x with
   | true,some i,some p,some q=>match i.und,appArg st q with
    | .sl e,some (m,f2,s2)=>match I.ti e with
     | some j=>match Nat.ble 1 j.size,Nat.ble 1 j.bytes,okS j.size s2,Nat.beq j.zero.length j.size with
      | true,true,true,true=>match p with
       | .nil=>match newP I st d (.arr e j.size m f2) (.own d) with
        | some st'=>some (st',appC 0 m j.bytes j.size f2)
        | none=>none
       | .own o=>match look st.hp o,st.erase o with
        | some (.arr e' s' n f1),some st1=>match Nat.beq e e',Nat.beq s' j.size,newP I st1 d (.arr e j.size (n+m) (appF n f1 f2)) (.own d) with
         | true,true,some st'=>some (st',appC n m j.bytes j.size f2)
         | _,_,_=>none
        | _,_=>none
       | _=>none
      | _,_,_,_=>none
     | none=>none
    | _,_=>none
   | _,_,_,_=>none
  | _,_,_=>none
 | _,_=>none
section
variable {P:Program} {E:Env} {F:Nat→Prop} {g:Nat→Value} {st:St} {a:Act} {w:World}
theorem newP_ok{I:Inf}(hn:E.N=I.N)(hnt:E.nt=I.nt)(r:RelG E F g st a w){d:Nat}{x:PObj}{p:PV}{st':St}(h:newP I st d x p=some st'){w':World}{v:Value}{ob:Obj}
  (hv:blk v=some w.heap.size)(hw:w'.heap=w.heap.push ob)(hos:w'.os=w.os)(htp:w'.tape=w.tape)(hout:w'.output=w.output)
  (hx:∀ g',(∀ o,o≠d→g' o=g o)→g' d=v→ObjR F g' w' d x)(hp:∀ g',g' d=v→VR F g' w' p v)(hpl:x.plain=true:=by rfl):
  Rel E st' (a.put (some d) v) w':=by
 unfold newP at h
 split at h
 ·rename_i st1 h1 h2 h3
  cases h
  have hd:d<E.nt:=by rw[hnt]; simpa[Nat.blt_eq] using h1
  obtain⟨g',hg'⟩:=r.alloc hd (by rw[hn]; exact nmem_ok h2) h3 hv hw hos htp hout hpl hx p hp
  exact⟨F,g',hg'⟩
 ·cases h
end
section
variable {P:Program} {E:Env} {F:Nat→Prop} {g:Nat→Value} {st:St} {a:Act} {w:World}
theorem VR.one{x:PV}{v:Value}(h:VR F g w x v)(ho:x.one=true):v.oneCell'=true:=by
 cases h with
 | t r=>
  cases r with
  | agg hs hr=>simp[PV.one]at ho
  | _=>rfl
 | tup hs hr=>simp[PV.one]at ho
 | agg hs hr=>simp[PV.one]at ho
 | any h=>simp[PV.one]at ho
 | lit h=>cases v <;> first | rfl | (simp[PV.one]at ho)
 | _=>rfl
theorem run_zeroValue{t:TypeId}{info:TypeInfo}{z:Value}(h:P.info? t=some info)(hz:info.zero=some z):(zeroValue t).run P w = .ok z w:=by
 simp[zeroValue,typeInfo,h,hz]
theorem alloc_ok{I:Inf}(hI:TIok P I.ti)(hn:E.N=I.N)(hnt:E.nt=I.nt)(r:RelG E F g st a w){e:TypeId}{d:Nat}{i:TInf}(hi:I.ti e=some i){st':St}
  (h:newP I st d (.box i.zero) (.ptr d 0)=some st'):∃ v w',(Instr.alloc e true (.tuple #[])).run P w = .ok v w'∧Rel E st' (a.put (some d) v) w':=by
 obtain⟨info,z,h1,h2,h3,_⟩:=zero_ok (F:=F) (g:=g) (w:=w) (hI _ _ hi)
 refine⟨.pointer (some ⟨w.heap.size,0,none⟩),w.alloc (.cells z.cells e),?_,?_⟩
 ·simp[Instr.alloc,run_zeroValue h1 h2,newVar,newRow]
 ·refine newP_ok hn hnt r h rfl rfl rfl rfl rfl (fun g' _ hv=>⟨w.heap.size,z.cells,e,hv,heap_alloc_new w _,h3,fun j x v hx hv'=>?_⟩) (fun g' hv=>.ptr hv)
  obtain⟨info',z',h1',h2',h3',h4'⟩:=zero_ok (F:=F) (g:=g') (w:=w.alloc (.cells z.cells e)) (hI _ _ hi)
  rw[h1]at h1'; cases h1'
  rw[h2]at h2'; cases h2'
  exact h4' j x v hx hv'
theorem box_ok{I:Inf}(hn:E.N=I.N)(hnt:E.nt=I.nt)(r:RelG E F g st a w){e:TypeId}{d:Nat}{p:PV}{v:Value}(hv:VR F g w p v)(hm:noMention d p.cells=true){st':St}
  (h:newP I st d (.box p.cells) (.ptr d 0)=some st'):∃ u w',(Instr.box e v).run P w = .ok u w'∧Rel E st' (a.put (some d) u) w':=by
 refine⟨.pointer (some ⟨w.heap.size,0,none⟩),w.alloc (.cells v.cells e),?_,?_⟩
 ·simp[Instr.box,newVar,newRow]
 ·obtain⟨h1,h2⟩:=hv.cells
  refine newP_ok hn hnt r h rfl rfl rfl rfl rfl (fun g' hg' hv'=>⟨w.heap.size,v.cells,e,hv',heap_alloc_new w _,h1,fun j x u hx hu=>?_⟩) (fun g' hv=>.ptr hv)
  refine(h2 j x u hx hu).mono (fun b hb=>⟨hb,heap_alloc_old w _ (r.w.f1 b hb).1⟩) (fun o ho=>hg' o ?_)
  exact noMention_ok hm x (List.mem_of_getElem? hx) o ho
structure RowR (F:Nat→Prop)(w:World)(s n:Nat)(f:Nat→List T)(get:Nat→Option Value):Prop where
 len:∀ i,i<n→(f i).length=s
 get:∀ (i j:Nat) x,i<n→(f i)[j]? = some x→∃ v,get (i*s+j)=some v∧Rd F w x v
theorem RowR.app{s n m:Nat}{f1 f2:Nat→List T}{g1 g2 g3:Nat→Option Value}(h1:RowR F w s n f1 g1)(h2:RowR F w s m f2 g2)
  (e1:∀ k,k<n*s→g3 k=g1 k)(e2:∀ k,k<m*s→g3 (n*s+k)=g2 k):RowR F w s (n+m) (appF n f1 f2) g3 where
 len:=by
  intro i hi
  unfold appF
  split
  ·exact h1.len i ‹_›
  ·exact h2.len _ (by omega)
 get:=by
  intro i j x hi hx
  unfold appF at hx
  split at hx
  ·rename_i hlt
   obtain⟨v,hv,hr⟩:=h1.get i j x hlt hx
   have hj:j<s:=by rw[←h1.len i hlt]; exact(List.getElem?_eq_some_iff.1 hx).1
   refine⟨v,?_,hr⟩
   rw[e1]
   ·exact hv
   ·calc i*s+j<i*s+s:=by omega
     _=(i+1)*s:=by rw[Nat.add_mul,Nat.one_mul]
     _≤n*s:=Nat.mul_le_mul_right _ hlt
  ·rename_i hge
   have hlt:i-n<m:=by omega
   obtain⟨v,hv,hr⟩:=h2.get (i-n) j x hlt hx
   have hj:j<s:=by rw[←h2.len _ hlt]; exact(List.getElem?_eq_some_iff.1 hx).1
   refine⟨v,?_,hr⟩
   have e:i*s+j=n*s+((i-n)*s+j):=by
    rw[←Nat.add_assoc,←Nat.add_mul,show n+(i-n)=i by omega]
   rw[e,e2]
   ·exact hv
   ·calc (i-n)*s+j<(i-n)*s+s:=by omega
     _=(i-n+1)*s:=by rw[Nat.add_mul,Nat.one_mul]
     _≤m*s:=Nat.mul_le_mul_right _ hlt
theorem RowR.mono{F':Nat→Prop}{w':World}{s n:Nat}{f:Nat→List T}{get get':Nat→Option Value}(h:RowR F w s n f get)(hF:∀ b,F b→F' b∧w'.heap[b]? = w.heap[b]?)
  (e:∀ k,k<n*s→get' k=get k):RowR F' w' s n f get' where
 len:=h.len
 get:=by
  intro i j x hi hx
  obtain⟨v,hv,hr⟩:=h.get i j x hi hx
  have hj:j<s:=by rw[←h.len i hi]; exact(List.getElem?_eq_some_iff.1 hx).1
  refine⟨v,?_,hr.mono hF⟩
  rw[e]
  ·exact hv
  ·calc i*s+j<i*s+s:=by omega
    _=(i+1)*s:=by rw[Nat.add_mul,Nat.one_mul]
    _≤n*s:=Nat.mul_le_mul_right _ hi
theorem RowR.nil{s:Nat}{f:Nat→List T}{get:Nat→Option Value}:RowR F w s 0 f get:=⟨fun _ h=>absurd h (by omega),fun _ _ _ h=>absurd h (by omega)⟩
structure Src (F:Nat→Prop)(w:World)(s m:Nat)(f:Nat→List T)(v:Value)(news:List Value):Prop where
 shape:(∃ c,v = .slice none m c∧m=0)∨∃ ad c,v = .slice (some ad) m c∧∀ (j:Nat) u,news[j]? = some u→w.cell? (ad.add j)=some u
 len:news.length=m*s
 row:RowR F w s m f (news[·]?)
 one:∀ u,u∈news→u.oneCell'=true
theorem src_of{s m:Nat}(hs:1≤s){f:Nat→List T}{v:Value}(ad:Addr)(c:Nat)(hv:v = .slice (some ad) m c)(ho:∀ i,i<m→okCells s (f i)=true)
  (h:∀ (i j:Nat) x,i<m→(f i)[j]? = some x→∃ u,w.cell? (ad.add (i*s+j))=some u∧Rd F w x u):∃ news,Src F w s m f v news:=by
 have hlen:∀ i,i<m→(f i).length=s:=fun i hi=>by
  have:=ho i hi
  simp only[okCells,Bool.and_eq_true]at this
  exact Nat.eq_of_beq_eq_true this.1
 have hcell:∀ k,k<m*s→∃ u,w.cell? (ad.add k)=some u∧u.oneCell'=true:=by
  intro k hk
  have hi:k / s<m:=Nat.div_lt_of_lt_mul (by rw[Nat.mul_comm]; exact hk)
  have hj:k % s<(f (k / s)).length:=by rw[hlen _ hi]; exact Nat.mod_lt _ (by omega)
  obtain⟨u,hu,hr⟩:=h (k / s) (k % s) _ hi (List.getElem?_eq_getElem hj)
  refine⟨u,?_,?_⟩
  ·rw[Nat.mul_comm,Nat.div_add_mod]at hu; exact hu
  ·have:=ho _ hi
   simp only[okCells,Bool.and_eq_true,List.all_eq_true]at this
   exact(VR.t (g:=g0) hr).one (this.2 _ (List.getElem_mem hj))
 have hget:∀ k,k<m*s→((List.range (m*s)).map fun k=>(w.cell? (ad.add k)).getD undef)[k]? = w.cell? (ad.add k):=by
  intro k hk
  obtain⟨u,hu,_⟩:=hcell k hk
  simp[hk,hu]
 refine⟨(List.range (m*s)).map fun k=>(w.cell? (ad.add k)).getD undef,.inr ⟨ad,c,hv,fun j u hu=>?_⟩,by simp,⟨hlen,fun i j x hi hx=>?_⟩,fun u hu=>?_⟩
 ·have hj:j<m*s:=by have:=(List.getElem?_eq_some_iff.1 hu).1; simpa using this
  rw[hget j hj]at hu; exact hu
 ·obtain⟨u,hu,hr⟩:=h i j x hi hx
  have hj:j<s:=by rw[←hlen i hi]; exact(List.getElem?_eq_some_iff.1 hx).1
  refine⟨u,?_,hr⟩
  rw[hget _ (by
   calc i*s+j<i*s+s:=by omega
    _=(i+1)*s:=by rw[Nat.add_mul,Nat.one_mul]
    _≤m*s:=Nat.mul_le_mul_right _ hi)]
  exact hu
 ·simp only[List.mem_map,List.mem_range]at hu
  obtain⟨k,hk,rfl⟩:=hu
  obtain⟨u,hu,h1⟩:=hcell k hk
  rw[hu]; exact h1
where g0:Nat→Value:=fun _=>undef
theorem appArg_ok(r:RelG E F g st a w){q:PV}{v:Value}(hv:VR F g w q v){m s:Nat}{f:Nat→List T}{s2:Option Nat}(h:appArg st q=some (m,f,s2))(hs:1≤s)
  (hs2:okS s s2=true)(ho:∀ i,i<m→okCells s (f i)=true):∃ news,Src F w s m f v news:=by
 have hlen:∀ i,i<m→(f i).length=s:=fun i hi=>by
  have:=ho i hi
  simp only[okCells,Bool.and_eq_true]at this
  exact Nat.eq_of_beq_eq_true this.1
 cases q with
 | own o=>
  simp only[appArg]at h
  split at h
  ·rename_i e s' n f' hl
   cases h
   have hs':s'=s:=Nat.eq_of_beq_eq_true hs2
   subst hs'
   have hob:=r.w.hp.obj _ _ (look_mem hl)
   cases hv with
   | own hg=>
    rcases hob with⟨h1,h2⟩ | ⟨b,cap,cur,h1,h2,h3,h4,h5,h6,h7⟩
    ·rw[hg]at h1; injection h1 with h1 h3 h4
     subst h2
     exact⟨[],.inl ⟨0,by rw[h1,h3,h4],rfl⟩,by simp,RowR.nil,by simp⟩
    ·rw[hg]at h1; injection h1 with h1 h8 h9
     refine src_of hs ⟨b,0,none⟩ cap (by rw[h1,h8,h9]) ho (fun i j x hi hx=>?_)
     obtain⟨u,hu,hr⟩:=h7 i j x hi hx
     refine⟨u,?_,hr⟩
     rw[Addr.add_none]
     simpa[World.cell?,h2] using hu
  ·cases h
 | t x=>
  simp only[appArg]at h
  split at h
  ·rename_i n f' hx
   cases h
   cases hv.cells_t rfl with
   | nil h=>rw[hx]at h; simp at h; obtain⟨rfl,rfl⟩:=h; exact⟨[],.inl ⟨_,rfl,rfl⟩,by simp,RowR.nil,by simp⟩
   | sl ad cap size vs h hc hF hs' hv' hr'=>
    rw[hx]at h; simp at h; obtain⟨rfl,rfl⟩:=h
    refine src_of hs ad cap rfl ho (fun i j x hi hx=>?_)
    have hsz:size=s:=by rw[←hs' i hi,hlen i hi]
    have hj:j<size:=by rw[←hs' i hi]; exact(List.getElem?_eq_some_iff.1 hx).1
    refine⟨_,by rw[←hsz]; exact hv' i j hi hj,hr' i j x hi hx⟩
   | int=>simp[T.view]at hx
   | bool=>simp[T.view]at hx
   | str=>simp[T.view]at hx
   | fv=>simp[T.view]at hx
   | agg=>simp[T.view]at hx
  ·cases h
 | _=>simp[appArg]at h
end
section
variable {P:Program} {E:Env} {F:Nat→Prop} {g:Nat→Value} {st:St} {a:Act} {w:World}
theorem RowR.obj{s n b cap:Nat}{f:Nat→List T}{e:TypeId}{o:Nat}{cur:Array Value}(h:RowR F w s n f (cur[·]?))(h1:g o = .slice (some ⟨b,0,none⟩) n cap)
  (h2:w.heap[b]? = some (.cells cur e (0,0)))(h3:n≤cap)(h4:cap≤maxLen)(h5:cur.size=cap*s):ObjR F g w o (.arr e s n f):=
 .inr ⟨b,cap,cur,h1,h2,h3,h4,h5,h.len,h.get⟩
theorem Src.get{s m:Nat}{f:Nat→List T}{v:Value}{news:List Value}(h:Src F w s m f v news){k:Nat}(hk:k<m*s):∃ u,news[k]? = some u:=
 ⟨news[k]'(by rw[h.len]; exact hk),List.getElem?_eq_getElem _⟩
theorem append_nil_ok{I:Inf}(hn:E.N=I.N)(hnt:E.nt=I.nt)(r:RelG E F g st a w){t e:TypeId}{j:TInf}(hd:P.underlying t=some (.slice e))(hj:TOk P e j)(ty:TypeId){d m:Nat}
  (hb:1≤j.bytes)(hz:j.zero.length=j.size){f:Nat→List T}{v:Value}{news:List Value}(hs:Src F w j.size m f v news)(hC:m*j.bytes≤140737488355328){st':St}
  (h:newP I st d (.arr e j.size m f) (.own d)=some st'):∃ u w',(Builtin.append_ #[t,t] ty #[.slice none 0 0,v]).run P w = .ok u w'∧Rel E st' (a.put (some d) u) w':=by
 obtain⟨info,z,hi1,hi2,hi3,_⟩:=zero_ok (F:=F) (g:=g) (w:=w) hj
 obtain⟨info',hi1',hi4,hi5,_⟩:=hj.info
 rw[hi1]at hi1'; cases hi1'
 have hm63:m≤140737488355328:=Nat.le_trans (Nat.le_mul_of_pos_right m hb) hC
 have hzero:∀ (x:Value),m=0→(∃ ad c,x = .slice ad 0 c)→(Builtin.append_ #[t,t] ty #[.slice none 0 0,x]).run P w = .ok (.slice none 0 0) w:=by
  rintro x rfl ⟨ad,c,rfl⟩
  cases ad <;> simp[Builtin.append_,run_underlying hd,sizeOf,typeInfo,hi1,Builtin.lenOf,Builtin.firstCells,loadCells,loadCellsFrom]
 by_cases hm:m=0
 ·refine⟨.slice none 0 0,w,hzero v hm ?_,?_⟩
  ·rcases hs.shape with⟨c,rfl,_⟩ | ⟨ad,c,rfl,_⟩
   ·exact⟨none,c,by rw[hm]⟩
   ·exact⟨some ad,c,by rw[hm]⟩
  ·
   unfold newP at h
   split at h
   ·rename_i st1 h1 h2 h3
    cases h
    have hd':d<E.nt:=by rw[hnt]; simpa[Nat.blt_eq] using h1
    refine⟨F,upd g d (.slice none 0 0),r.putW hd' (fun b hb=>⟨hb,rfl⟩) (fun t y hy=>?_) ?_ (.own (upd_same ..))⟩
    ·obtain⟨e1,e2⟩:=St.erase_fr h3 t y hy
     exact⟨e1,fun o ho=>upd_other g _ (e2 o ho)⟩
    ·refine⟨HpR.change r.w.hp h3 (fun o ho=>upd_other g _ ho) (fun b hb=>⟨hb,rfl⟩) (fun _ h=>h) (fun _ _ _ _ _ _=>rfl) (.inl ⟨upd_same ..,hm⟩)
      (fun b hb=>by have hb:=hb.toBlk rfl; rw[upd_same]at hb; simp[blk]at hb) (fun o y b _ _ _ hb=>by have hb:=hb.toBlk rfl; rw[upd_same]at hb; simp[blk]at hb),r.w.f0,r.w.f1,r.w.ext,fun o ho=>?_,r.w.b0⟩
     rw[upd_other g _ (fun e:o=d=>nmem_ok h2 (hn▸e▸ho))]
     exact r.w.names o ho
   ·cases h
 ·rcases hs.shape with⟨c,rfl,h0⟩ | ⟨ad,c,rfl,hc⟩
  ·exact absurd h0 hm
  ·have hr:=run_append_nil (P:=P) w t ty e info z hd hi1 hi2 ad m c news (by rw[hi4]; exact hs.len) hc (by omega) (by omega) (by rw[hi5]; omega)
   refine⟨_,_,hr,newP_ok hn hnt r h rfl rfl rfl rfl rfl (fun g' _ hv=>?_) (fun g' hv=>.own hv)⟩
   have hcap:=grownCap_ge w m 0 e
   have hcapm:=grownCap_le_maxLen w m 0 e (by simp only[maxLen]; omega)
   have hrow:RowR F (w.drew.alloc (.cells (news.toArray++Builtin.zeroCells z.cells (grownCap w m 0 e-m)) e)) j.size m f ((news.toArray++Builtin.zeroCells z.cells (grownCap w m 0 e-m))[·]?):=
    hs.row.mono (fun b hb=>⟨hb,heap_alloc_old w.drew _ (r.w.f1 b hb).1⟩) (fun k hk=>by
     rw[Array.getElem?_append_left (by simp; rw[hs.len]; exact hk)]; simp)
   refine hrow.obj hv (heap_alloc_new w.drew _) hcap hcapm ?_
   simp only[Array.size_append,List.size_toArray,hs.len,size_zeroCells,hi3,hz,←Nat.add_mul]
   congr 1; omega
structure Less (o:Nat)(st st1:St):Prop where
 fr:∀ t y,(t,y)∈st1.fr→(t,y)∈st.fr
 hp:∀ t y,(t,y)∈st1.hp→∃ x,(t,x)∈st.hp∧t≠o∧(∀ F g w,ObjR F g w t x→ObjR F g w t y)∧∀ g w b,Foot g w t y b→Foot g w t x b
theorem Less.of{o:Nat}{st st1:St}(h:st.erase o=some st1):Less o st st1:=
 ⟨fun t y hy=>(St.erase_fr h t y hy).1,fun t y hy=>by obtain⟨x,h1,h2,_,h4,h5⟩:=St.erase_hp h t y hy; exact⟨x,h1,h2,h4,h5⟩⟩
theorem append_own_ok{I:Inf}(hn:E.N=I.N)(hnt:E.nt=I.nt)(r:RelG E F g st a w){t e:TypeId}{j:TInf}(hd:P.underlying t=some (.slice e))(hj:TOk P e j)(ty:TypeId){d m n o:Nat}
  (hb:1≤j.bytes)(hz:j.zero.length=j.size){f1 f:Nat→List T}{s v:Value}(hv:VR F g w (.own o) s){news:List Value}(hs:Src F w j.size m f v news)
  (hC:(n+m)*j.bytes≤140737488355328){st1 st':St}(hl:look st.hp o=some (.arr e j.size n f1))(he:Less o st st1)
  (h:newP I st1 d (.arr e j.size (n+m) (appF n f1 f)) (.own d)=some st'):∃ u w',(Builtin.append_ #[t,t] ty #[s,v]).run P w = .ok u w'∧Rel E st' (a.put (some d) u) w':=by
 obtain⟨info,z,hi1,hi2,hi3,_⟩:=zero_ok (F:=F) (g:=g) (w:=w) hj
 obtain⟨info',hi1',hi4,hi5,_⟩:=hj.info
 rw[hi1]at hi1'; cases hi1'
 have hm63:n+m≤140737488355328:=Nat.le_trans (Nat.le_mul_of_pos_right (n+m) hb) hC
 have hlm:=look_mem hl
 have hob:=r.w.hp.obj _ _ hlm
 have r1:RelG E F g st1 a w:=⟨r.nt,r.df,fun t y hy=>r.fr t y (he.fr t y hy),⟨⟨fun k y hy=>by
   obtain⟨x,h1,_,h4,_⟩:=he.hp k y hy; exact h4 _ _ _ (r.w.hp.obj k x h1),fun k y b hy hb=>by
   obtain⟨x,h1,_,_,h5⟩:=he.hp k y hy; exact r.w.hp.own k x b h1 (h5 _ _ _ hb),fun k y k' y' b hy hy' hne hb hb'=>by
   obtain⟨x,h1,_,_,h5⟩:=he.hp k y hy; obtain⟨x',h1',_,_,h5'⟩:=he.hp k' y' hy'; exact r.w.hp.sep k x k' x' b h1 h1' hne (h5 _ _ _ hb) (h5' _ _ _ hb')⟩,
   r.w.f0,r.w.f1,r.w.ext,r.w.names,r.w.b0⟩⟩
 cases hv with
 | own hg=>
  rcases hob with⟨h1,h2⟩ | ⟨b,cap,cur,h1,h2,h3,h4,h5,h6,h7⟩
  ·rw[h1]at hg; cases hg; subst h2
   have hf:newP I st1 d (.arr e j.size m (appF 0 f1 f)) (.own d)=some st':=by rw[Nat.zero_add]at h; exact h
   have hs':Src F w j.size m (appF 0 f1 f) v news:=by
    have:appF 0 f1 f=f:=by funext i; simp[appF]
    rw[this]; exact hs
   exact append_nil_ok hn hnt r1 hd hj ty hb hz hs' (by simpa using hC) hf
  ·rw[h1]at hg; injection hg with e1 e2 e3; subst e1; subst e2; subst e3
   have old:RowR F w j.size n f1 (cur[·]?):=⟨h6,h7⟩
   have hFb:¬ F b:=(r.w.hp.own o _ b hlm (.self (by rw[h1]; rfl))).1
   have hBb:=(r.w.hp.own o _ b hlm (.self (by rw[h1]; rfl))).2
   have hblt:b<w.heap.size:=(Array.getElem?_eq_some_iff.1 h2).1
   by_cases hroom:n+m≤cap
   ·
    have hfit:n*j.size+news.length≤cur.size:=by rw[hs.len,h5,←Nat.add_mul]; exact Nat.mul_le_mul_right _ hroom
    have hrun:(Builtin.append_ #[t,t] ty #[.slice (some ⟨b,0,none⟩) n cap,v]).run P w =
      .ok (.slice (some ⟨b,0,none⟩) (n+m) cap) (w.setRow b (cur.toList.take (n*j.size)++news++cur.toList.drop (n*j.size+news.length)).toArray):=by
     rcases hs.shape with⟨c,rfl,h0⟩ | ⟨ad,c,rfl,hc⟩
     ·subst h0
      have hn0:news=[]:=List.eq_nil_of_length_eq_zero (by simpa using hs.len)
      subst hn0
      simp only[List.append_nil,List.length_nil,Nat.add_zero,List.take_append_drop,Array.toArray_toList]
      have hself:w.setRow b cur=w:=setRow_self w b cur e (0,0) h2
      rw[hself]
      simp[Builtin.append_,run_underlying hd,sizeOf,typeInfo,hi1,Builtin.lenOf,Builtin.firstCells,storeCells,h3]
     ·have:=run_append_room (P:=P) w t ty e info hd hi1 b n cap cur h2 ad m c news (by rw[hi4]; exact hs.len) hc hs.one hroom (by rw[hi4]; exact hfit)
      rw[hi4]at this; exact this
    have hoth:∀ k,k≠b→(w.setRow b (cur.toList.take (n*j.size)++news++cur.toList.drop (n*j.size+news.length)).toArray).heap[k]? = w.heap[k]?:=fun k hk=>setRow_other w b k _ hk
    have hFo:∀ k,F k→F k∧(w.setRow b (cur.toList.take (n*j.size)++news++cur.toList.drop (n*j.size+news.length)).toArray).heap[k]? = w.heap[k]?:=
     fun k hk=>⟨hk,hoth k (fun e=>hFb (e▸hk))⟩
    refine⟨_,_,hrun,?_⟩
    unfold newP at h
    split at h
    ·rename_i st2 g1 g2 g3
     cases h
     have hd':d<E.nt:=by rw[hnt]; simpa[Nat.blt_eq] using g1
     refine⟨F,upd g d (.slice (some ⟨b,0,none⟩) (n+m) cap),r1.putW hd' hFo (fun t y hy=>?_) ?_ (.own (upd_same ..))⟩
     ·obtain⟨e1,e2⟩:=St.erase_fr g3 t y hy
      exact⟨e1,fun o ho=>upd_other g _ (e2 o ho)⟩
     ·have hne:∀ k y,(k,y)∈st1.hp→k≠o:=fun k y hy=>by obtain⟨_,_,h',_⟩:=he.hp k y hy; exact h'
      have hdis:∀ k y b',(k,y)∈st1.hp→Foot g w k y b'→b'≠b:=by
       intro k y b' hy hb' heq
       subst heq
       obtain⟨x,hx1,hx2,_,hx5⟩:=he.hp k y hy
       exact r.w.hp.sep k x o _ b' hx1 hlm hx2 (hx5 _ _ _ hb') (.self (by rw[h1]; rfl))
      refine⟨HpR.change r1.w.hp g3 (fun o ho=>upd_other g _ ho) hFo (fun _ h=>h) (fun k y b' hk _ hb'=>hoth b' (hdis k y b' hk hb')) ?_
       (fun b' hb'=>?_) (fun k y b' hk _ hb' hb''=>?_),r.w.f0,fun k hk=>⟨by simpa using (r.w.f1 k hk).1,(r.w.f1 k hk).2⟩,
       r.w.ext.trans rfl rfl rfl (by simp) (fun k hk hB=>hoth k (fun e=>?_)),fun k hk=>?_,r.w.b0⟩
      ·refine RowR.obj (b:=b) (cap:=cap) (cur:=(cur.toList.take (n*j.size)++news++cur.toList.drop (n*j.size+news.length)).toArray) ?_ (upd_same ..) (setRow_heap w b cur _ e _ h2) hroom h4 ?_
       ·refine RowR.app (old.mono hFo (fun _ _=>rfl)) (hs.row.mono hFo (fun _ _=>rfl)) (fun k hk=>?_) (fun k hk=>?_)
        ·have hk':k<cur.size:=by omega
         simp only[List.getElem?_toArray,List.append_assoc]
         rw[List.getElem?_append_left (by simp; omega),List.getElem?_take,if_pos hk]
         simp
        ·have hln:=hs.len
         simp only[List.getElem?_toArray,List.append_assoc]
         rw[List.getElem?_append_right (by simp; omega)]
         simp only[List.length_take,Array.length_toList]
         rw[show n*j.size+k-min (n*j.size) cur.size=k by omega,List.getElem?_append_left (by omega)]
       ·simp only[List.size_toArray,List.length_append,List.length_take,List.length_drop,Array.length_toList]
        omega
      ·have hb':=hb'.toBlk rfl; rw[upd_same]at hb'; simp[blk]at hb'; subst hb'
       exact⟨hFb,hBb⟩
      ·have hb'':=hb''.toBlk rfl; rw[upd_same]at hb''; simp[blk]at hb''; subst hb''
       exact hdis k y _ hk hb' rfl
      ·subst e
       rcases hBb with hB' | hB'
       ·exact hB hB'
       ·omega
      ·rw[upd_other g _ (fun e:k=d=>nmem_ok g2 (hn▸e▸hk))]
       exact r.w.names k hk
    ·cases h
   ·
    rcases hs.shape with⟨c,rfl,h0⟩ | ⟨ad,c,rfl,hc⟩
    ·omega
    ·have hol:(cur.toList.take (n*j.size)).length=n*info.size:=by
      rw[hi4]; simp only[List.length_take,Array.length_toList,h5]
      exact Nat.min_eq_left (Nat.mul_le_mul_right _ h3)
     have hr:=run_append_grow (P:=P) w t ty e info z hd hi1 hi2 ⟨b,0,none⟩ n cap (cur.toList.take (n*j.size)) hol (fun k u hu=>by
      rw[Addr.add_none,Nat.zero_add]
      rw[List.getElem?_take]at hu
      split at hu
      ·simpa[World.cell?,h2] using hu
      ·cases hu) ad m c news (by rw[hi4]; exact hs.len) hc (by omega) (by omega) (growslice_fits (by omega) (by rw[hi5]; exact hC))
     refine⟨_,_,hr,newP_ok hn hnt r1 h rfl rfl rfl rfl rfl (fun g' _ hv=>?_) (fun g' hv=>.own hv)⟩
     have hcap:=grownCap_ge w (n+m) cap e
     have hcapm:=grownCap_le_maxLen w (n+m) cap e (by simp only[maxLen]; omega)
     have hlen1:(cur.toList.take (n*j.size)).length=n*j.size:=by rw[hol,hi4]
     refine RowR.obj ?_ hv (heap_alloc_new w.drew _) hcap hcapm ?_
     ·have hFF:∀ b',F b'→F b'∧(w.drew.alloc (.cells ((cur.toList.take (n*j.size)).toArray++news.toArray++Builtin.zeroCells z.cells (grownCap w (n+m) cap e-(n+m))) e)).heap[b']? = w.heap[b']?:=
       fun b' hb'=>⟨hb',heap_alloc_old w.drew _ (r.w.f1 b' hb').1⟩
      refine RowR.app (old.mono hFF (fun _ _=>rfl)) (hs.row.mono hFF (fun _ _=>rfl)) (fun k hk=>?_) (fun k hk=>?_)
      ·have hk':k<cur.size:=by rw[h5]; exact Nat.lt_of_lt_of_le hk (Nat.mul_le_mul_right _ h3)
       rw[Array.append_assoc,Array.getElem?_append_left (by simp; omega)]
       simp only[List.getElem?_toArray,List.getElem?_take,if_pos hk]
       simp
      ·have hln:=hs.len
       rw[Array.append_assoc,Array.getElem?_append_right (by simp; omega)]
       simp only[List.size_toArray,hlen1]
       rw[show n*j.size+k-n*j.size=k by omega,Array.getElem?_append_left (by simp; omega)]
       simp
     ·simp only[Array.size_append,List.size_toArray,hlen1,hs.len,size_zeroCells,hi3,hz,←Nat.add_mul]
      congr 1; omega
end
section
variable {P:Program} {E:Env} {F:Nat→Prop} {g:Nat→Value} {st:St} {a:Act} {w:World}
theorem zeroAt_ok{j:TInf}{e:TypeId}(hj:TOk P e j)(n:Nat)(hz:j.zero.length=j.size)(h1:1≤j.size):∃ info z,P.info? e=some info∧info.zero=some z∧info.size=j.size∧z.cells.size=j.size ∧
  ∀ (F:Nat→Prop) (g:Nat→Value) (w:World) (k:Nat) x v,(zeroAt j n)[k]? = some x→((Array.range n).map (z.cells[· % z.cells.size]!))[k]? = some v→VR F g w x v:=by
 obtain⟨info,h1,h2,h3,z,h4,h5⟩:=hj.info
 have h6:z.cells.size=j.zero.length:=by simpa using congrArg List.length h5
 refine⟨info,z,h1,h4,h2,by omega,fun F g w k x v hx hv=>?_⟩
 simp only[zeroAt,List.getElem?_map,Option.map_eq_some_iff]at hx
 obtain⟨k',hk',hx⟩:=hx
 have hkn:k<n:=by have:=(List.getElem?_eq_some_iff.1 hk').1; simpa using this
 have hk'':k'=k:=by simp[hkn]at hk'; exact hk'.symm
 subst hk''
 simp[hkn]at hv
 rw[h6]at hv
 have hpos:0<j.zero.length:=by omega
 have hlt:k' % j.zero.length<j.zero.length:=Nat.mod_lt _ hpos
 have:=congrArg (·[k' % j.zero.length]?) h5
 have hlt':k' % j.zero.length<z.cells.size:=by omega
 simp only[List.getElem?_map,Array.getElem?_toList]at this
 rw[Array.getElem?_eq_getElem hlt',List.getElem?_eq_getElem hlt]at this
 simp only[Option.map_some,Option.some.injEq]at this
 rw[List.getD_eq_getElem?_getD,List.getElem?_eq_getElem hlt,Option.getD_some]at hx
 rw[getElem!_pos z.cells _ hlt']at hv
 subst hx; subst hv
 exact constPV_ok this F g w
theorem arrOf_get{ts:List T}{s i j:Nat}(hj:j<s):(arrOf ts s i)[j]? = ts[i*s+j]?:=by
 simp only[arrOf,List.getElem?_take,if_pos hj,List.getElem?_drop]
theorem arrOf_len{ts:List T}{s n i:Nat}(hl:ts.length=n*s)(hi:i<n):(arrOf ts s i).length=s:=by
 simp only[arrOf,List.length_take,List.length_drop,hl]
 have:(i+1)*s≤n*s:=Nat.mul_le_mul_right _ hi
 rw[Nat.add_mul,Nat.one_mul]at this
 omega
def ImpC(c:List PV)(ts:List T):Prop:=ts.length=c.length∧∀ (j:Nat) p x,c[j]? = some p→ts[j]? = some x→∀ F g w v,VR F g w p v→VR F g w (.t x) v
theorem ImpC.of{c:List PV}{ts:List T}(h:allT c=some ts):ImpC c ts:=by
 have hc:=allT_ok h
 subst hc
 refine⟨by simp,fun j p x hp hx F g w v hv=>?_⟩
 simp only[List.getElem?_map]at hp
 rw[hx]at hp
 simp only[Option.map_some,Option.some.injEq]at hp
 subst hp
 exact hv
theorem buildSlice_ok{I:Inf}(hn:E.N=I.N)(hnt:E.nt=I.nt)(r:RelG E F g st a w){t e:TypeId}{j:TInf}(hd:P.underlying t=some (.slice e))(hj:TOk P e j){d len:Nat}
  {parts:Array (Nat×Operand)}{ps:List (Nat×PV)}(hps:evParts st parts.toList=some ps)(h1:len*j.size≤16777216)(h2:1≤j.size)(hz:j.zero.length=j.size){c:List PV}
  (hc:fillP (fun i=>some (i*j.size,j.size)) (zeroAt j (len*j.size)) ps=some c){ts:List T}(hts:ImpC c ts)(hcl:c.length=len*j.size){st':St}
  (h:newP I st d (.arr e j.size len (arrOf ts j.size)) (.own d)=some st'):
  ∃ u w',(Instr.buildSlice t len (parts.map fun (i,x)=>(i,a.eval x))).run P w = .ok u w'∧Rel E st' (a.put (some d) u) w':=by
 obtain⟨info,z,hi1,hi2,hi3,hi4,hi5⟩:=zeroAt_ok hj (len*j.size) hz h2
 obtain⟨hl,hp⟩:=evParts_ok r _ _ hps
 obtain⟨oc,ho1,ho2,ho3⟩:=fill_ok (F:=F) (g:=g) (w:=w) ps (parts.toList.map fun (i,x)=>(i,a.eval x)) (zeroAt j (len*j.size)) ((Array.range (len*j.size)).map (z.cells[· % z.cells.size]!)) c
  (by simp[hl]) hp (by simp[zeroAt]) (hi5 F g w) hc
 have htl:ts.length=len*j.size:=by rw[←hcl]; exact hts.1
 have hsz:(sizeOf e).run P w = .ok j.size w:=run_sizeOf hj
 refine⟨.slice (some ⟨w.heap.size,0,none⟩) len len,w.alloc (.cells oc e),?_,newP_ok hn hnt r h rfl rfl rfl rfl rfl (fun g' _ hv=>?_) (fun g' hv=>.own hv)⟩
 ·have:(parts.map fun (i,x)=>(i,a.eval x)).toList=parts.toList.map fun (i,x)=>(i,a.eval x):=by simp
  rw[←this]at ho1
  unfold Instr.buildSlice
  rw[Sem.run_bind,run_underlying hd]
  simp only[Result.andThen_ok]
  rw[Sem.run_bind,hsz]
  simp only[Result.andThen_ok]
  rw[if_neg (by omega)]
  by_cases h0:len*j.size=0
  ·rw[if_pos h0]
   have hr0:∀ f:Nat→Value,(Array.range 0).map f=#[]:=fun f=>Array.eq_empty_of_size_eq_zero (by simp)
   rw[h0,hr0]at ho1
   rw[h0]
   simp only[Sem.run_bind,Sem.run_pure,Result.andThen_ok,hr0]
   rw[ho1]
   simp[newRow]
  ·rw[if_neg h0]
   simp only[Sem.run_bind,Sem.run_pure,Result.andThen_ok,run_zeroValue hi1 hi2]
   rw[ho1]
   simp[newRow]
 ·refine RowR.obj (cur:=oc) ⟨fun i hi=>arrOf_len htl hi,fun i k x hi hx=>?_⟩ hv (heap_alloc_new w _) (Nat.le_refl _) ?_ (by rw[ho2,hcl])
  ·have hk:k<j.size:=by rw[←arrOf_len htl hi]; exact(List.getElem?_eq_some_iff.1 hx).1
   rw[arrOf_get hk]at hx
   have hlt:i*j.size+k<oc.size:=by rw[ho2,←hts.1]; exact(List.getElem?_eq_some_iff.1 hx).1
   have hlc:i*j.size+k<c.length:=by rw[←ho2]; exact hlt
   refine⟨oc[i*j.size+k],by simp[hlt],?_⟩
   have:=hts.2 _ _ _ (by simp[hlc]) hx _ _ _ _ (ho3 (i*j.size+k) c[i*j.size+k] oc[i*j.size+k] (by simp[hlc]) (by simp[hlt]))
   exact(this.cells_t rfl).mono fun b hb=>⟨hb,heap_alloc_old w _ (r.w.f1 b hb).1⟩
  ·have:len≤len*j.size:=Nat.le_mul_of_pos_right _ h2
   simp only[maxLen]; omega
theorem RelG.fresh(r:RelG E F g st a w){ob:Obj}{w':World}(hw:w'.heap=w.heap.push ob)(hos:w'.os=w.os)(htp:w'.tape=w.tape)(hout:w'.output=w.output){d:Nat}(hd:d<E.nt){p:PV}{v:Value}
  (hv:VR (fun b=>F b∨b=w.heap.size) g w' p v):RelG E (fun b=>F b∨b=w.heap.size) g (st.put d p) (a.put (some d) v) w':=by
 have hold:∀ b,b<w.heap.size→w'.heap[b]? = w.heap[b]?:=fun b hb=>by rw[hw]; simp[Array.getElem?_push,Nat.ne_of_lt hb]
 have hsz:w'.heap.size=w.heap.size+1:=by rw[hw]; simp
 have hF:∀ b,F b→(F b∨b=w.heap.size)∧w'.heap[b]? = w.heap[b]?:=fun b hb=>⟨.inl hb,hold b (r.w.f1 b hb).1⟩
 have hft:∀ o x b,(o,x)∈st.hp→Foot g w' o x b→Foot g w o x b:=fun o x b hx hb=>hb.mono rfl (fun _ _=>rfl) (fun c hc=>hold c ((Foot.self hc).block (r.w.hp.obj o x hx)))
 refine r.putW hd hF (fun t y hy=>⟨hy,fun _ _=>rfl⟩) ⟨⟨fun o x hx=>?_,fun o x b hx hb=>?_,fun o x o' y b hx hy hne hb hb'=>?_⟩,fun b hb=>.inl (r.w.f0 b hb),fun b hb=>?_,?_,r.w.names,r.w.b0⟩ hv
 ·exact(r.w.hp.obj o x hx).mono hF rfl (fun _ _=>rfl) (fun c hc=>hold c (hc.block (r.w.hp.obj o x hx)))
 ·have hb':=hft o x b hx hb
  refine⟨?_,(r.w.hp.own o x b hx hb').2⟩
  rintro (h | h)
  ·exact(r.w.hp.own o x b hx hb').1 h
  ·have:=hb'.block (r.w.hp.obj o x hx); omega
 ·exact r.w.hp.sep o x o' y b hx hy hne (hft o x b hx hb) (hft o' y b hy hb')
 ·rcases hb with hb | rfl
  ·exact⟨by have:=(r.w.f1 b hb).1; omega,(r.w.f1 b hb).2⟩
  ·exact⟨by omega,.inr (.inr r.w.ext.size)⟩
 ·refine r.w.ext.trans hos htp hout (by omega) (fun b hb _=>hold b ?_)
  have:=r.w.ext.size
  omega
theorem buildSlice_data{nt:Nat}(hnt:E.nt=nt)(r:RelG E F g st a w){t e:TypeId}{j:TInf}(hd:P.underlying t=some (.slice e))(hj:TOk P e j){d len:Nat}
  {parts:Array (Nat×Operand)}{ps:List (Nat×PV)}(hps:evParts st parts.toList=some ps)(h1:len*j.size≤16777216)(h2:1≤j.size)(hz:j.zero.length=j.size){c:List PV}
  (hc:fillP (fun i=>some (i*j.size,j.size)) (zeroAt j (len*j.size)) ps=some c){ts:List T}(hts:ImpC c ts)(hcl:c.length=len*j.size)(hdn:d<nt):
  ∃ u w' F',(Instr.buildSlice t len (parts.map fun (i,x)=>(i,a.eval x))).run P w = .ok u w'∧RelG E F' g (st.put d (.t (.sl len (arrOf ts j.size)))) (a.put (some d) u) w':=by
 obtain⟨info,z,hi1,hi2,hi3,hi4,hi5⟩:=zeroAt_ok hj (len*j.size) hz h2
 obtain⟨hl,hp⟩:=evParts_ok r _ _ hps
 obtain⟨oc,ho1,ho2,ho3⟩:=fill_ok (F:=F) (g:=g) (w:=w) ps (parts.toList.map fun (i,x)=>(i,a.eval x)) (zeroAt j (len*j.size)) ((Array.range (len*j.size)).map (z.cells[· % z.cells.size]!)) c
  (by simp[hl]) hp (by simp[zeroAt]) (hi5 F g w) hc
 have htl:ts.length=len*j.size:=by rw[←hcl]; exact hts.1
 have hsz:(sizeOf e).run P w = .ok j.size w:=run_sizeOf hj
 refine⟨.slice (some ⟨w.heap.size,0,none⟩) len len,w.alloc (.cells oc e),fun b=>F b∨b=w.heap.size,?_,r.fresh (ob:=.cells oc e) (w':=w.alloc (.cells oc e)) rfl rfl rfl rfl (hnt▸hdn) (.t (.sl ⟨w.heap.size,0,none⟩ len j.size (fun i k=>oc.getD (i*j.size+k) undef) rfl (Nat.le_refl _) (fun _=>.inr rfl) (fun i hi=>arrOf_len htl hi) (fun i k hi hk=>?_) (fun i k x hi hx=>?_)))⟩
 ·have:(parts.map fun (i,x)=>(i,a.eval x)).toList=parts.toList.map fun (i,x)=>(i,a.eval x):=by simp
  rw[←this]at ho1
  unfold Instr.buildSlice
  rw[Sem.run_bind,run_underlying hd]
  simp only[Result.andThen_ok]
  rw[Sem.run_bind,hsz]
  simp only[Result.andThen_ok]
  rw[if_neg (by omega)]
  by_cases h0:len*j.size=0
  ·rw[if_pos h0]
   have hr0:∀ f:Nat→Value,(Array.range 0).map f=#[]:=fun f=>Array.eq_empty_of_size_eq_zero (by simp)
   rw[h0,hr0]at ho1
   rw[h0]
   simp only[Sem.run_bind,Sem.run_pure,Result.andThen_ok,hr0]
   rw[ho1]
   simp[newRow]
  ·rw[if_neg h0]
   simp only[Sem.run_bind,Sem.run_pure,Result.andThen_ok,run_zeroValue hi1 hi2]
   rw[ho1]
   simp[newRow]
 ·have hlt:i*j.size+k<oc.size:=by
   rw[ho2,hcl]
   calc i*j.size+k<i*j.size+j.size:=by omega
    _=(i+1)*j.size:=by rw[Nat.succ_mul]
    _≤len*j.size:=Nat.mul_le_mul_right _ hi
  rw[Addr.add_none]
  simp only[Nat.zero_add]
  have hnew:=heap_alloc_new w (.cells oc e)
  simp only[World.cell?,hnew]
  simp[Array.getD,hlt]
 ·have hk:k<j.size:=by rw[←arrOf_len htl hi]; exact(List.getElem?_eq_some_iff.1 hx).1
  rw[arrOf_get hk]at hx
  have hlt:i*j.size+k<oc.size:=by rw[ho2,←hts.1]; exact(List.getElem?_eq_some_iff.1 hx).1
  have hlc:i*j.size+k<c.length:=by rw[←ho2]; exact hlt
  have hg:oc.getD (i*j.size+k) undef=oc[i*j.size+k]:=by simp[Array.getD,hlt]
  rw[hg]
  have:=hts.2 _ _ _ (by simp[hlc]) hx _ _ _ _ (ho3 (i*j.size+k) c[i*j.size+k] oc[i*j.size+k] (by simp[hlc]) (by simp[hlt]))
  exact(this.cells_t rfl).mono fun b hb=>⟨.inl hb,heap_alloc_old w _ (r.w.f1 b hb).1⟩
theorem setRow_F{b:Nat}{cs:Array Value}(hb:¬ F b):∀ k,F k→F k∧(w.setRow b cs).heap[k]? = w.heap[k]?:=
 fun k hk=>⟨hk,setRow_other w b k _ (fun e=>hb (e▸hk))⟩
theorem RelG.writeF(r:RelG E F g st a w){o b:Nat}{x y:PObj}(hl:(o,x)∈st.hp)(hb:Foot g w o x b){w':World}(hoth:∀ k,k≠b→w'.heap[k]? = w.heap[k]?)(hsz:w'.heap.size=w.heap.size)(hos:w'.os=w.os)(htp:w'.tape=w.tape)(hout:w'.output=w.output)
  (hy:ObjR F g w' o y)(hft:∀ k,Foot g w' o y k→Foot g w o x k):RelG E F g { st with hp:=(o,y)::del o st.hp } a w':=by
 have hFb:=(r.w.hp.own o x b hl hb).1
 have hBb:=(r.w.hp.own o x b hl hb).2
 have hF:∀ k,F k→F k∧w'.heap[k]? = w.heap[k]?:=fun k hk=>⟨hk,hoth k (fun e=>hFb (e▸hk))⟩
 have other:∀ o' z b',(o',z)∈del o st.hp→Foot g w o' z b'→b'≠b:=by
  intro o' z b' hz hb' e
  subst e
  exact r.w.hp.sep o' z o x b' (mem_del.1 hz).1 hl (mem_del.1 hz).2 hb' hb
 have foot:∀ o' z b',(o',z)∈(o,y)::del o st.hp→Foot g w' o' z b'→∃ u,(o',u)∈st.hp∧Foot g w o' u b':=by
  intro o' z b' hz hb'
  rcases List.mem_cons.1 hz with e | hz
  ·cases e; exact⟨x,hl,hft _ hb'⟩
  ·exact⟨z,(mem_del.1 hz).1,hb'.mono rfl (fun _ _=>rfl) (fun c hc=>hoth c (other o' z c hz (.self hc)))⟩
 refine⟨r.nt,r.df,fun t z hz=>(r.fr t z hz).mono hF (fun _ _=>rfl),⟨⟨?_,?_,?_⟩,r.w.f0,fun k hk=>⟨by rw[hsz]; exact(r.w.f1 k hk).1,(r.w.f1 k hk).2⟩,
  r.w.ext.trans hos htp hout (Nat.le_of_eq hsz.symm) (fun k hk hB=>hoth k (fun e=>?_)),r.w.names,r.w.b0⟩⟩
 ·intro o' z hz
  rcases List.mem_cons.1 hz with e | hz
  ·cases e; exact hy
  ·exact(r.w.hp.obj o' z (mem_del.1 hz).1).mono hF rfl (fun _ _=>rfl) (fun b' hb'=>hoth b' (other o' z b' hz hb'))
 ·intro o' z b' hz hb'
  obtain⟨u,h1,h2⟩:=foot o' z b' hz hb'
  exact r.w.hp.own o' u b' h1 h2
 ·intro o' z o'' z' b' hz hz' hne hb1 hb2
  obtain⟨u,h1,h2⟩:=foot o' z b' hz hb1
  obtain⟨u',h1',h2'⟩:=foot o'' z' b' hz' hb2
  exact r.w.hp.sep o' u o'' u' b' h1 h1' hne h2 h2'
 ·subst e
  rcases hBb with h | h
  ·exact hB h
  ·omega
theorem RelG.write(r:RelG E F g st a w){o b:Nat}{x y:PObj}(hl:(o,x)∈st.hp)(hb:blk (g o)=some b){cs:Array Value}{ob:Obj}(_hob:w.heap[b]? = some ob)
  (hy:ObjR F g (w.setRow b cs) o y)(hyp:y.plain=true:=by rfl):RelG E F g { st with hp:=(o,y)::del o st.hp } a (w.setRow b cs):=
 r.writeF hl (.self hb) (fun k hk=>setRow_other w b k _ hk) (by simp) rfl rfl rfl hy (fun _ hk=>.self (hk.toBlk hyp))
theorem RelG.writeO(r:RelG E F g st a w){o b:Nat}{x y:PObj}(hl:(o,x)∈st.hp)(hb:blk (g o)=some b){w':World}{ob:Obj}(_hob:w.heap[b]? = some ob)(hoth:∀ k,k≠b→w'.heap[k]? = w.heap[k]?)(hsz:w'.heap.size=w.heap.size)(hos:w'.os=w.os)(htp:w'.tape=w.tape)(hout:w'.output=w.output)
  (hy:ObjR F g w' o y)(hyp:y.plain=true:=by rfl):RelG E F g { st with hp:=(o,y)::del o st.hp } a w':=
 r.writeF hl (.self hb) hoth hsz hos htp hout hy (fun _ hk=>.self (hk.toBlk hyp))
theorem mfind_some{ks:List Int}:∀ {m:List (List Int×Bool)} {i j:Nat} {b:Bool},mfind m ks i=some (j,b)→∃ t,j=i+t∧∃ x,m[t]? = some x∧x.1=ks
 | [],i,j,b,h=>by simp[mfind]at h
 | e::m,i,j,b,h=>by
  simp only[mfind]at h
  split at h
  ·rename_i he; cases h; exact⟨0,by simp,e,by simp,(eq_of_beq he).symm⟩
  ·obtain⟨t,h1,x,h2,h3⟩:=mfind_some h
   exact⟨t+1,by omega,x,by simpa using h2,h3⟩
theorem sameBits_ints(n:Nat)(ks:List Int):Instr.sameBits (n+1) (intsV ks) (intsV ks)=true:=by
 have:∀ l:List Int,((l.map (Value.int .i64)).zip (l.map (Value.int .i64))).all (fun x=>Instr.sameBits n x.1 x.2)=true:=by
  intro l
  induction l with
  | nil=>rfl
  | cons x l ih=>simp only[List.map_cons,List.zip_cons_cons,List.all_cons,ih,Bool.and_true]; cases n <;> simp[Instr.sameBits]
 simp only[intsV,Instr.sameBits,Bool.and_eq_true,beq_self_eq_true,true_and]
 exact this ks
theorem heap_setO{w:World}{r:Nat}{o o':Obj}(hb:w.heap[r]? = some o):(w.heap.setIfInBounds r o')[r]? = some o'∧∀ r',r'≠r→(w.heap.setIfInBounds r o')[r']? = w.heap[r']?:=by
 have hlt:r<w.heap.size:=(Array.getElem?_eq_some_iff.1 hb).1
 exact⟨by simp[hlt],fun r' hne=>by simp[Ne.symm hne]⟩
theorem mapUpdate_ok{I:Inf}(hI:TIok P I.ti)(r:RelG E F g st a w){t:Nat}{p q:PV}{n o:Nat}{m:List (List Int×Bool)}{ks:List Int}{bb:Bool}(h:mapP I st t p q=some (n,m,o,ks)){u v:Value}
  (hu:VR F g w p u)(hv:VR F g w q v):∃ w',(Instr.mapUpdate t u v (.bool bb)).run P w = .ok () w'∧RelG E F g { st with hp:=(o,.mpb n (mset m ks bb))::del o st.hp } a w':=by
 obtain⟨kt,et,b,es,clock,info,h1,h2,h3,h4,h5,h6,h7,h8,h9,h10,h11,h12⟩:=mapP_ok hI r h hu hv
 have hset:=heap_setO (o':=.map (es.push { key:=v,val:=.bool bb,born:=clock }) (clock+1)) h6
 cases hf:mfind m ks 0 with
 | none=>
  refine⟨{ w with heap:=w.heap.setIfInBounds b (.map (es.push { key:=v,val:=.bool bb,born:=clock }) (clock+1)) },?_,r.writeO h5 (by rw[h4]; rfl) h6 hset.2 (by simp) rfl rfl rfl ?_⟩
  ·unfold Instr.mapUpdate
   simp only[h2,Sem.run_bind,run_underlying h1,Result.andThen_ok,Go.run_getObj_map w b es clock h6,h11,h12,hf,Option.map_none,MapKept.run_setObj_map _ h6]
  ·refine⟨b,_,_,h4,hset.1,?_,?_,?_⟩
   ·have:=h7.1; simp only[Array.size_push,mset,hf,List.length_append,List.length_singleton]; simp at this; omega
   ·intro x hx
    simp only[mset,hf,List.mem_append,List.mem_singleton]at hx
    rcases hx with hx | rfl
    ·exact h7.2.1 x hx
    ·exact h8
   ·intro j e x he hx
    simp only[mset,hf]at hx
    have hl:=h7.1
    simp at hl
    by_cases hj:j<m.length
    ·rw[List.getElem?_append_left hj]at hx
     rw[Array.getElem?_push,if_neg (by omega)]at he
     exact h7.2.2 j e x (by simpa using he) hx
    ·rw[List.getElem?_append_right (by omega)]at hx
     have hj':j=m.length:=by
      have:=(List.getElem?_eq_some_iff.1 hx).1; simp at this; omega
     subst hj'
     simp at hx; subst hx
     rw[Array.getElem?_push,if_pos (by omega)]at he
     cases he
     exact⟨h3,rfl⟩
 | some jx=>
  obtain⟨j,vb⟩:=jx
  obtain⟨t',e1,x0,e2,e3⟩:=mfind_some hf
  simp only[Nat.zero_add]at e1; subst e1
  have hl:=h7.1
  simp only[Array.length_toList]at hl
  have hj:j<es.size:=by rw[hl]; exact(List.getElem?_eq_some_iff.1 e2).1
  have hkey:=(h7.2.2 j es[j] x0 (by simp[hj]) e2).1
  have hset:=heap_setO (o':=.map (es.modify j fun e=>{ e with key:=v,val:=.bool bb }) clock) h6
  refine⟨{ w with heap:=w.heap.setIfInBounds b (.map (es.modify j fun e=>{ e with key:=v,val:=.bool bb }) clock) },?_,r.writeO h5 (by rw[h4]; rfl) h6 hset.2 (by simp) rfl rfl rfl ?_⟩
  ·have hstay:(Instr.keyThatStays ((es[j]?.map (·.key)).getD v) v).run P w = .ok v w:=by
    rw[Array.getElem?_eq_getElem hj,Option.map_some,Option.getD_some,hkey,h3,e3]
    unfold Instr.keyThatStays
    rw[show (10000:Nat)=9999+1 from rfl,if_pos (sameBits_ints 9999 ks)]
    simp
   unfold Instr.mapUpdate
   simp only[h2,Sem.run_bind,run_underlying h1,Result.andThen_ok,Go.run_getObj_map w b es clock h6,h11,h12,hf,Option.map_some,hstay,MapKept.run_setObj_map _ h6]
  ·refine⟨b,_,_,h4,hset.1,?_,?_,?_⟩
   ·simp only[mset,hf]; simpa using hl
   ·intro x hx
    simp only[mset,hf]at hx
    rcases List.mem_or_eq_of_mem_set hx with hx | rfl
    ·exact h7.2.1 x hx
    ·exact h8
   ·intro i e x he hx
    simp only[mset,hf]at hx
    rw[Array.getElem?_modify]at he
    rw[List.getElem?_set]at hx
    by_cases hij:j=i
    ·subst hij
     rw[if_pos rfl]at he hx
     rw[Array.getElem?_eq_getElem hj]at he
     have hjm:j<m.length:=by omega
     rw[if_pos hjm]at hx
     cases he; cases hx
     exact⟨h3,rfl⟩
    ·rw[if_neg hij]at he hx
     exact h7.2.2 i e x (by simpa using he) hx
theorem run_storeVar{t:TypeId}{i:TInf}(hi:TOk P t i){b off:Nat}{cur:Array Value}{e:TypeId}(hb:w.heap[b]? = some (.cells cur e (0,0))){v:Value}(hv:v.cells.size=i.size)
  (hfit:off+i.size≤cur.size)(h1:∀ u,u∈v.cells→u.oneCell'=true):
  (Instr.storeAt t (.pointer (some ⟨b,off,none⟩)) v).run P w = .ok () (w.setRow b (cur.toList.take off++v.cells.toList++cur.toList.drop (off+i.size)).toArray):=by
 have hs:=run_storeCells_at P b off e v.cells.toList 0 cur w hb (by simp; omega) (fun u hu=>h1 u (by simpa using hu))
 simp only[Nat.add_zero,Array.length_toList]at hs
 simp[Instr.storeAt,Instr.sureAddr,storeVar,run_sizeOf hi,hv]
 rw[hs,hv]
 simp
theorem all_one{x:PV}{v:Value}(h:VR F g w x v)(h1:x.cells.all PV.one=true):∀ u,u∈v.cells→u.oneCell'=true:=by
 intro u hu
 obtain⟨k,hk,rfl⟩:=Array.mem_iff_getElem.1 hu
 obtain⟨h2,h3⟩:=h.cells
 have hk':k<x.cells.length:=by omega
 exact(h3 k x.cells[k] v.cells[k] (by simp[hk']) (by simp[hk])).one (List.all_eq_true.1 h1 _ (List.getElem_mem hk'))
theorem mul_inj{s i j k off:Nat}(hj:j<s)(ho:off<s)(h:i*s+j=k*s+off):i=k∧j=off:=by
 rcases Nat.lt_trichotomy i k with h1 | h1 | h1
 ·have:(i+1)*s≤k*s:=Nat.mul_le_mul_right _ h1
  rw[Nat.add_mul,Nat.one_mul]at this; omega
 ·subst h1; exact⟨rfl,by omega⟩
 ·have:(k+1)*s≤i*s:=Nat.mul_le_mul_right _ h1
  rw[Nat.add_mul,Nat.one_mul]at this; omega
theorem updA_get{f:Nat→List Cel}{k off:Nat}{c:Cel}{i j:Nat}{x:Cel}(h:(updA f k off c i)[j]? = some x):(i=k∧j=off∧x=c)∨(¬ (i=k∧j=off)∧(f i)[j]? = some x):=by
 unfold updA at h
 split at h
 ·rename_i hik
  rw[List.getElem?_set]at h
  split at h
  ·rename_i hj
   split at h
   ·cases h; exact .inl ⟨hik,hj.symm,rfl⟩
   ·cases h
  ·rename_i hj
   exact .inr ⟨fun e=>hj e.2.symm,h⟩
 ·rename_i hik
  exact .inr ⟨fun e=>hik e.1,h⟩
theorem updA_other{f:Nat→List Cel}{k off:Nat}{c:Cel}{i j:Nat}(h:¬ (i=k∧j=off)):(updA f k off c i)[j]? = (f i)[j]?:=by
 unfold updA
 split
 ·rename_i hik
  rw[List.getElem?_set,if_neg (fun e=>h ⟨hik,e.symm⟩)]
 ·rfl
theorem updA_self{f:Nat→List Cel}{k off:Nat}{c:Cel}(h:off<(f k).length):(updA f k off c k)[off]? = some c:=by
 unfold updA
 rw[if_pos rfl,List.getElem?_set,if_pos rfl,if_pos h]
theorem updA_len{f:Nat→List Cel}{k off:Nat}{c:Cel}(i:Nat):(updA f k off c i).length=(f i).length:=by
 unfold updA
 split
 ·rw[List.length_set]
 ·rfl
theorem ArmC.set{w w':World}{b s n:Nat}{f:Nat→List Cel}{ov ov':Option (Nat×Nat×PV)}{cur cur':Array Value}{k off:Nat}{c:Cel}{v:Value}(h:ArmC F g w b s n f ov cur)(hk:k<n)(hoff:off<s)(hc:c.owned=false)(hcv:CelR F w' c v)
  (hcur:∀ q,q≠k*s+off→cur'[q]? = cur[q]?)(hq:cur'[k*s+off]? = some v)(hF:∀ q,F q→F q∧w'.heap[q]? = w.heap[q]?)(hoth:∀ q,q≠b→w'.heap[q]? = w.heap[q]?)
  (hov:∀ i j p,ov'=some (i,j,p)→i<n∧(updA f k off c i)[j]? = some .any∧∀ u,cur'[i*s+j]? = some u→VR F g w' p u):ArmC F g w' b s n (updA f k off c) ov' cur':=by
 have js:∀ {i j:Nat} {x:Cel},i<n→(f i)[j]? = some x→j<s:=fun hi hx=>by
  rw[←h.len _ hi]; exact(List.getElem?_eq_some_iff.1 hx).1
 have oth:∀ {i j:Nat} {x:Cel},i<n→¬ (i=k∧j=off)→(f i)[j]? = some x→cur'[i*s+j]? = cur[i*s+j]?:=fun hi hne hx=>hcur _ fun e=>hne (mul_inj (js hi hx) hoff e)
 refine⟨fun i hi=>by rw[updA_len]; exact h.len i hi,fun i j x hi hx=>?_,fun i j i' j' x x' z z' d hi hi' hx hx' ho ho' hz hz' hd hd'=>?_,fun i j x z hi hx ho hz=>?_,hov⟩
 ·rcases updA_get hx with⟨rfl,rfl,rfl⟩ | ⟨hne,hx⟩
  ·exact⟨v,hq,hcv⟩
  ·obtain⟨z,hz,hR⟩:=h.cell i j x hi hx
   exact⟨z,by rw[oth hi hne hx]; exact hz,hR.mono hF fun d hy hd=>hoth d fun e=>h.own i j x z hi hx hy hz (e▸hd)⟩
 ·rcases updA_get hx with⟨rfl,rfl,rfl⟩ | ⟨hne,hx⟩
  ·rw[hc]at ho; cases ho
  ·rcases updA_get hx' with⟨rfl,rfl,rfl⟩ | ⟨hne',hx'⟩
   ·rw[hc]at ho'; cases ho'
   ·rw[oth hi hne hx]at hz
    rw[oth hi' hne' hx']at hz'
    exact h.sep i j i' j' x x' z z' d hi hi' hx hx' ho ho' hz hz' hd hd'
 ·rcases updA_get hx with⟨rfl,rfl,rfl⟩ | ⟨hne,hx⟩
  ·rw[hc]at ho; cases ho
  ·rw[oth hi hne hx]at hz
   exact h.own i j x z hi hx ho hz
theorem armSet_ok{w w':World}{b s n:Nat}{f f':Nat→List Cel}{ov ov':Option (Nat×Nat×PV)}{cur cur':Array Value}{k off:Nat}{x:PV}{v:Value}(he:armSet ov f k off x=some (f',ov'))(h:ArmC F g w b s n f ov cur)(hk:k<n)(hoff:off<s)(hv:VR F g w x v)
  (hcur:∀ q,q≠k*s+off→cur'[q]? = cur[q]?)(hq:cur'[k*s+off]? = some v)(hF:∀ q,F q→F q∧w'.heap[q]? = w.heap[q]?)(hoth:∀ q,q≠b→w'.heap[q]? = w.heap[q]?):
  ArmC F g w' b s n f' ov' cur'∧∀ (i j:Nat) c,i<n→(f' i)[j]? = some c→c.owned=true→¬ (i=k∧j=off)∧(f i)[j]? = some c:=by
 have js:∀ {i j:Nat} {x:Cel},i<n→(f i)[j]? = some x→j<s:=fun hi hx=>by
  rw[←h.len _ hi]; exact(List.getElem?_eq_some_iff.1 hx).1
 have back:∀ {c':Cel},c'.owned=false→∀ (i j:Nat) c,i<n→(updA f k off c' i)[j]? = some c→c.owned=true→¬ (i=k∧j=off)∧(f i)[j]? = some c:=fun hc i j c hi hx ho=>by
  rcases updA_get hx with⟨_,_,rfl⟩ | hx
  ·rw[hc]at ho; cases ho
  ·exact hx
 unfold armSet at he
 split at he
 ·rename_i y
  cases he
  exact⟨h.set hk hoff rfl (hv.cells_t rfl |>.mono hF) hcur hq hF hoth (fun i j p e=>by cases e),back rfl⟩
 ·rename_i y i j p
  split at he
  ·cases he
  ·rename_i hj
   have hj:=Nat.ne_of_beq_eq_false hj
   cases he
   refine⟨h.set hk hoff rfl (hv.cells_t rfl |>.mono hF) hcur hq hF hoth (fun i' j' p' e=>?_),back rfl⟩
   cases e
   obtain⟨q1,q2,q3⟩:=h.ov _ _ _ rfl
   refine⟨q1,by rw[updA_other (fun e=>hj e.2)]; exact q2,fun u hu=>?_⟩
   rw[hcur _ (fun e=>hj (mul_inj (js q1 q2) hoff e).2)]at hu
   exact(q3 u hu).mono hF (fun _ _=>rfl)
 ·rename_i q
  cases he
  refine⟨h.set hk hoff rfl True.intro hcur hq hF hoth (fun i' j' p' e=>?_),back rfl⟩
  cases e
  refine⟨hk,updA_self (by rw[h.len k hk]; exact hoff),fun u hu=>?_⟩
  rw[hq]at hu
  cases hu
  exact hv.mono hF (fun _ _=>rfl)
 ·cases he
theorem storeP_ok(r:RelG E F g st a w){t:TypeId}{i:TInf}(hi:TOk P t i){d:Option Nat}{p x:PV}{st':St}{C:Prop}(h:storeP st i d p x=some (st',C))(hC:C){u v:Value}
  (hu:VR F g w p u)(hv:VR F g w x v):d=none∧∃ w',(Instr.storeAt t u v).run P w = .ok () w'∧RelG E F g st' a w':=by
 unfold storeP at h
 split at h
 ·cases h
 ·refine⟨rfl,?_⟩
  obtain⟨hvs,hvc⟩:=hv.cells
  cases p with
  | ptr o off=>
   simp only at h
   split at h
   ·rename_i l hl
    split at h
    ·rename_i h1 h2 h3
     have h1:=Nat.eq_of_beq_eq_true h1
     have h2:=Nat.le_of_ble_eq_true h2
     cases h
     have hlm:=look_mem hl
     obtain⟨b,vs,ty,e1,e2,e3,e4⟩:=r.w.hp.obj _ _ hlm
     cases hu with
     | @ptr _ _ b' hg=>
      rw[e1]at hg; injection hg with hg; injection hg with hg; injection hg with hg; subst hg
      refine⟨_,run_storeVar hi e2 (by omega) (by omega) (all_one hv h3),r.write hlm (by rw[e1]; rfl) e2 ⟨b,_,ty,e1,setRow_heap w b vs _ ty _ e2,?_,fun k y z hy hz=>?_⟩⟩
      ·simp only[List.size_toArray,List.length_append,List.length_take,List.length_drop,Array.length_toList]; omega
      ·have hFb:=(r.w.hp.own o _ b hlm (.self (by rw[e1]; rfl))).1
       refine VR.mono (setRow_F hFb) ?_ (fun _ _=>rfl)
       simp only[List.getElem?_toArray,List.append_assoc]at hz
       rw[List.append_assoc]at hy
       by_cases hk:k<off
       ·rw[List.getElem?_append_left (by simp; omega),List.getElem?_take,if_pos hk]at hy
        rw[List.getElem?_append_left (by simp; omega),List.getElem?_take,if_pos hk]at hz
        exact e4 k y z hy (by simpa using hz)
       ·rw[List.getElem?_append_right (by simp; omega)]at hy
        rw[List.getElem?_append_right (by simp; omega)]at hz
        simp only[List.length_take,Array.length_toList]at hy hz
        rw[show min off l.length=off by omega]at hy
        rw[show min off vs.size=off by omega]at hz
        by_cases hk2:k<off+i.size
        ·rw[List.getElem?_append_left (by omega)]at hy
         rw[List.getElem?_append_left (by simp; omega)]at hz
         exact hvc _ y z hy (by simpa using hz)
        ·rw[List.getElem?_append_right (by omega),List.getElem?_drop]at hy
         rw[List.getElem?_append_right (by simp; omega),List.getElem?_drop]at hz
         simp only[Array.length_toList]at hz
         rw[show off+i.size+(k-off-x.cells.length)=k by omega]at hy
         rw[show off+i.size+(k-off-v.cells.size)=k by omega]at hz
         exact e4 k y z hy (by simpa using hz)
    ·cases h
   ·cases h
  | aptr o s k off=>
   simp only at h
   split at h
   ·rename_i e s' n f c hl hc
    split at h
    ·rename_i h1 h2 h3 h4
     have h1:=Nat.eq_of_beq_eq_true h1
     have h2:=Nat.eq_of_beq_eq_true h2
     have h3:=Nat.le_of_ble_eq_true h3
     cases h
     subst h1
     have hlm:=look_mem hl
     have hce:=allT_ok hc
     have hcl:x.cells.length=c.length:=by rw[hce]; simp
     rcases r.w.hp.obj _ _ hlm with⟨e1,e2⟩ | ⟨b,cap,cur,e1,e2,e3,e4,e5,e6,e7⟩
     ·omega
     ·cases hu with
      | @aptr _ _ _ _ b' n' cap' hg=>
       rw[e1]at hg; injection hg with hg g2 g3; injection hg with hg; injection hg with hg; subst hg
       have hrow:(k+1)*s'≤cur.size:=by rw[e5]; exact Nat.mul_le_mul_right _ (by omega)
       rw[Nat.add_mul,Nat.one_mul]at hrow
       have hfk:(f k).length=s':=e6 k hC
       rw[setC_eq hfk]
       refine⟨_,run_storeVar hi e2 (by omega) (by omega) (all_one hv h4),r.write hlm (by rw[e1]; rfl) e2 ?_⟩
       have hFb:=(r.w.hp.own o _ b hlm (.self (by rw[e1]; rfl))).1
       have hF:=setRow_F (F:=F) (w:=w) (cs:=(cur.toList.take (k*s'+off)++v.cells.toList++cur.toList.drop (k*s'+off+i.size)).toArray) hFb
       refine RowR.obj ⟨fun i' hi'=>?_,fun i' j x' hi' hx'=>?_⟩ e1 (setRow_heap w b cur _ e _ e2) e3 e4 ?_
       ·unfold updF setAt
        split
        ·simp only[List.length_append,List.length_take,List.length_drop]; omega
        ·exact e6 i' hi'
       ·have hget:∀ q,q<k*s'+off∨k*s'+off+i.size≤q→((cur.toList.take (k*s'+off)++v.cells.toList++cur.toList.drop (k*s'+off+i.size)).toArray)[q]? = cur[q]?:=by
         intro q hq
         simp only[List.getElem?_toArray,List.append_assoc]
         rcases hq with hq | hq
         ·rw[List.getElem?_append_left (by simp; omega),List.getElem?_take,if_pos hq]; simp
         ·rw[List.getElem?_append_right (by simp; omega),List.getElem?_append_right (by simp; omega),List.getElem?_drop]
          simp only[List.length_take,Array.length_toList,Array.getElem?_toList]
          congr 1; omega
        have hmid:∀ q,q<i.size→((cur.toList.take (k*s'+off)++v.cells.toList++cur.toList.drop (k*s'+off+i.size)).toArray)[k*s'+off+q]? = v.cells[q]?:=by
         intro q hq
         simp only[List.getElem?_toArray,List.append_assoc]
         rw[List.getElem?_append_right (by simp; omega),List.getElem?_append_left (by simp; omega)]
         simp only[List.length_take,Array.length_toList,Array.getElem?_toList]
         congr 1; omega
        unfold updF at hx'
        split at hx'
        ·rename_i hik
         subst hik
         unfold setAt at hx'
         have hjs:j<s':=by
          have:=(List.getElem?_eq_some_iff.1 hx').1
          simp only[List.length_append,List.length_take,List.length_drop]at this
          omega
         by_cases hj:j<off
         ·rw[List.append_assoc,List.getElem?_append_left (by simp; omega),List.getElem?_take,if_pos hj]at hx'
          obtain⟨z,hz,hr⟩:=e7 i' j x' hi' hx'
          exact⟨z,by rw[hget _ (by omega)]; exact hz,hr.mono hF⟩
         ·by_cases hj2:j<off+i.size
          ·rw[List.append_assoc,List.getElem?_append_right (by simp; omega),List.getElem?_append_left (by simp; omega)]at hx'
           simp only[List.length_take]at hx'
           rw[show min off (f i').length=off by omega]at hx'
           have hq:j-off<v.cells.size:=by omega
           refine⟨v.cells[j-off],?_,?_⟩
           ·have:=hmid (j-off) (by omega)
            rw[show i'*s'+off+(j-off)=i'*s'+j by omega]at this
            rw[this]; simp[hq]
           ·have:=hvc (j-off) (.t x') v.cells[j-off] (by rw[hce]; simp[hx']) (by simp[hq])
            exact(this.cells_t rfl).mono hF
          ·rw[List.getElem?_append_right (by simp; omega),List.getElem?_drop]at hx'
           simp only[List.length_append,List.length_take]at hx'
           rw[show off+c.length+(j-(min off (f i').length+c.length))=j by omega]at hx'
           obtain⟨z,hz,hr⟩:=e7 i' j x' hi' hx'
           exact⟨z,by rw[hget _ (by omega)]; exact hz,hr.mono hF⟩
        ·rename_i hik
         obtain⟨z,hz,hr⟩:=e7 i' j x' hi' hx'
         have hjs:j<s':=by rw[←e6 i' hi']; exact(List.getElem?_eq_some_iff.1 hx').1
         refine⟨z,?_,hr.mono hF⟩
         rw[hget]
         ·exact hz
         ·rcases Nat.lt_or_gt_of_ne hik with hlt | hgt
          ·left
           have:(i'+1)*s'≤k*s':=Nat.mul_le_mul_right _ hlt
           rw[Nat.add_mul,Nat.one_mul]at this; omega
          ·right
           have:(k+1)*s'≤i'*s':=Nat.mul_le_mul_right _ hgt
           rw[Nat.add_mul,Nat.one_mul]at this; omega
       ·simp only[List.size_toArray,List.length_append,List.length_take,List.length_drop,Array.length_toList]; omega
    ·cases h
   ·rename_i e s' n f ov hl
    split at h
    ·rename_i f' ov' h1 h2 h3 h4 h5
     have h1:=Nat.eq_of_beq_eq_true h1
     have h2:=Nat.eq_of_beq_eq_true h2
     have h3:=Nat.le_of_ble_eq_true h3
     cases h
     subst h1
     have hlm:=look_mem hl
     have hxc:x.cells=[x]:=by
      cases x with
      | agg l=>cases h4
      | tup l=>cases h4
      | t y=>cases y <;> first | rfl | cases h4
      | _=>rfl
     have hvs1:v.cells.size=1:=by rw[hvs,hxc]; rfl
     obtain⟨z,hz⟩:∃ z,v.cells=#[z]:=by
      obtain⟨z,hz⟩:=Array.size_eq_one_iff.1 hvs1
      exact⟨z,hz⟩
     have hvz:VR F g w x z:=hvc 0 x z (by rw[hxc]; rfl) (by rw[hz]; rfl)
     rcases r.w.hp.obj _ _ hlm with⟨e1,e2,_⟩ | ⟨b,cap,cur,e1,e2,e3,e4,e5,hA⟩
     ·omega
     ·cases hu with
      | @aptr _ _ _ _ b' n' cap' hg=>
       rw[e1]at hg; injection hg with hg g2 g3; injection hg with hg; injection hg with hg; subst hg
       have hrow:(k+1)*s'≤cur.size:=by rw[e5]; exact Nat.mul_le_mul_right _ (by omega)
       rw[Nat.add_mul,Nat.one_mul]at hrow
       have hFb:=(r.w.hp.own o _ b hlm (.self (by rw[e1]; rfl))).1
       have hcs:∀ q,((cur.toList.take (k*s'+off)++v.cells.toList++cur.toList.drop (k*s'+off+i.size)).toArray)[q]? = if q=k*s'+off then some z else cur[q]?:=by
        intro q
        rw[hz,h2]
        simp only[List.getElem?_toArray,List.append_assoc]
        by_cases hq:q<k*s'+off
        ·rw[List.getElem?_append_left (by simp; omega),List.getElem?_take,if_pos hq,if_neg (by omega)]; simp
        ·rw[List.getElem?_append_right (by simp; omega)]
         simp only[List.length_take,Array.length_toList]
         rw[show min (k*s'+off) cur.size=k*s'+off by omega]
         by_cases hq2:q=k*s'+off
         ·subst hq2; simp
         ·rw[if_neg hq2,List.getElem?_append_right (by simp; omega),List.getElem?_drop]
          simp only[List.length_singleton,Array.getElem?_toList]
          congr 1; omega
       obtain⟨hN,hB⟩:=armSet_ok (w':=w.setRow b (cur.toList.take (k*s'+off)++v.cells.toList++cur.toList.drop (k*s'+off+i.size)).toArray) h5 hA hC (by omega) hvz (fun q hq=>by rw[hcs,if_neg hq]) (by rw[hcs,if_pos rfl]) (setRow_F hFb) (fun q hq=>setRow_other w b q _ hq)
       refine⟨_,run_storeVar hi e2 (by omega) (by omega) (all_one hv (by rw[hxc]; simp[h4])),r.writeF hlm (.self (by rw[e1]; rfl)) (fun q hq=>setRow_other w b q _ hq) (by simp) rfl rfl rfl ?_ fun q hq=>?_⟩
       ·exact .inr ⟨b,cap,_,e1,setRow_heap w b cur _ e _ e2,e3,e4,by simp only[List.size_toArray,List.length_append,List.length_take,List.length_drop,Array.length_toList]; omega,hN⟩
       ·cases hq with
        | self hq=>exact .self hq
        | @arm _ _ _ _ _ _ bm capm i' j' curm xm vm hg hbm hi' hx hy hvm hbl=>
         rw[e1]at hg; injection hg with hg g2 g3; injection hg with hg; injection hg with hg; subst hg
         rw[setRow_heap w b cur _ e _ e2]at hbm
         injection hbm with hbm; injection hbm with hbm
         subst hbm
         obtain⟨hne,hx'⟩:=hB i' j' xm hi' hx hy
         have hjs:j' < s':=by rw[←hA.len i' hi']; exact(List.getElem?_eq_some_iff.1 hx').1
         rw[hcs,if_neg (fun e=>hne (mul_inj hjs (by omega) e))]at hvm
         exact .arm e1 e2 hi' hx' hy hvm hbl
    ·cases h
   ·cases h
  | _=>simp at h
theorem stepM_ok{I:Inf}(hI:TIok P I.ti)(hn:E.N=I.N)(hnt:E.nt=I.nt)(r:RelG E F g st a w)(o:Oper){st':St}{C:Prop}(h:stepM I st o=some (st',C))(hC:C):
  ∃ n v w',(execOp a.eval o).run P w = .ok n w'∧(n = .value v∨(n = .skip∧v=undef))∧Rel E st' (a.put o.dst v) w':=by
 unfold stepM at h
 split at h
 ·rename_i e d hop hd
  split at h
  ·rename_i i hi
   split at h
   ·rename_i st1 hst
    cases h
    obtain⟨v,w',h1,h2⟩:=alloc_ok hI hn hnt r hi hst
    exact⟨_,v,w',by unfold execOp; simp[hop,h1],.inl rfl,by rw[hd]; exact h2⟩
   ·cases h
  ·cases h
 ·rename_i e x d hop hd
  split at h
  ·rename_i p hp
   split at h
   ·rename_i hm
    split at h
    ·rename_i st1 hst
     cases h
     obtain⟨v,w',h1,h2⟩:=box_ok (P:=P) hn hnt r (e:=e) (ev_ok r hp) hm hst
     exact⟨_,v,w',by unfold execOp; simp[hop,h1],.inl rfl,by rw[hd]; exact h2⟩
    ·cases h
   ·cases h
  ·cases h
 ·rename_i t len parts d hop hd
  split at h
  ·rename_i i ps hi hps
   split at h
   ·rename_i e hu
    split at h
    ·rename_i j hj
     split at h
     ·rename_i c h1 h2 h3 h4
      split at h
      ·rename_i ts h5 h6
       split at h
       ·rename_i st1 hst
        cases h
        have hd':=(hI _ _ hi).und
        rw[hu]at hd'
        obtain⟨v,w',h7,h8⟩:=buildSlice_ok hn hnt r hd' (hI _ _ hj) hps (Nat.le_of_ble_eq_true h1) (Nat.le_of_ble_eq_true h2) (Nat.eq_of_beq_eq_true h3) h4 (.of h5) (Nat.eq_of_beq_eq_true h6) hst
        exact⟨_,v,w',by unfold execOp; simp[hop,h7],.inl rfl,by rw[hd]; exact h8⟩
       ·cases h
      ·cases h
     ·cases h
    ·cases h
   ·cases h
  ·cases h
 ·rename_i t y x d hop
  split at h
  ·rename_i i p q hi hp hq
   obtain⟨hd,w',h1,h2⟩:=storeP_ok (P:=P) r (hI _ _ hi) h hC (ev_ok r hp) (ev_ok r hq)
   refine⟨.skip,undef,w',by unfold execOp; simp[hop,h1],.inr ⟨rfl,rfl⟩,?_⟩
   rw[hd]
   exact⟨F,g,h2⟩
  ·cases h
 ·rename_i t d hop hd
  split at h
  ·rename_i i hi
   split at h
   ·rename_i kt et hu
    split at h
    ·rename_i ik hik
     split at h
     ·rename_i st1 hst
      cases h
      have hrun:(Instr.makeMap t none).run P w = .ok (.map (some w.heap.size)) (w.alloc (.map #[] 0)):=rfl
      refine⟨_,.map (some w.heap.size),w.alloc (.map #[] 0),by unfold execOp; simp[hop,hrun],.inl rfl,by
       rw[hd]
       exact newP_ok hn hnt r hst (ob:=.map #[] 0) rfl rfl rfl rfl rfl (fun g' hg1 hg2=>⟨w.heap.size,#[],0,hg2,heap_alloc_new w _,rfl,by simp,by simp⟩) (fun g' hg=>.map hg)⟩
     ·cases h
    ·cases h
   ·cases h
  ·cases h
 ·rename_i t x k v hop hd
  split at h
  ·rename_i p q b hp hq hb
   split at h
   ·rename_i n m o' ks hm
    cases h
    obtain⟨w',h1,h2⟩:=mapUpdate_ok (bb:=b) hI r hm (ev_ok r hp) (ev_ok r hq)
    have hv:=(ev_ok r hb).inv_bool
    rw[←hv]at h1
    refine⟨.skip,undef,w',by unfold execOp; simp[hop,h1],.inr ⟨rfl,rfl⟩,?_⟩
    rw[hd]
    exact⟨F,g,h2⟩
   ·cases h
  ·cases h
 ·rename_i c d hop hd
  obtain⟨cal,args,ats⟩:=c
  simp only at h
  split at h
  ·rename_i s x t t' ha ht
   have ha':args=#[s,x]:=by rw[←Array.toArray_toList (xs:=args),ha]
   have ht':ats=#[t,t']:=by rw[←Array.toArray_toList (xs:=ats),ht]
   subst ha'; subst ht'
   split at h
   ·rename_i i p q h1 hi hp hq
    have h1:=Nat.eq_of_beq_eq_true h1
    subst h1
    split at h
    ·rename_i e m f2 s2 hu hq'
     have hd':=(hI _ _ hi).und
     rw[hu]at hd'
     split at h
     ·rename_i j hj
      split at h
      ·rename_i h2 h3 h4 h5
       have h2:=Nat.le_of_ble_eq_true h2
       have h3:=Nat.le_of_ble_eq_true h3
       have h5:=Nat.eq_of_beq_eq_true h5
       split at h
       ·split at h
        ·rename_i st1 hst
         cases h
         obtain⟨hC1,hC2⟩:=hC
         obtain⟨news,hs⟩:=appArg_ok r (ev_ok r hq) hq' h2 h4 hC2
         have hv:=ev_ok r hp
         obtain⟨u,hu'⟩:∃ u,a.eval s=u:=⟨_,rfl⟩
         rw[hu']at hv
         cases hv with
         | nil=>
          obtain⟨v,w',h7,h8⟩:=append_nil_ok (P:=P) hn hnt r hd' (hI _ _ hj) o.type h3 h5 hs (by simpa using hC1) hst
          exact⟨_,v,w',by unfold execOp; simp[hop,resolve,invoke,builtin,hu',h7],.inl rfl,by rw[hd]; exact h8⟩
        ·cases h
       ·rename_i o'
        split at h
        ·rename_i e' s' n f1 st1 hl he
         split at h
         ·rename_i st2 h6 h7 hst
          have h6:=Nat.eq_of_beq_eq_true h6
          have h7:=Nat.eq_of_beq_eq_true h7
          subst h6; subst h7
          cases h
          obtain⟨hC1,hC2⟩:=hC
          obtain⟨news,hs⟩:=appArg_ok r (ev_ok r hq) hq' h2 h4 hC2
          obtain⟨v,w',h8,h9⟩:=append_own_ok (P:=P) hn hnt r hd' (hI _ _ hj) o.type h3 h5 (ev_ok r hp) hs hC1 hl (.of he) hst
          exact⟨_,v,w',by unfold execOp; simp[hop,resolve,invoke,builtin,h8],.inl rfl,by rw[hd]; exact h9⟩
         ·cases h
        ·cases h
       ·cases h
      ·cases h
     ·cases h
    ·cases h
   ·cases h
  ·cases h
 ·cases h
end
end Go.PL
namespace Go.PL
open Go Go.Lib
section
variable {P:Program} {E:Env} {F:Nat→Prop} {g:Nat→Value} {st:St} {a:Act} {w:World}
theorem run_append_grow_string0(w:World)(t u ty e:TypeId)(i:TypeInfo)(z:Value)(ht:P.underlying t=some (.slice e))(hu:P.underlying u=some .string)(hi:P.info? e=some i)(hz:i.zero=some z)
  (s:ByteArray)(h0:0<s.size)(h63:(s.size:Int)≤9223372036854775807)(h48:s.size*i.bytes≤281474976710656):
  (Builtin.append_ #[t,u] ty #[.slice none 0 0,.string s]).run P w =
   .ok (.slice (some ⟨w.heap.size,0,none⟩) s.size (grownCap w s.size 0 e)) (w.drew.alloc (.cells ((strCells s).toArray++Builtin.zeroCells z.cells (grownCap w s.size 0 e-s.size)) e)):=by
 rw[run_append_nil_string w t u ty e i z ht hu hi hz s h0 h63 h48]
 have:s.data.map (fun b=>Value.int .u8 b.toNat)=(strCells s).toArray:=by apply Array.ext'; simp[strCells]
 rw[this]
theorem append_strnil_ok{I:Inf}(hn:E.N=I.N)(hnt:E.nt=I.nt)(r:RelG E F g st a w){t tx e:TypeId}{j:TInf}(hd:P.underlying t=some (.slice e))(htx:P.underlying tx=some .string)(hj:TOk P e j)(hs1:j.size=1)(ty:TypeId){d m:Nat}
  (hb:1≤j.bytes)(hz:j.zero.length=j.size){f:Nat→List T}{s:ByteArray}(hm0:s.size=m)(hs:RowR F w j.size m f ((strCells s)[·]?))(hC:m*j.bytes≤140737488355328){st':St}
  (h:newP I st d (.arr e j.size m f) (.own d)=some st'):∃ u w',(Builtin.append_ #[t,tx] ty #[.slice none 0 0,.string s]).run P w = .ok u w'∧Rel E st' (a.put (some d) u) w':=by
 obtain⟨info,z,hi1,hi2,hi3,_⟩:=zero_ok (F:=F) (g:=g) (w:=w) hj
 obtain⟨info',hi1',hi4,hi5,_⟩:=hj.info
 rw[hi1]at hi1'; cases hi1'
 have hm63:m≤140737488355328:=Nat.le_trans (Nat.le_mul_of_pos_right m hb) hC
 have hsl:(strCells s).length=m*j.size:=by rw[strCells_length,hs1,hm0,Nat.mul_one]
 have hzero:m=0→(Builtin.append_ #[t,tx] ty #[.slice none 0 0,.string s]).run P w = .ok (.slice none 0 0) w:=by
  intro hm
  have hs0:s.size=0:=by omega
  simp[Builtin.append_,run_underlying hd,run_underlying htx,sizeOf,typeInfo,hi1,Builtin.lenOf,hs0,Builtin.firstCells]
 by_cases hm:m=0
 ·refine⟨.slice none 0 0,w,hzero hm,?_⟩
  ·
   unfold newP at h
   split at h
   ·rename_i st1 h1 h2 h3
    cases h
    have hd':d<E.nt:=by rw[hnt]; simpa[Nat.blt_eq] using h1
    refine⟨F,upd g d (.slice none 0 0),r.putW hd' (fun b hb=>⟨hb,rfl⟩) (fun t y hy=>?_) ?_ (.own (upd_same ..))⟩
    ·obtain⟨e1,e2⟩:=St.erase_fr h3 t y hy
     exact⟨e1,fun o ho=>upd_other g _ (e2 o ho)⟩
    ·refine⟨HpR.change r.w.hp h3 (fun o ho=>upd_other g _ ho) (fun b hb=>⟨hb,rfl⟩) (fun _ h=>h) (fun _ _ _ _ _ _=>rfl) (.inl ⟨upd_same ..,hm⟩)
      (fun b hb=>by have hb:=hb.toBlk rfl; rw[upd_same]at hb; simp[blk]at hb) (fun o y b _ _ _ hb=>by have hb:=hb.toBlk rfl; rw[upd_same]at hb; simp[blk]at hb),r.w.f0,r.w.f1,r.w.ext,fun o ho=>?_,r.w.b0⟩
     rw[upd_other g _ (fun e:o=d=>nmem_ok h2 (hn▸e▸ho))]
     exact r.w.names o ho
   ·cases h
 ·have hr:=run_append_grow_string0 (P:=P) w t tx ty e info z hd htx hi1 hi2 s (by omega) (by omega) (by rw[hi5]; rw[hm0]; omega)
  rw[hm0]at hr
  refine⟨_,_,hr,newP_ok hn hnt r h rfl rfl rfl rfl rfl (fun g' _ hv=>?_) (fun g' hv=>.own hv)⟩
  have hcap:=grownCap_ge w m 0 e
  have hcapm:=grownCap_le_maxLen w m 0 e (by simp only[maxLen]; omega)
  have hrow:RowR F (w.drew.alloc (.cells ((strCells s).toArray++Builtin.zeroCells z.cells (grownCap w m 0 e-m)) e)) j.size m f (((strCells s).toArray++Builtin.zeroCells z.cells (grownCap w m 0 e-m))[·]?):=
   hs.mono (fun b hb=>⟨hb,heap_alloc_old w.drew _ (r.w.f1 b hb).1⟩) (fun k hk=>by
    rw[Array.getElem?_append_left (by simp; rw[hsl]; exact hk)]; simp)
  refine hrow.obj hv (heap_alloc_new w.drew _) hcap hcapm ?_
  simp only[Array.size_append,List.size_toArray,hsl,size_zeroCells,hi3,hz,←Nat.add_mul]
  congr 1; omega
theorem append_strown_ok{I:Inf}(hn:E.N=I.N)(hnt:E.nt=I.nt)(r:RelG E F g st a w){t tx e:TypeId}{j:TInf}(hd:P.underlying t=some (.slice e))(htx:P.underlying tx=some .string)(hj:TOk P e j)(hs1:j.size=1)(ty:TypeId){d m n o:Nat}
  (hb:1≤j.bytes)(hz:j.zero.length=j.size){f1 f:Nat→List T}{s0:Value}(hv:VR F g w (.own o) s0){s:ByteArray}(hm0:s.size=m)(hs:RowR F w j.size m f ((strCells s)[·]?))
  (hC:(n+m)*j.bytes≤140737488355328){st1 st':St}(hl:look st.hp o=some (.arr e j.size n f1))(he:Less o st st1)
  (h:newP I st1 d (.arr e j.size (n+m) (appF n f1 f)) (.own d)=some st'):∃ u w',(Builtin.append_ #[t,tx] ty #[s0,.string s]).run P w = .ok u w'∧Rel E st' (a.put (some d) u) w':=by
 obtain⟨info,z,hi1,hi2,hi3,_⟩:=zero_ok (F:=F) (g:=g) (w:=w) hj
 obtain⟨info',hi1',hi4,hi5,_⟩:=hj.info
 rw[hi1]at hi1'; cases hi1'
 have hm63:n+m≤140737488355328:=Nat.le_trans (Nat.le_mul_of_pos_right (n+m) hb) hC
 have hsl:(strCells s).length=m*j.size:=by rw[strCells_length,hs1,hm0,Nat.mul_one]
 have hlm:=look_mem hl
 have hob:=r.w.hp.obj _ _ hlm
 have r1:RelG E F g st1 a w:=⟨r.nt,r.df,fun t y hy=>r.fr t y (he.fr t y hy),⟨⟨fun k y hy=>by
   obtain⟨x,h1,_,h4,_⟩:=he.hp k y hy; exact h4 _ _ _ (r.w.hp.obj k x h1),fun k y b hy hb=>by
   obtain⟨x,h1,_,_,h5⟩:=he.hp k y hy; exact r.w.hp.own k x b h1 (h5 _ _ _ hb),fun k y k' y' b hy hy' hne hb hb'=>by
   obtain⟨x,h1,_,_,h5⟩:=he.hp k y hy; obtain⟨x',h1',_,_,h5'⟩:=he.hp k' y' hy'; exact r.w.hp.sep k x k' x' b h1 h1' hne (h5 _ _ _ hb) (h5' _ _ _ hb')⟩,
   r.w.f0,r.w.f1,r.w.ext,r.w.names,r.w.b0⟩⟩
 cases hv with
 | own hg=>
  rcases hob with⟨h1,h2⟩ | ⟨b,cap,cur,h1,h2,h3,h4,h5,h6,h7⟩
  ·rw[h1]at hg; cases hg; subst h2
   have hf:newP I st1 d (.arr e j.size m (appF 0 f1 f)) (.own d)=some st':=by rw[Nat.zero_add]at h; exact h
   have hs':RowR F w j.size m (appF 0 f1 f) ((strCells s)[·]?):=by
    have:appF 0 f1 f=f:=by funext i; simp[appF]
    rw[this]; exact hs
   exact append_strnil_ok hn hnt r1 hd htx hj hs1 ty hb hz hm0 hs' (by simpa using hC) hf
  ·rw[h1]at hg; injection hg with e1 e2 e3; subst e1; subst e2; subst e3
   have old:RowR F w j.size n f1 (cur[·]?):=⟨h6,h7⟩
   have hFb:¬ F b:=(r.w.hp.own o _ b hlm (.self (by rw[h1]; rfl))).1
   have hBb:=(r.w.hp.own o _ b hlm (.self (by rw[h1]; rfl))).2
   have hblt:b<w.heap.size:=(Array.getElem?_eq_some_iff.1 h2).1
   by_cases hroom:n+m≤cap
   ·
    have hfit:n*j.size+(strCells s).length≤cur.size:=by rw[hsl,h5,←Nat.add_mul]; exact Nat.mul_le_mul_right _ hroom
    have hrun:(Builtin.append_ #[t,tx] ty #[.slice (some ⟨b,0,none⟩) n cap,.string s]).run P w =
      .ok (.slice (some ⟨b,0,none⟩) (n+m) cap) (w.setRow b (cur.toList.take (n*j.size)++strCells s++cur.toList.drop (n*j.size+(strCells s).length)).toArray):=by
     have:=run_append_room_string (P:=P) w t tx ty e info hd htx hi1 (by rw[hi4]; exact hs1) b n cap cur h2 s (by omega) (by rw[hs1]at h5; omega)
     rw[hm0]at this
     rw[hs1,Nat.mul_one,strCells_length,hm0]
     exact this
    have hoth:∀ k,k≠b→(w.setRow b (cur.toList.take (n*j.size)++strCells s++cur.toList.drop (n*j.size+(strCells s).length)).toArray).heap[k]? = w.heap[k]?:=fun k hk=>setRow_other w b k _ hk
    have hFo:∀ k,F k→F k∧(w.setRow b (cur.toList.take (n*j.size)++strCells s++cur.toList.drop (n*j.size+(strCells s).length)).toArray).heap[k]? = w.heap[k]?:=
     fun k hk=>⟨hk,hoth k (fun e=>hFb (e▸hk))⟩
    refine⟨_,_,hrun,?_⟩
    unfold newP at h
    split at h
    ·rename_i st2 g1 g2 g3
     cases h
     have hd':d<E.nt:=by rw[hnt]; simpa[Nat.blt_eq] using g1
     refine⟨F,upd g d (.slice (some ⟨b,0,none⟩) (n+m) cap),r1.putW hd' hFo (fun t y hy=>?_) ?_ (.own (upd_same ..))⟩
     ·obtain⟨e1,e2⟩:=St.erase_fr g3 t y hy
      exact⟨e1,fun o ho=>upd_other g _ (e2 o ho)⟩
     ·have hne:∀ k y,(k,y)∈st1.hp→k≠o:=fun k y hy=>by obtain⟨_,_,h',_⟩:=he.hp k y hy; exact h'
      have hdis:∀ k y b',(k,y)∈st1.hp→Foot g w k y b'→b'≠b:=by
       intro k y b' hy hb' heq
       subst heq
       obtain⟨x,hx1,hx2,_,hx5⟩:=he.hp k y hy
       exact r.w.hp.sep k x o _ b' hx1 hlm hx2 (hx5 _ _ _ hb') (.self (by rw[h1]; rfl))
      refine⟨HpR.change r1.w.hp g3 (fun o ho=>upd_other g _ ho) hFo (fun _ h=>h) (fun k y b' hk _ hb'=>hoth b' (hdis k y b' hk hb')) ?_
       (fun b' hb'=>?_) (fun k y b' hk _ hb' hb''=>?_),r.w.f0,fun k hk=>⟨by simpa using (r.w.f1 k hk).1,(r.w.f1 k hk).2⟩,
       r.w.ext.trans rfl rfl rfl (by simp) (fun k hk hB=>hoth k (fun e=>?_)),fun k hk=>?_,r.w.b0⟩
      ·refine RowR.obj (b:=b) (cap:=cap) (cur:=(cur.toList.take (n*j.size)++strCells s++cur.toList.drop (n*j.size+(strCells s).length)).toArray) ?_ (upd_same ..) (setRow_heap w b cur _ e _ h2) hroom h4 ?_
       ·refine RowR.app (old.mono hFo (fun _ _=>rfl)) (hs.mono hFo (fun _ _=>rfl)) (fun k hk=>?_) (fun k hk=>?_)
        ·have hk':k<cur.size:=by omega
         simp only[List.getElem?_toArray,List.append_assoc]
         rw[List.getElem?_append_left (by simp; omega),List.getElem?_take,if_pos hk]
         simp
        ·have hln:=hsl
         simp only[List.getElem?_toArray,List.append_assoc]
         rw[List.getElem?_append_right (by simp; omega)]
         simp only[List.length_take,Array.length_toList]
         rw[show n*j.size+k-min (n*j.size) cur.size=k by omega,List.getElem?_append_left (by omega)]
       ·simp only[List.size_toArray,List.length_append,List.length_take,List.length_drop,Array.length_toList]
        omega
      ·have hb':=hb'.toBlk rfl; rw[upd_same]at hb'; simp[blk]at hb'; subst hb'
       exact⟨hFb,hBb⟩
      ·have hb'':=hb''.toBlk rfl; rw[upd_same]at hb''; simp[blk]at hb''; subst hb''
       exact hdis k y _ hk hb' rfl
      ·subst e
       rcases hBb with hB' | hB'
       ·exact hB hB'
       ·omega
      ·rw[upd_other g _ (fun e:k=d=>nmem_ok g2 (hn▸e▸hk))]
       exact r.w.names k hk
    ·cases h
   ·
    ·have hol:(cur.toList.take (n*j.size)).length=n*info.size:=by
      rw[hi4]; simp only[List.length_take,Array.length_toList,h5]
      exact Nat.min_eq_left (Nat.mul_le_mul_right _ h3)
     have hr:=run_append_grow_string (P:=P) w t tx ty e info z hd htx hi1 hi2 ⟨b,0,none⟩ n cap (cur.toList.take (n*j.size)) hol (fun k u hu=>by
      rw[Addr.add_none,Nat.zero_add]
      rw[List.getElem?_take]at hu
      split at hu
      ·simpa[World.cell?,h2] using hu
      ·cases hu) s (by omega) (by omega) (growslice_fits (by omega) (by rw[hi5,hm0]; exact hC))
     rw[hm0]at hr
     refine⟨_,_,hr,newP_ok hn hnt r1 h rfl rfl rfl rfl rfl (fun g' _ hv=>?_) (fun g' hv=>.own hv)⟩
     have hcap:=grownCap_ge w (n+m) cap e
     have hcapm:=grownCap_le_maxLen w (n+m) cap e (by simp only[maxLen]; omega)
     have hlen1:(cur.toList.take (n*j.size)).length=n*j.size:=by rw[hol,hi4]
     refine RowR.obj ?_ hv (heap_alloc_new w.drew _) hcap hcapm ?_
     ·have hFF:∀ b',F b'→F b'∧(w.drew.alloc (.cells ((cur.toList.take (n*j.size)).toArray++(strCells s).toArray++Builtin.zeroCells z.cells (grownCap w (n+m) cap e-(n+m))) e)).heap[b']? = w.heap[b']?:=
       fun b' hb'=>⟨hb',heap_alloc_old w.drew _ (r.w.f1 b' hb').1⟩
      refine RowR.app (old.mono hFF (fun _ _=>rfl)) (hs.mono hFF (fun _ _=>rfl)) (fun k hk=>?_) (fun k hk=>?_)
      ·have hk':k<cur.size:=by rw[h5]; exact Nat.lt_of_lt_of_le hk (Nat.mul_le_mul_right _ h3)
       rw[Array.append_assoc,Array.getElem?_append_left (by simp; omega)]
       simp only[List.getElem?_toArray,List.getElem?_take,if_pos hk]
       simp
      ·have hln:=hsl
       rw[Array.append_assoc,Array.getElem?_append_right (by simp; omega)]
       simp only[List.size_toArray,hlen1]
       rw[show n*j.size+k-n*j.size=k by omega,Array.getElem?_append_left (by simp; omega)]
       simp
     ·simp only[Array.size_append,List.size_toArray,hlen1,hsl,size_zeroCells,hi3,hz,←Nat.add_mul]
      congr 1; omega
end
end Go.PL
namespace Go.PL
open Go
def All:List Prop→Prop
 | []=>True
 | [p]=>p
 | p::l=>p∧All l
theorem All.cons{p:Prop}{l:List Prop}:All (p::l)↔p∧All l:=by
 cases l with
 | nil=>simp[All]
 | cons q l=>simp[All]
theorem All.append{l r:List Prop}:All (l++r)↔All l∧All r:=by
 induction l with
 | nil=>simp[All]
 | cons p l ih=>simp only[List.cons_append,All.cons,ih,and_assoc]
def isC(st:St):Op→Bool
 | .load _ a=>match ev st a with | some (.aptr ..)=>true | _=>false
 | .store _ a _=>match ev st a with | some (.aptr ..)=>true | _=>false
 | .binOp .quo _ _ _ _=>true
 | .binOp .rem _ _ _ _=>true
 | .binOp .shl _ _ _ _=>true
 | .binOp .shr _ _ _ _=>true
 | .binOp .add _ x _ _=>match ev st x with | some (.t (.str _))=>true | _=>false
 | .indexAddr ..=>true
 | .index ..=>true
 | .slice ..=>true
 | .convert _ _ x=>match ev st x with | some (.t (.int ..))=>false | _=>true
 | .call c=>match c.callee with | .builtin .append=>true | _=>false
 | .entry _=>true
 | _=>false
def condOf(b:Bool)(C:Prop):List Prop:=match b with | true=>[C] | false=>[]
def wantedP(ops:List Oper)(o:Oper)(st:St):Option Bool:=
 match o.guard with
 | none=>some true
 | some (j,b)=>match ops[j]? with
  | some oj=>match oj.dst with
   | some d=>match look st.fr d,b with
    | some (.t (.bool true)),true=>some true
    | some (.t (.bool false)),false=>some true
    | some (.t (.bool true)),false=>some false
    | some (.t (.bool false)),true=>some false
    | some (.tup []),_=>some false
    | _,_=>none
   | none=>none
  | none=>none
def step1(I:Inf)(ops:List Oper)(o:Oper)(st:St):Option (St×List Prop):=
 match wantedP ops o st with
 | some true=>match o.op with
  | .store ..=>match stepM I st o with | some (st',C)=>some (st',condOf (isC st o.op) C) | none=>none
  | .alloc ..=>match stepM I st o with | some (st',C)=>some (st',condOf (isC st o.op) C) | none=>none
  | .box ..=>match stepM I st o with | some (st',C)=>some (st',condOf (isC st o.op) C) | none=>none
  | .buildSlice ..=>match stepM I st o with | some (st',C)=>some (st',condOf (isC st o.op) C) | none=>none
  | .makeMap ..=>match stepM I st o with | some (st',C)=>some (st',condOf (isC st o.op) C) | none=>none
  | .mapUpdate ..=>match stepM I st o with | some (st',C)=>some (st',condOf (isC st o.op) C) | none=>none
  | .call { callee:=.builtin .append,.. }=>match stepM I st o with | some (st',C)=>some (st',condOf (isC st o.op) C) | none=>none
  | op=>match pev I st op,o.dst with
   | some (x,C),some d=>match Nat.blt d I.nt with | true=>some (st.put d x,condOf (isC st op) C) | false=>none
   | _,_=>none
 | some false=>match o.dst with
  | some d=>match Nat.blt d I.nt with | true=>some (st.put d (.tup []),[]) | false=>none
  | none=>some (st,[])
 | none=>none
def prun(I:Inf)(ops:List Oper):List Oper→St→Option (St×List Prop)
 | [],st=>some (st,[])
 | o::l,st=>match step1 I ops o st with
  | some (st1,C)=>match prun I ops l st1 with
   | some (st2,C2)=>some (st2,C++C2)
   | none=>none
  | none=>none
def keepL{α:Type}(l:List (Nat×α)):List Nat→Option (List (Nat×α))
 | []=>some []
 | t::ts=>match look l t,keepL l ts with
  | some x,some r=>some ((t,x)::r)
  | _,_=>none
theorem keepL_mem{α:Type}{l:List (Nat×α)}:∀ {ts:List Nat} {r:List (Nat×α)},keepL l ts=some r→∀ e,e∈r→e∈l
 | [],r,h=>by simp[keepL]at h; subst h; simp
 | t::ts,r,h=>by
  simp only[keepL]at h
  split at h
  ·rename_i x r' hx hr
   cases h
   intro e he
   rcases List.mem_cons.1 he with rfl | he
   ·exact look_mem hx
   ·exact keepL_mem hr e he
  ·cases h
def St.keep(ts os:List Nat)(st:St):Option St:=
 match keepL st.fr ts,keepL st.hp os with
 | some f,some h=>some ⟨f,h⟩
 | _,_=>none
section
variable {P:Program} {E:Env}
theorem HpR.sub{F:Nat→Prop}{g:Nat→Value}{w:World}{B:Nat→Prop}{H H':Hp}(h:HpR F g w B H)(hs:∀ e,e∈H'→e∈H):HpR F g w B H':=
 ⟨fun o x hx=>h.obj o x (hs _ hx),fun o x b hx=>h.own o x b (hs _ hx),fun o x o' y b hx hy=>h.sep o x o' y b (hs _ hx) (hs _ hy)⟩
theorem Rel.sub{st st':St}{a:Act}{w:World}(r:Rel E st a w)(hf:∀ e,e∈st'.fr→e∈st.fr)(hh:∀ e,e∈st'.hp→e∈st.hp):Rel E st' a w:=by
 obtain⟨F,g,r⟩:=r
 exact⟨F,g,r.nt,r.df,fun t x hx=>r.fr t x (hf _ hx),⟨r.w.hp.sub hh,r.w.f0,r.w.f1,r.w.ext,r.w.names,r.w.b0⟩⟩
theorem Rel.keep{st st':St}{ts os:List Nat}(h:st.keep ts os=some st'){a:Act}{w:World}(r:Rel E st a w):Rel E st' a w:=by
 unfold St.keep at h
 split at h
 ·rename_i f hp h1 h2
  cases h
  exact r.sub (keepL_mem h1) (keepL_mem h2)
 ·cases h
theorem look_val{F:Nat→Prop}{g:Nat→Value}{st:St}{a:Act}{w:World}(r:RelG E F g st a w){d:Nat}{x:PV}(h:look st.fr d=some x):VR F g w x (a.tmps.getD d undef):=r.fr d x (look_mem h)
theorem wantedP_ok{st:St}{a:Act}{w:World}{F:Nat→Prop}{g:Nat→Value}(r:RelG E F g st a w){ops:Array Oper}{o:Oper}{b:Bool}(h:wantedP ops.toList o st=some b):
  Region.wanted o (yielded ops a.tmps)=b:=by
 unfold wantedP at h
 unfold Region.wanted
 split at h
 ·rename_i hg; rw[hg]; cases h; rfl
 ·rename_i j want hg
  rw[hg]
  split at h
  ·rename_i oj hj
   split at h
   ·rename_i d hd
    have hy:∀ v,a.tmps.getD d undef=v→(∀ x,v ≠ .bool x→yielded ops a.tmps j≠some x)∧(∀ x,v = .bool x→yielded ops a.tmps j=some x):=by
     intro v hv
     have hj':ops[j]? = some oj:=by simpa using hj
     unfold yielded
     rw[hj']
     simp only[Option.bind_some,hd]
     by_cases hlt:d<a.tmps.size
     ·simp[hlt]at hv
      simp only[Array.getElem?_eq_getElem hlt,hv]
      refine⟨fun x hx=>?_,fun x hx=>by rw[hx]⟩
      split
      ·rename_i y hy; cases hy; exact fun e=>hx (by injection e with e; rw[e])
      ·simp
     ·simp[hlt]at hv
      rw[Array.getElem?_eq_none (Nat.le_of_not_lt hlt)]
      subst hv
      exact⟨fun x _=>by simp,fun x hx=>by simp[undef]at hx⟩
    split at h
    all_goals first
     | (rename_i hl
        cases h
        first
         | (have hv:=(look_val r hl).inv_bool
            have:=(hy _ hv).2 _ rfl
            simp[this])
         | (have hv:=look_val r hl
            generalize hu:a.tmps.getD d undef=u at hv
            cases hv with
            | tup hs hr=>
             have h1:=fun y=>(hy _ hu).1 y (by simp)
             simp[h1]))
     | cases h
   ·cases h
  ·cases h
theorem isC_ok{I:Inf}{st:St}{op:Op}{x:PV}{C:Prop}(h:pev I st op=some (x,C))(hc:isC st op=false):C:=by
 have htr:∀ {y:Option PV},tr y=some (x,C)→C:=by
  intro y hy; unfold tr at hy; split at hy <;> cases hy; trivial
 cases op <;> simp only[pev]at h
 all_goals try (exact htr h)
 all_goals try (cases h; done)
 case pick=>split at h <;> first | exact htr h | cases h
 case load t a=>
  split at h
  ·rename_i i p hi hp
   simp only[isC,hp]at hc
   cases p <;> simp only[loadP]at h
   case aptr=>simp at hc
   all_goals first
    | (split at h
       ·split at h
        ·cases h; trivial
        ·cases h
       ·cases h)
    | (split at h
       ·cases h; trivial
       ·cases h)
    | cases h
  ·cases h
 case nilCheck=>split at h <;> first | (cases h; trivial) | cases h
 case binOp op t y z u=>
  split at h
  ·unfold ifcP at h; split at h <;> cases h <;> trivial
  ·unfold ptrP at h
   split at h
   ·split at h
    ·split at h
     ·split at h <;> cases h <;> trivial
     ·split at h
      ·split at h <;> cases h <;> trivial
      ·cases h
     ·cases h
    ·cases h
   ·cases h
  ·rename_i i p q _ _ hi hp hq
   unfold binP at h
   split at h
   ·split at h
    ·rename_i hsh; cases op <;> simp[isSh,isC]at hsh hc
    split at h
    ·cases op <;> simp[intOp,isC]at h hc
     all_goals (obtain⟨_,h⟩:=h; exact h)
    ·cases h
   ·unfold nilOp at h; split at h <;> cases h <;> trivial
   ·unfold nilOp at h; split at h <;> cases h <;> trivial
   ·cases op <;> simp[strOp,isC,hp]at h hc
    all_goals (obtain⟨_,h⟩:=h; exact h)
   ·unfold aggOp at h
    split at h
    ·split at h
     ·split at h
      ·cases h; trivial
      ·cases h; trivial
      ·cases h
     ·cases h
    split at h
    ·split at h
     ·split at h
      ·cases h; trivial
      ·cases h; trivial
      ·cases h
     ·cases h
    ·cases h
   ·split at h
    ·cases op <;> simp[boolOp]at h
     all_goals (obtain⟨_,h⟩:=h; exact h)
    ·cases h
   ·cases h
  ·cases h
 case unOp=>split at h <;> first | (unfold unP at h; split at h <;> first | (cases h; trivial) | cases h) | cases h
 case convert s d y=>
  split at h
  ·rename_i hp
   split at h
   ·cases h; trivial
   ·cases h
  ·rename_i i j p hne hi hj hp
   exfalso
   have key:∀ q,ev st y=q→isC st (.convert s d y)=false→∃ k n,q=some (.t (.int k n)):=by
    intro q hq hc
    simp only[isC,hq]at hc
    split at hc
    ·exact⟨_,_,rfl⟩
    ·cases hc
   obtain⟨k,n,hk⟩:=key _ hp hc
   cases hk
   exact hne _ _ rfl
  ·cases h
 case makeFunc=>split at h <;> first | (cases h; trivial) | cases h
 case fieldAddr=>split at h <;> first | (split at h <;> first | (split at h <;> first | (cases h; trivial) | cases h) | cases h) | cases h
 case field=>
  split at h <;> first | (split at h <;> first | (split at h <;> first | (split at h <;> first | (split at h <;> first | exact htr h | cases h) | cases h) | cases h) | cases h) | cases h
 case extract=>split at h <;> first | exact htr h | cases h
 case indexAddr=>simp[isC]at hc
 case index=>simp[isC]at hc
 case lookup t x k ok=>
  cases ok
  ·simp at h
  ·simp only at h
   split at h
   ·split at h
    ·cases h; trivial
    ·cases h
   ·cases h
 case slice=>simp[isC]at hc
 case entry=>simp[isC]at hc
 case call c=>
  unfold callP at h
  split at h <;> first | (split at h <;> first | exact htr h | (split at h <;> first | (cases h; trivial) | cases h) | cases h) | cases h
end
abbrev Post:=Exit→St→Prop
def lift(E:Env)(Q:Post):Exit→Act→World→Prop:=fun e a w=>∃ st,Q e st∧Rel E st a w
def pwp(P:Program)(E:Env)(c:Code)(Q:Post)(st:St):Prop:=∀ a w,Rel E st a w→c.wp P (lift E Q) a w
def pops(P:Program)(E:Env)(ops:List Oper)(Q:Post)(l:List Oper)(st:St):Prop:=∀ a w,Rel E st a w→wpList P ops.toArray (lift E Q) l a w
def glName:String := "internal/strconv.uint64pow10"
def GLP(P:Program)(F:Nat→Prop)(w:World):Prop:=∀ b,P.globalNamed glName=some b→Lib.TabIs P w glName .u64 Lib.pow10Tab∧F b
theorem GLP.mono{P:Program}{F F':Nat→Prop}{w w':World}(h:GLP P F w)(hF:∀ b,F b→F' b∧w'.heap[b]? = w.heap[b]?):GLP P F' w':=by
 intro b hb
 obtain⟨h1,h2⟩:=h b hb
 refine⟨?_,(hF b h2).1⟩
 unfold Lib.TabIs World.var? at h1 ⊢
 rw[hb]at h1 ⊢
 simp only[Option.bind_some]at h1 ⊢
 rw[(hF b h2).2]
 exact h1
structure Good (P:Program)(E:Env)(I:Inf):Prop where
 ti:TIok P I.ti
 N:E.N=I.N
 nt:E.nt=I.nt
 gl:GLP P E.F0 E.w0
 sep:∀ b,E.F0 b→¬ E.B0 b∧b<E.w0.heap.size
theorem Good.glw{P:Program}{E:Env}{I:Inf}(hG:Good P E I){F:Nat→Prop}{g:Nat→Value}{H:Hp}{w:World}(r:RelW E F g H w):GLP P F w:=
 hG.gl.mono fun b hb=>⟨r.f0 b hb,r.ext.block b (hG.sep b hb).2 (hG.sep b hb).1⟩
section
variable {P:Program} {E:Env} {I:Inf} {Q:Post} {st st':St}
theorem step1_op(hG:Good P E I){ops:Array Oper}{o:Oper}{Cs:List Prop}(h:step1 I ops.toList o st=some (st',Cs))(hC:All Cs){a:Act}{w:World}(r:Rel E st a w){Q':Exit→Act→World→Prop}
  {K:Act→World→Prop}(hk:∀ a' w',Rel E st' a' w'→K a' w'):if Region.wanted o (yielded ops a.tmps) then o.wp P a w K Q' else K (a.put o.dst undef) w:=by
 obtain⟨F,g,r⟩:=r
 have mem:∀ {C:Prop},stepM I st o=some (st',C)→C→Region.wanted o (yielded ops a.tmps)=true→(if Region.wanted o (yielded ops a.tmps) then o.wp P a w K Q' else K (a.put o.dst undef) w):=by
  intro C hs hC hw
  obtain⟨n,v,w',h1,h2,h3⟩:=stepM_ok hG.ti hG.N hG.nt r o hs hC
  rw[if_pos hw]
  unfold Oper.wp
  rw[h1]
  rcases h2 with rfl | ⟨rfl,rfl⟩
  ·exact hk _ _ h3
  ·exact hk _ _ h3
 have memC:∀ {C:Prop},stepM I st o=some (st',C)→Cs=condOf (isC st o.op) C→(isC st o.op=false→C)→Region.wanted o (yielded ops a.tmps)=true→(if Region.wanted o (yielded ops a.tmps) then o.wp P a w K Q' else K (a.put o.dst undef) w):=by
  intro C hs he hf hw
  refine mem hs ?_ hw
  cases hc:isC st o.op with
  | false=>exact hf hc
  | true=>rw[he,hc]at hC; exact hC
 unfold step1 at h
 split at h
 ·rename_i hw
  have hw:=wantedP_ok r hw
  split at h
  ·rename_i t x y hop
   split at h
   ·rename_i st1 C hs
    cases h
    refine memC hs rfl (fun hc=>?_) hw
    unfold stepM at hs
    rw[hop]at hs hc
    simp only at hs
    split at hs
    ·rename_i i p q hi hp hq
     simp only[isC,hp]at hc
     unfold storeP at hs
     split at hs
     ·cases hs
     ·cases p with
      | ptr o off=>
       simp only at hs
       split at hs
       ·split at hs
        ·cases hs; trivial
        ·cases hs
       ·cases hs
      | aptr=>simp at hc
      | _=>simp at hs
    ·cases hs
   ·cases h
  ·rename_i e hop
   split at h
   ·rename_i st1 C hs
    cases h
    refine memC hs rfl (fun hc=>?_) hw
    obtain⟨dst,op,ty,pos,aft,gd⟩:=o
    subst hop
    unfold stepM at hs
    simp only at hs
    split at hs
    all_goals try (simp_all; done)
    repeat' (first | (cases hs; trivial) | (cases hs; done) | split at hs)
   ·cases h
  ·rename_i e x hop
   split at h
   ·rename_i st1 C hs
    cases h
    refine memC hs rfl (fun hc=>?_) hw
    obtain⟨dst,op,ty,pos,aft,gd⟩:=o
    subst hop
    unfold stepM at hs
    simp only at hs
    split at hs
    all_goals try (simp_all; done)
    repeat' (first | (cases hs; trivial) | (cases hs; done) | split at hs)
   ·cases h
  ·rename_i t len parts hop
   split at h
   ·rename_i st1 C hs
    cases h
    refine memC hs rfl (fun hc=>?_) hw
    obtain⟨dst,op,ty,pos,aft,gd⟩:=o
    subst hop
    unfold stepM at hs
    simp only at hs
    split at hs
    all_goals try (simp_all; done)
    repeat' (first | (cases hs; trivial) | (cases hs; done) | split at hs)
   ·cases h
  ·rename_i t rs hop
   split at h
   ·rename_i st1 C hs
    cases h
    refine memC hs rfl (fun hc=>?_) hw
    obtain⟨dst,op,ty,pos,aft,gd⟩:=o
    subst hop
    unfold stepM at hs
    simp only at hs
    split at hs
    all_goals try (simp_all; done)
    repeat' (first | (cases hs; trivial) | (cases hs; done) | split at hs)
   ·cases h
  ·rename_i t x k v hop
   split at h
   ·rename_i st1 C hs
    cases h
    refine memC hs rfl (fun hc=>?_) hw
    obtain⟨dst,op,ty,pos,aft,gd⟩:=o
    subst hop
    unfold stepM at hs
    simp only at hs
    split at hs
    all_goals try (simp_all; done)
    repeat' (first | (cases hs; trivial) | (cases hs; done) | split at hs)
   ·cases h
  ·rename_i args ats hop
   split at h
   ·rename_i st1 C hs
    cases h
    exact memC hs rfl (fun hc=>by rw[hop]at hc; simp[isC]at hc) hw
   ·cases h
  ·split at h
   ·rename_i x C d hp hd
    split at h
    ·rename_i hlt
     cases h
     have hc:C:=by
      cases hc:isC st o.op with
      | false=>exact isC_ok hp hc
      | true=>rw[hc]at hC; exact hC
     obtain⟨v,h1,h2⟩:=pev_ok hG.ti r o hp hc
     rw[if_pos hw]
     unfold Oper.wp
     rw[h1]
     refine hk _ _ ?_
     rw[hd]
     exact⟨F,g,r.put (by rw[hG.nt]; simpa[Nat.blt_eq] using hlt) h2⟩
    ·cases h
   ·cases h
 ·rename_i hw
  have hw:=wantedP_ok r hw
  rw[if_neg (by rw[hw]; simp)]
  split at h
  ·rename_i d hd
   split at h
   ·rename_i hlt
    cases h
    refine hk _ _ ?_
    rw[hd]
    exact⟨F,g,r.put (by rw[hG.nt]; simpa[Nat.blt_eq] using hlt) (.tup rfl (fun j x v hx=>by simp at hx))⟩
   ·cases h
  ·rename_i hd
   cases h
   refine hk _ _ ?_
   rw[hd]
   exact⟨F,g,r⟩
 ·cases h
theorem step1_ok(hG:Good P E I){ops:Array Oper}{o:Oper}{Cs:List Prop}(h:step1 I ops.toList o st=some (st',Cs))(hC:All Cs){a:Act}{w:World}(r:Rel E st a w){Q':Exit→Act→World→Prop}
  {rest:List Oper}(hk:∀ a' w',Rel E st' a' w'→wpList P ops Q' rest a' w'):wpList P ops Q' (o::rest) a w:=
 wpList_step fun _ hK=>step1_op hG h hC r fun a' w' r'=>hK _ _ (hk a' w' r')
theorem prun_ok(hG:Good P E I){ops:Array Oper}{Q':Exit→Act→World→Prop}{rest:List Oper}:∀ (l:List Oper) (st st':St) (Cs:List Prop),prun I ops.toList l st=some (st',Cs)→All Cs →
  ∀ a w,Rel E st a w→(∀ a' w',Rel E st' a' w'→wpList P ops Q' rest a' w')→wpList P ops Q' (l++rest) a w
 | [],st,st',Cs,h,_,a,w,r,hk=>by simp[prun]at h; obtain⟨rfl,rfl⟩:=h; exact hk a w r
 | o::l,st,st',Cs,h,hC,a,w,r,hk=>by
  simp only[prun]at h
  split at h
  ·rename_i st1 C1 h1
   split at h
   ·rename_i st2 C2 h2
    cases h
    rw[All.append]at hC
    exact step1_ok hG h1 hC.1 r fun a' w' r'=>prun_ok hG l st1 st' C2 h2 hC.2 a' w' r' hk
   ·cases h
  ·cases h
def prunK(I:Inf)(ops l:List Oper)(n:Nat)(ts os:List Nat)(st:St):Option (St×List Prop):=
 match prun I ops (l.take n) st with
 | some (st1,C)=>match st1.keep ts os with | some st2=>some (st2,C) | none=>none
 | none=>none
theorem pops_run(hG:Good P E I){ops:List Oper}{l:List Oper}(n:Nat)(ts os:List Nat){Cs:List Prop}(h:prunK I ops l n ts os st=some (st',Cs))(hC:All Cs)
  (hk:pops P E ops Q (l.drop n) st'):pops P E ops Q l st:=by
 intro a w r
 unfold prunK at h
 split at h
 ·rename_i st1 C h1
  split at h
  ·rename_i st2 h2
   cases h
   have:=prun_ok hG (ops:=ops.toArray) (Q':=lift E Q) (rest:=l.drop n) (l.take n) st st1 Cs (by simpa using h1) hC a w r fun a' w' r'=>hk a' w' (r'.keep h2)
   rwa [List.take_append_drop]at this
  ·cases h
 ·cases h
def Le(E:Env)(s t:St):Prop:=∀ a w,Rel E s a w→Rel E t a w
theorem Le.refl{s:St}:Le E s s:=fun _ _ h=>h
theorem Le.trans{s t u:St}(h:Le E s t)(h':Le E t u):Le E s u:=fun a w r=>h' a w (h a w r)
theorem Le.keep{s t:St}{ts os:List Nat}(h:s.keep ts os=some t):Le E s t:=fun _ _ r=>r.keep h
theorem pops_nil{ops:List Oper}(h:Q .normal st):pops P E ops Q [] st:=fun _ _ r=>⟨st,h,r⟩
theorem pops_weak{ops:List Oper}{l:List Oper}(h:Le E st st')(hk:pops P E ops Q l st'):pops P E ops Q l st:=fun a w r=>hk a w (h a w r)
theorem pwp_weak{c:Code}(h:Le E st st')(hk:pwp P E c Q st'):pwp P E c Q st:=fun a w r=>hk a w (h a w r)
theorem pwp_region{id:Nat}{l:List Oper}(h:pops P E l Q l st):pwp P E (.region id l.toArray false) Q st:=fun a w r=>wp_region_lit (h a w r)
theorem pwp_run(hG:Good P E I){id:Nat}{l:List Oper}(ts os:List Nat){Cs:List Prop}(h:prunK I l l l.length ts os st=some (st',Cs))(hC:All Cs)(hk:Q .normal st'):
  pwp P E (.region id l.toArray false) Q st:=
 pwp_region (pops_run hG l.length ts os h hC (by rw[List.drop_length]; exact fun _ _ r=>⟨st',hk,r⟩))
def thenQ(P:Program)(E:Env)(y:Code)(Q:Post):Post:=fun e s=>match e with | .normal=>pwp P E y Q s | e=>Q e s
theorem pwp_seq{x y:Code}(h:pwp P E x (thenQ P E y Q) st):pwp P E (.seq x y) Q st:=by
 intro a w r
 refine wp_seq (wp_mono (h a w r) fun e a' w' ⟨s,hs,hr⟩=>?_)
 cases e with
 | normal=>exact hs a' w' hr
 | _=>exact⟨s,hs,hr⟩
theorem pwp_skip(h:Q .normal st):pwp P E .skip Q st:=fun _ _ r=>wp_skip ⟨st,h,r⟩
theorem pwp_exit{id:Nat}(h:Q (.exit id) st):pwp P E (.exit id) Q st:=fun _ _ r=>wp_exit ⟨st,h,r⟩
theorem pwp_ret(h:Q .ret st):pwp P E .ret Q st:=fun _ _ r=>wp_ret ⟨st,h,r⟩
theorem pwp_cond{c:Operand}{x y:Code}{b:Bool}(hc:ev st c=some (.t (.bool b)))(h1:b=true→pwp P E x Q st)(h2:b=false→pwp P E y Q st):pwp P E (.cond c x y) Q st:=by
 intro a w r
 obtain⟨F,g,r'⟩:=id r
 have hv:=(ev_ok r' hc).inv_bool
 exact wp_cond_split hv (fun e=>h1 e a w r) (fun e=>h2 e a w r)
def blockQ(id:Nat)(Q:Post):Post:=fun e s=>match e with | .exit id'=>if id'=id then Q .normal s else Q (.exit id') s | e=>Q e s
theorem pwp_block{id:Nat}{c:Code}(h:pwp P E c (blockQ id Q) st):pwp P E (.block id c) Q st:=by
 intro a w r
 refine wp_block (wp_mono (h a w r) fun e a' w' ⟨s,hs,hr⟩=>?_)
 cases e with
 | exit id'=>
  simp only[blockQ]at hs
  simp only[Exit.inBlock]
  split
  ·rename_i e; rw[if_pos e]at hs; exact⟨s,hs,hr⟩
  ·rename_i e; rw[if_neg e]at hs; exact⟨s,hs,hr⟩
 | _=>exact⟨s,hs,hr⟩
theorem then_n{y:Code}{s:St}(h:pwp P E y Q s):thenQ P E y Q .normal s:=h
theorem then_ret{y:Code}{s:St}(h:Q .ret s):thenQ P E y Q .ret s:=h
theorem then_exit{y:Code}{s:St}{i:Nat}(h:Q (.exit i) s):thenQ P E y Q (.exit i) s:=h
theorem blk_n{id:Nat}{s:St}(h:Q .normal s):blockQ id Q .normal s:=h
theorem blk_ret{id:Nat}{s:St}(h:Q .ret s):blockQ id Q .ret s:=h
theorem blk_hit{id:Nat}{s:St}(h:Q .normal s):blockQ id Q (.exit id) s:=by simpa[blockQ] using h
theorem blk_miss{id id':Nat}{s:St}(hn:id'≠id)(h:Q (.exit id') s):blockQ id Q (.exit id') s:=by simpa[blockQ,hn] using h
attribute [irreducible] thenQ blockQ
def iterM{S R:Type}(body:S→Option (S⊕R)):Nat→S→Option R
 | 0,_=>none
 | n+1,s=>match body s with
  | none=>none
  | some (.inl s')=>iterM body n s'
  | some (.inr r)=>some r
def roundQ{S R:Type}(E:Env)(tm:S→St)(Qx:R→Post)(x:S⊕R):Post:=fun e s=>
 match x with
 | .inl s'=>e = .normal∧Le E s (tm s')
 | .inr r=>e ≠ .normal∧Qx r e s
theorem pwp_loop{c:Code}{S R:Type}(body:S→Option (S⊕R))(tm:S→St)(Qx:R→Post)(hb:∀ s x,body s=some x→pwp P E c (roundQ E tm Qx x) (tm s)):
  ∀ (n:Nat) (s0:S) (r:R),iterM body n s0=some r→(∀ e s,Qx r e s→∃ t,Le E s t∧Q e t)→pwp P E (.loop c) Q (tm s0):=by
 intro n s0 r hn hq a w hr
 refine wp_loop_rounds n ?_
 induction n generalizing s0 a w with
 | zero=>simp[iterM]at hn
 | succ m ih=>
  rw[rounds_succ]
  simp only[iterM]at hn
  cases hbs:body s0 with
  | none=>simp[hbs]at hn
  | some x=>
   refine wp_mono (hb s0 x hbs a w hr) fun e a' w' ⟨st',hst,hrel⟩=>?_
   cases x with
   | inl s'=>
    obtain⟨rfl,hle⟩:=hst
    simp only[hbs]at hn
    exact ih s' hn a' w' (hle _ _ hrel)
   | inr r'=>
    simp only[hbs]at hn
    cases hn
    obtain⟨hne,hqx⟩:=hst
    obtain⟨t,ht,hqt⟩:=hq _ _ hqx
    cases e with
    | normal=>exact absurd rfl hne
    | _=>exact⟨t,hqt,ht _ _ hrel⟩
end
end Go.PL
