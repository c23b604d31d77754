/-
  Parts: The abstract values of the seat's program logic and what they say of a world. Own work. Abstract states: a frame of abstract values, a heap of abstract objects; what they say of an activation and a world. Own work. Operations that leave the world alone, evaluated on abstract states; soundness. Own work. Value operations on abstract states, with the condition under which they go through; soundness. Own work. Soundness of the value operations. Own work. Soundness of the value operations: addresses, aggregates, slices of strings; all of them. Own work. Maps whose keys are arrays of numbers and whose values are truth values. Own work. The value operations, all in one. Own work. Operations that make or write memory, on abstract states; soundness. Own work. Soundness of the operations that make or write memory. Own work. append, buildSlice, store; all operations that make or write memory. Own work. Arrays whose cells are rows of their own: two of them put together. Own work.
-/
import Derived.WalkKit
import Derived.KernelRfl
import Derived.Laws.StructEq
import Derived.WideKeyRuns
import Derived.Laws.Pointers
import Derived.Maps.RangeRun
import Derived.LaidEqlPtr
set_option maxHeartbeats 4000000
namespace Go.PL
abbrev dZ:=@List.mem_append
abbrev cJ:=@Nat.eq_of_beq_eq_true
abbrev cV:=@List.mem_cons_of_mem
abbrev uD:=@List.mem_filter
abbrev nP:=@Nat.ne_of_beq_eq_false
abbrev aEK:=@List.mem_iff_getElem
abbrev Kc:=@List.nodup_append
abbrev eK:=@List.getElem?_eq_some_iff
abbrev Ax:=@List.mem_map_of_mem
abbrev oU:=@Array.getElem?_eq_some_iff
abbrev uB:=@List.mem_append_left
abbrev aX:=@List.mem_cons
abbrev gQ:=@Prod.mk.injEq
abbrev gV:=@Nat.le_trans
abbrev Ib:=@List.any_eq_false
abbrev mR:=@Nat.beq_refl
abbrev gO:=@Option.some.injEq
abbrev Dp:=@Array.getElem?_push
abbrev aF:=@if_neg
abbrev fD:=@List.getElem?_map
abbrev gB:=@Option.map_eq_some_iff
abbrev oH:=@Nat.add_assoc
abbrev iR:=@List.getElem?_take
abbrev bY:=@if_false
abbrev gJ:=@List.getElem?_eq_getElem
abbrev xD:=@List.getElem_mem
abbrev aA:=@if_pos
abbrev fH:=@Nat.le_of_ble_eq_true
abbrev iD:=@List.getElem?_drop
abbrev gW:=@Nat.add_mul
abbrev Ix:=@List.foldl_cons
abbrev qZ:=@List.length_cons
abbrev lW:=@List.eq_nil_of_length_eq_zero
abbrev cZ:=@List.length_append
abbrev dM:=@List.length_take
abbrev fI:=@List.length_drop
abbrev tV:=@Nat.add_zero
abbrev jH:=@Array.length_toList
abbrev gX:=@List.append_assoc
abbrev eH:=@List.getElem?_append_right
abbrev eT:=@List.getElem?_append_left
abbrev mP:=@Bool.or_eq_true
abbrev pQ:=@decide_eq_true_eq
abbrev kY:=@List.map_cons
abbrev sK:=@List.mapM_cons
abbrev qJ:=@Option.map_some
abbrev cK:=@Bool.false_eq_true
abbrev dJ:=@List.mem_cons_self
abbrev kW:=@List.mem_of_getElem?
abbrev bU:=@if_true
abbrev Cn:=@List.map_append
abbrev zN:=@Array.getElem?_toList
abbrev mS:=@Array.toArray_toList
abbrev fE:=@Nat.blt_eq
abbrev mW:=@Nat.one_mul
abbrev iN:=@Nat.mul_le_mul_right
abbrev cP:=@Bool.and_eq_true
abbrev dQ:=@List.all_eq_true
abbrev dW:=@List.mem_map
abbrev sF:=@List.mem_range
abbrev Cd:=@Nat.le_mul_of_pos_right
abbrev kO:=@Array.getElem?_append_left
abbrev jO:=@Array.size_append
abbrev lX:=@List.size_toArray
abbrev eW:=@Nat.zero_add
abbrev jJ:=@List.append_nil
abbrev nT:=@List.length_nil
abbrev Ah:=@List.take_append_drop
abbrev sD:=@List.getElem?_toArray
abbrev zT:=@Nat.lt_of_lt_of_le
abbrev sH:=@Array.append_assoc
abbrev qS:=@Array.getElem?_append_right
abbrev pN:=@Option.some.inj
abbrev uN:=@Array.getElem?_eq_getElem
abbrev cI:=@List.getD_eq_getElem?_getD
abbrev Db:=@Option.getD_some
abbrev xU:=@Array.eq_empty_of_size_eq_zero
abbrev fK:=@Nat.le_refl
abbrev nO:=@List.length_singleton
abbrev cG:=@List.mem_singleton
abbrev Jd:=@Array.getElem?_modify
abbrev pV:=@List.getElem?_set
abbrev aK:=@Option.bind_some
abbrev Kj:=@Array.size_replicate
abbrev aDR:=@Array.getElem_append_left
abbrev iG:=@List.length_map
abbrev Cc:=@List.getElem?_take_of_lt
abbrev tY:=@List.drop_eq_getElem_cons
abbrev lP:=@Bool.not_false
abbrev iP:=@Bool.not_true
abbrev Ec:=@Bool.true_and
abbrev kV:=@Bool.eq_iff_iff
abbrev qM:=@beq_iff_eq
abbrev lU:=@Bool.not_eq_true'
abbrev Ar:=@Nat.zero_le
abbrev Dh:=@Array.getD_eq_getD_getElem?
abbrev xR:=@Prod.mk.inj
abbrev pP:=@List.mem_append_right
abbrev Ij:=@List.eq_nil_iff_forall_not_mem
abbrev Uw:=@Classical.byContradiction
abbrev sM:=@Nat.sub_self
abbrev Bk:=@List.getElem?_replicate
abbrev wK:=@List.nodup_cons
abbrev oV:=@List.perm_append_comm
abbrev jQ:=@Nat.not_lt_zero
abbrev tD:=@Int.toNat_zero
abbrev vJ:=@Option.isSome_iff_exists
abbrev pC:=@List.nil_append
abbrev Pz:=@List.take_append_of_le_length
abbrev fS:=@List.take_of_length_le
abbrev eC:=@decide_eq_false
abbrev cY:=@decide_eq_true
abbrev oN:=@Option.bind_eq_some_iff
abbrev wI:=@of_decide_eq_true
abbrev vU:=@List.not_mem_nil
abbrev lI:=@List.length_range
abbrev Bc:=@List.getElem_of_mem
abbrev aJ:=@Int.toNat_natCast
abbrev sU:=@List.flatMap_cons
abbrev zO:=@List.mem_flatMap
abbrev zU:=@List.mem_of_mem_take
abbrev zG:=@List.flatMap_nil
abbrev pA:=@List.length_eq_zero_iff
abbrev eI:=@eq_true
abbrev jY:=@List.getD_cons_zero
abbrev vE:=@List.getD_cons_succ
end Go.PL
namespace Go.PL
open Go
variable {C:Prop} {F' O:Nat->Prop} {b cap d j m n o off s:Nat} {cur:Array Value} {e t:TypeId} {g':Nat->Value} {h l:Int} {hi lo:Option Operand} {k:IntKind} {ms:Array (String×TypeId)} {ob:Obj} {op:BinOp} {u v:Value} {w':World} {α β:Type}
inductive aE where
 | mk (Op N:Int) (S:ByteArray) (Args:List aE)
instance:Inhabited aE:=⟨.mk 0 0 ByteArray.empty []⟩
def aE.Op:aE->Int | .mk a _ _ _=>a
def aE.N:aE->Int | .mk _ a _ _=>a
def aE.S:aE->ByteArray | .mk _ _ a _=>a
def aE.Args:aE->List aE | .mk _ _ _ a=>a
inductive Lz where
 | exprs (l:List aE)
inductive T where
 | int (k:IntKind) (n:Int)
 | bool (b:Bool)
 | str (s:ByteArray)
 | sl (n:Nat) (f:Nat->List T)
 | agg (l:List T)
 | lz (x:Lz)
 | fv (f:Nat)
instance:Inhabited T:=⟨.bool false⟩
abbrev T.i (n:Int):T:=.int .i64 n
def aH(e:aE):List T:=[.int .i64 e.Op,.int .i64 e.N,.str e.S,.lz (.exprs e.Args)]
def Lz.len:Lz->Nat | .exprs l=>l.length
def Lz.cells:Lz->Nat->List T | .exprs l=>fun i=>aH (l.getD i default)
def T.view:T->Option (Nat×(Nat->List T))
 | .sl n f=>some (n,f)
 | .lz x=>some (x.len,x.cells)
 | _=>none
inductive Rd (F:Nat->Prop)(w:World):T->Value->Prop
 | int (k:IntKind) (n:Int):Rd F w (.int k n) (.int k n)
 | bool (b:Bool):Rd F w (.bool b) (.bool b)
 | str (s:ByteArray):Rd F w (.str s) (.string s)
 | fv (f:Nat):Rd F w (.fv f) (.func (.func f) #[] #[])
 | nil {t:T} {f:Nat->List T} (h:t.view=some (0,f)):Rd F w t (.slice none 0 0)
 | sl {t:T} {n:Nat} {f:Nat->List T} (a:Addr) (cap size:Nat) (vs:Nat->Nat->Value) (h:t.view=some (n,f)) (hc:n<=cap) (hF:0<n->F a.block)
   (hs:∀ i,i<n->(f i).length=size) (hv:∀ i j,i<n->j<size->w.cell? (a.add (i*size+j))=some (vs i j))
   (hr:∀ (i j:Nat) x,i<n->(f i)[j]? = some x->Rd F w x (vs i j)):Rd F w t (.slice (some a) n cap)
 | agg {l:List T} {vs:Array Value} (hs:vs.size=l.length) (hr:∀ (j:Nat) x v,l[j]? = some x->vs[j]? = some v->Rd F w x v):Rd F w (.agg l) (.agg vs)
theorem Rd.mono{F:Nat->Prop}{w:World}(h:∀ b,F b->F' b/\w'.heap[b]? = w.heap[b]?){t:T}(r:Rd F w t v):Rd F' w' t v:=by
 induction r with
 | int k n=>exact .int k n
 | bool b=>exact .bool b
 | str s=>exact .str s
 | fv f=>exact .fv f
 | nil h=>exact .nil h
 | sl a cap size vs hw hc hF hs hv hr ih=>
  refine .sl a cap size vs hw hc (fun hn=>(h _ (hF hn)).1) hs (fun i j hi hj=>?_) ih;have hb:(a.add (i*size+j)).block=a.block:=by unfold Addr.add; split <;> rfl
  rw[World.cell?_of_block (w:=w) (w':=w') (by rw[hb]; exact(h _ (hF (by omega))).2)];exact hv i j hi hj
 | agg hs hr ih=>exact .agg hs ih
inductive PV where
 | t (x:T)
 | ptr (o off:Nat)
 | eptr (l:List T)
 | own (o:Nat)
 | aptr (o s i off:Nat)
 | map (o:Nat)
 | nil
 | np
 | fn (f:Fn) (n:Nat) (cs:List PV)
 | tup (l:List PV)
 | agg (l:List PV)
 | any
 | lit (v:Value)
 | ifx
 | osl (o s lo n:Nat)
instance:Inhabited PV:=⟨.nil⟩
inductive VR (F:Nat->Prop)(g:Nat->Value)(w:World):PV->Value->Prop
 | t {x:T} {v:Value} (h:Rd F w x v):VR F g w (.t x) v
 | ptr {o off b:Nat} (h:g o = .pointer (some ⟨b,0,none⟩)):VR F g w (.ptr o off) (.pointer (some ⟨b,off,none⟩))
 | eptr {l:List T} (a:Addr) (hF:l≠[]->F a.block) (h:∀ (j:Nat) x,l[j]? = some x->∃ u,w.cell? (a.add j)=some u/\Rd F w x u):VR F g w (.eptr l) (.pointer (some a))
 | own {o n cap:Nat} {a:Option Addr} (h:g o = .slice a n cap):VR F g w (.own o) (.slice a n cap)
 | aptr {o s i off b n cap:Nat} (h:g o = .slice (some ⟨b,0,none⟩) n cap):VR F g w (.aptr o s i off) (.pointer (some ⟨b,i*s+off,none⟩))
 | map {o b:Nat} (h:g o = .map (some b)):VR F g w (.map o) (.map (some b))
 | nil:VR F g w .nil (.slice none 0 0)
 | np:VR F g w .np (.pointer none)
 | fn {f:Fn} {n:Nat} {cs:List PV} {us vs:Array Value} (hn:us.size=n) (hs:(us++vs).size=cs.length) (hr:∀ (j:Nat) x v,cs[j]? = some x->(us++vs)[j]? = some v->VR F g w x v):VR F g w (.fn f n cs) (.func f us vs)
 | tup {l:List PV} {vs:Array Value} (hs:vs.size=l.length) (hr:∀ (j:Nat) x v,l[j]? = some x->vs[j]? = some v->VR F g w x v):VR F g w (.tup l) (.tuple vs)
 | agg {l:List PV} {vs:Array Value} (hs:vs.size=l.length) (hr:∀ (j:Nat) x v,l[j]? = some x->vs[j]? = some v->VR F g w x v):VR F g w (.agg l) (.agg vs)
 | any {v:Value} (h:v.cells=#[v]):VR F g w .any v
 | lit {v:Value} (h:v.cells=#[v]):VR F g w (.lit v) v
 | ifx {t:TypeId} {v:Value}:VR F g w .ifx (.iface t v)
 | osl {o s lo n m cap c:Nat} {ad:Option Addr} (h:n=0\/∃ b,ad=some ⟨b,lo*s,none⟩/\g o = .slice (some ⟨b,0,none⟩) m cap):VR F g w (.osl o s lo n) (.slice ad n c)
def PV.names:PV->List Nat
 | .ptr o _=>[o]
 | .own o=>[o]
 | .aptr o _ _ _=>[o]
 | .osl o _ _ _=>[o]
 | .map o=>[o]
 | .fn _ _ cs=>go cs
 | .tup l=>go l
 | .agg l=>go l
 | _=>[]
where go:List PV->List Nat
 | []=>[]
 | x::l=>x.names++go l
theorem PV.names_go_mem{l:List PV}{x:PV}(h:l[j]? = some x)(ho:o∈x.names):o∈PV.names.go l:=by
 induction l generalizing j with
 | nil=>simp at h
 | cons y l ih=>
  simp only[PV.names.go,dZ];cases j with
  | zero=>simp at h; subst h; exact .inl ho
  | succ j=>exact .inr (ih (by simpa using h))
theorem VR.mono{F F':Nat->Prop}{g g':Nat->Value}{w w':World}(h:∀ b,F b->F' b/\w'.heap[b]? = w.heap[b]?){p:PV}{v:Value}(r:VR F g w p v)
  (hg:∀ o,o∈p.names->g' o=g o):VR F' g' w' p v:=by
 induction r with
 | t r=>exact .t (r.mono h)
 | ptr e=>exact .ptr (by rw[hg _ (by simp[PV.names])]; exact e)
 | eptr a hF e=>
  refine .eptr a (fun hl=>(h _ (hF hl)).1) (fun j x hx=>?_);obtain⟨u,hu,hr⟩:=e j x hx;refine⟨u,?_,hr.mono h⟩;have hb:(a.add j).block=a.block:=by unfold Addr.add; split <;> rfl
  have hl:F a.block:=hF (by intro hn; subst hn; simp at hx);rw[World.cell?_of_block (w:=w) (w':=w') (by rw[hb]; exact(h _ hl).2)];exact hu
 | own e=>exact .own (by rw[hg _ (by simp[PV.names])]; exact e)
 | aptr e=>exact .aptr (by rw[hg _ (by simp[PV.names])]; exact e)
 | map e=>exact .map (by rw[hg _ (by simp[PV.names])]; exact e)
 | nil=>exact .nil
 | np=>exact .np
 | any h=>exact .any h
 | lit h=>exact .lit h
 | ifx=>exact .ifx
 | osl e=>exact .osl (e.imp id fun⟨b,h1,h2⟩=>⟨b,h1,by rw[hg _ (by simp[PV.names])]; exact h2⟩)
 | fn hn hs hr ih=>exact .fn hn hs fun j x v hx hv=>ih j x v hx hv fun o ho=>hg o (by simp only[PV.names]; exact PV.names_go_mem hx ho)
 | tup hs hr ih=>exact .tup hs fun j x v hx hv=>ih j x v hx hv fun o ho=>hg o (by simp only[PV.names]; exact PV.names_go_mem hx ho)
 | agg hs hr ih=>exact .agg hs fun j x v hx hv=>ih j x v hx hv fun o ho=>hg o (by simp only[PV.names]; exact PV.names_go_mem hx ho)
inductive Mem where
 | d (x:T)
 | box (l:List T)
 | row (e:TypeId) (s n:Nat) (f:Nat->List T)
 | any
instance:Inhabited Mem:=⟨.box []⟩
def Mem.owned:Mem->Bool
 | .d _=>false
 | .any=>false
 | _=>true
inductive Cel where
 | d (x:T)
 | row (e:TypeId) (s n:Nat) (f:Nat->List T)
 | nl
 | any
instance:Inhabited Cel:=⟨.any⟩
def Cel.owned:Cel->Bool
 | .row ..=>true
 | _=>false
structure Iter where
 o:Nat
 rem:List T
 cur:Option T
inductive bA where
 | box (l:List PV)
 | arr (e:TypeId) (s n:Nat) (f:Nat->List T)
 | mpb (n:Nat) (m:List (List Int×Bool))
 | mp (it:Option Iter) (m:List (T×Mem)) (hole:Option (T×Option PV))
 | bld (ty e:TypeId) (s:ByteArray)
 | arm (e:TypeId) (s n:Nat) (f:Nat->List Cel) (ov:Option (Nat×Nat×PV))
instance:Inhabited bA:=⟨.box []⟩
def itN:Option Iter->List Nat
 | none=>[]
 | some i=>[i.o]
def hoN:Option (T×Option PV)->List Nat
 | some (_,some p)=>p.names
 | _=>[]
def ovN:Option (Nat×Nat×PV)->List Nat
 | some (_,_,p)=>p.names
 | none=>[]
def bA.names:bA->List Nat
 | .box l=>PV.names.go l
 | .arr ..=>[]
 | .mpb ..=>[]
 | .mp it _ ho=>itN it++hoN ho
 | .bld ..=>[]
 | .arm _ _ _ _ ov=>ovN ov
def bA.plain:bA->Bool
 | .mp ..=>false
 | .bld ..=>false
 | .arm ..=>false
 | _=>true
def blk:Value->Option Nat
 | .pointer (some a)=>some a.block
 | .slice (some a) _ _=>some a.block
 | .map (some b)=>some b
 | _=>none
def sI(l:List Int):Value:=.agg (l.map (Value.int .i64)).toArray
def pR(F:Nat->Prop)(g:Nat->Value)(w:World)(u:Value)(l:List PV):Prop:=
 ∃ b vs ty,u = .pointer (some ⟨b,0,none⟩)/\w.heap[b]? = some (.cells vs ty (0,0))/\vs.size=l.length/\∀ (j:Nat) x v,l[j]? = some x->vs[j]? = some v->VR F g w x v
def kZ(F:Nat->Prop)(w:World)(u:Value)(e:TypeId)(s n:Nat)(f:Nat->List T):Prop:=
 (u = .slice none 0 0/\n=0)\/∃ b cap cur,u = .slice (some ⟨b,0,none⟩) n cap/\w.heap[b]? = some (.cells cur e (0,0))/\n<=cap/\cap<=maxLen /\
   cur.size=cap*s/\(∀ i,i<n->(f i).length=s)/\∀ (i j:Nat) x,i<n->(f i)[j]? = some x->∃ v,cur[i*s+j]? = some v/\Rd F w x v
def yA(F:Nat->Prop)(w:World):Mem->Value->Prop
 | .d x,v=>Rd F w x v
 | .box l,v=>pR F (fun _=>undef) w v (l.map .t)
 | .row e s n f,v=>kZ F w v e s n f
 | .any,_=>True
inductive KeyR:T->Value->Prop
 | int (k:IntKind) (n:Int):KeyR (.int k n) (.int k n)
 | str (s:ByteArray):KeyR (.str s) (.string s)
def aUP(F:Nat->Prop)(w:World)(x:T×Mem)(e:MapEntry):Prop:=KeyR x.1 e.key/\yA F w x.2 e.val
inductive lV {α β:Type}(R:α->β->Prop):List α->List β->Prop
 | nil:lV R [] []
 | cons {a:α} {b:β} {l:List α} {r:List β} (h:R a b) (t:lV R l r):lV R (a::l) (b::r)
def mB(F:Nat->Prop)(g:Nat->Value)(w:World):Option (T×Option PV)->List MapEntry->Prop
 | none,l=>l=[]
 | some (k,none),l=>l=[]\/∃ e,l=[e]/\KeyR k e.key
 | some (k,some p),l=>∃ e,l=[e]/\KeyR k e.key/\VR F g w p e.val
def hoK:Option (T×Option PV)->List T
 | none=>[]
 | some (k,_)=>[k]
def ItR(g:Nat->Value)(w:World)(b:Nat)(es:Array MapEntry)(clock:Nat):Option Iter->Prop
 | none=>True
 | some i=>∃ r since seen c0,g i.o = .pointer (some ⟨r,0,none⟩)/\w.heap[r]? = some (.mapIter (some b) since seen c0)/\(∀ e,e∈es.toList->e.born<since)/\(since<=c0/\since<=clock) /\
   (∀ e,e∈es.toList->((∃ k,k∈i.rem/\KeyR k e.key)↔seen.contains e.born=false))/\(∀ k,k∈i.rem->∃ e,e∈es.toList/\KeyR k e.key)/\i.rem.Nodup /\
   ∀ k,i.cur=some k->c0=clock/\(∃ e,e∈es.toList/\KeyR k e.key/\∃ q:Array Nat,seen=q.push e.born)/\k∉i.rem
structure MpR (F:Nat->Prop)(g:Nat->Value)(w:World)(b:Nat)(es:Array MapEntry)(clock:Nat)(it:Option Iter)(m:List (T×Mem))(ho:Option (T×Option PV))(l r:List MapEntry):Prop where
 perm:(l++r).Perm es.toList
 ent:lV (aUP F w) m l
 hole:mB F g w ho r
 keys:(m.map (·.1)++hoK ho).Nodup
 born:(es.toList.map (·.born)).Nodup
 old:∀ e,e∈es.toList->e.born<clock
 sep:∀ (i j:Nat) x y e e' c,m[i]? = some x->m[j]? = some y->l[i]? = some e->l[j]? = some e'->i≠j->x.2.owned=true->y.2.owned=true->blk e.val=some c->blk e'.val=some c->False
 it:ItR g w b es clock it
def iF(s:ByteArray):List Value:=s.data.toList.map fun b=>Value.int .u8 b.toNat
def bBE(w:World)(u:Value)(ty e:TypeId)(s:ByteArray):Prop:=
 ∃ b p v,u = .pointer (some ⟨b,0,none⟩)/\w.heap[b]? = some (.cells #[p,v] ty (0,0))/\(p = .pointer none\/p = .pointer (some ⟨b,0,none⟩)) /\
  ((v = .slice none 0 0/\s.size=0)\/∃ r cap cur,v = .slice (some ⟨r,0,none⟩) s.size cap/\w.heap[r]? = some (.cells cur e (0,0))/\r≠b/\s.size<=cap/\cap<=maxLen/\cur.size=cap/\cur.toList.take s.size=iF s)
def uM(F:Nat->Prop)(w:World):Cel->Value->Prop
 | .d x,v=>Rd F w x v
 | .row e s n f,v=>kZ F w v e s n f
 | .nl,v=>v = .slice none 0 0
 | .any,_=>True
structure sT (F:Nat->Prop)(g:Nat->Value)(w:World)(b:Nat)(s n:Nat)(f:Nat->List Cel)(ov:Option (Nat×Nat×PV))(cur:Array Value):Prop where
 len:∀ i,i<n->(f i).length=s
 cell:∀ (i j:Nat) x,i<n->(f i)[j]? = some x->∃ v,cur[i*s+j]? = some v/\uM F w x v
 sep:∀ (i j i' j':Nat) x x' v v' c,i<n->i' < n->(f i)[j]? = some x->(f i')[j']? = some x'->x.owned=true->x'.owned=true->cur[i*s+j]? = some v->cur[i'*s+j']? = some v'->blk v=some c->blk v'=some c->i=i'/\j=j'
 own:∀ (i j:Nat) x v,i<n->(f i)[j]? = some x->x.owned=true->cur[i*s+j]? = some v->blk v≠some b
 ov:∀ i j p,ov=some (i,j,p)->i<n/\(f i)[j]? = some .any/\∀ v,cur[i*s+j]? = some v->VR F g w p v
def Ws(F:Nat->Prop)(g:Nat->Value)(w:World)(u:Value)(e:TypeId)(s n:Nat)(f:Nat->List Cel)(ov:Option (Nat×Nat×PV)):Prop:=
 (u = .slice none 0 0/\n=0/\ov=none)\/∃ b cap cur,u = .slice (some ⟨b,0,none⟩) n cap/\w.heap[b]? = some (.cells cur e (0,0))/\n<=cap/\cap<=maxLen/\cur.size=cap*s/\sT F g w b s n f ov cur
def dD(F:Nat->Prop)(g:Nat->Value)(w:World)(o:Nat):bA->Prop
 | .arm e s n f ov=>Ws F g w (g o) e s n f ov
 | .bld ty e s=>bBE w (g o) ty e s
 | .box l=>pR F g w (g o) l
 | .arr e s n f=>kZ F w (g o) e s n f
 | .mpb n m=>∃ b es clock,g o = .map (some b)/\w.heap[b]? = some (.map es clock)/\es.size=m.length/\(∀ x,x∈m->x.1.length=n) /\
   ∀ (j:Nat) e x,es[j]? = some e->m[j]? = some x->e.key=sI x.1/\e.val = .bool x.2
 | .mp it m ho=>∃ b es clock,g o = .map (some b)/\w.heap[b]? = some (.map es clock)/\∃ l r,MpR F g w b es clock it m ho l r
inductive bG (g:Nat->Value)(w:World)(o:Nat):bA->Nat->Prop
 | self {x:bA} {b:Nat} (h:blk (g o)=some b):bG g w o x b
 | iter {i:Iter} {m:List (T×Mem)} {ho:Option (T×Option PV)} {b:Nat} (h:blk (g i.o)=some b):bG g w o (.mp (some i) m ho) b
 | mem {it:Option Iter} {m:List (T×Mem)} {ho:Option (T×Option PV)} {b bm cl:Nat} {es:Array MapEntry} {e:MapEntry} {x:T×Mem} (hg:g o = .map (some bm)) (hb:w.heap[bm]? = some (.map es cl))
   (he:e∈es.toList) (hx:x∈m) (hk:KeyR x.1 e.key) (hy:x.2.owned=true) (h:blk e.val=some b):bG g w o (.mp it m ho) b
 | bld {ty e:TypeId} {s:ByteArray} {b c:Nat} {p v:Value} (hg:g o = .pointer (some ⟨b,0,none⟩)) (hb:w.heap[b]? = some (.cells #[p,v] ty (0,0))) (h:blk v=some c):bG g w o (.bld ty e s) c
 | arm {e:TypeId} {s n:Nat} {f:Nat->List Cel} {ov:Option (Nat×Nat×PV)} {b bm cap i j:Nat} {cur:Array Value} {x:Cel} {v:Value} (hg:g o = .slice (some ⟨bm,0,none⟩) n cap) (hb:w.heap[bm]? = some (.cells cur e (0,0))) (hi:i<n)
   (hx:(f i)[j]? = some x) (hy:x.owned=true) (hv:cur[i*s+j]? = some v) (h:blk v=some b):bG g w o (.arm e s n f ov) b
theorem bG.toBlk{g:Nat->Value}{w:World}{x:bA}(h:bG g w o x b)(hx:x.plain=true):blk (g o)=some b:=by
 cases h with
 | self h=>exact h
 | iter h=>cases hx
 | mem=>cases hx
 | bld=>cases hx
 | arm=>cases hx
abbrev Fr:=List (Nat×PV)
abbrev Hp:=List (Nat×bA)
structure St where
 fr:Fr
 hp:Hp
def bK{α:Type}:List (Nat×α)->Nat->Option α
 | [],_=>none
 | (k,v)::l,t=>match Nat.beq k t with | true=>some v | false=>bK l t
theorem aU{l:List (Nat×α)}{t:Nat}{v:α}(h:bK l t=some v):(t,v)∈l:=by
 induction l with
 | nil=>simp[bK]at h
 | cons e l ih=>
  obtain⟨k,u⟩:=e;unfold bK at h;split at h
  ·rename_i hk;have:k=t:=cJ hk;simp at h; subst this; subst h; simp
  ·exact cV _ (ih h)
def del(t:Nat)(l:List (Nat×α)):List (Nat×α):=l.filter fun e=>!(Nat.beq e.1 t)
theorem bD{t k:Nat}{v:α}{l:List (Nat×α)}:(k,v)∈del t l↔(k,v)∈l/\k≠t:=by
 simp only[del,uD];refine and_congr_right fun _=>?_;cases h:Nat.beq k t with
 | true=>simp[cJ h]
 | false=>simp[nP h]
def St.put(st:St)(d:Nat)(x:PV):St:={ st with fr:=(d,x)::del d st.fr }
structure Env where
 w0:World
 F0:Nat->Prop
 B0:Nat->Prop
 g0:Nat->Value
 N:List Nat
 nt:Nat
 dok:Deferred->Prop:=fun _=>False
 rd:Option Nat:=none
 mkA:Bool:=true
 dms:Deferred->Prop:=fun _=>False
structure HpR (F:Nat->Prop)(g:Nat->Value)(w:World)(B:Nat->Prop)(H:Hp):Prop where
 obj:∀ o x,(o,x)∈H->dD F g w o x
 own:∀ o x b,(o,x)∈H->bG g w o x b->¬ F b/\B b
 sep:∀ o x o' y b,(o,x)∈H->(o',y)∈H->o≠o'->bG g w o x b->bG g w o' y b->False
structure aOR (B:Nat->Prop)(w0 w:World):Prop where
 os:w.os=w0.os
 tape:w.tape=w0.tape
 output:w.output=w0.output
 size:w0.heap.size<=w.heap.size
 block:∀ b,b<w0.heap.size->¬ B b->w.heap[b]? = w0.heap[b]?
structure nC (E:Env)(F:Nat->Prop)(g:Nat->Value)(H:Hp)(w:World):Prop where
 hp:HpR F g w (fun b=>E.B0 b\/E.w0.heap.size<=b) H
 f0:∀ b,E.F0 b->F b
 f1:∀ b,F b->b<w.heap.size/\(E.F0 b\/E.B0 b\/E.w0.heap.size<=b)
 ext:aOR E.B0 E.w0 w
 names:∀ o,o∈E.N->g o=E.g0 o
 b0:∀ b,E.B0 b->b<E.w0.heap.size
def yY(D:Nat):Deferred:={ target:=.collected D,args:=#[] }
structure DfR (E:Env)(F:Nat->Prop)(w:World)(ds:List Deferred):Prop where
 ok:∀ d,d∈ds->E.dok d\/E.mkA=true/\∃ D,d=yY D/\E.w0.heap.size<=D/\F D/\w.heap[D]? = some (.deferred (some []))
 one:ds.Pairwise fun d d'=>∀ D,d=yY D->d'≠yY D
 mu:∀ d,E.dms d->d∈ds
theorem DfR.mono{E:Env}{F:Nat->Prop}{w:World}{ds:List Deferred}(h:DfR E F w ds)(hb:∀ b,F b->F' b/\w'.heap[b]? = w.heap[b]?):DfR E F' w' ds:=
 ⟨fun d hd=>(h.ok d hd).imp id fun⟨hm,D,h1,h2,h3,h4⟩=>⟨hm,D,h1,h2,(hb D h3).1,(hb D h3).2.trans h4⟩,h.one,h.mu⟩
structure cL (E:Env)(F:Nat->Prop)(g:Nat->Value)(st:St)(a:Act)(w:World):Prop where
 nt:a.tmps.size=E.nt
 df:DfR E F w a.defers
 fr:∀ t x,(t,x)∈st.fr->VR F g w x (a.tmps.getD t undef)
 w:nC E F g st.hp w
def Rel(E:Env)(st:St)(a:Act)(w:World):Prop:=∃ F g,cL E F g st a w
theorem lV.get{R:α->β->Prop}{l:List α}{r:List β}(h:lV R l r):r.length=l.length/\∀ (j:Nat) a b,l[j]? = some a->r[j]? = some b->R a b:=by
 induction h with
 | nil=>simp
 | cons h _ ih=>
  refine⟨by simp[ih.1],fun j a b ha hb=>?_⟩;cases j with
  | zero=>simp at ha hb; subst ha; subst hb; exact h
  | succ j=>exact ih.2 j a b (by simpa using ha) (by simpa using hb)
theorem lV.mono{R R':α->β->Prop}{l:List α}{r:List β}(h:lV R l r)(hr:∀ a b,a∈l->b∈r->R a b->R' a b):lV R' l r:=by
 induction h with
 | nil=>exact .nil
 | cons h _ ih=>exact .cons (hr _ _ (by simp) (by simp) h) (ih fun a b ha hb=>hr a b (cV _ ha) (cV _ hb))
theorem lV.mem{α β:Type}{R:α->β->Prop}{l:List α}{r:List β}(h:lV R l r){a:α}(ha:a∈l):∃ (j:Nat) (b:β),l[j]? = some a/\r[j]? = some b/\R a b:=by
 obtain⟨j,hj,rfl⟩:=aEK.1 ha;have hj':j<r.length:=by rw[h.get.1]; exact hj
 exact⟨j,r[j],by simp[hj],by simp[hj'],h.get.2 j _ _ (by simp[hj]) (by simp[hj'])⟩
theorem lV.memr{R:α->β->Prop}{l:List α}{r:List β}(h:lV R l r){b:β}(hb:b∈r):∃ (j:Nat) (a:α),l[j]? = some a/\r[j]? = some b/\R a b:=by
 obtain⟨j,hj,rfl⟩:=aEK.1 hb;have hj':j<l.length:=by rw[<-h.get.1]; exact hj
 exact⟨j,l[j],by simp[hj'],by simp[hj],h.get.2 j _ _ (by simp[hj']) (by simp[hj])⟩
theorem KeyR.inj{k k':T}(h:KeyR k v)(h':KeyR k' v):k=k':=by cases h <;> cases h' <;> rfl
theorem KeyR.inj'{k:T}{v':Value}(h:KeyR k v)(h':KeyR k v'):v=v':=by cases h <;> cases h' <;> rfl
theorem yA.block{F:Nat->Prop}{w:World}{y:Mem}(h:yA F w y v)(hy:y.owned=true)(hb:blk v=some b):∃ vs ty,w.heap[b]? = some (.cells vs ty (0,0)):=by
 cases y with
 | d x=>cases hy
 | box l=>obtain⟨b',vs,ty,h1,h2,_⟩:=h;rw[h1]at hb; simp[blk]at hb; subst hb; exact⟨_,_,h2⟩
 | row e s n f=>
  rcases h with⟨h1,_⟩ | ⟨b',cap,cur,h1,h2,_⟩
  ·rw[h1]at hb; simp[blk]at hb
  ·rw[h1]at hb; simp[blk]at hb; subst hb; exact⟨_,_,h2⟩
 | any=>cases hy
theorem MpR.entry{F:Nat->Prop}{g:Nat->Value}{w:World}{clock:Nat}{es:Array MapEntry}{it:Option Iter}{m:List (T×Mem)}{ho:Option (T×Option PV)}{l r:List MapEntry}(h:MpR F g w b es clock it m ho l r)
  {x:T×Mem}{e:MapEntry}(hx:x∈m)(he:e∈es.toList)(hk:KeyR x.1 e.key):aUP F w x e/\∃ j:Nat,m[j]? = some x/\l[j]? = some e:=by
 have hnd:=h.keys;rw[Kc]at hnd;obtain⟨hn1,hn2,hn3⟩:=hnd;have he':=h.perm.mem_iff.2 he;rcases dZ.1 he' with hl | hr
 ·obtain⟨j,y,hy,hj,hR⟩:=h.ent.memr hl;obtain⟨i,hi,rfl⟩:=aEK.1 hx;have hyx:y.1=(m[i]).1:=hR.1.inj hk;have hj':j<m.length:=(eK.1 hy).1;have:j=i:=by
   have e1:(m.map (·.1))[j]? = some y.1:=by simp[hy]
   have e2:(m.map (·.1))[i]? = some y.1:=by simp[hi,hyx]
   exact(List.getElem?_inj (by simpa using hj') hn1).1 (e1.trans e2.symm)
  subst this;have:y=m[j]:=by have:=(eK.1 hy).2; exact this.symm
  subst this;exact⟨hR,j,by simp[hj'],hj⟩
 ·exfalso;have hmem:x.1∈m.map (·.1):=Ax hx;have hh:=h.hole;cases ho with
  | none=>simp only[mB]at hh; subst hh; simp at hr
  | some kp=>
   obtain⟨k,p⟩:=kp;have hk':KeyR k e.key:=by
    cases p with
    | none=>
     rcases hh with rfl | ⟨e',rfl,h2⟩
     ·simp at hr
     ·simp at hr; subst hr; exact h2
    | some p=>obtain⟨e',rfl,h2,_⟩:=hh;simp at hr; subst hr; exact h2
   have:k=x.1:=hk'.inj hk;exact hn3 _ hmem k (by simp[hoK]) this.symm
theorem uM.block{F:Nat->Prop}{w:World}{y:Cel}(h:uM F w y v)(hy:y.owned=true)(hb:blk v=some b):∃ vs ty,w.heap[b]? = some (.cells vs ty (0,0)):=by
 cases y with
 | d x=>cases hy
 | any=>cases hy
 | nl=>cases hy
 | row e s n f=>
  rcases h with⟨h1,_⟩ | ⟨b',cap,cur,h1,h2,_⟩
  ·rw[h1]at hb; simp[blk]at hb
  ·rw[h1]at hb; simp[blk]at hb; subst hb; exact⟨_,_,h2⟩
theorem bG.block{F:Nat->Prop}{g:Nat->Value}{w:World}{o:Nat}{x:bA}{b:Nat}(hf:bG g w o x b)(h:dD F g w o x):b<w.heap.size:=by
 have lt:∀ {b:Nat} {ob:Obj},w.heap[b]? = some ob->b<w.heap.size:=fun h=>(oU.1 h).1;cases hf with
 | self hb=>
  cases x with
  | box l=>obtain⟨b',vs,ty,h1,h2,_⟩:=h;rw[h1]at hb; simp[blk]at hb; subst hb; exact lt h2
  | arr e s n f=>
   rcases h with⟨h1,_⟩ | ⟨b',cap,cur,h1,h2,_⟩
   ·rw[h1]at hb; simp[blk]at hb
   ·rw[h1]at hb; simp[blk]at hb; subst hb; exact lt h2
  | mpb n m=>obtain⟨b',es,cl,h1,h2,_⟩:=h;rw[h1]at hb; simp[blk]at hb; subst hb; exact lt h2
  | mp it m ho=>obtain⟨b',es,cl,h1,h2,_⟩:=h;rw[h1]at hb; simp[blk]at hb; subst hb; exact lt h2
  | bld ty e s=>obtain⟨b',p,v,h1,h2,_⟩:=h;rw[h1]at hb; simp[blk]at hb; subst hb; exact lt h2
  | arm e s n f ov=>
   rcases h with⟨h1,_⟩ | ⟨b',cap,cur,h1,h2,_⟩
   ·rw[h1]at hb; simp[blk]at hb
   ·rw[h1]at hb; simp[blk]at hb; subst hb; exact lt h2
 | bld hg hb hv=>
  obtain⟨b',p,v,h1,h2,_,h3⟩:=h;rw[h1]at hg; injection hg with hg; injection hg with hg; injection hg with hg; subst hg;rw[h2]at hb; injection hb with hb; injection hb with hb; injection hb with hb; injection hb with hb1 hb2; injection hb2 with hb2; subst hb2;rcases h3 with⟨h4,_⟩ | ⟨r,cap,cur,h4,h5,_⟩
  ·rw[h4]at hv; simp[blk]at hv
  ·rw[h4]at hv; simp[blk]at hv; subst hv; exact lt h5
 | arm hg hb hi hx hy hv hbl=>
  rcases h with⟨h1,_⟩ | ⟨b',cap,cur,h1,h2,_,_,_,hC⟩
  ·rw[h1]at hg; cases hg
  ·rw[h1]at hg; injection hg with hg; injection hg with hg; injection hg with hg; subst hg;rw[h2]at hb; injection hb with hb; injection hb with hb; subst hb;obtain⟨v',hv',hR⟩:=hC.cell _ _ _ hi hx;rw[hv]at hv'; cases hv';obtain⟨vs,ty,h3⟩:=hR.block hy hbl;exact lt h3
 | iter hb=>obtain⟨b',es,cl,h1,h2,l,r,hM⟩:=h;obtain⟨r',since,seen,c0,e1,e2,_⟩:=hM.it;rw[e1]at hb; simp[blk]at hb; subst hb; exact lt e2
 | mem hg hb he hx hk ho hv=>obtain⟨b',es,cl,h1,h2,l,r,hM⟩:=h;rw[h1]at hg; injection hg with hg; injection hg with hg; subst hg;rw[h2]at hb; injection hb with hb; injection hb with hb1 hb2; subst hb1;obtain⟨vs,ty,h3⟩:=(hM.entry hx he hk).1.2.block ho hv;exact lt h3
theorem dD.block{F:Nat->Prop}{g:Nat->Value}{w:World}{o:Nat}{x:bA}(h:dD F g w o x){b:Nat}(hb:blk (g o)=some b):b<w.heap.size:=(bG.self hb).block h
theorem pR.mono{F F':Nat->Prop}{g g':Nat->Value}{w w':World}(h:∀ b,F b->F' b/\w'.heap[b]? = w.heap[b]?){u:Value}{l:List PV}(r:pR F g w u l)(hg:∀ o,o∈PV.names.go l->g' o=g o)
  (hb:∀ b,blk u=some b->w'.heap[b]? = w.heap[b]?):pR F' g' w' u l:=by
 obtain⟨b,vs,ty,h1,h2,h3,h4⟩:=r;exact⟨b,vs,ty,h1,by rw[hb b (by rw[h1]; rfl)]; exact h2,h3,fun j x v hx hv=>(h4 j x v hx hv).mono h fun o' ho'=>hg o' (PV.names_go_mem hx ho')⟩
theorem kZ.mono{F F':Nat->Prop}{w w':World}(h:∀ b,F b->F' b/\w'.heap[b]? = w.heap[b]?){u:Value}{e:TypeId}{s n:Nat}{f:Nat->List T}(r:kZ F w u e s n f)
  (hb:∀ b,blk u=some b->w'.heap[b]? = w.heap[b]?):kZ F' w' u e s n f:=by
 rcases r with h1 | ⟨b,cap,cur,h1,h2,h3,h4,h5,h6,h7⟩
 ·exact .inl h1
 ·refine .inr ⟨b,cap,cur,h1,by rw[hb b (by rw[h1]; rfl)]; exact h2,h3,h4,h5,h6,fun i j x hi hx=>?_⟩;obtain⟨v,hv,hr⟩:=h7 i j x hi hx;exact⟨v,hv,hr.mono h⟩
theorem Ol(l:List T):PV.names.go (l.map PV.t)=[]:=by
 induction l with
 | nil=>rfl
 | cons x l ih=>simp[PV.names.go,PV.names,ih]
theorem yA.mono{F F':Nat->Prop}{w w':World}(h:∀ b,F b->F' b/\w'.heap[b]? = w.heap[b]?){y:Mem}{v:Value}(r:yA F w y v)
  (hb:∀ b,y.owned=true->blk v=some b->w'.heap[b]? = w.heap[b]?):yA F' w' y v:=by
 cases y with
 | d x=>exact Rd.mono h r
 | box l=>exact pR.mono h r (fun _ _=>rfl) (fun b hb'=>hb b rfl hb')
 | row e s n f=>exact kZ.mono h r (fun b hb'=>hb b rfl hb')
 | any=>trivial
theorem mB.mono{F F':Nat->Prop}{g g':Nat->Value}{w w':World}(h:∀ b,F b->F' b/\w'.heap[b]? = w.heap[b]?){ho:Option (T×Option PV)}{l:List MapEntry}(r:mB F g w ho l)
  (hg:∀ o,o∈hoN ho->g' o=g o):mB F' g' w' ho l:=by
 cases ho with
 | none=>exact r
 | some kp=>
  obtain⟨k,p⟩:=kp;cases p with
  | none=>exact r
  | some p=>obtain⟨e,h1,h2,h3⟩:=r;exact⟨e,h1,h2,h3.mono h hg⟩
theorem uM.mono{F F':Nat->Prop}{w w':World}(h:∀ b,F b->F' b/\w'.heap[b]? = w.heap[b]?){y:Cel}{v:Value}(r:uM F w y v)
  (hb:∀ b,y.owned=true->blk v=some b->w'.heap[b]? = w.heap[b]?):uM F' w' y v:=by
 cases y with
 | d x=>exact Rd.mono h r
 | any=>exact True.intro
 | nl=>exact r
 | row e s n f=>exact kZ.mono h r (fun b hb'=>hb b rfl hb')
theorem sT.mono{F F':Nat->Prop}{g g':Nat->Value}{w w':World}(h:∀ b,F b->F' b/\w'.heap[b]? = w.heap[b]?){b s n:Nat}{f:Nat->List Cel}{ov:Option (Nat×Nat×PV)}{cur:Array Value}(r:sT F g w b s n f ov cur)
  (hg:∀ o,o∈ovN ov->g' o=g o)(hb:∀ (i j:Nat) x v c,i<n->(f i)[j]? = some x->x.owned=true->cur[i*s+j]? = some v->blk v=some c->w'.heap[c]? = w.heap[c]?):sT F' g' w' b s n f ov cur where
 len:=r.len
 cell:=fun i j x hi hx=>by obtain⟨v,hv,hR⟩:=r.cell i j x hi hx;exact⟨v,hv,hR.mono h fun c hy hc=>hb i j x v c hi hx hy hv hc⟩
 sep:=r.sep
 own:=r.own
 ov:=fun i j p e=>by obtain⟨h1,h2,h3⟩:=r.ov i j p e;subst e;exact⟨h1,h2,fun v hv=>(h3 v hv).mono h hg⟩
theorem dD.monoF{F:Nat->Prop}{g:Nat->Value}{w:World}(h:∀ b,F b->F' b/\w'.heap[b]? = w.heap[b]?){x:bA}(r:dD F g w o x)
  (ho:g' o=g o)(hg:∀ o,o∈x.names->g' o=g o)(hb:∀ b,bG g w o x b->w'.heap[b]? = w.heap[b]?):dD F' g' w' o x:=by
 cases x with
 | box l=>simp only[dD]; rw[ho]; exact pR.mono h r hg (fun b hb'=>hb b (.self hb'))
 | arr e s n f=>simp only[dD]; rw[ho]; exact kZ.mono h r (fun b hb'=>hb b (.self hb'))
 | mpb n m=>obtain⟨b,es,cl,h1,h2,h3⟩:=r;exact⟨b,es,cl,by rw[ho]; exact h1,by rw[hb b (.self (by rw[h1]; rfl))]; exact h2,h3⟩
 | bld ty e s=>
  obtain⟨b,p,v,h1,h2,h3,h4⟩:=r;refine⟨b,p,v,by rw[ho]; exact h1,by rw[hb b (.self (by rw[h1]; rfl))]; exact h2,h3,?_⟩;rcases h4 with h4 | ⟨r,cap,cur,h4,h5,h6⟩
  ·exact .inl h4
  ·exact .inr ⟨r,cap,cur,h4,by rw[hb r (.bld h1 h2 (by rw[h4]; rfl))]; exact h5,h6⟩
 | arm e s n f ov=>
  simp only[dD];rcases r with⟨h1,h2⟩ | ⟨b,cap,cur,h1,h2,h3,h4,h5,hC⟩
  ·exact .inl ⟨by rw[ho]; exact h1,h2⟩
  ·exact .inr ⟨b,cap,cur,by rw[ho]; exact h1,by rw[hb b (.self (by rw[h1]; rfl))]; exact h2,h3,h4,h5,hC.mono h hg fun i j x v c hi hx hy hv hc=>hb c (.arm h1 h2 hi hx hy hv hc)⟩
 | mp it m hl=>
  obtain⟨b,es,cl,h1,h2,l,q,hM⟩:=r;refine⟨b,es,cl,by rw[ho]; exact h1,by rw[hb b (.self (by rw[h1]; rfl))]; exact h2,l,q,hM.perm,?_,hM.hole.mono h (fun k hk=>hg k (by simp[bA.names,hk])),hM.keys,hM.born,hM.old,hM.sep,?_⟩
  ·refine hM.ent.mono fun x e hx he hR=>⟨hR.1,hR.2.mono h fun b' ho' hb'=>hb b' ?_⟩;exact .mem h1 h2 (hM.perm.mem_iff.1 (uB _ he)) hx hR.1 ho' hb'
  ·cases it with
   | none=>exact True.intro
   | some i=>obtain⟨r',since,seen,c0,e1,e2,e3⟩:=hM.it;exact⟨r',since,seen,c0,by rw[hg i.o (by simp[bA.names,itN])]; exact e1,by rw[hb r' (.iter (by rw[e1]; rfl))]; exact e2,e3⟩
theorem bG.mono{g:Nat->Value}{w:World}{x:bA}(ho:g' o=g o)(hg:∀ o,o∈x.names->g' o=g o)(hb:∀ b,blk (g o)=some b->w'.heap[b]? = w.heap[b]?)(h:bG g' w' o x b):bG g w o x b:=by
 cases h with
 | self h=>exact .self (ho▸h)
 | iter h=>exact .iter (by rw[<-hg _ (by simp[bA.names,itN])]; exact h)
 | mem h1 h2 h3 h4 h5 h6 h7=>rw[ho]at h1;exact .mem h1 (by rw[<-hb _ (by rw[h1]; rfl)]; exact h2) h3 h4 h5 h6 h7
 | bld h1 h2 h3=>rw[ho]at h1;exact .bld h1 (by rw[<-hb _ (by rw[h1]; rfl)]; exact h2) h3
 | arm h1 h2 h3 h4 h5 h6 h7=>rw[ho]at h1;exact .arm h1 (by rw[<-hb _ (by rw[h1]; rfl)]; exact h2) h3 h4 h5 h6 h7
theorem dD.mono{F:Nat->Prop}{g:Nat->Value}{w:World}(h:∀ b,F b->F' b/\w'.heap[b]? = w.heap[b]?){x:bA}(r:dD F g w o x)
  (ho:g' o=g o)(hg:∀ o,o∈x.names->g' o=g o)(hb:∀ b,bG g w o x b->w'.heap[b]? = w.heap[b]?):dD F' g' w' o x:=r.monoF h ho hg hb
theorem Act.put_size(a:Act)(d:Nat)(v:Value):(a.put (some d) v).tmps.size=a.tmps.size:=by simp[Act.put]
theorem Act.put_defers(a:Act)(d:Option Nat)(v:Value):(a.put d v).defers=a.defers:=by cases d <;> rfl
theorem Act.put_same(a:Act)(d:Nat)(v:Value)(h:d<a.tmps.size):(a.put (some d) v).tmps.getD d undef=v:=by simp[Act.put,h]
theorem Act.put_other(a:Act)(d t:Nat)(v:Value)(h:t≠d):(a.put (some d) v).tmps.getD t undef=a.tmps.getD t undef:=by
 have h':d≠t:=fun e=>h e.symm;simp only[Act.put];by_cases ht:t<a.tmps.size
 ·simp[ht,h']
 ·simp[ht]
theorem cL.put{E:Env}{F:Nat->Prop}{g:Nat->Value}{st:St}{a:Act}{w:World}(r:cL E F g st a w){d:Nat}{x:PV}{v:Value}(hd:d<E.nt)
  (h:VR F g w x v):cL E F g (st.put d x) (a.put (some d) v) w where
 nt:=by rw[Act.put_size]; exact r.nt
 df:=by rw[Act.put_defers]; exact r.df
 fr:=by
  intro t y hy;simp only[St.put,aX,gQ]at hy;rcases hy with⟨rfl,rfl⟩ | hy
  ·rw[Act.put_same _ _ _ (by rw[r.nt]; exact hd)]; exact h
  ·obtain⟨h1,h2⟩:=bD.1 hy;rw[Act.put_other _ _ _ _ h2]; exact r.fr t y h1
 w:=r.w
theorem cL.putW{E:Env}{F:Nat->Prop}{g:Nat->Value}{st st':St}{a:Act}{w:World}(r:cL E F g st a w){x:PV}(hd:d<E.nt)
  (hf:∀ b,F b->F' b/\w'.heap[b]? = w.heap[b]?)(hg:∀ t y,(t,y)∈st'.fr->(t,y)∈st.fr/\∀ o,o∈y.names->g' o=g o)(hw:nC E F' g' st'.hp w')
  (h:VR F' g' w' x v):cL E F' g' (st'.put d x) (a.put (some d) v) w' where
 nt:=by rw[Act.put_size]; exact r.nt
 df:=by rw[Act.put_defers]; exact r.df.mono hf
 fr:=by
  intro t y hy;simp only[St.put,aX,gQ]at hy;rcases hy with⟨rfl,rfl⟩ | hy
  ·rw[Act.put_same _ _ _ (by rw[r.nt]; exact hd)]; exact h
  ·obtain⟨h1,h2⟩:=bD.1 hy;obtain⟨h3,h4⟩:=hg t y h1;rw[Act.put_other _ _ _ _ h2]; exact(r.fr t y h3).mono hf h4
 w:=hw
theorem aOR.trans{B:Nat->Prop}{w0 w w':World}(h:aOR B w0 w)(h1:w'.os=w.os)(h2:w'.tape=w.tape)(h3:w'.output=w.output)(h4:w.heap.size<=w'.heap.size)
  (h5:∀ b,b<w0.heap.size->¬ B b->w'.heap[b]? = w.heap[b]?):aOR B w0 w':=
 ⟨h1.trans h.os,h2.trans h.tape,h3.trans h.output,gV h.size h4,fun b hb hB=>(h5 b hb hB).trans (h.block b hb hB)⟩
def PV.mentions(o:Nat)(x:PV):Bool:=x.names.any fun k=>Nat.beq k o
theorem PV.not_mentions{x:PV}(h:x.mentions o=false):∀ k,k∈x.names->k≠o:=by intro k hk he;subst he;simp only[PV.mentions,Ib]at h;exact h k hk (mR k)
def bA.mentions(o:Nat)(x:bA):Bool:=x.names.any fun k=>Nat.beq k o
theorem bA.not_mentions{x:bA}(h:x.mentions o=false):∀ k,k∈x.names->k≠o:=by intro k hk he;subst he;simp only[bA.mentions,Ib]at h;exact h k hk (mR k)
def PV.er(o:Nat)(x:PV):Option PV:=
 match x.mentions o with
 | false=>some x
 | true=>match x with
  | .own _=>some .any
  | .ptr _ _=>some .any
  | .aptr _ _ _ _=>some .any
  | .osl _ _ _ _=>some .any
  | .map _=>some .any
  | .fn _ _ _=>some .any
  | _=>none
def pM(o:Nat):List PV->Option (List PV)
 | []=>some []
 | x::l=>match x.er o,pM o l with
  | some y,some r=>some (y::r)
  | _,_=>none
theorem PV.er_ok{x y:PV}(h:x.er o=some y):(∀ k,k∈y.names->k≠o)/\∀ F g w v,VR F g w x v->VR F g w y v:=by
 unfold PV.er at h;split at h
 ·rename_i hm; cases h; exact⟨PV.not_mentions hm,fun _ _ _ _ h=>h⟩
 ·split at h <;> cases h
  all_goals
   refine⟨by simp[PV.names],fun F g w v hv=>?_⟩;cases hv <;> exact .any rfl
theorem Aj{o:Nat}:∀ {l r:List PV},pM o l=some r->r.length=l.length/\(∀ k,k∈PV.names.go r->k≠o) /\
  ∀ (j:Nat) y,r[j]? = some y->∃ x,l[j]? = some x/\∀ F g w v,VR F g w x v->VR F g w y v
 | [],r,h=>by simp[pM]at h; subst h; simp[PV.names.go]
 | x::l,r,h=>by
  simp only[pM]at h;split at h
  ·rename_i y r' hy hr;cases h;obtain⟨h1,h2,h3⟩:=Aj hr;obtain⟨h4,h5⟩:=PV.er_ok hy;refine⟨by simp[h1],fun k hk=>?_,fun j z hz=>?_⟩
   ·simp only[PV.names.go,dZ]at hk;rcases hk with hk | hk
    ·exact h4 k hk
    ·exact h2 k hk
   ·cases j with
    | zero=>simp at hz; subst hz; exact⟨x,by simp,h5⟩
    | succ j=>simpa using h3 j z (by simpa using hz)
  ·cases h
def Jw(o:Nat):Option Iter->Option Iter
 | none=>none
 | some i=>match Nat.beq i.o o with | true=>none | false=>some i
def Fy(o:Nat):Option (T×Option PV)->Option (T×Option PV)
 | some (k,some p)=>match p.mentions o with | true=>some (k,none) | false=>some (k,some p)
 | x=>x
def Jz(o:Nat):Option (Nat×Nat×PV)->Option (Nat×Nat×PV)
 | some (i,j,p)=>match p.mentions o with | true=>none | false=>some (i,j,p)
 | none=>none
def bA.er(o:Nat):bA->Option bA
 | .arm e s n f ov=>some (.arm e s n f (Jz o ov))
 | .box l=>match pM o l with | some r=>some (.box r) | none=>none
 | .arr e s n f=>some (.arr e s n f)
 | .mpb n m=>some (.mpb n m)
 | .mp it m ho=>some (.mp (Jw o it) m (Fy o ho))
 | .bld ty e s=>some (.bld ty e s)
theorem Fw{it:Option Iter}:(∀ k,k∈itN (Jw o it)->k≠o)/\(Jw o it=it\/Jw o it=none):=by
 cases it with
 | none=>simp[Jw,itN]
 | some i=>
  simp only[Jw];split
  ·exact⟨by simp[itN],.inr rfl⟩
  ·rename_i hk;exact⟨fun k hk'=>by simp[itN]at hk'; subst hk'; exact nP hk,.inl rfl⟩
theorem En{ho:Option (T×Option PV)}:(∀ k,k∈hoN (Fy o ho)->k≠o)/\hoK (Fy o ho)=hoK ho/\∀ F g w l,mB F g w ho l->mB F g w (Fy o ho) l:=by
 rcases ho with _ | ⟨k,_ | p⟩
 ·exact⟨by simp[Fy,hoN],rfl,fun _ _ _ _ h=>h⟩
 ·exact⟨by simp[Fy,hoN],rfl,fun _ _ _ _ h=>h⟩
 ·simp only[Fy];split
  ·exact⟨by simp[hoN],rfl,fun F g w l ⟨e,h1,h2,_⟩=>.inr ⟨e,h1,h2⟩⟩
  ·rename_i hm;exact⟨fun k hk=>PV.not_mentions hm k hk,rfl,fun _ _ _ _ h=>h⟩
theorem We{ov:Option (Nat×Nat×PV)}:(∀ k,k∈ovN (Jz o ov)->k≠o)/\(Jz o ov=ov\/Jz o ov=none):=by
 rcases ov with _ | ⟨i,j,p⟩
 ·exact⟨by simp[Jz,ovN],.inl rfl⟩
 ·simp only[Jz];split
  ·exact⟨by simp[ovN],.inr rfl⟩
  ·rename_i hm;exact⟨fun k hk=>PV.not_mentions hm k hk,.inl rfl⟩
theorem bA.er_foot{x y:bA}(h:x.er o=some y){g:Nat->Value}{w:World}{t:Nat}(hf:bG g w t y b):bG g w t x b:=by
 cases hf with
 | self h=>exact .self h
 | @iter i m ho b hb=>
  cases x with
  | mp it m' ho'=>
   simp only[bA.er,gO,bA.mp.injEq]at h;rcases (Fw (o:=o) (it:=it)).2 with e | e
   ·rw[e]at h; rw[h.1]; exact .iter hb
   ·rw[e]at h; cases h.1
  | box l=>simp only[bA.er]at h; split at h <;> cases h
  | arr=>cases h
  | mpb=>cases h
  | bld=>cases h
  | arm=>cases h
 | mem h1 h2 h3 h4 h5 h6 h7=>
  cases x with
  | mp it m' ho'=>simp only[bA.er,gO,bA.mp.injEq]at h;rw[<-h.2.1]at h4;exact .mem h1 h2 h3 h4 h5 h6 h7
  | box l=>simp only[bA.er]at h; split at h <;> cases h
  | arr=>cases h
  | mpb=>cases h
  | bld=>cases h
  | arm=>cases h
 | arm h1 h2 h3 h4 h5 h6 h7=>
  cases x with
  | arm e s n f ov=>simp only[bA.er,gO,bA.arm.injEq]at h;obtain⟨rfl,rfl,rfl,rfl,_⟩:=h;exact .arm h1 h2 h3 h4 h5 h6 h7
  | box l=>simp only[bA.er]at h; split at h <;> cases h
  | arr=>cases h
  | mpb=>cases h
  | mp=>cases h
  | bld=>cases h
 | bld h1 h2 h3=>
  cases x with
  | bld ty e s=>simp only[bA.er,gO,bA.bld.injEq]at h; obtain⟨rfl,rfl,rfl⟩:=h; exact .bld h1 h2 h3
  | box l=>simp only[bA.er]at h; split at h <;> cases h
  | arr=>cases h
  | mpb=>cases h
  | mp=>cases h
  | arm=>cases h
theorem bA.er_ok{x y:bA}(h:x.er o=some y):(∀ k,k∈y.names->k≠o)/\∀ F g w t,dD F g w t x->dD F g w t y:=by
 cases x with
 | box l=>
  simp only[bA.er]at h;split at h
  ·rename_i r hr;cases h;obtain⟨h1,h2,h3⟩:=Aj hr;refine⟨h2,fun F g w t ⟨b,vs,ty,e1,e2,e3,e4⟩=>⟨b,vs,ty,e1,e2,by omega,fun j y v hy hv=>?_⟩⟩;obtain⟨x,hx,hxy⟩:=h3 j y hy;exact hxy _ _ _ _ (e4 j x v hx hv)
  ·cases h
 | arr e s n f=>simp only[bA.er]at h; cases h;exact⟨by simp[bA.names],fun _ _ _ _ h=>h⟩
 | mpb n m=>simp only[bA.er]at h; cases h;exact⟨by simp[bA.names],fun _ _ _ _ h=>h⟩
 | bld ty e s=>simp only[bA.er]at h; cases h;exact⟨by simp[bA.names],fun _ _ _ _ h=>h⟩
 | arm e s n f ov=>
  simp only[bA.er]at h; cases h;refine⟨(We (o:=o)).1,fun F g w t h=>?_⟩;rcases (We (o:=o) (ov:=ov)).2 with e1 | e1
  ·rw[e1]; exact h
  ·rw[e1];rcases h with⟨h1,h2,_⟩ | ⟨b,cap,cur,h1,h2,h3,h4,h5,hC⟩
   ·exact .inl ⟨h1,h2,rfl⟩
   ·exact .inr ⟨b,cap,cur,h1,h2,h3,h4,h5,hC.len,hC.cell,hC.sep,hC.own,fun i j p e=>by cases e⟩
 | mp it m ho=>
  simp only[bA.er]at h; cases h;refine⟨fun k hk=>?_,fun F g w t ⟨b,es,cl,h1,h2,l,r,hM⟩=>⟨b,es,cl,h1,h2,l,r,hM.perm,hM.ent,(En (o:=o)).2.2 _ _ _ _ hM.hole,?_,hM.born,hM.old,hM.sep,?_⟩⟩
  ·simp only[bA.names,dZ]at hk;rcases hk with hk | hk
   ·exact(Fw (o:=o)).1 k hk
   ·exact(En (o:=o)).1 k hk
  ·rw[(En (o:=o)).2.1]; exact hM.keys
  ·rcases (Fw (o:=o) (it:=it)).2 with e | e
   ·rw[e]; exact hM.it
   ·rw[e]; exact True.intro
def Jh(o:Nat):Hp->Option Hp
 | []=>some []
 | (k,x)::l=>match Nat.beq k o with
  | true=>Jh o l
  | false=>match x.er o,Jh o l with
   | some y,some r=>some ((k,y)::r)
   | _,_=>none
def St.erase(o:Nat)(st:St):Option St:=
 match Jh o st.hp with
 | none=>none
 | some h=>some { fr:=st.fr.filter (fun e=>!(e.2.mentions o)),hp:=h }
theorem St.erase_fr{st st':St}(h:st.erase o=some st'):(∀ t x,(t,x)∈st'.fr->(t,x)∈st.fr/\∀ k,k∈x.names->k≠o):=by
 unfold St.erase at h;split at h
 ·cases h
 ·simp at h; subst h;intro t x hx;simp only[uD]at hx;exact⟨hx.1,PV.not_mentions (by simpa using hx.2)⟩
theorem Eg{o:Nat}:∀ {l r:Hp},Jh o l=some r->∀ t y,(t,y)∈r->∃ x,(t,x)∈l/\t≠o/\(∀ k,k∈y.names->k≠o)/\(∀ F g w,dD F g w t x->dD F g w t y)/\∀ g w b,bG g w t y b->bG g w t x b
 | [],r,h,t,y,hy=>by simp[Jh]at h; subst h; simp at hy
 | (k,x)::l,r,h,t,y,hy=>by
  simp only[Jh]at h;split at h
  ·obtain⟨x',h1,h2⟩:=Eg h t y hy;exact⟨x',cV _ h1,h2⟩
  ·rename_i hk;split at h
   ·rename_i y' r' hy' hr;cases h;rcases aX.1 hy with e | hy
    ·cases e;obtain⟨h1,h2⟩:=bA.er_ok hy';exact⟨x,by simp,nP hk,h1,fun F g w=>h2 F g w _,fun g w b=>bA.er_foot hy'⟩
    ·obtain⟨x',h1,h2⟩:=Eg hr t y hy;exact⟨x',cV _ h1,h2⟩
   ·cases h
theorem St.erase_hp{st st':St}(h:st.erase o=some st'):∀ t y,(t,y)∈st'.hp->∃ x,(t,x)∈st.hp/\t≠o/\(∀ k,k∈y.names->k≠o)/\(∀ F g w,dD F g w t x->dD F g w t y)/\∀ g w b,bG g w t y b->bG g w t x b:=by
 unfold St.erase at h;split at h
 ·cases h
 ·rename_i hr;simp at h; subst h;exact Eg hr
def upd(g:Nat->Value)(o:Nat)(v:Value):Nat->Value:=fun k=>if k=o then v else g k
theorem bM(g:Nat->Value)(o:Nat)(v:Value):upd g o v o=v:=by simp[upd]
theorem bR(g:Nat->Value){k:Nat}(v:Value)(h:k≠o):upd g o v k=g k:=by simp[upd,h]
theorem VR.cells_t{F:Nat->Prop}{g:Nat->Value}{w:World}{x:PV}(h:VR F g w x v){y:T}(e:x = .t y):Rd F w y v:=by subst e; cases h with | t h=>exact h
theorem HpR.change{F:Nat->Prop}{g:Nat->Value}{st st':St}{w:World}{x:bA}{B:Nat->Prop}(r:HpR F g w B st.hp)(he:st.erase d=some st')
  (hg:∀ o,o≠d->g' o=g o)(hF:∀ b,F b->F' b/\w'.heap[b]? = w.heap[b]?)(hF':∀ b,F' b->F b)
  (hw:∀ o y b,(o,y)∈st.hp->o≠d->bG g w o y b->w'.heap[b]? = w.heap[b]?)(hx:dD F' g' w' d x)
  (hown:∀ b,bG g' w' d x b->¬ F' b/\B b)(hsep:∀ o y b,(o,y)∈st.hp->o≠d->bG g w o y b->bG g' w' d x b->False):
  HpR F' g' w' B ((d,x)::st'.hp):=by
 have foot:∀ o y b,(o,y)∈st'.hp->bG g' w' o y b->∃ y',(o,y')∈st.hp/\o≠d/\bG g w o y' b:=by intro o y b ho hb;obtain⟨y',h1,h2,h3,h4,h5⟩:=St.erase_hp he o y ho;exact⟨y',h1,h2,h5 _ _ _ (hb.mono (hg o h2) (fun k hk=>hg k (h3 k hk)) (fun b' hb'=>hw o y' b' h1 h2 (.self hb')))⟩
 refine⟨?_,?_,?_⟩
 ·intro o y ho;rcases aX.1 ho with e | ho
  ·cases e; exact hx
  ·obtain⟨y',h1,h2,h3,h4,h5⟩:=St.erase_hp he o y ho;exact(h4 _ _ _ (r.obj o y' h1)).mono hF (hg o h2) (fun k hk=>hg k (h3 k hk)) (fun b hb=>hw o y' b h1 h2 (h5 _ _ _ hb))
 ·intro o y b ho hb;rcases aX.1 ho with e | ho
  ·cases e; exact hown b hb
  ·obtain⟨y',h1,h2,h3⟩:=foot o y b ho hb;exact⟨fun h=>(r.own o y' b h1 h3).1 (hF' b h),(r.own o y' b h1 h3).2⟩
 ·intro o y o' y' b ho ho' hne hb hb';rcases aX.1 ho with e | ho
  ·cases e;rcases aX.1 ho' with e' | ho'
   ·cases e'; exact hne rfl
   ·obtain⟨z,h1,h2,h3⟩:=foot o' y' b ho' hb';exact hsep o' z b h1 h2 h3 hb
  ·obtain⟨z,h1,h2,h3⟩:=foot o y b ho hb;rcases aX.1 ho' with e' | ho'
   ·cases e'; exact hsep o z b h1 h2 h3 hb'
   ·obtain⟨z',h1',h2',h3'⟩:=foot o' y' b ho' hb';exact r.sep o z o' z' b h1 h1' hne h3 h3'
theorem cL.allocF{E:Env}{F:Nat->Prop}{g:Nat->Value}{st st':St}{a:Act}{w:World}(r:cL E F g st a w){x:bA}(hd:d<E.nt)
  (hn:d∉E.N)(he:st.erase d=some st')(hv:blk v=some w.heap.size)(hw:w'.heap=w.heap.push ob)(hos:w'.os=w.os)(htp:w'.tape=w.tape)(hout:w'.output=w.output)
  (hft:∀ g' b,g' d=v->bG g' w' d x b->blk v=some b)(hx:∀ g',(∀ o,o≠d->g' o=g o)->g' d=v->dD F g' w' d x)(p:PV)(hp:∀ g',g' d=v->VR F g' w' p v):
  ∃ g',cL E F g' ({ st' with hp:=(d,x)::st'.hp }.put d p) (a.put (some d) v) w':=by
 have hsz:w'.heap.size=w.heap.size+1:=by rw[hw]; simp
 have hold:∀ b,b<w.heap.size->w'.heap[b]? = w.heap[b]?:=by intro b hb;rw[hw,Dp,aF (Nat.ne_of_lt hb)]
 have hF:∀ b,F b->F b/\w'.heap[b]? = w.heap[b]?:=fun b hb=>⟨hb,hold b (r.w.f1 b hb).1⟩;refine⟨upd g d v,r.putW hd hF (fun t y hy=>?_) ?_ (hp _ (bM ..))⟩
 ·obtain⟨h1,h2⟩:=St.erase_fr he t y hy;exact⟨h1,fun o ho=>bR g v (h2 o ho)⟩
 ·refine⟨HpR.change r.w.hp he (fun o ho=>bR g v ho) hF (fun _ h=>h) (fun o y b ho _ hb=>hold b (hb.block (r.w.hp.obj o y ho))) (hx _ (fun o ho=>bR g v ho) (bM ..))
   (fun b hb=>?_) (fun o y b ho _ hb hb'=>?_),r.w.f0,fun b hb=>⟨by have:=(r.w.f1 b hb).1; omega,(r.w.f1 b hb).2⟩,
   r.w.ext.trans hos htp hout (by omega) (fun b hb _=>hold b (by have:=r.w.ext.size; omega)),fun o ho=>?_,r.w.b0⟩
  ·have hb:=hft _ _ (bM ..) hb;rw[hv]at hb;simp at hb; subst hb;exact⟨fun hF'=>by have:=(r.w.f1 _ hF').1; omega,.inr r.w.ext.size⟩
  ·have hb':=hft _ _ (bM ..) hb';rw[hv]at hb';simp at hb'; subst hb';have:=hb.block (r.w.hp.obj o y ho);omega
  ·rw[bR g v (fun e:o=d=>hn (e▸ho))];exact r.w.names o ho
theorem cL.alloc{E:Env}{F:Nat->Prop}{g:Nat->Value}{st st':St}{a:Act}{w:World}(r:cL E F g st a w){x:bA}(hd:d<E.nt)
  (hn:d∉E.N)(he:st.erase d=some st')(hv:blk v=some w.heap.size)(hw:w'.heap=w.heap.push ob)(hos:w'.os=w.os)(htp:w'.tape=w.tape)(hout:w'.output=w.output)
  (hpl:x.plain=true)(hx:∀ g',(∀ o,o≠d->g' o=g o)->g' d=v->dD F g' w' d x)(p:PV)(hp:∀ g',g' d=v->VR F g' w' p v):
  ∃ g',cL E F g' ({ st' with hp:=(d,x)::st'.hp }.put d p) (a.put (some d) v) w':=
 r.allocF hd hn he hv hw hos htp hout (fun g' b hg hb=>by rw[<-hg]; exact hb.toBlk hpl) hx p hp
inductive U where
 | int (k:IntKind) | bool | str
 | sl (e:Nat) | st (fs:List (Nat×Nat)) | arr (n e:Nat) | mp (k e:Nat) | ptr (e:Nat)
 | other | ifc
structure eG where
 size:Nat
 bytes:Nat
 und:U
 zero:List PV
 eqn:Nat:=0
 eqf:Nat:=0
def U.isAgg:U->Bool | .st _=>true | .arr _ _=>true | _=>false
def UR(P:Program)(t:TypeId):U->Prop
 | .int k=>P.underlying t=some (.int k)
 | .bool=>P.underlying t=some .bool
 | .str=>P.underlying t=some .string
 | .sl e=>P.underlying t=some (.slice e)
 | .st fs=>∃ fields:Array Field,P.underlying t=some (.struct fields)/\fields.toList.map (fun f=>(f.offset,f.type))=fs
 | .arr n e=>P.underlying t=some (.array n e)
 | .mp k e=>P.underlying t=some (.map k e)
 | .ptr e=>P.underlying t=some (.pointer e)
 | .ifc=>∃ ms,P.underlying t=some (.interface ms)
 | .other=>∃ d,P.underlying t=some d/\(match d with | .struct _ | .array _ _=>true | _=>false)=false
def tM:Value->Option PV
 | .int k n=>some (.t (.int k n))
 | .bool b=>some (.t (.bool b))
 | .string s=>some (.t (.str s))
 | .slice none 0 0=>some .nil
 | .pointer none=>some .np
 | .map none=>some (.lit (.map none))
 | .nilFunc=>some (.lit .nilFunc)
 | .nilIface=>some (.lit .nilIface)
 | _=>none
theorem sO{p:PV}(h:tM v=some p)(F:Nat->Prop)(g:Nat->Value)(w:World):VR F g w p v:=by
 unfold tM at h;split at h <;> simp at h <;> subst h
 ·exact .t (.int _ _)
 ·exact .t (.bool _)
 ·exact .t (.str _)
 ·exact .nil
 ·exact .np
 ·exact .lit rfl
 ·exact .lit rfl
 ·exact .lit rfl
def gC:List T->List T->Option Bool
 | [],[]=>some true
 | .int k a::l,.int k' b::r=>if k=k' then (match gC l r with | some c=>some ((a==b)&&c) | none=>none) else none
 | .str a::l,.str b::r=>match gC l r with | some c=>some ((a.toList==b.toList)&&c) | none=>none
 | .bool a::l,.bool b::r=>match gC l r with | some c=>some ((a==b)&&c) | none=>none
 | _,_=>none
def mF:List T->Nat
 | []=>0
 | .int _ _::l=>1+4*mF l
 | .str _::l=>2+4*mF l
 | .bool _::l=>3+4*mF l
 | _::l=>4*mF l
def uX:T->Value
 | .int k a=>.int k a
 | .str a=>.string a
 | .bool a=>.bool a
 | _=>undef
def aZA(P:Program)(t:TypeId)(n:Nat):Prop:=n≠0->P.eqGuardType P.depth t=false /\
 ∀ (xs ys:List Int) (w:World),xs.length=n->ys.length=n->(Op.equalIn 10000 t (.agg (xs.map (Value.int .i64)).toArray) (.agg (ys.map (Value.int .i64)).toArray)).run P w = .ok (xs==ys) w
def aRG(P:Program)(t:TypeId)(n:Nat):Prop:=n≠0->P.eqGuardType P.depth t=false /\
 ∀ (l r:List T) (b:Bool) (w:World),gC l r=some b->mF l=n->(Op.equalIn 10000 t (.agg (l.map uX).toArray) (.agg (r.map uX).toArray)).run P w = .ok b w
def aRD(P:Program)(t:TypeId)(i:eG):Prop:=∀ m e,i.und = .arr m e->i.eqn≠0->∀ (em:Bool) (xs:List Int) (w:World),xs.length=i.eqn->(Instr.checkKey em 10000 t (sI xs)).run P w = .ok () w
structure TOk (P:Program)(t:TypeId)(i:eG):Prop where
 info:∃ info,P.info? t=some info/\info.size=i.size/\info.bytes=i.bytes/\∃ z,info.zero=some z/\z.cells.toList.map tM=i.zero.map some
 und:UR P t i.und
 eqv:aZA P t i.eqn
 eqf:aRG P t i.eqf
 keyv:aRD P t i
 zb:i.und = .bool->∃ info,P.info? t=some info/\info.zero=some (.bool false)
def kL(P:Program)(ti:Nat->Option eG):Prop:=∀ t i,ti t=some i->TOk P t i
abbrev Fx:=(Nat->Prop)->(Nat->Value)->World->(Nat->Prop)->Prop
def fx0:Fx:=fun _ _ _ _=>True
structure Inf where
 ti:Nat->Option eG
 N:List Nat
 nt:Nat
 fx:Fx:=fx0
 top:Bool:=true
def ev(st:St):Operand->Option PV
 | .tmp t=>bK st.fr t
 | .const v=>tM v
 | .func f=>some (.fn (.func f) 0 [])
 | .global _=>none
theorem bW{E:Env}{F:Nat->Prop}{g:Nat->Value}{st:St}{a:Act}{w:World}(r:cL E F g st a w){x:Operand}{p:PV}(h:ev st x=some p):
  VR F g w p (a.eval x):=by
 cases x with
 | tmp t=>exact r.fr t p (aU h)
 | const v=>exact sO h F g w
 | func f=>simp[ev]at h; subst h; exact .fn rfl rfl (fun j x v hx=>by simp at hx)
 | global _=>simp[ev]at h
def zR:List PV->Option (List T)
 | []=>some []
 | .t x::l=>match zR l with | some r=>some (x::r) | none=>none
 | _::_=>none
theorem Gp{l:List PV}{r:List T}(h:zR l=some r):l=r.map PV.t:=by
 induction l generalizing r with
 | nil=>simp[zR]at h; subst h; rfl
 | cons x l ih=>
  unfold zR at h;split at h
  ·rename_i heq; cases heq
  ·rename_i y l' heq; cases heq;cases hl:zR l with
   | none=>simp[hl]at h
   | some r'=>simp[hl]at h; subst h; simp[ih hl]
  ·exact absurd h (by simp)
def Jv(l:List PV):PV:=match zR l with | some r=>.t (.agg r) | none=>.agg l
theorem qH{F:Nat->Prop}{g:Nat->Value}{w:World}{l:List PV}{vs:Array Value}(hs:vs.size=l.length)
  (h:∀ (j:Nat) x v,l[j]? = some x->vs[j]? = some v->VR F g w x v):VR F g w (Jv l) (.agg vs):=by
 unfold Jv;cases hl:zR l with
 | none=>exact .agg hs h
 | some r=>have e:=Gp hl;refine .t (.agg (by rw[hs,e]; simp) fun j x v hx hv=>?_);exact(h j (.t x) v (by rw[e]; simp[hx]) hv).cells_t rfl
def PV.cells:PV->List PV
 | .t (.agg l)=>l.map PV.t
 | .agg l=>l
 | x=>[x]
def PV.one:PV->Bool
 | .t (.agg _)=>false
 | .agg _=>false
 | .tup _=>false
 | .any=>false
 | .lit .nilFunc=>true
 | .lit _=>false
 | .ifx=>false
 | _=>true
theorem VR.cells{F:Nat->Prop}{g:Nat->Value}{w:World}{x:PV}{v:Value}(h:VR F g w x v):
  v.cells.size=x.cells.length/\∀ (j:Nat) y u,x.cells[j]? = some y->v.cells[j]? = some u->VR F g w y u:=by
 have one:∀ (x:PV) (v:Value),x.cells=[x]->v.cells=#[v]->VR F g w x v ->
   v.cells.size=x.cells.length/\∀ (j:Nat) y u,x.cells[j]? = some y->v.cells[j]? = some u->VR F g w y u:=by
  intro x v hx hv h;rw[hx,hv];refine⟨rfl,fun j y u hy hu=>?_⟩;cases j with
  | zero=>simp at hy hu; subst hy; subst hu; exact h
  | succ j=>simp at hy
 cases h with
 | t r=>
  cases r with
  | agg hs hr=>refine⟨by simp[PV.cells,Value.cells,hs],fun j y u hy hu=>?_⟩;simp only[PV.cells,fD,gB]at hy;obtain⟨z,hz,rfl⟩:=hy;exact .t (hr j z u hz hu)
  | int k n=>exact one _ _ rfl rfl (.t (.int k n))
  | bool b=>exact one _ _ rfl rfl (.t (.bool b))
  | str s=>exact one _ _ rfl rfl (.t (.str s))
  | fv f=>exact one _ _ rfl rfl (.t (.fv f))
  | nil h=>exact one _ _ (by cases ‹T› <;> first | rfl | simp[T.view]at h) rfl (.t (.nil h))
  | sl a cap size vs h hc hF hs hv hr=>exact one _ _ (by cases ‹T› <;> first | rfl | simp[T.view]at h) rfl (.t (.sl a cap size vs h hc hF hs hv hr))
 | ptr e=>exact one _ _ rfl rfl (.ptr e)
 | eptr a hF e=>exact one _ _ rfl rfl (.eptr a hF e)
 | own e=>exact one _ _ rfl rfl (.own e)
 | aptr e=>exact one _ _ rfl rfl (.aptr e)
 | map e=>exact one _ _ rfl rfl (.map e)
 | nil=>exact one _ _ rfl rfl .nil
 | np=>exact one _ _ rfl rfl .np
 | any h=>exact one _ _ rfl h (.any h)
 | lit h=>exact one _ _ rfl h (.lit h)
 | osl e=>exact one _ _ rfl rfl (.osl e)
 | ifx=>exact one _ _ rfl rfl .ifx
 | fn hn hs hr=>exact one _ _ rfl rfl (.fn hn hs hr)
 | tup hs hr=>exact one _ _ rfl rfl (.tup hs hr)
 | agg hs hr=>exact⟨by simp[PV.cells,Value.cells,hs],hr⟩
theorem Addr.add_add(a:Addr)(x y:Nat):(a.add x).add y=a.add (x+y):=by
 unfold Addr.add;by_cases hx:x=0
 ·subst hx; simp
 ·by_cases hy:y=0
  ·subst hy; simp[hx]
  ·simp[hx,hy,oH]
theorem Addr.add_none(b o n:Nat):(⟨b,o,none⟩:Addr).add n=⟨b,o+n,none⟩:=by unfold Addr.add; split <;> simp_all
section
variable {P:Program} {w:World}
theorem lF{u:U}(h:UR P t u):(isAgg t).run P w = .ok u.isAgg w:=by
 unfold isAgg;cases u <;> simp only[UR]at h
 case st fs=>obtain⟨fields,h,_⟩:=h;rw[Sem.run_bind,run_underlying h w]; simp[U.isAgg]
 case ifc=>obtain⟨ms,h⟩:=h;rw[Sem.run_bind,run_underlying h w]; simp[U.isAgg]
 case other=>obtain⟨d,h,hd⟩:=h;rw[Sem.run_bind,run_underlying h w];cases d <;> simp_all [U.isAgg]
 all_goals (rw[Sem.run_bind,run_underlying h w]; simp[U.isAgg])
theorem run_sizeOf{i:eG}(h:TOk P t i):(sizeOf t).run P w = .ok i.size w:=by obtain⟨info,h1,h2,_⟩:=h.info;simp[sizeOf,typeInfo,h1,h2]
theorem xZ{i:eG}(h:TOk P t i)(hu:i.und.isAgg=true)(a:Addr)(vs:List Value)(hl:vs.length=i.size)
  (hc:∀ (j:Nat) v,vs[j]? = some v->w.cell? (a.add j)=some v):(loadVar t a).run P w = .ok (.agg vs.toArray) w:=by
 unfold loadVar;have:=run_loadCells_list (P:=P) w a vs hc;rw[hl]at this;simp[lF h.und,hu,run_sizeOf h,this]
theorem yB{i:eG}(h:TOk P t i)(hu:i.und.isAgg=false)(a:Addr)(v:Value)(hc:w.cell? a=some v):(loadVar t a).run P w = .ok v w:=by unfold loadVar;simp[lF h.und,hu,load,Sem.run,hc]
end
def jF(i:eG)(l:List PV):Option PV:=
 match i.und.isAgg with
 | true=>match Nat.beq (l.take i.size).length i.size with | true=>some (Jv (l.take i.size)) | false=>none
 | false=>match l with | x::_=>some x | []=>none
theorem rA{P:Program}{F:Nat->Prop}{g:Nat->Value}{w:World}{i:eG}(h:TOk P t i){l:List PV}{p:PV}(hp:jF i l=some p)(a:Addr)
  (hc:∀ (j:Nat) x,l[j]? = some x->∃ v,w.cell? (a.add j)=some v/\VR F g w x v):∃ v,(loadVar t a).run P w = .ok v w/\VR F g w p v:=by
 unfold jF at hp;split at hp
 ·rename_i hu;split at hp
  ·rename_i hl;have hl:=cJ hl;simp at hp; subst hp;have hlen:∀ j,j<i.size->j<l.length:=by intro j hj; simp at hl; omega
   have:∃ vs:List Value,vs.length=i.size/\∀ (j:Nat) v,vs[j]? = some v->w.cell? (a.add j)=some v:=by refine⟨(List.range i.size).map fun j=>(w.cell? (a.add j)).getD undef,by simp,fun j v hv=>?_⟩;simp only[fD,gB]at hv;obtain⟨k,hk,hv⟩:=hv;obtain⟨hk1,hk2⟩:=eK.1 hk;simp at hk1 hk2;subst hk2;have hj:=hlen j hk1;obtain⟨u,hu',_⟩:=hc j l[j] (by simp[hj]);rw[hu']at hv; simp at hv; subst hv; exact hu'
   obtain⟨vs,hvl,hvc⟩:=this;refine⟨_,xZ h hu a vs hvl hvc,qH (by simp[hvl]; simpa using hl.symm) fun j x v hx hv=>?_⟩;have hx':l[j]? = some x:=by
    rw[iR]at hx;split at hx
    ·exact hx
    ·cases hx
   obtain⟨u,hu',hr⟩:=hc j x hx';have:=hvc j v (by simpa using hv);rw[hu']at this; simp at this; subst this; exact hr
  ·cases hp
 ·rename_i hu;split at hp
  ·rename_i x l';simp at hp; subst hp;obtain⟨v,hv,hr⟩:=hc 0 x (by simp);refine⟨v,yB h hu a v ?_,hr⟩;simpa[Addr.add] using hv
  ·cases hp
def bBU(k:IntKind)(a b:Int):Int:=k.wrap ((BitVec.ofInt k.bits a &&& BitVec.ofInt k.bits b).toNat:Int)
def aBK(k:IntKind)(a b:Int):Int:=k.wrap ((BitVec.ofInt k.bits a ||| BitVec.ofInt k.bits b).toNat:Int)
def bAV(k:IntKind)(a b:Int):Int:=k.wrap ((BitVec.ofInt k.bits a ^^^ BitVec.ofInt k.bits b).toNat:Int)
def bBJ(k:IntKind)(a b:Int):Int:=k.wrap ((BitVec.ofInt k.bits a &&& ~~~ BitVec.ofInt k.bits b).toNat:Int)
def bBI(k:IntKind)(a b:Int):Int:=k.wrap (a*2 ^ (min b.toNat k.bits))
def aZU(k:IntKind)(a b:Int):Int:=a.fdiv (2 ^ (min b.toNat k.bits))
def Tz(op:BinOp)(k:IntKind)(a b:Int):Option (PV×Prop):=
 match op with
 | .add=>some (.t (.int k (k.wrap (a+b))),True)
 | .sub=>some (.t (.int k (k.wrap (a-b))),True)
 | .mul=>some (.t (.int k (k.wrap (a*b))),True)
 | .quo=>some (.t (.int k (k.wrap (a.tdiv b))),b≠0)
 | .rem=>some (.t (.int k (a.tmod b)),b≠0)
 | .eql=>some (.t (.bool (a==b)),True)
 | .neq=>some (.t (.bool (a != b)),True)
 | .lss=>some (.t (.bool (decide (a<b))),True)
 | .leq=>some (.t (.bool (decide (a<=b))),True)
 | .gtr=>some (.t (.bool (decide (a>b))),True)
 | .geq=>some (.t (.bool (decide (a>=b))),True)
 | .and=>some (.t (.int k (bBU k a b)),True)
 | .or=>some (.t (.int k (aBK k a b)),True)
 | .xor=>some (.t (.int k (bAV k a b)),True)
 | .andNot=>some (.t (.int k (bBJ k a b)),True)
 | _=>none
def Vs(op:BinOp)(a b:ByteArray):Option (PV×Prop):=
 match op with
 | .add=>some (.t (.str (a++b)),((a.size+b.size:Nat):Int)<=9223372036854775807)
 | .eql=>some (.t (.bool (a.toList==b.toList)),True)
 | .neq=>some (.t (.bool (!(a.toList==b.toList))),True)
 | .lss=>some (.t (.bool (Op.bytesLess a.toList b.toList)),True)
 | .leq=>some (.t (.bool (Op.bytesLess a.toList b.toList || a.toList==b.toList)),True)
 | .gtr=>some (.t (.bool (!(Op.bytesLess a.toList b.toList || a.toList==b.toList))),True)
 | .geq=>some (.t (.bool (!(Op.bytesLess a.toList b.toList))),True)
 | _=>none
def Fv(op:BinOp)(a b:Bool):Option (PV×Prop):=
 match op with
 | .eql=>some (.t (.bool (a==b)),True)
 | .neq=>some (.t (.bool (!(a==b))),True)
 | _=>none
def oY:List T->Option (List Int)
 | []=>some []
 | .int .i64 x::l=>match oY l with | some r=>some (x::r) | none=>none
 | _=>none
def aDQ(n f:Nat)(op:BinOp)(l r:List T):Option (PV×Prop):=
 match Nat.beq f 0 with
 | false=>match gC l r,Nat.beq (mF l) f with
  | some b,true=>match op with
   | .eql=>some (.t (.bool b),True)
   | .neq=>some (.t (.bool (!b)),True)
   | _=>none
  | _,_=>none
 | true=>match oY l,oY r with
 | some xs,some ys=>match Nat.beq xs.length n,Nat.beq ys.length n,Nat.ble 1 n with
  | true,true,true=>match op with
   | .eql=>some (.t (.bool (xs==ys)),True)
   | .neq=>some (.t (.bool (!(xs==ys))),True)
   | _=>none
  | _,_,_=>none
 | _,_=>none
def nQ:List (List Int×Bool)->List Int->Nat->Option (Nat×Bool)
 | [],_,_=>none
 | e::m,ks,i=>match ks==e.1 with | true=>some (i,e.2) | false=>nQ m ks (i+1)
def aLX(m:List (List Int×Bool))(ks:List Int):Bool:=match nQ m ks 0 with | some (_,b)=>b | none=>false
def aJX(m:List (List Int×Bool))(ks:List Int):Bool:=(nQ m ks 0).isSome
def Jn(m:List (List Int×Bool))(ks:List Int)(b:Bool):List (List Int×Bool):=match nQ m ks 0 with | some (i,_)=>m.set i (ks,b) | none=>m++[(ks,b)]
def aHP(I:Inf)(st:St)(t:Nat)(x k:PV):Option (Nat×List (List Int×Bool)×Nat×List Int):=
 match I.ti t,x,k with
 | some i,.map o,.t (.agg l)=>match i.und,bK st.hp o,oY l with
  | .mp kt et,some (.mpb n m),some ks=>match I.ti kt,I.ti et with
   | some ik,some ie=>match ik.und,ie.und,ie.zero,Nat.beq ik.eqn n,Nat.beq ks.length n,Nat.ble 1 n with
    | .arr _ _,.bool,[.t (.bool false)],true,true,true=>some (n,m,o,ks)
    | _,_,_,_,_,_=>none
   | _,_=>none
  | _,_,_=>none
 | _,_,_=>none
def bBS:BinOp->Bool | .shl=>true | .shr=>true | _=>false
def bBC(op:BinOp)(k:IntKind)(a b:Int):Option (PV×Prop):=
 match op with
 | .shl=>some (.t (.int k (bBI k a b)),0<=b)
 | .shr=>some (.t (.int k (aZU k a b)),0<=b)
 | _=>none
def Cj(op:BinOp)(u:U)(b:Bool):Option (PV×Prop):=
 match u,op with
 | .ptr _,.eql=>some (.t (.bool b),True)
 | .ptr _,.neq=>some (.t (.bool (!b)),True)
 | _,_=>none
def aWY(u:U)(op:BinOp)(y:Operand):Option (PV×Prop):=
 match u,y,op with
 | .ifc,.const _,.eql=>some (.t (.bool true),True)
 | .ifc,.const _,.neq=>some (.t (.bool false),True)
 | _,_,_=>none
def aVZ(u:U)(op:BinOp):Option (PV×Prop):=
 match u,op with
 | .ifc,.eql=>some (.t (.bool false),True)
 | .ifc,.neq=>some (.t (.bool true),True)
 | _,_=>none
def aPB(i:eG)(op:BinOp)(x y:PV):Option (PV×Prop):=
 match x,y with
 | .t (.int k a),.t (.int k' b)=>match bBS op with | true=>bBC op k a b | false=>if k=k' then Tz op k a b else none
 | .ptr _ _,.np=>Cj op i.und false
 | .np,.np=>Cj op i.und true
 | .t (.str a),.t (.str b)=>Vs op a b
 | .t (.agg l),.t (.agg r)=>aDQ i.eqn i.eqf op l r
 | .t (.bool a),.t (.bool b)=>match i.und with | .bool=>Fv op a b | _=>none
 | _,_=>none
def unP(op:UnOp)(x:PV):Option (PV×Prop):=
 match op,x with
 | .not,.t (.bool b)=>some (.t (.bool (!b)),True)
 | .neg,.t (.int k a)=>some (.t (.int k (k.wrap (0-a))),True)
 | _,_=>none
def aWR(st:St)(u:U)(x:PV):Option PV:=
 match u,x with
 | .str,.t (.str s)=>some (.t (.i s.size))
 | .sl _,.nil=>some (.t (.i 0))
 | .sl _,.own o=>match bK st.hp o with | some (.arr _ _ n _)=>some (.t (.i n)) | some (.arm _ _ n _ _)=>some (.t (.i n)) | _=>none
 | .sl _,.t x=>match x.view with | some (n,_)=>some (.t (.i n)) | none=>none
 | .sl _,.osl _ _ _ n=>some (.t (.i n))
 | _,_=>none
def aYM:PV->PV->Option PV
 | .t (.int k a),.t (.int _ b)=>some (.t (.int k (if b>a then b else a)))
 | _,_=>none
def aTI:PV->PV->Option PV
 | .t (.int k a),.t (.int _ b)=>some (.t (.int k (if b<a then b else a)))
 | _,_=>none
def Nq(ti:Nat->Option eG)(fs:List (Nat×Nat))(f:Nat):Option Nat:=
 match fs[f]? with
 | some (off,t)=>match ti t with
  | some i=>match Nat.beq i.size 0 with | true=>none | false=>some off
  | none=>none
 | none=>none
def vD(st:St)(s:Nat)(x:PV)(i:Int):Option (PV×Prop):=
 match x with
 | .t x=>match x.view with
  | some (n,f)=>match Nat.beq (f i.toNat).length s with
   | true=>some (.eptr (f i.toNat),0<=i/\i<(n:Int))
   | false=>none
  | none=>none
 | .own o=>match bK st.hp o with
  | some (.arr _ s' n _)=>match Nat.beq s' s with
   | true=>some (.aptr o s i.toNat 0,0<=i/\i<(n:Int))
   | false=>none
  | some (.arm _ s' n _ _)=>match Nat.beq s' s with
   | true=>some (.aptr o s i.toNat 0,0<=i/\i<(n:Int))
   | false=>none
  | _=>none
 | .osl o s' lo n=>match Nat.beq s' s with
  | true=>some (.aptr o s (lo+i.toNat) 0,0<=i/\i<(n:Int))
  | false=>none
 | _=>none
def eY(st:St)(d:Int):Option Operand->Option Int
 | none=>some d
 | some x=>match ev st x with | some (.t (.int _ n))=>some n | _=>none
def aZD(ov:Option (Nat×Nat×PV))(j:Nat):Option (Nat×PV):=
 match ov with
 | some (i,j',p)=>match Nat.beq j' j with | true=>some (i,p) | false=>none
 | none=>none
def qF(ov:Option (Nat×Nat×PV))(k:Nat):Nat->List Cel->Option (List PV×Prop)
 | _,[]=>some ([],True)
 | j,c::l=>match qF ov k (j+1) l with
  | some (r,C)=>match aZD ov j with
   | some (i,p)=>some (p::r,k=i/\C)
   | none=>match c with
    | .d x=>some (.t x::r,C)
    | .nl=>some (.nil::r,C)
    | _=>none
  | none=>none
def xW(st:St)(i:eG)(x:PV):Option (PV×Prop):=
 match x with
 | .ptr o off=>match bK st.hp o with
  | some (.box l)=>match jF i (l.drop off) with | some p=>some (p,True) | none=>none
  | _=>none
 | .eptr l=>match jF i (l.map PV.t) with | some p=>some (p,True) | none=>none
 | .aptr o s k off=>match bK st.hp o with
  | some (.arr _ s' n f)=>match Nat.beq s' s with
   | true=>match jF i (((f k).drop off).map PV.t) with | some p=>some (p,k<n) | none=>none
   | false=>none
  | some (.arm _ s' n f ov)=>match Nat.beq s' s,qF ov k off (((f k).drop off).take i.size) with
   | true,some (l,C)=>match jF i l with | some p=>some (p,k<n/\C) | none=>none
   | _,_=>none
  | _=>none
 | _=>none
def mJ(places:Nat->Option (Nat×Nat))(cells:List PV):List (Nat×PV)->Option (List PV)
 | []=>some cells
 | (i,x)::rest=>match places i with
  | none=>none
  | some (off,size)=>match Nat.beq x.cells.length size,Nat.ble (off+size) cells.length,(x.cells.all PV.one) with
   | true,true,true=>mJ places (cells.take off++x.cells++cells.drop (off+size)) rest
   | _,_,_=>none
def gM(st:St):List (Nat×Operand)->Option (List (Nat×PV))
 | []=>some []
 | (i,x)::l=>match ev st x,gM st l with
  | some p,some r=>some ((i,p)::r)
  | _,_=>none
def uZ(ti:Nat->Option eG):List (Nat×Nat)->Option (List (Nat×Nat))
 | []=>some []
 | (off,t)::l=>match ti t,uZ ti l with
  | some i,some r=>some ((off,i.size)::r)
  | _,_=>none
def Np(I:Inf)(st:St)(t:Nat)(parts:List (Nat×Operand)):Option PV:=
 match I.ti t,gM st parts with
 | some i,some ps=>match i.und with
  | .st fs=>match uZ I.ti fs with
   | some pl=>match mJ (pl[·]?) i.zero ps with | some c=>some (Jv c) | none=>none
   | none=>none
  | .arr _ e=>match I.ti e with
   | some ie=>match mJ (fun i=>some (i*ie.size,ie.size)) i.zero ps with | some c=>some (Jv c) | none=>none
   | none=>none
  | _=>none
 | _,_=>none
def hU(st:St):List Operand->Option (List PV)
 | []=>some []
 | x::l=>match ev st x,hU st l with
  | some p,some r=>some (p::r)
  | _,_=>none
def tr(x:Option PV):Option (PV×Prop):=match x with | some p=>some (p,True) | none=>none
def aLO:List T->Int | [.int .u8 k]=>k | _=>0
def aQJ:List T->Bool | [.int .u8 _]=>true | _=>false
def aVA(n:Nat)(f:Nat->List T):ByteArray:=((List.range n).map fun i=>aLO (f i)).foldl (fun r n=>r.push (UInt8.ofNat n.toNat)) ByteArray.empty
def zZ(st:St):PV->Option (Nat×(Nat->List T))
 | .own o=>match bK st.hp o with | some (.arr _ _ n f)=>some (n,f) | _=>none
 | .t x=>x.view
 | .nil=>some (0,fun _=>[])
 | _=>none
def aFU(I:Inf)(st:St)(c:Call):Option (PV×Prop):=
 match c.callee,c.args.toList,c.argTypes.toList with
 | .builtin .len,[x],[t]=>match I.ti t,ev st x with
  | some i,some p=>tr (aWR st i.und p)
  | _,_=>none
 | .builtin .cap,[x],[t]=>match I.ti t,ev st x with
  | some i,some .nil=>match i.und with | .sl _=>some (.t (.i 0),True) | _=>none
  | _,_=>none
 | .builtin .max,[x,y],_=>match ev st x,ev st y with
  | some p,some q=>tr (aYM p q)
  | _,_=>none
 | .builtin .min,[x,y],_=>match ev st x,ev st y with
  | some p,some q=>tr (aTI p q)
  | _,_=>none
 | _,_,_=>none
def xY(di:Nat):Hp->Option (PV×Prop)
 | []=>none
 | (_,.mp (some i) _ ho)::l=>match Nat.beq i.o di with
  | true=>match i.cur,ho with
   | some k',some (k,some p)=>some (.tup [.t k',p],k'=k)
   | _,_=>none
  | false=>xY di l
 | _::l=>xY di l
def aPT(I:Inf)(st:St)(u:U)(op:BinOp)(o o':Nat):Option (PV×Prop):=
 match u with
 | .ptr e=>match I.ti e with
  | some j=>match Nat.beq j.size 0,Nat.beq o o' with
   | false,true=>match op with | .eql=>some (.t (.bool true),True) | .neq=>some (.t (.bool false),True) | _=>none
   | false,false=>match bK st.hp o,bK st.hp o' with
    | some (.box _),some (.box _)=>match op with | .eql=>some (.t (.bool false),True) | .neq=>some (.t (.bool true),True) | _=>none
    | _,_=>none
   | _,_=>none
  | none=>none
 | _=>none
def pev(I:Inf)(st:St):Op->Option (PV×Prop)
 | .move x | .assign x=>tr (ev st x)
 | .pick c a b=>match ev st c with
  | some (.t (.bool true))=>tr (ev st a)
  | some (.t (.bool false))=>tr (ev st b)
  | _=>none
 | .load t a=>match I.ti t,ev st a with
  | some i,some x=>xW st i x
  | _,_=>none
 | .nilCheck x=>match ev st x with
  | some (.ptr o off)=>some (.ptr o off,True)
  | some (.eptr l)=>some (.eptr l,True)
  | some (.aptr o s i off)=>some (.aptr o s i off,True)
  | _=>none
 | .binOp op t x y _=>match I.ti t,ev st x,ev st y with
  | some i,some (.lit .nilIface),some (.lit .nilIface)=>aWY i.und op y
  | some i,some .ifx,some (.lit .nilIface)=>aVZ i.und op
  | some i,some (.ptr o 0),some (.ptr o' 0)=>aPT I st i.und op o o'
  | some i,some p,some q=>aPB i op p q
  | _,_,_=>none
 | .unOp op _ x=>match ev st x with | some p=>unP op p | none=>none
 | .convert s d x=>match I.ti s,I.ti d,ev st x with
  | some _,some j,some (.t (.int _ n))=>match j.und with
   | .int k=>some (.t (.int k (k.wrap n)),True)
   | _=>none
  | some i,some j,some p=>match i.und,j.und,zZ st p with
   | .sl e,.str,some (n,f)=>match I.ti e with
    | some k=>match k.und with
     | .int .u8=>some (.t (.str (aVA n f)),∀ i,i<n->aQJ (f i)=true)
     | _=>none
    | none=>none
   | _,_,_=>none
  | _,_,_=>none
 | .makeFunc fn fs cs=>match hU st (fs.toList++cs.toList) with | some l=>some (.fn fn fs.toList.length l,True) | _=>none
 | .fieldAddr s x f=>match I.ti s,ev st x with
  | some i,some p=>match i.und with
   | .st fs=>match Nq I.ti fs f,p with
    | some off,.ptr o k=>some (.ptr o (k+off),True)
    | some off,.eptr l=>some (.eptr (l.drop off),True)
    | some off,.aptr o s i k=>some (.aptr o s i (k+off),True)
    | _,_=>none
   | _=>none
  | _,_=>none
 | .field t x f=>match I.ti t,ev st x with
  | some i,some p=>match i.und with
   | .st fs=>match fs[f]? with
    | some (off,u)=>match I.ti u with
     | some j=>match p with
      | .t (.agg l)=>tr (jF j ((l.drop off).map PV.t))
      | .agg l=>tr (jF j (l.drop off))
      | _=>none
     | none=>none
    | none=>none
   | _=>none
  | _,_=>none
 | .indexAddr t x ix=>match I.ti t,ev st x,ev st ix with
  | some i,some p,some (.t (.int _ k))=>match i.und with
   | .sl e=>match I.ti e with | some j=>vD st j.size p k | none=>none
   | .arr n e=>match I.ti e,p with | some j,.ptr o off=>some (.ptr o (off+k.toNat*j.size),0<=k/\k<(n:Int)) | _,_=>none
   | _=>none
  | _,_,_=>none
 | .index t x ix=>match I.ti t,ev st x,ev st ix with
  | some i,some (.t (.str s)),some (.t (.int _ k))=>match i.und with
   | .str=>some (.t (.int .u8 ((s[k.toNat]?.getD 0).toNat:Int)),0<=k/\k<(s.size:Int))
   | _=>none
  | some i,some (.t (.agg l)),some (.t (.int _ k))=>match i.und with
   | .arr n e=>match I.ti e with
    | some j=>match jF j ((l.drop (k.toNat*j.size)).map PV.t) with
     | some q=>some (q,0<=k/\k<(n:Int))
     | none=>none
    | none=>none
   | _=>none
  | some i,some (.agg l),some (.t (.int _ k))=>match i.und with
   | .arr n e=>match I.ti e with
    | some j=>match jF j (l.drop (k.toNat*j.size)) with
     | some q=>some (q,0<=k/\k<(n:Int))
     | none=>none
    | none=>none
   | _=>none
  | _,_,_=>none
 | .extract x i=>match ev st x with | some (.tup l)=>tr l[i]? | _=>none
 | .build t parts=>tr (Np I st t parts.toList)
 | .slice t x lo hi mx=>match mx,I.ti t,ev st x with
  | none,some i,some (.t (.str s))=>match i.und,eY st 0 lo,eY st s.size hi with
   | .str,some l,some h=>some (.t (.str (s.extract l.toNat h.toNat)),0<=l/\l<=h/\h<=(s.size:Int))
   | _,_,_=>none
  | none,some i,some (.t x)=>match i.und,x.view with
   | .sl e,some (n,f)=>match I.ti e,eY st 0 lo,eY st n hi with
    | some j,some l,some h=>match Nat.beq (f 0).length j.size with
     | true=>some (.t (.sl (h-l).toNat (fun k=>f (l.toNat+k))),0<=l/\l<=h/\h<=(n:Int))
     | false=>none
    | _,_,_=>none
   | _,_=>none
  | none,some i,some .nil=>match i.und,eY st 0 lo,eY st 0 hi with
   | .sl e,some l,some h=>match I.ti e with
    | some _=>some (.nil,0<=l/\l<=h/\h<=0)
    | none=>none
   | _,_,_=>none
  | none,some i,some (.own o)=>match bK st.hp o with
   | some (.arm _ s n _ _)=>match i.und,eY st 0 lo,eY st n hi with
    | .sl e,some l,some h=>match I.ti e with
     | some j=>match Nat.beq s j.size with
      | true=>some (.osl o s l.toNat (h-l).toNat,0<=l/\l<=h/\h<=(n:Int))
      | false=>none
     | none=>none
    | _,_,_=>none
   | _=>none
  | _,_,_=>none
 | .lookup t x k true=>match ev st x,ev st k with
  | some p,some q=>match aHP I st t p q with
   | some (_,m,_,ks)=>some (.tup [.t (.bool (aLX m ks)),.t (.bool (aJX m ks))],True)
   | none=>none
  | _,_=>none
 | .call c=>aFU I st c
 | .entry x=>match ev st x with
  | some (.ptr di 0)=>xY di st.hp
  | _=>none
 | _=>none
section
variable {P:Program} {E:Env} {F:Nat->Prop} {g:Nat->Value} {st:St} {a:Act} {w:World}
theorem Rd.inv_int{n:Int}(h:Rd F w (.int k n) v):v = .int k n:=by
 cases h with
 | int=>rfl
 | nil h=>simp[T.view]at h
 | sl _ _ _ _ h=>simp[T.view]at h
theorem Rd.inv_bool{n:Bool}(h:Rd F w (.bool n) v):v = .bool n:=by
 cases h with
 | bool=>rfl
 | nil h=>simp[T.view]at h
 | sl _ _ _ _ h=>simp[T.view]at h
theorem Rd.inv_str{n:ByteArray}(h:Rd F w (.str n) v):v = .string n:=by
 cases h with
 | str=>rfl
 | nil h=>simp[T.view]at h
 | sl _ _ _ _ h=>simp[T.view]at h
theorem VR.inv_int{k:IntKind}{n:Int}{v:Value}(h:VR F g w (.t (.int k n)) v):v = .int k n:=(h.cells_t rfl).inv_int
theorem VR.inv_bool{n:Bool}{v:Value}(h:VR F g w (.t (.bool n)) v):v = .bool n:=(h.cells_t rfl).inv_bool
theorem VR.inv_str{n:ByteArray}{v:Value}(h:VR F g w (.t (.str n)) v):v = .string n:=(h.cells_t rfl).inv_str
theorem Bh(ht:P.underlying t=some .bool)(x y:Bool):(Op.equal t (.bool x) (.bool y)).run P w = .ok (x==y) w:=by
 have:∀ d,(Op.equalIn (d+1) t (.bool x) (.bool y)).run P w = .ok (x==y) w:=by intro d; unfold Op.equalIn; simp[run_underlying ht]
 exact this 9999
theorem jR{x:Option PV}{p:PV}(h:tr x=some (p,C)):x=some p:=by
 unfold tr at h; split at h <;> cases h
 rfl
theorem aFT{x y:Int}{p:PV}(h:Tz op k x y=some (p,C))(hC:C)(F:Nat->Prop)(g:Nat->Value)(t:TypeId):
  ∃ v,(binOp op t (.int k x) (.int k y)).run P w = .ok v w/\VR F g w p v:=by
 unfold Tz at h;split at h <;> cases h
 case h_4=>exact⟨_,by simp only[binOp,Op.intDiv,ne_eq,not_true_eq_false,bY]; rw[aF hC]; rfl,.t (.int _ _)⟩
 case h_5=>exact⟨_,by simp only[binOp,Op.intDiv,ne_eq,not_true_eq_false,bY]; rw[aF hC]; rfl,.t (.int _ _)⟩
 case h_1=>exact⟨_,by simp[binOp,Op.intArith],.t (.int _ _)⟩
 case h_2=>exact⟨_,by simp[binOp,Op.intArith],.t (.int _ _)⟩
 case h_3=>exact⟨_,by simp[binOp,Op.intArith],.t (.int _ _)⟩
 case h_12=>exact⟨_,by simp[binOp,Op.intBits,bBU],.t (.int _ _)⟩
 case h_13=>exact⟨_,by simp[binOp,Op.intBits,aBK],.t (.int _ _)⟩
 case h_14=>exact⟨_,by simp[binOp,Op.intBits,bAV],.t (.int _ _)⟩
 case h_15=>exact⟨_,by simp[binOp,Op.intBits,bBJ],.t (.int _ _)⟩
 all_goals exact⟨_,by simp[binOp,Op.intCmp],.t (.bool _)⟩
theorem aIX{x y:ByteArray}{p:PV}(h:Vs op x y=some (p,C))(hC:C)(F:Nat->Prop)(g:Nat->Value)(t:TypeId):
  ∃ v,(binOp op t (.string x) (.string y)).run P w = .ok v w/\VR F g w p v:=by
 unfold Vs at h;split at h <;> cases h
 ·refine⟨.string (x++y),?_,.t (.str _)⟩;have hm:IntKind.i64.max=9223372036854775807:=by decide
  have:¬ ((x.size+y.size:Nat):Int)>IntKind.i64.max:=by rw[hm]; omega
  simp only[binOp,Op.stringOp];rw[aF this]; rfl
 all_goals
  exact⟨_,by simp[binOp,Op.stringOp],.t (.bool _)⟩
theorem Ww{x y:Bool}{p:PV}(h:Fv op x y=some (p,C))(F:Nat->Prop)(g:Nat->Value)(t:TypeId)(ht:P.underlying t=some .bool):
  ∃ v,(binOp op t (.bool x) (.bool y)).run P w = .ok v w/\VR F g w p v:=by
 unfold Fv at h;split at h <;> cases h
 all_goals
  exact⟨_,by simp[binOp,Bh ht],.t (.bool _)⟩
theorem Dq:∀ {l:List T} {xs:List Int},oY l=some xs->l.length=xs.length/\∀ (j:Nat) x,l[j]? = some x->∃ k,xs[j]? = some k/\x=T.int .i64 k
 | [],xs,h=>by simp[oY]at h; subst h; simp
 | .int .i64 x::l,xs,h=>by
  simp only[oY]at h;split at h
  ·rename_i r hr;cases h;obtain⟨h1,h2⟩:=Dq hr;refine⟨by simp[h1],fun j y hy=>?_⟩;cases j with
   | zero=>simp at hy; subst hy; exact⟨x,by simp,rfl⟩
   | succ j=>obtain⟨k,h3,h4⟩:=h2 j y (by simpa using hy); exact⟨k,by simpa using h3,h4⟩
  ·cases h
 | .int .i8 _::_,_,h | .int .i16 _::_,_,h | .int .i32 _::_,_,h | .int .u8 _::_,_,h | .int .u16 _::_,_,h | .int .u32 _::_,_,h | .int .u64 _::_,_,h
 | .bool _::_,_,h | .str _::_,_,h | .sl _ _::_,_,h | .agg _::_,_,h | .lz _::_,_,h | .fv _::_,_,h=>by simp[oY]at h
theorem Bf{l:List T}{F:Nat->Prop}{w:World}(h:∀ x,x∈l->∀ u,Rd F w x u->u=uX x)(hv:Rd F w (.agg l) v):v = .agg (l.map uX).toArray:=by
 cases hv with
 | nil h=>simp[T.view]at h
 | sl _ _ _ _ h=>simp[T.view]at h
 | @agg _ vs hs hr=>
  congr 1
  apply Array.ext
  ·simp[hs]
  ·intro j hj1 hj2;have hl:j<l.length:=by omega
   have:=hr j _ vs[j] (gJ hl) (by simp[hj1]);have:=h _ (xD hl) _ this;simp[this]
theorem qI:∀ {l r:List T} {b:Bool},gC l r=some b->(∀ x,(x∈l\/x∈r)->∀ (F:Nat->Prop) (w:World) (u:Value),Rd F w x u->u=uX x)/\l.length=r.length
 | [],[],_,_=>⟨fun x hx=>by simp at hx,rfl⟩
 | .int k a::l,.int k' b::r,c,h=>by
  simp only[gC]at h;split at h
  ·split at h
   ·rename_i hc;obtain⟨h1,h2⟩:=qI hc;refine⟨fun x hx F w u hu=>?_,by simp[h2]⟩;simp only[aX]at hx;rcases hx with (rfl | hx) | (rfl | hx)
    ·cases hu <;> first | rfl | (rename_i hh; simp[T.view]at hh)
    ·exact h1 x (.inl hx) F w u hu
    ·cases hu <;> first | rfl | (rename_i hh; simp[T.view]at hh)
    ·exact h1 x (.inr hx) F w u hu
   ·cases h
  ·cases h
 | .str a::l,.str b::r,c,h=>by
  simp only[gC]at h;split at h
  ·rename_i hc;obtain⟨h1,h2⟩:=qI hc;refine⟨fun x hx F w u hu=>?_,by simp[h2]⟩;simp only[aX]at hx;rcases hx with (rfl | hx) | (rfl | hx)
   ·cases hu <;> first | rfl | (rename_i hh; simp[T.view]at hh)
   ·exact h1 x (.inl hx) F w u hu
   ·cases hu <;> first | rfl | (rename_i hh; simp[T.view]at hh)
   ·exact h1 x (.inr hx) F w u hu
  ·cases h
 | .bool a::l,.bool b::r,c,h=>by
  simp only[gC]at h;split at h
  ·rename_i hc;obtain⟨h1,h2⟩:=qI hc;refine⟨fun x hx F w u hu=>?_,by simp[h2]⟩;simp only[aX]at hx;rcases hx with (rfl | hx) | (rfl | hx)
   ·cases hu <;> first | rfl | (rename_i hh; simp[T.view]at hh)
   ·exact h1 x (.inl hx) F w u hu
   ·cases hu <;> first | rfl | (rename_i hh; simp[T.view]at hh)
   ·exact h1 x (.inr hx) F w u hu
  ·cases h
theorem aGM{l r:List T}{b:Bool}(h:gC l r=some b){F:Nat->Prop}{w:World}:(∀ {v},Rd F w (.agg l) v->v = .agg (l.map uX).toArray)/\(∀ {v},Rd F w (.agg r) v->v = .agg (r.map uX).toArray):=
 ⟨fun hv=>Bf (fun x hx u hu=>(qI h).1 x (.inl hx) F w u hu) hv,fun hv=>Bf (fun x hx u hu=>(qI h).1 x (.inr hx) F w u hu) hv⟩
theorem sS{l:List T}{xs:List Int}(h:oY l=some xs)(hv:Rd F w (.agg l) v):v = .agg (xs.map (Value.int .i64)).toArray:=by
 obtain⟨h1,h2⟩:=Dq h;cases hv with
 | nil h=>simp[T.view]at h
 | sl _ _ _ _ h=>simp[T.view]at h
 | @agg _ vs hs hr=>
  congr 1
  apply Array.ext
  ·simp[hs,h1]
  ·intro j hj1 hj2;have hl:j<l.length:=by omega
   obtain⟨k,h3,h4⟩:=h2 j l[j] (by simp[hl]);have:=hr j _ vs[j] (gJ hl) (by simp[hj1]);rw[h4]at this;rw[this.inv_int];have:xs[j]=k:=by rw[eK]at h3; exact h3.2
   simp[this]
theorem aLJ{i:eG}(hi:TOk P t i){p q x:PV}(h:aPB i op p q=some (x,C))(hC:C)(hu:VR F g w p u)(hv:VR F g w q v)
  (xo yo:Operand):∃ z,(do eqGuard op t xo yo u v; binOp op t u v:Sem Value).run P w = .ok z w/\VR F g w x z:=by
 unfold aPB at h;have hnil:∀ {q:Option Addr} {b:Bool},Cj op i.und b=some (x,C)->q.isNone=b->∃ z,(do eqGuard op t xo yo (.pointer q) (.pointer none); binOp op t (.pointer q) (.pointer none):Sem Value).run P w = .ok z w/\VR F g w x z:=by
  intro q b hn hq;unfold Cj at hn;have hg:∀ o:BinOp,(eqGuard o t xo yo (.pointer q) (.pointer none)).run P w = .ok () w:=fun o=>by unfold eqGuard; cases o <;> simp
  split at hn
  ·rename_i e hu';have ht:=hi.und; rw[hu']at ht;cases hn;refine⟨.bool b,?_,.t (.bool _)⟩;have ht':P.underlying t=some (.pointer (P.pointee t)):=by unfold Program.pointee; rw[ht]
   have he:(Op.equal t (.pointer q) (.pointer none)).run P w = .ok b w:=by rw[<-hq]; exact run_equal_pointer_nil w t q ht'
   simp[hg,binOp,he]
  ·rename_i e hu';have ht:=hi.und; rw[hu']at ht;cases hn;refine⟨.bool (!b),?_,.t (.bool _)⟩;have ht':P.underlying t=some (.pointer (P.pointee t)):=by unfold Program.pointee; rw[ht]
   have he:(Op.equal t (.pointer q) (.pointer none)).run P w = .ok b w:=by rw[<-hq]; exact run_equal_pointer_nil w t q ht'
   simp[hg,binOp,he]
  ·cases hn
 split at h
 ·rename_i k a k' b;obtain rfl:=hu.inv_int; obtain rfl:=hv.inv_int;split at h
  ·rename_i hsh;unfold bBC at h;have hgd:(eqGuard op t xo yo (.int k a) (.int k' b)).run P w = .ok () w:=by unfold eqGuard; cases op <;> simp
   split at h
   ·cases h;refine⟨_,?_,.t (.int _ _)⟩;have hb:¬ b<0:=by omega
    simp only[Sem.run_bind,hgd,Result.andThen_ok,binOp,Op.shift,aF hb,bBI,Sem.run_pure]
   ·cases h;refine⟨_,?_,.t (.int _ _)⟩;have hb:¬ b<0:=by omega
    simp only[Sem.run_bind,hgd,Result.andThen_ok,binOp,Op.shift,aF hb,aZU,Sem.run_pure]
   ·cases h
  have hk:k=k':=by
   by_cases hk:k=k'
   ·exact hk
   ·rw[aF hk]at h; cases h
  subst hk;rw[aA rfl]at h;obtain⟨z,hz,hr⟩:=aFT (P:=P) (w:=w) h hC F g t;refine⟨z,?_,hr⟩;have:(eqGuard op t xo yo (.int k a) (.int k b)).run P w = .ok () w:=by unfold eqGuard; cases op <;> simp
  simp[this,hz]
 ·cases hu with
  | ptr hg=>cases hv with | np=>exact hnil h rfl
 ·cases hu with
  | np=>cases hv with | np=>exact hnil h rfl
 ·obtain rfl:=hu.inv_str; obtain rfl:=hv.inv_str;rename_i a b;obtain⟨z,hz,hr⟩:=aIX (P:=P) (w:=w) h hC F g t;refine⟨z,?_,hr⟩;have:(eqGuard op t xo yo (.string a) (.string b)).run P w = .ok () w:=by unfold eqGuard; cases op <;> simp
  simp[this,hz]
 ·rename_i l r;unfold aDQ at h;split at h
  ·rename_i hflat;split at h
   ·rename_i b hb hl;have hl:=cJ hl;obtain⟨hg,he⟩:=hi.eqf (by intro h0; rw[h0]at hflat; cases hflat);obtain⟨f1,f2⟩:=aGM hb;have e1:=f1 (hu.cells_t rfl);have e2:=f2 (hv.cells_t rfl);subst e1 e2;have hee:=he _ _ b w hb hl;split at h
    ·cases h;exact⟨.bool b,by simp[run_eqGuard_agg w _ _ _ _ _ _ hg,run_eql_struct,hee],.t (.bool _)⟩
    ·cases h;exact⟨.bool (!b),by simp[run_eqGuard_agg w _ _ _ _ _ _ hg,run_neq_struct,hee],.t (.bool _)⟩
    ·cases h
   ·cases h
  ·rename_i hflat;split at h
   ·rename_i xs ys hxs hys;split at h
    ·rename_i hl1 hl2 hn;have hl1:=cJ hl1;have hl2:=cJ hl2;have hn:=fH hn;obtain⟨hg,he⟩:=hi.eqv (by omega);have e1:=sS hxs (hu.cells_t rfl);have e2:=sS hys (hv.cells_t rfl);subst e1 e2;have hee:=he xs ys w hl1 hl2;split at h
     ·cases h;exact⟨.bool (xs==ys),by simp[run_eqGuard_agg w _ _ _ _ _ _ hg,run_eql_struct,hee],.t (.bool _)⟩
     ·cases h;exact⟨.bool (!(xs==ys)),by simp[run_eqGuard_agg w _ _ _ _ _ _ hg,run_neq_struct,hee],.t (.bool _)⟩
     ·cases h
    ·cases h
   ·cases h
 ·obtain rfl:=hu.inv_bool; obtain rfl:=hv.inv_bool;rename_i a b;split at h
  ·rename_i hb;have ht:=hi.und; rw[hb]at ht;obtain⟨z,hz,hr⟩:=Ww (P:=P) (w:=w) h F g t ht;refine⟨z,?_,hr⟩;have:(eqGuard op t xo yo (.bool a) (.bool b)).run P w = .ok () w:=by unfold eqGuard; cases op <;> simp
   simp[this,hz]
  ·cases h
 ·cases h
theorem aUL{op:UnOp}{p x:PV}(h:unP op p=some (x,C))(hu:VR F g w p u):∃ z,(Op.unary op u).run P w = .ok z w/\VR F g w x z:=by
 unfold unP at h;split at h <;> cases h
 ·obtain rfl:=hu.inv_bool;exact⟨_,by simp[Op.unary],.t (.bool _)⟩
 ·obtain rfl:=hu.inv_int;exact⟨_,by simp[Op.unary,Op.intArith],.t (.int _ _)⟩
theorem Rd.slice_len{x:T}(h:Rd F w x v){f:Nat->List T}(hx:x.view=some (n,f)):∃ ad cap,v = .slice ad n cap:=by
 cases h with
 | int=>simp[T.view]at hx
 | bool=>simp[T.view]at hx
 | str=>simp[T.view]at hx
 | fv=>simp[T.view]at hx
 | agg=>simp[T.view]at hx
 | nil h=>rw[hx]at h; simp at h; exact⟨none,0,by rw[h.1]⟩
 | sl ad cap size vs h=>rw[hx]at h; simp at h; exact⟨some ad,cap,by rw[h.1]⟩
theorem aLE(r:cL E F g st a w){i:eG}(hi:TOk P t i){p x:PV}(h:aWR st i.und p=some x)(hu:VR F g w p u)(ty:TypeId):
  ∃ z,(Builtin.len_ #[t] ty #[u]).run P w = .ok z w/\VR F g w x z:=by
 have hd:=hi.und;unfold aWR at h;split at h
 ·rename_i he; rw[he]at hd;simp at h; subst h;obtain rfl:=hu.inv_str;exact⟨_,by simp[Builtin.len_,run_underlying hd,goInt],.t (.int _ _)⟩
 ·rename_i he; rw[he]at hd;simp at h; subst h;cases hu;exact⟨_,by simp[Builtin.len_,run_underlying hd,goInt],.t (.int _ _)⟩
 ·rename_i he; rw[he]at hd;split at h
  ·rename_i hl;simp at h; subst h;have ho:=r.w.hp.obj _ _ (aU hl);cases hu with
   | own hg=>
    rcases ho with⟨h1,h2⟩ | ⟨b,cap,cur,h1,_⟩
    ·rw[hg]at h1; injection h1 with h1 h3 h4; subst h3; subst h2;exact⟨_,by simp[Builtin.len_,run_underlying hd,goInt],.t (.int _ _)⟩
    ·rw[hg]at h1; injection h1 with h1 h3 h4; subst h3;exact⟨_,by simp[Builtin.len_,run_underlying hd,goInt],.t (.int _ _)⟩
  ·rename_i hl;simp at h; subst h;have ho:=r.w.hp.obj _ _ (aU hl);cases hu with
   | own hg=>
    rcases ho with⟨h1,h2,_⟩ | ⟨b,cap,cur,h1,_⟩
    ·rw[hg]at h1; injection h1 with h1 h3 h4; subst h3; subst h2;exact⟨_,by simp[Builtin.len_,run_underlying hd,goInt],.t (.int _ _)⟩
    ·rw[hg]at h1; injection h1 with h1 h3 h4; subst h3;exact⟨_,by simp[Builtin.len_,run_underlying hd,goInt],.t (.int _ _)⟩
  ·cases h
 ·rename_i he; rw[he]at hd;split at h
  ·rename_i hv;simp at h; subst h;obtain⟨ad,cap,rfl⟩:=(hu.cells_t rfl).slice_len hv;exact⟨_,by simp[Builtin.len_,run_underlying hd,goInt],.t (.int _ _)⟩
  ·cases h
 ·rename_i he; rw[he]at hd;simp at h; subst h;cases hu;exact⟨_,by simp[Builtin.len_,run_underlying hd,goInt],.t (.int _ _)⟩
 ·cases h
theorem aKG{p q x:PV}(h:aYM p q=some x)(hu:VR F g w p u)(hv:VR F g w q v)(ts:Array TypeId)(ty:TypeId):
  ∃ z,(Builtin.max_ ts ty #[u,v]).run P w = .ok z w/\VR F g w x z:=by
 unfold aYM at h;split at h <;> simp at h
 subst h;obtain rfl:=hu.inv_int; obtain rfl:=hv.inv_int;exact⟨_,by simp[Builtin.max_,Builtin.max2],.t (.int _ _)⟩
theorem aMT{p q x:PV}(h:aTI p q=some x)(hu:VR F g w p u)(hv:VR F g w q v)(ts:Array TypeId)(ty:TypeId):
  ∃ z,(Builtin.min_ ts ty #[u,v]).run P w = .ok z w/\VR F g w x z:=by
 unfold aTI at h;split at h <;> simp at h
 subst h;obtain rfl:=hu.inv_int; obtain rfl:=hv.inv_int;exact⟨_,by simp[Builtin.min_,Builtin.min2],.t (.int _ _)⟩
theorem aNF{ov:Option (Nat×Nat×PV)}{i:Nat}{p:PV}(h:aZD ov j=some (i,p)):ov=some (i,j,p):=by
 unfold aZD at h;split at h
 ·split at h
  ·rename_i hj;have hj:=cJ hj;cases h; subst hj; rfl
  ·cases h
 ·cases h
theorem xQ{ov:Option (Nat×Nat×PV)}{k:Nat}:∀ {cs:List Cel} {j:Nat} {l:List PV} {C:Prop},qF ov k j cs=some (l,C)->C ->
  ∀ (q:Nat) x,l[q]? = some x->∃ c,cs[q]? = some c/\((∃ y,c = .d y/\x = .t y)\/(c = .nl/\x = .nil)\/ov=some (k,j+q,x))
 | [],j,l,C,h,_,q,x,hx=>by simp only[qF,gO,gQ]at h;rw[<-h.1]at hx; simp at hx
 | c::cs,j,l,C,h,hC,q,x,hx=>by
  simp only[qF]at h;split at h
  ·rename_i r C' hr;have tail:C'->∀ (q:Nat) x,r[q]? = some x->∃ c',(c::cs)[q+1]? = some c'/\((∃ y,c' = .d y/\x = .t y)\/(c' = .nl/\x = .nil)\/ov=some (k,j+(q+1),x)):=fun hC' q x hx=>by obtain⟨c',h1,h2⟩:=xQ hr hC' q x hx;exact⟨c',by simpa using h1,by rw[show j+(q+1)=j+1+q by omega]; exact h2⟩
   split at h
   ·rename_i i p ho;cases h;cases q with
    | zero=>simp at hx; subst hx; exact⟨_,rfl,.inr (.inr (by rw[hC.1]; exact aNF ho))⟩
    | succ q=>exact tail hC.2 q x (by simpa using hx)
   ·split at h
    ·cases h;cases q with
     | zero=>simp at hx; subst hx; exact⟨_,rfl,.inl ⟨_,rfl,rfl⟩⟩
     | succ q=>exact tail hC q x (by simpa using hx)
    ·cases h;cases q with
     | zero=>simp at hx; subst hx; exact⟨_,rfl,.inr (.inl ⟨rfl,rfl⟩)⟩
     | succ q=>exact tail hC q x (by simpa using hx)
    ·cases h
  ·cases h
theorem Jo(r:cL E F g st a w){i:eG}(hi:TOk P t i){p x:PV}(h:xW st i p=some (x,C))(hC:C)(hu:VR F g w p u):
  ∃ z,(Instr.loadAt t u).run P w = .ok z w/\VR F g w x z:=by
 cases p with
 | ptr o off=>
  simp only[xW]at h;split at h
  ·rename_i l hl;have ho:=r.w.hp.obj _ _ (aU hl);obtain⟨b,vs,ty,h1,h2,h3,h4⟩:=ho;split at h
   ·rename_i q hq;cases h;cases hu with
    | @ptr _ _ b' hg=>
     rw[h1]at hg; injection hg with hg; injection hg with hg; injection hg with hg; subst hg;obtain⟨v,hv,hr⟩:=rA (g:=g) hi hq ⟨b,off,none⟩ (fun j x hx=>by
      rw[iD]at hx;have hlt:off+j<vs.size:=by rw[h3]; exact(eK.1 hx).1
      refine⟨vs[off+j],?_,h4 _ _ _ hx (by simp[hlt])⟩;rw[Addr.add_none];simp[World.cell?,h2,hlt])
     exact⟨v,by simp[Instr.loadAt,Instr.sureAddr,hv],hr⟩
   ·cases h
  ·cases h
 | eptr l=>
  simp only[xW]at h;split at h
  ·rename_i q hq;cases h;cases hu with
   | eptr ad hF hc=>obtain⟨v,hv,hr⟩:=rA (g:=g) hi hq ad (fun j x hx=>by simp only[fD,gB]at hx;obtain⟨y,hy,rfl⟩:=hx;obtain⟨v,h1,h2⟩:=hc j y hy;exact⟨v,h1,.t h2⟩);exact⟨v,by simp[Instr.loadAt,Instr.sureAddr,hv],hr⟩
  ·cases h
 | aptr o s k off=>
  simp only[xW]at h;split at h
  ·rename_i s' n f hl;have ho:=r.w.hp.obj _ _ (aU hl);split at h
   ·rename_i hs;have hs:=cJ hs;split at h
    ·rename_i q hq;cases h;cases hu with
     | @aptr _ _ _ _ b n' cap hg=>
      rcases ho with⟨h1,h2⟩ | ⟨b',cap',cur,h1,h2,h3,h4,h5,h6,h7⟩
      ·rw[h1]at hg; cases hg
      ·rw[h1]at hg; injection hg with hg hg2 hg3; injection hg with hg; injection hg with hg;subst hg;subst hs;obtain⟨v,hv,hr⟩:=rA (g:=g) hi hq ⟨b',k*s'+off,none⟩ (fun j x hx=>by simp only[fD,gB,iD]at hx;obtain⟨y,hy,rfl⟩:=hx;obtain⟨v,h8,h9⟩:=h7 k (off+j) y hC hy;refine⟨v,?_,.t h9⟩;rw[Addr.add_none];simp only[World.cell?,h2];simpa[oH] using h8);exact⟨v,by simp[Instr.loadAt,Instr.sureAddr,hv],hr⟩
    ·cases h
   ·cases h
  ·rename_i s' n f ov hl;have ho:=r.w.hp.obj _ _ (aU hl);split at h
   ·rename_i lv C' hs hcs;have hs:=cJ hs;split at h
    ·rename_i q hq;cases h;obtain⟨hkn,hC⟩:=hC;cases hu with
     | @aptr _ _ _ _ b n' cap hg=>
      rcases ho with⟨h1,h2,_⟩ | ⟨b',cap',cur,h1,h2,h3,h4,h5,hA⟩
      ·rw[h1]at hg; cases hg
      ·rw[h1]at hg; injection hg with hg hg2 hg3; injection hg with hg; injection hg with hg;subst hg;subst hs;obtain⟨v,hv,hr⟩:=rA (g:=g) (F:=F) (w:=w) hi hq ⟨b',k*s'+off,none⟩ (fun j x hx=>by
        obtain⟨c,h6,h7⟩:=xQ hcs hC j x hx;have h8:(f k)[off+j]? = some c:=by
         rw[iR]at h6;split at h6
         ·rwa [iD]at h6
         ·cases h6
        obtain⟨v,hv,hR⟩:=hA.cell k (off+j) c hkn h8;refine⟨v,?_,?_⟩
        ·rw[Addr.add_none];simp only[World.cell?,h2];simpa[oH] using hv
        ·rcases h7 with⟨y,rfl,rfl⟩ | ⟨rfl,rfl⟩ | rfl
         ·exact .t hR
         ·rw[show v = .slice none 0 0 from hR]; exact .nil
         ·exact(hA.ov _ _ _ rfl).2.2 v hv)
       exact⟨v,by simp[Instr.loadAt,Instr.sureAddr,hv],hr⟩
    ·cases h
   ·cases h
  ·cases h
 | _=>simp[xW]at h
end
section
variable {P:Program} {E:Env} {F:Nat->Prop} {g:Nat->Value} {st:St} {a:Act} {w:World}
theorem qA{ti:Nat->Option eG}(hI:kL P ti){s:TypeId}{i:eG}(hi:TOk P s i){fs:List (Nat×Nat)}(hu:i.und = .st fs){f:Nat}(hf:Nq ti fs f=some off)(ad:Addr):
  (Instr.fieldAt s (.pointer (some ad)) f).run P w = .ok (.pointer (some (ad.add off))) w:=by
 have hd:=hi.und;rw[hu]at hd;obtain⟨fields,h1,h2⟩:=hd;unfold Nq at hf;split at hf
 ·rename_i o t hft;split at hf
  ·rename_i j hj;split at hf
   ·cases hf
   ·rename_i hz;cases hf;have hz:=nP hz;rw[<-h2,fD,gB]at hft;obtain⟨fd,hfd,he⟩:=hft;cases he;have hfd':fields[f]? = some fd:=by simpa using hfd
    have hs:=run_sizeOf (w:=w) (hI _ _ hj);simp[Instr.fieldAt,run_underlying h1,hfd',Instr.sureAddr,fieldPlace,hs,hz]
  ·cases hf
 ·cases hf
theorem Zu(r:cL E F g st a w){i j:eG}(hi:TOk P t i)(hu:i.und = .sl e)(hj:TOk P e j){p x:PV}{n:Int} 
  (h:vD st j.size p n=some (x,C))(hC:C)(hv:VR F g w p u)(k:IntKind):
  ∃ z,(Instr.indexAt t u (.int k n)).run P w = .ok z w/\VR F g w x z:=by
 have hd:=hi.und;rw[hu]at hd;cases p with
 | t p=>
  simp only[vD]at h;split at h
  ·rename_i m f hm;split at h
   ·rename_i hl;have hl:=cJ hl;cases h;have hr:=hv.cells_t rfl;have hlt:n.toNat<m:=by omega
    obtain⟨ad,cap,rfl⟩:=hr.slice_len hm;cases hr with
    | nil h=>rw[hm]at h; simp at h; omega
    | sl ad cap size vs h hc hF hs hv' hr'=>
     rw[hm]at h; simp at h; obtain⟨_,rfl⟩:=h;refine⟨.pointer (some (ad.add (n.toNat*j.size))),?_,.eptr _ (fun _=>?_) (fun q y hy=>?_)⟩
     ·simp[Instr.indexAt,asIntOf,run_underlying hd,hC,run_sizeOf hj]
     ·have:(ad.add (n.toNat*j.size)).block=ad.block:=by unfold Addr.add; split <;> rfl
      rw[this]; exact hF (by omega)
     ·have hsz:size=j.size:=by rw[<-hs _ hlt,hl]
      subst hsz;have hq:q<j.size:=by rw[<-hs _ hlt]; exact(eK.1 hy).1
      refine⟨vs n.toNat q,?_,hr' _ _ _ hlt hy⟩;rw[Addr.add_add];exact hv' n.toNat q hlt hq
   ·cases h
  ·cases h
 | own o=>
  simp only[vD]at h;split at h
  ·rename_i e' s' m f hl;split at h
   ·rename_i hs;have hs:=cJ hs;cases h;have ho:=r.w.hp.obj _ _ (aU hl);have hlt:n.toNat<m:=by omega
    cases hv with
    | @own _ n' cap ad hg=>
     rcases ho with⟨h1,h2⟩ | ⟨b,cap',cur,h1,h2,h3,h4,h5,h6,h7⟩
     ·omega
     ·rw[h1]at hg; injection hg with hg hg2 hg3;subst hg; subst hg2; subst hg3;refine⟨.pointer (some ⟨b,n.toNat*j.size+0,none⟩),?_,.aptr h1⟩;simp only[Instr.indexAt,asIntOf,Sem.run_bind,Sem.run_pure,Result.andThen_ok,run_underlying hd];rw[aA hC];simp[run_sizeOf hj,Addr.add_none]
   ·cases h
  ·rename_i e' s' m f ov hl;split at h
   ·rename_i hs;have hs:=cJ hs;cases h;have ho:=r.w.hp.obj _ _ (aU hl);have hlt:n.toNat<m:=by omega
    cases hv with
    | @own _ n' cap ad hg=>
     rcases ho with⟨h1,h2,_⟩ | ⟨b,cap',cur,h1,h2,h3,h4,h5,hA⟩
     ·omega
     ·rw[h1]at hg; injection hg with hg hg2 hg3;subst hg; subst hg2; subst hg3;refine⟨.pointer (some ⟨b,n.toNat*j.size+0,none⟩),?_,.aptr h1⟩;simp only[Instr.indexAt,asIntOf,Sem.run_bind,Sem.run_pure,Result.andThen_ok,run_underlying hd];rw[aA hC];simp[run_sizeOf hj,Addr.add_none]
   ·cases h
  ·cases h
 | osl o s lo m=>
  simp only[vD]at h;split at h
  ·rename_i hs;have hs:=cJ hs;subst hs;cases h;cases hv with
   | osl e=>
    rcases e with e | ⟨b,rfl,e⟩
    ·omega
    ·refine⟨.pointer (some ⟨b,(lo+n.toNat)*j.size+0,none⟩),?_,.aptr e⟩;simp only[Instr.indexAt,asIntOf,Sem.run_bind,Sem.run_pure,Result.andThen_ok,run_underlying hd];rw[aA hC];simp[run_sizeOf hj,Addr.add_none,gW]
  ·cases h
 | _=>simp[vD]at h
theorem Ds(off:Nat):∀ (xs:List Value) (k:Nat) (cs:Array Value) (j:Nat),
  ((xs.zipIdx k).foldl (fun cs (c,j)=>cs.setIfInBounds (off+j) c) cs).size=cs.size /\
  ((xs.zipIdx k).foldl (fun cs (c,j)=>cs.setIfInBounds (off+j) c) cs)[j]? = if off+k<=j/\j<off+k+xs.length/\j<cs.size then xs[j-(off+k)]? else cs[j]?
 | [],k,cs,j=>by simp; omega
 | x::xs,k,cs,j=>by
  obtain⟨h1,h2⟩:=Ds off xs (k+1) (cs.setIfInBounds (off+k) x) j;simp only[List.zipIdx_cons,Ix];refine⟨by rw[h1]; simp,?_⟩;rw[h2];simp only[Array.size_setIfInBounds,qZ,Array.getElem?_setIfInBounds];by_cases hj:j=off+k
  ·subst hj;simp;by_cases hlt:off+k<cs.size
   ·simp[hlt];intro h; omega
   ·simp[hlt]
  ·by_cases hin:off+(k+1)<=j/\j<off+(k+1)+xs.length/\j<cs.size
   ·rw[aA hin,aA (by omega)];rw[show j-(off+k)=(j-(off+(k+1)))+1 by omega];simp
   ·rw[aF hin,aF (by omega),aF (by omega)]
theorem rR{places:Nat->Option (Nat×Nat)}:∀ (ps:List (Nat×PV)) (vs:List (Nat×Value)) (cs:List PV) (cells:Array Value) (out:List PV),
  vs.length=ps.length->(∀ (j:Nat) i x i' v,ps[j]? = some (i,x)->vs[j]? = some (i',v)->i'=i/\VR F g w x v) ->
  cells.size=cs.length->(∀ (j:Nat) x v,cs[j]? = some x->cells[j]? = some v->VR F g w x v)->mJ places cs ps=some out ->
  ∃ oc,Instr.fill places cells vs=some oc/\oc.size=out.length/\∀ (j:Nat) x v,out[j]? = some x->oc[j]? = some v->VR F g w x v
 | [],vs,cs,cells,out,hl,_,hs,hc,h=>by simp[mJ]at h; subst h;have:vs=[]:=lW hl;subst this;exact⟨cells,rfl,hs,hc⟩
 | (i,x)::ps,[],cs,cells,out,hl,_,_,_,_=>by simp at hl
 | (i,x)::ps,(i',v)::vs,cs,cells,out,hl,hp,hs,hc,h=>by
  obtain⟨hi,hx⟩:=hp 0 i x i' v (by simp) (by simp);subst hi;simp only[mJ]at h;split at h
  ·cases h
  ·rename_i off size hpl;split at h
   ·rename_i h1 h2 h3;have h1:=cJ h1;have h2:=fH h2;obtain⟨hcs,hcr⟩:=hx.cells;have hset:=Ds off v.cells.toList 0 cells;have key:=rR ps vs _ (v.cells.zipIdx.foldl (fun cs (c,j)=>cs.setIfInBounds (off+j) c) cells) out (by simpa using hl)
     (fun j i x i' v hj hj'=>hp (j+1) i x i' v (by simpa using hj) (by simpa using hj')) (by
      rw[<-Array.foldl_toList];simp only[Array.toList_zipIdx];rw[(hset 0).1];simp only[cZ,dM,fI];omega) (fun j y u hy hu=>by
      rw[<-Array.foldl_toList]at hu;simp only[Array.toList_zipIdx]at hu;rw[(hset j).2]at hu;have hjlen:j<cs.length:=by have:=(eK.1 hy).1;simp only[cZ,dM,fI]at this;omega
      simp only[tV,jH]at hu;by_cases hin:off<=j/\j<off+x.cells.length
      ·rw[aA (by omega)]at hu;rw[gX,eH (by simp; omega)]at hy;rw[eT (by simp; omega)]at hy;simp only[dM]at hy;rw[show min off cs.length=off by omega]at hy;exact hcr _ _ _ hy (by simpa using hu)
      ·rw[aF (by omega)]at hu;refine hc j y u ?_ hu;by_cases hlo:j<off
       ·rw[gX,eT (by simp; omega)]at hy;rw[iR,aA hlo]at hy;exact hy
       ·rw[eH (by simp; omega)]at hy;rw[iD]at hy;simp only[cZ,dM]at hy;rw[show off+size+(j-(min off cs.length+x.cells.length))=j by omega]at hy;exact hy) h
    obtain⟨oc,ho1,ho2⟩:=key;refine⟨oc,?_,ho2⟩;simp only[Instr.fill,hpl];rw[aF (by simp only[ne_eq,mP,pQ,not_or,Decidable.not_not]; omega)];exact ho1
   ·cases h
theorem lJ(r:cL E F g st a w):∀ (l:List (Nat×Operand)) (ps:List (Nat×PV)),gM st l=some ps ->
  ps.length=l.length/\∀ (j:Nat) i x i' v,ps[j]? = some (i,x)->(l.map fun (i,x)=>(i,a.eval x))[j]? = some (i',v)->i'=i/\VR F g w x v
 | [],ps,h=>by simp[gM]at h; subst h; simp
 | (i,x)::l,ps,h=>by
  simp only[gM]at h;split at h
  ·rename_i p q hp hq;cases h;obtain⟨h1,h2⟩:=lJ r l q hq;refine⟨by simp[h1],fun j i' y i'' v hj hj'=>?_⟩;cases j with
   | zero=>simp at hj hj'; obtain⟨rfl,rfl⟩:=hj; obtain⟨rfl,rfl⟩:=hj'; exact⟨rfl,bW r hp⟩
   | succ j=>exact h2 j i' y i'' v (by simpa using hj) (by simpa using hj')
  ·cases h
theorem oC(r:cL E F g st a w):∀ (l:List Operand) (ps:List PV),hU st l=some ps ->
  ps.length=l.length/\∀ (j:Nat) x v,ps[j]? = some x->(l.map a.eval)[j]? = some v->VR F g w x v
 | [],ps,h=>by simp[hU]at h; subst h; simp
 | x::l,ps,h=>by
  simp only[hU]at h;split at h
  ·rename_i p q hp hq;cases h;obtain⟨h1,h2⟩:=oC r l q hq;refine⟨by simp[h1],fun j y v hj hj'=>?_⟩;cases j with
   | zero=>simp at hj hj'; subst hj; subst hj'; exact bW r hp
   | succ j=>exact h2 j y v (by simpa using hj) (by simpa using hj')
  ·cases h
theorem zD{ti:Nat->Option eG}(hI:kL P ti):∀ (fs:List Field) (pl:List (Nat×Nat)),uZ ti (fs.map fun f=>(f.offset,f.type))=some pl ->
  fs.mapM (fun f=>(P.info? f.type).map fun i=>(f.offset,i.size))=some pl
 | [],pl,h=>by simp[uZ]at h; subst h; rfl
 | f::fs,pl,h=>by
  simp only[kY,uZ]at h;split at h
  ·rename_i i q hi hq;cases h;obtain⟨info,h1,h2,_⟩:=(hI _ _ hi).info;simp[h1,h2,zD hI fs q hq]
  ·cases h
theorem mH{i:eG}(hi:TOk P t i):∃ info z,P.info? t=some info/\info.zero=some z/\z.cells.size=i.zero.length /\
  ∀ (j:Nat) x v,i.zero[j]? = some x->z.cells[j]? = some v->VR F g w x v:=by
 obtain⟨info,h1,_,_,z,h4,h5⟩:=hi.info;refine⟨info,z,h1,h4,by simpa using congrArg List.length h5,fun j x v hx hv=>?_⟩;have:=congrArg (·[j]?) h5;have hv':z.cells.toList[j]? = some v:=by simpa using hv
 simp only[fD,hx,hv',qJ]at this;exact sO (by simpa using this) F g w
theorem Xt{I:Inf}(hI:kL P I.ti)(r:cL E F g st a w){parts:Array (Nat×Operand)}{x:PV}(h:Np I st t parts.toList=some x):
  ∃ z,(Instr.build t (parts.map fun (i,x)=>(i,a.eval x))).run P w = .ok z w/\VR F g w x z:=by
 unfold Np at h;split at h
 ·rename_i i ps hi hps;obtain⟨hl,hp⟩:=lJ r _ _ hps;obtain⟨info,z,h1,h2,h3,h4⟩:=mH (F:=F) (g:=g) (w:=w) (hI _ _ hi);have hd:=(hI _ _ hi).und;split at h
  ·rename_i fs hu;rw[hu]at hd;obtain⟨fields,hf1,hf2⟩:=hd;split at h
   ·rename_i pl hpl;split at h
    ·rename_i c hc;cases h;obtain⟨oc,ho1,ho2,ho3⟩:=rR (F:=F) (g:=g) (w:=w) ps (parts.toList.map fun (i,x)=>(i,a.eval x)) i.zero z.cells c (by simp[hl]) hp h3 h4 hc;refine⟨.agg oc,run_build w t _ oc ?_,qH ho2 ho3⟩;unfold Program.built;rw[h1,hf1];simp only[h2];rw[zD hI fields.toList pl (by rw[hf2]; exact hpl)];simpa using ho1
    ·cases h
   ·cases h
  ·rename_i n e hu;rw[hu]at hd;split at h
   ·rename_i ie hie;split at h
    ·rename_i c hc;cases h;obtain⟨oc,ho1,ho2,ho3⟩:=rR (F:=F) (g:=g) (w:=w) ps (parts.toList.map fun (i,x)=>(i,a.eval x)) i.zero z.cells c (by simp[hl]) hp h3 h4 hc;obtain⟨info',h1',h2',_⟩:=(hI _ _ hie).info;refine⟨.agg oc,run_build w t _ oc ?_,qH ho2 ho3⟩;unfold Program.built;simp only[UR]at hd;rw[h1,hd];simp only[h2,h1',h2'];simpa using ho1
    ·cases h
   ·cases h
  ·cases h
 ·cases h
end
section
variable {P:Program} {E:Env} {F:Nat->Prop} {g:Nat->Value} {st:St} {a:Act} {w:World}
def aJR(n:Nat)(m:List (List Int×Bool))(es:List MapEntry):Prop:=es.length=m.length/\(∀ x,x∈m->x.1.length=n)/\∀ (j:Nat) e x,es[j]? = some e->m[j]? = some x->e.key=sI x.1/\e.val = .bool x.2
theorem sL{kt:TypeId}{n:Nat}(hn:n≠0)(hE:aZA P kt n){ks:List Int}(hk:ks.length=n):∀ (m:List (List Int×Bool)) (es:List MapEntry) (i:Nat),aJR n m es ->
  (Instr.findAsking kt (sI ks) es i).run P w = .ok ((nQ m ks i).map fun x=>(x.1,.bool x.2)) w
 | [],es,i,h=>by have:es=[]:=lW (by simpa using h.1);subst this;simp[Instr.findAsking,nQ]
 | x::m,es,i,h=>by
  cases es with
  | nil=>have:=h.1; simp at this
  | cons e es=>
   obtain⟨h1,h2⟩:=h.2.2 0 e x (by simp) (by simp);have hl:=h.2.1 x (by simp);have heq:(Op.equal kt (sI ks) e.key).run P w = .ok (ks==x.1) w:=by rw[h1]; exact(hE hn).2 ks x.1 w hk hl
   have ih:=sL hn hE hk m es (i+1) ⟨by have:=h.1; simpa using this,fun y hy=>h.2.1 y (cV _ hy),fun j e' y he hy=>h.2.2 (j+1) e' y (by simpa using he) (by simpa using hy)⟩;simp only[Instr.findAsking,Sem.run_bind,heq,Result.andThen_ok,nQ];cases hb:ks==x.1
   ·simp only[cK,bY]; exact ih
   ·simp[h2]
theorem Tf{I:Inf}(hI:kL P I.ti)(r:cL E F g st a w){t:Nat}{p q:PV}{m:List (List Int×Bool)}{ks:List Int}(h:aHP I st t p q=some (n,m,o,ks)) 
  (hu:VR F g w p u)(hv:VR F g w q v):∃ kt et b es clock info,P.underlying t=some (.map kt et)/\u = .map (some b)/\v=sI ks/\g o = .map (some b)/\(o,.mpb n m)∈st.hp /\
   w.heap[b]? = some (.map es clock)/\aJR n m es.toList/\ks.length=n/\P.info? et=some info/\info.zero=some (.bool false) /\
   (∀ em,(Instr.checkKey em 10000 kt v).run P w = .ok () w)/\(Instr.findKey kt v es.toList).run P w = .ok ((nQ m ks 0).map fun x=>(x.1,.bool x.2)) w:=by
 unfold aHP at h;split at h
 ·rename_i i o' l hi;split at h
  ·rename_i kt et n' m' ks' hui hlk hin;split at h
   ·rename_i ik ie hik hie;split at h
    ·rename_i ma me h1 h2 h3 h4 h5 h6;cases h;have h4:=cJ h4;have h5:=cJ h5;have h6:=fH h6;have hm:=(hI _ _ hi).und; rw[hui]at hm;have hk:=(hI _ _ hik).und; rw[h1]at hk;simp only[UR]at hm hk;have hlm:=aU hlk;obtain⟨b,es,clock,e1,e2,e3,e4,e5⟩:=r.w.hp.obj _ _ hlm;have hv':=sS hin (hv.cells_t rfl);obtain⟨info,f1,f4⟩:=(hI _ _ hie).zb h2;cases hu with
     | map hg=>
      rw[e1]at hg; injection hg with hg; injection hg with hg; subst hg;have hMap:aJR n m es.toList:=⟨by simpa using e3,e4,fun j e x he hx=>e5 j e x (by simpa using he) hx⟩;refine⟨kt,et,b,es,clock,info,hm,rfl,hv',e1,hlm,e2,hMap,h5,f1,f4,fun em=>?_,?_⟩
      ·rw[hv']; exact(hI _ _ hik).keyv ma me h1 (by omega) em ks w (by omega)
      ·rw[hv',run_findKey_eq w (by rw[hk])];exact sL (by omega) (by rw[<-h4]; exact(hI _ _ hik).eqv) h5 m _ 0 hMap
    ·cases h
   ·cases h
  ·cases h
 ·cases h
end
section
variable {P:Program} {E:Env} {F:Nat->Prop} {g:Nat->Value} {st:St} {a:Act} {w:World}
theorem gT(r:cL E F g st a w){d n:Int}{x:Option Operand}(h:eY st d x=some n):
  (x=none/\n=d)\/∃ y k,x=some y/\a.eval y = .int k n:=by
 cases x with
 | none=>simp[eY]at h; exact .inl ⟨rfl,h.symm⟩
 | some y=>
  simp only[eY]at h;split at h
  ·rename_i k m hy;cases h;exact .inr ⟨y,k,rfl,(bW r hy).inv_int⟩
  ·cases h
theorem bX{n:Int}{y:Nat}{c:BoundsCode}(h:0<=n/\n<=(y:Int)):(Instr.sliceBound (.int k n) y c).run P w = .ok n.toNat w:=by simp[Instr.sliceBound,asIntOf,h]
theorem By(r:cL E F g st a w)(ht:P.underlying t=some .string)(s:ByteArray) 
  (hl:eY st 0 lo=some l)(hh:eY st s.size hi=some h)(hc:0<=l/\l<=h/\h<=(s.size:Int)):
  (Instr.sliceAt t (.string s) (lo.map a.eval) (hi.map a.eval) none).run P w = .ok (.string (s.extract l.toNat h.toNat)) w:=by
 obtain⟨h1,h2,h3⟩:=hc;have e:(Instr.sliceAt t (.string s) (lo.map a.eval) (hi.map a.eval) none).run P w=(Instr.slice t (.string s) (lo.map a.eval) (hi.map a.eval) none).run P w:=by simp[Instr.sliceAt,run_underlying ht]
 rw[e];have hb:(Instr.sliceBounds false s.size s.size (lo.map a.eval) (hi.map a.eval) none).run P w = .ok (l.toNat,h.toNat,s.size) w:=by
  unfold Instr.sliceBounds;rcases gT r hl with⟨rfl,rfl⟩ | ⟨y,k,rfl,hy⟩ <;> rcases gT r hh with⟨rfl,rfl⟩ | ⟨y',k',rfl,hy'⟩
  ·simp
  ·simp[hy',bX (P:=P) (w:=w) (k:=k') (n:=h) (y:=s.size) ⟨by omega,h3⟩]
  ·simp[hy,bX (P:=P) (w:=w) (k:=k) (n:=l) (y:=s.size) ⟨h1,by omega⟩]
  ·simp[hy,hy',bX (P:=P) (w:=w) (k:=k') (n:=h) (y:=s.size) ⟨by omega,h3⟩,bX (P:=P) (w:=w) (k:=k) (n:=l) (y:=h.toNat) ⟨h1,by omega⟩]
 simp[Instr.slice,run_underlying ht,hb]
theorem Ug{l:List T}(h:aQJ l=true):∃ k,l=[.int .u8 k]:=by
 unfold aQJ at h;split at h
 ·exact⟨_,rfl⟩
 ·cases h
theorem aAK(r:cL E F g st a w){p:PV}(hv:VR F g w p v){f:Nat->List T}(h:zZ st p=some (n,f))(h1:∀ i,i<n->(f i).length=1):
  (v = .slice none 0 0/\n=0)\/∃ ad c,v = .slice (some ad) n c/\∀ i x,i<n->f i=[x]->∃ u,w.cell? (ad.add i)=some u/\Rd F w x u:=by
 cases p with
 | own o=>
  simp only[zZ]at h;split at h
  ·rename_i e s' n' f' hl;cases h;cases hv with
   | own hg=>
    rcases r.w.hp.obj _ _ (aU hl) with⟨e1,e2⟩ | ⟨b,cap,cur,e1,e2,e3,e4,e5,e6,e7⟩
    ·rw[hg]at e1; exact .inl ⟨e1,e2⟩
    ·rw[hg]at e1; injection e1 with e8 e9 e10;refine .inr ⟨⟨b,0,none⟩,cap,by rw[e8,e9,e10],fun i x hi hx=>?_⟩;have hs:s'=1:=by rw[<-e6 i hi]; exact h1 i hi
     subst hs;obtain⟨u,hu,hr⟩:=e7 i 0 x hi (by rw[hx]; rfl);refine⟨u,?_,hr⟩;rw[Addr.add_none];simp only[World.cell?,e2];simpa using hu
  ·cases h
 | t x=>
  simp only[zZ]at h;cases hv.cells_t rfl with
  | nil h'=>rw[h]at h'; simp at h'; exact .inl ⟨rfl,h'.1⟩
  | sl ad cap size vs h' hc hF hs hv' hr'=>
   rw[h]at h'; simp at h'; obtain⟨rfl,rfl⟩:=h';refine .inr ⟨ad,cap,rfl,fun i y hi hy=>?_⟩;have hs1:size=1:=by rw[<-hs i hi]; exact h1 i hi
   subst hs1;have:=hv' i 0 hi (by omega);refine⟨vs i 0,by simpa using this,hr' i 0 y hi (by rw[hy]; rfl)⟩
  | int=>simp[T.view]at h
  | bool=>simp[T.view]at h
  | str=>simp[T.view]at h
  | fv=>simp[T.view]at h
  | agg=>simp[T.view]at h
 | nil=>simp[zZ]at h; cases hv; exact .inl ⟨rfl,h.1.symm⟩
 | _=>simp[zZ]at h
theorem aFJ(r:cL E F g st a w){p:PV}(hv:VR F g w p v){f:Nat->List T}(h:zZ st p=some (n,f))(hu:∀ i,i<n->aQJ (f i)=true):
  (∃ ad l c,v = .slice ad l c)/\(Conv.bytesToString v).run P w = .ok (.string (aVA n f)) w:=by
 have hlen:∀ i,i<n->(f i).length=1:=fun i hi=>by obtain⟨k,hk⟩:=Ug (hu i hi); rw[hk]; rfl
 rcases aAK r hv h hlen with⟨rfl,rfl⟩ | ⟨ad,c,rfl,hc⟩
 ·exact⟨⟨_,_,_,rfl⟩,by simp[Conv.bytesToString,aVA]⟩
 ·refine⟨⟨_,_,_,rfl⟩,?_⟩;rw[run_bytesToString (P:=P) w ad n c ((List.range n).map fun i=>aLO (f i))]
  ·rfl
  ·have:=run_loadCells_list (P:=P) w ad (((List.range n).map fun i=>aLO (f i)).map (Value.int .u8)) (fun j v hv=>by simp only[fD,gB]at hv;obtain⟨y,⟨i,hi,rfl⟩,rfl⟩:=hv;obtain⟨hi1,hi2⟩:=eK.1 hi;simp at hi1 hi2;subst hi2;obtain⟨k,hk⟩:=Ug (hu j hi1);obtain⟨u,hu',hr⟩:=hc j _ hi1 hk;rw[hk];simp only[aLO];rw[hr.inv_int]at hu';exact hu');simpa using this
theorem Ev(r:cL E F g st a w){j:eG}(ht:P.underlying t=some (.slice e))(hj:TOk P e j){x:T}(hv:Rd F w x v){f:Nat->List T}(hsz:(f 0).length=j.size)(hx:x.view=some (n,f))
  (hl:eY st 0 lo=some l)(hh:eY st n hi=some h)(hc:0<=l/\l<=h/\h<=(n:Int)):
  ∃ z,(Instr.sliceAt t v (lo.map a.eval) (hi.map a.eval) none).run P w = .ok z w/\Rd F w (.sl (h-l).toNat (fun k=>f (l.toNat+k))) z:=by
 obtain⟨h1,h2,h3⟩:=hc;obtain⟨ad,cap,rfl⟩:=hv.slice_len hx;have hcap:n<=cap:=by
  cases hv with
  | nil h=>rw[hx]at h; simp at h; omega
  | sl _ _ _ _ h hc=>rw[hx]at h; simp at h; omega
 have e:(Instr.sliceAt t (.slice ad n cap) (lo.map a.eval) (hi.map a.eval) none).run P w=(Instr.slice t (.slice ad n cap) (lo.map a.eval) (hi.map a.eval) none).run P w:=by simp[Instr.sliceAt,run_underlying ht]
 have hb:(Instr.sliceBounds true n cap (lo.map a.eval) (hi.map a.eval) none).run P w = .ok (l.toNat,h.toNat,cap) w:=by
  unfold Instr.sliceBounds;rcases gT r hl with⟨rfl,rfl⟩ | ⟨y,k,rfl,hy⟩ <;> rcases gT r hh with⟨rfl,rfl⟩ | ⟨y',k',rfl,hy'⟩
  ·simp
  ·simp[hy',bX (P:=P) (w:=w) (k:=k') (n:=h) (y:=cap) ⟨by omega,by omega⟩]
  ·simp[hy,bX (P:=P) (w:=w) (k:=k) (n:=l) (y:=n) ⟨h1,by omega⟩]
  ·simp[hy,hy',bX (P:=P) (w:=w) (k:=k') (n:=h) (y:=cap) ⟨by omega,by omega⟩,bX (P:=P) (w:=w) (k:=k) (n:=l) (y:=h.toNat) ⟨h1,by omega⟩]
 refine⟨.slice (if cap=l.toNat then ad else ad.map (·.add (l.toNat*j.size))) (h.toNat-l.toNat) (cap-l.toNat),?_,?_⟩
 ·rw[e];simp[Instr.slice,run_underlying ht,hb,run_sizeOf hj]
 ·have hn:h.toNat-l.toNat=(h-l).toNat:=by omega
  rw[hn];cases hv with
  | nil h'=>
   rw[hx]at h'; simp at h';have hl0:l.toNat=0:=by omega
   have hh0:(h-l).toNat=0:=by omega
   rw[hl0,hh0];simp;exact .nil rfl
  | sl ad cap' size vs h' hc hF hs hv' hr'=>
   rw[hx]at h'; simp at h'; obtain⟨_,rfl⟩:=h';by_cases hz:(h-l).toNat=0
   ·rw[hz];have H:∀ a':Addr,Rd F w (.sl 0 fun k=>f (l.toNat+k)) (.slice (some a') 0 (cap-l.toNat)):=fun a'=>
     .sl a' _ 0 (fun _ _=>undef) rfl (by omega) (fun h=>by omega) (fun i hi=>by omega) (fun i _ hi=>by omega) (fun i _ _ hi=>by omega)
    split
    ·exact H _
    ·exact H _
   ·have hcl:¬ cap=l.toNat:=by omega
    rw[aF hcl];simp only[qJ];have hsz':size=j.size:=by rw[<-hs 0 (by omega),hsz]
    subst hsz';have hblk:(ad.add (l.toNat*j.size)).block=ad.block:=by unfold Addr.add; split <;> rfl
    refine .sl _ _ j.size (fun i q=>vs (l.toNat+i) q) rfl (by omega) (fun _=>by rw[hblk]; exact hF (by omega)) (fun i hi=>hs _ (by omega)) (fun i q hi hq=>?_) (fun i q y hi hy=>hr' _ _ _ (by omega) hy);rw[Addr.add_add,<-oH,<-gW];exact hv' _ _ (by omega) hq
theorem Ca(r:cL E F g st a w){j:eG}(ht:P.underlying t=some (.slice e))(hj:TOk P e j){e0:Nat}{f:Nat->List Cel}{ov:Option (Nat×Nat×PV)}{ad:Option Addr}(hw:v = .slice ad m cap)
  (ho:Ws F g w (g o) e0 j.size n f ov)(hg:g o = .slice ad m cap)(hl:eY st 0 lo=some l)(hh:eY st n hi=some h)(hc:0<=l/\l<=h/\h<=(n:Int)):
  ∃ z,(Instr.sliceAt t v (lo.map a.eval) (hi.map a.eval) none).run P w = .ok z w/\VR F g w (.osl o j.size l.toNat (h-l).toNat) z:=by
 subst hw;obtain⟨h1,h2,h3⟩:=hc;have hn:m=n/\n<=cap/\(0<n->∃ b,ad=some ⟨b,0,none⟩):=by
  rcases ho with⟨e1,e2,_⟩ | ⟨b,cap',cur,e1,_,e3,_⟩
  ·rw[hg]at e1; injection e1 with e1 e4 e5; exact⟨by omega,by omega,fun hp=>by omega⟩
  ·rw[hg]at e1; injection e1 with e1 e4 e5; subst e5; exact⟨e4,e3,fun _=>⟨b,e1⟩⟩
 obtain⟨rfl,hcap,had⟩:=hn;have e:(Instr.sliceAt t (.slice ad m cap) (lo.map a.eval) (hi.map a.eval) none).run P w=(Instr.slice t (.slice ad m cap) (lo.map a.eval) (hi.map a.eval) none).run P w:=by simp[Instr.sliceAt,run_underlying ht]
 have hb:(Instr.sliceBounds true m cap (lo.map a.eval) (hi.map a.eval) none).run P w = .ok (l.toNat,h.toNat,cap) w:=by
  unfold Instr.sliceBounds;rcases gT r hl with⟨rfl,rfl⟩ | ⟨y,k,rfl,hy⟩ <;> rcases gT r hh with⟨rfl,rfl⟩ | ⟨y',k',rfl,hy'⟩
  ·simp
  ·simp[hy',bX (P:=P) (w:=w) (k:=k') (n:=h) (y:=cap) ⟨by omega,by omega⟩]
  ·simp[hy,bX (P:=P) (w:=w) (k:=k) (n:=l) (y:=m) ⟨h1,by omega⟩]
  ·simp[hy,hy',bX (P:=P) (w:=w) (k:=k') (n:=h) (y:=cap) ⟨by omega,by omega⟩,bX (P:=P) (w:=w) (k:=k) (n:=l) (y:=h.toNat) ⟨h1,by omega⟩]
 refine⟨.slice (if cap=l.toNat then ad else ad.map (·.add (l.toNat*j.size))) (h.toNat-l.toNat) (cap-l.toNat),?_,?_⟩
 ·rw[e];simp[Instr.slice,run_underlying ht,hb,run_sizeOf hj]
 ·have hn:h.toNat-l.toNat=(h-l).toNat:=by omega
  rw[hn];by_cases hz:(h-l).toNat=0
  ·exact .osl (m:=m) (cap:=cap) (.inl hz)
  ·have hcl:¬ cap=l.toNat:=by omega
   obtain⟨b,rfl⟩:=had (by omega);rw[aF hcl];exact .osl (.inr ⟨b,by simp[Addr.add_none],hg⟩)
theorem Br(r:cL E F g st a w){j:eG}(ht:P.underlying t=some (.slice e))(hj:TOk P e j)(hl:eY st 0 lo=some l)(hh:eY st 0 hi=some h)
  (hc:0<=l/\l<=h/\h<=0):(Instr.sliceAt t (.slice none 0 0) (lo.map a.eval) (hi.map a.eval) none).run P w = .ok (.slice none 0 0) w:=by
 obtain⟨h1,h2,h3⟩:=hc;have hl0:l=0:=by omega
 have hh0:h=0:=by omega
 subst hl0; subst hh0;have e:(Instr.sliceAt t (.slice none 0 0) (lo.map a.eval) (hi.map a.eval) none).run P w=(Instr.slice t (.slice none 0 0) (lo.map a.eval) (hi.map a.eval) none).run P w:=by simp[Instr.sliceAt,run_underlying ht]
 have hb:(Instr.sliceBounds true 0 0 (lo.map a.eval) (hi.map a.eval) none).run P w = .ok (0,0,0) w:=by
  unfold Instr.sliceBounds;rcases gT r hl with⟨rfl,_⟩ | ⟨y,k,rfl,hy⟩ <;> rcases gT r hh with⟨rfl,_⟩ | ⟨y',k',rfl,hy'⟩
  ·simp
  ·simp[hy',bX (P:=P) (w:=w) (k:=k') (n:=0) (y:=0) ⟨by omega,by omega⟩]
  ·simp[hy,bX (P:=P) (w:=w) (k:=k) (n:=0) (y:=0) ⟨by omega,by omega⟩]
  ·simp[hy,hy',bX (P:=P) (w:=w) (k:=k') (n:=0) (y:=0) ⟨by omega,by omega⟩,bX (P:=P) (w:=w) (k:=k) (n:=0) (y:=0) ⟨by omega,by omega⟩]
 rw[e];simp[Instr.slice,run_underlying ht,hb,run_sizeOf hj]
theorem Tj{j:eG}(hj':TOk P t j){x:PV}:∀ (l:List PV) (vs:Array Value),vs.size=l.length->(∀ (j:Nat) x v,l[j]? = some x->vs[j]? = some v->VR F g w x v)->jF j (l.drop off)=some x ->
  ∃ z,(part t vs off).run P w = .ok z w/\VR F g w x z:=by
 intro l vs hs hr hx;unfold jF at hx;split at hx
 ·rename_i hagg;split at hx
  ·rename_i hlen;have hlen:=cJ hlen;cases hx;simp only[dM,fI]at hlen;refine⟨_,by simp[part,lF hj'.und,hagg,run_sizeOf hj']; rfl,qH (by simp[hs]; omega) fun q y v hy hv=>?_⟩;rw[iR]at hy;split at hy
   ·rw[iD]at hy;refine hr _ y v hy ?_;rw[Array.getElem?_extract]at hv;split at hv
    ·exact hv
    ·cases hv
   ·cases hy
  ·cases hx
 ·rename_i hagg;split at hx
  ·rename_i y l' hl;cases hx;have hlo:l[off]? = some x:=by have:=congrArg (·[0]?) hl;simpa[iD] using this
   have hlt:off<vs.size:=by rw[hs]; exact(eK.1 hlo).1
   refine⟨vs[off],by simp[part,lF hj'.und,hagg,hlt],hr _ x _ hlo (by simp[hlt])⟩
  ·cases hx
theorem KeyR.toRd{F:Nat->Prop}{w:World}{k:T}(h:KeyR k v):Rd F w k v:=by
 cases h with
 | int k n=>exact .int k n
 | str s=>exact .str s
theorem mZ(r:cL E F g st a w){di:Nat}{x:PV}{C:Prop}{u:Value}(hu:VR F g w (.ptr di 0) u):∀ {l:Hp},(∀ e,e∈l->e∈st.hp)->xY di l=some (x,C)->C ->
  ∃ v,(Instr.entry u).run P w = .ok v w/\VR F g w x v
 | [],_,h,_=>by simp[xY]at h
 | (o,.box _)::l,hs,h,hC=>mZ r hu (fun e he=>hs e (cV _ he)) (by simpa[xY] using h) hC
 | (o,.arr ..)::l,hs,h,hC=>mZ r hu (fun e he=>hs e (cV _ he)) (by simpa[xY] using h) hC
 | (o,.mpb ..)::l,hs,h,hC=>mZ r hu (fun e he=>hs e (cV _ he)) (by simpa[xY] using h) hC
 | (o,.arm ..)::l,hs,h,hC=>mZ r hu (fun e he=>hs e (cV _ he)) (by simpa[xY] using h) hC
 | (o,.bld ..)::l,hs,h,hC=>mZ r hu (fun e he=>hs e (cV _ he)) (by simpa[xY] using h) hC
 | (o,.mp none _ _)::l,hs,h,hC=>mZ r hu (fun e he=>hs e (cV _ he)) (by simpa[xY] using h) hC
 | (o,.mp (some i) m ho)::l,hs,h,hC=>by
  simp only[xY]at h;split at h
  ·rename_i hb;have hb:=cJ hb;subst hb;split at h
   ·rename_i k' k p hcur;cases h;have hC:k'=k:=hC;subst hC;obtain⟨b,es,clock,h1,h2,l1,r1,hM⟩:=r.w.hp.obj _ _ (hs _ (dJ ..));obtain⟨rr,since,seen,c0,g1,g2,g3,g4,g5,g6,g7,g8⟩:=hM.it;obtain⟨e1,⟨e,he,hke,q,hq⟩,e3⟩:=g8 k' hcur;obtain⟨e',hr1,hke',hv⟩:=hM.hole;have hee:e=e':=by
     have he':=hM.perm.mem_iff.2 he;rcases dZ.1 he' with hl | hr
     ·exfalso;obtain⟨j,y,hy,hj,hR⟩:=hM.ent.memr hl;have hyk:y.1=k':=hR.1.inj hke;have hnd:=hM.keys;rw[Kc]at hnd;exact hnd.2.2 _ (Ax (kW hy)) k' (by simp[hoK]) hyk
     ·rw[hr1]at hr; simpa using hr
    subst hee;subst hq; subst e1;have hrun:=run_entry_at (P:=P) w rr b since q es c0 e g2 h2 he hM.born;cases hu with
    | ptr hg=>
     rw[g1]at hg;injection hg with hg; injection hg with hg; injection hg with hg;subst hg;refine⟨_,hrun,.tup rfl fun j y v hy hv'=>?_⟩
     match j,hy,hv' with
     | 0,hy,hv'=>simp at hy hv'; subst hy; subst hv'; exact .t hke.toRd
     | 1,hy,hv'=>simp at hy hv'; subst hy; subst hv'; exact hv
     | j+2,hy,_=>simp at hy
   ·cases h
  ·exact mZ r hu (fun e he=>hs e (cV _ he)) h hC
theorem Bo(hT:P.underlying t=some (.interface ms)):(Op.equal t .nilIface .nilIface).run P w = .ok true w:=by unfold Op.equal;rw[show Op.maxDepth=9999+1 from rfl];unfold Op.equalIn;rw[Sem.run_bind,run_underlying hT w];rfl
theorem Aq(hT:P.underlying t=some (.interface ms))(y:Operand)(c:Value)(b:Bool)(hop:op=if b then .eql else .neq):
  (do eqGuard op t y (.const c) .nilIface .nilIface; binOp op t .nilIface .nilIface:Sem Value).run P w = .ok (.bool b) w:=by
 have he:=Bo (w:=w) hT;cases b <;> subst hop <;> simp[eqGuard,binOp,he]
theorem Us{t':TypeId}(hT:P.underlying t=some (.interface ms))(xo yo:Operand)(v:Value)(b:Bool)(hop:op=if b then .neq else .eql):
  (do eqGuard op t xo yo (.iface t' v) .nilIface; binOp op t (.iface t' v) .nilIface:Sem Value).run P w = .ok (.bool b) w:=by
 have he:(Op.equal t (.iface t' v) .nilIface).run P w = .ok false w:=by unfold Op.equal;rw[show Op.maxDepth=9999+1 from rfl];unfold Op.equalIn;rw[Sem.run_bind,run_underlying hT w];rfl
 cases b <;> subst hop <;> simp[eqGuard,binOp,he]
theorem jM{j:TypeInfo}{a b:Addr}(hp:P.underlying t=some (.pointer e))(hte:P.info? e=some j)(hsz:j.size≠0){c:Bool}(hs:(sameAddr a b).run P w = .ok c w)(hop:op = .eql\/op = .neq)(xo yo:Operand):
  (do eqGuard op t xo yo (.pointer (some a)) (.pointer (some b)); binOp op t (.pointer (some a)) (.pointer (some b)):Sem Value).run P w = .ok (.bool (match op with | .eql=>c | _=>!c)) w:=by
 have he:(Op.equal t (.pointer (some a)) (.pointer (some b))).run P w = .ok c w:=by
  have h:∀ d:Nat,(Op.equalIn (d+1) t (.pointer (some a)) (.pointer (some b))).run P w = .ok c w:=fun d=>by simp[Op.equalIn,run_underlying hp,sizeOf,typeInfo,hte,hsz,hs]
  simp[Op.equal,Op.maxDepth,h 9999]
 have hg:(eqGuard op t xo yo (.pointer (some a)) (.pointer (some b))).run P w = .ok () w:=by unfold eqGuard; cases op <;> simp
 rcases hop with rfl | rfl <;> simp[hg,binOp,he]
theorem aOS{I:Inf}(hI:kL P I.ti)(r:cL E F g st a w){i:eG}(hi:I.ti t=some i){o':Nat}{x:PV}(h:aPT I st i.und op o o'=some (x,C)) 
  (hu:VR F g w (.ptr o 0) u)(hv:VR F g w (.ptr o' 0) v)(xo yo:Operand):∃ z,(do eqGuard op t xo yo u v; binOp op t u v:Sem Value).run P w = .ok z w/\VR F g w x z:=by
 unfold aPT at h;split at h
 ·rename_i e hund;have hT:P.underlying t=some (.pointer e):=by have hT:=(hI _ _ hi).und; rw[hund]at hT; exact hT
  split at h
  ·rename_i j hj;obtain⟨info,hi1,hi2,_⟩:=(hI _ _ hj).info;split at h
   ·rename_i hz heq;have hz:info.size≠0:=by rw[hi2]; exact nP hz
    have heq:=cJ heq;subst heq;cases hu with | @ptr _ _ b hg=>cases hv with | @ptr _ _ b' hg'=>
     rw[hg]at hg';injection hg' with hg'; injection hg' with hg'; injection hg' with hg';subst hg';have hs:=run_sameAddr_same (P:=P) w (⟨b,0,none⟩:Addr);split at h <;> cases h
     ·exact⟨_,jM hT hi1 hz hs (.inl rfl) xo yo,.t (.bool _)⟩
     ·exact⟨_,jM hT hi1 hz hs (.inr rfl) xo yo,.t (.bool _)⟩
   ·rename_i hz heq;have hz:info.size≠0:=by rw[hi2]; exact nP hz
    have heq:=nP heq;split at h
    ·rename_i l l' hl hl';have hl:=aU hl;have hl':=aU hl';obtain⟨b,vs,ty,e1,e2,_⟩:=r.w.hp.obj _ _ hl;obtain⟨b',vs',ty',e1',e2',_⟩:=r.w.hp.obj _ _ hl';cases hu with | ptr hg=>cases hv with | ptr hg'=>
      rw[e1]at hg; rw[e1']at hg';injection hg with hg; injection hg with hg; injection hg with hg;injection hg' with hg'; injection hg' with hg'; injection hg' with hg';subst hg; subst hg';have hne:b≠b':=fun hb=>r.w.hp.sep _ _ _ _ b hl hl' heq (.self (by rw[e1]; rfl)) (.self (by rw[e1',hb]; rfl));have hs:=run_sameAddr_other (P:=P) w (a:=⟨b,0,none⟩) (b:=⟨b',0,none⟩) (fun hh=>hne (by injection hh)) e2 e2';split at h <;> cases h
      ·exact⟨_,jM hT hi1 hz hs (.inl rfl) xo yo,.t (.bool _)⟩
      ·exact⟨_,jM hT hi1 hz hs (.inr rfl) xo yo,.t (.bool _)⟩
    ·cases h
   ·cases h
  ·cases h
 ·cases h
theorem aEE{I:Inf}(hI:kL P I.ti)(r:cL E F g st a w)(o:Oper){x:PV}(h:pev I st o.op=some (x,C))(hC:C):
  ∃ v,(execOp a.eval o).run P w = .ok (.value v) w/\VR F g w x v:=by
 unfold execOp;cases hop:o.op with
 | move y=>simp only[hop,pev]at h;exact⟨_,by simp,bW r (jR h)⟩
 | assign y=>simp only[hop,pev]at h;exact⟨_,by simp,bW r (jR h)⟩
 | pick c y z=>
  simp only[hop,pev]at h;split at h
  ·rename_i hc;have:=(bW r hc).inv_bool;exact⟨_,by simp[this,asBool],bW r (jR h)⟩
  ·rename_i hc;have:=(bW r hc).inv_bool;exact⟨_,by simp[this,asBool],bW r (jR h)⟩
  ·cases h
 | load t y=>
  simp only[hop,pev]at h;split at h
  ·rename_i i p hi hp;obtain⟨z,hz,hr⟩:=Jo r (hI _ _ hi) h hC (bW r hp);exact⟨z,by simp[hz],hr⟩
  ·cases h
 | nilCheck y=>
  simp only[hop,pev]at h;split at h
  ·rename_i hp; cases h;have hv:=bW r hp;obtain⟨u,hu⟩:∃ u,a.eval y=u:=⟨_,rfl⟩;rw[hu]at hv;cases hv with | ptr e=>exact⟨_,by simp[hu],.ptr e⟩
  ·rename_i hp; cases h;have hv:=bW r hp;obtain⟨u,hu⟩:∃ u,a.eval y=u:=⟨_,rfl⟩;rw[hu]at hv;cases hv with | eptr ad hF e=>exact⟨_,by simp[hu],.eptr ad hF e⟩
  ·rename_i hp; cases h;have hv:=bW r hp;obtain⟨u,hu⟩:∃ u,a.eval y=u:=⟨_,rfl⟩;rw[hu]at hv;cases hv with | aptr e=>exact⟨_,by simp[hu],.aptr e⟩
  ·cases h
 | binOp op t y z u=>
  simp only[hop,pev]at h;split at h
  ·rename_i i hi hp hq;have hv1:=bW r hp;have hv2:=bW r hq;have hT:=(hI _ _ hi).und;generalize hu1:a.eval y=u1 at hv1;generalize hu2:a.eval z=u2 at hv2;cases hv1 with | lit _=>cases hv2 with | lit _=>
    unfold aWY at h;split at h
    ·rename_i vc hund;rw[hund]at hT;obtain⟨ms,hT⟩:=hT;cases h;refine⟨.bool true,?_,.t (.bool _)⟩;have hv:=Aq (w:=w) hT y vc true rfl;simp only[hu1,hu2,Sem.run_bind,Sem.run_pure,bU]at hv ⊢;rw[hv]; rfl
    ·rename_i vc hund;rw[hund]at hT;obtain⟨ms,hT⟩:=hT;cases h;refine⟨.bool false,?_,.t (.bool _)⟩;have hv:=Aq (w:=w) hT y vc false rfl;simp only[hu1,hu2,Sem.run_bind,Sem.run_pure,cK,bY]at hv ⊢;rw[hv]; rfl
    ·cases h
  ·rename_i i hi hp hq;have hv1:=bW r hp;have hv2:=bW r hq;have hT:=(hI _ _ hi).und;generalize hu1:a.eval y=u1 at hv1;generalize hu2:a.eval z=u2 at hv2;cases hv1 with | ifx=>cases hv2 with | lit _=>
    unfold aVZ at h;split at h
    ·rename_i hund;rw[hund]at hT;obtain⟨ms,hT⟩:=hT;cases h;refine⟨.bool false,?_,.t (.bool _)⟩;have hv:=fun tt vv=>Us (w:=w) (t':=tt) hT y z vv false rfl;simp only[hu1,hu2,Sem.run_bind,Sem.run_pure,cK,bY]at hv ⊢;rw[hv]; rfl
    ·rename_i hund;rw[hund]at hT;obtain⟨ms,hT⟩:=hT;cases h;refine⟨.bool true,?_,.t (.bool _)⟩;have hv:=fun tt vv=>Us (w:=w) (t':=tt) hT y z vv true rfl;simp only[hu1,hu2,Sem.run_bind,Sem.run_pure,bU]at hv ⊢;rw[hv]; rfl
    ·cases h
  ·rename_i i o1 o2 hi hp hq;obtain⟨v,hv,hr⟩:=aOS hI r hi h (bW r hp) (bW r hq) y z;refine⟨v,?_,hr⟩;simp only[Sem.run_bind,Sem.run_pure]at hv ⊢;rw[hv]; rfl
  ·rename_i i p q _ _ hi hp hq;obtain⟨v,hv,hr⟩:=aLJ (P:=P) (hI _ _ hi) h hC (bW r hp) (bW r hq) y z;refine⟨v,?_,hr⟩;simp only[Sem.run_bind,Sem.run_pure]at hv ⊢;rw[hv]; rfl
  ·cases h
 | unOp op t y=>
  simp only[hop,pev]at h;split at h
  ·rename_i p hp;obtain⟨v,hv,hr⟩:=aUL (P:=P) (w:=w) h (bW r hp);exact⟨v,by simp[hv],hr⟩
  ·cases h
 | convert s d y=>
  simp only[hop,pev]at h;split at h
  ·rename_i i j k n hi hj hp;split at h
   ·rename_i k' hk;cases h;have hv:=(bW r hp).inv_int;have hd:=(hI _ _ hj).und;rw[hk]at hd;have hs:∃ dd,P.underlying s=some dd:=by
     have:=(hI _ _ hi).und;cases hu:i.und <;> rw[hu]at this <;> simp only[UR]at this
     case st fs=>obtain⟨f,h1,_⟩:=this; exact⟨_,h1⟩
     case other=>obtain⟨f,h1,_⟩:=this; exact⟨_,h1⟩
     case ifc=>obtain⟨f,h1⟩:=this; exact⟨_,h1⟩
     all_goals exact⟨_,this⟩
    obtain⟨dd,hs⟩:=hs;have:(convert s d (.int k n)).run P w = .ok (.int k' (k'.wrap n)) w:=by unfold convert;rw[Sem.run_bind,run_underlying hs];simp only[Result.andThen_ok];rw[Sem.run_bind,run_underlying hd];simp[Conv.intToInt]
    exact⟨_,by simp[hv,this],.t (.int _ _)⟩
   ·cases h
  ·rename_i i j p hne hi hj hp;split at h
   ·rename_i e n f hui huj hrow;split at h
    ·rename_i k hk;split at h
     ·rename_i huk;cases h;have hs:=(hI _ _ hi).und; rw[hui]at hs;have hd:=(hI _ _ hj).und; rw[huj]at hd;have he:=(hI _ _ hk).und; rw[huk]at he;obtain⟨⟨ad,l,c,hv⟩,hrun⟩:=aFJ (P:=P) r (bW r hp) hrow hC;refine⟨_,?_,.t (.str _)⟩;rw[hv]at hrun;simp[hv,run_convert_bytes_string w s d e ad l c hs he hd,hrun]
     ·cases h
    ·cases h
   ·cases h
  ·cases h
 | makeFunc fn fs cs=>
  simp only[hop,pev]at h;split at h
  ·rename_i l hl;cases h;obtain⟨h1,h2⟩:=oC r _ _ hl;refine⟨.func fn (fs.map a.eval) (cs.map a.eval),by simp[Instr.makeFunc],.fn (by simp) (by simpa using h1.symm) fun j y v hy hv=>h2 j y v hy ?_⟩;rw[Cn];rw[<-zN]at hv;simpa using hv
  ·cases h
 | fieldAddr s y f=>
  simp only[hop,pev]at h;split at h
  ·rename_i i p hi hp;split at h
   ·rename_i fs hu;have hv:=bW r hp;obtain⟨v0,hv0⟩:∃ u,a.eval y=u:=⟨_,rfl⟩;rw[hv0]at hv;split at h
    ·rename_i off o k hf;cases h;cases hv with
     | ptr e=>exact⟨_,by simp[hv0,qA hI (hI _ _ hi) hu hf]; rfl,by rw[Addr.add_none]; exact .ptr e⟩
    ·rename_i off l hf;cases h;cases hv with
     | eptr ad hF e=>
      refine⟨_,by simp[hv0,qA hI (hI _ _ hi) hu hf]; rfl,.eptr _ (fun hl=>?_) fun j x hx=>?_⟩
      ·have:(ad.add off).block=ad.block:=by unfold Addr.add; split <;> rfl
       rw[this]; exact hF (fun e=>hl (by rw[e]; simp))
      ·rw[Addr.add_add]; exact e _ _ (by rw[iD]at hx; exact hx)
    ·rename_i off o s i' k hf;cases h;cases hv with
     | aptr e=>exact⟨_,by simp[hv0,qA hI (hI _ _ hi) hu hf]; rfl,by rw[Addr.add_none,oH]; exact .aptr e⟩
    ·cases h
   ·cases h
  ·cases h
 | field t y f=>
  simp only[hop,pev]at h;split at h
  ·rename_i i p hi hp;split at h
   ·rename_i fs hu;split at h
    ·rename_i off u hf;split at h
     ·rename_i j hj;have hv:=bW r hp;obtain⟨v0,hv0⟩:∃ u,a.eval y=u:=⟨_,rfl⟩;rw[hv0]at hv;have hd:=(hI _ _ hi).und;rw[hu]at hd;obtain⟨fields,h1,h2⟩:=hd;rw[<-h2,fD,gB]at hf;obtain⟨fd,hfd,he⟩:=hf;cases he;have hfd':fields[f]? = some fd:=by simpa using hfd
      have key:∀ (l:List PV) (vs:Array Value),vs.size=l.length->(∀ (j:Nat) x v,l[j]? = some x->vs[j]? = some v->VR F g w x v)->jF j (l.drop fd.offset)=some x ->
        ∃ z,(part fd.type vs fd.offset).run P w = .ok z w/\VR F g w x z:=by
       intro l vs hs hr hx;have hj':=hI _ _ hj;unfold jF at hx;split at hx
       ·rename_i hagg;split at hx
        ·rename_i hlen;have hlen:=cJ hlen;cases hx;simp only[dM,fI]at hlen;refine⟨_,by simp[part,lF hj'.und,hagg,run_sizeOf hj']; rfl,qH (by simp[hs]; omega) fun q y v hy hv=>?_⟩;rw[iR]at hy;split at hy
         ·rw[iD]at hy;refine hr _ y v hy ?_;rw[Array.getElem?_extract]at hv;split at hv
          ·exact hv
          ·cases hv
         ·cases hy
        ·cases hx
       ·rename_i hagg;split at hx
        ·rename_i y l' hl;cases hx;have hlo:l[fd.offset]? = some x:=by have:=congrArg (·[0]?) hl;simpa[iD] using this
         have hlt:fd.offset<vs.size:=by rw[hs]; exact(eK.1 hlo).1
         refine⟨vs[fd.offset],by simp[part,lF hj'.und,hagg,hlt],hr _ x _ hlo (by simp[hlt])⟩
        ·cases hx
      split at h
      ·rename_i l;have hr:=hv.cells_t rfl;cases hr with
       | @agg _ vs hs hr=>obtain⟨z,hz,hr'⟩:=key (l.map PV.t) vs (by simp[hs]) (fun q y v hy hv=>by simp only[fD,gB]at hy;obtain⟨y',hy,rfl⟩:=hy;exact .t (hr q y' v hy hv)) (by simpa using jR h);exact⟨z,by simp[hv0,Instr.field,run_underlying h1,hfd',asAgg,hz],hr'⟩
       | nil h=>simp[T.view]at h
       | sl _ _ _ _ h=>simp[T.view]at h
      ·cases hv with
       | agg hs hr=>obtain⟨z,hz,hr'⟩:=key _ _ hs hr (jR h);exact⟨z,by simp[hv0,Instr.field,run_underlying h1,hfd',asAgg,hz],hr'⟩
      ·cases h
     ·cases h
    ·cases h
   ·cases h
  ·cases h
 | indexAddr t y ix=>
  simp only[hop,pev]at h;split at h
  ·rename_i i p k n hi hp hn;split at h
   ·rename_i e hu;split at h
    ·rename_i j hj;have hix:=(bW r hn).inv_int;obtain⟨z,hz,hr⟩:=Zu r (hI _ _ hi) hu (hI _ _ hj) h hC (bW r hp) k;exact⟨z,by simp[hix,hz],hr⟩
    ·cases h
   ·rename_i m e hu;split at h
    ·rename_i j q off hj;cases h;have hix:=(bW r hn).inv_int;have hv:=bW r hp;obtain⟨u,hu'⟩:∃ u,a.eval y=u:=⟨_,rfl⟩;rw[hu']at hv;have hd:=(hI _ _ hi).und;rw[hu]at hd;cases hv with
     | @ptr _ _ b hg=>refine⟨.pointer (some ⟨b,off+n.toNat*j.size,none⟩),?_,.ptr hg⟩;simp[hix,hu',Instr.indexAt,Instr.sureAddr,asIntOf,run_underlying hd,run_sizeOf (hI _ _ hj),hC,Addr.add_none]
    ·cases h
   ·cases h
  ·cases h
 | lookup t y k ok=>
  cases ok with
  | false=>simp[hop,pev]at h
  | true=>
   simp only[hop,pev]at h;split at h
   ·rename_i p q hp hq;split at h
    ·rename_i n m o' ks hm;cases h;obtain⟨kt,et,b,es,clock,info,h1,h2,h3,h4,h5,h6,h7,h8,h9,h10,h11,h12⟩:=Tf hI r hm (bW r hp) (bW r hq);have hget:(getObj b).run P w = .ok (.map es clock) w:=Go.run_getObj_map w b es clock h6;have hz:(zeroValue et).run P w = .ok (.bool false) w:=by simp[zeroValue,typeInfo,h9,h10]
     refine⟨.tuple #[.bool (aLX m ks),.bool (aJX m ks)],?_,.tup rfl fun j x v hx hv=>?_⟩
     ·simp only[h2];have hrun:(Instr.lookup t (.map (some b)) (a.eval k) true).run P w = .ok (.tuple #[.bool (aLX m ks),.bool (aJX m ks)]) w:=by
       unfold Instr.lookup;simp only[Sem.run_bind,run_underlying h1,Result.andThen_ok,hget,Sem.run_pure,h11,h12];unfold aLX aJX;cases hf:nQ m ks 0 with
       | none=>simp[hz]
       | some x=>simp
      simp[hrun]
     ·match j,hx,hv with
      | 0,hx,hv=>simp at hx hv; subst hx; subst hv; exact .t (.bool _)
      | 1,hx,hv=>simp at hx hv; subst hx; subst hv; exact .t (.bool _)
      | j+2,hx,hv=>simp at hx
    ·cases h
   ·cases h
 | index t y ix=>
  simp only[hop,pev]at h;split at h
  ·rename_i i s k n hi hp hn;split at h
   ·rename_i hu;cases h;have hd:=(hI _ _ hi).und;rw[hu]at hd;have hix:=(bW r hn).inv_int;have hs:=(bW r hp).inv_str;have hlt:n.toNat<s.size:=by omega
    refine⟨.int .u8 ((s[n.toNat]?.getD 0).toNat:Int),?_,.t (.int _ _)⟩;simp[hix,hs,Instr.index,asIntOf,run_underlying hd,hC.1,hlt]
   ·cases h
  ·rename_i i l k n hi hp hn;split at h
   ·rename_i m e hu;split at h
    ·rename_i j hj;split at h
     ·rename_i q hq;cases h;have hd:=(hI _ _ hi).und;rw[hu]at hd;have hix:=(bW r hn).inv_int;have hv:=bW r hp;obtain⟨v0,hv0⟩:∃ u,a.eval y=u:=⟨_,rfl⟩;rw[hv0]at hv;have hr:=hv.cells_t rfl;cases hr with
      | @agg _ vs hs hr=>obtain⟨z,hz,hr'⟩:=Tj (P:=P) (F:=F) (g:=g) (w:=w) (hI _ _ hj) (off:=n.toNat*j.size) (l.map PV.t) vs (by simp[hs]) (fun q y v hy hv=>by simp only[fD,gB]at hy;obtain⟨y',hy,rfl⟩:=hy;exact .t (hr q y' v hy hv)) (by simpa using hq);exact⟨z,by simp[hix,hv0,Instr.index,asIntOf,run_underlying hd,hC.1,hC.2,run_sizeOf (hI _ _ hj),hz],hr'⟩
      | nil h=>simp[T.view]at h
      | sl _ _ _ _ h=>simp[T.view]at h
     ·cases h
    ·cases h
   ·cases h
  ·rename_i i l k n hi hp hn;split at h
   ·rename_i m e hu;split at h
    ·rename_i j hj;split at h
     ·rename_i q hq;cases h;have hd:=(hI _ _ hi).und;rw[hu]at hd;have hix:=(bW r hn).inv_int;have hv:=bW r hp;obtain⟨v0,hv0⟩:∃ u,a.eval y=u:=⟨_,rfl⟩;rw[hv0]at hv;cases hv with
      | agg hs hr=>obtain⟨z,hz,hr'⟩:=Tj (P:=P) (F:=F) (g:=g) (w:=w) (hI _ _ hj) (off:=n.toNat*j.size) _ _ hs hr hq;exact⟨z,by simp[hix,hv0,Instr.index,asIntOf,run_underlying hd,hC.1,hC.2,run_sizeOf (hI _ _ hj),hz],hr'⟩
     ·cases h
    ·cases h
   ·cases h
  ·cases h
 | extract y i=>
  simp only[hop,pev]at h;split at h
  ·rename_i l hl;have hv:=bW r hl;obtain⟨u,hu⟩:∃ u,a.eval y=u:=⟨_,rfl⟩;rw[hu]at hv;have hx:=jR h;cases hv with
   | @tup _ vs hs hr=>
    have hlt:i<vs.size:=by rw[hs]; exact(eK.1 hx).1
    exact⟨vs[i],by simp[hu,Instr.extract,hlt],hr i x _ hx (by simp[hlt])⟩
  ·cases h
 | build t parts=>simp only[hop,pev]at h;obtain⟨z,hz,hr⟩:=Xt hI r (jR h);exact⟨z,by simp[hz],hr⟩
 | slice t y lo hi mx=>
  simp only[hop,pev]at h;split at h
  ·rename_i i s hi' hp;split at h
   ·rename_i l hh hu hl hh';cases h;have hd:=(hI _ _ hi').und;rw[hu]at hd;have hs:=(bW r hp).inv_str;exact⟨_,by simp[hs,By r hd s hl hh' hC],.t (.str _)⟩
   ·cases h
  ·rename_i i x hi' hp;split at h
   ·rename_i e n f hu hx;split at h
    ·rename_i j l hh hj hl hh';split at h
     ·rename_i hlen;cases h;have hd:=(hI _ _ hi').und;rw[hu]at hd;obtain⟨z,hz,hr⟩:=Ev (P:=P) r hd (hI _ _ hj) ((bW r hp).cells_t rfl) (cJ hlen) hx hl hh' hC;exact⟨z,by simp[hz],.t hr⟩
     ·cases h
    ·cases h
   ·cases h
  ·rename_i i hi' hp;split at h
   ·rename_i e l hh hu hl hh';split at h
    ·rename_i j hj;cases h;have hd:=(hI _ _ hi').und;rw[hu]at hd;obtain⟨u,hu'⟩:∃ u,a.eval y=u:=⟨_,rfl⟩;have hv:=bW r hp;rw[hu']at hv;cases hv;exact⟨.slice none 0 0,by simp[hu',Br r hd (hI _ _ hj) hl hh' hC],.nil⟩
    ·cases h
   ·cases h
  ·rename_i i o hi' hp;split at h
   ·rename_i e0 s n f ov hlk;split at h
    ·rename_i e l hh hu hl hh';split at h
     ·rename_i j hj;split at h
      ·rename_i hs;have hs:=cJ hs;subst hs;cases h;have hd:=(hI _ _ hi').und;rw[hu]at hd;obtain⟨u,hu'⟩:∃ u,a.eval y=u:=⟨_,rfl⟩;have hv:=bW r hp;rw[hu']at hv;have ho:=r.w.hp.obj _ _ (aU hlk);cases hv with
       | @own _ n' cap ad hg=>obtain⟨z,hz,hr⟩:=Ca (P:=P) (o:=o) (m:=n') r hd (hI _ _ hj) rfl ho hg hl hh' hC;exact⟨z,by simp[hu',hz],hr⟩
      ·cases h
     ·cases h
    ·cases h
   ·cases h
  ·cases h
 | entry y=>
  simp only[hop,pev]at h;split at h
  ·rename_i di hp;obtain⟨v,h1,h2⟩:=mZ (P:=P) r (bW r hp) (fun e he=>he) h hC;exact⟨v,by simp[h1],h2⟩
  ·cases h
 | call c=>
  simp only[hop,pev,aFU]at h;obtain⟨cal,args,ats⟩:=c;simp only at h;split at h
  ·rename_i y t ha ht;have ha':args=#[y]:=by rw[<-mS (xs:=args),ha]
   have ht':ats=#[t]:=by rw[<-mS (xs:=ats),ht]
   subst ha'; subst ht';split at h
   ·rename_i i p hi hp;obtain⟨z,hz,hr⟩:=aLE (P:=P) r (hI _ _ hi) (jR h) (bW r hp) o.type;exact⟨z,by simp[resolve,invoke,builtin,hz],hr⟩
   ·cases h
  ·rename_i y t ha ht;have ha':args=#[y]:=by rw[<-mS (xs:=args),ha]
   have ht':ats=#[t]:=by rw[<-mS (xs:=ats),ht]
   subst ha'; subst ht';split at h
   ·rename_i i hi hp;split at h
    ·rename_i e hu;cases h;have hd:=(hI _ _ hi).und;rw[hu]at hd;obtain⟨u,hu'⟩:∃ u,a.eval y=u:=⟨_,rfl⟩;have hv:=bW r hp;rw[hu']at hv;cases hv;exact⟨.int .i64 0,by simp[hu',resolve,invoke,builtin,Builtin.cap_,run_underlying hd,goInt],.t (.int _ _)⟩
    ·cases h
   ·cases h
  ·rename_i y z ha;have ha':args=#[y,z]:=by rw[<-mS (xs:=args),ha]
   subst ha';split at h
   ·rename_i p q hp hq;obtain⟨z',hz,hr⟩:=aKG (P:=P) (w:=w) (jR h) (bW r hp) (bW r hq) ats o.type;exact⟨z',by simp[resolve,invoke,builtin,hz],hr⟩
   ·cases h
  ·rename_i y z ha;have ha':args=#[y,z]:=by rw[<-mS (xs:=args),ha]
   subst ha';split at h
   ·rename_i p q hp hq;obtain⟨z',hz,hr⟩:=aMT (P:=P) (w:=w) (jR h) (bW r hp) (bW r hq) ats o.type;exact⟨z',by simp[resolve,invoke,builtin,hz],hr⟩
   ·cases h
  ·cases h
 | _=>simp[hop,pev]at h
end
def oR(d:Nat):List Nat->Bool
 | []=>true
 | k::l=>match Nat.beq k d with | true=>false | false=>oR d l
theorem fJ{d:Nat}:∀ {l:List Nat},oR d l=true->d∉l
 | [],_=>by simp
 | k::l,h=>by
  simp only[oR]at h;split at h
  ·cases h
  ·rename_i hk;simp only[aX,not_or];exact⟨fun e=>nP hk e.symm,fJ h⟩
def jK(d:Nat):List PV->Bool
 | []=>true
 | x::l=>match x.mentions d with | true=>false | false=>jK d l
theorem pG{d:Nat}:∀ {l:List PV},jK d l=true->∀ x,x∈l->∀ k,k∈x.names->k≠d
 | [],_=>by simp
 | y::l,h=>by
  simp only[jK]at h;split at h
  ·cases h
  ·rename_i hk;intro x hx;rcases aX.1 hx with rfl | hx
   ·exact PV.not_mentions hk
   ·exact pG h x hx
def fW(I:Inf)(st:St)(d:Nat)(x:bA)(p:PV):Option St:=
 match Nat.blt d I.nt,oR d I.N,st.erase d with
 | true,true,some st'=>some ({ st' with hp:=(d,x)::st'.hp }.put d p)
 | _,_,_=>none
def dT(ts:List T)(s:Nat):Nat->List T:=fun i=>(ts.drop (i*s)).take s
def pD(n:Nat)(f1 f2:Nat->List T):Nat->List T:=fun i=>if i<n then f1 i else f2 (i-n)
def jX(s:Nat)(l:List T):Bool:=Nat.beq l.length s&&l.all (fun x=>(PV.t x).one)
def bBX(n m b s:Nat)(f:Nat->List T):Prop:=(n+m)*b<=140737488355328/\∀ i,i<m->jX s (f i)=true
def Jl(l:List T)(off:Nat)(c:List T):List T:=l.take off++c++l.drop (off+c.length)
def aPP(s:Nat)(l:List T)(off:Nat)(c:List T):List T:=match Nat.beq off 0,Nat.beq c.length s with | true,true=>c | _,_=>Jl l off c
theorem aLH{l:List T}{c:List T}(h:l.length=s):aPP s l off c=Jl l off c:=by
 unfold aPP;split
 ·rename_i h1 h2;have h1:=cJ h1;have h2:=cJ h2;subst h1;simp[Jl,h2,<-h]
 ·rfl
def rY(f:Nat->List T)(k:Nat)(c:List T):Nat->List T:=fun i=>if i=k then c else f i
def Bs(g:Cel->Cel):Nat->List Cel->List Cel
 | _,[]=>[]
 | 0,c::l=>g c::l
 | n+1,c::l=>c::Bs g n l
theorem Jx{g:Cel->Cel}{c:Cel}(h:∀ y,g y=c):∀ (n:Nat) (l:List Cel),Bs g n l=l.set n c
 | _,[]=>by simp[Bs]
 | 0,_::l=>by simp[Bs,h]
 | n+1,_::l=>by simp[Bs,Jx h n l]
theorem Sf{g:Cel->Cel}(h:∀ y,g y=y):∀ (n:Nat) (l:List Cel),Bs g n l=l
 | _,[]=>by simp[Bs]
 | 0,_::l=>by simp[Bs,h]
 | n+1,_::l=>by simp[Bs,Sf h n l]
def lD(f:Nat->List Cel)(k off:Nat)(c:Cel):Nat->List Cel:=fun i=>Bs (fun y=>if i=k then c else y) off (f i)
theorem rP(f:Nat->List Cel)(k off:Nat)(c:Cel)(i:Nat):lD f k off c i=if i=k then (f i).set off c else f i:=by
 unfold lD;by_cases h:i=k
 ·rw[aA h,Jx fun y=>aA h]
 ·rw[aF h,Sf fun y=>aF h]
def Ey(ov:Option (Nat×Nat×PV))(f:Nat->List Cel)(k off:Nat)(x:PV):Option ((Nat->List Cel)×Option (Nat×Nat×PV)):=
 match x,ov with
 | .t y,none=>some (lD f k off (.d y),none)
 | .t y,some (i,j,p)=>match Nat.beq j off with | true=>none | false=>some (lD f k off (.d y),some (i,j,p))
 | .own q,_=>some (lD f k off .any,some (k,off,.own q))
 | _,_=>none
def iA(j:eG)(n:Nat):List PV:=(List.range n).map fun k=>j.zero.getD (k % j.zero.length) .nil
def okS(s:Nat):Option Nat->Bool | some k=>Nat.beq k s | none=>true
def sP(st:St):PV->Option (Nat×(Nat->List T)×Option Nat)
 | .own o=>match bK st.hp o with | some (.arr _ s n f)=>some (n,f,some s) | _=>none
 | .t x=>match x.view with | some (n,f)=>some (n,f,none) | none=>none
 | _=>none
def stN:PV->PV->PV
 | .aptr ..,.nil=>.t (.sl 0 fun _=>[])
 | _,q=>q
theorem aWT{F:Nat->Prop}{g:Nat->Value}{w:World}{p q:PV}(h:VR F g w q v):VR F g w (stN p q) v:=by
 unfold stN;split
 ·cases h; exact .t (.nil rfl)
 ·exact h
def sZ(st:St)(i:eG)(d:Option Nat)(p x:PV):Option (St×Prop):=
 match d with
 | some _=>none
 | none=>
  match p with
  | .ptr o off=>match bK st.hp o with
   | some (.box l)=>match Nat.beq x.cells.length i.size,Nat.ble (off+i.size) l.length,x.cells.all PV.one with
    | true,true,true=>some ({ st with hp:=(o,.box (l.take off++x.cells++l.drop (off+i.size)))::del o st.hp },True)
    | _,_,_=>none
   | _=>none
  | .aptr o s k off=>match bK st.hp o,zR x.cells with
   | some (.arr e s' n f),some c=>match Nat.beq s' s,Nat.beq c.length i.size,Nat.ble (off+i.size) s,x.cells.all PV.one with
    | true,true,true,true=>some ({ st with hp:=(o,.arr e s' n (rY f k (aPP s' (f k) off c)))::del o st.hp },k<n)
    | _,_,_,_=>none
   | some (.arm e s' n f ov),_=>match Nat.beq s' s,Nat.beq i.size 1,Nat.ble (off+1) s,x.one,Ey ov f k off x with
    | true,true,true,true,some (f',ov')=>some ({ st with hp:=(o,.arm e s' n f' ov')::del o st.hp },k<n)
    | _,_,_,_,_=>none
   | _,_=>none
  | _=>none
def qQ(n:Nat)(f1 f2:Nat->List Cel):Nat->List Cel:=fun i=>if i<n then f1 i else f2 (i-n)
def Cel.mv:Cel->Bool
 | .d x=>(PV.t x).one
 | .row ..=>true
 | .nl=>true
 | .any=>false
def aIU(s:Nat)(l:List Cel):Bool:=Nat.beq l.length s&&l.all Cel.mv
def Tp(n m b s:Nat)(f:Nat->List Cel):Prop:=(n+m)*b<=140737488355328/\∀ i,i<m->aIU s (f i)=true
def Tm:PV->Option (Cel×Option PV)
 | .t x=>some (.d x,none)
 | .nil=>some (.nl,none)
 | .own q=>some (.any,some (.own q))
 | _=>none
def tK:Nat->List PV->Option (List Cel×Option (Nat×PV))
 | _,[]=>some ([],none)
 | j,p::l=>match Tm p,tK (j+1) l with
  | some (c,none),some (r,o)=>some (c::r,o)
  | some (c,some p),some (r,none)=>some (c::r,some (j,p))
  | _,_=>none
def aMH:Option (Nat×PV)->Option (Nat×Nat×PV)
 | none=>none
 | some (j,p)=>some (0,j,p)
def Be(I:Inf)(st:St)(d e:Nat)(j:eG)(p:PV)(o2:Nat):Option (St×Prop):=
 match Nat.ble 1 j.size,Nat.ble 1 j.bytes,Nat.beq j.zero.length j.size with
 | true,true,true=>match p with
  | .nil=>match bK st.hp o2,st.erase o2 with
   | some (.arm e' s' m f none),some st1=>match Nat.beq e e',Nat.beq s' j.size,fW I st1 d (.arm e j.size m f none) (.own d) with
    | true,true,some st'=>some (st',Tp 0 m j.bytes j.size f)
    | _,_,_=>none
   | _,_=>none
  | .own o1=>match bK st.hp o1,st.erase o1 with
   | some (.arm e1 s1 n f1 none),some st0=>match bK st0.hp o2,st0.erase o2,Nat.beq o2 o1 with
    | some (.arm e' s' m f none),some st1,false=>match Nat.beq e e1&&Nat.beq s1 j.size,Nat.beq e e'&&Nat.beq s' j.size,fW I st1 d (.arm e j.size (n+m) (qQ n f1 f) none) (.own d) with
     | true,true,some st'=>some (st',Tp n m j.bytes j.size f)
     | _,_,_=>none
    | _,_,_=>none
   | _,_=>none
  | _=>none
 | _,_,_=>none
def jL(I:Inf)(st:St)(o:Oper):Option (St×Prop):=
 match o.op,o.dst with
 | .alloc e,some d=>match I.ti e with
  | some i=>match fW I st d (.box i.zero) (.ptr d 0) with | some st'=>some (st',True) | none=>none
  | none=>none
 | .box _ x,some d=>match ev st x with
  | some p=>match jK d p.cells with
   | true=>match fW I st d (.box p.cells) (.ptr d 0) with | some st'=>some (st',True) | none=>none
   | false=>none
  | none=>none
 | .buildSlice t len parts,some d=>match I.ti t,gM st parts.toList with
  | some i,some ps=>match i.und with
   | .sl e=>match I.ti e with
    | some j=>match Nat.ble (len*j.size) 16777216,Nat.ble 1 j.size,Nat.beq j.zero.length j.size,mJ (fun i=>some (i*j.size,j.size)) (iA j (len*j.size)) ps with
     | true,true,true,some c=>match zR c,Nat.beq c.length (len*j.size) with
      | some ts,true=>match fW I st d (.arr e j.size len (dT ts j.size)) (.own d) with | some st'=>some (st',True) | none=>none
      | none,true=>match Nat.beq len 1,jK d c,tK 0 c with
       | true,true,some (cs,ov)=>match fW I st d (.arm e j.size 1 (fun _=>cs) (aMH ov)) (.own d) with | some st'=>some (st',True) | none=>none
       | _,_,_=>none
      | _,_=>none
     | _,_,_,_=>none
    | none=>none
   | _=>none
  | _,_=>none
 | .store t a x,d=>match I.ti t,ev st a,ev st x with
  | some i,some p,some q=>sZ st i d p (stN p q)
  | _,_,_=>none
 | .makeMap t none,some d=>match I.ti t with
  | some i=>match i.und with
   | .mp kt _=>match I.ti kt with
    | some ik=>match fW I st d (.mpb ik.eqn []) (.map d) with | some st'=>some (st',True) | none=>none
    | none=>none
   | _=>none
  | none=>none
 | .mapUpdate t x k v,none=>match ev st x,ev st k,ev st v with
  | some p,some q,some (.t (.bool b))=>match aHP I st t p q with
   | some (n,m,o,ks)=>some ({ st with hp:=(o,.mpb n (Jn m ks b))::del o st.hp },True)
   | none=>none
  | _,_,_=>none
 | .call c,some d=>match c.callee,c.args.toList,c.argTypes.toList with
  | .builtin .append,[s,x],[t,t']=>match Nat.beq t t',I.ti t,ev st s,ev st x with
   | true,some i,some p,some q=>match i.und,sP st q with
    | .sl e,some (m,f2,s2)=>match I.ti e with
     | some j=>match Nat.ble 1 j.size,Nat.ble 1 j.bytes,okS j.size s2,Nat.beq j.zero.length j.size with
      | true,true,true,true=>match p with
       | .nil=>match fW I st d (.arr e j.size m f2) (.own d) with
        | some st'=>some (st',bBX 0 m j.bytes j.size f2)
        | none=>none
       | .own o=>match bK st.hp o,st.erase o with
        | some (.arr e' s' n f1),some st1=>match Nat.beq e e',Nat.beq s' j.size,fW I st1 d (.arr e j.size (n+m) (pD n f1 f2)) (.own d) with
         | true,true,some st'=>some (st',bBX n m j.bytes j.size f2)
         | _,_,_=>none
        | _,_=>none
       | _=>none
      | _,_,_,_=>none
     | none=>none
    | .sl e,none=>match I.ti e,q with
     | some j,.own o2=>Be I st d e j p o2
     | _,_=>none
    | _,_=>none
   | _,_,_,_=>none
  | _,_,_=>none
 | _,_=>none
section
variable {P:Program} {E:Env} {F:Nat->Prop} {g:Nat->Value} {st:St} {a:Act} {w:World}
theorem pE{I:Inf}(hn:E.N=I.N)(hnt:E.nt=I.nt)(r:cL E F g st a w){x:bA}{p:PV}{st':St}(h:fW I st d x p=some st') 
  (hv:blk v=some w.heap.size)(hw:w'.heap=w.heap.push ob)(hos:w'.os=w.os)(htp:w'.tape=w.tape)(hout:w'.output=w.output)
  (hx:∀ g',(∀ o,o≠d->g' o=g o)->g' d=v->dD F g' w' d x)(hp:∀ g',g' d=v->VR F g' w' p v)(hpl:x.plain=true:=by rfl):
  Rel E st' (a.put (some d) v) w':=by
 unfold fW at h;split at h
 ·rename_i st1 h1 h2 h3;cases h;have hd:d<E.nt:=by rw[hnt]; simpa[fE] using h1
  obtain⟨g',hg'⟩:=r.alloc hd (by rw[hn]; exact fJ h2) h3 hv hw hos htp hout hpl hx p hp;exact⟨F,g',hg'⟩
 ·cases h
end
section
variable {P:Program} {E:Env} {F:Nat->Prop} {g:Nat->Value} {st:St} {a:Act} {w:World}
theorem VR.one{x:PV}{v:Value}(h:VR F g w x v)(ho:x.one=true):v.oneCell'=true:=by
 cases h with
 | t r=>
  cases r with
  | agg hs hr=>simp[PV.one]at ho
  | _=>rfl
 | tup hs hr=>simp[PV.one]at ho
 | agg hs hr=>simp[PV.one]at ho
 | any h=>simp[PV.one]at ho
 | lit h=>cases v <;> first | rfl | (simp[PV.one]at ho)
 | _=>rfl
theorem iZ{info:TypeInfo}{z:Value}(h:P.info? t=some info)(hz:info.zero=some z):(zeroValue t).run P w = .ok z w:=by simp[zeroValue,typeInfo,h,hz]
theorem Im{I:Inf}(hI:kL P I.ti)(hn:E.N=I.N)(hnt:E.nt=I.nt)(r:cL E F g st a w){i:eG}(hi:I.ti e=some i){st':St}
  (h:fW I st d (.box i.zero) (.ptr d 0)=some st'):∃ v w',(Instr.alloc e true (.tuple #[])).run P w = .ok v w'/\Rel E st' (a.put (some d) v) w':=by
 obtain⟨info,z,h1,h2,h3,_⟩:=mH (F:=F) (g:=g) (w:=w) (hI _ _ hi);refine⟨.pointer (some ⟨w.heap.size,0,none⟩),w.alloc (.cells z.cells e),?_,?_⟩
 ·simp[Instr.alloc,iZ h1 h2,newVar,newRow]
 ·refine pE hn hnt r h rfl rfl rfl rfl rfl (fun g' _ hv=>⟨w.heap.size,z.cells,e,hv,heap_alloc_new w _,h3,fun j x v hx hv'=>?_⟩) (fun g' hv=>.ptr hv);obtain⟨info',z',h1',h2',h3',h4'⟩:=mH (F:=F) (g:=g') (w:=w.alloc (.cells z.cells e)) (hI _ _ hi);rw[h1]at h1'; cases h1';rw[h2]at h2'; cases h2';exact h4' j x v hx hv'
theorem aXU{I:Inf}(hn:E.N=I.N)(hnt:E.nt=I.nt)(r:cL E F g st a w){p:PV}(hv:VR F g w p v)(hm:jK d p.cells=true){st':St}
  (h:fW I st d (.box p.cells) (.ptr d 0)=some st'):∃ u w',(Instr.box e v).run P w = .ok u w'/\Rel E st' (a.put (some d) u) w':=by
 refine⟨.pointer (some ⟨w.heap.size,0,none⟩),w.alloc (.cells v.cells e),?_,?_⟩
 ·simp[Instr.box,newVar,newRow]
 ·obtain⟨h1,h2⟩:=hv.cells;refine pE hn hnt r h rfl rfl rfl rfl rfl (fun g' hg' hv'=>⟨w.heap.size,v.cells,e,hv',heap_alloc_new w _,h1,fun j x u hx hu=>?_⟩) (fun g' hv=>.ptr hv);refine(h2 j x u hx hu).mono (fun b hb=>⟨hb,heap_alloc_old w _ (r.w.f1 b hb).1⟩) (fun o ho=>hg' o ?_);exact pG hm x (kW hx) o ho
structure RowR (F:Nat->Prop)(w:World)(s n:Nat)(f:Nat->List T)(get:Nat->Option Value):Prop where
 len:∀ i,i<n->(f i).length=s
 get:∀ (i j:Nat) x,i<n->(f i)[j]? = some x->∃ v,get (i*s+j)=some v/\Rd F w x v
theorem RowR.app{f1 f2:Nat->List T}{g1 g2 g3:Nat->Option Value}(h1:RowR F w s n f1 g1)(h2:RowR F w s m f2 g2)
  (e1:∀ k,k<n*s->g3 k=g1 k)(e2:∀ k,k<m*s->g3 (n*s+k)=g2 k):RowR F w s (n+m) (pD n f1 f2) g3 where
 len:=by
  intro i hi;unfold pD;split
  ·exact h1.len i ‹_›
  ·exact h2.len _ (by omega)
 get:=by
  intro i j x hi hx;unfold pD at hx;split at hx
  ·rename_i hlt;obtain⟨v,hv,hr⟩:=h1.get i j x hlt hx;have hj:j<s:=by rw[<-h1.len i hlt]; exact(eK.1 hx).1
   refine⟨v,?_,hr⟩;rw[e1]
   ·exact hv
   ·calc i*s+j<i*s+s:=by omega
     _=(i+1)*s:=by rw[gW,mW]
     _<=n*s:=iN _ hlt
  ·rename_i hge;have hlt:i-n<m:=by omega
   obtain⟨v,hv,hr⟩:=h2.get (i-n) j x hlt hx;have hj:j<s:=by rw[<-h2.len _ hlt]; exact(eK.1 hx).1
   refine⟨v,?_,hr⟩;have e:i*s+j=n*s+((i-n)*s+j):=by rw[<-oH,<-gW,show n+(i-n)=i by omega]
   rw[e,e2]
   ·exact hv
   ·calc (i-n)*s+j<(i-n)*s+s:=by omega
     _=(i-n+1)*s:=by rw[gW,mW]
     _<=m*s:=iN _ hlt
theorem RowR.mono{F':Nat->Prop}{w':World}{s n:Nat}{f:Nat->List T}{get get':Nat->Option Value}(h:RowR F w s n f get)(hF:∀ b,F b->F' b/\w'.heap[b]? = w.heap[b]?)
  (e:∀ k,k<n*s->get' k=get k):RowR F' w' s n f get' where
 len:=h.len
 get:=by
  intro i j x hi hx;obtain⟨v,hv,hr⟩:=h.get i j x hi hx;have hj:j<s:=by rw[<-h.len i hi]; exact(eK.1 hx).1
  refine⟨v,?_,hr.mono hF⟩;rw[e]
  ·exact hv
  ·calc i*s+j<i*s+s:=by omega
    _=(i+1)*s:=by rw[gW,mW]
    _<=n*s:=iN _ hi
theorem RowR.nil{f:Nat->List T}{get:Nat->Option Value}:RowR F w s 0 f get:=⟨fun _ h=>absurd h (by omega),fun _ _ _ h=>absurd h (by omega)⟩
structure Src (F:Nat->Prop)(w:World)(s m:Nat)(f:Nat->List T)(v:Value)(news:List Value):Prop where
 shape:(∃ c,v = .slice none m c/\m=0)\/∃ ad c,v = .slice (some ad) m c/\∀ (j:Nat) u,news[j]? = some u->w.cell? (ad.add j)=some u
 len:news.length=m*s
 row:RowR F w s m f (news[·]?)
 one:∀ u,u∈news->u.oneCell'=true
theorem aGG(hs:1<=s){f:Nat->List T}(ad:Addr)(c:Nat)(hv:v = .slice (some ad) m c)(ho:∀ i,i<m->jX s (f i)=true)
  (h:∀ (i j:Nat) x,i<m->(f i)[j]? = some x->∃ u,w.cell? (ad.add (i*s+j))=some u/\Rd F w x u):∃ news,Src F w s m f v news:=by
 have hlen:∀ i,i<m->(f i).length=s:=fun i hi=>by have:=ho i hi;simp only[jX,cP]at this;exact cJ this.1
 have hcell:∀ k,k<m*s->∃ u,w.cell? (ad.add k)=some u/\u.oneCell'=true:=by
  intro k hk;have hi:k / s<m:=Nat.div_lt_of_lt_mul (by rw[Nat.mul_comm]; exact hk);have hj:k % s<(f (k / s)).length:=by rw[hlen _ hi]; exact Nat.mod_lt _ (by omega)
  obtain⟨u,hu,hr⟩:=h (k / s) (k % s) _ hi (gJ hj);refine⟨u,?_,?_⟩
  ·rw[Nat.mul_comm,Nat.div_add_mod]at hu; exact hu
  ·have:=ho _ hi;simp only[jX,cP,dQ]at this;exact(VR.t (g:=g0) hr).one (this.2 _ (xD hj))
 have hget:∀ k,k<m*s->((List.range (m*s)).map fun k=>(w.cell? (ad.add k)).getD undef)[k]? = w.cell? (ad.add k):=by intro k hk;obtain⟨u,hu,_⟩:=hcell k hk;simp[hk,hu]
 refine⟨(List.range (m*s)).map fun k=>(w.cell? (ad.add k)).getD undef,.inr ⟨ad,c,hv,fun j u hu=>?_⟩,by simp,⟨hlen,fun i j x hi hx=>?_⟩,fun u hu=>?_⟩
 ·have hj:j<m*s:=by have:=(eK.1 hu).1; simpa using this
  rw[hget j hj]at hu; exact hu
 ·obtain⟨u,hu,hr⟩:=h i j x hi hx;have hj:j<s:=by rw[<-hlen i hi]; exact(eK.1 hx).1
  refine⟨u,?_,hr⟩;rw[hget _ (by
   calc i*s+j<i*s+s:=by omega
    _=(i+1)*s:=by rw[gW,mW]
    _<=m*s:=iN _ hi)]
  exact hu
 ·simp only[dW,sF]at hu;obtain⟨k,hk,rfl⟩:=hu;obtain⟨u,hu,h1⟩:=hcell k hk;rw[hu]; exact h1
where g0:Nat->Value:=fun _=>undef
theorem wM(r:cL E F g st a w){q:PV}(hv:VR F g w q v){f:Nat->List T}{s2:Option Nat}(h:sP st q=some (m,f,s2))(hs:1<=s)
  (hs2:okS s s2=true)(ho:∀ i,i<m->jX s (f i)=true):∃ news,Src F w s m f v news:=by
 have hlen:∀ i,i<m->(f i).length=s:=fun i hi=>by have:=ho i hi;simp only[jX,cP]at this;exact cJ this.1
 cases q with
 | own o=>
  simp only[sP]at h;split at h
  ·rename_i e s' n f' hl;cases h;have hs':s'=s:=cJ hs2;subst hs';have hob:=r.w.hp.obj _ _ (aU hl);cases hv with
   | own hg=>
    rcases hob with⟨h1,h2⟩ | ⟨b,cap,cur,h1,h2,h3,h4,h5,h6,h7⟩
    ·rw[hg]at h1; injection h1 with h1 h3 h4;subst h2;exact⟨[],.inl ⟨0,by rw[h1,h3,h4],rfl⟩,by simp,RowR.nil,by simp⟩
    ·rw[hg]at h1; injection h1 with h1 h8 h9;refine aGG hs ⟨b,0,none⟩ cap (by rw[h1,h8,h9]) ho (fun i j x hi hx=>?_);obtain⟨u,hu,hr⟩:=h7 i j x hi hx;refine⟨u,?_,hr⟩;rw[Addr.add_none];simpa[World.cell?,h2] using hu
  ·cases h
 | t x=>
  simp only[sP]at h;split at h
  ·rename_i n f' hx;cases h;cases hv.cells_t rfl with
   | nil h=>rw[hx]at h; simp at h; obtain⟨rfl,rfl⟩:=h; exact⟨[],.inl ⟨_,rfl,rfl⟩,by simp,RowR.nil,by simp⟩
   | sl ad cap size vs h hc hF hs' hv' hr'=>
    rw[hx]at h; simp at h; obtain⟨rfl,rfl⟩:=h;refine aGG hs ad cap rfl ho (fun i j x hi hx=>?_);have hsz:size=s:=by rw[<-hs' i hi,hlen i hi]
    have hj:j<size:=by rw[<-hs' i hi]; exact(eK.1 hx).1
    refine⟨_,by rw[<-hsz]; exact hv' i j hi hj,hr' i j x hi hx⟩
   | int=>simp[T.view]at hx
   | bool=>simp[T.view]at hx
   | str=>simp[T.view]at hx
   | fv=>simp[T.view]at hx
   | agg=>simp[T.view]at hx
  ·cases h
 | _=>simp[sP]at h
end
section
variable {P:Program} {E:Env} {F:Nat->Prop} {g:Nat->Value} {st:St} {a:Act} {w:World}
theorem RowR.obj{f:Nat->List T}(h:RowR F w s n f (cur[·]?))(h1:g o = .slice (some ⟨b,0,none⟩) n cap)
  (h2:w.heap[b]? = some (.cells cur e (0,0)))(h3:n<=cap)(h4:cap<=maxLen)(h5:cur.size=cap*s):dD F g w o (.arr e s n f):=
 .inr ⟨b,cap,cur,h1,h2,h3,h4,h5,h.len,h.get⟩
theorem nG{I:Inf}(hn:E.N=I.N)(hnt:E.nt=I.nt)(r:cL E F g st a w){j:eG}(hd:P.underlying t=some (.slice e))(hj:TOk P e j)(ty:TypeId) 
  (hb:1<=j.bytes)(hz:j.zero.length=j.size){f:Nat->List T}{news:List Value}(hs:Src F w j.size m f v news)(hC:m*j.bytes<=140737488355328){st':St}
  (h:fW I st d (.arr e j.size m f) (.own d)=some st'):∃ u w',(Builtin.append_ #[t,t] ty #[.slice none 0 0,v]).run P w = .ok u w'/\Rel E st' (a.put (some d) u) w':=by
 obtain⟨info,z,hi1,hi2,hi3,_⟩:=mH (F:=F) (g:=g) (w:=w) hj;obtain⟨info',hi1',hi4,hi5,_⟩:=hj.info;rw[hi1]at hi1'; cases hi1';have hm63:m<=140737488355328:=gV (Cd m hb) hC;have hzero:∀ (x:Value),m=0->(∃ ad c,x = .slice ad 0 c)->(Builtin.append_ #[t,t] ty #[.slice none 0 0,x]).run P w = .ok (.slice none 0 0) w:=by rintro x rfl ⟨ad,c,rfl⟩;cases ad <;> simp[Builtin.append_,run_underlying hd,sizeOf,typeInfo,hi1,Builtin.lenOf,Builtin.firstCells,loadCells,loadCellsFrom]
 by_cases hm:m=0
 ·refine⟨.slice none 0 0,w,hzero v hm ?_,?_⟩
  ·rcases hs.shape with⟨c,rfl,_⟩ | ⟨ad,c,rfl,_⟩
   ·exact⟨none,c,by rw[hm]⟩
   ·exact⟨some ad,c,by rw[hm]⟩
  ·
   unfold fW at h;split at h
   ·rename_i st1 h1 h2 h3;cases h;have hd':d<E.nt:=by rw[hnt]; simpa[fE] using h1
    refine⟨F,upd g d (.slice none 0 0),r.putW hd' (fun b hb=>⟨hb,rfl⟩) (fun t y hy=>?_) ?_ (.own (bM ..))⟩
    ·obtain⟨e1,e2⟩:=St.erase_fr h3 t y hy;exact⟨e1,fun o ho=>bR g _ (e2 o ho)⟩
    ·refine⟨HpR.change r.w.hp h3 (fun o ho=>bR g _ ho) (fun b hb=>⟨hb,rfl⟩) (fun _ h=>h) (fun _ _ _ _ _ _=>rfl) (.inl ⟨bM ..,hm⟩)
      (fun b hb=>by have hb:=hb.toBlk rfl; rw[bM]at hb; simp[blk]at hb) (fun o y b _ _ _ hb=>by have hb:=hb.toBlk rfl; rw[bM]at hb; simp[blk]at hb),r.w.f0,r.w.f1,r.w.ext,fun o ho=>?_,r.w.b0⟩
     rw[bR g _ (fun e:o=d=>fJ h2 (hn▸e▸ho))];exact r.w.names o ho
   ·cases h
 ·rcases hs.shape with⟨c,rfl,h0⟩ | ⟨ad,c,rfl,hc⟩
  ·exact absurd h0 hm
  ·have hr:=run_append_nil (P:=P) w t ty e info z hd hi1 hi2 ad m c news (by rw[hi4]; exact hs.len) hc (by omega) (by omega) (by rw[hi5]; omega);refine⟨_,_,hr,pE hn hnt r h rfl rfl rfl rfl rfl (fun g' _ hv=>?_) (fun g' hv=>.own hv)⟩;have hcap:=grownCap_ge w m 0 e;have hcapm:=grownCap_le_maxLen w m 0 e (by simp only[maxLen]; omega);have hrow:RowR F (w.drew.alloc (.cells (news.toArray++Builtin.zeroCells z.cells (grownCap w m 0 e-m)) e)) j.size m f ((news.toArray++Builtin.zeroCells z.cells (grownCap w m 0 e-m))[·]?):=
    hs.row.mono (fun b hb=>⟨hb,heap_alloc_old w.drew _ (r.w.f1 b hb).1⟩) (fun k hk=>by rw[kO (by simp; rw[hs.len]; exact hk)]; simp)
   refine hrow.obj hv (heap_alloc_new w.drew _) hcap hcapm ?_;simp only[jO,lX,hs.len,size_zeroCells,hi3,hz,<-gW]
   congr 1; omega
structure Jp (o:Nat)(st st1:St):Prop where
 fr:∀ t y,(t,y)∈st1.fr->(t,y)∈st.fr
 hp:∀ t y,(t,y)∈st1.hp->∃ x,(t,x)∈st.hp/\t≠o/\(∀ F g w,dD F g w t x->dD F g w t y)/\∀ g w b,bG g w t y b->bG g w t x b
theorem Jp.of{st st1:St}(h:st.erase o=some st1):Jp o st st1:=
 ⟨fun t y hy=>(St.erase_fr h t y hy).1,fun t y hy=>by obtain⟨x,h1,h2,_,h4,h5⟩:=St.erase_hp h t y hy; exact⟨x,h1,h2,h4,h5⟩⟩
theorem sJ{I:Inf}(hn:E.N=I.N)(hnt:E.nt=I.nt)(r:cL E F g st a w){j:eG}(hd:P.underlying t=some (.slice e))(hj:TOk P e j)(ty:TypeId) 
  (hb:1<=j.bytes)(hz:j.zero.length=j.size){f1 f:Nat->List T}{s:Value}(hv:VR F g w (.own o) s){news:List Value}(hs:Src F w j.size m f v news)
  (hC:(n+m)*j.bytes<=140737488355328){st1 st':St}(hl:bK st.hp o=some (.arr e j.size n f1))(he:Jp o st st1)
  (h:fW I st1 d (.arr e j.size (n+m) (pD n f1 f)) (.own d)=some st'):∃ u w',(Builtin.append_ #[t,t] ty #[s,v]).run P w = .ok u w'/\Rel E st' (a.put (some d) u) w':=by
 obtain⟨info,z,hi1,hi2,hi3,_⟩:=mH (F:=F) (g:=g) (w:=w) hj;obtain⟨info',hi1',hi4,hi5,_⟩:=hj.info;rw[hi1]at hi1'; cases hi1';have hm63:n+m<=140737488355328:=gV (Cd (n+m) hb) hC;have hlm:=aU hl;have hob:=r.w.hp.obj _ _ hlm;have r1:cL E F g st1 a w:=⟨r.nt,r.df,fun t y hy=>r.fr t y (he.fr t y hy),⟨⟨fun k y hy=>by
   obtain⟨x,h1,_,h4,_⟩:=he.hp k y hy; exact h4 _ _ _ (r.w.hp.obj k x h1),fun k y b hy hb=>by
   obtain⟨x,h1,_,_,h5⟩:=he.hp k y hy; exact r.w.hp.own k x b h1 (h5 _ _ _ hb),fun k y k' y' b hy hy' hne hb hb'=>by
   obtain⟨x,h1,_,_,h5⟩:=he.hp k y hy; obtain⟨x',h1',_,_,h5'⟩:=he.hp k' y' hy'; exact r.w.hp.sep k x k' x' b h1 h1' hne (h5 _ _ _ hb) (h5' _ _ _ hb')⟩,
   r.w.f0,r.w.f1,r.w.ext,r.w.names,r.w.b0⟩⟩
 cases hv with
 | own hg=>
  rcases hob with⟨h1,h2⟩ | ⟨b,cap,cur,h1,h2,h3,h4,h5,h6,h7⟩
  ·rw[h1]at hg; cases hg; subst h2;have hf:fW I st1 d (.arr e j.size m (pD 0 f1 f)) (.own d)=some st':=by rw[eW]at h; exact h
   have hs':Src F w j.size m (pD 0 f1 f) v news:=by
    have:pD 0 f1 f=f:=by funext i; simp[pD]
    rw[this]; exact hs
   exact nG hn hnt r1 hd hj ty hb hz hs' (by simpa using hC) hf
  ·rw[h1]at hg; injection hg with e1 e2 e3; subst e1; subst e2; subst e3;have old:RowR F w j.size n f1 (cur[·]?):=⟨h6,h7⟩;have hFb:¬ F b:=(r.w.hp.own o _ b hlm (.self (by rw[h1]; rfl))).1;have hBb:=(r.w.hp.own o _ b hlm (.self (by rw[h1]; rfl))).2;have hblt:b<w.heap.size:=(oU.1 h2).1;by_cases hroom:n+m<=cap
   ·
    have hfit:n*j.size+news.length<=cur.size:=by rw[hs.len,h5,<-gW]; exact iN _ hroom
    have hrun:(Builtin.append_ #[t,t] ty #[.slice (some ⟨b,0,none⟩) n cap,v]).run P w =
      .ok (.slice (some ⟨b,0,none⟩) (n+m) cap) (w.setRow b (cur.toList.take (n*j.size)++news++cur.toList.drop (n*j.size+news.length)).toArray):=by
     rcases hs.shape with⟨c,rfl,h0⟩ | ⟨ad,c,rfl,hc⟩
     ·subst h0;have hn0:news=[]:=lW (by simpa using hs.len);subst hn0;simp only[jJ,nT,tV,Ah,mS];have hself:w.setRow b cur=w:=setRow_self w b cur e (0,0) h2;rw[hself];simp[Builtin.append_,run_underlying hd,sizeOf,typeInfo,hi1,Builtin.lenOf,Builtin.firstCells,storeCells,h3]
     ·have:=run_append_room (P:=P) w t ty e info hd hi1 b n cap cur h2 ad m c news (by rw[hi4]; exact hs.len) hc hs.one hroom (by rw[hi4]; exact hfit);rw[hi4]at this; exact this
    have hoth:∀ k,k≠b->(w.setRow b (cur.toList.take (n*j.size)++news++cur.toList.drop (n*j.size+news.length)).toArray).heap[k]? = w.heap[k]?:=fun k hk=>setRow_other w b k _ hk;have hFo:∀ k,F k->F k/\(w.setRow b (cur.toList.take (n*j.size)++news++cur.toList.drop (n*j.size+news.length)).toArray).heap[k]? = w.heap[k]?:=
     fun k hk=>⟨hk,hoth k (fun e=>hFb (e▸hk))⟩
    refine⟨_,_,hrun,?_⟩;unfold fW at h;split at h
    ·rename_i st2 g1 g2 g3;cases h;have hd':d<E.nt:=by rw[hnt]; simpa[fE] using g1
     refine⟨F,upd g d (.slice (some ⟨b,0,none⟩) (n+m) cap),r1.putW hd' hFo (fun t y hy=>?_) ?_ (.own (bM ..))⟩
     ·obtain⟨e1,e2⟩:=St.erase_fr g3 t y hy;exact⟨e1,fun o ho=>bR g _ (e2 o ho)⟩
     ·have hne:∀ k y,(k,y)∈st1.hp->k≠o:=fun k y hy=>by obtain⟨_,_,h',_⟩:=he.hp k y hy; exact h'
      have hdis:∀ k y b',(k,y)∈st1.hp->bG g w k y b'->b'≠b:=by intro k y b' hy hb' heq;subst heq;obtain⟨x,hx1,hx2,_,hx5⟩:=he.hp k y hy;exact r.w.hp.sep k x o _ b' hx1 hlm hx2 (hx5 _ _ _ hb') (.self (by rw[h1]; rfl))
      refine⟨HpR.change r1.w.hp g3 (fun o ho=>bR g _ ho) hFo (fun _ h=>h) (fun k y b' hk _ hb'=>hoth b' (hdis k y b' hk hb')) ?_
       (fun b' hb'=>?_) (fun k y b' hk _ hb' hb''=>?_),r.w.f0,fun k hk=>⟨by simpa using (r.w.f1 k hk).1,(r.w.f1 k hk).2⟩,
       r.w.ext.trans rfl rfl rfl (by simp) (fun k hk hB=>hoth k (fun e=>?_)),fun k hk=>?_,r.w.b0⟩
      ·refine RowR.obj (b:=b) (cap:=cap) (cur:=(cur.toList.take (n*j.size)++news++cur.toList.drop (n*j.size+news.length)).toArray) ?_ (bM ..) (setRow_heap w b cur _ e _ h2) hroom h4 ?_
       ·refine RowR.app (old.mono hFo (fun _ _=>rfl)) (hs.row.mono hFo (fun _ _=>rfl)) (fun k hk=>?_) (fun k hk=>?_)
        ·have hk':k<cur.size:=by omega
         simp only[sD,gX];rw[eT (by simp; omega),iR,aA hk];simp
        ·have hln:=hs.len;simp only[sD,gX];rw[eH (by simp; omega)];simp only[dM,jH];rw[show n*j.size+k-min (n*j.size) cur.size=k by omega,eT (by omega)]
       ·simp only[lX,cZ,dM,fI,jH];omega
      ·have hb':=hb'.toBlk rfl; rw[bM]at hb'; simp[blk]at hb'; subst hb';exact⟨hFb,hBb⟩
      ·have hb'':=hb''.toBlk rfl; rw[bM]at hb''; simp[blk]at hb''; subst hb'';exact hdis k y _ hk hb' rfl
      ·subst e;rcases hBb with hB' | hB'
       ·exact hB hB'
       ·omega
      ·rw[bR g _ (fun e:k=d=>fJ g2 (hn▸e▸hk))];exact r.w.names k hk
    ·cases h
   ·
    rcases hs.shape with⟨c,rfl,h0⟩ | ⟨ad,c,rfl,hc⟩
    ·omega
    ·have hol:(cur.toList.take (n*j.size)).length=n*info.size:=by rw[hi4]; simp only[dM,jH,h5];exact Nat.min_eq_left (iN _ h3)
     have hr:=run_append_grow (P:=P) w t ty e info z hd hi1 hi2 ⟨b,0,none⟩ n cap (cur.toList.take (n*j.size)) hol (fun k u hu=>by
      rw[Addr.add_none,eW];rw[iR]at hu;split at hu
      ·simpa[World.cell?,h2] using hu
      ·cases hu) ad m c news (by rw[hi4]; exact hs.len) hc (by omega) (by omega) (growslice_fits (by omega) (by rw[hi5]; exact hC))
     refine⟨_,_,hr,pE hn hnt r1 h rfl rfl rfl rfl rfl (fun g' _ hv=>?_) (fun g' hv=>.own hv)⟩;have hcap:=grownCap_ge w (n+m) cap e;have hcapm:=grownCap_le_maxLen w (n+m) cap e (by simp only[maxLen]; omega);have hlen1:(cur.toList.take (n*j.size)).length=n*j.size:=by rw[hol,hi4]
     refine RowR.obj ?_ hv (heap_alloc_new w.drew _) hcap hcapm ?_
     ·have hFF:∀ b',F b'->F b'/\(w.drew.alloc (.cells ((cur.toList.take (n*j.size)).toArray++news.toArray++Builtin.zeroCells z.cells (grownCap w (n+m) cap e-(n+m))) e)).heap[b']? = w.heap[b']?:=
       fun b' hb'=>⟨hb',heap_alloc_old w.drew _ (r.w.f1 b' hb').1⟩
      refine RowR.app (old.mono hFF (fun _ _=>rfl)) (hs.row.mono hFF (fun _ _=>rfl)) (fun k hk=>?_) (fun k hk=>?_)
      ·have hk':k<cur.size:=by rw[h5]; exact zT hk (iN _ h3)
       rw[sH,kO (by simp; omega)];simp only[sD,iR,aA hk];simp
      ·have hln:=hs.len;rw[sH,qS (by simp; omega)];simp only[lX,hlen1];rw[show n*j.size+k-n*j.size=k by omega,kO (by simp; omega)];simp
     ·simp only[jO,lX,hlen1,hs.len,size_zeroCells,hi3,hz,<-gW]
      congr 1; omega
end
section
variable {P:Program} {E:Env} {F:Nat->Prop} {g:Nat->Value} {st:St} {a:Act} {w:World}
theorem uM.one{x:Cel}{v:Value}(h:uM F w x v)(hx:x.mv=true):v.oneCell'=true:=by
 cases x with
 | d y=>exact(VR.t (g:=fun _=>undef) h).one hx
 | row e s n f=>rcases h with⟨h,_⟩ | ⟨b,cap,cur,h,_⟩ <;> (rw[h]; rfl)
 | nl=>rw[show v = .slice none 0 0 from h]; rfl
 | any=>cases hx
structure nE (F:Nat->Prop)(w:World)(s n:Nat)(f:Nat->List Cel)(get:Nat->Option Value)(O:Nat->Prop):Prop where
 len:∀ i,i<n->(f i).length=s
 cell:∀ (i j:Nat) x,i<n->(f i)[j]? = some x->∃ v,get (i*s+j)=some v/\uM F w x v
 sep:∀ (i j i' j':Nat) x x' v v' c,i<n->i' < n->(f i)[j]? = some x->(f i')[j']? = some x'->x.owned=true->x'.owned=true->get (i*s+j)=some v->get (i'*s+j')=some v'->blk v=some c->blk v'=some c->i=i'/\j=j'
 own:∀ (i j:Nat) x v c,i<n->(f i)[j]? = some x->x.owned=true->get (i*s+j)=some v->blk v=some c->O c
theorem nE.nil{f:Nat->List Cel}{get:Nat->Option Value}:nE F w s 0 f get O:=
 ⟨fun _ h=>absurd h (by omega),fun _ _ _ h=>absurd h (by omega),fun _ _ _ _ _ _ _ _ _ h=>absurd h (by omega),fun _ _ _ _ _ h=>absurd h (by omega)⟩
theorem sT.part{f:Nat->List Cel}{ov:Option (Nat×Nat×PV)}(h:sT F g w b s n f ov cur)(O:Nat->Prop)
  (hO:∀ (i j:Nat) x v c,i<n->(f i)[j]? = some x->x.owned=true->cur[i*s+j]? = some v->blk v=some c->O c):nE F w s n f (cur[·]?) O:=⟨h.len,h.cell,h.sep,hO⟩
theorem Mm{i:Nat}(hi:i<n)(hj:j<s):i*s+j<n*s:=by
 calc i*s+j<i*s+s:=by omega
  _=(i+1)*s:=by rw[gW,mW]
  _<=n*s:=iN _ hi
theorem nE.mono{F':Nat->Prop}{w':World}{s n:Nat}{f:Nat->List Cel}{get get':Nat->Option Value}{O:Nat->Prop}(h:nE F w s n f get O)(hF:∀ b,F b->F' b/\w'.heap[b]? = w.heap[b]?)
  (hO:∀ c,O c->w'.heap[c]? = w.heap[c]?)(e:∀ k,k<n*s->get' k=get k):nE F' w' s n f get' O:=by
 have he:∀ (i j:Nat) x,i<n->(f i)[j]? = some x->get' (i*s+j)=get (i*s+j):=fun i j x hi hx=>e _ (Mm hi (by rw[<-h.len i hi]; exact(eK.1 hx).1));refine⟨h.len,fun i j x hi hx=>?_,fun i j i' j' x x' v v' c hi hi' hx hx' ho ho' hv hv'=>?_,fun i j x v c hi hx ho hv hc=>?_⟩
 ·obtain⟨v,hv,hR⟩:=h.cell i j x hi hx;exact⟨v,by rw[he i j x hi hx]; exact hv,hR.mono hF fun b hy hb=>hO b (h.own i j x v b hi hx hy hv hb)⟩
 ·rw[he i j x hi hx]at hv; rw[he i' j' x' hi' hx']at hv';exact h.sep i j i' j' x x' v v' c hi hi' hx hx' ho ho' hv hv'
 ·rw[he i j x hi hx]at hv;exact h.own i j x v c hi hx ho hv hc
theorem nE.app{f1 f2:Nat->List Cel}{g1 g2 g3:Nat->Option Value}{O1 O2:Nat->Prop}(h1:nE F w s n f1 g1 O1)(h2:nE F w s m f2 g2 O2)(hd:∀ c,O1 c->O2 c->False)
  (e1:∀ k,k<n*s->g3 k=g1 k)(e2:∀ k,k<m*s->g3 (n*s+k)=g2 k):nE F w s (n+m) (qQ n f1 f2) g3 (fun c=>O1 c\/O2 c):=by
 have lo:∀ (i j:Nat) x,i<n->(qQ n f1 f2 i)[j]? = some x->(f1 i)[j]? = some x/\g3 (i*s+j)=g1 (i*s+j):=by intro i j x hi hx;unfold qQ at hx;rw[aA hi]at hx;exact⟨hx,e1 _ (Mm hi (by rw[<-h1.len i hi]; exact(eK.1 hx).1))⟩
 have hi':∀ (i j:Nat) x,i<n+m->¬ i<n->(qQ n f1 f2 i)[j]? = some x->i-n<m/\(f2 (i-n))[j]? = some x/\g3 (i*s+j)=g2 ((i-n)*s+j):=by
  intro i j x hi hn hx;unfold qQ at hx;rw[aF hn]at hx;have hlt:i-n<m:=by omega
  have hj:j<s:=by rw[<-h2.len _ hlt]; exact(eK.1 hx).1
  have e:i*s+j=n*s+((i-n)*s+j):=by rw[<-oH,<-gW,show n+(i-n)=i by omega]
  exact⟨hlt,hx,by rw[e,e2 _ (Mm hlt hj)]⟩
 refine⟨fun i hi=>?_,fun i j x hi hx=>?_,fun i j i2 j2 x x2 v v2 c hi hi2 hx hx2 ho ho2 hv hv2 hc hc2=>?_,fun i j x v c hi hx ho hv hc=>?_⟩
 ·unfold qQ;split
  ·exact h1.len i ‹_›
  ·exact h2.len _ (by omega)
 ·by_cases hn:i<n
  ·obtain⟨q1,q2⟩:=lo i j x hn hx;rw[q2]; exact h1.cell i j x hn q1
  ·obtain⟨q0,q1,q2⟩:=hi' i j x hi hn hx;rw[q2]; exact h2.cell _ j x q0 q1
 ·by_cases hn:i<n
  ·obtain⟨q1,q2⟩:=lo i j x hn hx;rw[q2]at hv;by_cases hn2:i2<n
   ·obtain⟨p1,p2⟩:=lo i2 j2 x2 hn2 hx2;rw[p2]at hv2;exact h1.sep i j i2 j2 x x2 v v2 c hn hn2 q1 p1 ho ho2 hv hv2 hc hc2
   ·obtain⟨p0,p1,p2⟩:=hi' i2 j2 x2 hi2 hn2 hx2;rw[p2]at hv2;exact(hd c (h1.own i j x v c hn q1 ho hv hc) (h2.own _ j2 x2 v2 c p0 p1 ho2 hv2 hc2)).elim
  ·obtain⟨q0,q1,q2⟩:=hi' i j x hi hn hx;rw[q2]at hv;by_cases hn2:i2<n
   ·obtain⟨p1,p2⟩:=lo i2 j2 x2 hn2 hx2;rw[p2]at hv2;exact(hd c (h1.own i2 j2 x2 v2 c hn2 p1 ho2 hv2 hc2) (h2.own _ j x v c q0 q1 ho hv hc)).elim
   ·obtain⟨p0,p1,p2⟩:=hi' i2 j2 x2 hi2 hn2 hx2;rw[p2]at hv2;have:=h2.sep _ j _ j2 x x2 v v2 c q0 p0 q1 p1 ho ho2 hv hv2 hc hc2;exact⟨by omega,this.2⟩
 ·by_cases hn:i<n
  ·obtain⟨q1,q2⟩:=lo i j x hn hx;rw[q2]at hv;exact .inl (h1.own i j x v c hn q1 ho hv hc)
  ·obtain⟨q0,q1,q2⟩:=hi' i j x hi hn hx;rw[q2]at hv;exact .inr (h2.own _ j x v c q0 q1 ho hv hc)
theorem nE.toC{f:Nat->List Cel}(h:nE F w s n f (cur[·]?) O)(hb:¬ O b):sT F g w b s n f none cur:=
 ⟨h.len,h.cell,h.sep,fun i j x v hi hx ho hv hbl=>hb (h.own i j x v b hi hx ho hv hbl),fun i j p e=>by cases e⟩
theorem nE.foot{e:Nat}{f:Nat->List Cel}(h:nE F w' s n f (cur[·]?) O)(hd:g' d = .slice (some ⟨b,0,none⟩) n cap)(hb:w'.heap[b]? = some (.cells cur e (0,0)))
  {c:Nat}(hf:bG g' w' d (.arm e s n f none) c):c=b\/O c:=by
 cases hf with
 | self h'=>rw[hd]at h'; simp[blk]at h'; exact .inl h'.symm
 | arm h1 h2 h3 h4 h5 h6 h7=>rw[hd]at h1;injection h1 with h1 _ _;injection h1 with h1; injection h1 with h1;subst h1;rw[hb]at h2;injection h2 with h2; injection h2 with h2;subst h2;exact .inr (h.own _ _ _ _ _ h3 h4 h5 h6 h7)
structure bAW (F:Nat->Prop)(w:World)(s m:Nat)(f:Nat->List Cel)(v:Value)(news:List Value)(O:Nat->Prop):Prop where
 shape:(∃ c,v = .slice none m c/\m=0)\/∃ ad c,v = .slice (some ad) m c/\∀ (j:Nat) u,news[j]? = some u->w.cell? (ad.add j)=some u
 len:news.length=m*s
 part:nE F w s m f (news[·]?) O
 one:∀ u,u∈news->u.oneCell'=true
theorem Uq{e:Nat}(hs:1<=s){f:Nat->List Cel}(hb:w.heap[b]? = some (.cells cur e (0,0)))(hm:m<=cap)(hsz:cur.size=cap*s)(hp:nE F w s m f (cur[·]?) O)
  (ho:∀ i,i<m->aIU s (f i)=true):∃ news,bAW F w s m f (.slice (some ⟨b,0,none⟩) m cap) news O:=by
 have hle:m*s<=cur.size:=by rw[hsz]; exact iN _ hm
 have hget:∀ k,k<m*s->(cur.toList.take (m*s))[k]? = cur[k]?:=fun k hk=>by rw[iR,aA hk]; simp
 refine⟨cur.toList.take (m*s),.inr ⟨⟨b,0,none⟩,cap,rfl,fun j u hu=>?_⟩,by simp; omega,hp.mono (fun b h=>⟨h,rfl⟩) (fun _ _=>rfl) hget,fun u hu=>?_⟩
 ·have hj:j<m*s:=by have:=(eK.1 hu).1; simp at this; omega
  rw[hget j hj]at hu;rw[Addr.add_none,eW];simpa[World.cell?,hb] using hu
 ·obtain⟨k,hk,rfl⟩:=aEK.1 hu;have hk':k<m*s:=by simp at hk; omega
  have hi:k / s<m:=Nat.div_lt_of_lt_mul (by rw[Nat.mul_comm]; exact hk');have hj:k % s<(f (k / s)).length:=by rw[hp.len _ hi]; exact Nat.mod_lt _ (by omega)
  obtain⟨u,hu,hR⟩:=hp.cell (k / s) (k % s) _ hi (gJ hj);have hmv:=ho _ hi;simp only[aIU,cP,dQ]at hmv;have h1:=hR.one (hmv.2 _ (xD hj));rw[Nat.mul_comm,Nat.div_add_mod]at hu;have h2:=hget k hk';rw[gJ hk,hu]at h2;rw[pN h2]; exact h1
theorem qB{I:Inf}(hn:E.N=I.N)(hnt:E.nt=I.nt)(r:cL E F g st a w){j:eG}(hd:P.underlying t=some (.slice e))(hj:TOk P e j)(ty:TypeId){o2:Nat}
  (hb:1<=j.bytes)(hz:j.zero.length=j.size)(hs1:1<=j.size){f:Nat->List Cel}(hv:VR F g w (.own o2) v)(hC:Tp 0 m j.bytes j.size f){st1 st':St}
  (hl:bK st.hp o2=some (.arm e j.size m f none))(he:Jp o2 st st1)(h:fW I st1 d (.arm e j.size m f none) (.own d)=some st'):
  ∃ u w',(Builtin.append_ #[t,t] ty #[.slice none 0 0,v]).run P w = .ok u w'/\Rel E st' (a.put (some d) u) w':=by
 obtain⟨info,z,hi1,hi2,hi3,_⟩:=mH (F:=F) (g:=g) (w:=w) hj;obtain⟨info',hi1',hi4,hi5,_⟩:=hj.info;rw[hi1]at hi1'; cases hi1';obtain⟨hC1,hC2⟩:=hC;rw[eW]at hC1;have hm63:m<=140737488355328:=gV (Cd m hb) hC1;have hlm:=aU hl;have hob:=r.w.hp.obj _ _ hlm;have r1:cL E F g st1 a w:=⟨r.nt,r.df,fun t y hy=>r.fr t y (he.fr t y hy),⟨⟨fun k y hy=>by
   obtain⟨x,h1,_,h4,_⟩:=he.hp k y hy; exact h4 _ _ _ (r.w.hp.obj k x h1),fun k y b hy hb=>by
   obtain⟨x,h1,_,_,h5⟩:=he.hp k y hy; exact r.w.hp.own k x b h1 (h5 _ _ _ hb),fun k y k' y' b hy hy' hne hb hb'=>by
   obtain⟨x,h1,_,_,h5⟩:=he.hp k y hy; obtain⟨x',h1',_,_,h5'⟩:=he.hp k' y' hy'; exact r.w.hp.sep k x k' x' b h1 h1' hne (h5 _ _ _ hb) (h5' _ _ _ hb')⟩,
   r.w.f0,r.w.f1,r.w.ext,r.w.names,r.w.b0⟩⟩
 unfold fW at h;split at h
 case h_2=>cases h
 rename_i st2 g1 g2 g3;cases h;have hd':d<E.nt:=by rw[hnt]; simpa[fE] using g1
 have hnm:∀ u,∀ k,k∈E.N->upd g d u k=E.g0 k:=fun u k hk=>by rw[bR g _ (fun e:k=d=>fJ g2 (hn▸e▸hk))];exact r.w.names k hk
 have hfr:∀ u t y,(t,y)∈st2.fr->(t,y)∈st1.fr/\∀ o,o∈y.names->upd g d u o=g o:=fun u t y hy=>by obtain⟨e1,e2⟩:=St.erase_fr g3 t y hy;exact⟨e1,fun o ho=>bR g _ (e2 o ho)⟩
 have hzero:∀ (x:Value),m=0->(∃ ad c,x = .slice ad 0 c)->(Builtin.append_ #[t,t] ty #[.slice none 0 0,x]).run P w = .ok (.slice none 0 0) w:=by rintro x rfl ⟨ad,c,rfl⟩;cases ad <;> simp[Builtin.append_,run_underlying hd,sizeOf,typeInfo,hi1,Builtin.lenOf,Builtin.firstCells,loadCells,loadCellsFrom]
 cases hv with
 | own hg=>
  by_cases hm:m=0
  ·rename_i n' cap' ad';have hn':n'=m:=by
    rcases hob with⟨h1,h2,_⟩ | ⟨b,cap,cur,h1,_⟩
    ·rw[h1]at hg; injection hg with _ e2 _; omega
    ·rw[h1]at hg; injection hg with _ e2 _; omega
   refine⟨.slice none 0 0,w,hzero _ hm ⟨ad',cap',by rw[hn',hm]⟩,F,upd g d (.slice none 0 0),r1.putW hd' (fun b hb=>⟨hb,rfl⟩) (hfr _) ?_ (.own (bM ..))⟩;have hft:∀ b,bG (upd g d (.slice none 0 0)) w d (.arm e j.size m f none) b->False:=fun b hb=>by
    cases hb with
    | self h=>rw[bM]at h; simp[blk]at h
    | arm h1=>rw[bM]at h1; cases h1
   exact⟨HpR.change r1.w.hp g3 (fun o ho=>bR g _ ho) (fun b hb=>⟨hb,rfl⟩) (fun _ h=>h) (fun _ _ _ _ _ _=>rfl) (.inl ⟨bM ..,hm,rfl⟩)
    (fun b hb=>(hft b hb).elim) (fun o y b _ _ _ hb=>hft b hb),r.w.f0,r.w.f1,r.w.ext,hnm _,r.w.b0⟩
  ·rcases hob with⟨h1,h2,_⟩ | ⟨b,cap,cur,h1,h2,h3,h4,h5,hA⟩
   ·exact absurd h2 hm
   rw[h1]at hg; injection hg with e1 e2 e3; subst e1; subst e2; subst e3;have hO:∀ (i q:Nat) x v c,i<m->(f i)[q]? = some x->x.owned=true->cur[i*j.size+q]? = some v->blk v=some c->bG g w o2 (.arm e j.size m f none) c:=fun i q x v c hi hx ho hv hc=>.arm h1 h2 hi hx ho hv hc;obtain⟨news,hs⟩:=Uq hs1 h2 h3 h5 (hA.part _ hO) hC2;rcases hs.shape with⟨c,hc,h0⟩ | ⟨ad,c,hc,hcell⟩
   ·exact absurd h0 hm
   injection hc with hc1 hc2 hc3;injection hc1 with hc1;subst hc1 hc3;have hr:=run_append_nil (P:=P) w t ty e info z hd hi1 hi2 _ m cap news (by rw[hi4]; exact hs.len) hcell (by omega) (by omega) (by rw[hi5]; omega);have hcap:=grownCap_ge w m 0 e;have hcapm:=grownCap_le_maxLen w m 0 e (by simp only[maxLen]; omega);generalize hw':w.drew.alloc (.cells (news.toArray++Builtin.zeroCells z.cells (grownCap w m 0 e-m)) e)=w' at hr;have hold:∀ k,k<w.heap.size->w'.heap[k]? = w.heap[k]?:=fun k hk=>by rw[<-hw']; exact heap_alloc_old w.drew _ hk
   have hnew:w'.heap[w.heap.size]? = some (.cells (news.toArray++Builtin.zeroCells z.cells (grownCap w m 0 e-m)) e (0,0)):=by rw[<-hw']; exact heap_alloc_new w.drew _
   have hFF:∀ k,F k->F k/\w'.heap[k]? = w.heap[k]?:=fun k hk=>⟨hk,hold k (r.w.f1 k hk).1⟩;have hOl:∀ c,bG g w o2 (.arm e j.size m f none) c->c<w.heap.size:=fun c hc=>hc.block (r.w.hp.obj _ _ hlm);have hpart:nE F w' j.size m f ((news.toArray++Builtin.zeroCells z.cells (grownCap w m 0 e-m))[·]?) (bG g w o2 (.arm e j.size m f none)):=
    hs.part.mono hFF (fun c hc=>hold c (hOl c hc)) (fun k hk=>by rw[kO (by simp; rw[hs.len]; exact hk)]; simp)
   refine⟨_,w',hr,F,upd g d (.slice (some ⟨w.heap.size,0,none⟩) m (grownCap w m 0 e)),r1.putW hd' hFF (hfr _) ?_ (.own (bM ..))⟩;have hsz:w.heap.size<=w'.heap.size:=by rw[<-hw']; simp[World.alloc]
   have hsz2:w'.heap.size=w.heap.size+1:=by rw[<-hw']; simp[World.alloc]
   have hft:∀ b',bG (upd g d (.slice (some ⟨w.heap.size,0,none⟩) m (grownCap w m 0 e))) w' d (.arm e j.size m f none) b'->b'=w.heap.size\/bG g w o2 (.arm e j.size m f none) b':=fun b' hb'=>hpart.foot (bM ..) hnew hb';refine⟨HpR.change r1.w.hp g3 (fun o ho=>bR g _ ho) hFF (fun _ h=>h) (fun k y b' hk _ hb'=>hold b' (hb'.block (r1.w.hp.obj k y hk))) ?_ (fun b' hb'=>?_) (fun k y b' hk _ hb' hb''=>?_),r.w.f0,
    fun k hk=>⟨by have:=(r.w.f1 k hk).1; omega,(r.w.f1 k hk).2⟩,r.w.ext.trans (by rw[<-hw']; rfl) (by rw[<-hw']; rfl) (by rw[<-hw']; rfl) hsz (fun k hk _=>hold k (by have:=r.w.ext.size; omega)),hnm _,r.w.b0⟩
   ·exact .inr ⟨_,_,_,bM ..,hnew,hcap,hcapm,by simp only[jO,lX,hs.len,size_zeroCells,hi3,hz,<-gW]; congr 1; omega,hpart.toC fun h=>by have:=hOl _ h; omega⟩
   ·rcases hft b' hb' with rfl | hb'
    ·exact⟨fun hF'=>by have:=(r.w.f1 _ hF').1; omega,.inr r.w.ext.size⟩
    ·exact r.w.hp.own o2 _ b' hlm hb'
   ·obtain⟨x,hx1,hx2,_,hx5⟩:=he.hp k y hk;rcases hft b' hb'' with rfl | hb''
    ·have:=hb'.block (r1.w.hp.obj k y hk); omega
    ·exact r.w.hp.sep k x o2 _ b' hx1 hlm hx2 (hx5 _ _ _ hb') hb''
theorem cL.less{st1:St}(r:cL E F g st a w)(he:Jp o st st1):cL E F g st1 a w:=
 ⟨r.nt,r.df,fun t y hy=>r.fr t y (he.fr t y hy),⟨⟨fun k y hy=>by
  obtain⟨x,h1,_,h4,_⟩:=he.hp k y hy; exact h4 _ _ _ (r.w.hp.obj k x h1),fun k y b hy hb=>by
  obtain⟨x,h1,_,_,h5⟩:=he.hp k y hy; exact r.w.hp.own k x b h1 (h5 _ _ _ hb),fun k y k' y' b hy hy' hne hb hb'=>by
  obtain⟨x,h1,_,_,h5⟩:=he.hp k y hy; obtain⟨x',h1',_,_,h5'⟩:=he.hp k' y' hy'; exact r.w.hp.sep k x k' x' b h1 h1' hne (h5 _ _ _ hb) (h5' _ _ _ hb')⟩,
  r.w.f0,r.w.f1,r.w.ext,r.w.names,r.w.b0⟩⟩
theorem Al{I:Inf}(hn:E.N=I.N)(hnt:E.nt=I.nt)(r:cL E F g st a w){j:eG}(hd:P.underlying t=some (.slice e))(hj:TOk P e j)(ty:TypeId){o1 o2:Nat}
  (hb:1<=j.bytes)(hz:j.zero.length=j.size)(hs1:1<=j.size){f1 f:Nat->List Cel}{s:Value}(hs:VR F g w (.own o1) s)(hv:VR F g w (.own o2) v)(hC:Tp n m j.bytes j.size f){st0 st1 st':St}
  (hl1:bK st.hp o1=some (.arm e j.size n f1 none))(he1:Jp o1 st st0)(hl2:bK st0.hp o2=some (.arm e j.size m f none))(he2:Jp o2 st0 st1)(hne:o2≠o1)
  (h:fW I st1 d (.arm e j.size (n+m) (qQ n f1 f) none) (.own d)=some st'):
  ∃ u w',(Builtin.append_ #[t,t] ty #[s,v]).run P w = .ok u w'/\Rel E st' (a.put (some d) u) w':=by
 have r0:=r.less he1;have r1:=r0.less he2;have hlm:=aU hl1;have hob:=r.w.hp.obj _ _ hlm;cases hs with
 | own hg=>
  rcases hob with⟨h1,h2,_⟩ | ⟨b,cap,cur,h1,h2,h3,h4,h5,hA⟩
  ·rw[h1]at hg; cases hg; subst h2;have e0:qQ 0 f1 f=f:=by funext i; simp[qQ]
   rw[e0,eW]at h;exact qB hn hnt r0 hd hj ty hb hz hs1 hv hC hl2 he2 h
  rw[h1]at hg; injection hg with e1 e2 e3; subst e1; subst e2; subst e3;obtain⟨info,z,hi1,hi2,hi3,_⟩:=mH (F:=F) (g:=g) (w:=w) hj;obtain⟨info',hi1',hi4,hi5,_⟩:=hj.info;rw[hi1]at hi1'; cases hi1';obtain⟨hC1,hC2⟩:=hC;have hm63:n+m<=140737488355328:=gV (Cd (n+m) hb) hC1;have hlm2':=aU hl2;obtain⟨X2,hX1,hX2,_,hX5⟩:=he1.hp _ _ hlm2';have hob2:=r0.w.hp.obj _ _ hlm2';have self1:bG g w o1 (.arm e j.size n f1 none) b:=.self (by rw[h1]; rfl);have hFb:¬ F b:=(r.w.hp.own o1 _ b hlm self1).1;have hBb:=(r.w.hp.own o1 _ b hlm self1).2;have hblt:b<w.heap.size:=(oU.1 h2).1;have sep2:∀ c,bG g w o2 (.arm e j.size m f none) c->∀ c',bG g w o1 (.arm e j.size n f1 none) c'->c≠c':=fun c hc c' hc' he=>by subst he; exact r.w.hp.sep o2 X2 o1 _ c hX1 hlm hne (hX5 _ _ _ hc) hc'
  have hO1:∀ (i q:Nat) x v c,i<n->(f1 i)[q]? = some x->x.owned=true->cur[i*j.size+q]? = some v->blk v=some c->bG g w o1 (.arm e j.size n f1 none) c/\c≠b:=fun i q x v c hi hx ho hv hc=>
   ⟨.arm h1 h2 hi hx ho hv hc,fun he=>hA.own i q x v hi hx ho hv (he▸hc)⟩
  have hp1:=hA.part (fun c=>bG g w o1 (.arm e j.size n f1 none) c/\c≠b) hO1;obtain⟨news,hs2⟩:∃ news,bAW F w j.size m f v news (bG g w o2 (.arm e j.size m f none)):=by
   cases hv with
   | own hg2=>
    rcases hob2 with⟨k1,k2,_⟩ | ⟨b2,cap2,cur2,k1,k2,k3,k4,k5,hA2⟩
    ·rw[k1]at hg2; injection hg2 with q1 q2 q3; subst k2; subst q1; subst q2;exact⟨[],.inl ⟨_,rfl,rfl⟩,by simp,.nil,fun u hu=>by cases hu⟩
    ·rw[k1]at hg2; injection hg2 with q1 q2 q3; subst q1; subst q2; subst q3;exact Uq hs1 k2 k3 k5 (hA2.part _ fun i q x v c hi hx ho hv hc=>.arm k1 k2 hi hx ho hv hc) hC2
  have hO2l:∀ c,bG g w o2 (.arm e j.size m f none) c->c<w.heap.size:=fun c hc=>hc.block (r0.w.hp.obj _ _ hlm2');have hO1l:∀ c,bG g w o1 (.arm e j.size n f1 none) c->c<w.heap.size:=fun c hc=>hc.block (r.w.hp.obj _ _ hlm);have hdis12:∀ c,(bG g w o1 (.arm e j.size n f1 none) c/\c≠b)->bG g w o2 (.arm e j.size m f none) c->False:=fun c hc hc'=>sep2 c hc' c hc.1 rfl;have old:∀ k y,(k,y)∈st1.hp->∃ x,(k,x)∈st.hp/\k≠o1/\k≠o2/\∀ c,bG g w k y c->bG g w k x c:=fun k y hy=>by obtain⟨x,p1,p2,_,p5⟩:=he2.hp k y hy;obtain⟨x',p1',p2',_,p5'⟩:=he1.hp k x p1;exact⟨x',p1',p2',p2,fun c hc=>p5' _ _ _ (p5 _ _ _ hc)⟩
  unfold fW at h;split at h
  case h_2=>cases h
  rename_i st2 g1 g2 g3;cases h;have hd':d<E.nt:=by rw[hnt]; simpa[fE] using g1
  have hnm:∀ u,∀ k,k∈E.N->upd g d u k=E.g0 k:=fun u k hk=>by rw[bR g _ (fun e:k=d=>fJ g2 (hn▸e▸hk))];exact r.w.names k hk
  have hfr:∀ u t y,(t,y)∈st2.fr->(t,y)∈st1.fr/\∀ o,o∈y.names->upd g d u o=g o:=fun u t y hy=>by obtain⟨e1,e2⟩:=St.erase_fr g3 t y hy;exact⟨e1,fun o ho=>bR g _ (e2 o ho)⟩
  by_cases hroom:n+m<=cap
  ·have hfit:n*j.size+news.length<=cur.size:=by rw[hs2.len,h5,<-gW]; exact iN _ hroom
   have hrun:(Builtin.append_ #[t,t] ty #[.slice (some ⟨b,0,none⟩) n cap,v]).run P w =
     .ok (.slice (some ⟨b,0,none⟩) (n+m) cap) (w.setRow b (cur.toList.take (n*j.size)++news++cur.toList.drop (n*j.size+news.length)).toArray):=by
    rcases hs2.shape with⟨c,rfl,h0⟩ | ⟨ad,c,rfl,hc⟩
    ·subst h0;have hn0:news=[]:=lW (by simpa using hs2.len);subst hn0;simp only[jJ,nT,tV,Ah,mS];have hself:w.setRow b cur=w:=setRow_self w b cur e (0,0) h2;rw[hself];simp[Builtin.append_,run_underlying hd,sizeOf,typeInfo,hi1,Builtin.lenOf,Builtin.firstCells,storeCells,h3]
    ·have:=run_append_room (P:=P) w t ty e info hd hi1 b n cap cur h2 ad m c news (by rw[hi4]; exact hs2.len) hc hs2.one hroom (by rw[hi4]; exact hfit);rw[hi4]at this; exact this
   generalize hcur':(cur.toList.take (n*j.size)++news++cur.toList.drop (n*j.size+news.length)).toArray=cur' at hrun;have hoth:∀ k,k≠b->(w.setRow b cur').heap[k]? = w.heap[k]?:=fun k hk=>setRow_other w b k _ hk;have hFo:∀ k,F k->F k/\(w.setRow b cur').heap[k]? = w.heap[k]?:=fun k hk=>⟨hk,hoth k (fun e=>hFb (e▸hk))⟩;have hpart:nE F (w.setRow b cur') j.size (n+m) (qQ n f1 f) (cur'[·]?) (fun c=>(bG g w o1 (.arm e j.size n f1 none) c/\c≠b)\/bG g w o2 (.arm e j.size m f none) c):=by
    refine nE.app (hp1.mono hFo (fun c hc=>hoth c hc.2) (fun _ _=>rfl)) (hs2.part.mono hFo (fun c hc=>hoth c (sep2 c hc b self1)) (fun _ _=>rfl)) hdis12 (fun k hk=>?_) (fun k hk=>?_)
    ·have hk':k<cur.size:=by omega
     rw[<-hcur'];simp only[sD,gX];rw[eT (by simp; omega),iR,aA hk];simp
    ·have hln:=hs2.len;rw[<-hcur'];simp only[sD,gX];rw[eH (by simp; omega)];simp only[dM,jH];rw[show n*j.size+k-min (n*j.size) cur.size=k by omega,eT (by omega)]
   have hheap:(w.setRow b cur').heap[b]? = some (.cells cur' e (0,0)):=setRow_heap w b cur _ e _ h2;have hdis:∀ k y c,(k,y)∈st1.hp->bG g w k y c->c≠b:=fun k y c hy hc he=>by obtain⟨x,p1,p2,p3,p5⟩:=old k y hy;subst he;exact r.w.hp.sep k x o1 _ c p1 hlm p2 (p5 c hc) self1
   have hft:∀ c,bG (upd g d (.slice (some ⟨b,0,none⟩) (n+m) cap)) (w.setRow b cur') d (.arm e j.size (n+m) (qQ n f1 f) none) c->bG g w o1 (.arm e j.size n f1 none) c\/bG g w o2 (.arm e j.size m f none) c:=fun c hc=>by
    rcases hpart.foot (bM ..) hheap hc with rfl | (h | h)
    ·exact .inl self1
    ·exact .inl h.1
    ·exact .inr h
   refine⟨_,_,hrun,F,upd g d (.slice (some ⟨b,0,none⟩) (n+m) cap),r1.putW hd' hFo (hfr _) ?_ (.own (bM ..))⟩;refine⟨HpR.change r1.w.hp g3 (fun o ho=>bR g _ ho) hFo (fun _ h=>h) (fun k y c hk _ hc=>hoth c (hdis k y c hk hc)) ?_ (fun c hc=>?_) (fun k y c hk _ hc hc'=>?_),r.w.f0,fun k hk=>⟨by simpa using (r.w.f1 k hk).1,(r.w.f1 k hk).2⟩,
    r.w.ext.trans rfl rfl rfl (by simp) (fun k hk hB=>hoth k (fun e=>?_)),hnm _,r.w.b0⟩
   ·refine .inr ⟨b,cap,cur',bM ..,hheap,hroom,h4,?_,hpart.toC fun h=>?_⟩
    ·rw[<-hcur'];simp only[lX,cZ,dM,fI,jH];omega
    ·rcases h with h | h
     ·exact h.2 rfl
     ·exact sep2 b h b self1 rfl
   ·rcases hft c hc with h | h
    ·exact r.w.hp.own o1 _ c hlm h
    ·exact r0.w.hp.own o2 _ c hlm2' h
   ·obtain⟨x,p1,p2,p3,p5⟩:=old k y hk;rcases hft c hc' with h | h
    ·exact r.w.hp.sep k x o1 _ c p1 hlm p2 (p5 c hc) h
    ·exact r.w.hp.sep k x o2 X2 c p1 hX1 p3 (p5 c hc) (hX5 _ _ _ h)
   ·subst e;rcases hBb with hB' | hB'
    ·exact hB hB'
    ·omega
  ·rcases hs2.shape with⟨c,rfl,h0⟩ | ⟨ad,c,rfl,hc⟩
   ·omega
   have hol:(cur.toList.take (n*j.size)).length=n*info.size:=by rw[hi4]; simp only[dM,jH,h5];exact Nat.min_eq_left (iN _ h3)
   have hr:=run_append_grow (P:=P) w t ty e info z hd hi1 hi2 ⟨b,0,none⟩ n cap (cur.toList.take (n*j.size)) hol (fun k u hu=>by
    rw[Addr.add_none,eW];rw[iR]at hu;split at hu
    ·simpa[World.cell?,h2] using hu
    ·cases hu) ad m c news (by rw[hi4]; exact hs2.len) hc (by omega) (by omega) (growslice_fits (by omega) (by rw[hi5]; exact hC1))
   have hcap:=grownCap_ge w (n+m) cap e;have hcapm:=grownCap_le_maxLen w (n+m) cap e (by simp only[maxLen]; omega);have hlen1:(cur.toList.take (n*j.size)).length=n*j.size:=by rw[hol,hi4]
   generalize hcur':((cur.toList.take (n*j.size)).toArray++news.toArray++Builtin.zeroCells z.cells (grownCap w (n+m) cap e-(n+m)))=cur' at hr;generalize hw':w.drew.alloc (.cells cur' e)=w' at hr;have hold:∀ k,k<w.heap.size->w'.heap[k]? = w.heap[k]?:=fun k hk=>by rw[<-hw']; exact heap_alloc_old w.drew _ hk
   have hnew:w'.heap[w.heap.size]? = some (.cells cur' e (0,0)):=by rw[<-hw']; exact heap_alloc_new w.drew _
   have hFF:∀ k,F k->F k/\w'.heap[k]? = w.heap[k]?:=fun k hk=>⟨hk,hold k (r.w.f1 k hk).1⟩;have hpart:nE F w' j.size (n+m) (qQ n f1 f) (cur'[·]?) (fun c=>(bG g w o1 (.arm e j.size n f1 none) c/\c≠b)\/bG g w o2 (.arm e j.size m f none) c):=by
    refine nE.app (hp1.mono hFF (fun c hc=>hold c (hO1l c hc.1)) (fun _ _=>rfl)) (hs2.part.mono hFF (fun c hc=>hold c (hO2l c hc)) (fun _ _=>rfl)) hdis12 (fun k hk=>?_) (fun k hk=>?_)
    ·have hk':k<cur.size:=by rw[h5]; exact zT hk (iN _ h3)
     rw[<-hcur',sH,kO (by simp; omega)];simp only[sD,iR,aA hk];simp
    ·have hln:=hs2.len;rw[<-hcur',sH,qS (by simp; omega)];simp only[lX,hlen1];rw[show n*j.size+k-n*j.size=k by omega,kO (by simp; omega)];simp
   have hft:∀ c',bG (upd g d (.slice (some ⟨w.heap.size,0,none⟩) (n+m) (grownCap w (n+m) cap e))) w' d (.arm e j.size (n+m) (qQ n f1 f) none) c'->c'=w.heap.size\/bG g w o1 (.arm e j.size n f1 none) c'\/bG g w o2 (.arm e j.size m f none) c':=fun c' hc'=>by
    rcases hpart.foot (bM ..) hnew hc' with h | (h | h)
    ·exact .inl h
    ·exact .inr (.inl h.1)
    ·exact .inr (.inr h)
   have hsz2:w'.heap.size=w.heap.size+1:=by rw[<-hw']; simp[World.alloc]
   refine⟨_,w',hr,F,upd g d (.slice (some ⟨w.heap.size,0,none⟩) (n+m) (grownCap w (n+m) cap e)),r1.putW hd' hFF (hfr _) ?_ (.own (bM ..))⟩;refine⟨HpR.change r1.w.hp g3 (fun o ho=>bR g _ ho) hFF (fun _ h=>h) (fun k y c' hk _ hc'=>hold c' (hc'.block (r1.w.hp.obj k y hk))) ?_ (fun c' hc'=>?_) (fun k y c' hk _ hc' hc''=>?_),r.w.f0,
    fun k hk=>⟨by have:=(r.w.f1 k hk).1; omega,(r.w.f1 k hk).2⟩,r.w.ext.trans (by rw[<-hw']; rfl) (by rw[<-hw']; rfl) (by rw[<-hw']; rfl) (by omega) (fun k hk _=>hold k (by have:=r.w.ext.size; omega)),hnm _,r.w.b0⟩
   ·refine .inr ⟨_,_,cur',bM ..,hnew,hcap,hcapm,?_,hpart.toC fun h=>?_⟩
    ·rw[<-hcur'];simp only[jO,lX,hlen1,hs2.len,size_zeroCells,hi3,hz,<-gW]
     congr 1; omega
    ·rcases h with h | h
     ·have:=hO1l _ h.1; omega
     ·have:=hO2l _ h; omega
   ·rcases hft c' hc' with rfl | h | h
    ·exact⟨fun hF'=>by have:=(r.w.f1 _ hF').1; omega,.inr r.w.ext.size⟩
    ·exact r.w.hp.own o1 _ c' hlm h
    ·exact r0.w.hp.own o2 _ c' hlm2' h
   ·obtain⟨x,p1,p2,p3,p5⟩:=old k y hk;rcases hft c' hc'' with rfl | h | h
    ·have:=hc'.block (r1.w.hp.obj k y hk); omega
    ·exact r.w.hp.sep k x o1 _ c' p1 hlm p2 (p5 c' hc') h
    ·exact r.w.hp.sep k x o2 X2 c' p1 hX1 p3 (p5 c' hc') (hX5 _ _ _ h)
end
end Go.PL
