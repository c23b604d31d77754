/-
  Parts: The abstract values of the seat's program logic and what they say of a world. Own work. Abstract states: a frame of abstract values, a heap of abstract objects; what they say of an activation and a world. Own work. Operations that leave the world alone, evaluated on abstract states; soundness. Own work. Value operations on abstract states, with the condition under which they go through; soundness. Own work. Soundness of the value operations. Own work. Soundness of the value operations: addresses, aggregates, slices of strings; all of them. Own work. Maps whose keys are arrays of numbers and whose values are truth values. Own work. The value operations, all in one. Own work. Operations that make or write memory, on abstract states; soundness. Own work. Soundness of the operations that make or write memory. Own work. append, buildSlice, store; all operations that make or write memory. Own work. Arrays whose cells are rows of their own: two of them put together. Own work. buildSlice, store; all operations that make or write memory. Own work. append of a string's bytes to a row of ours. Own work (the proofs of Pj, for strings).
-/
import Derived.WalkKit
import Derived.KernelRfl
import Derived.Laws.StructEq
import Derived.WideKeyRuns
import Derived.Laws.Pointers
import Derived.Maps.RangeRun
import Derived.LaidEqlPtr
import Derived.Lib.AppendStr
set_option maxHeartbeats 4000000
namespace Go.PL
abbrev dW:=@List.mem_append
abbrev iQ:=@List.mem_filter
abbrev pB:=@Nat.ne_of_beq_eq_false
abbrev cO:=@List.mem_cons_of_mem
abbrev Cq:=@List.mem_iff_getElem
abbrev zH:=@List.nodup_append
abbrev Ir:=@List.getElem?_eq_some_iff
abbrev Jo:=@List.mem_map_of_mem
abbrev Ob:=@Array.getElem?_eq_some_iff
abbrev Uk:=@List.mem_append_left
abbrev bE:=@List.mem_cons
abbrev gE:=@Prod.mk.injEq
abbrev fW:=@Nat.le_trans
abbrev Sz:=@List.any_eq_false
abbrev Ci:=@Nat.beq_refl
abbrev gJ:=@Option.some.injEq
theorem aF{c:Prop}{i:Decidable c}(h:¬c:=by omega){α:Sort _}{t e:α}:@ite α c i t e=e:=if_neg h
abbrev gQ:=@List.getElem?_map
abbrev kC:=@Option.map_eq_some_iff
abbrev bS:=@Nat.eq_of_beq_eq_true
abbrev eH:=@if_false
abbrev iE:=@List.getElem?_eq_getElem
theorem aA{c:Prop}{i:Decidable c}(h:c:=by omega){α:Sort _}{t e:α}:@ite α c i t e=t:=if_pos h
abbrev fI:=@Nat.le_of_ble_eq_true
abbrev Gh:=@List.getElem?_drop
abbrev lU:=@List.foldl_cons
abbrev zO:=@List.eq_nil_of_length_eq_zero
abbrev yV:=@Nat.add_zero
abbrev rD:=@Array.length_toList
abbrev fY:=@List.map_cons
abbrev tM:=@Option.map_some
abbrev Gf:=@Nat.add_assoc
abbrev jG:=@Nat.add_mul
abbrev dU:=@List.length_take
abbrev vN:=@List.length_drop
abbrev cS:=@List.mem_cons_self
abbrev lL:=@List.mem_of_getElem?
abbrev gT:=@if_true
abbrev eO:=@Bool.false_eq_true
abbrev nH:=@Array.toArray_toList
abbrev yI:=@Nat.one_mul
abbrev iL:=@Nat.mul_le_mul_right
abbrev cQ:=@Bool.and_eq_true
abbrev fT:=@List.all_eq_true
abbrev Ri:=@List.getElem_mem
abbrev Fo:=@Nat.le_mul_of_pos_right
abbrev aCD:=@Array.getElem?_append_left
abbrev Cf:=@Array.size_append
abbrev Hv:=@List.size_toArray
abbrev eQ:=@List.append_nil
abbrev rV:=@List.length_nil
abbrev gV:=@List.take_append_drop
abbrev Hx:=@List.getElem?_toArray
abbrev cR:=@List.append_assoc
abbrev nD:=@List.getElem?_append_right
abbrev pO:=@List.getElem?_append_left
abbrev iY:=@Nat.zero_add
abbrev tC:=@List.getElem?_take
abbrev aCA:=@Array.getElem?_toList
abbrev dV:=@List.getD_eq_getElem?_getD
abbrev sH:=@Option.getD_some
abbrev Cp:=@Array.eq_empty_of_size_eq_zero
abbrev cM:=@Nat.le_refl
abbrev dR:=@List.length_append
abbrev oA:=@List.length_singleton
abbrev cZ:=@List.mem_singleton
abbrev aIE:=@List.mem_or_eq_of_mem_set
abbrev Yo:=@Array.getElem?_modify
abbrev Tl:=@Array.size_eq_one_iff
abbrev vM:=@List.cons_append
abbrev aI:=@Option.bind_some
abbrev Kw:=@List.length_eq_one_iff
abbrev Cc:=@Option.isSome_iff_exists
abbrev cU:=@List.mem_map
abbrev Zt:=@List.drop_of_length_le
abbrev Hn:=@Nat.lt_or_ge
abbrev Hi:=@List.mem_range
abbrev dP:=@beq_iff_eq
abbrev Rr:=@List.ext_getElem
abbrev mT:=@Bool.not_eq_true'
abbrev yM:=@Nat.zero_le
abbrev Tq:=@List.filter_eq_self
abbrev sT:=@List.mem_append_right
abbrev qA:=@Bool.or_eq_true
abbrev fX:=@List.length_cons
abbrev Rt:=@Classical.byContradiction
abbrev Kq:=@Nat.lt_irrefl
abbrev Ck:=@List.getElem?_replicate
abbrev jX:=@decide_eq_true_eq
abbrev xE:=@List.nodup_cons
abbrev Ju:=@List.filter_cons_of_pos
abbrev yU:=@List.map_map
abbrev Bu:=@List.pairwise_iff_getElem
abbrev Sy:=@List.perm_append_comm
abbrev Ce:=@List.map_nil
abbrev dH:=@List.length_map
abbrev aBU:=@List.take_succ_cons
abbrev Iq:=@Nat.mod_eq_of_lt
abbrev Cl:=@Nat.lt_of_lt_of_le
abbrev rE:=@ByteArray.size_append
abbrev kK:=@List.nil_append
abbrev Oo:=@List.take_append_of_le_length
abbrev iU:=@List.take_of_length_le
abbrev fK:=@of_decide_eq_true
abbrev At:=@List.pairwise_map
abbrev kO:=@List.drop_eq_nil_of_le
abbrev vY:=@of_decide_eq_false
abbrev kU:=@decide_eq_false
abbrev Bf:=@List.getElem?_eq_none
abbrev aL:=@Int.toNat_natCast
abbrev Hf:=@List.drop_zero
abbrev fM:=@List.length_pos_iff
abbrev wN:=@List.pairwise_append
abbrev Hj:=@List.Pairwise.sublist
abbrev sZ:=@List.pairwise_singleton
abbrev Bh:=@List.Perm.append_left
abbrev wG:=@List.drop_drop
abbrev lQ:=@List.pairwise_cons
abbrev cF:=@List.take_length
abbrev fL:=@List.flatMap_cons
abbrev oK:=@List.mem_of_mem_take
abbrev Ao:=@List.foldl_append
abbrev Fd:=@List.filter_cons_of_neg
abbrev lM:=@List.length_filter_le
abbrev jR:=@List.mem_flatMap
abbrev mX:=@Nat.not_lt_zero
abbrev wH:=@decide_eq_true
abbrev mU:=@and_self
abbrev Pi:=@Option.bind_eq_some_iff
abbrev Oa:=@List.getElem_of_mem
abbrev Bj:=@List.cons.inj
abbrev eI:=@List.map_append
abbrev Mz:=@List.filter_filter
abbrev qW:=@Nat.mul_le_mul
abbrev oU:=@List.filter_append
abbrev wD:=@List.filter_nil
abbrev jC:=@List.flatMap_append
abbrev Fw:=@List.flatMap_nil
abbrev Mo:=@Nat.pow_le_pow_right
abbrev Pb:=@BitVec.ofInt_natCast
abbrev Nh:=@BitVec.toNat_ofNat
abbrev qR:=@List.length_replicate
abbrev Mx:=@List.replicate_succ'
abbrev mW:=@List.getElem_map
abbrev wT:=@Int.ediv_mul_le
abbrev wK:=@Int.mul_nonneg
abbrev vX:=@Int.ediv_nonneg
abbrev iT:=@List.flatMap_singleton
abbrev oQ:=@List.filter_sublist
abbrev Xg:=@List.perm_ext_iff_of_nodup
abbrev Ff:=@List.flatMap_map
abbrev Gq:=@List.eraseIdx_sublist
end Go.PL
namespace Go.PL
open Go
variable {C:Prop} {F' O:Nat->Prop} {b cap d j k m n o o2 off s:Nat} {cur:Array Value} {e t:TypeId} {g':Nat->Value} {h l:Int} {hi lo:Option Operand} {ms:Array (String×TypeId)} {ob:Obj} {op:BinOp} {parts:Array (Nat×Operand)} {u v:Value} {w':World} {α β:Type}
inductive bF where
 | mk (Op N:Int) (S:ByteArray) (Args:List bF)
instance:Inhabited bF:=⟨.mk 0 0 ByteArray.empty []⟩
def bF.Op:bF->Int | .mk a _ _ _=>a
def bF.N:bF->Int | .mk _ a _ _=>a
def bF.S:bF->ByteArray | .mk _ _ a _=>a
def bF.Args:bF->List bF | .mk _ _ _ a=>a
inductive Lz where
 | exprs (l:List bF)
inductive T where
 | int (k:IntKind) (n:Int)
 | bool (b:Bool)
 | str (s:ByteArray)
 | sl (n:Nat) (f:Nat->List T)
 | agg (l:List T)
 | lz (x:Lz)
 | fv (f:Nat)
instance:Inhabited T:=⟨.bool false⟩
abbrev T.i (n:Int):T:=.int .i64 n
def cT(e:bF):List T:=[.int .i64 e.Op,.int .i64 e.N,.str e.S,.lz (.exprs e.Args)]
def Lz.len:Lz->Nat | .exprs l=>l.length
def Lz.cells:Lz->Nat->List T | .exprs l=>fun i=>cT (l.getD i default)
def T.view:T->Option (Nat×(Nat->List T))
 | .sl n f=>some (n,f)
 | .lz x=>some (x.len,x.cells)
 | _=>none
inductive Rd (F:Nat->Prop)(w:World):T->Value->Prop
 | int (k:IntKind) (n:Int):Rd F w (.int k n) (.int k n)
 | bool (b:Bool):Rd F w (.bool b) (.bool b)
 | str (s:ByteArray):Rd F w (.str s) (.string s)
 | fv (f:Nat):Rd F w (.fv f) (.func (.func f) #[] #[])
 | nil {t:T} {f:Nat->List T} (h:t.view=some (0,f)):Rd F w t (.slice none 0 0)
 | sl {t:T} {n:Nat} {f:Nat->List T} (a:Addr) (cap size:Nat) (vs:Nat->Nat->Value) (h:t.view=some (n,f)) (hc:n<=cap) (hF:0<n->F a.block)
   (hs:∀ i,i<n->(f i).length=size) (hv:∀ i j,i<n->j<size->w.cell? (a.add (i*size+j))=some (vs i j))
   (hr:∀ (i j:Nat) x,i<n->(f i)[j]? = some x->Rd F w x (vs i j)):Rd F w t (.slice (some a) n cap)
 | agg {l:List T} {vs:Array Value} (hs:vs.size=l.length) (hr:∀ (j:Nat) x v,l[j]? = some x->vs[j]? = some v->Rd F w x v):Rd F w (.agg l) (.agg vs)
theorem Rd.mono{F:Nat->Prop}{w:World}(h:∀ b,F b->F' b/\w'.heap[b]? = w.heap[b]?){t:T}(r:Rd F w t v):Rd F' w' t v:=by
 induction r with
 | int k n=>exact .int k n
 | bool b=>exact .bool b
 | str s=>exact .str s
 | fv f=>exact .fv f
 | nil h=>exact .nil h
 | sl a cap size vs hw hc hF hs hv hr ih=>
  refine .sl a cap size vs hw hc (fun hn=>(h _ (hF hn)).1) hs (fun i j hi D=>?_) ih;have hb:(a.add (i*size+j)).block=a.block:=by unfold Addr.add; split <;> rfl
  rw[World.cell?_of_block (w:=w) (w':=w') (by rw[hb]; exact(h _ (hF (by omega))).2)];exact hv i j hi D
 | agg hs hr ih=>exact .agg hs ih
inductive PV where
 | t (x:T)
 | ptr (o off:Nat)
 | eptr (l:List T)
 | own (o:Nat)
 | aptr (o s i off:Nat)
 | map (o:Nat)
 | nil
 | np
 | fn (f:Fn) (n:Nat) (cs:List PV)
 | tup (l:List PV)
 | agg (l:List PV)
 | any
 | lit (v:Value)
 | ifx
instance:Inhabited PV:=⟨.nil⟩
inductive VR (F:Nat->Prop)(g:Nat->Value)(w:World):PV->Value->Prop
 | t {x:T} {v:Value} (h:Rd F w x v):VR F g w (.t x) v
 | ptr {o off b:Nat} (h:g o = .pointer (some ⟨b,0,none⟩)):VR F g w (.ptr o off) (.pointer (some ⟨b,off,none⟩))
 | eptr {l:List T} (a:Addr) (hF:l≠[]->F a.block) (h:∀ (j:Nat) x,l[j]? = some x->∃ u,w.cell? (a.add j)=some u/\Rd F w x u):VR F g w (.eptr l) (.pointer (some a))
 | own {o n cap:Nat} {a:Option Addr} (h:g o = .slice a n cap):VR F g w (.own o) (.slice a n cap)
 | aptr {o s i off b n cap:Nat} (h:g o = .slice (some ⟨b,0,none⟩) n cap):VR F g w (.aptr o s i off) (.pointer (some ⟨b,i*s+off,none⟩))
 | map {o b:Nat} (h:g o = .map (some b)):VR F g w (.map o) (.map (some b))
 | nil:VR F g w .nil (.slice none 0 0)
 | np:VR F g w .np (.pointer none)
 | fn {f:Fn} {n:Nat} {cs:List PV} {us vs:Array Value} (hn:us.size=n) (hs:(us++vs).size=cs.length) (hr:∀ (j:Nat) x v,cs[j]? = some x->(us++vs)[j]? = some v->VR F g w x v):VR F g w (.fn f n cs) (.func f us vs)
 | tup {l:List PV} {vs:Array Value} (hs:vs.size=l.length) (hr:∀ (j:Nat) x v,l[j]? = some x->vs[j]? = some v->VR F g w x v):VR F g w (.tup l) (.tuple vs)
 | agg {l:List PV} {vs:Array Value} (hs:vs.size=l.length) (hr:∀ (j:Nat) x v,l[j]? = some x->vs[j]? = some v->VR F g w x v):VR F g w (.agg l) (.agg vs)
 | any {v:Value} (h:v.cells=#[v]):VR F g w .any v
 | lit {v:Value} (h:v.cells=#[v]):VR F g w (.lit v) v
 | ifx {t:TypeId} {v:Value}:VR F g w .ifx (.iface t v)
def PV.names:PV->List Nat
 | .ptr o _=>[o]
 | .own o=>[o]
 | .aptr o _ _ _=>[o]
 | .map o=>[o]
 | .fn _ _ cs=>go cs
 | .tup l=>go l
 | .agg l=>go l
 | _=>[]
where go:List PV->List Nat
 | []=>[]
 | x::l=>x.names++go l
theorem PV.names_go_mem{l:List PV}{x:PV}(h:l[j]? = some x)(ho:o∈x.names):o∈PV.names.go l:=by
 induction l generalizing j with
 | nil=>simp at h
 | cons y l ih=>
  simp only[PV.names.go,dW];cases j with
  | zero=>simp at h; subst h; exact .inl ho
  | succ j=>exact .inr (ih (by simpa using h))
theorem VR.mono{F F':Nat->Prop}{g g':Nat->Value}{w w':World}(h:∀ b,F b->F' b/\w'.heap[b]? = w.heap[b]?){p:PV}{v:Value}(r:VR F g w p v)
  (hg:∀ o,o∈p.names->g' o=g o):VR F' g' w' p v:=by
 induction r with
 | t r=>exact .t (r.mono h)
 | ptr e=>exact .ptr (by rw[hg _ (by simp[PV.names])]; exact e)
 | eptr a hF e=>
  refine .eptr a (fun hl=>(h _ (hF hl)).1) (fun j x hx=>?_);obtain⟨u,D,hr⟩:=e j x hx;refine⟨u,?_,hr.mono h⟩;have hb:(a.add j).block=a.block:=by unfold Addr.add; split <;> rfl
  have hl:F a.block:=hF (by intro hn; subst hn; simp at hx);rw[World.cell?_of_block (w:=w) (w':=w') (by rw[hb]; exact(h _ hl).2)];exact D
 | own e=>exact .own (by rw[hg _ (by simp[PV.names])]; exact e)
 | aptr e=>exact .aptr (by rw[hg _ (by simp[PV.names])]; exact e)
 | map e=>exact .map (by rw[hg _ (by simp[PV.names])]; exact e)
 | nil=>exact .nil
 | np=>exact .np
 | any h=>exact .any h
 | lit h=>exact .lit h
 | ifx=>exact .ifx
 | fn hn hs hr ih=>exact .fn hn hs fun j x v hx hv=>ih j x v hx hv fun o ho=>hg o (by simp only[PV.names]; exact PV.names_go_mem hx ho)
 | tup hs hr ih=>exact .tup hs fun j x v hx hv=>ih j x v hx hv fun o ho=>hg o (by simp only[PV.names]; exact PV.names_go_mem hx ho)
 | agg hs hr ih=>exact .agg hs fun j x v hx hv=>ih j x v hx hv fun o ho=>hg o (by simp only[PV.names]; exact PV.names_go_mem hx ho)
inductive Mem where
 | d (x:T)
 | box (l:List T)
 | row (e:TypeId) (s n:Nat) (f:Nat->List T)
 | any
instance:Inhabited Mem:=⟨.box []⟩
def Mem.owned:Mem->Bool
 | .d _=>false
 | .any=>false
 | _=>true
inductive Cel where
 | d (x:T)
 | row (e:TypeId) (s n:Nat) (f:Nat->List T)
 | nl
 | any
instance:Inhabited Cel:=⟨.any⟩
def Cel.owned:Cel->Bool
 | .row ..=>true
 | _=>false
structure Iter where
 o:Nat
 rem:List T
 cur:Option T
inductive bA where
 | box (l:List PV)
 | arr (e:TypeId) (s n:Nat) (f:Nat->List T)
 | mpb (n:Nat) (m:List (List Int×Bool))
 | mp (it:Option Iter) (m:List (T×Mem)) (hole:Option (T×Option PV))
 | bld (ty e:TypeId) (s:ByteArray)
 | arm (e:TypeId) (s n:Nat) (f:Nat->List Cel) (ov:Option (Nat×Nat×PV))
instance:Inhabited bA:=⟨.box []⟩
def itN:Option Iter->List Nat
 | none=>[]
 | some i=>[i.o]
def hoN:Option (T×Option PV)->List Nat
 | some (_,some p)=>p.names
 | _=>[]
def ovN:Option (Nat×Nat×PV)->List Nat
 | some (_,_,p)=>p.names
 | none=>[]
def bA.names:bA->List Nat
 | .box l=>PV.names.go l
 | .arr ..=>[]
 | .mpb ..=>[]
 | .mp it _ ho=>itN it++hoN ho
 | .bld ..=>[]
 | .arm _ _ _ _ ov=>ovN ov
def bA.plain:bA->Bool
 | .mp ..=>false
 | .bld ..=>false
 | .arm ..=>false
 | _=>true
def blk:Value->Option Nat
 | .pointer (some a)=>some a.block
 | .slice (some a) _ _=>some a.block
 | .map (some b)=>some b
 | _=>none
def vJ(l:List Int):Value:=.agg (l.map (Value.int .i64)).toArray
def Cw(F:Nat->Prop)(g:Nat->Value)(w:World)(u:Value)(l:List PV):Prop:=
 ∃ b vs ty,u = .pointer (some ⟨b,0,none⟩)/\w.heap[b]? = some (.cells vs ty (0,0))/\vs.size=l.length/\∀ (j:Nat) x v,l[j]? = some x->vs[j]? = some v->VR F g w x v
def qL(F:Nat->Prop)(w:World)(u:Value)(e:TypeId)(s n:Nat)(f:Nat->List T):Prop:=
 (u = .slice none 0 0/\n=0)\/∃ b cap cur,u = .slice (some ⟨b,0,none⟩) n cap/\w.heap[b]? = some (.cells cur e (0,0))/\n<=cap/\cap<=maxLen /\
   cur.size=cap*s/\(∀ i,i<n->(f i).length=s)/\∀ (i j:Nat) x,i<n->(f i)[j]? = some x->∃ v,cur[i*s+j]? = some v/\Rd F w x v
def It(F:Nat->Prop)(w:World):Mem->Value->Prop
 | .d x,v=>Rd F w x v
 | .box l,v=>Cw F (fun _=>undef) w v (l.map .t)
 | .row e s n f,v=>qL F w v e s n f
 | .any,_=>True
inductive KeyR:T->Value->Prop
 | int (k:IntKind) (n:Int):KeyR (.int k n) (.int k n)
 | str (s:ByteArray):KeyR (.str s) (.string s)
def aOI(F:Nat->Prop)(w:World)(x:T×Mem)(e:MapEntry):Prop:=KeyR x.1 e.key/\It F w x.2 e.val
inductive mV {α β:Type}(R:α->β->Prop):List α->List β->Prop
 | nil:mV R [] []
 | cons {a:α} {b:β} {l:List α} {r:List β} (h:R a b) (t:mV R l r):mV R (a::l) (b::r)
def rI(F:Nat->Prop)(g:Nat->Value)(w:World):Option (T×Option PV)->List MapEntry->Prop
 | none,l=>l=[]
 | some (k,none),l=>l=[]\/∃ e,l=[e]/\KeyR k e.key
 | some (k,some p),l=>∃ e,l=[e]/\KeyR k e.key/\VR F g w p e.val
def hoK:Option (T×Option PV)->List T
 | none=>[]
 | some (k,_)=>[k]
def ItR(g:Nat->Value)(w:World)(b:Nat)(es:Array MapEntry)(clock:Nat):Option Iter->Prop
 | none=>True
 | some i=>∃ r since seen c0,g i.o = .pointer (some ⟨r,0,none⟩)/\w.heap[r]? = some (.mapIter (some b) since seen c0)/\(∀ e,e∈es.toList->e.born<since)/\(since<=c0/\since<=clock) /\
   (∀ e,e∈es.toList->((∃ k,k∈i.rem/\KeyR k e.key)↔seen.contains e.born=false))/\(∀ k,k∈i.rem->∃ e,e∈es.toList/\KeyR k e.key)/\i.rem.Nodup /\
   ∀ k,i.cur=some k->c0=clock/\(∃ e,e∈es.toList/\KeyR k e.key/\∃ q:Array Nat,seen=q.push e.born)/\k∉i.rem
structure MpR (F:Nat->Prop)(g:Nat->Value)(w:World)(b:Nat)(es:Array MapEntry)(clock:Nat)(it:Option Iter)(m:List (T×Mem))(ho:Option (T×Option PV))(l r:List MapEntry):Prop where
 perm:(l++r).Perm es.toList
 ent:mV (aOI F w) m l
 hole:rI F g w ho r
 keys:(m.map (·.1)++hoK ho).Nodup
 born:(es.toList.map (·.born)).Nodup
 old:∀ e,e∈es.toList->e.born<clock
 sep:∀ (i j:Nat) x y e e' c,m[i]? = some x->m[j]? = some y->l[i]? = some e->l[j]? = some e'->i≠j->x.2.owned=true->y.2.owned=true->blk e.val=some c->blk e'.val=some c->False
 it:ItR g w b es clock it
def iF(s:ByteArray):List Value:=s.data.toList.map fun b=>Value.int .u8 b.toNat
def bFQ(w:World)(u:Value)(ty e:TypeId)(s:ByteArray):Prop:=
 ∃ b p v,u = .pointer (some ⟨b,0,none⟩)/\w.heap[b]? = some (.cells #[p,v] ty (0,0))/\(p = .pointer none\/p = .pointer (some ⟨b,0,none⟩)) /\
  ((v = .slice none 0 0/\s.size=0)\/∃ r cap cur,v = .slice (some ⟨r,0,none⟩) s.size cap/\w.heap[r]? = some (.cells cur e (0,0))/\r≠b/\s.size<=cap/\cap<=maxLen/\cur.size=cap/\cur.toList.take s.size=iF s)
def Fz(F:Nat->Prop)(w:World):Cel->Value->Prop
 | .d x,v=>Rd F w x v
 | .row e s n f,v=>qL F w v e s n f
 | .nl,v=>v = .slice none 0 0
 | .any,_=>True
structure Al (F:Nat->Prop)(g:Nat->Value)(w:World)(b:Nat)(s n:Nat)(f:Nat->List Cel)(ov:Option (Nat×Nat×PV))(cur:Array Value):Prop where
 len:∀ i,i<n->(f i).length=s
 cell:∀ (i j:Nat) x,i<n->(f i)[j]? = some x->∃ v,cur[i*s+j]? = some v/\Fz F w x v
 sep:∀ (i j i' j':Nat) x x' v v' c,i<n->i' < n->(f i)[j]? = some x->(f i')[j']? = some x'->x.owned=true->x'.owned=true->cur[i*s+j]? = some v->cur[i'*s+j']? = some v'->blk v=some c->blk v'=some c->i=i'/\j=j'
 own:∀ (i j:Nat) x v,i<n->(f i)[j]? = some x->x.owned=true->cur[i*s+j]? = some v->blk v≠some b
 ov:∀ i j p,ov=some (i,j,p)->i<n/\(f i)[j]? = some .any/\∀ v,cur[i*s+j]? = some v->VR F g w p v
def aGB(F:Nat->Prop)(g:Nat->Value)(w:World)(u:Value)(e:TypeId)(s n:Nat)(f:Nat->List Cel)(ov:Option (Nat×Nat×PV)):Prop:=
 (u = .slice none 0 0/\n=0/\ov=none)\/∃ b cap cur,u = .slice (some ⟨b,0,none⟩) n cap/\w.heap[b]? = some (.cells cur e (0,0))/\n<=cap/\cap<=maxLen/\cur.size=cap*s/\Al F g w b s n f ov cur
def dA(F:Nat->Prop)(g:Nat->Value)(w:World)(o:Nat):bA->Prop
 | .arm e s n f ov=>aGB F g w (g o) e s n f ov
 | .bld ty e s=>bFQ w (g o) ty e s
 | .box l=>Cw F g w (g o) l
 | .arr e s n f=>qL F w (g o) e s n f
 | .mpb n m=>∃ b es clock,g o = .map (some b)/\w.heap[b]? = some (.map es clock)/\es.size=m.length/\(∀ x,x∈m->x.1.length=n) /\
   ∀ (j:Nat) e x,es[j]? = some e->m[j]? = some x->e.key=vJ x.1/\e.val = .bool x.2
 | .mp it m ho=>∃ b es clock,g o = .map (some b)/\w.heap[b]? = some (.map es clock)/\∃ l r,MpR F g w b es clock it m ho l r
inductive bC (g:Nat->Value)(w:World)(o:Nat):bA->Nat->Prop
 | self {x:bA} {b:Nat} (h:blk (g o)=some b):bC g w o x b
 | iter {i:Iter} {m:List (T×Mem)} {ho:Option (T×Option PV)} {b:Nat} (h:blk (g i.o)=some b):bC g w o (.mp (some i) m ho) b
 | mem {it:Option Iter} {m:List (T×Mem)} {ho:Option (T×Option PV)} {b bm cl:Nat} {es:Array MapEntry} {e:MapEntry} {x:T×Mem} (hg:g o = .map (some bm)) (hb:w.heap[bm]? = some (.map es cl))
   (he:e∈es.toList) (hx:x∈m) (hk:KeyR x.1 e.key) (hy:x.2.owned=true) (h:blk e.val=some b):bC g w o (.mp it m ho) b
 | bld {ty e:TypeId} {s:ByteArray} {b c:Nat} {p v:Value} (hg:g o = .pointer (some ⟨b,0,none⟩)) (hb:w.heap[b]? = some (.cells #[p,v] ty (0,0))) (h:blk v=some c):bC g w o (.bld ty e s) c
 | arm {e:TypeId} {s n:Nat} {f:Nat->List Cel} {ov:Option (Nat×Nat×PV)} {b bm cap i j:Nat} {cur:Array Value} {x:Cel} {v:Value} (hg:g o = .slice (some ⟨bm,0,none⟩) n cap) (hb:w.heap[bm]? = some (.cells cur e (0,0))) (hi:i<n)
   (hx:(f i)[j]? = some x) (hy:x.owned=true) (hv:cur[i*s+j]? = some v) (h:blk v=some b):bC g w o (.arm e s n f ov) b
theorem bC.toBlk{g:Nat->Value}{w:World}{x:bA}(h:bC g w o x b)(hx:x.plain=true):blk (g o)=some b:=by
 cases h with
 | self h=>exact h
 | iter h=>cases hx
 | mem=>cases hx
 | bld=>cases hx
 | arm=>cases hx
abbrev Fr:=List (Nat×PV)
abbrev Hp:=List (Nat×bA)
structure St where
 fr:Fr
 hp:Hp
def look{α:Type}:List (Nat×α)->Nat->Option α
 | [],_=>none
 | (k,v)::l,t=>match Nat.beq k t with | true=>some v | false=>look l t
theorem aX{l:List (Nat×α)}{t:Nat}{v:α}(h:look l t=some v):(t,v)∈l:=by
 induction l with
 | nil=>simp[look]at h
 | cons e l ih=>
  obtain⟨k,u⟩:=e;unfold look at h;split at h
  all_goals simp_all
def del(t:Nat)(l:List (Nat×α)):List (Nat×α):=l.filter fun e=>!(Nat.beq e.1 t)
theorem bB{t:Nat}{v:α}{l:List (Nat×α)}:(k,v)∈del t l↔(k,v)∈l/\k≠t:=by
 simp only[del,iQ];refine and_congr_right fun _=>?_;cases h:Nat.beq k t with
 | true=>simp_all
 | false=>simp[pB h]
def St.put(st:St)(d:Nat)(x:PV):St:={ st with fr:=(d,x)::del d st.fr }
structure Env where
 w0:World
 F0:Nat->Prop
 B0:Nat->Prop
 g0:Nat->Value
 N:List Nat
 nt:Nat
structure HpR (F:Nat->Prop)(g:Nat->Value)(w:World)(B:Nat->Prop)(H:Hp):Prop where
 obj:∀ o x,(o,x)∈H->dA F g w o x
 own:∀ o x b,(o,x)∈H->bC g w o x b->¬ F b/\B b
 sep:∀ o x o' y b,(o,x)∈H->(o',y)∈H->o≠o'->bC g w o x b->bC g w o' y b->False
structure aRS (B:Nat->Prop)(w0 w:World):Prop where
 os:w.os=w0.os
 tape:w.tape=w0.tape
 output:w.output=w0.output
 size:w0.heap.size<=w.heap.size
 block:∀ b,b<w0.heap.size->¬ B b->w.heap[b]? = w0.heap[b]?
structure Jj (E:Env)(F:Nat->Prop)(g:Nat->Value)(H:Hp)(w:World):Prop where
 hp:HpR F g w (fun b=>E.B0 b\/E.w0.heap.size<=b) H
 f0:∀ b,E.F0 b->F b
 f1:∀ b,F b->b<w.heap.size/\(E.F0 b\/E.B0 b\/E.w0.heap.size<=b)
 ext:aRS E.B0 E.w0 w
 names:∀ o,o∈E.N->g o=E.g0 o
 b0:∀ b,E.B0 b->b<E.w0.heap.size
structure cG (E:Env)(F:Nat->Prop)(g:Nat->Value)(st:St)(a:Act)(w:World):Prop where
 nt:a.tmps.size=E.nt
 df:a.defers=[]
 fr:∀ t x,(t,x)∈st.fr->VR F g w x (a.tmps.getD t undef)
 w:Jj E F g st.hp w
def Rel(E:Env)(st:St)(a:Act)(w:World):Prop:=∃ F g,cG E F g st a w
theorem mV.get{R:α->β->Prop}{l:List α}{r:List β}(h:mV R l r):r.length=l.length/\∀ (j:Nat) a b,l[j]? = some a->r[j]? = some b->R a b:=by
 induction h with
 | nil=>simp
 | cons h _ ih=>grind
theorem mV.mono{R D:α->β->Prop}{l:List α}{r:List β}(h:mV R l r)(hr:∀ a b,a∈l->b∈r->R a b->D a b):mV D l r:=by
 induction h with
 | nil=>exact .nil
 | cons h _ ih=>exact .cons (hr _ _ (by simp) (by simp) h) (ih fun a b ha hb=>hr a b (cO _ ha) (cO _ hb))
theorem mV.mem{α β:Type}{R:α->β->Prop}{l:List α}{r:List β}(h:mV R l r){a:α}(ha:a∈l):∃ (j:Nat) (b:β),l[j]? = some a/\r[j]? = some b/\R a b:=by
 obtain⟨j,G,rfl⟩:=Cq.1 ha;have D:j<r.length:=by rw[h.get.1]; exact G
 exact⟨j,r[j],by simp[G],by simp[D],h.get.2 j _ _ (by simp[G]) (by simp[D])⟩
theorem mV.memr{R:α->β->Prop}{l:List α}{r:List β}(h:mV R l r){b:β}(hb:b∈r):∃ (j:Nat) (a:α),l[j]? = some a/\r[j]? = some b/\R a b:=by
 obtain⟨j,G,rfl⟩:=Cq.1 hb;have D:j<l.length:=by rw[<-h.get.1]; exact G
 exact⟨j,l[j],by simp[D],by simp[G],h.get.2 j _ _ (by simp[D]) (by simp[G])⟩
theorem KeyR.inj{k D:T}(h:KeyR k v)(G:KeyR D v):k=D:=by cases h <;> cases G <;> rfl
theorem KeyR.inj'{k:T}{D:Value}(h:KeyR k v)(G:KeyR k D):v=D:=by cases h <;> cases G <;> rfl
theorem It.block{F:Nat->Prop}{w:World}{y:Mem}(h:It F w y v)(hy:y.owned=true)(hb:blk v=some b):∃ vs ty,w.heap[b]? = some (.cells vs ty (0,0)):=by
 cases y with
 | d x=>cases hy
 | box l=>obtain⟨D,vs,ty,h1,h2,_⟩:=h;rw[h1]at hb; simp[blk]at hb; simp_all
 | row e s n f=>
  rcases h with⟨h1,_⟩ | ⟨D,cap,cur,h1,h2,_⟩
  ·rw[h1]at hb; simp[blk]at hb
  ·rw[h1]at hb; simp[blk]at hb; simp_all
 | any=>cases hy
theorem MpR.entry{F:Nat->Prop}{g:Nat->Value}{w:World}{clock:Nat}{es:Array MapEntry}{it:Option Iter}{m:List (T×Mem)}{ho:Option (T×Option PV)}{l r:List MapEntry}(h:MpR F g w b es clock it m ho l r)
  {x:T×Mem}{e:MapEntry}(hx:x∈m)(he:e∈es.toList)(hk:KeyR x.1 e.key):aOI F w x e/\∃ j:Nat,m[j]? = some x/\l[j]? = some e:=by
 have D:=h.keys;rw[zH]at D;obtain⟨Q,hn2,M⟩:=D;have he':=h.perm.mem_iff.2 he;rcases dW.1 he' with hl | hr
 ·obtain⟨j,y,hy,hj,hR⟩:=h.ent.memr hl;obtain⟨i,hi,rfl⟩:=Cq.1 hx;have hyx:y.1=(m[i]).1:=hR.1.inj hk;have hj':j<m.length:=(Ir.1 hy).1;have:j=i:=by
   have e1:(m.map (·.1))[j]? = some y.1:=by simp[hy]
   have e2:(m.map (·.1))[i]? = some y.1:=by simp_all
   exact(List.getElem?_inj (by simp_all) Q).1 (e1.trans e2.symm)
  grind
 ·exfalso;have G:x.1∈m.map (·.1):=Jo hx;have J:=h.hole;cases ho with
  | none=>simp only[rI]at J; simp_all
  | some kp=>
   obtain⟨k,p⟩:=kp;have Z:KeyR k e.key:=by
    cases p with
    | none=>
     rcases J with rfl | ⟨e',rfl,h2⟩
     all_goals simp_all
    | some p=>obtain⟨e',rfl,h2,_⟩:=J;simp_all
   have:k=x.1:=Z.inj hk;exact M _ G k (by simp[hoK]) this.symm
theorem Fz.block{F:Nat->Prop}{w:World}{y:Cel}(h:Fz F w y v)(hy:y.owned=true)(hb:blk v=some b):∃ vs ty,w.heap[b]? = some (.cells vs ty (0,0)):=by
 cases y with
 | d x=>cases hy
 | any=>cases hy
 | nl=>cases hy
 | row e s n f=>
  rcases h with⟨h1,_⟩ | ⟨D,cap,cur,h1,h2,_⟩
  ·rw[h1]at hb; simp[blk]at hb
  ·rw[h1]at hb; simp[blk]at hb; simp_all
theorem bC.block{F:Nat->Prop}{g:Nat->Value}{w:World}{o:Nat}{x:bA}{b:Nat}(hf:bC g w o x b)(h:dA F g w o x):b<w.heap.size:=by
 have lt:∀ {b:Nat} {ob:Obj},w.heap[b]? = some ob->b<w.heap.size:=fun h=>(Ob.1 h).1;cases hf with
 | self hb=>
  cases x with
  | box l=>obtain⟨D,vs,ty,h1,h2,_⟩:=h;rw[h1]at hb; simp[blk]at hb; simp_all
  | arr e s n f=>
   rcases h with⟨h1,_⟩ | ⟨D,cap,cur,h1,h2,_⟩
   ·rw[h1]at hb; simp[blk]at hb
   ·rw[h1]at hb; simp[blk]at hb; simp_all
  | mpb n m=>obtain⟨D,es,cl,h1,h2,_⟩:=h;rw[h1]at hb; simp[blk]at hb; simp_all
  | mp it m ho=>obtain⟨D,es,cl,h1,h2,_⟩:=h;rw[h1]at hb; simp[blk]at hb; simp_all
  | bld ty e s=>obtain⟨D,p,v,h1,h2,_⟩:=h;rw[h1]at hb; simp[blk]at hb; simp_all
  | arm e s n f ov=>
   rcases h with⟨h1,_⟩ | ⟨D,cap,cur,h1,h2,_⟩
   ·rw[h1]at hb; simp[blk]at hb
   ·rw[h1]at hb; simp[blk]at hb; simp_all
 | bld hg hb hv=>
  obtain⟨D,p,v,h1,h2,_,h3⟩:=h;rw[h1]at hg; injection hg with hg; injection hg with hg; injection hg with hg; subst hg;rw[h2]at hb; injection hb with hb; injection hb with hb; injection hb with hb; injection hb with hb1 hb2; injection hb2 with hb2; subst hb2;rcases h3 with⟨h4,_⟩ | ⟨r,cap,cur,h4,h5,_⟩
  ·rw[h4]at hv; simp[blk]at hv
  ·rw[h4]at hv; simp[blk]at hv; simp_all
 | arm hg hb hi hx hy hv hbl=>
  rcases h with⟨h1,_⟩ | ⟨D,cap,cur,h1,h2,_,_,_,hC⟩
  ·omega
  ·rw[h1]at hg; injection hg with hg; injection hg with hg; injection hg with hg; subst hg;rw[h2]at hb; injection hb with hb; injection hb with hb; subst hb;obtain⟨v',G,Z⟩:=hC.cell _ _ _ hi hx;rw[hv]at G; cases G;obtain⟨vs,ty,h3⟩:=Z.block hy hbl;exact lt h3
 | iter hb=>obtain⟨D,es,cl,h1,h2,l,r,J⟩:=h;obtain⟨r',M,Q,c0,e1,e2,_⟩:=J.it;rw[e1]at hb; simp[blk]at hb; simp_all
 | mem hg hb he hx hk ho hv=>obtain⟨D,es,cl,h1,h2,l,r,J⟩:=h;rw[h1]at hg; injection hg with hg; injection hg with hg; subst hg;rw[h2]at hb; injection hb with hb; injection hb with hb1 hb2; subst hb1;obtain⟨vs,ty,h3⟩:=(J.entry hx he hk).1.2.block ho hv;exact lt h3
theorem dA.block{F:Nat->Prop}{g:Nat->Value}{w:World}{o:Nat}{x:bA}(h:dA F g w o x){b:Nat}(hb:blk (g o)=some b):b<w.heap.size:=(bC.self hb).block h
theorem Cw.mono{F F':Nat->Prop}{g g':Nat->Value}{w w':World}(h:∀ b,F b->F' b/\w'.heap[b]? = w.heap[b]?){u:Value}{l:List PV}(r:Cw F g w u l)(hg:∀ o,o∈PV.names.go l->g' o=g o)
  (hb:∀ b,blk u=some b->w'.heap[b]? = w.heap[b]?):Cw F' g' w' u l:=by
 obtain⟨b,vs,ty,h1,h2,h3,h4⟩:=r;exact⟨b,vs,ty,h1,by rw[hb b (by rw[h1]; rfl)]; exact h2,h3,fun j x v hx hv=>(h4 j x v hx hv).mono h fun G D=>hg G (PV.names_go_mem hx D)⟩
theorem qL.mono{F F':Nat->Prop}{w w':World}(h:∀ b,F b->F' b/\w'.heap[b]? = w.heap[b]?){u:Value}{e:TypeId}{s n:Nat}{f:Nat->List T}(r:qL F w u e s n f)
  (hb:∀ b,blk u=some b->w'.heap[b]? = w.heap[b]?):qL F' w' u e s n f:=by
 rcases r with h1 | ⟨b,cap,cur,h1,h2,h3,h4,J,G,D⟩
 ·exact .inl h1
 ·refine .inr ⟨b,cap,cur,h1,by rw[hb b (by rw[h1]; rfl)]; exact h2,h3,h4,J,G,fun i j x hi hx=>?_⟩;obtain⟨v,hv,hr⟩:=D i j x hi hx;exact⟨v,hv,hr.mono h⟩
theorem We(l:List T):PV.names.go (l.map PV.t)=[]:=by
 induction l with
 | nil=>rfl
 | cons x l ih=>simp[PV.names.go,PV.names,ih]
theorem It.mono{F F':Nat->Prop}{w w':World}(h:∀ b,F b->F' b/\w'.heap[b]? = w.heap[b]?){y:Mem}{v:Value}(r:It F w y v)
  (hb:∀ b,y.owned=true->blk v=some b->w'.heap[b]? = w.heap[b]?):It F' w' y v:=by
 cases y with
 | d x=>exact Rd.mono h r
 | box l=>exact Cw.mono h r (fun _ _=>rfl) (fun b D=>hb b rfl D)
 | row e s n f=>exact qL.mono h r (fun b D=>hb b rfl D)
 | any=>trivial
theorem rI.mono{F F':Nat->Prop}{g g':Nat->Value}{w w':World}(h:∀ b,F b->F' b/\w'.heap[b]? = w.heap[b]?){ho:Option (T×Option PV)}{l:List MapEntry}(r:rI F g w ho l)
  (hg:∀ o,o∈hoN ho->g' o=g o):rI F' g' w' ho l:=by
 cases ho with
 | none=>exact r
 | some kp=>
  obtain⟨k,p⟩:=kp;cases p with
  | none=>exact r
  | some p=>obtain⟨e,h1,h2,h3⟩:=r;exact⟨e,h1,h2,h3.mono h hg⟩
theorem Fz.mono{F F':Nat->Prop}{w w':World}(h:∀ b,F b->F' b/\w'.heap[b]? = w.heap[b]?){y:Cel}{v:Value}(r:Fz F w y v)
  (hb:∀ b,y.owned=true->blk v=some b->w'.heap[b]? = w.heap[b]?):Fz F' w' y v:=by
 cases y with
 | d x=>exact Rd.mono h r
 | any=>exact True.intro
 | nl=>exact r
 | row e s n f=>exact qL.mono h r (fun b D=>hb b rfl D)
theorem Al.mono{F F':Nat->Prop}{g g':Nat->Value}{w w':World}(h:∀ b,F b->F' b/\w'.heap[b]? = w.heap[b]?){b s n:Nat}{f:Nat->List Cel}{ov:Option (Nat×Nat×PV)}{cur:Array Value}(r:Al F g w b s n f ov cur)
  (hg:∀ o,o∈ovN ov->g' o=g o)(hb:∀ (i j:Nat) x v c,i<n->(f i)[j]? = some x->x.owned=true->cur[i*s+j]? = some v->blk v=some c->w'.heap[c]? = w.heap[c]?):Al F' g' w' b s n f ov cur where
 len:=r.len
 cell:=fun i j x hi hx=>by obtain⟨v,hv,D⟩:=r.cell i j x hi hx;exact⟨v,hv,D.mono h fun c hy hc=>hb i j x v c hi hx hy hv hc⟩
 sep:=r.sep
 own:=r.own
 ov:=fun i j p e=>by obtain⟨h1,h2,h3⟩:=r.ov i j p e;subst e;exact⟨h1,h2,fun v hv=>(h3 v hv).mono h hg⟩
theorem dA.monoF{F:Nat->Prop}{g:Nat->Value}{w:World}(h:∀ b,F b->F' b/\w'.heap[b]? = w.heap[b]?){x:bA}(r:dA F g w o x)
  (ho:g' o=g o)(hg:∀ o,o∈x.names->g' o=g o)(hb:∀ b,bC g w o x b->w'.heap[b]? = w.heap[b]?):dA F' g' w' o x:=by
 cases x with
 | box l=>simp only[dA]; rw[ho]; exact Cw.mono h r hg (fun b D=>hb b (.self D))
 | arr e s n f=>simp only[dA]; rw[ho]; exact qL.mono h r (fun b D=>hb b (.self D))
 | mpb n m=>obtain⟨b,es,cl,h1,h2,h3⟩:=r;exact⟨b,es,cl,by simp_all,by rw[hb b (.self (by rw[h1]; rfl))]; exact h2,h3⟩
 | bld ty e s=>
  obtain⟨b,p,v,h1,h2,h3,h4⟩:=r;refine⟨b,p,v,by simp_all,by rw[hb b (.self (by rw[h1]; rfl))]; exact h2,h3,?_⟩;rcases h4 with h4 | ⟨r,cap,cur,h4,Z,h6⟩
  ·exact .inl h4
  ·exact .inr ⟨r,cap,cur,h4,by rw[hb r (.bld h1 h2 (by rw[h4]; rfl))]; exact Z,h6⟩
 | arm e s n f ov=>
  simp only[dA];rcases r with⟨h1,h2⟩ | ⟨b,cap,cur,h1,h2,h3,h4,Z,hC⟩
  ·exact .inl ⟨by simp_all,h2⟩
  ·exact .inr ⟨b,cap,cur,by simp_all,by rw[hb b (.self (by rw[h1]; rfl))]; exact h2,h3,h4,Z,hC.mono h hg fun i j x v c hi hx hy hv hc=>hb c (.arm h1 h2 hi hx hy hv hc)⟩
 | mp it m hl=>
  obtain⟨b,es,cl,h1,h2,l,q,G⟩:=r;refine⟨b,es,cl,by simp_all,by rw[hb b (.self (by rw[h1]; rfl))]; exact h2,l,q,G.perm,?_,G.hole.mono h (fun k hk=>hg k (by simp[bA.names,hk])),G.keys,G.born,G.old,G.sep,?_⟩
  ·refine G.ent.mono fun x e hx he Q=>⟨Q.1,Q.2.mono h fun b' ho' D=>hb b' ?_⟩;exact .mem h1 h2 (G.perm.mem_iff.1 (Uk _ he)) hx Q.1 ho' D
  ·cases it with
   | none=>exact True.intro
   | some i=>obtain⟨r',J,M,c0,e1,e2,e3⟩:=G.it;exact⟨r',J,M,c0,by rw[hg i.o (by simp[bA.names,itN])]; exact e1,by rw[hb r' (.iter (by rw[e1]; rfl))]; exact e2,e3⟩
theorem bC.mono{g:Nat->Value}{w:World}{x:bA}(ho:g' o=g o)(hg:∀ o,o∈x.names->g' o=g o)(hb:∀ b,blk (g o)=some b->w'.heap[b]? = w.heap[b]?)(h:bC g' w' o x b):bC g w o x b:=by
 cases h with
 | self h=>exact .self (ho▸h)
 | iter h=>exact .iter (by rw[<-hg _ (by simp[bA.names,itN])]; exact h)
 | mem h1 h2 h3 h4 h5 h6 h7=>rw[ho]at h1;exact .mem h1 (by rw[<-hb _ (by rw[h1]; rfl)]; exact h2) h3 h4 h5 h6 h7
 | bld h1 h2 h3=>rw[ho]at h1;exact .bld h1 (by rw[<-hb _ (by rw[h1]; rfl)]; exact h2) h3
 | arm h1 h2 h3 h4 h5 h6 h7=>rw[ho]at h1;exact .arm h1 (by rw[<-hb _ (by rw[h1]; rfl)]; exact h2) h3 h4 h5 h6 h7
theorem dA.mono{F:Nat->Prop}{g:Nat->Value}{w:World}(h:∀ b,F b->F' b/\w'.heap[b]? = w.heap[b]?){x:bA}(r:dA F g w o x)
  (ho:g' o=g o)(hg:∀ o,o∈x.names->g' o=g o)(hb:∀ b,bC g w o x b->w'.heap[b]? = w.heap[b]?):dA F' g' w' o x:=r.monoF h ho hg hb
theorem Act.put_size(a:Act)(d:Nat)(v:Value):(a.put (some d) v).tmps.size=a.tmps.size:=by simp[Act.put]
theorem Act.put_same(a:Act)(d:Nat)(v:Value)(h:d<a.tmps.size):(a.put (some d) v).tmps.getD d undef=v:=by simp[Act.put,h]
theorem Act.put_other(a:Act)(d t:Nat)(v:Value)(h:t≠d):(a.put (some d) v).tmps.getD t undef=a.tmps.getD t undef:=by have D:d≠t:=fun e=>h e.symm;simp only[Act.put];simp_all
theorem cG.put{E:Env}{F:Nat->Prop}{g:Nat->Value}{st:St}{a:Act}{w:World}(r:cG E F g st a w){d:Nat}{x:PV}{v:Value}(D:d<E.nt)
  (h:VR F g w x v):cG E F g (st.put d x) (a.put (some d) v) w where
 nt:=by rw[Act.put_size]; exact r.nt
 df:=r.df
 fr:=by
  intro t y hy;simp only[St.put,bE,gE]at hy;rcases hy with⟨rfl,rfl⟩ | hy
  ·rw[Act.put_same _ _ _ (by rw[r.nt]; exact D)]; exact h
  ·obtain⟨h1,h2⟩:=bB.1 hy;rw[Act.put_other _ _ _ _ h2]; exact r.fr t y h1
 w:=r.w
theorem cG.putW{E:Env}{F:Nat->Prop}{g:Nat->Value}{st st':St}{a:Act}{w:World}(r:cG E F g st a w){x:PV}(G:d<E.nt)
  (hf:∀ b,F b->F' b/\w'.heap[b]? = w.heap[b]?)(hg:∀ t y,(t,y)∈st'.fr->(t,y)∈st.fr/\∀ o,o∈y.names->g' o=g o)(D:Jj E F' g' st'.hp w')
  (h:VR F' g' w' x v):cG E F' g' (st'.put d x) (a.put (some d) v) w' where
 nt:=by rw[Act.put_size]; exact r.nt
 df:=r.df
 fr:=by
  intro t y hy;simp only[St.put,bE,gE]at hy;rcases hy with⟨rfl,rfl⟩ | hy
  ·rw[Act.put_same _ _ _ (by rw[r.nt]; exact G)]; exact h
  ·obtain⟨h1,h2⟩:=bB.1 hy;obtain⟨h3,h4⟩:=hg t y h1;rw[Act.put_other _ _ _ _ h2]; exact(r.fr t y h3).mono hf h4
 w:=D
theorem aRS.trans{B:Nat->Prop}{w0 w w':World}(h:aRS B w0 w)(h1:w'.os=w.os)(h2:w'.tape=w.tape)(h3:w'.output=w.output)(h4:w.heap.size<=w'.heap.size)
  (G:∀ b,b<w0.heap.size->¬ B b->w'.heap[b]? = w.heap[b]?):aRS B w0 w':=
 ⟨h1.trans h.os,h2.trans h.tape,h3.trans h.output,fW h.size h4,fun b hb D=>(G b hb D).trans (h.block b hb D)⟩
def PV.mentions(o:Nat)(x:PV):Bool:=x.names.any fun k=>Nat.beq k o
theorem PV.not_mentions{x:PV}(h:x.mentions o=false):∀ k,k∈x.names->k≠o:=by intro k hk he;subst he;simp only[PV.mentions,Sz]at h;exact h k hk (Ci k)
def bA.mentions(o:Nat)(x:bA):Bool:=x.names.any fun k=>Nat.beq k o
theorem bA.not_mentions{x:bA}(h:x.mentions o=false):∀ k,k∈x.names->k≠o:=by intro k hk he;subst he;simp only[bA.mentions,Sz]at h;exact h k hk (Ci k)
def PV.er(o:Nat)(x:PV):Option PV:=
 match x.mentions o with
 | false=>some x
 | true=>match x with
  | .own _=>some .any
  | .ptr _ _=>some .any
  | .aptr _ _ _ _=>some .any
  | .map _=>some .any
  | .fn _ _ _=>some .any
  | _=>none
def qQ(o:Nat):List PV->Option (List PV)
 | []=>some []
 | x::l=>match x.er o,qQ o l with
  | some y,some r=>some (y::r)
  | _,_=>none
theorem PV.er_ok{x y:PV}(h:x.er o=some y):(∀ k,k∈y.names->k≠o)/\∀ F g w v,VR F g w x v->VR F g w y v:=by
 unfold PV.er at h;split at h
 ·rename_i hm; cases h; exact⟨PV.not_mentions hm,fun _ _ _ _ h=>h⟩
 ·split at h <;> cases h
  all_goals
   refine⟨by simp[PV.names],fun F g w v hv=>?_⟩;cases hv <;> exact .any rfl
theorem Fc{o:Nat}:∀ {l r:List PV},qQ o l=some r->r.length=l.length/\(∀ k,k∈PV.names.go r->k≠o) /\
  ∀ (j:Nat) y,r[j]? = some y->∃ x,l[j]? = some x/\∀ F g w v,VR F g w x v->VR F g w y v
 | [],r,h=>by simp[qQ]at h; subst h; simp[PV.names.go]
 | x::l,r,h=>by
  simp only[qQ]at h;split at h
  ·rename_i y r' hy hr;cases h;obtain⟨h1,h2,h3⟩:=Fc hr;obtain⟨h4,h5⟩:=PV.er_ok hy;refine⟨by simp[h1],fun k hk=>?_,fun j z hz=>?_⟩
   ·simp only[PV.names.go,dW]at hk;grind
   grind
  ·cases h
def Qz(o:Nat):Option Iter->Option Iter
 | none=>none
 | some i=>match Nat.beq i.o o with | true=>none | false=>some i
def Oe(o:Nat):Option (T×Option PV)->Option (T×Option PV)
 | some (k,some p)=>match p.mentions o with | true=>some (k,none) | false=>some (k,some p)
 | x=>x
def Ud(o:Nat):Option (Nat×Nat×PV)->Option (Nat×Nat×PV)
 | some (i,j,p)=>match p.mentions o with | true=>none | false=>some (i,j,p)
 | none=>none
def bA.er(o:Nat):bA->Option bA
 | .arm e s n f ov=>some (.arm e s n f (Ud o ov))
 | .box l=>match qQ o l with | some r=>some (.box r) | none=>none
 | .arr e s n f=>some (.arr e s n f)
 | .mpb n m=>some (.mpb n m)
 | .mp it m ho=>some (.mp (Qz o it) m (Oe o ho))
 | .bld ty e s=>some (.bld ty e s)
theorem Qo{it:Option Iter}:(∀ k,k∈itN (Qz o it)->k≠o)/\(Qz o it=it\/Qz o it=none):=by
 cases it with
 | none=>simp[Qz,itN]
 | some i=>
  simp only[Qz];split
  ·exact⟨by simp[itN],.inr rfl⟩
  ·rename_i hk;exact⟨fun k D=>by simp[itN]at D; subst D; exact pB hk,.inl rfl⟩
theorem Mk{ho:Option (T×Option PV)}:(∀ k,k∈hoN (Oe o ho)->k≠o)/\hoK (Oe o ho)=hoK ho/\∀ F g w l,rI F g w ho l->rI F g w (Oe o ho) l:=by
 rcases ho with _ | ⟨k,_ | p⟩
 ·exact⟨by simp[Oe,hoN],rfl,fun _ _ _ _ h=>h⟩
 ·exact⟨by simp[Oe,hoN],rfl,fun _ _ _ _ h=>h⟩
 ·simp only[Oe];split
  ·exact⟨by simp[hoN],rfl,fun F g w l ⟨e,h1,h2,_⟩=>.inr ⟨e,h1,h2⟩⟩
  ·rename_i hm;exact⟨fun k hk=>PV.not_mentions hm k hk,rfl,fun _ _ _ _ h=>h⟩
theorem aBC{ov:Option (Nat×Nat×PV)}:(∀ k,k∈ovN (Ud o ov)->k≠o)/\(Ud o ov=ov\/Ud o ov=none):=by
 rcases ov with _ | ⟨i,j,p⟩
 ·exact⟨by simp[Ud,ovN],.inl rfl⟩
 ·simp only[Ud];split
  ·exact⟨by simp[ovN],.inr rfl⟩
  ·rename_i hm;exact⟨fun k hk=>PV.not_mentions hm k hk,.inl rfl⟩
theorem bA.er_foot{x y:bA}(h:x.er o=some y){g:Nat->Value}{w:World}{t:Nat}(hf:bC g w t y b):bC g w t x b:=by
 cases hf with
 | self h=>exact .self h
 | @iter i m ho b hb=>
  cases x with
  | mp it m' ho'=>
   simp only[bA.er,gJ,bA.mp.injEq]at h;rcases (Qo (o:=o) (it:=it)).2 with e | e
   ·rw[e]at h; rw[h.1]; exact .iter hb
   simp_all
  | box l=>simp only[bA.er]at h; split at h <;> cases h
  | arr=>cases h
  | mpb=>cases h
  | bld=>cases h
  | arm=>cases h
 | mem h1 h2 h3 h4 h5 h6 h7=>
  cases x with
  | mp it m' ho'=>simp only[bA.er,gJ,bA.mp.injEq]at h;rw[<-h.2.1]at h4;exact .mem h1 h2 h3 h4 h5 h6 h7
  | box l=>simp only[bA.er]at h; split at h <;> cases h
  | arr=>cases h
  | mpb=>cases h
  | bld=>cases h
  | arm=>cases h
 | arm h1 h2 h3 h4 h5 h6 h7=>
  cases x with
  | arm e s n f ov=>simp only[bA.er,gJ,bA.arm.injEq]at h;obtain⟨rfl,rfl,rfl,rfl,_⟩:=h;exact .arm h1 h2 h3 h4 h5 h6 h7
  | box l=>simp only[bA.er]at h; split at h <;> cases h
  | arr=>cases h
  | mpb=>cases h
  | mp=>cases h
  | bld=>cases h
 | bld h1 h2 h3=>
  cases x with
  | bld ty e s=>simp only[bA.er,gJ,bA.bld.injEq]at h; obtain⟨rfl,rfl,rfl⟩:=h; exact .bld h1 h2 h3
  | box l=>simp only[bA.er]at h; split at h <;> cases h
  | arr=>cases h
  | mpb=>cases h
  | mp=>cases h
  | arm=>cases h
theorem bA.er_ok{x y:bA}(h:x.er o=some y):(∀ k,k∈y.names->k≠o)/\∀ F g w t,dA F g w t x->dA F g w t y:=by
 cases x with
 | box l=>
  simp only[bA.er]at h;split at h
  ·rename_i r hr;cases h;obtain⟨h1,h2,h3⟩:=Fc hr;refine⟨h2,fun F g w t ⟨b,vs,ty,e1,M,Z,Q⟩=>⟨b,vs,ty,e1,M,by omega,fun j y v hy hv=>?_⟩⟩;grind
  ·cases h
 | arr e s n f=>simp only[bA.er]at h; cases h;exact⟨by simp[bA.names],fun _ _ _ _ h=>h⟩
 | mpb n m=>simp only[bA.er]at h; cases h;exact⟨by simp[bA.names],fun _ _ _ _ h=>h⟩
 | bld ty e s=>simp only[bA.er]at h; cases h;exact⟨by simp[bA.names],fun _ _ _ _ h=>h⟩
 | arm e s n f ov=>
  simp only[bA.er]at h; cases h;refine⟨(aBC (o:=o)).1,fun F g w t h=>?_⟩;rcases (aBC (o:=o) (ov:=ov)).2 with e1 | e1
  ·simp_all
  ·rw[e1];rcases h with⟨h1,h2,_⟩ | ⟨b,cap,cur,h1,h2,h3,h4,J,G⟩
   ·exact .inl ⟨h1,h2,rfl⟩
   ·exact .inr ⟨b,cap,cur,h1,h2,h3,h4,J,G.len,G.cell,G.sep,G.own,fun i j p e=>by cases e⟩
 | mp it m ho=>
  simp only[bA.er]at h; cases h;refine⟨fun k hk=>?_,fun F g w t ⟨b,es,cl,h1,h2,l,r,D⟩=>⟨b,es,cl,h1,h2,l,r,D.perm,D.ent,(Mk (o:=o)).2.2 _ _ _ _ D.hole,?_,D.born,D.old,D.sep,?_⟩⟩
  ·simp only[bA.names,dW]at hk;rcases hk with hk | hk
   ·exact(Qo (o:=o)).1 k hk
   ·exact(Mk (o:=o)).1 k hk
  ·rw[(Mk (o:=o)).2.1]; exact D.keys
  ·rcases (Qo (o:=o) (it:=it)).2 with e | e
   ·rw[e]; exact D.it
   ·rw[e]; exact True.intro
def Tg(o:Nat):Hp->Option Hp
 | []=>some []
 | (k,x)::l=>match Nat.beq k o with
  | true=>Tg o l
  | false=>match x.er o,Tg o l with
   | some y,some r=>some ((k,y)::r)
   | _,_=>none
def St.erase(o:Nat)(st:St):Option St:=
 match Tg o st.hp with
 | none=>none
 | some h=>some { fr:=st.fr.filter (fun e=>!(e.2.mentions o)),hp:=h }
theorem St.erase_fr{st st':St}(h:st.erase o=some st'):(∀ t x,(t,x)∈st'.fr->(t,x)∈st.fr/\∀ k,k∈x.names->k≠o):=by
 unfold St.erase at h;split at h
 ·cases h
 ·simp at h; subst h;intro t x hx;simp only[iQ]at hx;exact⟨hx.1,PV.not_mentions (by simp_all)⟩
theorem Mj{o:Nat}:∀ {l r:Hp},Tg o l=some r->∀ t y,(t,y)∈r->∃ x,(t,x)∈l/\t≠o/\(∀ k,k∈y.names->k≠o)/\(∀ F g w,dA F g w t x->dA F g w t y)/\∀ g w b,bC g w t y b->bC g w t x b
 | [],r,h,t,y,hy=>by simp[Tg]at h; simp_all
 | (k,x)::l,r,h,t,y,hy=>by
  simp only[Tg]at h;split at h
  ·obtain⟨x',h1,h2⟩:=Mj h t y hy;grind
  ·rename_i hk;split at h
   ·rename_i y' r' hy' hr;cases h;rcases bE.1 hy with e | hy
    ·cases e;obtain⟨h1,h2⟩:=bA.er_ok hy';exact⟨x,by simp,pB hk,h1,fun F g w=>h2 F g w _,fun g w b=>bA.er_foot hy'⟩
    ·obtain⟨x',h1,h2⟩:=Mj hr t y hy;grind
   ·cases h
theorem St.erase_hp{st st':St}(h:st.erase o=some st'):∀ t y,(t,y)∈st'.hp->∃ x,(t,x)∈st.hp/\t≠o/\(∀ k,k∈y.names->k≠o)/\(∀ F g w,dA F g w t x->dA F g w t y)/\∀ g w b,bC g w t y b->bC g w t x b:=by
 unfold St.erase at h;split at h
 ·cases h
 ·rename_i hr;simp at h; subst h;exact Mj hr
def upd(g:Nat->Value)(o:Nat)(v:Value):Nat->Value:=fun k=>if k=o then v else g k
theorem bJ(g:Nat->Value)(o:Nat)(v:Value):upd g o v o=v:=by simp[upd]
theorem bP(g:Nat->Value)(v:Value)(h:k≠o):upd g o v k=g k:=by simp[upd,h]
theorem VR.cells_t{F:Nat->Prop}{g:Nat->Value}{w:World}{x:PV}(h:VR F g w x v){y:T}(e:x = .t y):Rd F w y v:=by subst e; cases h with | t h=>exact h
theorem HpR.change{F:Nat->Prop}{g:Nat->Value}{st st':St}{w:World}{x:bA}{B:Nat->Prop}(r:HpR F g w B st.hp)(he:st.erase d=some st')
  (hg:∀ o,o≠d->g' o=g o)(hF:∀ b,F b->F' b/\w'.heap[b]? = w.heap[b]?)(Z:∀ b,F' b->F b)
  (hw:∀ o y b,(o,y)∈st.hp->o≠d->bC g w o y b->w'.heap[b]? = w.heap[b]?)(hx:dA F' g' w' d x)
  (hown:∀ b,bC g' w' d x b->¬ F' b/\B b)(hsep:∀ o y b,(o,y)∈st.hp->o≠d->bC g w o y b->bC g' w' d x b->False):
  HpR F' g' w' B ((d,x)::st'.hp):=by
 have foot:∀ o y b,(o,y)∈st'.hp->bC g' w' o y b->∃ D,(o,D)∈st.hp/\o≠d/\bC g w o D b:=by intro o y b ho hb;obtain⟨D,h1,h2,h3,h4,M⟩:=St.erase_hp he o y ho;exact⟨D,h1,h2,M _ _ _ (hb.mono (hg o h2) (fun k hk=>hg k (h3 k hk)) (fun b' J=>hw o D b' h1 h2 (.self J)))⟩
 refine⟨?_,?_,?_⟩
 ·intro o y ho;rcases bE.1 ho with e | ho
  ·simp_all
  ·obtain⟨D,h1,h2,h3,h4,M⟩:=St.erase_hp he o y ho;exact(h4 _ _ _ (r.obj o D h1)).mono hF (hg o h2) (fun k hk=>hg k (h3 k hk)) (fun b hb=>hw o D b h1 h2 (M _ _ _ hb))
 ·intro o y b ho hb;rcases bE.1 ho with e | ho
  ·simp_all
  ·obtain⟨D,h1,h2,h3⟩:=foot o y b ho hb;exact⟨fun h=>(r.own o D b h1 h3).1 (Z b h),(r.own o D b h1 h3).2⟩
 ·intro o y o' D b ho G Q hb J;rcases bE.1 ho with e | ho
  ·grind
  ·obtain⟨z,h1,h2,h3⟩:=foot o y b ho hb;rcases bE.1 G with e' | G
   ·grind
   ·obtain⟨z',h1',h2',h3'⟩:=foot o' D b G J;exact r.sep o z o' z' b h1 h1' Q h3 h3'
theorem cG.allocF{E:Env}{F:Nat->Prop}{g:Nat->Value}{st st':St}{a:Act}{w:World}(r:cG E F g st a w){x:bA}(hd:d<E.nt)
  (hn:d∉E.N)(he:st.erase d=some st')(hv:blk v=some w.heap.size)(hw:w'.heap=w.heap.push ob)(Z:w'.os=w.os)(Q:w'.tape=w.tape)(M:w'.output=w.output)
  (J:∀ g' b,g' d=v->bC g' w' d x b->blk v=some b)(hx:∀ g',(∀ o,o≠d->g' o=g o)->g' d=v->dA F g' w' d x)(p:PV)(hp:∀ g',g' d=v->VR F g' w' p v):
  ∃ g',cG E F g' ({ st' with hp:=(d,x)::st'.hp }.put d p) (a.put (some d) v) w':=by
 have hsz:w'.heap.size=w.heap.size+1:=by rw[hw]; simp
 have G:∀ b,b<w.heap.size->w'.heap[b]? = w.heap[b]?:=by intro b hb;rw[hw,Array.getElem?_push,aF (Nat.ne_of_lt hb)]
 have hF:∀ b,F b->F b/\w'.heap[b]? = w.heap[b]?:=fun b hb=>⟨hb,G b (r.w.f1 b hb).1⟩;refine⟨upd g d v,r.putW hd hF (fun t y hy=>?_) ?_ (hp _ (bJ ..))⟩
 ·obtain⟨h1,h2⟩:=St.erase_fr he t y hy;exact⟨h1,fun o ho=>bP g v (h2 o ho)⟩
 ·refine⟨HpR.change r.w.hp he (fun o ho=>bP g v ho) hF (fun _ h=>h) (fun o y b ho _ hb=>G b (hb.block (r.w.hp.obj o y ho))) (hx _ (fun o ho=>bP g v ho) (bJ ..))
   (fun b hb=>?_) (fun o y b ho _ hb D=>?_),r.w.f0,fun b hb=>⟨by have:=(r.w.f1 b hb).1; omega,(r.w.f1 b hb).2⟩,
   r.w.ext.trans Z Q M (by omega) (fun b hb _=>G b (by have:=r.w.ext.size; omega)),fun o ho=>?_,r.w.b0⟩
  ·have hb:=J _ _ (bJ ..) hb;rw[hv]at hb;simp at hb; subst hb;exact⟨fun hF'=>by grind,.inr r.w.ext.size⟩
  ·have D:=J _ _ (bJ ..) D;rw[hv]at D;simp at D; subst D;have:=hb.block (r.w.hp.obj o y ho);omega
  ·rw[bP g v (fun e:o=d=>hn (e▸ho))];exact r.w.names o ho
theorem cG.alloc{E:Env}{F:Nat->Prop}{g:Nat->Value}{st st':St}{a:Act}{w:World}(r:cG E F g st a w){x:bA}(Z:d<E.nt)
  (hn:d∉E.N)(he:st.erase d=some st')(hv:blk v=some w.heap.size)(Q:w'.heap=w.heap.push ob)(M:w'.os=w.os)(G:w'.tape=w.tape)(D:w'.output=w.output)
  (J:x.plain=true)(hx:∀ g',(∀ o,o≠d->g' o=g o)->g' d=v->dA F g' w' d x)(p:PV)(hp:∀ g',g' d=v->VR F g' w' p v):
  ∃ g',cG E F g' ({ st' with hp:=(d,x)::st'.hp }.put d p) (a.put (some d) v) w':=
 r.allocF Z hn he hv Q M G D (fun g' b hg hb=>by rw[<-hg]; exact hb.toBlk J) hx p hp
inductive U where
 | int (k:IntKind) | bool | str
 | sl (e:Nat) | st (fs:List (Nat×Nat)) | arr (n e:Nat) | mp (k e:Nat) | ptr (e:Nat)
 | other | ifc
structure dO where
 size:Nat
 bytes:Nat
 und:U
 zero:List PV
 eqn:Nat:=0
 eqf:Nat:=0
def U.isAgg:U->Bool | .st _=>true | .arr _ _=>true | _=>false
def UR(P:Program)(t:TypeId):U->Prop
 | .int k=>P.underlying t=some (.int k)
 | .bool=>P.underlying t=some .bool
 | .str=>P.underlying t=some .string
 | .sl e=>P.underlying t=some (.slice e)
 | .st fs=>∃ fields:Array Field,P.underlying t=some (.struct fields)/\fields.toList.map (fun f=>(f.offset,f.type))=fs
 | .arr n e=>P.underlying t=some (.array n e)
 | .mp k e=>P.underlying t=some (.map k e)
 | .ptr e=>P.underlying t=some (.pointer e)
 | .ifc=>∃ ms,P.underlying t=some (.interface ms)
 | .other=>∃ d,P.underlying t=some d/\(match d with | .struct _ | .array _ _=>true | _=>false)=false
def rB:Value->Option PV
 | .int k n=>some (.t (.int k n))
 | .bool b=>some (.t (.bool b))
 | .string s=>some (.t (.str s))
 | .slice none 0 0=>some .nil
 | .pointer none=>some .np
 | .map none=>some (.lit (.map none))
 | .nilFunc=>some (.lit .nilFunc)
 | .nilIface=>some (.lit .nilIface)
 | _=>none
theorem qC{p:PV}(h:rB v=some p)(F:Nat->Prop)(g:Nat->Value)(w:World):VR F g w p v:=by
 unfold rB at h;split at h <;> simp at h <;> subst h
 ·exact .t (.int _ _)
 ·exact .t (.bool _)
 ·exact .t (.str _)
 ·exact .nil
 ·exact .np
 ·exact .lit rfl
 ·exact .lit rfl
 ·exact .lit rfl
def gF:List T->List T->Option Bool
 | [],[]=>some true
 | .int k a::l,.int k' b::r=>if k=k' then (match gF l r with | some c=>some ((a==b)&&c) | none=>none) else none
 | .str a::l,.str b::r=>match gF l r with | some c=>some ((a.toList==b.toList)&&c) | none=>none
 | .bool a::l,.bool b::r=>match gF l r with | some c=>some ((a==b)&&c) | none=>none
 | _,_=>none
def oF:List T->Nat
 | []=>0
 | .int _ _::l=>1+4*oF l
 | .str _::l=>2+4*oF l
 | .bool _::l=>3+4*oF l
 | _::l=>4*oF l
def zE:T->Value
 | .int k a=>.int k a
 | .str a=>.string a
 | .bool a=>.bool a
 | _=>undef
def aWA(P:Program)(t:TypeId)(n:Nat):Prop:=n≠0->P.eqGuardType P.depth t=false /\
 ∀ (xs ys:List Int) (w:World),xs.length=n->ys.length=n->(Op.equalIn 10000 t (.agg (xs.map (Value.int .i64)).toArray) (.agg (ys.map (Value.int .i64)).toArray)).run P w = .ok (xs==ys) w
def aVJ(P:Program)(t:TypeId)(n:Nat):Prop:=n≠0->P.eqGuardType P.depth t=false /\
 ∀ (l r:List T) (b:Bool) (w:World),gF l r=some b->oF l=n->(Op.equalIn 10000 t (.agg (l.map zE).toArray) (.agg (r.map zE).toArray)).run P w = .ok b w
def aVU(P:Program)(t:TypeId)(i:dO):Prop:=∀ m e,i.und = .arr m e->i.eqn≠0->∀ (em:Bool) (xs:List Int) (w:World),xs.length=i.eqn->(Instr.checkKey em 10000 t (vJ xs)).run P w = .ok () w
structure TOk (P:Program)(t:TypeId)(i:dO):Prop where
 info:∃ info,P.info? t=some info/\info.size=i.size/\info.bytes=i.bytes/\∃ z,info.zero=some z/\z.cells.toList.map rB=i.zero.map some
 und:UR P t i.und
 eqv:aWA P t i.eqn
 eqf:aVJ P t i.eqf
 keyv:aVU P t i
 zb:i.und = .bool->∃ info,P.info? t=some info/\info.zero=some (.bool false)
def mP(P:Program)(ti:Nat->Option dO):Prop:=∀ t i,ti t=some i->TOk P t i
structure Inf where
 ti:Nat->Option dO
 N:List Nat
 nt:Nat
def ev(st:St):Operand->Option PV
 | .tmp t=>look st.fr t
 | .const v=>rB v
 | .func f=>some (.fn (.func f) 0 [])
 | .global _=>none
theorem bT{E:Env}{F:Nat->Prop}{g:Nat->Value}{st:St}{a:Act}{w:World}(r:cG E F g st a w){x:Operand}{p:PV}(h:ev st x=some p):
  VR F g w p (a.eval x):=by
 cases x with
 | tmp t=>exact r.fr t p (aX h)
 | const v=>exact qC h F g w
 | func f=>simp[ev]at h; subst h; exact .fn rfl rfl (fun j x v hx=>by simp at hx)
 | global _=>simp[ev]at h
def Hh:List PV->Option (List T)
 | []=>some []
 | .t x::l=>match Hh l with | some r=>some (x::r) | none=>none
 | _::_=>none
theorem Nx{l:List PV}{r:List T}(h:Hh l=some r):l=r.map PV.t:=by
 induction l generalizing r with
 | nil=>simp[Hh]at h; subst h; rfl
 | cons x l ih=>unfold Hh at h;grind
def Rb(l:List PV):PV:=match Hh l with | some r=>.t (.agg r) | none=>.agg l
theorem sQ{F:Nat->Prop}{g:Nat->Value}{w:World}{l:List PV}{vs:Array Value}(hs:vs.size=l.length)
  (h:∀ (j:Nat) x v,l[j]? = some x->vs[j]? = some v->VR F g w x v):VR F g w (Rb l) (.agg vs):=by
 unfold Rb;cases hl:Hh l with
 | none=>exact .agg hs h
 | some r=>have e:=Nx hl;refine .t (.agg (by simp_all) fun j x v hx hv=>?_);exact(h j (.t x) v (by simp_all) hv).cells_t rfl
def PV.cells:PV->List PV
 | .t (.agg l)=>l.map PV.t
 | .agg l=>l
 | x=>[x]
def PV.one:PV->Bool
 | .t (.agg _)=>false
 | .agg _=>false
 | .tup _=>false
 | .any=>false
 | .lit .nilFunc=>true
 | .lit _=>false
 | .ifx=>false
 | _=>true
theorem VR.cells{F:Nat->Prop}{g:Nat->Value}{w:World}{x:PV}{v:Value}(h:VR F g w x v):
  v.cells.size=x.cells.length/\∀ (j:Nat) y u,x.cells[j]? = some y->v.cells[j]? = some u->VR F g w y u:=by
 have one:∀ (x:PV) (v:Value),x.cells=[x]->v.cells=#[v]->VR F g w x v ->
   v.cells.size=x.cells.length/\∀ (j:Nat) y u,x.cells[j]? = some y->v.cells[j]? = some u->VR F g w y u:=by
  grind
 cases h with
 | t r=>
  cases r with
  | agg hs hr=>refine⟨by simp[PV.cells,Value.cells,hs],fun j y u hy G=>?_⟩;simp only[PV.cells,gQ,kC]at hy;obtain⟨z,D,rfl⟩:=hy;exact .t (hr j z u D G)
  | int k n=>exact one _ _ rfl rfl (.t (.int k n))
  | bool b=>exact one _ _ rfl rfl (.t (.bool b))
  | str s=>exact one _ _ rfl rfl (.t (.str s))
  | fv f=>exact one _ _ rfl rfl (.t (.fv f))
  | nil h=>exact one _ _ (by cases ‹T› <;> first | rfl | simp[T.view]at h) rfl (.t (.nil h))
  | sl a cap size vs h hc hF hs hv hr=>exact one _ _ (by cases ‹T› <;> first | rfl | simp[T.view]at h) rfl (.t (.sl a cap size vs h hc hF hs hv hr))
 | ptr e=>exact one _ _ rfl rfl (.ptr e)
 | eptr a hF e=>exact one _ _ rfl rfl (.eptr a hF e)
 | own e=>exact one _ _ rfl rfl (.own e)
 | aptr e=>exact one _ _ rfl rfl (.aptr e)
 | map e=>exact one _ _ rfl rfl (.map e)
 | nil=>exact one _ _ rfl rfl .nil
 | np=>exact one _ _ rfl rfl .np
 | any h=>exact one _ _ rfl h (.any h)
 | lit h=>exact one _ _ rfl h (.lit h)
 | ifx=>exact one _ _ rfl rfl .ifx
 | fn hn hs hr=>exact one _ _ rfl rfl (.fn hn hs hr)
 | tup hs hr=>exact one _ _ rfl rfl (.tup hs hr)
 | agg hs hr=>exact⟨by simp[PV.cells,Value.cells,hs],hr⟩
theorem Addr.add_add(a:Addr)(x y:Nat):(a.add x).add y=a.add (x+y):=by unfold Addr.add;grind
theorem Addr.add_none(b o n:Nat):(⟨b,o,none⟩:Addr).add n=⟨b,o+n,none⟩:=by unfold Addr.add; split <;> simp_all
section
variable {P:Program} {w:World}
theorem mI{u:U}(h:UR P t u):(isAgg t).run P w = .ok u.isAgg w:=by
 unfold isAgg;cases u <;> simp only[UR]at h
 case st fs=>obtain⟨fields,h,_⟩:=h;rw[Sem.run_bind,run_underlying h w]; rfl
 case ifc=>obtain⟨ms,h⟩:=h;rw[Sem.run_bind,run_underlying h w]; rfl
 case other=>obtain⟨d,h,hd⟩:=h;rw[Sem.run_bind,run_underlying h w];cases d <;> simp_all [U.isAgg]
 all_goals (rw[Sem.run_bind,run_underlying h w]; rfl)
theorem run_sizeOf{i:dO}(h:TOk P t i):(sizeOf t).run P w = .ok i.size w:=by obtain⟨info,h1,h2,_⟩:=h.info;simp[sizeOf,typeInfo,h1,h2]
theorem Cx{i:dO}(h:TOk P t i)(D:i.und.isAgg=true)(a:Addr)(vs:List Value)(hl:vs.length=i.size)
  (hc:∀ (j:Nat) v,vs[j]? = some v->w.cell? (a.add j)=some v):(loadVar t a).run P w = .ok (.agg vs.toArray) w:=by
 unfold loadVar;have:=run_loadCells_list (P:=P) w a vs hc;rw[hl]at this;simp[mI h.und,D,run_sizeOf h,this]
theorem Cu{i:dO}(h:TOk P t i)(D:i.und.isAgg=false)(a:Addr)(v:Value)(hc:w.cell? a=some v):(loadVar t a).run P w = .ok v w:=by unfold loadVar;simp[mI h.und,D,load,Sem.run,hc]
end
def jA(i:dO)(l:List PV):Option PV:=
 match i.und.isAgg with
 | true=>match Nat.beq (l.take i.size).length i.size with | true=>some (Rb (l.take i.size)) | false=>none
 | false=>match l with | x::_=>some x | []=>none
theorem tT{P:Program}{F:Nat->Prop}{g:Nat->Value}{w:World}{i:dO}(h:TOk P t i){l:List PV}{p:PV}(hp:jA i l=some p)(a:Addr)
  (hc:∀ (j:Nat) x,l[j]? = some x->∃ v,w.cell? (a.add j)=some v/\VR F g w x v):∃ v,(loadVar t a).run P w = .ok v w/\VR F g w p v:=by
 unfold jA at hp;split at hp
 ·rename_i M;split at hp
  ·rename_i hl;have hl:=bS hl;simp at hp; subst hp;have J:∀ j,j<i.size->j<l.length:=by grind
   have:∃ vs:List Value,vs.length=i.size/\∀ (j:Nat) v,vs[j]? = some v->w.cell? (a.add j)=some v:=by refine⟨(List.range i.size).map fun j=>(w.cell? (a.add j)).getD undef,by simp,fun j v hv=>?_⟩;simp only[gQ,kC]at hv;obtain⟨k,hk,hv⟩:=hv;obtain⟨G,D⟩:=Ir.1 hk;simp at G D;subst D;have hj:=J j G;obtain⟨u,hu',_⟩:=hc j l[j] (by simp[hj]);simp_all
   obtain⟨vs,Q,Z⟩:=this;refine⟨_,Cx h M a vs Q Z,sQ (by simp_all) fun j x v hx hv=>?_⟩;grind
  ·cases hp
 ·rename_i M;split at hp
  ·rename_i x l';simp at hp; subst hp;obtain⟨v,hv,hr⟩:=hc 0 x (by simp);refine⟨v,Cu h M a v ?_,hr⟩;simpa[Addr.add] using hv
  ·cases hp
def yC(k:IntKind)(a b:Int):Int:=k.wrap ((BitVec.ofInt k.bits a &&& BitVec.ofInt k.bits b).toNat:Int)
def Pg(k:IntKind)(a b:Int):Int:=k.wrap ((BitVec.ofInt k.bits a ||| BitVec.ofInt k.bits b).toNat:Int)
def bFK(k:IntKind)(a b:Int):Int:=k.wrap ((BitVec.ofInt k.bits a ^^^ BitVec.ofInt k.bits b).toNat:Int)
def bFF(k:IntKind)(a b:Int):Int:=k.wrap ((BitVec.ofInt k.bits a &&& ~~~ BitVec.ofInt k.bits b).toNat:Int)
def zW(k:IntKind)(a b:Int):Int:=k.wrap (a*2 ^ (min b.toNat k.bits))
def bV(k:IntKind)(a b:Int):Int:=a.fdiv (2 ^ (min b.toNat k.bits))
def Yx(op:BinOp)(k:IntKind)(a b:Int):Option (PV×Prop):=
 match op with
 | .add=>some (.t (.int k (k.wrap (a+b))),True)
 | .sub=>some (.t (.int k (k.wrap (a-b))),True)
 | .mul=>some (.t (.int k (k.wrap (a*b))),True)
 | .quo=>some (.t (.int k (k.wrap (a.tdiv b))),b≠0)
 | .rem=>some (.t (.int k (a.tmod b)),b≠0)
 | .eql=>some (.t (.bool (a==b)),True)
 | .neq=>some (.t (.bool (a != b)),True)
 | .lss=>some (.t (.bool (decide (a<b))),True)
 | .leq=>some (.t (.bool (decide (a<=b))),True)
 | .gtr=>some (.t (.bool (decide (a>b))),True)
 | .geq=>some (.t (.bool (decide (a>=b))),True)
 | .and=>some (.t (.int k (yC k a b)),True)
 | .or=>some (.t (.int k (Pg k a b)),True)
 | .xor=>some (.t (.int k (bFK k a b)),True)
 | .andNot=>some (.t (.int k (bFF k a b)),True)
 | _=>none
def Ye(op:BinOp)(a b:ByteArray):Option (PV×Prop):=
 match op with
 | .add=>some (.t (.str (a++b)),((a.size+b.size:Nat):Int)<=9223372036854775807)
 | .eql=>some (.t (.bool (a.toList==b.toList)),True)
 | .neq=>some (.t (.bool (!(a.toList==b.toList))),True)
 | .lss=>some (.t (.bool (Op.bytesLess a.toList b.toList)),True)
 | .leq=>some (.t (.bool (Op.bytesLess a.toList b.toList || a.toList==b.toList)),True)
 | .gtr=>some (.t (.bool (!(Op.bytesLess a.toList b.toList || a.toList==b.toList))),True)
 | .geq=>some (.t (.bool (!(Op.bytesLess a.toList b.toList))),True)
 | _=>none
def Mi(op:BinOp)(a b:Bool):Option (PV×Prop):=
 match op with
 | .eql=>some (.t (.bool (a==b)),True)
 | .neq=>some (.t (.bool (!(a==b))),True)
 | _=>none
def qZ:List T->Option (List Int)
 | []=>some []
 | .int .i64 x::l=>match qZ l with | some r=>some (x::r) | none=>none
 | _=>none
def aLO(n f:Nat)(op:BinOp)(l r:List T):Option (PV×Prop):=
 match Nat.beq f 0 with
 | false=>match gF l r,Nat.beq (oF l) f with
  | some b,true=>match op with
   | .eql=>some (.t (.bool b),True)
   | .neq=>some (.t (.bool (!b)),True)
   | _=>none
  | _,_=>none
 | true=>match qZ l,qZ r with
 | some xs,some ys=>match Nat.beq xs.length n,Nat.beq ys.length n,Nat.ble 1 n with
  | true,true,true=>match op with
   | .eql=>some (.t (.bool (xs==ys)),True)
   | .neq=>some (.t (.bool (!(xs==ys))),True)
   | _=>none
  | _,_,_=>none
 | _,_=>none
def rF:List (List Int×Bool)->List Int->Nat->Option (Nat×Bool)
 | [],_,_=>none
 | e::m,ks,i=>match ks==e.1 with | true=>some (i,e.2) | false=>rF m ks (i+1)
def aNN(m:List (List Int×Bool))(ks:List Int):Bool:=match rF m ks 0 with | some (_,b)=>b | none=>false
def aPS(m:List (List Int×Bool))(ks:List Int):Bool:=(rF m ks 0).isSome
def Rh(m:List (List Int×Bool))(ks:List Int)(b:Bool):List (List Int×Bool):=match rF m ks 0 with | some (i,_)=>m.set i (ks,b) | none=>m++[(ks,b)]
def aMK(I:Inf)(st:St)(t:Nat)(x k:PV):Option (Nat×List (List Int×Bool)×Nat×List Int):=
 match I.ti t,x,k with
 | some i,.map o,.t (.agg l)=>match i.und,look st.hp o,qZ l with
  | .mp kt et,some (.mpb n m),some ks=>match I.ti kt,I.ti et with
   | some ik,some ie=>match ik.und,ie.und,ie.zero,Nat.beq ik.eqn n,Nat.beq ks.length n,Nat.ble 1 n with
    | .arr _ _,.bool,[.t (.bool false)],true,true,true=>some (n,m,o,ks)
    | _,_,_,_,_,_=>none
   | _,_=>none
  | _,_,_=>none
 | _,_,_=>none
def bEN:BinOp->Bool | .shl=>true | .shr=>true | _=>false
def bFT(op:BinOp)(k:IntKind)(a b:Int):Option (PV×Prop):=
 match op with
 | .shl=>some (.t (.int k (zW k a b)),0<=b)
 | .shr=>some (.t (.int k (bV k a b)),0<=b)
 | _=>none
def Kv(op:BinOp)(u:U)(b:Bool):Option (PV×Prop):=
 match u,op with
 | .ptr _,.eql=>some (.t (.bool b),True)
 | .ptr _,.neq=>some (.t (.bool (!b)),True)
 | _,_=>none
def bBH(u:U)(op:BinOp)(y:Operand):Option (PV×Prop):=
 match u,y,op with
 | .ifc,.const _,.eql=>some (.t (.bool true),True)
 | .ifc,.const _,.neq=>some (.t (.bool false),True)
 | _,_,_=>none
def bAJ(u:U)(op:BinOp):Option (PV×Prop):=
 match u,op with
 | .ifc,.eql=>some (.t (.bool false),True)
 | .ifc,.neq=>some (.t (.bool true),True)
 | _,_=>none
def aPC(i:dO)(op:BinOp)(x y:PV):Option (PV×Prop):=
 match x,y with
 | .t (.int k a),.t (.int k' b)=>match bEN op with | true=>bFT op k a b | false=>if k=k' then Yx op k a b else none
 | .ptr _ _,.np=>Kv op i.und false
 | .np,.np=>Kv op i.und true
 | .t (.str a),.t (.str b)=>Ye op a b
 | .t (.agg l),.t (.agg r)=>aLO i.eqn i.eqf op l r
 | .t (.bool a),.t (.bool b)=>match i.und with | .bool=>Mi op a b | _=>none
 | _,_=>none
def unP(op:UnOp)(x:PV):Option (PV×Prop):=
 match op,x with
 | .not,.t (.bool b)=>some (.t (.bool (!b)),True)
 | .neg,.t (.int k a)=>some (.t (.int k (k.wrap (0-a))),True)
 | _,_=>none
def aZM(st:St)(u:U)(x:PV):Option PV:=
 match u,x with
 | .str,.t (.str s)=>some (.t (.i s.size))
 | .sl _,.nil=>some (.t (.i 0))
 | .sl _,.own o=>match look st.hp o with | some (.arr _ _ n _)=>some (.t (.i n)) | some (.arm _ _ n _ _)=>some (.t (.i n)) | _=>none
 | .sl _,.t x=>match x.view with | some (n,_)=>some (.t (.i n)) | none=>none
 | _,_=>none
def aZZ:PV->PV->Option PV
 | .t (.int k a),.t (.int _ b)=>some (.t (.int k (if b>a then b else a)))
 | _,_=>none
def aZP:PV->PV->Option PV
 | .t (.int k a),.t (.int _ b)=>some (.t (.int k (if b<a then b else a)))
 | _,_=>none
def Vz(ti:Nat->Option dO)(fs:List (Nat×Nat))(f:Nat):Option Nat:=
 match fs[f]? with
 | some (off,t)=>match ti t with
  | some i=>match Nat.beq i.size 0 with | true=>none | false=>some off
  | none=>none
 | none=>none
def Fx(st:St)(s:Nat)(x:PV)(i:Int):Option (PV×Prop):=
 match x with
 | .t x=>match x.view with
  | some (n,f)=>match Nat.beq (f i.toNat).length s with
   | true=>some (.eptr (f i.toNat),0<=i/\i<(n:Int))
   | false=>none
  | none=>none
 | .own o=>match look st.hp o with
  | some (.arr _ s' n _)=>match Nat.beq s' s with
   | true=>some (.aptr o s i.toNat 0,0<=i/\i<(n:Int))
   | false=>none
  | some (.arm _ s' n _ _)=>match Nat.beq s' s with
   | true=>some (.aptr o s i.toNat 0,0<=i/\i<(n:Int))
   | false=>none
  | _=>none
 | _=>none
def fE(st:St)(d:Int):Option Operand->Option Int
 | none=>some d
 | some x=>match ev st x with | some (.t (.int _ n))=>some n | _=>none
def aYV(ov:Option (Nat×Nat×PV))(j:Nat):Option (Nat×PV):=
 match ov with
 | some (i,j',p)=>match Nat.beq j' j with | true=>some (i,p) | false=>none
 | none=>none
def sK(ov:Option (Nat×Nat×PV))(k:Nat):Nat->List Cel->Option (List PV×Prop)
 | _,[]=>some ([],True)
 | j,c::l=>match sK ov k (j+1) l with
  | some (r,C)=>match aYV ov j with
   | some (i,p)=>some (p::r,k=i/\C)
   | none=>match c with
    | .d x=>some (.t x::r,C)
    | .nl=>some (.nil::r,C)
    | _=>none
  | none=>none
def Bs(st:St)(i:dO)(x:PV):Option (PV×Prop):=
 match x with
 | .ptr o off=>match look st.hp o with
  | some (.box l)=>match jA i (l.drop off) with | some p=>some (p,True) | none=>none
  | _=>none
 | .eptr l=>match jA i (l.map PV.t) with | some p=>some (p,True) | none=>none
 | .aptr o s k off=>match look st.hp o with
  | some (.arr _ s' n f)=>match Nat.beq s' s with
   | true=>match jA i (((f k).drop off).map PV.t) with | some p=>some (p,k<n) | none=>none
   | false=>none
  | some (.arm _ s' n f ov)=>match Nat.beq s' s,sK ov k off (((f k).drop off).take i.size) with
   | true,some (l,C)=>match jA i l with | some p=>some (p,k<n/\C) | none=>none
   | _,_=>none
  | _=>none
 | _=>none
def nU(places:Nat->Option (Nat×Nat))(cells:List PV):List (Nat×PV)->Option (List PV)
 | []=>some cells
 | (i,x)::rest=>match places i with
  | none=>none
  | some (off,size)=>match Nat.beq x.cells.length size,Nat.ble (off+size) cells.length,(x.cells.all PV.one) with
   | true,true,true=>nU places (cells.take off++x.cells++cells.drop (off+size)) rest
   | _,_,_=>none
def gM(st:St):List (Nat×Operand)->Option (List (Nat×PV))
 | []=>some []
 | (i,x)::l=>match ev st x,gM st l with
  | some p,some r=>some ((i,p)::r)
  | _,_=>none
def yJ(ti:Nat->Option dO):List (Nat×Nat)->Option (List (Nat×Nat))
 | []=>some []
 | (off,t)::l=>match ti t,yJ ti l with
  | some i,some r=>some ((off,i.size)::r)
  | _,_=>none
def Wi(I:Inf)(st:St)(t:Nat)(parts:List (Nat×Operand)):Option PV:=
 match I.ti t,gM st parts with
 | some i,some ps=>match i.und with
  | .st fs=>match yJ I.ti fs with
   | some pl=>match nU (pl[·]?) i.zero ps with | some c=>some (Rb c) | none=>none
   | none=>none
  | .arr _ e=>match I.ti e with
   | some ie=>match nU (fun i=>some (i*ie.size,ie.size)) i.zero ps with | some c=>some (Rb c) | none=>none
   | none=>none
  | _=>none
 | _,_=>none
def iZ(st:St):List Operand->Option (List PV)
 | []=>some []
 | x::l=>match ev st x,iZ st l with
  | some p,some r=>some (p::r)
  | _,_=>none
def tr(x:Option PV):Option (PV×Prop):=match x with | some p=>some (p,True) | none=>none
def aUO:List T->Int | [.int .u8 k]=>k | _=>0
def aOD:List T->Bool | [.int .u8 _]=>true | _=>false
def bFX(n:Nat)(f:Nat->List T):ByteArray:=((List.range n).map fun i=>aUO (f i)).foldl (fun r n=>r.push (UInt8.ofNat n.toNat)) ByteArray.empty
def Gn(st:St):PV->Option (Nat×(Nat->List T))
 | .own o=>match look st.hp o with | some (.arr _ _ n f)=>some (n,f) | _=>none
 | .t x=>x.view
 | .nil=>some (0,fun _=>[])
 | _=>none
def aJS(I:Inf)(st:St)(c:Call):Option (PV×Prop):=
 match c.callee,c.args.toList,c.argTypes.toList with
 | .builtin .len,[x],[t]=>match I.ti t,ev st x with
  | some i,some p=>tr (aZM st i.und p)
  | _,_=>none
 | .builtin .cap,[x],[t]=>match I.ti t,ev st x with
  | some i,some .nil=>match i.und with | .sl _=>some (.t (.i 0),True) | _=>none
  | _,_=>none
 | .builtin .max,[x,y],_=>match ev st x,ev st y with
  | some p,some q=>tr (aZZ p q)
  | _,_=>none
 | .builtin .min,[x,y],_=>match ev st x,ev st y with
  | some p,some q=>tr (aZP p q)
  | _,_=>none
 | _,_,_=>none
def Cz(di:Nat):Hp->Option (PV×Prop)
 | []=>none
 | (_,.mp (some i) _ ho)::l=>match Nat.beq i.o di with
  | true=>match i.cur,ho with
   | some k',some (k,some p)=>some (.tup [.t k',p],k'=k)
   | _,_=>none
  | false=>Cz di l
 | _::l=>Cz di l
def aPG(I:Inf)(st:St)(u:U)(op:BinOp)(o o':Nat):Option (PV×Prop):=
 match u with
 | .ptr e=>match I.ti e with
  | some j=>match Nat.beq j.size 0,Nat.beq o o' with
   | false,true=>match op with | .eql=>some (.t (.bool true),True) | .neq=>some (.t (.bool false),True) | _=>none
   | false,false=>match look st.hp o,look st.hp o' with
    | some (.box _),some (.box _)=>match op with | .eql=>some (.t (.bool false),True) | .neq=>some (.t (.bool true),True) | _=>none
    | _,_=>none
   | _,_=>none
  | none=>none
 | _=>none
def pev(I:Inf)(st:St):Op->Option (PV×Prop)
 | .move x | .assign x=>tr (ev st x)
 | .pick c a b=>match ev st c with
  | some (.t (.bool true))=>tr (ev st a)
  | some (.t (.bool false))=>tr (ev st b)
  | _=>none
 | .load t a=>match I.ti t,ev st a with
  | some i,some x=>Bs st i x
  | _,_=>none
 | .nilCheck x=>match ev st x with
  | some (.ptr o off)=>some (.ptr o off,True)
  | some (.eptr l)=>some (.eptr l,True)
  | some (.aptr o s i off)=>some (.aptr o s i off,True)
  | _=>none
 | .binOp op t x y _=>match I.ti t,ev st x,ev st y with
  | some i,some (.lit .nilIface),some (.lit .nilIface)=>bBH i.und op y
  | some i,some .ifx,some (.lit .nilIface)=>bAJ i.und op
  | some i,some (.ptr o 0),some (.ptr o' 0)=>aPG I st i.und op o o'
  | some i,some p,some q=>aPC i op p q
  | _,_,_=>none
 | .unOp op _ x=>match ev st x with | some p=>unP op p | none=>none
 | .convert s d x=>match I.ti s,I.ti d,ev st x with
  | some _,some j,some (.t (.int _ n))=>match j.und with
   | .int k=>some (.t (.int k (k.wrap n)),True)
   | _=>none
  | some i,some j,some p=>match i.und,j.und,Gn st p with
   | .sl e,.str,some (n,f)=>match I.ti e with
    | some k=>match k.und with
     | .int .u8=>some (.t (.str (bFX n f)),∀ i,i<n->aOD (f i)=true)
     | _=>none
    | none=>none
   | _,_,_=>none
  | _,_,_=>none
 | .makeFunc fn fs cs=>match iZ st (fs.toList++cs.toList) with | some l=>some (.fn fn fs.toList.length l,True) | _=>none
 | .fieldAddr s x f=>match I.ti s,ev st x with
  | some i,some p=>match i.und with
   | .st fs=>match Vz I.ti fs f,p with
    | some off,.ptr o k=>some (.ptr o (k+off),True)
    | some off,.eptr l=>some (.eptr (l.drop off),True)
    | some off,.aptr o s i k=>some (.aptr o s i (k+off),True)
    | _,_=>none
   | _=>none
  | _,_=>none
 | .field t x f=>match I.ti t,ev st x with
  | some i,some p=>match i.und with
   | .st fs=>match fs[f]? with
    | some (off,u)=>match I.ti u with
     | some j=>match p with
      | .t (.agg l)=>tr (jA j ((l.drop off).map PV.t))
      | .agg l=>tr (jA j (l.drop off))
      | _=>none
     | none=>none
    | none=>none
   | _=>none
  | _,_=>none
 | .indexAddr t x ix=>match I.ti t,ev st x,ev st ix with
  | some i,some p,some (.t (.int _ k))=>match i.und with
   | .sl e=>match I.ti e with | some j=>Fx st j.size p k | none=>none
   | .arr n e=>match I.ti e,p with | some j,.ptr o off=>some (.ptr o (off+k.toNat*j.size),0<=k/\k<(n:Int)) | _,_=>none
   | _=>none
  | _,_,_=>none
 | .index t x ix=>match I.ti t,ev st x,ev st ix with
  | some i,some (.t (.str s)),some (.t (.int _ k))=>match i.und with
   | .str=>some (.t (.int .u8 ((s[k.toNat]?.getD 0).toNat:Int)),0<=k/\k<(s.size:Int))
   | _=>none
  | some i,some (.t (.agg l)),some (.t (.int _ k))=>match i.und with
   | .arr n e=>match I.ti e with
    | some j=>match jA j ((l.drop (k.toNat*j.size)).map PV.t) with
     | some q=>some (q,0<=k/\k<(n:Int))
     | none=>none
    | none=>none
   | _=>none
  | some i,some (.agg l),some (.t (.int _ k))=>match i.und with
   | .arr n e=>match I.ti e with
    | some j=>match jA j (l.drop (k.toNat*j.size)) with
     | some q=>some (q,0<=k/\k<(n:Int))
     | none=>none
    | none=>none
   | _=>none
  | _,_,_=>none
 | .extract x i=>match ev st x with | some (.tup l)=>tr l[i]? | _=>none
 | .build t parts=>tr (Wi I st t parts.toList)
 | .slice t x lo hi mx=>match mx,I.ti t,ev st x with
  | none,some i,some (.t (.str s))=>match i.und,fE st 0 lo,fE st s.size hi with
   | .str,some l,some h=>some (.t (.str (s.extract l.toNat h.toNat)),0<=l/\l<=h/\h<=(s.size:Int))
   | _,_,_=>none
  | none,some i,some (.t x)=>match i.und,x.view with
   | .sl e,some (n,f)=>match I.ti e,fE st 0 lo,fE st n hi with
    | some j,some l,some h=>match Nat.beq (f 0).length j.size with
     | true=>some (.t (.sl (h-l).toNat (fun k=>f (l.toNat+k))),0<=l/\l<=h/\h<=(n:Int))
     | false=>none
    | _,_,_=>none
   | _,_=>none
  | none,some i,some .nil=>match i.und,fE st 0 lo,fE st 0 hi with
   | .sl e,some l,some h=>match I.ti e with
    | some _=>some (.nil,0<=l/\l<=h/\h<=0)
    | none=>none
   | _,_,_=>none
  | _,_,_=>none
 | .lookup t x k true=>match ev st x,ev st k with
  | some p,some q=>match aMK I st t p q with
   | some (_,m,_,ks)=>some (.tup [.t (.bool (aNN m ks)),.t (.bool (aPS m ks))],True)
   | none=>none
  | _,_=>none
 | .call c=>aJS I st c
 | .entry x=>match ev st x with
  | some (.ptr di 0)=>Cz di st.hp
  | _=>none
 | _=>none
section
variable {P:Program} {E:Env} {F:Nat->Prop} {g:Nat->Value} {st:St} {a:Act} {w:World}
theorem Rd.inv_int{k:IntKind}{n:Int}(h:Rd F w (.int k n) v):v = .int k n:=by
 cases h with
 | int=>rfl
 | nil h=>simp[T.view]at h
 | sl _ _ _ _ h=>simp[T.view]at h
theorem Rd.inv_bool{n:Bool}(h:Rd F w (.bool n) v):v = .bool n:=by
 cases h with
 | bool=>rfl
 | nil h=>simp[T.view]at h
 | sl _ _ _ _ h=>simp[T.view]at h
theorem Rd.inv_str{n:ByteArray}(h:Rd F w (.str n) v):v = .string n:=by
 cases h with
 | str=>rfl
 | nil h=>simp[T.view]at h
 | sl _ _ _ _ h=>simp[T.view]at h
theorem VR.inv_int{k:IntKind}{n:Int}{v:Value}(h:VR F g w (.t (.int k n)) v):v = .int k n:=(h.cells_t rfl).inv_int
theorem VR.inv_bool{n:Bool}{v:Value}(h:VR F g w (.t (.bool n)) v):v = .bool n:=(h.cells_t rfl).inv_bool
theorem VR.inv_str{n:ByteArray}{v:Value}(h:VR F g w (.t (.str n)) v):v = .string n:=(h.cells_t rfl).inv_str
theorem Is(D:P.underlying t=some .bool)(x y:Bool):(Op.equal t (.bool x) (.bool y)).run P w = .ok (x==y) w:=by
 have:∀ d,(Op.equalIn (d+1) t (.bool x) (.bool y)).run P w = .ok (x==y) w:=by intro d; unfold Op.equalIn; simp[run_underlying D]
 exact this 9999
theorem jS{x:Option PV}{p:PV}(h:tr x=some (p,C)):x=some p:=by
 unfold tr at h; split at h <;> cases h
 rfl
theorem aIF{k:IntKind}{x y:Int}{p:PV}(h:Yx op k x y=some (p,C))(D:C)(F:Nat->Prop)(g:Nat->Value)(t:TypeId):
  ∃ v,(binOp op t (.int k x) (.int k y)).run P w = .ok v w/\VR F g w p v:=by
 unfold Yx at h;split at h <;> cases h
 case h_4=>exact⟨_,by simp only[binOp,Op.intDiv,ne_eq,not_true_eq_false,eH]; simp_all,.t (.int _ _)⟩
 case h_5=>exact⟨_,by simp only[binOp,Op.intDiv,ne_eq,not_true_eq_false,eH]; simp_all,.t (.int _ _)⟩
 case h_1=>exact⟨_,by simp[binOp,Op.intArith],.t (.int _ _)⟩
 case h_2=>exact⟨_,by simp[binOp,Op.intArith],.t (.int _ _)⟩
 case h_3=>exact⟨_,by simp[binOp,Op.intArith],.t (.int _ _)⟩
 case h_12=>exact⟨_,by simp[binOp,Op.intBits,yC],.t (.int _ _)⟩
 case h_13=>exact⟨_,by simp[binOp,Op.intBits,Pg],.t (.int _ _)⟩
 case h_14=>exact⟨_,by simp[binOp,Op.intBits,bFK],.t (.int _ _)⟩
 case h_15=>exact⟨_,by simp[binOp,Op.intBits,bFF],.t (.int _ _)⟩
 all_goals exact⟨_,by simp[binOp,Op.intCmp],.t (.bool _)⟩
theorem aLG{x y:ByteArray}{p:PV}(h:Ye op x y=some (p,C))(D:C)(F:Nat->Prop)(g:Nat->Value)(t:TypeId):
  ∃ v,(binOp op t (.string x) (.string y)).run P w = .ok v w/\VR F g w p v:=by
 unfold Ye at h;split at h <;> cases h
 ·refine⟨.string (x++y),?_,.t (.str _)⟩;have hm:IntKind.i64.max=9223372036854775807:=by decide
  have:¬ ((x.size+y.size:Nat):Int)>IntKind.i64.max:=by omega
  simp only[binOp,Op.stringOp];simp_all
 all_goals
  exact⟨_,by rfl,.t (.bool _)⟩
theorem aCH{x y:Bool}{p:PV}(h:Mi op x y=some (p,C))(F:Nat->Prop)(g:Nat->Value)(t:TypeId)(D:P.underlying t=some .bool):
  ∃ v,(binOp op t (.bool x) (.bool y)).run P w = .ok v w/\VR F g w p v:=by
 unfold Mi at h;split at h <;> cases h
 all_goals
  exact⟨_,by simp[binOp,Is D],.t (.bool _)⟩
theorem Ku:∀ {l:List T} {xs:List Int},qZ l=some xs->l.length=xs.length/\∀ (j:Nat) x,l[j]? = some x->∃ k,xs[j]? = some k/\x=T.int .i64 k
 | [],xs,h=>by simp[qZ]at h; subst h; simp
 | .int .i64 x::l,xs,h=>by
  simp only[qZ]at h;split at h
  ·rename_i r hr;cases h;obtain⟨h1,h2⟩:=Ku hr;grind
  ·cases h
 | .int .i8 _::_,_,h | .int .i16 _::_,_,h | .int .i32 _::_,_,h | .int .u8 _::_,_,h | .int .u16 _::_,_,h | .int .u32 _::_,_,h | .int .u64 _::_,_,h
 | .bool _::_,_,h | .str _::_,_,h | .sl _ _::_,_,h | .agg _::_,_,h | .lz _::_,_,h | .fv _::_,_,h=>by simp[qZ]at h
theorem Gv{l:List T}{F:Nat->Prop}{w:World}(h:∀ x,x∈l->∀ u,Rd F w x u->u=zE x)(hv:Rd F w (.agg l) v):v = .agg (l.map zE).toArray:=by
 cases hv with
 | nil h=>simp[T.view]at h
 | sl _ _ _ _ h=>simp[T.view]at h
 | @agg _ vs hs hr=>
  congr 1
  apply Array.ext
  ·simp[hs]
  ·intro j D G;have hl:j<l.length:=by omega
   have:=hr j _ vs[j] (iE hl) (by simp[D]);grind
theorem sY:∀ {l r:List T} {b:Bool},gF l r=some b->(∀ x,(x∈l\/x∈r)->∀ (F:Nat->Prop) (w:World) (u:Value),Rd F w x u->u=zE x)/\l.length=r.length
 | [],[],_,_=>⟨fun x hx=>by simp at hx,rfl⟩
 | .int k a::l,.int k' b::r,c,h=>by
  simp only[gF]at h;split at h
  ·split at h
   ·rename_i hc;obtain⟨h1,h2⟩:=sY hc;refine⟨fun x hx F w u hu=>?_,by simp[h2]⟩;simp only[bE]at hx;rcases hx with (rfl | hx) | (rfl | hx)
    ·cases hu <;> first | rfl | (rename_i hh; simp[T.view]at hh)
    ·grind
    ·cases hu <;> first | rfl | (rename_i hh; simp[T.view]at hh)
    grind
   ·cases h
  ·cases h
 | .str a::l,.str b::r,c,h=>by
  simp only[gF]at h;split at h
  ·rename_i hc;obtain⟨h1,h2⟩:=sY hc;refine⟨fun x hx F w u hu=>?_,by simp[h2]⟩;simp only[bE]at hx;rcases hx with (rfl | hx) | (rfl | hx)
   ·cases hu <;> first | rfl | (rename_i hh; simp[T.view]at hh)
   ·grind
   ·cases hu <;> first | rfl | (rename_i hh; simp[T.view]at hh)
   grind
  ·cases h
 | .bool a::l,.bool b::r,c,h=>by
  simp only[gF]at h;split at h
  ·rename_i hc;obtain⟨h1,h2⟩:=sY hc;refine⟨fun x hx F w u hu=>?_,by simp[h2]⟩;simp only[bE]at hx;rcases hx with (rfl | hx) | (rfl | hx)
   ·cases hu <;> first | rfl | (rename_i hh; simp[T.view]at hh)
   ·grind
   ·cases hu <;> first | rfl | (rename_i hh; simp[T.view]at hh)
   grind
  ·cases h
theorem aLM{l r:List T}{b:Bool}(h:gF l r=some b){F:Nat->Prop}{w:World}:(∀ {v},Rd F w (.agg l) v->v = .agg (l.map zE).toArray)/\(∀ {v},Rd F w (.agg r) v->v = .agg (r.map zE).toArray):=
 ⟨fun hv=>Gv (fun x hx u D=>(sY h).1 x (.inl hx) F w u D) hv,fun hv=>Gv (fun x hx u D=>(sY h).1 x (.inr hx) F w u D) hv⟩
theorem wC{l:List T}{xs:List Int}(h:qZ l=some xs)(hv:Rd F w (.agg l) v):v = .agg (xs.map (Value.int .i64)).toArray:=by
 obtain⟨h1,h2⟩:=Ku h;cases hv with
 | nil h=>simp[T.view]at h
 | sl _ _ _ _ h=>simp[T.view]at h
 | @agg _ vs hs hr=>
  congr 1
  apply Array.ext
  ·simp[hs,h1]
  ·intro j D G;have hl:j<l.length:=by omega
   obtain⟨k,h3,h4⟩:=h2 j l[j] (by simp[hl]);have:=hr j _ vs[j] (iE hl) (by simp[D]);rw[h4]at this;rw[this.inv_int];grind
theorem aTX{i:dO}(hi:TOk P t i){p q x:PV}(h:aPC i op p q=some (x,C))(hC:C)(Q:VR F g w p u)(hv:VR F g w q v)
  (M J:Operand):∃ z,(do eqGuard op t M J u v; binOp op t u v:Sem Value).run P w = .ok z w/\VR F g w x z:=by
 unfold aPC at h;have hnil:∀ {q:Option Addr} {b:Bool},Kv op i.und b=some (x,C)->q.isNone=b->∃ z,(do eqGuard op t M J (.pointer q) (.pointer none); binOp op t (.pointer q) (.pointer none):Sem Value).run P w = .ok z w/\VR F g w x z:=by
  intro q b hn hq;unfold Kv at hn;have hg:∀ o:BinOp,(eqGuard o t M J (.pointer q) (.pointer none)).run P w = .ok () w:=fun o=>by unfold eqGuard; cases o <;> simp
  split at hn
  ·rename_i e Z;have G:=hi.und; rw[Z]at G;cases hn;refine⟨.bool b,?_,.t (.bool _)⟩;have ht':P.underlying t=some (.pointer (P.pointee t)):=by unfold Program.pointee; rw[G]
   have he:(Op.equal t (.pointer q) (.pointer none)).run P w = .ok b w:=by rw[<-hq]; exact run_equal_pointer_nil w t q ht'
   simp[hg,binOp,he]
  ·rename_i e Z;have G:=hi.und; rw[Z]at G;cases hn;refine⟨.bool (!b),?_,.t (.bool _)⟩;have ht':P.underlying t=some (.pointer (P.pointee t)):=by unfold Program.pointee; rw[G]
   have he:(Op.equal t (.pointer q) (.pointer none)).run P w = .ok b w:=by rw[<-hq]; exact run_equal_pointer_nil w t q ht'
   simp[hg,binOp,he]
  ·cases hn
 split at h
 ·rename_i k a k' b;obtain rfl:=Q.inv_int; obtain rfl:=hv.inv_int;split at h
  ·rename_i hsh;unfold bFT at h;have hgd:(eqGuard op t M J (.int k a) (.int k' b)).run P w = .ok () w:=by unfold eqGuard; cases op <;> simp
   split at h
   ·cases h;refine⟨_,?_,.t (.int _ _)⟩;have hb:¬ b<0:=by omega
    simp only[Sem.run_bind,hgd,Result.andThen_ok,binOp,Op.shift,aF hb,zW,Sem.run_pure]
   ·cases h;refine⟨_,?_,.t (.int _ _)⟩;have hb:¬ b<0:=by omega
    simp only[Sem.run_bind,hgd,Result.andThen_ok,binOp,Op.shift,aF hb,bV,Sem.run_pure]
   ·cases h
  have hk:k=k':=by simp_all
  subst hk;rw[aA rfl]at h;obtain⟨z,hz,hr⟩:=aIF (P:=P) (w:=w) h hC F g t;refine⟨z,?_,hr⟩;have:(eqGuard op t M J (.int k a) (.int k b)).run P w = .ok () w:=by unfold eqGuard; cases op <;> simp
  simp_all
 ·cases Q with
  | ptr hg=>cases hv with | np=>simp_all
 ·cases Q with
  | np=>cases hv with | np=>simp_all
 ·obtain rfl:=Q.inv_str; obtain rfl:=hv.inv_str;rename_i a b;obtain⟨z,hz,hr⟩:=aLG (P:=P) (w:=w) h hC F g t;refine⟨z,?_,hr⟩;have:(eqGuard op t M J (.string a) (.string b)).run P w = .ok () w:=by unfold eqGuard; cases op <;> simp
  simp_all
 ·rename_i l r;unfold aLO at h;split at h
  ·rename_i hflat;split at h
   ·rename_i b hb hl;have hl:=bS hl;obtain⟨hg,he⟩:=hi.eqf (by grind);obtain⟨f1,f2⟩:=aLM hb;have e1:=f1 (Q.cells_t rfl);have e2:=f2 (hv.cells_t rfl);subst e1 e2;have D:=he _ _ b w hb hl;split at h
    ·cases h;exact⟨.bool b,by simp[run_eqGuard_agg w _ _ _ _ _ _ hg,run_eql_struct,D],.t (.bool _)⟩
    ·cases h;exact⟨.bool (!b),by simp[run_eqGuard_agg w _ _ _ _ _ _ hg,run_neq_struct,D],.t (.bool _)⟩
    ·cases h
   ·cases h
  ·rename_i hflat;split at h
   ·rename_i xs ys hxs hys;split at h
    ·rename_i hl1 hl2 hn;have hl1:=bS hl1;have hl2:=bS hl2;have hn:=fI hn;obtain⟨hg,he⟩:=hi.eqv (by omega);have e1:=wC hxs (Q.cells_t rfl);have e2:=wC hys (hv.cells_t rfl);subst e1 e2;have D:=he xs ys w hl1 hl2;split at h
     ·cases h;exact⟨.bool (xs==ys),by simp[run_eqGuard_agg w _ _ _ _ _ _ hg,run_eql_struct,D],.t (.bool _)⟩
     ·cases h;exact⟨.bool (!(xs==ys)),by simp[run_eqGuard_agg w _ _ _ _ _ _ hg,run_neq_struct,D],.t (.bool _)⟩
     ·cases h
    ·cases h
   ·cases h
 ·obtain rfl:=Q.inv_bool; obtain rfl:=hv.inv_bool;rename_i a b;split at h
  ·rename_i hb;have G:=hi.und; rw[hb]at G;obtain⟨z,hz,hr⟩:=aCH (P:=P) (w:=w) h F g t G;refine⟨z,?_,hr⟩;have:(eqGuard op t M J (.bool a) (.bool b)).run P w = .ok () w:=by unfold eqGuard; cases op <;> simp
   simp_all
  ·cases h
 ·cases h
theorem bDA{op:UnOp}{p x:PV}(h:unP op p=some (x,C))(D:VR F g w p u):∃ z,(Op.unary op u).run P w = .ok z w/\VR F g w x z:=by
 unfold unP at h;split at h <;> cases h
 ·obtain rfl:=D.inv_bool;exact⟨_,by rfl,.t (.bool _)⟩
 ·obtain rfl:=D.inv_int;exact⟨_,by rfl,.t (.int _ _)⟩
theorem Rd.slice_len{x:T}(h:Rd F w x v){f:Nat->List T}(hx:x.view=some (n,f)):∃ ad cap,v = .slice ad n cap:=by
 cases h with
 | int=>simp[T.view]at hx
 | bool=>simp[T.view]at hx
 | str=>simp[T.view]at hx
 | fv=>simp[T.view]at hx
 | agg=>simp[T.view]at hx
 | nil h=>simp_all
 | sl ad cap size vs h=>simp_all
theorem aNA(r:cG E F g st a w){i:dO}(hi:TOk P t i){p x:PV}(h:aZM st i.und p=some x)(G:VR F g w p u)(ty:TypeId):
  ∃ z,(Builtin.len_ #[t] ty #[u]).run P w = .ok z w/\VR F g w x z:=by
 have D:=hi.und;unfold aZM at h;split at h
 ·rename_i he; rw[he]at D;simp at h; subst h;obtain rfl:=G.inv_str;exact⟨_,by simp[Builtin.len_,run_underlying D,goInt],.t (.int _ _)⟩
 ·rename_i he; rw[he]at D;simp at h; subst h;cases G;exact⟨_,by simp[Builtin.len_,run_underlying D,goInt],.t (.int _ _)⟩
 ·rename_i he; rw[he]at D;split at h
  ·rename_i hl;simp at h; subst h;have ho:=r.w.hp.obj _ _ (aX hl);cases G with
   | own hg=>
    rcases ho with⟨h1,h2⟩ | ⟨b,cap,cur,h1,_⟩
    ·rw[hg]at h1; injection h1 with h1 h3 h4; subst h3; subst h2;exact⟨_,by simp[Builtin.len_,run_underlying D,goInt],.t (.int _ _)⟩
    ·rw[hg]at h1; injection h1 with h1 h3 h4; subst h3;exact⟨_,by simp[Builtin.len_,run_underlying D,goInt],.t (.int _ _)⟩
  ·rename_i hl;simp at h; subst h;have ho:=r.w.hp.obj _ _ (aX hl);cases G with
   | own hg=>
    rcases ho with⟨h1,h2,_⟩ | ⟨b,cap,cur,h1,_⟩
    ·rw[hg]at h1; injection h1 with h1 h3 h4; subst h3; subst h2;exact⟨_,by simp[Builtin.len_,run_underlying D,goInt],.t (.int _ _)⟩
    ·rw[hg]at h1; injection h1 with h1 h3 h4; subst h3;exact⟨_,by simp[Builtin.len_,run_underlying D,goInt],.t (.int _ _)⟩
  ·cases h
 ·rename_i he; rw[he]at D;split at h
  ·rename_i hv;simp at h; subst h;obtain⟨ad,cap,rfl⟩:=(G.cells_t rfl).slice_len hv;exact⟨_,by simp[Builtin.len_,run_underlying D,goInt],.t (.int _ _)⟩
  ·cases h
 ·cases h
theorem aRY{p q x:PV}(h:aZZ p q=some x)(D:VR F g w p u)(hv:VR F g w q v)(ts:Array TypeId)(ty:TypeId):
  ∃ z,(Builtin.max_ ts ty #[u,v]).run P w = .ok z w/\VR F g w x z:=by
 unfold aZZ at h;split at h <;> simp at h
 subst h;obtain rfl:=D.inv_int; obtain rfl:=hv.inv_int;exact⟨_,by rfl,.t (.int _ _)⟩
theorem aVC{p q x:PV}(h:aZP p q=some x)(D:VR F g w p u)(hv:VR F g w q v)(ts:Array TypeId)(ty:TypeId):
  ∃ z,(Builtin.min_ ts ty #[u,v]).run P w = .ok z w/\VR F g w x z:=by
 unfold aZP at h;split at h <;> simp at h
 subst h;obtain rfl:=D.inv_int; obtain rfl:=hv.inv_int;exact⟨_,by rfl,.t (.int _ _)⟩
theorem aUE{ov:Option (Nat×Nat×PV)}{i:Nat}{p:PV}(h:aYV ov j=some (i,p)):ov=some (i,j,p):=by
 unfold aYV at h;split at h
 ·split at h
  all_goals simp_all
 ·cases h
theorem Cg{ov:Option (Nat×Nat×PV)}{k:Nat}:∀ {cs:List Cel} {j:Nat} {l:List PV} {C:Prop},sK ov k j cs=some (l,C)->C ->
  ∀ (q:Nat) x,l[q]? = some x->∃ c,cs[q]? = some c/\((∃ y,c = .d y/\x = .t y)\/(c = .nl/\x = .nil)\/ov=some (k,j+q,x))
 | [],j,l,C,h,_,q,x,hx=>by simp only[sK,gJ,gE]at h;simp_all
 | c::cs,j,l,C,h,hC,q,x,hx=>by
  simp only[sK]at h;split at h
  ·rename_i r C' hr;have tail:C'->∀ (q:Nat) x,r[q]? = some x->∃ c',(c::cs)[q+1]? = some c'/\((∃ y,c' = .d y/\x = .t y)\/(c' = .nl/\x = .nil)\/ov=some (k,j+(q+1),x)):=fun hC' q x hx=>by obtain⟨c',h1,h2⟩:=Cg hr hC' q x hx;grind
   split at h
   ·rename_i i p ho;cases h;cases q with
    | zero=>simp at hx; subst hx; exact⟨_,rfl,.inr (.inr (by rw[hC.1]; exact aUE ho))⟩
    | succ q=>simp_all
   grind
  ·cases h
theorem Sr(r:cG E F g st a w){i:dO}(hi:TOk P t i){p x:PV}(h:Bs st i p=some (x,C))(M:C)(J:VR F g w p u):
  ∃ z,(Instr.loadAt t u).run P w = .ok z w/\VR F g w x z:=by
 cases p with
 | ptr o off=>
  simp only[Bs]at h;split at h
  ·rename_i l hl;have ho:=r.w.hp.obj _ _ (aX hl);obtain⟨b,vs,ty,h1,h2,h3,h4⟩:=ho;split at h
   ·rename_i q D;cases h;cases J with
    | @ptr _ _ Q hg=>
     rw[h1]at hg; injection hg with hg; injection hg with hg; injection hg with hg; subst hg;obtain⟨v,hv,hr⟩:=tT (g:=g) hi D ⟨b,off,none⟩ (fun j x hx=>by
      rw[Gh]at hx;have hlt:off+j<vs.size:=by grind
      refine⟨vs[off+j],?_,h4 _ _ _ hx (by simp[hlt])⟩;rw[Addr.add_none];simp[World.cell?,h2,hlt])
     exact⟨v,by simp[Instr.loadAt,Instr.sureAddr,hv],hr⟩
   ·cases h
  ·cases h
 | eptr l=>
  simp only[Bs]at h;split at h
  ·rename_i q D;cases h;cases J with
   | eptr ad hF hc=>obtain⟨v,hv,hr⟩:=tT (g:=g) hi D ad (fun j x hx=>by simp only[gQ,kC]at hx;obtain⟨y,hy,rfl⟩:=hx;obtain⟨v,h1,h2⟩:=hc j y hy;exact⟨v,h1,.t h2⟩);exact⟨v,by simp[Instr.loadAt,Instr.sureAddr,hv],hr⟩
  ·cases h
 | aptr o s k off=>
  simp only[Bs]at h;split at h
  ·rename_i Z n f hl;have ho:=r.w.hp.obj _ _ (aX hl);split at h
   ·rename_i hs;have hs:=bS hs;split at h
    ·rename_i q D;cases h;cases J with
     | @aptr _ _ _ _ b n' cap hg=>
      rcases ho with⟨h1,h2⟩ | ⟨Q,G,cur,h1,h2,h3,h4,h5,h6,h7⟩
      ·omega
      ·rw[h1]at hg; injection hg with hg hg2 hg3; injection hg with hg; injection hg with hg;subst hg;subst hs;obtain⟨v,hv,hr⟩:=tT (g:=g) hi D ⟨Q,k*Z+off,none⟩ (fun j x hx=>by simp only[gQ,kC,Gh]at hx;obtain⟨y,hy,rfl⟩:=hx;obtain⟨v,h8,h9⟩:=h7 k (off+j) y M hy;refine⟨v,?_,.t h9⟩;rw[Addr.add_none];simp only[World.cell?,h2];grind);exact⟨v,by simp[Instr.loadAt,Instr.sureAddr,hv],hr⟩
    ·cases h
   ·cases h
  ·rename_i Z n f ov hl;have ho:=r.w.hp.obj _ _ (aX hl);split at h
   ·rename_i lv C' hs hcs;have hs:=bS hs;split at h
    ·rename_i q D;cases h;obtain⟨hkn,M⟩:=M;cases J with
     | @aptr _ _ _ _ b n' cap hg=>
      rcases ho with⟨h1,h2,_⟩ | ⟨Q,G,cur,h1,h2,h3,h4,h5,hA⟩
      ·omega
      ·rw[h1]at hg; injection hg with hg hg2 hg3; injection hg with hg; injection hg with hg;subst hg;subst hs;obtain⟨v,hv,hr⟩:=tT (g:=g) (F:=F) (w:=w) hi D ⟨Q,k*Z+off,none⟩ (fun j x hx=>by
        obtain⟨c,h6,h7⟩:=Cg hcs M j x hx;have h8:(f k)[off+j]? = some c:=by grind
        obtain⟨v,hv,hR⟩:=hA.cell k (off+j) c hkn h8;refine⟨v,?_,?_⟩
        ·rw[Addr.add_none];simp only[World.cell?,h2];grind
        ·rcases h7 with⟨y,rfl,rfl⟩ | ⟨rfl,rfl⟩ | rfl
         ·exact .t hR
         ·rw[show v = .slice none 0 0 from hR]; exact .nil
         ·exact(hA.ov _ _ _ rfl).2.2 v hv)
       exact⟨v,by simp[Instr.loadAt,Instr.sureAddr,hv],hr⟩
    ·cases h
   ·cases h
  ·cases h
 | _=>simp[Bs]at h
end
section
variable {P:Program} {E:Env} {F:Nat->Prop} {g:Nat->Value} {st:St} {a:Act} {w:World}
theorem tH{ti:Nat->Option dO}(hI:mP P ti){s:TypeId}{i:dO}(hi:TOk P s i){fs:List (Nat×Nat)}(Z:i.und = .st fs){f:Nat}(hf:Vz ti fs f=some off)(ad:Addr):
  (Instr.fieldAt s (.pointer (some ad)) f).run P w = .ok (.pointer (some (ad.add off))) w:=by
 have Q:=hi.und;rw[Z]at Q;obtain⟨D,h1,h2⟩:=Q;unfold Vz at hf;split at hf
 ·rename_i o t G;split at hf
  ·rename_i j hj;split at hf
   ·cases hf
   ·rename_i M;cases hf;have M:=pB M;rw[<-h2,gQ,kC]at G;obtain⟨fd,hfd,he⟩:=G;cases he;have J:D[f]? = some fd:=by simp_all
    have hs:=run_sizeOf (w:=w) (hI _ _ hj);simp[Instr.fieldAt,run_underlying h1,J,Instr.sureAddr,fieldPlace,hs,M]
  ·cases hf
 ·cases hf
theorem aFG(r:cG E F g st a w){i j:dO}(hi:TOk P t i)(hu:i.und = .sl e)(J:TOk P e j){p x:PV}{n:Int} 
  (h:Fx st j.size p n=some (x,C))(M:C)(hv:VR F g w p u)(k:IntKind):
  ∃ z,(Instr.indexAt t u (.int k n)).run P w = .ok z w/\VR F g w x z:=by
 have G:=hi.und;rw[hu]at G;cases p with
 | t p=>
  simp only[Fx]at h;split at h
  ·rename_i m f hm;split at h
   ·rename_i hl;have hl:=bS hl;cases h;have hr:=hv.cells_t rfl;have hlt:n.toNat<m:=by omega
    obtain⟨ad,cap,rfl⟩:=hr.slice_len hm;cases hr with
    | nil h=>omega
    | sl ad cap size vs h hc hF hs hv' hr'=>
     rw[hm]at h; simp at h; obtain⟨_,rfl⟩:=h;refine⟨.pointer (some (ad.add (n.toNat*j.size))),?_,.eptr _ (fun _=>?_) (fun q y hy=>?_)⟩
     ·simp[Instr.indexAt,asIntOf,run_underlying G,M,run_sizeOf J]
     ·have:(ad.add (n.toNat*j.size)).block=ad.block:=by unfold Addr.add; split <;> rfl
      grind
     ·have Q:size=j.size:=by rw[<-hs _ hlt,hl]
      subst Q;have hq:q<j.size:=by grind
      refine⟨vs n.toNat q,?_,hr' _ _ _ hlt hy⟩;rw[Addr.add_add];simp_all
   ·cases h
  ·cases h
 | own o=>
  simp only[Fx]at h;split at h
  ·rename_i e' Z m f hl;split at h
   ·rename_i hs;have hs:=bS hs;cases h;have ho:=r.w.hp.obj _ _ (aX hl);have hlt:n.toNat<m:=by omega
    cases hv with
    | @own _ n' cap ad hg=>
     rcases ho with⟨h1,h2⟩ | ⟨b,D,cur,h1,h2,h3,h4,h5,h6,h7⟩
     ·omega
     ·rw[h1]at hg; injection hg with hg hg2 hg3;subst hg; subst hg2; subst hg3;refine⟨.pointer (some ⟨b,n.toNat*j.size+0,none⟩),?_,.aptr h1⟩;simp only[Instr.indexAt,asIntOf,Sem.run_bind,Sem.run_pure,Result.andThen_ok,run_underlying G];rw[aA M];simp[run_sizeOf J,Addr.add_none]
   ·cases h
  ·rename_i e' Z m f ov hl;split at h
   ·rename_i hs;have hs:=bS hs;cases h;have ho:=r.w.hp.obj _ _ (aX hl);have hlt:n.toNat<m:=by omega
    cases hv with
    | @own _ n' cap ad hg=>
     rcases ho with⟨h1,h2,_⟩ | ⟨b,D,cur,h1,h2,h3,h4,h5,hA⟩
     ·omega
     ·rw[h1]at hg; injection hg with hg hg2 hg3;subst hg; subst hg2; subst hg3;refine⟨.pointer (some ⟨b,n.toNat*j.size+0,none⟩),?_,.aptr h1⟩;simp only[Instr.indexAt,asIntOf,Sem.run_bind,Sem.run_pure,Result.andThen_ok,run_underlying G];rw[aA M];simp[run_sizeOf J,Addr.add_none]
   ·cases h
  ·cases h
 | _=>simp[Fx]at h
theorem Mf(off:Nat):∀ (xs:List Value) (k:Nat) (cs:Array Value) (j:Nat),
  ((xs.zipIdx k).foldl (fun cs (c,j)=>cs.setIfInBounds (off+j) c) cs).size=cs.size /\
  ((xs.zipIdx k).foldl (fun cs (c,j)=>cs.setIfInBounds (off+j) c) cs)[j]? = if off+k<=j/\j<off+k+xs.length/\j<cs.size then xs[j-(off+k)]? else cs[j]?
 | [],k,cs,j=>by simp; omega
 | x::xs,k,cs,j=>by obtain⟨h1,h2⟩:=Mf off xs (k+1) (cs.setIfInBounds (off+k) x) j;simp only[List.zipIdx_cons,lU];grind
theorem uF{places:Nat->Option (Nat×Nat)}:∀ (ps:List (Nat×PV)) (vs:List (Nat×Value)) (cs:List PV) (cells:Array Value) (out:List PV),
  vs.length=ps.length->(∀ (j:Nat) i x i' v,ps[j]? = some (i,x)->vs[j]? = some (i',v)->i'=i/\VR F g w x v) ->
  cells.size=cs.length->(∀ (j:Nat) x v,cs[j]? = some x->cells[j]? = some v->VR F g w x v)->nU places cs ps=some out ->
  ∃ oc,Instr.fill places cells vs=some oc/\oc.size=out.length/\∀ (j:Nat) x v,out[j]? = some x->oc[j]? = some v->VR F g w x v
 | [],vs,cs,cells,out,hl,_,hs,hc,h=>by simp[nU]at h; subst h;have:vs=[]:=zO hl;subst this;exact⟨cells,rfl,hs,hc⟩
 | (i,x)::ps,[],cs,cells,out,hl,_,_,_,_=>by simp at hl
 | (i,x)::ps,(i',v)::vs,cs,cells,out,hl,hp,hs,hc,h=>by
  obtain⟨hi,hx⟩:=hp 0 i x i' v (by simp) (by simp);subst hi;simp only[nU]at h;split at h
  ·cases h
  ·rename_i off size hpl;split at h
   ·rename_i h1 h2 h3;have h1:=bS h1;have h2:=fI h2;obtain⟨hcs,hcr⟩:=hx.cells;have hset:=Mf off v.cells.toList 0 cells;have key:=uF ps vs _ (v.cells.zipIdx.foldl (fun cs (c,j)=>cs.setIfInBounds (off+j) c) cells) out (by simpa using hl)
     (fun j i x i' v hj hj'=>hp (j+1) i x i' v (by simpa using hj) (by grind)) (by
      rw[<-Array.foldl_toList];simp only[Array.toList_zipIdx];rw[(hset 0).1];grind) (fun j y u hy hu=>by
      rw[<-Array.foldl_toList]at hu;simp only[Array.toList_zipIdx]at hu;rw[(hset j).2]at hu;have hjlen:j<cs.length:=by grind
      simp only[yV,rD]at hu;by_cases hin:off<=j/\j<off+x.cells.length
      ·grind
      ·rw[aF]at hu;refine hc j y u ?_ hu;grind) h
    obtain⟨oc,ho1,ho2⟩:=key;refine⟨oc,?_,ho2⟩;simp only[Instr.fill,hpl];grind
   ·cases h
theorem mO(r:cG E F g st a w):∀ (l:List (Nat×Operand)) (ps:List (Nat×PV)),gM st l=some ps ->
  ps.length=l.length/\∀ (j:Nat) i x i' v,ps[j]? = some (i,x)->(l.map fun (i,x)=>(i,a.eval x))[j]? = some (i',v)->i'=i/\VR F g w x v
 | [],ps,h=>by simp[gM]at h; subst h; simp
 | (i,x)::l,ps,h=>by
  simp only[gM]at h;split at h
  ·rename_i p q hp hq;cases h;obtain⟨h1,h2⟩:=mO r l q hq;refine⟨by simp[h1],fun j i' y i'' v hj hj'=>?_⟩;cases j with
   | zero=>simp at hj hj'; obtain⟨rfl,rfl⟩:=hj; obtain⟨rfl,rfl⟩:=hj'; exact⟨rfl,bT r hp⟩
   | succ j=>grind
  ·cases h
theorem uW(r:cG E F g st a w):∀ (l:List Operand) (ps:List PV),iZ st l=some ps ->
  ps.length=l.length/\∀ (j:Nat) x v,ps[j]? = some x->(l.map a.eval)[j]? = some v->VR F g w x v
 | [],ps,h=>by simp[iZ]at h; subst h; simp
 | x::l,ps,h=>by
  simp only[iZ]at h;split at h
  ·rename_i p q hp hq;cases h;obtain⟨h1,h2⟩:=uW r l q hq;refine⟨by simp[h1],fun j y v hj hj'=>?_⟩;cases j with
   | zero=>simp at hj hj'; subst hj; subst hj'; exact bT r hp
   | succ j=>grind
  ·cases h
theorem Gp{ti:Nat->Option dO}(hI:mP P ti):∀ (fs:List Field) (pl:List (Nat×Nat)),yJ ti (fs.map fun f=>(f.offset,f.type))=some pl ->
  fs.mapM (fun f=>(P.info? f.type).map fun i=>(f.offset,i.size))=some pl
 | [],pl,h=>by simp[yJ]at h; subst h; rfl
 | f::fs,pl,h=>by
  simp only[fY,yJ]at h;split at h
  ·rename_i i q hi hq;cases h;obtain⟨info,h1,h2,_⟩:=(hI _ _ hi).info;simp[List.mapM_cons,h1,h2,Gp hI fs q hq]
  ·cases h
theorem oC{i:dO}(hi:TOk P t i):∃ info z,P.info? t=some info/\info.zero=some z/\z.cells.size=i.zero.length /\
  ∀ (j:Nat) x v,i.zero[j]? = some x->z.cells[j]? = some v->VR F g w x v:=by
 obtain⟨info,h1,_,_,z,h4,G⟩:=hi.info;refine⟨info,z,h1,h4,by simpa using congrArg List.length G,fun j x v hx hv=>?_⟩;have:=congrArg (·[j]?) G;have D:z.cells.toList[j]? = some v:=by simp_all
 simp only[gQ,hx,D,tM]at this;exact qC (by simp_all) F g w
theorem aEH{I:Inf}(Q:mP P I.ti)(r:cG E F g st a w){x:PV}(h:Wi I st t parts.toList=some x):
  ∃ z,(Instr.build t (parts.map fun (i,x)=>(i,a.eval x))).run P w = .ok z w/\VR F g w x z:=by
 unfold Wi at h;split at h
 ·rename_i i ps hi hps;obtain⟨hl,hp⟩:=mO r _ _ hps;obtain⟨info,z,h1,h2,h3,h4⟩:=oC (F:=F) (g:=g) (w:=w) (Q _ _ hi);have M:=(Q _ _ hi).und;split at h
  ·rename_i fs Z;rw[Z]at M;obtain⟨D,hf1,hf2⟩:=M;split at h
   ·rename_i pl hpl;split at h
    ·rename_i c hc;cases h;obtain⟨oc,ho1,J,G⟩:=uF (F:=F) (g:=g) (w:=w) ps (parts.toList.map fun (i,x)=>(i,a.eval x)) i.zero z.cells c (by simp[hl]) hp h3 h4 hc;refine⟨.agg oc,run_build w t _ oc ?_,sQ J G⟩;unfold Program.built;rw[h1,hf1];simp only[h2];rw[Gp Q D.toList pl (by simp_all)];simp_all
    ·cases h
   ·cases h
  ·rename_i n e Z;rw[Z]at M;split at h
   ·rename_i ie hie;split at h
    ·rename_i c hc;cases h;obtain⟨oc,ho1,J,G⟩:=uF (F:=F) (g:=g) (w:=w) ps (parts.toList.map fun (i,x)=>(i,a.eval x)) i.zero z.cells c (by simp[hl]) hp h3 h4 hc;obtain⟨info',h1',h2',_⟩:=(Q _ _ hie).info;refine⟨.agg oc,run_build w t _ oc ?_,sQ J G⟩;unfold Program.built;simp only[UR]at M;simp_all
    ·cases h
   ·cases h
  ·cases h
 ·cases h
end
section
variable {P:Program} {E:Env} {F:Nat->Prop} {g:Nat->Value} {st:St} {a:Act} {w:World}
def aJO(n:Nat)(m:List (List Int×Bool))(es:List MapEntry):Prop:=es.length=m.length/\(∀ x,x∈m->x.1.length=n)/\∀ (j:Nat) e x,es[j]? = some e->m[j]? = some x->e.key=vJ x.1/\e.val = .bool x.2
theorem vQ{kt:TypeId}{n:Nat}(hn:n≠0)(hE:aWA P kt n){ks:List Int}(hk:ks.length=n):∀ (m:List (List Int×Bool)) (es:List MapEntry) (i:Nat),aJO n m es ->
  (Instr.findAsking kt (vJ ks) es i).run P w = .ok ((rF m ks i).map fun x=>(x.1,.bool x.2)) w
 | [],es,i,h=>by have:es=[]:=zO (by simpa using h.1);subst this;rfl
 | x::m,es,i,h=>by
  cases es with
  | nil=>have:=h.1; simp at this
  | cons e es=>
   obtain⟨h1,h2⟩:=h.2.2 0 e x (by simp) (by simp);have hl:=h.2.1 x (by simp);have heq:(Op.equal kt (vJ ks) e.key).run P w = .ok (ks==x.1) w:=by rw[h1]; exact(hE hn).2 ks x.1 w hk hl
   have ih:=vQ hn hE hk m es (i+1) ⟨by have:=h.1; simp_all,fun y hy=>h.2.1 y (cO _ hy),fun j e' y he hy=>h.2.2 (j+1) e' y (by simp_all) (by simp_all)⟩;simp only[Instr.findAsking,Sem.run_bind,heq,Result.andThen_ok,rF];cases hb:ks==x.1
   all_goals simp_all
theorem Xy{I:Inf}(M:mP P I.ti)(r:cG E F g st a w){t:Nat}{p q:PV}{m:List (List Int×Bool)}{ks:List Int}(h:aMK I st t p q=some (n,m,o,ks)) 
  (hu:VR F g w p u)(hv:VR F g w q v):∃ kt et b es clock info,P.underlying t=some (.map kt et)/\u = .map (some b)/\v=vJ ks/\g o = .map (some b)/\(o,.mpb n m)∈st.hp /\
   w.heap[b]? = some (.map es clock)/\aJO n m es.toList/\ks.length=n/\P.info? et=some info/\info.zero=some (.bool false) /\
   (∀ em,(Instr.checkKey em 10000 kt v).run P w = .ok () w)/\(Instr.findKey kt v es.toList).run P w = .ok ((rF m ks 0).map fun x=>(x.1,.bool x.2)) w:=by
 unfold aMK at h;split at h
 ·rename_i i o' l hi;split at h
  ·rename_i kt et n' m' ks' hui hlk hin;split at h
   ·rename_i ik ie J hie;split at h
    ·rename_i ma me h1 h2 h3 h4 Z h6;cases h;have h4:=bS h4;have Z:=bS Z;have h6:=fI h6;have hm:=(M _ _ hi).und; rw[hui]at hm;have hk:=(M _ _ J).und; rw[h1]at hk;simp only[UR]at hm hk;have Q:=aX hlk;obtain⟨b,es,clock,e1,e2,e3,e4,e5⟩:=r.w.hp.obj _ _ Q;have G:=wC hin (hv.cells_t rfl);obtain⟨info,f1,f4⟩:=(M _ _ hie).zb h2;cases hu with
     | map hg=>
      rw[e1]at hg; injection hg with hg; injection hg with hg; subst hg;have D:aJO n m es.toList:=⟨by omega,e4,fun j e x he hx=>e5 j e x (by simp_all) hx⟩;refine⟨kt,et,b,es,clock,info,hm,rfl,G,e1,Q,e2,D,Z,f1,f4,fun em=>?_,?_⟩
      ·rw[G]; exact(M _ _ J).keyv ma me h1 (by omega) em ks w (by omega)
      ·rw[G,run_findKey_eq w (by rw[hk])];exact vQ (by omega) (by rw[<-h4]; exact(M _ _ J).eqv) Z m _ 0 D
    ·cases h
   ·cases h
  ·cases h
 ·cases h
end
section
variable {P:Program} {E:Env} {F:Nat->Prop} {g:Nat->Value} {st:St} {a:Act} {w:World}
theorem jK(r:cG E F g st a w){d n:Int}{x:Option Operand}(h:fE st d x=some n):
  (x=none/\n=d)\/∃ y k,x=some y/\a.eval y = .int k n:=by
 cases x with
 | none=>simp[fE]at h; simp_all
 | some y=>
  simp only[fE]at h;split at h
  ·rename_i k m hy;cases h;exact .inr ⟨y,k,rfl,(bT r hy).inv_int⟩
  ·cases h
theorem cI{k:IntKind}{n:Int}{y:Nat}{c:BoundsCode}(h:0<=n/\n<=(y:Int)):(Instr.sliceBound (.int k n) y c).run P w = .ok n.toNat w:=by simp[Instr.sliceBound,asIntOf,h]
theorem Je(r:cG E F g st a w)(J:P.underlying t=some .string)(s:ByteArray) 
  (hl:fE st 0 lo=some l)(M:fE st s.size hi=some h)(hc:0<=l/\l<=h/\h<=(s.size:Int)):
  (Instr.sliceAt t (.string s) (lo.map a.eval) (hi.map a.eval) none).run P w = .ok (.string (s.extract l.toNat h.toNat)) w:=by
 obtain⟨h1,h2,h3⟩:=hc;have e:(Instr.sliceAt t (.string s) (lo.map a.eval) (hi.map a.eval) none).run P w=(Instr.slice t (.string s) (lo.map a.eval) (hi.map a.eval) none).run P w:=by simp[Instr.sliceAt,run_underlying J]
 rw[e];have hb:(Instr.sliceBounds false s.size s.size (lo.map a.eval) (hi.map a.eval) none).run P w = .ok (l.toNat,h.toNat,s.size) w:=by
  unfold Instr.sliceBounds;rcases jK r hl with⟨rfl,rfl⟩ | ⟨y,k,rfl,hy⟩ <;> rcases jK r M with⟨rfl,rfl⟩ | ⟨Q,G,rfl,D⟩
  ·simp
  ·simp[D,cI (P:=P) (w:=w) (k:=G) (n:=h) (y:=s.size) ⟨by omega,h3⟩]
  ·simp[hy,cI (P:=P) (w:=w) (k:=k) (n:=l) (y:=s.size) ⟨h1,by omega⟩]
  ·simp[hy,D,cI (P:=P) (w:=w) (k:=G) (n:=h) (y:=s.size) ⟨by omega,h3⟩,cI (P:=P) (w:=w) (k:=k) (n:=l) (y:=h.toNat) ⟨h1,by omega⟩]
 simp[Instr.slice,run_underlying J,hb]
theorem aAX{l:List T}(h:aOD l=true):∃ k,l=[.int .u8 k]:=by unfold aOD at h;grind
theorem aEZ(r:cG E F g st a w){p:PV}(hv:VR F g w p v){f:Nat->List T}(h:Gn st p=some (n,f))(h1:∀ i,i<n->(f i).length=1):
  (v = .slice none 0 0/\n=0)\/∃ ad c,v = .slice (some ad) n c/\∀ i x,i<n->f i=[x]->∃ u,w.cell? (ad.add i)=some u/\Rd F w x u:=by
 cases p with
 | own o=>
  simp only[Gn]at h;split at h
  ·rename_i e J Z f' hl;cases h;cases hv with
   | own hg=>
    rcases r.w.hp.obj _ _ (aX hl) with⟨D,G⟩ | ⟨b,cap,cur,D,G,e3,e4,e5,e6,M⟩
    ·grind
    ·rw[hg]at D; injection D with e8 e9 e10;refine .inr ⟨⟨b,0,none⟩,cap,by rw[e8,e9,e10],fun i x hi hx=>?_⟩;have hs:J=1:=by grind
     subst hs;obtain⟨u,hu,hr⟩:=M i 0 x hi (by rw[hx]; rfl);refine⟨u,?_,hr⟩;rw[Addr.add_none];simp only[World.cell?,G];simp_all
  ·cases h
 | t x=>
  simp only[Gn]at h;cases hv.cells_t rfl with
  | nil h'=>simp_all
  | sl ad cap size vs h' hc hF hs hv' hr'=>
   rw[h]at h'; simp at h'; obtain⟨rfl,rfl⟩:=h';refine .inr ⟨ad,cap,rfl,fun i y hi hy=>?_⟩;have Q:size=1:=by grind
   simp_all
  | int=>simp[T.view]at h
  | bool=>simp[T.view]at h
  | str=>simp[T.view]at h
  | fv=>simp[T.view]at h
  | agg=>simp[T.view]at h
 | nil=>simp[Gn]at h; cases hv; simp_all
 | _=>simp[Gn]at h
theorem aMP(r:cG E F g st a w){p:PV}(hv:VR F g w p v){f:Nat->List T}(h:Gn st p=some (n,f))(Q:∀ i,i<n->aOD (f i)=true):
  (∃ ad l c,v = .slice ad l c)/\(Conv.bytesToString v).run P w = .ok (.string (bFX n f)) w:=by
 have M:∀ i,i<n->(f i).length=1:=fun i hi=>by obtain⟨k,hk⟩:=aAX (Q i hi); rw[hk]; rfl
 rcases aEZ r hv h M with⟨rfl,rfl⟩ | ⟨ad,c,rfl,hc⟩
 ·exact⟨⟨_,_,_,rfl⟩,by rfl⟩
 ·refine⟨⟨_,_,_,rfl⟩,?_⟩;rw[run_bytesToString (P:=P) w ad n c ((List.range n).map fun i=>aUO (f i))]
  ·rfl
  ·have:=run_loadCells_list (P:=P) w ad (((List.range n).map fun i=>aUO (f i)).map (Value.int .u8)) (fun j v hv=>by simp only[gQ,kC]at hv;obtain⟨y,⟨i,hi,rfl⟩,rfl⟩:=hv;obtain⟨D,J⟩:=Ir.1 hi;simp at D J;subst J;obtain⟨k,hk⟩:=aAX (Q j D);obtain⟨u,G,hr⟩:=hc j _ D hk;rw[hk];simp only[aUO];rw[hr.inv_int]at G;exact G);simp_all
theorem Qn(r:cG E F g st a w){j:dO}(ht:P.underlying t=some (.slice e))(hj:TOk P e j){x:T}(hv:Rd F w x v){f:Nat->List T}(M:(f 0).length=j.size)(hx:x.view=some (n,f))
  (hl:fE st 0 lo=some l)(hh:fE st n hi=some h)(hc:0<=l/\l<=h/\h<=(n:Int)):
  ∃ z,(Instr.sliceAt t v (lo.map a.eval) (hi.map a.eval) none).run P w = .ok z w/\Rd F w (.sl (h-l).toNat (fun k=>f (l.toNat+k))) z:=by
 obtain⟨h1,h2,h3⟩:=hc;obtain⟨ad,cap,rfl⟩:=hv.slice_len hx;have hcap:n<=cap:=by
  cases hv with
  | nil h=>omega
  | sl _ _ _ _ h hc=>omega
 have e:(Instr.sliceAt t (.slice ad n cap) (lo.map a.eval) (hi.map a.eval) none).run P w=(Instr.slice t (.slice ad n cap) (lo.map a.eval) (hi.map a.eval) none).run P w:=by simp[Instr.sliceAt,run_underlying ht]
 have hb:(Instr.sliceBounds true n cap (lo.map a.eval) (hi.map a.eval) none).run P w = .ok (l.toNat,h.toNat,cap) w:=by
  unfold Instr.sliceBounds;rcases jK r hl with⟨rfl,rfl⟩ | ⟨y,k,rfl,hy⟩ <;> rcases jK r hh with⟨rfl,rfl⟩ | ⟨y',k',rfl,D⟩
  ·simp
  ·simp[D,cI (P:=P) (w:=w) (k:=k') (n:=h) (y:=cap) ⟨by omega,by omega⟩]
  ·simp[hy,cI (P:=P) (w:=w) (k:=k) (n:=l) (y:=n) ⟨h1,by omega⟩]
  ·simp[hy,D,cI (P:=P) (w:=w) (k:=k') (n:=h) (y:=cap) ⟨by omega,by omega⟩,cI (P:=P) (w:=w) (k:=k) (n:=l) (y:=h.toNat) ⟨h1,by omega⟩]
 refine⟨.slice (if cap=l.toNat then ad else ad.map (·.add (l.toNat*j.size))) (h.toNat-l.toNat) (cap-l.toNat),?_,?_⟩
 ·rw[e];simp[Instr.slice,run_underlying ht,hb,run_sizeOf hj]
 ·have hn:h.toNat-l.toNat=(h-l).toNat:=by omega
  rw[hn];cases hv with
  | nil h'=>
   rw[hx]at h'; simp at h';have Q:l.toNat=0:=by omega
   have Z:(h-l).toNat=0:=by omega
   rw[Q,Z];simp;exact .nil rfl
  | sl ad cap' size vs h' hc hF hs hv' hr'=>
   rw[hx]at h'; simp at h'; obtain⟨_,rfl⟩:=h';by_cases hz:(h-l).toNat=0
   ·rw[hz];have H:∀ J:Addr,Rd F w (.sl 0 fun k=>f (l.toNat+k)) (.slice (some J) 0 (cap-l.toNat)):=fun J=>
     .sl J _ 0 (fun _ _=>undef) rfl (by omega) (fun h=>by omega) (fun i hi=>by omega) (fun i _ hi=>by omega) (fun i _ _ hi=>by omega)
    grind
   ·have hcl:¬ cap=l.toNat:=by omega
    rw[aF hcl];simp only[tM];have G:size=j.size:=by rw[<-hs 0 (by omega),M]
    subst G;have hblk:(ad.add (l.toNat*j.size)).block=ad.block:=by unfold Addr.add; split <;> rfl
    refine .sl _ _ j.size (fun i q=>vs (l.toNat+i) q) rfl (by omega) (fun _=>by grind) (fun i hi=>hs _ (by omega)) (fun i q hi hq=>?_) (fun i q y hi hy=>hr' _ _ _ (by omega) hy);rw[Addr.add_add,<-Gf,<-jG];grind
theorem Jd(r:cG E F g st a w){j:dO}(Q:P.underlying t=some (.slice e))(Z:TOk P e j)(hl:fE st 0 lo=some l)(hh:fE st 0 hi=some h)
  (hc:0<=l/\l<=h/\h<=0):(Instr.sliceAt t (.slice none 0 0) (lo.map a.eval) (hi.map a.eval) none).run P w = .ok (.slice none 0 0) w:=by
 obtain⟨h1,h2,h3⟩:=hc;have G:l=0:=by omega
 have J:h=0:=by omega
 subst G; subst J;have e:(Instr.sliceAt t (.slice none 0 0) (lo.map a.eval) (hi.map a.eval) none).run P w=(Instr.slice t (.slice none 0 0) (lo.map a.eval) (hi.map a.eval) none).run P w:=by simp[Instr.sliceAt,run_underlying Q]
 have hb:(Instr.sliceBounds true 0 0 (lo.map a.eval) (hi.map a.eval) none).run P w = .ok (0,0,0) w:=by
  unfold Instr.sliceBounds;rcases jK r hl with⟨rfl,_⟩ | ⟨y,k,rfl,hy⟩ <;> rcases jK r hh with⟨rfl,_⟩ | ⟨y',M,rfl,D⟩
  ·simp
  ·simp[D,cI (P:=P) (w:=w) (k:=M) (n:=0) (y:=0) ⟨by omega,by omega⟩]
  ·simp[hy,cI (P:=P) (w:=w) (k:=k) (n:=0) (y:=0) ⟨by omega,by omega⟩]
  ·simp[hy,D,cI (P:=P) (w:=w) (k:=M) (n:=0) (y:=0) ⟨by omega,by omega⟩,cI (P:=P) (w:=w) (k:=k) (n:=0) (y:=0) ⟨by omega,by omega⟩]
 rw[e];simp[Instr.slice,run_underlying Q,hb,run_sizeOf Z]
theorem aBA{j:dO}(J:TOk P t j){x:PV}:∀ (l:List PV) (vs:Array Value),vs.size=l.length->(∀ (j:Nat) x v,l[j]? = some x->vs[j]? = some v->VR F g w x v)->jA j (l.drop off)=some x ->
  ∃ z,(part t vs off).run P w = .ok z w/\VR F g w x z:=by
 intro l vs hs hr hx;unfold jA at hx;split at hx
 ·rename_i G;split at hx
  ·rename_i D;have D:=bS D;cases hx;simp only[dU,vN]at D;refine⟨_,by simp[part,mI J.und,G,run_sizeOf J]; rfl,sQ (by grind) fun q y v hy hv=>?_⟩;grind
  ·cases hx
 ·rename_i G;split at hx
  ·rename_i y Q hl;cases hx;have M:l[off]? = some x:=by have:=congrArg (·[0]?) hl;grind
   have hlt:off<vs.size:=by grind
   refine⟨vs[off],by simp[part,mI J.und,G,hlt],hr _ x _ M (by simp[hlt])⟩
  ·cases hx
theorem KeyR.toRd{F:Nat->Prop}{w:World}{k:T}(h:KeyR k v):Rd F w k v:=by
 cases h with
 | int k n=>exact .int k n
 | str s=>exact .str s
theorem nL(r:cG E F g st a w){di:Nat}{x:PV}{C:Prop}{u:Value}(hu:VR F g w (.ptr di 0) u):∀ {l:Hp},(∀ e,e∈l->e∈st.hp)->Cz di l=some (x,C)->C ->
  ∃ v,(Instr.entry u).run P w = .ok v w/\VR F g w x v
 | [],_,h,_=>by simp[Cz]at h
 | (o,.box _)::l,hs,h,hC=>nL r hu (fun e he=>hs e (cO _ he)) (by simpa[Cz] using h) hC
 | (o,.arr ..)::l,hs,h,hC=>nL r hu (fun e he=>hs e (cO _ he)) (by simpa[Cz] using h) hC
 | (o,.mpb ..)::l,hs,h,hC=>nL r hu (fun e he=>hs e (cO _ he)) (by simpa[Cz] using h) hC
 | (o,.arm ..)::l,hs,h,hC=>nL r hu (fun e he=>hs e (cO _ he)) (by simpa[Cz] using h) hC
 | (o,.bld ..)::l,hs,h,hC=>nL r hu (fun e he=>hs e (cO _ he)) (by simpa[Cz] using h) hC
 | (o,.mp none _ _)::l,hs,h,hC=>nL r hu (fun e he=>hs e (cO _ he)) (by simpa[Cz] using h) hC
 | (o,.mp (some i) m ho)::l,hs,h,hC=>by
  simp only[Cz]at h;split at h
  ·rename_i hb;have hb:=bS hb;subst hb;split at h
   ·rename_i k' k p hcur;cases h;have hC:k'=k:=hC;subst hC;obtain⟨b,es,clock,h1,h2,l1,r1,hM⟩:=r.w.hp.obj _ _ (hs _ (cS ..));obtain⟨rr,since,seen,c0,g1,g2,g3,g4,g5,g6,g7,g8⟩:=hM.it;obtain⟨e1,⟨e,he,hke,q,hq⟩,e3⟩:=g8 k' hcur;obtain⟨e',hr1,hke',hv⟩:=hM.hole;have hee:e=e':=by
     have he':=hM.perm.mem_iff.2 he;rcases dW.1 he' with hl | hr
     ·exfalso;obtain⟨j,y,hy,hj,hR⟩:=hM.ent.memr hl;have hyk:y.1=k':=hR.1.inj hke;have hnd:=hM.keys;rw[zH]at hnd;exact hnd.2.2 _ (Jo (lL hy)) k' (by simp[hoK]) hyk
     simp_all
    subst hee;subst hq; subst e1;have hrun:=run_entry_at (P:=P) w rr b since q es c0 e g2 h2 he hM.born;cases hu with
    | ptr hg=>
     rw[g1]at hg;injection hg with hg; injection hg with hg; injection hg with hg;subst hg;refine⟨_,hrun,.tup rfl fun j y v hy hv'=>?_⟩
     match j,hy,hv' with
     | 0,hy,hv'=>simp at hy hv'; subst hy; subst hv'; exact .t hke.toRd
     | 1,hy,hv'=>simp_all
     | j+2,hy,_=>simp at hy
   ·cases h
  ·exact nL r hu (fun e he=>hs e (cO _ he)) h hC
theorem Jf(D:P.underlying t=some (.interface ms)):(Op.equal t .nilIface .nilIface).run P w = .ok true w:=by unfold Op.equal;rw[show Op.maxDepth=9999+1 from rfl];unfold Op.equalIn;rw[Sem.run_bind,run_underlying D w];rfl
theorem Ie(G:P.underlying t=some (.interface ms))(y:Operand)(c:Value)(b:Bool)(D:op=if b then .eql else .neq):
  (do eqGuard op t y (.const c) .nilIface .nilIface; binOp op t .nilIface .nilIface:Sem Value).run P w = .ok (.bool b) w:=by
 have he:=Jf (w:=w) G;cases b <;> subst D <;> simp[eqGuard,binOp,he]
theorem aAR{t':TypeId}(M:P.underlying t=some (.interface ms))(J G:Operand)(v:Value)(b:Bool)(D:op=if b then .neq else .eql):
  (do eqGuard op t J G (.iface t' v) .nilIface; binOp op t (.iface t' v) .nilIface:Sem Value).run P w = .ok (.bool b) w:=by
 have he:(Op.equal t (.iface t' v) .nilIface).run P w = .ok false w:=by unfold Op.equal;rw[show Op.maxDepth=9999+1 from rfl];unfold Op.equalIn;rw[Sem.run_bind,run_underlying M w];rfl
 cases b <;> subst D <;> simp[eqGuard,binOp,he]
theorem jW{j:TypeInfo}{a b:Addr}(hp:P.underlying t=some (.pointer e))(D:P.info? e=some j)(G:j.size≠0){c:Bool}(hs:(sameAddr a b).run P w = .ok c w)(J:op = .eql\/op = .neq)(Q M:Operand):
  (do eqGuard op t Q M (.pointer (some a)) (.pointer (some b)); binOp op t (.pointer (some a)) (.pointer (some b)):Sem Value).run P w = .ok (.bool (match op with | .eql=>c | _=>!c)) w:=by
 have he:(Op.equal t (.pointer (some a)) (.pointer (some b))).run P w = .ok c w:=by
  have h:∀ d:Nat,(Op.equalIn (d+1) t (.pointer (some a)) (.pointer (some b))).run P w = .ok c w:=fun d=>by simp[Op.equalIn,run_underlying hp,sizeOf,typeInfo,D,G,hs]
  simp[Op.equal,Op.maxDepth,h 9999]
 have hg:(eqGuard op t Q M (.pointer (some a)) (.pointer (some b))).run P w = .ok () w:=by unfold eqGuard; cases op <;> simp
 rcases J with rfl | rfl <;> simp[hg,binOp,he]
theorem aPR{I:Inf}(hI:mP P I.ti)(r:cG E F g st a w){i:dO}(hi:I.ti t=some i){o':Nat}{x:PV}(h:aPG I st i.und op o o'=some (x,C)) 
  (hu:VR F g w (.ptr o 0) u)(hv:VR F g w (.ptr o' 0) v)(xo Z:Operand):∃ z,(do eqGuard op t xo Z u v; binOp op t u v:Sem Value).run P w = .ok z w/\VR F g w x z:=by
 unfold aPG at h;split at h
 ·rename_i e hund;have Q:P.underlying t=some (.pointer e):=by have Q:=(hI _ _ hi).und; rw[hund]at Q; exact Q
  split at h
  ·rename_i j hj;obtain⟨info,M,hi2,_⟩:=(hI _ _ hj).info;split at h
   ·rename_i G D;have G:info.size≠0:=by rw[hi2]; exact pB G
    have D:=bS D;subst D;cases hu with | @ptr _ _ b hg=>cases hv with | @ptr _ _ b' hg'=>
     rw[hg]at hg';injection hg' with hg'; injection hg' with hg'; injection hg' with hg';subst hg';have hs:=run_sameAddr_same (P:=P) w (⟨b,0,none⟩:Addr);split at h <;> cases h
     ·exact⟨_,jW Q M G hs (.inl rfl) xo Z,.t (.bool _)⟩
     ·exact⟨_,jW Q M G hs (.inr rfl) xo Z,.t (.bool _)⟩
   ·rename_i G D;have G:info.size≠0:=by rw[hi2]; exact pB G
    have D:=pB D;split at h
    ·rename_i l l' hl J;have hl:=aX hl;have J:=aX J;obtain⟨b,vs,ty,e1,e2,_⟩:=r.w.hp.obj _ _ hl;obtain⟨b',vs',ty',e1',e2',_⟩:=r.w.hp.obj _ _ J;cases hu with | ptr hg=>cases hv with | ptr hg'=>
      rw[e1]at hg; rw[e1']at hg';injection hg with hg; injection hg with hg; injection hg with hg;injection hg' with hg'; injection hg' with hg'; injection hg' with hg';subst hg; subst hg';have hne:b≠b':=fun hb=>r.w.hp.sep _ _ _ _ b hl J D (.self (by rw[e1]; rfl)) (.self (by rw[e1',hb]; rfl));have hs:=run_sameAddr_other (P:=P) w (a:=⟨b,0,none⟩) (b:=⟨b',0,none⟩) (fun hh=>hne (by injection hh)) e2 e2';split at h <;> cases h
      ·exact⟨_,jW Q M G hs (.inl rfl) xo Z,.t (.bool _)⟩
      ·exact⟨_,jW Q M G hs (.inr rfl) xo Z,.t (.bool _)⟩
    ·cases h
   ·cases h
  ·cases h
 ·cases h
theorem aHY{I:Inf}(D:mP P I.ti)(r:cG E F g st a w)(o:Oper){x:PV}(h:pev I st o.op=some (x,C))(hC:C):
  ∃ v,(execOp a.eval o).run P w = .ok (.value v) w/\VR F g w x v:=by
 unfold execOp;cases hop:o.op with
 | move y=>simp only[hop,pev]at h;exact⟨_,by simp,bT r (jS h)⟩
 | assign y=>simp only[hop,pev]at h;exact⟨_,by simp,bT r (jS h)⟩
 | pick c y z=>
  simp only[hop,pev]at h;split at h
  ·rename_i hc;have:=(bT r hc).inv_bool;exact⟨_,by simp[this,asBool],bT r (jS h)⟩
  ·rename_i hc;have:=(bT r hc).inv_bool;exact⟨_,by simp[this,asBool],bT r (jS h)⟩
  ·cases h
 | load t y=>
  simp only[hop,pev]at h;split at h
  ·rename_i i p hi hp;obtain⟨z,Z,hr⟩:=Sr r (D _ _ hi) h hC (bT r hp);simp_all
  ·cases h
 | nilCheck y=>
  simp only[hop,pev]at h;split at h
  ·rename_i hp; cases h;have hv:=bT r hp;obtain⟨u,G⟩:∃ u,a.eval y=u:=⟨_,rfl⟩;rw[G]at hv;cases hv with | ptr e=>exact⟨_,by simp[G],.ptr e⟩
  ·rename_i hp; cases h;have hv:=bT r hp;obtain⟨u,G⟩:∃ u,a.eval y=u:=⟨_,rfl⟩;rw[G]at hv;cases hv with | eptr ad hF e=>exact⟨_,by simp[G],.eptr ad hF e⟩
  ·rename_i hp; cases h;have hv:=bT r hp;obtain⟨u,G⟩:∃ u,a.eval y=u:=⟨_,rfl⟩;rw[G]at hv;cases hv with | aptr e=>exact⟨_,by simp[G],.aptr e⟩
  ·cases h
 | binOp op t y z u=>
  simp only[hop,pev]at h;split at h
  ·rename_i i hi hp hq;have hv1:=bT r hp;have hv2:=bT r hq;have hT:=(D _ _ hi).und;generalize hu1:a.eval y=u1 at hv1;generalize hu2:a.eval z=u2 at hv2;cases hv1 with | lit _=>cases hv2 with | lit _=>
    unfold bBH at h;split at h
    ·rename_i vc Q;rw[Q]at hT;obtain⟨ms,hT⟩:=hT;cases h;refine⟨.bool true,?_,.t (.bool _)⟩;have hv:=Ie (w:=w) hT y vc true rfl;simp only[hu1,hu2,Sem.run_bind,Sem.run_pure,gT]at hv ⊢;rw[hv]; rfl
    ·rename_i vc Q;rw[Q]at hT;obtain⟨ms,hT⟩:=hT;cases h;refine⟨.bool false,?_,.t (.bool _)⟩;have hv:=Ie (w:=w) hT y vc false rfl;simp only[hu1,hu2,Sem.run_bind,Sem.run_pure,eO,eH]at hv ⊢;rw[hv]; rfl
    ·cases h
  ·rename_i i hi hp hq;have hv1:=bT r hp;have hv2:=bT r hq;have hT:=(D _ _ hi).und;generalize hu1:a.eval y=u1 at hv1;generalize hu2:a.eval z=u2 at hv2;cases hv1 with | ifx=>cases hv2 with | lit _=>
    unfold bAJ at h;split at h
    ·rename_i Q;rw[Q]at hT;obtain⟨ms,hT⟩:=hT;cases h;refine⟨.bool false,?_,.t (.bool _)⟩;have hv:=fun tt vv=>aAR (w:=w) (t':=tt) hT y z vv false rfl;simp only[hu1,hu2,Sem.run_bind,Sem.run_pure,eO,eH]at hv ⊢;rw[hv]; rfl
    ·rename_i Q;rw[Q]at hT;obtain⟨ms,hT⟩:=hT;cases h;refine⟨.bool true,?_,.t (.bool _)⟩;have hv:=fun tt vv=>aAR (w:=w) (t':=tt) hT y z vv true rfl;simp only[hu1,hu2,Sem.run_bind,Sem.run_pure,gT]at hv ⊢;rw[hv]; rfl
    ·cases h
  ·rename_i i o1 o2 hi hp hq;obtain⟨v,hv,hr⟩:=aPR D r hi h (bT r hp) (bT r hq) y z;refine⟨v,?_,hr⟩;simp only[Sem.run_bind,Sem.run_pure]at hv ⊢;rw[hv]; rfl
  ·rename_i i p q _ _ hi hp hq;obtain⟨v,hv,hr⟩:=aTX (P:=P) (D _ _ hi) h hC (bT r hp) (bT r hq) y z;refine⟨v,?_,hr⟩;simp only[Sem.run_bind,Sem.run_pure]at hv ⊢;rw[hv]; rfl
  ·cases h
 | unOp op t y=>
  simp only[hop,pev]at h;split at h
  ·rename_i p hp;obtain⟨v,hv,hr⟩:=bDA (P:=P) (w:=w) h (bT r hp);simp_all
  ·cases h
 | convert s d y=>
  simp only[hop,pev]at h;split at h
  ·rename_i i j k n hi hj hp;split at h
   ·rename_i k' hk;cases h;have hv:=(bT r hp).inv_int;have J:=(D _ _ hj).und;rw[hk]at J;have hs:∃ dd,P.underlying s=some dd:=by
     have:=(D _ _ hi).und;cases G:i.und <;> rw[G]at this <;> simp only[UR]at this
     all_goals grind
    obtain⟨dd,hs⟩:=hs;have:(convert s d (.int k n)).run P w = .ok (.int k' (k'.wrap n)) w:=by unfold convert;rw[Sem.run_bind,run_underlying hs];simp only[Result.andThen_ok];rw[Sem.run_bind,run_underlying J];rfl
    exact⟨_,by simp_all,.t (.int _ _)⟩
   ·cases h
  ·rename_i i j p hne hi hj hp;split at h
   ·rename_i e n f hui huj hrow;split at h
    ·rename_i k hk;split at h
     ·rename_i huk;cases h;have hs:=(D _ _ hi).und; rw[hui]at hs;have J:=(D _ _ hj).und; rw[huj]at J;have he:=(D _ _ hk).und; rw[huk]at he;obtain⟨⟨ad,l,c,hv⟩,hrun⟩:=aMP (P:=P) r (bT r hp) hrow hC;refine⟨_,?_,.t (.str _)⟩;rw[hv]at hrun;simp[hv,run_convert_bytes_string w s d e ad l c hs he J,hrun]
     ·cases h
    ·cases h
   ·cases h
  ·cases h
 | makeFunc fn fs cs=>
  simp only[hop,pev]at h;split at h
  ·rename_i l hl;cases h;obtain⟨h1,h2⟩:=uW r _ _ hl;refine⟨.func fn (fs.map a.eval) (cs.map a.eval),by rfl,.fn (by simp) (by simp_all) fun j y v hy hv=>h2 j y v hy ?_⟩;grind
  ·cases h
 | fieldAddr s y f=>
  simp only[hop,pev]at h;split at h
  ·rename_i i p hi hp;split at h
   ·rename_i fs G;have hv:=bT r hp;obtain⟨v0,M⟩:∃ u,a.eval y=u:=⟨_,rfl⟩;rw[M]at hv;split at h
    ·rename_i off o k hf;cases h;cases hv with
     | ptr e=>exact⟨_,by simp[M,tH D (D _ _ hi) G hf]; rfl,by rw[Addr.add_none]; exact .ptr e⟩
    ·rename_i off l hf;cases h;cases hv with
     | eptr ad hF e=>
      refine⟨_,by simp[M,tH D (D _ _ hi) G hf]; rfl,.eptr _ (fun hl=>?_) fun j x hx=>?_⟩
      ·have:(ad.add off).block=ad.block:=by unfold Addr.add; split <;> rfl
       grind
      ·rw[Addr.add_add]; simp_all
    ·rename_i off o s i' k hf;cases h;cases hv with
     | aptr e=>exact⟨_,by simp[M,tH D (D _ _ hi) G hf]; rfl,by rw[Addr.add_none,Gf]; exact .aptr e⟩
    ·cases h
   ·cases h
  ·cases h
 | field t y f=>
  simp only[hop,pev]at h;split at h
  ·rename_i i p hi hp;split at h
   ·rename_i fs G;split at h
    ·rename_i off u hf;split at h
     ·rename_i j hj;have hv:=bT r hp;obtain⟨v0,M⟩:∃ u,a.eval y=u:=⟨_,rfl⟩;rw[M]at hv;have J:=(D _ _ hi).und;rw[G]at J;obtain⟨fields,h1,h2⟩:=J;rw[<-h2,gQ,kC]at hf;obtain⟨fd,hfd,he⟩:=hf;cases he;have hfd':fields[f]? = some fd:=by simp_all
      have key:∀ (l:List PV) (vs:Array Value),vs.size=l.length->(∀ (j:Nat) x v,l[j]? = some x->vs[j]? = some v->VR F g w x v)->jA j (l.drop fd.offset)=some x ->
        ∃ z,(part fd.type vs fd.offset).run P w = .ok z w/\VR F g w x z:=by
       intro l vs hs hr hx;have hj':=D _ _ hj;unfold jA at hx;split at hx
       ·rename_i hagg;split at hx
        ·rename_i hlen;have hlen:=bS hlen;cases hx;simp only[dU,vN]at hlen;refine⟨_,by simp[part,mI hj'.und,hagg,run_sizeOf hj']; rfl,sQ (by grind) fun q y v hy hv=>?_⟩;grind
        ·cases hx
       ·rename_i hagg;split at hx
        ·rename_i y l' hl;cases hx;have hlo:l[fd.offset]? = some x:=by have:=congrArg (·[0]?) hl;grind
         have hlt:fd.offset<vs.size:=by grind
         refine⟨vs[fd.offset],by simp[part,mI hj'.und,hagg,hlt],hr _ x _ hlo (by simp[hlt])⟩
        ·cases hx
      split at h
      ·rename_i l;have hr:=hv.cells_t rfl;cases hr with
       | @agg _ vs hs hr=>obtain⟨z,Z,hr'⟩:=key (l.map PV.t) vs (by simp[hs]) (fun q y v hy hv=>by simp only[gQ,kC]at hy;obtain⟨y',hy,rfl⟩:=hy;exact .t (hr q y' v hy hv)) (by simpa using jS h);exact⟨z,by simp[M,Instr.field,run_underlying h1,hfd',asAgg,Z],hr'⟩
       | nil h=>simp[T.view]at h
       | sl _ _ _ _ h=>simp[T.view]at h
      ·cases hv with
       | agg hs hr=>obtain⟨z,Z,hr'⟩:=key _ _ hs hr (jS h);exact⟨z,by simp[M,Instr.field,run_underlying h1,hfd',asAgg,Z],hr'⟩
      ·cases h
     ·cases h
    ·cases h
   ·cases h
  ·cases h
 | indexAddr t y ix=>
  simp only[hop,pev]at h;split at h
  ·rename_i i p k n hi hp hn;split at h
   ·rename_i e G;split at h
    ·rename_i j hj;have hix:=(bT r hn).inv_int;obtain⟨z,Z,hr⟩:=aFG r (D _ _ hi) G (D _ _ hj) h hC (bT r hp) k;simp_all
    ·cases h
   ·rename_i m e G;split at h
    ·rename_i j q off hj;cases h;have hix:=(bT r hn).inv_int;have hv:=bT r hp;obtain⟨u,hu'⟩:∃ u,a.eval y=u:=⟨_,rfl⟩;rw[hu']at hv;have J:=(D _ _ hi).und;rw[G]at J;cases hv with
     | @ptr _ _ b hg=>refine⟨.pointer (some ⟨b,off+n.toNat*j.size,none⟩),?_,.ptr hg⟩;simp[hix,hu',Instr.indexAt,Instr.sureAddr,asIntOf,run_underlying J,run_sizeOf (D _ _ hj),hC,Addr.add_none]
    ·cases h
   ·cases h
  ·cases h
 | lookup t y k ok=>
  cases ok with
  | false=>simp[hop,pev]at h
  | true=>
   simp only[hop,pev]at h;split at h
   ·rename_i p q hp hq;split at h
    ·rename_i n m o' ks hm;cases h;obtain⟨kt,et,b,es,clock,info,h1,h2,h3,h4,h5,h6,h7,h8,h9,h10,h11,h12⟩:=Xy D r hm (bT r hp) (bT r hq);have hget:(getObj b).run P w = .ok (.map es clock) w:=Go.run_getObj_map w b es clock h6;have Z:(zeroValue et).run P w = .ok (.bool false) w:=by simp[zeroValue,typeInfo,h9,h10]
     refine⟨.tuple #[.bool (aNN m ks),.bool (aPS m ks)],?_,.tup rfl fun j x v hx hv=>?_⟩
     ·simp only[h2];have hrun:(Instr.lookup t (.map (some b)) (a.eval k) true).run P w = .ok (.tuple #[.bool (aNN m ks),.bool (aPS m ks)]) w:=by
       unfold Instr.lookup;simp only[Sem.run_bind,run_underlying h1,Result.andThen_ok,hget,Sem.run_pure,h11,h12];unfold aNN aPS;cases hf:rF m ks 0 with
       | none=>simp[Z]
       | some x=>simp
      simp[hrun]
     ·match j,hx,hv with
      | 0,hx,hv=>simp at hx hv; subst hx; subst hv; exact .t (.bool _)
      | 1,hx,hv=>simp at hx hv; subst hx; subst hv; exact .t (.bool _)
      | j+2,hx,hv=>simp at hx
    ·cases h
   ·cases h
 | index t y ix=>
  simp only[hop,pev]at h;split at h
  ·rename_i i s k n hi hp hn;split at h
   ·rename_i G;cases h;have J:=(D _ _ hi).und;rw[G]at J;have hix:=(bT r hn).inv_int;have hs:=(bT r hp).inv_str;have hlt:n.toNat<s.size:=by omega
    refine⟨.int .u8 ((s[n.toNat]?.getD 0).toNat:Int),?_,.t (.int _ _)⟩;simp[hix,hs,Instr.index,asIntOf,run_underlying J,hC.1,hlt]
   ·cases h
  ·rename_i i l k n hi hp hn;split at h
   ·rename_i m e G;split at h
    ·rename_i j hj;split at h
     ·rename_i q hq;cases h;have J:=(D _ _ hi).und;rw[G]at J;have hix:=(bT r hn).inv_int;have hv:=bT r hp;obtain⟨v0,M⟩:∃ u,a.eval y=u:=⟨_,rfl⟩;rw[M]at hv;have hr:=hv.cells_t rfl;cases hr with
      | @agg _ vs hs hr=>obtain⟨z,Z,hr'⟩:=aBA (P:=P) (F:=F) (g:=g) (w:=w) (D _ _ hj) (off:=n.toNat*j.size) (l.map PV.t) vs (by simp[hs]) (fun q y v hy hv=>by simp only[gQ,kC]at hy;obtain⟨y',hy,rfl⟩:=hy;exact .t (hr q y' v hy hv)) (by simpa using hq);exact⟨z,by simp[hix,M,Instr.index,asIntOf,run_underlying J,hC.1,hC.2,run_sizeOf (D _ _ hj),Z],hr'⟩
      | nil h=>simp[T.view]at h
      | sl _ _ _ _ h=>simp[T.view]at h
     ·cases h
    ·cases h
   ·cases h
  ·rename_i i l k n hi hp hn;split at h
   ·rename_i m e G;split at h
    ·rename_i j hj;split at h
     ·rename_i q hq;cases h;have J:=(D _ _ hi).und;rw[G]at J;have hix:=(bT r hn).inv_int;have hv:=bT r hp;obtain⟨v0,M⟩:∃ u,a.eval y=u:=⟨_,rfl⟩;rw[M]at hv;cases hv with
      | agg hs hr=>obtain⟨z,Z,hr'⟩:=aBA (P:=P) (F:=F) (g:=g) (w:=w) (D _ _ hj) (off:=n.toNat*j.size) _ _ hs hr hq;exact⟨z,by simp[hix,M,Instr.index,asIntOf,run_underlying J,hC.1,hC.2,run_sizeOf (D _ _ hj),Z],hr'⟩
     ·cases h
    ·cases h
   ·cases h
  ·cases h
 | extract y i=>
  simp only[hop,pev]at h;split at h
  ·rename_i l hl;have hv:=bT r hl;obtain⟨u,G⟩:∃ u,a.eval y=u:=⟨_,rfl⟩;rw[G]at hv;have hx:=jS h;cases hv with
   | @tup _ vs hs hr=>
    have hlt:i<vs.size:=by grind
    exact⟨vs[i],by simp[G,Instr.extract,hlt],hr i x _ hx (by simp[hlt])⟩
  ·cases h
 | build t parts=>simp only[hop,pev]at h;obtain⟨z,Z,hr⟩:=aEH D r (jS h);simp_all
 | slice t y lo hi mx=>
  simp only[hop,pev]at h;split at h
  ·rename_i i s hi' hp;split at h
   ·rename_i l hh G hl hh';cases h;have J:=(D _ _ hi').und;rw[G]at J;have hs:=(bT r hp).inv_str;exact⟨_,by simp[hs,Je r J s hl hh' hC],.t (.str _)⟩
   ·cases h
  ·rename_i i x hi' hp;split at h
   ·rename_i e n f G hx;split at h
    ·rename_i j l hh hj hl hh';split at h
     ·rename_i hlen;cases h;have J:=(D _ _ hi').und;rw[G]at J;obtain⟨z,Z,hr⟩:=Qn (P:=P) r J (D _ _ hj) ((bT r hp).cells_t rfl) (bS hlen) hx hl hh' hC;exact⟨z,by simp[Z],.t hr⟩
     ·cases h
    ·cases h
   ·cases h
  ·rename_i i hi' hp;split at h
   ·rename_i e l hh G hl hh';split at h
    ·rename_i j hj;cases h;have J:=(D _ _ hi').und;rw[G]at J;obtain⟨u,hu'⟩:∃ u,a.eval y=u:=⟨_,rfl⟩;have hv:=bT r hp;rw[hu']at hv;cases hv;exact⟨.slice none 0 0,by simp[hu',Jd r J (D _ _ hj) hl hh' hC],.nil⟩
    ·cases h
   ·cases h
  ·cases h
 | entry y=>
  simp only[hop,pev]at h;split at h
  ·rename_i di hp;obtain⟨v,h1,h2⟩:=nL (P:=P) r (bT r hp) (fun e he=>he) h hC;simp_all
  ·cases h
 | call c=>
  simp only[hop,pev,aJS]at h;obtain⟨cal,args,ats⟩:=c;simp only at h;split at h
  ·rename_i y t ha ht;have ha':args=#[y]:=by rw[<-nH (xs:=args),ha]
   have ht':ats=#[t]:=by rw[<-nH (xs:=ats),ht]
   subst ha'; subst ht';split at h
   ·rename_i i p hi hp;obtain⟨z,Z,hr⟩:=aNA (P:=P) r (D _ _ hi) (jS h) (bT r hp) o.type;exact⟨z,by simp[resolve,invoke,builtin,Z],hr⟩
   ·cases h
  ·rename_i y t ha ht;have ha':args=#[y]:=by rw[<-nH (xs:=args),ha]
   have ht':ats=#[t]:=by rw[<-nH (xs:=ats),ht]
   subst ha'; subst ht';split at h
   ·rename_i i hi hp;split at h
    ·rename_i e G;cases h;have J:=(D _ _ hi).und;rw[G]at J;obtain⟨u,hu'⟩:∃ u,a.eval y=u:=⟨_,rfl⟩;have hv:=bT r hp;rw[hu']at hv;cases hv;exact⟨.int .i64 0,by simp[hu',resolve,invoke,builtin,Builtin.cap_,run_underlying J,goInt],.t (.int _ _)⟩
    ·cases h
   ·cases h
  ·rename_i y z ha;have ha':args=#[y,z]:=by rw[<-nH (xs:=args),ha]
   subst ha';split at h
   ·rename_i p q hp hq;obtain⟨z',Z,hr⟩:=aRY (P:=P) (w:=w) (jS h) (bT r hp) (bT r hq) ats o.type;exact⟨z',by simp[resolve,invoke,builtin,Z],hr⟩
   ·cases h
  ·rename_i y z ha;have ha':args=#[y,z]:=by rw[<-nH (xs:=args),ha]
   subst ha';split at h
   ·rename_i p q hp hq;obtain⟨z',Z,hr⟩:=aVC (P:=P) (w:=w) (jS h) (bT r hp) (bT r hq) ats o.type;exact⟨z',by simp[resolve,invoke,builtin,Z],hr⟩
   ·cases h
  ·cases h
 | _=>simp[hop,pev]at h
end
def qG(d:Nat):List Nat->Bool
 | []=>true
 | k::l=>match Nat.beq k d with | true=>false | false=>qG d l
theorem eX{d:Nat}:∀ {l:List Nat},qG d l=true->d∉l
 | [],_=>by simp
 | k::l,h=>by
  simp only[qG]at h;split at h
  ·cases h
  ·rename_i hk;simp only[bE,not_or];exact⟨fun e=>pB hk e.symm,eX h⟩
def kR(d:Nat):List PV->Bool
 | []=>true
 | x::l=>match x.mentions d with | true=>false | false=>kR d l
theorem qS{d:Nat}:∀ {l:List PV},kR d l=true->∀ x,x∈l->∀ k,k∈x.names->k≠d
 | [],_=>by simp
 | y::l,h=>by
  simp only[kR]at h;split at h
  ·cases h
  ·rename_i hk;intro x hx;rcases bE.1 hx with rfl | hx
   ·exact PV.not_mentions hk
   ·exact qS h x hx
def fS(I:Inf)(st:St)(d:Nat)(x:bA)(p:PV):Option St:=
 match Nat.blt d I.nt,qG d I.N,st.erase d with
 | true,true,some st'=>some ({ st' with hp:=(d,x)::st'.hp }.put d p)
 | _,_,_=>none
def jM(ts:List T)(s:Nat):Nat->List T:=fun i=>(ts.drop (i*s)).take s
def pJ(n:Nat)(f1 f2:Nat->List T):Nat->List T:=fun i=>if i<n then f1 i else f2 (i-n)
def lF(s:Nat)(l:List T):Bool:=Nat.beq l.length s&&l.all (fun x=>(PV.t x).one)
def bFN(n m b s:Nat)(f:Nat->List T):Prop:=(n+m)*b<=140737488355328/\∀ i,i<m->lF s (f i)=true
def To(l:List T)(off:Nat)(c:List T):List T:=l.take off++c++l.drop (off+c.length)
def aOU(s:Nat)(l:List T)(off:Nat)(c:List T):List T:=match Nat.beq off 0,Nat.beq c.length s with | true,true=>c | _,_=>To l off c
theorem aRC{l:List T}{c:List T}(h:l.length=s):aOU s l off c=To l off c:=by
 unfold aOU;split
 ·rename_i h1 h2;have h1:=bS h1;have h2:=bS h2;subst h1;simp[To,h2,<-h]
 ·rfl
def vE(f:Nat->List T)(k:Nat)(c:List T):Nat->List T:=fun i=>if i=k then c else f i
def Jn(g:Cel->Cel):Nat->List Cel->List Cel
 | _,[]=>[]
 | 0,c::l=>g c::l
 | n+1,c::l=>c::Jn g n l
theorem Ta{g:Cel->Cel}{c:Cel}(h:∀ y,g y=c):∀ (n:Nat) (l:List Cel),Jn g n l=l.set n c
 | _,[]=>by simp[Jn]
 | 0,_::l=>by simp[Jn,h]
 | n+1,_::l=>by simp[Jn,Ta h n l]
theorem Zx{g:Cel->Cel}(h:∀ y,g y=y):∀ (n:Nat) (l:List Cel),Jn g n l=l
 | _,[]=>by simp[Jn]
 | 0,_::l=>by simp[Jn,h]
 | n+1,_::l=>by simp[Jn,Zx h n l]
def oT(f:Nat->List Cel)(k off:Nat)(c:Cel):Nat->List Cel:=fun i=>Jn (fun y=>if i=k then c else y) off (f i)
theorem uK(f:Nat->List Cel)(k off:Nat)(c:Cel)(i:Nat):oT f k off c i=if i=k then (f i).set off c else f i:=by
 unfold oT;by_cases h:i=k
 ·rw[aA h,Ta fun y=>aA h]
 ·rw[aF h,Zx fun y=>aF h]
def Qq(ov:Option (Nat×Nat×PV))(f:Nat->List Cel)(k off:Nat)(x:PV):Option ((Nat->List Cel)×Option (Nat×Nat×PV)):=
 match x,ov with
 | .t y,none=>some (oT f k off (.d y),none)
 | .t y,some (i,j,p)=>match Nat.beq j off with | true=>none | false=>some (oT f k off (.d y),some (i,j,p))
 | .own q,_=>some (oT f k off .any,some (k,off,.own q))
 | _,_=>none
def fC(j:dO)(n:Nat):List PV:=(List.range n).map fun k=>j.zero.getD (k % j.zero.length) .nil
def okS(s:Nat):Option Nat->Bool | some k=>Nat.beq k s | none=>true
def wQ(st:St):PV->Option (Nat×(Nat->List T)×Option Nat)
 | .own o=>match look st.hp o with | some (.arr _ s n f)=>some (n,f,some s) | _=>none
 | .t x=>match x.view with | some (n,f)=>some (n,f,none) | none=>none
 | _=>none
def stN:PV->PV->PV
 | .aptr ..,.nil=>.t (.sl 0 fun _=>[])
 | _,q=>q
theorem bCW{F:Nat->Prop}{g:Nat->Value}{w:World}{p q:PV}(h:VR F g w q v):VR F g w (stN p q) v:=by
 unfold stN;split
 ·cases h; exact .t (.nil rfl)
 ·exact h
def vU(st:St)(i:dO)(d:Option Nat)(p x:PV):Option (St×Prop):=
 match d with
 | some _=>none
 | none=>
  match p with
  | .ptr o off=>match look st.hp o with
   | some (.box l)=>match Nat.beq x.cells.length i.size,Nat.ble (off+i.size) l.length,x.cells.all PV.one with
    | true,true,true=>some ({ st with hp:=(o,.box (l.take off++x.cells++l.drop (off+i.size)))::del o st.hp },True)
    | _,_,_=>none
   | _=>none
  | .aptr o s k off=>match look st.hp o,Hh x.cells with
   | some (.arr e s' n f),some c=>match Nat.beq s' s,Nat.beq c.length i.size,Nat.ble (off+i.size) s,x.cells.all PV.one with
    | true,true,true,true=>some ({ st with hp:=(o,.arr e s' n (vE f k (aOU s' (f k) off c)))::del o st.hp },k<n)
    | _,_,_,_=>none
   | some (.arm e s' n f ov),_=>match Nat.beq s' s,Nat.beq i.size 1,Nat.ble (off+1) s,x.one,Qq ov f k off x with
    | true,true,true,true,some (f',ov')=>some ({ st with hp:=(o,.arm e s' n f' ov')::del o st.hp },k<n)
    | _,_,_,_,_=>none
   | _,_=>none
  | _=>none
def uZ(n:Nat)(f1 f2:Nat->List Cel):Nat->List Cel:=fun i=>if i<n then f1 i else f2 (i-n)
def Cel.mv:Cel->Bool
 | .d x=>(PV.t x).one
 | .row ..=>true
 | .nl=>true
 | .any=>false
def aGT(s:Nat)(l:List Cel):Bool:=Nat.beq l.length s&&l.all Cel.mv
def Zc(n m b s:Nat)(f:Nat->List Cel):Prop:=(n+m)*b<=140737488355328/\∀ i,i<m->aGT s (f i)=true
def aAT:PV->Option (Cel×Option PV)
 | .t x=>some (.d x,none)
 | .nil=>some (.nl,none)
 | .own q=>some (.any,some (.own q))
 | _=>none
def An:Nat->List PV->Option (List Cel×Option (Nat×PV))
 | _,[]=>some ([],none)
 | j,p::l=>match aAT p,An (j+1) l with
  | some (c,none),some (r,o)=>some (c::r,o)
  | some (c,some p),some (r,none)=>some (c::r,some (j,p))
  | _,_=>none
def bBR:Option (Nat×PV)->Option (Nat×Nat×PV)
 | none=>none
 | some (j,p)=>some (0,j,p)
def Gg(I:Inf)(st:St)(d e:Nat)(j:dO)(p:PV)(o2:Nat):Option (St×Prop):=
 match Nat.ble 1 j.size,Nat.ble 1 j.bytes,Nat.beq j.zero.length j.size with
 | true,true,true=>match p with
  | .nil=>match look st.hp o2,st.erase o2 with
   | some (.arm e' s' m f none),some st1=>match Nat.beq e e',Nat.beq s' j.size,fS I st1 d (.arm e j.size m f none) (.own d) with
    | true,true,some st'=>some (st',Zc 0 m j.bytes j.size f)
    | _,_,_=>none
   | _,_=>none
  | .own o1=>match look st.hp o1,st.erase o1 with
   | some (.arm e1 s1 n f1 none),some st0=>match look st0.hp o2,st0.erase o2,Nat.beq o2 o1 with
    | some (.arm e' s' m f none),some st1,false=>match Nat.beq e e1&&Nat.beq s1 j.size,Nat.beq e e'&&Nat.beq s' j.size,fS I st1 d (.arm e j.size (n+m) (uZ n f1 f) none) (.own d) with
     | true,true,some st'=>some (st',Zc n m j.bytes j.size f)
     | _,_,_=>none
    | _,_,_=>none
   | _,_=>none
  | _=>none
 | _,_,_=>none
def jY(I:Inf)(st:St)(o:Oper):Option (St×Prop):=
 match o.op,o.dst with
 | .alloc e,some d=>match I.ti e with
  | some i=>match fS I st d (.box i.zero) (.ptr d 0) with | some st'=>some (st',True) | none=>none
  | none=>none
 | .box _ x,some d=>match ev st x with
  | some p=>match kR d p.cells with
   | true=>match fS I st d (.box p.cells) (.ptr d 0) with | some st'=>some (st',True) | none=>none
   | false=>none
  | none=>none
 | .buildSlice t len parts,some d=>match I.ti t,gM st parts.toList with
  | some i,some ps=>match i.und with
   | .sl e=>match I.ti e with
    | some j=>match Nat.ble (len*j.size) 16777216,Nat.ble 1 j.size,Nat.beq j.zero.length j.size,nU (fun i=>some (i*j.size,j.size)) (fC j (len*j.size)) ps with
     | true,true,true,some c=>match Hh c,Nat.beq c.length (len*j.size) with
      | some ts,true=>match fS I st d (.arr e j.size len (jM ts j.size)) (.own d) with | some st'=>some (st',True) | none=>none
      | none,true=>match Nat.beq len 1,kR d c,An 0 c with
       | true,true,some (cs,ov)=>match fS I st d (.arm e j.size 1 (fun _=>cs) (bBR ov)) (.own d) with | some st'=>some (st',True) | none=>none
       | _,_,_=>none
      | _,_=>none
     | _,_,_,_=>none
    | none=>none
   | _=>none
  | _,_=>none
 | .store t a x,d=>match I.ti t,ev st a,ev st x with
  | some i,some p,some q=>vU st i d p (stN p q)
  | _,_,_=>none
 | .makeMap t none,some d=>match I.ti t with
  | some i=>match i.und with
   | .mp kt _=>match I.ti kt with
    | some ik=>match fS I st d (.mpb ik.eqn []) (.map d) with | some st'=>some (st',True) | none=>none
    | none=>none
   | _=>none
  | none=>none
 | .mapUpdate t x k v,none=>match ev st x,ev st k,ev st v with
  | some p,some q,some (.t (.bool b))=>match aMK I st t p q with
   | some (n,m,o,ks)=>some ({ st with hp:=(o,.mpb n (Rh m ks b))::del o st.hp },True)
   | none=>none
  | _,_,_=>none
 | .call c,some d=>match c.callee,c.args.toList,c.argTypes.toList with
  | .builtin .append,[s,x],[t,t']=>match Nat.beq t t',I.ti t,ev st s,ev st x with
   | true,some i,some p,some q=>match i.und,wQ st q with
    | .sl e,some (m,f2,s2)=>match I.ti e with
     | some j=>match Nat.ble 1 j.size,Nat.ble 1 j.bytes,okS j.size s2,Nat.beq j.zero.length j.size with
      | true,true,true,true=>match p with
       | .nil=>match fS I st d (.arr e j.size m f2) (.own d) with
        | some st'=>some (st',bFN 0 m j.bytes j.size f2)
        | none=>none
       | .own o=>match look st.hp o,st.erase o with
        | some (.arr e' s' n f1),some st1=>match Nat.beq e e',Nat.beq s' j.size,fS I st1 d (.arr e j.size (n+m) (pJ n f1 f2)) (.own d) with
         | true,true,some st'=>some (st',bFN n m j.bytes j.size f2)
         | _,_,_=>none
        | _,_=>none
       | _=>none
      | _,_,_,_=>none
     | none=>none
    | .sl e,none=>match I.ti e,q with
     | some j,.own o2=>Gg I st d e j p o2
     | _,_=>none
    | _,_=>none
   | _,_,_,_=>none
  | _,_,_=>none
 | _,_=>none
section
variable {P:Program} {E:Env} {F:Nat->Prop} {g:Nat->Value} {st:St} {a:Act} {w:World}
theorem nP{I:Inf}(hn:E.N=I.N)(hnt:E.nt=I.nt)(r:cG E F g st a w){x:bA}{p:PV}{st':St}(h:fS I st d x p=some st') 
  (hv:blk v=some w.heap.size)(Z:w'.heap=w.heap.push ob)(M:w'.os=w.os)(G:w'.tape=w.tape)(D:w'.output=w.output)
  (hx:∀ g',(∀ o,o≠d->g' o=g o)->g' d=v->dA F g' w' d x)(hp:∀ g',g' d=v->VR F g' w' p v)(J:x.plain=true:=by rfl):
  Rel E st' (a.put (some d) v) w':=by
 unfold fS at h;split at h
 ·rename_i st1 h1 h2 h3;cases h;have hd:d<E.nt:=by simp_all
  obtain⟨g',Q⟩:=r.alloc hd (by rw[hn]; exact eX h2) h3 hv Z M G D J hx p hp;exact⟨F,g',Q⟩
 ·cases h
end
section
variable {P:Program} {E:Env} {F:Nat->Prop} {g:Nat->Value} {st:St} {a:Act} {w:World}
theorem VR.one{x:PV}{v:Value}(h:VR F g w x v)(ho:x.one=true):v.oneCell'=true:=by
 cases h with
 | t r=>
  cases r with
  | agg hs hr=>simp[PV.one]at ho
  | _=>rfl
 | tup hs hr=>simp[PV.one]at ho
 | agg hs hr=>simp[PV.one]at ho
 | any h=>simp[PV.one]at ho
 | lit h=>cases v <;> first | rfl | (simp[PV.one]at ho)
 | _=>rfl
theorem gR{info:TypeInfo}{z:Value}(h:P.info? t=some info)(D:info.zero=some z):(zeroValue t).run P w = .ok z w:=by simp[zeroValue,typeInfo,h,D]
theorem Rg{I:Inf}(J:mP P I.ti)(hn:E.N=I.N)(D:E.nt=I.nt)(r:cG E F g st a w){i:dO}(hi:I.ti e=some i){st':St}
  (h:fS I st d (.box i.zero) (.ptr d 0)=some st'):∃ v w',(Instr.alloc e true (.tuple #[])).run P w = .ok v w'/\Rel E st' (a.put (some d) v) w':=by
 obtain⟨info,z,h1,h2,h3,_⟩:=oC (F:=F) (g:=g) (w:=w) (J _ _ hi);refine⟨.pointer (some ⟨w.heap.size,0,none⟩),w.alloc (.cells z.cells e),?_,?_⟩
 ·simp[Instr.alloc,gR h1 h2,newVar,newRow]
 ·refine nP hn D r h rfl rfl rfl rfl rfl (fun M _ hv=>⟨w.heap.size,z.cells,e,hv,heap_alloc_new w _,h3,fun j x v hx Q=>?_⟩) (fun M hv=>.ptr hv);obtain⟨G,z',h1',h2',h3',Z⟩:=oC (F:=F) (g:=M) (w:=w.alloc (.cells z.cells e)) (J _ _ hi);grind
theorem bBB{I:Inf}(hn:E.N=I.N)(G:E.nt=I.nt)(r:cG E F g st a w){p:PV}(hv:VR F g w p v)(hm:kR d p.cells=true){st':St}
  (h:fS I st d (.box p.cells) (.ptr d 0)=some st'):∃ u w',(Instr.box e v).run P w = .ok u w'/\Rel E st' (a.put (some d) u) w':=by
 refine⟨.pointer (some ⟨w.heap.size,0,none⟩),w.alloc (.cells v.cells e),?_,?_⟩
 ·rfl
 ·obtain⟨h1,h2⟩:=hv.cells;refine nP hn G r h rfl rfl rfl rfl rfl (fun Q J D=>⟨w.heap.size,v.cells,e,D,heap_alloc_new w _,h1,fun j x u hx M=>?_⟩) (fun Q hv=>.ptr hv);refine(h2 j x u hx M).mono (fun b hb=>⟨hb,heap_alloc_old w _ (r.w.f1 b hb).1⟩) (fun o ho=>J o ?_);exact qS hm x (lL hx) o ho
structure lO (F:Nat->Prop)(w:World)(s n:Nat)(f:Nat->List T)(get:Nat->Option Value):Prop where
 len:∀ i,i<n->(f i).length=s
 get:∀ (i j:Nat) x,i<n->(f i)[j]? = some x->∃ v,get (i*s+j)=some v/\Rd F w x v
theorem lO.app{f1 M:Nat->List T}{J G D:Nat->Option Value}(h1:lO F w s n f1 J)(h2:lO F w s m M G)
  (e1:∀ k,k<n*s->D k=J k)(Z:∀ k,k<m*s->D (n*s+k)=G k):lO F w s (n+m) (pJ n f1 M) D where
 len:=by
  intro i hi;unfold pJ;split
  ·exact h1.len i ‹_›
  ·exact h2.len _ (by omega)
 get:=by
  intro i j x hi hx;unfold pJ at hx;split at hx
  ·rename_i hlt;obtain⟨v,hv,hr⟩:=h1.get i j x hlt hx;have Q:j<s:=by rw[<-h1.len i hlt]; grind
   refine⟨v,?_,hr⟩;rw[e1]
   ·exact hv
   ·calc i*s+j<i*s+s:=by omega
     _=(i+1)*s:=by rw[jG,yI]
     _<=n*s:=iL _ hlt
  ·rename_i hge;have hlt:i-n<m:=by omega
   obtain⟨v,hv,hr⟩:=h2.get (i-n) j x hlt hx;have Q:j<s:=by rw[<-h2.len _ hlt]; grind
   refine⟨v,?_,hr⟩;have e:i*s+j=n*s+((i-n)*s+j):=by rw[<-Gf,<-jG,show n+(i-n)=i by omega]
   rw[e,Z]
   ·exact hv
   ·calc (i-n)*s+j<(i-n)*s+s:=by omega
     _=(i-n+1)*s:=by rw[jG,yI]
     _<=m*s:=iL _ hlt
theorem lO.mono{F':Nat->Prop}{w':World}{s n:Nat}{f:Nat->List T}{get D:Nat->Option Value}(h:lO F w s n f get)(hF:∀ b,F b->F' b/\w'.heap[b]? = w.heap[b]?)
  (e:∀ k,k<n*s->D k=get k):lO F' w' s n f D where
 len:=h.len
 get:=by
  intro i j x hi hx;obtain⟨v,hv,hr⟩:=h.get i j x hi hx;have G:j<s:=by rw[<-h.len i hi]; grind
  refine⟨v,?_,hr.mono hF⟩;rw[e]
  ·exact hv
  ·calc i*s+j<i*s+s:=by omega
    _=(i+1)*s:=by rw[jG,yI]
    _<=n*s:=iL _ hi
theorem lO.nil{f:Nat->List T}{get:Nat->Option Value}:lO F w s 0 f get:=⟨fun _ h=>absurd h (by omega),fun _ _ _ h=>absurd h (by omega)⟩
structure Src (F:Nat->Prop)(w:World)(s m:Nat)(f:Nat->List T)(v:Value)(news:List Value):Prop where
 shape:(∃ c,v = .slice none m c/\m=0)\/∃ ad c,v = .slice (some ad) m c/\∀ (j:Nat) u,news[j]? = some u->w.cell? (ad.add j)=some u
 len:news.length=m*s
 row:lO F w s m f (news[·]?)
 one:∀ u,u∈news->u.oneCell'=true
theorem aKV(hs:1<=s){f:Nat->List T}(ad:Addr)(c:Nat)(hv:v = .slice (some ad) m c)(ho:∀ i,i<m->lF s (f i)=true)
  (h:∀ (i j:Nat) x,i<m->(f i)[j]? = some x->∃ u,w.cell? (ad.add (i*s+j))=some u/\Rd F w x u):∃ news,Src F w s m f v news:=by
 have D:∀ i,i<m->(f i).length=s:=fun i hi=>by have:=ho i hi;simp only[lF,cQ]at this;simp_all
 have Q:∀ k,k<m*s->∃ u,w.cell? (ad.add k)=some u/\u.oneCell'=true:=by
  intro k hk;have hi:k / s<m:=Nat.div_lt_of_lt_mul (by grind);have M:k % s<(f (k / s)).length:=by rw[D _ hi]; exact Nat.mod_lt _ (by omega)
  obtain⟨u,G,hr⟩:=h (k / s) (k % s) _ hi (iE M);refine⟨u,?_,?_⟩
  ·rw[Nat.mul_comm,Nat.div_add_mod]at G; exact G
  ·have:=ho _ hi;simp only[lF,cQ,fT]at this;exact(VR.t (g:=g0) hr).one (this.2 _ (Ri M))
 have J:∀ k,k<m*s->((List.range (m*s)).map fun k=>(w.cell? (ad.add k)).getD undef)[k]? = w.cell? (ad.add k):=by grind
 refine⟨(List.range (m*s)).map fun k=>(w.cell? (ad.add k)).getD undef,.inr ⟨ad,c,hv,fun j u G=>?_⟩,by simp,⟨D,fun i j x hi hx=>?_⟩,fun u G=>?_⟩
 ·grind
 ·obtain⟨u,G,hr⟩:=h i j x hi hx;have M:j<s:=by grind
  refine⟨u,?_,hr⟩;rw[J _ (by
   calc i*s+j<i*s+s:=by omega
    _=(i+1)*s:=by rw[jG,yI]
    _<=m*s:=iL _ hi)]
  exact G
 grind
where g0:Nat->Value:=fun _=>undef
theorem Ab(r:cG E F g st a w){q:PV}(hv:VR F g w q v){f:Nat->List T}{M:Option Nat}(h:wQ st q=some (m,f,M))(hs:1<=s)
  (G:okS s M=true)(ho:∀ i,i<m->lF s (f i)=true):∃ news,Src F w s m f v news:=by
 have Q:∀ i,i<m->(f i).length=s:=fun i hi=>by have:=ho i hi;simp only[lF,cQ]at this;simp_all
 cases q with
 | own o=>
  simp only[wQ]at h;split at h
  ·rename_i e Z n f' hl;cases h;have D:Z=s:=bS G;subst D;have J:=r.w.hp.obj _ _ (aX hl);cases hv with
   | own hg=>
    rcases J with⟨h1,h2⟩ | ⟨b,cap,cur,h1,h2,h3,h4,h5,h6,h7⟩
    ·rw[hg]at h1; injection h1 with h1 h3 h4;subst h2;exact⟨[],.inl ⟨0,by rw[h1,h3,h4],rfl⟩,by simp,lO.nil,by simp⟩
    ·rw[hg]at h1; injection h1 with h1 h8 h9;refine aKV hs ⟨b,0,none⟩ cap (by rw[h1,h8,h9]) ho (fun i j x hi hx=>?_);obtain⟨u,hu,hr⟩:=h7 i j x hi hx;refine⟨u,?_,hr⟩;rw[Addr.add_none];simpa[World.cell?,h2] using hu
  ·cases h
 | t x=>
  simp only[wQ]at h;split at h
  ·rename_i n f' hx;cases h;cases hv.cells_t rfl with
   | nil h=>rw[hx]at h; simp at h; obtain⟨rfl,rfl⟩:=h; exact⟨[],.inl ⟨_,rfl,rfl⟩,by simp,lO.nil,by simp⟩
   | sl ad cap size vs h hc hF D hv' hr'=>rw[hx]at h; simp at h; obtain⟨rfl,rfl⟩:=h;refine aKV hs ad cap rfl ho (fun i j x hi hx=>?_);grind
   | int=>simp[T.view]at hx
   | bool=>simp[T.view]at hx
   | str=>simp[T.view]at hx
   | fv=>simp[T.view]at hx
   | agg=>simp[T.view]at hx
  ·cases h
 | _=>simp[wQ]at h
end
section
variable {P:Program} {E:Env} {F:Nat->Prop} {g:Nat->Value} {st:St} {a:Act} {w:World}
theorem lO.obj{f:Nat->List T}(h:lO F w s n f (cur[·]?))(h1:g o = .slice (some ⟨b,0,none⟩) n cap)
  (h2:w.heap[b]? = some (.cells cur e (0,0)))(h3:n<=cap)(h4:cap<=maxLen)(D:cur.size=cap*s):dA F g w o (.arr e s n f):=
 .inr ⟨b,cap,cur,h1,h2,h3,h4,D,h.len,h.get⟩
theorem oI{I:Inf}(hn:E.N=I.N)(hnt:E.nt=I.nt)(r:cG E F g st a w){j:dO}(hd:P.underlying t=some (.slice e))(hj:TOk P e j)(ty:TypeId) 
  (hb:1<=j.bytes)(hz:j.zero.length=j.size){f:Nat->List T}{news:List Value}(hs:Src F w j.size m f v news)(hC:m*j.bytes<=140737488355328){st':St}
  (h:fS I st d (.arr e j.size m f) (.own d)=some st'):∃ u w',(Builtin.append_ #[t,t] ty #[.slice none 0 0,v]).run P w = .ok u w'/\Rel E st' (a.put (some d) u) w':=by
 obtain⟨info,z,G,hi2,hi3,_⟩:=oC (F:=F) (g:=g) (w:=w) hj;obtain⟨info',D,hi4,hi5,_⟩:=hj.info;rw[G]at D; cases D;have hm63:m<=140737488355328:=fW (Fo m hb) hC;have J:∀ (x:Value),m=0->(∃ ad c,x = .slice ad 0 c)->(Builtin.append_ #[t,t] ty #[.slice none 0 0,x]).run P w = .ok (.slice none 0 0) w:=by rintro x rfl ⟨ad,c,rfl⟩;cases ad <;> simp[Builtin.append_,run_underlying hd,sizeOf,typeInfo,G,Builtin.lenOf,Builtin.firstCells,loadCells,loadCellsFrom]
 by_cases hm:m=0
 ·refine⟨.slice none 0 0,w,J v hm ?_,?_⟩
  ·rcases hs.shape with⟨c,rfl,_⟩ | ⟨ad,c,rfl,_⟩
   all_goals simp_all
  ·
   unfold fS at h;split at h
   ·rename_i st1 h1 h2 h3;cases h;have hd':d<E.nt:=by simp_all
    refine⟨F,upd g d (.slice none 0 0),r.putW hd' (fun b hb=>⟨hb,rfl⟩) (fun t y hy=>?_) ?_ (.own (bJ ..))⟩
    ·obtain⟨e1,e2⟩:=St.erase_fr h3 t y hy;exact⟨e1,fun o ho=>bP g _ (e2 o ho)⟩
    ·refine⟨HpR.change r.w.hp h3 (fun o ho=>bP g _ ho) (fun b hb=>⟨hb,rfl⟩) (fun _ h=>h) (fun _ _ _ _ _ _=>rfl) (.inl ⟨bJ ..,hm⟩)
      (fun b hb=>by have hb:=hb.toBlk rfl; rw[bJ]at hb; simp[blk]at hb) (fun o y b _ _ _ hb=>by have hb:=hb.toBlk rfl; rw[bJ]at hb; simp[blk]at hb),r.w.f0,r.w.f1,r.w.ext,fun o ho=>?_,r.w.b0⟩
     rw[bP g _ (fun e:o=d=>eX h2 (hn▸e▸ho))];exact r.w.names o ho
   ·cases h
 ·rcases hs.shape with⟨c,rfl,h0⟩ | ⟨ad,c,rfl,hc⟩
  ·omega
  ·have hr:=run_append_nil (P:=P) w t ty e info z hd G hi2 ad m c news (by rw[hi4]; exact hs.len) hc (by omega) (by omega) (by grind);refine⟨_,_,hr,nP hn hnt r h rfl rfl rfl rfl rfl (fun g' _ hv=>?_) (fun g' hv=>.own hv)⟩;have Z:=grownCap_ge w m 0 e;have M:=grownCap_le_maxLen w m 0 e (by simp only[maxLen]; omega);have Q:lO F (w.drew.alloc (.cells (news.toArray++Builtin.zeroCells z.cells (grownCap w m 0 e-m)) e)) j.size m f ((news.toArray++Builtin.zeroCells z.cells (grownCap w m 0 e-m))[·]?):=
    hs.row.mono (fun b hb=>⟨hb,heap_alloc_old w.drew _ (r.w.f1 b hb).1⟩) (fun k hk=>by rw[aCD (by simp; rw[hs.len]; exact hk)]; simp)
   refine Q.obj hv (heap_alloc_new w.drew _) Z M ?_;simp only[Cf,Hv,hs.len,size_zeroCells,hi3,hz,<-jG];simp_all
structure Th (o:Nat)(st st1:St):Prop where
 fr:∀ t y,(t,y)∈st1.fr->(t,y)∈st.fr
 hp:∀ t y,(t,y)∈st1.hp->∃ x,(t,x)∈st.hp/\t≠o/\(∀ F g w,dA F g w t x->dA F g w t y)/\∀ g w b,bC g w t y b->bC g w t x b
theorem Th.of{st st1:St}(h:st.erase o=some st1):Th o st st1:=
 ⟨fun t y hy=>(St.erase_fr h t y hy).1,fun t y hy=>by obtain⟨x,h1,h2,_,h4,D⟩:=St.erase_hp h t y hy; grind⟩
theorem vP{I:Inf}(hn:E.N=I.N)(hnt:E.nt=I.nt)(r:cG E F g st a w){j:dO}(hd:P.underlying t=some (.slice e))(hj:TOk P e j)(ty:TypeId) 
  (hb:1<=j.bytes)(hz:j.zero.length=j.size){f1 f:Nat->List T}{s:Value}(hv:VR F g w (.own o) s){news:List Value}(hs:Src F w j.size m f v news)
  (hC:(n+m)*j.bytes<=140737488355328){st1 st':St}(hl:look st.hp o=some (.arr e j.size n f1))(he:Th o st st1)
  (h:fS I st1 d (.arr e j.size (n+m) (pJ n f1 f)) (.own d)=some st'):∃ u w',(Builtin.append_ #[t,t] ty #[s,v]).run P w = .ok u w'/\Rel E st' (a.put (some d) u) w':=by
 obtain⟨info,z,hi1,hi2,hi3,_⟩:=oC (F:=F) (g:=g) (w:=w) hj;obtain⟨info',hi1',hi4,hi5,_⟩:=hj.info;rw[hi1]at hi1'; cases hi1';have hm63:n+m<=140737488355328:=fW (Fo (n+m) hb) hC;have Z:=aX hl;have hob:=r.w.hp.obj _ _ Z;have r1:cG E F g st1 a w:=⟨r.nt,r.df,fun t y hy=>r.fr t y (he.fr t y hy),⟨⟨fun k y hy=>by
   obtain⟨x,h1,_,h4,_⟩:=he.hp k y hy; exact h4 _ _ _ (r.w.hp.obj k x h1),fun k y b hy hb=>by
   obtain⟨x,h1,_,_,h5⟩:=he.hp k y hy; exact r.w.hp.own k x b h1 (h5 _ _ _ hb),fun k y k' y' b hy hy' hne hb D=>by
   obtain⟨x,h1,_,_,h5⟩:=he.hp k y hy; obtain⟨x',h1',_,_,h5'⟩:=he.hp k' y' hy'; exact r.w.hp.sep k x k' x' b h1 h1' hne (h5 _ _ _ hb) (h5' _ _ _ D)⟩,
   r.w.f0,r.w.f1,r.w.ext,r.w.names,r.w.b0⟩⟩
 cases hv with
 | own hg=>
  rcases hob with⟨h1,h2⟩ | ⟨b,cap,cur,h1,h2,h3,h4,h5,h6,h7⟩
  ·rw[h1]at hg; cases hg; subst h2;have hf:fS I st1 d (.arr e j.size m (pJ 0 f1 f)) (.own d)=some st':=by simp_all
   have hs':Src F w j.size m (pJ 0 f1 f) v news:=by
    have:pJ 0 f1 f=f:=by funext i; rfl
    simp_all
   exact oI hn hnt r1 hd hj ty hb hz hs' (by simp_all) hf
  ·rw[h1]at hg; injection hg with e1 e2 e3; subst e1; subst e2; subst e3;have old:lO F w j.size n f1 (cur[·]?):=⟨h6,h7⟩;have hFb:¬ F b:=(r.w.hp.own o _ b Z (.self (by rw[h1]; rfl))).1;have hBb:=(r.w.hp.own o _ b Z (.self (by rw[h1]; rfl))).2;have hblt:b<w.heap.size:=(Ob.1 h2).1;by_cases J:n+m<=cap
   ·
    have hfit:n*j.size+news.length<=cur.size:=by rw[hs.len,h5,<-jG]; exact iL _ J
    have hrun:(Builtin.append_ #[t,t] ty #[.slice (some ⟨b,0,none⟩) n cap,v]).run P w =
      .ok (.slice (some ⟨b,0,none⟩) (n+m) cap) (w.setRow b (cur.toList.take (n*j.size)++news++cur.toList.drop (n*j.size+news.length)).toArray):=by
     rcases hs.shape with⟨c,rfl,h0⟩ | ⟨ad,c,rfl,hc⟩
     ·subst h0;have hn0:news=[]:=zO (by simpa using hs.len);subst hn0;simp only[eQ,rV,yV,gV,nH];have hself:w.setRow b cur=w:=setRow_self w b cur e (0,0) h2;rw[hself];simp[Builtin.append_,run_underlying hd,sizeOf,typeInfo,hi1,Builtin.lenOf,Builtin.firstCells,storeCells,h3]
     ·have:=run_append_room (P:=P) w t ty e info hd hi1 b n cap cur h2 ad m c news (by rw[hi4]; exact hs.len) hc hs.one J (by simp_all);simp_all
    have Q:∀ k,k≠b->(w.setRow b (cur.toList.take (n*j.size)++news++cur.toList.drop (n*j.size+news.length)).toArray).heap[k]? = w.heap[k]?:=fun k hk=>setRow_other w b k _ hk;have hFo:∀ k,F k->F k/\(w.setRow b (cur.toList.take (n*j.size)++news++cur.toList.drop (n*j.size+news.length)).toArray).heap[k]? = w.heap[k]?:=
     fun k hk=>⟨hk,Q k (fun e=>hFb (e▸hk))⟩
    refine⟨_,_,hrun,?_⟩;unfold fS at h;split at h
    ·rename_i st2 g1 g2 g3;cases h;have hd':d<E.nt:=by simp_all
     refine⟨F,upd g d (.slice (some ⟨b,0,none⟩) (n+m) cap),r1.putW hd' hFo (fun t y hy=>?_) ?_ (.own (bJ ..))⟩
     ·obtain⟨e1,e2⟩:=St.erase_fr g3 t y hy;exact⟨e1,fun o ho=>bP g _ (e2 o ho)⟩
     ·have hne:∀ k y,(k,y)∈st1.hp->k≠o:=fun k y hy=>by obtain⟨_,_,h',_⟩:=he.hp k y hy; exact h'
      have hdis:∀ k y G,(k,y)∈st1.hp->bC g w k y G->G≠b:=by intro k y G hy D heq;subst heq;obtain⟨x,hx1,hx2,_,hx5⟩:=he.hp k y hy;exact r.w.hp.sep k x o _ G hx1 Z hx2 (hx5 _ _ _ D) (.self (by rw[h1]; rfl))
      refine⟨HpR.change r1.w.hp g3 (fun o ho=>bP g _ ho) hFo (fun _ h=>h) (fun k y G hk _ D=>Q G (hdis k y G hk D)) ?_
       (fun G D=>?_) (fun k y G hk _ D M=>?_),r.w.f0,fun k hk=>⟨by simpa using (r.w.f1 k hk).1,(r.w.f1 k hk).2⟩,
       r.w.ext.trans rfl rfl rfl (by simp) (fun k hk hB=>Q k (fun e=>?_)),fun k hk=>?_,r.w.b0⟩
      ·refine lO.obj (b:=b) (cap:=cap) (cur:=(cur.toList.take (n*j.size)++news++cur.toList.drop (n*j.size+news.length)).toArray) ?_ (bJ ..) (setRow_heap w b cur _ e _ h2) J h4 ?_
       ·refine lO.app (old.mono hFo (fun _ _=>rfl)) (hs.row.mono hFo (fun _ _=>rfl)) (fun k hk=>?_) (fun k hk=>?_)
        ·grind
        ·have hln:=hs.len;simp only[Hx,cR];rw[nD (by simp; omega)];simp only[dU,rD];rw[show n*j.size+k-min (n*j.size) cur.size=k by omega,pO (by omega)]
       grind
      ·have D:=D.toBlk rfl; rw[bJ]at D; simp[blk]at D; simp_all
      ·have M:=M.toBlk rfl; rw[bJ]at M; simp[blk]at M; grind
      ·grind
      ·rw[bP g _ (fun e:k=d=>eX g2 (hn▸e▸hk))];exact r.w.names k hk
    ·cases h
   ·
    rcases hs.shape with⟨c,rfl,h0⟩ | ⟨ad,c,rfl,hc⟩
    ·omega
    ·have hol:(cur.toList.take (n*j.size)).length=n*info.size:=by simp_all
     have hr:=run_append_grow (P:=P) w t ty e info z hd hi1 hi2 ⟨b,0,none⟩ n cap (cur.toList.take (n*j.size)) hol (fun k u hu=>by
      rw[Addr.add_none,iY];rw[tC]at hu;split at hu
      ·simpa[World.cell?,h2] using hu
      ·cases hu) ad m c news (by rw[hi4]; exact hs.len) hc (by omega) (by omega) (growslice_fits (by omega) (by simp_all))
     refine⟨_,_,hr,nP hn hnt r1 h rfl rfl rfl rfl rfl (fun g' _ hv=>?_) (fun g' hv=>.own hv)⟩;have hcap:=grownCap_ge w (n+m) cap e;have hcapm:=grownCap_le_maxLen w (n+m) cap e (by simp only[maxLen]; omega);have hlen1:(cur.toList.take (n*j.size)).length=n*j.size:=by rw[hol,hi4]
     refine lO.obj ?_ hv (heap_alloc_new w.drew _) hcap hcapm ?_
     ·have hFF:∀ G,F G->F G/\(w.drew.alloc (.cells ((cur.toList.take (n*j.size)).toArray++news.toArray++Builtin.zeroCells z.cells (grownCap w (n+m) cap e-(n+m))) e)).heap[G]? = w.heap[G]?:=
       fun G D=>⟨D,heap_alloc_old w.drew _ (r.w.f1 G D).1⟩
      refine lO.app (old.mono hFF (fun _ _=>rfl)) (hs.row.mono hFF (fun _ _=>rfl)) (fun k hk=>?_) (fun k hk=>?_)
      ·grind
      ·have hln:=hs.len;grind
     ·simp only[Cf,Hv,hlen1,hs.len,size_zeroCells,hi3,hz,<-jG];simp_all
end
section
variable {P:Program} {E:Env} {F:Nat->Prop} {g:Nat->Value} {st:St} {a:Act} {w:World}
theorem Fz.one{x:Cel}{v:Value}(h:Fz F w x v)(hx:x.mv=true):v.oneCell'=true:=by
 cases x with
 | d y=>exact(VR.t (g:=fun _=>undef) h).one hx
 | row e s n f=>rcases h with⟨h,_⟩ | ⟨b,cap,cur,h,_⟩ <;> (rw[h]; rfl)
 | nl=>rw[show v = .slice none 0 0 from h]; rfl
 | any=>cases hx
structure oV (F:Nat->Prop)(w:World)(s n:Nat)(f:Nat->List Cel)(get:Nat->Option Value)(O:Nat->Prop):Prop where
 len:∀ i,i<n->(f i).length=s
 cell:∀ (i j:Nat) x,i<n->(f i)[j]? = some x->∃ v,get (i*s+j)=some v/\Fz F w x v
 sep:∀ (i j i' j':Nat) x x' v v' c,i<n->i' < n->(f i)[j]? = some x->(f i')[j']? = some x'->x.owned=true->x'.owned=true->get (i*s+j)=some v->get (i'*s+j')=some v'->blk v=some c->blk v'=some c->i=i'/\j=j'
 own:∀ (i j:Nat) x v c,i<n->(f i)[j]? = some x->x.owned=true->get (i*s+j)=some v->blk v=some c->O c
theorem oV.nil{f:Nat->List Cel}{get:Nat->Option Value}:oV F w s 0 f get O:=
 ⟨fun _ h=>absurd h (by omega),fun _ _ _ h=>absurd h (by omega),fun _ _ _ _ _ _ _ _ _ h=>absurd h (by omega),fun _ _ _ _ _ h=>absurd h (by omega)⟩
theorem Al.part{f:Nat->List Cel}{ov:Option (Nat×Nat×PV)}(h:Al F g w b s n f ov cur)(O:Nat->Prop)
  (D:∀ (i j:Nat) x v c,i<n->(f i)[j]? = some x->x.owned=true->cur[i*s+j]? = some v->blk v=some c->O c):oV F w s n f (cur[·]?) O:=⟨h.len,h.cell,h.sep,D⟩
theorem Wz{i:Nat}(hi:i<n)(D:j<s):i*s+j<n*s:=by
 calc i*s+j<i*s+s:=by omega
  _=(i+1)*s:=by rw[jG,yI]
  _<=n*s:=iL _ hi
theorem oV.mono{F':Nat->Prop}{w':World}{s n:Nat}{f:Nat->List Cel}{get D:Nat->Option Value}{O:Nat->Prop}(h:oV F w s n f get O)(hF:∀ b,F b->F' b/\w'.heap[b]? = w.heap[b]?)
  (hO:∀ c,O c->w'.heap[c]? = w.heap[c]?)(e:∀ k,k<n*s->D k=get k):oV F' w' s n f D O:=by
 have he:∀ (i j:Nat) x,i<n->(f i)[j]? = some x->D (i*s+j)=get (i*s+j):=fun i j x hi hx=>e _ (Wz hi (by rw[<-h.len i hi]; grind));refine⟨h.len,fun i j x hi hx=>?_,fun i j i' j' x Z v v' c hi M hx G ho Q hv J=>?_,fun i j x v c hi hx ho hv hc=>?_⟩
 ·obtain⟨v,hv,hR⟩:=h.cell i j x hi hx;exact⟨v,by simp_all,hR.mono hF fun b hy hb=>hO b (h.own i j x v b hi hx hy hv hb)⟩
 ·rw[he i j x hi hx]at hv; rw[he i' j' Z M G]at J;exact h.sep i j i' j' x Z v v' c hi M hx G ho Q hv J
 ·rw[he i j x hi hx]at hv;exact h.own i j x v c hi hx ho hv hc
theorem oV.app{f1 f2:Nat->List Cel}{g1 g2 g3:Nat->Option Value}{O1 O2:Nat->Prop}(h1:oV F w s n f1 g1 O1)(h2:oV F w s m f2 g2 O2)(hd:∀ c,O1 c->O2 c->False)
  (e1:∀ k,k<n*s->g3 k=g1 k)(e2:∀ k,k<m*s->g3 (n*s+k)=g2 k):oV F w s (n+m) (uZ n f1 f2) g3 (fun c=>O1 c\/O2 c):=by
 have lo:∀ (i j:Nat) x,i<n->(uZ n f1 f2 i)[j]? = some x->(f1 i)[j]? = some x/\g3 (i*s+j)=g1 (i*s+j):=by intro i j x hi hx;unfold uZ at hx;rw[aA hi]at hx;exact⟨hx,e1 _ (Wz hi (by rw[<-h1.len i hi]; grind))⟩
 have M:∀ (i j:Nat) x,i<n+m->¬ i<n->(uZ n f1 f2 i)[j]? = some x->i-n<m/\(f2 (i-n))[j]? = some x/\g3 (i*s+j)=g2 ((i-n)*s+j):=by
  intro i j x hi hn hx;unfold uZ at hx;rw[aF hn]at hx;have hlt:i-n<m:=by omega
  have hj:j<s:=by rw[<-h2.len _ hlt]; grind
  have e:i*s+j=n*s+((i-n)*s+j):=by rw[<-Gf,<-jG,show n+(i-n)=i by omega]
  exact⟨hlt,hx,by rw[e,e2 _ (Wz hlt hj)]⟩
 refine⟨fun i hi=>?_,fun i j x hi hx=>?_,fun i j i2 j2 x x2 v v2 c hi hi2 hx Q ho Z hv hv2 hc hc2=>?_,fun i j x v c hi hx ho hv hc=>?_⟩
 ·unfold uZ;split
  ·exact h1.len i ‹_›
  ·exact h2.len _ (by omega)
 ·by_cases hn:i<n
  ·obtain⟨G,J⟩:=lo i j x hn hx;rw[J]; exact h1.cell i j x hn G
  ·obtain⟨q0,G,J⟩:=M i j x hi hn hx;rw[J]; exact h2.cell _ j x q0 G
 ·by_cases hn:i<n
  ·obtain⟨G,J⟩:=lo i j x hn hx;rw[J]at hv;by_cases D:i2<n
   ·obtain⟨p1,p2⟩:=lo i2 j2 x2 D Q;rw[p2]at hv2;exact h1.sep i j i2 j2 x x2 v v2 c hn D G p1 ho Z hv hv2 hc hc2
   ·obtain⟨p0,p1,p2⟩:=M i2 j2 x2 hi2 D Q;rw[p2]at hv2;exact(hd c (h1.own i j x v c hn G ho hv hc) (h2.own _ j2 x2 v2 c p0 p1 Z hv2 hc2)).elim
  ·obtain⟨q0,G,J⟩:=M i j x hi hn hx;rw[J]at hv;by_cases D:i2<n
   ·obtain⟨p1,p2⟩:=lo i2 j2 x2 D Q;rw[p2]at hv2;exact(hd c (h1.own i2 j2 x2 v2 c D p1 Z hv2 hc2) (h2.own _ j x v c q0 G ho hv hc)).elim
   ·obtain⟨p0,p1,p2⟩:=M i2 j2 x2 hi2 D Q;rw[p2]at hv2;have:=h2.sep _ j _ j2 x x2 v v2 c q0 p0 G p1 ho Z hv hv2 hc hc2;omega
 ·by_cases hn:i<n
  ·obtain⟨G,J⟩:=lo i j x hn hx;rw[J]at hv;exact .inl (h1.own i j x v c hn G ho hv hc)
  ·obtain⟨q0,G,J⟩:=M i j x hi hn hx;rw[J]at hv;exact .inr (h2.own _ j x v c q0 G ho hv hc)
theorem oV.toC{f:Nat->List Cel}(h:oV F w s n f (cur[·]?) O)(hb:¬ O b):Al F g w b s n f none cur:=
 ⟨h.len,h.cell,h.sep,fun i j x v hi hx ho hv D=>hb (h.own i j x v b hi hx ho hv D),fun i j p e=>by cases e⟩
theorem oV.foot{e:Nat}{f:Nat->List Cel}(h:oV F w' s n f (cur[·]?) O)(D:g' d = .slice (some ⟨b,0,none⟩) n cap)(hb:w'.heap[b]? = some (.cells cur e (0,0)))
  {c:Nat}(hf:bC g' w' d (.arm e s n f none) c):c=b\/O c:=by
 cases hf with
 | self h'=>rw[D]at h'; simp[blk]at h'; omega
 | arm h1 h2 h3 h4 h5 h6 h7=>rw[D]at h1;injection h1 with h1 _ _;injection h1 with h1; injection h1 with h1;subst h1;rw[hb]at h2;injection h2 with h2; injection h2 with h2;subst h2;exact .inr (h.own _ _ _ _ _ h3 h4 h5 h6 h7)
structure bDY (F:Nat->Prop)(w:World)(s m:Nat)(f:Nat->List Cel)(v:Value)(news:List Value)(O:Nat->Prop):Prop where
 shape:(∃ c,v = .slice none m c/\m=0)\/∃ ad c,v = .slice (some ad) m c/\∀ (j:Nat) u,news[j]? = some u->w.cell? (ad.add j)=some u
 len:news.length=m*s
 part:oV F w s m f (news[·]?) O
 one:∀ u,u∈news->u.oneCell'=true
theorem aBP{e:Nat}(hs:1<=s){f:Nat->List Cel}(hb:w.heap[b]? = some (.cells cur e (0,0)))(hm:m<=cap)(Q:cur.size=cap*s)(hp:oV F w s m f (cur[·]?) O)
  (ho:∀ i,i<m->aGT s (f i)=true):∃ news,bDY F w s m f (.slice (some ⟨b,0,none⟩) m cap) news O:=by
 have hle:m*s<=cur.size:=by rw[Q]; exact iL _ hm
 have D:∀ k,k<m*s->(cur.toList.take (m*s))[k]? = cur[k]?:=fun k hk=>by simp_all
 refine⟨cur.toList.take (m*s),.inr ⟨⟨b,0,none⟩,cap,rfl,fun j u G=>?_⟩,by simp; omega,hp.mono (fun b h=>⟨h,rfl⟩) (fun _ _=>rfl) D,fun u G=>?_⟩
 ·have M:j<m*s:=by grind
  rw[D j M]at G;rw[Addr.add_none,iY];simpa[World.cell?,hb] using G
 ·obtain⟨k,hk,rfl⟩:=Cq.1 G;have hk':k<m*s:=by grind
  have hi:k / s<m:=Nat.div_lt_of_lt_mul (by grind);have M:k % s<(f (k / s)).length:=by rw[hp.len _ hi]; exact Nat.mod_lt _ (by omega)
  obtain⟨u,G,Z⟩:=hp.cell (k / s) (k % s) _ hi (iE M);have J:=ho _ hi;simp only[aGT,cQ,fT]at J;have h1:=Z.one (J.2 _ (Ri M));rw[Nat.mul_comm,Nat.div_add_mod]at G;grind
theorem tG{I:Inf}(hn:E.N=I.N)(hnt:E.nt=I.nt)(r:cG E F g st a w){j:dO}(hd:P.underlying t=some (.slice e))(hj:TOk P e j)(ty:TypeId) 
  (hb:1<=j.bytes)(hz:j.zero.length=j.size)(hs1:1<=j.size){f:Nat->List Cel}(hv:VR F g w (.own o2) v)(hC:Zc 0 m j.bytes j.size f){st1 st':St}
  (hl:look st.hp o2=some (.arm e j.size m f none))(he:Th o2 st st1)(h:fS I st1 d (.arm e j.size m f none) (.own d)=some st'):
  ∃ u w',(Builtin.append_ #[t,t] ty #[.slice none 0 0,v]).run P w = .ok u w'/\Rel E st' (a.put (some d) u) w':=by
 obtain⟨info,z,hi1,hi2,hi3,_⟩:=oC (F:=F) (g:=g) (w:=w) hj;obtain⟨info',hi1',hi4,hi5,_⟩:=hj.info;rw[hi1]at hi1'; cases hi1';obtain⟨hC1,hC2⟩:=hC;rw[iY]at hC1;have hm63:m<=140737488355328:=fW (Fo m hb) hC1;have hlm:=aX hl;have hob:=r.w.hp.obj _ _ hlm;have r1:cG E F g st1 a w:=⟨r.nt,r.df,fun t y hy=>r.fr t y (he.fr t y hy),⟨⟨fun k y hy=>by
   obtain⟨x,h1,_,h4,_⟩:=he.hp k y hy; exact h4 _ _ _ (r.w.hp.obj k x h1),fun k y b hy hb=>by
   obtain⟨x,h1,_,_,h5⟩:=he.hp k y hy; exact r.w.hp.own k x b h1 (h5 _ _ _ hb),fun k y k' y' b hy hy' hne hb D=>by
   obtain⟨x,h1,_,_,h5⟩:=he.hp k y hy; obtain⟨x',h1',_,_,h5'⟩:=he.hp k' y' hy'; exact r.w.hp.sep k x k' x' b h1 h1' hne (h5 _ _ _ hb) (h5' _ _ _ D)⟩,
   r.w.f0,r.w.f1,r.w.ext,r.w.names,r.w.b0⟩⟩
 unfold fS at h;split at h
 case h_2=>cases h
 rename_i st2 g1 g2 g3;cases h;have hd':d<E.nt:=by simp_all
 have hnm:∀ u,∀ k,k∈E.N->upd g d u k=E.g0 k:=fun u k hk=>by rw[bP g _ (fun e:k=d=>eX g2 (hn▸e▸hk))];exact r.w.names k hk
 have hfr:∀ u t y,(t,y)∈st2.fr->(t,y)∈st1.fr/\∀ o,o∈y.names->upd g d u o=g o:=fun u t y hy=>by obtain⟨e1,e2⟩:=St.erase_fr g3 t y hy;exact⟨e1,fun o ho=>bP g _ (e2 o ho)⟩
 have hzero:∀ (x:Value),m=0->(∃ ad c,x = .slice ad 0 c)->(Builtin.append_ #[t,t] ty #[.slice none 0 0,x]).run P w = .ok (.slice none 0 0) w:=by rintro x rfl ⟨ad,c,rfl⟩;cases ad <;> simp[Builtin.append_,run_underlying hd,sizeOf,typeInfo,hi1,Builtin.lenOf,Builtin.firstCells,loadCells,loadCellsFrom]
 cases hv with
 | own hg=>
  by_cases hm:m=0
  ·rename_i n' cap' ad';have hn':n'=m:=by
    rcases hob with⟨h1,h2,_⟩ | ⟨b,cap,cur,h1,_⟩
    all_goals simp_all
   refine⟨.slice none 0 0,w,hzero _ hm ⟨ad',cap',by rw[hn',hm]⟩,F,upd g d (.slice none 0 0),r1.putW hd' (fun b hb=>⟨hb,rfl⟩) (hfr _) ?_ (.own (bJ ..))⟩;have Q:∀ b,bC (upd g d (.slice none 0 0)) w d (.arm e j.size m f none) b->False:=fun b hb=>by
    cases hb with
    | self h=>rw[bJ]at h; simp[blk]at h
    | arm h1=>omega
   exact⟨HpR.change r1.w.hp g3 (fun o ho=>bP g _ ho) (fun b hb=>⟨hb,rfl⟩) (fun _ h=>h) (fun _ _ _ _ _ _=>rfl) (.inl ⟨bJ ..,hm,rfl⟩)
    (fun b hb=>(Q b hb).elim) (fun o y b _ _ _ hb=>Q b hb),r.w.f0,r.w.f1,r.w.ext,hnm _,r.w.b0⟩
  ·rcases hob with⟨h1,h2,_⟩ | ⟨b,cap,cur,h1,h2,h3,h4,h5,hA⟩
   ·omega
   rw[h1]at hg; injection hg with e1 e2 e3; subst e1; subst e2; subst e3;have hO:∀ (i q:Nat) x v c,i<m->(f i)[q]? = some x->x.owned=true->cur[i*j.size+q]? = some v->blk v=some c->bC g w o2 (.arm e j.size m f none) c:=fun i q x v c hi hx ho hv hc=>.arm h1 h2 hi hx ho hv hc;obtain⟨news,hs⟩:=aBP hs1 h2 h3 h5 (hA.part _ hO) hC2;rcases hs.shape with⟨c,hc,h0⟩ | ⟨ad,c,hc,hcell⟩
   ·omega
   injection hc with hc1 hc2 hc3;injection hc1 with hc1;subst hc1 hc3;have hr:=run_append_nil (P:=P) w t ty e info z hd hi1 hi2 _ m cap news (by rw[hi4]; exact hs.len) hcell (by omega) (by omega) (by grind);have hcap:=grownCap_ge w m 0 e;have hcapm:=grownCap_le_maxLen w m 0 e (by omega);generalize J:w.drew.alloc (.cells (news.toArray++Builtin.zeroCells z.cells (grownCap w m 0 e-m)) e)=w' at hr;have G:∀ k,k<w.heap.size->w'.heap[k]? = w.heap[k]?:=fun k hk=>by rw[<-J]; exact heap_alloc_old w.drew _ hk
   have hnew:w'.heap[w.heap.size]? = some (.cells (news.toArray++Builtin.zeroCells z.cells (grownCap w m 0 e-m)) e (0,0)):=by rw[<-J]; exact heap_alloc_new w.drew _
   have hFF:∀ k,F k->F k/\w'.heap[k]? = w.heap[k]?:=fun k hk=>⟨hk,G k (r.w.f1 k hk).1⟩;have hOl:∀ c,bC g w o2 (.arm e j.size m f none) c->c<w.heap.size:=fun c hc=>hc.block (r.w.hp.obj _ _ hlm);have hpart:oV F w' j.size m f ((news.toArray++Builtin.zeroCells z.cells (grownCap w m 0 e-m))[·]?) (bC g w o2 (.arm e j.size m f none)):=
    hs.part.mono hFF (fun c hc=>G c (hOl c hc)) (fun k hk=>by rw[aCD (by simp; rw[hs.len]; exact hk)]; simp)
   refine⟨_,w',hr,F,upd g d (.slice (some ⟨w.heap.size,0,none⟩) m (grownCap w m 0 e)),r1.putW hd' hFF (hfr _) ?_ (.own (bJ ..))⟩;have hsz:w.heap.size<=w'.heap.size:=by grind
   have hsz2:w'.heap.size=w.heap.size+1:=by rw[<-J]; simp[World.alloc]
   have Q:∀ M,bC (upd g d (.slice (some ⟨w.heap.size,0,none⟩) m (grownCap w m 0 e))) w' d (.arm e j.size m f none) M->M=w.heap.size\/bC g w o2 (.arm e j.size m f none) M:=fun M D=>hpart.foot (bJ ..) hnew D;refine⟨HpR.change r1.w.hp g3 (fun o ho=>bP g _ ho) hFF (fun _ h=>h) (fun k y M hk _ D=>G M (D.block (r1.w.hp.obj k y hk))) ?_ (fun M D=>?_) (fun k y M hk _ D Z=>?_),r.w.f0,
    fun k hk=>⟨by have:=(r.w.f1 k hk).1; omega,(r.w.f1 k hk).2⟩,r.w.ext.trans (by rw[<-J]; rfl) (by rw[<-J]; rfl) (by rw[<-J]; rfl) hsz (fun k hk _=>G k (by have:=r.w.ext.size; omega)),hnm _,r.w.b0⟩
   ·exact .inr ⟨_,_,_,bJ ..,hnew,hcap,hcapm,by simp only[Cf,Hv,hs.len,size_zeroCells,hi3,hz,<-jG]; simp_all,hpart.toC fun h=>by grind⟩
   ·rcases Q M D with rfl | D
    ·exact⟨fun hF'=>by grind,.inr r.w.ext.size⟩
    ·exact r.w.hp.own o2 _ M hlm D
   ·obtain⟨x,hx1,hx2,_,hx5⟩:=he.hp k y hk;rcases Q M Z with rfl | Z
    ·have:=D.block (r1.w.hp.obj k y hk); omega
    ·exact r.w.hp.sep k x o2 _ M hx1 hlm hx2 (hx5 _ _ _ D) Z
theorem cG.less{st1:St}(r:cG E F g st a w)(he:Th o st st1):cG E F g st1 a w:=
 ⟨r.nt,r.df,fun t y hy=>r.fr t y (he.fr t y hy),⟨⟨fun k y hy=>by
  obtain⟨x,h1,_,h4,_⟩:=he.hp k y hy; exact h4 _ _ _ (r.w.hp.obj k x h1),fun k y b hy hb=>by
  obtain⟨x,h1,_,_,D⟩:=he.hp k y hy; exact r.w.hp.own k x b h1 (D _ _ _ hb),fun k y k' y' b hy G J hb M=>by
  obtain⟨x,h1,_,_,D⟩:=he.hp k y hy; obtain⟨x',Z,_,_,Q⟩:=he.hp k' y' G; exact r.w.hp.sep k x k' x' b h1 Z J (D _ _ _ hb) (Q _ _ _ M)⟩,
  r.w.f0,r.w.f1,r.w.ext,r.w.names,r.w.b0⟩⟩
theorem Fk{I:Inf}(hn:E.N=I.N)(hnt:E.nt=I.nt)(r:cG E F g st a w){j:dO}(hd:P.underlying t=some (.slice e))(hj:TOk P e j)(ty:TypeId){o1:Nat}
  (hb:1<=j.bytes)(hz:j.zero.length=j.size)(hs1:1<=j.size){f1 f:Nat->List Cel}{s:Value}(hs:VR F g w (.own o1) s)(hv:VR F g w (.own o2) v)(hC:Zc n m j.bytes j.size f){st0 st1 st':St}
  (hl1:look st.hp o1=some (.arm e j.size n f1 none))(he1:Th o1 st st0)(hl2:look st0.hp o2=some (.arm e j.size m f none))(he2:Th o2 st0 st1)(hne:o2≠o1)
  (h:fS I st1 d (.arm e j.size (n+m) (uZ n f1 f) none) (.own d)=some st'):
  ∃ u w',(Builtin.append_ #[t,t] ty #[s,v]).run P w = .ok u w'/\Rel E st' (a.put (some d) u) w':=by
 have r0:=r.less he1;have r1:=r0.less he2;have Z:=aX hl1;have hob:=r.w.hp.obj _ _ Z;cases hs with
 | own hg=>
  rcases hob with⟨h1,h2,_⟩ | ⟨b,cap,cur,h1,h2,h3,h4,h5,hA⟩
  ·rw[h1]at hg; cases hg; subst h2;have e0:uZ 0 f1 f=f:=by funext i; rfl
   rw[e0,iY]at h;exact tG hn hnt r0 hd hj ty hb hz hs1 hv hC hl2 he2 h
  rw[h1]at hg; injection hg with e1 e2 e3; subst e1; subst e2; subst e3;obtain⟨info,z,hi1,hi2,hi3,_⟩:=oC (F:=F) (g:=g) (w:=w) hj;obtain⟨info',hi1',hi4,hi5,_⟩:=hj.info;rw[hi1]at hi1'; cases hi1';obtain⟨hC1,hC2⟩:=hC;have hm63:n+m<=140737488355328:=fW (Fo (n+m) hb) hC1;have M:=aX hl2;obtain⟨X2,hX1,hX2,_,hX5⟩:=he1.hp _ _ M;have hob2:=r0.w.hp.obj _ _ M;have self1:bC g w o1 (.arm e j.size n f1 none) b:=.self (by rw[h1]; rfl);have hFb:¬ F b:=(r.w.hp.own o1 _ b Z self1).1;have hBb:=(r.w.hp.own o1 _ b Z self1).2;have hblt:b<w.heap.size:=(Ob.1 h2).1;have sep2:∀ c,bC g w o2 (.arm e j.size m f none) c->∀ Q,bC g w o1 (.arm e j.size n f1 none) Q->c≠Q:=fun c hc Q D he=>by subst he; exact r.w.hp.sep o2 X2 o1 _ c hX1 Z hne (hX5 _ _ _ hc) D
  have hO1:∀ (i q:Nat) x v c,i<n->(f1 i)[q]? = some x->x.owned=true->cur[i*j.size+q]? = some v->blk v=some c->bC g w o1 (.arm e j.size n f1 none) c/\c≠b:=fun i q x v c hi hx ho hv hc=>
   ⟨.arm h1 h2 hi hx ho hv hc,fun he=>hA.own i q x v hi hx ho hv (he▸hc)⟩
  have hp1:=hA.part (fun c=>bC g w o1 (.arm e j.size n f1 none) c/\c≠b) hO1;obtain⟨news,G⟩:∃ news,bDY F w j.size m f v news (bC g w o2 (.arm e j.size m f none)):=by
   cases hv with
   | own hg2=>
    rcases hob2 with⟨k1,k2,_⟩ | ⟨b2,cap2,cur2,k1,k2,k3,k4,k5,hA2⟩
    ·rw[k1]at hg2; injection hg2 with q1 q2 q3; subst k2; subst q1; subst q2;exact⟨[],.inl ⟨_,rfl,rfl⟩,by simp,.nil,fun u hu=>by cases hu⟩
    ·rw[k1]at hg2; injection hg2 with q1 q2 q3; subst q1; subst q2; subst q3;exact aBP hs1 k2 k3 k5 (hA2.part _ fun i q x v c hi hx ho hv hc=>.arm k1 k2 hi hx ho hv hc) hC2
  have hO2l:∀ c,bC g w o2 (.arm e j.size m f none) c->c<w.heap.size:=fun c hc=>hc.block (r0.w.hp.obj _ _ M);have hO1l:∀ c,bC g w o1 (.arm e j.size n f1 none) c->c<w.heap.size:=fun c hc=>hc.block (r.w.hp.obj _ _ Z);have hdis12:∀ c,(bC g w o1 (.arm e j.size n f1 none) c/\c≠b)->bC g w o2 (.arm e j.size m f none) c->False:=fun c hc D=>sep2 c D c hc.1 rfl;have old:∀ k y,(k,y)∈st1.hp->∃ x,(k,x)∈st.hp/\k≠o1/\k≠o2/\∀ c,bC g w k y c->bC g w k x c:=fun k y hy=>by obtain⟨x,p1,p2,_,p5⟩:=he2.hp k y hy;obtain⟨x',p1',p2',_,p5'⟩:=he1.hp k x p1;grind
  unfold fS at h;split at h
  case h_2=>cases h
  rename_i st2 g1 g2 g3;cases h;have hd':d<E.nt:=by simp_all
  have hnm:∀ u,∀ k,k∈E.N->upd g d u k=E.g0 k:=fun u k hk=>by rw[bP g _ (fun e:k=d=>eX g2 (hn▸e▸hk))];exact r.w.names k hk
  have hfr:∀ u t y,(t,y)∈st2.fr->(t,y)∈st1.fr/\∀ o,o∈y.names->upd g d u o=g o:=fun u t y hy=>by obtain⟨e1,e2⟩:=St.erase_fr g3 t y hy;exact⟨e1,fun o ho=>bP g _ (e2 o ho)⟩
  by_cases hroom:n+m<=cap
  ·have hfit:n*j.size+news.length<=cur.size:=by rw[G.len,h5,<-jG]; exact iL _ hroom
   have hrun:(Builtin.append_ #[t,t] ty #[.slice (some ⟨b,0,none⟩) n cap,v]).run P w =
     .ok (.slice (some ⟨b,0,none⟩) (n+m) cap) (w.setRow b (cur.toList.take (n*j.size)++news++cur.toList.drop (n*j.size+news.length)).toArray):=by
    rcases G.shape with⟨c,rfl,h0⟩ | ⟨ad,c,rfl,hc⟩
    ·subst h0;have hn0:news=[]:=zO (by simpa using G.len);subst hn0;simp only[eQ,rV,yV,gV,nH];have hself:w.setRow b cur=w:=setRow_self w b cur e (0,0) h2;rw[hself];simp[Builtin.append_,run_underlying hd,sizeOf,typeInfo,hi1,Builtin.lenOf,Builtin.firstCells,storeCells,h3]
    ·have:=run_append_room (P:=P) w t ty e info hd hi1 b n cap cur h2 ad m c news (by rw[hi4]; exact G.len) hc G.one hroom (by simp_all);simp_all
   generalize hcur':(cur.toList.take (n*j.size)++news++cur.toList.drop (n*j.size+news.length)).toArray=cur' at hrun;have hoth:∀ k,k≠b->(w.setRow b cur').heap[k]? = w.heap[k]?:=fun k hk=>setRow_other w b k _ hk;have hFo:∀ k,F k->F k/\(w.setRow b cur').heap[k]? = w.heap[k]?:=fun k hk=>⟨hk,hoth k (fun e=>hFb (e▸hk))⟩;have J:oV F (w.setRow b cur') j.size (n+m) (uZ n f1 f) (cur'[·]?) (fun c=>(bC g w o1 (.arm e j.size n f1 none) c/\c≠b)\/bC g w o2 (.arm e j.size m f none) c):=by
    refine oV.app (hp1.mono hFo (fun c hc=>hoth c hc.2) (fun _ _=>rfl)) (G.part.mono hFo (fun c hc=>hoth c (sep2 c hc b self1)) (fun _ _=>rfl)) hdis12 (fun k hk=>?_) (fun k hk=>?_)
    ·grind
    ·have hln:=G.len;rw[<-hcur'];simp only[Hx,cR];rw[nD (by simp; omega)];simp only[dU,rD];rw[show n*j.size+k-min (n*j.size) cur.size=k by omega,pO (by omega)]
   have hheap:(w.setRow b cur').heap[b]? = some (.cells cur' e (0,0)):=setRow_heap w b cur _ e _ h2;have hdis:∀ k y c,(k,y)∈st1.hp->bC g w k y c->c≠b:=fun k y c hy hc he=>by obtain⟨x,p1,p2,p3,p5⟩:=old k y hy;subst he;exact r.w.hp.sep k x o1 _ c p1 Z p2 (p5 c hc) self1
   have hft:∀ c,bC (upd g d (.slice (some ⟨b,0,none⟩) (n+m) cap)) (w.setRow b cur') d (.arm e j.size (n+m) (uZ n f1 f) none) c->bC g w o1 (.arm e j.size n f1 none) c\/bC g w o2 (.arm e j.size m f none) c:=fun c hc=>by
    rcases J.foot (bJ ..) hheap hc with rfl | (h | h)
    all_goals simp_all
   refine⟨_,_,hrun,F,upd g d (.slice (some ⟨b,0,none⟩) (n+m) cap),r1.putW hd' hFo (hfr _) ?_ (.own (bJ ..))⟩;refine⟨HpR.change r1.w.hp g3 (fun o ho=>bP g _ ho) hFo (fun _ h=>h) (fun k y c hk _ hc=>hoth c (hdis k y c hk hc)) ?_ (fun c hc=>?_) (fun k y c hk _ hc D=>?_),r.w.f0,fun k hk=>⟨by simpa using (r.w.f1 k hk).1,(r.w.f1 k hk).2⟩,
    r.w.ext.trans rfl rfl rfl (by simp) (fun k hk hB=>hoth k (fun e=>?_)),hnm _,r.w.b0⟩
   ·refine .inr ⟨b,cap,cur',bJ ..,hheap,hroom,h4,?_,J.toC fun h=>?_⟩
    all_goals grind
   ·rcases hft c hc with h | h
    ·exact r.w.hp.own o1 _ c Z h
    ·exact r0.w.hp.own o2 _ c M h
   ·obtain⟨x,p1,p2,p3,p5⟩:=old k y hk;rcases hft c D with h | h
    ·exact r.w.hp.sep k x o1 _ c p1 Z p2 (p5 c hc) h
    ·exact r.w.hp.sep k x o2 X2 c p1 hX1 p3 (p5 c hc) (hX5 _ _ _ h)
   grind
  ·rcases G.shape with⟨c,rfl,h0⟩ | ⟨ad,c,rfl,hc⟩
   ·omega
   have hol:(cur.toList.take (n*j.size)).length=n*info.size:=by simp_all
   have hr:=run_append_grow (P:=P) w t ty e info z hd hi1 hi2 ⟨b,0,none⟩ n cap (cur.toList.take (n*j.size)) hol (fun k u hu=>by
    rw[Addr.add_none,iY];rw[tC]at hu;split at hu
    ·simpa[World.cell?,h2] using hu
    ·cases hu) ad m c news (by rw[hi4]; exact G.len) hc (by omega) (by omega) (growslice_fits (by omega) (by simp_all))
   have hcap:=grownCap_ge w (n+m) cap e;have hcapm:=grownCap_le_maxLen w (n+m) cap e (by simp only[maxLen]; omega);have hlen1:(cur.toList.take (n*j.size)).length=n*j.size:=by rw[hol,hi4]
   generalize hcur':((cur.toList.take (n*j.size)).toArray++news.toArray++Builtin.zeroCells z.cells (grownCap w (n+m) cap e-(n+m)))=cur' at hr;generalize hw':w.drew.alloc (.cells cur' e)=w' at hr;have hold:∀ k,k<w.heap.size->w'.heap[k]? = w.heap[k]?:=fun k hk=>by rw[<-hw']; exact heap_alloc_old w.drew _ hk
   have hnew:w'.heap[w.heap.size]? = some (.cells cur' e (0,0)):=by rw[<-hw']; exact heap_alloc_new w.drew _
   have hFF:∀ k,F k->F k/\w'.heap[k]? = w.heap[k]?:=fun k hk=>⟨hk,hold k (r.w.f1 k hk).1⟩;have J:oV F w' j.size (n+m) (uZ n f1 f) (cur'[·]?) (fun c=>(bC g w o1 (.arm e j.size n f1 none) c/\c≠b)\/bC g w o2 (.arm e j.size m f none) c):=by
    refine oV.app (hp1.mono hFF (fun c hc=>hold c (hO1l c hc.1)) (fun _ _=>rfl)) (G.part.mono hFF (fun c hc=>hold c (hO2l c hc)) (fun _ _=>rfl)) hdis12 (fun k hk=>?_) (fun k hk=>?_)
    ·grind
    ·have hln:=G.len;grind
   have hft:∀ Q,bC (upd g d (.slice (some ⟨w.heap.size,0,none⟩) (n+m) (grownCap w (n+m) cap e))) w' d (.arm e j.size (n+m) (uZ n f1 f) none) Q->Q=w.heap.size\/bC g w o1 (.arm e j.size n f1 none) Q\/bC g w o2 (.arm e j.size m f none) Q:=fun Q D=>by
    rcases J.foot (bJ ..) hnew D with h | (h | h)
    all_goals simp_all
   have hsz2:w'.heap.size=w.heap.size+1:=by rw[<-hw']; simp[World.alloc]
   refine⟨_,w',hr,F,upd g d (.slice (some ⟨w.heap.size,0,none⟩) (n+m) (grownCap w (n+m) cap e)),r1.putW hd' hFF (hfr _) ?_ (.own (bJ ..))⟩;refine⟨HpR.change r1.w.hp g3 (fun o ho=>bP g _ ho) hFF (fun _ h=>h) (fun k y Q hk _ D=>hold Q (D.block (r1.w.hp.obj k y hk))) ?_ (fun Q D=>?_) (fun k y Q hk _ D hc''=>?_),r.w.f0,
    fun k hk=>⟨by have:=(r.w.f1 k hk).1; omega,(r.w.f1 k hk).2⟩,r.w.ext.trans (by rw[<-hw']; rfl) (by rw[<-hw']; rfl) (by rw[<-hw']; rfl) (by omega) (fun k hk _=>hold k (by have:=r.w.ext.size; omega)),hnm _,r.w.b0⟩
   ·refine .inr ⟨_,_,cur',bJ ..,hnew,hcap,hcapm,?_,J.toC fun h=>?_⟩
    ·rw[<-hcur'];simp only[Cf,Hv,hlen1,G.len,size_zeroCells,hi3,hz,<-jG];simp_all
    grind
   ·rcases hft Q D with rfl | h | h
    ·exact⟨fun hF'=>by grind,.inr r.w.ext.size⟩
    ·exact r.w.hp.own o1 _ Q Z h
    ·exact r0.w.hp.own o2 _ Q M h
   ·obtain⟨x,p1,p2,p3,p5⟩:=old k y hk;rcases hft Q hc'' with rfl | h | h
    ·have:=D.block (r1.w.hp.obj k y hk); omega
    ·exact r.w.hp.sep k x o1 _ Q p1 Z p2 (p5 Q D) h
    ·exact r.w.hp.sep k x o2 X2 Q p1 hX1 p3 (p5 Q D) (hX5 _ _ _ h)
end
section
variable {P:Program} {E:Env} {F:Nat->Prop} {g:Nat->Value} {st:St} {a:Act} {w:World}
theorem mE{j:dO}(hj:TOk P e j)(n:Nat)(hz:j.zero.length=j.size)(h1:1<=j.size):∃ info z,P.info? e=some info/\info.zero=some z/\info.size=j.size/\z.cells.size=j.size /\
  ∀ (F:Nat->Prop) (g:Nat->Value) (w:World) (k:Nat) x v,(fC j n)[k]? = some x->((Array.range n).map (z.cells[· % z.cells.size]!))[k]? = some v->VR F g w x v:=by
 obtain⟨info,h1,h2,h3,z,h4,Z⟩:=hj.info;have h6:z.cells.size=j.zero.length:=by simpa using congrArg List.length Z
 refine⟨info,z,h1,h4,h2,by omega,fun F g w k x v hx hv=>?_⟩;simp only[fC,gQ,kC]at hx;obtain⟨M,hk',hx⟩:=hx;have Q:k<n:=by grind
 have J:M=k:=by simp_all
 subst J;simp[Q]at hv;rw[h6]at hv;have G:0<j.zero.length:=by omega
 have hlt:M % j.zero.length<j.zero.length:=Nat.mod_lt _ G;have:=congrArg (·[M % j.zero.length]?) Z;have D:M % j.zero.length<z.cells.size:=by omega
 simp only[gQ,aCA]at this;rw[Array.getElem?_eq_getElem D,iE hlt]at this;simp only[tM,gJ]at this;rw[dV,iE hlt,sH]at hx;rw[getElem!_pos z.cells _ D]at hv;subst hx; subst hv;exact qC this F g w
theorem Lp{ts:List T}{i:Nat}(D:j<s):(jM ts s i)[j]? = ts[i*s+j]?:=by simp only[jM,tC,aA D,Gh]
theorem tP{ts:List T}{i:Nat}(hl:ts.length=n*s)(hi:i<n):(jM ts s i).length=s:=by simp only[jM,dU,vN,hl];have:(i+1)*s<=n*s:=iL _ hi;grind
def zY(c:List PV)(ts:List T):Prop:=ts.length=c.length/\∀ (j:Nat) p x,c[j]? = some p->ts[j]? = some x->∀ F g w v,VR F g w p v->VR F g w (.t x) v
theorem zY.of{c:List PV}{ts:List T}(h:Hh c=some ts):zY c ts:=by have hc:=Nx h;subst hc;refine⟨by simp,fun j p x hp hx F g w v hv=>?_⟩;simp_all
theorem oM{I:Inf}(hn:E.N=I.N)(hnt:E.nt=I.nt)(r:cG E F g st a w){j:dO}(hd:P.underlying t=some (.slice e))(hj:TOk P e j){len:Nat}
  {ps:List (Nat×PV)}(hps:gM st parts.toList=some ps)(h1:len*j.size<=16777216)(h2:1<=j.size)(hz:j.zero.length=j.size){c:List PV}
  (hc:nU (fun i=>some (i*j.size,j.size)) (fC j (len*j.size)) ps=some c){ts:List T}(G:zY c ts)(Z:c.length=len*j.size){st':St}
  (h:fS I st d (.arr e j.size len (jM ts j.size)) (.own d)=some st'):
  ∃ u w',(Instr.buildSlice t len (parts.map fun (i,x)=>(i,a.eval x))).run P w = .ok u w'/\Rel E st' (a.put (some d) u) w':=by
 obtain⟨info,z,hi1,hi2,hi3,hi4,hi5⟩:=mE hj (len*j.size) hz h2;obtain⟨hl,hp⟩:=mO r _ _ hps;obtain⟨oc,D,ho2,ho3⟩:=uF (F:=F) (g:=g) (w:=w) ps (parts.toList.map fun (i,x)=>(i,a.eval x)) (fC j (len*j.size)) ((Array.range (len*j.size)).map (z.cells[· % z.cells.size]!)) c
  (by simp[hl]) hp (by simp[fC]) (hi5 F g w) hc
 have J:ts.length=len*j.size:=by rw[<-Z]; exact G.1
 have hsz:(sizeOf e).run P w = .ok j.size w:=run_sizeOf hj;refine⟨.slice (some ⟨w.heap.size,0,none⟩) len len,w.alloc (.cells oc e),?_,nP hn hnt r h rfl rfl rfl rfl rfl (fun g' _ hv=>?_) (fun g' hv=>.own hv)⟩
 ·have:(parts.map fun (i,x)=>(i,a.eval x)).toList=parts.toList.map fun (i,x)=>(i,a.eval x):=by simp
  rw[<-this]at D;unfold Instr.buildSlice;rw[Sem.run_bind,run_underlying hd];simp only[Result.andThen_ok];rw[Sem.run_bind,hsz];simp only[Result.andThen_ok];rw[aF];by_cases h0:len*j.size=0
  ·rw[aA h0];have M:∀ f:Nat->Value,(Array.range 0).map f=#[]:=fun f=>Cp (by simp);rw[h0,M]at D;rw[h0];simp only[Sem.run_bind,Sem.run_pure,Result.andThen_ok,M];rw[D];simp[newRow]
  ·rw[aF h0];simp only[Sem.run_bind,Sem.run_pure,Result.andThen_ok,gR hi1 hi2];rw[D];simp[newRow]
 ·refine lO.obj (cur:=oc) ⟨fun i hi=>tP J hi,fun i k x hi hx=>?_⟩ hv (heap_alloc_new w _) (cM _) ?_ (by rw[ho2,Z])
  ·have hk:k<j.size:=by rw[<-tP J hi]; grind
   rw[Lp hk]at hx;have hlt:i*j.size+k<oc.size:=by grind
   have Q:i*j.size+k<c.length:=by omega
   refine⟨oc[i*j.size+k],by simp[hlt],?_⟩;have:=G.2 _ _ _ (by simp[Q]) hx _ _ _ _ (ho3 (i*j.size+k) c[i*j.size+k] oc[i*j.size+k] (by simp[Q]) (by simp[hlt]));exact(this.cells_t rfl).mono fun b hb=>⟨hb,heap_alloc_old w _ (r.w.f1 b hb).1⟩
  ·have:len<=len*j.size:=Fo _ h2;simp only[maxLen]; omega
theorem Hm{p:PV}{c:Cel}{o:Option PV}(h:aAT p=some (c,o)):(∃ y,p = .t y/\c = .d y/\o=none)\/(p = .nil/\c = .nl/\o=none)\/(∃ q,p = .own q/\c = .any/\o=some p):=by
 unfold aAT at h
 all_goals grind
theorem Ax:∀ {l:List PV} {j0:Nat} {cs:List Cel} {o:Option (Nat×PV)},An j0 l=some (cs,o) ->
  cs.length=l.length/\(∀ (q:Nat) x,cs[q]? = some x->∃ p o,l[q]? = some p/\aAT p=some (x,o))/\∀ j p,o=some (j,p)->∃ q,j=j0+q/\l[q]? = some p/\cs[q]? = some .any
 | [],j0,cs,o,h=>by simp only[An,gJ,gE]at h;grind
 | p::l,j0,cs,o,h=>by
  simp only[An]at h;split at h
  ·rename_i c r o' hc hr;cases h;obtain⟨h1,h2,h3⟩:=Ax hr;refine⟨by simp[h1],fun q x hx=>?_,fun j p' e=>?_⟩
   ·grind
   ·obtain⟨q,e1,e2,e3⟩:=h3 j p' e;exact⟨q+1,by omega,by simp_all,by simp_all⟩
  ·rename_i c p' r hc hr;cases h;obtain⟨h1,h2,h3⟩:=Ax hr;refine⟨by simp[h1],fun q x hx=>?_,fun j p'' e=>?_⟩
   ·grind
   ·cases e;rcases Hm hc with⟨_,_,_,h⟩ | ⟨_,_,h⟩ | ⟨q,e1,e2,e3⟩
    all_goals simp_all
  ·cases h
theorem aGU{I:Inf}(hn:E.N=I.N)(hnt:E.nt=I.nt)(r:cG E F g st a w){x:bA}{p:PV}{st':St}(h:fS I st d x p=some st') 
  (hv:blk v=some w.heap.size)(Z:w'.heap=w.heap.push ob)(J:w'.os=w.os)(G:w'.tape=w.tape)(D:w'.output=w.output)
  (hx:∀ g',(∀ o,o≠d->g' o=g o)->g' d=v->dA F g' w' d x)(hp:∀ g',g' d=v->VR F g' w' p v)(Q:∀ g' b,g' d=v->bC g' w' d x b->blk v=some b):
  Rel E st' (a.put (some d) v) w':=by
 unfold fS at h;split at h
 ·rename_i st1 h1 h2 h3;cases h;have hd:d<E.nt:=by simp_all
  obtain⟨g',M⟩:=r.allocF hd (by rw[hn]; exact eX h2) h3 hv Z J G D Q hx p hp;exact⟨F,g',M⟩
 ·cases h
theorem Hg{I:Inf}(hn:E.N=I.N)(hnt:E.nt=I.nt)(r:cG E F g st a w){j:dO}(hd:P.underlying t=some (.slice e))(hj:TOk P e j){len:Nat}(hlen:len=1)
  {ps:List (Nat×PV)}(hps:gM st parts.toList=some ps)(h1:len*j.size<=16777216)(h2:1<=j.size)(hz:j.zero.length=j.size){c:List PV}
  (hc:nU (fun i=>some (i*j.size,j.size)) (fC j (len*j.size)) ps=some c)(hm:kR d c=true){cs:List Cel}{ov:Option (Nat×PV)}(hcs:An 0 c=some (cs,ov))(Z:c.length=len*j.size){st':St}
  (h:fS I st d (.arm e j.size 1 (fun _=>cs) (bBR ov)) (.own d)=some st'):
  ∃ u w',(Instr.buildSlice t len (parts.map fun (i,x)=>(i,a.eval x))).run P w = .ok u w'/\Rel E st' (a.put (some d) u) w':=by
 obtain⟨info,z,hi1,hi2,hi3,hi4,hi5⟩:=mE hj (len*j.size) hz h2;obtain⟨hl,hp⟩:=mO r _ _ hps;obtain⟨oc,Q,ho2,ho3⟩:=uF (F:=F) (g:=g) (w:=w) ps (parts.toList.map fun (i,x)=>(i,a.eval x)) (fC j (len*j.size)) ((Array.range (len*j.size)).map (z.cells[· % z.cells.size]!)) c
  (by simp[hl]) hp (by simp[fC]) (hi5 F g w) hc
 obtain⟨k1,k2,k3⟩:=Ax hcs;have hsz:(sizeOf e).run P w = .ok j.size w:=run_sizeOf hj;have hosz:oc.size=len*j.size:=by rw[ho2,Z]
 have G:∀ (q:Nat) p v,c[q]? = some p->oc[0*j.size+q]? = some v->VR F g w p v:=fun q p v hp hv=>by grind
 have D:∀ (i q:Nat) (x:Cel),i<1->((fun _:Nat=>cs) i)[q]? = some x->x.owned=true->False:=fun i q x _ hx ho=>by obtain⟨p,o',M,J⟩:=k2 q x hx;rcases Hm J with⟨_,_,h,_⟩ | ⟨_,h,_⟩ | ⟨_,_,h,_⟩ <;> (subst h; cases ho)
 refine⟨.slice (some ⟨w.heap.size,0,none⟩) len len,w.alloc (.cells oc e),?_,aGU hn hnt r h rfl rfl rfl rfl rfl (fun g' hg' hv=>?_) (fun g' hv=>.own hv) (fun g' b hv hf=>?_)⟩
 ·have:(parts.map fun (i,x)=>(i,a.eval x)).toList=parts.toList.map fun (i,x)=>(i,a.eval x):=by simp
  rw[<-this]at Q;unfold Instr.buildSlice;rw[Sem.run_bind,run_underlying hd];simp only[Result.andThen_ok];rw[Sem.run_bind,hsz];simp only[Result.andThen_ok];rw[aF,aF (by grind)];simp only[Sem.run_bind,Sem.run_pure,Result.andThen_ok,gR hi1 hi2];rw[Q];rfl
 ·subst hlen;refine .inr ⟨w.heap.size,1,oc,hv,heap_alloc_new w _,cM _,by simp only[maxLen]; omega,hosz,⟨fun i _=>by rw[k1,Z,yI],fun i q x hi hx=>?_,fun i q i' q' x x' v v' c' hi hi' hx hx' ho=>(D i q x hi hx ho).elim,
   fun i q x v hi hx ho=>(D i q x hi hx ho).elim,fun i q p e'=>?_⟩⟩
  ·obtain rfl:i=0:=by omega
   obtain⟨p,o',M,J⟩:=k2 q x hx;have hq:q<oc.size:=by grind
   refine⟨oc[q],by grind,?_⟩;have hr:=G q p oc[q] M (by grind);rcases Hm J with⟨y,rfl,rfl,_⟩ | ⟨rfl,rfl,_⟩ | ⟨_,_,rfl,_⟩
   ·exact(hr.cells_t rfl).mono fun b hb=>⟨hb,heap_alloc_old w _ (r.w.f1 b hb).1⟩
   ·generalize oc[q]=u at hr ⊢;cases hr; rfl
   ·exact True.intro
  ·unfold bBR at e';split at e'
   ·cases e'
   ·rename_i j' p';cases e';obtain⟨q',M,J,e3⟩:=k3 _ _ rfl;rw[iY]at M; subst M;exact⟨by omega,e3,fun v hv'=>(G _ p v J hv').mono (fun b hb=>⟨hb,heap_alloc_old w _ (r.w.f1 b hb).1⟩) (fun o ho=>hg' o (qS hm p (lL J) o ho))⟩
 ·cases hf with
  | self h=>grind
  | arm q1 q2 q3 q4 q5 q6 q7=>grind
theorem aDS{I:Inf}(hn:E.N=I.N)(Q:E.nt=I.nt)(r:cG E F g st a w){j:dO}(hd:P.underlying t=some (.slice e))(hj:TOk P e j)(ty:TypeId){p:PV}{s:Value}(hs:VR F g w p s)(hv:VR F g w (.own o2) v)
  {st':St}(h:Gg I st d e j p o2=some (st',C))(hC:C):∃ u w',(Builtin.append_ #[t,t] ty #[s,v]).run P w = .ok u w'/\Rel E st' (a.put (some d) u) w':=by
 unfold Gg at h;split at h
 ·rename_i h1 h2 h3;have h1:=fI h1;have h2:=fI h2;have h3:=bS h3;split at h
  ·split at h
   ·rename_i e' s' m f st1 hl he;split at h
    ·rename_i Z h4 D G;have h4:=bS h4;have D:=bS D;subst h4; subst D;cases h;cases hs;exact tG hn Q r hd hj ty h2 h3 h1 hv hC hl (.of he) G
    ·cases h
   ·cases h
  ·split at h
   ·rename_i o1 e1 s1 n f1 st0 hl1 he1;split at h
    ·rename_i e' s' m f st1 hl2 he2 hne;split at h
     ·rename_i Z h4 D G;simp only[cQ]at h4 D;obtain⟨h4,M⟩:=h4;obtain⟨D,J⟩:=D;have h4:=bS h4;have M:=bS M;have D:=bS D;have J:=bS J;subst h4; subst M; subst D; subst J;cases h;exact Fk hn Q r hd hj ty h2 h3 h1 hs hv hC hl1 (.of he1) hl2 (.of he2) (pB hne) G
     ·cases h
    ·cases h
   ·cases h
  ·cases h
 ·cases h
theorem cG.fresh(r:cG E F g st a w)(hw:w'.heap=w.heap.push ob)(Z:w'.os=w.os)(Q:w'.tape=w.tape)(M:w'.output=w.output)(hd:d<E.nt){p:PV} 
  (hv:VR (fun b=>F b\/b=w.heap.size) g w' p v):cG E (fun b=>F b\/b=w.heap.size) g (st.put d p) (a.put (some d) v) w':=by
 have D:∀ b,b<w.heap.size->w'.heap[b]? = w.heap[b]?:=fun b hb=>by grind
 have hsz:w'.heap.size=w.heap.size+1:=by rw[hw]; simp
 have hF:∀ b,F b->(F b\/b=w.heap.size)/\w'.heap[b]? = w.heap[b]?:=fun b hb=>⟨.inl hb,D b (r.w.f1 b hb).1⟩;have J:∀ o x b,(o,x)∈st.hp->bC g w' o x b->bC g w o x b:=fun o x b hx hb=>hb.mono rfl (fun _ _=>rfl) (fun c hc=>D c ((bC.self hc).block (r.w.hp.obj o x hx)));refine r.putW hd hF (fun t y hy=>⟨hy,fun _ _=>rfl⟩) ⟨⟨fun o x hx=>?_,fun o x b hx hb=>?_,fun o x o' y b hx hy hne hb G=>?_⟩,fun b hb=>.inl (r.w.f0 b hb),fun b hb=>?_,?_,r.w.names,r.w.b0⟩ hv
 ·exact(r.w.hp.obj o x hx).mono hF rfl (fun _ _=>rfl) (fun c hc=>D c (hc.block (r.w.hp.obj o x hx)))
 ·have G:=J o x b hx hb;refine⟨?_,(r.w.hp.own o x b hx G).2⟩;rintro (h | h)
  ·exact(r.w.hp.own o x b hx G).1 h
  ·have:=G.block (r.w.hp.obj o x hx); omega
 ·exact r.w.hp.sep o x o' y b hx hy hne (J o x b hx hb) (J o' y b hy G)
 ·rcases hb with hb | rfl
  ·exact⟨by have:=(r.w.f1 b hb).1; omega,(r.w.f1 b hb).2⟩
  ·exact⟨by omega,.inr (.inr r.w.ext.size)⟩
 ·refine r.w.ext.trans Z Q M (by omega) (fun b hb _=>D b ?_);have:=r.w.ext.size;omega
theorem rC{nt:Nat}(hnt:E.nt=nt)(r:cG E F g st a w){j:dO}(hd:P.underlying t=some (.slice e))(hj:TOk P e j){len:Nat}
  {ps:List (Nat×PV)}(hps:gM st parts.toList=some ps)(h1:len*j.size<=16777216)(h2:1<=j.size)(hz:j.zero.length=j.size){c:List PV}
  (hc:nU (fun i=>some (i*j.size,j.size)) (fC j (len*j.size)) ps=some c){ts:List T}(G:zY c ts)(Z:c.length=len*j.size)(hdn:d<nt):
  ∃ u w' F',(Instr.buildSlice t len (parts.map fun (i,x)=>(i,a.eval x))).run P w = .ok u w'/\cG E F' g (st.put d (.t (.sl len (jM ts j.size)))) (a.put (some d) u) w':=by
 obtain⟨info,z,hi1,hi2,hi3,hi4,hi5⟩:=mE hj (len*j.size) hz h2;obtain⟨hl,hp⟩:=mO r _ _ hps;obtain⟨oc,D,ho2,ho3⟩:=uF (F:=F) (g:=g) (w:=w) ps (parts.toList.map fun (i,x)=>(i,a.eval x)) (fC j (len*j.size)) ((Array.range (len*j.size)).map (z.cells[· % z.cells.size]!)) c
  (by simp[hl]) hp (by simp[fC]) (hi5 F g w) hc
 have J:ts.length=len*j.size:=by rw[<-Z]; exact G.1
 have hsz:(sizeOf e).run P w = .ok j.size w:=run_sizeOf hj;refine⟨.slice (some ⟨w.heap.size,0,none⟩) len len,w.alloc (.cells oc e),fun b=>F b\/b=w.heap.size,?_,r.fresh (ob:=.cells oc e) (w':=w.alloc (.cells oc e)) rfl rfl rfl rfl (hnt▸hdn) (.t (.sl ⟨w.heap.size,0,none⟩ len j.size (fun i k=>oc.getD (i*j.size+k) undef) rfl (cM _) (fun _=>.inr rfl) (fun i hi=>tP J hi) (fun i k hi hk=>?_) (fun i k x hi hx=>?_)))⟩
 ·have:(parts.map fun (i,x)=>(i,a.eval x)).toList=parts.toList.map fun (i,x)=>(i,a.eval x):=by simp
  rw[<-this]at D;unfold Instr.buildSlice;rw[Sem.run_bind,run_underlying hd];simp only[Result.andThen_ok];rw[Sem.run_bind,hsz];simp only[Result.andThen_ok];rw[aF];by_cases h0:len*j.size=0
  ·rw[aA h0];have M:∀ f:Nat->Value,(Array.range 0).map f=#[]:=fun f=>Cp (by simp);rw[h0,M]at D;rw[h0];simp only[Sem.run_bind,Sem.run_pure,Result.andThen_ok,M];rw[D];simp[newRow]
  ·rw[aF h0];simp only[Sem.run_bind,Sem.run_pure,Result.andThen_ok,gR hi1 hi2];rw[D];simp[newRow]
 ·have hlt:i*j.size+k<oc.size:=by
   rw[ho2,Z]
   calc i*j.size+k<i*j.size+j.size:=by omega
    _=(i+1)*j.size:=by rw[Nat.succ_mul]
    _<=len*j.size:=iL _ hi
  rw[Addr.add_none];simp only[iY];have hnew:=heap_alloc_new w (.cells oc e);simp only[World.cell?,hnew];simp[Array.getD,hlt]
 ·have hk:k<j.size:=by rw[<-tP J hi]; grind
  rw[Lp hk]at hx;have hlt:i*j.size+k<oc.size:=by grind
  have Q:i*j.size+k<c.length:=by omega
  have hg:oc.getD (i*j.size+k) undef=oc[i*j.size+k]:=by simp[Array.getD,hlt]
  rw[hg];have:=G.2 _ _ _ (by simp[Q]) hx _ _ _ _ (ho3 (i*j.size+k) c[i*j.size+k] oc[i*j.size+k] (by simp[Q]) (by simp[hlt]));exact(this.cells_t rfl).mono fun b hb=>⟨.inl hb,heap_alloc_old w _ (r.w.f1 b hb).1⟩
theorem wW{cs:Array Value}(hb:¬ F b):∀ k,F k->F k/\(w.setRow b cs).heap[k]? = w.heap[k]?:=
 fun k hk=>⟨hk,setRow_other w b k _ (fun e=>hb (e▸hk))⟩
theorem cG.writeF(r:cG E F g st a w){x y:bA}(hl:(o,x)∈st.hp)(hb:bC g w o x b)(M:∀ k,k≠b->w'.heap[k]? = w.heap[k]?)(Z:w'.heap.size=w.heap.size)(hos:w'.os=w.os)(htp:w'.tape=w.tape)(hout:w'.output=w.output)
  (hy:dA F g w' o y)(hft:∀ k,bC g w' o y k->bC g w o x k):cG E F g { st with hp:=(o,y)::del o st.hp } a w':=by
 have hFb:=(r.w.hp.own o x b hl hb).1;have hBb:=(r.w.hp.own o x b hl hb).2;have hF:∀ k,F k->F k/\w'.heap[k]? = w.heap[k]?:=fun k hk=>⟨hk,M k (fun e=>hFb (e▸hk))⟩;have other:∀ D z G,(D,z)∈del o st.hp->bC g w D z G->G≠b:=by intro D z G hz J e;subst e;exact r.w.hp.sep D z o x G (bB.1 hz).1 hl (bB.1 hz).2 J hb
 have foot:∀ D z G,(D,z)∈(o,y)::del o st.hp->bC g w' D z G->∃ u,(D,u)∈st.hp/\bC g w D u G:=by
  intro D z G hz J;rcases bE.1 hz with e | hz
  ·grind
  ·exact⟨z,(bB.1 hz).1,J.mono rfl (fun _ _=>rfl) (fun c hc=>M c (other D z c hz (.self hc)))⟩
 refine⟨r.nt,r.df,fun t z hz=>(r.fr t z hz).mono hF (fun _ _=>rfl),⟨⟨?_,?_,?_⟩,r.w.f0,fun k hk=>⟨by rw[Z]; exact(r.w.f1 k hk).1,(r.w.f1 k hk).2⟩,
  r.w.ext.trans hos htp hout (Nat.le_of_eq Z.symm) (fun k hk hB=>M k (fun e=>?_)),r.w.names,r.w.b0⟩⟩
 ·intro D z hz;rcases bE.1 hz with e | hz
  ·simp_all
  ·exact(r.w.hp.obj D z (bB.1 hz).1).mono hF rfl (fun _ _=>rfl) (fun G J=>M G (other D z G hz J))
 ·intro D z G hz J;obtain⟨u,h1,h2⟩:=foot D z G hz J;exact r.w.hp.own D u G h1 h2
 ·intro D z Q z' G hz hz' hne hb1 hb2;obtain⟨u,h1,h2⟩:=foot D z G hz hb1;obtain⟨u',h1',h2'⟩:=foot Q z' G hz' hb2;exact r.w.hp.sep D u Q u' G h1 h1' hne h2 h2'
 grind
theorem cG.write(r:cG E F g st a w){x y:bA}(hl:(o,x)∈st.hp)(hb:blk (g o)=some b){cs:Array Value}(_hob:w.heap[b]? = some ob)
  (hy:dA F g (w.setRow b cs) o y)(D:y.plain=true:=by rfl):cG E F g { st with hp:=(o,y)::del o st.hp } a (w.setRow b cs):=
 r.writeF hl (.self hb) (fun k hk=>setRow_other w b k _ hk) (by simp) rfl rfl rfl hy (fun _ hk=>.self (hk.toBlk D))
theorem cG.writeO(r:cG E F g st a w){x y:bA}(hl:(o,x)∈st.hp)(hb:blk (g o)=some b)(_hob:w.heap[b]? = some ob)(G:∀ k,k≠b->w'.heap[k]? = w.heap[k]?)(Q:w'.heap.size=w.heap.size)(Z:w'.os=w.os)(M:w'.tape=w.tape)(D:w'.output=w.output)
  (hy:dA F g w' o y)(J:y.plain=true:=by rfl):cG E F g { st with hp:=(o,y)::del o st.hp } a w':=
 r.writeF hl (.self hb) G Q Z M D hy (fun _ hk=>.self (hk.toBlk J))
theorem Ih{ks:List Int}:∀ {m:List (List Int×Bool)} {i j:Nat} {b:Bool},rF m ks i=some (j,b)->∃ t,j=i+t/\∃ x,m[t]? = some x/\x.1=ks
 | [],i,j,b,h=>by simp[rF]at h
 | e::m,i,j,b,h=>by
  simp only[rF]at h;split at h
  ·rename_i he; cases h; grind
  ·obtain⟨t,h1,x,h2,h3⟩:=Ih h;exact⟨t+1,by omega,x,by simp_all,h3⟩
theorem Jc(n:Nat)(ks:List Int):Instr.sameBits (n+1) (vJ ks) (vJ ks)=true:=by
 have:∀ l:List Int,((l.map (Value.int .i64)).zip (l.map (Value.int .i64))).all (fun x=>Instr.sameBits n x.1 x.2)=true:=by
  intro l
  induction l with
  | nil=>rfl
  | cons x l ih=>simp only[fY,List.zip_cons_cons,List.all_cons,ih,Bool.and_true]; cases n <;> simp[Instr.sameBits]
 simp only[vJ,Instr.sameBits,cQ,beq_self_eq_true,true_and];exact this ks
theorem Ae{w:World}{r:Nat}{o o':Obj}(hb:w.heap[r]? = some o):(w.heap.setIfInBounds r o')[r]? = some o'/\∀ r',r'≠r->(w.heap.setIfInBounds r o')[r']? = w.heap[r']?:=by grind
theorem Mt{I:Inf}(hI:mP P I.ti)(r:cG E F g st a w){t:Nat}{p q:PV}{m:List (List Int×Bool)}{ks:List Int}{bb:Bool}(h:aMK I st t p q=some (n,m,o,ks)) 
  (hu:VR F g w p u)(hv:VR F g w q v):∃ w',(Instr.mapUpdate t u v (.bool bb)).run P w = .ok () w'/\cG E F g { st with hp:=(o,.mpb n (Rh m ks bb))::del o st.hp } a w':=by
 obtain⟨kt,et,b,es,clock,info,h1,h2,h3,h4,h5,J,G,h8,h9,h10,Z,Q⟩:=Xy hI r h hu hv;have D:=Ae (o':=.map (es.push { key:=v,val:=.bool bb,born:=clock }) (clock+1)) J;cases hf:rF m ks 0 with
 | none=>
  refine⟨{ w with heap:=w.heap.setIfInBounds b (.map (es.push { key:=v,val:=.bool bb,born:=clock }) (clock+1)) },?_,r.writeO h5 (by rw[h4]; rfl) J D.2 (by simp) rfl rfl rfl ?_⟩
  ·unfold Instr.mapUpdate;simp only[h2,Sem.run_bind,run_underlying h1,Result.andThen_ok,Go.run_getObj_map w b es clock J,Z,Q,hf,Option.map_none,MapKept.run_setObj_map _ J]
  ·refine⟨b,_,_,h4,D.1,?_,?_,?_⟩
   ·have:=G.1; simp only[Array.size_push,Rh,hf,dR,oA]; simp_all
   ·intro x hx;simp only[Rh,hf,dW,cZ]at hx;rcases hx with hx | rfl
    ·exact G.2.1 x hx
    omega
   ·intro j e x he hx;simp only[Rh,hf]at hx;have hl:=G.1;simp at hl;by_cases hj:j<m.length
    ·rw[pO hj]at hx;rw[Array.getElem?_push,aF]at he;exact G.2.2 j e x (by simp_all) hx
    grind
 | some jx=>
  obtain⟨j,vb⟩:=jx;obtain⟨t',e1,x0,e2,e3⟩:=Ih hf;simp only[iY]at e1; subst e1;have hl:=G.1;simp only[rD]at hl;have hj:j<es.size:=by grind
  have hkey:=(G.2.2 j es[j] x0 (by simp[hj]) e2).1;have D:=Ae (o':=.map (es.modify j fun e=>{ e with key:=v,val:=.bool bb }) clock) J;refine⟨{ w with heap:=w.heap.setIfInBounds b (.map (es.modify j fun e=>{ e with key:=v,val:=.bool bb }) clock) },?_,r.writeO h5 (by rw[h4]; rfl) J D.2 (by simp) rfl rfl rfl ?_⟩
  ·have M:(Instr.keyThatStays ((es[j]?.map (·.key)).getD v) v).run P w = .ok v w:=by rw[Array.getElem?_eq_getElem hj,tM,sH,hkey,h3,e3];unfold Instr.keyThatStays;rw[show (10000:Nat)=9999+1 from rfl,aA (Jc 9999 ks)];simp
   unfold Instr.mapUpdate;simp only[h2,Sem.run_bind,run_underlying h1,Result.andThen_ok,Go.run_getObj_map w b es clock J,Z,Q,hf,tM,M,MapKept.run_setObj_map _ J]
  ·refine⟨b,_,_,h4,D.1,?_,?_,?_⟩
   ·simp only[Rh,hf]; simp_all
   ·intro x hx;simp only[Rh,hf]at hx;rcases aIE hx with hx | rfl
    ·exact G.2.1 x hx
    omega
   ·intro i e x he hx;simp only[Rh,hf]at hx;rw[Yo]at he;rw[List.getElem?_set]at hx;by_cases hij:j=i
    ·grind
    ·rw[aF hij]at he hx;exact G.2.2 i e x (by simp_all) hx
theorem qB{i:dO}(hi:TOk P t i)(hb:w.heap[b]? = some (.cells cur e (0,0)))(hv:v.cells.size=i.size)
  (D:off+i.size<=cur.size)(h1:∀ u,u∈v.cells->u.oneCell'=true):
  (Instr.storeAt t (.pointer (some ⟨b,off,none⟩)) v).run P w = .ok () (w.setRow b (cur.toList.take off++v.cells.toList++cur.toList.drop (off+i.size)).toArray):=by
 have hs:=run_storeCells_at P b off e v.cells.toList 0 cur w hb (by simp; omega) (fun u G=>h1 u (by simp_all));simp only[yV,rD]at hs;simp[Instr.storeAt,Instr.sureAddr,storeVar,run_sizeOf hi,hv];simp_all
theorem Nn{x:PV}(h:VR F g w x v)(h1:x.cells.all PV.one=true):∀ u,u∈v.cells->u.oneCell'=true:=by
 intro u G;obtain⟨k,hk,rfl⟩:=Array.mem_iff_getElem.1 G;obtain⟨h2,h3⟩:=h.cells;have D:k<x.cells.length:=by omega
 exact(h3 k x.cells[k] v.cells[k] (by simp[D]) (by simp[hk])).one (fT.1 h1 _ (Ri D))
theorem Pu{i:Nat}(D:j<s)(ho:off<s)(h:i*s+j=k*s+off):i=k/\j=off:=by
 rcases Nat.lt_trichotomy i k with h1 | h1 | h1
 ·have:(i+1)*s<=k*s:=iL _ h1;grind
 ·simp_all
 ·have:(k+1)*s<=i*s:=iL _ h1;grind
theorem eG{f:Nat->List Cel}{c:Cel}{i:Nat}{x:Cel}(h:(oT f k off c i)[j]? = some x):(i=k/\j=off/\x=c)\/(¬ (i=k/\j=off)/\(f i)[j]? = some x):=by rw[uK]at h;grind
theorem Fu{f:Nat->List Cel}{c:Cel}{i:Nat}(h:¬ (i=k/\j=off)):(oT f k off c i)[j]? = (f i)[j]?:=by rw[uK];grind
theorem Lf{f:Nat->List Cel}{c:Cel}(h:off<(f k).length):(oT f k off c k)[off]? = some c:=by rw[uK];rw[aA rfl,List.getElem?_set,aA rfl,aA h]
theorem zS{f:Nat->List Cel}{c:Cel}(i:Nat):(oT f k off c i).length=(f i).length:=by rw[uK];grind
theorem Al.set{w:World}{f:Nat->List Cel}{ov Z:Option (Nat×Nat×PV)}{D:Array Value}{c:Cel}(h:Al F g w b s n f ov cur)(hk:k<n)(hoff:off<s)(hc:c.owned=false)(hcv:Fz F w' c v)
  (hcur:∀ q,q≠k*s+off->D[q]? = cur[q]?)(hq:D[k*s+off]? = some v)(hF:∀ q,F q->F q/\w'.heap[q]? = w.heap[q]?)(hoth:∀ q,q≠b->w'.heap[q]? = w.heap[q]?)
  (hov:∀ i j p,Z=some (i,j,p)->i<n/\(oT f k off c i)[j]? = some .any/\∀ u,D[i*s+j]? = some u->VR F g w' p u):Al F g w' b s n (oT f k off c) Z D:=by
 have js:∀ {i j:Nat} {x:Cel},i<n->(f i)[j]? = some x->j<s:=fun hi hx=>by rw[<-h.len _ hi]; grind
 have Q:∀ {i j:Nat} {x:Cel},i<n->¬ (i=k/\j=off)->(f i)[j]? = some x->D[i*s+j]? = cur[i*s+j]?:=fun hi G hx=>hcur _ fun e=>G (Pu (js hi hx) hoff e);refine⟨fun i hi=>by rw[zS]; exact h.len i hi,fun i j x hi hx=>?_,fun i j i' j' x x' z z' d hi hi' hx J ho ho' M hz' hd hd'=>?_,fun i j x z hi hx ho M=>?_,hov⟩
 ·rcases eG hx with⟨rfl,rfl,rfl⟩ | ⟨G,hx⟩
  ·simp_all
  ·obtain⟨z,M,hR⟩:=h.cell i j x hi hx;exact⟨z,by simp_all,hR.mono hF fun d hy hd=>hoth d fun e=>h.own i j x z hi hx hy M (e▸hd)⟩
 ·rcases eG hx with⟨rfl,rfl,rfl⟩ | ⟨G,hx⟩
  ·simp_all
  ·rcases eG J with⟨rfl,rfl,rfl⟩ | ⟨hne',J⟩
   ·simp_all
   ·rw[Q hi G hx]at M;rw[Q hi' hne' J]at hz';exact h.sep i j i' j' x x' z z' d hi hi' hx J ho ho' M hz' hd hd'
 ·rcases eG hx with⟨rfl,rfl,rfl⟩ | ⟨G,hx⟩
  ·simp_all
  ·rw[Q hi G hx]at M;exact h.own i j x z hi hx ho M
theorem aFC{w:World}{f f':Nat->List Cel}{ov ov':Option (Nat×Nat×PV)}{M:Array Value}{x:PV}(he:Qq ov f k off x=some (f',ov'))(h:Al F g w b s n f ov cur)(hk:k<n)(D:off<s)(hv:VR F g w x v)
  (G:∀ q,q≠k*s+off->M[q]? = cur[q]?)(hq:M[k*s+off]? = some v)(hF:∀ q,F q->F q/\w'.heap[q]? = w.heap[q]?)(J:∀ q,q≠b->w'.heap[q]? = w.heap[q]?):
  Al F g w' b s n f' ov' M/\∀ (i j:Nat) c,i<n->(f' i)[j]? = some c->c.owned=true->¬ (i=k/\j=off)/\(f i)[j]? = some c:=by
 have js:∀ {i j:Nat} {x:Cel},i<n->(f i)[j]? = some x->j<s:=fun hi hx=>by rw[<-h.len _ hi]; grind
 have Q:∀ {c':Cel},c'.owned=false->∀ (i j:Nat) c,i<n->(oT f k off c' i)[j]? = some c->c.owned=true->¬ (i=k/\j=off)/\(f i)[j]? = some c:=fun hc i j c hi hx ho=>by
  rcases eG hx with⟨_,_,rfl⟩ | hx
  all_goals simp_all
 unfold Qq at he;split at he
 ·rename_i y;cases he;exact⟨h.set hk D rfl (hv.cells_t rfl |>.mono hF) G hq hF J (fun i j p e=>by cases e),Q rfl⟩
 ·rename_i y i j p;split at he
  ·cases he
  ·rename_i hj;have hj:=pB hj;cases he;refine⟨h.set hk D rfl (hv.cells_t rfl |>.mono hF) G hq hF J (fun i' j' p' e=>?_),Q rfl⟩;cases e;obtain⟨q1,q2,q3⟩:=h.ov _ _ _ rfl;refine⟨q1,by rw[Fu (fun e=>hj e.2)]; exact q2,fun u Z=>?_⟩;rw[G _ (fun e=>hj (Pu (js q1 q2) D e).2)]at Z;exact(q3 u Z).mono hF (fun _ _=>rfl)
 ·rename_i q;cases he;refine⟨h.set hk D rfl True.intro G hq hF J (fun i' j' p' e=>?_),Q rfl⟩;cases e;refine⟨hk,Lf (by rw[h.len k hk]; omega),fun u Z=>?_⟩;rw[hq]at Z;cases Z;exact hv.mono hF (fun _ _=>rfl)
 ·cases he
theorem uQ(r:cG E F g st a w){i:dO}(hi:TOk P t i){d:Option Nat}{p x:PV}{st':St}(h:vU st i d p x=some (st',C))(hC:C) 
  (hu:VR F g w p u)(hv:VR F g w x v):d=none/\∃ w',(Instr.storeAt t u v).run P w = .ok () w'/\cG E F g st' a w':=by
 unfold vU at h;split at h
 ·cases h
 ·refine⟨rfl,?_⟩;obtain⟨hvs,hvc⟩:=hv.cells;cases p with
  | ptr o off=>
   simp only at h;split at h
   ·rename_i l hl;split at h
    ·rename_i h1 h2 h3;have h1:=bS h1;have h2:=fI h2;cases h;have J:=aX hl;obtain⟨b,vs,ty,M,Z,e3,e4⟩:=r.w.hp.obj _ _ J;cases hu with
     | @ptr _ _ b' hg=>
      rw[M]at hg; injection hg with hg; injection hg with hg; injection hg with hg; subst hg;refine⟨_,qB hi Z (by omega) (by omega) (Nn hv h3),r.write J (by rw[M]; rfl) Z ⟨b,_,ty,M,setRow_heap w b vs _ ty _ Z,?_,fun k y z hy hz=>?_⟩⟩
      ·simp_all
      ·have hFb:=(r.w.hp.own o _ b J (.self (by rw[M]; rfl))).1;refine VR.mono (wW hFb) ?_ (fun _ _=>rfl);simp only[Hx,cR]at hz;rw[cR]at hy;by_cases hk:k<off
       ·grind
       grind
    ·cases h
   ·cases h
  | aptr o s k off=>
   simp only at h;split at h
   ·rename_i e G n f c hl hc;split at h
    ·rename_i h1 h2 h3 h4;have h1:=bS h1;have h2:=bS h2;have h3:=fI h3;cases h;subst h1;have J:=aX hl;have hce:=Nx hc;have hcl:x.cells.length=c.length:=by simp_all
     rcases r.w.hp.obj _ _ J with⟨M,Z⟩ | ⟨b,cap,cur,M,Z,e3,e4,e5,e6,e7⟩
     ·omega
     ·cases hu with
      | @aptr _ _ _ _ b' n' cap' hg=>
       rw[M]at hg; injection hg with hg g2 g3; injection hg with hg; injection hg with hg; subst hg;have hrow:(k+1)*G<=cur.size:=by rw[e5]; exact iL _ (by omega)
       rw[jG,yI]at hrow;have hfk:(f k).length=G:=e6 k hC;rw[aRC hfk];refine⟨_,qB hi Z (by omega) (by omega) (Nn hv h4),r.write J (by rw[M]; rfl) Z ?_⟩;have hFb:=(r.w.hp.own o _ b J (.self (by rw[M]; rfl))).1;have hF:=wW (F:=F) (w:=w) (cs:=(cur.toList.take (k*G+off)++v.cells.toList++cur.toList.drop (k*G+off+i.size)).toArray) hFb;refine lO.obj ⟨fun i' Q=>?_,fun i' j x' Q D=>?_⟩ M (setRow_heap w b cur _ e _ Z) e3 e4 ?_
       ·unfold vE To;grind
       ·have hget:∀ q,q<k*G+off\/k*G+off+i.size<=q->((cur.toList.take (k*G+off)++v.cells.toList++cur.toList.drop (k*G+off+i.size)).toArray)[q]? = cur[q]?:=by
         intro q hq;simp only[Hx,cR];rcases hq with hq | hq
         ·grind
         ·rw[nD (by simp; omega),nD (by simp; omega),Gh];simp only[dU,rD,aCA]
          congr 1; omega
        have hmid:∀ q,q<i.size->((cur.toList.take (k*G+off)++v.cells.toList++cur.toList.drop (k*G+off+i.size)).toArray)[k*G+off+q]? = v.cells[q]?:=by
         intro q hq;simp only[Hx,cR];rw[nD (by simp; omega),pO (by simp; omega)];simp only[dU,rD,aCA]
         congr 1; omega
        unfold vE at D;split at D
        ·rename_i hik;subst hik;unfold To at D;have hjs:j<G:=by have:=(Ir.1 D).1;simp only[dR,dU,vN]at this;omega
         by_cases hj:j<off
         ·rw[cR,pO (by simp; omega),tC,aA hj]at D;obtain⟨z,hz,hr⟩:=e7 i' j x' Q D;exact⟨z,by simp_all,hr.mono hF⟩
         ·by_cases hj2:j<off+i.size
          ·rw[cR,nD (by simp; omega),pO (by simp; omega)]at D;simp only[dU]at D;rw[show min off (f i').length=off by omega]at D;have hq:j-off<v.cells.size:=by omega
           refine⟨v.cells[j-off],?_,?_⟩
           ·have:=hmid (j-off) (by omega);rw[show i'*G+off+(j-off)=i'*G+j by omega]at this;simp_all
           ·have:=hvc (j-off) (.t x') v.cells[j-off] (by simp_all) (by simp[hq]);exact(this.cells_t rfl).mono hF
          ·rw[nD (by simp; omega),Gh]at D;simp only[dR,dU]at D;rw[show off+c.length+(j-(min off (f i').length+c.length))=j by omega]at D;obtain⟨z,hz,hr⟩:=e7 i' j x' Q D;exact⟨z,by grind,hr.mono hF⟩
        ·rename_i hik;obtain⟨z,hz,hr⟩:=e7 i' j x' Q D;have hjs:j<G:=by grind
         refine⟨z,?_,hr.mono hF⟩;rw[hget]
         ·exact hz
         ·rcases Nat.lt_or_gt_of_ne hik with hlt | hgt
          ·left;have:(i'+1)*G<=k*G:=iL _ hlt;grind
          ·right;have:(k+1)*G<=i'*G:=iL _ hgt;grind
       grind
    ·cases h
   ·rename_i e G n f ov hl;split at h
    ·rename_i f' ov' h1 h2 h3 h4 h5;have h1:=bS h1;have h2:=bS h2;have h3:=fI h3;cases h;subst h1;have J:=aX hl;have hxc:x.cells=[x]:=by
      cases x with
      | agg l=>cases h4
      | tup l=>rfl
      | t y=>cases y <;> first | rfl | cases h4
      | _=>rfl
     have hvs1:v.cells.size=1:=by simp_all
     obtain⟨z,hz⟩:∃ z,v.cells=#[z]:=by obtain⟨z,hz⟩:=Tl.1 hvs1;simp_all
     have hvz:VR F g w x z:=hvc 0 x z (by rw[hxc]; rfl) (by rw[hz]; rfl);rcases r.w.hp.obj _ _ J with⟨M,Z,_⟩ | ⟨b,cap,cur,M,Z,e3,e4,e5,hA⟩
     ·omega
     ·cases hu with
      | @aptr _ _ _ _ b' n' cap' hg=>
       rw[M]at hg; injection hg with hg g2 g3; injection hg with hg; injection hg with hg; subst hg;have hrow:(k+1)*G<=cur.size:=by rw[e5]; exact iL _ (by omega)
       rw[jG,yI]at hrow;have hFb:=(r.w.hp.own o _ b J (.self (by rw[M]; rfl))).1;have hcs:∀ q,((cur.toList.take (k*G+off)++v.cells.toList++cur.toList.drop (k*G+off+i.size)).toArray)[q]? = if q=k*G+off then some z else cur[q]?:=by
        intro q;rw[hz,h2];simp only[Hx,cR];by_cases hq:q<k*G+off
        ·grind
        ·rw[nD (by simp; omega)];simp only[dU,rD];rw[show min (k*G+off) cur.size=k*G+off by omega];by_cases hq2:q=k*G+off
         ·simp_all
         ·rw[aF hq2,nD (by simp; omega),Gh];grind
       obtain⟨hN,hB⟩:=aFC (w':=w.setRow b (cur.toList.take (k*G+off)++v.cells.toList++cur.toList.drop (k*G+off+i.size)).toArray) h5 hA hC (by omega) hvz (fun q hq=>by rw[hcs,aF hq]) (by rw[hcs,aA rfl]) (wW hFb) (fun q hq=>setRow_other w b q _ hq);refine⟨_,qB hi Z (by omega) (by omega) (Nn hv (by simp_all)),r.writeF J (.self (by rw[M]; rfl)) (fun q hq=>setRow_other w b q _ hq) (by simp) rfl rfl rfl ?_ fun q hq=>?_⟩
       ·exact .inr ⟨b,cap,_,M,setRow_heap w b cur _ e _ Z,e3,e4,by grind,hN⟩
       ·cases hq with
        | self hq=>exact .self hq
        | @arm _ _ _ _ _ _ bm capm i' j' curm xm vm hg hbm Q hx hy hvm hbl=>
         rw[M]at hg; injection hg with hg g2 g3; injection hg with hg; injection hg with hg; subst hg;rw[setRow_heap w b cur _ e _ Z]at hbm;injection hbm with hbm; injection hbm with hbm;subst hbm;obtain⟨hne,D⟩:=hB i' j' xm Q hx hy;have hjs:j' < G:=by rw[<-hA.len i' Q]; grind
         rw[hcs,aF (fun e=>hne (Pu hjs (by omega) e))]at hvm;exact .arm M Z Q D hy hvm hbl
    ·cases h
   ·cases h
  | _=>simp at h
theorem aKL{I:Inf}(Q:mP P I.ti)(hn:E.N=I.N)(M:E.nt=I.nt)(r:cG E F g st a w)(o:Oper){st':St}(h:jY I st o=some (st',C))(hC:C):
  ∃ n v w',(execOp a.eval o).run P w = .ok n w'/\(n = .value v\/(n = .skip/\v=undef))/\Rel E st' (a.put o.dst v) w':=by
 unfold jY at h;split at h
 ·rename_i e d J Z;split at h
  ·rename_i i hi;split at h
   ·rename_i st1 D;cases h;obtain⟨v,w',h1,h2⟩:=Rg Q hn M r hi D;exact⟨_,v,w',by unfold execOp; simp_all,.inl rfl,by simp_all⟩
   ·cases h
  ·cases h
 ·rename_i e x d J Z;split at h
  ·rename_i p hp;split at h
   ·rename_i hm;split at h
    ·rename_i st1 D;cases h;obtain⟨v,w',h1,h2⟩:=bBB (P:=P) hn M r (e:=e) (bT r hp) hm D;exact⟨_,v,w',by unfold execOp; simp_all,.inl rfl,by simp_all⟩
    ·cases h
   ·cases h
  ·cases h
 ·rename_i t len parts d J Z;split at h
  ·rename_i i ps hi hps;split at h
   ·rename_i e hu;split at h
    ·rename_i j hj;split at h
     ·rename_i c h1 h2 h3 h4;split at h
      ·rename_i ts h5 h6;split at h
       ·rename_i st1 D;cases h;have G:=(Q _ _ hi).und;rw[hu]at G;obtain⟨v,w',h7,h8⟩:=oM hn M r G (Q _ _ hj) hps (fI h1) (fI h2) (bS h3) h4 (.of h5) (bS h6) D;exact⟨_,v,w',by unfold execOp; simp_all,.inl rfl,by simp_all⟩
       ·cases h
      ·rename_i h5 h6;split at h
       ·rename_i cs ov h7 h8 h9;split at h
        ·rename_i st1 D;cases h;have G:=(Q _ _ hi).und;rw[hu]at G;obtain⟨v,w',h10,h11⟩:=Hg hn M r G (Q _ _ hj) (bS h7) hps (fI h1) (fI h2) (bS h3) h4 h8 h9 (bS h6) D;exact⟨_,v,w',by unfold execOp; simp_all,.inl rfl,by simp_all⟩
        ·cases h
       ·cases h
      ·cases h
     ·cases h
    ·cases h
   ·cases h
  ·cases h
 ·rename_i t y x d J;split at h
  ·rename_i i p q hi hp hq;obtain⟨Z,w',h1,h2⟩:=uQ (P:=P) r (Q _ _ hi) h hC (bT r hp) (bCW (bT r hq));refine⟨.skip,undef,w',by unfold execOp; simp[J,h1],.inr ⟨rfl,rfl⟩,?_⟩;rw[Z];exact⟨F,g,h2⟩
  ·cases h
 ·rename_i t d J Z;split at h
  ·rename_i i hi;split at h
   ·rename_i kt et hu;split at h
    ·rename_i ik hik;split at h
     ·rename_i st1 D;cases h;have hrun:(Instr.makeMap t none).run P w = .ok (.map (some w.heap.size)) (w.alloc (.map #[] 0)):=rfl;refine⟨_,.map (some w.heap.size),w.alloc (.map #[] 0),by unfold execOp; simp_all,.inl rfl,by rw[Z];exact nP hn M r D (ob:=.map #[] 0) rfl rfl rfl rfl rfl (fun g' hg1 hg2=>⟨w.heap.size,#[],0,hg2,heap_alloc_new w _,rfl,by simp,by simp⟩) (fun g' hg=>.map hg)⟩
     ·cases h
    ·cases h
   ·cases h
  ·cases h
 ·rename_i t x k v J Z;split at h
  ·rename_i p q b hp hq hb;split at h
   ·rename_i n m o' ks hm;cases h;obtain⟨w',h1,h2⟩:=Mt (bb:=b) Q r hm (bT r hp) (bT r hq);have hv:=(bT r hb).inv_bool;rw[<-hv]at h1;refine⟨.skip,undef,w',by unfold execOp; simp_all,.inr ⟨rfl,rfl⟩,?_⟩;rw[Z];exact⟨F,g,h2⟩
   ·cases h
  ·cases h
 ·rename_i c d J Z;obtain⟨cal,args,ats⟩:=c;simp only at h;split at h
  ·rename_i s x t t' ha ht;have ha':args=#[s,x]:=by rw[<-nH (xs:=args),ha]
   have ht':ats=#[t,t']:=by rw[<-nH (xs:=ats),ht]
   subst ha'; subst ht';split at h
   ·rename_i i p q h1 hi hp hq;have h1:=bS h1;subst h1;split at h
    ·rename_i e m f2 s2 hu hq';have G:=(Q _ _ hi).und;rw[hu]at G;split at h
     ·rename_i j hj;split at h
      ·rename_i h2 h3 h4 h5;have h2:=fI h2;have h3:=fI h3;have h5:=bS h5;split at h
       ·split at h
        ·rename_i st1 D;cases h;obtain⟨hC1,hC2⟩:=hC;obtain⟨news,hs⟩:=Ab r (bT r hq) hq' h2 h4 hC2;have hv:=bT r hp;obtain⟨u,hu'⟩:∃ u,a.eval s=u:=⟨_,rfl⟩;rw[hu']at hv;cases hv with
         | nil=>obtain⟨v,w',h7,h8⟩:=oI (P:=P) hn M r G (Q _ _ hj) o.type h3 h5 hs (by simp_all) D;exact⟨_,v,w',by unfold execOp; simp[J,resolve,invoke,builtin,hu',h7],.inl rfl,by simp_all⟩
        ·cases h
       ·rename_i o';split at h
        ·rename_i e' s' n f1 st1 hl he;split at h
         ·rename_i st2 h6 h7 D;have h6:=bS h6;have h7:=bS h7;subst h6; subst h7;cases h;obtain⟨hC1,hC2⟩:=hC;obtain⟨news,hs⟩:=Ab r (bT r hq) hq' h2 h4 hC2;obtain⟨v,w',h8,h9⟩:=vP (P:=P) hn M r G (Q _ _ hj) o.type h3 h5 (bT r hp) hs hC1 hl (.of he) D;exact⟨_,v,w',by unfold execOp; simp[J,resolve,invoke,builtin,h8],.inl rfl,by simp_all⟩
         ·cases h
        ·cases h
       ·cases h
      ·cases h
     ·cases h
    ·rename_i e hu hq';have G:=(Q _ _ hi).und;rw[hu]at G;split at h
     ·rename_i j o2 hj;obtain⟨v,w',h8,h9⟩:=aDS (P:=P) hn M r G (Q _ _ hj) o.type (bT r hp) (bT r hq) h hC;exact⟨_,v,w',by unfold execOp; simp[J,resolve,invoke,builtin,h8],.inl rfl,by simp_all⟩
     ·cases h
    ·cases h
   ·cases h
  ·cases h
 ·cases h
end
end Go.PL
namespace Go.PL
open Go Go.Lib
section
variable {P:Program} {E:Env} {F:Nat->Prop} {g:Nat->Value} {st:St} {a:Act} {w:World}
theorem pY(w:World)(t u ty e:TypeId)(i:TypeInfo)(z:Value)(Q:P.underlying t=some (.slice e))(M:P.underlying u=some .string)(hi:P.info? e=some i)(J:i.zero=some z)
  (s:ByteArray)(Z:0<s.size)(D:(s.size:Int)<=9223372036854775807)(G:s.size*i.bytes<=281474976710656):
  (Builtin.append_ #[t,u] ty #[.slice none 0 0,.string s]).run P w =
   .ok (.slice (some ⟨w.heap.size,0,none⟩) s.size (grownCap w s.size 0 e)) (w.drew.alloc (.cells ((strCells s).toArray++Builtin.zeroCells z.cells (grownCap w s.size 0 e-s.size)) e)):=by
 rw[run_append_nil_string w t u ty e i z Q M hi J s Z D G];have:s.data.map (fun b=>Value.int .u8 b.toNat)=(strCells s).toArray:=by apply Array.ext'; simp[strCells]
 rw[this]
end
end Go.PL
