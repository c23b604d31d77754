/-
  Parts: Regions whose order is open: each operation is looked at once, over what its forerunners give. Own work. Short forms of the rules, for printed proofs. Own work. Maps with numbers or strings as keys: what the model's operations do, and typed maps. Own work. Rules for maps whose values are boxes and rows of the map's own. Own work. Rules for maps: looking up, and what is found there under a name of its own. Own work. Rules for maps: writing and deleting entries. Own work. Rules for maps: writing, deleting, filling a gap. Own work. Rules for maps: making one, its length, loops over one. Own work. Rules for maps: the rounds of a loop over one. Own work. Rules for maps: rounds of a loop, by what the entries are; maps of data. Own work. Maps of rows become maps of data; an entry of a map of data, beside the map. Own work. A walker over code: runs of operations and control, by computation over abstract states. Own work. From functions of fuel to functions without fuel. Own work.
-/
import Derived.Test.YtabcengbnoidlaaGreatDoorMb
import Derived.KernelRfl
import Derived.Maps.RangeRun
set_option maxHeartbeats 4000000
namespace Go.PL
open Go
variable {Q':Exit->Act->World->Prop} {R S α:Type} {e k n o s t:Nat} {et kt:TypeId} {fr:Fr} {fs:List (Nat->Bool)} {hp:Hp} {kd:TypeDesc} {kv:Value} {p:PV} {r:List MapEntry} {x:bA}
def dK{α:Type}:List (Nat×α)->List Nat
 | []=>[]
 | e::l=>e.1::dK l
theorem rQ{l:List (Nat×α)}:o∈dK l↔∃ x,(o,x)∈l:=by
 induction l with
 | nil=>simp[dK]
 | cons e l ih=>
  obtain⟨k,y⟩:=e;simp only[dK,aX,ih,gQ];constructor
  ·rintro (rfl | ⟨x,h⟩)
   ·exact⟨y,.inl ⟨rfl,rfl⟩⟩
   ·exact⟨x,.inr h⟩
  ·rintro⟨x,⟨rfl,_⟩ | h⟩
   ·exact .inl rfl
   ·exact .inr ⟨x,h⟩
def aLS(Hs:Hp):Option (Nat×bA)->Hp
 | none=>Hs
 | some c=>Hs.map fun e=>match Nat.beq e.1 c.1 with | true=>(e.1,c.2) | false=>e
def mdC:Option (Nat×bA)->Option (Nat×bA×Option Nat)
 | none=>none
 | some (o,x)=>some (o,x,none)
structure aQC (P:Program)(k:Nat)(args:List PV)(r:PV)(Hs:Hp)(ch:Option (Nat×bA)):Prop where
 c:fQ P k
 h:(Hs=[]/\ch=none/\∃ bps,(∀ st,jT st [] args bps)/\fV P k bps [] [] (Ret r))\/∃ bps N,(∀ st,jT st [] args bps)/\fV P k bps Hs N (pY r (aLS Hs ch))/\jP r (aLS Hs ch) N=true/\∀ c,ch=some c->c.1∈dK Hs
 p:r.pure=true
def lkN:Nat:=1000000007
def cN:Nat:=1000000000
def aHI(P:Program)(t:TypeId)(args:List PV)(r:PV)(Hs:Hp):Prop:=
 ∀ (F:Nat->Prop) (g:Nat->Value) (w:World) (u kv:Value) (x y:PV),args=[x,y]->VR F g w x u->VR F g w y kv->(∀ e,e∈Hs->dD F g w e.1 e.2)->∃ z,(Instr.lookup t u kv false).run P w = .ok z w/\VR F g w r z
def Sk:List PV->Option Nat
 | []=>none
 | .own d::_=>some d
 | _::l=>Sk l
def Cr:PV->Option Nat
 | .agg l=>Sk l
 | .own d=>some d
 | .map d=>some d
 | _=>none
inductive yN (P:Program)(k:Nat)(args:List PV)(r:PV)(Hs:Hp)(ch:Option (Nat×bA)):Prop where
 | call (hk:Nat.blt k cN=true) (hr:Cr r=none) (h:aQC P k args r Hs ch)
 | bK (hk:Nat.blt k lkN=false) (h:aHI P (k-lkN) args r Hs)
 | new (hk:Nat.blt k cN=true) {d e s n:Nat} {f:Nat->List T} (hr:r = .own d) (hH:Hs=[]) (hc:ch=some (d,.arr e s n f)) (c:fQ P k) {bps:List PV} (ha:∀ st,jT st [] args bps)
   (h:fV P k bps [] [] (pY (.own d) [(d,.arr e s n f)]))
 | newH (hk:Nat.blt k cN=true) {d:Nat} {y:bA} (hr:Cr r=some d) (hc:ch=some (d,y)) (c:fQ P k) {bps:List PV} {N:List Nat} (ha:∀ st,jT st [] args bps)
   (h:fV P k bps Hs N (pY r ((d,y)::Hs))) (hb:jP r ((d,y)::Hs) (N++[d])=true)
theorem Vf(h:Nat.blt k cN=true)(h':Nat.blt k lkN=false):False:=by
 rw[fE]at h;have:Nat.blt k lkN=true:=by rw[fE]; unfold lkN; unfold cN at h; omega
 rw[h']at this; cases this
theorem yN.l{P:Program}{args:List PV}{r:PV}{Hs:Hp}{ch:Option (Nat×bA)}(h:yN P k args r Hs ch)(hk:Nat.blt k lkN=false):aHI P (k-lkN) args r Hs:=by
 cases h with
 | bK _ h=>exact h
 | call hk' _ h=>exact(Vf hk' hk).elim
 | new hk'=>exact(Vf hk' hk).elim
 | newH hk'=>exact(Vf hk' hk).elim
theorem fV.renNew{P:Program}{bps:List PV}{f:Nat->List T}(d:Nat)(h:fV P k bps [] [] (pY (.own o) [(o,.arr e s n f)])):fV P k bps [] [] (pY (.own d) [(d,.arr e s n f)]):=by
 intro F g w vs hs hv hH hF hgl;refine(h F g w vs hs hv hH hF hgl).mono ?_;rintro ex w' ⟨v,r,H',F',g',he,⟨rfl,rfl⟩,hvr,hw⟩;refine⟨v,_,_,F',fun q=>if q=d then g' o else g' q,he,⟨rfl,rfl⟩,?_,⟨⟨?_,?_,?_⟩,hw.f0,hw.f1,hw.ext,(fun q hq=>by cases hq),hw.b0⟩⟩
 ·cases hvr with
  | own h=>exact .own (by simp[h])
 ·intro q x hx;obtain⟨rfl,rfl⟩:=xR (cG.1 hx);have:=hw.hp.obj o _ (cG.2 rfl);have this:kZ F' w' (g' o) e s n f:=this;show kZ F' w' _ e s n f;simpa using this
 ·intro q x b hx hb;obtain⟨rfl,rfl⟩:=xR (cG.1 hx);cases hb with
  | self hb=>exact hw.hp.own o _ b (cG.2 rfl) (.self (by simpa using hb))
 ·intro q x q' y b hx hy hne;obtain⟨rfl,rfl⟩:=xR (cG.1 hx);obtain⟨rfl,rfl⟩:=xR (cG.1 hy);exact absurd rfl hne
theorem fV.renAgg{P:Program}{bps:List PV}{f:Nat->List T}(d:Nat)(hd:p.mentions d=false)(h:fV P k bps [] [] (pY p [(o,.arr e s n f)])):fV P k bps [] [] (pY (p.rn o d) [(d,.arr e s n f)]):=by
 intro F g w vs hs hv hH hF hgl;refine(h F g w vs hs hv hH hF hgl).mono ?_;rintro ex w' ⟨v,r,H',F',g',he,⟨rfl,rfl⟩,hvr,hw⟩;refine⟨v,_,_,F',upd g' d (g' o),he,⟨rfl,rfl⟩,VR.rn hvr (PV.not_mentions hd),⟨⟨?_,?_,?_⟩,hw.f0,hw.f1,hw.ext,(fun q hq=>by cases hq),hw.b0⟩⟩
 ·intro q x hx;obtain⟨rfl,rfl⟩:=xR (cG.1 hx);have:=hw.hp.obj o _ (cG.2 rfl);have this:kZ F' w' (g' o) e s n f:=this;show kZ F' w' _ e s n f;rw[bM];exact this
 ·intro q x b hx hb;obtain⟨rfl,rfl⟩:=xR (cG.1 hx);cases hb with
  | self hb=>exact hw.hp.own o _ b (cG.2 rfl) (.self (by rw[bM]at hb; exact hb))
 ·intro q x q' y b hx hy hne;obtain⟨rfl,rfl⟩:=xR (cG.1 hx);obtain⟨rfl,rfl⟩:=xR (cG.1 hy);exact absurd rfl hne
def fzN:Nat:=1000000001
def Ei(P:Program)(k:Nat)(args:List PV)(r:PV)(Hs:Hp)(ch:Option (Nat×bA)):Prop:=
 (Nat.beq k fzN=true/\∃ n f x,args=[.t (.sl n f)]/\r = .t x/\∀ F g w v,VR F g w (.t (.sl n f)) v->VR F g w (.t x) v)\/yN P k args r Hs ch
inductive Ic (P:Program):List (Nat×(Nat×List PV×PV×Hp×Option (Nat×bA)))->Prop
 | nil:Ic P []
 | cons {i k:Nat} {args:List PV} {r:PV} {Hs:Hp} {ch:Option (Nat×bA)} {l:List (Nat×(Nat×List PV×PV×Hp×Option (Nat×bA)))} (h:Ei P k args r Hs ch) (t:Ic P l):Ic P ((i,k,args,r,Hs,ch)::l)
theorem Ic.mem{P:Program}{l:List (Nat×(Nat×List PV×PV×Hp×Option (Nat×bA)))}(h:Ic P l):∀ e,e∈l->Ei P e.2.1 e.2.2.1 e.2.2.2.1 e.2.2.2.2.1 e.2.2.2.2.2:=by
 induction h with
 | nil=>simp
 | cons h _ ih=>
  intro e he;rcases aX.1 he with rfl | he
  ·exact h
  ·exact ih e he
theorem Dc{l:List (Nat×α)}(h:bK l o=none)(x:α):(o,x)∉l:=by
 induction l with
 | nil=>simp
 | cons e l ih=>
  obtain⟨k,y⟩:=e;unfold bK at h;split at h
  ·cases h
  ·rename_i hb;intro hm;rcases aX.1 hm with he | hm
   ·cases he; rw[mR]at hb; cases hb
   ·exact ih h hm
theorem wZ{hp hp':Hp}{Hs:Hp}:∀ {Ks:Hp},iO hp (dK Ks)=some Ks->(∀ e,e∈Ks->e∈Hs)->(∀ e,e∈Hs->bK hp e.1=some e.2)->iO (Hs++hp') (dK Ks)=some Ks
 | [],_,_,_=>rfl
 | (o,x)::Ks,h,hs,hh=>by
  simp only[dK,iO]at h ⊢;split at h
  ·rename_i y r hy hr;injection h with h;injection h with h1 h2;injection h1 with h3 h4;subst h4; subst h2;rw[wZ hr (fun e he=>hs e (cV _ he)) hh];have hl:∀ {l:Hp},(∀ e,e∈l->bK hp e.1=some e.2)->(o,y)∈l->bK (l++hp') o=some y:=by
    intro l
    induction l with
    | nil=>intro _ h; cases h
    | cons e l ih=>
     intro hl hm;obtain⟨k,z⟩:=e;simp only[List.cons_append,bK];split
     ·rename_i hb;have hb:=cJ hb;subst hb;have:=hl _ (dJ ..);simp only at this;rw[hy]at this;exact this.symm
     ·rename_i hb;rcases aX.1 hm with he | hm
      ·cases he; rw[mR]at hb; cases hb
      ·exact ih (fun e he=>hl e (cV _ he)) hm
   rw[hl hh (hs _ (dJ ..))]
  ·cases h
structure LOp where
 val:Option PV
 md:Option (Nat×bA×Option Nat)
 fs:List (Nat->Bool)
instance:Inhabited LOp:=⟨⟨none,none,[]⟩⟩
theorem Is{l r:List (Nat×α)}{x:α}(h:bK l t=some x):bK (l++r) t=some x:=by
 induction l with
 | nil=>simp[bK]at h
 | cons e l ih=>
  obtain⟨k,u⟩:=e;simp only[List.cons_append];unfold bK at h ⊢;split
  ·rename_i hk; rw[hk]at h; exact h
  ·rename_i hk; rw[hk]at h; exact ih h
theorem wQ{st:St}{x:Operand}(h:ev st x=some p):ev ⟨st.fr++fr,hp⟩ x=some p:=by
 cases x with
 | tmp t=>exact Is h
 | const v=>exact h
 | func f=>exact h
 | global _=>simp[ev]at h
theorem lO{st:St}{fr:Fr}{hp:Hp}:∀ {l:List Operand} {ps:List PV},hU st l=some ps->hU ⟨st.fr++fr,hp⟩ l=some ps
 | [],ps,h=>h
 | x::l,ps,h=>by
  simp only[hU]at h ⊢;split at h
  ·rename_i p q hp' hq;cases h;rw[wQ hp',lO hq]
  ·cases h
theorem qW{st:St}{fr:Fr}{hp:Hp}:∀ {l:List (Nat×Operand)} {ps:List (Nat×PV)},gM st l=some ps->gM ⟨st.fr++fr,hp⟩ l=some ps
 | [],ps,h=>h
 | (i,x)::l,ps,h=>by
  simp only[gM]at h ⊢;split at h
  ·rename_i p q hp' hq;cases h;rw[wQ hp',qW hq]
  ·cases h
theorem mU{st:St}{ops:List Oper}{o:Oper}{b:Bool}(h:cQ ops o st=some b):cQ ops o ⟨st.fr++fr,hp⟩=some b:=by
 unfold cQ at h ⊢;cases hg:o.guard with
 | none=>rw[hg]at h; exact h
 | some g=>
  obtain⟨j,want⟩:=g;rw[hg]at h;simp only at h ⊢;cases hj:ops[j]? with
  | none=>rw[hj]at h; cases h
  | some oj=>
   rw[hj]at h;simp only at h ⊢;cases hd:oj.dst with
   | none=>rw[hd]at h; cases h
   | some d=>
    rw[hd]at h;simp only at h ⊢;cases hl:bK st.fr d with
    | none=>rw[hl]at h; simp at h
    | some p=>rw[Is hl]; rw[hl]at h; exact h
abbrev Eff:=Option PV×Option (Nat×bA×Option Nat)×List Prop×(List PV×Option Hp)×List (Nat->Bool)
def noA:List PV×Option Hp:=([],some [])
def aDC(ops:List Oper):Operand->Option Nat
 | .tmp t=>match ops.find? (fun o=>match o.dst with | some d=>Nat.beq d t | none=>false) with
  | some o=>match o.op with | .buildSlice _ len _=>some len | _=>none
  | none=>none
 | _=>none
def Bj(ops:List Oper)(x:Operand)(m s:Nat)(f:Nat->List T):Bool×List (Nat->Bool):=match aDC ops x with
 | some n=>(Nat.beq n m&&(List.range n).all fun i=>jX s (f i),[])
 | none=>(true,[fun i=>jX s (f i)])
def aJP(I:Inf)(ops:List Oper)(st:St)(args:List Operand)(ats:List Nat)(d:Nat):Option Eff:=
 match args,ats with
 | [s,x],[t,t']=>match Nat.beq t t',I.ti t,ev st s,ev st x with
  | true,some i,some p,some q=>match i.und,sP st q with
   | .sl e,some (m,f2,none)=>match I.ti e with
    | some j=>match Nat.ble 1 j.size&&(Nat.ble 1 j.bytes&&(Nat.beq j.zero.length j.size&&(Bj ops x m j.size f2).1)),Nat.blt d I.nt,oR d I.N with
     | true,true,true=>match p with
      | .nil=>some (some (.own d),some (d,.arr e j.size m f2,none),[(0+m)*j.bytes<=140737488355328],noA,(Bj ops x m j.size f2).2)
      | .own o=>match bK st.hp o with
       | some (.arr e' s' n f1)=>match Nat.beq e e'&&Nat.beq s' j.size with
        | true=>match aDC ops s with
         | some 0=>match Nat.beq n 0 with
          | true=>some (some (.own d),some (d,.arr e j.size m f2,some o),[(0+m)*j.bytes<=140737488355328],noA,(Bj ops x m j.size f2).2)
          | false=>none
         | _=>some (some (.own d),some (d,.arr e j.size (n+m) (pD n f1 f2),some o),[(n+m)*j.bytes<=140737488355328],noA,(Bj ops x m j.size f2).2)
        | false=>none
       | _=>none
      | _=>none
     | _,_,_=>none
    | none=>none
   | _,_=>none
  | _,_,_,_=>none
 | _,_=>none
def Jf(I:Inf)(ops:List Oper)(ca:Option (Nat×List PV×PV×Hp×Option (Nat×bA)))(o:Oper)(st:St):Option Eff:=
 match cQ ops o st with
 | none=>none
 | some false=>match o.dst with
  | some d=>match Nat.blt d I.nt with | true=>some (some (.tup []),none,[],noA,[]) | false=>none
  | none=>some (none,none,[],noA,[])
 | some true=>match ca with
  | some (k,_,r,Hs,ch)=>match o.op,o.dst with
   | .call c,some d=>match c.callee with
    | .value f=>match ev st f,hU st c.args.toList,Nat.blt d I.nt with
     | some (.fn (.func k') nf caps),some as,true=>match Nat.beq k' k,Nat.blt k cN,(match Cr r with | some q=>Nat.beq q d&&oR d I.N | none=>true) with
      | true,true,true=>some (some r,mdC ch,[],(caps.take nf++as++caps.drop nf,iO st.hp (dK Hs)),[])
      | _,_,_=>none
     | _,_,_=>none
    | _=>none
   | .lookup t x kx false,some d=>match ev st x,ev st kx,Nat.blt d I.nt,Nat.beq k (lkN+t) with
    | some (.map ob),some (.t kp),true,true=>some (some r,none,[],([.map ob,.t kp],iO st.hp (dK Hs)),[])
    | _,_,_,_=>none
   | _,_=>none
  | none=>match o.op,o.dst with
   | .alloc e,some d=>match I.ti e,Nat.blt d I.nt,oR d I.N with
    | some i,true,true=>some (some (.ptr d 0),some (d,.box i.zero,none),[],noA,[])
    | _,_,_=>none
   | .store t a x,none=>match I.ti t,ev st a,ev st x with
    | some i,some (.ptr b off),some q=>match bK st.hp b with
     | some (.box l)=>match Nat.beq q.cells.length i.size,Nat.ble (off+i.size) l.length,q.cells.all PV.one with
      | true,true,true=>some (none,some (b,.box (l.take off++q.cells++l.drop (off+i.size)),none),[],noA,[])
      | _,_,_=>none
     | _=>none
    | some i,some (.aptr b s k off),some q=>match bK st.hp b,zR q.cells with
     | some (.arr e s' n f),some c=>match Nat.beq s' s,Nat.beq c.length i.size,Nat.ble (off+i.size) s,q.cells.all PV.one with
      | true,true,true,true=>some (none,some (b,.arr e s' n (rY f k (aPP s' (f k) off c)),none),[k<n],noA,[])
      | _,_,_,_=>none
     | some (.arm e s' n f ov),_=>match Nat.beq s' s,Nat.beq i.size 1,Nat.ble (off+1) s,q.one,Ey ov f k off q with
      | true,true,true,true,some (f',ov')=>some (none,some (b,.arm e s' n f' ov',none),[k<n],noA,[])
      | _,_,_,_,_=>none
     | _,_=>none
    | _,_,_=>none
   | .buildSlice t 0 ⟨[]⟩,some d=>match I.ti t with
    | some i=>match i.und with
     | .sl e=>match I.ti e with
      | some j=>match Nat.ble 1 j.size,Nat.beq j.zero.length j.size,Nat.blt d I.nt,oR d I.N with
       | true,true,true,true=>some (some (.own d),some (d,.arr e j.size 0 (dT [] j.size),none),[],noA,[])
       | _,_,_,_=>none
      | none=>none
     | _=>none
    | none=>none
   | .buildSlice t len parts,some d=>match I.ti t,gM st parts.toList with
    | some i,some ps=>match i.und with
     | .sl e=>match I.ti e with
      | some j=>match Nat.ble (len*j.size) 16777216,Nat.ble 1 j.size,Nat.beq j.zero.length j.size,mJ (fun i=>some (i*j.size,j.size)) (iA j (len*j.size)) ps with
       | true,true,true,some c=>match Cp c,Nat.beq c.length (len*j.size),Nat.blt d I.nt with
        | some ts,true,true=>some (some (.t (.sl len (dT ts j.size))),none,[],noA,[])
        | none,true,true=>match Nat.beq len 1,jK d c,tK 0 c,oR d I.N with
         | true,true,some (cs,ov),true=>some (some (.own d),some (d,.arm e j.size 1 (fun _=>cs) (aMH ov),none),[],noA,[])
         | _,_,_,_=>none
        | _,_,_=>none
       | _,_,_,_=>none
      | none=>none
     | _=>none
    | _,_=>none
   | .box ..,_=>none
   | .buildSlice ..,_=>none
   | .makeMap ..,_=>none
   | .mapUpdate ..,_=>none
   | .store ..,_=>none
   | .call { callee:=.builtin .append,args:=args,argTypes:=ats },some d=>aJP I ops st args.toList ats.toList d
   | op,some d=>match pev I st op,Nat.blt d I.nt with
    | some (x,C),true=>some (some x,none,nA (isC st op) C,noA,[])
    | _,_=>none
   | _,none=>none
def jB(o:Oper):Option Nat:=match o.op,o.dst with
 | .alloc _,some d=>some d
 | .buildSlice _ _ _,some d=>some d
 | .call { callee:=.builtin .append,.. },some d=>some d
 | .call { callee:=.value _,.. },some d=>some d
 | _,_=>none
def aRC(I:Inf)(ops:List Oper)(o:Oper)(st:St)(r:PV)(x:Option Eff):Option Eff:=match jB o,o.dst,x,cQ ops o st with
 | some d,some d1,some (some (.own d2),some (d3,.arr e s n f,k),C,_,fs),some true=>match Nat.beq d1 d,Nat.beq d2 d,Nat.beq d3 d,oR d I.N with
  | true,true,true,true=>some (some r,some (d,.arr e s 0 f,k),C,([.t (.sl n f)],some []),fs)
  | _,_,_,_=>none
 | _,_,_,_=>none
def aCL(I:Inf)(ops:List Oper)(ca:Option (Nat×List PV×PV×Hp×Option (Nat×bA)))(o:Oper)(st:St):Option Eff:=
 match ca with
 | some (k,a,r,Hs,ch)=>match Nat.beq k fzN with
  | true=>aRC I ops o st r (Jf I ops none o st)
  | false=>Jf I ops (some (k,a,r,Hs,ch)) o st
 | none=>Jf I ops none o st
def Fk:Option Nat->Hp->Hp
 | some k,l=>del k l
 | none,l=>l
def lK(S:St)(d:Option Nat)(v:Option PV)(md:Option (Nat×bA×Option Nat)):St:=
 ⟨match d,v with | some d,some x=>(d,x)::del d S.fr | _,_=>S.fr,match md with | some (o,c,k)=>(o,c)::del o (Fk k S.hp) | none=>S.hp⟩
section
variable {P:Program} {E:Env} {I:Inf} {Q:gL}
theorem Ab{d:Nat}:∀ {l:Hp},(∀ e,e∈l->Nat.beq e.1 d=false/\e.2.mentions d=false)->Jh d l=some l
 | [],_=>rfl
 | (k,x)::l,h=>by
  have h1:=h _ (dJ ..);have hx:x.er d=some x:=by
   cases x with
   | box c=>
    have hc:∀ (c:List PV),(∀ k,k∈PV.names.go c->k≠d)->pM d c=some c:=by
     intro c
     induction c with
     | nil=>intro _; rfl
     | cons y c ih=>
      intro hh;have hy:y.mentions d=false:=by unfold PV.mentions;rw[Ib];intro k hk hb;exact hh k (by simp[PV.names.go,hk]) (cJ hb)
      have:=ih fun k hk=>hh k (by simp[PV.names.go,hk]);simp only[pM,PV.er,hy,this]
    simp only[bA.er];rw[hc c (fun k hk=>bA.not_mentions h1.2 k (by simpa[bA.names] using hk))]
   | arr=>rfl
   | mpb=>rfl
   | bld=>rfl
   | arm e s n f ov=>
    have hn:=bA.not_mentions h1.2;have e1:Jz d ov=ov:=by
     rcases ov with _ | ⟨i,j,p⟩
     ·rfl
     ·have hp:p.mentions d=false:=by unfold PV.mentions;rw[Ib];intro k hk hb;exact hn k (by simp[bA.names,ovN,hk]) (cJ hb)
      simp only[Jz,hp]
    simp only[bA.er,e1]
   | mp it m ho=>
    have hn:=bA.not_mentions h1.2;have e1:Jw d it=it:=by
     cases it with
     | none=>rfl
     | some i=>
      have:=hn i.o (by simp[bA.names,itN]);simp only[Jw];split
      ·rename_i hb; exact absurd (cJ hb) this
      ·rfl
    have e2:Fy d ho=ho:=by
     rcases ho with _ | ⟨k',_ | p⟩
     ·rfl
     ·rfl
     ·have hp:p.mentions d=false:=by unfold PV.mentions;rw[Ib];intro k hk hb;exact hn k (by simp[bA.names,hoN,hk]) (cJ hb)
      simp only[Fy,hp]
    simp only[bA.er,e1,e2]
  simp only[Jh,h1.1,hx,Ab fun e he=>h e (cV _ he)]
theorem kM{d:Nat}{S:St}(h1:∀ e,e∈S.fr->e.2.mentions d=false)(h2:∀ e,e∈S.hp->Nat.beq e.1 d=false/\e.2.mentions d=false):S.erase d=some S:=by
 unfold St.erase;rw[Ab h2];have:S.fr.filter (fun e=>!(e.2.mentions d))=S.fr:=List.filter_eq_self.2 fun e he=>by simp[h1 e he]
 simp[this]
theorem cL.sub{F:Nat->Prop}{g:Nat->Value}{st st':St}{a:Act}{w:World}(r:cL E F g st a w)(hf:∀ e,e∈st'.fr->e∈st.fr)(hh:∀ e,e∈st'.hp->e∈st.hp):cL E F g st' a w:=
 ⟨r.nt,r.df,fun t x hx=>r.fr t x (hf _ hx),⟨r.w.hp.sub hh,r.w.f0,r.w.f1,r.w.ext,r.w.names,r.w.b0⟩⟩
theorem Ee{l:List Nat}{d:Nat}(h:∀ k,k∈l->k≠d):sV l [d]=true:=by
 unfold sV;rw[dQ];intro k hk;cases hb:inN k [d] with
 | false=>rfl
 | true=>exact absurd (cG.1 (dE.1 hb)) (h k hk)
theorem Me{l:List PV}(h:PV.names.go l=[]):Sk l=none:=by
 induction l with
 | nil=>rfl
 | cons x l ih=>simp only[PV.names.go,List.append_eq_nil_iff]at h;cases x <;> first | (simp[PV.names]at h; done) | (simp only[Sk]; exact ih h.2)
theorem xL(h:p.pure=true):Cr p=none:=by
 cases p <;> first | rfl | (simp[PV.pure,PV.names]at h) | skip
 rename_i l;refine Me ?_;have h:(match PV.names.go l with | []=>true | _=>false)=true:=h
 split at h
 ·assumption
 ·cases h
theorem zY{l:List (Nat×α)}{x:Nat×α}(h:x∈del o l):x∈l:=by obtain⟨k,y⟩:=x;exact(bD.1 h).1
theorem aGQ{k:Option Nat}{l:Hp}{x:Nat×bA}(h:x∈del o (Fk k l)):x∈l:=by
 have h1:=zY h;cases k with
 | none=>exact h1
 | some k=>exact zY h1
theorem Rel.fzRow{d:Nat}{f:Nat->List T}(hN:I.N=E.N)(hd:oR d I.N=true)(h1:∀ x,x∈fr->x.2.mentions d=false)(h2:∀ x,x∈hp->Nat.beq x.1 d=false/\x.2.mentions d=false){a:Act}{w:World}
  (r:Rel E ⟨(d,.own d)::fr,(d,.arr e s n f)::hp⟩ a w):Rel E ⟨(d,.t (.sl n f))::fr,(d,.arr e s 0 f)::hp⟩ a w:=by
 obtain⟨F,g,r⟩:=r;have hob:=r.w.hp.obj d (.arr e s n f) dJ;have hrd:Rd (fun b=>F b\/blk (g d)=some b) w (.sl n f) (g d):=Bl hob (fun b hb=>.inl hb) (fun b hb=>.inr hb) rfl;have hne:∀ x,x∈hp->x.1≠d:=fun x hx e=>by have:=(h2 x hx).1; rw[e,mR]at this; cases this
 have hfoot:∀ k y b,(k,y)∈hp->bG (upd g d (.slice none 0 0)) w k y b->bG g w k y b:=fun k y b hy hb=>
  hb.mono (bR g _ (hne _ hy)) (fun q hq=>bR g _ (bA.not_mentions (h2 _ hy).2 q hq)) (fun _ _=>rfl)
 have hno:∀ b,¬ bG (upd g d (.slice none 0 0)) w d (.arr e s 0 f) b:=fun b hb=>by have hb:=hb.toBlk rfl; rw[bM]at hb; simp[blk]at hb
 refine⟨fun b=>F b\/blk (g d)=some b,upd g d (.slice none 0 0),r.nt,r.df.mono (fun _ h=>⟨.inl h,rfl⟩),fun t x hx=>?_,⟨⟨fun k y hy=>?_,fun k y b hy hb=>?_,fun k y k' y' b hy hy' hkk hb hb'=>?_⟩,fun b hb=>.inl (r.w.f0 b hb),fun b hb=>?_,r.w.ext,fun k hk=>?_,r.w.b0⟩⟩
 ·rcases aX.1 hx with hx | hx
  ·cases hx;have:=r.fr d (.own d) dJ;generalize a.tmps.getD d undef=u at this;have he:u=g d:=by cases this with | own hg=>exact hg.symm
   rw[he];exact .t hrd
  ·exact(r.fr t x (cV _ hx)).mono (fun b hb=>⟨.inl hb,rfl⟩) (fun q hq=>bR g _ (PV.not_mentions (h1 _ hx) q hq))
 ·rcases aX.1 hy with hy | hy
  ·cases hy; exact .inl ⟨bM ..,rfl⟩
  ·exact(r.w.hp.obj k y (cV _ hy)).mono (fun b hb=>⟨.inl hb,rfl⟩) (bR g _ (hne _ hy)) (fun q hq=>bR g _ (bA.not_mentions (h2 _ hy).2 q hq)) (fun _ _=>rfl)
 ·rcases aX.1 hy with hy | hy
  ·cases hy; exact absurd hb (hno b)
  ·have hb:=hfoot k y b hy hb;have:=r.w.hp.own k y b (cV _ hy) hb;refine⟨?_,this.2⟩;rintro (h | h)
   ·exact this.1 h
   ·exact r.w.hp.sep k y d _ b (cV _ hy) dJ (hne _ hy) hb (.self h)
 ·rcases aX.1 hy with hy | hy
  ·cases hy; exact absurd hb (hno b)
  ·rcases aX.1 hy' with hy' | hy'
   ·cases hy'; exact absurd hb' (hno b)
   ·exact r.w.hp.sep k y k' y' b (cV _ hy) (cV _ hy') hkk (hfoot k y b hy hb) (hfoot k' y' b hy' hb')
 ·rcases hb with hb | hb
  ·exact r.w.f1 b hb
  ·have:=(r.w.hp.own d _ b dJ (.self hb)).2;exact⟨hob.block hb,this.elim (fun h=>.inr (.inl h)) (fun h=>.inr (.inr h))⟩
 ·rw[bR g _ (fun e:k=d=>fJ hd (hN▸e▸hk))];exact r.w.names k hk
theorem Fd(hG:fF P E I){ops:List Oper}{o:Oper}{S st:St}{ca:Option (Nat×List PV×PV×Hp×Option (Nat×bA))}(hca:∀ k args r Hs ch,ca=some (k,args,r,Hs,ch)->yN P k args r Hs ch)(hfr:∀ e,e∈st.fr->e∈S.fr)
  (hhp:∀ e,e∈st.hp->e∈S.hp){v:Option PV}{md:Option (Nat×bA×Option Nat)}{Cs:List Prop}{as:List PV×Option Hp}(huq:∀ k x y,(k,x)∈S.hp->(k,y)∈S.hp->x=y)(h:Jf I ops ca o st=some (v,md,Cs,as,fs))(hC:All Cs)(hfs:∀ f,f∈fs->∀ i,f i=true)
  (has:∀ k args r Hs ch,ca=some (k,args,r,Hs,ch)->cQ ops o st=some true->as=(args,some Hs))(hclean:∀ d,jB o=some d->(∀ e,e∈S.fr->e.2.mentions d=false)/\∀ e,e∈S.hp->Nat.beq e.1 d=false/\e.2.mentions d=false){a:Act}{w:World}(r:Rel E S a w)
  {K:Act->World->Prop}(hk:∀ a' w',Rel E (lK S o.dst v md) a' w'->K a' w'):
  if Region.wanted o (yielded ops.toArray a.tmps) then o.wp P a w K Q' else K (a.put o.dst undef) w:=by
 obtain⟨F,g,r⟩:=r;have ri:=r.sub hfr hhp;unfold Jf at h;split at h
 ·cases h
 ·
  rename_i hw;rw[aF (by rw[fU (ops:=ops.toArray) ri (by simpa using hw)]; simp)];split at h
  ·rename_i d hd;split at h
   ·rename_i hlt;cases h;refine hk _ _ ?_;rw[hd];exact⟨F,g,r.put (by rw[hG.nt]; simpa[fE] using hlt) (.tup rfl (fun j x v hx=>by simp at hx))⟩
   ·cases h
  ·rename_i hd;cases h;refine hk _ _ ?_;rw[hd];exact⟨F,g,r⟩
 ·rename_i hw;have hwt:=fU (ops:=ops.toArray) ri (by simpa using hw);split at h
  ·
   rename_i k args res Hs ch;have hok:=hca _ _ _ _ _ rfl;have has':=has _ _ _ _ _ rfl hw;split at h
   ·rename_i c d hop hd;split at h
    ·rename_i f hcal;split at h
     ·rename_i k' nf caps as' hf hargs hnt;split at h
      ·rename_i hkk hkl hno;have hkk:=cJ hkk;subst hkk;cases h;injection has' with has1 has2;subst has1;cases hok with
       | bK hk' _=>exact(Vf hkl hk').elim
       | @new _ d' e s n f hr hH hch hcc bps hb1 hb2=>
        subst hr hH hch;simp only[Cr,cP]at hno;obtain⟨hno1,hno2⟩:=hno;have hno1:=cJ hno1;subst hno1;obtain⟨hcl1,hcl2⟩:=hclean _ (by unfold jB; rw[hop,hd]; obtain⟨cc,ca,ct⟩:=c; simp only at hcal; subst hcal; rfl);have r2:Rel E ⟨st.fr++S.fr,S.hp⟩ a w:=⟨F,g,r.sub (fun e he=>by
         rcases dZ.1 he with he | he
         ·exact hfr e he
         ·exact he) (fun e he=>he)⟩
        refine tN hG [] [] [d'] (bps:=bps) hop hcal hd (mU hw) hnt (wQ hf) (lO hargs) hcc (hb1 _) rfl ?_ hb2 r2 (fun r' H' hr=>?_)
        ·simp only[jC,gP,cP,dQ];refine⟨⟨fun e he=>?_,fun e he=>?_⟩,?_⟩
         ·have:=hcl1 e (by rcases dZ.1 he with he | he
                           ·exact hfr e he
                           ·exact he)
          exact Ee (PV.not_mentions this)
         ·obtain⟨h1,h2⟩:=hcl2 e (uD.1 he).1;refine⟨?_,Ee (bA.not_mentions h2)⟩;rw[lU];cases hb:inN e.1 [d'] with
          | false=>rfl
          | true=>rw[cG.1 (dE.1 hb),mR]at h1; cases h1
         ·exact Ee fun k hk e=>fJ hno2 (e▸hk)
        ·unfold pY at hr;obtain⟨rfl,rfl⟩:=hr;refine⟨by simp[jP,Wj,PV.names,bA.names,inN],fun a' w' r'=>hk a' w' ?_⟩;refine r'.sub (fun e he=>?_) (fun e he=>?_)
         ·simp only[lK,hd]at he;simp only[St.put];rcases aX.1 he with rfl | he
          ·exact dJ ..
          ·refine cV _ ?_;obtain⟨k,y⟩:=e;obtain⟨h1,h2⟩:=bD.1 he;exact bD.2 ⟨pP _ h1,h2⟩
         ·simp only[lK,mdC,Fk]at he;simp only[St.put,dZ];rcases aX.1 he with rfl | he
          ·exact .inl (cG.2 rfl)
          ·obtain⟨k,y⟩:=e;obtain⟨h1,h2⟩:=bD.1 he;exact .inr (uD.2 ⟨h1,by simp[inN]⟩)
       | @newH _ d' y hr hch hcc bps N hb1 hb2 hb3=>
        subst hch;rw[hr]at hno;simp only[cP]at hno;obtain⟨hno1,hno2⟩:=hno;have hno1:=cJ hno1;subst hno1;obtain⟨hcl1,hcl2⟩:=hclean _ (by unfold jB; rw[hop,hd]; obtain⟨cc,ca,ct⟩:=c; simp only at hcal; subst hcal; rfl);have hin:∀ e,e∈Hs->e∈st.hp:=fun e he=>(jS has2 e he).1;have r2:Rel E ⟨st.fr++S.fr,Hs++S.hp⟩ a w:=⟨F,g,r.sub (fun e he=>by
         rcases dZ.1 he with he | he
         ·exact hfr e he
         ·exact he) (fun e he=>by
         rcases dZ.1 he with he | he
         ·exact hhp e (hin e he)
         ·exact he)⟩
        have hlk:∀ e,e∈Hs->bK st.hp e.1=some e.2:=by
         intro e he;have hm:=hin e he;obtain⟨x,hx⟩:∃ x,bK st.hp e.1=some x:=by
          cases hl:bK st.hp e.1 with
          | some x=>exact⟨x,rfl⟩
          | none=>exact absurd hm (Dc hl e.2)
         rw[hx,huq e.1 x e.2 (hhp _ (aU hx)) (hhp _ hm)]
        refine tN hG (dK Hs) N [d'] (bps:=bps) hop hcal hd (mU hw) hnt (wQ hf) (lO hargs) hcc (hb1 _) (wZ has2 (fun e he=>he) hlk) ?_ hb2 r2 (fun r' H' hr=>?_)
        ·simp only[jC,cP,dQ];refine⟨⟨fun e he=>?_,fun e he=>?_⟩,?_⟩
         ·have:=hcl1 e (by rcases dZ.1 he with he | he
                           ·exact hfr e he
                           ·exact he)
          exact Ee (PV.not_mentions this)
         ·have he2:e∈S.hp:=by
           rcases dZ.1 (dF he).1 with h | h
           ·exact hhp _ (hin _ h)
           ·exact h
          obtain⟨h1,h2⟩:=hcl2 e he2;refine⟨?_,Ee (bA.not_mentions h2)⟩;rw[lU];cases hb:inN e.1 [d'] with
          | false=>rfl
          | true=>rw[cG.1 (dE.1 hb),mR]at h1; cases h1
         ·exact Ee fun k hk e=>fJ hno2 (e▸hk)
        ·unfold pY at hr;obtain⟨rfl,rfl⟩:=hr;refine⟨hb3,fun a' w' r'=>hk a' w' ?_⟩;refine r'.sub (fun e he=>?_) (fun e he=>?_)
         ·simp only[lK,hd]at he;simp only[St.put];rcases aX.1 he with rfl | he
          ·exact dJ ..
          ·refine cV _ ?_;obtain⟨k,y⟩:=e;obtain⟨h1,h2⟩:=bD.1 he;exact bD.2 ⟨pP _ h1,h2⟩
         ·simp only[lK,mdC,Fk]at he;simp only[St.put,dZ];rcases aX.1 he with rfl | he
          ·exact .inl (dJ ..)
          ·obtain⟨k,y⟩:=e;obtain⟨h1,h2⟩:=bD.1 he;by_cases hke:k∈dK Hs
           ·obtain⟨z,hz⟩:=rQ.1 hke;have:=huq k z y (hhp _ (hin _ hz)) h1;subst this;exact .inl (cV _ hz)
           ·refine .inr (uD.2 ⟨pP _ h1,?_⟩);cases hb:inN k (dK Hs) with
            | false=>rfl
            | true=>exact absurd (dE.1 hb) hke
       | call _ _ hok=>
       rcases hok.h with⟨-,hch,bps,hb1,hb2⟩ | ⟨bps,N,hb1,hb2,hb3,hb4⟩
       ·have r2:Rel E ⟨st.fr++S.fr,S.hp⟩ a w:=⟨F,g,r.sub (fun e he=>by
         rcases dZ.1 he with he | he
         ·exact hfr e he
         ·exact he) (fun e he=>he)⟩
        refine Vd hG [] (bps:=bps) hop hcal hd (mU hw) hnt (wQ hf) (lO hargs) hok.c (hb1 _) hb2 r2 (fun r' H' hr=>?_);unfold Ret at hr;subst hr;refine⟨hok.p,fun a' w' r'=>hk a' w' ?_⟩;subst hch;refine r'.sub (fun e he=>?_) (fun e he=>he);simp only[lK,hd]at he;simp only[St.put];rcases aX.1 he with rfl | he
        ·exact dJ ..
        ·refine cV _ ?_;obtain⟨k,y⟩:=e;obtain⟨h1,h2⟩:=bD.1 he;exact bD.2 ⟨pP _ h1,h2⟩
       ·have hin:∀ e,e∈Hs->e∈st.hp:=fun e he=>(jS has2 e he).1;have r2:Rel E ⟨st.fr++S.fr,Hs++S.hp⟩ a w:=⟨F,g,r.sub (fun e he=>by
         rcases dZ.1 he with he | he
         ·exact hfr e he
         ·exact he) (fun e he=>by
         rcases dZ.1 he with he | he
         ·exact hhp e (hin e he)
         ·exact he)⟩
        have hlk:∀ e,e∈Hs->bK st.hp e.1=some e.2:=by
         intro e he;have hm:=hin e he;obtain⟨x,hx⟩:∃ x,bK st.hp e.1=some x:=by
          cases hl:bK st.hp e.1 with
          | some x=>exact⟨x,rfl⟩
          | none=>exact absurd hm (Dc hl e.2)
         rw[hx,huq e.1 x e.2 (hhp _ (aU hx)) (hhp _ hm)]
        refine tN hG (dK Hs) N [] (bps:=bps) hop hcal hd (mU hw) hnt (wQ hf) (lO hargs) hok.c (hb1 _) (wZ has2 (fun e he=>he) hlk) (by simp[jC,sV,inN]) hb2 r2 (fun r' H' hr=>?_);unfold pY at hr;obtain⟨rfl,rfl⟩:=hr;refine⟨by simpa using hb3,fun a' w' r'=>hk a' w' ?_⟩;refine r'.sub (fun e he=>?_) (fun e he=>?_)
        ·simp only[lK,hd]at he;simp only[St.put];rcases aX.1 he with rfl | he
         ·exact dJ ..
         ·refine cV _ ?_;obtain⟨k,y⟩:=e;obtain⟨h1,h2⟩:=bD.1 he;exact bD.2 ⟨pP _ h1,h2⟩
        ·simp only[St.put,dZ];cases hch:ch with
         | none=>
          rw[hch]at he;simp only[lK,mdC]at he;by_cases hke:e.1∈dK Hs
          ·obtain⟨x,hx⟩:=rQ.1 hke;have:=huq e.1 x e.2 (hhp _ (hin _ hx)) he;subst this;exact .inl hx
          ·refine .inr (uD.2 ⟨pP _ he,?_⟩);cases hb:inN e.1 (dK Hs) with
           | false=>rfl
           | true=>exact absurd (dE.1 hb) hke
         | some c=>
          have hk1:=hb4 c hch;rw[hch]at he;obtain⟨o',x'⟩:=c;simp only[lK,mdC,Fk]at he;rcases aX.1 he with rfl | he
          ·obtain⟨z,hz⟩:=rQ.1 hk1;refine .inl (dW.2 ⟨_,hz,?_⟩);simp only[mR]
          ·obtain⟨k,y⟩:=e;obtain⟨h1,h2⟩:=bD.1 he;by_cases hke:k∈dK Hs
           ·obtain⟨z,hz⟩:=rQ.1 hke;have:=huq k z y (hhp _ (hin _ hz)) h1;subst this;refine .inl (dW.2 ⟨_,hz,?_⟩);have hb:Nat.beq k o'=false:=by
             cases hb:Nat.beq k o' with
             | false=>rfl
             | true=>exact absurd (cJ hb) h2
            simp only[hb]
           ·refine .inr (uD.2 ⟨pP _ h1,?_⟩);cases hb:inN k (dK Hs) with
            | false=>rfl
            | true=>exact absurd (dE.1 hb) hke
      ·cases h
     ·cases h
    ·cases h
   ·
    rename_i t x kx d hop hd;split at h
    ·rename_i ob kp hx hkx hnt hkt;have hkt:=cJ hkt;subst hkt;have hl:=hok.l (by cases hb:Nat.blt (lkN+t) lkN with | false=>rfl | true=>rw[fE]at hb; omega)
     rw[Nat.add_sub_cancel_left]at hl;cases h;injection has' with has1 has2;obtain⟨z,h1,h2⟩:=hl F g w _ _ _ _ has1.symm (bW ri hx) (bW ri hkx) (fun e he=>r.w.hp.obj _ _ (hhp _ (jS has2 e he).1));rw[aA hwt];unfold Oper.wp;have hex:(execOp a.eval o).run P w = .ok (.value z) w:=by unfold execOp; simp[hop,h1]
     rw[hex];refine hk _ _ ?_;rw[hd];exact⟨F,g,r.put (by rw[hG.nt]; simpa[fE] using hnt) h2⟩
    ·cases h
   ·cases h
  ·split at h
   ·
    rename_i e d hop hd;split at h
    ·rename_i i hi hnt hN;cases h;have he:S.erase d=some S:=kM (hclean d (by unfold jB; rw[hop,hd])).1 (hclean d (by unfold jB; rw[hop,hd])).2;obtain⟨v,w',h1,h2⟩:=Im hG.ti hG.N hG.nt r hi (st':=_) (by unfold fW; rw[hnt,hN,he]);rw[aA hwt];unfold Oper.wp;have hex:(execOp a.eval o).run P w = .ok (.value v) w':=by unfold execOp; simp[hop,h1]
     rw[hex];simp only[Oper.upon];refine hk _ _ ?_;rw[hd];refine h2.sub (fun e he=>he) (fun e he=>?_);simp only[lK]at he;rcases aX.1 he with rfl | he
     ·exact dJ ..
     ·exact cV _ (bD.1 he).1
    ·cases h
   ·
    rename_i t x y hop hd;split at h
    ·rename_i i b off q hi hx hy;split at h
     ·rename_i l hl;split at h
      ·rename_i c1 c2 c3;cases h;have hmem:(b,bA.box l)∈S.hp:=hhp _ (aU hl);have r1:cL E F g ⟨S.fr,(b,.box l)::S.hp⟩ a w:=r.sub (fun e he=>he) (fun e he=>by
        rcases aX.1 he with rfl | he
        ·exact hmem
        ·exact he)
       obtain⟨-,w',h1,h2⟩:=rC (P:=P) r1 (hG.ti _ _ hi) (d:=none) (p:=.ptr b off) (x:=q) (C:=True)
        (by unfold sZ; simp only[bK,mR,c1,c2,c3]; rfl) trivial (bW ri hx) (bW ri hy)
       rw[aA hwt];unfold Oper.wp;have hex:(execOp a.eval o).run P w = .ok .skip w':=by unfold execOp; simp[hop,h1]
       rw[hex];simp only[Oper.upon];refine hk _ _ ?_;rw[hd];refine⟨F,g,h2.sub (fun e he=>he) (fun e he=>?_)⟩;simp only[lK]at he;rcases aX.1 he with rfl | he
       ·exact dJ ..
       ·refine cV _ ?_;obtain⟨k,y⟩:=e;obtain⟨h3,h4⟩:=bD.1 he;exact bD.2 ⟨cV _ h3,h4⟩
      ·cases h
     ·cases h
    ·rename_i i b ss kk off q hi hx hy;split at h
     ·rename_i e s' n f c hl hc;split at h
      ·rename_i c1 c2 c3 c4;cases h;have hmem:(b,bA.arr e s' n f)∈S.hp:=hhp _ (aU hl);have r1:cL E F g ⟨S.fr,(b,.arr e s' n f)::S.hp⟩ a w:=r.sub (fun e he=>he) (fun e he=>by
        rcases aX.1 he with rfl | he
        ·exact hmem
        ·exact he)
       obtain⟨-,w',h1,h2⟩:=rC (P:=P) r1 (hG.ti _ _ hi) (d:=none) (p:=.aptr b ss kk off) (x:=q) (C:=kk<n)
        (by unfold sZ; simp only[bK,mR,hc,c1,c2,c3,c4]; rfl) hC (bW ri hx) (bW ri hy)
       rw[aA hwt];unfold Oper.wp;have hex:(execOp a.eval o).run P w = .ok .skip w':=by unfold execOp; simp[hop,h1]
       rw[hex];simp only[Oper.upon];refine hk _ _ ?_;rw[hd];refine⟨F,g,h2.sub (fun e he=>he) (fun e he=>?_)⟩;simp only[lK]at he;rcases aX.1 he with rfl | he
       ·exact dJ ..
       ·refine cV _ ?_;obtain⟨k,y⟩:=e;obtain⟨h3,h4⟩:=bD.1 he;exact bD.2 ⟨cV _ h3,h4⟩
      ·cases h
     ·rename_i e s' n f ov hl;split at h
      ·rename_i f' ov' c1 c2 c3 c4 c5;cases h;have hmem:(b,bA.arm e s' n f ov)∈S.hp:=hhp _ (aU hl);have r1:cL E F g ⟨S.fr,(b,.arm e s' n f ov)::S.hp⟩ a w:=r.sub (fun e he=>he) (fun e he=>by
        rcases aX.1 he with rfl | he
        ·exact hmem
        ·exact he)
       obtain⟨-,w',h1,h2⟩:=rC (P:=P) r1 (hG.ti _ _ hi) (d:=none) (p:=.aptr b ss kk off) (x:=q) (C:=kk<n)
        (by unfold sZ; simp only[bK,mR,c1,c2,c3,c4,c5]; rfl) hC (bW ri hx) (bW ri hy)
       rw[aA hwt];unfold Oper.wp;have hex:(execOp a.eval o).run P w = .ok .skip w':=by unfold execOp; simp[hop,h1]
       rw[hex];simp only[Oper.upon];refine hk _ _ ?_;rw[hd];refine⟨F,g,h2.sub (fun e he=>he) (fun e he=>?_)⟩;simp only[lK]at he;rcases aX.1 he with rfl | he
       ·exact dJ ..
       ·refine cV _ ?_;obtain⟨k,y⟩:=e;obtain⟨h3,h4⟩:=bD.1 he;exact bD.2 ⟨cV _ h3,h4⟩
      ·cases h
     ·cases h
    ·cases h
   ·
    rename_i t d hop hd;split at h
    case h_2=>cases h
    rename_i i hi;split at h
    case h_2=>cases h
    rename_i e hu;split at h
    case h_2=>cases h
    rename_i j hj;split at h
    case h_2=>cases h
    rename_i c1 c2 c3 c4;cases h;have hte:=(hG.ti _ _ hi).und;rw[hu]at hte;obtain⟨k1,k2⟩:=hclean d (by unfold jB; rw[hop,hd]);have he:S.erase d=some S:=kM k1 k2;obtain⟨u,w',h1,h2⟩:=nJ (P:=P) (d:=d) (len:=0) (parts:=#[]) (ps:=[]) (c:=[]) (ts:=[]) (st':=_) hG.N hG.nt r hte (hG.ti _ _ hj) rfl (by omega) (fH c1) (cJ c2)
     (by simp[mJ,iA]) ⟨rfl,fun j p x hp=>by simp at hp⟩ (by simp) (by unfold fW; rw[c3,c4,he])
    rw[aA hwt];unfold Oper.wp;have hex:(execOp a.eval o).run P w = .ok (.value u) w':=by simp at h1; unfold execOp; simp[hop,h1]
    rw[hex];simp only[Oper.upon];refine hk _ _ ?_;rw[hd];refine h2.sub (fun e he=>he) (fun e he=>?_);simp only[lK,Fk]at he;rcases aX.1 he with rfl | he
    ·exact dJ ..
    ·exact cV _ (bD.1 he).1
   ·
    rename_i t len parts d _ hop hd;split at h
    case h_2=>cases h
    rename_i i ps hi hps;split at h
    case h_2=>cases h
    rename_i e hu;split at h
    case h_2=>cases h
    rename_i j hj;split at h
    case h_2=>cases h
    rename_i c c1 c2 c3 hc;split at h
    case h_3=>cases h
    case h_2=>
     rename_i hts c4 c5;split at h
     case h_2=>cases h
     rename_i cs ov c6 c7 c8 c9;cases h;have hte:=(hG.ti _ _ hi).und;rw[hu]at hte;obtain⟨k1,k2⟩:=hclean d (by unfold jB; rw[hop,hd]);have r2:cL E F g ⟨st.fr++S.fr,S.hp⟩ a w:=r.sub (fun e he=>by
      rcases dZ.1 he with he | he
      ·exact hfr e he
      ·exact he) (fun e he=>he)
     have he:St.erase d ⟨st.fr++S.fr,S.hp⟩=some ⟨st.fr++S.fr,S.hp⟩:=kM (fun e he=>k1 e (by
      rcases dZ.1 he with he | he
      ·exact hfr e he
      ·exact he)) k2
     obtain⟨u,w',h1,h2⟩:=qC (P:=P) (d:=d) (st':=_) hG.N hG.nt r2 hte (hG.ti _ _ hj) (cJ c6) (qW hps) (fH c1) (fH c2) (cJ c3) hc c7 c8 (cJ c4)
      (by unfold fW; rw[c5,c9,he])
     rw[aA hwt];unfold Oper.wp;have hex:(execOp a.eval o).run P w = .ok (.value u) w':=by unfold execOp; simp[hop,h1]
     rw[hex];simp only[Oper.upon];refine hk _ _ ?_;rw[hd];refine h2.sub (fun e he=>?_) (fun e he=>?_)
     ·simp only[lK]at he;rcases aX.1 he with rfl | he
      ·exact dJ ..
      ·obtain⟨k,y⟩:=e;obtain⟨h3,h4⟩:=bD.1 he;exact cV _ (bD.2 ⟨pP _ h3,h4⟩)
     ·simp only[lK,Fk]at he;rcases aX.1 he with rfl | he
      ·exact dJ ..
      ·exact cV _ (bD.1 he).1
    rename_i ts hts c4 c5;cases h;have hte:=(hG.ti _ _ hi).und;rw[hu]at hte;have r2:cL E F g ⟨st.fr++S.fr,S.hp⟩ a w:=r.sub (fun e he=>by
     rcases dZ.1 he with he | he
     ·exact hfr e he
     ·exact he) (fun e he=>he)
    obtain⟨u,w',F',h1,h2⟩:=pO (P:=P) (d:=d) hG.nt r2 hte (hG.ti _ _ hj) (qW hps) (fH c1) (fH c2) (cJ c3) hc (.ofZ hts) (cJ c4) (by simpa[fE] using c5);rw[aA hwt];unfold Oper.wp;have hex:(execOp a.eval o).run P w = .ok (.value u) w':=by unfold execOp; simp[hop,h1]
    rw[hex];simp only[Oper.upon];refine hk _ _ ?_;rw[hd];refine⟨F',g,h2.sub (fun e he=>?_) (fun e he=>he)⟩;simp only[lK]at he;simp only[St.put];rcases aX.1 he with rfl | he
    ·exact dJ ..
    ·refine cV _ ?_;obtain⟨k,y⟩:=e;obtain⟨h3,h4⟩:=bD.1 he;exact bD.2 ⟨pP _ h3,h4⟩
   all_goals try (cases h; done)
   ·
    rename_i args ats d hop hd;obtain⟨k1,k2⟩:=hclean d (by unfold jB; rw[hop,hd]);unfold aJP at h;split at h
    case h_2=>cases h
    rename_i s x t t' ha ht;have ha':args=#[s,x]:=by rw[<-mS (xs:=args),ha]
    have ht':ats=#[t,t']:=by rw[<-mS (xs:=ats),ht]
    subst ha'; subst ht';split at h
    case h_2=>cases h
    rename_i i p q c1 hi hp hq;have c1:=cJ c1;subst c1;split at h
    case h_2=>cases h
    rename_i e m f2 hu hq';have hte:=(hG.ti _ _ hi).und;rw[hu]at hte;split at h
    case h_2=>cases h
    rename_i j hj;split at h
    case h_2=>cases h
    rename_i c2 c3 c4;simp only[cP]at c2;obtain⟨c2,c5,c6,c7⟩:=c2;have c2:=fH c2;have c5:=fH c5;have c6:=cJ c6;have src:(∀ f,f∈(Bj ops x m j.size f2).2->∀ i,f i=true)->∃ news,Src F w j.size m f2 (a.eval x) news:=by
     intro hfs;refine wM ri (bW ri hq) hq' c2 rfl fun i hi=>?_;unfold Bj at c7 hfs;split at c7
     ·rename_i n hn;simp only[cP,dQ,sF]at c7;exact c7.2 i (by rw[cJ c7.1]; exact hi)
     ·rename_i hn;rw[hn]at hfs;exact hfs (fun i=>jX j.size (f2 i)) (by simp) i
    have fin:∀ (pv:bA) (ko:Option Nat) (u:Value) (w':World) (S':St),(Builtin.append_ #[t,t] o.type #[a.eval s,a.eval x]).run P w = .ok u w'->Rel E S' (a.put (some d) u) w' ->
      (∀ e,e∈(d,PV.own d)::del d S.fr->e∈S'.fr)->(∀ e,e∈(d,pv)::del d (Fk ko S.hp)->e∈S'.hp)->v=some (.own d)->md=some (d,pv,ko) ->
      if Region.wanted o (yielded ops.toArray a.tmps) then o.wp P a w K Q' else K (a.put o.dst undef) w:=by
     intro pv ko u w' S' h1 h2 h3 h4 hv hm;subst hv hm;rw[aA hwt];unfold Oper.wp;have hex:(execOp a.eval o).run P w = .ok (.value u) w':=by unfold execOp; simp[hop,resolve,invoke,builtin,h1]
     rw[hex];simp only[Oper.upon];refine hk _ _ ?_;rw[hd];exact h2.sub (fun e he=>h3 e he) (fun e he=>h4 e he)
    have hpv:=bW ri hp;split at h
    case h_3=>cases h
    ·
     cases h;obtain⟨news,hs⟩:=src hfs;have he:S.erase d=some S:=kM k1 k2;obtain⟨v0,hv0⟩:∃ u,a.eval s=u:=⟨_,rfl⟩;rw[hv0]at hpv;cases hpv with
     | nil=>
      obtain⟨u,w',h1,h2⟩:=nG (P:=P) hG.N hG.nt r hte (hG.ti _ _ hj) o.type c5 c6 hs (by have h:(0+m)*j.bytes<=140737488355328:=hC; simpa using h) (st':=_) (by unfold fW; rw[c3,c4,he]);refine fin _ none u w' _ (by rw[hv0]; exact h1) h2 (fun e he=>he) (fun e he=>?_) rfl rfl;rcases aX.1 he with rfl | he
      ·exact dJ ..
      ·exact cV _ (bD.1 he).1
    ·rename_i o';split at h
     case h_2=>cases h
     rename_i e' s' n f1 hl;split at h
     case h_2=>cases h
     rename_i c8;simp only[cP]at c8;have c9:=cJ c8.1;have c10:=cJ c8.2;subst c9; subst c10;have r0:cL E F g ⟨S.fr,(o',.arr e j.size n f1)::del o' S.hp⟩ a w:=r.sub (fun e he=>he) (fun e he=>by
      rcases aX.1 he with rfl | he
      ·exact hhp _ (aU hl)
      ·exact(bD.1 he).1)
     have less:Jp o' ⟨S.fr,(o',.arr e j.size n f1)::del o' S.hp⟩ ⟨S.fr,del o' S.hp⟩:=⟨fun t y h=>h,fun t y h=>⟨y,cV _ h,(bD.1 h).2,fun _ _ _ h=>h,fun _ _ _ h=>h⟩⟩;have he:(⟨S.fr,del o' S.hp⟩:St).erase d=some ⟨S.fr,del o' S.hp⟩:=kM k1 fun e he=>k2 e (by obtain⟨k,y⟩:=e; exact(bD.1 he).1);have run:∀ {f},f=pD n f1 f2->(∀ f,f∈(Bj ops x m j.size f2).2->∀ i,f i=true)->(n+m)*j.bytes<=140737488355328->∃ u w',(Builtin.append_ #[t,t] o.type #[a.eval s,a.eval x]).run P w = .ok u w'/\Rel E (({ fr:=S.fr,hp:=(d,.arr e j.size (n+m) f)::del o' S.hp }:St).put d (.own d)) (a.put (some d) u) w':=by rintro f rfl hfs hc;obtain⟨news,hs⟩:=src hfs;exact sJ (P:=P) (n:=n) (f1:=f1) (f:=f2) hG.N hG.nt r0 hte (hG.ti _ _ hj) o.type c5 c6 hpv hs hc (by simp[bK]) less (by unfold fW; rw[c3,c4,he])
     have sb:∀ (pv:bA) e,e∈(d,pv)::del d (Fk (some o') S.hp)->e∈(d,pv)::del o' S.hp:=by
      intro pv e he;rcases aX.1 he with rfl | he
      ·exact dJ ..
      ·exact cV _ (bD.1 he).1
     split at h
     ·split at h
      case h_2=>cases h
      rename_i c11;have c11:=cJ c11;subst c11;cases h;obtain⟨u,w',h1,h2⟩:=run (f:=f2) (by funext i; simp[pD]) hfs (by have h:(0+m)*j.bytes<=140737488355328:=hC; exact h);rw[eW]at h2;exact fin _ (some o') u w' _ h1 h2 (fun e he=>he) (sb _) rfl rfl
     ·cases h;obtain⟨u,w',h1,h2⟩:=run rfl hfs (by have h:(n+m)*j.bytes<=140737488355328:=hC; exact h);exact fin _ (some o') u w' _ h1 h2 (fun e he=>he) (sb _) rfl rfl
   rename_i hd _ _ _ _ _ _ _ _;split at h
   ·rename_i x C hp hlt;cases h;have hcc:C:=by
     cases hc:isC st o.op with
     | false=>exact aHF hp hc
     | true=>rw[hc]at hC; exact hC
    obtain⟨v,h1,h2⟩:=aEE hG.ti ri o hp hcc;rw[aA hwt];unfold Oper.wp;rw[h1];refine hk _ _ ?_;rw[hd];exact⟨F,g,r.put (by rw[hG.nt]; simpa[fE] using hlt) h2⟩
   ·cases h
theorem aUX(hG:fF P E I){ops:List Oper}{o:Oper}{S st:St}{ca:Option (Nat×List PV×PV×Hp×Option (Nat×bA))}(hca:∀ k args r Hs ch,ca=some (k,args,r,Hs,ch)->Ei P k args r Hs ch)(hfr:∀ e,e∈st.fr->e∈S.fr)
  (hhp:∀ e,e∈st.hp->e∈S.hp){v:Option PV}{md:Option (Nat×bA×Option Nat)}{Cs:List Prop}{as:List PV×Option Hp}(huq:∀ k x y,(k,x)∈S.hp->(k,y)∈S.hp->x=y)(h:aCL I ops ca o st=some (v,md,Cs,as,fs))(hC:All Cs)(hfs:∀ f,f∈fs->∀ i,f i=true)
  (has:∀ k args r Hs ch,ca=some (k,args,r,Hs,ch)->cQ ops o st=some true->as=(args,some Hs))(hclean:∀ d,jB o=some d->(∀ e,e∈S.fr->e.2.mentions d=false)/\∀ e,e∈S.hp->Nat.beq e.1 d=false/\e.2.mentions d=false){a:Act}{w:World}(r:Rel E S a w)
  {K:Act->World->Prop}(hk:∀ a' w',Rel E (lK S o.dst v md) a' w'->K a' w'):
  if Region.wanted o (yielded ops.toArray a.tmps) then o.wp P a w K Q' else K (a.put o.dst undef) w:=by
 unfold aCL at h;split at h
 ·rename_i k args res Hs ch;split at h
  ·rename_i hfz;unfold aRC at h;split at h
   ·rename_i d d1 d2 d3 e s n f k' C as0 fs0 hal hd he hwt;split at h
    ·rename_i b1 b2 b3 b4;have b1:=cJ b1;have b2:=cJ b2;have b3:=cJ b3;subst b1 b2 b3;cases h;obtain⟨c1,c2⟩:=hclean _ hal;rcases hca _ _ _ _ _ rfl with⟨_,n',f',x,ha,hr,himp⟩ | hx
     ·have:=has _ _ _ _ _ rfl hwt;injection this with h1 h2;subst hr;rw[ha]at h1;cases h1;refine Fd hG (ca:=none) (fun _ _ _ _ _ h=>by cases h) hfr hhp huq he hC hfs (fun _ _ _ _ _ h=>by cases h) hclean r (fun a' w' r'=>hk a' w' ?_);rw[hd]at r' ⊢;simp only[lK]at r' ⊢;obtain⟨F,g,q⟩:=Rel.fzRow hG.N.symm b4 (fun x hx=>c1 x (zY hx)) (fun x hx=>c2 x (aGQ hx)) r';exact⟨F,g,q.nt,q.df,fun t z hz=>by
       rcases aX.1 hz with hz | hz
       ·cases hz; exact himp _ _ _ _ (q.fr _ _ dJ)
       ·exact q.fr _ _ (cV _ hz),q.w⟩
     ·have hfz':=cJ hfz;subst hfz';cases hx with
      | call hk'=>exact absurd hk' (by decide)
      | new hk'=>exact absurd hk' (by decide)
      | newH hk'=>exact absurd hk' (by decide)
      | bK hk'=>exact absurd hk' (by decide)
    ·cases h
   ·cases h
  ·rename_i hfz;refine Fd hG (fun k' a' r' H' c' hc=>?_) hfr hhp huq h hC hfs has hclean r hk;rcases hca k' a' r' H' c' hc with⟨h1,_⟩ | h1
   ·cases hc; rw[hfz]at h1; cases h1
   ·exact h1
 ·exact Fd hG (ca:=none) (fun _ _ _ _ _ h=>by cases h) hfr hhp huq h hC hfs has hclean r hk
def Ri(ops:List Oper):List (List Nat):=ops.map jG
def aSZ(l r:List Nat):List Nat:=match l with | []=>r | x::l=>match inN x r with | true=>aSZ l r | false=>aSZ l (x::r)
def Ju:List (List Nat)->List (List Nat)->List (List Nat)
 | [],acc=>acc
 | d::l,acc=>Ju l (acc++[aSZ (d.flatMap fun j=>acc.getD j []) d])
def qY(p:Nat->Bool):Nat->List Oper->List LOp->Fr
 | _,[],_=>[]
 | i,_::os,[]=>qY p (i+1) os []
 | i,o::os,l::ls=>match p i,o.dst,l.val with
  | true,some d,some x=>(d,x)::qY p (i+1) os ls
  | _,_,_=>qY p (i+1) os ls
def Wv(lo:List LOp)(o j:Nat):Option bA:=match lo.getD j default with | ⟨_,some (o',c,_),_⟩=>(match Nat.beq o' o with | true=>some c | false=>none) | _=>none
def kX(lo:List LOp)(p:Nat->Bool)(o:Nat)(c:Option bA):List Nat->Option bA
 | []=>c
 | j::js=>match p j with
  | true=>kX lo p o (Wv lo o j) js
  | false=>kX lo p o c js
abbrev OL:=List (Nat×Bool×List Nat)
def ini(hp:Hp)(o:Nat)(new:Bool):Option bA:=match new with | true=>none | false=>bK hp o
def Bx(hp:Hp)(lo:List LOp)(p:Nat->Bool):OL->Hp
 | []=>[]
 | (o,new,js)::l=>match kX lo p o (ini hp o new) js with
  | some x=>(o,x)::Bx hp lo p l
  | none=>Bx hp lo p l
def wrB(p:Nat->Bool)(t:Nat):Nat->List Oper->Bool
 | _,[]=>false
 | i,o::os=>match (match o.dst with | some d=>Nat.beq d t&&p i | none=>false) with | true=>true | false=>wrB p t (i+1) os
theorem yV{p:Nat->Bool}{t:Nat}:∀ {i:Nat} {os:List Oper},wrB p t i os=true↔∃ k o,os[k]? = some o/\o.dst=some t/\p (i+k)=true
 | i,[]=>by simp[wrB]
 | i,o::os=>by
  simp only[wrB];constructor
  ·intro h;split at h
   ·rename_i h1;split at h1
    ·rename_i d hd;simp only[cP]at h1;exact⟨0,o,rfl,by rw[hd,cJ h1.1],by simpa using h1.2⟩
    ·cases h1
   ·obtain⟨k,o',h1,h2,h3⟩:=yV.1 h;exact⟨k+1,o',by simpa using h1,h2,by rw[<-oH,Nat.add_right_comm]; exact h3⟩
  ·rintro⟨k,o',h1,h2,h3⟩;split
   ·rfl
   ·rename_i hn;cases k with
    | zero=>simp at h1; subst h1;rw[h2]at hn;simp only[mR,Ec]at hn;rw[tV]at h3;rw[h3]at hn; cases hn
    | succ k=>exact yV.2 ⟨k,o',by simpa using h1,h2,by rw[oH,Nat.add_comm 1 k]; exact h3⟩
def frP(p:Nat->Bool)(ops:List Oper)(fr0:Fr):Fr:=fr0.filter fun e=>!(wrB p e.1 0 ops)
theorem rU{p:Nat->Bool}{ops:List Oper}{fr0:Fr}{e:Nat×PV}:e∈frP p ops fr0↔e∈fr0/\∀ k o,ops[k]? = some o->o.dst=some e.1->p k=false:=by
 simp only[frP,uD,lU];refine and_congr_right fun _=>?_;constructor
 ·intro h k o h1 h2;cases hp:p k with
  | false=>rfl
  | true=>rw[yV.2 ⟨k,o,h1,h2,by rw[eW]; exact hp⟩]at h; cases h
 ·intro h;cases hw:wrB p e.1 0 ops with
  | false=>rfl
  | true=>obtain⟨k,o,h1,h2,h3⟩:=yV.1 hw;rw[eW]at h3;rw[h k o h1 h2]at h3; cases h3
def stP(st:St)(fr0:Fr)(ops:List Oper)(lo:List LOp)(ol:OL)(p:Nat->Bool):St:=⟨frP p ops fr0++qY p 0 ops lo,Bx st.hp lo p ol⟩
def knw(pre:List (List Nat))(i:Nat)(ol:OL):OL:=ol.filter fun e=>e.2.2.all fun j=>Nat.beq j i || inN j (pre.getD i []) || inN i (pre.getD j [])
def stI(st:St)(fr0:Fr)(ops:List Oper)(lo:List LOp)(ol:OL)(pre:List (List Nat))(i:Nat):St:=
 ⟨frP (fun j=>!((Nat.beq j i || inN i (pre.getD j [])) || Nat.ble pre.length j)) ops fr0++qY (fun j=>inN j (pre.getD i [])) 0 ops lo,Bx st.hp lo (fun j=>inN j (pre.getD i [])) (knw pre i ol)⟩
def bBD(I:Inf)(ops:List Oper)(calls:List (Nat×(Nat×List PV×PV×Hp×Option (Nat×bA))))(lits:List (Nat×(Bool×Bool)))(st:St)(fr0:Fr)(ol:OL)(pre:List (List Nat)):Nat->List Oper->List LOp->List LOp
 | _,[],lo=>lo
 | i,o::os,lo=>bBD I ops calls lits st fr0 ol pre (i+1) os (lo++[match aCL I ops (bK calls i) o (stI st fr0 ops lo ol pre i) with
  | some (v,md,_,_,fs)=>⟨match bK lits i with | some (_,b)=>some (.t (.bool b)) | none=>v,md,fs⟩
  | none=>⟨none,none,[]⟩])
def Ya(I:Inf)(ops:List Oper)(calls:List (Nat×(Nat×List PV×PV×Hp×Option (Nat×bA))))(st:St)(fr0:Fr)(lo:List LOp)(ol:OL)(pre:List (List Nat)):Nat->List Oper->List (Option Eff)
 | _,[]=>[]
 | i,o::os=>aCL I ops (bK calls i) o (stI st fr0 ops lo ol pre i)::Ya I ops calls st fr0 lo ol pre (i+1) os
def aYH(ops:List Oper)(calls:List (Nat×(Nat×List PV×PV×Hp×Option (Nat×bA))))(lits:List (Nat×(Bool×Bool)))(conds:List (Nat×List Prop))(st:St)(lo:List LOp)(i:Nat)(o:Oper):Option Eff:=
 some (match bK lits i with | some (b,_)=>some (.t (.bool b)) | none=>(lo.getD i default).val,(lo.getD i default).md,match bK conds i with | some l=>l | none=>[],
  match bK calls i,cQ ops o st with | some (_,as,_,Hs,_),some true=>(as,some Hs) | _,_=>noA,(lo.getD i default).fs.map fun _ _=>true)
def aBE(ops:List Oper)(calls:List (Nat×(Nat×List PV×PV×Hp×Option (Nat×bA))))(lits:List (Nat×(Bool×Bool)))(conds:List (Nat×List Prop))(st:St)(fr0:Fr)(lo:List LOp)(ol:OL)(pre:List (List Nat)):Nat->List Oper->List (Option Eff)
 | _,[]=>[]
 | i,o::os=>aYH ops calls lits conds (stI st fr0 ops lo ol pre i) lo i o::aBE ops calls lits conds st fr0 lo ol pre (i+1) os
def Wd(d:Nat):List Nat->Bool
 | []=>true
 | k::l=>!(Nat.beq k d)&&Wd d l
def qD:List Nat->Bool
 | []=>true
 | k::l=>Wd k l&&qD l
def aBJ(ops:List Oper):List Nat:=ops.filterMap (·.dst)
def yZ(pre:List (List Nat))(i d:Nat):Nat->List LOp->Bool
 | _,[]=>true
 | j,l::ls=>(match l.val with | some x=>!(x.mentions d) || inN i (pre.getD j []) || Nat.beq j i | none=>true) &&
   (match l.md with | some (_,c,_)=>!(c.mentions d) || inN i (pre.getD j []) || Nat.beq j i | none=>true)&&yZ pre i d (j+1) ls
def zM(hp:Hp)(d:Nat):OL->Bool
 | []=>true
 | (o,new,_)::l=>(match Nat.beq o d with | true=>new | false=>true)&&(match ini hp o new with | some c=>!(c.mentions d) | none=>true)&&zM hp d l
def yO(pre:List (List Nat))(st:St)(fr0:Fr)(lo:List LOp)(ol:OL):Nat->List Oper->Bool
 | _,[]=>true
 | i,o::os=>(match jB o with
   | some d=>yZ pre i d 0 lo&&zM st.hp d ol&&fr0.all (fun e=>!(e.2.mentions d))&&ol.all (fun e=>!(Nat.beq e.1 d) || e.2.2.all fun j=>Nat.beq j i || inN i (pre.getD j []))
   | none=>true)&&yO pre st fr0 lo ol (i+1) os
def Tq(ol:OL):Nat->List LOp->Bool
 | _,[]=>true
 | i,l::ls=>(match l.md with
   | some (o,_,k)=>ol.any (fun e=>Nat.beq e.1 o&&inN i e.2.2)&&(match k with
    | none=>ol.all (fun e=>Nat.beq e.1 o || !(inN i e.2.2))
    | some k=>ol.all fun e=>Nat.beq e.1 o || (match Nat.beq e.1 k with | true=>inN i e.2.2 | false=>!(inN i e.2.2)))
   | none=>ol.all fun e=>!(inN i e.2.2))&&Tq ol (i+1) ls
def Hh(pre:List (List Nat)):List Nat->Bool
 | []=>true
 | j::js=>js.all (fun k=>inN j (pre.getD k []))&&Hh pre js
def aKV(ops:List Oper)(pre:List (List Nat)):Nat->List Oper->Bool
 | _,[]=>true
 | i,o::os=>(jG o).all (fun j=>Nat.blt j i)&&(pre.getD i []).all (fun k=>Nat.blt k i&&(inN k (jG o) || (jG o).any fun j=>inN k (pre.getD j [])))&&aKV ops pre (i+1) os
def aFK(o:Oper):Bool:=match o.guard,o.op with
 | none,.move _=>true
 | none,.assign _=>true
 | none,.extract _ _=>true
 | _,_=>false
def aEQ(L:List Oper)(j:Nat):Bool:=(List.range L.length).all fun i=>Nat.ble i j || (match L[i]? with | some o=>(jG o).any fun k=>Nat.ble j k | none=>true)
def Km(L:List Oper)(j:Nat):List Bool:=(List.range L.length).map fun k=>Nat.blt k j
def aLP(L:List Oper):List Oper->Nat->Bool
 | [],_=>true
 | o::t,j=>aFK o&&Region.free .any L.toArray (Km L j).toArray j&&aLP L t (j+1)
def chT(L:List Oper):Nat->List Oper->Bool
 | _,[]=>true
 | j,o::t=>(Region.noSelect L.toArray&&aLP L (o::t) j) || (aEQ L j&&chT L (j+1) t)
def tlB(L:List Oper)(pre:List (List Nat))(n:Nat):List Oper->Bool
 | []=>true
 | o::l=>((List.range n).all fun k=>inN k (jG o) || (jG o).any fun j=>inN k (pre.getD j []))&&(aEQ L n&&chT L (n+1) l)
theorem Kn{L:List Oper}{j i:Nat}{o:Oper}(h:aEQ L j=true)(hi:L[i]? = some o)(hji:j<i):∃ k,k∈jG o/\j<=k:=by
 have hL:i<L.length:=(eK.1 hi).1;have:=dQ.1 h i (sF.2 hL);rw[hi]at this;simp only[mP,List.any_eq_true]at this;rcases this with h | ⟨k,h1,h2⟩
 ·have:=fH h; omega
 ·exact⟨k,h1,fH h2⟩
theorem Oper.wp_monoQ{P:Program}{o:Oper}{a:Act}{w:World}{K K':Act->World->Prop}{Q:Exit->Act->World->Prop}(h:∀ a w,K a w->K' a w)(hQ:∀ e a w,Q e a w->Q' e a w)
  (hh:o.wp P a w K Q):o.wp P a w K' Q':=by
 have hl:LetsOut Q->LetsOut Q':=fun⟨a,w,h⟩=>⟨a,w,hQ _ _ _ h⟩;unfold Oper.wp at *
 generalize (execOp a.eval o).run P w=r at *
 cases r with
 | ok n w'=>
  cases n <;> simp only[Oper.upon]at hh ⊢ <;>
   first
    | exact h _ _ hh
    | exact Calls.mono hh (fun e w'' he=>by cases e <;> first | exact h _ _ he | exact hQ _ _ _ he | exact hl he)
    | exact Rows.mono hh (fun _ _ he=>h _ _ he)
 | halt x w'=>cases x <;> simp only[Oper.upon]at hh ⊢ <;> first | exact hQ _ _ _ hh | exact hh
theorem mY{P:Program}{md:Region.Mode}{ops:Array Oper}{Q Q':Exit->Act->World->Prop}(hQ:∀ e a w,Q e a w->Q' e a w):∀ (fuel:Nat) (m:Array Bool) (a:Act) (w:World),wpAny P md ops Q fuel m a w->wpAny P md ops Q' fuel m a w
 | 0,_,_,_,h=>⟨h.1,hQ _ _ _ h.2⟩
 | fuel+1,m,a,w,h=>⟨fun h0=>hQ _ _ _ (h.1 h0),fun i hi=>by
   have h1:=h.2 i hi;unfold wpOp at h1 ⊢;split
   ·rename_i hn;rw[hn]at h1;exact mY hQ fuel _ _ _ h1
   ·rename_i o ho;rw[ho]at h1;simp only at h1;split
    ·rename_i hw;rw[aA hw]at h1;rcases h1 with h1 | ⟨h1,a',w',h2⟩
     ·exact .inl (Oper.wp_monoQ (fun a w h=>mY hQ fuel _ _ _ h) hQ h1)
     ·exact .inr ⟨h1,a',w',hQ _ _ _ h2⟩
    ·rename_i hw;rw[aF hw]at h1;exact mY hQ fuel _ _ _ h1⟩
theorem aNK{P:Program}{o:Oper}(hs:aFK o=true){a:Act}{w:World}{K:Act->World->Prop}{Q:Exit->Act->World->Prop}(hq:o.wp P a w K Q\/(o.asks P a w/\LetsOut Q)):
  ∃ v,(∀ w',(execOp a.eval o).run P w' = .ok (.value v) w')/\K (a.put o.dst v) w:=by
 have fin:∀ v,execOp a.eval o=pure (.value v)->∃ v,(∀ w',(execOp a.eval o).run P w' = .ok (.value v) w')/\K (a.put o.dst v) w:=fun v he=>by
  refine⟨v,fun w'=>by rw[he]; rfl,?_⟩;rcases hq with hq | ⟨hq,_⟩
  ·unfold Oper.wp at hq;rw[he]at hq; exact hq
  ·have h1:=hq.1;rw[he]at h1;exact absurd h1 (Array.not_mem_empty _)
 have bad:∀ msg,execOp a.eval o=stuck msg->False:=fun msg he=>by
  rcases hq with hq | ⟨hq,_⟩
  ·unfold Oper.wp at hq;rw[he]at hq; exact hq
  ·have h1:=hq.1;rw[he]at h1;exact absurd h1 (Array.not_mem_empty _)
 unfold aFK at hs;split at hs
 ·rename_i hop; exact fin _ (by unfold execOp; rw[hop])
 ·rename_i hop; exact fin _ (by unfold execOp; rw[hop])
 ·rename_i x i _ hop;have he:execOp a.eval o=(do pure (.value (<-Instr.extract (a.eval x) i))):=by unfold execOp; rw[hop]
  unfold Instr.extract at he;split at he
  ·split at he
   ·exact fin _ he
   ·exact(bad _ he).elim
  ·exact(bad _ he).elim
 ·cases hs
theorem aBQ{o:Oper}(hs:aFK o=true):o.guard=none:=by unfold aFK at hs;split at hs <;> first | assumption | cases hs
def noP(Q:Exit->Act->World->Prop):Exit->Act->World->Prop:=fun e a w=>Q e a w/\∀ c,e ≠ .panic c
def wfL(L l tl:List Oper)(pre:List (List Nat))(st:St)(_ts:List Nat)(fr0:Fr)(lo:List LOp)(ol:OL):Bool:=
 aKV L pre 0 L&&qD (aBJ L)&&qD (ol.map (·.1))&&Tq ol 0 lo&&ol.all (fun e=>Hh pre e.2.2)&&yO pre st fr0 lo ol 0 l &&
  (Nat.beq lo.length l.length&&Nat.beq pre.length l.length)&&tlB L pre l.length tl
theorem Dj{P:Program}{L:Array Oper}{Q:Exit->Act->World->Prop}{m:Array Bool}{a:Act}{w:World}(h:Region.ready .any L m=[])(hq:Q .normal a w):∀ fuel,wpAny P .any L Q fuel m a w
 | 0=>⟨h,hq⟩
 | _+1=>⟨fun _=>hq,fun i hi=>by rw[h]at hi; cases hi⟩
def aHE(lits:List (Nat×(Bool×Bool)))(lo:List LOp):Bool:=lits.all fun e=>match (lo.getD e.1 default).val,e.2.2 with
 | some (.t (.bool true)),true=>true
 | some (.t (.bool false)),false=>true
 | _,_=>false
theorem oB{p:Nat->Bool}:∀ {i:Nat} {os:List Oper} {ls:List LOp} {e:Nat×PV},e∈qY p i os ls->∃ k o l,os[k]? = some o/\ls[k]? = some l/\p (i+k)=true/\o.dst=some e.1/\l.val=some e.2
 | _,[],_,e,h=>by simp[qY]at h
 | i,_::os,[],e,h=>by simp only[qY]at h;obtain⟨k,o,l,h1,h2,_⟩:=oB h;simp at h2
 | i,o::os,l::ls,e,h=>by
  have tail:e∈qY p (i+1) os ls->∃ k o' l',(o::os)[k]? = some o'/\(l::ls)[k]? = some l'/\p (i+k)=true/\o'.dst=some e.1/\l'.val=some e.2:=by intro h;obtain⟨k,o',l',h1,h2,h3,h4⟩:=oB h;exact⟨k+1,o',l',by simpa using h1,by simpa using h2,by rw[<-oH,Nat.add_right_comm]; exact h3,h4⟩
  simp only[qY]at h;split at h
  ·rename_i d x hp hd hv;rcases aX.1 h with rfl | h
   ·exact⟨0,o,l,by simp,by simp,by simpa using hp,hd,hv⟩
   ·exact tail h
  ·exact tail h
theorem Ba{p:Nat->Bool}{d:Nat}{x:PV}:∀ {i k:Nat} {os:List Oper} {ls:List LOp} {o:Oper} {l:LOp},os[k]? = some o->ls[k]? = some l->p (i+k)=true->o.dst=some d->l.val=some x->(d,x)∈qY p i os ls
 | _,_,[],_,_,_,h,_,_,_,_=>by simp at h
 | _,_,_::_,[],_,_,_,h,_,_,_=>by simp at h
 | i,0,o::os,l::ls,o',l',h1,h2,h3,h4,h5=>by simp at h1 h2; subst h1 h2;simp only[tV]at h3;simp[qY,h3,h4,h5]
 | i,k+1,o::os,l::ls,o',l',h1,h2,h3,h4,h5=>by
  have:=Ba (i:=i+1) (k:=k) (os:=os) (ls:=ls) (by simpa using h1) (by simpa using h2) (by rw[oH,Nat.add_comm 1 k]; exact h3) h4 h5;simp only[qY];split
  ·exact cV _ this
  ·exact this
theorem mL{lo:List LOp}{p q:Nat->Bool}{o:Nat}:∀ {js:List Nat} {c:Option bA},(∀ j,j∈js->p j=q j)->kX lo p o c js=kX lo q o c js
 | [],_,_=>rfl
 | j::js,c,h=>by
  simp only[kX,h j (by simp)];split
  ·exact mL fun k hk=>h k (cV _ hk)
  ·exact mL fun k hk=>h k (cV _ hk)
theorem vQ{lo:List LOp}{q:Nat->Bool}{o:Nat}:∀ {js:List Nat} {c:Option bA},(∀ j,j∈js->q j=false)->kX lo q o c js=c
 | [],_,_=>rfl
 | j::js,c,h=>by simp only[kX,h j (by simp)]; exact vQ fun k hk=>h k (cV _ hk)
theorem rB{lo:List LOp}{pre:List (List Nat)}{q:Nat->Bool}{i o:Nat}(hi:q i=true):∀ {js:List Nat} {c:Option bA},Hh pre js=true->i∈js->(∀ j,j∈js->i∈pre.getD j []->q j=false) ->
  kX lo q o c js=Wv lo o i
 | [],_,_,h,_=>by simp at h
 | j::js,c,hc,h,hq=>by
  simp only[Hh,cP,dQ]at hc;by_cases hj:j=i
  ·subst hj;simp only[kX,hi];exact vQ fun k hk=>hq k (cV _ hk) (dE.1 (hc.1 k hk))
  ·have hm:i∈js:=by
    rcases aX.1 h with rfl | h
    ·exact absurd rfl hj
    ·exact h
   simp only[kX];split
   ·exact rB hi hc.2 hm fun k hk=>hq k (cV _ hk)
   ·exact rB hi hc.2 hm fun k hk=>hq k (cV _ hk)
theorem rN{lo:List LOp}{p:Nat->Bool}{o:Nat}{x:bA}:∀ {js:List Nat} {c:Option bA},kX lo p o c js=some x->c=some x\/∃ j,j∈js/\p j=true/\Wv lo o j=some x
 | [],_,h=>.inl h
 | j::js,c,h=>by
  simp only[kX]at h;split at h
  ·rename_i hp;rcases rN h with h | ⟨k,h1,h2,h3⟩
   ·exact .inr ⟨j,by simp,hp,h⟩
   ·exact .inr ⟨k,cV _ h1,h2,h3⟩
  ·rcases rN h with h | ⟨k,h1,h2,h3⟩
   ·exact .inl h
   ·exact .inr ⟨k,cV _ h1,h2,h3⟩
theorem lT{hp:Hp}{lo:List LOp}{p:Nat->Bool}:∀ {ol:OL} {e:Nat×bA},e∈Bx hp lo p ol->∃ new js,(e.1,new,js)∈ol/\kX lo p e.1 (ini hp e.1 new) js=some e.2
 | [],e,h=>by simp[Bx]at h
 | (o,new,js)::l,e,h=>by
  have tail:e∈Bx hp lo p l->∃ new' js',(e.1,new',js')∈(o,new,js)::l/\kX lo p e.1 (ini hp e.1 new') js'=some e.2:=by intro h;obtain⟨n',j',h1,h2⟩:=lT h;exact⟨n',j',cV _ h1,h2⟩
  simp only[Bx]at h;split at h
  ·rename_i x hx;rcases aX.1 h with rfl | h
   ·exact⟨new,js,by simp,hx⟩
   ·exact tail h
  ·exact tail h
theorem tO{hp:Hp}{lo:List LOp}{p:Nat->Bool}{o:Nat}{new:Bool}{js:List Nat}{x:bA}:∀ {ol:OL},(o,new,js)∈ol->kX lo p o (ini hp o new) js=some x->(o,x)∈Bx hp lo p ol
 | [],h,_=>by simp at h
 | (o',n',j')::l,h,hx=>by
  simp only[Bx];rcases aX.1 h with e | h
  ·cases e; rw[hx]; simp
  ·split
   ·exact cV _ (tO h hx)
   ·exact tO h hx
theorem Av{d:Nat}:∀ {l:List Nat},Wd d l=true->d∉l
 | [],_=>by simp
 | k::l,h=>by simp only[Wd,cP,lU]at h;simp only[aX,not_or];exact⟨fun e=>nP h.1 e.symm,Av h.2⟩
theorem aNB{ops:List Oper}:qD (aBJ ops)=true->∀ {i k:Nat} {o o':Oper} {d:Nat},ops[i]? = some o->ops[k]? = some o'->o.dst=some d->o'.dst=some d->i=k:=by
 induction ops with
 | nil=>intro _ i k o o' d h; simp at h
 | cons x ops ih=>
  intro hn i k o o' d h1 h2 h3 h4;have hin:∀ {k:Nat} {o':Oper},ops[k]? = some o'->o'.dst=some d->d∈aBJ ops:=by intro k o' hk hd;exact List.mem_filterMap.2 ⟨o',kW hk,hd⟩
  have hn':qD (aBJ ops)=true/\∀ d',x.dst=some d'->d'∉aBJ ops:=by
   unfold aBJ at hn ⊢;simp only[List.filterMap_cons]at hn;split at hn
   ·rename_i hx; exact⟨hn,fun d' hd=>by rw[hx]at hd; cases hd⟩
   ·rename_i d0 hx;simp only[qD,cP]at hn;exact⟨hn.2,fun d' hd=>by rw[hx]at hd; cases hd; exact Av hn.1⟩
  cases i with
  | zero=>
   cases k with
   | zero=>rfl
   | succ k=>simp at h1 h2; subst h1;exact absurd (hin h2 h4) (hn'.2 d h3)
  | succ i=>
   cases k with
   | zero=>simp at h1 h2; subst h2;exact absurd (hin h1 h3) (hn'.2 d h4)
   | succ k=>simp at h1 h2;rw[ih hn'.1 h1 h2 h3 h4]
theorem Hl{ops:List Oper}{pre:List (List Nat)}:∀ {os:List Oper} {i0:Nat},aKV ops pre i0 os=true->∀ {k:Nat} {o:Oper},os[k]? = some o ->
  (∀ j,j∈jG o->j<i0+k)/\∀ x,x∈pre.getD (i0+k) []->x<i0+k/\(x∈jG o\/∃ j,j∈jG o/\x∈pre.getD j [])
 | [],_,_,k,o,h=>by simp at h
 | y::os,i0,hp,k,o,h=>by
  simp only[aKV,cP,dQ]at hp;obtain⟨⟨h1,h2⟩,h3⟩:=hp;cases k with
  | zero=>
   simp at h; subst h;refine⟨fun j hj=>by simpa[fE] using h1 j hj,fun x hx=>?_⟩;have:=h2 x hx;simp only[mP,List.any_eq_true]at this;refine⟨by simpa[fE] using this.1,?_⟩;rcases this.2 with h | ⟨j,hj,h⟩
   ·exact .inl (dE.1 h)
   ·exact .inr ⟨j,hj,dE.1 h⟩
  | succ k=>have:=Hl (i0:=i0+1) h3 (k:=k) (o:=o) (by simpa using h);rw[show i0+(k+1)=i0+1+k by omega];exact this
theorem Bg{pre:List (List Nat)}{st:St}{fr0:Fr}{lo:List LOp}{ol:OL}:∀ {os:List Oper} {i0:Nat},yO pre st fr0 lo ol i0 os=true->∀ {k:Nat} {o:Oper} {d:Nat},os[k]? = some o->jB o=some d ->
  yZ pre (i0+k) d 0 lo=true/\zM st.hp d ol=true/\(∀ e,e∈fr0->e.2.mentions d=false)/\∀ e,e∈ol->e.1=d->∀ j,j∈e.2.2->j=i0+k\/(i0+k)∈pre.getD j []
 | [],_,_,k,o,d,h,_=>by simp at h
 | y::os,i0,hp,k,o,d,h,ha=>by
  simp only[yO,cP]at hp;cases k with
  | zero=>
   simp at h; subst h;rw[ha]at hp;simp only[cP,dQ,lU,mP]at hp;obtain⟨⟨⟨⟨h1,h2⟩,h3⟩,h4⟩,_⟩:=hp;refine⟨h1,h2,h3,fun e he hed j hj=>?_⟩;rcases h4 e he with h | h
   ·exact absurd hed (nP h)
   ·rcases h j hj with h | h
    ·exact .inl (cJ h)
    ·exact .inr (dE.1 h)
  | succ k=>have:=Bg (i0:=i0+1) hp.2 (k:=k) (o:=o) (by simpa using h) ha;rw[show i0+(k+1)=i0+1+k by omega];exact this
theorem wR{pre:List (List Nat)}{i d:Nat}:∀ {ls:List LOp} {j0:Nat},yZ pre i d j0 ls=true->∀ {k:Nat} {l:LOp},ls[k]? = some l ->
  (∀ x,l.val=some x->x.mentions d=false\/i∈pre.getD (j0+k) []\/j0+k=i)/\∀ o c kk,l.md=some (o,c,kk)->c.mentions d=false\/i∈pre.getD (j0+k) []\/j0+k=i
 | [],_,_,k,l,h=>by simp at h
 | y::ls,j0,hp,k,l,h=>by
  simp only[yZ,cP]at hp;obtain⟨⟨h1,h2⟩,h3⟩:=hp;cases k with
  | zero=>
   simp at h; subst h;refine⟨fun x hx=>?_,fun o c kk hm=>?_⟩
   ·rw[hx]at h1;simp only[mP,lU]at h1;rcases h1 with (h | h) | h
    ·exact .inl h
    ·exact .inr (.inl (dE.1 h))
    ·exact .inr (.inr (cJ h))
   ·rw[hm]at h2;simp only[mP,lU]at h2;rcases h2 with (h | h) | h
    ·exact .inl h
    ·exact .inr (.inl (dE.1 h))
    ·exact .inr (.inr (cJ h))
  | succ k=>have:=wR (j0:=j0+1) h3 (k:=k) (l:=l) (by simpa using h);rw[show j0+(k+1)=j0+1+k by omega];exact this
theorem Ed{hp:Hp}{d:Nat}:∀ {ol:OL},zM hp d ol=true->∀ {o:Nat} {new:Bool} {js:List Nat},(o,new,js)∈ol->(o=d->new=true)/\∀ c,ini hp o new=some c->c.mentions d=false
 | [],_,o,new,js,h=>by simp at h
 | (o',n',j')::l,hc,o,new,js,h=>by
  simp only[zM,cP]at hc;rcases aX.1 h with e | h
  ·cases e;refine⟨fun hd=>?_,fun c hi=>?_⟩
   ·subst hd;have:=hc.1.1;rw[mR]at this;exact this
   ·have:=hc.1.2;rw[hi]at this;simpa using this
  ·exact Ed hc.2 h
theorem Jy{ol:OL}:∀ {ls:List LOp} {i0:Nat},Tq ol i0 ls=true->∀ {k:Nat} {l:LOp},ls[k]? = some l ->
  (∀ o c q,l.md=some (o,c,q)->(∃ e,e∈ol/\e.1=o/\i0+k∈e.2.2)/\∀ e,e∈ol->e.1=o\/(q=some e.1/\i0+k∈e.2.2)\/(q≠some e.1/\i0+k∉e.2.2))/\(l.md=none->∀ e,e∈ol->i0+k∉e.2.2)
 | [],_,_,k,l,h=>by simp at h
 | y::ls,i0,hp,k,l,h=>by
  simp only[Tq,cP]at hp;have nin:∀ {x:Nat} {l:List Nat},inN x l=false->x∉l:=fun h hm=>by rw[dE.2 hm]at h; cases h
  cases k with
  | zero=>
   simp at h; subst h;refine⟨fun o c q hm=>?_,fun hm=>?_⟩
   ·have:=hp.1;rw[hm]at this;simp only[cP,List.any_eq_true]at this;obtain⟨⟨e,h1,h2,h3⟩,h4⟩:=this;refine⟨⟨e,h1,cJ h2,dE.1 h3⟩,fun e he=>?_⟩;cases q with
    | none=>
     simp only[dQ,mP,lU]at h4;rcases h4 e he with h | h
     ·exact .inl (cJ h)
     ·exact .inr (.inr ⟨by simp,nin h⟩)
    | some q=>
     simp only[dQ,mP]at h4;rcases h4 e he with h | h
     ·exact .inl (cJ h)
     ·split at h
      ·rename_i hb;exact .inr (.inl ⟨by rw[cJ hb],dE.1 h⟩)
      ·rename_i hb;exact .inr (.inr ⟨by simp only[ne_eq,gO]; exact fun h'=>nP hb h'.symm,nin (by simpa using h)⟩)
   ·have:=hp.1;rw[hm]at this;simp only[dQ,lU]at this;exact fun e he=>nin (this e he)
  | succ k=>have:=Jy (i0:=i0+1) hp.2 (k:=k) (l:=l) (by simpa using h);rw[show i0+(k+1)=i0+1+k by omega];exact this
theorem Ac:∀ {ol:OL},qD (ol.map (·.1))=true->∀ {e e':Nat×Bool×List Nat},e∈ol->e'∈ol->e.1=e'.1->e=e'
 | [],_,e,e',h,_,_=>by simp at h
 | x::ol,hn,e,e',h,h',he=>by
  simp only[kY,qD,cP]at hn;have hx:=Av hn.1;rcases aX.1 h with q | h
  ·rcases aX.1 h' with q' | h'
   ·rw[q,q']
   ·exact absurd (by rw[<-q,he]; exact Ax h') hx
  ·rcases aX.1 h' with q' | h'
   ·exact absurd (by rw[<-q',<-he]; exact Ax h) hx
   ·exact Ac hn.2 h h' he
theorem Ul{ops:List Oper}{calls:List (Nat×(Nat×List PV×PV×Hp×Option (Nat×bA)))}{st:St}{fr0:Fr}{lo:List LOp}{ol:OL}{pre:List (List Nat)}{lits:List (Nat×(Bool×Bool))}{conds:List (Nat×List Prop)}:
  ∀ {os:List Oper} {i0:Nat},Ya I ops calls st fr0 lo ol pre i0 os=aBE ops calls lits conds st fr0 lo ol pre i0 os->∀ {k:Nat} {o:Oper},os[k]? = some o ->
  aCL I ops (bK calls (i0+k)) o (stI st fr0 ops lo ol pre (i0+k))=aYH ops calls lits conds (stI st fr0 ops lo ol pre (i0+k)) lo (i0+k) o
 | [],_,_,k,o,h=>by simp at h
 | y::os,i0,he,k,o,h=>by
  simp only[Ya,aBE,List.cons.injEq]at he;cases k with
  | zero=>simp at h; subst h; exact he.1
  | succ k=>have:=Ul (i0:=i0+1) he.2 (k:=k) (o:=o) (by simpa using h);rw[show i0+(k+1)=i0+1+k by omega];exact this
theorem aWF{z:PV}{b:Bool}(h:(match (some z:Option PV),b with | some (.t (.bool true)),true=>true | some (.t (.bool false)),false=>true | _,_=>false)=true):z = .t (.bool b):=by
 split at h
 ·rename_i h1; cases h1; rfl
 ·rename_i h1; cases h1; rfl
 ·cases h
theorem aGS(hG:fF P E I)(hm:P.follows .mixedOrders=true){id:Nat}{L l tl:List Oper}(hL:L=l++tl){st stF:St}{calls:List (Nat×(Nat×List PV×PV×Hp×Option (Nat×bA)))}{lits:List (Nat×(Bool×Bool))}{conds:List (Nat×List Prop)}{ol:OL}
  {ts:List Nat}{fr0:Fr}{pre:List (List Nat)}{lo:List LOp}(hf0:∀ e,e∈fr0->e∈st.fr/\e.1∈ts)(hc:Ic P calls)(hl:xM lits)(hA:qO conds)(ts' os':List Nat)
  (hw:wfL L l tl pre st ts fr0 lo ol=true)(hlit:aHE lits lo=true)(he:Ya I L calls st fr0 lo ol pre 0 l=aBE L calls lits conds st fr0 lo ol pre 0 l)
  (hF:(stP st fr0 L lo ol (fun j=>Nat.blt j l.length)).keep ts' os'=some stF)(hk:fR P E L Q tl stF):pwp P E (.region id L.toArray true) Q st:=by
 intro hndc a w r;simp only[wfL,cP]at hw;obtain⟨⟨⟨⟨⟨⟨⟨hpre,hnd⟩,hol⟩,hmods⟩,hchain⟩,hall⟩,hlen,hplen⟩,htl⟩:=hw;have hchain:=dQ.1 hchain;have hlen:=cJ hlen;have hplen:=cJ hplen;have hLl:L.length=l.length+tl.length:=by rw[hL]; simp
 have hat:∀ {i:Nat},i<l.length->L[i]? = l[i]?:=fun hi=>by rw[hL,eT hi]
 let SS:(Nat->Bool)->St:=stP st fr0 L lo ol;have lo_at:∀ {k:Nat} {o:Oper},l[k]? = some o->∃ x,lo[k]? = some x/\lo.getD k default=x:=by
  intro k o hk;have:k<lo.length:=by rw[hlen]; exact(eK.1 hk).1
  exact⟨lo[k],gJ this,by simp[this]⟩
 have md_at:∀ {k:Nat} {x:LOp} {o o':Nat} {c:bA} {q:Option Nat},lo[k]? = some x->x.md=some (o,c,q)->Wv lo o' k=(match Nat.beq o o' with | true=>some c | false=>none):=by
  intro k x o o' c q hx hmd;have:lo.getD k default=x:=by rw[cI,hx]; rfl
  unfold Wv;rw[this];cases x with
  | mk v md fs=>simp only at hmd; subst hmd; rfl
 have hdlt:∀ {i:Nat} {o:Oper},L[i]? = some o->∀ j,j∈jG o->j<i:=by intro i o hi j hj;have:=(Hl hpre hi).1 j hj;omega
 have rdy:∀ m:List Bool,m.length=L.length->∀ i o,L[i]? = some o->eR m i false=false->(∀ j,j∈jG o->eR m j false=true)->i∈Region.ready .any L.toArray m.toArray:=by
  intro m hml i o ho hb hd;have hi':i<m.length:=by rw[hml]; exact(eK.1 ho).1
  rw[mem_ready];refine⟨?_,o,by simpa using ho,fun e hee hbd=>?_⟩
  ·rw[eV]at hb;have:m[i]=false:=by simpa[cI,hi'] using hb
   simp[hi',this]
  ·have hdep:e.on∈jG o:=by simp only[jG,dW,uD];exact⟨e,⟨by simpa using hee,hbd⟩,rfl⟩
   have:=hd e.on hdep;rw[eV]at this;simpa[Dh,cI] using this
 have done:∀ m:List Bool,m.length=L.length->(∀ i,i<l.length->i∉Region.ready .any L.toArray m.toArray)->∀ i,i<l.length->eR m i false=true:=by
  intro m hml hr i
  induction i using Nat.strongRecOn with
  | _ i ih=>
   intro hi;cases hb:eR m i false with
   | true=>rfl
   | false=>
    exfalso;have ho:L[i]? = some l[i]:=by rw[hat hi]; simp[hi]
    exact hr i hi (rdy m hml i _ ho hb fun j hj=>ih j (hdlt ho j hj) (Nat.lt_trans (hdlt ho j hj) hi))
 have toF:∀ m:List Bool,(∀ i,i<l.length->eR m i false=true)->(∀ i,l.length<=i->eR m i false=false)->∀ {a w},Rel E (SS fun j=>eR m j false) a w->Rel E stF a w:=by
  intro m h1 h2 a w r;have hp:(fun j=>eR m j false)=fun j=>Nat.blt j l.length:=by
   funext j;by_cases hj:j<l.length
   ·rw[h1 j hj]; exact(by simpa[fE] using hj:Nat.blt j l.length=true).symm
   ·rw[h2 j (by omega)];cases hb:Nat.blt j l.length with
    | false=>rfl
    | true=>exact absurd (by simpa[fE] using hb) hj
  rw[hp]at r;exact r.keep hF
 have late:∀ i o,l.length<i->L[i]? = some o->∃ k,k∈jG o/\l.length<=k:=by
  intro i o hi ho;have ho':=ho;rw[hL,eH (by omega)]at ho'
  match tl,htl with
  | [],_=>simp at ho'
  | x::t,h=>simp only[tlB,cP]at h;exact Kn h.2.1 ho hi
 have htl2:chT L l.length tl=true:=by
  match tl,htl with
  | [],_=>rfl
  | x::t,h=>simp only[tlB,cP]at h;simp only[chT,mP,cP];exact .inr h.2
 have notyet:∀ (m:List Bool) (i:Nat),My L m i=true->i<m.length->eR m i false=false/\∀ o,L[i]? = some o->∀ j,j∈jG o->eR m j false=true:=by
  intro m i hri him;constructor
  ·unfold My at hri;split at hri
   ·cases hri
   ·rename_i hb;rw[eV]at hb ⊢;simpa[cI,him] using hb
  ·intro o ho;unfold My at hri;split at hri
   ·cases hri
   ·rw[ho]at hri;exact fun j hj=>dQ.1 hri j hj
 have sil:Region.noSelect L.toArray=true->∀ (t:List Oper) (j:Nat),L.drop j=t->aLP L t j=true->∀ (fuel:Nat) (m:List Bool),m.length=L.length->(∀ i,i<j->i<L.length->eR m i false=true)->(∀ i,j<=i->eR m i false=false)->t.length<=fuel ->
   ∀ a w,wpList P L.toArray (nH E Q) t a w->wpAny P .any L.toArray (noP (nH E Q)) fuel m.toArray a w:=by
  intro hns t
  induction t with
  | nil=>intro j hd _ fuel m hml hT hFs _ a w hq;refine Dj (Ij.2 fun i hi=>?_) ⟨by simpa only[wpList] using hq,fun c h=>by cases h⟩ fuel;obtain⟨hri,hiL⟩:=yL hi;have hlen:=List.drop_eq_nil_iff.1 hd;have:=(notyet m i hri (by omega)).1;rw[hT i (by omega) hiL]at this;cases this
  | cons o t ih=>
   intro j hd hsb fuel m hml hT hFs hfu a w hq;have ho:L[j]? = some o:=by rw[<-List.head?_drop,hd]; rfl
   have hjL:j<L.length:=(eK.1 ho).1;have hd':L.drop (j+1)=t:=by rw[<-List.tail_drop,hd]; rfl
   obtain⟨f,rfl⟩:∃ f,fuel=f+1:=⟨fuel-1,by simp only[qZ]at hfu; omega⟩;simp only[aLP,cP]at hsb;obtain⟨⟨hs1,hs2⟩,hs3⟩:=hsb;have hw:Region.wanted o (yielded L.toArray a.tmps)=true:=by unfold Region.wanted; rw[aBQ hs1]
   simp only[wpList]at hq;rw[aA hw]at hq;obtain⟨v,hv,hK⟩:=aNK hs1 hq;have hm:m=Km L j:=by
    refine List.ext_getElem (by unfold Km; simp[hml]) fun k h1 h2=>?_;have e1:eR m k false=m[k]:=by rw[eV]; simp[h1]
    have e2:(Km L j)[k]=Nat.blt k j:=by simp[Km]
    rw[e2,<-e1];by_cases hkj:k<j
    ·rw[hT k hkj (by omega)]; exact(by simpa[fE] using hkj:Nat.blt k j=true).symm
    ·rw[hFs k (by omega)];cases hb:Nat.blt k j with
     | false=>rfl
     | true=>exact absurd (by simpa[fE] using hb) hkj
   have hset:(m.toArray).setIfInBounds j true=(pW m j).toArray:=by rw[kI]; simp
   have hjm:j<m.length:=by omega
   have hgs:∀ k,eR (pW m j) k false=(if k=j then true else eR m k false):=by
    intro k;rw[kI,eV,eV];simp only[cI,pV];by_cases hki:k=j
    ·subst hki; simp[hjm]
    ·simp[hki,show j≠k from fun h=>hki h.symm]
   refine wpAny_take (i:=j) (oi:=o) (v:=v) (by simpa using ho) hns (by rw[hm]; exact hs2) (by simpa using rdy m hml j o ho (hFs j (fK _)) fun k hk=>hT k (hdlt ho k hk) (Nat.lt_trans (hdlt ho k hk) hjL)) (fun c a w h=>absurd rfl (h.2 c)) (.inl ⟨hw,hv⟩) ?_;rw[hset];refine ih (j+1) hd' hs3 f (pW m j) (by rw[kI]; simpa using hml) (fun k hk hkL=>?_) (fun k hk=>?_) (by simp only[qZ]at hfu; omega) _ w hK
   ·rw[hgs];split
    ·rfl
    ·exact hT k (by omega) hkL
   ·rw[hgs,aF (by omega)]; exact hFs k (by omega)
 have tail:∀ (t:List Oper) (j:Nat),l.length<=j->L.drop j=t->chT L j t=true->∀ (fuel:Nat) (m:List Bool),m.length=L.length->(∀ i,i<j->i<L.length->eR m i false=true)->(∀ i,j<=i->eR m i false=false)->t.length<=fuel ->
   ∀ a w,wpList P L.toArray (nH E Q) t a w->wpAny P .any L.toArray (nH E Q) fuel m.toArray a w:=by
  intro t
  induction t with
  | nil=>intro j _ hd _ fuel m hml hT hFs _ a w hq;refine Dj (Ij.2 fun i hi=>?_) (by simpa only[wpList] using hq) fuel;obtain⟨hri,hiL⟩:=yL hi;have hlen:=List.drop_eq_nil_iff.1 hd;have:=(notyet m i hri (by omega)).1;rw[hT i (by omega) hiL]at this;cases this
  | cons o t ih=>
   intro j hj hd hch fuel m hml hT hFs hfu a w hq;simp only[chT,mP,cP]at hch;rcases hch with⟨hns,hsb⟩ | ⟨honly,hch⟩
   ·exact mY (fun e a w h=>h.1) fuel _ a w (sil hns (o::t) j hd hsb fuel m hml hT hFs hfu a w hq)
   have ho:L[j]? = some o:=by rw[<-List.head?_drop,hd]; rfl
   have hjL:j<L.length:=(eK.1 ho).1;have hd':L.drop (j+1)=t:=by rw[<-List.tail_drop,hd]; rfl
   obtain⟨f,rfl⟩:∃ f,fuel=f+1:=⟨fuel-1,by simp only[qZ]at hfu; omega⟩;refine⟨fun hr=>?_,fun i hi=>?_⟩
   ·have:=rdy m hml j o ho (hFs j (fK _)) fun k hk=>hT k (hdlt ho k hk) (Nat.lt_trans (hdlt ho k hk) hjL);rw[hr]at this;cases this
   ·obtain⟨hri,hiL⟩:=yL hi;have him:i<m.length:=by omega
    obtain⟨n1,n2⟩:=notyet m i hri him;have hij:i=j:=by
     refine Uw fun hne=>?_;have hlt:j<i:=by refine Uw fun h=>?_;rw[hT i (by omega) hiL]at n1;cases n1
     obtain⟨k,hk1,hk2⟩:=Kn honly (gJ hiL) hlt;have h1:=n2 _ (gJ hiL) _ hk1;rw[hFs k hk2]at h1;cases h1
    subst hij;have hset:(m.toArray).setIfInBounds i true=(pW m i).toArray:=by rw[kI]; simp
    have hgs:∀ k,eR (pW m i) k false=(if k=i then true else eR m k false):=by
     intro k;rw[kI,eV,eV];simp only[cI,pV];by_cases hki:k=i
     ·subst hki; simp[him]
     ·simp[hki,show i≠k from fun h=>hki h.symm]
    have go:∀ a w,wpList P L.toArray (nH E Q) t a w->wpAny P .any L.toArray (nH E Q) f (m.toArray.setIfInBounds i true) a w:=by
     intro a w h;rw[hset];refine ih (i+1) (by omega) hd' hch f (pW m i) (by rw[kI]; simpa using hml) (fun k hk hkL=>?_) (fun k hk=>?_) (by simp only[qZ]at hfu; omega) a w h
     ·rw[hgs];split
      ·rfl
      ·exact hT k (by omega) hkL
     ·rw[hgs,aF (by omega)]; exact hFs k (by omega)
    simp only[wpList]at hq;unfold wpOp;rw[show (L.toArray)[i]? = some o by simpa using ho];simp only;split
    ·rename_i hw;rw[aA hw]at hq;rcases hq with hq | hq
     ·exact .inl (Oper.wp_mono go hq)
     ·exact .inr hq
    ·rename_i hw;rw[aF hw]at hq;exact go _ _ hq
 have key:∀ (fuel:Nat) (m:List Bool),m.length=L.length->(∀ i k,eR m i false=true->k∈pre.getD i []->eR m k false=true)->(∀ i,l.length<=i->eR m i false=false)->m.count false<=fuel->∀ a w,Rel E (SS fun j=>eR m j false) a w ->
   wpAny P .any L.toArray (nH E Q) fuel m.toArray a w:=by
  have fin:∀ (fuel:Nat) (m:List Bool),m.length=L.length->(∀ i,l.length<=i->eR m i false=false)->m.count false<=fuel->(∀ i,i<l.length->eR m i false=true)->∀ a w,Rel E (SS fun j=>eR m j false) a w->wpAny P .any L.toArray (nH E Q) fuel m.toArray a w:=by
   intro fuel m hml hts hcnt hall a w r;refine tail tl l.length (fK _) (by rw[hL]; simp) htl2 fuel m hml (fun i hi _=>hall i hi) hts ?_ a w (hk a w (toF m hall hts r));have h1:(m.drop l.length).count false=(m.drop l.length).length:=by
    refine List.count_eq_length.2 fun b hb=>?_;obtain⟨q,hq,rfl⟩:=aEK.1 hb;have h2:=hts (l.length+q) (by omega);rw[eV]at h2;have h3:l.length+q<m.length:=by rw[fI]at hq; omega
    rw[List.getElem_drop];have:m[l.length+q]=false:=by simpa[cI,h3] using h2
    exact this.symm
   have h4:m.count false=(m.take l.length).count false+(m.drop l.length).count false:=by rw[<-List.count_append,Ah]
   rw[fI]at h1;omega
  intro fuel
  induction fuel with
  | zero=>
   intro m hml hcl hts hcnt a w r;refine fin 0 m hml hts hcnt (fun i hi=>?_) a w r;have him:i<m.length:=by omega
   cases hb:eR m i false with
   | true=>rfl
   | false=>
    exfalso;rw[eV]at hb;have:m[i]=false:=by simpa[cI,him] using hb
    have:=List.count_pos_iff.2 (this▸xD him);omega
  | succ fuel ih=>
   intro m hml hcl hts hcnt a w r;by_cases hall0:∀ i,i<l.length->eR m i false=true
   ·exact fin (fuel+1) m hml hts hcnt hall0 a w r
   refine⟨fun hr=>absurd (done m hml fun i _ h=>by rw[hr]at h; cases h) hall0,fun i hi=>?_⟩;obtain⟨hri,hiL⟩:=yL hi;have him:i<m.length:=by omega
   obtain⟨hmi0,hdeps0⟩:=notyet m i hri him;have hil:i<l.length:=by
    refine Uw fun hn=>?_;have ho:=gJ hiL;by_cases hin:i=l.length
    ·subst hin;have hd:=hdeps0 _ ho;refine hall0 fun k hk'=>?_;have e0:L[l.length]? = tl[0]?:=by rw[hL,eH (fK _),sM]
     have hoT:tl[0]? = some L[l.length]:=e0.symm.trans ho
     match tl,htl,hoT with
     | x::t,h,hoT=>
      simp only[tlB,cP]at h;have hx:x=L[l.length]:=by simpa using hoT
      have:=dQ.1 h.1 k (sF.2 hk');rw[hx]at this;simp only[mP,List.any_eq_true]at this;rcases this with h | ⟨j,hj,h⟩
      ·exact hd k (dE.1 h)
      ·exact hcl j k (hd j hj) (dE.1 h)
    ·obtain⟨k,hk1,hk2⟩:=late i _ (by omega) ho;have:=hdeps0 _ ho _ hk1;rw[hts k hk2]at this;cases this
   have hol0:l[i]? = some l[i]:=gJ hil;have ho:L[i]? = some l[i]:=by rw[hat hil]; exact hol0
   have hmi:eR m i false=false:=by
    unfold My at hri;split at hri
    ·cases hri
    ·rename_i hb;rw[eV]at hb ⊢;simpa[cI,him] using hb
   have hdeps:∀ j,j∈jG l[i]->eR m j false=true:=by
    unfold My at hri;split at hri
    ·cases hri
    ·rw[ho]at hri;exact fun j hj=>dQ.1 hri j hj
   have hpi:=Hl hpre ho;simp only[eW]at hpi;have hprem:∀ k,k∈pre.getD i []->eR m k false=true:=by
    intro k hk;rcases (hpi.2 k hk).2 with h | ⟨j,hj,h⟩
    ·exact hdeps k h
    ·exact hcl j k (hdeps j hj) h
   have hinot:i∉pre.getD i []:=fun h=>Nat.lt_irrefl _ (hpi.2 i h).1;have hsucc:∀ j,i∈pre.getD j []->eR m j false=false:=by
    intro j hj;cases hb:eR m j false with
    | false=>rfl
    | true=>rw[hcl j i hb hj]at hmi; cases hmi
   have hsub1:∀ e,e∈(stI st fr0 L lo ol pre i).fr->e∈(SS fun j=>eR m j false).fr:=by
    intro e he;simp only[stI,dZ]at he;show e∈frP _ L fr0++qY _ 0 L lo;rw[dZ];rcases he with he | he
    ·obtain⟨h1,h2⟩:=rU.1 he;refine .inl (rU.2 ⟨h1,fun k o h3 h4=>?_⟩);have:=h2 k o h3 h4;simp only[Bool.not_eq_false',mP]at this;rcases this with (h | h) | h
     ·rw[cJ h]; exact hmi
     ·exact hsucc k (dE.1 h)
     ·exact hts k (by have:=fH h; omega)
    ·obtain⟨k,o,x,h1,h2,h3,h4,h5⟩:=oB he;exact .inr (Ba h1 h2 (by rw[eW]at h3 ⊢; exact hprem k (dE.1 h3)) h4 h5)
   have hsub2:∀ e,e∈(stI st fr0 L lo ol pre i).hp->e∈(SS fun j=>eR m j false).hp:=by
    intro e he;obtain⟨new,js,h1,h2⟩:=lT he;obtain⟨h1,h3⟩:=uD.1 h1;refine tO h1 ?_;rw[<-h2];refine mL fun j hj=>?_;have:=dQ.1 h3 j hj;simp only[mP]at this;cases hin:inN j (pre.getD i []) with
    | true=>exact hprem j (dE.1 hin)
    | false=>
     rcases this with (h | h) | h
     ·rw[cJ h]; exact hmi
     ·rw[hin]at h; cases h
     ·exact hsucc j (dE.1 h)
   have huq:∀ k x y,(k,x)∈(SS fun j=>eR m j false).hp->(k,y)∈(SS fun j=>eR m j false).hp->x=y:=by intro k x y h1 h2;obtain⟨n1,j1,h3,h4⟩:=lT h1;obtain⟨n2,j2,h5,h6⟩:=lT h2;have:=Ac hol h3 h5 rfl;cases this;rw[h4]at h6;exact pN h6
   obtain⟨x,hx,hxd⟩:=lo_at hol0;have heff:=Ul he hol0;rw[eW]at heff;unfold aYH at heff;rw[hxd]at heff;have hCs:All (match bK conds i with | some l=>l | none=>[]):=by
    split
    ·rename_i h; exact hA.mem _ (aU h)
    ·exact trivial
   unfold wpOp;rw[show (L.toArray)[i]? = some l[i] by simpa using ho];simp only;have fin2:(if Region.wanted l[i] (yielded L.toArray a.tmps) then l[i].wp P a w (wpAny P .any L.toArray (nH E Q) fuel (m.toArray.setIfInBounds i true)) (nH E Q) else wpAny P .any L.toArray (nH E Q) fuel (m.toArray.setIfInBounds i true) (a.put l[i].dst undef) w) ->
     (if Region.wanted l[i] (yielded L.toArray a.tmps) then l[i].wp P a w (wpAny P .any L.toArray (nH E Q) fuel (m.toArray.setIfInBounds i true)) (nH E Q)\/l[i].asks P a w/\LetsOut (nH E Q) else wpAny P .any L.toArray (nH E Q) fuel (m.toArray.setIfInBounds i true) (a.put l[i].dst undef) w):=by
    intro hh;split
    ·rename_i hw; rw[aA hw]at hh; exact .inl hh
    ·rename_i hw; rw[aF hw]at hh; exact hh
   refine fin2 (aUX hG (fun k args r Hs ch hca=>hc.mem _ (aU hca)) hsub1 hsub2 huq heff hCs (fun f hf i=>by obtain⟨_,_,rfl⟩:=dW.1 hf; rfl) (fun k args r Hs ch hca hwt=>by rw[hca,hwt]) (fun d hia=>?_) r fun a' w' r'=>?_)
   ·
    obtain⟨c1,c2,c3,c4⟩:=Bg hall hol0 hia;simp only[eW]at c1 c4;refine⟨fun e he=>?_,fun e he=>?_⟩
    ·change e∈frP _ L fr0++qY _ 0 L lo at he;rcases dZ.1 he with he | he
     ·exact c3 e (rU.1 he).1
     ·obtain⟨k,o,y,h1,h2,h3,h4,h5⟩:=oB he;rw[eW]at h3;rcases (wR c1 h2).1 _ h5 with h | h | h
      ·exact h
      ·rw[eW]at h; rw[hsucc k h]at h3; cases h3
      ·rw[eW]at h; subst h; rw[hmi]at h3; cases h3
    ·obtain⟨new,js,h1,h2⟩:=lT he;obtain⟨d1,d2⟩:=Ed c2 h1;constructor
     ·cases hb:Nat.beq e.1 d with
      | false=>rfl
      | true=>
       exfalso;have hed:=cJ hb;have hnew:=d1 hed;rcases rN h2 with h | ⟨j,hj,hpj,_⟩
       ·rw[hnew]at h; simp[ini]at h
       ·rcases c4 _ h1 hed j hj with h | h
        ·subst h; rw[hmi]at hpj; cases hpj
        ·rw[hsucc j h]at hpj; cases hpj
     ·rcases rN h2 with h | ⟨j,hj,hpj,hmd⟩
      ·exact d2 _ h
      ·have hjl:j<lo.length:=by
        by_cases hjl:j<lo.length
        ·exact hjl
        ·exfalso;have:eR m j false=false:=hts j (by omega);rw[this]at hpj; cases hpj
       have hlj:lo[j]? = some lo[j]:=gJ hjl;have hgd:lo.getD j default=lo[j]:=by simp[hjl]
       unfold Wv at hmd;rw[hgd]at hmd;split at hmd
       ·rename_i v0 o0 c0 q0 f0 hv0;split at hmd
        case h_2=>cases hmd
        cases hmd;rcases (wR c1 hlj).2 o0 e.2 q0 (by rw[hv0]) with h | h | h
        ·exact h
        ·rw[eW]at h; rw[hsucc j h]at hpj; cases hpj
        ·rw[eW]at h; subst h; rw[hmi]at hpj; cases hpj
       ·cases hmd
   ·
    have hset:(m.toArray).setIfInBounds i true=(pW m i).toArray:=by rw[kI]; simp
    rw[hset];have hgs:∀ j,eR (pW m i) j false=(if j=i then true else eR m j false):=by
     intro j;rw[kI,eV,eV];simp only[cI,pV];by_cases hji:j=i
     ·subst hji; simp[him]
     ·simp[hji,show i≠j from fun h=>hji h.symm]
    refine ih (pW m i) (by rw[kI]; simpa using hml) (fun j k hj hk=>?_) (fun j hj=>by rw[hgs,aF (by omega)]; exact hts j hj) ?_ a' w' ?_
    ·rw[hgs]at hj ⊢;by_cases hki:k=i
     ·simp[hki]
     ·rw[aF hki];by_cases hji:j=i
      ·subst hji; exact hprem k hk
      ·rw[aF hji]at hj; exact hcl j k hj hk
    ·have hmi2:m[i]=false:=by rw[eV]at hmi; simpa[cI,him] using hmi
     rw[kI,List.count_set him,hmi2];have:0<m.count false:=List.count_pos_iff.2 (by rw[<-hmi2]; exact xD him);simp;omega
    ·refine r'.sub (fun e he=>?_) (fun e he=>?_)
     ·change e∈frP _ L fr0++qY _ 0 L lo at he;have old:e∈(SS fun j=>eR m j false).fr->(∀ d,l[i].dst=some d->e.1≠d)->e∈(lK (SS fun j=>eR m j false) l[i].dst (match bK lits i with | some (b,_)=>some (PV.t (T.bool b)) | none=>x.val) x.md).fr:=by
       intro h1 h2;unfold lK;simp only;split
       ·rename_i d y hd _;obtain⟨k,z⟩:=e;exact cV _ (bD.2 ⟨h1,h2 d hd⟩)
       ·exact h1
      rcases dZ.1 he with he | he
      ·obtain⟨h1,h2⟩:=rU.1 he;refine old (uB _ (rU.2 ⟨h1,fun k o h3 h4=>?_⟩)) fun d hd hed=>?_
       ·have:=h2 k o h3 h4;rw[hgs]at this;split at this
        ·cases this
        ·exact this
       ·have:=h2 i l[i] ho (by rw[hd,hed]);rw[hgs,aA rfl]at this;cases this
      ·obtain⟨k,o,y,h1,h2,h3,h4,h5⟩:=oB he;rw[eW,hgs]at h3;by_cases hki:k=i
       ·subst hki;have h1:l[k]=o:=by rw[ho]at h1; exact pN h1
        have h2:x=y:=by rw[hx]at h2; exact pN h2
        subst h2;rw[h1];unfold lK;simp only;cases hlk:bK lits k with
        | none=>simp only[h4,h5]; exact dJ ..
        | some bv=>obtain⟨b,v⟩:=bv;have hbv:b=v:=hl.mem _ (aU hlk);subst hbv;have:=dQ.1 hlit _ (aU hlk);simp only[hxd,h5]at this;simp only[h4];have hee:e=(e.1,PV.t (T.bool b)):=Prod.ext rfl (aWF this);rw[<-hee];exact dJ ..
       ·rw[aF hki]at h3;refine old (pP _ (Ba h1 h2 (by rw[eW]; exact h3) h4 h5)) fun d hd hed=>?_;exact hki (aNB hnd h1 ho h4 (by rw[hd,hed]))
     ·obtain⟨new,js,h1,h2⟩:=lT he;have hmo:=Jy hmods hx;simp only[eW]at hmo;have old:i∉js->e∈(SS fun j=>eR m j false).hp:=by intro hnj;refine tO h1 ?_;rw[<-h2];refine mL fun j hj=>?_;have hji:j≠i:=fun h=>hnj (h▸hj);rw[hgs,aF hji]
      unfold lK;simp only;split
      ·rename_i o c q hmd;obtain⟨⟨e0,q1,q2,q3⟩,q4⟩:=hmo.1 o c q hmd;by_cases heo:e.1=o
       ·have:e0=(e.1,new,js):=Ac hol q1 h1 (by rw[q2,heo]);subst this;have:=rB (o:=e.1) (q:=fun j=>eR (pW m i) j false) (by simp[hgs]) (hchain _ h1) q3 (c:=ini st.hp e.1 new) (lo:=lo) (fun j _ hj=>by have hji:j≠i:=fun h=>hinot (h▸hj);show eR (pW m i) j false=false;rw[hgs,aF hji]; exact hsucc j hj);rw[this,md_at hx hmd,<-heo,mR]at h2;cases h2;rw[<-heo];exact dJ ..
       ·refine cV _ ?_;obtain⟨k,z⟩:=e;rcases q4 _ h1 with h | ⟨h,h'⟩ | ⟨h,h'⟩
        ·exact absurd h heo
        ·exfalso;have:=rB (o:=k) (q:=fun j=>eR (pW m i) j false) (by simp[hgs]) (hchain _ h1) h' (c:=ini st.hp k new) (lo:=lo) (fun j _ hj=>by have hji:j≠i:=fun h=>hinot (h▸hj);show eR (pW m i) j false=false;rw[hgs,aF hji]; exact hsucc j hj);rw[this,md_at hx hmd]at h2;have hb:Nat.beq o k=false:=by
          cases hb:Nat.beq o k with
          | false=>rfl
          | true=>exact absurd (cJ hb).symm heo
         rw[hb]at h2;cases h2
        ·refine bD.2 ⟨?_,heo⟩;cases q with
         | none=>exact old h'
         | some q=>exact bD.2 ⟨old h',fun hh=>h (by rw[hh])⟩
      ·rename_i hmd;exact old (hmo.2 hmd _ h1)
 refine wpIn_region_any hm (Gr Ts hndc.ops _ _ _ _ ?_);have h0:=key L.length (List.replicate L.length false) (by simp) (fun i k h=>by rw[eV]at h; simp[Bk]at h; split at h <;> simp at h) (fun i _=>by rw[eV]; simp[Bk]; split <;> rfl) (by simp) a _ (r.drew.sub (fun e he=>?_) (fun e he=>?_))
 ·simpa using h0
 ·change e∈frP _ L fr0++qY _ 0 L lo at he;rcases dZ.1 he with he | he
  ·exact(hf0 e (rU.1 he).1).1
  ·obtain⟨k,o,y,h1,h2,h3,h4,h5⟩:=oB he;rw[eV]at h3;simp[Bk]at h3;split at h3 <;> simp at h3
 ·obtain⟨new,js,h1,h2⟩:=lT he;rw[vQ (fun j _=>by rw[eV]; simp[Bk]; split <;> rfl)]at h2;unfold ini at h2;split at h2
  ·cases h2
  ·exact aU h2
def Ml(I:Inf)(L l:List Oper)(calls:List (Nat×(Nat×List PV×PV×Hp×Option (Nat×bA))))(lits:List (Nat×(Bool×Bool)))(st:St)(ts:List Nat)(ol:OL):List LOp:=
 bBD I L calls lits st (iC st.fr ts) ol (Ju (Ri l) []) 0 l []
theorem tG{α:Type}{l:List (Nat×α)}:∀ {ts:List Nat} e,e∈iC l ts->e.1∈ts
 | [],e,h=>by simp[iC]at h
 | t::ts,e,h=>by
  simp only[iC]at h;split at h
  ·rcases aX.1 h with rfl | h
   ·simp
   ·exact cV _ (tG e h)
  ·exact cV _ (tG e h)
theorem aQI(hG:fF P E I)(hm:P.follows .mixedOrders=true){id:Nat}{L l tl:List Oper}(hL:L=l++tl){st stF:St}(calls:List (Nat×(Nat×List PV×PV×Hp×Option (Nat×bA))))(lits:List (Nat×(Bool×Bool)))(conds:List (Nat×List Prop))(ol:OL)
  (ts:List Nat)(hc:Ic P calls)(hl:xM lits)(hA:qO conds)(ts' os':List Nat)
  (hw:(wfL L l tl (Ju (Ri l) []) st ts (iC st.fr ts) (Ml I L l calls lits st ts ol) ol&&aHE lits (Ml I L l calls lits st ts ol))=true)
  (he:Ya I L calls st (iC st.fr ts) (Ml I L l calls lits st ts ol) ol (Ju (Ri l) []) 0 l=aBE L calls lits conds st (iC st.fr ts) (Ml I L l calls lits st ts ol) ol (Ju (Ri l) []) 0 l)
  (hF:(stP st (iC st.fr ts) L (Ml I L l calls lits st ts ol) ol (fun j=>Nat.blt j l.length)).keep ts' os'=some stF)(hk:fR P E L Q tl stF):pwp P E (.region id L.toArray true) Q st:=by
 simp only[cP]at hw;exact aGS hG hm hL (fun e he=>⟨sY e he,tG e he⟩) hc hl hA ts' os' hw.1 hw.2 he hF hk
end
def aXP(L:List Nat)(x:PV):Bool:=match L with | []=>x.pure | _=>x.scalar
section
variable {P:Program} {E:Env} {I:Inf} {Q:gL} {st:St}
end
def Cu:T->T->Bool
 | .int k _,.int k' _=>decide (k=k')
 | .str _,.str _=>true
 | _,_=>false
class MKey (K:Type) where
 kT:K->T
 lt:K->K->Bool
 eq:DecidableEq K
 inj:∀ a b,kT a=kT b->a=b
 same:∀ a b,Cu (kT a) (kT b)=true
instance (K:Type)[MKey K]:DecidableEq K:=MKey.eq
instance:MKey ByteArray where
 kT:=.str
 lt a b:=Op.bytesLess a.toList b.toList
 eq:=inferInstance
 inj a b h:=by injection h
 same _ _:=by rfl
instance:MKey Int where
 kT n:=.int .i64 n
 lt a b:=decide (a<b)
 eq:=inferInstance
 inj a b h:=by injection h
 same _ _:=by rfl
section
variable {K V:Type} [MKey K]
def lB(v:List (K×V))(k:K):List (K×V):=v.filter fun p=>decide (p.1≠k)
def aNS(k:K)(c:V):List (K×V)->List (K×V)
 | []=>[(k,c)]
 | p::l=>match MKey.lt k p.1 with | true=>(k,c)::p::l | false=>p::aNS k c l
def Pj(v:List (K×V))(k:K)(c:V):List (K×V):=aNS k c (lB v k)
def tX:List (K×V)->K->Option V
 | [],_=>none
 | p::l,k=>if p.1=k then some p.2 else tX l k
def eM(enc:V->Mem)(v:List (K×V)):List (T×Mem):=v.map fun p=>(MKey.kT p.1,enc p.2)
def dI(v:List (K×V)):List K:=v.map (·.1)
def kTs(l:List K):List T:=l.map MKey.kT
theorem Ci(k:K)(c:V):∀ l:List (K×V),(aNS k c l).Perm ((k,c)::l)
 | []=>.refl _
 | p::l=>by
  simp only[aNS];split
  ·exact .refl _
  ·exact((Ci k c l).cons p).trans (.swap ..)
theorem Cz(v:List (K×V))(k:K)(c:V):(Pj v k c).Perm ((k,c)::lB v k):=Ci k c _
theorem sN{v:List (K×V)}{k:K}(h:tX v k=none):k∉dI v:=by
 induction v with
 | nil=>simp[dI]
 | cons p l ih=>
  simp only[tX]at h;split at h
  ·cases h
  ·rename_i hp;have:=ih h;simp only[dI,kY,aX,not_or]at this ⊢;exact⟨fun e=>hp e.symm,this⟩
theorem xH{v:List (K×V)}{k:K}(h:k∉dI v):lB v k=v:=by refine List.filter_eq_self.2 fun p hp=>?_;simp only[pQ];intro e;exact h (e▸Ax hp)
theorem Ny{v:List (K×V)}{k:K}{c:V}(hn:(dI v).Nodup)(h:tX v k=some c):v.Perm ((k,c)::lB v k):=by
 induction v with
 | nil=>simp[tX]at h
 | cons p l ih=>
  simp only[dI,kY,wK]at hn;simp only[tX]at h;split at h
  ·rename_i hp;injection h with h;have:lB (p::l) k=l:=by have hl:lB l k=l:=xH (hp▸hn.1);unfold lB at hl ⊢;rw[List.filter_cons_of_neg (by simp[hp])];exact hl
   rw[this,<-h,<-hp]
  ·rename_i hp;have:=ih hn.2 h;have e:lB (p::l) k=p::lB l k:=by unfold lB;rw[List.filter_cons_of_pos (by simpa using hp)]
   rw[e];exact(this.cons p).trans (.swap ..)
theorem Um{enc:V->Mem}{v v':List (K×V)}(h:v.Perm v'):(eM enc v).Perm (eM enc v'):=h.map _
theorem Fq{enc:V->Mem}{v:List (K×V)}:(eM enc v).map (·.1)=kTs (dI v):=by simp[eM,kTs,dI,List.map_map,Function.comp_def]
theorem aQB{l:List K}{k:K}:MKey.kT k∈kTs l↔k∈l:=by simp only[kTs,dW];exact⟨fun⟨a,h1,h2⟩=>MKey.inj _ _ h2▸h1,fun h=>⟨k,h,rfl⟩⟩
theorem Yk{l:List K}(h:(kTs l).Nodup):l.Nodup:=by
 induction l with
 | nil=>simp
 | cons a l ih=>simp only[kTs,kY,wK]at h;exact wK.2 ⟨fun hm=>h.1 (Ax hm),ih h.2⟩
theorem aBZ{enc:V->Mem}{v:List (K×V)}(h:((eM enc v).map (·.1)).Nodup):(dI v).Nodup:=Yk (by rw[<-Fq (enc:=enc)]; exact h)
end
section
variable {F:Nat->Prop} {g:Nat->Value} {w:World} {b clock:Nat} {es:Array MapEntry} {it:Option Iter}
theorem lV.perm{β:Type}{R:α->β->Prop}{l l':List α}(hp:l.Perm l'):∀ {r:List β},lV R l r->∃ r':List β,lV R l' r'/\(l.zip r).Perm (l'.zip r')/\r.Perm r':=by
 induction hp with
 | nil=>intro r h; cases h; exact⟨[],.nil,.refl _,.refl _⟩
 | cons x _ ih=>
  intro r h;cases h with
  | cons h t=>obtain⟨r',h1,h2,h3⟩:=ih t;exact⟨_::r',.cons h h1,by simpa using h2,h3.cons _⟩
 | swap x y l=>
  intro r h;cases h with
  | cons h t=>cases t with
   | cons h' t=>exact⟨_::_::_,.cons h' (.cons h t),by simpa using .swap ..,.swap ..⟩
 | trans _ _ ih1 ih2=>intro r h;obtain⟨r1,h1,h2,h3⟩:=ih1 h;obtain⟨r2,h4,h5,h6⟩:=ih2 h1;exact⟨r2,h4,h2.trans h5,h3.trans h6⟩
def Ke(z:List ((T×Mem)×MapEntry)):Prop:=z.Pairwise fun a c=>a.1.2.owned=true->c.1.2.owned=true->∀ x,blk a.2.val=some x->blk c.2.val=some x->False
theorem aND{m:List (T×Mem)}{l:List MapEntry}(h:∀ (i j:Nat) x y e e' c,m[i]? = some x->m[j]? = some y->l[i]? = some e->l[j]? = some e'->i≠j->x.2.owned=true->y.2.owned=true->blk e.val=some c->blk e'.val=some c->False):
  Ke (m.zip l):=by
 unfold Ke;rw[List.pairwise_iff_getElem];intro i j hi hj hlt ho ho' x hx hx';simp only[List.length_zip]at hi hj;rw[List.getElem_zip]at ho ho' hx hx';exact h i j m[i] m[j] l[i] l[j] x (gJ (by omega)) (gJ (by omega)) (gJ (by omega)) (gJ (by omega)) (by omega) ho ho' hx hx'
theorem aNY{m:List (T×Mem)}{l:List MapEntry}(h:Ke (m.zip l)):∀ (i j:Nat) x y e e' c,m[i]? = some x->m[j]? = some y->l[i]? = some e->l[j]? = some e'->i≠j->x.2.owned=true->y.2.owned=true->blk e.val=some c->blk e'.val=some c->False:=by
 unfold Ke at h;rw[List.pairwise_iff_getElem]at h;have key:∀ (i j:Nat) x y e e' c,m[i]? = some x->m[j]? = some y->l[i]? = some e->l[j]? = some e'->i<j->x.2.owned=true->y.2.owned=true->blk e.val=some c->blk e'.val=some c->False:=by intro i j x y e e' c hx hy he he' hlt ho ho' hb hb';obtain⟨h1,rfl⟩:=eK.1 hx;obtain⟨h2,rfl⟩:=eK.1 hy;obtain⟨h3,rfl⟩:=eK.1 he;obtain⟨h4,rfl⟩:=eK.1 he';exact h i j (by simp; omega) (by simp; omega) hlt (by simpa using ho) (by simpa using ho') c (by simpa using hb) (by simpa using hb')
 intro i j x y e e' c hx hy he he' hne ho ho' hb hb';rcases Nat.lt_or_gt_of_ne hne with h' | h'
 ·exact key i j x y e e' c hx hy he he' h' ho ho' hb hb'
 ·exact key j i y x e' e c hy hx he' he h' ho' ho hb' hb
theorem Ke.perm{z z':List ((T×Mem)×MapEntry)}(h:Ke z)(hp:z.Perm z'):Ke z':=by unfold Ke at h ⊢;exact(hp.pairwise_iff (fun {a c} h ho ho' x hx hx'=>h ho' ho x hx' hx)).1 h
theorem MpR.permM{m m':List (T×Mem)}{ho:Option (T×Option PV)}{l:List MapEntry}(h:MpR F g w b es clock it m ho l r)(hp:m.Perm m'):∃ l',MpR F g w b es clock it m' ho l' r:=by obtain⟨l',h1,h2,h3⟩:=h.ent.perm hp;refine⟨l',((h3.append_right r).symm).trans h.perm,h1,h.hole,?_,h.born,h.old,aNY ((aND h.sep).perm h2),h.it⟩;exact(((hp.map _).append_right _).nodup_iff).1 h.keys
theorem MpR.focus{m:List (T×Mem)}{k:T}{y:Mem}{l:List MapEntry}(h:MpR F g w b es clock it ((k,y)::m) none l r){g':Nat->Value}{p:Option PV}(hp:∀ q,p=some q->∀ v,yA F w y v->(∃ e,e∈es.toList/\e.val=v/\KeyR k e.key)->VR F g' w q v)
  (hit:ItR g' w b es clock it):∃ e l',l=e::l'/\KeyR k e.key/\yA F w y e.val/\e∈es.toList/\MpR F g' w b es clock it m (some (k,p)) l' [e]:=by
 have hr:=h.hole;simp only[mB]at hr;subst hr;have hperm:=h.perm;cases hent:h.ent with
 | @cons _ e _ l' hR t=>
  have he:e∈es.toList:=hperm.mem_iff.1 (by simp);refine⟨e,l',rfl,hR.1,hR.2,he,⟨?_,t,?_,?_,h.born,h.old,fun i j x y' e1 e2 c hx hy h1 h2 hne=>h.sep (i+1) (j+1) x y' e1 e2 c (by simpa using hx) (by simpa using hy) (by simpa using h1) (by simpa using h2) (by omega),hit⟩⟩
  ·rw[jJ]at hperm;refine List.Perm.trans ?_ hperm;exact oV (l₁:=l') (l₂:=[e])
  ·cases p with
   | none=>exact .inr ⟨e,rfl,hR.1⟩
   | some q=>exact⟨e,rfl,hR.1,hp q rfl _ hR.2 ⟨e,he,rfl,hR.1⟩⟩
  ·have hk:=h.keys;simp only[kY,hoK,jJ]at hk ⊢;refine(List.Perm.nodup_iff ?_).1 hk;exact oV (l₁:=[k]) (l₂:=m.map (·.1))
end
def Rk:T->Option TypeDesc
 | .int k _=>some (.int k)
 | .str _=>some .string
 | _=>none
section
variable {P:Program} {w:World}
theorem Aw{k:T}{kv:Value}(hk:KeyR k kv){kd:TypeDesc}(hd:Rk k=some kd):∀ (es:List MapEntry) (i:Nat),(∀ e,e∈es->∃ k',KeyR k' e.key/\Cu k k'=true) ->
  (Instr.findNow kd kv es i=some none/\∀ e,e∈es->¬ KeyR k e.key)\/∃ j e,es[j]? = some e/\KeyR k e.key/\Instr.findNow kd kv es i=some (some (i+j,e.val))
 | [],i,_=>.inl ⟨rfl,by simp⟩
 | e::es,i,h=>by
  obtain⟨k',h1,h2⟩:=h e (by simp);have ih:=Aw hk hd es (i+1) fun e' he=>h e' (cV _ he);have hs:∃ q,Instr.sameNow kd kv e.key=some q/\(q=true↔k=k'):=by
   generalize e.key=u at h1;cases hk with
   | int q n=>
    cases h1 with
    | int q' n'=>simp only[Cu,pQ]at h2;subst h2;simp only[Rk,gO]at hd;subst hd;exact⟨n==n',by simp[Instr.sameNow],by simp⟩
    | str s=>cases h2
   | str s=>
    cases h1 with
    | int q' n'=>cases h2
    | str s'=>simp only[Rk,gO]at hd;subst hd;exact⟨s==s',by simp[Instr.sameNow],by rw[MapKept.bytes_beq]; exact⟨fun h=>by rw[h],fun h=>by injection h⟩⟩
  obtain⟨q,hs,hq⟩:=hs;simp only[Instr.findNow,hs];cases q with
  | true=>have hkk:=hq.1 rfl;subst hkk;exact .inr ⟨0,e,by simp,h1,rfl⟩
  | false=>
   have hkk:k≠k':=fun e=>by have:=hq.2 e; cases this
   rcases ih with⟨h3,h4⟩ | ⟨j,e',h3,h4,h5⟩
   ·refine .inl ⟨h3,fun x hx=>?_⟩;rcases aX.1 hx with rfl | hx
    ·exact fun hk'=>hkk (hk'.inj h1)
    ·exact h4 x hx
   ·exact .inr ⟨j+1,e',by simpa using h3,h4,by rw[h5,oH,Nat.add_comm 1 j]⟩
structure aKS (P:Program)(t:TypeId)(k:T)(kt et:TypeId)(kd:TypeDesc):Prop where
 und:P.underlying t=some (.map kt et)
 key:P.underlying kt=some kd
 d:Rk k=some kd
theorem uC{t:TypeId}{k:T}(hT:aKS P t k kt et kd)(em:Bool)(v:Value)(n:Nat):(Instr.checkKey em (n+1) kt v).run P w = .ok () w:=by
 have hd:=hT.d;unfold Instr.checkKey;simp only[Sem.run_bind,run_underlying hT.key,Result.andThen_ok];cases k with
 | int q m=>simp only[Rk,gO]at hd; subst hd; cases v <;> rfl
 | str s=>simp only[Rk,gO]at hd; subst hd; cases v <;> rfl
 | _=>cases hd
theorem Kk{t:TypeId}{k:T}(hT:aKS P t k kt et kd)(hk:KeyR k kv)(es:List MapEntry)(h:∀ e,e∈es->∃ k',KeyR k' e.key/\Cu k k'=true):
  ((Instr.findKey kt kv es).run P w = .ok none w/\∀ e,e∈es->¬ KeyR k e.key)\/∃ j e,es[j]? = some e/\KeyR k e.key/\(Instr.findKey kt kv es).run P w = .ok (some (j,e.val)) w:=by
 have hf:=Aw hk hT.d es 0 h;unfold Instr.findKey;simp only[Sem.run_bind,run_underlying hT.key,Result.andThen_ok];rcases hf with⟨h1,h2⟩ | ⟨j,e,h1,h2,h3⟩
 ·exact .inl ⟨by rw[h1]; rfl,h2⟩
 ·exact .inr ⟨j,e,h1,h2,by rw[h3,eW]; rfl⟩
end
def Bd(N:List Nat)(o d:Nat)(x' y:bA)(st:St):Option St:=
 match oR d N,Nat.beq d o,st.erase d with
 | true,false,some st1=>some { fr:=st1.fr,hp:=(d,y)::(o,x')::del o st1.hp }
 | _,_,_=>none
section
variable {P:Program} {E:Env} {I:Inf} {F:Nat->Prop} {g:Nat->Value} {st st2:St} {a:Act} {w:World}
theorem cL.focus(hN:E.N=I.N)(r:cL E F g st a w){d:Nat}{x' y:bA}(u:Value)(hl:bK st.hp o=some x)(hs:Bd I.N o d x' y st=some st2)
  (hx':∀ g',(∀ k,k≠d->g' k=g k)->g' d=u->dD F g' w o x')(hy:∀ g',(∀ k,k≠d->g' k=g k)->g' d=u->dD F g' w d y)
  (fx:∀ g' b,(∀ k,k≠d->g' k=g k)->g' d=u->bG g' w o x' b->bG g w o x b)(fy:∀ g' b,(∀ k,k≠d->g' k=g k)->g' d=u->bG g' w d y b->bG g w o x b)
  (dis:∀ g' b,(∀ k,k≠d->g' k=g k)->g' d=u->bG g' w o x' b->bG g' w d y b->False):
  d≠o/\∃ g',g' d=u/\(∀ k,k≠d->g' k=g k)/\cL E F g' st2 a w:=by
 unfold Bd at hs;split at hs
 ·rename_i st1 hn hdo he;cases hs;have hdo:=nP hdo;have ho:=fun k (hk:k≠d)=>bR g u hk;have hlm:=aU hl;refine⟨hdo,upd g d u,bM ..,ho,r.nt,r.df,fun t z hz=>?_,⟨?_,r.w.f0,r.w.f1,r.w.ext,fun k hk=>?_,r.w.b0⟩⟩
  ·obtain⟨h1,h2⟩:=St.erase_fr he t z hz;exact(r.fr t z h1).mono (fun b hb=>⟨hb,rfl⟩) (fun k hk=>ho k (h2 k hk))
  ·have old:∀ k z,(k,z)∈del o st1.hp->k≠o/\∃ z',(k,z')∈st.hp/\dD F (upd g d u) w k z/\∀ b,bG (upd g d u) w k z b->bG g w k z' b:=by
    intro k z hz;obtain⟨h1,h2⟩:=bD.1 hz;obtain⟨z',h3,h4,h5,h6,h7⟩:=St.erase_hp he k z h1;exact⟨h2,z',h3,(h6 _ _ _ (r.w.hp.obj k z' h3)).mono (fun b hb=>⟨hb,rfl⟩) (ho k h4) (fun k' hk'=>ho k' (h5 k' hk')) (fun _ _=>rfl),
     fun b hb=>h7 _ _ _ (hb.mono (ho k h4) (fun k' hk'=>ho k' (h5 k' hk')) (fun _ _=>rfl))⟩
   have foot:∀ k z b,(k,z)∈(d,y)::(o,x')::del o st1.hp->bG (upd g d u) w k z b->∃ k' z',(k',z')∈st.hp/\bG g w k' z' b/\(k=k'\/k=d/\k'=o):=by
    intro k z b hz hb;rcases aX.1 hz with e | hz
    ·cases e; exact⟨o,x,hlm,fy _ b ho (bM ..) hb,.inr ⟨rfl,rfl⟩⟩
    ·rcases aX.1 hz with e | hz
     ·cases e; exact⟨o,x,hlm,fx _ b ho (bM ..) hb,.inl rfl⟩
     ·obtain⟨_,z',h1,_,h3⟩:=old k z hz;exact⟨k,z',h1,h3 b hb,.inl rfl⟩
   refine⟨fun k z hz=>?_,fun k z b hz hb=>?_,fun k z k' z' b hz hz' hne hb hb'=>?_⟩
   ·rcases aX.1 hz with e | hz
    ·cases e; exact hy _ ho (bM ..)
    ·rcases aX.1 hz with e | hz
     ·cases e; exact hx' _ ho (bM ..)
     ·exact(old k z hz).2.choose_spec.2.1
   ·obtain⟨k',z',h1,h2,_⟩:=foot k z b hz hb;exact r.w.hp.own k' z' b h1 h2
   ·have hmem:∀ k z,(k,z)∈(d,y)::(o,x')::del o st1.hp->k=d/\z=y\/k=o/\z=x'\/k≠o/\(k,z)∈del o st1.hp:=by
     intro k z hz;rcases aX.1 hz with e | hz
     ·cases e; exact .inl ⟨rfl,rfl⟩
     ·rcases aX.1 hz with e | hz
      ·cases e; exact .inr (.inl ⟨rfl,rfl⟩)
      ·exact .inr (.inr ⟨(bD.1 hz).2,hz⟩)
    obtain⟨q,z1,h1,h2,h3⟩:=foot k z b hz hb;obtain⟨q',z1',h1',h2',h3'⟩:=foot k' z' b hz' hb';by_cases hq:q=q'
    ·subst hq;rcases h3 with h3 | ⟨h3,h4⟩
     ·rcases h3' with h3' | ⟨h3',h4'⟩
      ·exact hne (h3.trans h3'.symm)
      ·subst h3'; subst h4'; subst h3;rcases hmem _ _ hz with⟨e1,e2⟩ | ⟨e1,e2⟩ | ⟨e1,e2⟩
       ·exact hne e1
       ·subst e2;rcases hmem _ _ hz' with⟨_,e4⟩ | ⟨e3,e4⟩ | ⟨e3,e4⟩
        ·subst e4; exact dis _ b ho (bM ..) hb hb'
        ·exact hdo e3
        ·obtain⟨z',h3,h4,_⟩:=St.erase_hp he _ _ (bD.1 e4).1;exact h4 rfl
       ·exact e1 rfl
     ·subst h3; subst h4;rcases h3' with h3' | ⟨h3',h4'⟩
      ·subst h3';rcases hmem _ _ hz' with⟨e1,e2⟩ | ⟨e1,e2⟩ | ⟨e1,e2⟩
       ·exact hdo e1.symm
       ·subst e2;rcases hmem _ _ hz with⟨_,e4⟩ | ⟨e3,e4⟩ | ⟨e3,e4⟩
        ·subst e4; exact dis _ b ho (bM ..) hb' hb
        ·exact hdo e3
        ·obtain⟨z',h3,h4,_⟩:=St.erase_hp he _ _ (bD.1 e4).1;exact h4 rfl
       ·exact e1 rfl
      ·exact hne h3'.symm
    ·exact r.w.hp.sep q z1 q' z1' b h1 h1' hq h2 h2'
  ·rw[ho k (fun e:k=d=>fJ hn (by rw[<-e,<-hN]; exact hk))];exact r.w.names k hk
 ·cases hs
theorem iL{ops l:List Oper}{o:Oper}{rest:List Oper}{Q:gL}(hl:l=o::rest)(hw:cQ ops o st=some true)
  (h:∀ F g a w,cL E F g st a w->∃ n v w' st',(execOp a.eval o).run P w = .ok n w'/\(n = .value v\/(n = .skip/\v=undef))/\Rel E st' (a.put o.dst v) w'/\fR P E ops Q rest st'):fR P E ops Q l st:=by
 subst hl;intro a w r;refine wpList_step fun K hK=>?_;obtain⟨F,g,r⟩:=r;have hwt:=fU (ops:=ops.toArray) r (by simpa using hw);obtain⟨n,v,w',st',h1,h2,h3,h4⟩:=h F g a w r;rw[aA hwt];unfold Oper.wp;rw[h1];rcases h2 with rfl | ⟨rfl,rfl⟩
 ·exact hK _ _ (h4 _ _ h3)
 ·exact hK _ _ (h4 _ _ h3)
def Ti(ti:Nat->Option eG)(t:Nat)(k:T):Option Nat:=
 match ti t with
 | some i=>match i.und with
  | .mp kt et=>match ti kt with
   | some j=>match j.und,k with
    | .int .i64,.int .i64 _=>some et
    | .str,.str _=>some et
    | _,_=>none
   | none=>none
  | _=>none
 | none=>none
theorem aDP(hI:kL P I.ti){et:Nat}{k:T}(h:Ti I.ti t k=some et):∃ kt kd,aKS P t k kt et kd:=by
 unfold Ti at h;split at h
 ·rename_i i hi;split at h
  ·rename_i kt et' hu;split at h
   ·rename_i j hj;have hm:=(hI _ _ hi).und; rw[hu]at hm;have hk:=(hI _ _ hj).und;split at h
    ·rename_i hu' ; rw[hu']at hk; cases h; exact⟨kt,_,hm,hk,rfl⟩
    ·rename_i hu' ; rw[hu']at hk; cases h; exact⟨kt,_,hm,hk,rfl⟩
    ·cases h
   ·cases h
  ·cases h
 ·cases h
end
section
variable {F:Nat->Prop} {g:Nat->Value} {w:World} {b clock:Nat} {es:Array MapEntry} {it:Option Iter} {K V:Type} [MKey K] {enc:V->Mem}
theorem MpR.kinds{v:List (K×V)}{ho:Option (T×Option PV)}{l:List MapEntry}(h:MpR F g w b es clock it (eM enc v) ho l r)(hh:∀ k p,ho=some (k,p)->∃ k':K,k=MKey.kT k')(k:K):
  ∀ e,e∈es.toList->∃ k',KeyR k' e.key/\Cu (MKey.kT k) k'=true:=by
 intro e he;rcases dZ.1 (h.perm.mem_iff.2 he) with hl | hr
 ·obtain⟨j,y,hy,_,hR⟩:=h.ent.memr hl;have:=kW hy;simp only[eM,dW]at this;obtain⟨p,_,rfl⟩:=this;exact⟨_,hR.1,MKey.same _ _⟩
 ·have hho:=h.hole;rcases ho with _ | ⟨q,p⟩
  ·simp only[mB]at hho; subst hho; simp at hr
  ·obtain⟨k',rfl⟩:=hh q p rfl;have:KeyR (MKey.kT k') e.key:=by
    cases p with
    | none=>
     rcases hho with rfl | ⟨e',rfl,h2⟩
     ·simp at hr
     ·simp at hr; subst hr; exact h2
    | some p=>obtain⟨e',rfl,h2,_⟩:=hho;simp at hr; subst hr; exact h2
   exact⟨_,this,MKey.same _ _⟩
end
section
variable {F:Nat->Prop} {g g':Nat->Value} {w:World} {b clock ob d:Nat} {es:Array MapEntry} {it:Option Iter}
theorem ItR.agree{it:Option Iter}(h:ItR g w b es clock it)(hg:∀ k,k∈itN it->g' k=g k):ItR g' w b es clock it:=by
 cases it with
 | none=>exact True.intro
 | some i=>obtain⟨r,since,seen,c0,e1,e⟩:=h;exact⟨r,since,seen,c0,by rw[hg i.o (by simp[itN])]; exact e1,e⟩
theorem bG.perm{m m':List (T×Mem)}{ho:Option (T×Option PV)}(hp:m.Perm m'){x:Nat}(h:bG g w ob (.mp it m ho) x):bG g w ob (.mp it m' ho) x:=by
 cases h with
 | self h=>exact .self h
 | iter h=>exact .iter h
 | mem h1 h2 h3 h4 h5 h6 h7=>exact .mem h1 h2 h3 (hp.mem_iff.1 h4) h5 h6 h7
theorem bG.cons{m:List (T×Mem)}{ho ho':Option (T×Option PV)}{y:T×Mem}{x:Nat}(h:bG g w ob (.mp it m ho) x):bG g w ob (.mp it (y::m) ho') x:=by
 cases h with
 | self h=>exact .self h
 | iter h=>exact .iter h
 | mem h1 h2 h3 h4 h5 h6 h7=>exact .mem h1 h2 h3 (cV _ h4) h5 h6 h7
theorem bG.agree(ho:g' ob=g ob)(hg:∀ k,k∈itN it->g' k=g k){m:List (T×Mem)}{hl:Option (T×Option PV)}{c:Nat}(hx:x = .mp it m hl)(h:bG g' w ob x c):bG g w ob x c:=by
 subst hx;cases h with
 | self h=>exact .self (ho▸h)
 | iter h=>exact .iter (by rw[<-hg _ (by simp[itN])]; exact h)
 | mem h1 h2 h3 h4 h5 h6 h7=>exact .mem (by rw[<-ho]; exact h1) h2 h3 h4 h5 h6 h7
theorem pR.ts{u:Value}{l:List T}(h:pR F g w u (l.map .t))(g':Nat->Value):pR F g' w u (l.map .t):=
 h.mono (fun b hb=>⟨hb,rfl⟩) (fun o ho=>by rw[Ol]at ho; simp at ho) (fun _ _=>rfl)
end
section
variable {P:Program} {E:Env} {I:Inf} {F:Nat->Prop} {g:Nat->Value} {st:St} {a:Act} {w:World} {K V:Type} [MKey K]
theorem VR.key{k:T}{v:Value}(h:VR F g w (.t k) v)(hd:Rk k=some kd):KeyR k v:=by
 have h:=h.cells_t rfl;cases k with
 | int q n=>rw[h.inv_int]; exact .int ..
 | str s=>rw[h.inv_str]; exact .str ..
 | _=>cases hd
theorem MpR.found{b clock:Nat}{es:Array MapEntry}{it:Option Iter}{enc:V->Mem}{v:List (K×V)}{l:List MapEntry}(h:MpR F g w b es clock it (eM enc v) none l r)(k:K):
  (tX v k=none->∀ e,e∈es.toList->¬ KeyR (MKey.kT k) e.key)/\(∀ c,tX v k=some c->(eM enc v).Perm ((MKey.kT k,enc c)::eM enc (lB v k))/\∃ e,e∈es.toList/\KeyR (MKey.kT k) e.key):=by
 have hnd:(dI v).Nodup:=aBZ (enc:=enc) (Kc.1 h.keys).1;have hr:=h.hole;simp only[mB]at hr;subst hr;refine⟨fun hn e he hk=>?_,fun c hc=>?_⟩
 ·have:=h.perm.mem_iff.2 he;rw[jJ]at this;obtain⟨j,y,hy,_,hR⟩:=h.ent.memr this;have hy:=kW hy;simp only[eM,dW]at hy;obtain⟨p,hp,rfl⟩:=hy;have:p.1=k:=MKey.inj _ _ (hR.1.inj hk);exact sN hn (this▸Ax hp)
 ·have hp:=Um (enc:=enc) (Ny hnd hc);refine⟨hp,?_⟩;obtain⟨j,e,h1,h2,h3⟩:=h.ent.mem (hp.mem_iff.2 (dJ ..));exact⟨e,h.perm.mem_iff.1 (uB _ (kW h2)),h3.1⟩
end
theorem aCR{l:List α}{i:Nat}{e e':α}(h:l[i]? = some e):l.Perm (e::l.eraseIdx i)/\(l.set i e').Perm (e'::l.eraseIdx i):=by
 induction l generalizing i with
 | nil=>simp at h
 | cons x l ih=>
  cases i with
  | zero=>simp only[List.getElem?_cons_zero,gO]at h;subst h;exact⟨.refl _,.refl _⟩
  | succ i=>obtain⟨h1,h2⟩:=ih (by simpa using h);exact⟨(h1.cons x).trans (.swap ..),by simpa using (h2.cons x).trans (.swap ..)⟩
section
variable {P:Program} {w:World}
theorem Gv{k:T}{v:Value}(h:KeyR k v)(n:Nat):Instr.sameBits (n+1) v v=true:=by
 cases h with
 | int q m=>simp[Instr.sameBits]
 | str s=>simp only[Instr.sameBits]; rw[MapKept.bytes_beq]
theorem Bu{t:TypeId}{k:T}(hT:aKS P t k kt et kd)(hk:KeyR k kv){b clock:Nat}{es:Array MapEntry}(hb:w.heap[b]? = some (.map es clock))
  (h:∀ e,e∈es.toList->∃ k',KeyR k' e.key/\Cu k k'=true)(old:∀ e,e∈es.toList->e.born<clock)(hn:(es.toList.map (·.born)).Nodup)(u:Value):
  ∃ es' clock' e',(Instr.mapUpdate t (.map (some b)) kv u).run P w = .ok () { w with heap:=w.heap.setIfInBounds b (.map es' clock') }/\e'.key=kv/\e'.val=u/\(es'.toList.map (·.born)).Nodup /\
   (∀ e,e∈es'.toList->e.born<clock')/\(((∀ e,e∈es.toList->¬ KeyR k e.key)/\es'.toList.Perm (e'::es.toList))\/∃ e0 q,e0∈es.toList/\KeyR k e0.key/\es.toList.Perm (e0::q)/\es'.toList.Perm (e'::q)/\e'.born=e0.born/\clock'=clock):=by
 have hf:=Kk (w:=w) hT hk es.toList h;rcases hf with⟨h1,h2⟩ | ⟨j,e0,h1,h2,h3⟩
 ·refine⟨es.push { key:=kv,val:=u,born:=clock },clock+1,{ key:=kv,val:=u,born:=clock },?_,rfl,rfl,?_,?_,.inl ⟨h2,?_⟩⟩
  ·unfold Instr.mapUpdate;simp only[Sem.run_bind,run_underlying hT.und,Result.andThen_ok,Go.run_getObj_map w b es clock hb,uC hT,h1,MapKept.run_setObj_map _ hb]
  ·simp only[Array.toList_push,Cn,kY,List.map_nil];rw[Kc];refine⟨hn,by simp,fun x hx y hy=>?_⟩;simp only[cG]at hy;obtain⟨e,he,rfl⟩:=dW.1 hx;have:=old e he;omega
  ·intro e he;simp only[Array.toList_push,dZ,cG]at he;rcases he with he | rfl
   ·have:=old e he; omega
   ·exact Nat.lt_succ_self _
  ·rw[Array.toList_push];exact oV (l₁:=es.toList) (l₂:=[_])
 ·have hj:j<es.size:=by have:=(eK.1 h1).1; simpa using this
  have hj':es[j]? = some e0:=by simpa using h1
  have hkey:e0.key=kv:=h2.inj' hk;have hmod:(es.modify j fun e=>{ e with key:=kv,val:=u }).toList=es.toList.set j { e0 with key:=kv,val:=u }:=by
   refine List.ext_getElem? fun i=>?_;rw[pV];simp only[zN,Jd];split
   ·rename_i hij;subst hij;rw[hj'];simp[hj]
   ·rfl
  have hp:=aCR (e':={ e0 with key:=kv,val:=u }) h1;refine⟨es.modify j fun e=>{ e with key:=kv,val:=u },clock,{ e0 with key:=kv,val:=u },?_,rfl,rfl,?_,?_,.inr ⟨e0,_,kW h1,h2,hp.1,by rw[hmod]; exact hp.2,rfl,rfl⟩⟩
  ·have hstay:(Instr.keyThatStays ((es[j]?.map (·.key)).getD kv) kv).run P w = .ok kv w:=by rw[hj',qJ,Db,hkey];unfold Instr.keyThatStays;rw[show (10000:Nat)=9999+1 from rfl,aA (Gv hk 9999)];simp
   unfold Instr.mapUpdate;simp only[Sem.run_bind,run_underlying hT.und,Result.andThen_ok,Go.run_getObj_map w b es clock hb,uC hT,h3,hstay,MapKept.run_setObj_map _ hb]
  ·rw[hmod];have:(es.toList.set j { e0 with key:=kv,val:=u }).map (·.born)=es.toList.map (·.born):=by
    refine List.ext_getElem? fun i=>?_;rw[fD,pV,fD];split
    ·rename_i hij; subst hij; rw[h1]; simp[hj]
    ·rfl
   rw[this]; exact hn
  ·intro e he;rw[hmod]at he;rcases List.mem_or_eq_of_mem_set he with he | rfl
   ·exact old e he
   ·exact old e0 (kW h1)
end
section
variable {F:Nat->Prop} {g:Nat->Value} {w:World} {b clock:Nat} {es es':Array MapEntry}
theorem MpR.rest{it:Option Iter}{m:List (T×Mem)}{k:T}{p:Option PV}{l:List MapEntry}(h:MpR F g w b es clock it m (some (k,p)) l r):
  ((∀ e,e∈es.toList->¬ KeyR k e.key)->r=[])/\(∀ e0 q,e0∈es.toList->KeyR k e0.key->es.toList.Perm (e0::q)->r=[e0]/\l.Perm q):=by
 have hk:=h.keys;rw[Kc]at hk;have hnot:∀ e,e∈l->¬ KeyR k e.key:=by intro e he hke;obtain⟨j,y,hy,_,hR⟩:=h.ent.memr he;exact hk.2.2 _ (Ax (kW hy)) k (by simp[hoK]) (hR.1.inj hke)
 have hr:r=[]\/∃ e,r=[e]/\KeyR k e.key:=by
  have hh:=h.hole;cases p with
  | none=>exact hh
  | some p=>obtain⟨e,h1,h2,_⟩:=hh; exact .inr ⟨e,h1,h2⟩
 refine⟨fun hn=>?_,fun e0 q he0 hk0 hq=>?_⟩
 ·rcases hr with rfl | ⟨e,rfl,he⟩
  ·rfl
  ·exact absurd he (hn e (h.perm.mem_iff.1 (by simp)))
 ·have he0':=h.perm.mem_iff.2 he0;rcases hr with rfl | ⟨e,rfl,he⟩
  ·rw[jJ]at he0'; exact absurd hk0 (hnot e0 he0')
  ·rcases dZ.1 he0' with h1 | h1
   ·exact absurd hk0 (hnot e0 h1)
   ·simp only[cG]at h1;subst h1;refine⟨rfl,?_⟩;have h2:=h.perm.trans hq;have h3:(l++[e0]).Perm (e0::l):=oV (l₁:=l) (l₂:=[e0]);exact List.Perm.cons_inv (h3.symm.trans h2)
end
def aHZ(it:Option Iter)(k:T):Prop:=∀ i,it=some i->i.cur=some k
def Ir(o q:Nat)(x':bA)(st:St):Option St:=
 match Nat.beq q o,st.erase q with
 | false,some st1=>some { fr:=st1.fr,hp:=(o,x')::del o st1.hp }
 | _,_=>none
section
variable {P:Program} {E:Env} {I:Inf} {F:Nat->Prop} {g:Nat->Value} {st st2:St} {a:Act} {w:World}
theorem cL.merge(r:cL E F g st a w){q:Nat}{x' y:bA}(hl:bK st.hp o=some x)(hq:bK st.hp q=some y)(hs:Ir o q x' st=some st2)
  (hx':dD F g w o x')(hf:∀ b,bG g w o x' b->bG g w o x b\/bG g w q y b):cL E F g st2 a w:=by
 unfold Ir at hs;split at hs
 ·rename_i st1 hqo he;cases hs;have hqo:=nP hqo;have hlm:=aU hl;have hqm:=aU hq;have old:∀ k z,(k,z)∈del o st1.hp->k≠o/\k≠q/\∃ z',(k,z')∈st.hp/\dD F g w k z/\∀ b,bG g w k z b->bG g w k z' b:=by intro k z hz;obtain⟨h1,h2⟩:=bD.1 hz;obtain⟨z',h3,h4,h5,h6,h7⟩:=St.erase_hp he k z h1;exact⟨h2,h4,z',h3,h6 _ _ _ (r.w.hp.obj k z' h3),h7 _ _⟩
  refine⟨r.nt,r.df,fun t z hz=>r.fr t z (St.erase_fr he t z hz).1,⟨⟨fun k z hz=>?_,fun k z b hz hb=>?_,fun k z k' z' b hz hz' hne hb hb'=>?_⟩,r.w.f0,r.w.f1,r.w.ext,r.w.names,r.w.b0⟩⟩
  ·rcases aX.1 hz with e | hz
   ·cases e; exact hx'
   ·exact(old k z hz).2.2.choose_spec.2.1
  ·rcases aX.1 hz with e | hz
   ·cases e;rcases hf b hb with h | h
    ·exact r.w.hp.own _ _ b hlm h
    ·exact r.w.hp.own _ _ b hqm h
   ·obtain⟨_,_,z',h1,_,h3⟩:=old k z hz;exact r.w.hp.own k z' b h1 (h3 b hb)
  ·have key:∀ k z,(k,z)∈del o st1.hp->bG g w k z b->bG g w o x' b->False:=by
    intro k z hz hb hb';obtain⟨h1,h2,z',h3,_,h4⟩:=old k z hz;rcases hf b hb' with h | h
    ·exact r.w.hp.sep k z' o x b h3 hlm h1 (h4 b hb) h
    ·exact r.w.hp.sep k z' q y b h3 hqm h2 (h4 b hb) h
   rcases aX.1 hz with e | hz
   ·cases e;rcases aX.1 hz' with e' | hz'
    ·cases e'; exact hne rfl
    ·exact key k' z' hz' hb' hb
   ·rcases aX.1 hz' with e' | hz'
    ·cases e'; exact key k z hz hb hb'
    ·obtain⟨_,_,u,h1,_,h3⟩:=old k z hz;obtain⟨_,_,u',h1',_,h3'⟩:=old k' z' hz';exact r.w.hp.sep k u k' u' b h1 h1' hne (h3 b hb) (h3' b hb')
 ·cases hs
end
section
variable {F:Nat->Prop} {g:Nat->Value} {w:World} {b clock ob:Nat} {es:Array MapEntry} {it:Option Iter} {K V:Type} [MKey K]
theorem MpR.fill{m:List (T×Mem)}{kk:T}{l:List MapEntry}(h:MpR F g w b es clock it m (some (kk,some p)) l r)(hb:w.heap[b]? = some (.map es clock)){y:Mem}(hy:∀ e,e∈es.toList->VR F g w p e.val->yA F w y e.val)
  (hsep:∀ e c,e∈es.toList->VR F g w p e.val->blk e.val=some c->¬ bG g w ob (.mp it m (some (kk,some p))) c)(hob:g ob = .map (some b)):∃ l',MpR F g w b es clock it ((kk,y)::m) none l' []:=by
 obtain⟨e,hr,hk,hv⟩:=h.hole;subst hr;have he:e∈es.toList:=h.perm.mem_iff.1 (by simp);refine⟨e::l,?_,.cons ⟨hk,hy e he hv⟩ h.ent,rfl,?_,h.born,h.old,?_,h.it⟩
 ·rw[jJ];exact(oV (l₁:=[e]) (l₂:=l)).trans h.perm
 ·have:=h.keys;simp only[hoK,kY,jJ]at this ⊢;exact(List.Perm.nodup_iff (oV (l₁:=[kk]) (l₂:=m.map (·.1)))).2 this
 ·have hnew:∀ (j:Nat) x e' c,m[j]? = some x->l[j]? = some e'->x.2.owned=true->blk e.val=some c->blk e'.val=some c->False:=by intro j x e' c hx he' ho h1 h2;have hR:=h.ent.get.2 j x e' hx he';exact hsep e c he hv h1 (.mem hob hb (h.perm.mem_iff.1 (uB _ (kW he'))) (kW hx) hR.1 ho h2)
  intro i j x y' e1 e2 c hx hy' h1 h2 hne ho ho' hc hc';cases i with
  | zero=>
   simp at hx h1;subst hx; subst h1;cases j with
   | zero=>exact hne rfl
   | succ j=>exact hnew j y' e2 c (by simpa using hy') (by simpa using h2) ho' hc hc'
  | succ i=>
   cases j with
   | zero=>simp at hy' h2;subst hy'; subst h2;exact hnew i x e1 c (by simpa using hx) (by simpa using h1) ho hc' hc
   | succ j=>exact h.sep i j x y' e1 e2 c (by simpa using hx) (by simpa using hy') (by simpa using h1) (by simpa using h2) (by omega) ho ho' hc hc'
end
section
variable {P:Program} {E:Env} {I:Inf} {F:Nat->Prop} {g:Nat->Value} {st st2:St} {a:Act} {w:World} {K V:Type} [MKey K]
theorem aUY{enc:V->Mem}(v:List (K×V))(k:K)(c:V):((MKey.kT k,enc c)::eM enc (lB v k)).Perm (eM enc (Pj v k c)):=(Um (enc:=enc) (Cz v k c)).symm
theorem Le.gap{it:Option Iter}{enc:V->Mem}(v:List (K×V))(k:K)(hl:bK st.hp o=some (.mp it (eM enc v) none)):
  Le E st { st with hp:=(o,.mp it (eM enc (lB v k)) (some (MKey.kT k,none)))::del o st.hp }:=by
 refine Le.objF _ hl (fun F g w h=>?_) (fun g w c h=>?_)
 ·obtain⟨b,es,clock,e1,e2,l1,r1,hM⟩:=h;refine⟨b,es,clock,e1,e2,?_⟩;cases hlk:tX v k with
  | none=>rw[xH (sN hlk)];have hr1:=hM.hole;simp only[mB]at hr1;subst hr1;refine⟨l1,[],hM.perm,hM.ent,.inl rfl,?_,hM.born,hM.old,hM.sep,hM.it⟩;have hkk:=hM.keys;simp only[hoK,jJ]at hkk ⊢;rw[Kc];refine⟨hkk,by simp,fun q hq q' hq'=>?_⟩;simp only[cG]at hq';subst hq';intro e';rw[Fq,e',aQB]at hq;exact sN hlk hq
  | some c=>obtain⟨hp,_⟩:=(hM.found k).2 c hlk;obtain⟨l2,hM2⟩:=hM.permM hp;obtain⟨e,l',_,_,_,_,h⟩:=hM2.focus (g':=g) (p:=none) (fun q hq=>by cases hq) hM.it;exact⟨_,_,h⟩
 ·cases h with
  | self h=>exact .self h
  | iter h=>exact .iter h
  | mem h1 h2 h3 h4 h5 h6 h7=>refine .mem h1 h2 h3 ?_ h5 h6 h7;simp only[eM,lB,dW,uD]at h4 ⊢;obtain⟨p,⟨hp,_⟩,rfl⟩:=h4;exact⟨p,hp,rfl⟩
theorem aRL{w w':World}{F:Nat->Prop}{g:Nat->Value}{b clock clock':Nat}{es es':Array MapEntry}{it:Option Iter}{m:List (T×Mem)}{k:T}{p:Option PV}{l r':List MapEntry}{e':MapEntry} 
  (hM:MpR F g w b es clock it m (some (k,p)) l r')(hset:w'.heap[b]? = some (.map es' clock')/\∀ c,c≠b->w'.heap[c]? = w.heap[c]?)(hcur:aHZ it k)(hkv:KeyR k kv)(hk':e'.key=kv)
  (h7:((∀ e,e∈es.toList->¬ KeyR k e.key)/\es'.toList.Perm (e'::es.toList))\/∃ e0 q,e0∈es.toList/\KeyR k e0.key/\es.toList.Perm (e0::q)/\es'.toList.Perm (e'::q)/\e'.born=e0.born/\clock'=clock)
  (e2:w.heap[b]? = some (.map es clock)):ItR g w' b es' clock' it:=by
 cases it with
 | none=>exact True.intro
 | some i=>
  obtain⟨rr,since,seen,c0,i1,i2,i3,i4,i5,i6,i7,i8⟩:=hM.it;have hne:rr≠b:=by intro e; subst e; rw[e2]at i2; cases i2
  obtain⟨j1,⟨e,he,hke,q',hq'⟩,hnk⟩:=i8 _ (hcur i rfl);rcases h7 with⟨a1,_⟩ | ⟨e0,q,a1,a2,a3,a4,a5,a6⟩
  ·exact absurd hke (a1 e he)
  ·subst a6;have hk0:e0.key=kv:=a2.inj' hkv;have hke0:∀ k2,KeyR k2 e'.key↔KeyR k2 e0.key:=fun k2=>by rw[hk',hk0]
   have hmem:∀ x,x∈es'.toList->x=e'\/x∈es.toList:=fun x hx=>by
    rcases aX.1 (a4.mem_iff.1 hx) with h | h
    ·exact .inl h
    ·exact .inr (a3.mem_iff.2 (cV _ h))
   have hmem':∀ x,x∈es.toList->x=e0\/x∈es'.toList:=fun x hx=>by
    rcases aX.1 (a3.mem_iff.1 hx) with h | h
    ·exact .inl h
    ·exact .inr (a4.mem_iff.2 (cV _ h))
   have hin:e'∈es'.toList:=a4.mem_iff.2 dJ;have hee:e=e0:=by
    rcases aX.1 (a3.mem_iff.1 he) with h | h
    ·exact h
    ·have hr1:=(hM.rest.2 e0 q a1 a2 a3).1;obtain⟨q2,hq2⟩:=List.append_of_mem he;obtain⟨s2,hq2⟩:=hq2;have hp2:es.toList.Perm (e::(q2++s2)):=by rw[hq2]; exact List.perm_middle
     have hr2:=(hM.rest.2 e _ he hke hp2).1;rw[hr1]at hr2;exact((List.cons.inj hr2).1).symm
   subst hee;refine⟨rr,since,seen,c0,i1,by rw[hset.2 rr hne]; exact i2,fun x hx=>?_,i4,fun x hx=>?_,fun k2 hk2=>?_,i7,fun k2 hc2=>?_⟩
   ·rcases hmem x hx with rfl | h
    ·rw[a5]; exact i3 _ a1
    ·exact i3 x h
   ·rcases hmem x hx with rfl | h
    ·rw[a5,<-i5 _ a1];exact⟨fun⟨k2,h1,h2⟩=>⟨k2,h1,(hke0 k2).1 h2⟩,fun⟨k2,h1,h2⟩=>⟨k2,h1,(hke0 k2).2 h2⟩⟩
    ·exact i5 x h
   ·obtain⟨x,hx,hkx⟩:=i6 k2 hk2;rcases hmem' x hx with rfl | h
    ·exact⟨e',hin,(hke0 k2).2 hkx⟩
    ·exact⟨x,h,hkx⟩
   ·obtain⟨l1,⟨x,hx,hkx,q2,hs2⟩,l3⟩:=i8 k2 hc2;refine⟨l1,⟨e',hin,?_,q2,?_⟩,l3⟩
    ·have:k2=k:=by have h1:=hcur i rfl;rw[hc2]at h1;exact pN h1
     subst this;rw[hk']; exact hkv
    ·have:x.born=e.born:=by
      have h1:seen.back? = some x.born:=by rw[hs2]; simp
      have h2:seen.back? = some e.born:=by rw[hq']; simp
      rw[h1]at h2;exact pN h2
     rw[a5,<-this]; exact hs2
theorem aHS(hG:fF P E I){ops l:List Oper}{o:Oper}{rest:List Oper}{Q:gL}{ob et:Nat}{x kx vx:Operand}{it:Option Iter}{enc:V->Mem}(v:List (K×V))(k:K)(p:PV)
  (hl:l=o::rest)(hop:o.op = .mapUpdate t x kx vx\/o.op = .insert t x kx vx)(hd:o.dst=none)(hw:cQ ops o st=some true)(hx:ev st x=some (.map ob))(hk:ev st kx=some (.t (MKey.kT k)))(hv:ev st vx=some p)
  (hob:bK st.hp ob=some (.mp it (eM enc v) (some (MKey.kT k,none))))(hm:Ti I.ti t (MKey.kT k)=some et)(hcur:aHZ it (MKey.kT k))
  (h1:fR P E ops Q rest { st with hp:=(ob,.mp it (eM enc v) (some (MKey.kT k,some p)))::del ob st.hp }):fR P E ops Q l st:=by
 refine iL hl hw fun F g a w r=>?_;obtain⟨kt,kd,hT⟩:=aDP hG.ti hm;obtain⟨b,es,clock,e1,e2,l1,r1,hM⟩:=r.w.hp.obj _ _ (aU hob);have hxv:=bW r hx;have hkv:=(bW r hk).key hT.d;have hpv:=bW r hv;obtain⟨u,hu⟩:∃ u,a.eval x=u:=⟨_,rfl⟩;obtain⟨kv,hkv'⟩:∃ u,a.eval kx=u:=⟨_,rfl⟩;obtain⟨z,hz⟩:∃ u,a.eval vx=u:=⟨_,rfl⟩;rw[hu]at hxv; rw[hkv']at hkv; rw[hz]at hpv;cases hxv with
 | map hg=>
  rw[e1]at hg; injection hg with hg; injection hg with hg; subst hg;obtain⟨es',clock',e',h2,h3,h4,h5,h6,h7⟩:=Bu (P:=P) (w:=w) hT hkv e2 (hM.kinds (fun k' p' he=>by cases he; exact⟨k,rfl⟩) k) hM.old hM.born z;have hset:=wV (o':=.map es' clock') e2;have hFb:¬ F b:=(r.w.hp.own _ _ b (aU hob) (.self (by rw[e1]; rfl))).1;have hF:∀ c,F c->F c/\({ w with heap:=w.heap.setIfInBounds b (.map es' clock') }:World).heap[c]? = w.heap[c]?:=fun c hc=>⟨hc,hset.2 c (fun e=>hFb (e▸hc))⟩;have hperm:(l1++[e']).Perm es'.toList:=by
   have hc:(l1++[e']).Perm (e'::l1):=oV (l₁:=l1) (l₂:=[e']);rcases h7 with⟨a1,a2⟩ | ⟨e0,q,a1,a2,a3,a4,a5,a6⟩
   ·have:=hM.rest.1 a1;subst this;have hp1:=hM.perm;rw[jJ]at hp1;exact hc.trans ((hp1.cons e').trans a2.symm)
   ·obtain⟨b1,b2⟩:=hM.rest.2 e0 q a1 a2 a3;exact hc.trans ((b2.cons e').trans a4.symm)
  have hold:∀ e,e∈l1->e∈es.toList:=fun e he=>hM.perm.mem_iff.1 (uB _ he);have hexec:(execOp a.eval o).run P w = .ok .skip ({ w with heap:=w.heap.setIfInBounds b (.map es' clock') }):=by unfold execOp;rcases hop with hop | hop <;> simp[hop,hu,hkv',hz,h2]
  have hobj:dD F g ({ w with heap:=w.heap.setIfInBounds b (.map es' clock') }) ob (.mp it (eM enc v) (some (MKey.kT k,some p))):=by
   refine⟨b,es',clock',e1,hset.1,l1,[e'],hperm,?_,⟨e',rfl,by rw[h3]; exact hkv,by rw[h4]; exact hpv.mono hF (fun _ _=>rfl)⟩,hM.keys,h5,h6,hM.sep,?_⟩
   rotate_left
   ·exact aRL hM hset hcur (r':=r1) hkv h3 h7 e2
   refine hM.ent.mono fun y e hy he hR=>⟨hR.1,hR.2.mono hF fun c ho hc=>hset.2 c (fun e'=>?_)⟩;subst e';obtain⟨vs,ty,hcell⟩:=hR.2.block ho hc;rw[e2]at hcell; cases hcell
  have hft:∀ c,bG g ({ w with heap:=w.heap.setIfInBounds b (.map es' clock') }) ob (.mp it (eM enc v) (some (MKey.kT k,some p))) c->bG g w ob (.mp it (eM enc v) (some (MKey.kT k,none))) c:=by
   intro c hc;cases hc with
   | self h=>exact .self h
   | iter h=>exact .iter h
   | @mem _ _ _ _ bm cl es2 e x h1 h2 h3' h4' h5' h6' h7'=>
    rw[e1]at h1; injection h1 with h1; injection h1 with h1; subst h1;rw[hset.1]at h2; injection h2 with h2; injection h2 with h2 h2'; subst h2;rcases dZ.1 (hperm.mem_iff.2 h3') with hh | hh
    ·exact .mem e1 e2 (hold e hh) h4' h5' h6' h7'
    ·simp only[cG]at hh;subst hh;exfalso;rw[h3]at h5';have hk':=hM.keys;rw[Kc]at hk';exact hk'.2.2 _ (Ax h4') (MKey.kT k) (by simp[hoK]) (h5'.inj hkv)
  exact⟨_,undef,{ w with heap:=w.heap.setIfInBounds b (.map es' clock') },_,hexec,.inr ⟨rfl,rfl⟩,by rw[hd]; exact⟨F,g,r.writeF (y:=.mp it (eM enc v) (some (MKey.kT k,some p))) (aU hob) (.self (by rw[e1]; rfl)) hset.2 (by simp) rfl rfl rfl hobj hft⟩,h1⟩
end
section
variable {P:Program} {E:Env} {I:Inf} {F:Nat->Prop} {g:Nat->Value} {st st2:St} {a:Act} {w:World} {K V:Type} [MKey K]
theorem cL.same{w':World}(r:cL E F g st a w)(hh:w'.heap=w.heap)(ho:w'.os=w.os)(ht:w'.tape=w.tape)(hu:w'.output=w.output):cL E F g st a w':=by
 have hb:∀ b:Nat,w'.heap[b]? = w.heap[b]?:=fun b=>by rw[hh]
 have hf:∀ {o x b},bG g w' o x b->bG g w o x b:=fun h=>h.mono rfl (fun _ _=>rfl) (fun c _=>hb c);refine⟨r.nt,r.df.mono (fun b h=>⟨h,hb b⟩),fun t x hx=>(r.fr t x hx).mono (fun b h=>⟨h,hb b⟩) (fun _ _=>rfl),⟨⟨fun o x hx=>?_,fun o x b hx h=>r.w.hp.own o x b hx (hf h),fun o x o' y b hx hy hne h h'=>r.w.hp.sep o x o' y b hx hy hne (hf h) (hf h')⟩,r.w.f0,fun b h=>?_,?_,r.w.names,r.w.b0⟩⟩
 ·exact(r.w.hp.obj o x hx).mono (fun b h=>⟨h,hb b⟩) rfl (fun _ _=>rfl) (fun b _=>hb b)
 ·rw[hh]; exact r.w.f1 b h
 ·exact r.w.ext.trans ho ht hu (by rw[hh]; exact fK _) (fun b _ _=>hb b)
theorem Ot(hG:fF P E I){ops l:List Oper}{o:Oper}{rest:List Oper}{Q:gL}{d:Nat}(enc:V->Mem)(hl:l=o::rest)(hop:o.op = .makeMap t none)(hd:o.dst=some d)(hw:cQ ops o st=some true)
  (hnt:Nat.blt d I.nt=true)(hn:oR d I.N=true){st1:St}(he:st.erase d=some st1)(h1:fR P E ops Q rest ({ st1 with hp:=(d,.mp none (eM enc ([]:List (K×V))) none)::st1.hp }.put d (.map d))):fR P E ops Q l st:=by
 refine iL hl hw fun F g a w r=>?_;have hd':d<E.nt:=by rw[hG.nt]; simpa[fE] using hnt
 have hnew:(w.alloc (.map #[] 0)).heap[w.heap.size]? = some (.map #[] 0):=heap_alloc_new w _;obtain⟨g',hg'⟩:=r.allocF (x:=.mp none (eM enc ([]:List (K×V))) none) (v:=.map (some w.heap.size)) (w':=w.alloc (.map #[] 0)) (ob:=.map #[] 0) hd' (by rw[hG.N]; exact fJ hn) he rfl rfl rfl rfl rfl
  (fun g' b hg hb=>by
   cases hb with
   | self h=>rw[hg]at h; exact h
   | mem _ _ _ h4=>simp[eM]at h4)
  (fun g' _ hg=>⟨w.heap.size,#[],0,hg,hnew,[],[],by simp,by simp only[eM,List.map_nil]; exact .nil,rfl,by simp[eM,hoK],by simp,by simp,by simp,True.intro⟩)
  (.map d) (fun g' hg=>.map hg)
 exact⟨_,.map (some w.heap.size),w.alloc (.map #[] 0),_,by unfold execOp; simp[hop,Instr.makeMap],.inl rfl,by rw[hd]; exact⟨F,g',hg'⟩,h1⟩
end
section
variable {P:Program} {E:Env} {I:Inf} {F:Nat->Prop} {g:Nat->Value} {st st2:St} {a:Act} {w:World} {K V:Type} [MKey K]
end
section
variable {P:Program} {E:Env} {I:Inf} {F:Nat->Prop} {g:Nat->Value} {st st2:St} {a:Act} {w:World} {K V:Type} [MKey K]
theorem Le.filld{it:Option Iter}{eD:V->T}(v:List (K×V))(k:K)(c:V)(hp:∀ F g w v,VR F g w p v->VR F g w (.t (eD c)) v)(hl:bK st.hp o=some (.mp it (eM (fun c=>.d (eD c)) (lB v k)) (some (MKey.kT k,some p)))):
  Le E st { st with hp:=(o,.mp it (eM (fun c=>.d (eD c)) (Pj v k c)) none)::del o st.hp }:=by
 refine Le.objF _ hl (fun F g w h=>?_) (fun g w x h=>?_)
 ·obtain⟨b,es,clock,e1,e2,l1,r1,hM⟩:=h;obtain⟨e,hr,hk,hv⟩:=hM.hole;have hv:=hp _ _ _ _ hv;subst hr;have hM':MpR F g w b es clock it ((MKey.kT k,Mem.d (eD c))::eM (fun c=>.d (eD c)) (lB v k)) none (e::l1) []:=by
   refine⟨?_,.cons ⟨hk,hv.cells_t rfl⟩ hM.ent,rfl,?_,hM.born,hM.old,?_,hM.it⟩
   ·rw[jJ];exact(oV (l₁:=[e]) (l₂:=l1)).trans hM.perm
   ·have:=hM.keys;simp only[hoK,kY,jJ]at this ⊢;exact(List.Perm.nodup_iff (oV (l₁:=[MKey.kT k]) (l₂:=(eM (fun c=>Mem.d (eD c)) (lB v k)).map (·.1)))).2 this
   ·intro i j x y e1 e2 c' hx hy h1 h2 hne ho;have:x.2.owned=false:=by
     cases i with
     | zero=>simp at hx; subst hx; rfl
     | succ i=>have:=kW (show (eM (fun c=>Mem.d (eD c)) (lB v k))[i]? = some x by simpa using hx);simp only[eM,dW]at this;obtain⟨p,_,rfl⟩:=this;rfl
    rw[this]at ho; cases ho
  obtain⟨l2,hM2⟩:=hM'.permM (aUY (enc:=fun c=>Mem.d (eD c)) v k c);exact⟨b,es,clock,e1,e2,l2,[],hM2⟩
 ·cases h with
  | self h=>exact .self h
  | iter h=>exact .iter h
  | mem h1 h2 h3 h4 h5 h6 h7=>simp only[eM,dW]at h4;obtain⟨p,_,rfl⟩:=h4;cases h6
end
section
variable {P:Program} {E:Env} {I:Inf} {st:St} {a:Act} {w:World} {K V:Type} [MKey K]
theorem lV.remap{α β γ:Type}{R:β->γ->Prop}{R':β->γ->Prop}{f f':α->β}:∀ {v:List α} {l:List γ},lV R (v.map f) l->(∀ p e,p∈v->e∈l->R (f p) e->R' (f' p) e)->lV R' (v.map f') l
 | [],_,h,_=>by cases h; exact .nil
 | p::v,_,h,hr=>by
  cases h with
  | cons h t=>exact .cons (hr p _ (by simp) (by simp) h) (lV.remap t fun q e hq he=>hr q e (cV _ hq) (cV _ he))
theorem cL.fzmap{F:Nat->Prop}{g:Nat->Value}(r:cL E F g st a w){it:Option Iter}{e:TypeId}{nn:V->Nat}{ff:V->Nat->List T}{eD:V->T}(v:List (K×V))(hv:∀ c,(eD c).view=some (nn c,ff c))
  (hl:bK st.hp o=some (.mp it (eM (fun c=>.row e s (nn c) (ff c)) v) none)):Rel E { st with hp:=(o,.mp it (eM (fun c=>.d (eD c)) v) none)::del o st.hp } a w:=by
 have hlm:=aU hl;obtain⟨b0,es,clock,e1,e2,l1,r1,hM⟩:=r.w.hp.obj _ _ hlm;let M:Nat->Prop:=fun b=>∃ en x,en∈es.toList/\x∈eM (fun c=>.row e s (nn c) (ff c)) v/\KeyR x.1 en.key/\blk en.val=some b;have hfoot:∀ b,M b->bG g w o (.mp it (eM (fun c=>.row e s (nn c) (ff c)) v) none) b:=by rintro b ⟨en,x,h1,h2,h3,h4⟩;refine .mem e1 e2 h1 h2 h3 ?_ h4;simp only[eM,dW]at h2;obtain⟨p,_,rfl⟩:=h2;rfl
 have hcell:∀ b,M b->∃ vs ty,w.heap[b]? = some (.cells vs ty (0,0)):=by
  rintro b ⟨en,x,h1,h2,h3,h4⟩;obtain⟨⟨_,hR⟩,_⟩:=hM.entry h2 h1 h3;simp only[eM,dW]at h2;obtain⟨p,_,rfl⟩:=h2;rcases hR with⟨h5,_⟩ | ⟨b',cap,cur,h5,h6,_⟩
  ·rw[h5]at h4; simp[blk]at h4
  ·rw[h5]at h4; simp[blk]at h4; subst h4; exact⟨_,_,h6⟩
 have hnew:∀ b,bG g w o (.mp it (eM (fun c=>.d (eD c)) v) none) b->bG g w o (.mp it (eM (fun c=>.row e s (nn c) (ff c)) v) none) b/\¬ M b:=by
  intro b h;cases h with
  | self h=>refine⟨.self h,fun hm=>?_⟩;obtain⟨vs,ty,hc⟩:=hcell b hm;rw[e1]at h; simp[blk]at h; subst h;rw[e2]at hc; cases hc
  | @iter i _ _ _ h=>refine⟨.iter h,fun hm=>?_⟩;obtain⟨vs,ty,hc⟩:=hcell b hm;obtain⟨rr,since,seen,c0,g1,g2,_⟩:=hM.it;rw[g1]at h; simp[blk]at h; subst h;rw[g2]at hc; cases hc
  | mem h1 h2 h3 h4 h5 h6 h7=>simp only[eM,dW]at h4;obtain⟨p,_,rfl⟩:=h4;cases h6
 refine⟨fun b=>F b\/M b,g,r.nt,r.df.mono (fun _ h=>⟨.inl h,rfl⟩),fun t x hx=>(r.fr t x hx).mono (fun b hb=>⟨.inl hb,rfl⟩) (fun _ _=>rfl),⟨⟨fun k y hy=>?_,fun k y b hy hb=>?_,fun k y k' y' b hy hy' hne hb hb'=>?_⟩,fun b hb=>.inl (r.w.f0 b hb),fun b hb=>?_,r.w.ext,r.w.names,r.w.b0⟩⟩
 ·rcases aX.1 hy with he | hy
  ·cases he;have hr1:=hM.hole;refine⟨b0,es,clock,e1,e2,l1,r1,hM.perm,?_,hr1,?_,hM.born,hM.old,fun i j x y' e1 e2 c hx hy h1 h2 hne ho=>?_,hM.it⟩
   ·refine lV.remap hM.ent fun p en hp hen hR=>⟨hR.1,?_⟩;refine Bl (g:=fun _=>en.val) (o:=0) (F:=F) (e:=e) (s:=s) hR.2 (fun b hb=>.inl hb) (fun b hb=>.inr ⟨en,_,hM.perm.mem_iff.1 (uB _ hen),Ax hp,hR.1,hb⟩) (hv p.2)
   ·have:=hM.keys;rw[Fq]at this ⊢;exact this
   ·have:=kW hx;simp only[eM,dW]at this;obtain⟨p,_,rfl⟩:=this;cases ho
  ·exact(r.w.hp.obj k y (bD.1 hy).1).mono (fun b hb=>⟨.inl hb,rfl⟩) rfl (fun _ _=>rfl) (fun _ _=>rfl)
 ·rcases aX.1 hy with he | hy
  ·cases he;obtain⟨h1,h2⟩:=hnew b hb;obtain⟨h3,h4⟩:=r.w.hp.own _ _ b hlm h1;exact⟨fun h=>h.elim h3 h2,h4⟩
  ·obtain⟨hy1,hy2⟩:=bD.1 hy;obtain⟨h3,h4⟩:=r.w.hp.own _ _ b hy1 hb;exact⟨fun h=>h.elim h3 fun hm=>r.w.hp.sep k y o _ b hy1 hlm hy2 hb (hfoot b hm),h4⟩
 ·rcases aX.1 hy with he | hy
  ·rcases aX.1 hy' with he' | hy'
   ·cases he; cases he'; exact hne rfl
   ·cases he;obtain⟨h1,h2⟩:=bD.1 hy';exact r.w.hp.sep _ _ k' y' b hlm h1 hne (hnew b hb).1 hb'
  ·obtain⟨h1,h2⟩:=bD.1 hy;rcases aX.1 hy' with he' | hy'
   ·cases he';exact r.w.hp.sep k y _ _ b h1 hlm hne hb (hnew b hb').1
   ·exact r.w.hp.sep k y k' y' b h1 (bD.1 hy').1 hne hb hb'
 ·rcases hb with hb | hb
  ·exact r.w.f1 b hb
  ·obtain⟨vs,ty,hc⟩:=hcell b hb;have:=(r.w.hp.own _ _ b hlm (hfoot b hb)).2;exact⟨(oU.1 hc).1,this.elim (fun h=>.inr (.inl h)) (fun h=>.inr (.inr h))⟩
theorem Le.fzmap{o:Nat}{it:Option Iter}{e:TypeId}{s:Nat}{nn:V->Nat}{ff:V->Nat->List T}{eD:V->T}(v:List (K×V))(hv:∀ c,(eD c).view=some (nn c,ff c))
  (hl:bK st.hp o=some (.mp it (eM (fun c=>.row e s (nn c) (ff c)) v) none)):Le E st { st with hp:=(o,.mp it (eM (fun c=>.d (eD c)) v) none)::del o st.hp }:=fun _ _ r=>by
 obtain⟨F,g,r⟩:=r;exact r.fzmap v hv hl
end
inductive Kf where
 | s (y:Code)
 | b (id:Nat)
inductive Cfg where
 | c (x:Code) (ks:List Kf)
 | o (all l:List Oper) (ks:List Kf)
 | x (e:Exit) (ks:List Kf)
def kQ(P:Program)(E:Env):List Kf->gL->gL
 | [],Q=>Q
 | .s y::ks,Q=>xT P E y (kQ P E ks Q)
 | .b id::ks,Q=>kU id (kQ P E ks Q)
def cwp(P:Program)(E:Env)(g:Cfg)(Q:gL)(st:St):Prop:=
 match g with
 | .c x ks=>pwp P E x (kQ P E ks Q) st
 | .o all l ks=>fR P E all (kQ P E ks Q) l st
 | .x e ks=>∃ t,Le E st t/\kQ P E ks Q e t
def aVE:Cfg->Option Cfg
 | .c (.seq a b) ks=>some (.c a (.s b::ks))
 | .c (.block id a) ks=>some (.c a (.b id::ks))
 | .c (.region _ ops false) ks=>some (.o ops.toList ops.toList ks)
 | .c .skip ks=>some (.x .normal ks)
 | .c .ret ks=>some (.x .ret ks)
 | .c (.exit id) ks=>some (.x (.exit id) ks)
 | .o _ [] ks=>some (.x .normal ks)
 | .x .normal (.s y::ks)=>some (.c y ks)
 | .x .normal (.b _::ks)=>some (.x .normal ks)
 | .x .ret (_::ks)=>some (.x .ret ks)
 | .x (.panic ch) (_::ks)=>some (.x (.panic ch) ks)
 | .x (.exit i) (.s _::ks)=>some (.x (.exit i) ks)
 | .x (.exit i) (.b j::ks)=>match Nat.beq i j with | true=>some (.x .normal ks) | false=>some (.x (.exit i) ks)
 | _=>none
def nrm:Nat->Cfg->Cfg
 | 0,g=>g
 | n+1,g=>match aVE g with | some g'=>nrm n g' | none=>g
def aRE:Op->Bool
 | .call { callee:=.builtin .append,.. }=>true
 | _=>false
def apA(st:St)(j:eG)(p:PV)(o2:Nat):Option (Prop×(Nat->Bool)):=
 match p with
 | .nil=>match bK st.hp o2 with
  | some (.arm _ _ m f none)=>some ((0+m)*j.bytes<=140737488355328,fun i=>aIU j.size (f i))
  | _=>none
 | .own o1=>match bK st.hp o1,st.erase o1 with
  | some (.arm _ _ n _ none),some st0=>match bK st0.hp o2 with
   | some (.arm _ _ m f none)=>some ((n+m)*j.bytes<=140737488355328,fun i=>aIU j.size (f i))
   | _=>none
  | _,_=>none
 | _=>none
theorem aTZ{I:Inf}{st st':St}{d o2:Nat}{j:eG}{C0 q:Prop}{f:Nat->Bool}(h:Be I st d e j p o2=some (st',C0))(hx:apA st j p o2=some (q,f))(hq:q)(hf:∀ i,f i=true):C0:=by
 unfold Be at h;unfold apA at hx;split at h
 ·cases p with
  | nil=>
   simp only at h hx;split at h
   ·rename_i e' s' m f' st1 hl he;rw[hl]at hx;cases hx;split at h
    ·cases h; exact⟨hq,fun i _=>hf i⟩
    ·cases h
   ·cases h
  | own o1=>
   simp only at h hx;split at h
   ·rename_i e1 s1 n f1 st0 hl1 he1;rw[hl1,he1]at hx;simp only at hx;split at h
    ·rename_i e' s' m f' st1 hl2 he2 hne;rw[hl2]at hx;cases hx;split at h
     ·cases h; exact⟨hq,fun i _=>hf i⟩
     ·cases h
    ·cases h
   ·cases h
  | _=>simp at h
 ·cases h
def apX(I:Inf)(st:St)(o:Oper):Option (Prop×(Nat->Bool)):=
 match o.op with
 | .call c=>match c.args.toList,c.argTypes.toList with
  | [s,x],[t,_]=>match I.ti t,ev st s,ev st x with
   | some i,some p,some q=>match i.und,sP st q with
    | .sl e,some (m,f2,_)=>match I.ti e with
     | some j=>match p with
      | .nil=>some ((0+m)*j.bytes<=140737488355328,fun i=>jX j.size (f2 i))
      | .own o=>match bK st.hp o with
       | some (.arr _ _ n _)=>some ((n+m)*j.bytes<=140737488355328,fun i=>jX j.size (f2 i))
       | _=>none
      | _=>none
     | _=>none
    | .sl e,none=>match I.ti e,q with
     | some j,.own o2=>apA st j p o2
     | _,_=>none
    | _,_=>none
   | _,_,_=>none
  | _,_=>none
 | _=>none
def aDM(I:Inf)(all:List Oper)(o:Oper)(st:St):Option (St×List Prop×List (Nat->Bool)):=
 match Bn I all o st with
 | none=>none
 | some (st',C)=>match aRE o.op,cQ all o st with
  | true,some true=>match apX I st o with | some (p,f)=>some (st',[p],[f]) | none=>none
  | _,_=>some (st',C,[])
def run(I:Inf):Nat->Cfg->St->Option (Cfg×St×List Prop×List (Nat->Bool))
 | 0,g,st=>some (nrm 300 g,st,[],[])
 | n+1,g,st=>match nrm 300 g with
  | .o all (op::l) ks=>match aDM I all op st with
   | some (st',C,f)=>match run I n (.o all l ks) st' with
    | some (g',st'',C',f')=>some (g',st'',C++C',f++f')
    | none=>none
   | none=>none
  | .c (.cond c x y) ks=>match ev st c with
   | some (.t (.bool true))=>run I n (.c x ks) st
   | some (.t (.bool false))=>run I n (.c y ks) st
   | _=>none
  | _=>none
section
variable {P:Program} {E:Env} {I:Inf} {Q:gL} {st st':St}
theorem kP{g:Cfg}(h:Le E st st')(hk:cwp P E g Q st'):cwp P E g Q st:=by
 cases g with
 | c x ks=>exact uF h hk
 | o all l ks=>exact iK h hk
 | x e ks=>obtain⟨t,h1,h2⟩:=hk; exact⟨t,h.trans h1,h2⟩
theorem aQF{g g':Cfg}(h:aVE g=some g')(hk:cwp P E g' Q st):cwp P E g Q st:=by
 unfold aVE at h;split at h
 ·cases h; exact aLT hk
 ·cases h; exact Xy hk
 ·rename_i id ops ks;cases h;have:ops=ops.toList.toArray:=by simp
  show pwp P E (.region id ops false) _ _;rw[this];exact zQ hk
 ·cases h; obtain⟨t,h1,h2⟩:=hk; exact uF h1 (aHV h2)
 ·cases h; obtain⟨t,h1,h2⟩:=hk; exact uF h1 (aPC h2)
 ·cases h; obtain⟨t,h1,h2⟩:=hk; exact uF h1 (aGZ h2)
 ·cases h; obtain⟨t,h1,h2⟩:=hk; exact iK h1 (aIQ h2)
 ·cases h; exact⟨st,Le.refl,aWZ hk⟩
 ·cases h; obtain⟨t,h1,h2⟩:=hk; exact⟨t,h1,aZO h2⟩
 ·rename_i k ks;cases h; obtain⟨t,h1,h2⟩:=hk;cases k with
  | s y=>exact⟨t,h1,aGE h2⟩
  | b id=>exact⟨t,h1,aNI h2⟩
 ·rename_i ch k ks;cases h; obtain⟨t,h1,h2⟩:=hk;cases k with
  | s y=>exact⟨t,h1,aFB h2⟩
  | b id=>exact⟨t,h1,aLZ h2⟩
 ·cases h; obtain⟨t,h1,h2⟩:=hk; exact⟨t,h1,Xv h2⟩
 ·rename_i i j ks;split at h
  ·rename_i hij;cases h; obtain⟨t,h1,h2⟩:=hk;have:=cJ hij;subst this;exact⟨t,h1,aPF h2⟩
  ·rename_i hij;cases h; obtain⟨t,h1,h2⟩:=hk;exact⟨t,h1,aJO (nP hij) h2⟩
 ·cases h
theorem At:∀ {n:Nat} {g:Cfg},cwp P E (nrm n g) Q st->cwp P E g Q st
 | 0,_,h=>h
 | n+1,g,h=>by
  simp only[nrm]at h;split at h
  ·rename_i g' hg; exact aQF hg (At h)
  ·exact h
theorem aTL{all:List Oper}{o:Oper}{C:List Prop}{p:Prop}{f:Nat->Bool}(ha:aRE o.op=true)(h:Bn I all o st=some (st',C))(hw:cQ all o st=some true)(hx:apX I st o=some (p,f))(hp:p)(hf:∀ i,f i=true):All C:=by
 obtain⟨dst,op,ty,pos,aft,gd⟩:=o;cases op with
 | call c=>
  obtain⟨callee,args,argTypes⟩:=c;cases callee with
  | builtin b=>
   cases b with
   | append=>
    unfold Bn at h;simp only[hw]at h;have hs:∃ C0,jL I st { dst:=dst,op:=.call { callee:=.builtin .append,args:=args,argTypes:=argTypes },type:=ty,pos:=pos,after:=aft,guard:=gd }=some (st',C0)/\C=[C0]:=by
     split at h
     ·rename_i st1 C0 hs;cases h;exact⟨C0,hs,rfl⟩
     ·cases h
    obtain⟨C0,hs,rfl⟩:=hs;show C0;unfold jL at hs;unfold apX at hx;cases dst with
    | none=>simp at hs
    | some d=>
     simp only at hs hx;split at hs
     case h_2=>cases hs
     rename_i s x t t' h1 h2;rw[h1,h2]at hx;simp only at hx;split at hs
     case h_2=>cases hs
     rename_i i p0 q0 _ h3 h4 h5;rw[h3,h4,h5]at hx;simp only at hx;split at hs
     case h_3=>cases hs
     case h_2=>
      rename_i e h6 h7;rw[h6,h7]at hx;simp only at hx;split at hs
      ·rename_i j o2 h8;rw[h8]at hx;simp only at hx;exact aTZ hs hx hp hf
      ·cases hs
     rename_i e m f2 s2 h6 h7;rw[h6,h7]at hx;simp only at hx;split at hs
     case h_2=>cases hs
     rename_i j h8;rw[h8]at hx;simp only at hx;split at hs
     case h_2=>cases hs
     cases p0 with
     | nil=>
      simp only at hs hx;cases hx;split at hs
      ·cases hs; exact⟨hp,fun i _=>hf i⟩
      ·cases hs
     | own oo=>
      simp only at hs hx;split at hs
      case h_2=>cases hs
      rename_i e' s' n f1 st1 h9 h10;rw[h9]at hx;simp only at hx;cases hx;split at hs
      ·cases hs; exact⟨hp,fun i _=>hf i⟩
      ·cases hs
     | _=>simp at hs
   | _=>cases ha
  | _=>cases ha
 | _=>cases ha
theorem aJJ(hG:fF P E I){all l:List Oper}{o:Oper}{C:List Prop}(h:aDM I all o st=some (st',C,fs))(hC:All C)(hf:∀ f,f∈fs->∀ i,f i=true)
  (hk:fR P E all Q l st'):fR P E all Q (o::l) st:=by
 unfold aDM at h;split at h
 ·cases h
 ·rename_i st1 C1 hs;have:st1=st'/\All C1:=by
   split at h
   ·rename_i hw;rename_i ha;split at h
    ·rename_i p f hx;cases h;exact⟨rfl,aTL ha hs hw hx hC (hf f (by simp))⟩
    ·cases h
   ·cases h; exact⟨rfl,hC⟩
  obtain⟨rfl,hC1⟩:=this;intro a w r;exact Iv hG (ops:=all.toArray) (by simpa using hs) hC1 r hk
theorem dV(hG:fF P E I):∀ {n:Nat} {g g':Cfg} {st st':St} {C:List Prop} {fs:List (Nat->Bool)},run I n g st=some (g',st',C,fs)->All C->(∀ f,f∈fs->∀ i,f i=true)->cwp P E g' Q st'->cwp P E g Q st
 | 0,g,g',st,st',C,fs,h,_,_,hk=>by simp only[run,gO,gQ]at h;obtain⟨rfl,rfl,_⟩:=h;exact At hk
 | n+1,g,g',st,st',C,fs,h,hC,hf,hk=>by
  simp only[run]at h;split at h
  ·rename_i all op l ks hg;split at h
   ·rename_i st1 C1 f1 hs;split at h
    ·rename_i g2 st2 C2 f2 hr;cases h;rw[All.append]at hC;refine At (n:=300) ?_;rw[hg];exact aJJ hG hs hC.1 (fun f hm=>hf f (uB _ hm)) (dV hG hr hC.2 (fun f hm=>hf f (pP _ hm)) hk)
    ·cases h
   ·cases h
  ·rename_i c x y ks hg;refine At (n:=300) ?_;rw[hg];split at h
   ·rename_i hc;exact zH (b:=true) hc (fun _=>dV hG h hC hf hk) (fun e=>by cases e)
   ·rename_i hc;exact zH (b:=false) hc (fun e=>by cases e) (fun _=>dV hG h hC hf hk)
   ·cases h
  ·cases h
end
structure Conv {α:Type}(f:Nat->Option α)(g:Option α):Prop where
 mono:∀ n y,f n=some y->f (n+1)=some y
 lim:∀ y,g=some y↔∃ n,f n=some y
theorem Conv.of_run{f:Nat->Option α}{g:Option α}(h:Conv f g)(n:Nat){y:α}(hy:f n=some y):g=some y:=(h.lim y).2 ⟨n,hy⟩
theorem Conv.run{f:Nat->Option α}{g:Option α}(h:Conv f g){y:α}(hy:g=some y):∃ n,f n=some y:=(h.lim y).1 hy
open Classical in
noncomputable def Lim {α:Type}(f:Nat->Option α):Option α:=match f 1000000000 with
 | some y=>some y
 | none=>if h:∃ y n,f n=some y then some h.choose else none
theorem Lim.or(f:Nat->Option α):(∃ y n,f n=some y/\Lim f=some y)\/(Lim f=none/\∀ y n,f n≠some y):=by
 unfold Lim;cases h:f 1000000000 with
 | some y=>exact .inl ⟨y,_,h,rfl⟩
 | none=>
  simp only;by_cases hx:∃ y n,f n=some y
  ·rw[dif_pos hx];obtain⟨n,hn⟩:=hx.choose_spec;exact .inl ⟨_,n,hn,rfl⟩
  ·rw[dif_neg hx];exact .inr ⟨rfl,fun y n hy=>hx ⟨y,n,hy⟩⟩
attribute [irreducible] Lim
theorem Lim.conv{f:Nat->Option α}(hm:∀ n y,f n=some y->f (n+1)=some y):Conv f (Lim f):=by
 have hle:∀ {n m:Nat},n<=m->∀ {y:α},f n=some y->f m=some y:=by
  intro n m h
  induction h with
  | refl=>exact fun h=>h
  | step _ ih=>exact fun h=>hm _ _ (ih h)
 refine⟨hm,fun y=>?_⟩;rcases Lim.or f with⟨z,m,hz,hl⟩ | ⟨hl,hn⟩
 ·rw[hl];constructor
  ·intro e; cases e; exact⟨m,hz⟩
  ·rintro⟨n,hn⟩;have h1:=hle (Nat.le_max_left n m) hn;have h2:=hle (Nat.le_max_right n m) hz;rw[h1]at h2; cases h2; rfl
 ·rw[hl];constructor
  ·intro e; cases e
  ·rintro⟨n,h⟩; exact absurd h (hn y n)
theorem Oj{b:S->Option (S⊕R)}{s:S}{r:R}(h:lH b n s=some r):lH b (n+1) s=some r:=by
 induction n generalizing s with
 | zero=>simp[lH]at h
 | succ n ih=>
  rw[lH]at h ⊢;cases hb:b s with
  | none=>simp[hb]at h
  | some x=>
   cases x with
   | inl s'=>simp only[hb]at h ⊢; exact ih h
   | inr r'=>simp only[hb]at h ⊢; exact h
noncomputable def cB (b:S->Option (S⊕R))(s:S):Option R:=Lim fun n=>lH b n s
theorem lY(b:S->Option (S⊕R))(s:S):Conv (fun n=>lH b n s) (cB b s):=Lim.conv fun _ _ h=>Oj h
theorem rO(b:S->Option (S⊕R))(s:S):cB b s=match b s with | none=>none | some (.inl s')=>cB b s' | some (.inr r)=>some r:=by
 have hc:=lY b s;cases hb:b s with
 | none=>
  simp only;cases hw:cB b s with
  | none=>rfl
  | some y=>obtain⟨n,hn⟩:=hc.run hw; cases n <;> simp[lH,hb]at hn
 | some x=>
  cases x with
  | inr r=>exact hc.of_run 1 (by simp[lH,hb])
  | inl s'=>
   simp only;have hc':=lY b s';cases hw:cB b s' with
   | some y=>obtain⟨n,hn⟩:=hc'.run hw; exact hc.of_run (n+1) (by simp[lH,hb,hn])
   | none=>
    cases hv:cB b s with
    | none=>rfl
    | some y=>
     obtain⟨n,hn⟩:=hc.run hv;cases n with
     | zero=>simp[lH]at hn
     | succ n=>simp only[lH,hb]at hn; rw[hc'.of_run n hn]at hw; cases hw
theorem lZ{b:S->Option (S⊕R)}{s s':S}(h:b s=some (.inl s')):cB b s=cB b s':=by rw[rO,h]
theorem gZ{b:S->Option (S⊕R)}{s:S}{r:R}(h:b s=some (.inr r)):cB b s=some r:=by rw[rO,h]
theorem Hj{b:S->Option (S⊕R)}{s:S}{r:R}(h:lH b n s=some r):cB b s=some r:=(lY b s).of_run n h
end Go.PL
