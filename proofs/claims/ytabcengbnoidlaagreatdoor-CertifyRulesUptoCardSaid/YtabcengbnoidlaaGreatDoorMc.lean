/-
  Parts: Regions whose order is open: each operation is looked at once, over what its forerunners give. Own work. Short forms of the rules, for printed proofs. Own work. Maps with numbers or strings as keys: what the model's operations do, and typed maps. Own work. Rules for maps whose values are boxes and rows of the map's own. Own work. Rules for maps: looking up, and what is found there under a name of its own. Own work. Rules for maps: writing and deleting entries. Own work. Rules for maps: writing, deleting, filling a gap. Own work. Rules for maps: making one, its length, loops over one. Own work. Rules for maps: the rounds of a loop over one. Own work. Rules for maps: rounds of a loop, by what the entries are; maps of data. Own work. Maps of rows become maps of data; an entry of a map of data, beside the map. Own work. A walker over code: runs of operations and control, by computation over abstract states. Own work. From functions of fuel to functions without fuel. Own work.
-/
import Derived.Test.YtabcengbnoidlaaGreatDoorMb
import Derived.KernelRfl
import Derived.Maps.RangeRun
set_option maxHeartbeats 4000000
namespace Go.PL
open Go
variable {Q':Exit->Act->World->Prop} {R S α:Type} {e k n o s t:Nat} {et kt:TypeId} {fr:Fr} {fs:List (Nat->Bool)} {hp:Hp} {kd:TypeDesc} {kv:Value} {p:PV} {r:List MapEntry} {x:aY}
def dF{α:Type}:List (Nat×α)->List Nat
 | []=>[]
 | e::l=>e.1::dF l
theorem rB{l:List (Nat×α)}:o∈dF l↔∃ x,(o,x)∈l:=by
 induction l with
 | nil=>simp[dF]
 | cons e l ih=>
  obtain⟨k,y⟩:=e;simp only[dF,aW,ih,gM];constructor
  ·rintro (rfl | ⟨x,h⟩)
   ·exact⟨y,.inl ⟨rfl,rfl⟩⟩
   ·exact⟨x,.inr h⟩
  ·rintro⟨x,⟨rfl,_⟩ | h⟩
   ·exact .inl rfl
   ·exact .inr ⟨x,h⟩
def aPU(Hs:Hp):Option (Nat×aY)->Hp
 | none=>Hs
 | some c=>Hs.map fun e=>match Nat.beq e.1 c.1 with | true=>(e.1,c.2) | false=>e
def mdC:Option (Nat×aY)->Option (Nat×aY×Option Nat)
 | none=>none
 | some (o,x)=>some (o,x,none)
structure aPG (P:Program)(k:Nat)(args:List PV)(r:PV)(Hs:Hp)(ch:Option (Nat×aY)):Prop where
 c:fM P k
 h:(Hs=[]/\ch=none/\∃ bps,(∀ st,jN st [] args bps)/\fS P k bps [] [] (Ret r))\/∃ bps N,(∀ st,jN st [] args bps)/\fS P k bps Hs N (pV r (aPU Hs ch))/\jT r (aPU Hs ch) N=true/\∀ c,ch=some c->c.1∈dF Hs
 p:r.pure=true
def lkN:Nat:=1000000007
def cN:Nat:=1000000000
def aHP(P:Program)(t:TypeId)(args:List PV)(r:PV)(Hs:Hp):Prop:=
 ∀ (F:Nat->Prop) (g:Nat->Value) (w:World) (u kv:Value) (x y:PV),args=[x,y]->VR F g w x u->VR F g w y kv->(∀ e,e∈Hs->dA F g w e.1 e.2)->∃ z,(Instr.lookup t u kv false).run P w = .ok z w/\VR F g w r z
def Rz:List PV->Option Nat
 | []=>none
 | .own d::_=>some d
 | _::l=>Rz l
def Cz:PV->Option Nat
 | .agg l=>Rz l
 | .own d=>some d
 | .map d=>some d
 | _=>none
inductive yM (P:Program)(k:Nat)(args:List PV)(r:PV)(Hs:Hp)(ch:Option (Nat×aY)):Prop where
 | call (hk:Nat.blt k cN=true) (hr:Cz r=none) (h:aPG P k args r Hs ch)
 | bI (hk:Nat.blt k lkN=false) (h:aHP P (k-lkN) args r Hs)
 | new (hk:Nat.blt k cN=true) {d e s n:Nat} {f:Nat->List T} (hr:r = .own d) (hH:Hs=[]) (hc:ch=some (d,.arr e s n f)) (c:fM P k) {bps:List PV} (ha:∀ st,jN st [] args bps)
   (h:fS P k bps [] [] (pV (.own d) [(d,.arr e s n f)]))
 | newH (hk:Nat.blt k cN=true) {d:Nat} {y:aY} (hr:Cz r=some d) (hc:ch=some (d,y)) (c:fM P k) {bps:List PV} {N:List Nat} (ha:∀ st,jN st [] args bps)
   (h:fS P k bps Hs N (pV r ((d,y)::Hs))) (hb:jT r ((d,y)::Hs) (N++[d])=true)
theorem Vj(h:Nat.blt k cN=true)(h':Nat.blt k lkN=false):False:=by
 rw[fD]at h;have:Nat.blt k lkN=true:=by rw[fD]; unfold lkN; unfold cN at h; omega
 rw[h']at this; cases this
theorem yM.l{P:Program}{args:List PV}{r:PV}{Hs:Hp}{ch:Option (Nat×aY)}(h:yM P k args r Hs ch)(hk:Nat.blt k lkN=false):aHP P (k-lkN) args r Hs:=by
 cases h with
 | bI _ h=>exact h
 | call hk' _ h=>exact(Vj hk' hk).elim
 | new hk'=>exact(Vj hk' hk).elim
 | newH hk'=>exact(Vj hk' hk).elim
theorem fS.renNew{P:Program}{bps:List PV}{f:Nat->List T}(d:Nat)(h:fS P k bps [] [] (pV (.own o) [(o,.arr e s n f)])):fS P k bps [] [] (pV (.own d) [(d,.arr e s n f)]):=by
 intro F g w vs hs hv hH hF hgl;refine(h F g w vs hs hv hH hF hgl).mono ?_;rintro ex w' ⟨v,r,H',F',g',he,⟨rfl,rfl⟩,hvr,hw⟩;refine⟨v,_,_,F',fun q=>if q=d then g' o else g' q,he,⟨rfl,rfl⟩,?_,⟨⟨?_,?_,?_⟩,hw.f0,hw.f1,hw.ext,(fun q hq=>by cases hq),hw.b0⟩⟩
 ·cases hvr with
  | own h=>exact .own (by simp[h])
 ·intro q x hx;obtain⟨rfl,rfl⟩:=xI (cE.1 hx);have:=hw.hp.obj o _ (cE.2 rfl);have this:lA F' w' (g' o) e s n f:=this;show lA F' w' _ e s n f;simpa using this
 ·intro q x b hx hb;obtain⟨rfl,rfl⟩:=xI (cE.1 hx);cases hb with
  | self hb=>exact hw.hp.own o _ b (cE.2 rfl) (.self (by simpa using hb))
 ·intro q x q' y b hx hy hne;obtain⟨rfl,rfl⟩:=xI (cE.1 hx);obtain⟨rfl,rfl⟩:=xI (cE.1 hy);exact absurd rfl hne
theorem fS.renAgg{P:Program}{bps:List PV}{f:Nat->List T}(d:Nat)(hd:p.mentions d=false)(h:fS P k bps [] [] (pV p [(o,.arr e s n f)])):fS P k bps [] [] (pV (p.rn o d) [(d,.arr e s n f)]):=by
 intro F g w vs hs hv hH hF hgl;refine(h F g w vs hs hv hH hF hgl).mono ?_;rintro ex w' ⟨v,r,H',F',g',he,⟨rfl,rfl⟩,hvr,hw⟩;refine⟨v,_,_,F',upd g' d (g' o),he,⟨rfl,rfl⟩,VR.rn hvr (PV.not_mentions hd),⟨⟨?_,?_,?_⟩,hw.f0,hw.f1,hw.ext,(fun q hq=>by cases hq),hw.b0⟩⟩
 ·intro q x hx;obtain⟨rfl,rfl⟩:=xI (cE.1 hx);have:=hw.hp.obj o _ (cE.2 rfl);have this:lA F' w' (g' o) e s n f:=this;show lA F' w' _ e s n f;rw[bL];exact this
 ·intro q x b hx hb;obtain⟨rfl,rfl⟩:=xI (cE.1 hx);cases hb with
  | self hb=>exact hw.hp.own o _ b (cE.2 rfl) (.self (by rw[bL]at hb; exact hb))
 ·intro q x q' y b hx hy hne;obtain⟨rfl,rfl⟩:=xI (cE.1 hx);obtain⟨rfl,rfl⟩:=xI (cE.1 hy);exact absurd rfl hne
def fzN:Nat:=1000000001
def Gq(P:Program)(k:Nat)(args:List PV)(r:PV)(Hs:Hp)(ch:Option (Nat×aY)):Prop:=
 (Nat.beq k fzN=true/\∃ n f x,args=[.t (.sl n f)]/\r = .t x/\∀ F g w v,VR F g w (.t (.sl n f)) v->VR F g w (.t x) v)\/yM P k args r Hs ch
inductive Hn (P:Program):List (Nat×(Nat×List PV×PV×Hp×Option (Nat×aY)))->Prop
 | nil:Hn P []
 | cons {i k:Nat} {args:List PV} {r:PV} {Hs:Hp} {ch:Option (Nat×aY)} {l:List (Nat×(Nat×List PV×PV×Hp×Option (Nat×aY)))} (h:Gq P k args r Hs ch) (t:Hn P l):Hn P ((i,k,args,r,Hs,ch)::l)
theorem Hn.mem{P:Program}{l:List (Nat×(Nat×List PV×PV×Hp×Option (Nat×aY)))}(h:Hn P l):∀ e,e∈l->Gq P e.2.1 e.2.2.1 e.2.2.2.1 e.2.2.2.2.1 e.2.2.2.2.2:=by
 induction h with
 | nil=>simp
 | cons h _ ih=>
  intro e he;rcases aW.1 he with rfl | he
  ·exact h
  ·exact ih e he
theorem Dn{l:List (Nat×α)}(h:bI l o=none)(x:α):(o,x)∉l:=by
 induction l with
 | nil=>simp
 | cons e l ih=>
  obtain⟨k,y⟩:=e;unfold bI at h;split at h
  ·cases h
  ·rename_i hb;intro hm;rcases aW.1 hm with he | hm
   ·cases he; rw[lY]at hb; cases hb
   ·exact ih h hm
theorem vY{hp hp':Hp}{Hs:Hp}:∀ {Ks:Hp},iK hp (dF Ks)=some Ks->(∀ e,e∈Ks->e∈Hs)->(∀ e,e∈Hs->bI hp e.1=some e.2)->iK (Hs++hp') (dF Ks)=some Ks
 | [],_,_,_=>rfl
 | (o,x)::Ks,h,hs,hh=>by
  simp only[dF,iK]at h ⊢;split at h
  ·rename_i y r hy hr;injection h with h;injection h with h1 h2;injection h1 with h3 h4;subst h4; subst h2;rw[vY hr (fun e he=>hs e (cU _ he)) hh];have hl:∀ {l:Hp},(∀ e,e∈l->bI hp e.1=some e.2)->(o,y)∈l->bI (l++hp') o=some y:=by
    intro l
    induction l with
    | nil=>intro _ h; cases h
    | cons e l ih=>
     intro hl hm;obtain⟨k,z⟩:=e;simp only[List.cons_append,bI];split
     ·rename_i hb;have hb:=cH hb;subst hb;have:=hl _ (dI ..);simp only at this;rw[hy]at this;exact this.symm
     ·rename_i hb;rcases aW.1 hm with he | hm
      ·cases he; rw[lY]at hb; cases hb
      ·exact ih (fun e he=>hl e (cU _ he)) hm
   rw[hl hh (hs _ (dI ..))]
  ·cases h
structure LOp where
 val:Option PV
 md:Option (Nat×aY×Option Nat)
 fs:List (Nat->Bool)
instance:Inhabited LOp:=⟨⟨none,none,[]⟩⟩
theorem Ig{l r:List (Nat×α)}{x:α}(h:bI l t=some x):bI (l++r) t=some x:=by
 induction l with
 | nil=>simp[bI]at h
 | cons e l ih=>
  obtain⟨k,u⟩:=e;simp only[List.cons_append];unfold bI at h ⊢;split
  ·rename_i hk; rw[hk]at h; exact h
  ·rename_i hk; rw[hk]at h; exact ih h
theorem vQ{st:St}{x:Operand}(h:ev st x=some p):ev ⟨st.fr++fr,hp⟩ x=some p:=by
 cases x with
 | tmp t=>exact Ig h
 | const v=>exact h
 | func f=>exact h
 | global _=>simp[ev]at h
theorem lR{st:St}{fr:Fr}{hp:Hp}:∀ {l:List Operand} {ps:List PV},iD st l=some ps->iD ⟨st.fr++fr,hp⟩ l=some ps
 | [],ps,h=>h
 | x::l,ps,h=>by
  simp only[iD]at h ⊢;split at h
  ·rename_i p q hp' hq;cases h;rw[vQ hp',lR hq]
  ·cases h
theorem qT{st:St}{fr:Fr}{hp:Hp}:∀ {l:List (Nat×Operand)} {ps:List (Nat×PV)},gI st l=some ps->gI ⟨st.fr++fr,hp⟩ l=some ps
 | [],ps,h=>h
 | (i,x)::l,ps,h=>by
  simp only[gI]at h ⊢;split at h
  ·rename_i p q hp' hq;cases h;rw[vQ hp',qT hq]
  ·cases h
theorem mQ{st:St}{ops:List Oper}{o:Oper}{b:Bool}(h:cP ops o st=some b):cP ops o ⟨st.fr++fr,hp⟩=some b:=by
 unfold cP at h ⊢;cases hg:o.guard with
 | none=>rw[hg]at h; exact h
 | some g=>
  obtain⟨j,want⟩:=g;rw[hg]at h;simp only at h ⊢;cases hj:ops[j]? with
  | none=>rw[hj]at h; cases h
  | some oj=>
   rw[hj]at h;simp only at h ⊢;cases hd:oj.dst with
   | none=>rw[hd]at h; cases h
   | some d=>
    rw[hd]at h;simp only at h ⊢;cases hl:bI st.fr d with
    | none=>rw[hl]at h; simp at h
    | some p=>rw[Ig hl]; rw[hl]at h; exact h
abbrev Eff:=Option PV×Option (Nat×aY×Option Nat)×List Prop×(List PV×Option Hp)×List (Nat->Bool)
def noA:List PV×Option Hp:=([],some [])
def aDX(ops:List Oper):Operand->Option Nat
 | .tmp t=>match ops.find? (fun o=>match o.dst with | some d=>Nat.beq d t | none=>false) with
  | some o=>match o.op with | .buildSlice _ len _=>some len | _=>none
  | none=>none
 | _=>none
def Ba(ops:List Oper)(x:Operand)(m s:Nat)(f:Nat->List T):Bool×List (Nat->Bool):=match aDX ops x with
 | some n=>(Nat.beq n m&&(List.range n).all fun i=>jR s (f i),[])
 | none=>(true,[fun i=>jR s (f i)])
def aGI(I:Inf)(ops:List Oper)(st:St)(args:List Operand)(ats:List Nat)(d:Nat):Option Eff:=
 match args,ats with
 | [s,x],[t,t']=>match Nat.beq t t',I.ti t,ev st s,ev st x with
  | true,some i,some p,some q=>match i.und,sV st q with
   | .sl e,some (m,f2,none)=>match I.ti e with
    | some j=>match Nat.ble 1 j.size&&(Nat.ble 1 j.bytes&&(Nat.beq j.zero.length j.size&&(Ba ops x m j.size f2).1)),Nat.blt d I.nt,pE d I.N with
     | true,true,true=>match p with
      | .nil=>some (some (.own d),some (d,.arr e j.size m f2,none),[(0+m)*j.bytes<=140737488355328],noA,(Ba ops x m j.size f2).2)
      | .own o=>match bI st.hp o with
       | some (.arr e' s' n f1)=>match Nat.beq e e'&&Nat.beq s' j.size with
        | true=>match aDX ops s with
         | some 0=>match Nat.beq n 0 with
          | true=>some (some (.own d),some (d,.arr e j.size m f2,some o),[(0+m)*j.bytes<=140737488355328],noA,(Ba ops x m j.size f2).2)
          | false=>none
         | _=>some (some (.own d),some (d,.arr e j.size (n+m) (oL n f1 f2),some o),[(n+m)*j.bytes<=140737488355328],noA,(Ba ops x m j.size f2).2)
        | false=>none
       | _=>none
      | _=>none
     | _,_,_=>none
    | none=>none
   | _,_=>none
  | _,_,_,_=>none
 | _,_=>none
def Jt(I:Inf)(ops:List Oper)(ca:Option (Nat×List PV×PV×Hp×Option (Nat×aY)))(o:Oper)(st:St):Option Eff:=
 match cP ops o st with
 | none=>none
 | some false=>match o.dst with
  | some d=>match Nat.blt d I.nt with | true=>some (some (.tup []),none,[],noA,[]) | false=>none
  | none=>some (none,none,[],noA,[])
 | some true=>match ca with
  | some (k,_,r,Hs,ch)=>match o.op,o.dst with
   | .call c,some d=>match c.callee with
    | .value f=>match ev st f,iD st c.args.toList,Nat.blt d I.nt with
     | some (.fn (.func k') nf caps),some as,true=>match Nat.beq k' k,Nat.blt k cN,(match Cz r with | some q=>Nat.beq q d&&pE d I.N | none=>true) with
      | true,true,true=>some (some r,mdC ch,[],(caps.take nf++as++caps.drop nf,iK st.hp (dF Hs)),[])
      | _,_,_=>none
     | _,_,_=>none
    | _=>none
   | .lookup t x kx false,some d=>match ev st x,ev st kx,Nat.blt d I.nt,Nat.beq k (lkN+t) with
    | some (.map ob),some (.t kp),true,true=>some (some r,none,[],([.map ob,.t kp],iK st.hp (dF Hs)),[])
    | _,_,_,_=>none
   | _,_=>none
  | none=>match o.op,o.dst with
   | .alloc e,some d=>match I.ti e,Nat.blt d I.nt,pE d I.N with
    | some i,true,true=>some (some (.ptr d 0),some (d,.box i.zero,none),[],noA,[])
    | _,_,_=>none
   | .store t a x,none=>match I.ti t,ev st a,ev st x with
    | some i,some (.ptr b off),some q=>match bI st.hp b with
     | some (.box l)=>match Nat.beq q.cells.length i.size,Nat.ble (off+i.size) l.length,q.cells.all PV.one with
      | true,true,true=>some (none,some (b,.box (l.take off++q.cells++l.drop (off+i.size)),none),[],noA,[])
      | _,_,_=>none
     | _=>none
    | some i,some (.aptr b s k off),some q=>match bI st.hp b,zU q.cells with
     | some (.arr e s' n f),some c=>match Nat.beq s' s,Nat.beq c.length i.size,Nat.ble (off+i.size) s,q.cells.all PV.one with
      | true,true,true,true=>some (none,some (b,.arr e s' n (rU f k (aMG s' (f k) off c)),none),[k<n],noA,[])
      | _,_,_,_=>none
     | some (.arm e s' n f ov),_=>match Nat.beq s' s,Nat.beq i.size 1,Nat.ble (off+1) s,q.one,Gi ov f k off q with
      | true,true,true,true,some (f',ov')=>some (none,some (b,.arm e s' n f' ov',none),[k<n],noA,[])
      | _,_,_,_,_=>none
     | _,_=>none
    | _,_,_=>none
   | .buildSlice t 0 ⟨[]⟩,some d=>match I.ti t with
    | some i=>match i.und with
     | .sl e=>match I.ti e with
      | some j=>match Nat.ble 1 j.size,Nat.beq j.zero.length j.size,Nat.blt d I.nt,pE d I.N with
       | true,true,true,true=>some (some (.own d),some (d,.arr e j.size 0 (dU [] j.size),none),[],noA,[])
       | _,_,_,_=>none
      | none=>none
     | _=>none
    | none=>none
   | .buildSlice t len parts,some d=>match I.ti t,gI st parts.toList with
    | some i,some ps=>match i.und with
     | .sl e=>match I.ti e with
      | some j=>match Nat.ble (len*j.size) 16777216,Nat.ble 1 j.size,Nat.beq j.zero.length j.size,lV (fun i=>some (i*j.size,j.size)) (gZ j (len*j.size)) ps with
       | true,true,true,some c=>match Cl c,Nat.beq c.length (len*j.size),Nat.blt d I.nt with
        | some ts,true,true=>some (some (.t (.sl len (dU ts j.size))),none,[],noA,[])
        | none,true,true=>match Nat.beq len 1,jB d c,sO 0 c,pE d I.N with
         | true,true,some (cs,ov),true=>some (some (.own d),some (d,.arm e j.size 1 (fun _=>cs) (aNF ov),none),[],noA,[])
         | _,_,_,_=>none
        | _,_,_=>none
       | _,_,_,_=>none
      | none=>none
     | _=>none
    | _,_=>none
   | .box ..,_=>none
   | .buildSlice ..,_=>none
   | .makeMap ..,_=>none
   | .mapUpdate ..,_=>none
   | .store ..,_=>none
   | .call { callee:=.builtin .append,args:=args,argTypes:=ats },some d=>aGI I ops st args.toList ats.toList d
   | op,some d=>match pev I st op,Nat.blt d I.nt with
    | some (x,C),true=>some (some x,none,nJ (isC st op) C,noA,[])
    | _,_=>none
   | _,none=>none
def iX(o:Oper):Option Nat:=match o.op,o.dst with
 | .alloc _,some d=>some d
 | .buildSlice _ _ _,some d=>some d
 | .call { callee:=.builtin .append,.. },some d=>some d
 | .call { callee:=.value _,.. },some d=>some d
 | _,_=>none
def aQK(I:Inf)(ops:List Oper)(o:Oper)(st:St)(r:PV)(x:Option Eff):Option Eff:=match iX o,o.dst,x,cP ops o st with
 | some d,some d1,some (some (.own d2),some (d3,.arr e s n f,k),C,_,fs),some true=>match Nat.beq d1 d,Nat.beq d2 d,Nat.beq d3 d,pE d I.N with
  | true,true,true,true=>some (some r,some (d,.arr e s 0 f,k),C,([.t (.sl n f)],some []),fs)
  | _,_,_,_=>none
 | _,_,_,_=>none
def aCC(I:Inf)(ops:List Oper)(ca:Option (Nat×List PV×PV×Hp×Option (Nat×aY)))(o:Oper)(st:St):Option Eff:=
 match ca with
 | some (k,a,r,Hs,ch)=>match Nat.beq k fzN with
  | true=>aQK I ops o st r (Jt I ops none o st)
  | false=>Jt I ops (some (k,a,r,Hs,ch)) o st
 | none=>Jt I ops none o st
def Fh:Option Nat->Hp->Hp
 | some k,l=>del k l
 | none,l=>l
def lK(S:St)(d:Option Nat)(v:Option PV)(md:Option (Nat×aY×Option Nat)):St:=
 ⟨match d,v with | some d,some x=>(d,x)::del d S.fr | _,_=>S.fr,match md with | some (o,c,k)=>(o,c)::del o (Fh k S.hp) | none=>S.hp⟩
section
variable {P:Program} {E:Env} {I:Inf} {Q:gK}
theorem zX{d:Nat}:∀ {l:Hp},(∀ e,e∈l->Nat.beq e.1 d=false/\e.2.mentions d=false)->Jd d l=some l
 | [],_=>rfl
 | (k,x)::l,h=>by
  have h1:=h _ (dI ..);have hx:x.er d=some x:=by
   cases x with
   | box c=>
    have hc:∀ (c:List PV),(∀ k,k∈PV.names.go c->k≠d)->oY d c=some c:=by
     intro c
     induction c with
     | nil=>intro _; rfl
     | cons y c ih=>
      intro hh;have hy:y.mentions d=false:=by unfold PV.mentions;rw[Ir];intro k hk hb;exact hh k (by simp[PV.names.go,hk]) (cH hb)
      have:=ih fun k hk=>hh k (by simp[PV.names.go,hk]);simp only[oY,PV.er,hy,this]
    simp only[aY.er];rw[hc c (fun k hk=>aY.not_mentions h1.2 k (by simpa[aY.names] using hk))]
   | arr=>rfl
   | mpb=>rfl
   | bld=>rfl
   | arm e s n f ov=>
    have hn:=aY.not_mentions h1.2;have e1:Hu d ov=ov:=by
     rcases ov with _ | ⟨i,j,p⟩
     ·rfl
     ·have hp:p.mentions d=false:=by unfold PV.mentions;rw[Ir];intro k hk hb;exact hn k (by simp[aY.names,ovN,hk]) (cH hb)
      simp only[Hu,hp]
    simp only[aY.er,e1]
   | mp it m ho=>
    have hn:=aY.not_mentions h1.2;have e1:Jg d it=it:=by
     cases it with
     | none=>rfl
     | some i=>
      have:=hn i.o (by simp[aY.names,itN]);simp only[Jg];split
      ·rename_i hb; exact absurd (cH hb) this
      ·rfl
    have e2:Ge d ho=ho:=by
     rcases ho with _ | ⟨k',_ | p⟩
     ·rfl
     ·rfl
     ·have hp:p.mentions d=false:=by unfold PV.mentions;rw[Ir];intro k hk hb;exact hn k (by simp[aY.names,hoN,hk]) (cH hb)
      simp only[Ge,hp]
    simp only[aY.er,e1,e2]
  simp only[Jd,h1.1,hx,zX fun e he=>h e (cU _ he)]
theorem kJ{d:Nat}{S:St}(h1:∀ e,e∈S.fr->e.2.mentions d=false)(h2:∀ e,e∈S.hp->Nat.beq e.1 d=false/\e.2.mentions d=false):S.erase d=some S:=by
 unfold St.erase;rw[zX h2];have:S.fr.filter (fun e=>!(e.2.mentions d))=S.fr:=List.filter_eq_self.2 fun e he=>by simp[h1 e he]
 simp[this]
theorem cJ.sub{F:Nat->Prop}{g:Nat->Value}{st st':St}{a:Act}{w:World}(r:cJ E F g st a w)(hf:∀ e,e∈st'.fr->e∈st.fr)(hh:∀ e,e∈st'.hp->e∈st.hp):cJ E F g st' a w:=
 ⟨r.nt,r.df,fun t x hx=>r.fr t x (hf _ hx),⟨r.w.hp.sub hh,r.w.f0,r.w.f1,r.w.ext,r.w.names,r.w.b0⟩⟩
theorem Bv{l:List Nat}{d:Nat}(h:∀ k,k∈l->k≠d):sL l [d]=true:=by
 unfold sL;rw[dO];intro k hk;cases hb:inN k [d] with
 | false=>rfl
 | true=>exact absurd (cE.1 (dC.1 hb)) (h k hk)
theorem Lo{l:List PV}(h:PV.names.go l=[]):Rz l=none:=by
 induction l with
 | nil=>rfl
 | cons x l ih=>simp only[PV.names.go,List.append_eq_nil_iff]at h;cases x <;> first | (simp[PV.names]at h; done) | (simp only[Rz]; exact ih h.2)
theorem xN(h:p.pure=true):Cz p=none:=by
 cases p <;> first | rfl | (simp[PV.pure,PV.names]at h) | skip
 rename_i l;refine Lo ?_;have h:(match PV.names.go l with | []=>true | _=>false)=true:=h
 split at h
 ·assumption
 ·cases h
theorem zF{l:List (Nat×α)}{x:Nat×α}(h:x∈del o l):x∈l:=by obtain⟨k,y⟩:=x;exact(bB.1 h).1
theorem aHS{k:Option Nat}{l:Hp}{x:Nat×aY}(h:x∈del o (Fh k l)):x∈l:=by
 have h1:=zF h;cases k with
 | none=>exact h1
 | some k=>exact zF h1
theorem Rel.fzRow{d:Nat}{f:Nat->List T}(hN:I.N=E.N)(hd:pE d I.N=true)(h1:∀ x,x∈fr->x.2.mentions d=false)(h2:∀ x,x∈hp->Nat.beq x.1 d=false/\x.2.mentions d=false){a:Act}{w:World}
  (r:Rel E ⟨(d,.own d)::fr,(d,.arr e s n f)::hp⟩ a w):Rel E ⟨(d,.t (.sl n f))::fr,(d,.arr e s 0 f)::hp⟩ a w:=by
 obtain⟨F,g,r⟩:=r;have hob:=r.w.hp.obj d (.arr e s n f) dI;have hrd:Rd (fun b=>F b\/blk (g d)=some b) w (.sl n f) (g d):=Ae hob (fun b hb=>.inl hb) (fun b hb=>.inr hb) rfl;have hne:∀ x,x∈hp->x.1≠d:=fun x hx e=>by have:=(h2 x hx).1; rw[e,lY]at this; cases this
 have hfoot:∀ k y b,(k,y)∈hp->bD (upd g d (.slice none 0 0)) w k y b->bD g w k y b:=fun k y b hy hb=>
  hb.mono (bQ g _ (hne _ hy)) (fun q hq=>bQ g _ (aY.not_mentions (h2 _ hy).2 q hq)) (fun _ _=>rfl)
 have hno:∀ b,¬ bD (upd g d (.slice none 0 0)) w d (.arr e s 0 f) b:=fun b hb=>by have hb:=hb.toBlk rfl; rw[bL]at hb; simp[blk]at hb
 refine⟨fun b=>F b\/blk (g d)=some b,upd g d (.slice none 0 0),r.nt,r.df.mono (fun _ h=>⟨.inl h,rfl⟩),fun t x hx=>?_,⟨⟨fun k y hy=>?_,fun k y b hy hb=>?_,fun k y k' y' b hy hy' hkk hb hb'=>?_⟩,fun b hb=>.inl (r.w.f0 b hb),fun b hb=>?_,r.w.ext,fun k hk=>?_,r.w.b0⟩⟩
 ·rcases aW.1 hx with hx | hx
  ·cases hx;have:=r.fr d (.own d) dI;generalize a.tmps.getD d undef=u at this;have he:u=g d:=by cases this with | own hg=>exact hg.symm
   rw[he];exact .t hrd
  ·exact(r.fr t x (cU _ hx)).mono (fun b hb=>⟨.inl hb,rfl⟩) (fun q hq=>bQ g _ (PV.not_mentions (h1 _ hx) q hq))
 ·rcases aW.1 hy with hy | hy
  ·cases hy; exact .inl ⟨bL ..,rfl⟩
  ·exact(r.w.hp.obj k y (cU _ hy)).mono (fun b hb=>⟨.inl hb,rfl⟩) (bQ g _ (hne _ hy)) (fun q hq=>bQ g _ (aY.not_mentions (h2 _ hy).2 q hq)) (fun _ _=>rfl)
 ·rcases aW.1 hy with hy | hy
  ·cases hy; exact absurd hb (hno b)
  ·have hb:=hfoot k y b hy hb;have:=r.w.hp.own k y b (cU _ hy) hb;refine⟨?_,this.2⟩;rintro (h | h)
   ·exact this.1 h
   ·exact r.w.hp.sep k y d _ b (cU _ hy) dI (hne _ hy) hb (.self h)
 ·rcases aW.1 hy with hy | hy
  ·cases hy; exact absurd hb (hno b)
  ·rcases aW.1 hy' with hy' | hy'
   ·cases hy'; exact absurd hb' (hno b)
   ·exact r.w.hp.sep k y k' y' b (cU _ hy) (cU _ hy') hkk (hfoot k y b hy hb) (hfoot k' y' b hy' hb')
 ·rcases hb with hb | hb
  ·exact r.w.f1 b hb
  ·have:=(r.w.hp.own d _ b dI (.self hb)).2;exact⟨hob.block hb,this.elim (fun h=>.inr (.inl h)) (fun h=>.inr (.inr h))⟩
 ·rw[bQ g _ (fun e:k=d=>fI hd (hN▸e▸hk))];exact r.w.names k hk
theorem Eo(hG:fE P E I){ops:List Oper}{o:Oper}{S st:St}{ca:Option (Nat×List PV×PV×Hp×Option (Nat×aY))}(hca:∀ k args r Hs ch,ca=some (k,args,r,Hs,ch)->yM P k args r Hs ch)(hfr:∀ e,e∈st.fr->e∈S.fr)
  (hhp:∀ e,e∈st.hp->e∈S.hp){v:Option PV}{md:Option (Nat×aY×Option Nat)}{Cs:List Prop}{as:List PV×Option Hp}(huq:∀ k x y,(k,x)∈S.hp->(k,y)∈S.hp->x=y)(h:Jt I ops ca o st=some (v,md,Cs,as,fs))(hC:All Cs)(hfs:∀ f,f∈fs->∀ i,f i=true)
  (has:∀ k args r Hs ch,ca=some (k,args,r,Hs,ch)->cP ops o st=some true->as=(args,some Hs))(hclean:∀ d,iX o=some d->(∀ e,e∈S.fr->e.2.mentions d=false)/\∀ e,e∈S.hp->Nat.beq e.1 d=false/\e.2.mentions d=false){a:Act}{w:World}(r:Rel E S a w)
  {K:Act->World->Prop}(hk:∀ a' w',Rel E (lK S o.dst v md) a' w'->K a' w'):
  if Region.wanted o (yielded ops.toArray a.tmps) then o.wp P a w K Q' else K (a.put o.dst undef) w:=by
 obtain⟨F,g,r⟩:=r;have ri:=r.sub hfr hhp;unfold Jt at h;split at h
 ·cases h
 ·
  rename_i hw;rw[aF (by rw[fR (ops:=ops.toArray) ri (by simpa using hw)]; simp)];split at h
  ·rename_i d hd;split at h
   ·rename_i hlt;cases h;refine hk _ _ ?_;rw[hd];exact⟨F,g,r.put (by rw[hG.nt]; simpa[fD] using hlt) (.tup rfl (fun j x v hx=>by simp at hx))⟩
   ·cases h
  ·rename_i hd;cases h;refine hk _ _ ?_;rw[hd];exact⟨F,g,r⟩
 ·rename_i hw;have hwt:=fR (ops:=ops.toArray) ri (by simpa using hw);split at h
  ·
   rename_i k args res Hs ch;have hok:=hca _ _ _ _ _ rfl;have has':=has _ _ _ _ _ rfl hw;split at h
   ·rename_i c d hop hd;split at h
    ·rename_i f hcal;split at h
     ·rename_i k' nf caps as' hf hargs hnt;split at h
      ·rename_i hkk hkl hno;have hkk:=cH hkk;subst hkk;cases h;injection has' with has1 has2;subst has1;cases hok with
       | bI hk' _=>exact(Vj hkl hk').elim
       | @new _ d' e s n f hr hH hch hcc bps hb1 hb2=>
        subst hr hH hch;simp only[Cz,cM]at hno;obtain⟨hno1,hno2⟩:=hno;have hno1:=cH hno1;subst hno1;obtain⟨hcl1,hcl2⟩:=hclean _ (by unfold iX; rw[hop,hd]; obtain⟨cc,ca,ct⟩:=c; simp only at hcal; subst hcal; rfl);have r2:Rel E ⟨st.fr++S.fr,S.hp⟩ a w:=⟨F,g,r.sub (fun e he=>by
         rcases dZ.1 he with he | he
         ·exact hfr e he
         ·exact he) (fun e he=>he)⟩
        refine uA hG [] [] [d'] (bps:=bps) hop hcal hd (mQ hw) hnt (vQ hf) (lR hargs) hcc (hb1 _) rfl ?_ hb2 r2 (fun r' H' hr=>?_)
        ·simp only[iW,gN,cM,dO];refine⟨⟨fun e he=>?_,fun e he=>?_⟩,?_⟩
         ·have:=hcl1 e (by rcases dZ.1 he with he | he
                           ·exact hfr e he
                           ·exact he)
          exact Bv (PV.not_mentions this)
         ·obtain⟨h1,h2⟩:=hcl2 e (tD.1 he).1;refine⟨?_,Bv (aY.not_mentions h2)⟩;rw[lH];cases hb:inN e.1 [d'] with
          | false=>rfl
          | true=>rw[cE.1 (dC.1 hb),lY]at h1; cases h1
         ·exact Bv fun k hk e=>fI hno2 (e▸hk)
        ·unfold pV at hr;obtain⟨rfl,rfl⟩:=hr;refine⟨by simp[jT,Vm,PV.names,aY.names,inN],fun a' w' r'=>hk a' w' ?_⟩;refine r'.sub (fun e he=>?_) (fun e he=>?_)
         ·simp only[lK,hd]at he;simp only[St.put];rcases aW.1 he with rfl | he
          ·exact dI ..
          ·refine cU _ ?_;obtain⟨k,y⟩:=e;obtain⟨h1,h2⟩:=bB.1 he;exact bB.2 ⟨pM _ h1,h2⟩
         ·simp only[lK,mdC,Fh]at he;simp only[St.put,dZ];rcases aW.1 he with rfl | he
          ·exact .inl (cE.2 rfl)
          ·obtain⟨k,y⟩:=e;obtain⟨h1,h2⟩:=bB.1 he;exact .inr (tD.2 ⟨h1,by simp[inN]⟩)
       | @newH _ d' y hr hch hcc bps N hb1 hb2 hb3=>
        subst hch;rw[hr]at hno;simp only[cM]at hno;obtain⟨hno1,hno2⟩:=hno;have hno1:=cH hno1;subst hno1;obtain⟨hcl1,hcl2⟩:=hclean _ (by unfold iX; rw[hop,hd]; obtain⟨cc,ca,ct⟩:=c; simp only at hcal; subst hcal; rfl);have hin:∀ e,e∈Hs->e∈st.hp:=fun e he=>(jS has2 e he).1;have r2:Rel E ⟨st.fr++S.fr,Hs++S.hp⟩ a w:=⟨F,g,r.sub (fun e he=>by
         rcases dZ.1 he with he | he
         ·exact hfr e he
         ·exact he) (fun e he=>by
         rcases dZ.1 he with he | he
         ·exact hhp e (hin e he)
         ·exact he)⟩
        have hlk:∀ e,e∈Hs->bI st.hp e.1=some e.2:=by
         intro e he;have hm:=hin e he;obtain⟨x,hx⟩:∃ x,bI st.hp e.1=some x:=by
          cases hl:bI st.hp e.1 with
          | some x=>exact⟨x,rfl⟩
          | none=>exact absurd hm (Dn hl e.2)
         rw[hx,huq e.1 x e.2 (hhp _ (aT hx)) (hhp _ hm)]
        refine uA hG (dF Hs) N [d'] (bps:=bps) hop hcal hd (mQ hw) hnt (vQ hf) (lR hargs) hcc (hb1 _) (vY has2 (fun e he=>he) hlk) ?_ hb2 r2 (fun r' H' hr=>?_)
        ·simp only[iW,cM,dO];refine⟨⟨fun e he=>?_,fun e he=>?_⟩,?_⟩
         ·have:=hcl1 e (by rcases dZ.1 he with he | he
                           ·exact hfr e he
                           ·exact he)
          exact Bv (PV.not_mentions this)
         ·have he2:e∈S.hp:=by
           rcases dZ.1 (dD he).1 with h | h
           ·exact hhp _ (hin _ h)
           ·exact h
          obtain⟨h1,h2⟩:=hcl2 e he2;refine⟨?_,Bv (aY.not_mentions h2)⟩;rw[lH];cases hb:inN e.1 [d'] with
          | false=>rfl
          | true=>rw[cE.1 (dC.1 hb),lY]at h1; cases h1
         ·exact Bv fun k hk e=>fI hno2 (e▸hk)
        ·unfold pV at hr;obtain⟨rfl,rfl⟩:=hr;refine⟨hb3,fun a' w' r'=>hk a' w' ?_⟩;refine r'.sub (fun e he=>?_) (fun e he=>?_)
         ·simp only[lK,hd]at he;simp only[St.put];rcases aW.1 he with rfl | he
          ·exact dI ..
          ·refine cU _ ?_;obtain⟨k,y⟩:=e;obtain⟨h1,h2⟩:=bB.1 he;exact bB.2 ⟨pM _ h1,h2⟩
         ·simp only[lK,mdC,Fh]at he;simp only[St.put,dZ];rcases aW.1 he with rfl | he
          ·exact .inl (dI ..)
          ·obtain⟨k,y⟩:=e;obtain⟨h1,h2⟩:=bB.1 he;by_cases hke:k∈dF Hs
           ·obtain⟨z,hz⟩:=rB.1 hke;have:=huq k z y (hhp _ (hin _ hz)) h1;subst this;exact .inl (cU _ hz)
           ·refine .inr (tD.2 ⟨pM _ h1,?_⟩);cases hb:inN k (dF Hs) with
            | false=>rfl
            | true=>exact absurd (dC.1 hb) hke
       | call _ _ hok=>
       rcases hok.h with⟨-,hch,bps,hb1,hb2⟩ | ⟨bps,N,hb1,hb2,hb3,hb4⟩
       ·have r2:Rel E ⟨st.fr++S.fr,S.hp⟩ a w:=⟨F,g,r.sub (fun e he=>by
         rcases dZ.1 he with he | he
         ·exact hfr e he
         ·exact he) (fun e he=>he)⟩
        refine Sx hG [] (bps:=bps) hop hcal hd (mQ hw) hnt (vQ hf) (lR hargs) hok.c (hb1 _) hb2 r2 (fun r' H' hr=>?_);unfold Ret at hr;subst hr;refine⟨hok.p,fun a' w' r'=>hk a' w' ?_⟩;subst hch;refine r'.sub (fun e he=>?_) (fun e he=>he);simp only[lK,hd]at he;simp only[St.put];rcases aW.1 he with rfl | he
        ·exact dI ..
        ·refine cU _ ?_;obtain⟨k,y⟩:=e;obtain⟨h1,h2⟩:=bB.1 he;exact bB.2 ⟨pM _ h1,h2⟩
       ·have hin:∀ e,e∈Hs->e∈st.hp:=fun e he=>(jS has2 e he).1;have r2:Rel E ⟨st.fr++S.fr,Hs++S.hp⟩ a w:=⟨F,g,r.sub (fun e he=>by
         rcases dZ.1 he with he | he
         ·exact hfr e he
         ·exact he) (fun e he=>by
         rcases dZ.1 he with he | he
         ·exact hhp e (hin e he)
         ·exact he)⟩
        have hlk:∀ e,e∈Hs->bI st.hp e.1=some e.2:=by
         intro e he;have hm:=hin e he;obtain⟨x,hx⟩:∃ x,bI st.hp e.1=some x:=by
          cases hl:bI st.hp e.1 with
          | some x=>exact⟨x,rfl⟩
          | none=>exact absurd hm (Dn hl e.2)
         rw[hx,huq e.1 x e.2 (hhp _ (aT hx)) (hhp _ hm)]
        refine uA hG (dF Hs) N [] (bps:=bps) hop hcal hd (mQ hw) hnt (vQ hf) (lR hargs) hok.c (hb1 _) (vY has2 (fun e he=>he) hlk) (by simp[iW,sL,inN]) hb2 r2 (fun r' H' hr=>?_);unfold pV at hr;obtain⟨rfl,rfl⟩:=hr;refine⟨by simpa using hb3,fun a' w' r'=>hk a' w' ?_⟩;refine r'.sub (fun e he=>?_) (fun e he=>?_)
        ·simp only[lK,hd]at he;simp only[St.put];rcases aW.1 he with rfl | he
         ·exact dI ..
         ·refine cU _ ?_;obtain⟨k,y⟩:=e;obtain⟨h1,h2⟩:=bB.1 he;exact bB.2 ⟨pM _ h1,h2⟩
        ·simp only[St.put,dZ];cases hch:ch with
         | none=>
          rw[hch]at he;simp only[lK,mdC]at he;by_cases hke:e.1∈dF Hs
          ·obtain⟨x,hx⟩:=rB.1 hke;have:=huq e.1 x e.2 (hhp _ (hin _ hx)) he;subst this;exact .inl hx
          ·refine .inr (tD.2 ⟨pM _ he,?_⟩);cases hb:inN e.1 (dF Hs) with
           | false=>rfl
           | true=>exact absurd (dC.1 hb) hke
         | some c=>
          have hk1:=hb4 c hch;rw[hch]at he;obtain⟨o',x'⟩:=c;simp only[lK,mdC,Fh]at he;rcases aW.1 he with rfl | he
          ·obtain⟨z,hz⟩:=rB.1 hk1;refine .inl (dW.2 ⟨_,hz,?_⟩);simp only[lY]
          ·obtain⟨k,y⟩:=e;obtain⟨h1,h2⟩:=bB.1 he;by_cases hke:k∈dF Hs
           ·obtain⟨z,hz⟩:=rB.1 hke;have:=huq k z y (hhp _ (hin _ hz)) h1;subst this;refine .inl (dW.2 ⟨_,hz,?_⟩);have hb:Nat.beq k o'=false:=by
             cases hb:Nat.beq k o' with
             | false=>rfl
             | true=>exact absurd (cH hb) h2
            simp only[hb]
           ·refine .inr (tD.2 ⟨pM _ h1,?_⟩);cases hb:inN k (dF Hs) with
            | false=>rfl
            | true=>exact absurd (dC.1 hb) hke
      ·cases h
     ·cases h
    ·cases h
   ·
    rename_i t x kx d hop hd;split at h
    ·rename_i ob kp hx hkx hnt hkt;have hkt:=cH hkt;subst hkt;have hl:=hok.l (by cases hb:Nat.blt (lkN+t) lkN with | false=>rfl | true=>rw[fD]at hb; omega)
     rw[Nat.add_sub_cancel_left]at hl;cases h;injection has' with has1 has2;obtain⟨z,h1,h2⟩:=hl F g w _ _ _ _ has1.symm (bV ri hx) (bV ri hkx) (fun e he=>r.w.hp.obj _ _ (hhp _ (jS has2 e he).1));rw[aA hwt];unfold Oper.wp;have hex:(execOp a.eval o).run P w = .ok (.value z) w:=by unfold execOp; simp[hop,h1]
     rw[hex];refine hk _ _ ?_;rw[hd];exact⟨F,g,r.put (by rw[hG.nt]; simpa[fD] using hnt) h2⟩
    ·cases h
   ·cases h
  ·split at h
   ·
    rename_i e d hop hd;split at h
    ·rename_i i hi hnt hN;cases h;have he:S.erase d=some S:=kJ (hclean d (by unfold iX; rw[hop,hd])).1 (hclean d (by unfold iX; rw[hop,hd])).2;obtain⟨v,w',h1,h2⟩:=Is hG.ti hG.N hG.nt r hi (st':=_) (by unfold fT; rw[hnt,hN,he]);rw[aA hwt];unfold Oper.wp;have hex:(execOp a.eval o).run P w = .ok (.value v) w':=by unfold execOp; simp[hop,h1]
     rw[hex];simp only[Oper.upon];refine hk _ _ ?_;rw[hd];refine h2.sub (fun e he=>he) (fun e he=>?_);simp only[lK]at he;rcases aW.1 he with rfl | he
     ·exact dI ..
     ·exact cU _ (bB.1 he).1
    ·cases h
   ·
    rename_i t x y hop hd;split at h
    ·rename_i i b off q hi hx hy;split at h
     ·rename_i l hl;split at h
      ·rename_i c1 c2 c3;cases h;have hmem:(b,aY.box l)∈S.hp:=hhp _ (aT hl);have r1:cJ E F g ⟨S.fr,(b,.box l)::S.hp⟩ a w:=r.sub (fun e he=>he) (fun e he=>by
        rcases aW.1 he with rfl | he
        ·exact hmem
        ·exact he)
       obtain⟨-,w',h1,h2⟩:=rO (P:=P) r1 (hG.ti _ _ hi) (d:=none) (p:=.ptr b off) (x:=q) (C:=True)
        (by unfold sS; simp only[bI,lY,c1,c2,c3]; rfl) trivial (bV ri hx) (bV ri hy)
       rw[aA hwt];unfold Oper.wp;have hex:(execOp a.eval o).run P w = .ok .skip w':=by unfold execOp; simp[hop,h1]
       rw[hex];simp only[Oper.upon];refine hk _ _ ?_;rw[hd];refine⟨F,g,h2.sub (fun e he=>he) (fun e he=>?_)⟩;simp only[lK]at he;rcases aW.1 he with rfl | he
       ·exact dI ..
       ·refine cU _ ?_;obtain⟨k,y⟩:=e;obtain⟨h3,h4⟩:=bB.1 he;exact bB.2 ⟨cU _ h3,h4⟩
      ·cases h
     ·cases h
    ·rename_i i b ss kk off q hi hx hy;split at h
     ·rename_i e s' n f c hl hc;split at h
      ·rename_i c1 c2 c3 c4;cases h;have hmem:(b,aY.arr e s' n f)∈S.hp:=hhp _ (aT hl);have r1:cJ E F g ⟨S.fr,(b,.arr e s' n f)::S.hp⟩ a w:=r.sub (fun e he=>he) (fun e he=>by
        rcases aW.1 he with rfl | he
        ·exact hmem
        ·exact he)
       obtain⟨-,w',h1,h2⟩:=rO (P:=P) r1 (hG.ti _ _ hi) (d:=none) (p:=.aptr b ss kk off) (x:=q) (C:=kk<n)
        (by unfold sS; simp only[bI,lY,hc,c1,c2,c3,c4]; rfl) hC (bV ri hx) (bV ri hy)
       rw[aA hwt];unfold Oper.wp;have hex:(execOp a.eval o).run P w = .ok .skip w':=by unfold execOp; simp[hop,h1]
       rw[hex];simp only[Oper.upon];refine hk _ _ ?_;rw[hd];refine⟨F,g,h2.sub (fun e he=>he) (fun e he=>?_)⟩;simp only[lK]at he;rcases aW.1 he with rfl | he
       ·exact dI ..
       ·refine cU _ ?_;obtain⟨k,y⟩:=e;obtain⟨h3,h4⟩:=bB.1 he;exact bB.2 ⟨cU _ h3,h4⟩
      ·cases h
     ·rename_i e s' n f ov hl;split at h
      ·rename_i f' ov' c1 c2 c3 c4 c5;cases h;have hmem:(b,aY.arm e s' n f ov)∈S.hp:=hhp _ (aT hl);have r1:cJ E F g ⟨S.fr,(b,.arm e s' n f ov)::S.hp⟩ a w:=r.sub (fun e he=>he) (fun e he=>by
        rcases aW.1 he with rfl | he
        ·exact hmem
        ·exact he)
       obtain⟨-,w',h1,h2⟩:=rO (P:=P) r1 (hG.ti _ _ hi) (d:=none) (p:=.aptr b ss kk off) (x:=q) (C:=kk<n)
        (by unfold sS; simp only[bI,lY,c1,c2,c3,c4,c5]; rfl) hC (bV ri hx) (bV ri hy)
       rw[aA hwt];unfold Oper.wp;have hex:(execOp a.eval o).run P w = .ok .skip w':=by unfold execOp; simp[hop,h1]
       rw[hex];simp only[Oper.upon];refine hk _ _ ?_;rw[hd];refine⟨F,g,h2.sub (fun e he=>he) (fun e he=>?_)⟩;simp only[lK]at he;rcases aW.1 he with rfl | he
       ·exact dI ..
       ·refine cU _ ?_;obtain⟨k,y⟩:=e;obtain⟨h3,h4⟩:=bB.1 he;exact bB.2 ⟨cU _ h3,h4⟩
      ·cases h
     ·cases h
    ·cases h
   ·
    rename_i t d hop hd;split at h
    case h_2=>cases h
    rename_i i hi;split at h
    case h_2=>cases h
    rename_i e hu;split at h
    case h_2=>cases h
    rename_i j hj;split at h
    case h_2=>cases h
    rename_i c1 c2 c3 c4;cases h;have hte:=(hG.ti _ _ hi).und;rw[hu]at hte;obtain⟨k1,k2⟩:=hclean d (by unfold iX; rw[hop,hd]);have he:S.erase d=some S:=kJ k1 k2;obtain⟨u,w',h1,h2⟩:=nD (P:=P) (d:=d) (len:=0) (parts:=#[]) (ps:=[]) (c:=[]) (ts:=[]) (st':=_) hG.N hG.nt r hte (hG.ti _ _ hj) rfl (by omega) (fH c1) (cH c2)
     (by simp[lV,gZ]) ⟨rfl,fun j p x hp=>by simp at hp⟩ (by simp) (by unfold fT; rw[c3,c4,he])
    rw[aA hwt];unfold Oper.wp;have hex:(execOp a.eval o).run P w = .ok (.value u) w':=by simp at h1; unfold execOp; simp[hop,h1]
    rw[hex];simp only[Oper.upon];refine hk _ _ ?_;rw[hd];refine h2.sub (fun e he=>he) (fun e he=>?_);simp only[lK,Fh]at he;rcases aW.1 he with rfl | he
    ·exact dI ..
    ·exact cU _ (bB.1 he).1
   ·
    rename_i t len parts d _ hop hd;split at h
    case h_2=>cases h
    rename_i i ps hi hps;split at h
    case h_2=>cases h
    rename_i e hu;split at h
    case h_2=>cases h
    rename_i j hj;split at h
    case h_2=>cases h
    rename_i c c1 c2 c3 hc;split at h
    case h_3=>cases h
    case h_2=>
     rename_i hts c4 c5;split at h
     case h_2=>cases h
     rename_i cs ov c6 c7 c8 c9;cases h;have hte:=(hG.ti _ _ hi).und;rw[hu]at hte;obtain⟨k1,k2⟩:=hclean d (by unfold iX; rw[hop,hd]);have r2:cJ E F g ⟨st.fr++S.fr,S.hp⟩ a w:=r.sub (fun e he=>by
      rcases dZ.1 he with he | he
      ·exact hfr e he
      ·exact he) (fun e he=>he)
     have he:St.erase d ⟨st.fr++S.fr,S.hp⟩=some ⟨st.fr++S.fr,S.hp⟩:=kJ (fun e he=>k1 e (by
      rcases dZ.1 he with he | he
      ·exact hfr e he
      ·exact he)) k2
     obtain⟨u,w',h1,h2⟩:=pQ (P:=P) (d:=d) (st':=_) hG.N hG.nt r2 hte (hG.ti _ _ hj) (cH c6) (qT hps) (fH c1) (fH c2) (cH c3) hc c7 c8 (cH c4)
      (by unfold fT; rw[c5,c9,he])
     rw[aA hwt];unfold Oper.wp;have hex:(execOp a.eval o).run P w = .ok (.value u) w':=by unfold execOp; simp[hop,h1]
     rw[hex];simp only[Oper.upon];refine hk _ _ ?_;rw[hd];refine h2.sub (fun e he=>?_) (fun e he=>?_)
     ·simp only[lK]at he;rcases aW.1 he with rfl | he
      ·exact dI ..
      ·obtain⟨k,y⟩:=e;obtain⟨h3,h4⟩:=bB.1 he;exact cU _ (bB.2 ⟨pM _ h3,h4⟩)
     ·simp only[lK,Fh]at he;rcases aW.1 he with rfl | he
      ·exact dI ..
      ·exact cU _ (bB.1 he).1
    rename_i ts hts c4 c5;cases h;have hte:=(hG.ti _ _ hi).und;rw[hu]at hte;have r2:cJ E F g ⟨st.fr++S.fr,S.hp⟩ a w:=r.sub (fun e he=>by
     rcases dZ.1 he with he | he
     ·exact hfr e he
     ·exact he) (fun e he=>he)
    obtain⟨u,w',F',h1,h2⟩:=pL (P:=P) (d:=d) hG.nt r2 hte (hG.ti _ _ hj) (qT hps) (fH c1) (fH c2) (cH c3) hc (.ofZ hts) (cH c4) (by simpa[fD] using c5);rw[aA hwt];unfold Oper.wp;have hex:(execOp a.eval o).run P w = .ok (.value u) w':=by unfold execOp; simp[hop,h1]
    rw[hex];simp only[Oper.upon];refine hk _ _ ?_;rw[hd];refine⟨F',g,h2.sub (fun e he=>?_) (fun e he=>he)⟩;simp only[lK]at he;simp only[St.put];rcases aW.1 he with rfl | he
    ·exact dI ..
    ·refine cU _ ?_;obtain⟨k,y⟩:=e;obtain⟨h3,h4⟩:=bB.1 he;exact bB.2 ⟨pM _ h3,h4⟩
   all_goals try (cases h; done)
   ·
    rename_i args ats d hop hd;obtain⟨k1,k2⟩:=hclean d (by unfold iX; rw[hop,hd]);unfold aGI at h;split at h
    case h_2=>cases h
    rename_i s x t t' ha ht;have ha':args=#[s,x]:=by rw[<-mU (xs:=args),ha]
    have ht':ats=#[t,t']:=by rw[<-mU (xs:=ats),ht]
    subst ha'; subst ht';split at h
    case h_2=>cases h
    rename_i i p q c1 hi hp hq;have c1:=cH c1;subst c1;split at h
    case h_2=>cases h
    rename_i e m f2 hu hq';have hte:=(hG.ti _ _ hi).und;rw[hu]at hte;split at h
    case h_2=>cases h
    rename_i j hj;split at h
    case h_2=>cases h
    rename_i c2 c3 c4;simp only[cM]at c2;obtain⟨c2,c5,c6,c7⟩:=c2;have c2:=fH c2;have c5:=fH c5;have c6:=cH c6;have src:(∀ f,f∈(Ba ops x m j.size f2).2->∀ i,f i=true)->∃ news,Src F w j.size m f2 (a.eval x) news:=by
     intro hfs;refine vC ri (bV ri hq) hq' c2 rfl fun i hi=>?_;unfold Ba at c7 hfs;split at c7
     ·rename_i n hn;simp only[cM,dO,sC]at c7;exact c7.2 i (by rw[cH c7.1]; exact hi)
     ·rename_i hn;rw[hn]at hfs;exact hfs (fun i=>jR j.size (f2 i)) (by simp) i
    have fin:∀ (pv:aY) (ko:Option Nat) (u:Value) (w':World) (S':St),(Builtin.append_ #[t,t] o.type #[a.eval s,a.eval x]).run P w = .ok u w'->Rel E S' (a.put (some d) u) w' ->
      (∀ e,e∈(d,PV.own d)::del d S.fr->e∈S'.fr)->(∀ e,e∈(d,pv)::del d (Fh ko S.hp)->e∈S'.hp)->v=some (.own d)->md=some (d,pv,ko) ->
      if Region.wanted o (yielded ops.toArray a.tmps) then o.wp P a w K Q' else K (a.put o.dst undef) w:=by
     intro pv ko u w' S' h1 h2 h3 h4 hv hm;subst hv hm;rw[aA hwt];unfold Oper.wp;have hex:(execOp a.eval o).run P w = .ok (.value u) w':=by unfold execOp; simp[hop,resolve,invoke,builtin,h1]
     rw[hex];simp only[Oper.upon];refine hk _ _ ?_;rw[hd];exact h2.sub (fun e he=>h3 e he) (fun e he=>h4 e he)
    have hpv:=bV ri hp;split at h
    case h_3=>cases h
    ·
     cases h;obtain⟨news,hs⟩:=src hfs;have he:S.erase d=some S:=kJ k1 k2;obtain⟨v0,hv0⟩:∃ u,a.eval s=u:=⟨_,rfl⟩;rw[hv0]at hpv;cases hpv with
     | nil=>
      obtain⟨u,w',h1,h2⟩:=nI (P:=P) hG.N hG.nt r hte (hG.ti _ _ hj) o.type c5 c6 hs (by have h:(0+m)*j.bytes<=140737488355328:=hC; simpa using h) (st':=_) (by unfold fT; rw[c3,c4,he]);refine fin _ none u w' _ (by rw[hv0]; exact h1) h2 (fun e he=>he) (fun e he=>?_) rfl rfl;rcases aW.1 he with rfl | he
      ·exact dI ..
      ·exact cU _ (bB.1 he).1
    ·rename_i o';split at h
     case h_2=>cases h
     rename_i e' s' n f1 hl;split at h
     case h_2=>cases h
     rename_i c8;simp only[cM]at c8;have c9:=cH c8.1;have c10:=cH c8.2;subst c9; subst c10;have r0:cJ E F g ⟨S.fr,(o',.arr e j.size n f1)::del o' S.hp⟩ a w:=r.sub (fun e he=>he) (fun e he=>by
      rcases aW.1 he with rfl | he
      ·exact hhp _ (aT hl)
      ·exact(bB.1 he).1)
     have less:Jp o' ⟨S.fr,(o',.arr e j.size n f1)::del o' S.hp⟩ ⟨S.fr,del o' S.hp⟩:=⟨fun t y h=>h,fun t y h=>⟨y,cU _ h,(bB.1 h).2,fun _ _ _ h=>h,fun _ _ _ h=>h⟩⟩;have he:(⟨S.fr,del o' S.hp⟩:St).erase d=some ⟨S.fr,del o' S.hp⟩:=kJ k1 fun e he=>k2 e (by obtain⟨k,y⟩:=e; exact(bB.1 he).1);have run:∀ {f},f=oL n f1 f2->(∀ f,f∈(Ba ops x m j.size f2).2->∀ i,f i=true)->(n+m)*j.bytes<=140737488355328->∃ u w',(Builtin.append_ #[t,t] o.type #[a.eval s,a.eval x]).run P w = .ok u w'/\Rel E (({ fr:=S.fr,hp:=(d,.arr e j.size (n+m) f)::del o' S.hp }:St).put d (.own d)) (a.put (some d) u) w':=by rintro f rfl hfs hc;obtain⟨news,hs⟩:=src hfs;exact sA (P:=P) (n:=n) (f1:=f1) (f:=f2) hG.N hG.nt r0 hte (hG.ti _ _ hj) o.type c5 c6 hpv hs hc (by simp[bI]) less (by unfold fT; rw[c3,c4,he])
     have sb:∀ (pv:aY) e,e∈(d,pv)::del d (Fh (some o') S.hp)->e∈(d,pv)::del o' S.hp:=by
      intro pv e he;rcases aW.1 he with rfl | he
      ·exact dI ..
      ·exact cU _ (bB.1 he).1
     split at h
     ·split at h
      case h_2=>cases h
      rename_i c11;have c11:=cH c11;subst c11;cases h;obtain⟨u,w',h1,h2⟩:=run (f:=f2) (by funext i; simp[oL]) hfs (by have h:(0+m)*j.bytes<=140737488355328:=hC; exact h);rw[eZ]at h2;exact fin _ (some o') u w' _ h1 h2 (fun e he=>he) (sb _) rfl rfl
     ·cases h;obtain⟨u,w',h1,h2⟩:=run rfl hfs (by have h:(n+m)*j.bytes<=140737488355328:=hC; exact h);exact fin _ (some o') u w' _ h1 h2 (fun e he=>he) (sb _) rfl rfl
   rename_i hd _ _ _ _ _ _ _ _;split at h
   ·rename_i x C hp hlt;cases h;have hcc:C:=by
     cases hc:isC st o.op with
     | false=>exact aGX hp hc
     | true=>rw[hc]at hC; exact hC
    obtain⟨v,h1,h2⟩:=aBZ hG.ti ri o hp hcc;rw[aA hwt];unfold Oper.wp;rw[h1];refine hk _ _ ?_;rw[hd];exact⟨F,g,r.put (by rw[hG.nt]; simpa[fD] using hlt) h2⟩
   ·cases h
theorem aXH(hG:fE P E I){ops:List Oper}{o:Oper}{S st:St}{ca:Option (Nat×List PV×PV×Hp×Option (Nat×aY))}(hca:∀ k args r Hs ch,ca=some (k,args,r,Hs,ch)->Gq P k args r Hs ch)(hfr:∀ e,e∈st.fr->e∈S.fr)
  (hhp:∀ e,e∈st.hp->e∈S.hp){v:Option PV}{md:Option (Nat×aY×Option Nat)}{Cs:List Prop}{as:List PV×Option Hp}(huq:∀ k x y,(k,x)∈S.hp->(k,y)∈S.hp->x=y)(h:aCC I ops ca o st=some (v,md,Cs,as,fs))(hC:All Cs)(hfs:∀ f,f∈fs->∀ i,f i=true)
  (has:∀ k args r Hs ch,ca=some (k,args,r,Hs,ch)->cP ops o st=some true->as=(args,some Hs))(hclean:∀ d,iX o=some d->(∀ e,e∈S.fr->e.2.mentions d=false)/\∀ e,e∈S.hp->Nat.beq e.1 d=false/\e.2.mentions d=false){a:Act}{w:World}(r:Rel E S a w)
  {K:Act->World->Prop}(hk:∀ a' w',Rel E (lK S o.dst v md) a' w'->K a' w'):
  if Region.wanted o (yielded ops.toArray a.tmps) then o.wp P a w K Q' else K (a.put o.dst undef) w:=by
 unfold aCC at h;split at h
 ·rename_i k args res Hs ch;split at h
  ·rename_i hfz;unfold aQK at h;split at h
   ·rename_i d d1 d2 d3 e s n f k' C as0 fs0 hal hd he hwt;split at h
    ·rename_i b1 b2 b3 b4;have b1:=cH b1;have b2:=cH b2;have b3:=cH b3;subst b1 b2 b3;cases h;obtain⟨c1,c2⟩:=hclean _ hal;rcases hca _ _ _ _ _ rfl with⟨_,n',f',x,ha,hr,himp⟩ | hx
     ·have:=has _ _ _ _ _ rfl hwt;injection this with h1 h2;subst hr;rw[ha]at h1;cases h1;refine Eo hG (ca:=none) (fun _ _ _ _ _ h=>by cases h) hfr hhp huq he hC hfs (fun _ _ _ _ _ h=>by cases h) hclean r (fun a' w' r'=>hk a' w' ?_);rw[hd]at r' ⊢;simp only[lK]at r' ⊢;obtain⟨F,g,q⟩:=Rel.fzRow hG.N.symm b4 (fun x hx=>c1 x (zF hx)) (fun x hx=>c2 x (aHS hx)) r';exact⟨F,g,q.nt,q.df,fun t z hz=>by
       rcases aW.1 hz with hz | hz
       ·cases hz; exact himp _ _ _ _ (q.fr _ _ dI)
       ·exact q.fr _ _ (cU _ hz),q.w⟩
     ·have hfz':=cH hfz;subst hfz';cases hx with
      | call hk'=>exact absurd hk' (by decide)
      | new hk'=>exact absurd hk' (by decide)
      | newH hk'=>exact absurd hk' (by decide)
      | bI hk'=>exact absurd hk' (by decide)
    ·cases h
   ·cases h
  ·rename_i hfz;refine Eo hG (fun k' a' r' H' c' hc=>?_) hfr hhp huq h hC hfs has hclean r hk;rcases hca k' a' r' H' c' hc with⟨h1,_⟩ | h1
   ·cases hc; rw[hfz]at h1; cases h1
   ·exact h1
 ·exact Eo hG (ca:=none) (fun _ _ _ _ _ h=>by cases h) hfr hhp huq h hC hfs has hclean r hk
def Ox(ops:List Oper):List (List Nat):=ops.map jG
def aTO(l r:List Nat):List Nat:=match l with | []=>r | x::l=>match inN x r with | true=>aTO l r | false=>aTO l (x::r)
def Kb:List (List Nat)->List (List Nat)->List (List Nat)
 | [],acc=>acc
 | d::l,acc=>Kb l (acc++[aTO (d.flatMap fun j=>acc.getD j []) d])
def pT(p:Nat->Bool):Nat->List Oper->List LOp->Fr
 | _,[],_=>[]
 | i,_::os,[]=>pT p (i+1) os []
 | i,o::os,l::ls=>match p i,o.dst,l.val with
  | true,some d,some x=>(d,x)::pT p (i+1) os ls
  | _,_,_=>pT p (i+1) os ls
def Zs(lo:List LOp)(o j:Nat):Option aY:=match lo.getD j default with | ⟨_,some (o',c,_),_⟩=>(match Nat.beq o' o with | true=>some c | false=>none) | _=>none
def kW(lo:List LOp)(p:Nat->Bool)(o:Nat)(c:Option aY):List Nat->Option aY
 | []=>c
 | j::js=>match p j with
  | true=>kW lo p o (Zs lo o j) js
  | false=>kW lo p o c js
abbrev OL:=List (Nat×Bool×List Nat)
def ini(hp:Hp)(o:Nat)(new:Bool):Option aY:=match new with | true=>none | false=>bI hp o
def Bs(hp:Hp)(lo:List LOp)(p:Nat->Bool):OL->Hp
 | []=>[]
 | (o,new,js)::l=>match kW lo p o (ini hp o new) js with
  | some x=>(o,x)::Bs hp lo p l
  | none=>Bs hp lo p l
def wrB(p:Nat->Bool)(t:Nat):Nat->List Oper->Bool
 | _,[]=>false
 | i,o::os=>match (match o.dst with | some d=>Nat.beq d t&&p i | none=>false) with | true=>true | false=>wrB p t (i+1) os
theorem xZ{p:Nat->Bool}{t:Nat}:∀ {i:Nat} {os:List Oper},wrB p t i os=true↔∃ k o,os[k]? = some o/\o.dst=some t/\p (i+k)=true
 | i,[]=>by simp[wrB]
 | i,o::os=>by
  simp only[wrB];constructor
  ·intro h;split at h
   ·rename_i h1;split at h1
    ·rename_i d hd;simp only[cM]at h1;exact⟨0,o,rfl,by rw[hd,cH h1.1],by simpa using h1.2⟩
    ·cases h1
   ·obtain⟨k,o',h1,h2,h3⟩:=xZ.1 h;exact⟨k+1,o',by simpa using h1,h2,by rw[<-nY,Nat.add_right_comm]; exact h3⟩
  ·rintro⟨k,o',h1,h2,h3⟩;split
   ·rfl
   ·rename_i hn;cases k with
    | zero=>simp at h1; subst h1;rw[h2]at hn;simp only[lY,Cr]at hn;rw[tQ]at h3;rw[h3]at hn; cases hn
    | succ k=>exact xZ.2 ⟨k,o',by simpa using h1,h2,by rw[nY,Nat.add_comm 1 k]; exact h3⟩
def frP(p:Nat->Bool)(ops:List Oper)(fr0:Fr):Fr:=fr0.filter fun e=>!(wrB p e.1 0 ops)
theorem rG{p:Nat->Bool}{ops:List Oper}{fr0:Fr}{e:Nat×PV}:e∈frP p ops fr0↔e∈fr0/\∀ k o,ops[k]? = some o->o.dst=some e.1->p k=false:=by
 simp only[frP,tD,lH];refine and_congr_right fun _=>?_;constructor
 ·intro h k o h1 h2;cases hp:p k with
  | false=>rfl
  | true=>rw[xZ.2 ⟨k,o,h1,h2,by rw[eZ]; exact hp⟩]at h; cases h
 ·intro h;cases hw:wrB p e.1 0 ops with
  | false=>rfl
  | true=>obtain⟨k,o,h1,h2,h3⟩:=xZ.1 hw;rw[eZ]at h3;rw[h k o h1 h2]at h3; cases h3
def stP(st:St)(fr0:Fr)(ops:List Oper)(lo:List LOp)(ol:OL)(p:Nat->Bool):St:=⟨frP p ops fr0++pT p 0 ops lo,Bs st.hp lo p ol⟩
def knw(pre:List (List Nat))(i:Nat)(ol:OL):OL:=ol.filter fun e=>e.2.2.all fun j=>Nat.beq j i || inN j (pre.getD i []) || inN i (pre.getD j [])
def stI(st:St)(fr0:Fr)(ops:List Oper)(lo:List LOp)(ol:OL)(pre:List (List Nat))(i:Nat):St:=
 ⟨frP (fun j=>!((Nat.beq j i || inN i (pre.getD j [])) || Nat.ble pre.length j)) ops fr0++pT (fun j=>inN j (pre.getD i [])) 0 ops lo,Bs st.hp lo (fun j=>inN j (pre.getD i [])) (knw pre i ol)⟩
def aZE(I:Inf)(ops:List Oper)(calls:List (Nat×(Nat×List PV×PV×Hp×Option (Nat×aY))))(lits:List (Nat×(Bool×Bool)))(st:St)(fr0:Fr)(ol:OL)(pre:List (List Nat)):Nat->List Oper->List LOp->List LOp
 | _,[],lo=>lo
 | i,o::os,lo=>aZE I ops calls lits st fr0 ol pre (i+1) os (lo++[match aCC I ops (bI calls i) o (stI st fr0 ops lo ol pre i) with
  | some (v,md,_,_,fs)=>⟨match bI lits i with | some (_,b)=>some (.t (.bool b)) | none=>v,md,fs⟩
  | none=>⟨none,none,[]⟩])
def Zh(I:Inf)(ops:List Oper)(calls:List (Nat×(Nat×List PV×PV×Hp×Option (Nat×aY))))(st:St)(fr0:Fr)(lo:List LOp)(ol:OL)(pre:List (List Nat)):Nat->List Oper->List (Option Eff)
 | _,[]=>[]
 | i,o::os=>aCC I ops (bI calls i) o (stI st fr0 ops lo ol pre i)::Zh I ops calls st fr0 lo ol pre (i+1) os
def aSE(ops:List Oper)(calls:List (Nat×(Nat×List PV×PV×Hp×Option (Nat×aY))))(lits:List (Nat×(Bool×Bool)))(conds:List (Nat×List Prop))(st:St)(lo:List LOp)(i:Nat)(o:Oper):Option Eff:=
 some (match bI lits i with | some (b,_)=>some (.t (.bool b)) | none=>(lo.getD i default).val,(lo.getD i default).md,match bI conds i with | some l=>l | none=>[],
  match bI calls i,cP ops o st with | some (_,as,_,Hs,_),some true=>(as,some Hs) | _,_=>noA,(lo.getD i default).fs.map fun _ _=>true)
def Zf(ops:List Oper)(calls:List (Nat×(Nat×List PV×PV×Hp×Option (Nat×aY))))(lits:List (Nat×(Bool×Bool)))(conds:List (Nat×List Prop))(st:St)(fr0:Fr)(lo:List LOp)(ol:OL)(pre:List (List Nat)):Nat->List Oper->List (Option Eff)
 | _,[]=>[]
 | i,o::os=>aSE ops calls lits conds (stI st fr0 ops lo ol pre i) lo i o::Zf ops calls lits conds st fr0 lo ol pre (i+1) os
def Sd(d:Nat):List Nat->Bool
 | []=>true
 | k::l=>!(Nat.beq k d)&&Sd d l
def qB:List Nat->Bool
 | []=>true
 | k::l=>Sd k l&&qB l
def Zq(ops:List Oper):List Nat:=ops.filterMap (·.dst)
def zA(pre:List (List Nat))(i d:Nat):Nat->List LOp->Bool
 | _,[]=>true
 | j,l::ls=>(match l.val with | some x=>!(x.mentions d) || inN i (pre.getD j []) || Nat.beq j i | none=>true) &&
   (match l.md with | some (_,c,_)=>!(c.mentions d) || inN i (pre.getD j []) || Nat.beq j i | none=>true)&&zA pre i d (j+1) ls
def zM(hp:Hp)(d:Nat):OL->Bool
 | []=>true
 | (o,new,_)::l=>(match Nat.beq o d with | true=>new | false=>true)&&(match ini hp o new with | some c=>!(c.mentions d) | none=>true)&&zM hp d l
def yE(pre:List (List Nat))(st:St)(fr0:Fr)(lo:List LOp)(ol:OL):Nat->List Oper->Bool
 | _,[]=>true
 | i,o::os=>(match iX o with
   | some d=>zA pre i d 0 lo&&zM st.hp d ol&&fr0.all (fun e=>!(e.2.mentions d))&&ol.all (fun e=>!(Nat.beq e.1 d) || e.2.2.all fun j=>Nat.beq j i || inN i (pre.getD j []))
   | none=>true)&&yE pre st fr0 lo ol (i+1) os
def Sb(ol:OL):Nat->List LOp->Bool
 | _,[]=>true
 | i,l::ls=>(match l.md with
   | some (o,_,k)=>ol.any (fun e=>Nat.beq e.1 o&&inN i e.2.2)&&(match k with
    | none=>ol.all (fun e=>Nat.beq e.1 o || !(inN i e.2.2))
    | some k=>ol.all fun e=>Nat.beq e.1 o || (match Nat.beq e.1 k with | true=>inN i e.2.2 | false=>!(inN i e.2.2)))
   | none=>ol.all fun e=>!(inN i e.2.2))&&Sb ol (i+1) ls
def Fs(pre:List (List Nat)):List Nat->Bool
 | []=>true
 | j::js=>js.all (fun k=>inN j (pre.getD k []))&&Fs pre js
def aOT(ops:List Oper)(pre:List (List Nat)):Nat->List Oper->Bool
 | _,[]=>true
 | i,o::os=>(jG o).all (fun j=>Nat.blt j i)&&(pre.getD i []).all (fun k=>Nat.blt k i&&(inN k (jG o) || (jG o).any fun j=>inN k (pre.getD j [])))&&aOT ops pre (i+1) os
def aDC(o:Oper):Bool:=match o.guard,o.op with
 | none,.move _=>true
 | none,.assign _=>true
 | none,.extract _ _=>true
 | _,_=>false
def aFG(L:List Oper)(j:Nat):Bool:=(List.range L.length).all fun i=>Nat.ble i j || (match L[i]? with | some o=>(jG o).any fun k=>Nat.ble j k | none=>true)
def Jx(L:List Oper)(j:Nat):List Bool:=(List.range L.length).map fun k=>Nat.blt k j
def aKS(L:List Oper):List Oper->Nat->Bool
 | [],_=>true
 | o::t,j=>aDC o&&Region.free .any L.toArray (Jx L j).toArray j&&aKS L t (j+1)
def chT(L:List Oper):Nat->List Oper->Bool
 | _,[]=>true
 | j,o::t=>(Region.noSelect L.toArray&&aKS L (o::t) j) || (aFG L j&&chT L (j+1) t)
def tlB(L:List Oper)(pre:List (List Nat))(n:Nat):List Oper->Bool
 | []=>true
 | o::l=>((List.range n).all fun k=>inN k (jG o) || (jG o).any fun j=>inN k (pre.getD j []))&&(aFG L n&&chT L (n+1) l)
theorem Jb{L:List Oper}{j i:Nat}{o:Oper}(h:aFG L j=true)(hi:L[i]? = some o)(hji:j<i):∃ k,k∈jG o/\j<=k:=by
 have hL:i<L.length:=(eK.1 hi).1;have:=dO.1 h i (sC.2 hL);rw[hi]at this;simp only[mW,List.any_eq_true]at this;rcases this with h | ⟨k,h1,h2⟩
 ·have:=fH h; omega
 ·exact⟨k,h1,fH h2⟩
theorem Oper.wp_monoQ{P:Program}{o:Oper}{a:Act}{w:World}{K K':Act->World->Prop}{Q:Exit->Act->World->Prop}(h:∀ a w,K a w->K' a w)(hQ:∀ e a w,Q e a w->Q' e a w)
  (hh:o.wp P a w K Q):o.wp P a w K' Q':=by
 have hl:LetsOut Q->LetsOut Q':=fun⟨a,w,h⟩=>⟨a,w,hQ _ _ _ h⟩;unfold Oper.wp at *
 generalize (execOp a.eval o).run P w=r at *
 cases r with
 | ok n w'=>
  cases n <;> simp only[Oper.upon]at hh ⊢ <;>
   first
    | exact h _ _ hh
    | exact Calls.mono hh (fun e w'' he=>by cases e <;> first | exact h _ _ he | exact hQ _ _ _ he | exact hl he)
    | exact Rows.mono hh (fun _ _ he=>h _ _ he)
 | halt x w'=>cases x <;> simp only[Oper.upon]at hh ⊢ <;> first | exact hQ _ _ _ hh | exact hh
theorem mB{P:Program}{md:Region.Mode}{ops:Array Oper}{Q Q':Exit->Act->World->Prop}(hQ:∀ e a w,Q e a w->Q' e a w):∀ (fuel:Nat) (m:Array Bool) (a:Act) (w:World),wpAny P md ops Q fuel m a w->wpAny P md ops Q' fuel m a w
 | 0,_,_,_,h=>⟨h.1,hQ _ _ _ h.2⟩
 | fuel+1,m,a,w,h=>⟨fun h0=>hQ _ _ _ (h.1 h0),fun i hi=>by
   have h1:=h.2 i hi;unfold wpOp at h1 ⊢;split
   ·rename_i hn;rw[hn]at h1;exact mB hQ fuel _ _ _ h1
   ·rename_i o ho;rw[ho]at h1;simp only at h1;split
    ·rename_i hw;rw[aA hw]at h1;rcases h1 with h1 | ⟨h1,a',w',h2⟩
     ·exact .inl (Oper.wp_monoQ (fun a w h=>mB hQ fuel _ _ _ h) hQ h1)
     ·exact .inr ⟨h1,a',w',hQ _ _ _ h2⟩
    ·rename_i hw;rw[aF hw]at h1;exact mB hQ fuel _ _ _ h1⟩
theorem aOH{P:Program}{o:Oper}(hs:aDC o=true){a:Act}{w:World}{K:Act->World->Prop}{Q:Exit->Act->World->Prop}(hq:o.wp P a w K Q\/(o.asks P a w/\LetsOut Q)):
  ∃ v,(∀ w',(execOp a.eval o).run P w' = .ok (.value v) w')/\K (a.put o.dst v) w:=by
 have fin:∀ v,execOp a.eval o=pure (.value v)->∃ v,(∀ w',(execOp a.eval o).run P w' = .ok (.value v) w')/\K (a.put o.dst v) w:=fun v he=>by
  refine⟨v,fun w'=>by rw[he]; rfl,?_⟩;rcases hq with hq | ⟨hq,_⟩
  ·unfold Oper.wp at hq;rw[he]at hq; exact hq
  ·have h1:=hq.1;rw[he]at h1;exact absurd h1 (Array.not_mem_empty _)
 have bad:∀ msg,execOp a.eval o=stuck msg->False:=fun msg he=>by
  rcases hq with hq | ⟨hq,_⟩
  ·unfold Oper.wp at hq;rw[he]at hq; exact hq
  ·have h1:=hq.1;rw[he]at h1;exact absurd h1 (Array.not_mem_empty _)
 unfold aDC at hs;split at hs
 ·rename_i hop; exact fin _ (by unfold execOp; rw[hop])
 ·rename_i hop; exact fin _ (by unfold execOp; rw[hop])
 ·rename_i x i _ hop;have he:execOp a.eval o=(do pure (.value (<-Instr.extract (a.eval x) i))):=by unfold execOp; rw[hop]
  unfold Instr.extract at he;split at he
  ·split at he
   ·exact fin _ he
   ·exact(bad _ he).elim
  ·exact(bad _ he).elim
 ·cases hs
theorem aAH{o:Oper}(hs:aDC o=true):o.guard=none:=by unfold aDC at hs;split at hs <;> first | assumption | cases hs
def noP(Q:Exit->Act->World->Prop):Exit->Act->World->Prop:=fun e a w=>Q e a w/\∀ c,e ≠ .panic c
def wfL(L l tl:List Oper)(pre:List (List Nat))(st:St)(_ts:List Nat)(fr0:Fr)(lo:List LOp)(ol:OL):Bool:=
 aOT L pre 0 L&&qB (Zq L)&&qB (ol.map (·.1))&&Sb ol 0 lo&&ol.all (fun e=>Fs pre e.2.2)&&yE pre st fr0 lo ol 0 l &&
  (Nat.beq lo.length l.length&&Nat.beq pre.length l.length)&&tlB L pre l.length tl
theorem Da{P:Program}{L:Array Oper}{Q:Exit->Act->World->Prop}{m:Array Bool}{a:Act}{w:World}(h:Region.ready .any L m=[])(hq:Q .normal a w):∀ fuel,wpAny P .any L Q fuel m a w
 | 0=>⟨h,hq⟩
 | _+1=>⟨fun _=>hq,fun i hi=>by rw[h]at hi; cases hi⟩
def aBK(lits:List (Nat×(Bool×Bool)))(lo:List LOp):Bool:=lits.all fun e=>match (lo.getD e.1 default).val,e.2.2 with
 | some (.t (.bool true)),true=>true
 | some (.t (.bool false)),false=>true
 | _,_=>false
theorem oF{p:Nat->Bool}:∀ {i:Nat} {os:List Oper} {ls:List LOp} {e:Nat×PV},e∈pT p i os ls->∃ k o l,os[k]? = some o/\ls[k]? = some l/\p (i+k)=true/\o.dst=some e.1/\l.val=some e.2
 | _,[],_,e,h=>by simp[pT]at h
 | i,_::os,[],e,h=>by simp only[pT]at h;obtain⟨k,o,l,h1,h2,_⟩:=oF h;simp at h2
 | i,o::os,l::ls,e,h=>by
  have tail:e∈pT p (i+1) os ls->∃ k o' l',(o::os)[k]? = some o'/\(l::ls)[k]? = some l'/\p (i+k)=true/\o'.dst=some e.1/\l'.val=some e.2:=by intro h;obtain⟨k,o',l',h1,h2,h3,h4⟩:=oF h;exact⟨k+1,o',l',by simpa using h1,by simpa using h2,by rw[<-nY,Nat.add_right_comm]; exact h3,h4⟩
  simp only[pT]at h;split at h
  ·rename_i d x hp hd hv;rcases aW.1 h with rfl | h
   ·exact⟨0,o,l,by simp,by simp,by simpa using hp,hd,hv⟩
   ·exact tail h
  ·exact tail h
theorem Ap{p:Nat->Bool}{d:Nat}{x:PV}:∀ {i k:Nat} {os:List Oper} {ls:List LOp} {o:Oper} {l:LOp},os[k]? = some o->ls[k]? = some l->p (i+k)=true->o.dst=some d->l.val=some x->(d,x)∈pT p i os ls
 | _,_,[],_,_,_,h,_,_,_,_=>by simp at h
 | _,_,_::_,[],_,_,_,h,_,_,_=>by simp at h
 | i,0,o::os,l::ls,o',l',h1,h2,h3,h4,h5=>by simp at h1 h2; subst h1 h2;simp only[tQ]at h3;simp[pT,h3,h4,h5]
 | i,k+1,o::os,l::ls,o',l',h1,h2,h3,h4,h5=>by
  have:=Ap (i:=i+1) (k:=k) (os:=os) (ls:=ls) (by simpa using h1) (by simpa using h2) (by rw[nY,Nat.add_comm 1 k]; exact h3) h4 h5;simp only[pT];split
  ·exact cU _ this
  ·exact this
theorem mG{lo:List LOp}{p q:Nat->Bool}{o:Nat}:∀ {js:List Nat} {c:Option aY},(∀ j,j∈js->p j=q j)->kW lo p o c js=kW lo q o c js
 | [],_,_=>rfl
 | j::js,c,h=>by
  simp only[kW,h j (by simp)];split
  ·exact mG fun k hk=>h k (cU _ hk)
  ·exact mG fun k hk=>h k (cU _ hk)
theorem wP{lo:List LOp}{q:Nat->Bool}{o:Nat}:∀ {js:List Nat} {c:Option aY},(∀ j,j∈js->q j=false)->kW lo q o c js=c
 | [],_,_=>rfl
 | j::js,c,h=>by simp only[kW,h j (by simp)]; exact wP fun k hk=>h k (cU _ hk)
theorem rN{lo:List LOp}{pre:List (List Nat)}{q:Nat->Bool}{i o:Nat}(hi:q i=true):∀ {js:List Nat} {c:Option aY},Fs pre js=true->i∈js->(∀ j,j∈js->i∈pre.getD j []->q j=false) ->
  kW lo q o c js=Zs lo o i
 | [],_,_,h,_=>by simp at h
 | j::js,c,hc,h,hq=>by
  simp only[Fs,cM,dO]at hc;by_cases hj:j=i
  ·subst hj;simp only[kW,hi];exact wP fun k hk=>hq k (cU _ hk) (dC.1 (hc.1 k hk))
  ·have hm:i∈js:=by
    rcases aW.1 h with rfl | h
    ·exact absurd rfl hj
    ·exact h
   simp only[kW];split
   ·exact rN hi hc.2 hm fun k hk=>hq k (cU _ hk)
   ·exact rN hi hc.2 hm fun k hk=>hq k (cU _ hk)
theorem rR{lo:List LOp}{p:Nat->Bool}{o:Nat}{x:aY}:∀ {js:List Nat} {c:Option aY},kW lo p o c js=some x->c=some x\/∃ j,j∈js/\p j=true/\Zs lo o j=some x
 | [],_,h=>.inl h
 | j::js,c,h=>by
  simp only[kW]at h;split at h
  ·rename_i hp;rcases rR h with h | ⟨k,h1,h2,h3⟩
   ·exact .inr ⟨j,by simp,hp,h⟩
   ·exact .inr ⟨k,cU _ h1,h2,h3⟩
  ·rcases rR h with h | ⟨k,h1,h2,h3⟩
   ·exact .inl h
   ·exact .inr ⟨k,cU _ h1,h2,h3⟩
theorem lN{hp:Hp}{lo:List LOp}{p:Nat->Bool}:∀ {ol:OL} {e:Nat×aY},e∈Bs hp lo p ol->∃ new js,(e.1,new,js)∈ol/\kW lo p e.1 (ini hp e.1 new) js=some e.2
 | [],e,h=>by simp[Bs]at h
 | (o,new,js)::l,e,h=>by
  have tail:e∈Bs hp lo p l->∃ new' js',(e.1,new',js')∈(o,new,js)::l/\kW lo p e.1 (ini hp e.1 new') js'=some e.2:=by intro h;obtain⟨n',j',h1,h2⟩:=lN h;exact⟨n',j',cU _ h1,h2⟩
  simp only[Bs]at h;split at h
  ·rename_i x hx;rcases aW.1 h with rfl | h
   ·exact⟨new,js,by simp,hx⟩
   ·exact tail h
  ·exact tail h
theorem tP{hp:Hp}{lo:List LOp}{p:Nat->Bool}{o:Nat}{new:Bool}{js:List Nat}{x:aY}:∀ {ol:OL},(o,new,js)∈ol->kW lo p o (ini hp o new) js=some x->(o,x)∈Bs hp lo p ol
 | [],h,_=>by simp at h
 | (o',n',j')::l,h,hx=>by
  simp only[Bs];rcases aW.1 h with e | h
  ·cases e; rw[hx]; simp
  ·split
   ·exact cU _ (tP h hx)
   ·exact tP h hx
theorem yV{d:Nat}:∀ {l:List Nat},Sd d l=true->d∉l
 | [],_=>by simp
 | k::l,h=>by simp only[Sd,cM,lH]at h;simp only[aW,not_or];exact⟨fun e=>oH h.1 e.symm,yV h.2⟩
theorem aLH{ops:List Oper}:qB (Zq ops)=true->∀ {i k:Nat} {o o':Oper} {d:Nat},ops[i]? = some o->ops[k]? = some o'->o.dst=some d->o'.dst=some d->i=k:=by
 induction ops with
 | nil=>intro _ i k o o' d h; simp at h
 | cons x ops ih=>
  intro hn i k o o' d h1 h2 h3 h4;have hin:∀ {k:Nat} {o':Oper},ops[k]? = some o'->o'.dst=some d->d∈Zq ops:=by intro k o' hk hd;exact List.mem_filterMap.2 ⟨o',kV hk,hd⟩
  have hn':qB (Zq ops)=true/\∀ d',x.dst=some d'->d'∉Zq ops:=by
   unfold Zq at hn ⊢;simp only[List.filterMap_cons]at hn;split at hn
   ·rename_i hx; exact⟨hn,fun d' hd=>by rw[hx]at hd; cases hd⟩
   ·rename_i d0 hx;simp only[qB,cM]at hn;exact⟨hn.2,fun d' hd=>by rw[hx]at hd; cases hd; exact yV hn.1⟩
  cases i with
  | zero=>
   cases k with
   | zero=>rfl
   | succ k=>simp at h1 h2; subst h1;exact absurd (hin h2 h4) (hn'.2 d h3)
  | succ i=>
   cases k with
   | zero=>simp at h1 h2; subst h2;exact absurd (hin h1 h3) (hn'.2 d h4)
   | succ k=>simp at h1 h2;rw[ih hn'.1 h1 h2 h3 h4]
theorem Eb{ops:List Oper}{pre:List (List Nat)}:∀ {os:List Oper} {i0:Nat},aOT ops pre i0 os=true->∀ {k:Nat} {o:Oper},os[k]? = some o ->
  (∀ j,j∈jG o->j<i0+k)/\∀ x,x∈pre.getD (i0+k) []->x<i0+k/\(x∈jG o\/∃ j,j∈jG o/\x∈pre.getD j [])
 | [],_,_,k,o,h=>by simp at h
 | y::os,i0,hp,k,o,h=>by
  simp only[aOT,cM,dO]at hp;obtain⟨⟨h1,h2⟩,h3⟩:=hp;cases k with
  | zero=>
   simp at h; subst h;refine⟨fun j hj=>by simpa[fD] using h1 j hj,fun x hx=>?_⟩;have:=h2 x hx;simp only[mW,List.any_eq_true]at this;refine⟨by simpa[fD] using this.1,?_⟩;rcases this.2 with h | ⟨j,hj,h⟩
   ·exact .inl (dC.1 h)
   ·exact .inr ⟨j,hj,dC.1 h⟩
  | succ k=>have:=Eb (i0:=i0+1) h3 (k:=k) (o:=o) (by simpa using h);rw[show i0+(k+1)=i0+1+k by omega];exact this
theorem zY{pre:List (List Nat)}{st:St}{fr0:Fr}{lo:List LOp}{ol:OL}:∀ {os:List Oper} {i0:Nat},yE pre st fr0 lo ol i0 os=true->∀ {k:Nat} {o:Oper} {d:Nat},os[k]? = some o->iX o=some d ->
  zA pre (i0+k) d 0 lo=true/\zM st.hp d ol=true/\(∀ e,e∈fr0->e.2.mentions d=false)/\∀ e,e∈ol->e.1=d->∀ j,j∈e.2.2->j=i0+k\/(i0+k)∈pre.getD j []
 | [],_,_,k,o,d,h,_=>by simp at h
 | y::os,i0,hp,k,o,d,h,ha=>by
  simp only[yE,cM]at hp;cases k with
  | zero=>
   simp at h; subst h;rw[ha]at hp;simp only[cM,dO,lH,mW]at hp;obtain⟨⟨⟨⟨h1,h2⟩,h3⟩,h4⟩,_⟩:=hp;refine⟨h1,h2,h3,fun e he hed j hj=>?_⟩;rcases h4 e he with h | h
   ·exact absurd hed (oH h)
   ·rcases h j hj with h | h
    ·exact .inl (cH h)
    ·exact .inr (dC.1 h)
  | succ k=>have:=zY (i0:=i0+1) hp.2 (k:=k) (o:=o) (by simpa using h) ha;rw[show i0+(k+1)=i0+1+k by omega];exact this
theorem wG{pre:List (List Nat)}{i d:Nat}:∀ {ls:List LOp} {j0:Nat},zA pre i d j0 ls=true->∀ {k:Nat} {l:LOp},ls[k]? = some l ->
  (∀ x,l.val=some x->x.mentions d=false\/i∈pre.getD (j0+k) []\/j0+k=i)/\∀ o c kk,l.md=some (o,c,kk)->c.mentions d=false\/i∈pre.getD (j0+k) []\/j0+k=i
 | [],_,_,k,l,h=>by simp at h
 | y::ls,j0,hp,k,l,h=>by
  simp only[zA,cM]at hp;obtain⟨⟨h1,h2⟩,h3⟩:=hp;cases k with
  | zero=>
   simp at h; subst h;refine⟨fun x hx=>?_,fun o c kk hm=>?_⟩
   ·rw[hx]at h1;simp only[mW,lH]at h1;rcases h1 with (h | h) | h
    ·exact .inl h
    ·exact .inr (.inl (dC.1 h))
    ·exact .inr (.inr (cH h))
   ·rw[hm]at h2;simp only[mW,lH]at h2;rcases h2 with (h | h) | h
    ·exact .inl h
    ·exact .inr (.inl (dC.1 h))
    ·exact .inr (.inr (cH h))
  | succ k=>have:=wG (j0:=j0+1) h3 (k:=k) (l:=l) (by simpa using h);rw[show j0+(k+1)=j0+1+k by omega];exact this
theorem Df{hp:Hp}{d:Nat}:∀ {ol:OL},zM hp d ol=true->∀ {o:Nat} {new:Bool} {js:List Nat},(o,new,js)∈ol->(o=d->new=true)/\∀ c,ini hp o new=some c->c.mentions d=false
 | [],_,o,new,js,h=>by simp at h
 | (o',n',j')::l,hc,o,new,js,h=>by
  simp only[zM,cM]at hc;rcases aW.1 h with e | h
  ·cases e;refine⟨fun hd=>?_,fun c hi=>?_⟩
   ·subst hd;have:=hc.1.1;rw[lY]at this;exact this
   ·have:=hc.1.2;rw[hi]at this;simpa using this
  ·exact Df hc.2 h
theorem Kc{ol:OL}:∀ {ls:List LOp} {i0:Nat},Sb ol i0 ls=true->∀ {k:Nat} {l:LOp},ls[k]? = some l ->
  (∀ o c q,l.md=some (o,c,q)->(∃ e,e∈ol/\e.1=o/\i0+k∈e.2.2)/\∀ e,e∈ol->e.1=o\/(q=some e.1/\i0+k∈e.2.2)\/(q≠some e.1/\i0+k∉e.2.2))/\(l.md=none->∀ e,e∈ol->i0+k∉e.2.2)
 | [],_,_,k,l,h=>by simp at h
 | y::ls,i0,hp,k,l,h=>by
  simp only[Sb,cM]at hp;have nin:∀ {x:Nat} {l:List Nat},inN x l=false->x∉l:=fun h hm=>by rw[dC.2 hm]at h; cases h
  cases k with
  | zero=>
   simp at h; subst h;refine⟨fun o c q hm=>?_,fun hm=>?_⟩
   ·have:=hp.1;rw[hm]at this;simp only[cM,List.any_eq_true]at this;obtain⟨⟨e,h1,h2,h3⟩,h4⟩:=this;refine⟨⟨e,h1,cH h2,dC.1 h3⟩,fun e he=>?_⟩;cases q with
    | none=>
     simp only[dO,mW,lH]at h4;rcases h4 e he with h | h
     ·exact .inl (cH h)
     ·exact .inr (.inr ⟨by simp,nin h⟩)
    | some q=>
     simp only[dO,mW]at h4;rcases h4 e he with h | h
     ·exact .inl (cH h)
     ·split at h
      ·rename_i hb;exact .inr (.inl ⟨by rw[cH hb],dC.1 h⟩)
      ·rename_i hb;exact .inr (.inr ⟨by simp only[ne_eq,gL]; exact fun h'=>oH hb h'.symm,nin (by simpa using h)⟩)
   ·have:=hp.1;rw[hm]at this;simp only[dO,lH]at this;exact fun e he=>nin (this e he)
  | succ k=>have:=Kc (i0:=i0+1) hp.2 (k:=k) (l:=l) (by simpa using h);rw[show i0+(k+1)=i0+1+k by omega];exact this
theorem zD:∀ {ol:OL},qB (ol.map (·.1))=true->∀ {e e':Nat×Bool×List Nat},e∈ol->e'∈ol->e.1=e'.1->e=e'
 | [],_,e,e',h,_,_=>by simp at h
 | x::ol,hn,e,e',h,h',he=>by
  simp only[kX,qB,cM]at hn;have hx:=yV hn.1;rcases aW.1 h with q | h
  ·rcases aW.1 h' with q' | h'
   ·rw[q,q']
   ·exact absurd (by rw[<-q,he]; exact Bd h') hx
  ·rcases aW.1 h' with q' | h'
   ·exact absurd (by rw[<-q',<-he]; exact Bd h) hx
   ·exact zD hn.2 h h' he
theorem Vg{ops:List Oper}{calls:List (Nat×(Nat×List PV×PV×Hp×Option (Nat×aY)))}{st:St}{fr0:Fr}{lo:List LOp}{ol:OL}{pre:List (List Nat)}{lits:List (Nat×(Bool×Bool))}{conds:List (Nat×List Prop)}:
  ∀ {os:List Oper} {i0:Nat},Zh I ops calls st fr0 lo ol pre i0 os=Zf ops calls lits conds st fr0 lo ol pre i0 os->∀ {k:Nat} {o:Oper},os[k]? = some o ->
  aCC I ops (bI calls (i0+k)) o (stI st fr0 ops lo ol pre (i0+k))=aSE ops calls lits conds (stI st fr0 ops lo ol pre (i0+k)) lo (i0+k) o
 | [],_,_,k,o,h=>by simp at h
 | y::os,i0,he,k,o,h=>by
  simp only[Zh,Zf,List.cons.injEq]at he;cases k with
  | zero=>simp at h; subst h; exact he.1
  | succ k=>have:=Vg (i0:=i0+1) he.2 (k:=k) (o:=o) (by simpa using h);rw[show i0+(k+1)=i0+1+k by omega];exact this
theorem aSW{z:PV}{b:Bool}(h:(match (some z:Option PV),b with | some (.t (.bool true)),true=>true | some (.t (.bool false)),false=>true | _,_=>false)=true):z = .t (.bool b):=by
 split at h
 ·rename_i h1; cases h1; rfl
 ·rename_i h1; cases h1; rfl
 ·cases h
theorem aDM(hG:fE P E I)(hm:P.follows .mixedOrders=true){id:Nat}{L l tl:List Oper}(hL:L=l++tl){st stF:St}{calls:List (Nat×(Nat×List PV×PV×Hp×Option (Nat×aY)))}{lits:List (Nat×(Bool×Bool))}{conds:List (Nat×List Prop)}{ol:OL}
  {ts:List Nat}{fr0:Fr}{pre:List (List Nat)}{lo:List LOp}(hf0:∀ e,e∈fr0->e∈st.fr/\e.1∈ts)(hc:Hn P calls)(hl:xE lits)(hA:pO conds)(ts' os':List Nat)
  (hw:wfL L l tl pre st ts fr0 lo ol=true)(hlit:aBK lits lo=true)(he:Zh I L calls st fr0 lo ol pre 0 l=Zf L calls lits conds st fr0 lo ol pre 0 l)
  (hF:(stP st fr0 L lo ol (fun j=>Nat.blt j l.length)).keep ts' os'=some stF)(hk:fN P E L Q tl stF):pwp P E (.region id L.toArray true) Q st:=by
 intro hndc a w r;simp only[wfL,cM]at hw;obtain⟨⟨⟨⟨⟨⟨⟨hpre,hnd⟩,hol⟩,hmods⟩,hchain⟩,hall⟩,hlen,hplen⟩,htl⟩:=hw;have hchain:=dO.1 hchain;have hlen:=cH hlen;have hplen:=cH hplen;have hLl:L.length=l.length+tl.length:=by rw[hL]; simp
 have hat:∀ {i:Nat},i<l.length->L[i]? = l[i]?:=fun hi=>by rw[hL,eU hi]
 let SS:(Nat->Bool)->St:=stP st fr0 L lo ol;have lo_at:∀ {k:Nat} {o:Oper},l[k]? = some o->∃ x,lo[k]? = some x/\lo.getD k default=x:=by
  intro k o hk;have:k<lo.length:=by rw[hlen]; exact(eK.1 hk).1
  exact⟨lo[k],gG this,by simp[this]⟩
 have md_at:∀ {k:Nat} {x:LOp} {o o':Nat} {c:aY} {q:Option Nat},lo[k]? = some x->x.md=some (o,c,q)->Zs lo o' k=(match Nat.beq o o' with | true=>some c | false=>none):=by
  intro k x o o' c q hx hmd;have:lo.getD k default=x:=by rw[cG,hx]; rfl
  unfold Zs;rw[this];cases x with
  | mk v md fs=>simp only at hmd; subst hmd; rfl
 have hdlt:∀ {i:Nat} {o:Oper},L[i]? = some o->∀ j,j∈jG o->j<i:=by intro i o hi j hj;have:=(Eb hpre hi).1 j hj;omega
 have rdy:∀ m:List Bool,m.length=L.length->∀ i o,L[i]? = some o->eQ m i false=false->(∀ j,j∈jG o->eQ m j false=true)->i∈Region.ready .any L.toArray m.toArray:=by
  intro m hml i o ho hb hd;have hi':i<m.length:=by rw[hml]; exact(eK.1 ho).1
  rw[mem_ready];refine⟨?_,o,by simpa using ho,fun e hee hbd=>?_⟩
  ·rw[eV]at hb;have:m[i]=false:=by simpa[cG,hi'] using hb
   simp[hi',this]
  ·have hdep:e.on∈jG o:=by simp only[jG,dW,tD];exact⟨e,⟨by simpa using hee,hbd⟩,rfl⟩
   have:=hd e.on hdep;rw[eV]at this;simpa[Cu,cG] using this
 have done:∀ m:List Bool,m.length=L.length->(∀ i,i<l.length->i∉Region.ready .any L.toArray m.toArray)->∀ i,i<l.length->eQ m i false=true:=by
  intro m hml hr i
  induction i using Nat.strongRecOn with
  | _ i ih=>
   intro hi;cases hb:eQ m i false with
   | true=>rfl
   | false=>
    exfalso;have ho:L[i]? = some l[i]:=by rw[hat hi]; simp[hi]
    exact hr i hi (rdy m hml i _ ho hb fun j hj=>ih j (hdlt ho j hj) (Nat.lt_trans (hdlt ho j hj) hi))
 have toF:∀ m:List Bool,(∀ i,i<l.length->eQ m i false=true)->(∀ i,l.length<=i->eQ m i false=false)->∀ {a w},Rel E (SS fun j=>eQ m j false) a w->Rel E stF a w:=by
  intro m h1 h2 a w r;have hp:(fun j=>eQ m j false)=fun j=>Nat.blt j l.length:=by
   funext j;by_cases hj:j<l.length
   ·rw[h1 j hj]; exact(by simpa[fD] using hj:Nat.blt j l.length=true).symm
   ·rw[h2 j (by omega)];cases hb:Nat.blt j l.length with
    | false=>rfl
    | true=>exact absurd (by simpa[fD] using hb) hj
  rw[hp]at r;exact r.keep hF
 have late:∀ i o,l.length<i->L[i]? = some o->∃ k,k∈jG o/\l.length<=k:=by
  intro i o hi ho;have ho':=ho;rw[hL,eG (by omega)]at ho'
  match tl,htl with
  | [],_=>simp at ho'
  | x::t,h=>simp only[tlB,cM]at h;exact Jb h.2.1 ho hi
 have htl2:chT L l.length tl=true:=by
  match tl,htl with
  | [],_=>rfl
  | x::t,h=>simp only[tlB,cM]at h;simp only[chT,mW,cM];exact .inr h.2
 have notyet:∀ (m:List Bool) (i:Nat),Qq L m i=true->i<m.length->eQ m i false=false/\∀ o,L[i]? = some o->∀ j,j∈jG o->eQ m j false=true:=by
  intro m i hri him;constructor
  ·unfold Qq at hri;split at hri
   ·cases hri
   ·rename_i hb;rw[eV]at hb ⊢;simpa[cG,him] using hb
  ·intro o ho;unfold Qq at hri;split at hri
   ·cases hri
   ·rw[ho]at hri;exact fun j hj=>dO.1 hri j hj
 have sil:Region.noSelect L.toArray=true->∀ (t:List Oper) (j:Nat),L.drop j=t->aKS L t j=true->∀ (fuel:Nat) (m:List Bool),m.length=L.length->(∀ i,i<j->i<L.length->eQ m i false=true)->(∀ i,j<=i->eQ m i false=false)->t.length<=fuel ->
   ∀ a w,wpList P L.toArray (nG E Q) t a w->wpAny P .any L.toArray (noP (nG E Q)) fuel m.toArray a w:=by
  intro hns t
  induction t with
  | nil=>intro j hd _ fuel m hml hT hFs _ a w hq;refine Da (Ju.2 fun i hi=>?_) ⟨by simpa only[wpList] using hq,fun c h=>by cases h⟩ fuel;obtain⟨hri,hiL⟩:=yJ hi;have hlen:=List.drop_eq_nil_iff.1 hd;have:=(notyet m i hri (by omega)).1;rw[hT i (by omega) hiL]at this;cases this
  | cons o t ih=>
   intro j hd hsb fuel m hml hT hFs hfu a w hq;have ho:L[j]? = some o:=by rw[<-List.head?_drop,hd]; rfl
   have hjL:j<L.length:=(eK.1 ho).1;have hd':L.drop (j+1)=t:=by rw[<-List.tail_drop,hd]; rfl
   obtain⟨f,rfl⟩:∃ f,fuel=f+1:=⟨fuel-1,by simp only[sH]at hfu; omega⟩;simp only[aKS,cM]at hsb;obtain⟨⟨hs1,hs2⟩,hs3⟩:=hsb;have hw:Region.wanted o (yielded L.toArray a.tmps)=true:=by unfold Region.wanted; rw[aAH hs1]
   simp only[wpList]at hq;rw[aA hw]at hq;obtain⟨v,hv,hK⟩:=aOH hs1 hq;have hm:m=Jx L j:=by
    refine List.ext_getElem (by unfold Jx; simp[hml]) fun k h1 h2=>?_;have e1:eQ m k false=m[k]:=by rw[eV]; simp[h1]
    have e2:(Jx L j)[k]=Nat.blt k j:=by simp[Jx]
    rw[e2,<-e1];by_cases hkj:k<j
    ·rw[hT k hkj (by omega)]; exact(by simpa[fD] using hkj:Nat.blt k j=true).symm
    ·rw[hFs k (by omega)];cases hb:Nat.blt k j with
     | false=>rfl
     | true=>exact absurd (by simpa[fD] using hb) hkj
   have hset:(m.toArray).setIfInBounds j true=(pS m j).toArray:=by rw[kG]; simp
   have hjm:j<m.length:=by omega
   have hgs:∀ k,eQ (pS m j) k false=(if k=j then true else eQ m k false):=by
    intro k;rw[kG,eV,eV];simp only[cG,qR];by_cases hki:k=j
    ·subst hki; simp[hjm]
    ·simp[hki,show j≠k from fun h=>hki h.symm]
   refine wpAny_take (i:=j) (oi:=o) (v:=v) (by simpa using ho) hns (by rw[hm]; exact hs2) (by simpa using rdy m hml j o ho (hFs j (fJ _)) fun k hk=>hT k (hdlt ho k hk) (Nat.lt_trans (hdlt ho k hk) hjL)) (fun c a w h=>absurd rfl (h.2 c)) (.inl ⟨hw,hv⟩) ?_;rw[hset];refine ih (j+1) hd' hs3 f (pS m j) (by rw[kG]; simpa using hml) (fun k hk hkL=>?_) (fun k hk=>?_) (by simp only[sH]at hfu; omega) _ w hK
   ·rw[hgs];split
    ·rfl
    ·exact hT k (by omega) hkL
   ·rw[hgs,aF (by omega)]; exact hFs k (by omega)
 have tail:∀ (t:List Oper) (j:Nat),l.length<=j->L.drop j=t->chT L j t=true->∀ (fuel:Nat) (m:List Bool),m.length=L.length->(∀ i,i<j->i<L.length->eQ m i false=true)->(∀ i,j<=i->eQ m i false=false)->t.length<=fuel ->
   ∀ a w,wpList P L.toArray (nG E Q) t a w->wpAny P .any L.toArray (nG E Q) fuel m.toArray a w:=by
  intro t
  induction t with
  | nil=>intro j _ hd _ fuel m hml hT hFs _ a w hq;refine Da (Ju.2 fun i hi=>?_) (by simpa only[wpList] using hq) fuel;obtain⟨hri,hiL⟩:=yJ hi;have hlen:=List.drop_eq_nil_iff.1 hd;have:=(notyet m i hri (by omega)).1;rw[hT i (by omega) hiL]at this;cases this
  | cons o t ih=>
   intro j hj hd hch fuel m hml hT hFs hfu a w hq;simp only[chT,mW,cM]at hch;rcases hch with⟨hns,hsb⟩ | ⟨honly,hch⟩
   ·exact mB (fun e a w h=>h.1) fuel _ a w (sil hns (o::t) j hd hsb fuel m hml hT hFs hfu a w hq)
   have ho:L[j]? = some o:=by rw[<-List.head?_drop,hd]; rfl
   have hjL:j<L.length:=(eK.1 ho).1;have hd':L.drop (j+1)=t:=by rw[<-List.tail_drop,hd]; rfl
   obtain⟨f,rfl⟩:∃ f,fuel=f+1:=⟨fuel-1,by simp only[sH]at hfu; omega⟩;refine⟨fun hr=>?_,fun i hi=>?_⟩
   ·have:=rdy m hml j o ho (hFs j (fJ _)) fun k hk=>hT k (hdlt ho k hk) (Nat.lt_trans (hdlt ho k hk) hjL);rw[hr]at this;cases this
   ·obtain⟨hri,hiL⟩:=yJ hi;have him:i<m.length:=by omega
    obtain⟨n1,n2⟩:=notyet m i hri him;have hij:i=j:=by
     refine Th fun hne=>?_;have hlt:j<i:=by refine Th fun h=>?_;rw[hT i (by omega) hiL]at n1;cases n1
     obtain⟨k,hk1,hk2⟩:=Jb honly (gG hiL) hlt;have h1:=n2 _ (gG hiL) _ hk1;rw[hFs k hk2]at h1;cases h1
    subst hij;have hset:(m.toArray).setIfInBounds i true=(pS m i).toArray:=by rw[kG]; simp
    have hgs:∀ k,eQ (pS m i) k false=(if k=i then true else eQ m k false):=by
     intro k;rw[kG,eV,eV];simp only[cG,qR];by_cases hki:k=i
     ·subst hki; simp[him]
     ·simp[hki,show i≠k from fun h=>hki h.symm]
    have go:∀ a w,wpList P L.toArray (nG E Q) t a w->wpAny P .any L.toArray (nG E Q) f (m.toArray.setIfInBounds i true) a w:=by
     intro a w h;rw[hset];refine ih (i+1) (by omega) hd' hch f (pS m i) (by rw[kG]; simpa using hml) (fun k hk hkL=>?_) (fun k hk=>?_) (by simp only[sH]at hfu; omega) a w h
     ·rw[hgs];split
      ·rfl
      ·exact hT k (by omega) hkL
     ·rw[hgs,aF (by omega)]; exact hFs k (by omega)
    simp only[wpList]at hq;unfold wpOp;rw[show (L.toArray)[i]? = some o by simpa using ho];simp only;split
    ·rename_i hw;rw[aA hw]at hq;rcases hq with hq | hq
     ·exact .inl (Oper.wp_mono go hq)
     ·exact .inr hq
    ·rename_i hw;rw[aF hw]at hq;exact go _ _ hq
 have key:∀ (fuel:Nat) (m:List Bool),m.length=L.length->(∀ i k,eQ m i false=true->k∈pre.getD i []->eQ m k false=true)->(∀ i,l.length<=i->eQ m i false=false)->m.count false<=fuel->∀ a w,Rel E (SS fun j=>eQ m j false) a w ->
   wpAny P .any L.toArray (nG E Q) fuel m.toArray a w:=by
  have fin:∀ (fuel:Nat) (m:List Bool),m.length=L.length->(∀ i,l.length<=i->eQ m i false=false)->m.count false<=fuel->(∀ i,i<l.length->eQ m i false=true)->∀ a w,Rel E (SS fun j=>eQ m j false) a w->wpAny P .any L.toArray (nG E Q) fuel m.toArray a w:=by
   intro fuel m hml hts hcnt hall a w r;refine tail tl l.length (fJ _) (by rw[hL]; simp) htl2 fuel m hml (fun i hi _=>hall i hi) hts ?_ a w (hk a w (toF m hall hts r));have h1:(m.drop l.length).count false=(m.drop l.length).length:=by
    refine List.count_eq_length.2 fun b hb=>?_;obtain⟨q,hq,rfl⟩:=aFW.1 hb;have h2:=hts (l.length+q) (by omega);rw[eV]at h2;have h3:l.length+q<m.length:=by rw[fG]at hq; omega
    rw[List.getElem_drop];have:m[l.length+q]=false:=by simpa[cG,h3] using h2
    exact this.symm
   have h4:m.count false=(m.take l.length).count false+(m.drop l.length).count false:=by rw[<-List.count_append,Aj]
   rw[fG]at h1;omega
  intro fuel
  induction fuel with
  | zero=>
   intro m hml hcl hts hcnt a w r;refine fin 0 m hml hts hcnt (fun i hi=>?_) a w r;have him:i<m.length:=by omega
   cases hb:eQ m i false with
   | true=>rfl
   | false=>
    exfalso;rw[eV]at hb;have:m[i]=false:=by simpa[cG,him] using hb
    have:=List.count_pos_iff.2 (this▸xM him);omega
  | succ fuel ih=>
   intro m hml hcl hts hcnt a w r;by_cases hall0:∀ i,i<l.length->eQ m i false=true
   ·exact fin (fuel+1) m hml hts hcnt hall0 a w r
   refine⟨fun hr=>absurd (done m hml fun i _ h=>by rw[hr]at h; cases h) hall0,fun i hi=>?_⟩;obtain⟨hri,hiL⟩:=yJ hi;have him:i<m.length:=by omega
   obtain⟨hmi0,hdeps0⟩:=notyet m i hri him;have hil:i<l.length:=by
    refine Th fun hn=>?_;have ho:=gG hiL;by_cases hin:i=l.length
    ·subst hin;have hd:=hdeps0 _ ho;refine hall0 fun k hk'=>?_;have e0:L[l.length]? = tl[0]?:=by rw[hL,eG (fJ _),Ao]
     have hoT:tl[0]? = some L[l.length]:=e0.symm.trans ho
     match tl,htl,hoT with
     | x::t,h,hoT=>
      simp only[tlB,cM]at h;have hx:x=L[l.length]:=by simpa using hoT
      have:=dO.1 h.1 k (sC.2 hk');rw[hx]at this;simp only[mW,List.any_eq_true]at this;rcases this with h | ⟨j,hj,h⟩
      ·exact hd k (dC.1 h)
      ·exact hcl j k (hd j hj) (dC.1 h)
    ·obtain⟨k,hk1,hk2⟩:=late i _ (by omega) ho;have:=hdeps0 _ ho _ hk1;rw[hts k hk2]at this;cases this
   have hol0:l[i]? = some l[i]:=gG hil;have ho:L[i]? = some l[i]:=by rw[hat hil]; exact hol0
   have hmi:eQ m i false=false:=by
    unfold Qq at hri;split at hri
    ·cases hri
    ·rename_i hb;rw[eV]at hb ⊢;simpa[cG,him] using hb
   have hdeps:∀ j,j∈jG l[i]->eQ m j false=true:=by
    unfold Qq at hri;split at hri
    ·cases hri
    ·rw[ho]at hri;exact fun j hj=>dO.1 hri j hj
   have hpi:=Eb hpre ho;simp only[eZ]at hpi;have hprem:∀ k,k∈pre.getD i []->eQ m k false=true:=by
    intro k hk;rcases (hpi.2 k hk).2 with h | ⟨j,hj,h⟩
    ·exact hdeps k h
    ·exact hcl j k (hdeps j hj) h
   have hinot:i∉pre.getD i []:=fun h=>Nat.lt_irrefl _ (hpi.2 i h).1;have hsucc:∀ j,i∈pre.getD j []->eQ m j false=false:=by
    intro j hj;cases hb:eQ m j false with
    | false=>rfl
    | true=>rw[hcl j i hb hj]at hmi; cases hmi
   have hsub1:∀ e,e∈(stI st fr0 L lo ol pre i).fr->e∈(SS fun j=>eQ m j false).fr:=by
    intro e he;simp only[stI,dZ]at he;show e∈frP _ L fr0++pT _ 0 L lo;rw[dZ];rcases he with he | he
    ·obtain⟨h1,h2⟩:=rG.1 he;refine .inl (rG.2 ⟨h1,fun k o h3 h4=>?_⟩);have:=h2 k o h3 h4;simp only[Bool.not_eq_false',mW]at this;rcases this with (h | h) | h
     ·rw[cH h]; exact hmi
     ·exact hsucc k (dC.1 h)
     ·exact hts k (by have:=fH h; omega)
    ·obtain⟨k,o,x,h1,h2,h3,h4,h5⟩:=oF he;exact .inr (Ap h1 h2 (by rw[eZ]at h3 ⊢; exact hprem k (dC.1 h3)) h4 h5)
   have hsub2:∀ e,e∈(stI st fr0 L lo ol pre i).hp->e∈(SS fun j=>eQ m j false).hp:=by
    intro e he;obtain⟨new,js,h1,h2⟩:=lN he;obtain⟨h1,h3⟩:=tD.1 h1;refine tP h1 ?_;rw[<-h2];refine mG fun j hj=>?_;have:=dO.1 h3 j hj;simp only[mW]at this;cases hin:inN j (pre.getD i []) with
    | true=>exact hprem j (dC.1 hin)
    | false=>
     rcases this with (h | h) | h
     ·rw[cH h]; exact hmi
     ·rw[hin]at h; cases h
     ·exact hsucc j (dC.1 h)
   have huq:∀ k x y,(k,x)∈(SS fun j=>eQ m j false).hp->(k,y)∈(SS fun j=>eQ m j false).hp->x=y:=by intro k x y h1 h2;obtain⟨n1,j1,h3,h4⟩:=lN h1;obtain⟨n2,j2,h5,h6⟩:=lN h2;have:=zD hol h3 h5 rfl;cases this;rw[h4]at h6;exact pJ h6
   obtain⟨x,hx,hxd⟩:=lo_at hol0;have heff:=Vg he hol0;rw[eZ]at heff;unfold aSE at heff;rw[hxd]at heff;have hCs:All (match bI conds i with | some l=>l | none=>[]):=by
    split
    ·rename_i h; exact hA.mem _ (aT h)
    ·exact trivial
   unfold wpOp;rw[show (L.toArray)[i]? = some l[i] by simpa using ho];simp only;have fin2:(if Region.wanted l[i] (yielded L.toArray a.tmps) then l[i].wp P a w (wpAny P .any L.toArray (nG E Q) fuel (m.toArray.setIfInBounds i true)) (nG E Q) else wpAny P .any L.toArray (nG E Q) fuel (m.toArray.setIfInBounds i true) (a.put l[i].dst undef) w) ->
     (if Region.wanted l[i] (yielded L.toArray a.tmps) then l[i].wp P a w (wpAny P .any L.toArray (nG E Q) fuel (m.toArray.setIfInBounds i true)) (nG E Q)\/l[i].asks P a w/\LetsOut (nG E Q) else wpAny P .any L.toArray (nG E Q) fuel (m.toArray.setIfInBounds i true) (a.put l[i].dst undef) w):=by
    intro hh;split
    ·rename_i hw; rw[aA hw]at hh; exact .inl hh
    ·rename_i hw; rw[aF hw]at hh; exact hh
   refine fin2 (aXH hG (fun k args r Hs ch hca=>hc.mem _ (aT hca)) hsub1 hsub2 huq heff hCs (fun f hf i=>by obtain⟨_,_,rfl⟩:=dW.1 hf; rfl) (fun k args r Hs ch hca hwt=>by rw[hca,hwt]) (fun d hia=>?_) r fun a' w' r'=>?_)
   ·
    obtain⟨c1,c2,c3,c4⟩:=zY hall hol0 hia;simp only[eZ]at c1 c4;refine⟨fun e he=>?_,fun e he=>?_⟩
    ·change e∈frP _ L fr0++pT _ 0 L lo at he;rcases dZ.1 he with he | he
     ·exact c3 e (rG.1 he).1
     ·obtain⟨k,o,y,h1,h2,h3,h4,h5⟩:=oF he;rw[eZ]at h3;rcases (wG c1 h2).1 _ h5 with h | h | h
      ·exact h
      ·rw[eZ]at h; rw[hsucc k h]at h3; cases h3
      ·rw[eZ]at h; subst h; rw[hmi]at h3; cases h3
    ·obtain⟨new,js,h1,h2⟩:=lN he;obtain⟨d1,d2⟩:=Df c2 h1;constructor
     ·cases hb:Nat.beq e.1 d with
      | false=>rfl
      | true=>
       exfalso;have hed:=cH hb;have hnew:=d1 hed;rcases rR h2 with h | ⟨j,hj,hpj,_⟩
       ·rw[hnew]at h; simp[ini]at h
       ·rcases c4 _ h1 hed j hj with h | h
        ·subst h; rw[hmi]at hpj; cases hpj
        ·rw[hsucc j h]at hpj; cases hpj
     ·rcases rR h2 with h | ⟨j,hj,hpj,hmd⟩
      ·exact d2 _ h
      ·have hjl:j<lo.length:=by
        by_cases hjl:j<lo.length
        ·exact hjl
        ·exfalso;have:eQ m j false=false:=hts j (by omega);rw[this]at hpj; cases hpj
       have hlj:lo[j]? = some lo[j]:=gG hjl;have hgd:lo.getD j default=lo[j]:=by simp[hjl]
       unfold Zs at hmd;rw[hgd]at hmd;split at hmd
       ·rename_i v0 o0 c0 q0 f0 hv0;split at hmd
        case h_2=>cases hmd
        cases hmd;rcases (wG c1 hlj).2 o0 e.2 q0 (by rw[hv0]) with h | h | h
        ·exact h
        ·rw[eZ]at h; rw[hsucc j h]at hpj; cases hpj
        ·rw[eZ]at h; subst h; rw[hmi]at hpj; cases hpj
       ·cases hmd
   ·
    have hset:(m.toArray).setIfInBounds i true=(pS m i).toArray:=by rw[kG]; simp
    rw[hset];have hgs:∀ j,eQ (pS m i) j false=(if j=i then true else eQ m j false):=by
     intro j;rw[kG,eV,eV];simp only[cG,qR];by_cases hji:j=i
     ·subst hji; simp[him]
     ·simp[hji,show i≠j from fun h=>hji h.symm]
    refine ih (pS m i) (by rw[kG]; simpa using hml) (fun j k hj hk=>?_) (fun j hj=>by rw[hgs,aF (by omega)]; exact hts j hj) ?_ a' w' ?_
    ·rw[hgs]at hj ⊢;by_cases hki:k=i
     ·simp[hki]
     ·rw[aF hki];by_cases hji:j=i
      ·subst hji; exact hprem k hk
      ·rw[aF hji]at hj; exact hcl j k hj hk
    ·have hmi2:m[i]=false:=by rw[eV]at hmi; simpa[cG,him] using hmi
     rw[kG,List.count_set him,hmi2];have:0<m.count false:=List.count_pos_iff.2 (by rw[<-hmi2]; exact xM him);simp;omega
    ·refine r'.sub (fun e he=>?_) (fun e he=>?_)
     ·change e∈frP _ L fr0++pT _ 0 L lo at he;have old:e∈(SS fun j=>eQ m j false).fr->(∀ d,l[i].dst=some d->e.1≠d)->e∈(lK (SS fun j=>eQ m j false) l[i].dst (match bI lits i with | some (b,_)=>some (PV.t (T.bool b)) | none=>x.val) x.md).fr:=by
       intro h1 h2;unfold lK;simp only;split
       ·rename_i d y hd _;obtain⟨k,z⟩:=e;exact cU _ (bB.2 ⟨h1,h2 d hd⟩)
       ·exact h1
      rcases dZ.1 he with he | he
      ·obtain⟨h1,h2⟩:=rG.1 he;refine old (tE _ (rG.2 ⟨h1,fun k o h3 h4=>?_⟩)) fun d hd hed=>?_
       ·have:=h2 k o h3 h4;rw[hgs]at this;split at this
        ·cases this
        ·exact this
       ·have:=h2 i l[i] ho (by rw[hd,hed]);rw[hgs,aA rfl]at this;cases this
      ·obtain⟨k,o,y,h1,h2,h3,h4,h5⟩:=oF he;rw[eZ,hgs]at h3;by_cases hki:k=i
       ·subst hki;have h1:l[k]=o:=by rw[ho]at h1; exact pJ h1
        have h2:x=y:=by rw[hx]at h2; exact pJ h2
        subst h2;rw[h1];unfold lK;simp only;cases hlk:bI lits k with
        | none=>simp only[h4,h5]; exact dI ..
        | some bv=>obtain⟨b,v⟩:=bv;have hbv:b=v:=hl.mem _ (aT hlk);subst hbv;have:=dO.1 hlit _ (aT hlk);simp only[hxd,h5]at this;simp only[h4];have hee:e=(e.1,PV.t (T.bool b)):=Prod.ext rfl (aSW this);rw[<-hee];exact dI ..
       ·rw[aF hki]at h3;refine old (pM _ (Ap h1 h2 (by rw[eZ]; exact h3) h4 h5)) fun d hd hed=>?_;exact hki (aLH hnd h1 ho h4 (by rw[hd,hed]))
     ·obtain⟨new,js,h1,h2⟩:=lN he;have hmo:=Kc hmods hx;simp only[eZ]at hmo;have old:i∉js->e∈(SS fun j=>eQ m j false).hp:=by intro hnj;refine tP h1 ?_;rw[<-h2];refine mG fun j hj=>?_;have hji:j≠i:=fun h=>hnj (h▸hj);rw[hgs,aF hji]
      unfold lK;simp only;split
      ·rename_i o c q hmd;obtain⟨⟨e0,q1,q2,q3⟩,q4⟩:=hmo.1 o c q hmd;by_cases heo:e.1=o
       ·have:e0=(e.1,new,js):=zD hol q1 h1 (by rw[q2,heo]);subst this;have:=rN (o:=e.1) (q:=fun j=>eQ (pS m i) j false) (by simp[hgs]) (hchain _ h1) q3 (c:=ini st.hp e.1 new) (lo:=lo) (fun j _ hj=>by have hji:j≠i:=fun h=>hinot (h▸hj);show eQ (pS m i) j false=false;rw[hgs,aF hji]; exact hsucc j hj);rw[this,md_at hx hmd,<-heo,lY]at h2;cases h2;rw[<-heo];exact dI ..
       ·refine cU _ ?_;obtain⟨k,z⟩:=e;rcases q4 _ h1 with h | ⟨h,h'⟩ | ⟨h,h'⟩
        ·exact absurd h heo
        ·exfalso;have:=rN (o:=k) (q:=fun j=>eQ (pS m i) j false) (by simp[hgs]) (hchain _ h1) h' (c:=ini st.hp k new) (lo:=lo) (fun j _ hj=>by have hji:j≠i:=fun h=>hinot (h▸hj);show eQ (pS m i) j false=false;rw[hgs,aF hji]; exact hsucc j hj);rw[this,md_at hx hmd]at h2;have hb:Nat.beq o k=false:=by
          cases hb:Nat.beq o k with
          | false=>rfl
          | true=>exact absurd (cH hb).symm heo
         rw[hb]at h2;cases h2
        ·refine bB.2 ⟨?_,heo⟩;cases q with
         | none=>exact old h'
         | some q=>exact bB.2 ⟨old h',fun hh=>h (by rw[hh])⟩
      ·rename_i hmd;exact old (hmo.2 hmd _ h1)
 refine wpIn_region_any hm (Eu Su hndc.ops _ _ _ _ ?_);have h0:=key L.length (List.replicate L.length false) (by simp) (fun i k h=>by rw[eV]at h; simp[Ak]at h; split at h <;> simp at h) (fun i _=>by rw[eV]; simp[Ak]; split <;> rfl) (by simp) a _ (r.drew.sub (fun e he=>?_) (fun e he=>?_))
 ·simpa using h0
 ·change e∈frP _ L fr0++pT _ 0 L lo at he;rcases dZ.1 he with he | he
  ·exact(hf0 e (rG.1 he).1).1
  ·obtain⟨k,o,y,h1,h2,h3,h4,h5⟩:=oF he;rw[eV]at h3;simp[Ak]at h3;split at h3 <;> simp at h3
 ·obtain⟨new,js,h1,h2⟩:=lN he;rw[wP (fun j _=>by rw[eV]; simp[Ak]; split <;> rfl)]at h2;unfold ini at h2;split at h2
  ·cases h2
  ·exact aT h2
def Qt(I:Inf)(L l:List Oper)(calls:List (Nat×(Nat×List PV×PV×Hp×Option (Nat×aY))))(lits:List (Nat×(Bool×Bool)))(st:St)(ts:List Nat)(ol:OL):List LOp:=
 aZE I L calls lits st (hJ st.fr ts) ol (Kb (Ox l) []) 0 l []
theorem sK{α:Type}{l:List (Nat×α)}:∀ {ts:List Nat} e,e∈hJ l ts->e.1∈ts
 | [],e,h=>by simp[hJ]at h
 | t::ts,e,h=>by
  simp only[hJ]at h;split at h
  ·rcases aW.1 h with rfl | h
   ·simp
   ·exact cU _ (sK e h)
  ·exact cU _ (sK e h)
theorem aKH(hG:fE P E I)(hm:P.follows .mixedOrders=true){id:Nat}{L l tl:List Oper}(hL:L=l++tl){st stF:St}(calls:List (Nat×(Nat×List PV×PV×Hp×Option (Nat×aY))))(lits:List (Nat×(Bool×Bool)))(conds:List (Nat×List Prop))(ol:OL)
  (ts:List Nat)(hc:Hn P calls)(hl:xE lits)(hA:pO conds)(ts' os':List Nat)
  (hw:(wfL L l tl (Kb (Ox l) []) st ts (hJ st.fr ts) (Qt I L l calls lits st ts ol) ol&&aBK lits (Qt I L l calls lits st ts ol))=true)
  (he:Zh I L calls st (hJ st.fr ts) (Qt I L l calls lits st ts ol) ol (Kb (Ox l) []) 0 l=Zf L calls lits conds st (hJ st.fr ts) (Qt I L l calls lits st ts ol) ol (Kb (Ox l) []) 0 l)
  (hF:(stP st (hJ st.fr ts) L (Qt I L l calls lits st ts ol) ol (fun j=>Nat.blt j l.length)).keep ts' os'=some stF)(hk:fN P E L Q tl stF):pwp P E (.region id L.toArray true) Q st:=by
 simp only[cM]at hw;exact aDM hG hm hL (fun e he=>⟨sW e he,sK e he⟩) hc hl hA ts' os' hw.1 hw.2 he hF hk
end
def aRY(L:List Nat)(x:PV):Bool:=match L with | []=>x.pure | _=>x.scalar
section
variable {P:Program} {E:Env} {I:Inf} {Q:gK} {st:St}
end
def Ct:T->T->Bool
 | .int k _,.int k' _=>decide (k=k')
 | .str _,.str _=>true
 | _,_=>false
class MKey (K:Type) where
 kT:K->T
 lt:K->K->Bool
 eq:DecidableEq K
 inj:∀ a b,kT a=kT b->a=b
 same:∀ a b,Ct (kT a) (kT b)=true
instance (K:Type)[MKey K]:DecidableEq K:=MKey.eq
instance:MKey ByteArray where
 kT:=.str
 lt a b:=Op.bytesLess a.toList b.toList
 eq:=inferInstance
 inj a b h:=by injection h
 same _ _:=by rfl
instance:MKey Int where
 kT n:=.int .i64 n
 lt a b:=decide (a<b)
 eq:=inferInstance
 inj a b h:=by injection h
 same _ _:=by rfl
section
variable {K V:Type} [MKey K]
def lC(v:List (K×V))(k:K):List (K×V):=v.filter fun p=>decide (p.1≠k)
def aMN(k:K)(c:V):List (K×V)->List (K×V)
 | []=>[(k,c)]
 | p::l=>match MKey.lt k p.1 with | true=>(k,c)::p::l | false=>p::aMN k c l
def Lr(v:List (K×V))(k:K)(c:V):List (K×V):=aMN k c (lC v k)
def uE:List (K×V)->K->Option V
 | [],_=>none
 | p::l,k=>if p.1=k then some p.2 else uE l k
def eM(enc:V->Mem)(v:List (K×V)):List (T×Mem):=v.map fun p=>(MKey.kT p.1,enc p.2)
def dH(v:List (K×V)):List K:=v.map (·.1)
def kTs(l:List K):List T:=l.map MKey.kT
theorem Ca(k:K)(c:V):∀ l:List (K×V),(aMN k c l).Perm ((k,c)::l)
 | []=>.refl _
 | p::l=>by
  simp only[aMN];split
  ·exact .refl _
  ·exact((Ca k c l).cons p).trans (.swap ..)
theorem Do(v:List (K×V))(k:K)(c:V):(Lr v k c).Perm ((k,c)::lC v k):=Ca k c _
theorem sZ{v:List (K×V)}{k:K}(h:uE v k=none):k∉dH v:=by
 induction v with
 | nil=>simp[dH]
 | cons p l ih=>
  simp only[uE]at h;split at h
  ·cases h
  ·rename_i hp;have:=ih h;simp only[dH,kX,aW,not_or]at this ⊢;exact⟨fun e=>hp e.symm,this⟩
theorem xO{v:List (K×V)}{k:K}(h:k∉dH v):lC v k=v:=by refine List.filter_eq_self.2 fun p hp=>?_;simp only[pI];intro e;exact h (e▸Bd hp)
theorem Pk{v:List (K×V)}{k:K}{c:V}(hn:(dH v).Nodup)(h:uE v k=some c):v.Perm ((k,c)::lC v k):=by
 induction v with
 | nil=>simp[uE]at h
 | cons p l ih=>
  simp only[dH,kX,wM]at hn;simp only[uE]at h;split at h
  ·rename_i hp;injection h with h;have:lC (p::l) k=l:=by have hl:lC l k=l:=xO (hp▸hn.1);unfold lC at hl ⊢;rw[List.filter_cons_of_neg (by simp[hp])];exact hl
   rw[this,<-h,<-hp]
  ·rename_i hp;have:=ih hn.2 h;have e:lC (p::l) k=p::lC l k:=by unfold lC;rw[List.filter_cons_of_pos (by simpa using hp)]
   rw[e];exact(this.cons p).trans (.swap ..)
theorem Uk{enc:V->Mem}{v v':List (K×V)}(h:v.Perm v'):(eM enc v).Perm (eM enc v'):=h.map _
theorem Ee{enc:V->Mem}{v:List (K×V)}:(eM enc v).map (·.1)=kTs (dH v):=by simp[eM,kTs,dH,List.map_map,Function.comp_def]
theorem aOW{l:List K}{k:K}:MKey.kT k∈kTs l↔k∈l:=by simp only[kTs,dW];exact⟨fun⟨a,h1,h2⟩=>MKey.inj _ _ h2▸h1,fun h=>⟨k,h,rfl⟩⟩
theorem Zy{l:List K}(h:(kTs l).Nodup):l.Nodup:=by
 induction l with
 | nil=>simp
 | cons a l ih=>simp only[kTs,kX,wM]at h;exact wM.2 ⟨fun hm=>h.1 (Bd hm),ih h.2⟩
theorem aDF{enc:V->Mem}{v:List (K×V)}(h:((eM enc v).map (·.1)).Nodup):(dH v).Nodup:=Zy (by rw[<-Ee (enc:=enc)]; exact h)
end
section
variable {F:Nat->Prop} {g:Nat->Value} {w:World} {b clock:Nat} {es:Array MapEntry} {it:Option Iter}
theorem lU.perm{β:Type}{R:α->β->Prop}{l l':List α}(hp:l.Perm l'):∀ {r:List β},lU R l r->∃ r':List β,lU R l' r'/\(l.zip r).Perm (l'.zip r')/\r.Perm r':=by
 induction hp with
 | nil=>intro r h; cases h; exact⟨[],.nil,.refl _,.refl _⟩
 | cons x _ ih=>
  intro r h;cases h with
  | cons h t=>obtain⟨r',h1,h2,h3⟩:=ih t;exact⟨_::r',.cons h h1,by simpa using h2,h3.cons _⟩
 | swap x y l=>
  intro r h;cases h with
  | cons h t=>cases t with
   | cons h' t=>exact⟨_::_::_,.cons h' (.cons h t),by simpa using .swap ..,.swap ..⟩
 | trans _ _ ih1 ih2=>intro r h;obtain⟨r1,h1,h2,h3⟩:=ih1 h;obtain⟨r2,h4,h5,h6⟩:=ih2 h1;exact⟨r2,h4,h2.trans h5,h3.trans h6⟩
def Ih(z:List ((T×Mem)×MapEntry)):Prop:=z.Pairwise fun a c=>a.1.2.owned=true->c.1.2.owned=true->∀ x,blk a.2.val=some x->blk c.2.val=some x->False
theorem aLN{m:List (T×Mem)}{l:List MapEntry}(h:∀ (i j:Nat) x y e e' c,m[i]? = some x->m[j]? = some y->l[i]? = some e->l[j]? = some e'->i≠j->x.2.owned=true->y.2.owned=true->blk e.val=some c->blk e'.val=some c->False):
  Ih (m.zip l):=by
 unfold Ih;rw[List.pairwise_iff_getElem];intro i j hi hj hlt ho ho' x hx hx';simp only[List.length_zip]at hi hj;rw[List.getElem_zip]at ho ho' hx hx';exact h i j m[i] m[j] l[i] l[j] x (gG (by omega)) (gG (by omega)) (gG (by omega)) (gG (by omega)) (by omega) ho ho' hx hx'
theorem aKU{m:List (T×Mem)}{l:List MapEntry}(h:Ih (m.zip l)):∀ (i j:Nat) x y e e' c,m[i]? = some x->m[j]? = some y->l[i]? = some e->l[j]? = some e'->i≠j->x.2.owned=true->y.2.owned=true->blk e.val=some c->blk e'.val=some c->False:=by
 unfold Ih at h;rw[List.pairwise_iff_getElem]at h;have key:∀ (i j:Nat) x y e e' c,m[i]? = some x->m[j]? = some y->l[i]? = some e->l[j]? = some e'->i<j->x.2.owned=true->y.2.owned=true->blk e.val=some c->blk e'.val=some c->False:=by intro i j x y e e' c hx hy he he' hlt ho ho' hb hb';obtain⟨h1,rfl⟩:=eK.1 hx;obtain⟨h2,rfl⟩:=eK.1 hy;obtain⟨h3,rfl⟩:=eK.1 he;obtain⟨h4,rfl⟩:=eK.1 he';exact h i j (by simp; omega) (by simp; omega) hlt (by simpa using ho) (by simpa using ho') c (by simpa using hb) (by simpa using hb')
 intro i j x y e e' c hx hy he he' hne ho ho' hb hb';rcases Nat.lt_or_gt_of_ne hne with h' | h'
 ·exact key i j x y e e' c hx hy he he' h' ho ho' hb hb'
 ·exact key j i y x e' e c hy hx he' he h' ho' ho hb' hb
theorem Ih.perm{z z':List ((T×Mem)×MapEntry)}(h:Ih z)(hp:z.Perm z'):Ih z':=by unfold Ih at h ⊢;exact(hp.pairwise_iff (fun {a c} h ho ho' x hx hx'=>h ho' ho x hx' hx)).1 h
theorem MpR.permM{m m':List (T×Mem)}{ho:Option (T×Option PV)}{l:List MapEntry}(h:MpR F g w b es clock it m ho l r)(hp:m.Perm m'):∃ l',MpR F g w b es clock it m' ho l' r:=by obtain⟨l',h1,h2,h3⟩:=h.ent.perm hp;refine⟨l',((h3.append_right r).symm).trans h.perm,h1,h.hole,?_,h.born,h.old,aKU ((aLN h.sep).perm h2),h.it⟩;exact(((hp.map _).append_right _).nodup_iff).1 h.keys
theorem MpR.focus{m:List (T×Mem)}{k:T}{y:Mem}{l:List MapEntry}(h:MpR F g w b es clock it ((k,y)::m) none l r){g':Nat->Value}{p:Option PV}(hp:∀ q,p=some q->∀ v,xR F w y v->(∃ e,e∈es.toList/\e.val=v/\KeyR k e.key)->VR F g' w q v)
  (hit:ItR g' w b es clock it):∃ e l',l=e::l'/\KeyR k e.key/\xR F w y e.val/\e∈es.toList/\MpR F g' w b es clock it m (some (k,p)) l' [e]:=by
 have hr:=h.hole;simp only[mV]at hr;subst hr;have hperm:=h.perm;cases hent:h.ent with
 | @cons _ e _ l' hR t=>
  have he:e∈es.toList:=hperm.mem_iff.1 (by simp);refine⟨e,l',rfl,hR.1,hR.2,he,⟨?_,t,?_,?_,h.born,h.old,fun i j x y' e1 e2 c hx hy h1 h2 hne=>h.sep (i+1) (j+1) x y' e1 e2 c (by simpa using hx) (by simpa using hy) (by simpa using h1) (by simpa using h2) (by omega),hit⟩⟩
  ·rw[jD]at hperm;refine List.Perm.trans ?_ hperm;exact pB (l₁:=l') (l₂:=[e])
  ·cases p with
   | none=>exact .inr ⟨e,rfl,hR.1⟩
   | some q=>exact⟨e,rfl,hR.1,hp q rfl _ hR.2 ⟨e,he,rfl,hR.1⟩⟩
  ·have hk:=h.keys;simp only[kX,hoK,jD]at hk ⊢;refine(List.Perm.nodup_iff ?_).1 hk;exact pB (l₁:=[k]) (l₂:=m.map (·.1))
end
def Nv:T->Option TypeDesc
 | .int k _=>some (.int k)
 | .str _=>some .string
 | _=>none
section
variable {P:Program} {w:World}
theorem zG{k:T}{kv:Value}(hk:KeyR k kv){kd:TypeDesc}(hd:Nv k=some kd):∀ (es:List MapEntry) (i:Nat),(∀ e,e∈es->∃ k',KeyR k' e.key/\Ct k k'=true) ->
  (Instr.findNow kd kv es i=some none/\∀ e,e∈es->¬ KeyR k e.key)\/∃ j e,es[j]? = some e/\KeyR k e.key/\Instr.findNow kd kv es i=some (some (i+j,e.val))
 | [],i,_=>.inl ⟨rfl,by simp⟩
 | e::es,i,h=>by
  obtain⟨k',h1,h2⟩:=h e (by simp);have ih:=zG hk hd es (i+1) fun e' he=>h e' (cU _ he);have hs:∃ q,Instr.sameNow kd kv e.key=some q/\(q=true↔k=k'):=by
   generalize e.key=u at h1;cases hk with
   | int q n=>
    cases h1 with
    | int q' n'=>simp only[Ct,pI]at h2;subst h2;simp only[Nv,gL]at hd;subst hd;exact⟨n==n',by simp[Instr.sameNow],by simp⟩
    | str s=>cases h2
   | str s=>
    cases h1 with
    | int q' n'=>cases h2
    | str s'=>simp only[Nv,gL]at hd;subst hd;exact⟨s==s',by simp[Instr.sameNow],by rw[MapKept.bytes_beq]; exact⟨fun h=>by rw[h],fun h=>by injection h⟩⟩
  obtain⟨q,hs,hq⟩:=hs;simp only[Instr.findNow,hs];cases q with
  | true=>have hkk:=hq.1 rfl;subst hkk;exact .inr ⟨0,e,by simp,h1,rfl⟩
  | false=>
   have hkk:k≠k':=fun e=>by have:=hq.2 e; cases this
   rcases ih with⟨h3,h4⟩ | ⟨j,e',h3,h4,h5⟩
   ·refine .inl ⟨h3,fun x hx=>?_⟩;rcases aW.1 hx with rfl | hx
    ·exact fun hk'=>hkk (hk'.inj h1)
    ·exact h4 x hx
   ·exact .inr ⟨j+1,e',by simpa using h3,h4,by rw[h5,nY,Nat.add_comm 1 j]⟩
structure aMI (P:Program)(t:TypeId)(k:T)(kt et:TypeId)(kd:TypeDesc):Prop where
 und:P.underlying t=some (.map kt et)
 key:P.underlying kt=some kd
 d:Nv k=some kd
theorem tN{t:TypeId}{k:T}(hT:aMI P t k kt et kd)(em:Bool)(v:Value)(n:Nat):(Instr.checkKey em (n+1) kt v).run P w = .ok () w:=by
 have hd:=hT.d;unfold Instr.checkKey;simp only[Sem.run_bind,run_underlying hT.key,Result.andThen_ok];cases k with
 | int q m=>simp only[Nv,gL]at hd; subst hd; cases v <;> rfl
 | str s=>simp only[Nv,gL]at hd; subst hd; cases v <;> rfl
 | _=>cases hd
theorem Hm{t:TypeId}{k:T}(hT:aMI P t k kt et kd)(hk:KeyR k kv)(es:List MapEntry)(h:∀ e,e∈es->∃ k',KeyR k' e.key/\Ct k k'=true):
  ((Instr.findKey kt kv es).run P w = .ok none w/\∀ e,e∈es->¬ KeyR k e.key)\/∃ j e,es[j]? = some e/\KeyR k e.key/\(Instr.findKey kt kv es).run P w = .ok (some (j,e.val)) w:=by
 have hf:=zG hk hT.d es 0 h;unfold Instr.findKey;simp only[Sem.run_bind,run_underlying hT.key,Result.andThen_ok];rcases hf with⟨h1,h2⟩ | ⟨j,e,h1,h2,h3⟩
 ·exact .inl ⟨by rw[h1]; rfl,h2⟩
 ·exact .inr ⟨j,e,h1,h2,by rw[h3,eZ]; rfl⟩
end
def yT(N:List Nat)(o d:Nat)(x' y:aY)(st:St):Option St:=
 match pE d N,Nat.beq d o,st.erase d with
 | true,false,some st1=>some { fr:=st1.fr,hp:=(d,y)::(o,x')::del o st1.hp }
 | _,_,_=>none
section
variable {P:Program} {E:Env} {I:Inf} {F:Nat->Prop} {g:Nat->Value} {st st2:St} {a:Act} {w:World}
theorem cJ.focus(hN:E.N=I.N)(r:cJ E F g st a w){d:Nat}{x' y:aY}(u:Value)(hl:bI st.hp o=some x)(hs:yT I.N o d x' y st=some st2)
  (hx':∀ g',(∀ k,k≠d->g' k=g k)->g' d=u->dA F g' w o x')(hy:∀ g',(∀ k,k≠d->g' k=g k)->g' d=u->dA F g' w d y)
  (fx:∀ g' b,(∀ k,k≠d->g' k=g k)->g' d=u->bD g' w o x' b->bD g w o x b)(fy:∀ g' b,(∀ k,k≠d->g' k=g k)->g' d=u->bD g' w d y b->bD g w o x b)
  (dis:∀ g' b,(∀ k,k≠d->g' k=g k)->g' d=u->bD g' w o x' b->bD g' w d y b->False):
  d≠o/\∃ g',g' d=u/\(∀ k,k≠d->g' k=g k)/\cJ E F g' st2 a w:=by
 unfold yT at hs;split at hs
 ·rename_i st1 hn hdo he;cases hs;have hdo:=oH hdo;have ho:=fun k (hk:k≠d)=>bQ g u hk;have hlm:=aT hl;refine⟨hdo,upd g d u,bL ..,ho,r.nt,r.df,fun t z hz=>?_,⟨?_,r.w.f0,r.w.f1,r.w.ext,fun k hk=>?_,r.w.b0⟩⟩
  ·obtain⟨h1,h2⟩:=St.erase_fr he t z hz;exact(r.fr t z h1).mono (fun b hb=>⟨hb,rfl⟩) (fun k hk=>ho k (h2 k hk))
  ·have old:∀ k z,(k,z)∈del o st1.hp->k≠o/\∃ z',(k,z')∈st.hp/\dA F (upd g d u) w k z/\∀ b,bD (upd g d u) w k z b->bD g w k z' b:=by
    intro k z hz;obtain⟨h1,h2⟩:=bB.1 hz;obtain⟨z',h3,h4,h5,h6,h7⟩:=St.erase_hp he k z h1;exact⟨h2,z',h3,(h6 _ _ _ (r.w.hp.obj k z' h3)).mono (fun b hb=>⟨hb,rfl⟩) (ho k h4) (fun k' hk'=>ho k' (h5 k' hk')) (fun _ _=>rfl),
     fun b hb=>h7 _ _ _ (hb.mono (ho k h4) (fun k' hk'=>ho k' (h5 k' hk')) (fun _ _=>rfl))⟩
   have foot:∀ k z b,(k,z)∈(d,y)::(o,x')::del o st1.hp->bD (upd g d u) w k z b->∃ k' z',(k',z')∈st.hp/\bD g w k' z' b/\(k=k'\/k=d/\k'=o):=by
    intro k z b hz hb;rcases aW.1 hz with e | hz
    ·cases e; exact⟨o,x,hlm,fy _ b ho (bL ..) hb,.inr ⟨rfl,rfl⟩⟩
    ·rcases aW.1 hz with e | hz
     ·cases e; exact⟨o,x,hlm,fx _ b ho (bL ..) hb,.inl rfl⟩
     ·obtain⟨_,z',h1,_,h3⟩:=old k z hz;exact⟨k,z',h1,h3 b hb,.inl rfl⟩
   refine⟨fun k z hz=>?_,fun k z b hz hb=>?_,fun k z k' z' b hz hz' hne hb hb'=>?_⟩
   ·rcases aW.1 hz with e | hz
    ·cases e; exact hy _ ho (bL ..)
    ·rcases aW.1 hz with e | hz
     ·cases e; exact hx' _ ho (bL ..)
     ·exact(old k z hz).2.choose_spec.2.1
   ·obtain⟨k',z',h1,h2,_⟩:=foot k z b hz hb;exact r.w.hp.own k' z' b h1 h2
   ·have hmem:∀ k z,(k,z)∈(d,y)::(o,x')::del o st1.hp->k=d/\z=y\/k=o/\z=x'\/k≠o/\(k,z)∈del o st1.hp:=by
     intro k z hz;rcases aW.1 hz with e | hz
     ·cases e; exact .inl ⟨rfl,rfl⟩
     ·rcases aW.1 hz with e | hz
      ·cases e; exact .inr (.inl ⟨rfl,rfl⟩)
      ·exact .inr (.inr ⟨(bB.1 hz).2,hz⟩)
    obtain⟨q,z1,h1,h2,h3⟩:=foot k z b hz hb;obtain⟨q',z1',h1',h2',h3'⟩:=foot k' z' b hz' hb';by_cases hq:q=q'
    ·subst hq;rcases h3 with h3 | ⟨h3,h4⟩
     ·rcases h3' with h3' | ⟨h3',h4'⟩
      ·exact hne (h3.trans h3'.symm)
      ·subst h3'; subst h4'; subst h3;rcases hmem _ _ hz with⟨e1,e2⟩ | ⟨e1,e2⟩ | ⟨e1,e2⟩
       ·exact hne e1
       ·subst e2;rcases hmem _ _ hz' with⟨_,e4⟩ | ⟨e3,e4⟩ | ⟨e3,e4⟩
        ·subst e4; exact dis _ b ho (bL ..) hb hb'
        ·exact hdo e3
        ·obtain⟨z',h3,h4,_⟩:=St.erase_hp he _ _ (bB.1 e4).1;exact h4 rfl
       ·exact e1 rfl
     ·subst h3; subst h4;rcases h3' with h3' | ⟨h3',h4'⟩
      ·subst h3';rcases hmem _ _ hz' with⟨e1,e2⟩ | ⟨e1,e2⟩ | ⟨e1,e2⟩
       ·exact hdo e1.symm
       ·subst e2;rcases hmem _ _ hz with⟨_,e4⟩ | ⟨e3,e4⟩ | ⟨e3,e4⟩
        ·subst e4; exact dis _ b ho (bL ..) hb' hb
        ·exact hdo e3
        ·obtain⟨z',h3,h4,_⟩:=St.erase_hp he _ _ (bB.1 e4).1;exact h4 rfl
       ·exact e1 rfl
      ·exact hne h3'.symm
    ·exact r.w.hp.sep q z1 q' z1' b h1 h1' hq h2 h2'
  ·rw[ho k (fun e:k=d=>fI hn (by rw[<-e,<-hN]; exact hk))];exact r.w.names k hk
 ·cases hs
theorem iF{ops l:List Oper}{o:Oper}{rest:List Oper}{Q:gK}(hl:l=o::rest)(hw:cP ops o st=some true)
  (h:∀ F g a w,cJ E F g st a w->∃ n v w' st',(execOp a.eval o).run P w = .ok n w'/\(n = .value v\/(n = .skip/\v=undef))/\Rel E st' (a.put o.dst v) w'/\fN P E ops Q rest st'):fN P E ops Q l st:=by
 subst hl;intro a w r;refine wpList_step fun K hK=>?_;obtain⟨F,g,r⟩:=r;have hwt:=fR (ops:=ops.toArray) r (by simpa using hw);obtain⟨n,v,w',st',h1,h2,h3,h4⟩:=h F g a w r;rw[aA hwt];unfold Oper.wp;rw[h1];rcases h2 with rfl | ⟨rfl,rfl⟩
 ·exact hK _ _ (h4 _ _ h3)
 ·exact hK _ _ (h4 _ _ h3)
def Um(ti:Nat->Option eE)(t:Nat)(k:T):Option Nat:=
 match ti t with
 | some i=>match i.und with
  | .mp kt et=>match ti kt with
   | some j=>match j.und,k with
    | .int .i64,.int .i64 _=>some et
    | .str,.str _=>some et
    | _,_=>none
   | none=>none
  | _=>none
 | none=>none
theorem aDU(hI:kK P I.ti){et:Nat}{k:T}(h:Um I.ti t k=some et):∃ kt kd,aMI P t k kt et kd:=by
 unfold Um at h;split at h
 ·rename_i i hi;split at h
  ·rename_i kt et' hu;split at h
   ·rename_i j hj;have hm:=(hI _ _ hi).und; rw[hu]at hm;have hk:=(hI _ _ hj).und;split at h
    ·rename_i hu' ; rw[hu']at hk; cases h; exact⟨kt,_,hm,hk,rfl⟩
    ·rename_i hu' ; rw[hu']at hk; cases h; exact⟨kt,_,hm,hk,rfl⟩
    ·cases h
   ·cases h
  ·cases h
 ·cases h
end
section
variable {F:Nat->Prop} {g:Nat->Value} {w:World} {b clock:Nat} {es:Array MapEntry} {it:Option Iter} {K V:Type} [MKey K] {enc:V->Mem}
theorem MpR.kinds{v:List (K×V)}{ho:Option (T×Option PV)}{l:List MapEntry}(h:MpR F g w b es clock it (eM enc v) ho l r)(hh:∀ k p,ho=some (k,p)->∃ k':K,k=MKey.kT k')(k:K):
  ∀ e,e∈es.toList->∃ k',KeyR k' e.key/\Ct (MKey.kT k) k'=true:=by
 intro e he;rcases dZ.1 (h.perm.mem_iff.2 he) with hl | hr
 ·obtain⟨j,y,hy,_,hR⟩:=h.ent.memr hl;have:=kV hy;simp only[eM,dW]at this;obtain⟨p,_,rfl⟩:=this;exact⟨_,hR.1,MKey.same _ _⟩
 ·have hho:=h.hole;rcases ho with _ | ⟨q,p⟩
  ·simp only[mV]at hho; subst hho; simp at hr
  ·obtain⟨k',rfl⟩:=hh q p rfl;have:KeyR (MKey.kT k') e.key:=by
    cases p with
    | none=>
     rcases hho with rfl | ⟨e',rfl,h2⟩
     ·simp at hr
     ·simp at hr; subst hr; exact h2
    | some p=>obtain⟨e',rfl,h2,_⟩:=hho;simp at hr; subst hr; exact h2
   exact⟨_,this,MKey.same _ _⟩
end
section
variable {F:Nat->Prop} {g g':Nat->Value} {w:World} {b clock ob d:Nat} {es:Array MapEntry} {it:Option Iter}
theorem ItR.agree{it:Option Iter}(h:ItR g w b es clock it)(hg:∀ k,k∈itN it->g' k=g k):ItR g' w b es clock it:=by
 cases it with
 | none=>exact True.intro
 | some i=>obtain⟨r,since,seen,c0,e1,e⟩:=h;exact⟨r,since,seen,c0,by rw[hg i.o (by simp[itN])]; exact e1,e⟩
theorem bD.perm{m m':List (T×Mem)}{ho:Option (T×Option PV)}(hp:m.Perm m'){x:Nat}(h:bD g w ob (.mp it m ho) x):bD g w ob (.mp it m' ho) x:=by
 cases h with
 | self h=>exact .self h
 | iter h=>exact .iter h
 | mem h1 h2 h3 h4 h5 h6 h7=>exact .mem h1 h2 h3 (hp.mem_iff.1 h4) h5 h6 h7
theorem bD.cons{m:List (T×Mem)}{ho ho':Option (T×Option PV)}{y:T×Mem}{x:Nat}(h:bD g w ob (.mp it m ho) x):bD g w ob (.mp it (y::m) ho') x:=by
 cases h with
 | self h=>exact .self h
 | iter h=>exact .iter h
 | mem h1 h2 h3 h4 h5 h6 h7=>exact .mem h1 h2 h3 (cU _ h4) h5 h6 h7
theorem bD.agree(ho:g' ob=g ob)(hg:∀ k,k∈itN it->g' k=g k){m:List (T×Mem)}{hl:Option (T×Option PV)}{c:Nat}(hx:x = .mp it m hl)(h:bD g' w ob x c):bD g w ob x c:=by
 subst hx;cases h with
 | self h=>exact .self (ho▸h)
 | iter h=>exact .iter (by rw[<-hg _ (by simp[itN])]; exact h)
 | mem h1 h2 h3 h4 h5 h6 h7=>exact .mem (by rw[<-ho]; exact h1) h2 h3 h4 h5 h6 h7
theorem pN.ts{u:Value}{l:List T}(h:pN F g w u (l.map .t))(g':Nat->Value):pN F g' w u (l.map .t):=
 h.mono (fun b hb=>⟨hb,rfl⟩) (fun o ho=>by rw[Mm]at ho; simp at ho) (fun _ _=>rfl)
end
section
variable {P:Program} {E:Env} {I:Inf} {F:Nat->Prop} {g:Nat->Value} {st:St} {a:Act} {w:World} {K V:Type} [MKey K]
theorem VR.key{k:T}{v:Value}(h:VR F g w (.t k) v)(hd:Nv k=some kd):KeyR k v:=by
 have h:=h.cells_t rfl;cases k with
 | int q n=>rw[h.inv_int]; exact .int ..
 | str s=>rw[h.inv_str]; exact .str ..
 | _=>cases hd
theorem MpR.found{b clock:Nat}{es:Array MapEntry}{it:Option Iter}{enc:V->Mem}{v:List (K×V)}{l:List MapEntry}(h:MpR F g w b es clock it (eM enc v) none l r)(k:K):
  (uE v k=none->∀ e,e∈es.toList->¬ KeyR (MKey.kT k) e.key)/\(∀ c,uE v k=some c->(eM enc v).Perm ((MKey.kT k,enc c)::eM enc (lC v k))/\∃ e,e∈es.toList/\KeyR (MKey.kT k) e.key):=by
 have hnd:(dH v).Nodup:=aDF (enc:=enc) (Ix.1 h.keys).1;have hr:=h.hole;simp only[mV]at hr;subst hr;refine⟨fun hn e he hk=>?_,fun c hc=>?_⟩
 ·have:=h.perm.mem_iff.2 he;rw[jD]at this;obtain⟨j,y,hy,_,hR⟩:=h.ent.memr this;have hy:=kV hy;simp only[eM,dW]at hy;obtain⟨p,hp,rfl⟩:=hy;have:p.1=k:=MKey.inj _ _ (hR.1.inj hk);exact sZ hn (this▸Bd hp)
 ·have hp:=Uk (enc:=enc) (Pk hnd hc);refine⟨hp,?_⟩;obtain⟨j,e,h1,h2,h3⟩:=h.ent.mem (hp.mem_iff.2 (dI ..));exact⟨e,h.perm.mem_iff.1 (tE _ (kV h2)),h3.1⟩
end
theorem aIT{l:List α}{i:Nat}{e e':α}(h:l[i]? = some e):l.Perm (e::l.eraseIdx i)/\(l.set i e').Perm (e'::l.eraseIdx i):=by
 induction l generalizing i with
 | nil=>simp at h
 | cons x l ih=>
  cases i with
  | zero=>simp only[List.getElem?_cons_zero,gL]at h;subst h;exact⟨.refl _,.refl _⟩
  | succ i=>obtain⟨h1,h2⟩:=ih (by simpa using h);exact⟨(h1.cons x).trans (.swap ..),by simpa using (h2.cons x).trans (.swap ..)⟩
section
variable {P:Program} {w:World}
theorem Ep{k:T}{v:Value}(h:KeyR k v)(n:Nat):Instr.sameBits (n+1) v v=true:=by
 cases h with
 | int q m=>simp[Instr.sameBits]
 | str s=>simp only[Instr.sameBits]; rw[MapKept.bytes_beq]
theorem Bo{t:TypeId}{k:T}(hT:aMI P t k kt et kd)(hk:KeyR k kv){b clock:Nat}{es:Array MapEntry}(hb:w.heap[b]? = some (.map es clock))
  (h:∀ e,e∈es.toList->∃ k',KeyR k' e.key/\Ct k k'=true)(old:∀ e,e∈es.toList->e.born<clock)(hn:(es.toList.map (·.born)).Nodup)(u:Value):
  ∃ es' clock' e',(Instr.mapUpdate t (.map (some b)) kv u).run P w = .ok () { w with heap:=w.heap.setIfInBounds b (.map es' clock') }/\e'.key=kv/\e'.val=u/\(es'.toList.map (·.born)).Nodup /\
   (∀ e,e∈es'.toList->e.born<clock')/\(((∀ e,e∈es.toList->¬ KeyR k e.key)/\es'.toList.Perm (e'::es.toList))\/∃ e0 q,e0∈es.toList/\KeyR k e0.key/\es.toList.Perm (e0::q)/\es'.toList.Perm (e'::q)/\e'.born=e0.born/\clock'=clock):=by
 have hf:=Hm (w:=w) hT hk es.toList h;rcases hf with⟨h1,h2⟩ | ⟨j,e0,h1,h2,h3⟩
 ·refine⟨es.push { key:=kv,val:=u,born:=clock },clock+1,{ key:=kv,val:=u,born:=clock },?_,rfl,rfl,?_,?_,.inl ⟨h2,?_⟩⟩
  ·unfold Instr.mapUpdate;simp only[Sem.run_bind,run_underlying hT.und,Result.andThen_ok,Go.run_getObj_map w b es clock hb,tN hT,h1,MapKept.run_setObj_map _ hb]
  ·simp only[Array.toList_push,Cj,kX,List.map_nil];rw[Ix];refine⟨hn,by simp,fun x hx y hy=>?_⟩;simp only[cE]at hy;obtain⟨e,he,rfl⟩:=dW.1 hx;have:=old e he;omega
  ·intro e he;simp only[Array.toList_push,dZ,cE]at he;rcases he with he | rfl
   ·have:=old e he; omega
   ·exact Nat.lt_succ_self _
  ·rw[Array.toList_push];exact pB (l₁:=es.toList) (l₂:=[_])
 ·have hj:j<es.size:=by have:=(eK.1 h1).1; simpa using this
  have hj':es[j]? = some e0:=by simpa using h1
  have hkey:e0.key=kv:=h2.inj' hk;have hmod:(es.modify j fun e=>{ e with key:=kv,val:=u }).toList=es.toList.set j { e0 with key:=kv,val:=u }:=by
   refine List.ext_getElem? fun i=>?_;rw[qR];simp only[zC,Ja];split
   ·rename_i hij;subst hij;rw[hj'];simp[hj]
   ·rfl
  have hp:=aIT (e':={ e0 with key:=kv,val:=u }) h1;refine⟨es.modify j fun e=>{ e with key:=kv,val:=u },clock,{ e0 with key:=kv,val:=u },?_,rfl,rfl,?_,?_,.inr ⟨e0,_,kV h1,h2,hp.1,by rw[hmod]; exact hp.2,rfl,rfl⟩⟩
  ·have hstay:(Instr.keyThatStays ((es[j]?.map (·.key)).getD kv) kv).run P w = .ok kv w:=by rw[hj',pK,Ax,hkey];unfold Instr.keyThatStays;rw[show (10000:Nat)=9999+1 from rfl,aA (Ep hk 9999)];simp
   unfold Instr.mapUpdate;simp only[Sem.run_bind,run_underlying hT.und,Result.andThen_ok,Go.run_getObj_map w b es clock hb,tN hT,h3,hstay,MapKept.run_setObj_map _ hb]
  ·rw[hmod];have:(es.toList.set j { e0 with key:=kv,val:=u }).map (·.born)=es.toList.map (·.born):=by
    refine List.ext_getElem? fun i=>?_;rw[fA,qR,fA];split
    ·rename_i hij; subst hij; rw[h1]; simp[hj]
    ·rfl
   rw[this]; exact hn
  ·intro e he;rw[hmod]at he;rcases List.mem_or_eq_of_mem_set he with he | rfl
   ·exact old e he
   ·exact old e0 (kV h1)
end
section
variable {F:Nat->Prop} {g:Nat->Value} {w:World} {b clock:Nat} {es es':Array MapEntry}
theorem MpR.rest{it:Option Iter}{m:List (T×Mem)}{k:T}{p:Option PV}{l:List MapEntry}(h:MpR F g w b es clock it m (some (k,p)) l r):
  ((∀ e,e∈es.toList->¬ KeyR k e.key)->r=[])/\(∀ e0 q,e0∈es.toList->KeyR k e0.key->es.toList.Perm (e0::q)->r=[e0]/\l.Perm q):=by
 have hk:=h.keys;rw[Ix]at hk;have hnot:∀ e,e∈l->¬ KeyR k e.key:=by intro e he hke;obtain⟨j,y,hy,_,hR⟩:=h.ent.memr he;exact hk.2.2 _ (Bd (kV hy)) k (by simp[hoK]) (hR.1.inj hke)
 have hr:r=[]\/∃ e,r=[e]/\KeyR k e.key:=by
  have hh:=h.hole;cases p with
  | none=>exact hh
  | some p=>obtain⟨e,h1,h2,_⟩:=hh; exact .inr ⟨e,h1,h2⟩
 refine⟨fun hn=>?_,fun e0 q he0 hk0 hq=>?_⟩
 ·rcases hr with rfl | ⟨e,rfl,he⟩
  ·rfl
  ·exact absurd he (hn e (h.perm.mem_iff.1 (by simp)))
 ·have he0':=h.perm.mem_iff.2 he0;rcases hr with rfl | ⟨e,rfl,he⟩
  ·rw[jD]at he0'; exact absurd hk0 (hnot e0 he0')
  ·rcases dZ.1 he0' with h1 | h1
   ·exact absurd hk0 (hnot e0 h1)
   ·simp only[cE]at h1;subst h1;refine⟨rfl,?_⟩;have h2:=h.perm.trans hq;have h3:(l++[e0]).Perm (e0::l):=pB (l₁:=l) (l₂:=[e0]);exact List.Perm.cons_inv (h3.symm.trans h2)
end
def aFZ(it:Option Iter)(k:T):Prop:=∀ i,it=some i->i.cur=some k
def Im(o q:Nat)(x':aY)(st:St):Option St:=
 match Nat.beq q o,st.erase q with
 | false,some st1=>some { fr:=st1.fr,hp:=(o,x')::del o st1.hp }
 | _,_=>none
section
variable {P:Program} {E:Env} {I:Inf} {F:Nat->Prop} {g:Nat->Value} {st st2:St} {a:Act} {w:World}
theorem cJ.merge(r:cJ E F g st a w){q:Nat}{x' y:aY}(hl:bI st.hp o=some x)(hq:bI st.hp q=some y)(hs:Im o q x' st=some st2)
  (hx':dA F g w o x')(hf:∀ b,bD g w o x' b->bD g w o x b\/bD g w q y b):cJ E F g st2 a w:=by
 unfold Im at hs;split at hs
 ·rename_i st1 hqo he;cases hs;have hqo:=oH hqo;have hlm:=aT hl;have hqm:=aT hq;have old:∀ k z,(k,z)∈del o st1.hp->k≠o/\k≠q/\∃ z',(k,z')∈st.hp/\dA F g w k z/\∀ b,bD g w k z b->bD g w k z' b:=by intro k z hz;obtain⟨h1,h2⟩:=bB.1 hz;obtain⟨z',h3,h4,h5,h6,h7⟩:=St.erase_hp he k z h1;exact⟨h2,h4,z',h3,h6 _ _ _ (r.w.hp.obj k z' h3),h7 _ _⟩
  refine⟨r.nt,r.df,fun t z hz=>r.fr t z (St.erase_fr he t z hz).1,⟨⟨fun k z hz=>?_,fun k z b hz hb=>?_,fun k z k' z' b hz hz' hne hb hb'=>?_⟩,r.w.f0,r.w.f1,r.w.ext,r.w.names,r.w.b0⟩⟩
  ·rcases aW.1 hz with e | hz
   ·cases e; exact hx'
   ·exact(old k z hz).2.2.choose_spec.2.1
  ·rcases aW.1 hz with e | hz
   ·cases e;rcases hf b hb with h | h
    ·exact r.w.hp.own _ _ b hlm h
    ·exact r.w.hp.own _ _ b hqm h
   ·obtain⟨_,_,z',h1,_,h3⟩:=old k z hz;exact r.w.hp.own k z' b h1 (h3 b hb)
  ·have key:∀ k z,(k,z)∈del o st1.hp->bD g w k z b->bD g w o x' b->False:=by
    intro k z hz hb hb';obtain⟨h1,h2,z',h3,_,h4⟩:=old k z hz;rcases hf b hb' with h | h
    ·exact r.w.hp.sep k z' o x b h3 hlm h1 (h4 b hb) h
    ·exact r.w.hp.sep k z' q y b h3 hqm h2 (h4 b hb) h
   rcases aW.1 hz with e | hz
   ·cases e;rcases aW.1 hz' with e' | hz'
    ·cases e'; exact hne rfl
    ·exact key k' z' hz' hb' hb
   ·rcases aW.1 hz' with e' | hz'
    ·cases e'; exact key k z hz hb hb'
    ·obtain⟨_,_,u,h1,_,h3⟩:=old k z hz;obtain⟨_,_,u',h1',_,h3'⟩:=old k' z' hz';exact r.w.hp.sep k u k' u' b h1 h1' hne (h3 b hb) (h3' b hb')
 ·cases hs
end
section
variable {F:Nat->Prop} {g:Nat->Value} {w:World} {b clock ob:Nat} {es:Array MapEntry} {it:Option Iter} {K V:Type} [MKey K]
theorem MpR.fill{m:List (T×Mem)}{kk:T}{l:List MapEntry}(h:MpR F g w b es clock it m (some (kk,some p)) l r)(hb:w.heap[b]? = some (.map es clock)){y:Mem}(hy:∀ e,e∈es.toList->VR F g w p e.val->xR F w y e.val)
  (hsep:∀ e c,e∈es.toList->VR F g w p e.val->blk e.val=some c->¬ bD g w ob (.mp it m (some (kk,some p))) c)(hob:g ob = .map (some b)):∃ l',MpR F g w b es clock it ((kk,y)::m) none l' []:=by
 obtain⟨e,hr,hk,hv⟩:=h.hole;subst hr;have he:e∈es.toList:=h.perm.mem_iff.1 (by simp);refine⟨e::l,?_,.cons ⟨hk,hy e he hv⟩ h.ent,rfl,?_,h.born,h.old,?_,h.it⟩
 ·rw[jD];exact(pB (l₁:=[e]) (l₂:=l)).trans h.perm
 ·have:=h.keys;simp only[hoK,kX,jD]at this ⊢;exact(List.Perm.nodup_iff (pB (l₁:=[kk]) (l₂:=m.map (·.1)))).2 this
 ·have hnew:∀ (j:Nat) x e' c,m[j]? = some x->l[j]? = some e'->x.2.owned=true->blk e.val=some c->blk e'.val=some c->False:=by intro j x e' c hx he' ho h1 h2;have hR:=h.ent.get.2 j x e' hx he';exact hsep e c he hv h1 (.mem hob hb (h.perm.mem_iff.1 (tE _ (kV he'))) (kV hx) hR.1 ho h2)
  intro i j x y' e1 e2 c hx hy' h1 h2 hne ho ho' hc hc';cases i with
  | zero=>
   simp at hx h1;subst hx; subst h1;cases j with
   | zero=>exact hne rfl
   | succ j=>exact hnew j y' e2 c (by simpa using hy') (by simpa using h2) ho' hc hc'
  | succ i=>
   cases j with
   | zero=>simp at hy' h2;subst hy'; subst h2;exact hnew i x e1 c (by simpa using hx) (by simpa using h1) ho hc' hc
   | succ j=>exact h.sep i j x y' e1 e2 c (by simpa using hx) (by simpa using hy') (by simpa using h1) (by simpa using h2) (by omega) ho ho' hc hc'
end
section
variable {P:Program} {E:Env} {I:Inf} {F:Nat->Prop} {g:Nat->Value} {st st2:St} {a:Act} {w:World} {K V:Type} [MKey K]
theorem aUA{enc:V->Mem}(v:List (K×V))(k:K)(c:V):((MKey.kT k,enc c)::eM enc (lC v k)).Perm (eM enc (Lr v k c)):=(Uk (enc:=enc) (Do v k c)).symm
theorem Le.gap{it:Option Iter}{enc:V->Mem}(v:List (K×V))(k:K)(hl:bI st.hp o=some (.mp it (eM enc v) none)):
  Le E st { st with hp:=(o,.mp it (eM enc (lC v k)) (some (MKey.kT k,none)))::del o st.hp }:=by
 refine Le.objF _ hl (fun F g w h=>?_) (fun g w c h=>?_)
 ·obtain⟨b,es,clock,e1,e2,l1,r1,hM⟩:=h;refine⟨b,es,clock,e1,e2,?_⟩;cases hlk:uE v k with
  | none=>rw[xO (sZ hlk)];have hr1:=hM.hole;simp only[mV]at hr1;subst hr1;refine⟨l1,[],hM.perm,hM.ent,.inl rfl,?_,hM.born,hM.old,hM.sep,hM.it⟩;have hkk:=hM.keys;simp only[hoK,jD]at hkk ⊢;rw[Ix];refine⟨hkk,by simp,fun q hq q' hq'=>?_⟩;simp only[cE]at hq';subst hq';intro e';rw[Ee,e',aOW]at hq;exact sZ hlk hq
  | some c=>obtain⟨hp,_⟩:=(hM.found k).2 c hlk;obtain⟨l2,hM2⟩:=hM.permM hp;obtain⟨e,l',_,_,_,_,h⟩:=hM2.focus (g':=g) (p:=none) (fun q hq=>by cases hq) hM.it;exact⟨_,_,h⟩
 ·cases h with
  | self h=>exact .self h
  | iter h=>exact .iter h
  | mem h1 h2 h3 h4 h5 h6 h7=>refine .mem h1 h2 h3 ?_ h5 h6 h7;simp only[eM,lC,dW,tD]at h4 ⊢;obtain⟨p,⟨hp,_⟩,rfl⟩:=h4;exact⟨p,hp,rfl⟩
theorem aSY{w w':World}{F:Nat->Prop}{g:Nat->Value}{b clock clock':Nat}{es es':Array MapEntry}{it:Option Iter}{m:List (T×Mem)}{k:T}{p:Option PV}{l r':List MapEntry}{e':MapEntry} 
  (hM:MpR F g w b es clock it m (some (k,p)) l r')(hset:w'.heap[b]? = some (.map es' clock')/\∀ c,c≠b->w'.heap[c]? = w.heap[c]?)(hcur:aFZ it k)(hkv:KeyR k kv)(hk':e'.key=kv)
  (h7:((∀ e,e∈es.toList->¬ KeyR k e.key)/\es'.toList.Perm (e'::es.toList))\/∃ e0 q,e0∈es.toList/\KeyR k e0.key/\es.toList.Perm (e0::q)/\es'.toList.Perm (e'::q)/\e'.born=e0.born/\clock'=clock)
  (e2:w.heap[b]? = some (.map es clock)):ItR g w' b es' clock' it:=by
 cases it with
 | none=>exact True.intro
 | some i=>
  obtain⟨rr,since,seen,c0,i1,i2,i3,i4,i5,i6,i7,i8⟩:=hM.it;have hne:rr≠b:=by intro e; subst e; rw[e2]at i2; cases i2
  obtain⟨j1,⟨e,he,hke,q',hq'⟩,hnk⟩:=i8 _ (hcur i rfl);rcases h7 with⟨a1,_⟩ | ⟨e0,q,a1,a2,a3,a4,a5,a6⟩
  ·exact absurd hke (a1 e he)
  ·subst a6;have hk0:e0.key=kv:=a2.inj' hkv;have hke0:∀ k2,KeyR k2 e'.key↔KeyR k2 e0.key:=fun k2=>by rw[hk',hk0]
   have hmem:∀ x,x∈es'.toList->x=e'\/x∈es.toList:=fun x hx=>by
    rcases aW.1 (a4.mem_iff.1 hx) with h | h
    ·exact .inl h
    ·exact .inr (a3.mem_iff.2 (cU _ h))
   have hmem':∀ x,x∈es.toList->x=e0\/x∈es'.toList:=fun x hx=>by
    rcases aW.1 (a3.mem_iff.1 hx) with h | h
    ·exact .inl h
    ·exact .inr (a4.mem_iff.2 (cU _ h))
   have hin:e'∈es'.toList:=a4.mem_iff.2 dI;have hee:e=e0:=by
    rcases aW.1 (a3.mem_iff.1 he) with h | h
    ·exact h
    ·have hr1:=(hM.rest.2 e0 q a1 a2 a3).1;obtain⟨q2,hq2⟩:=List.append_of_mem he;obtain⟨s2,hq2⟩:=hq2;have hp2:es.toList.Perm (e::(q2++s2)):=by rw[hq2]; exact List.perm_middle
     have hr2:=(hM.rest.2 e _ he hke hp2).1;rw[hr1]at hr2;exact((List.cons.inj hr2).1).symm
   subst hee;refine⟨rr,since,seen,c0,i1,by rw[hset.2 rr hne]; exact i2,fun x hx=>?_,i4,fun x hx=>?_,fun k2 hk2=>?_,i7,fun k2 hc2=>?_⟩
   ·rcases hmem x hx with rfl | h
    ·rw[a5]; exact i3 _ a1
    ·exact i3 x h
   ·rcases hmem x hx with rfl | h
    ·rw[a5,<-i5 _ a1];exact⟨fun⟨k2,h1,h2⟩=>⟨k2,h1,(hke0 k2).1 h2⟩,fun⟨k2,h1,h2⟩=>⟨k2,h1,(hke0 k2).2 h2⟩⟩
    ·exact i5 x h
   ·obtain⟨x,hx,hkx⟩:=i6 k2 hk2;rcases hmem' x hx with rfl | h
    ·exact⟨e',hin,(hke0 k2).2 hkx⟩
    ·exact⟨x,h,hkx⟩
   ·obtain⟨l1,⟨x,hx,hkx,q2,hs2⟩,l3⟩:=i8 k2 hc2;refine⟨l1,⟨e',hin,?_,q2,?_⟩,l3⟩
    ·have:k2=k:=by have h1:=hcur i rfl;rw[hc2]at h1;exact pJ h1
     subst this;rw[hk']; exact hkv
    ·have:x.born=e.born:=by
      have h1:seen.back? = some x.born:=by rw[hs2]; simp
      have h2:seen.back? = some e.born:=by rw[hq']; simp
      rw[h1]at h2;exact pJ h2
     rw[a5,<-this]; exact hs2
theorem aFR(hG:fE P E I){ops l:List Oper}{o:Oper}{rest:List Oper}{Q:gK}{ob et:Nat}{x kx vx:Operand}{it:Option Iter}{enc:V->Mem}(v:List (K×V))(k:K)(p:PV)
  (hl:l=o::rest)(hop:o.op = .mapUpdate t x kx vx\/o.op = .insert t x kx vx)(hd:o.dst=none)(hw:cP ops o st=some true)(hx:ev st x=some (.map ob))(hk:ev st kx=some (.t (MKey.kT k)))(hv:ev st vx=some p)
  (hob:bI st.hp ob=some (.mp it (eM enc v) (some (MKey.kT k,none))))(hm:Um I.ti t (MKey.kT k)=some et)(hcur:aFZ it (MKey.kT k))
  (h1:fN P E ops Q rest { st with hp:=(ob,.mp it (eM enc v) (some (MKey.kT k,some p)))::del ob st.hp }):fN P E ops Q l st:=by
 refine iF hl hw fun F g a w r=>?_;obtain⟨kt,kd,hT⟩:=aDU hG.ti hm;obtain⟨b,es,clock,e1,e2,l1,r1,hM⟩:=r.w.hp.obj _ _ (aT hob);have hxv:=bV r hx;have hkv:=(bV r hk).key hT.d;have hpv:=bV r hv;obtain⟨u,hu⟩:∃ u,a.eval x=u:=⟨_,rfl⟩;obtain⟨kv,hkv'⟩:∃ u,a.eval kx=u:=⟨_,rfl⟩;obtain⟨z,hz⟩:∃ u,a.eval vx=u:=⟨_,rfl⟩;rw[hu]at hxv; rw[hkv']at hkv; rw[hz]at hpv;cases hxv with
 | map hg=>
  rw[e1]at hg; injection hg with hg; injection hg with hg; subst hg;obtain⟨es',clock',e',h2,h3,h4,h5,h6,h7⟩:=Bo (P:=P) (w:=w) hT hkv e2 (hM.kinds (fun k' p' he=>by cases he; exact⟨k,rfl⟩) k) hM.old hM.born z;have hset:=vT (o':=.map es' clock') e2;have hFb:¬ F b:=(r.w.hp.own _ _ b (aT hob) (.self (by rw[e1]; rfl))).1;have hF:∀ c,F c->F c/\({ w with heap:=w.heap.setIfInBounds b (.map es' clock') }:World).heap[c]? = w.heap[c]?:=fun c hc=>⟨hc,hset.2 c (fun e=>hFb (e▸hc))⟩;have hperm:(l1++[e']).Perm es'.toList:=by
   have hc:(l1++[e']).Perm (e'::l1):=pB (l₁:=l1) (l₂:=[e']);rcases h7 with⟨a1,a2⟩ | ⟨e0,q,a1,a2,a3,a4,a5,a6⟩
   ·have:=hM.rest.1 a1;subst this;have hp1:=hM.perm;rw[jD]at hp1;exact hc.trans ((hp1.cons e').trans a2.symm)
   ·obtain⟨b1,b2⟩:=hM.rest.2 e0 q a1 a2 a3;exact hc.trans ((b2.cons e').trans a4.symm)
  have hold:∀ e,e∈l1->e∈es.toList:=fun e he=>hM.perm.mem_iff.1 (tE _ he);have hexec:(execOp a.eval o).run P w = .ok .skip ({ w with heap:=w.heap.setIfInBounds b (.map es' clock') }):=by unfold execOp;rcases hop with hop | hop <;> simp[hop,hu,hkv',hz,h2]
  have hobj:dA F g ({ w with heap:=w.heap.setIfInBounds b (.map es' clock') }) ob (.mp it (eM enc v) (some (MKey.kT k,some p))):=by
   refine⟨b,es',clock',e1,hset.1,l1,[e'],hperm,?_,⟨e',rfl,by rw[h3]; exact hkv,by rw[h4]; exact hpv.mono hF (fun _ _=>rfl)⟩,hM.keys,h5,h6,hM.sep,?_⟩
   rotate_left
   ·exact aSY hM hset hcur (r':=r1) hkv h3 h7 e2
   refine hM.ent.mono fun y e hy he hR=>⟨hR.1,hR.2.mono hF fun c ho hc=>hset.2 c (fun e'=>?_)⟩;subst e';obtain⟨vs,ty,hcell⟩:=hR.2.block ho hc;rw[e2]at hcell; cases hcell
  have hft:∀ c,bD g ({ w with heap:=w.heap.setIfInBounds b (.map es' clock') }) ob (.mp it (eM enc v) (some (MKey.kT k,some p))) c->bD g w ob (.mp it (eM enc v) (some (MKey.kT k,none))) c:=by
   intro c hc;cases hc with
   | self h=>exact .self h
   | iter h=>exact .iter h
   | @mem _ _ _ _ bm cl es2 e x h1 h2 h3' h4' h5' h6' h7'=>
    rw[e1]at h1; injection h1 with h1; injection h1 with h1; subst h1;rw[hset.1]at h2; injection h2 with h2; injection h2 with h2 h2'; subst h2;rcases dZ.1 (hperm.mem_iff.2 h3') with hh | hh
    ·exact .mem e1 e2 (hold e hh) h4' h5' h6' h7'
    ·simp only[cE]at hh;subst hh;exfalso;rw[h3]at h5';have hk':=hM.keys;rw[Ix]at hk';exact hk'.2.2 _ (Bd h4') (MKey.kT k) (by simp[hoK]) (h5'.inj hkv)
  exact⟨_,undef,{ w with heap:=w.heap.setIfInBounds b (.map es' clock') },_,hexec,.inr ⟨rfl,rfl⟩,by rw[hd]; exact⟨F,g,r.writeF (y:=.mp it (eM enc v) (some (MKey.kT k,some p))) (aT hob) (.self (by rw[e1]; rfl)) hset.2 (by simp) rfl rfl rfl hobj hft⟩,h1⟩
end
section
variable {P:Program} {E:Env} {I:Inf} {F:Nat->Prop} {g:Nat->Value} {st st2:St} {a:Act} {w:World} {K V:Type} [MKey K]
theorem cJ.same{w':World}(r:cJ E F g st a w)(hh:w'.heap=w.heap)(ho:w'.os=w.os)(ht:w'.tape=w.tape)(hu:w'.output=w.output):cJ E F g st a w':=by
 have hb:∀ b:Nat,w'.heap[b]? = w.heap[b]?:=fun b=>by rw[hh]
 have hf:∀ {o x b},bD g w' o x b->bD g w o x b:=fun h=>h.mono rfl (fun _ _=>rfl) (fun c _=>hb c);refine⟨r.nt,r.df.mono (fun b h=>⟨h,hb b⟩),fun t x hx=>(r.fr t x hx).mono (fun b h=>⟨h,hb b⟩) (fun _ _=>rfl),⟨⟨fun o x hx=>?_,fun o x b hx h=>r.w.hp.own o x b hx (hf h),fun o x o' y b hx hy hne h h'=>r.w.hp.sep o x o' y b hx hy hne (hf h) (hf h')⟩,r.w.f0,fun b h=>?_,?_,r.w.names,r.w.b0⟩⟩
 ·exact(r.w.hp.obj o x hx).mono (fun b h=>⟨h,hb b⟩) rfl (fun _ _=>rfl) (fun b _=>hb b)
 ·rw[hh]; exact r.w.f1 b h
 ·exact r.w.ext.trans ho ht hu (by rw[hh]; exact fJ _) (fun b _ _=>hb b)
theorem Mh(hG:fE P E I){ops l:List Oper}{o:Oper}{rest:List Oper}{Q:gK}{d:Nat}(enc:V->Mem)(hl:l=o::rest)(hop:o.op = .makeMap t none)(hd:o.dst=some d)(hw:cP ops o st=some true)
  (hnt:Nat.blt d I.nt=true)(hn:pE d I.N=true){st1:St}(he:st.erase d=some st1)(h1:fN P E ops Q rest ({ st1 with hp:=(d,.mp none (eM enc ([]:List (K×V))) none)::st1.hp }.put d (.map d))):fN P E ops Q l st:=by
 refine iF hl hw fun F g a w r=>?_;have hd':d<E.nt:=by rw[hG.nt]; simpa[fD] using hnt
 have hnew:(w.alloc (.map #[] 0)).heap[w.heap.size]? = some (.map #[] 0):=heap_alloc_new w _;obtain⟨g',hg'⟩:=r.allocF (x:=.mp none (eM enc ([]:List (K×V))) none) (v:=.map (some w.heap.size)) (w':=w.alloc (.map #[] 0)) (ob:=.map #[] 0) hd' (by rw[hG.N]; exact fI hn) he rfl rfl rfl rfl rfl
  (fun g' b hg hb=>by
   cases hb with
   | self h=>rw[hg]at h; exact h
   | mem _ _ _ h4=>simp[eM]at h4)
  (fun g' _ hg=>⟨w.heap.size,#[],0,hg,hnew,[],[],by simp,by simp only[eM,List.map_nil]; exact .nil,rfl,by simp[eM,hoK],by simp,by simp,by simp,True.intro⟩)
  (.map d) (fun g' hg=>.map hg)
 exact⟨_,.map (some w.heap.size),w.alloc (.map #[] 0),_,by unfold execOp; simp[hop,Instr.makeMap],.inl rfl,by rw[hd]; exact⟨F,g',hg'⟩,h1⟩
end
section
variable {P:Program} {E:Env} {I:Inf} {F:Nat->Prop} {g:Nat->Value} {st st2:St} {a:Act} {w:World} {K V:Type} [MKey K]
end
section
variable {P:Program} {E:Env} {I:Inf} {F:Nat->Prop} {g:Nat->Value} {st st2:St} {a:Act} {w:World} {K V:Type} [MKey K]
theorem Le.filld{it:Option Iter}{eD:V->T}(v:List (K×V))(k:K)(c:V)(hp:∀ F g w v,VR F g w p v->VR F g w (.t (eD c)) v)(hl:bI st.hp o=some (.mp it (eM (fun c=>.d (eD c)) (lC v k)) (some (MKey.kT k,some p)))):
  Le E st { st with hp:=(o,.mp it (eM (fun c=>.d (eD c)) (Lr v k c)) none)::del o st.hp }:=by
 refine Le.objF _ hl (fun F g w h=>?_) (fun g w x h=>?_)
 ·obtain⟨b,es,clock,e1,e2,l1,r1,hM⟩:=h;obtain⟨e,hr,hk,hv⟩:=hM.hole;have hv:=hp _ _ _ _ hv;subst hr;have hM':MpR F g w b es clock it ((MKey.kT k,Mem.d (eD c))::eM (fun c=>.d (eD c)) (lC v k)) none (e::l1) []:=by
   refine⟨?_,.cons ⟨hk,hv.cells_t rfl⟩ hM.ent,rfl,?_,hM.born,hM.old,?_,hM.it⟩
   ·rw[jD];exact(pB (l₁:=[e]) (l₂:=l1)).trans hM.perm
   ·have:=hM.keys;simp only[hoK,kX,jD]at this ⊢;exact(List.Perm.nodup_iff (pB (l₁:=[MKey.kT k]) (l₂:=(eM (fun c=>Mem.d (eD c)) (lC v k)).map (·.1)))).2 this
   ·intro i j x y e1 e2 c' hx hy h1 h2 hne ho;have:x.2.owned=false:=by
     cases i with
     | zero=>simp at hx; subst hx; rfl
     | succ i=>have:=kV (show (eM (fun c=>Mem.d (eD c)) (lC v k))[i]? = some x by simpa using hx);simp only[eM,dW]at this;obtain⟨p,_,rfl⟩:=this;rfl
    rw[this]at ho; cases ho
  obtain⟨l2,hM2⟩:=hM'.permM (aUA (enc:=fun c=>Mem.d (eD c)) v k c);exact⟨b,es,clock,e1,e2,l2,[],hM2⟩
 ·cases h with
  | self h=>exact .self h
  | iter h=>exact .iter h
  | mem h1 h2 h3 h4 h5 h6 h7=>simp only[eM,dW]at h4;obtain⟨p,_,rfl⟩:=h4;cases h6
end
section
variable {P:Program} {E:Env} {I:Inf} {st:St} {a:Act} {w:World} {K V:Type} [MKey K]
theorem lU.remap{α β γ:Type}{R:β->γ->Prop}{R':β->γ->Prop}{f f':α->β}:∀ {v:List α} {l:List γ},lU R (v.map f) l->(∀ p e,p∈v->e∈l->R (f p) e->R' (f' p) e)->lU R' (v.map f') l
 | [],_,h,_=>by cases h; exact .nil
 | p::v,_,h,hr=>by
  cases h with
  | cons h t=>exact .cons (hr p _ (by simp) (by simp) h) (lU.remap t fun q e hq he=>hr q e (cU _ hq) (cU _ he))
theorem cJ.fzmap{F:Nat->Prop}{g:Nat->Value}(r:cJ E F g st a w){it:Option Iter}{e:TypeId}{nn:V->Nat}{ff:V->Nat->List T}{eD:V->T}(v:List (K×V))(hv:∀ c,(eD c).view=some (nn c,ff c))
  (hl:bI st.hp o=some (.mp it (eM (fun c=>.row e s (nn c) (ff c)) v) none)):Rel E { st with hp:=(o,.mp it (eM (fun c=>.d (eD c)) v) none)::del o st.hp } a w:=by
 have hlm:=aT hl;obtain⟨b0,es,clock,e1,e2,l1,r1,hM⟩:=r.w.hp.obj _ _ hlm;let M:Nat->Prop:=fun b=>∃ en x,en∈es.toList/\x∈eM (fun c=>.row e s (nn c) (ff c)) v/\KeyR x.1 en.key/\blk en.val=some b;have hfoot:∀ b,M b->bD g w o (.mp it (eM (fun c=>.row e s (nn c) (ff c)) v) none) b:=by rintro b ⟨en,x,h1,h2,h3,h4⟩;refine .mem e1 e2 h1 h2 h3 ?_ h4;simp only[eM,dW]at h2;obtain⟨p,_,rfl⟩:=h2;rfl
 have hcell:∀ b,M b->∃ vs ty,w.heap[b]? = some (.cells vs ty (0,0)):=by
  rintro b ⟨en,x,h1,h2,h3,h4⟩;obtain⟨⟨_,hR⟩,_⟩:=hM.entry h2 h1 h3;simp only[eM,dW]at h2;obtain⟨p,_,rfl⟩:=h2;rcases hR with⟨h5,_⟩ | ⟨b',cap,cur,h5,h6,_⟩
  ·rw[h5]at h4; simp[blk]at h4
  ·rw[h5]at h4; simp[blk]at h4; subst h4; exact⟨_,_,h6⟩
 have hnew:∀ b,bD g w o (.mp it (eM (fun c=>.d (eD c)) v) none) b->bD g w o (.mp it (eM (fun c=>.row e s (nn c) (ff c)) v) none) b/\¬ M b:=by
  intro b h;cases h with
  | self h=>refine⟨.self h,fun hm=>?_⟩;obtain⟨vs,ty,hc⟩:=hcell b hm;rw[e1]at h; simp[blk]at h; subst h;rw[e2]at hc; cases hc
  | @iter i _ _ _ h=>refine⟨.iter h,fun hm=>?_⟩;obtain⟨vs,ty,hc⟩:=hcell b hm;obtain⟨rr,since,seen,c0,g1,g2,_⟩:=hM.it;rw[g1]at h; simp[blk]at h; subst h;rw[g2]at hc; cases hc
  | mem h1 h2 h3 h4 h5 h6 h7=>simp only[eM,dW]at h4;obtain⟨p,_,rfl⟩:=h4;cases h6
 refine⟨fun b=>F b\/M b,g,r.nt,r.df.mono (fun _ h=>⟨.inl h,rfl⟩),fun t x hx=>(r.fr t x hx).mono (fun b hb=>⟨.inl hb,rfl⟩) (fun _ _=>rfl),⟨⟨fun k y hy=>?_,fun k y b hy hb=>?_,fun k y k' y' b hy hy' hne hb hb'=>?_⟩,fun b hb=>.inl (r.w.f0 b hb),fun b hb=>?_,r.w.ext,r.w.names,r.w.b0⟩⟩
 ·rcases aW.1 hy with he | hy
  ·cases he;have hr1:=hM.hole;refine⟨b0,es,clock,e1,e2,l1,r1,hM.perm,?_,hr1,?_,hM.born,hM.old,fun i j x y' e1 e2 c hx hy h1 h2 hne ho=>?_,hM.it⟩
   ·refine lU.remap hM.ent fun p en hp hen hR=>⟨hR.1,?_⟩;refine Ae (g:=fun _=>en.val) (o:=0) (F:=F) (e:=e) (s:=s) hR.2 (fun b hb=>.inl hb) (fun b hb=>.inr ⟨en,_,hM.perm.mem_iff.1 (tE _ hen),Bd hp,hR.1,hb⟩) (hv p.2)
   ·have:=hM.keys;rw[Ee]at this ⊢;exact this
   ·have:=kV hx;simp only[eM,dW]at this;obtain⟨p,_,rfl⟩:=this;cases ho
  ·exact(r.w.hp.obj k y (bB.1 hy).1).mono (fun b hb=>⟨.inl hb,rfl⟩) rfl (fun _ _=>rfl) (fun _ _=>rfl)
 ·rcases aW.1 hy with he | hy
  ·cases he;obtain⟨h1,h2⟩:=hnew b hb;obtain⟨h3,h4⟩:=r.w.hp.own _ _ b hlm h1;exact⟨fun h=>h.elim h3 h2,h4⟩
  ·obtain⟨hy1,hy2⟩:=bB.1 hy;obtain⟨h3,h4⟩:=r.w.hp.own _ _ b hy1 hb;exact⟨fun h=>h.elim h3 fun hm=>r.w.hp.sep k y o _ b hy1 hlm hy2 hb (hfoot b hm),h4⟩
 ·rcases aW.1 hy with he | hy
  ·rcases aW.1 hy' with he' | hy'
   ·cases he; cases he'; exact hne rfl
   ·cases he;obtain⟨h1,h2⟩:=bB.1 hy';exact r.w.hp.sep _ _ k' y' b hlm h1 hne (hnew b hb).1 hb'
  ·obtain⟨h1,h2⟩:=bB.1 hy;rcases aW.1 hy' with he' | hy'
   ·cases he';exact r.w.hp.sep k y _ _ b h1 hlm hne hb (hnew b hb').1
   ·exact r.w.hp.sep k y k' y' b h1 (bB.1 hy').1 hne hb hb'
 ·rcases hb with hb | hb
  ·exact r.w.f1 b hb
  ·obtain⟨vs,ty,hc⟩:=hcell b hb;have:=(r.w.hp.own _ _ b hlm (hfoot b hb)).2;exact⟨(oO.1 hc).1,this.elim (fun h=>.inr (.inl h)) (fun h=>.inr (.inr h))⟩
theorem Le.fzmap{o:Nat}{it:Option Iter}{e:TypeId}{s:Nat}{nn:V->Nat}{ff:V->Nat->List T}{eD:V->T}(v:List (K×V))(hv:∀ c,(eD c).view=some (nn c,ff c))
  (hl:bI st.hp o=some (.mp it (eM (fun c=>.row e s (nn c) (ff c)) v) none)):Le E st { st with hp:=(o,.mp it (eM (fun c=>.d (eD c)) v) none)::del o st.hp }:=fun _ _ r=>by
 obtain⟨F,g,r⟩:=r;exact r.fzmap v hv hl
end
inductive Kf where
 | s (y:Code)
 | b (id:Nat)
inductive Cfg where
 | c (x:Code) (ks:List Kf)
 | o (all l:List Oper) (ks:List Kf)
 | x (e:Exit) (ks:List Kf)
def kQ(P:Program)(E:Env):List Kf->gK->gK
 | [],Q=>Q
 | .s y::ks,Q=>wU P E y (kQ P E ks Q)
 | .b id::ks,Q=>kS id (kQ P E ks Q)
def cwp(P:Program)(E:Env)(g:Cfg)(Q:gK)(st:St):Prop:=
 match g with
 | .c x ks=>pwp P E x (kQ P E ks Q) st
 | .o all l ks=>fN P E all (kQ P E ks Q) l st
 | .x e ks=>∃ t,Le E st t/\kQ P E ks Q e t
def aSA:Cfg->Option Cfg
 | .c (.seq a b) ks=>some (.c a (.s b::ks))
 | .c (.block id a) ks=>some (.c a (.b id::ks))
 | .c (.region _ ops false) ks=>some (.o ops.toList ops.toList ks)
 | .c .skip ks=>some (.x .normal ks)
 | .c .ret ks=>some (.x .ret ks)
 | .c (.exit id) ks=>some (.x (.exit id) ks)
 | .o _ [] ks=>some (.x .normal ks)
 | .x .normal (.s y::ks)=>some (.c y ks)
 | .x .normal (.b _::ks)=>some (.x .normal ks)
 | .x .ret (_::ks)=>some (.x .ret ks)
 | .x (.panic ch) (_::ks)=>some (.x (.panic ch) ks)
 | .x (.exit i) (.s _::ks)=>some (.x (.exit i) ks)
 | .x (.exit i) (.b j::ks)=>match Nat.beq i j with | true=>some (.x .normal ks) | false=>some (.x (.exit i) ks)
 | _=>none
def nrm:Nat->Cfg->Cfg
 | 0,g=>g
 | n+1,g=>match aSA g with | some g'=>nrm n g' | none=>g
def aQM:Op->Bool
 | .call { callee:=.builtin .append,.. }=>true
 | _=>false
def apA(st:St)(j:eE)(p:PV)(o2:Nat):Option (Prop×(Nat->Bool)):=
 match p with
 | .nil=>match bI st.hp o2 with
  | some (.arm _ _ m f none)=>some ((0+m)*j.bytes<=140737488355328,fun i=>aEF j.size (f i))
  | _=>none
 | .own o1=>match bI st.hp o1,st.erase o1 with
  | some (.arm _ _ n _ none),some st0=>match bI st0.hp o2 with
   | some (.arm _ _ m f none)=>some ((n+m)*j.bytes<=140737488355328,fun i=>aEF j.size (f i))
   | _=>none
  | _,_=>none
 | _=>none
theorem aUV{I:Inf}{st st':St}{d o2:Nat}{j:eE}{C0 q:Prop}{f:Nat->Bool}(h:yX I st d e j p o2=some (st',C0))(hx:apA st j p o2=some (q,f))(hq:q)(hf:∀ i,f i=true):C0:=by
 unfold yX at h;unfold apA at hx;split at h
 ·cases p with
  | nil=>
   simp only at h hx;split at h
   ·rename_i e' s' m f' st1 hl he;rw[hl]at hx;cases hx;split at h
    ·cases h; exact⟨hq,fun i _=>hf i⟩
    ·cases h
   ·cases h
  | own o1=>
   simp only at h hx;split at h
   ·rename_i e1 s1 n f1 st0 hl1 he1;rw[hl1,he1]at hx;simp only at hx;split at h
    ·rename_i e' s' m f' st1 hl2 he2 hne;rw[hl2]at hx;cases hx;split at h
     ·cases h; exact⟨hq,fun i _=>hf i⟩
     ·cases h
    ·cases h
   ·cases h
  | _=>simp at h
 ·cases h
def apX(I:Inf)(st:St)(o:Oper):Option (Prop×(Nat->Bool)):=
 match o.op with
 | .call c=>match c.args.toList,c.argTypes.toList with
  | [s,x],[t,_]=>match I.ti t,ev st s,ev st x with
   | some i,some p,some q=>match i.und,sV st q with
    | .sl e,some (m,f2,_)=>match I.ti e with
     | some j=>match p with
      | .nil=>some ((0+m)*j.bytes<=140737488355328,fun i=>jR j.size (f2 i))
      | .own o=>match bI st.hp o with
       | some (.arr _ _ n _)=>some ((n+m)*j.bytes<=140737488355328,fun i=>jR j.size (f2 i))
       | _=>none
      | _=>none
     | _=>none
    | .sl e,none=>match I.ti e,q with
     | some j,.own o2=>apA st j p o2
     | _,_=>none
    | _,_=>none
   | _,_,_=>none
  | _,_=>none
 | _=>none
def aBQ(I:Inf)(all:List Oper)(o:Oper)(st:St):Option (St×List Prop×List (Nat->Bool)):=
 match zH I all o st with
 | none=>none
 | some (st',C)=>match aQM o.op,cP all o st with
  | true,some true=>match apX I st o with | some (p,f)=>some (st',[p],[f]) | none=>none
  | _,_=>some (st',C,[])
def run(I:Inf):Nat->Cfg->St->Option (Cfg×St×List Prop×List (Nat->Bool))
 | 0,g,st=>some (nrm 300 g,st,[],[])
 | n+1,g,st=>match nrm 300 g with
  | .o all (op::l) ks=>match aBQ I all op st with
   | some (st',C,f)=>match run I n (.o all l ks) st' with
    | some (g',st'',C',f')=>some (g',st'',C++C',f++f')
    | none=>none
   | none=>none
  | .c (.cond c x y) ks=>match ev st c with
   | some (.t (.bool true))=>run I n (.c x ks) st
   | some (.t (.bool false))=>run I n (.c y ks) st
   | _=>none
  | _=>none
section
variable {P:Program} {E:Env} {I:Inf} {Q:gK} {st st':St}
theorem kN{g:Cfg}(h:Le E st st')(hk:cwp P E g Q st'):cwp P E g Q st:=by
 cases g with
 | c x ks=>exact uK h hk
 | o all l ks=>exact iI h hk
 | x e ks=>obtain⟨t,h1,h2⟩:=hk; exact⟨t,h.trans h1,h2⟩
theorem aNW{g g':Cfg}(h:aSA g=some g')(hk:cwp P E g' Q st):cwp P E g Q st:=by
 unfold aSA at h;split at h
 ·cases h; exact aNT hk
 ·cases h; exact Xt hk
 ·rename_i id ops ks;cases h;have:ops=ops.toList.toArray:=by simp
  show pwp P E (.region id ops false) _ _;rw[this];exact Ai hk
 ·cases h; obtain⟨t,h1,h2⟩:=hk; exact uK h1 (aGZ h2)
 ·cases h; obtain⟨t,h1,h2⟩:=hk; exact uK h1 (aKN h2)
 ·cases h; obtain⟨t,h1,h2⟩:=hk; exact uK h1 (aBF h2)
 ·cases h; obtain⟨t,h1,h2⟩:=hk; exact iI h1 (aBX h2)
 ·cases h; exact⟨st,Le.refl,aRG hk⟩
 ·cases h; obtain⟨t,h1,h2⟩:=hk; exact⟨t,h1,aYY h2⟩
 ·rename_i k ks;cases h; obtain⟨t,h1,h2⟩:=hk;cases k with
  | s y=>exact⟨t,h1,aDL h2⟩
  | b id=>exact⟨t,h1,aLM h2⟩
 ·rename_i ch k ks;cases h; obtain⟨t,h1,h2⟩:=hk;cases k with
  | s y=>exact⟨t,h1,aGM h2⟩
  | b id=>exact⟨t,h1,aMT h2⟩
 ·cases h; obtain⟨t,h1,h2⟩:=hk; exact⟨t,h1,Xy h2⟩
 ·rename_i i j ks;split at h
  ·rename_i hij;cases h; obtain⟨t,h1,h2⟩:=hk;have:=cH hij;subst this;exact⟨t,h1,aNY h2⟩
  ·rename_i hij;cases h; obtain⟨t,h1,h2⟩:=hk;exact⟨t,h1,aHO (oH hij) h2⟩
 ·cases h
theorem zK:∀ {n:Nat} {g:Cfg},cwp P E (nrm n g) Q st->cwp P E g Q st
 | 0,_,h=>h
 | n+1,g,h=>by
  simp only[nrm]at h;split at h
  ·rename_i g' hg; exact aNW hg (zK h)
  ·exact h
theorem aWR{all:List Oper}{o:Oper}{C:List Prop}{p:Prop}{f:Nat->Bool}(ha:aQM o.op=true)(h:zH I all o st=some (st',C))(hw:cP all o st=some true)(hx:apX I st o=some (p,f))(hp:p)(hf:∀ i,f i=true):All C:=by
 obtain⟨dst,op,ty,pos,aft,gd⟩:=o;cases op with
 | call c=>
  obtain⟨callee,args,argTypes⟩:=c;cases callee with
  | builtin b=>
   cases b with
   | append=>
    unfold zH at h;simp only[hw]at h;have hs:∃ C0,jO I st { dst:=dst,op:=.call { callee:=.builtin .append,args:=args,argTypes:=argTypes },type:=ty,pos:=pos,after:=aft,guard:=gd }=some (st',C0)/\C=[C0]:=by
     split at h
     ·rename_i st1 C0 hs;cases h;exact⟨C0,hs,rfl⟩
     ·cases h
    obtain⟨C0,hs,rfl⟩:=hs;show C0;unfold jO at hs;unfold apX at hx;cases dst with
    | none=>simp at hs
    | some d=>
     simp only at hs hx;split at hs
     case h_2=>cases hs
     rename_i s x t t' h1 h2;rw[h1,h2]at hx;simp only at hx;split at hs
     case h_2=>cases hs
     rename_i i p0 q0 _ h3 h4 h5;rw[h3,h4,h5]at hx;simp only at hx;split at hs
     case h_3=>cases hs
     case h_2=>
      rename_i e h6 h7;rw[h6,h7]at hx;simp only at hx;split at hs
      ·rename_i j o2 h8;rw[h8]at hx;simp only at hx;exact aUV hs hx hp hf
      ·cases hs
     rename_i e m f2 s2 h6 h7;rw[h6,h7]at hx;simp only at hx;split at hs
     case h_2=>cases hs
     rename_i j h8;rw[h8]at hx;simp only at hx;split at hs
     case h_2=>cases hs
     cases p0 with
     | nil=>
      simp only at hs hx;cases hx;split at hs
      ·cases hs; exact⟨hp,fun i _=>hf i⟩
      ·cases hs
     | own oo=>
      simp only at hs hx;split at hs
      case h_2=>cases hs
      rename_i e' s' n f1 st1 h9 h10;rw[h9]at hx;simp only at hx;cases hx;split at hs
      ·cases hs; exact⟨hp,fun i _=>hf i⟩
      ·cases hs
     | _=>simp at hs
   | _=>cases ha
  | _=>cases ha
 | _=>cases ha
theorem aIQ(hG:fE P E I){all l:List Oper}{o:Oper}{C:List Prop}(h:aBQ I all o st=some (st',C,fs))(hC:All C)(hf:∀ f,f∈fs->∀ i,f i=true)
  (hk:fN P E all Q l st'):fN P E all Q (o::l) st:=by
 unfold aBQ at h;split at h
 ·cases h
 ·rename_i st1 C1 hs;have:st1=st'/\All C1:=by
   split at h
   ·rename_i hw;rename_i ha;split at h
    ·rename_i p f hx;cases h;exact⟨rfl,aWR ha hs hw hx hC (hf f (by simp))⟩
    ·cases h
   ·cases h; exact⟨rfl,hC⟩
  obtain⟨rfl,hC1⟩:=this;intro a w r;exact Ji hG (ops:=all.toArray) (by simpa using hs) hC1 r hk
theorem dV(hG:fE P E I):∀ {n:Nat} {g g':Cfg} {st st':St} {C:List Prop} {fs:List (Nat->Bool)},run I n g st=some (g',st',C,fs)->All C->(∀ f,f∈fs->∀ i,f i=true)->cwp P E g' Q st'->cwp P E g Q st
 | 0,g,g',st,st',C,fs,h,_,_,hk=>by simp only[run,gL,gM]at h;obtain⟨rfl,rfl,_⟩:=h;exact zK hk
 | n+1,g,g',st,st',C,fs,h,hC,hf,hk=>by
  simp only[run]at h;split at h
  ·rename_i all op l ks hg;split at h
   ·rename_i st1 C1 f1 hs;split at h
    ·rename_i g2 st2 C2 f2 hr;cases h;rw[All.append]at hC;refine zK (n:=300) ?_;rw[hg];exact aIQ hG hs hC.1 (fun f hm=>hf f (tE _ hm)) (dV hG hr hC.2 (fun f hm=>hf f (pM _ hm)) hk)
    ·cases h
   ·cases h
  ·rename_i c x y ks hg;refine zK (n:=300) ?_;rw[hg];split at h
   ·rename_i hc;exact Bc (b:=true) hc (fun _=>dV hG h hC hf hk) (fun e=>by cases e)
   ·rename_i hc;exact Bc (b:=false) hc (fun e=>by cases e) (fun _=>dV hG h hC hf hk)
   ·cases h
  ·cases h
end
structure Conv {α:Type}(f:Nat->Option α)(g:Option α):Prop where
 mono:∀ n y,f n=some y->f (n+1)=some y
 lim:∀ y,g=some y↔∃ n,f n=some y
theorem Conv.of_run{f:Nat->Option α}{g:Option α}(h:Conv f g)(n:Nat){y:α}(hy:f n=some y):g=some y:=(h.lim y).2 ⟨n,hy⟩
theorem Conv.run{f:Nat->Option α}{g:Option α}(h:Conv f g){y:α}(hy:g=some y):∃ n,f n=some y:=(h.lim y).1 hy
open Classical in
noncomputable def Lim {α:Type}(f:Nat->Option α):Option α:=match f 1000000000 with
 | some y=>some y
 | none=>if h:∃ y n,f n=some y then some h.choose else none
theorem Lim.or(f:Nat->Option α):(∃ y n,f n=some y/\Lim f=some y)\/(Lim f=none/\∀ y n,f n≠some y):=by
 unfold Lim;cases h:f 1000000000 with
 | some y=>exact .inl ⟨y,_,h,rfl⟩
 | none=>
  simp only;by_cases hx:∃ y n,f n=some y
  ·rw[dif_pos hx];obtain⟨n,hn⟩:=hx.choose_spec;exact .inl ⟨_,n,hn,rfl⟩
  ·rw[dif_neg hx];exact .inr ⟨rfl,fun y n hy=>hx ⟨y,n,hy⟩⟩
attribute [irreducible] Lim
theorem Lim.conv{f:Nat->Option α}(hm:∀ n y,f n=some y->f (n+1)=some y):Conv f (Lim f):=by
 have hle:∀ {n m:Nat},n<=m->∀ {y:α},f n=some y->f m=some y:=by
  intro n m h
  induction h with
  | refl=>exact fun h=>h
  | step _ ih=>exact fun h=>hm _ _ (ih h)
 refine⟨hm,fun y=>?_⟩;rcases Lim.or f with⟨z,m,hz,hl⟩ | ⟨hl,hn⟩
 ·rw[hl];constructor
  ·intro e; cases e; exact⟨m,hz⟩
  ·rintro⟨n,hn⟩;have h1:=hle (Nat.le_max_left n m) hn;have h2:=hle (Nat.le_max_right n m) hz;rw[h1]at h2; cases h2; rfl
 ·rw[hl];constructor
  ·intro e; cases e
  ·rintro⟨n,h⟩; exact absurd h (hn y n)
theorem Qd{b:S->Option (S⊕R)}{s:S}{r:R}(h:lO b n s=some r):lO b (n+1) s=some r:=by
 induction n generalizing s with
 | zero=>simp[lO]at h
 | succ n ih=>
  rw[lO]at h ⊢;cases hb:b s with
  | none=>simp[hb]at h
  | some x=>
   cases x with
   | inl s'=>simp only[hb]at h ⊢; exact ih h
   | inr r'=>simp only[hb]at h ⊢; exact h
noncomputable def bZ (b:S->Option (S⊕R))(s:S):Option R:=Lim fun n=>lO b n s
theorem mH(b:S->Option (S⊕R))(s:S):Conv (fun n=>lO b n s) (bZ b s):=Lim.conv fun _ _ h=>Qd h
theorem rM(b:S->Option (S⊕R))(s:S):bZ b s=match b s with | none=>none | some (.inl s')=>bZ b s' | some (.inr r)=>some r:=by
 have hc:=mH b s;cases hb:b s with
 | none=>
  simp only;cases hw:bZ b s with
  | none=>rfl
  | some y=>obtain⟨n,hn⟩:=hc.run hw; cases n <;> simp[lO,hb]at hn
 | some x=>
  cases x with
  | inr r=>exact hc.of_run 1 (by simp[lO,hb])
  | inl s'=>
   simp only;have hc':=mH b s';cases hw:bZ b s' with
   | some y=>obtain⟨n,hn⟩:=hc'.run hw; exact hc.of_run (n+1) (by simp[lO,hb,hn])
   | none=>
    cases hv:bZ b s with
    | none=>rfl
    | some y=>
     obtain⟨n,hn⟩:=hc.run hv;cases n with
     | zero=>simp[lO]at hn
     | succ n=>simp only[lO,hb]at hn; rw[hc'.of_run n hn]at hw; cases hw
theorem qP{b:S->Option (S⊕R)}{s s':S}(h:b s=some (.inl s')):bZ b s=bZ b s':=by rw[rM,h]
theorem kL{b:S->Option (S⊕R)}{s:S}{r:R}(h:b s=some (.inr r)):bZ b s=some r:=by rw[rM,h]
theorem Fi{b:S->Option (S⊕R)}{s:S}{r:R}(h:lO b n s=some r):bZ b s=some r:=(mH b s).of_run n h
end Go.PL
