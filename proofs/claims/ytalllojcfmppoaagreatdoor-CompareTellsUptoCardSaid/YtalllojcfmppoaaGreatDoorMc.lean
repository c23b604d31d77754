/-
  Parts: Regions whose order is open: each operation is looked at once, over what its forerunners give. Own work. Short forms of the rules, for printed proofs. Own work. Maps with numbers or strings as keys: what the model's operations do, and typed maps. Own work. Rules for maps whose values are boxes and rows of the map's own. Own work. Rules for maps: looking up, and what is found there under a name of its own. Own work. Rules for maps: writing and deleting entries. Own work. Rules for maps: writing, deleting, filling a gap. Own work. Rules for maps: making one, its length, loops over one. Own work. Rules for maps: the rounds of a loop over one. Own work. Rules for maps: rounds of a loop, by what the entries are; maps of data. Own work. Maps of rows become maps of data; an entry of a map of data, beside the map. Own work. A walker over code: runs of operations and control, by computation over abstract states. Own work. From functions of fuel to functions without fuel. Own work.
-/
import Derived.Test.YtalllojcfmppoaaGreatDoorMb
import Derived.KernelRfl
import Derived.Maps.RangeRun
set_option maxHeartbeats 4000000
namespace Go.PL
open Go
variable {Q':Exit->Act->World->Prop} {R S α:Type} {c e et k n o s t:Nat} {fr:Fr} {fs:List (Nat->Bool)} {hp:Hp} {kd:TypeDesc} {kt:TypeId} {kv u v z:Value} {kx x:Operand} {p:PV} {r:List MapEntry} {w':World} {x':bC} {y:Mem}
def cY{α:Type}:List (Nat×α)->List Nat
 | []=>[]
 | e::l=>e.1::cY l
theorem kG{l:List (Nat×α)}:o∈cY l↔∃ x,(o,x)∈l:=by
 induction l with
 | nil=>simp[cY]
 | cons e l ih=>
  obtain⟨k,y⟩:=e;simp only[cY,bB,ih,gD];constructor
  ·rintro (rfl | ⟨x,h⟩)
   ·exact⟨y,.inl ⟨rfl,rfl⟩⟩
   ·exact⟨x,.inr h⟩
  ·rintro⟨x,⟨rfl,_⟩ | h⟩
   ·exact .inl rfl
   ·exact .inr ⟨x,h⟩
def aFE(Hs:Hp):Option (Nat×bC)->Hp
 | none=>Hs
 | some c=>Hs.map fun e=>match Nat.beq e.1 c.1 with | true=>(e.1,c.2) | false=>e
def mdC:Option (Nat×bC)->Option (Nat×bC×Option Nat)
 | none=>none
 | some (o,x)=>some (o,x,none)
structure aEH (P:Program)(k:Nat)(args:List PV)(r:PV)(Hs:Hp)(ch:Option (Nat×bC)):Prop where
 c:gO P k
 h:(Hs=[]/\ch=none/\∃ bps,(∀ st,jQ st [] args bps)/\eX P k bps [] [] (Ret r))\/∃ bps N,(∀ st,jQ st [] args bps)/\eX P k bps Hs N (qN r (aFE Hs ch))/\nN r (aFE Hs ch) N=true/\∀ c,ch=some c->c.1∈cY Hs
 p:r.pure=true
def lkN:Nat:=1000000007
def cN:Nat:=1000000000
def Jh(P:Program)(t:TypeId)(args:List PV)(r:PV)(Hs:Hp):Prop:=
 ∀ (F:Nat->Prop) (g:Nat->Value) (w:World) (u kv:Value) (x y:PV),args=[x,y]->VR F g w x u->VR F g w y kv->(∀ e,e∈Hs->cI F g w e.1 e.2)->∃ z,(Instr.lookup t u kv false).run P w = .ok z w/\VR F g w r z
def Im:PV->Option Nat
 | .own d=>some d
 | .map d=>some d
 | _=>none
inductive vX (P:Program)(k:Nat)(args:List PV)(r:PV)(Hs:Hp)(ch:Option (Nat×bC)):Prop where
 | call (hk:Nat.blt k cN=true) (hr:Im r=none) (h:aEH P k args r Hs ch)
 | look (hk:Nat.blt k lkN=false) (h:Jh P (k-lkN) args r Hs)
 | new (hk:Nat.blt k cN=true) {d e s n:Nat} {f:Nat->List T} (hr:r = .own d) (hH:Hs=[]) (hc:ch=some (d,.arr e s n f)) (c:gO P k) {bps:List PV} (ha:∀ st,jQ st [] args bps)
   (h:eX P k bps [] [] (qN (.own d) [(d,.arr e s n f)]))
 | newH (hk:Nat.blt k cN=true) {d:Nat} {y:bC} (hr:r = .map d) (hc:ch=some (d,y)) (c:gO P k) {bps:List PV} {N:List Nat} (ha:∀ st,jQ st [] args bps)
   (h:eX P k bps Hs N (qN (.map d) ((d,y)::Hs))) (hb:nN (.map d) ((d,y)::Hs) (N++[d])=true)
theorem Pu(h:Nat.blt k cN=true)(h':Nat.blt k lkN=false):False:=by
 rw[dR]at h;have:Nat.blt k lkN=true:=by rw[dR]; unfold lkN; unfold cN at h; omega
 rw[h']at this; cases this
theorem vX.l{P:Program}{args:List PV}{r:PV}{Hs:Hp}{ch:Option (Nat×bC)}(h:vX P k args r Hs ch)(hk:Nat.blt k lkN=false):Jh P (k-lkN) args r Hs:=by
 cases h with
 | look _ h=>exact h
 | call hk' _ h=>exact(Pu hk' hk).elim
 | new hk'=>exact(Pu hk' hk).elim
 | newH hk'=>exact(Pu hk' hk).elim
theorem eX.renNew{P:Program}{bps:List PV}{f:Nat->List T}(d:Nat)(h:eX P k bps [] [] (qN (.own o) [(o,.arr e s n f)])):eX P k bps [] [] (qN (.own d) [(d,.arr e s n f)]):=by
 intro F g w vs hs hv hH hF hgl;refine(h F g w vs hs hv hH hF hgl).mono ?_;rintro ex w' ⟨v,r,H',F',g',he,⟨rfl,rfl⟩,hvr,hw⟩;refine⟨v,_,_,F',fun q=>if q=d then g' o else g' q,he,⟨rfl,rfl⟩,?_,⟨⟨?_,?_,?_⟩,hw.f0,hw.f1,hw.ext,(fun q hq=>by cases hq),hw.b0⟩⟩
 ·cases hvr with
  | own h=>exact .own (by simp[h])
 ·intro q x hx;obtain⟨rfl,rfl⟩:=Prod.mk.inj (fQ.1 hx);have:=hw.hp.obj o _ (fQ.2 rfl);have this:rB F' w' (g' o) e s n f:=this;show rB F' w' _ e s n f;simpa using this
 ·intro q x b hx hb;obtain⟨rfl,rfl⟩:=Prod.mk.inj (fQ.1 hx);cases hb with
  | self hb=>exact hw.hp.own o _ b (fQ.2 rfl) (.self (by simpa using hb))
 ·intro q x q' y b hx hy hne;obtain⟨rfl,rfl⟩:=Prod.mk.inj (fQ.1 hx);obtain⟨rfl,rfl⟩:=Prod.mk.inj (fQ.1 hy);exact absurd rfl hne
theorem eX.renMap{P:Program}{bps:List PV}{Hs:Hp}{N:List Nat}{m:List (T×Mem)}(d:Nat)(hd:d∉cY Hs)(ho:o∉cY Hs)(hn:∀ e,e∈Hs->∀ q,q∈e.2.names->q≠d)(hN:d∉N)
  (h:eX P k bps Hs N (qN (.map o) (Hs++[(o,.mp none m none)]))):eX P k bps Hs N (qN (.map d) ((d,.mp none m none)::Hs)):=by
 intro F g w vs hs hv hH hF hgl;refine(h F g w vs hs hv hH hF hgl).mono ?_;rintro ex w' ⟨v,r,H',F',g',he,⟨rfl,rfl⟩,hvr,hw⟩;have hk:∀ {q:Nat} {x:bC},(q,x)∈Hs->q≠d:=fun hx e=>hd (kG.2 ⟨_,e▸hx⟩);have hko:∀ {q:Nat} {x:bC},(q,x)∈Hs->q≠o:=fun hx e=>ho (kG.2 ⟨_,e▸hx⟩);have old:∀ {q:Nat} {x:bC} {b:Nat},(q,x)∈Hs->aZ (fun q=>if q=d then g' o else g' q) w' q x b->aZ g' w' q x b:=fun hx hf=>
  hf.mono (by simp[hk hx]) (fun z hz=>by simp[hn _ hx z hz]) (fun _ _=>rfl)
 have new:∀ {b:Nat},aZ (fun q=>if q=d then g' o else g' q) w' d (.mp none m none) b->aZ g' w' o (.mp none m none) b:=fun hf=>by
  cases hf with
  | self h=>exact .self (by simpa using h)
  | mem h1 h2 h3 h4 h5 h6 h7=>exact .mem (by simpa using h1) h2 h3 h4 h5 h6 h7
 refine⟨v,_,_,F',fun q=>if q=d then g' o else g' q,he,⟨rfl,rfl⟩,?_,⟨⟨?_,?_,?_⟩,hw.f0,hw.f1,hw.ext,fun q hq=>?_,hw.b0⟩⟩
 ·cases hvr with
  | map h=>exact .map (by simp[h])
 ·intro q x hx;rcases bB.1 hx with e | hx
  ·cases e;obtain⟨b,es,cl,h1,h2,l,r,hM⟩:=hw.hp.obj o _ (lA _ (fQ.2 rfl));exact⟨b,es,cl,by simp[h1],h2,l,r,hM.perm,hM.ent,hM.hole,hM.keys,hM.born,hM.old,hM.sep,True.intro⟩
  ·exact(hw.hp.obj q x (kL _ hx)).monoF (fun b hb=>⟨hb,rfl⟩) (by simp[hk hx]) (fun z hz=>by simp[hn _ hx z hz]) (fun _ _=>rfl)
 ·intro q x b hx hb;rcases bB.1 hx with e | hx
  ·cases e;exact hw.hp.own o _ b (lA _ (fQ.2 rfl)) (new hb)
  ·exact hw.hp.own q x b (kL _ hx) (old hx hb)
 ·intro q x q' y b hx hy hne h1 h2;rcases bB.1 hx with e | hx
  ·cases e;rcases bB.1 hy with e | hy
   ·cases e; exact hne rfl
   ·exact hw.hp.sep o _ q' y b (lA _ (fQ.2 rfl)) (kL _ hy) (fun e=>hko hy e.symm) (new h1) (old hy h2)
  ·rcases bB.1 hy with e | hy
   ·cases e;exact hw.hp.sep q x o _ b (kL _ hx) (lA _ (fQ.2 rfl)) (hko hx) (old hx h1) (new h2)
   ·exact hw.hp.sep q x q' y b (kL _ hx) (kL _ hy) hne (old hx h1) (old hy h2)
 ·have:q≠d:=fun e=>hN (e▸hq);simp only[this,cO];exact hw.names q hq
def fzN:Nat:=1000000001
def Fj(P:Program)(k:Nat)(args:List PV)(r:PV)(Hs:Hp)(ch:Option (Nat×bC)):Prop:=
 (Nat.beq k fzN=true/\∃ n f x,args=[.t (.sl n f)]/\r = .t x/\∀ F g w v,VR F g w (.t (.sl n f)) v->VR F g w (.t x) v)\/vX P k args r Hs ch
inductive Il (P:Program):List (Nat×(Nat×List PV×PV×Hp×Option (Nat×bC)))->Prop
 | nil:Il P []
 | cons {i k:Nat} {args:List PV} {r:PV} {Hs:Hp} {ch:Option (Nat×bC)} {l:List (Nat×(Nat×List PV×PV×Hp×Option (Nat×bC)))} (h:Fj P k args r Hs ch) (t:Il P l):Il P ((i,k,args,r,Hs,ch)::l)
theorem Il.mem{P:Program}{l:List (Nat×(Nat×List PV×PV×Hp×Option (Nat×bC)))}(h:Il P l):∀ e,e∈l->Fj P e.2.1 e.2.2.1 e.2.2.2.1 e.2.2.2.2.1 e.2.2.2.2.2:=by
 induction h with
 | nil=>simp
 | cons h _ ih=>
  intro e he;rcases bB.1 he with rfl | he
  ·exact h
  ·exact ih e he
theorem Bo{l:List (Nat×α)}(h:look l o=none)(x:α):(o,x)∉l:=by
 induction l with
 | nil=>simp
 | cons e l ih=>
  obtain⟨k,y⟩:=e;unfold look at h;split at h
  ·cases h
  ·rename_i hb;intro hm;rcases bB.1 hm with he | hm
   ·cases he; rw[lY]at hb; cases hb
   ·exact ih h hm
theorem sY{hp hp':Hp}{Hs:Hp}:∀ {Ks:Hp},kN hp (cY Ks)=some Ks->(∀ e,e∈Ks->e∈Hs)->(∀ e,e∈Hs->look hp e.1=some e.2)->kN (Hs++hp') (cY Ks)=some Ks
 | [],_,_,_=>rfl
 | (o,x)::Ks,h,hs,hh=>by
  simp only[cY,kN]at h ⊢;split at h
  ·rename_i y r hy hr;injection h with h;injection h with h1 h2;injection h1 with h3 h4;subst h4; subst h2;rw[sY hr (fun e he=>hs e (cM _ he)) hh];have hl:∀ {l:Hp},(∀ e,e∈l->look hp e.1=some e.2)->(o,y)∈l->look (l++hp') o=some y:=by
    intro l
    induction l with
    | nil=>intro _ h; cases h
    | cons e l ih=>
     intro hl hm;obtain⟨k,z⟩:=e;simp only[Gq,look];split
     ·rename_i hb;have hb:=bU hb;subst hb;have:=hl _ (dW ..);simp only at this;rw[hy]at this;exact this.symm
     ·rename_i hb;rcases bB.1 hm with he | hm
      ·cases he; rw[lY]at hb; cases hb
      ·exact ih (fun e he=>hl e (cM _ he)) hm
   rw[hl hh (hs _ (dW ..))]
  ·cases h
structure LOp where
 val:Option PV
 md:Option (Nat×bC×Option Nat)
 fs:List (Nat->Bool)
instance:Inhabited LOp:=⟨⟨none,none,[]⟩⟩
theorem Ga{l r:List (Nat×α)}{x:α}(h:look l t=some x):look (l++r) t=some x:=by
 induction l with
 | nil=>simp[look]at h
 | cons e l ih=>
  obtain⟨k,u⟩:=e;simp only[Gq];unfold look at h ⊢;split
  ·rename_i hk; rw[hk]at h; exact h
  ·rename_i hk; rw[hk]at h; exact ih h
theorem tZ{st:St}(h:ev st x=some p):ev ⟨st.fr++fr,hp⟩ x=some p:=by
 cases x with
 | tmp t=>exact Ga h
 | const v=>exact h
 | func f=>exact h
 | global _=>simp[ev]at h
theorem kH{st:St}{fr:Fr}{hp:Hp}:∀ {l:List Operand} {ps:List PV},iB st l=some ps->iB ⟨st.fr++fr,hp⟩ l=some ps
 | [],ps,h=>h
 | x::l,ps,h=>by
  simp only[iB]at h ⊢;split at h
  ·rename_i p q hp' hq;cases h;rw[tZ hp',kH hq]
  ·cases h
theorem uV{st:St}{fr:Fr}{hp:Hp}:∀ {l:List (Nat×Operand)} {ps:List (Nat×PV)},fZ st l=some ps->fZ ⟨st.fr++fr,hp⟩ l=some ps
 | [],ps,h=>h
 | (i,x)::l,ps,h=>by
  simp only[fZ]at h ⊢;split at h
  ·rename_i p q hp' hq;cases h;rw[tZ hp',uV hq]
  ·cases h
theorem lW{st:St}{ops:List Oper}{o:Oper}{b:Bool}(h:bO ops o st=some b):bO ops o ⟨st.fr++fr,hp⟩=some b:=by
 unfold bO at h ⊢;cases hg:o.guard with
 | none=>rw[hg]at h; exact h
 | some g=>
  obtain⟨j,want⟩:=g;rw[hg]at h;simp only at h ⊢;cases hj:ops[j]? with
  | none=>rw[hj]at h; cases h
  | some oj=>
   rw[hj]at h;simp only at h ⊢;cases hd:oj.dst with
   | none=>rw[hd]at h; cases h
   | some d=>
    rw[hd]at h;simp only at h ⊢;cases hl:look st.fr d with
    | none=>rw[hl]at h; simp at h
    | some p=>rw[Ga hl]; rw[hl]at h; exact h
abbrev Eff:=Option PV×Option (Nat×bC×Option Nat)×List Prop×(List PV×Option Hp)×List (Nat->Bool)
def noA:List PV×Option Hp:=([],some [])
def Wt(ops:List Oper):Operand->Option Nat
 | .tmp t=>match ops.find? (fun o=>match o.dst with | some d=>Nat.beq d t | none=>false) with
  | some o=>match o.op with | .buildSlice _ len _=>some len | _=>none
  | none=>none
 | _=>none
def yZ(ops:List Oper)(x:Operand)(m s:Nat)(f:Nat->List T):Bool×List (Nat->Bool):=match Wt ops x with
 | some n=>(Nat.beq n m&&(List.range n).all fun i=>iP s (f i),[])
 | none=>(true,[fun i=>iP s (f i)])
def aCL(I:Inf)(ops:List Oper)(st:St)(args:List Operand)(ats:List Nat)(d:Nat):Option Eff:=
 match args,ats with
 | [s,x],[t,t']=>match Nat.beq t t',I.ti t,ev st s,ev st x with
  | true,some i,some p,some q=>match i.und,rK st q with
   | .sl e,some (m,f2,none)=>match I.ti e with
    | some j=>match Nat.ble 1 j.size&&(Nat.ble 1 j.bytes&&(Nat.beq j.zero.length j.size&&(yZ ops x m j.size f2).1)),Nat.blt d I.nt,nD d I.N with
     | true,true,true=>match p with
      | .nil=>some (some (.own d),some (d,.arr e j.size m f2,none),[(0+m)*j.bytes<=140737488355328],noA,(yZ ops x m j.size f2).2)
      | .own o=>match look st.hp o with
       | some (.arr e' s' n f1)=>match Nat.beq e e'&&Nat.beq s' j.size with
        | true=>match Wt ops s with
         | some 0=>match Nat.beq n 0 with
          | true=>some (some (.own d),some (d,.arr e j.size m f2,some o),[(0+m)*j.bytes<=140737488355328],noA,(yZ ops x m j.size f2).2)
          | false=>none
         | _=>some (some (.own d),some (d,.arr e j.size (n+m) (oW n f1 f2),some o),[(n+m)*j.bytes<=140737488355328],noA,(yZ ops x m j.size f2).2)
        | false=>none
       | _=>none
      | _=>none
     | _,_,_=>none
    | none=>none
   | _,_=>none
  | _,_,_,_=>none
 | _,_=>none
def Ia(I:Inf)(ops:List Oper)(ca:Option (Nat×List PV×PV×Hp×Option (Nat×bC)))(o:Oper)(st:St):Option Eff:=
 match bO ops o st with
 | none=>none
 | some false=>match o.dst with
  | some d=>match Nat.blt d I.nt with | true=>some (some (.tup []),none,[],noA,[]) | false=>none
  | none=>some (none,none,[],noA,[])
 | some true=>match ca with
  | some (k,_,r,Hs,ch)=>match o.op,o.dst with
   | .call c,some d=>match c.callee with
    | .value f=>match ev st f,iB st c.args.toList,Nat.blt d I.nt with
     | some (.fn (.func k') nf caps),some as,true=>match Nat.beq k' k,Nat.blt k cN,(match Im r with | some q=>Nat.beq q d&&nD d I.N | none=>true) with
      | true,true,true=>some (some r,mdC ch,[],(caps.take nf++as++caps.drop nf,kN st.hp (cY Hs)),[])
      | _,_,_=>none
     | _,_,_=>none
    | _=>none
   | .lookup t x kx false,some d=>match ev st x,ev st kx,Nat.blt d I.nt,Nat.beq k (lkN+t) with
    | some (.map ob),some (.t kp),true,true=>some (some r,none,[],([.map ob,.t kp],kN st.hp (cY Hs)),[])
    | _,_,_,_=>none
   | _,_=>none
  | none=>match o.op,o.dst with
   | .alloc e,some d=>match I.ti e,Nat.blt d I.nt,nD d I.N with
    | some i,true,true=>some (some (.ptr d 0),some (d,.box i.zero,none),[],noA,[])
    | _,_,_=>none
   | .store t a x,none=>match I.ti t,ev st a,ev st x with
    | some i,some (.ptr b off),some q=>match look st.hp b with
     | some (.box l)=>match Nat.beq q.cells.length i.size,Nat.ble (off+i.size) l.length,q.cells.all PV.one with
      | true,true,true=>some (none,some (b,.box (l.take off++q.cells++l.drop (off+i.size)),none),[],noA,[])
      | _,_,_=>none
     | _=>none
    | some i,some (.aptr b s k off),some q=>match look st.hp b,vF q.cells with
     | some (.arr e s' n f),some c=>match Nat.beq s' s,Nat.beq c.length i.size,Nat.ble (off+i.size) s,q.cells.all PV.one with
      | true,true,true,true=>some (none,some (b,.arr e s' n (oJ f k (aIT s' (f k) off c)),none),[k<n],noA,[])
      | _,_,_,_=>none
     | some (.arm e s' n f ov),_=>match Nat.beq s' s,Nat.beq i.size 1,Nat.ble (off+1) s,q.one,Eh ov f k off q with
      | true,true,true,true,some (f',ov')=>some (none,some (b,.arm e s' n f' ov',none),[k<n],noA,[])
      | _,_,_,_,_=>none
     | _,_=>none
    | _,_,_=>none
   | .buildSlice t 0 ⟨[]⟩,some d=>match I.ti t with
    | some i=>match i.und with
     | .sl e=>match I.ti e with
      | some j=>match Nat.ble 1 j.size,Nat.beq j.zero.length j.size,Nat.blt d I.nt,nD d I.N with
       | true,true,true,true=>some (some (.own d),some (d,.arr e j.size 0 (iX [] j.size),none),[],noA,[])
       | _,_,_,_=>none
      | none=>none
     | _=>none
    | none=>none
   | .buildSlice t len parts,some d=>match I.ti t,fZ st parts.toList with
    | some i,some ps=>match i.und with
     | .sl e=>match I.ti e with
      | some j=>match Nat.ble (len*j.size) 16777216,Nat.ble 1 j.size,Nat.beq j.zero.length j.size,lX (fun i=>some (i*j.size,j.size)) (eQ j (len*j.size)) ps with
       | true,true,true,some c=>match vF c,Nat.beq c.length (len*j.size),Nat.blt d I.nt with
        | some ts,true,true=>some (some (.t (.sl len (iX ts j.size))),none,[],noA,[])
        | _,_,_=>none
       | _,_,_,_=>none
      | none=>none
     | _=>none
    | _,_=>none
   | .box ..,_=>none
   | .buildSlice ..,_=>none
   | .makeMap ..,_=>none
   | .mapUpdate ..,_=>none
   | .store ..,_=>none
   | .call { callee:=.builtin .append,args:=args,argTypes:=ats },some d=>aCL I ops st args.toList ats.toList d
   | op,some d=>match pev I st op,Nat.blt d I.nt with
    | some (x,C),true=>some (some x,none,mH (isC st op) C,noA,[])
    | _,_=>none
   | _,none=>none
def iM(o:Oper):Option Nat:=match o.op,o.dst with
 | .alloc _,some d=>some d
 | .buildSlice _ 0 ⟨[]⟩,some d=>some d
 | .call { callee:=.builtin .append,.. },some d=>some d
 | .call { callee:=.value _,.. },some d=>some d
 | _,_=>none
def aLE(I:Inf)(ops:List Oper)(o:Oper)(st:St)(r:PV)(x:Option Eff):Option Eff:=match iM o,o.dst,x,bO ops o st with
 | some d,some d1,some (some (.own d2),some (d3,.arr e s n f,k),C,_,fs),some true=>match Nat.beq d1 d,Nat.beq d2 d,Nat.beq d3 d,nD d I.N with
  | true,true,true,true=>some (some r,some (d,.arr e s 0 f,k),C,([.t (.sl n f)],some []),fs)
  | _,_,_,_=>none
 | _,_,_,_=>none
def aAE(I:Inf)(ops:List Oper)(ca:Option (Nat×List PV×PV×Hp×Option (Nat×bC)))(o:Oper)(st:St):Option Eff:=
 match ca with
 | some (k,a,r,Hs,ch)=>match Nat.beq k fzN with
  | true=>aLE I ops o st r (Ia I ops none o st)
  | false=>Ia I ops (some (k,a,r,Hs,ch)) o st
 | none=>Ia I ops none o st
def Gs:Option Nat->Hp->Hp
 | some k,l=>del k l
 | none,l=>l
def mG(S:St)(d:Option Nat)(v:Option PV)(md:Option (Nat×bC×Option Nat)):St:=
 ⟨match d,v with | some d,some x=>(d,x)::del d S.fr | _,_=>S.fr,match md with | some (o,c,k)=>(o,c)::del o (Gs k S.hp) | none=>S.hp⟩
section
variable {P:Program} {E:Env} {I:Inf} {Q:gC}
theorem xW{d:Nat}:∀ {l:Hp},(∀ e,e∈l->Nat.beq e.1 d=false/\e.2.mentions d=false)->Gp d l=some l
 | [],_=>rfl
 | (k,x)::l,h=>by
  have h1:=h _ (dW ..);have hx:x.er d=some x:=by
   cases x with
   | box c=>
    have hc:∀ (c:List PV),(∀ k,k∈PV.names.go c->k≠d)->nU d c=some c:=by
     intro c
     induction c with
     | nil=>intro _; rfl
     | cons y c ih=>
      intro hh;have hy:y.mentions d=false:=by unfold PV.mentions;rw[rX];intro k hk hb;exact hh k (by simp[PV.names.go,hk]) (bU hb)
      have:=ih fun k hk=>hh k (by simp[PV.names.go,hk]);simp only[nU,PV.er,hy,this]
    simp only[bC.er];rw[hc c (fun k hk=>bC.not_mentions h1.2 k (by simpa[bC.names] using hk))]
   | arr=>rfl
   | mpb=>rfl
   | bld=>rfl
   | arm e s n f ov=>
    have hn:=bC.not_mentions h1.2;have e1:Hm d ov=ov:=by
     rcases ov with _ | ⟨i,j,p⟩
     ·rfl
     ·have hp:p.mentions d=false:=by unfold PV.mentions;rw[rX];intro k hk hb;exact hn k (by simp[bC.names,ovN,hk]) (bU hb)
      simp only[Hm,hp]
    simp only[bC.er,e1]
   | mp it m ho=>
    have hn:=bC.not_mentions h1.2;have e1:Id d it=it:=by
     cases it with
     | none=>rfl
     | some i=>
      have:=hn i.o (by simp[bC.names,itN]);simp only[Id];split
      ·rename_i hb; exact absurd (bU hb) this
      ·rfl
    have e2:Cy d ho=ho:=by
     rcases ho with _ | ⟨k',_ | p⟩
     ·rfl
     ·rfl
     ·have hp:p.mentions d=false:=by unfold PV.mentions;rw[rX];intro k hk hb;exact hn k (by simp[bC.names,hoN,hk]) (bU hb)
      simp only[Cy,hp]
    simp only[bC.er,e1,e2]
  simp only[Gp,h1.1,hx,xW fun e he=>h e (cM _ he)]
theorem lR{d:Nat}{S:St}(h1:∀ e,e∈S.fr->e.2.mentions d=false)(h2:∀ e,e∈S.hp->Nat.beq e.1 d=false/\e.2.mentions d=false):S.erase d=some S:=by
 unfold St.erase;rw[xW h2];have:S.fr.filter (fun e=>!(e.2.mentions d))=S.fr:=List.filter_eq_self.2 fun e he=>by simp[h1 e he]
 simp[this]
theorem bV.sub{F:Nat->Prop}{g:Nat->Value}{st st':St}{a:Act}{w:World}(r:bV E F g st a w)(hf:∀ e,e∈st'.fr->e∈st.fr)(hh:∀ e,e∈st'.hp->e∈st.hp):bV E F g st' a w:=
 ⟨r.nt,r.df,fun t x hx=>r.fr t x (hf _ hx),⟨r.w.hp.sub hh,r.w.f0,r.w.f1,r.w.ext,r.w.names,r.w.b0⟩⟩
theorem Br{l:List Nat}{d:Nat}(h:∀ k,k∈l->k≠d):pC l [d]=true:=by
 unfold pC;rw[eO];intro k hk;cases hb:inN k [d] with
 | false=>rfl
 | true=>exact absurd (fQ.1 (cZ.1 hb)) (h k hk)
theorem uI(h:p.pure=true):Im p=none:=by cases p <;> first | rfl | (simp[PV.pure,PV.names]at h)
theorem wH{l:List (Nat×α)}{x:Nat×α}(h:x∈del o l):x∈l:=by obtain⟨k,y⟩:=x;exact(bA.1 h).1
theorem aCU{k:Option Nat}{l:Hp}{x:Nat×bC}(h:x∈del o (Gs k l)):x∈l:=by
 have h1:=wH h;cases k with
 | none=>exact h1
 | some k=>exact wH h1
theorem Rel.fzRow{d:Nat}{f:Nat->List T}(hN:I.N=E.N)(hd:nD d I.N=true)(h1:∀ x,x∈fr->x.2.mentions d=false)(h2:∀ x,x∈hp->Nat.beq x.1 d=false/\x.2.mentions d=false){a:Act}{w:World}
  (r:Rel E ⟨(d,.own d)::fr,(d,.arr e s n f)::hp⟩ a w):Rel E ⟨(d,.t (.sl n f))::fr,(d,.arr e s 0 f)::hp⟩ a w:=by
 obtain⟨F,g,r⟩:=r;have hob:=r.w.hp.obj d (.arr e s n f) dW;have hrd:Rd (fun b=>F b\/blk (g d)=some b) w (.sl n f) (g d):=rC hob (fun b hb=>.inl hb) (fun b hb=>.inr hb) rfl;have hne:∀ x,x∈hp->x.1≠d:=fun x hx e=>by have:=(h2 x hx).1; rw[e,lY]at this; cases this
 have hfoot:∀ k y b,(k,y)∈hp->aZ (upd g d (.slice none 0 0)) w k y b->aZ g w k y b:=fun k y b hy hb=>
  hb.mono (bG g _ (hne _ hy)) (fun q hq=>bG g _ (bC.not_mentions (h2 _ hy).2 q hq)) (fun _ _=>rfl)
 have hno:∀ b,¬ aZ (upd g d (.slice none 0 0)) w d (.arr e s 0 f) b:=fun b hb=>by have hb:=hb.toBlk rfl; rw[bE]at hb; simp[blk]at hb
 refine⟨fun b=>F b\/blk (g d)=some b,upd g d (.slice none 0 0),r.nt,r.df,fun t x hx=>?_,⟨⟨fun k y hy=>?_,fun k y b hy hb=>?_,fun k y k' y' b hy hy' hkk hb hb'=>?_⟩,fun b hb=>.inl (r.w.f0 b hb),fun b hb=>?_,r.w.ext,fun k hk=>?_,r.w.b0⟩⟩
 ·rcases bB.1 hx with hx | hx
  ·cases hx;have:=r.fr d (.own d) dW;generalize a.tmps.getD d undef=u at this;have he:u=g d:=by cases this with | own hg=>exact hg.symm
   rw[he];exact .t hrd
  ·exact(r.fr t x (cM _ hx)).mono (fun b hb=>⟨.inl hb,rfl⟩) (fun q hq=>bG g _ (PV.not_mentions (h1 _ hx) q hq))
 ·rcases bB.1 hy with hy | hy
  ·cases hy; exact .inl ⟨bE ..,rfl⟩
  ·exact(r.w.hp.obj k y (cM _ hy)).mono (fun b hb=>⟨.inl hb,rfl⟩) (bG g _ (hne _ hy)) (fun q hq=>bG g _ (bC.not_mentions (h2 _ hy).2 q hq)) (fun _ _=>rfl)
 ·rcases bB.1 hy with hy | hy
  ·cases hy; exact absurd hb (hno b)
  ·have hb:=hfoot k y b hy hb;have:=r.w.hp.own k y b (cM _ hy) hb;refine⟨?_,this.2⟩;rintro (h | h)
   ·exact this.1 h
   ·exact r.w.hp.sep k y d _ b (cM _ hy) dW (hne _ hy) hb (.self h)
 ·rcases bB.1 hy with hy | hy
  ·cases hy; exact absurd hb (hno b)
  ·rcases bB.1 hy' with hy' | hy'
   ·cases hy'; exact absurd hb' (hno b)
   ·exact r.w.hp.sep k y k' y' b (cM _ hy) (cM _ hy') hkk (hfoot k y b hy hb) (hfoot k' y' b hy' hb')
 ·rcases hb with hb | hb
  ·exact r.w.f1 b hb
  ·have:=(r.w.hp.own d _ b dW (.self hb)).2;exact⟨hob.block hb,this.elim (fun h=>.inr (.inl h)) (fun h=>.inr (.inr h))⟩
 ·rw[bG g _ (fun e:k=d=>eH hd (hN▸e▸hk))];exact r.w.names k hk
theorem Ek(hG:fO P E I){ops:List Oper}{o:Oper}{S st:St}{ca:Option (Nat×List PV×PV×Hp×Option (Nat×bC))}(hca:∀ k args r Hs ch,ca=some (k,args,r,Hs,ch)->vX P k args r Hs ch)(hfr:∀ e,e∈st.fr->e∈S.fr)
  (hhp:∀ e,e∈st.hp->e∈S.hp){v:Option PV}{md:Option (Nat×bC×Option Nat)}{Cs:List Prop}{as:List PV×Option Hp}(huq:∀ k x y,(k,x)∈S.hp->(k,y)∈S.hp->x=y)(h:Ia I ops ca o st=some (v,md,Cs,as,fs))(hC:All Cs)(hfs:∀ f,f∈fs->∀ i,f i=true)
  (has:∀ k args r Hs ch,ca=some (k,args,r,Hs,ch)->bO ops o st=some true->as=(args,some Hs))(hclean:∀ d,iM o=some d->(∀ e,e∈S.fr->e.2.mentions d=false)/\∀ e,e∈S.hp->Nat.beq e.1 d=false/\e.2.mentions d=false){a:Act}{w:World}(r:Rel E S a w)
  {K:Act->World->Prop}(hk:∀ a' w',Rel E (mG S o.dst v md) a' w'->K a' w'):
  if Region.wanted o (yielded ops.toArray a.tmps) then o.wp P a w K Q' else K (a.put o.dst undef) w:=by
 obtain⟨F,g,r⟩:=r;have ri:=r.sub hfr hhp;unfold Ia at h;split at h
 ·cases h
 ·
  rename_i hw;rw[aC (by rw[gL (ops:=ops.toArray) ri (by simpa using hw)]; simp)];split at h
  ·rename_i d hd;split at h
   ·rename_i hlt;cases h;refine hk _ _ ?_;rw[hd];exact⟨F,g,r.put (by rw[hG.nt]; simpa[dR] using hlt) (.tup rfl (fun j x v hx=>by simp at hx))⟩
   ·cases h
  ·rename_i hd;cases h;refine hk _ _ ?_;rw[hd];exact⟨F,g,r⟩
 ·rename_i hw;have hwt:=gL (ops:=ops.toArray) ri (by simpa using hw);split at h
  ·
   rename_i k args res Hs ch;have hok:=hca _ _ _ _ _ rfl;have has':=has _ _ _ _ _ rfl hw;split at h
   ·rename_i c d hop hd;split at h
    ·rename_i f hcal;split at h
     ·rename_i k' nf caps as' hf hargs hnt;split at h
      ·rename_i hkk hkl hno;have hkk:=bU hkk;subst hkk;cases h;injection has' with has1 has2;subst has1;cases hok with
       | look hk' _=>exact(Pu hkl hk').elim
       | @new _ d' e s n f hr hH hch hcc bps hb1 hb2=>
        subst hr hH hch;simp only[Im,cJ]at hno;obtain⟨hno1,hno2⟩:=hno;have hno1:=bU hno1;subst hno1;obtain⟨hcl1,hcl2⟩:=hclean _ (by unfold iM; rw[hop,hd]; obtain⟨cc,ca,ct⟩:=c; simp only at hcal; subst hcal; rfl);have r2:Rel E ⟨st.fr++S.fr,S.hp⟩ a w:=⟨F,g,r.sub (fun e he=>by
         rcases gA.1 he with he | he
         ·exact hfr e he
         ·exact he) (fun e he=>he)⟩
        refine sJ hG [] [] [d'] (bps:=bps) hop hcal hd (lW hw) hnt (tZ hf) (kH hargs) hcc (hb1 _) rfl ?_ hb2 r2 (fun r' H' hr=>?_)
        ·simp only[nP,oF,cJ,eO];refine⟨⟨fun e he=>?_,fun e he=>?_⟩,?_⟩
         ·have:=hcl1 e (by rcases gA.1 he with he | he
                           ·exact hfr e he
                           ·exact he)
          exact Br (PV.not_mentions this)
         ·obtain⟨h1,h2⟩:=hcl2 e (qL.1 he).1;refine⟨?_,Br (bC.not_mentions h2)⟩;rw[iW];cases hb:inN e.1 [d'] with
          | false=>rfl
          | true=>rw[fQ.1 (cZ.1 hb),lY]at h1; cases h1
         ·exact Br fun k hk e=>eH hno2 (e▸hk)
        ·unfold qN at hr;obtain⟨rfl,rfl⟩:=hr;refine⟨by simp[nN,Oi,PV.names,bC.names,inN],fun a' w' r'=>hk a' w' ?_⟩;refine r'.sub (fun e he=>?_) (fun e he=>?_)
         ·simp only[mG,hd]at he;simp only[St.put];rcases bB.1 he with rfl | he
          ·exact dW ..
          ·refine cM _ ?_;obtain⟨k,y⟩:=e;obtain⟨h1,h2⟩:=bA.1 he;exact bA.2 ⟨lA _ h1,h2⟩
         ·simp only[mG,mdC,Gs]at he;simp only[St.put,gA];rcases bB.1 he with rfl | he
          ·exact .inl (fQ.2 rfl)
          ·obtain⟨k,y⟩:=e;obtain⟨h1,h2⟩:=bA.1 he;exact .inr (qL.2 ⟨h1,by simp[inN]⟩)
       | @newH _ d' y hr hch hcc bps N hb1 hb2 hb3=>
        subst hr hch;simp only[Im,cJ]at hno;obtain⟨hno1,hno2⟩:=hno;have hno1:=bU hno1;subst hno1;obtain⟨hcl1,hcl2⟩:=hclean _ (by unfold iM; rw[hop,hd]; obtain⟨cc,ca,ct⟩:=c; simp only at hcal; subst hcal; rfl);have hin:∀ e,e∈Hs->e∈st.hp:=fun e he=>(mM has2 e he).1;have r2:Rel E ⟨st.fr++S.fr,Hs++S.hp⟩ a w:=⟨F,g,r.sub (fun e he=>by
         rcases gA.1 he with he | he
         ·exact hfr e he
         ·exact he) (fun e he=>by
         rcases gA.1 he with he | he
         ·exact hhp e (hin e he)
         ·exact he)⟩
        have hlk:∀ e,e∈Hs->look st.hp e.1=some e.2:=by
         intro e he;have hm:=hin e he;obtain⟨x,hx⟩:∃ x,look st.hp e.1=some x:=by
          cases hl:look st.hp e.1 with
          | some x=>exact⟨x,rfl⟩
          | none=>exact absurd hm (Bo hl e.2)
         rw[hx,huq e.1 x e.2 (hhp _ (aS hx)) (hhp _ hm)]
        refine sJ hG (cY Hs) N [d'] (bps:=bps) hop hcal hd (lW hw) hnt (tZ hf) (kH hargs) hcc (hb1 _) (sY has2 (fun e he=>he) hlk) ?_ hb2 r2 (fun r' H' hr=>?_)
        ·simp only[nP,cJ,eO];refine⟨⟨fun e he=>?_,fun e he=>?_⟩,?_⟩
         ·have:=hcl1 e (by rcases gA.1 he with he | he
                           ·exact hfr e he
                           ·exact he)
          exact Br (PV.not_mentions this)
         ·have he2:e∈S.hp:=by
           rcases gA.1 (gG he).1 with h | h
           ·exact hhp _ (hin _ h)
           ·exact h
          obtain⟨h1,h2⟩:=hcl2 e he2;refine⟨?_,Br (bC.not_mentions h2)⟩;rw[iW];cases hb:inN e.1 [d'] with
          | false=>rfl
          | true=>rw[fQ.1 (cZ.1 hb),lY]at h1; cases h1
         ·exact Br fun k hk e=>eH hno2 (e▸hk)
        ·unfold qN at hr;obtain⟨rfl,rfl⟩:=hr;refine⟨hb3,fun a' w' r'=>hk a' w' ?_⟩;refine r'.sub (fun e he=>?_) (fun e he=>?_)
         ·simp only[mG,hd]at he;simp only[St.put];rcases bB.1 he with rfl | he
          ·exact dW ..
          ·refine cM _ ?_;obtain⟨k,y⟩:=e;obtain⟨h1,h2⟩:=bA.1 he;exact bA.2 ⟨lA _ h1,h2⟩
         ·simp only[mG,mdC,Gs]at he;simp only[St.put,gA];rcases bB.1 he with rfl | he
          ·exact .inl (dW ..)
          ·obtain⟨k,y⟩:=e;obtain⟨h1,h2⟩:=bA.1 he;by_cases hke:k∈cY Hs
           ·obtain⟨z,hz⟩:=kG.1 hke;have:=huq k z y (hhp _ (hin _ hz)) h1;subst this;exact .inl (cM _ hz)
           ·refine .inr (qL.2 ⟨lA _ h1,?_⟩);cases hb:inN k (cY Hs) with
            | false=>rfl
            | true=>exact absurd (cZ.1 hb) hke
       | call _ _ hok=>
       rcases hok.h with⟨-,hch,bps,hb1,hb2⟩ | ⟨bps,N,hb1,hb2,hb3,hb4⟩
       ·have r2:Rel E ⟨st.fr++S.fr,S.hp⟩ a w:=⟨F,g,r.sub (fun e he=>by
         rcases gA.1 he with he | he
         ·exact hfr e he
         ·exact he) (fun e he=>he)⟩
        refine Oy hG [] (bps:=bps) hop hcal hd (lW hw) hnt (tZ hf) (kH hargs) hok.c (hb1 _) hb2 r2 (fun r' H' hr=>?_);unfold Ret at hr;subst hr;refine⟨hok.p,fun a' w' r'=>hk a' w' ?_⟩;subst hch;refine r'.sub (fun e he=>?_) (fun e he=>he);simp only[mG,hd]at he;simp only[St.put];rcases bB.1 he with rfl | he
        ·exact dW ..
        ·refine cM _ ?_;obtain⟨k,y⟩:=e;obtain⟨h1,h2⟩:=bA.1 he;exact bA.2 ⟨lA _ h1,h2⟩
       ·have hin:∀ e,e∈Hs->e∈st.hp:=fun e he=>(mM has2 e he).1;have r2:Rel E ⟨st.fr++S.fr,Hs++S.hp⟩ a w:=⟨F,g,r.sub (fun e he=>by
         rcases gA.1 he with he | he
         ·exact hfr e he
         ·exact he) (fun e he=>by
         rcases gA.1 he with he | he
         ·exact hhp e (hin e he)
         ·exact he)⟩
        have hlk:∀ e,e∈Hs->look st.hp e.1=some e.2:=by
         intro e he;have hm:=hin e he;obtain⟨x,hx⟩:∃ x,look st.hp e.1=some x:=by
          cases hl:look st.hp e.1 with
          | some x=>exact⟨x,rfl⟩
          | none=>exact absurd hm (Bo hl e.2)
         rw[hx,huq e.1 x e.2 (hhp _ (aS hx)) (hhp _ hm)]
        refine sJ hG (cY Hs) N [] (bps:=bps) hop hcal hd (lW hw) hnt (tZ hf) (kH hargs) hok.c (hb1 _) (sY has2 (fun e he=>he) hlk) (by simp[nP,pC,inN]) hb2 r2 (fun r' H' hr=>?_);unfold qN at hr;obtain⟨rfl,rfl⟩:=hr;refine⟨by simpa using hb3,fun a' w' r'=>hk a' w' ?_⟩;refine r'.sub (fun e he=>?_) (fun e he=>?_)
        ·simp only[mG,hd]at he;simp only[St.put];rcases bB.1 he with rfl | he
         ·exact dW ..
         ·refine cM _ ?_;obtain⟨k,y⟩:=e;obtain⟨h1,h2⟩:=bA.1 he;exact bA.2 ⟨lA _ h1,h2⟩
        ·simp only[St.put,gA];cases hch:ch with
         | none=>
          rw[hch]at he;simp only[mG,mdC]at he;by_cases hke:e.1∈cY Hs
          ·obtain⟨x,hx⟩:=kG.1 hke;have:=huq e.1 x e.2 (hhp _ (hin _ hx)) he;subst this;exact .inl hx
          ·refine .inr (qL.2 ⟨lA _ he,?_⟩);cases hb:inN e.1 (cY Hs) with
           | false=>rfl
           | true=>exact absurd (cZ.1 hb) hke
         | some c=>
          have hk1:=hb4 c hch;rw[hch]at he;obtain⟨o',x'⟩:=c;simp only[mG,mdC,Gs]at he;rcases bB.1 he with rfl | he
          ·obtain⟨z,hz⟩:=kG.1 hk1;refine .inl (eE.2 ⟨_,hz,?_⟩);simp only[lY]
          ·obtain⟨k,y⟩:=e;obtain⟨h1,h2⟩:=bA.1 he;by_cases hke:k∈cY Hs
           ·obtain⟨z,hz⟩:=kG.1 hke;have:=huq k z y (hhp _ (hin _ hz)) h1;subst this;refine .inl (eE.2 ⟨_,hz,?_⟩);have hb:Nat.beq k o'=false:=by
             cases hb:Nat.beq k o' with
             | false=>rfl
             | true=>exact absurd (bU hb) h2
            simp only[hb]
           ·refine .inr (qL.2 ⟨lA _ h1,?_⟩);cases hb:inN k (cY Hs) with
            | false=>rfl
            | true=>exact absurd (cZ.1 hb) hke
      ·cases h
     ·cases h
    ·cases h
   ·
    rename_i t x kx d hop hd;split at h
    ·rename_i ob kp hx hkx hnt hkt;have hkt:=bU hkt;subst hkt;have hl:=hok.l (by cases hb:Nat.blt (lkN+t) lkN with | false=>rfl | true=>rw[dR]at hb; omega)
     rw[Nat.add_sub_cancel_left]at hl;cases h;injection has' with has1 has2;obtain⟨z,h1,h2⟩:=hl F g w _ _ _ _ has1.symm (bK ri hx) (bK ri hkx) (fun e he=>r.w.hp.obj _ _ (hhp _ (mM has2 e he).1));rw[aA hwt];unfold Oper.wp;have hex:(execOp a.eval o).run P w = .ok (.value z) w:=by unfold execOp; simp[hop,h1]
     rw[hex];refine hk _ _ ?_;rw[hd];exact⟨F,g,r.put (by rw[hG.nt]; simpa[dR] using hnt) h2⟩
    ·cases h
   ·cases h
  ·split at h
   ·
    rename_i e d hop hd;split at h
    ·rename_i i hi hnt hN;cases h;have he:S.erase d=some S:=lR (hclean d (by unfold iM; rw[hop,hd])).1 (hclean d (by unfold iM; rw[hop,hd])).2;obtain⟨v,w',h1,h2⟩:=Iq hG.ti hG.N hG.nt r hi (st':=_) (by unfold fF; rw[hnt,hN,he]);rw[aA hwt];unfold Oper.wp;have hex:(execOp a.eval o).run P w = .ok (.value v) w':=by unfold execOp; simp[hop,h1]
     rw[hex];simp only[Oper.upon];refine hk _ _ ?_;rw[hd];refine h2.sub (fun e he=>he) (fun e he=>?_);simp only[mG]at he;rcases bB.1 he with rfl | he
     ·exact dW ..
     ·exact cM _ (bA.1 he).1
    ·cases h
   ·
    rename_i t x y hop hd;split at h
    ·rename_i i b off q hi hx hy;split at h
     ·rename_i l hl;split at h
      ·rename_i c1 c2 c3;cases h;have hmem:(b,bC.box l)∈S.hp:=hhp _ (aS hl);have r1:bV E F g ⟨S.fr,(b,.box l)::S.hp⟩ a w:=r.sub (fun e he=>he) (fun e he=>by
        rcases bB.1 he with rfl | he
        ·exact hmem
        ·exact he)
       obtain⟨-,w',h1,h2⟩:=qF (P:=P) r1 (hG.ti _ _ hi) (d:=none) (p:=.ptr b off) (x:=q) (C:=True)
        (by unfold rI; simp only[look,lY,c1,c2,c3]; rfl) trivial (bK ri hx) (bK ri hy)
       rw[aA hwt];unfold Oper.wp;have hex:(execOp a.eval o).run P w = .ok .skip w':=by unfold execOp; simp[hop,h1]
       rw[hex];simp only[Oper.upon];refine hk _ _ ?_;rw[hd];refine⟨F,g,h2.sub (fun e he=>he) (fun e he=>?_)⟩;simp only[mG]at he;rcases bB.1 he with rfl | he
       ·exact dW ..
       ·refine cM _ ?_;obtain⟨k,y⟩:=e;obtain⟨h3,h4⟩:=bA.1 he;exact bA.2 ⟨cM _ h3,h4⟩
      ·cases h
     ·cases h
    ·rename_i i b ss kk off q hi hx hy;split at h
     ·rename_i e s' n f c hl hc;split at h
      ·rename_i c1 c2 c3 c4;cases h;have hmem:(b,bC.arr e s' n f)∈S.hp:=hhp _ (aS hl);have r1:bV E F g ⟨S.fr,(b,.arr e s' n f)::S.hp⟩ a w:=r.sub (fun e he=>he) (fun e he=>by
        rcases bB.1 he with rfl | he
        ·exact hmem
        ·exact he)
       obtain⟨-,w',h1,h2⟩:=qF (P:=P) r1 (hG.ti _ _ hi) (d:=none) (p:=.aptr b ss kk off) (x:=q) (C:=kk<n)
        (by unfold rI; simp only[look,lY,hc,c1,c2,c3,c4]; rfl) hC (bK ri hx) (bK ri hy)
       rw[aA hwt];unfold Oper.wp;have hex:(execOp a.eval o).run P w = .ok .skip w':=by unfold execOp; simp[hop,h1]
       rw[hex];simp only[Oper.upon];refine hk _ _ ?_;rw[hd];refine⟨F,g,h2.sub (fun e he=>he) (fun e he=>?_)⟩;simp only[mG]at he;rcases bB.1 he with rfl | he
       ·exact dW ..
       ·refine cM _ ?_;obtain⟨k,y⟩:=e;obtain⟨h3,h4⟩:=bA.1 he;exact bA.2 ⟨cM _ h3,h4⟩
      ·cases h
     ·rename_i e s' n f ov hl;split at h
      ·rename_i f' ov' c1 c2 c3 c4 c5;cases h;have hmem:(b,bC.arm e s' n f ov)∈S.hp:=hhp _ (aS hl);have r1:bV E F g ⟨S.fr,(b,.arm e s' n f ov)::S.hp⟩ a w:=r.sub (fun e he=>he) (fun e he=>by
        rcases bB.1 he with rfl | he
        ·exact hmem
        ·exact he)
       obtain⟨-,w',h1,h2⟩:=qF (P:=P) r1 (hG.ti _ _ hi) (d:=none) (p:=.aptr b ss kk off) (x:=q) (C:=kk<n)
        (by unfold rI; simp only[look,lY,c1,c2,c3,c4,c5]; rfl) hC (bK ri hx) (bK ri hy)
       rw[aA hwt];unfold Oper.wp;have hex:(execOp a.eval o).run P w = .ok .skip w':=by unfold execOp; simp[hop,h1]
       rw[hex];simp only[Oper.upon];refine hk _ _ ?_;rw[hd];refine⟨F,g,h2.sub (fun e he=>he) (fun e he=>?_)⟩;simp only[mG]at he;rcases bB.1 he with rfl | he
       ·exact dW ..
       ·refine cM _ ?_;obtain⟨k,y⟩:=e;obtain⟨h3,h4⟩:=bA.1 he;exact bA.2 ⟨cM _ h3,h4⟩
      ·cases h
     ·cases h
    ·cases h
   ·
    rename_i t d hop hd;split at h
    case h_2=>cases h
    rename_i i hi;split at h
    case h_2=>cases h
    rename_i e hu;split at h
    case h_2=>cases h
    rename_i j hj;split at h
    case h_2=>cases h
    rename_i c1 c2 c3 c4;cases h;have hte:=(hG.ti _ _ hi).und;rw[hu]at hte;obtain⟨k1,k2⟩:=hclean d (by unfold iM; rw[hop,hd]; rfl);have he:S.erase d=some S:=lR k1 k2;obtain⟨u,w',h1,h2⟩:=mC (P:=P) (d:=d) (len:=0) (parts:=#[]) (ps:=[]) (c:=[]) (ts:=[]) (st':=_) hG.N hG.nt r hte (hG.ti _ _ hj) rfl (by omega) (eY c1) (bU c2)
     (by simp[lX,eQ]) ⟨rfl,fun j p x hp=>by simp at hp⟩ (by simp) (by unfold fF; rw[c3,c4,he])
    rw[aA hwt];unfold Oper.wp;have hex:(execOp a.eval o).run P w = .ok (.value u) w':=by simp at h1; unfold execOp; simp[hop,h1]
    rw[hex];simp only[Oper.upon];refine hk _ _ ?_;rw[hd];refine h2.sub (fun e he=>he) (fun e he=>?_);simp only[mG,Gs]at he;rcases bB.1 he with rfl | he
    ·exact dW ..
    ·exact cM _ (bA.1 he).1
   ·
    rename_i t len parts d _ hop hd;split at h
    case h_2=>cases h
    rename_i i ps hi hps;split at h
    case h_2=>cases h
    rename_i e hu;split at h
    case h_2=>cases h
    rename_i j hj;split at h
    case h_2=>cases h
    rename_i c c1 c2 c3 hc;split at h
    case h_2=>cases h
    rename_i ts hts c4 c5;cases h;have hte:=(hG.ti _ _ hi).und;rw[hu]at hte;have r2:bV E F g ⟨st.fr++S.fr,S.hp⟩ a w:=r.sub (fun e he=>by
     rcases gA.1 he with he | he
     ·exact hfr e he
     ·exact he) (fun e he=>he)
    obtain⟨u,w',F',h1,h2⟩:=oC (P:=P) (d:=d) hG.nt r2 hte (hG.ti _ _ hj) (uV hps) (eY c1) (eY c2) (bU c3) hc (.of hts) (bU c4) (by simpa[dR] using c5);rw[aA hwt];unfold Oper.wp;have hex:(execOp a.eval o).run P w = .ok (.value u) w':=by unfold execOp; simp[hop,h1]
    rw[hex];simp only[Oper.upon];refine hk _ _ ?_;rw[hd];refine⟨F',g,h2.sub (fun e he=>?_) (fun e he=>he)⟩;simp only[mG]at he;simp only[St.put];rcases bB.1 he with rfl | he
    ·exact dW ..
    ·refine cM _ ?_;obtain⟨k,y⟩:=e;obtain⟨h3,h4⟩:=bA.1 he;exact bA.2 ⟨lA _ h3,h4⟩
   all_goals try (cases h; done)
   ·
    rename_i args ats d hop hd;obtain⟨k1,k2⟩:=hclean d (by unfold iM; rw[hop,hd]);unfold aCL at h;split at h
    case h_2=>cases h
    rename_i s x t t' ha ht;have ha':args=#[s,x]:=by rw[<-lG (xs:=args),ha]
    have ht':ats=#[t,t']:=by rw[<-lG (xs:=ats),ht]
    subst ha'; subst ht';split at h
    case h_2=>cases h
    rename_i i p q c1 hi hp hq;have c1:=bU c1;subst c1;split at h
    case h_2=>cases h
    rename_i e m f2 hu hq';have hte:=(hG.ti _ _ hi).und;rw[hu]at hte;split at h
    case h_2=>cases h
    rename_i j hj;split at h
    case h_2=>cases h
    rename_i c2 c3 c4;simp only[cJ]at c2;obtain⟨c2,c5,c6,c7⟩:=c2;have c2:=eY c2;have c5:=eY c5;have c6:=bU c6;have src:(∀ f,f∈(yZ ops x m j.size f2).2->∀ i,f i=true)->∃ news,Src F w j.size m f2 (a.eval x) news:=by
     intro hfs;refine uC ri (bK ri hq) hq' c2 rfl fun i hi=>?_;unfold yZ at c7 hfs;split at c7
     ·rename_i n hn;simp only[cJ,eO,jV]at c7;exact c7.2 i (by rw[bU c7.1]; exact hi)
     ·rename_i hn;rw[hn]at hfs;exact hfs (fun i=>iP j.size (f2 i)) (by simp) i
    have fin:∀ (pv:bC) (ko:Option Nat) (u:Value) (w':World) (S':St),(Builtin.append_ #[t,t] o.type #[a.eval s,a.eval x]).run P w = .ok u w'->Rel E S' (a.put (some d) u) w' ->
      (∀ e,e∈(d,PV.own d)::del d S.fr->e∈S'.fr)->(∀ e,e∈(d,pv)::del d (Gs ko S.hp)->e∈S'.hp)->v=some (.own d)->md=some (d,pv,ko) ->
      if Region.wanted o (yielded ops.toArray a.tmps) then o.wp P a w K Q' else K (a.put o.dst undef) w:=by
     intro pv ko u w' S' h1 h2 h3 h4 hv hm;subst hv hm;rw[aA hwt];unfold Oper.wp;have hex:(execOp a.eval o).run P w = .ok (.value u) w':=by unfold execOp; simp[hop,resolve,invoke,builtin,h1]
     rw[hex];simp only[Oper.upon];refine hk _ _ ?_;rw[hd];exact h2.sub (fun e he=>h3 e he) (fun e he=>h4 e he)
    have hpv:=bK ri hp;split at h
    case h_3=>cases h
    ·
     cases h;obtain⟨news,hs⟩:=src hfs;have he:S.erase d=some S:=lR k1 k2;obtain⟨v0,hv0⟩:∃ u,a.eval s=u:=⟨_,rfl⟩;rw[hv0]at hpv;cases hpv with
     | nil=>
      obtain⟨u,w',h1,h2⟩:=mB (P:=P) hG.N hG.nt r hte (hG.ti _ _ hj) o.type c5 c6 hs (by have h:(0+m)*j.bytes<=140737488355328:=hC; simpa using h) (st':=_) (by unfold fF; rw[c3,c4,he]);refine fin _ none u w' _ (by rw[hv0]; exact h1) h2 (fun e he=>he) (fun e he=>?_) rfl rfl;rcases bB.1 he with rfl | he
      ·exact dW ..
      ·exact cM _ (bA.1 he).1
    ·rename_i o';split at h
     case h_2=>cases h
     rename_i e' s' n f1 hl;split at h
     case h_2=>cases h
     rename_i c8;simp only[cJ]at c8;have c9:=bU c8.1;have c10:=bU c8.2;subst c9; subst c10;have r0:bV E F g ⟨S.fr,(o',.arr e j.size n f1)::del o' S.hp⟩ a w:=r.sub (fun e he=>he) (fun e he=>by
      rcases bB.1 he with rfl | he
      ·exact hhp _ (aS hl)
      ·exact(bA.1 he).1)
     have less:Ix o' ⟨S.fr,(o',.arr e j.size n f1)::del o' S.hp⟩ ⟨S.fr,del o' S.hp⟩:=⟨fun t y h=>h,fun t y h=>⟨y,cM _ h,(bA.1 h).2,fun _ _ _ h=>h,fun _ _ _ h=>h⟩⟩;have he:(⟨S.fr,del o' S.hp⟩:St).erase d=some ⟨S.fr,del o' S.hp⟩:=lR k1 fun e he=>k2 e (by obtain⟨k,y⟩:=e; exact(bA.1 he).1);have run:∀ {f},f=oW n f1 f2->(∀ f,f∈(yZ ops x m j.size f2).2->∀ i,f i=true)->(n+m)*j.bytes<=140737488355328->∃ u w',(Builtin.append_ #[t,t] o.type #[a.eval s,a.eval x]).run P w = .ok u w'/\Rel E (({ fr:=S.fr,hp:=(d,.arr e j.size (n+m) f)::del o' S.hp }:St).put d (.own d)) (a.put (some d) u) w':=by rintro f rfl hfs hc;obtain⟨news,hs⟩:=src hfs;exact qY (P:=P) (n:=n) (f1:=f1) (f:=f2) hG.N hG.nt r0 hte (hG.ti _ _ hj) o.type c5 c6 hpv hs hc (by simp[look]) less (by unfold fF; rw[c3,c4,he])
     have sb:∀ (pv:bC) e,e∈(d,pv)::del d (Gs (some o') S.hp)->e∈(d,pv)::del o' S.hp:=by
      intro pv e he;rcases bB.1 he with rfl | he
      ·exact dW ..
      ·exact cM _ (bA.1 he).1
     split at h
     ·split at h
      case h_2=>cases h
      rename_i c11;have c11:=bU c11;subst c11;cases h;obtain⟨u,w',h1,h2⟩:=run (f:=f2) (by funext i; simp[oW]) hfs (by have h:(0+m)*j.bytes<=140737488355328:=hC; exact h);rw[fN]at h2;exact fin _ (some o') u w' _ h1 h2 (fun e he=>he) (sb _) rfl rfl
     ·cases h;obtain⟨u,w',h1,h2⟩:=run rfl hfs (by have h:(n+m)*j.bytes<=140737488355328:=hC; exact h);exact fin _ (some o') u w' _ h1 h2 (fun e he=>he) (sb _) rfl rfl
   rename_i hd _ _ _ _ _ _ _ _;split at h
   ·rename_i x C hp hlt;cases h;have hcc:C:=by
     cases hc:isC st o.op with
     | false=>exact aBT hp hc
     | true=>rw[hc]at hC; exact hC
    obtain⟨v,h1,h2⟩:=Yi hG.ti ri o hp hcc;rw[aA hwt];unfold Oper.wp;rw[h1];refine hk _ _ ?_;rw[hd];exact⟨F,g,r.put (by rw[hG.nt]; simpa[dR] using hlt) h2⟩
   ·cases h
theorem aQD(hG:fO P E I){ops:List Oper}{o:Oper}{S st:St}{ca:Option (Nat×List PV×PV×Hp×Option (Nat×bC))}(hca:∀ k args r Hs ch,ca=some (k,args,r,Hs,ch)->Fj P k args r Hs ch)(hfr:∀ e,e∈st.fr->e∈S.fr)
  (hhp:∀ e,e∈st.hp->e∈S.hp){v:Option PV}{md:Option (Nat×bC×Option Nat)}{Cs:List Prop}{as:List PV×Option Hp}(huq:∀ k x y,(k,x)∈S.hp->(k,y)∈S.hp->x=y)(h:aAE I ops ca o st=some (v,md,Cs,as,fs))(hC:All Cs)(hfs:∀ f,f∈fs->∀ i,f i=true)
  (has:∀ k args r Hs ch,ca=some (k,args,r,Hs,ch)->bO ops o st=some true->as=(args,some Hs))(hclean:∀ d,iM o=some d->(∀ e,e∈S.fr->e.2.mentions d=false)/\∀ e,e∈S.hp->Nat.beq e.1 d=false/\e.2.mentions d=false){a:Act}{w:World}(r:Rel E S a w)
  {K:Act->World->Prop}(hk:∀ a' w',Rel E (mG S o.dst v md) a' w'->K a' w'):
  if Region.wanted o (yielded ops.toArray a.tmps) then o.wp P a w K Q' else K (a.put o.dst undef) w:=by
 unfold aAE at h;split at h
 ·rename_i k args res Hs ch;split at h
  ·rename_i hfz;unfold aLE at h;split at h
   ·rename_i d d1 d2 d3 e s n f k' C as0 fs0 hal hd he hwt;split at h
    ·rename_i b1 b2 b3 b4;have b1:=bU b1;have b2:=bU b2;have b3:=bU b3;subst b1 b2 b3;cases h;obtain⟨c1,c2⟩:=hclean _ hal;rcases hca _ _ _ _ _ rfl with⟨_,n',f',x,ha,hr,himp⟩ | hx
     ·have:=has _ _ _ _ _ rfl hwt;injection this with h1 h2;subst hr;rw[ha]at h1;cases h1;refine Ek hG (ca:=none) (fun _ _ _ _ _ h=>by cases h) hfr hhp huq he hC hfs (fun _ _ _ _ _ h=>by cases h) hclean r (fun a' w' r'=>hk a' w' ?_);rw[hd]at r' ⊢;simp only[mG]at r' ⊢;obtain⟨F,g,q⟩:=Rel.fzRow hG.N.symm b4 (fun x hx=>c1 x (wH hx)) (fun x hx=>c2 x (aCU hx)) r';exact⟨F,g,q.nt,q.df,fun t z hz=>by
       rcases bB.1 hz with hz | hz
       ·cases hz; exact himp _ _ _ _ (q.fr _ _ dW)
       ·exact q.fr _ _ (cM _ hz),q.w⟩
     ·have hfz':=bU hfz;subst hfz';cases hx with
      | call hk'=>exact absurd hk' (by decide)
      | new hk'=>exact absurd hk' (by decide)
      | newH hk'=>exact absurd hk' (by decide)
      | look hk'=>exact absurd hk' (by decide)
    ·cases h
   ·cases h
  ·rename_i hfz;refine Ek hG (fun k' a' r' H' c' hc=>?_) hfr hhp huq h hC hfs has hclean r hk;rcases hca k' a' r' H' c' hc with⟨h1,_⟩ | h1
   ·cases hc; rw[hfz]at h1; cases h1
   ·exact h1
 ·exact Ek hG (ca:=none) (fun _ _ _ _ _ h=>by cases h) hfr hhp huq h hC hfs has hclean r hk
def Nd(ops:List Oper):List (List Nat):=ops.map iG
def aQP(l r:List Nat):List Nat:=match l with | []=>r | x::l=>match inN x r with | true=>aQP l r | false=>aQP l (x::r)
def Fz:List (List Nat)->List (List Nat)->List (List Nat)
 | [],acc=>acc
 | d::l,acc=>Fz l (acc++[aQP (d.flatMap fun j=>acc.getD j []) d])
def pJ(p:Nat->Bool):Nat->List Oper->List LOp->Fr
 | _,[],_=>[]
 | i,_::os,[]=>pJ p (i+1) os []
 | i,o::os,l::ls=>match p i,o.dst,l.val with
  | true,some d,some x=>(d,x)::pJ p (i+1) os ls
  | _,_,_=>pJ p (i+1) os ls
def Tj(lo:List LOp)(o j:Nat):Option bC:=match lo.getD j default with | ⟨_,some (o',c,_),_⟩=>(match Nat.beq o' o with | true=>some c | false=>none) | _=>none
def jW(lo:List LOp)(p:Nat->Bool)(o:Nat)(c:Option bC):List Nat->Option bC
 | []=>c
 | j::js=>match p j with
  | true=>jW lo p o (Tj lo o j) js
  | false=>jW lo p o c js
abbrev OL:=List (Nat×Bool×List Nat)
def ini(hp:Hp)(o:Nat)(new:Bool):Option bC:=match new with | true=>none | false=>look hp o
def zS(hp:Hp)(lo:List LOp)(p:Nat->Bool):OL->Hp
 | []=>[]
 | (o,new,js)::l=>match jW lo p o (ini hp o new) js with
  | some x=>(o,x)::zS hp lo p l
  | none=>zS hp lo p l
def wrB(p:Nat->Bool)(t:Nat):Nat->List Oper->Bool
 | _,[]=>false
 | i,o::os=>match (match o.dst with | some d=>Nat.beq d t&&p i | none=>false) with | true=>true | false=>wrB p t (i+1) os
theorem wD{p:Nat->Bool}{t:Nat}:∀ {i:Nat} {os:List Oper},wrB p t i os=true↔∃ k o,os[k]? = some o/\o.dst=some t/\p (i+k)=true
 | i,[]=>by simp[wrB]
 | i,o::os=>by
  simp only[wrB];constructor
  ·intro h;split at h
   ·rename_i h1;split at h1
    ·rename_i d hd;simp only[cJ]at h1;exact⟨0,o,rfl,by rw[hd,bU h1.1],by simpa using h1.2⟩
    ·cases h1
   ·obtain⟨k,o',h1,h2,h3⟩:=wD.1 h;exact⟨k+1,o',by simpa using h1,h2,by rw[<-oG,Nat.add_right_comm]; exact h3⟩
  ·rintro⟨k,o',h1,h2,h3⟩;split
   ·rfl
   ·rename_i hn;cases k with
    | zero=>simp at h1; subst h1;rw[h2]at hn;simp only[lY,jC]at hn;rw[yT]at h3;rw[h3]at hn; cases hn
    | succ k=>exact wD.2 ⟨k,o',by simpa using h1,h2,by rw[oG,Nat.add_comm 1 k]; exact h3⟩
def frP(p:Nat->Bool)(ops:List Oper)(fr0:Fr):Fr:=fr0.filter fun e=>!(wrB p e.1 0 ops)
theorem qC{p:Nat->Bool}{ops:List Oper}{fr0:Fr}{e:Nat×PV}:e∈frP p ops fr0↔e∈fr0/\∀ k o,ops[k]? = some o->o.dst=some e.1->p k=false:=by
 simp only[frP,qL,iW];refine and_congr_right fun _=>?_;constructor
 ·intro h k o h1 h2;cases hp:p k with
  | false=>rfl
  | true=>rw[wD.2 ⟨k,o,h1,h2,by rw[fN]; exact hp⟩]at h; cases h
 ·intro h;cases hw:wrB p e.1 0 ops with
  | false=>rfl
  | true=>obtain⟨k,o,h1,h2,h3⟩:=wD.1 hw;rw[fN]at h3;rw[h k o h1 h2]at h3; cases h3
def stP(st:St)(fr0:Fr)(ops:List Oper)(lo:List LOp)(ol:OL)(p:Nat->Bool):St:=⟨frP p ops fr0++pJ p 0 ops lo,zS st.hp lo p ol⟩
def knw(pre:List (List Nat))(i:Nat)(ol:OL):OL:=ol.filter fun e=>e.2.2.all fun j=>Nat.beq j i || inN j (pre.getD i []) || inN i (pre.getD j [])
def stI(st:St)(fr0:Fr)(ops:List Oper)(lo:List LOp)(ol:OL)(pre:List (List Nat))(i:Nat):St:=
 ⟨frP (fun j=>!((Nat.beq j i || inN i (pre.getD j [])) || Nat.ble pre.length j)) ops fr0++pJ (fun j=>inN j (pre.getD i [])) 0 ops lo,zS st.hp lo (fun j=>inN j (pre.getD i [])) (knw pre i ol)⟩
def aSG(I:Inf)(ops:List Oper)(calls:List (Nat×(Nat×List PV×PV×Hp×Option (Nat×bC))))(lits:List (Nat×(Bool×Bool)))(st:St)(fr0:Fr)(ol:OL)(pre:List (List Nat)):Nat->List Oper->List LOp->List LOp
 | _,[],lo=>lo
 | i,o::os,lo=>aSG I ops calls lits st fr0 ol pre (i+1) os (lo++[match aAE I ops (look calls i) o (stI st fr0 ops lo ol pre i) with
  | some (v,md,_,_,fs)=>⟨match look lits i with | some (_,b)=>some (.t (.bool b)) | none=>v,md,fs⟩
  | none=>⟨none,none,[]⟩])
def Vx(I:Inf)(ops:List Oper)(calls:List (Nat×(Nat×List PV×PV×Hp×Option (Nat×bC))))(st:St)(fr0:Fr)(lo:List LOp)(ol:OL)(pre:List (List Nat)):Nat->List Oper->List (Option Eff)
 | _,[]=>[]
 | i,o::os=>aAE I ops (look calls i) o (stI st fr0 ops lo ol pre i)::Vx I ops calls st fr0 lo ol pre (i+1) os
def aPR(ops:List Oper)(calls:List (Nat×(Nat×List PV×PV×Hp×Option (Nat×bC))))(lits:List (Nat×(Bool×Bool)))(conds:List (Nat×List Prop))(st:St)(lo:List LOp)(i:Nat)(o:Oper):Option Eff:=
 some (match look lits i with | some (b,_)=>some (.t (.bool b)) | none=>(lo.getD i default).val,(lo.getD i default).md,match look conds i with | some l=>l | none=>[],
  match look calls i,bO ops o st with | some (_,as,_,Hs,_),some true=>(as,some Hs) | _,_=>noA,(lo.getD i default).fs.map fun _ _=>true)
def Vj(ops:List Oper)(calls:List (Nat×(Nat×List PV×PV×Hp×Option (Nat×bC))))(lits:List (Nat×(Bool×Bool)))(conds:List (Nat×List Prop))(st:St)(fr0:Fr)(lo:List LOp)(ol:OL)(pre:List (List Nat)):Nat->List Oper->List (Option Eff)
 | _,[]=>[]
 | i,o::os=>aPR ops calls lits conds (stI st fr0 ops lo ol pre i) lo i o::Vj ops calls lits conds st fr0 lo ol pre (i+1) os
def Oe(d:Nat):List Nat->Bool
 | []=>true
 | k::l=>!(Nat.beq k d)&&Oe d l
def oY:List Nat->Bool
 | []=>true
 | k::l=>Oe k l&&oY l
def Sy(ops:List Oper):List Nat:=ops.filterMap (·.dst)
def yX(pre:List (List Nat))(i d:Nat):Nat->List LOp->Bool
 | _,[]=>true
 | j,l::ls=>(match l.val with | some x=>!(x.mentions d) || inN i (pre.getD j []) || Nat.beq j i | none=>true) &&
   (match l.md with | some (_,c,_)=>!(c.mentions d) || inN i (pre.getD j []) || Nat.beq j i | none=>true)&&yX pre i d (j+1) ls
def xT(hp:Hp)(d:Nat):OL->Bool
 | []=>true
 | (o,new,_)::l=>(match Nat.beq o d with | true=>new | false=>true)&&(match ini hp o new with | some c=>!(c.mentions d) | none=>true)&&xT hp d l
def wE(pre:List (List Nat))(st:St)(fr0:Fr)(lo:List LOp)(ol:OL):Nat->List Oper->Bool
 | _,[]=>true
 | i,o::os=>(match iM o with
   | some d=>yX pre i d 0 lo&&xT st.hp d ol&&fr0.all (fun e=>!(e.2.mentions d))&&ol.all (fun e=>!(Nat.beq e.1 d) || e.2.2.all fun j=>Nat.beq j i || inN i (pre.getD j []))
   | none=>true)&&wE pre st fr0 lo ol (i+1) os
def Rr(ol:OL):Nat->List LOp->Bool
 | _,[]=>true
 | i,l::ls=>(match l.md with
   | some (o,_,k)=>ol.any (fun e=>Nat.beq e.1 o&&inN i e.2.2)&&(match k with
    | none=>ol.all (fun e=>Nat.beq e.1 o || !(inN i e.2.2))
    | some k=>ol.all fun e=>Nat.beq e.1 o || (match Nat.beq e.1 k with | true=>inN i e.2.2 | false=>!(inN i e.2.2)))
   | none=>ol.all fun e=>!(inN i e.2.2))&&Rr ol (i+1) ls
def Em(pre:List (List Nat)):List Nat->Bool
 | []=>true
 | j::js=>js.all (fun k=>inN j (pre.getD k []))&&Em pre js
def aKA(ops:List Oper)(pre:List (List Nat)):Nat->List Oper->Bool
 | _,[]=>true
 | i,o::os=>(iG o).all (fun j=>Nat.blt j i)&&(pre.getD i []).all (fun k=>Nat.blt k i&&(inN k (iG o) || (iG o).any fun j=>inN k (pre.getD j [])))&&aKA ops pre (i+1) os
def Xb(o:Oper):Bool:=match o.guard,o.op with
 | none,.move _=>true
 | none,.assign _=>true
 | none,.extract _ _=>true
 | _,_=>false
def aDF(L:List Oper)(j:Nat):Bool:=(List.range L.length).all fun i=>Nat.ble i j || (match L[i]? with | some o=>(iG o).any fun k=>Nat.ble j k | none=>true)
def Ij(L:List Oper)(j:Nat):List Bool:=(List.range L.length).map fun k=>Nat.blt k j
def aFH(L:List Oper):List Oper->Nat->Bool
 | [],_=>true
 | o::t,j=>Xb o&&Region.free .any L.toArray (Ij L j).toArray j&&aFH L t (j+1)
def chT(L:List Oper):Nat->List Oper->Bool
 | _,[]=>true
 | j,o::t=>(Region.noSelect L.toArray&&aFH L (o::t) j) || (aDF L j&&chT L (j+1) t)
def tlB(L:List Oper)(pre:List (List Nat))(n:Nat):List Oper->Bool
 | []=>true
 | o::l=>((List.range n).all fun k=>inN k (iG o) || (iG o).any fun j=>inN k (pre.getD j []))&&(aDF L n&&chT L (n+1) l)
theorem Hw{L:List Oper}{j i:Nat}{o:Oper}(h:aDF L j=true)(hi:L[i]? = some o)(hji:j<i):∃ k,k∈iG o/\j<=k:=by
 have hL:i<L.length:=(dE.1 hi).1;have:=eO.1 h i (jV.2 hL);rw[hi]at this;simp only[mW,uX]at this;rcases this with h | ⟨k,h1,h2⟩
 ·have:=eY h; omega
 ·exact⟨k,h1,eY h2⟩
theorem Oper.wp_monoQ{P:Program}{o:Oper}{a:Act}{w:World}{K K':Act->World->Prop}{Q:Exit->Act->World->Prop}(h:∀ a w,K a w->K' a w)(hQ:∀ e a w,Q e a w->Q' e a w)
  (hh:o.wp P a w K Q):o.wp P a w K' Q':=by
 have hl:LetsOut Q->LetsOut Q':=fun⟨a,w,h⟩=>⟨a,w,hQ _ _ _ h⟩;unfold Oper.wp at *
 generalize (execOp a.eval o).run P w=r at *
 cases r with
 | ok n w'=>
  cases n <;> simp only[Oper.upon]at hh ⊢ <;>
   first
    | exact h _ _ hh
    | exact Calls.mono hh (fun e w'' he=>by cases e <;> first | exact h _ _ he | exact hQ _ _ _ he | exact hl he)
    | exact Rows.mono hh (fun _ _ he=>h _ _ he)
 | halt x w'=>cases x <;> simp only[Oper.upon]at hh ⊢ <;> first | exact hQ _ _ _ hh | exact hh
theorem lI{P:Program}{md:Region.Mode}{ops:Array Oper}{Q Q':Exit->Act->World->Prop}(hQ:∀ e a w,Q e a w->Q' e a w):∀ (fuel:Nat) (m:Array Bool) (a:Act) (w:World),wpAny P md ops Q fuel m a w->wpAny P md ops Q' fuel m a w
 | 0,_,_,_,h=>⟨h.1,hQ _ _ _ h.2⟩
 | fuel+1,m,a,w,h=>⟨fun h0=>hQ _ _ _ (h.1 h0),fun i hi=>by
   have h1:=h.2 i hi;unfold wpOp at h1 ⊢;split
   ·rename_i hn;rw[hn]at h1;exact lI hQ fuel _ _ _ h1
   ·rename_i o ho;rw[ho]at h1;simp only at h1;split
    ·rename_i hw;rw[aA hw]at h1;rcases h1 with h1 | ⟨h1,a',w',h2⟩
     ·exact .inl (Oper.wp_monoQ (fun a w h=>lI hQ fuel _ _ _ h) hQ h1)
     ·exact .inr ⟨h1,a',w',hQ _ _ _ h2⟩
    ·rename_i hw;rw[aC hw]at h1;exact lI hQ fuel _ _ _ h1⟩
theorem aKW{P:Program}{o:Oper}(hs:Xb o=true){a:Act}{w:World}{K:Act->World->Prop}{Q:Exit->Act->World->Prop}(hq:o.wp P a w K Q\/(o.asks P a w/\LetsOut Q)):
  ∃ v,(∀ w',(execOp a.eval o).run P w' = .ok (.value v) w')/\K (a.put o.dst v) w:=by
 have fin:∀ v,execOp a.eval o=pure (.value v)->∃ v,(∀ w',(execOp a.eval o).run P w' = .ok (.value v) w')/\K (a.put o.dst v) w:=fun v he=>by
  refine⟨v,fun w'=>by rw[he]; rfl,?_⟩;rcases hq with hq | ⟨hq,_⟩
  ·unfold Oper.wp at hq;rw[he]at hq; exact hq
  ·have h1:=hq.1;rw[he]at h1;exact absurd h1 (Array.not_mem_empty _)
 have bad:∀ msg,execOp a.eval o=stuck msg->False:=fun msg he=>by
  rcases hq with hq | ⟨hq,_⟩
  ·unfold Oper.wp at hq;rw[he]at hq; exact hq
  ·have h1:=hq.1;rw[he]at h1;exact absurd h1 (Array.not_mem_empty _)
 unfold Xb at hs;split at hs
 ·rename_i hop; exact fin _ (by unfold execOp; rw[hop])
 ·rename_i hop; exact fin _ (by unfold execOp; rw[hop])
 ·rename_i x i _ hop;have he:execOp a.eval o=(do pure (.value (<-Instr.extract (a.eval x) i))):=by unfold execOp; rw[hop]
  unfold Instr.extract at he;split at he
  ·split at he
   ·exact fin _ he
   ·exact(bad _ he).elim
  ·exact(bad _ he).elim
 ·cases hs
theorem Tn{o:Oper}(hs:Xb o=true):o.guard=none:=by unfold Xb at hs;split at hs <;> first | assumption | cases hs
def noP(Q:Exit->Act->World->Prop):Exit->Act->World->Prop:=fun e a w=>Q e a w/\∀ c,e ≠ .panic c
def wfL(L l tl:List Oper)(pre:List (List Nat))(st:St)(_ts:List Nat)(fr0:Fr)(lo:List LOp)(ol:OL):Bool:=
 aKA L pre 0 L&&oY (Sy L)&&oY (ol.map (·.1))&&Rr ol 0 lo&&ol.all (fun e=>Em pre e.2.2)&&wE pre st fr0 lo ol 0 l &&
  (Nat.beq lo.length l.length&&Nat.beq pre.length l.length)&&tlB L pre l.length tl
theorem Bn{P:Program}{L:Array Oper}{Q:Exit->Act->World->Prop}{m:Array Bool}{a:Act}{w:World}(h:Region.ready .any L m=[])(hq:Q .normal a w):∀ fuel,wpAny P .any L Q fuel m a w
 | 0=>⟨h,hq⟩
 | _+1=>⟨fun _=>hq,fun i hi=>by rw[h]at hi; cases hi⟩
def aAT(lits:List (Nat×(Bool×Bool)))(lo:List LOp):Bool:=lits.all fun e=>match (lo.getD e.1 default).val,e.2.2 with
 | some (.t (.bool true)),true=>true
 | some (.t (.bool false)),false=>true
 | _,_=>false
theorem mY{p:Nat->Bool}:∀ {i:Nat} {os:List Oper} {ls:List LOp} {e:Nat×PV},e∈pJ p i os ls->∃ k o l,os[k]? = some o/\ls[k]? = some l/\p (i+k)=true/\o.dst=some e.1/\l.val=some e.2
 | _,[],_,e,h=>by simp[pJ]at h
 | i,_::os,[],e,h=>by simp only[pJ]at h;obtain⟨k,o,l,h1,h2,_⟩:=mY h;simp at h2
 | i,o::os,l::ls,e,h=>by
  have tail:e∈pJ p (i+1) os ls->∃ k o' l',(o::os)[k]? = some o'/\(l::ls)[k]? = some l'/\p (i+k)=true/\o'.dst=some e.1/\l'.val=some e.2:=by intro h;obtain⟨k,o',l',h1,h2,h3,h4⟩:=mY h;exact⟨k+1,o',l',by simpa using h1,by simpa using h2,by rw[<-oG,Nat.add_right_comm]; exact h3,h4⟩
  simp only[pJ]at h;split at h
  ·rename_i d x hp hd hv;rcases bB.1 h with rfl | h
   ·exact⟨0,o,l,by simp,by simp,by simpa using hp,hd,hv⟩
   ·exact tail h
  ·exact tail h
theorem xK{p:Nat->Bool}{d:Nat}{x:PV}:∀ {i k:Nat} {os:List Oper} {ls:List LOp} {o:Oper} {l:LOp},os[k]? = some o->ls[k]? = some l->p (i+k)=true->o.dst=some d->l.val=some x->(d,x)∈pJ p i os ls
 | _,_,[],_,_,_,h,_,_,_,_=>by simp at h
 | _,_,_::_,[],_,_,_,h,_,_,_=>by simp at h
 | i,0,o::os,l::ls,o',l',h1,h2,h3,h4,h5=>by simp at h1 h2; subst h1 h2;simp only[yT]at h3;simp[pJ,h3,h4,h5]
 | i,k+1,o::os,l::ls,o',l',h1,h2,h3,h4,h5=>by
  have:=xK (i:=i+1) (k:=k) (os:=os) (ls:=ls) (by simpa using h1) (by simpa using h2) (by rw[oG,Nat.add_comm 1 k]; exact h3) h4 h5;simp only[pJ];split
  ·exact cM _ this
  ·exact this
theorem lK{lo:List LOp}{p q:Nat->Bool}{o:Nat}:∀ {js:List Nat} {c:Option bC},(∀ j,j∈js->p j=q j)->jW lo p o c js=jW lo q o c js
 | [],_,_=>rfl
 | j::js,c,h=>by
  simp only[jW,h j (by simp)];split
  ·exact lK fun k hk=>h k (cM _ hk)
  ·exact lK fun k hk=>h k (cM _ hk)
theorem tA{lo:List LOp}{q:Nat->Bool}{o:Nat}:∀ {js:List Nat} {c:Option bC},(∀ j,j∈js->q j=false)->jW lo q o c js=c
 | [],_,_=>rfl
 | j::js,c,h=>by simp only[jW,h j (by simp)]; exact tA fun k hk=>h k (cM _ hk)
theorem qE{lo:List LOp}{pre:List (List Nat)}{q:Nat->Bool}{i o:Nat}(hi:q i=true):∀ {js:List Nat} {c:Option bC},Em pre js=true->i∈js->(∀ j,j∈js->i∈pre.getD j []->q j=false) ->
  jW lo q o c js=Tj lo o i
 | [],_,_,h,_=>by simp at h
 | j::js,c,hc,h,hq=>by
  simp only[Em,cJ,eO]at hc;by_cases hj:j=i
  ·subst hj;simp only[jW,hi];exact tA fun k hk=>hq k (cM _ hk) (cZ.1 (hc.1 k hk))
  ·have hm:i∈js:=by
    rcases bB.1 h with rfl | h
    ·exact absurd rfl hj
    ·exact h
   simp only[jW];split
   ·exact qE hi hc.2 hm fun k hk=>hq k (cM _ hk)
   ·exact qE hi hc.2 hm fun k hk=>hq k (cM _ hk)
theorem pT{lo:List LOp}{p:Nat->Bool}{o:Nat}{x:bC}:∀ {js:List Nat} {c:Option bC},jW lo p o c js=some x->c=some x\/∃ j,j∈js/\p j=true/\Tj lo o j=some x
 | [],_,h=>.inl h
 | j::js,c,h=>by
  simp only[jW]at h;split at h
  ·rename_i hp;rcases pT h with h | ⟨k,h1,h2,h3⟩
   ·exact .inr ⟨j,by simp,hp,h⟩
   ·exact .inr ⟨k,cM _ h1,h2,h3⟩
  ·rcases pT h with h | ⟨k,h1,h2,h3⟩
   ·exact .inl h
   ·exact .inr ⟨k,cM _ h1,h2,h3⟩
theorem kX{hp:Hp}{lo:List LOp}{p:Nat->Bool}:∀ {ol:OL} {e:Nat×bC},e∈zS hp lo p ol->∃ new js,(e.1,new,js)∈ol/\jW lo p e.1 (ini hp e.1 new) js=some e.2
 | [],e,h=>by simp[zS]at h
 | (o,new,js)::l,e,h=>by
  have tail:e∈zS hp lo p l->∃ new' js',(e.1,new',js')∈(o,new,js)::l/\jW lo p e.1 (ini hp e.1 new') js'=some e.2:=by intro h;obtain⟨n',j',h1,h2⟩:=kX h;exact⟨n',j',cM _ h1,h2⟩
  simp only[zS]at h;split at h
  ·rename_i x hx;rcases bB.1 h with rfl | h
   ·exact⟨new,js,by simp,hx⟩
   ·exact tail h
  ·exact tail h
theorem sA{hp:Hp}{lo:List LOp}{p:Nat->Bool}{o:Nat}{new:Bool}{js:List Nat}{x:bC}:∀ {ol:OL},(o,new,js)∈ol->jW lo p o (ini hp o new) js=some x->(o,x)∈zS hp lo p ol
 | [],h,_=>by simp at h
 | (o',n',j')::l,h,hx=>by
  simp only[zS];rcases bB.1 h with e | h
  ·cases e; rw[hx]; simp
  ·split
   ·exact cM _ (sA h hx)
   ·exact sA h hx
theorem yO{d:Nat}:∀ {l:List Nat},Oe d l=true->d∉l
 | [],_=>by simp
 | k::l,h=>by simp only[Oe,cJ,iW]at h;simp only[bB,not_or];exact⟨fun e=>kA h.1 e.symm,yO h.2⟩
theorem aKX{ops:List Oper}:oY (Sy ops)=true->∀ {i k:Nat} {o o':Oper} {d:Nat},ops[i]? = some o->ops[k]? = some o'->o.dst=some d->o'.dst=some d->i=k:=by
 induction ops with
 | nil=>intro _ i k o o' d h; simp at h
 | cons x ops ih=>
  intro hn i k o o' d h1 h2 h3 h4;have hin:∀ {k:Nat} {o':Oper},ops[k]? = some o'->o'.dst=some d->d∈Sy ops:=by intro k o' hk hd;exact List.mem_filterMap.2 ⟨o',gW hk,hd⟩
  have hn':oY (Sy ops)=true/\∀ d',x.dst=some d'->d'∉Sy ops:=by
   unfold Sy at hn ⊢;simp only[List.filterMap_cons]at hn;split at hn
   ·rename_i hx; exact⟨hn,fun d' hd=>by rw[hx]at hd; cases hd⟩
   ·rename_i d0 hx;simp only[oY,cJ]at hn;exact⟨hn.2,fun d' hd=>by rw[hx]at hd; cases hd; exact yO hn.1⟩
  cases i with
  | zero=>
   cases k with
   | zero=>rfl
   | succ k=>simp at h1 h2; subst h1;exact absurd (hin h2 h4) (hn'.2 d h3)
  | succ i=>
   cases k with
   | zero=>simp at h1 h2; subst h2;exact absurd (hin h1 h3) (hn'.2 d h4)
   | succ k=>simp at h1 h2;rw[ih hn'.1 h1 h2 h3 h4]
theorem Cn{ops:List Oper}{pre:List (List Nat)}:∀ {os:List Oper} {i0:Nat},aKA ops pre i0 os=true->∀ {k:Nat} {o:Oper},os[k]? = some o ->
  (∀ j,j∈iG o->j<i0+k)/\∀ x,x∈pre.getD (i0+k) []->x<i0+k/\(x∈iG o\/∃ j,j∈iG o/\x∈pre.getD j [])
 | [],_,_,k,o,h=>by simp at h
 | y::os,i0,hp,k,o,h=>by
  simp only[aKA,cJ,eO]at hp;obtain⟨⟨h1,h2⟩,h3⟩:=hp;cases k with
  | zero=>
   simp at h; subst h;refine⟨fun j hj=>by simpa[dR] using h1 j hj,fun x hx=>?_⟩;have:=h2 x hx;simp only[mW,uX]at this;refine⟨by simpa[dR] using this.1,?_⟩;rcases this.2 with h | ⟨j,hj,h⟩
   ·exact .inl (cZ.1 h)
   ·exact .inr ⟨j,hj,cZ.1 h⟩
  | succ k=>have:=Cn (i0:=i0+1) h3 (k:=k) (o:=o) (by simpa using h);rw[show i0+(k+1)=i0+1+k by omega];exact this
theorem wX{pre:List (List Nat)}{st:St}{fr0:Fr}{lo:List LOp}{ol:OL}:∀ {os:List Oper} {i0:Nat},wE pre st fr0 lo ol i0 os=true->∀ {k:Nat} {o:Oper} {d:Nat},os[k]? = some o->iM o=some d ->
  yX pre (i0+k) d 0 lo=true/\xT st.hp d ol=true/\(∀ e,e∈fr0->e.2.mentions d=false)/\∀ e,e∈ol->e.1=d->∀ j,j∈e.2.2->j=i0+k\/(i0+k)∈pre.getD j []
 | [],_,_,k,o,d,h,_=>by simp at h
 | y::os,i0,hp,k,o,d,h,ha=>by
  simp only[wE,cJ]at hp;cases k with
  | zero=>
   simp at h; subst h;rw[ha]at hp;simp only[cJ,eO,iW,mW]at hp;obtain⟨⟨⟨⟨h1,h2⟩,h3⟩,h4⟩,_⟩:=hp;refine⟨h1,h2,h3,fun e he hed j hj=>?_⟩;rcases h4 e he with h | h
   ·exact absurd hed (kA h)
   ·rcases h j hj with h | h
    ·exact .inl (bU h)
    ·exact .inr (cZ.1 h)
  | succ k=>have:=wX (i0:=i0+1) hp.2 (k:=k) (o:=o) (by simpa using h) ha;rw[show i0+(k+1)=i0+1+k by omega];exact this
theorem tM{pre:List (List Nat)}{i d:Nat}:∀ {ls:List LOp} {j0:Nat},yX pre i d j0 ls=true->∀ {k:Nat} {l:LOp},ls[k]? = some l ->
  (∀ x,l.val=some x->x.mentions d=false\/i∈pre.getD (j0+k) []\/j0+k=i)/\∀ o c kk,l.md=some (o,c,kk)->c.mentions d=false\/i∈pre.getD (j0+k) []\/j0+k=i
 | [],_,_,k,l,h=>by simp at h
 | y::ls,j0,hp,k,l,h=>by
  simp only[yX,cJ]at hp;obtain⟨⟨h1,h2⟩,h3⟩:=hp;cases k with
  | zero=>
   simp at h; subst h;refine⟨fun x hx=>?_,fun o c kk hm=>?_⟩
   ·rw[hx]at h1;simp only[mW,iW]at h1;rcases h1 with (h | h) | h
    ·exact .inl h
    ·exact .inr (.inl (cZ.1 h))
    ·exact .inr (.inr (bU h))
   ·rw[hm]at h2;simp only[mW,iW]at h2;rcases h2 with (h | h) | h
    ·exact .inl h
    ·exact .inr (.inl (cZ.1 h))
    ·exact .inr (.inr (bU h))
  | succ k=>have:=tM (j0:=j0+1) h3 (k:=k) (l:=l) (by simpa using h);rw[show j0+(k+1)=j0+1+k by omega];exact this
theorem Bj{hp:Hp}{d:Nat}:∀ {ol:OL},xT hp d ol=true->∀ {o:Nat} {new:Bool} {js:List Nat},(o,new,js)∈ol->(o=d->new=true)/\∀ c,ini hp o new=some c->c.mentions d=false
 | [],_,o,new,js,h=>by simp at h
 | (o',n',j')::l,hc,o,new,js,h=>by
  simp only[xT,cJ]at hc;rcases bB.1 h with e | h
  ·cases e;refine⟨fun hd=>?_,fun c hi=>?_⟩
   ·subst hd;have:=hc.1.1;rw[lY]at this;exact this
   ·have:=hc.1.2;rw[hi]at this;simpa using this
  ·exact Bj hc.2 h
theorem Hf{ol:OL}:∀ {ls:List LOp} {i0:Nat},Rr ol i0 ls=true->∀ {k:Nat} {l:LOp},ls[k]? = some l ->
  (∀ o c q,l.md=some (o,c,q)->(∃ e,e∈ol/\e.1=o/\i0+k∈e.2.2)/\∀ e,e∈ol->e.1=o\/(q=some e.1/\i0+k∈e.2.2)\/(q≠some e.1/\i0+k∉e.2.2))/\(l.md=none->∀ e,e∈ol->i0+k∉e.2.2)
 | [],_,_,k,l,h=>by simp at h
 | y::ls,i0,hp,k,l,h=>by
  simp only[Rr,cJ]at hp;have nin:∀ {x:Nat} {l:List Nat},inN x l=false->x∉l:=fun h hm=>by rw[cZ.2 hm]at h; cases h
  cases k with
  | zero=>
   simp at h; subst h;refine⟨fun o c q hm=>?_,fun hm=>?_⟩
   ·have:=hp.1;rw[hm]at this;simp only[cJ,uX]at this;obtain⟨⟨e,h1,h2,h3⟩,h4⟩:=this;refine⟨⟨e,h1,bU h2,cZ.1 h3⟩,fun e he=>?_⟩;cases q with
    | none=>
     simp only[eO,mW,iW]at h4;rcases h4 e he with h | h
     ·exact .inl (bU h)
     ·exact .inr (.inr ⟨by simp,nin h⟩)
    | some q=>
     simp only[eO,mW]at h4;rcases h4 e he with h | h
     ·exact .inl (bU h)
     ·split at h
      ·rename_i hb;exact .inr (.inl ⟨by rw[bU hb],cZ.1 h⟩)
      ·rename_i hb;exact .inr (.inr ⟨by simp only[ne_eq,fG]; exact fun h'=>kA hb h'.symm,nin (by simpa using h)⟩)
   ·have:=hp.1;rw[hm]at this;simp only[eO,iW]at this;exact fun e he=>nin (this e he)
  | succ k=>have:=Hf (i0:=i0+1) hp.2 (k:=k) (l:=l) (by simpa using h);rw[show i0+(k+1)=i0+1+k by omega];exact this
theorem wW:∀ {ol:OL},oY (ol.map (·.1))=true->∀ {e e':Nat×Bool×List Nat},e∈ol->e'∈ol->e.1=e'.1->e=e'
 | [],_,e,e',h,_,_=>by simp at h
 | x::ol,hn,e,e',h,h',he=>by
  simp only[kO,oY,cJ]at hn;have hx:=yO hn.1;rcases bB.1 h with q | h
  ·rcases bB.1 h' with q' | h'
   ·rw[q,q']
   ·exact absurd (by rw[<-q,he]; exact pK h') hx
  ·rcases bB.1 h' with q' | h'
   ·exact absurd (by rw[<-q',<-he]; exact pK h) hx
   ·exact wW hn.2 h h' he
theorem Re{ops:List Oper}{calls:List (Nat×(Nat×List PV×PV×Hp×Option (Nat×bC)))}{st:St}{fr0:Fr}{lo:List LOp}{ol:OL}{pre:List (List Nat)}{lits:List (Nat×(Bool×Bool))}{conds:List (Nat×List Prop)}:
  ∀ {os:List Oper} {i0:Nat},Vx I ops calls st fr0 lo ol pre i0 os=Vj ops calls lits conds st fr0 lo ol pre i0 os->∀ {k:Nat} {o:Oper},os[k]? = some o ->
  aAE I ops (look calls (i0+k)) o (stI st fr0 ops lo ol pre (i0+k))=aPR ops calls lits conds (stI st fr0 ops lo ol pre (i0+k)) lo (i0+k) o
 | [],_,_,k,o,h=>by simp at h
 | y::os,i0,he,k,o,h=>by
  simp only[Vx,Vj,List.cons.injEq]at he;cases k with
  | zero=>simp at h; subst h; exact he.1
  | succ k=>have:=Re (i0:=i0+1) he.2 (k:=k) (o:=o) (by simpa using h);rw[show i0+(k+1)=i0+1+k by omega];exact this
theorem aNL{z:PV}{b:Bool}(h:(match (some z:Option PV),b with | some (.t (.bool true)),true=>true | some (.t (.bool false)),false=>true | _,_=>false)=true):z = .t (.bool b):=by
 split at h
 ·rename_i h1; cases h1; rfl
 ·rename_i h1; cases h1; rfl
 ·cases h
theorem Xd(hG:fO P E I)(hm:P.follows .mixedOrders=true){id:Nat}{L l tl:List Oper}(hL:L=l++tl){st stF:St}{calls:List (Nat×(Nat×List PV×PV×Hp×Option (Nat×bC)))}{lits:List (Nat×(Bool×Bool))}{conds:List (Nat×List Prop)}{ol:OL}
  {ts:List Nat}{fr0:Fr}{pre:List (List Nat)}{lo:List LOp}(hf0:∀ e,e∈fr0->e∈st.fr/\e.1∈ts)(hc:Il P calls)(hl:vD lits)(hA:oN conds)(ts' os':List Nat)
  (hw:wfL L l tl pre st ts fr0 lo ol=true)(hlit:aAT lits lo=true)(he:Vx I L calls st fr0 lo ol pre 0 l=Vj L calls lits conds st fr0 lo ol pre 0 l)
  (hF:(stP st fr0 L lo ol (fun j=>Nat.blt j l.length)).keep ts' os'=some stF)(hk:dU P E L Q tl stF):pwp P E (.region id L.toArray true) Q st:=by
 intro a w r;simp only[wfL,cJ]at hw;obtain⟨⟨⟨⟨⟨⟨⟨hpre,hnd⟩,hol⟩,hmods⟩,hchain⟩,hall⟩,hlen,hplen⟩,htl⟩:=hw;have hchain:=eO.1 hchain;have hlen:=bU hlen;have hplen:=bU hplen;have hLl:L.length=l.length+tl.length:=by rw[hL]; simp
 have hat:∀ {i:Nat},i<l.length->L[i]? = l[i]?:=fun hi=>by rw[hL,eV hi]
 let SS:(Nat->Bool)->St:=stP st fr0 L lo ol;have lo_at:∀ {k:Nat} {o:Oper},l[k]? = some o->∃ x,lo[k]? = some x/\lo.getD k default=x:=by
  intro k o hk;have:k<lo.length:=by rw[hlen]; exact(dE.1 hk).1
  exact⟨lo[k],eS this,by simp[this]⟩
 have md_at:∀ {k:Nat} {x:LOp} {o o':Nat} {c:bC} {q:Option Nat},lo[k]? = some x->x.md=some (o,c,q)->Tj lo o' k=(match Nat.beq o o' with | true=>some c | false=>none):=by
  intro k x o o' c q hx hmd;have:lo.getD k default=x:=by rw[cC,hx]; rfl
  unfold Tj;rw[this];cases x with
  | mk v md fs=>simp only at hmd; subst hmd; rfl
 have hdlt:∀ {i:Nat} {o:Oper},L[i]? = some o->∀ j,j∈iG o->j<i:=by intro i o hi j hj;have:=(Cn hpre hi).1 j hj;omega
 have rdy:∀ m:List Bool,m.length=L.length->∀ i o,L[i]? = some o->eA m i false=false->(∀ j,j∈iG o->eA m j false=true)->i∈Region.ready .any L.toArray m.toArray:=by
  intro m hml i o ho hb hd;have hi':i<m.length:=by rw[hml]; exact(dE.1 ho).1
  rw[mem_ready];refine⟨?_,o,by simpa using ho,fun e hee hbd=>?_⟩
  ·rw[eG]at hb;have:m[i]=false:=by simpa[cC,hi'] using hb
   simp[hi',this]
  ·have hdep:e.on∈iG o:=by simp only[iG,eE,qL];exact⟨e,⟨by simpa using hee,hbd⟩,rfl⟩
   have:=hd e.on hdep;rw[eG]at this;simpa[Py,cC] using this
 have done:∀ m:List Bool,m.length=L.length->(∀ i,i<l.length->i∉Region.ready .any L.toArray m.toArray)->∀ i,i<l.length->eA m i false=true:=by
  intro m hml hr i
  induction i using Nat.strongRecOn with
  | _ i ih=>
   intro hi;cases hb:eA m i false with
   | true=>rfl
   | false=>
    exfalso;have ho:L[i]? = some l[i]:=by rw[hat hi]; simp[hi]
    exact hr i hi (rdy m hml i _ ho hb fun j hj=>ih j (hdlt ho j hj) (Nat.lt_trans (hdlt ho j hj) hi))
 have toF:∀ m:List Bool,(∀ i,i<l.length->eA m i false=true)->(∀ i,l.length<=i->eA m i false=false)->∀ {a w},Rel E (SS fun j=>eA m j false) a w->Rel E stF a w:=by
  intro m h1 h2 a w r;have hp:(fun j=>eA m j false)=fun j=>Nat.blt j l.length:=by
   funext j;by_cases hj:j<l.length
   ·rw[h1 j hj]; exact(by simpa[dR] using hj:Nat.blt j l.length=true).symm
   ·rw[h2 j (by omega)];cases hb:Nat.blt j l.length with
    | false=>rfl
    | true=>exact absurd (by simpa[dR] using hb) hj
  rw[hp]at r;exact r.keep hF
 have late:∀ i o,l.length<i->L[i]? = some o->∃ k,k∈iG o/\l.length<=k:=by
  intro i o hi ho;have ho':=ho;rw[hL,fI (by omega)]at ho'
  match tl,htl with
  | [],_=>simp at ho'
  | x::t,h=>simp only[tlB,cJ]at h;exact Hw h.2.1 ho hi
 have htl2:chT L l.length tl=true:=by
  match tl,htl with
  | [],_=>rfl
  | x::t,h=>simp only[tlB,cJ]at h;simp only[chT,mW,cJ];exact .inr h.2
 have notyet:∀ (m:List Bool) (i:Nat),Lt L m i=true->i<m.length->eA m i false=false/\∀ o,L[i]? = some o->∀ j,j∈iG o->eA m j false=true:=by
  intro m i hri him;constructor
  ·unfold Lt at hri;split at hri
   ·cases hri
   ·rename_i hb;rw[eG]at hb ⊢;simpa[cC,him] using hb
  ·intro o ho;unfold Lt at hri;split at hri
   ·cases hri
   ·rw[ho]at hri;exact fun j hj=>eO.1 hri j hj
 have sil:Region.noSelect L.toArray=true->∀ (t:List Oper) (j:Nat),L.drop j=t->aFH L t j=true->∀ (fuel:Nat) (m:List Bool),m.length=L.length->(∀ i,i<j->i<L.length->eA m i false=true)->(∀ i,j<=i->eA m i false=false)->t.length<=fuel ->
   ∀ a w,wpList P L.toArray (oH E Q) t a w->wpAny P .any L.toArray (noP (oH E Q)) fuel m.toArray a w:=by
  intro hns t
  induction t with
  | nil=>intro j hd _ fuel m hml hT hFs _ a w hq;refine Bn (List.eq_nil_iff_forall_not_mem.2 fun i hi=>?_) ⟨by simpa only[wpList] using hq,fun c h=>by cases h⟩ fuel;obtain⟨hri,hiL⟩:=vY hi;have hlen:=List.drop_eq_nil_iff.1 hd;have:=(notyet m i hri (by omega)).1;rw[hT i (by omega) hiL]at this;cases this
  | cons o t ih=>
   intro j hd hsb fuel m hml hT hFs hfu a w hq;have ho:L[j]? = some o:=by rw[<-List.head?_drop,hd]; rfl
   have hjL:j<L.length:=(dE.1 ho).1;have hd':L.drop (j+1)=t:=by rw[<-List.tail_drop,hd]; rfl
   obtain⟨f,rfl⟩:∃ f,fuel=f+1:=⟨fuel-1,by simp only[gP]at hfu; omega⟩;simp only[aFH,cJ]at hsb;obtain⟨⟨hs1,hs2⟩,hs3⟩:=hsb;have hw:Region.wanted o (yielded L.toArray a.tmps)=true:=by unfold Region.wanted; rw[Tn hs1]
   simp only[wpList]at hq;rw[aA hw]at hq;obtain⟨v,hv,hK⟩:=aKW hs1 hq;have hm:m=Ij L j:=by
    refine List.ext_getElem (by unfold Ij; simp[hml]) fun k h1 h2=>?_;have e1:eA m k false=m[k]:=by rw[eG]; simp[h1]
    have e2:(Ij L j)[k]=Nat.blt k j:=by simp[Ij]
    rw[e2,<-e1];by_cases hkj:k<j
    ·rw[hT k hkj (by omega)]; exact(by simpa[dR] using hkj:Nat.blt k j=true).symm
    ·rw[hFs k (by omega)];cases hb:Nat.blt k j with
     | false=>rfl
     | true=>exact absurd (by simpa[dR] using hb) hkj
   have hset:(m.toArray).setIfInBounds j true=(pQ m j).toArray:=by rw[jL]; simp
   have hjm:j<m.length:=by omega
   have hgs:∀ k,eA (pQ m j) k false=(if k=j then true else eA m k false):=by
    intro k;rw[jL,eG,eG];simp only[cC,oD];by_cases hki:k=j
    ·subst hki; simp[hjm]
    ·simp[hki,show j≠k from fun h=>hki h.symm]
   refine wpAny_take (i:=j) (oi:=o) (v:=v) (by simpa using ho) hns (by rw[hm]; exact hs2) (by simpa using rdy m hml j o ho (hFs j (eT _)) fun k hk=>hT k (hdlt ho k hk) (Nat.lt_trans (hdlt ho k hk) hjL)) (fun c a w h=>absurd rfl (h.2 c)) (.inl ⟨hw,hv⟩) ?_;rw[hset];refine ih (j+1) hd' hs3 f (pQ m j) (by rw[jL]; simpa using hml) (fun k hk hkL=>?_) (fun k hk=>?_) (by simp only[gP]at hfu; omega) _ w hK
   ·rw[hgs];split
    ·rfl
    ·exact hT k (by omega) hkL
   ·rw[hgs,aC (by omega)]; exact hFs k (by omega)
 have tail:∀ (t:List Oper) (j:Nat),l.length<=j->L.drop j=t->chT L j t=true->∀ (fuel:Nat) (m:List Bool),m.length=L.length->(∀ i,i<j->i<L.length->eA m i false=true)->(∀ i,j<=i->eA m i false=false)->t.length<=fuel ->
   ∀ a w,wpList P L.toArray (oH E Q) t a w->wpAny P .any L.toArray (oH E Q) fuel m.toArray a w:=by
  intro t
  induction t with
  | nil=>intro j _ hd _ fuel m hml hT hFs _ a w hq;refine Bn (List.eq_nil_iff_forall_not_mem.2 fun i hi=>?_) (by simpa only[wpList] using hq) fuel;obtain⟨hri,hiL⟩:=vY hi;have hlen:=List.drop_eq_nil_iff.1 hd;have:=(notyet m i hri (by omega)).1;rw[hT i (by omega) hiL]at this;cases this
  | cons o t ih=>
   intro j hj hd hch fuel m hml hT hFs hfu a w hq;simp only[chT,mW,cJ]at hch;rcases hch with⟨hns,hsb⟩ | ⟨honly,hch⟩
   ·exact lI (fun e a w h=>h.1) fuel _ a w (sil hns (o::t) j hd hsb fuel m hml hT hFs hfu a w hq)
   have ho:L[j]? = some o:=by rw[<-List.head?_drop,hd]; rfl
   have hjL:j<L.length:=(dE.1 ho).1;have hd':L.drop (j+1)=t:=by rw[<-List.tail_drop,hd]; rfl
   obtain⟨f,rfl⟩:∃ f,fuel=f+1:=⟨fuel-1,by simp only[gP]at hfu; omega⟩;refine⟨fun hr=>?_,fun i hi=>?_⟩
   ·have:=rdy m hml j o ho (hFs j (eT _)) fun k hk=>hT k (hdlt ho k hk) (Nat.lt_trans (hdlt ho k hk) hjL);rw[hr]at this;cases this
   ·obtain⟨hri,hiL⟩:=vY hi;have him:i<m.length:=by omega
    obtain⟨n1,n2⟩:=notyet m i hri him;have hij:i=j:=by
     refine aAZ fun hne=>?_;have hlt:j<i:=by refine aAZ fun h=>?_;rw[hT i (by omega) hiL]at n1;cases n1
     obtain⟨k,hk1,hk2⟩:=Hw honly (eS hiL) hlt;have h1:=n2 _ (eS hiL) _ hk1;rw[hFs k hk2]at h1;cases h1
    subst hij;have hset:(m.toArray).setIfInBounds i true=(pQ m i).toArray:=by rw[jL]; simp
    have hgs:∀ k,eA (pQ m i) k false=(if k=i then true else eA m k false):=by
     intro k;rw[jL,eG,eG];simp only[cC,oD];by_cases hki:k=i
     ·subst hki; simp[him]
     ·simp[hki,show i≠k from fun h=>hki h.symm]
    have go:∀ a w,wpList P L.toArray (oH E Q) t a w->wpAny P .any L.toArray (oH E Q) f (m.toArray.setIfInBounds i true) a w:=by
     intro a w h;rw[hset];refine ih (i+1) (by omega) hd' hch f (pQ m i) (by rw[jL]; simpa using hml) (fun k hk hkL=>?_) (fun k hk=>?_) (by simp only[gP]at hfu; omega) a w h
     ·rw[hgs];split
      ·rfl
      ·exact hT k (by omega) hkL
     ·rw[hgs,aC (by omega)]; exact hFs k (by omega)
    simp only[wpList]at hq;unfold wpOp;rw[show (L.toArray)[i]? = some o by simpa using ho];simp only;split
    ·rename_i hw;rw[aA hw]at hq;rcases hq with hq | hq
     ·exact .inl (Oper.wp_mono go hq)
     ·exact .inr hq
    ·rename_i hw;rw[aC hw]at hq;exact go _ _ hq
 have key:∀ (fuel:Nat) (m:List Bool),m.length=L.length->(∀ i k,eA m i false=true->k∈pre.getD i []->eA m k false=true)->(∀ i,l.length<=i->eA m i false=false)->m.count false<=fuel->∀ a w,Rel E (SS fun j=>eA m j false) a w ->
   wpAny P .any L.toArray (oH E Q) fuel m.toArray a w:=by
  have fin:∀ (fuel:Nat) (m:List Bool),m.length=L.length->(∀ i,l.length<=i->eA m i false=false)->m.count false<=fuel->(∀ i,i<l.length->eA m i false=true)->∀ a w,Rel E (SS fun j=>eA m j false) a w->wpAny P .any L.toArray (oH E Q) fuel m.toArray a w:=by
   intro fuel m hml hts hcnt hall a w r;refine tail tl l.length (eT _) (by rw[hL]; simp) htl2 fuel m hml (fun i hi _=>hall i hi) hts ?_ a w (hk a w (toF m hall hts r));have h1:(m.drop l.length).count false=(m.drop l.length).length:=by
    refine List.count_eq_length.2 fun b hb=>?_;obtain⟨q,hq,rfl⟩:=Ip.1 hb;have h2:=hts (l.length+q) (by omega);rw[eG]at h2;have h3:l.length+q<m.length:=by rw[iH]at hq; omega
    rw[List.getElem_drop];have:m[l.length+q]=false:=by simpa[cC,h3] using h2
    exact this.symm
   have h4:m.count false=(m.take l.length).count false+(m.drop l.length).count false:=by rw[<-List.count_append,lL]
   rw[iH]at h1;omega
  intro fuel
  induction fuel with
  | zero=>
   intro m hml hcl hts hcnt a w r;refine fin 0 m hml hts hcnt (fun i hi=>?_) a w r;have him:i<m.length:=by omega
   cases hb:eA m i false with
   | true=>rfl
   | false=>
    exfalso;rw[eG]at hb;have:m[i]=false:=by simpa[cC,him] using hb
    have:=List.count_pos_iff.2 (this▸oZ him);omega
  | succ fuel ih=>
   intro m hml hcl hts hcnt a w r;by_cases hall0:∀ i,i<l.length->eA m i false=true
   ·exact fin (fuel+1) m hml hts hcnt hall0 a w r
   refine⟨fun hr=>absurd (done m hml fun i _ h=>by rw[hr]at h; cases h) hall0,fun i hi=>?_⟩;obtain⟨hri,hiL⟩:=vY hi;have him:i<m.length:=by omega
   obtain⟨hmi0,hdeps0⟩:=notyet m i hri him;have hil:i<l.length:=by
    refine aAZ fun hn=>?_;have ho:=eS hiL;by_cases hin:i=l.length
    ·subst hin;have hd:=hdeps0 _ ho;refine hall0 fun k hk'=>?_;have e0:L[l.length]? = tl[0]?:=by rw[hL,fI (eT _),Nat.sub_self]
     have hoT:tl[0]? = some L[l.length]:=e0.symm.trans ho
     match tl,htl,hoT with
     | x::t,h,hoT=>
      simp only[tlB,cJ]at h;have hx:x=L[l.length]:=by simpa using hoT
      have:=eO.1 h.1 k (jV.2 hk');rw[hx]at this;simp only[mW,uX]at this;rcases this with h | ⟨j,hj,h⟩
      ·exact hd k (cZ.1 h)
      ·exact hcl j k (hd j hj) (cZ.1 h)
    ·obtain⟨k,hk1,hk2⟩:=late i _ (by omega) ho;have:=hdeps0 _ ho _ hk1;rw[hts k hk2]at this;cases this
   have hol0:l[i]? = some l[i]:=eS hil;have ho:L[i]? = some l[i]:=by rw[hat hil]; exact hol0
   have hmi:eA m i false=false:=by
    unfold Lt at hri;split at hri
    ·cases hri
    ·rename_i hb;rw[eG]at hb ⊢;simpa[cC,him] using hb
   have hdeps:∀ j,j∈iG l[i]->eA m j false=true:=by
    unfold Lt at hri;split at hri
    ·cases hri
    ·rw[ho]at hri;exact fun j hj=>eO.1 hri j hj
   have hpi:=Cn hpre ho;simp only[fN]at hpi;have hprem:∀ k,k∈pre.getD i []->eA m k false=true:=by
    intro k hk;rcases (hpi.2 k hk).2 with h | ⟨j,hj,h⟩
    ·exact hdeps k h
    ·exact hcl j k (hdeps j hj) h
   have hinot:i∉pre.getD i []:=fun h=>Nat.lt_irrefl _ (hpi.2 i h).1;have hsucc:∀ j,i∈pre.getD j []->eA m j false=false:=by
    intro j hj;cases hb:eA m j false with
    | false=>rfl
    | true=>rw[hcl j i hb hj]at hmi; cases hmi
   have hsub1:∀ e,e∈(stI st fr0 L lo ol pre i).fr->e∈(SS fun j=>eA m j false).fr:=by
    intro e he;simp only[stI,gA]at he;show e∈frP _ L fr0++pJ _ 0 L lo;rw[gA];rcases he with he | he
    ·obtain⟨h1,h2⟩:=qC.1 he;refine .inl (qC.2 ⟨h1,fun k o h3 h4=>?_⟩);have:=h2 k o h3 h4;simp only[Bool.not_eq_false',mW]at this;rcases this with (h | h) | h
     ·rw[bU h]; exact hmi
     ·exact hsucc k (cZ.1 h)
     ·exact hts k (by have:=eY h; omega)
    ·obtain⟨k,o,x,h1,h2,h3,h4,h5⟩:=mY he;exact .inr (xK h1 h2 (by rw[fN]at h3 ⊢; exact hprem k (cZ.1 h3)) h4 h5)
   have hsub2:∀ e,e∈(stI st fr0 L lo ol pre i).hp->e∈(SS fun j=>eA m j false).hp:=by
    intro e he;obtain⟨new,js,h1,h2⟩:=kX he;obtain⟨h1,h3⟩:=qL.1 h1;refine sA h1 ?_;rw[<-h2];refine lK fun j hj=>?_;have:=eO.1 h3 j hj;simp only[mW]at this;cases hin:inN j (pre.getD i []) with
    | true=>exact hprem j (cZ.1 hin)
    | false=>
     rcases this with (h | h) | h
     ·rw[bU h]; exact hmi
     ·rw[hin]at h; cases h
     ·exact hsucc j (cZ.1 h)
   have huq:∀ k x y,(k,x)∈(SS fun j=>eA m j false).hp->(k,y)∈(SS fun j=>eA m j false).hp->x=y:=by intro k x y h1 h2;obtain⟨n1,j1,h3,h4⟩:=kX h1;obtain⟨n2,j2,h5,h6⟩:=kX h2;have:=wW hol h3 h5 rfl;cases this;rw[h4]at h6;exact uK h6
   obtain⟨x,hx,hxd⟩:=lo_at hol0;have heff:=Re he hol0;rw[fN]at heff;unfold aPR at heff;rw[hxd]at heff;have hCs:All (match look conds i with | some l=>l | none=>[]):=by
    split
    ·rename_i h; exact hA.mem _ (aS h)
    ·exact trivial
   unfold wpOp;rw[show (L.toArray)[i]? = some l[i] by simpa using ho];simp only;have fin2:(if Region.wanted l[i] (yielded L.toArray a.tmps) then l[i].wp P a w (wpAny P .any L.toArray (oH E Q) fuel (m.toArray.setIfInBounds i true)) (oH E Q) else wpAny P .any L.toArray (oH E Q) fuel (m.toArray.setIfInBounds i true) (a.put l[i].dst undef) w) ->
     (if Region.wanted l[i] (yielded L.toArray a.tmps) then l[i].wp P a w (wpAny P .any L.toArray (oH E Q) fuel (m.toArray.setIfInBounds i true)) (oH E Q)\/l[i].asks P a w/\LetsOut (oH E Q) else wpAny P .any L.toArray (oH E Q) fuel (m.toArray.setIfInBounds i true) (a.put l[i].dst undef) w):=by
    intro hh;split
    ·rename_i hw; rw[aA hw]at hh; exact .inl hh
    ·rename_i hw; rw[aC hw]at hh; exact hh
   refine fin2 (aQD hG (fun k args r Hs ch hca=>hc.mem _ (aS hca)) hsub1 hsub2 huq heff hCs (fun f hf i=>by obtain⟨_,_,rfl⟩:=eE.1 hf; rfl) (fun k args r Hs ch hca hwt=>by rw[hca,hwt]) (fun d hia=>?_) r fun a' w' r'=>?_)
   ·
    obtain⟨c1,c2,c3,c4⟩:=wX hall hol0 hia;simp only[fN]at c1 c4;refine⟨fun e he=>?_,fun e he=>?_⟩
    ·change e∈frP _ L fr0++pJ _ 0 L lo at he;rcases gA.1 he with he | he
     ·exact c3 e (qC.1 he).1
     ·obtain⟨k,o,y,h1,h2,h3,h4,h5⟩:=mY he;rw[fN]at h3;rcases (tM c1 h2).1 _ h5 with h | h | h
      ·exact h
      ·rw[fN]at h; rw[hsucc k h]at h3; cases h3
      ·rw[fN]at h; subst h; rw[hmi]at h3; cases h3
    ·obtain⟨new,js,h1,h2⟩:=kX he;obtain⟨d1,d2⟩:=Bj c2 h1;constructor
     ·cases hb:Nat.beq e.1 d with
      | false=>rfl
      | true=>
       exfalso;have hed:=bU hb;have hnew:=d1 hed;rcases pT h2 with h | ⟨j,hj,hpj,_⟩
       ·rw[hnew]at h; simp[ini]at h
       ·rcases c4 _ h1 hed j hj with h | h
        ·subst h; rw[hmi]at hpj; cases hpj
        ·rw[hsucc j h]at hpj; cases hpj
     ·rcases pT h2 with h | ⟨j,hj,hpj,hmd⟩
      ·exact d2 _ h
      ·have hjl:j<lo.length:=by
        by_cases hjl:j<lo.length
        ·exact hjl
        ·exfalso;have:eA m j false=false:=hts j (by omega);rw[this]at hpj; cases hpj
       have hlj:lo[j]? = some lo[j]:=eS hjl;have hgd:lo.getD j default=lo[j]:=by simp[hjl]
       unfold Tj at hmd;rw[hgd]at hmd;split at hmd
       ·rename_i v0 o0 c0 q0 f0 hv0;split at hmd
        case h_2=>cases hmd
        cases hmd;rcases (tM c1 hlj).2 o0 e.2 q0 (by rw[hv0]) with h | h | h
        ·exact h
        ·rw[fN]at h; rw[hsucc j h]at hpj; cases hpj
        ·rw[fN]at h; subst h; rw[hmi]at hpj; cases hpj
       ·cases hmd
   ·
    have hset:(m.toArray).setIfInBounds i true=(pQ m i).toArray:=by rw[jL]; simp
    rw[hset];have hgs:∀ j,eA (pQ m i) j false=(if j=i then true else eA m j false):=by
     intro j;rw[jL,eG,eG];simp only[cC,oD];by_cases hji:j=i
     ·subst hji; simp[him]
     ·simp[hji,show i≠j from fun h=>hji h.symm]
    refine ih (pQ m i) (by rw[jL]; simpa using hml) (fun j k hj hk=>?_) (fun j hj=>by rw[hgs,aC (by omega)]; exact hts j hj) ?_ a' w' ?_
    ·rw[hgs]at hj ⊢;by_cases hki:k=i
     ·simp[hki]
     ·rw[aC hki];by_cases hji:j=i
      ·subst hji; exact hprem k hk
      ·rw[aC hji]at hj; exact hcl j k hj hk
    ·have hmi2:m[i]=false:=by rw[eG]at hmi; simpa[cC,him] using hmi
     rw[jL,List.count_set him,hmi2];have:0<m.count false:=List.count_pos_iff.2 (by rw[<-hmi2]; exact oZ him);simp;omega
    ·refine r'.sub (fun e he=>?_) (fun e he=>?_)
     ·change e∈frP _ L fr0++pJ _ 0 L lo at he;have old:e∈(SS fun j=>eA m j false).fr->(∀ d,l[i].dst=some d->e.1≠d)->e∈(mG (SS fun j=>eA m j false) l[i].dst (match look lits i with | some (b,_)=>some (PV.t (T.bool b)) | none=>x.val) x.md).fr:=by
       intro h1 h2;unfold mG;simp only;split
       ·rename_i d y hd _;obtain⟨k,z⟩:=e;exact cM _ (bA.2 ⟨h1,h2 d hd⟩)
       ·exact h1
      rcases gA.1 he with he | he
      ·obtain⟨h1,h2⟩:=qC.1 he;refine old (kL _ (qC.2 ⟨h1,fun k o h3 h4=>?_⟩)) fun d hd hed=>?_
       ·have:=h2 k o h3 h4;rw[hgs]at this;split at this
        ·cases this
        ·exact this
       ·have:=h2 i l[i] ho (by rw[hd,hed]);rw[hgs,aA rfl]at this;cases this
      ·obtain⟨k,o,y,h1,h2,h3,h4,h5⟩:=mY he;rw[fN,hgs]at h3;by_cases hki:k=i
       ·subst hki;have h1:l[k]=o:=by rw[ho]at h1; exact uK h1
        have h2:x=y:=by rw[hx]at h2; exact uK h2
        subst h2;rw[h1];unfold mG;simp only;cases hlk:look lits k with
        | none=>simp only[h4,h5]; exact dW ..
        | some bv=>obtain⟨b,v⟩:=bv;have hbv:b=v:=hl.mem _ (aS hlk);subst hbv;have:=eO.1 hlit _ (aS hlk);simp only[hxd,h5]at this;simp only[h4];have hee:e=(e.1,PV.t (T.bool b)):=Prod.ext rfl (aNL this);rw[<-hee];exact dW ..
       ·rw[aC hki]at h3;refine old (lA _ (xK h1 h2 (by rw[fN]; exact h3) h4 h5)) fun d hd hed=>?_;exact hki (aKX hnd h1 ho h4 (by rw[hd,hed]))
     ·obtain⟨new,js,h1,h2⟩:=kX he;have hmo:=Hf hmods hx;simp only[fN]at hmo;have old:i∉js->e∈(SS fun j=>eA m j false).hp:=by intro hnj;refine sA h1 ?_;rw[<-h2];refine lK fun j hj=>?_;have hji:j≠i:=fun h=>hnj (h▸hj);rw[hgs,aC hji]
      unfold mG;simp only;split
      ·rename_i o c q hmd;obtain⟨⟨e0,q1,q2,q3⟩,q4⟩:=hmo.1 o c q hmd;by_cases heo:e.1=o
       ·have:e0=(e.1,new,js):=wW hol q1 h1 (by rw[q2,heo]);subst this;have:=qE (o:=e.1) (q:=fun j=>eA (pQ m i) j false) (by simp[hgs]) (hchain _ h1) q3 (c:=ini st.hp e.1 new) (lo:=lo) (fun j _ hj=>by have hji:j≠i:=fun h=>hinot (h▸hj);show eA (pQ m i) j false=false;rw[hgs,aC hji]; exact hsucc j hj);rw[this,md_at hx hmd,<-heo,lY]at h2;cases h2;rw[<-heo];exact dW ..
       ·refine cM _ ?_;obtain⟨k,z⟩:=e;rcases q4 _ h1 with h | ⟨h,h'⟩ | ⟨h,h'⟩
        ·exact absurd h heo
        ·exfalso;have:=qE (o:=k) (q:=fun j=>eA (pQ m i) j false) (by simp[hgs]) (hchain _ h1) h' (c:=ini st.hp k new) (lo:=lo) (fun j _ hj=>by have hji:j≠i:=fun h=>hinot (h▸hj);show eA (pQ m i) j false=false;rw[hgs,aC hji]; exact hsucc j hj);rw[this,md_at hx hmd]at h2;have hb:Nat.beq o k=false:=by
          cases hb:Nat.beq o k with
          | false=>rfl
          | true=>exact absurd (bU hb).symm heo
         rw[hb]at h2;cases h2
        ·refine bA.2 ⟨?_,heo⟩;cases q with
         | none=>exact old h'
         | some q=>exact bA.2 ⟨old h',fun hh=>h (by rw[hh])⟩
      ·rename_i hmd;exact old (hmo.2 hmd _ h1)
 refine wp_region_any hm ?_;have h0:=key L.length (List.replicate L.length false) (by simp) (fun i k h=>by rw[eG]at h; simp[yE]at h; split at h <;> simp at h) (fun i _=>by rw[eG]; simp[yE]; split <;> rfl) (by simp) a _ (r.drew.sub (fun e he=>?_) (fun e he=>?_))
 ·simpa using h0
 ·change e∈frP _ L fr0++pJ _ 0 L lo at he;rcases gA.1 he with he | he
  ·exact(hf0 e (qC.1 he).1).1
  ·obtain⟨k,o,y,h1,h2,h3,h4,h5⟩:=mY he;rw[eG]at h3;simp[yE]at h3;split at h3 <;> simp at h3
 ·obtain⟨new,js,h1,h2⟩:=kX he;rw[tA (fun j _=>by rw[eG]; simp[yE]; split <;> rfl)]at h2;unfold ini at h2;split at h2
  ·cases h2
  ·exact aS h2
def Nr(I:Inf)(L l:List Oper)(calls:List (Nat×(Nat×List PV×PV×Hp×Option (Nat×bC))))(lits:List (Nat×(Bool×Bool)))(st:St)(ts:List Nat)(ol:OL):List LOp:=
 aSG I L calls lits st (gN st.fr ts) ol (Fz (Nd l) []) 0 l []
theorem rA{α:Type}{l:List (Nat×α)}:∀ {ts:List Nat} e,e∈gN l ts->e.1∈ts
 | [],e,h=>by simp[gN]at h
 | t::ts,e,h=>by
  simp only[gN]at h;split at h
  ·rcases bB.1 h with rfl | h
   ·simp
   ·exact cM _ (rA e h)
  ·exact cM _ (rA e h)
theorem aGH(hG:fO P E I)(hm:P.follows .mixedOrders=true){id:Nat}{L l tl:List Oper}(hL:L=l++tl){st stF:St}(calls:List (Nat×(Nat×List PV×PV×Hp×Option (Nat×bC))))(lits:List (Nat×(Bool×Bool)))(conds:List (Nat×List Prop))(ol:OL)
  (ts:List Nat)(hc:Il P calls)(hl:vD lits)(hA:oN conds)(ts' os':List Nat)
  (hw:(wfL L l tl (Fz (Nd l) []) st ts (gN st.fr ts) (Nr I L l calls lits st ts ol) ol&&aAT lits (Nr I L l calls lits st ts ol))=true)
  (he:Vx I L calls st (gN st.fr ts) (Nr I L l calls lits st ts ol) ol (Fz (Nd l) []) 0 l=Vj L calls lits conds st (gN st.fr ts) (Nr I L l calls lits st ts ol) ol (Fz (Nd l) []) 0 l)
  (hF:(stP st (gN st.fr ts) L (Nr I L l calls lits st ts ol) ol (fun j=>Nat.blt j l.length)).keep ts' os'=some stF)(hk:dU P E L Q tl stF):pwp P E (.region id L.toArray true) Q st:=by
 simp only[cJ]at hw;exact Xd hG hm hL (fun e he=>⟨rF e he,rA e he⟩) hc hl hA ts' os' hw.1 hw.2 he hF hk
end
def zA(L:List Nat)(x:PV):Bool:=match L with | []=>x.pure | _=>x.scalar
section
variable {P:Program} {E:Env} {I:Inf} {Q:gC} {st:St}
end
def uO:T->T->Bool
 | .int k _,.int k' _=>decide (k=k')
 | .str _,.str _=>true
 | _,_=>false
class MKey (K:Type) where
 kT:K->T
 lt:K->K->Bool
 eq:DecidableEq K
 inj:∀ a b,kT a=kT b->a=b
 same:∀ a b,uO (kT a) (kT b)=true
instance (K:Type)[MKey K]:DecidableEq K:=MKey.eq
instance:MKey ByteArray where
 kT:=.str
 lt a b:=Op.bytesLess a.toList b.toList
 eq:=inferInstance
 inj a b h:=by injection h
 same _ _:=by rfl
instance:MKey Int where
 kT n:=.int .i64 n
 lt a b:=decide (a<b)
 eq:=inferInstance
 inj a b h:=by injection h
 same _ _:=by rfl
section
variable {K V:Type} [MKey K]
def iI(v:List (K×V))(k:K):List (K×V):=v.filter fun p=>decide (p.1≠k)
def aKZ(k:K)(c:V):List (K×V)->List (K×V)
 | []=>[(k,c)]
 | p::l=>match MKey.lt k p.1 with | true=>(k,c)::p::l | false=>p::aKZ k c l
def Fx(v:List (K×V))(k:K)(c:V):List (K×V):=aKZ k c (iI v k)
def eC:List (K×V)->K->Option V
 | [],_=>none
 | p::l,k=>if p.1=k then some p.2 else eC l k
def eM(enc:V->Mem)(v:List (K×V)):List (T×Mem):=v.map fun p=>(MKey.kT p.1,enc p.2)
def jN(v:List (K×V)):List K:=v.map (·.1)
def kTs(l:List K):List T:=l.map MKey.kT
theorem zZ(k:K)(c:V):∀ l:List (K×V),(aKZ k c l).Perm ((k,c)::l)
 | []=>.refl _
 | p::l=>by
  simp only[aKZ];split
  ·exact .refl _
  ·exact((zZ k c l).cons p).trans (.swap ..)
theorem Uy(v:List (K×V))(k:K)(c:V):(Fx v k c).Perm ((k,c)::iI v k):=zZ k c _
theorem kM{v:List (K×V)}{k:K}(h:eC v k=none):k∉jN v:=by
 induction v with
 | nil=>simp[jN]
 | cons p l ih=>
  simp only[eC]at h;split at h
  ·cases h
  ·rename_i hp;have:=ih h;simp only[jN,kO,bB,not_or]at this ⊢;exact⟨fun e=>hp e.symm,this⟩
theorem pM{v:List (K×V)}{k:K}(h:k∉jN v):iI v k=v:=by refine List.filter_eq_self.2 fun p hp=>?_;simp only[kP];intro e;exact h (e▸pK hp)
theorem Mr{v:List (K×V)}{k:K}{c:V}(hn:(jN v).Nodup)(h:eC v k=some c):v.Perm ((k,c)::iI v k):=by
 induction v with
 | nil=>simp[eC]at h
 | cons p l ih=>
  simp only[jN,kO,Gy]at hn;simp only[eC]at h;split at h
  ·rename_i hp;injection h with h;have:iI (p::l) k=l:=by have hl:iI l k=l:=pM (hp▸hn.1);unfold iI at hl ⊢;rw[List.filter_cons_of_neg (by simp[hp])];exact hl
   rw[this,<-h,<-hp]
  ·rename_i hp;have:=ih hn.2 h;have e:iI (p::l) k=p::iI l k:=by unfold iI;rw[List.filter_cons_of_pos (by simpa using hp)]
   rw[e];exact(this.cons p).trans (.swap ..)
theorem Ow{enc:V->Mem}{v v':List (K×V)}(h:v.Perm v'):(eM enc v).Perm (eM enc v'):=h.map _
theorem nH{enc:V->Mem}{v:List (K×V)}:(eM enc v).map (·.1)=kTs (jN v):=by simp[eM,kTs,jN,List.map_map,Function.comp_def]
theorem Ch{l:List K}{k:K}:MKey.kT k∈kTs l↔k∈l:=by simp only[kTs,eE];exact⟨fun⟨a,h1,h2⟩=>MKey.inj _ _ h2▸h1,fun h=>⟨k,h,rfl⟩⟩
theorem Bq{l:List K}(h:(kTs l).Nodup):l.Nodup:=by
 induction l with
 | nil=>simp
 | cons a l ih=>simp only[kTs,kO,Gy]at h;exact Gy.2 ⟨fun hm=>h.1 (pK hm),ih h.2⟩
theorem aCF{enc:V->Mem}{v:List (K×V)}(h:((eM enc v).map (·.1)).Nodup):(jN v).Nodup:=Bq (by rw[<-nH (enc:=enc)]; exact h)
end
section
variable {F:Nat->Prop} {g:Nat->Value} {w:World} {b clock:Nat} {es:Array MapEntry} {it:Option fW}
theorem mD.perm{β:Type}{R:α->β->Prop}{l l':List α}(hp:l.Perm l'):∀ {r:List β},mD R l r->∃ r':List β,mD R l' r'/\(l.zip r).Perm (l'.zip r')/\r.Perm r':=by
 induction hp with
 | nil=>intro r h; cases h; exact⟨[],.nil,.refl _,.refl _⟩
 | cons x _ ih=>
  intro r h;cases h with
  | cons h t=>obtain⟨r',h1,h2,h3⟩:=ih t;exact⟨_::r',.cons h h1,by simpa using h2,h3.cons _⟩
 | swap x y l=>
  intro r h;cases h with
  | cons h t=>cases t with
   | cons h' t=>exact⟨_::_::_,.cons h' (.cons h t),by simpa using .swap ..,.swap ..⟩
 | trans _ _ ih1 ih2=>intro r h;obtain⟨r1,h1,h2,h3⟩:=ih1 h;obtain⟨r2,h4,h5,h6⟩:=ih2 h1;exact⟨r2,h4,h2.trans h5,h3.trans h6⟩
def Gx(z:List ((T×Mem)×MapEntry)):Prop:=z.Pairwise fun a c=>a.1.2.owned=true->c.1.2.owned=true->∀ x,blk a.2.val=some x->blk c.2.val=some x->False
theorem aIA{m:List (T×Mem)}{l:List MapEntry}(h:∀ (i j:Nat) x y e e' c,m[i]? = some x->m[j]? = some y->l[i]? = some e->l[j]? = some e'->i≠j->x.2.owned=true->y.2.owned=true->blk e.val=some c->blk e'.val=some c->False):
  Gx (m.zip l):=by
 unfold Gx;rw[List.pairwise_iff_getElem];intro i j hi hj hlt ho ho' x hx hx';simp only[List.length_zip]at hi hj;rw[List.getElem_zip]at ho ho' hx hx';exact h i j m[i] m[j] l[i] l[j] x (eS (by omega)) (eS (by omega)) (eS (by omega)) (eS (by omega)) (by omega) ho ho' hx hx'
theorem aJS{m:List (T×Mem)}{l:List MapEntry}(h:Gx (m.zip l)):∀ (i j:Nat) x y e e' c,m[i]? = some x->m[j]? = some y->l[i]? = some e->l[j]? = some e'->i≠j->x.2.owned=true->y.2.owned=true->blk e.val=some c->blk e'.val=some c->False:=by
 unfold Gx at h;rw[List.pairwise_iff_getElem]at h;have key:∀ (i j:Nat) x y e e' c,m[i]? = some x->m[j]? = some y->l[i]? = some e->l[j]? = some e'->i<j->x.2.owned=true->y.2.owned=true->blk e.val=some c->blk e'.val=some c->False:=by intro i j x y e e' c hx hy he he' hlt ho ho' hb hb';obtain⟨h1,rfl⟩:=dE.1 hx;obtain⟨h2,rfl⟩:=dE.1 hy;obtain⟨h3,rfl⟩:=dE.1 he;obtain⟨h4,rfl⟩:=dE.1 he';exact h i j (by simp; omega) (by simp; omega) hlt (by simpa using ho) (by simpa using ho') c (by simpa using hb) (by simpa using hb')
 intro i j x y e e' c hx hy he he' hne ho ho' hb hb';rcases Nat.lt_or_gt_of_ne hne with h' | h'
 ·exact key i j x y e e' c hx hy he he' h' ho ho' hb hb'
 ·exact key j i y x e' e c hy hx he' he h' ho' ho hb' hb
theorem Gx.perm{z z':List ((T×Mem)×MapEntry)}(h:Gx z)(hp:z.Perm z'):Gx z':=by unfold Gx at h ⊢;exact(hp.pairwise_iff (fun {a c} h ho ho' x hx hx'=>h ho' ho x hx' hx)).1 h
theorem MpR.permM{m m':List (T×Mem)}{ho:Option (T×Option PV)}{l:List MapEntry}(h:MpR F g w b es clock it m ho l r)(hp:m.Perm m'):∃ l',MpR F g w b es clock it m' ho l' r:=by obtain⟨l',h1,h2,h3⟩:=h.ent.perm hp;refine⟨l',((h3.append_right r).symm).trans h.perm,h1,h.hole,?_,h.born,h.old,aJS ((aIA h.sep).perm h2),h.it⟩;exact(((hp.map _).append_right _).nodup_iff).1 h.keys
theorem MpR.focus{m:List (T×Mem)}{k:T}{l:List MapEntry}(h:MpR F g w b es clock it ((k,y)::m) none l r){g':Nat->Value}{p:Option PV}(hp:∀ q,p=some q->∀ v,wP F w y v->(∃ e,e∈es.toList/\e.val=v/\KeyR k e.key)->VR F g' w q v)
  (hit:ItR g' w b es clock it):∃ e l',l=e::l'/\KeyR k e.key/\wP F w y e.val/\e∈es.toList/\MpR F g' w b es clock it m (some (k,p)) l' [e]:=by
 have hr:=h.hole;simp only[lC]at hr;subst hr;have hperm:=h.perm;cases hent:h.ent with
 | @cons _ e _ l' hR t=>
  have he:e∈es.toList:=hperm.mem_iff.1 (by simp);refine⟨e,l',rfl,hR.1,hR.2,he,⟨?_,t,?_,?_,h.born,h.old,fun i j x y' e1 e2 c hx hy h1 h2 hne=>h.sep (i+1) (j+1) x y' e1 e2 c (by simpa using hx) (by simpa using hy) (by simpa using h1) (by simpa using h2) (by omega),hit⟩⟩
  ·rw[gY]at hperm;refine List.Perm.trans ?_ hperm;exact sO (l₁:=l') (l₂:=[e])
  ·cases p with
   | none=>exact .inr ⟨e,rfl,hR.1⟩
   | some q=>exact⟨e,rfl,hR.1,hp q rfl _ hR.2 ⟨e,he,rfl,hR.1⟩⟩
  ·have hk:=h.keys;simp only[kO,hoK,gY]at hk ⊢;refine(Dk ?_).1 hk;exact sO (l₁:=[k]) (l₂:=m.map (·.1))
end
def Mq:T->Option TypeDesc
 | .int k _=>some (.int k)
 | .str _=>some .string
 | _=>none
section
variable {P:Program} {w:World}
theorem xO{k:T}{kv:Value}(hk:KeyR k kv){kd:TypeDesc}(hd:Mq k=some kd):∀ (es:List MapEntry) (i:Nat),(∀ e,e∈es->∃ k',KeyR k' e.key/\uO k k'=true) ->
  (Instr.findNow kd kv es i=some none/\∀ e,e∈es->¬ KeyR k e.key)\/∃ j e,es[j]? = some e/\KeyR k e.key/\Instr.findNow kd kv es i=some (some (i+j,e.val))
 | [],i,_=>.inl ⟨rfl,by simp⟩
 | e::es,i,h=>by
  obtain⟨k',h1,h2⟩:=h e (by simp);have ih:=xO hk hd es (i+1) fun e' he=>h e' (cM _ he);have hs:∃ q,Instr.sameNow kd kv e.key=some q/\(q=true↔k=k'):=by
   generalize e.key=u at h1;cases hk with
   | int q n=>
    cases h1 with
    | int q' n'=>simp only[uO,kP]at h2;subst h2;simp only[Mq,fG]at hd;subst hd;exact⟨n==n',by simp[Instr.sameNow],by simp⟩
    | str s=>cases h2
   | str s=>
    cases h1 with
    | int q' n'=>cases h2
    | str s'=>simp only[Mq,fG]at hd;subst hd;exact⟨s==s',by simp[Instr.sameNow],by rw[MapKept.bytes_beq]; exact⟨fun h=>by rw[h],fun h=>by injection h⟩⟩
  obtain⟨q,hs,hq⟩:=hs;simp only[Instr.findNow,hs];cases q with
  | true=>have hkk:=hq.1 rfl;subst hkk;exact .inr ⟨0,e,by simp,h1,rfl⟩
  | false=>
   have hkk:k≠k':=fun e=>by have:=hq.2 e; cases this
   rcases ih with⟨h3,h4⟩ | ⟨j,e',h3,h4,h5⟩
   ·refine .inl ⟨h3,fun x hx=>?_⟩;rcases bB.1 hx with rfl | hx
    ·exact fun hk'=>hkk (hk'.inj h1)
    ·exact h4 x hx
   ·exact .inr ⟨j+1,e',by simpa using h3,h4,by rw[h5,oG,Nat.add_comm 1 j]⟩
structure Tv (P:Program)(t:TypeId)(k:T)(kt et:TypeId)(kd:TypeDesc):Prop where
 und:P.underlying t=some (.map kt et)
 key:P.underlying kt=some kd
 d:Mq k=some kd
theorem iJ{t et:TypeId}{k:T}(hT:Tv P t k kt et kd)(em:Bool)(v:Value)(n:Nat):(Instr.checkKey em (n+1) kt v).run P w = .ok () w:=by
 have hd:=hT.d;unfold Instr.checkKey;simp only[Sem.run_bind,run_underlying hT.key,Result.andThen_ok];cases k with
 | int q m=>simp only[Mq,fG]at hd; subst hd; cases v <;> rfl
 | str s=>simp only[Mq,fG]at hd; subst hd; cases v <;> rfl
 | _=>cases hd
theorem oT{t et:TypeId}{k:T}(hT:Tv P t k kt et kd)(hk:KeyR k kv)(es:List MapEntry)(h:∀ e,e∈es->∃ k',KeyR k' e.key/\uO k k'=true):
  ((Instr.findKey kt kv es).run P w = .ok none w/\∀ e,e∈es->¬ KeyR k e.key)\/∃ j e,es[j]? = some e/\KeyR k e.key/\(Instr.findKey kt kv es).run P w = .ok (some (j,e.val)) w:=by
 have hf:=xO hk hT.d es 0 h;unfold Instr.findKey;simp only[Sem.run_bind,run_underlying hT.key,Result.andThen_ok];rcases hf with⟨h1,h2⟩ | ⟨j,e,h1,h2,h3⟩
 ·exact .inl ⟨by rw[h1]; rfl,h2⟩
 ·exact .inr ⟨j,e,h1,h2,by rw[h3,fN]; rfl⟩
theorem nV{t et:TypeId}{k:T}(hT:Tv P t k kt et kd)(hk:KeyR k kv){b clock:Nat}{es:Array MapEntry}(hb:w.heap[b]? = some (.map es clock))(h:∀ e,e∈es.toList->∃ k',KeyR k' e.key/\uO k k'=true)
  {info:TypeInfo}(hi:P.info? et=some info)(hz:info.zero=some z):
  ((Instr.lookup t (.map (some b)) kv false).run P w = .ok z w/\∀ e,e∈es.toList->¬ KeyR k e.key)\/∃ e,e∈es.toList/\KeyR k e.key/\(Instr.lookup t (.map (some b)) kv false).run P w = .ok e.val w:=by
 have hf:=oT (w:=w) hT hk es.toList h;unfold Instr.lookup;simp only[Sem.run_bind,run_underlying hT.und,Result.andThen_ok,Go.run_getObj_map w b es clock hb,Sem.run_pure,iJ hT];rcases hf with⟨h1,h2⟩ | ⟨j,e,h1,h2,h3⟩
 ·exact .inl ⟨by rw[h1]; simp[zeroValue,typeInfo,hi,hz],h2⟩
 ·exact .inr ⟨e,gW h1,h2,by rw[h3]; simp⟩
end
def lB(N:List Nat)(o d:Nat)(x' y:bC)(st:St):Option St:=
 match nD d N,Nat.beq d o,st.erase d with
 | true,false,some st1=>some { fr:=st1.fr,hp:=(d,y)::(o,x')::del o st1.hp }
 | _,_,_=>none
section
variable {P:Program} {E:Env} {I:Inf} {F:Nat->Prop} {g:Nat->Value} {st st2:St} {a:Act} {w:World}
theorem bV.focus(hN:E.N=I.N)(r:bV E F g st a w){d:Nat}{x y:bC}(u:Value)(hl:look st.hp o=some x)(hs:lB I.N o d x' y st=some st2)
  (hx':∀ g',(∀ k,k≠d->g' k=g k)->g' d=u->cI F g' w o x')(hy:∀ g',(∀ k,k≠d->g' k=g k)->g' d=u->cI F g' w d y)
  (fx:∀ g' b,(∀ k,k≠d->g' k=g k)->g' d=u->aZ g' w o x' b->aZ g w o x b)(fy:∀ g' b,(∀ k,k≠d->g' k=g k)->g' d=u->aZ g' w d y b->aZ g w o x b)
  (dis:∀ g' b,(∀ k,k≠d->g' k=g k)->g' d=u->aZ g' w o x' b->aZ g' w d y b->False):
  d≠o/\∃ g',g' d=u/\(∀ k,k≠d->g' k=g k)/\bV E F g' st2 a w:=by
 unfold lB at hs;split at hs
 ·rename_i st1 hn hdo he;cases hs;have hdo:=kA hdo;have ho:=fun k (hk:k≠d)=>bG g u hk;have hlm:=aS hl;refine⟨hdo,upd g d u,bE ..,ho,r.nt,r.df,fun t z hz=>?_,⟨?_,r.w.f0,r.w.f1,r.w.ext,fun k hk=>?_,r.w.b0⟩⟩
  ·obtain⟨h1,h2⟩:=St.erase_fr he t z hz;exact(r.fr t z h1).mono (fun b hb=>⟨hb,rfl⟩) (fun k hk=>ho k (h2 k hk))
  ·have old:∀ k z,(k,z)∈del o st1.hp->k≠o/\∃ z',(k,z')∈st.hp/\cI F (upd g d u) w k z/\∀ b,aZ (upd g d u) w k z b->aZ g w k z' b:=by
    intro k z hz;obtain⟨h1,h2⟩:=bA.1 hz;obtain⟨z',h3,h4,h5,h6,h7⟩:=St.erase_hp he k z h1;exact⟨h2,z',h3,(h6 _ _ _ (r.w.hp.obj k z' h3)).mono (fun b hb=>⟨hb,rfl⟩) (ho k h4) (fun k' hk'=>ho k' (h5 k' hk')) (fun _ _=>rfl),
     fun b hb=>h7 _ _ _ (hb.mono (ho k h4) (fun k' hk'=>ho k' (h5 k' hk')) (fun _ _=>rfl))⟩
   have foot:∀ k z b,(k,z)∈(d,y)::(o,x')::del o st1.hp->aZ (upd g d u) w k z b->∃ k' z',(k',z')∈st.hp/\aZ g w k' z' b/\(k=k'\/k=d/\k'=o):=by
    intro k z b hz hb;rcases bB.1 hz with e | hz
    ·cases e; exact⟨o,x,hlm,fy _ b ho (bE ..) hb,.inr ⟨rfl,rfl⟩⟩
    ·rcases bB.1 hz with e | hz
     ·cases e; exact⟨o,x,hlm,fx _ b ho (bE ..) hb,.inl rfl⟩
     ·obtain⟨_,z',h1,_,h3⟩:=old k z hz;exact⟨k,z',h1,h3 b hb,.inl rfl⟩
   refine⟨fun k z hz=>?_,fun k z b hz hb=>?_,fun k z k' z' b hz hz' hne hb hb'=>?_⟩
   ·rcases bB.1 hz with e | hz
    ·cases e; exact hy _ ho (bE ..)
    ·rcases bB.1 hz with e | hz
     ·cases e; exact hx' _ ho (bE ..)
     ·exact(old k z hz).2.choose_spec.2.1
   ·obtain⟨k',z',h1,h2,_⟩:=foot k z b hz hb;exact r.w.hp.own k' z' b h1 h2
   ·have hmem:∀ k z,(k,z)∈(d,y)::(o,x')::del o st1.hp->k=d/\z=y\/k=o/\z=x'\/k≠o/\(k,z)∈del o st1.hp:=by
     intro k z hz;rcases bB.1 hz with e | hz
     ·cases e; exact .inl ⟨rfl,rfl⟩
     ·rcases bB.1 hz with e | hz
      ·cases e; exact .inr (.inl ⟨rfl,rfl⟩)
      ·exact .inr (.inr ⟨(bA.1 hz).2,hz⟩)
    obtain⟨q,z1,h1,h2,h3⟩:=foot k z b hz hb;obtain⟨q',z1',h1',h2',h3'⟩:=foot k' z' b hz' hb';by_cases hq:q=q'
    ·subst hq;rcases h3 with h3 | ⟨h3,h4⟩
     ·rcases h3' with h3' | ⟨h3',h4'⟩
      ·exact hne (h3.trans h3'.symm)
      ·subst h3'; subst h4'; subst h3;rcases hmem _ _ hz with⟨e1,e2⟩ | ⟨e1,e2⟩ | ⟨e1,e2⟩
       ·exact hne e1
       ·subst e2;rcases hmem _ _ hz' with⟨_,e4⟩ | ⟨e3,e4⟩ | ⟨e3,e4⟩
        ·subst e4; exact dis _ b ho (bE ..) hb hb'
        ·exact hdo e3
        ·obtain⟨z',h3,h4,_⟩:=St.erase_hp he _ _ (bA.1 e4).1;exact h4 rfl
       ·exact e1 rfl
     ·subst h3; subst h4;rcases h3' with h3' | ⟨h3',h4'⟩
      ·subst h3';rcases hmem _ _ hz' with⟨e1,e2⟩ | ⟨e1,e2⟩ | ⟨e1,e2⟩
       ·exact hdo e1.symm
       ·subst e2;rcases hmem _ _ hz with⟨_,e4⟩ | ⟨e3,e4⟩ | ⟨e3,e4⟩
        ·subst e4; exact dis _ b ho (bE ..) hb' hb
        ·exact hdo e3
        ·obtain⟨z',h3,h4,_⟩:=St.erase_hp he _ _ (bA.1 e4).1;exact h4 rfl
       ·exact e1 rfl
      ·exact hne h3'.symm
    ·exact r.w.hp.sep q z1 q' z1' b h1 h1' hq h2 h2'
  ·rw[ho k (fun e:k=d=>eH hn (by rw[<-e,<-hN]; exact hk))];exact r.w.names k hk
 ·cases hs
theorem dP{ops l:List Oper}{o:Oper}{rest:List Oper}{Q:gC}(hl:l=o::rest)(hw:bO ops o st=some true)
  (h:∀ F g a w,bV E F g st a w->∃ n v w' st',(execOp a.eval o).run P w = .ok n w'/\(n = .value v\/(n = .skip/\v=undef))/\Rel E st' (a.put o.dst v) w'/\dU P E ops Q rest st'):dU P E ops Q l st:=by
 subst hl;intro a w r;refine wpList_step fun K hK=>?_;obtain⟨F,g,r⟩:=r;have hwt:=gL (ops:=ops.toArray) r (by simpa using hw);obtain⟨n,v,w',st',h1,h2,h3,h4⟩:=h F g a w r;rw[aA hwt];unfold Oper.wp;rw[h1];rcases h2 with rfl | ⟨rfl,rfl⟩
 ·exact hK _ _ (h4 _ _ h3)
 ·exact hK _ _ (h4 _ _ h3)
def kY(ti:Nat->Option dA)(t:Nat)(k:T):Option Nat:=
 match ti t with
 | some i=>match i.und with
  | .mp kt et=>match ti kt with
   | some j=>match j.und,k with
    | .int .i64,.int .i64 _=>some et
    | .str,.str _=>some et
    | _,_=>none
   | none=>none
  | _=>none
 | none=>none
theorem mT(hI:lE P I.ti){k:T}(h:kY I.ti t k=some et):∃ kt kd,Tv P t k kt et kd:=by
 unfold kY at h;split at h
 ·rename_i i hi;split at h
  ·rename_i kt et' hu;split at h
   ·rename_i j hj;have hm:=(hI _ _ hi).und; rw[hu]at hm;have hk:=(hI _ _ hj).und;split at h
    ·rename_i hu' ; rw[hu']at hk; cases h; exact⟨kt,_,hm,hk,rfl⟩
    ·rename_i hu' ; rw[hu']at hk; cases h; exact⟨kt,_,hm,hk,rfl⟩
    ·cases h
   ·cases h
  ·cases h
 ·cases h
def wG(P:Program)(t:TypeId)(z:Value):Prop:=∃ info,P.info? t=some info/\info.zero=some z
theorem qG{t:TypeId}(h:(P.info? t).bind (·.zero)=some z):wG P t z:=by
 cases hi:P.info? t with
 | none=>rw[hi]at h; cases h
 | some i=>rw[hi]at h; exact⟨i,hi,h⟩
end
section
variable {F:Nat->Prop} {g:Nat->Value} {w:World} {b clock:Nat} {es:Array MapEntry} {it:Option fW} {K V:Type} [MKey K] {enc:V->Mem}
theorem MpR.kinds{v:List (K×V)}{ho:Option (T×Option PV)}{l:List MapEntry}(h:MpR F g w b es clock it (eM enc v) ho l r)(hh:∀ k p,ho=some (k,p)->∃ k':K,k=MKey.kT k')(k:K):
  ∀ e,e∈es.toList->∃ k',KeyR k' e.key/\uO (MKey.kT k) k'=true:=by
 intro e he;rcases gA.1 (h.perm.mem_iff.2 he) with hl | hr
 ·obtain⟨j,y,hy,_,hR⟩:=h.ent.memr hl;have:=gW hy;simp only[eM,eE]at this;obtain⟨p,_,rfl⟩:=this;exact⟨_,hR.1,MKey.same _ _⟩
 ·have hho:=h.hole;rcases ho with _ | ⟨q,p⟩
  ·simp only[lC]at hho; subst hho; simp at hr
  ·obtain⟨k',rfl⟩:=hh q p rfl;have:KeyR (MKey.kT k') e.key:=by
    cases p with
    | none=>
     rcases hho with rfl | ⟨e',rfl,h2⟩
     ·simp at hr
     ·simp at hr; subst hr; exact h2
    | some p=>obtain⟨e',rfl,h2,_⟩:=hho;simp at hr; subst hr; exact h2
   exact⟨_,this,MKey.same _ _⟩
end
def Lm(d:Nat):Option fW->Bool
 | none=>true
 | some i=>match Nat.beq i.o d with | true=>false | false=>true
theorem Dr{d:Nat}{it:Option fW}(h:Lm d it=true):∀ k,k∈itN it->k≠d:=by
 cases it with
 | none=>simp[itN]
 | some i=>
  simp only[Lm]at h;split at h
  ·cases h
  ·rename_i hk;intro k hk';simp only[itN,fQ]at hk';subst hk';exact kA hk
section
variable {F:Nat->Prop} {g g':Nat->Value} {w:World} {b clock ob d:Nat} {es:Array MapEntry} {it:Option fW}
theorem ItR.agree{it:Option fW}(h:ItR g w b es clock it)(hg:∀ k,k∈itN it->g' k=g k):ItR g' w b es clock it:=by
 cases it with
 | none=>exact True.intro
 | some i=>obtain⟨r,since,seen,c0,e1,e⟩:=h;exact⟨r,since,seen,c0,by rw[hg i.o (by simp[itN])]; exact e1,e⟩
theorem MpR.uniq{m:List (T×Mem)}{ho:Option (T×Option PV)}{l:List MapEntry}(h:MpR F g w b es clock it m ho l r){x:T×Mem}(hx:x∈m){e e':MapEntry}(he:e∈es.toList)(he':e'∈es.toList)
  (hk:KeyR x.1 e.key)(hk':KeyR x.1 e'.key):e=e':=by
 obtain⟨_,i,h1,h2⟩:=h.entry hx he hk;obtain⟨_,j,h3,h4⟩:=h.entry hx he' hk';have hn:=(vL.1 h.keys).1;have:i=j:=by
  have e1:(m.map (·.1))[i]? = some x.1:=by simp[h1]
  have e2:(m.map (·.1))[j]? = some x.1:=by simp[h3]
  exact(List.getElem?_inj (by simpa using (dE.1 h1).1) hn).1 (e1.trans e2.symm)
 subst this;rw[h2]at h4;injection h4
theorem aZ.perm{m m':List (T×Mem)}{ho:Option (T×Option PV)}(hp:m.Perm m'){x:Nat}(h:aZ g w ob (.mp it m ho) x):aZ g w ob (.mp it m' ho) x:=by
 cases h with
 | self h=>exact .self h
 | iter h=>exact .iter h
 | mem h1 h2 h3 h4 h5 h6 h7=>exact .mem h1 h2 h3 (hp.mem_iff.1 h4) h5 h6 h7
theorem aZ.cons{m:List (T×Mem)}{ho ho':Option (T×Option PV)}{y:T×Mem}{x:Nat}(h:aZ g w ob (.mp it m ho) x):aZ g w ob (.mp it (y::m) ho') x:=by
 cases h with
 | self h=>exact .self h
 | iter h=>exact .iter h
 | mem h1 h2 h3 h4 h5 h6 h7=>exact .mem h1 h2 h3 (cM _ h4) h5 h6 h7
theorem aZ.agree{x:bC}(ho:g' ob=g ob)(hg:∀ k,k∈itN it->g' k=g k){m:List (T×Mem)}{hl:Option (T×Option PV)}(hx:x = .mp it m hl)(h:aZ g' w ob x c):aZ g w ob x c:=by
 subst hx;cases h with
 | self h=>exact .self (ho▸h)
 | iter h=>exact .iter (by rw[<-hg _ (by simp[itN])]; exact h)
 | mem h1 h2 h3 h4 h5 h6 h7=>exact .mem (by rw[<-ho]; exact h1) h2 h3 h4 h5 h6 h7
theorem MpR.give{m:List (T×Mem)}{kk:T}{l:List MapEntry}(h:MpR F g w b es clock it ((kk,y)::m) none l r)(hob:g ob = .map (some b))(hb:w.heap[b]? = some (.map es clock))(hy:y.owned=true)
  (hdo:d≠ob)(hit:Lm d it=true){e:MapEntry}(he:e∈es.toList)(hk:KeyR kk e.key){p:Option PV}(hp:∀ g',g' d=e.val->∀ q,p=some q->VR F g' w q e.val):
  wP F w y e.val/\∀ g',(∀ k,k≠d->g' k=g k)->g' d=e.val->cI F g' w ob (.mp it m (some (kk,p)))/\(∀ c,aZ g' w ob (.mp it m (some (kk,p))) c->aZ g w ob (.mp it ((kk,y)::m) none) c) /\
   (∀ Y c,bC.plain Y=true->aZ g' w d Y c->aZ g w ob (.mp it ((kk,y)::m) none) c)/\∀ Y c,bC.plain Y=true->aZ g' w ob (.mp it m (some (kk,p))) c->aZ g' w d Y c->False:=by
 have hent:=h.entry (x:=(kk,y)) (by simp) he hk;refine⟨hent.1.2,fun g' hg hd=>?_⟩;have hno:=Dr hit;have hga:∀ k,k∈itN it->g' k=g k:=fun k hk=>hg k (hno k hk);have hob':g' ob=g ob:=hg ob (fun e=>hdo e.symm);obtain⟨e1,l',hl,hk1,hm1,he1,hM⟩:=h.focus (g':=g') (p:=p) (fun q hq v hv ⟨e2,h1,h2,h3⟩=>by have:e2=e:=h.uniq (x:=(kk,y)) (by simp) h1 he h3 hk;subst this;rw[<-h2];exact hp g' hd q hq) (h.it.agree hga);have foot:∀ c,aZ g' w ob (.mp it m (some (kk,p))) c->aZ g w ob (.mp it ((kk,y)::m) none) c:=fun c hc=>(aZ.agree hob' hga rfl hc).cons;refine⟨⟨b,es,clock,by rw[hob']; exact hob,hb,l',[e1],hM⟩,foot,fun Y c hY hc=>?_,fun Y c hY hc hc'=>?_⟩
 ·have:=hc.toBlk hY;rw[hd]at this;exact .mem hob hb he (x:=(kk,y)) (by simp) hk hy this
 ·have hv:=hc'.toBlk hY;rw[hd]at hv;obtain⟨vs,ty,hcell⟩:=hent.1.2.block hy hv;cases aZ.agree hob' hga rfl hc with
  | self h'=>rw[hob]at h'; simp[blk]at h'; subst h';rw[hb]at hcell; cases hcell
  | iter h'=>obtain⟨r',since,seen,c0,e3,e4,_⟩:=h.it;rw[e3]at h'; simp[blk]at h'; subst h';rw[e4]at hcell; cases hcell
  | @mem _ _ _ _ bm cl es' e2 x h1 h2 h3 h4 h5 h6 h7=>
   rw[hob]at h1; injection h1 with h1; injection h1 with h1; subst h1;rw[hb]at h2; injection h2 with h2; injection h2 with h2 h2'; subst h2;obtain⟨_,j,hj1,hj2⟩:=h.entry (x:=x) (cM _ h4) h3 h5;obtain⟨_,i,hi1,hi2⟩:=hent;have hij:i≠j:=by intro e'; subst e';rw[hi1]at hj1;injection hj1 with hj1;have hn:=(vL.1 h.keys).1;simp only[kO,Gy]at hn;exact hn.1 (by rw[show kk=x.1 by rw[<-hj1]]; exact pK h4)
   exact h.sep i j _ _ _ _ c hi1 hj1 hi2 hj2 hij hy h6 hv h7
theorem zN.ts{l:List T}(h:zN F g w u (l.map .t))(g':Nat->Value):zN F g' w u (l.map .t):=
 h.mono (fun b hb=>⟨hb,rfl⟩) (fun o ho=>by rw[Mz]at ho; simp at ho) (fun _ _=>rfl)
end
section
variable {P:Program} {E:Env} {I:Inf} {F:Nat->Prop} {g:Nat->Value} {st:St} {a:Act} {w:World} {K V:Type} [MKey K]
theorem VR.key{k:T}(h:VR F g w (.t k) v)(hd:Mq k=some kd):KeyR k v:=by
 have h:=h.cells_t rfl;cases k with
 | int q n=>rw[h.inv_int]; exact .int ..
 | str s=>rw[h.inv_str]; exact .str ..
 | _=>cases hd
theorem Aq{N:List Nat}{d:Nat}{y:bC}{st2:St}(h:lB N o d x' y st=some st2):d≠o:=by
 unfold lB at h;split at h
 ·rename_i h1 h2 h3; exact kA h2
 ·cases h
theorem MpR.found{b clock:Nat}{es:Array MapEntry}{it:Option fW}{enc:V->Mem}{v:List (K×V)}{l:List MapEntry}(h:MpR F g w b es clock it (eM enc v) none l r)(k:K):
  (eC v k=none->∀ e,e∈es.toList->¬ KeyR (MKey.kT k) e.key)/\(∀ c,eC v k=some c->(eM enc v).Perm ((MKey.kT k,enc c)::eM enc (iI v k))/\∃ e,e∈es.toList/\KeyR (MKey.kT k) e.key):=by
 have hnd:(jN v).Nodup:=aCF (enc:=enc) (vL.1 h.keys).1;have hr:=h.hole;simp only[lC]at hr;subst hr;refine⟨fun hn e he hk=>?_,fun c hc=>?_⟩
 ·have:=h.perm.mem_iff.2 he;rw[gY]at this;obtain⟨j,y,hy,_,hR⟩:=h.ent.memr this;have hy:=gW hy;simp only[eM,eE]at hy;obtain⟨p,hp,rfl⟩:=hy;have:p.1=k:=MKey.inj _ _ (hR.1.inj hk);exact kM hn (this▸pK hp)
 ·have hp:=Ow (enc:=enc) (Mr hnd hc);refine⟨hp,?_⟩;obtain⟨j,e,h1,h2,h3⟩:=h.ent.mem (hp.mem_iff.2 (dW ..));exact⟨e,h.perm.mem_iff.1 (kL _ (gW h2)),h3.1⟩
theorem Ff(hG:fO P E I){ops l:List Oper}{o:Oper}{rest:List Oper}{Q:gC}{d ob:Nat}{it:Option fW}{nn:V->Nat}{ff:V->Nat->List T}(v:List (K×V))(k:K)(dflt:V)
  (hl:l=o::rest)(hop:o.op = .lookup t x kx false)(hd:o.dst=some d)(hw:bO ops o st=some true)(hnt:Nat.blt d I.nt=true)(hx:ev st x=some (.map ob))(hk:ev st kx=some (.t (MKey.kT k)))
  (hob:look st.hp ob=some (.mp it (eM (fun c=>.row e s (nn c) (ff c)) v) none))(hm:kY I.ti t (MKey.kT k)=some et)(hz:wG P et (.slice none 0 0))(hit:Lm d it=true)(hdf:nn dflt=0){st2:St}
  (hs:lB I.N ob d (.mp it (eM (fun c=>.row e s (nn c) (ff c)) (iI v k)) (some (MKey.kT k,none))) (.arr e s (nn ((eC v k).getD dflt)) (ff ((eC v k).getD dflt))) st=some st2)
  (h1:dU P E ops Q rest (st2.put d (.own d))):dU P E ops Q l st:=by
 refine dP hl hw fun F g a w r=>?_;have hd':d<E.nt:=by rw[hG.nt]; simpa[dR] using hnt
 obtain⟨kt,kd,hT⟩:=mT hG.ti hm;obtain⟨info,hi,hz⟩:=hz;obtain⟨b,es,clock,e1,e2,l1,r1,hM⟩:=r.w.hp.obj _ _ (aS hob);have hxv:=bK r hx;have hkv:=(bK r hk).key hT.d;obtain⟨u,hu⟩:∃ u,a.eval x=u:=⟨_,rfl⟩;obtain⟨kv,hkv'⟩:∃ u,a.eval kx=u:=⟨_,rfl⟩;rw[hu]at hxv; rw[hkv']at hkv;have hdo:=Aq hs;have hno:=Dr hit;cases hxv with
 | map hg=>
  rw[e1]at hg; injection hg with hg; injection hg with hg; subst hg;have hrun:=nV (P:=P) hT hkv e2 (hM.kinds (by simp) k) hi hz;have hf:=hM.found k;have hex:∀ v',(Instr.lookup t (.map (some b)) kv false).run P w = .ok v' w->(execOp a.eval o).run P w = .ok (.value v') w:=by intro v' hv';unfold execOp;simp[hop,hu,hkv',hv']
  cases hlk:eC v k with
  | none=>
   rw[hlk]at hs;simp only[Option.getD_none]at hs;rcases hrun with⟨h2,hnk⟩ | ⟨e,he,hke,_⟩
   ·have hmd:iI v k=v:=pM (kM hlk);have hag:∀ g':Nat->Value,(∀ q,q≠d->g' q=g q)->∀ q,q∈itN it->g' q=g q:=fun g' hg q hq=>hg q (hno q hq);have hfx:∀ (g':Nat->Value) c',(∀ q,q≠d->g' q=g q)->aZ g' w ob (.mp it (eM (fun c=>.row e s (nn c) (ff c)) (iI v k)) (some (MKey.kT k,none))) c'->aZ g w ob (.mp it (eM (fun c=>.row e s (nn c) (ff c)) v) none) c':=by
     intro g' c' hg hc;rw[hmd]at hc;cases aZ.agree (hg ob (fun e=>hdo e.symm)) (hag g' hg) rfl hc with
     | self h=>exact .self h
     | iter h=>exact .iter h
     | mem a1 a2 a3 a4 a5 a6 a7=>exact .mem a1 a2 a3 a4 a5 a6 a7
    have hobj:∀ g':Nat->Value,(∀ q,q≠d->g' q=g q)->cI F g' w ob (.mp it (eM (fun c=>.row e s (nn c) (ff c)) (iI v k)) (some (MKey.kT k,none))):=by intro g' hg;refine⟨b,es,clock,by rw[hg ob (fun e=>hdo e.symm)]; exact e1,e2,l1,r1,?_⟩;rw[hmd];have hr1:=hM.hole;simp only[lC]at hr1;subst hr1;refine⟨hM.perm,hM.ent,.inl rfl,?_,hM.born,hM.old,hM.sep,hM.it.agree (hag g' hg)⟩;have hkk:=hM.keys;simp only[hoK,gY]at hkk ⊢;rw[vL];refine⟨hkk,by simp,fun q hq q' hq'=>?_⟩;simp only[fQ]at hq';subst hq';intro e';rw[nH,e',Ch]at hq;exact kM hlk hq
    obtain⟨_,g',hgd,hga,r'⟩:=r.focus hG.N (.slice none 0 0) hob hs (fun g' hg hgd=>hobj g' hg)
     (fun g' hg hgd=>by simp only[cI]; rw[hgd]; exact .inl ⟨rfl,hdf⟩)
     (fun g' c' hg hgd hc=>hfx g' c' hg hc)
     (fun g' c' hg hgd hc=>by have:=hc.toBlk rfl; rw[hgd]at this; simp[blk]at this)
     (fun g' c' hg hgd hc hc'=>by have:=hc'.toBlk rfl; rw[hgd]at this; simp[blk]at this)
    exact⟨_,_,w,_,hex _ h2,.inl rfl,by rw[hd]; exact⟨F,g',r'.put hd' (.own hgd)⟩,h1⟩
   ·exact absurd hke (hf.1 hlk e he)
  | some c=>
   rw[hlk]at hs;simp only[oL]at hs;obtain⟨hp,e0,he0,hk0⟩:=hf.2 c hlk;rcases hrun with⟨_,h2⟩ | ⟨e',he,hke,h2⟩
   ·exact absurd hk0 (h2 e0 he0)
   ·obtain⟨l2,hM2⟩:=hM.permM hp;have hmem:=(hM2.entry (x:=(MKey.kT k,Mem.row e s (nn c) (ff c))) (by simp) he hke).1.2;have hsl:∃ ad m c',e'.val = .slice ad m c':=by
     rcases hmem with⟨h1,_⟩ | ⟨bb,cap,cur,h1,_⟩
     ·exact⟨_,_,_,h1⟩
     ·exact⟨_,_,_,h1⟩
    have hgive:=hM2.give (d:=d) (ob:=ob) (p:=none) e1 e2 rfl hdo hit he hke (fun g' hg' q hq=>by cases hq);obtain⟨_,g',hgd,hga,r'⟩:=r.focus hG.N e'.val hob hs (fun g' hg hgd=>(hgive.2 g' hg hgd).1)
     (fun g' hg hgd=>by simp only[cI]; rw[hgd]; exact hmem)
     (fun g' c' hg hgd hc=>((hgive.2 g' hg hgd).2.1 c' hc).perm hp.symm)
     (fun g' c' hg hgd hc=>((hgive.2 g' hg hgd).2.2.1 _ c' rfl hc).perm hp.symm)
     (fun g' c' hg hgd hc hc'=>(hgive.2 g' hg hgd).2.2.2 _ c' rfl hc hc')
    obtain⟨ad,mm,cc,hsl⟩:=hsl;exact⟨_,_,w,_,hex _ h2,.inl rfl,by rw[hd]; exact⟨F,g',r'.put hd' (by rw[hsl]; exact .own (by rw[hgd,hsl]))⟩,h1⟩
end
theorem Hg{l:List α}{i:Nat}{e e':α}(h:l[i]? = some e):l.Perm (e::l.eraseIdx i)/\(l.set i e').Perm (e'::l.eraseIdx i):=by
 induction l generalizing i with
 | nil=>simp at h
 | cons x l ih=>
  cases i with
  | zero=>simp only[Es,fG]at h;subst h;exact⟨.refl _,.refl _⟩
  | succ i=>obtain⟨h1,h2⟩:=ih (by simpa using h);exact⟨(h1.cons x).trans (.swap ..),by simpa using (h2.cons x).trans (.swap ..)⟩
section
variable {P:Program} {w:World}
theorem Ct{k:T}(h:KeyR k v)(n:Nat):Instr.sameBits (n+1) v v=true:=by
 cases h with
 | int q m=>simp[Instr.sameBits]
 | str s=>simp only[Instr.sameBits]; rw[MapKept.bytes_beq]
theorem zU{t et:TypeId}{k:T}(hT:Tv P t k kt et kd)(hk:KeyR k kv){b clock:Nat}{es:Array MapEntry}(hb:w.heap[b]? = some (.map es clock))
  (h:∀ e,e∈es.toList->∃ k',KeyR k' e.key/\uO k k'=true)(old:∀ e,e∈es.toList->e.born<clock)(hn:(es.toList.map (·.born)).Nodup)(u:Value):
  ∃ es' clock' e',(Instr.mapUpdate t (.map (some b)) kv u).run P w = .ok () { w with heap:=w.heap.setIfInBounds b (.map es' clock') }/\e'.key=kv/\e'.val=u/\(es'.toList.map (·.born)).Nodup /\
   (∀ e,e∈es'.toList->e.born<clock')/\(((∀ e,e∈es.toList->¬ KeyR k e.key)/\es'.toList.Perm (e'::es.toList))\/∃ e0 q,e0∈es.toList/\KeyR k e0.key/\es.toList.Perm (e0::q)/\es'.toList.Perm (e'::q)/\e'.born=e0.born/\clock'=clock):=by
 have hf:=oT (w:=w) hT hk es.toList h;rcases hf with⟨h1,h2⟩ | ⟨j,e0,h1,h2,h3⟩
 ·refine⟨es.push { key:=kv,val:=u,born:=clock },clock+1,{ key:=kv,val:=u,born:=clock },?_,rfl,rfl,?_,?_,.inl ⟨h2,?_⟩⟩
  ·unfold Instr.mapUpdate;simp only[Sem.run_bind,run_underlying hT.und,Result.andThen_ok,Go.run_getObj_map w b es clock hb,iJ hT,h1,MapKept.run_setObj_map _ hb]
  ·simp only[Array.toList_push,Aw,kO,List.map_nil];rw[vL];refine⟨hn,by simp,fun x hx y hy=>?_⟩;simp only[fQ]at hy;obtain⟨e,he,rfl⟩:=eE.1 hx;have:=old e he;omega
  ·intro e he;simp only[Array.toList_push,gA,fQ]at he;rcases he with he | rfl
   ·have:=old e he; omega
   ·exact Nat.lt_succ_self _
  ·rw[Array.toList_push];exact sO (l₁:=es.toList) (l₂:=[_])
 ·have hj:j<es.size:=by have:=(dE.1 h1).1; simpa using this
  have hj':es[j]? = some e0:=by simpa using h1
  have hkey:e0.key=kv:=h2.inj' hk;have hmod:(es.modify j fun e=>{ e with key:=kv,val:=u }).toList=es.toList.set j { e0 with key:=kv,val:=u }:=by
   refine List.ext_getElem? fun i=>?_;rw[oD];simp only[uR,Array.getElem?_modify];split
   ·rename_i hij;subst hij;rw[hj'];simp[hj]
   ·rfl
  have hp:=Hg (e':={ e0 with key:=kv,val:=u }) h1;refine⟨es.modify j fun e=>{ e with key:=kv,val:=u },clock,{ e0 with key:=kv,val:=u },?_,rfl,rfl,?_,?_,.inr ⟨e0,_,gW h1,h2,hp.1,by rw[hmod]; exact hp.2,rfl,rfl⟩⟩
  ·have hstay:(Instr.keyThatStays ((es[j]?.map (·.key)).getD kv) kv).run P w = .ok kv w:=by rw[hj',kZ,oL,hkey];unfold Instr.keyThatStays;rw[show (10000:Nat)=9999+1 from rfl,aA (Ct hk 9999)];simp
   unfold Instr.mapUpdate;simp only[Sem.run_bind,run_underlying hT.und,Result.andThen_ok,Go.run_getObj_map w b es clock hb,iJ hT,h3,hstay,MapKept.run_setObj_map _ hb]
  ·rw[hmod];have:(es.toList.set j { e0 with key:=kv,val:=u }).map (·.born)=es.toList.map (·.born):=by
    refine List.ext_getElem? fun i=>?_;rw[eR,oD,eR];split
    ·rename_i hij; subst hij; rw[h1]; simp[hj]
    ·rfl
   rw[this]; exact hn
  ·intro e he;rw[hmod]at he;rcases List.mem_or_eq_of_mem_set he with he | rfl
   ·exact old e he
   ·exact old e0 (gW h1)
theorem zV{t et:TypeId}{k:T}(hT:Tv P t k kt et kd)(hk:KeyR k kv){b clock:Nat}{es:Array MapEntry}(hb:w.heap[b]? = some (.map es clock))
  (h:∀ e,e∈es.toList->∃ k',KeyR k' e.key/\uO k k'=true)(ats:Array TypeId)(ha:ats[0]? = some t)(ty:TypeId):
  ∃ es',(Builtin.delete_ ats ty #[.map (some b),kv]).run P w = .ok (.tuple #[]) { w with heap:=w.heap.setIfInBounds b (.map es' clock) } /\
   (((∀ e,e∈es.toList->¬ KeyR k e.key)/\es'=es)\/∃ e0,e0∈es.toList/\KeyR k e0.key/\es.toList.Perm (e0::es'.toList)):=by
 have hf:=oT (w:=w) hT hk es.toList h;rcases hf with⟨h1,h2⟩ | ⟨j,e0,h1,h2,h3⟩
 ·refine⟨es,?_,.inl ⟨h2,rfl⟩⟩;unfold Builtin.delete_;simp[ha,run_underlying hT.und,Go.run_getObj_map w b es clock hb,iJ hT,h1,MapKept.run_setObj_map _ hb]
 ·have hj:j<es.size:=by have:=(dE.1 h1).1; simpa using this
  refine⟨es.eraseIdxIfInBounds j,?_,.inr ⟨e0,gW h1,h2,?_⟩⟩
  ·unfold Builtin.delete_;simp[ha,run_underlying hT.und,Go.run_getObj_map w b es clock hb,iJ hT,h3,MapKept.run_setObj_map _ hb]
  ·have:=(Hg (e':=e0) h1).1;simp only[Array.eraseIdxIfInBounds,hj,dif_pos,Array.toList_eraseIdx];exact this
end
section
variable {F:Nat->Prop} {g:Nat->Value} {w:World} {b clock:Nat} {es es':Array MapEntry}
theorem MpR.rest{it:Option fW}{m:List (T×Mem)}{k:T}{p:Option PV}{l:List MapEntry}(h:MpR F g w b es clock it m (some (k,p)) l r):
  ((∀ e,e∈es.toList->¬ KeyR k e.key)->r=[])/\(∀ e0 q,e0∈es.toList->KeyR k e0.key->es.toList.Perm (e0::q)->r=[e0]/\l.Perm q):=by
 have hk:=h.keys;rw[vL]at hk;have hnot:∀ e,e∈l->¬ KeyR k e.key:=by intro e he hke;obtain⟨j,y,hy,_,hR⟩:=h.ent.memr he;exact hk.2.2 _ (pK (gW hy)) k (by simp[hoK]) (hR.1.inj hke)
 have hr:r=[]\/∃ e,r=[e]/\KeyR k e.key:=by
  have hh:=h.hole;cases p with
  | none=>exact hh
  | some p=>obtain⟨e,h1,h2,_⟩:=hh; exact .inr ⟨e,h1,h2⟩
 refine⟨fun hn=>?_,fun e0 q he0 hk0 hq=>?_⟩
 ·rcases hr with rfl | ⟨e,rfl,he⟩
  ·rfl
  ·exact absurd he (hn e (h.perm.mem_iff.1 (by simp)))
 ·have he0':=h.perm.mem_iff.2 he0;rcases hr with rfl | ⟨e,rfl,he⟩
  ·rw[gY]at he0'; exact absurd hk0 (hnot e0 he0')
  ·rcases gA.1 he0' with h1 | h1
   ·exact absurd hk0 (hnot e0 h1)
   ·simp only[fQ]at h1;subst h1;refine⟨rfl,?_⟩;have h2:=h.perm.trans hq;have h3:(l++[e0]).Perm (e0::l):=sO (l₁:=l) (l₂:=[e0]);exact List.Perm.cons_inv (h3.symm.trans h2)
end
def wO:Option fW->Option fW
 | none=>none
 | some i=>some ⟨i.o,i.rem,none⟩
def He(it:Option fW)(k:T):Prop:=∀ i,it=some i->i.cur=some k
def uM(o q:Nat)(x':bC)(st:St):Option St:=
 match Nat.beq q o,st.erase q with
 | false,some st1=>some { fr:=st1.fr,hp:=(o,x')::del o st1.hp }
 | _,_=>none
section
variable {P:Program} {E:Env} {I:Inf} {F:Nat->Prop} {g:Nat->Value} {st st2:St} {a:Act} {w:World}
theorem bV.merge(r:bV E F g st a w){q:Nat}{x y:bC}(hl:look st.hp o=some x)(hq:look st.hp q=some y)(hs:uM o q x' st=some st2)
  (hx':cI F g w o x')(hf:∀ b,aZ g w o x' b->aZ g w o x b\/aZ g w q y b):bV E F g st2 a w:=by
 unfold uM at hs;split at hs
 ·rename_i st1 hqo he;cases hs;have hqo:=kA hqo;have hlm:=aS hl;have hqm:=aS hq;have old:∀ k z,(k,z)∈del o st1.hp->k≠o/\k≠q/\∃ z',(k,z')∈st.hp/\cI F g w k z/\∀ b,aZ g w k z b->aZ g w k z' b:=by intro k z hz;obtain⟨h1,h2⟩:=bA.1 hz;obtain⟨z',h3,h4,h5,h6,h7⟩:=St.erase_hp he k z h1;exact⟨h2,h4,z',h3,h6 _ _ _ (r.w.hp.obj k z' h3),h7 _ _⟩
  refine⟨r.nt,r.df,fun t z hz=>r.fr t z (St.erase_fr he t z hz).1,⟨⟨fun k z hz=>?_,fun k z b hz hb=>?_,fun k z k' z' b hz hz' hne hb hb'=>?_⟩,r.w.f0,r.w.f1,r.w.ext,r.w.names,r.w.b0⟩⟩
  ·rcases bB.1 hz with e | hz
   ·cases e; exact hx'
   ·exact(old k z hz).2.2.choose_spec.2.1
  ·rcases bB.1 hz with e | hz
   ·cases e;rcases hf b hb with h | h
    ·exact r.w.hp.own _ _ b hlm h
    ·exact r.w.hp.own _ _ b hqm h
   ·obtain⟨_,_,z',h1,_,h3⟩:=old k z hz;exact r.w.hp.own k z' b h1 (h3 b hb)
  ·have key:∀ k z,(k,z)∈del o st1.hp->aZ g w k z b->aZ g w o x' b->False:=by
    intro k z hz hb hb';obtain⟨h1,h2,z',h3,_,h4⟩:=old k z hz;rcases hf b hb' with h | h
    ·exact r.w.hp.sep k z' o x b h3 hlm h1 (h4 b hb) h
    ·exact r.w.hp.sep k z' q y b h3 hqm h2 (h4 b hb) h
   rcases bB.1 hz with e | hz
   ·cases e;rcases bB.1 hz' with e' | hz'
    ·cases e'; exact hne rfl
    ·exact key k' z' hz' hb' hb
   ·rcases bB.1 hz' with e' | hz'
    ·cases e'; exact key k z hz hb hb'
    ·obtain⟨_,_,u,h1,_,h3⟩:=old k z hz;obtain⟨_,_,u',h1',_,h3'⟩:=old k' z' hz';exact r.w.hp.sep k u k' u' b h1 h1' hne (h3 b hb) (h3' b hb')
 ·cases hs
end
section
variable {F:Nat->Prop} {g:Nat->Value} {w:World} {b clock ob:Nat} {es:Array MapEntry} {it:Option fW} {K V:Type} [MKey K]
theorem MpR.fill{m:List (T×Mem)}{kk:T}{l:List MapEntry}(h:MpR F g w b es clock it m (some (kk,some p)) l r)(hb:w.heap[b]? = some (.map es clock))(hy:∀ e,e∈es.toList->VR F g w p e.val->wP F w y e.val)
  (hsep:∀ e c,e∈es.toList->VR F g w p e.val->blk e.val=some c->¬ aZ g w ob (.mp it m (some (kk,some p))) c)(hob:g ob = .map (some b)):∃ l',MpR F g w b es clock it ((kk,y)::m) none l' []:=by
 obtain⟨e,hr,hk,hv⟩:=h.hole;subst hr;have he:e∈es.toList:=h.perm.mem_iff.1 (by simp);refine⟨e::l,?_,.cons ⟨hk,hy e he hv⟩ h.ent,rfl,?_,h.born,h.old,?_,h.it⟩
 ·rw[gY];exact(sO (l₁:=[e]) (l₂:=l)).trans h.perm
 ·have:=h.keys;simp only[hoK,kO,gY]at this ⊢;exact(Dk (sO (l₁:=[kk]) (l₂:=m.map (·.1)))).2 this
 ·have hnew:∀ (j:Nat) x e' c,m[j]? = some x->l[j]? = some e'->x.2.owned=true->blk e.val=some c->blk e'.val=some c->False:=by intro j x e' c hx he' ho h1 h2;have hR:=h.ent.get.2 j x e' hx he';exact hsep e c he hv h1 (.mem hob hb (h.perm.mem_iff.1 (kL _ (gW he'))) (gW hx) hR.1 ho h2)
  intro i j x y' e1 e2 c hx hy' h1 h2 hne ho ho' hc hc';cases i with
  | zero=>
   simp at hx h1;subst hx; subst h1;cases j with
   | zero=>exact hne rfl
   | succ j=>exact hnew j y' e2 c (by simpa using hy') (by simpa using h2) ho' hc hc'
  | succ i=>
   cases j with
   | zero=>simp at hy' h2;subst hy'; subst h2;exact hnew i x e1 c (by simpa using hx) (by simpa using h1) ho hc' hc
   | succ j=>exact h.sep i j x y' e1 e2 c (by simpa using hx) (by simpa using hy') (by simpa using h1) (by simpa using h2) (by omega) ho ho' hc hc'
theorem MpR.fill_foot{m:List (T×Mem)}{kk:T}{l:List MapEntry}(h:MpR F g w b es clock it m (some (kk,some p)) l r)(hob:g ob = .map (some b))(hb:w.heap[b]? = some (.map es clock)) 
  (hc:aZ g w ob (.mp it ((kk,y)::m) none) c):aZ g w ob (.mp it m (some (kk,some p))) c\/∃ e,e∈es.toList/\VR F g w p e.val/\blk e.val=some c:=by
 cases hc with
 | self h=>exact .inl (.self h)
 | iter h=>exact .inl (.iter h)
 | @mem _ _ _ _ bm cl es' e x h1 h2 h3 h4 h5 h6 h7=>
  rcases bB.1 h4 with rfl | h4
  ·right;rw[hob]at h1; injection h1 with h1; injection h1 with h1; subst h1;rw[hb]at h2; injection h2 with h2; injection h2 with h2 h2'; subst h2;obtain⟨e1,hr,hk,hv⟩:=h.hole;have:=h.perm.mem_iff.2 h3;rcases gA.1 this with hl | hl
   ·exfalso;obtain⟨j,y',hy',_,hR⟩:=h.ent.memr hl;have hk':=h.keys;rw[vL]at hk';exact hk'.2.2 _ (pK (gW hy')) kk (by simp[hoK]) (hR.1.inj h5)
   ·rw[hr]at hl;simp only[fQ]at hl;subst hl;exact⟨e,h3,hv,h7⟩
  ·exact .inl (.mem h1 h2 h3 h4 h5 h6 h7)
end
section
variable {P:Program} {E:Env} {I:Inf} {F:Nat->Prop} {g:Nat->Value} {st st2:St} {a:Act} {w:World} {K V:Type} [MKey K]
theorem Lg{enc:V->Mem}(v:List (K×V))(k:K)(c:V):((MKey.kT k,enc c)::eM enc (iI v k)).Perm (eM enc (Fx v k c)):=(Ow (enc:=enc) (Uy v k c)).symm
theorem Le.fillrow{q:Nat}{it:Option fW}{nn:V->Nat}{ff:V->Nat->List T}(v:List (K×V))(k:K)(c:V)
  (hl:look st.hp o=some (.mp it (eM (fun c=>.row e s (nn c) (ff c)) (iI v k)) (some (MKey.kT k,some (.own q)))))(hq:look st.hp q=some (.arr e s (nn c) (ff c)))
  (hs:uM o q (.mp it (eM (fun c=>.row e s (nn c) (ff c)) (Fx v k c)) none) st=some st2):Le E st st2:=by
 rintro a w ⟨F,g,r⟩;obtain⟨b,es,clock,e1,e2,l1,r1,hM⟩:=r.w.hp.obj _ _ (aS hl);have harr:rB F w (g q) e s (nn c) (ff c):=r.w.hp.obj _ _ (aS hq);have hqo:q≠o:=by
  unfold uM at hs;split at hs
  ·rename_i h1 h2; exact kA h1
  ·cases hs
 have hval:∀ e:MapEntry,VR F g w (.own q) e.val->e.val=g q:=by
  intro e hv;generalize e.val=u at hv;cases hv with
  | own h=>exact h.symm
 obtain⟨l',hM'⟩:=hM.fill (ob:=o) e2 (y:=.row e s (nn c) (ff c)) (fun e he hv=>by rw[hval e hv]; exact harr) (fun e c' he hv hc hf=>by rw[hval e hv]at hc;exact r.w.hp.sep q _ o _ c' (aS hq) (aS hl) hqo (.self hc) hf) e1;have hp:=Lg (enc:=fun c=>Mem.row e s (nn c) (ff c)) v k c;obtain⟨l'',hM''⟩:=hM'.permM hp;exact⟨F,g,r.merge hl hq hs ⟨b,es,clock,e1,e2,l'',[],hM''⟩ (fun c' hc=>by
  rcases hM.fill_foot e1 e2 (hc.perm hp.symm) with h | ⟨e,_,hv,hc⟩
  ·exact .inl h
  ·exact .inr (.self (by rw[<-hval e hv]; exact hc)))⟩
theorem Le.gap{it:Option fW}{enc:V->Mem}(v:List (K×V))(k:K)(hl:look st.hp o=some (.mp it (eM enc v) none)):
  Le E st { st with hp:=(o,.mp it (eM enc (iI v k)) (some (MKey.kT k,none)))::del o st.hp }:=by
 refine Le.objF _ hl (fun F g w h=>?_) (fun g w c h=>?_)
 ·obtain⟨b,es,clock,e1,e2,l1,r1,hM⟩:=h;refine⟨b,es,clock,e1,e2,?_⟩;cases hlk:eC v k with
  | none=>rw[pM (kM hlk)];have hr1:=hM.hole;simp only[lC]at hr1;subst hr1;refine⟨l1,[],hM.perm,hM.ent,.inl rfl,?_,hM.born,hM.old,hM.sep,hM.it⟩;have hkk:=hM.keys;simp only[hoK,gY]at hkk ⊢;rw[vL];refine⟨hkk,by simp,fun q hq q' hq'=>?_⟩;simp only[fQ]at hq';subst hq';intro e';rw[nH,e',Ch]at hq;exact kM hlk hq
  | some c=>obtain⟨hp,_⟩:=(hM.found k).2 c hlk;obtain⟨l2,hM2⟩:=hM.permM hp;obtain⟨e,l',_,_,_,_,h⟩:=hM2.focus (g':=g) (p:=none) (fun q hq=>by cases hq) hM.it;exact⟨_,_,h⟩
 ·cases h with
  | self h=>exact .self h
  | iter h=>exact .iter h
  | mem h1 h2 h3 h4 h5 h6 h7=>refine .mem h1 h2 h3 ?_ h5 h6 h7;simp only[eM,iI,eE,qL]at h4 ⊢;obtain⟨p,⟨hp,_⟩,rfl⟩:=h4;exact⟨p,hp,rfl⟩
theorem aMO{w:World}{F:Nat->Prop}{g:Nat->Value}{b clock clock':Nat}{es es':Array MapEntry}{it:Option fW}{m:List (T×Mem)}{k:T}{p:Option PV}{l r':List MapEntry}{e':MapEntry} 
  (hM:MpR F g w b es clock it m (some (k,p)) l r')(hset:w'.heap[b]? = some (.map es' clock')/\∀ c,c≠b->w'.heap[c]? = w.heap[c]?)(hcur:He it k)(hkv:KeyR k kv)(hk':e'.key=kv)
  (h7:((∀ e,e∈es.toList->¬ KeyR k e.key)/\es'.toList.Perm (e'::es.toList))\/∃ e0 q,e0∈es.toList/\KeyR k e0.key/\es.toList.Perm (e0::q)/\es'.toList.Perm (e'::q)/\e'.born=e0.born/\clock'=clock)
  (e2:w.heap[b]? = some (.map es clock)):ItR g w' b es' clock' it:=by
 cases it with
 | none=>exact True.intro
 | some i=>
  obtain⟨rr,since,seen,c0,i1,i2,i3,i4,i5,i6,i7,i8⟩:=hM.it;have hne:rr≠b:=by intro e; subst e; rw[e2]at i2; cases i2
  obtain⟨j1,⟨e,he,hke,q',hq'⟩,hnk⟩:=i8 _ (hcur i rfl);rcases h7 with⟨a1,_⟩ | ⟨e0,q,a1,a2,a3,a4,a5,a6⟩
  ·exact absurd hke (a1 e he)
  ·subst a6;have hk0:e0.key=kv:=a2.inj' hkv;have hke0:∀ k2,KeyR k2 e'.key↔KeyR k2 e0.key:=fun k2=>by rw[hk',hk0]
   have hmem:∀ x,x∈es'.toList->x=e'\/x∈es.toList:=fun x hx=>by
    rcases bB.1 (a4.mem_iff.1 hx) with h | h
    ·exact .inl h
    ·exact .inr (a3.mem_iff.2 (cM _ h))
   have hmem':∀ x,x∈es.toList->x=e0\/x∈es'.toList:=fun x hx=>by
    rcases bB.1 (a3.mem_iff.1 hx) with h | h
    ·exact .inl h
    ·exact .inr (a4.mem_iff.2 (cM _ h))
   have hin:e'∈es'.toList:=a4.mem_iff.2 dW;have hee:e=e0:=by
    rcases bB.1 (a3.mem_iff.1 he) with h | h
    ·exact h
    ·have hr1:=(hM.rest.2 e0 q a1 a2 a3).1;obtain⟨q2,hq2⟩:=List.append_of_mem he;obtain⟨s2,hq2⟩:=hq2;have hp2:es.toList.Perm (e::(q2++s2)):=by rw[hq2]; exact List.perm_middle
     have hr2:=(hM.rest.2 e _ he hke hp2).1;rw[hr1]at hr2;exact((List.cons.inj hr2).1).symm
   subst hee;refine⟨rr,since,seen,c0,i1,by rw[hset.2 rr hne]; exact i2,fun x hx=>?_,i4,fun x hx=>?_,fun k2 hk2=>?_,i7,fun k2 hc2=>?_⟩
   ·rcases hmem x hx with rfl | h
    ·rw[a5]; exact i3 _ a1
    ·exact i3 x h
   ·rcases hmem x hx with rfl | h
    ·rw[a5,<-i5 _ a1];exact⟨fun⟨k2,h1,h2⟩=>⟨k2,h1,(hke0 k2).1 h2⟩,fun⟨k2,h1,h2⟩=>⟨k2,h1,(hke0 k2).2 h2⟩⟩
    ·exact i5 x h
   ·obtain⟨x,hx,hkx⟩:=i6 k2 hk2;rcases hmem' x hx with rfl | h
    ·exact⟨e',hin,(hke0 k2).2 hkx⟩
    ·exact⟨x,h,hkx⟩
   ·obtain⟨l1,⟨x,hx,hkx,q2,hs2⟩,l3⟩:=i8 k2 hc2;refine⟨l1,⟨e',hin,?_,q2,?_⟩,l3⟩
    ·have:k2=k:=by have h1:=hcur i rfl;rw[hc2]at h1;exact uK h1
     subst this;rw[hk']; exact hkv
    ·have:x.born=e.born:=by
      have h1:seen.back? = some x.born:=by rw[hs2]; simp
      have h2:seen.back? = some e.born:=by rw[hq']; simp
      rw[h1]at h2;exact uK h2
     rw[a5,<-this]; exact hs2
theorem aAS(hG:fO P E I){ops l:List Oper}{o:Oper}{rest:List Oper}{Q:gC}{ob:Nat}{vx:Operand}{it:Option fW}{enc:V->Mem}(v:List (K×V))(k:K)(p:PV)
  (hl:l=o::rest)(hop:o.op = .mapUpdate t x kx vx\/o.op = .insert t x kx vx)(hd:o.dst=none)(hw:bO ops o st=some true)(hx:ev st x=some (.map ob))(hk:ev st kx=some (.t (MKey.kT k)))(hv:ev st vx=some p)
  (hob:look st.hp ob=some (.mp it (eM enc v) (some (MKey.kT k,none))))(hm:kY I.ti t (MKey.kT k)=some et)(hcur:He it (MKey.kT k))
  (h1:dU P E ops Q rest { st with hp:=(ob,.mp it (eM enc v) (some (MKey.kT k,some p)))::del ob st.hp }):dU P E ops Q l st:=by
 refine dP hl hw fun F g a w r=>?_;obtain⟨kt,kd,hT⟩:=mT hG.ti hm;obtain⟨b,es,clock,e1,e2,l1,r1,hM⟩:=r.w.hp.obj _ _ (aS hob);have hxv:=bK r hx;have hkv:=(bK r hk).key hT.d;have hpv:=bK r hv;obtain⟨u,hu⟩:∃ u,a.eval x=u:=⟨_,rfl⟩;obtain⟨kv,hkv'⟩:∃ u,a.eval kx=u:=⟨_,rfl⟩;obtain⟨z,hz⟩:∃ u,a.eval vx=u:=⟨_,rfl⟩;rw[hu]at hxv; rw[hkv']at hkv; rw[hz]at hpv;cases hxv with
 | map hg=>
  rw[e1]at hg; injection hg with hg; injection hg with hg; subst hg;obtain⟨es',clock',e',h2,h3,h4,h5,h6,h7⟩:=zU (P:=P) (w:=w) hT hkv e2 (hM.kinds (fun k' p' he=>by cases he; exact⟨k,rfl⟩) k) hM.old hM.born z;have hset:=mN (o':=.map es' clock') e2;have hFb:¬ F b:=(r.w.hp.own _ _ b (aS hob) (.self (by rw[e1]; rfl))).1;have hF:∀ c,F c->F c/\({ w with heap:=w.heap.setIfInBounds b (.map es' clock') }:World).heap[c]? = w.heap[c]?:=fun c hc=>⟨hc,hset.2 c (fun e=>hFb (e▸hc))⟩;have hperm:(l1++[e']).Perm es'.toList:=by
   have hc:(l1++[e']).Perm (e'::l1):=sO (l₁:=l1) (l₂:=[e']);rcases h7 with⟨a1,a2⟩ | ⟨e0,q,a1,a2,a3,a4,a5,a6⟩
   ·have:=hM.rest.1 a1;subst this;have hp1:=hM.perm;rw[gY]at hp1;exact hc.trans ((hp1.cons e').trans a2.symm)
   ·obtain⟨b1,b2⟩:=hM.rest.2 e0 q a1 a2 a3;exact hc.trans ((b2.cons e').trans a4.symm)
  have hold:∀ e,e∈l1->e∈es.toList:=fun e he=>hM.perm.mem_iff.1 (kL _ he);have hexec:(execOp a.eval o).run P w = .ok .skip ({ w with heap:=w.heap.setIfInBounds b (.map es' clock') }):=by unfold execOp;rcases hop with hop | hop <;> simp[hop,hu,hkv',hz,h2]
  have hobj:cI F g ({ w with heap:=w.heap.setIfInBounds b (.map es' clock') }) ob (.mp it (eM enc v) (some (MKey.kT k,some p))):=by
   refine⟨b,es',clock',e1,hset.1,l1,[e'],hperm,?_,⟨e',rfl,by rw[h3]; exact hkv,by rw[h4]; exact hpv.mono hF (fun _ _=>rfl)⟩,hM.keys,h5,h6,hM.sep,?_⟩
   rotate_left
   ·exact aMO hM hset hcur (r':=r1) hkv h3 h7 e2
   refine hM.ent.mono fun y e hy he hR=>⟨hR.1,hR.2.mono hF fun c ho hc=>hset.2 c (fun e'=>?_)⟩;subst e';obtain⟨vs,ty,hcell⟩:=hR.2.block ho hc;rw[e2]at hcell; cases hcell
  have hft:∀ c,aZ g ({ w with heap:=w.heap.setIfInBounds b (.map es' clock') }) ob (.mp it (eM enc v) (some (MKey.kT k,some p))) c->aZ g w ob (.mp it (eM enc v) (some (MKey.kT k,none))) c:=by
   intro c hc;cases hc with
   | self h=>exact .self h
   | iter h=>exact .iter h
   | @mem _ _ _ _ bm cl es2 e x h1 h2 h3' h4' h5' h6' h7'=>
    rw[e1]at h1; injection h1 with h1; injection h1 with h1; subst h1;rw[hset.1]at h2; injection h2 with h2; injection h2 with h2 h2'; subst h2;rcases gA.1 (hperm.mem_iff.2 h3') with hh | hh
    ·exact .mem e1 e2 (hold e hh) h4' h5' h6' h7'
    ·simp only[fQ]at hh;subst hh;exfalso;rw[h3]at h5';have hk':=hM.keys;rw[vL]at hk';exact hk'.2.2 _ (pK h4') (MKey.kT k) (by simp[hoK]) (h5'.inj hkv)
  exact⟨_,undef,{ w with heap:=w.heap.setIfInBounds b (.map es' clock') },_,hexec,.inr ⟨rfl,rfl⟩,by rw[hd]; exact⟨F,g,r.writeF (y:=.mp it (eM enc v) (some (MKey.kT k,some p))) (aS hob) (.self (by rw[e1]; rfl)) hset.2 (by simp) rfl rfl rfl hobj hft⟩,h1⟩
theorem Gk(hG:fO P E I){ops l:List Oper}{o:Oper}{rest:List Oper}{Q:gC}{ob:Nat}{t:TypeId}{c:Call}{it:Option fW}{enc:V->Mem}{hp:Option PV}(v:List (K×V))(k:K)
  (hl:l=o::rest)(hop:o.op = .call c)(hcal:c.callee = .builtin .delete)(hargs:c.args=#[x,kx])(hat:c.argTypes[0]? = some t)(hd:o.dst=none)(hw:bO ops o st=some true)
  (hx:ev st x=some (.map ob))(hk:ev st kx=some (.t (MKey.kT k)))(hob:look st.hp ob=some (.mp it (eM enc v) (some (MKey.kT k,hp))))(hm:kY I.ti t (MKey.kT k)=some et)(hcur:He it (MKey.kT k))
  (h1:dU P E ops Q rest { st with hp:=(ob,.mp (wO it) (eM enc v) none)::del ob st.hp }):dU P E ops Q l st:=by
 refine dP hl hw fun F g a w r=>?_;obtain⟨kt,kd,hT⟩:=mT hG.ti hm;obtain⟨b,es,clock,e1,e2,l1,r1,hM⟩:=r.w.hp.obj _ _ (aS hob);have hxv:=bK r hx;have hkv:=(bK r hk).key hT.d;obtain⟨u,hu⟩:∃ u,a.eval x=u:=⟨_,rfl⟩;obtain⟨kv,hkv'⟩:∃ u,a.eval kx=u:=⟨_,rfl⟩;rw[hu]at hxv; rw[hkv']at hkv;cases hxv with
 | map hg=>
  rw[e1]at hg; injection hg with hg; injection hg with hg; subst hg;obtain⟨es',h2,h7⟩:=zV (P:=P) (w:=w) hT hkv e2 (hM.kinds (fun k' p' he=>by cases he; exact⟨k,rfl⟩) k) c.argTypes hat o.type;have hset:=mN (o':=.map es' clock) e2;have hFb:¬ F b:=(r.w.hp.own _ _ b (aS hob) (.self (by rw[e1]; rfl))).1;have hF:∀ c,F c->F c/\({ w with heap:=w.heap.setIfInBounds b (.map es' clock) }:World).heap[c]? = w.heap[c]?:=fun c hc=>⟨hc,hset.2 c (fun e=>hFb (e▸hc))⟩;have hperm:l1.Perm es'.toList:=by
   rcases h7 with⟨a1,rfl⟩ | ⟨e0,a1,a2,a3⟩
   ·have:=hM.rest.1 a1;subst this;have hp1:=hM.perm;rw[gY]at hp1;exact hp1
   ·exact(hM.rest.2 e0 _ a1 a2 a3).2
  have hold:∀ e,e∈es'.toList->e∈es.toList:=fun e he=>hM.perm.mem_iff.1 (kL _ (hperm.mem_iff.2 he));have hkeep:∀ e,e∈es.toList->¬ KeyR (MKey.kT k) e.key->e∈es'.toList:=by
   intro e he hk';rcases h7 with⟨_,rfl⟩ | ⟨e0,a1,a2,a3⟩
   ·exact he
   ·rcases bB.1 (a3.mem_iff.1 he) with rfl | h
    ·exact absurd a2 hk'
    ·exact h
  have hsub:(es'.toList.map (·.born)).Nodup:=by
   rcases h7 with⟨_,rfl⟩ | ⟨e0,a1,a2,a3⟩
   ·exact hM.born
   ·have:=(Dk (a3.map (·.born))).1 hM.born;simp only[kO,Gy]at this;exact this.2
  have hkeys:=hM.keys;rw[vL]at hkeys;have hexec:(execOp a.eval o).run P w = .ok (.value (.tuple #[])) ({ w with heap:=w.heap.setIfInBounds b (.map es' clock) }):=by unfold execOp;simp[hop,resolve,hcal,invoke,hargs,hu,hkv',builtin,h2]
  have hobj:cI F g ({ w with heap:=w.heap.setIfInBounds b (.map es' clock) }) ob (.mp (wO it) (eM enc v) none):=by
   refine⟨b,es',clock,e1,hset.1,l1,[],by rw[gY]; exact hperm,?_,rfl,by simp only[hoK,gY]; exact hkeys.1,hsub,fun e he=>hM.old e (hold e he),hM.sep,?_⟩
   ·refine hM.ent.mono fun y e hy he hR=>⟨hR.1,hR.2.mono hF fun c ho hc=>hset.2 c (fun e'=>?_)⟩;subst e';obtain⟨vs,ty,hcell⟩:=hR.2.block ho hc;rw[e2]at hcell; cases hcell
   ·cases it with
    | none=>exact True.intro
    | some i=>
     obtain⟨r',since,seen,c0,i1,i2,i3,i4,i5,i6,i7,i8⟩:=hM.it;have hne:r'≠b:=by intro e; subst e; rw[e2]at i2; cases i2
     obtain⟨_,_,hnk⟩:=i8 _ (hcur i rfl);refine⟨r',since,seen,c0,i1,by rw[hset.2 r' hne]; exact i2,fun e he=>i3 e (hold e he),i4,fun e he=>i5 e (hold e he),fun k' hk'=>?_,i7,fun k' hk'=>by cases hk'⟩;obtain⟨e,he,hke⟩:=i6 k' hk';exact⟨e,hkeep e he (fun h=>hnk (h.inj hke▸hk')),hke⟩
  have hft:∀ c,aZ g ({ w with heap:=w.heap.setIfInBounds b (.map es' clock) }) ob (.mp (wO it) (eM enc v) none) c->aZ g w ob (.mp it (eM enc v) (some (MKey.kT k,hp))) c:=by
   intro c hc;generalize hit:wO it=it' at hc;cases hc with
   | self h=>exact .self h
   | iter h=>
    cases it with
    | none=>cases hit
    | some i=>simp only[wO,fG]at hit; subst hit; exact .iter h
   | @mem _ _ _ _ bm cl es2 e x h1 h2 h3' h4' h5' h6' h7'=>rw[e1]at h1; injection h1 with h1; injection h1 with h1; subst h1;rw[hset.1]at h2; injection h2 with h2; injection h2 with h2 h2'; subst h2;exact .mem e1 e2 (hold e h3') h4' h5' h6' h7'
  exact⟨_,.tuple #[],{ w with heap:=w.heap.setIfInBounds b (.map es' clock) },_,hexec,.inl rfl,by rw[hd]; exact⟨F,g,r.writeF (y:=.mp (wO it) (eM enc v) none) (aS hob) (.self (by rw[e1]; rfl)) hset.2 (by simp) rfl rfl rfl hobj hft⟩,h1⟩
end
def Bd(ti:Nat->Option dA)(t:Nat):Bool:=match ti t with | some i=>(match i.und with | .mp _ _=>true | _=>false) | none=>false
theorem Ii{P:Program}{ti:Nat->Option dA}(hI:lE P ti)(h:Bd ti t=true):∃ kt et,P.underlying t=some (.map kt et):=by
 unfold Bd at h;split at h
 ·rename_i i hi;split at h
  ·rename_i kt et hu;have:=(hI _ _ hi).und; rw[hu]at this; exact⟨kt,et,this⟩
  ·cases h
 ·cases h
section
variable {P:Program} {E:Env} {I:Inf} {F:Nat->Prop} {g:Nat->Value} {st st2:St} {a:Act} {w:World} {K V:Type} [MKey K]
theorem bV.same(r:bV E F g st a w)(hh:w'.heap=w.heap)(ho:w'.os=w.os)(ht:w'.tape=w.tape)(hu:w'.output=w.output):bV E F g st a w':=by
 have hb:∀ b:Nat,w'.heap[b]? = w.heap[b]?:=fun b=>by rw[hh]
 have hf:∀ {o x b},aZ g w' o x b->aZ g w o x b:=fun h=>h.mono rfl (fun _ _=>rfl) (fun c _=>hb c);refine⟨r.nt,r.df,fun t x hx=>(r.fr t x hx).mono (fun b h=>⟨h,hb b⟩) (fun _ _=>rfl),⟨⟨fun o x hx=>?_,fun o x b hx h=>r.w.hp.own o x b hx (hf h),fun o x o' y b hx hy hne h h'=>r.w.hp.sep o x o' y b hx hy hne (hf h) (hf h')⟩,r.w.f0,fun b h=>?_,?_,r.w.names,r.w.b0⟩⟩
 ·exact(r.w.hp.obj o x hx).mono (fun b h=>⟨h,hb b⟩) rfl (fun _ _=>rfl) (fun b _=>hb b)
 ·rw[hh]; exact r.w.f1 b h
 ·exact r.w.ext.trans ho ht hu (by rw[hh]; exact eT _) (fun b _ _=>hb b)
theorem Mp(hG:fO P E I){ops l:List Oper}{o:Oper}{rest:List Oper}{Q:gC}{d:Nat}(enc:V->Mem)(hl:l=o::rest)(hop:o.op = .makeMap t none)(hd:o.dst=some d)(hw:bO ops o st=some true)
  (hnt:Nat.blt d I.nt=true)(hn:nD d I.N=true){st1:St}(he:st.erase d=some st1)(h1:dU P E ops Q rest ({ st1 with hp:=(d,.mp none (eM enc ([]:List (K×V))) none)::st1.hp }.put d (.map d))):dU P E ops Q l st:=by
 refine dP hl hw fun F g a w r=>?_;have hd':d<E.nt:=by rw[hG.nt]; simpa[dR] using hnt
 have hnew:(w.alloc (.map #[] 0)).heap[w.heap.size]? = some (.map #[] 0):=heap_alloc_new w _;obtain⟨g',hg'⟩:=r.allocF (x:=.mp none (eM enc ([]:List (K×V))) none) (v:=.map (some w.heap.size)) (w':=w.alloc (.map #[] 0)) (ob:=.map #[] 0) hd' (by rw[hG.N]; exact eH hn) he rfl rfl rfl rfl rfl
  (fun g' b hg hb=>by
   cases hb with
   | self h=>rw[hg]at h; exact h
   | mem _ _ _ h4=>simp[eM]at h4)
  (fun g' _ hg=>⟨w.heap.size,#[],0,hg,hnew,[],[],by simp,by simp only[eM,List.map_nil]; exact .nil,rfl,by simp[eM,hoK],by simp,by simp,by simp,True.intro⟩)
  (.map d) (fun g' hg=>.map hg)
 exact⟨_,.map (some w.heap.size),w.alloc (.map #[] 0),_,by unfold execOp; simp[hop,Instr.makeMap],.inl rfl,by rw[hd]; exact⟨F,g',hg'⟩,h1⟩
theorem Ve(hG:fO P E I){ops l:List Oper}{o:Oper}{rest:List Oper}{Q:gC}{t:TypeId}{d ob:Nat}{c:Call}{it:Option fW}{enc:V->Mem}(v:List (K×V))(hl:l=o::rest)(hop:o.op = .call c)
  (hcal:c.callee = .builtin .len)(hargs:c.args=#[x])(hat:c.argTypes[0]? = some t)(hd:o.dst=some d)(hw:bO ops o st=some true)(hnt:Nat.blt d I.nt=true)(hx:ev st x=some (.map ob))(hm:Bd I.ti t=true)
  (hob:look st.hp ob=some (.mp it (eM enc v) none))(h1:dU P E ops Q rest (st.put d (.t (.int .i64 (v.length:Int))))):dU P E ops Q l st:=by
 refine dP hl hw fun F g a w r=>?_;have hd':d<E.nt:=by rw[hG.nt]; simpa[dR] using hnt
 obtain⟨kt,et,hT⟩:=Ii hG.ti hm;obtain⟨b,es,clock,e1,e2,l1,r1,hM⟩:=r.w.hp.obj _ _ (aS hob);have hxv:=bK r hx;obtain⟨u,hu⟩:∃ u,a.eval x=u:=⟨_,rfl⟩;rw[hu]at hxv;cases hxv with
 | map hg=>
  rw[e1]at hg; injection hg with hg; injection hg with hg; subst hg;have hsz:es.size=v.length:=by have h1:=hM.perm.length_eq;have h2:=hM.ent.get.1;have h3:=hM.hole;simp only[lC]at h3;subst h3;simp only[eM,oS,gY,gV]at h1 h2;omega
  refine⟨_,.int .i64 (v.length:Int),w,_,?_,.inl rfl,by rw[hd]; exact⟨F,g,r.put hd' (.t (.int _ _))⟩,h1⟩;unfold execOp;simp[hop,resolve,hcal,invoke,hargs,hu,builtin,Builtin.len_,hat,run_underlying hT,Go.run_getObj_map w b es clock e2,hsz,goInt]
def No(N:List Nat)(o d:Nat)(x':bC)(st:St):Option St:=
 match nD d N,Nat.beq d o,st.erase d with
 | true,false,some st1=>some { fr:=st1.fr,hp:=(o,x')::del o st1.hp }
 | _,_,_=>none
theorem Ms(hG:fO P E I){ops l:List Oper}{o:Oper}{rest:List Oper}{Q:gC}{d ob:Nat}{enc:V->Mem}(v:List (K×V))(hl:l=o::rest)(hop:o.op = .range t x)(hd:o.dst=some d)
  (hw:bO ops o st=some true)(hnt:Nat.blt d I.nt=true)(hx:ev st x=some (.map ob))(hm:Bd I.ti t=true)(hob:look st.hp ob=some (.mp none (eM enc v) none))
  (hs:No I.N ob d (.mp (some ⟨d,kTs (jN v),none⟩) (eM enc v) none) st=some st2)(h1:dU P E ops Q rest (st2.put d (.ptr d 0))):dU P E ops Q l st:=by
 refine dP hl hw fun F g a w r=>?_;have hd':d<E.nt:=by rw[hG.nt]; simpa[dR] using hnt
 obtain⟨kt,et,hT⟩:=Ii hG.ti hm;have hlm:=aS hob;obtain⟨b,es,clock,e1,e2,l1,r1,hM⟩:=r.w.hp.obj _ _ hlm;have hxv:=bK r hx;obtain⟨u,hu⟩:∃ u,a.eval x=u:=⟨_,rfl⟩;rw[hu]at hxv;cases hxv with
 | map hg=>
  rw[e1]at hg; injection hg with hg; injection hg with hg; subst hg;unfold No at hs;split at hs
  ·rename_i st1 hn hdo he;cases hs;have hdo:=kA hdo;let w':=w.alloc (.mapIter (some b) clock #[] clock);have hnew:w'.heap[w.heap.size]? = some (.mapIter (some b) clock #[] clock):=heap_alloc_new w _;have hold:∀ c,c<w.heap.size->w'.heap[c]? = w.heap[c]?:=fun c hc=>heap_alloc_old w _ hc;have hsz:w'.heap.size=w.heap.size+1:=by show (w.heap.push _).size=_; simp
   let g':=upd g d (.pointer (some ⟨w.heap.size,0,none⟩));have hgd:g' d = .pointer (some ⟨w.heap.size,0,none⟩):=bE ..;have hgo:∀ k,k≠d->g' k=g k:=fun k hk=>bG g _ hk;have hblt:=(Ke.1 e2).1;have hF:∀ c,F c->F c/\w'.heap[c]? = w.heap[c]?:=fun c hc=>⟨hc,hold c (r.w.f1 c hc).1⟩;have hr1:=hM.hole;simp only[lC]at hr1;subst hr1;have hperm:=hM.perm;rw[gY]at hperm;have hkeys:=hM.keys;simp only[hoK,gY,nH]at hkeys;have hit:ItR g' w' b es clock (some ⟨d,kTs (jN v),none⟩):=by
    refine⟨w.heap.size,clock,#[],clock,hgd,hnew,hM.old,⟨eT _,eT _⟩,fun e he'=>?_,fun k hk=>?_,hkeys,fun k hk=>by cases hk⟩
    ·obtain⟨j,y,hy,_,hR⟩:=hM.ent.memr (hperm.mem_iff.2 he');refine⟨fun _=>by simp,fun _=>⟨y.1,?_,hR.1⟩⟩;rw[<-nH (enc:=enc)];exact pK (gW hy)
    ·rw[<-nH (enc:=enc)]at hk;obtain⟨y,hy,rfl⟩:=eE.1 hk;obtain⟨j,e,_,h2,h3⟩:=hM.ent.mem hy;exact⟨e,hperm.mem_iff.1 (gW h2),h3.1⟩
   have hobj:cI F g' w' ob (.mp (some ⟨d,kTs (jN v),none⟩) (eM enc v) none):=by refine⟨b,es,clock,by rw[hgo ob (fun e=>hdo e.symm)]; exact e1,by rw[hold b hblt]; exact e2,l1,[],by rw[gY]; exact hperm,?_,rfl,hM.keys,hM.born,hM.old,hM.sep,hit⟩;refine hM.ent.mono fun y e _ _ hR=>⟨hR.1,hR.2.mono hF fun c ho hc=>hold c ?_⟩;obtain⟨vs,ty,hcell⟩:=hR.2.block ho hc;exact(Ke.1 hcell).1
   have hfoot:∀ c,aZ g' w' ob (.mp (some ⟨d,kTs (jN v),none⟩) (eM enc v) none) c->c=w.heap.size\/aZ g w ob (.mp none (eM enc v) none) c:=by
    intro c hc;cases hc with
    | self h=>rw[hgo ob (fun e=>hdo e.symm)]at h; exact .inr (.self h)
    | iter h=>rw[hgd]at h; simp[blk]at h; exact .inl h.symm
    | mem h1 h2 h3 h4 h5 h6 h7=>rw[hgo ob (fun e=>hdo e.symm),e1]at h1; injection h1 with h1; injection h1 with h1; subst h1;rw[hold b hblt,e2]at h2; injection h2 with h2; injection h2 with h2 h2'; subst h2;exact .inr (.mem e1 e2 h3 h4 h5 h6 h7)
   have oth:∀ k z,(k,z)∈del ob st1.hp->k≠ob/\∃ z',(k,z')∈st.hp/\cI F g' w' k z/\∀ c,aZ g' w' k z c->aZ g w k z' c:=by
    intro k z hz;obtain⟨h1,h2⟩:=bA.1 hz;obtain⟨z',h3,h4,h5,h6,h7⟩:=St.erase_hp he k z h1;have hz':=r.w.hp.obj k z' h3;exact⟨h2,z',h3,(h6 _ _ _ hz').mono hF (hgo k h4) (fun k' hk'=>hgo k' (h5 k' hk')) (fun c hc=>hold c ((h7 _ _ _ hc).block hz')),
     fun c hc=>h7 _ _ _ (hc.mono (hgo k h4) (fun k' hk'=>hgo k' (h5 k' hk')) (fun c' hc'=>hold c' (hz'.block hc')))⟩
   have hrel:bV E F g' ⟨st1.fr,(ob,.mp (some ⟨d,kTs (jN v),none⟩) (eM enc v) none)::del ob st1.hp⟩ a w':=by
    refine⟨r.nt,r.df,fun t z hz=>?_,⟨⟨fun k z hz=>?_,fun k z c hz hc=>?_,fun k z k' z' c hz hz' hne hc hc'=>?_⟩,r.w.f0,fun c hc=>⟨by have:=(r.w.f1 c hc).1; omega,(r.w.f1 c hc).2⟩,
     r.w.ext.trans rfl rfl rfl (by omega) (fun c hc _=>hold c (by have:=r.w.ext.size; omega)),fun k hk=>?_,r.w.b0⟩⟩
    ·obtain⟨h1,h2⟩:=St.erase_fr he t z hz;exact(r.fr t z h1).mono hF (fun k hk=>hgo k (h2 k hk))
    ·rcases bB.1 hz with e | hz
     ·cases e; exact hobj
     ·exact(oth k z hz).2.choose_spec.2.1
    ·rcases bB.1 hz with e | hz
     ·cases e;rcases hfoot c hc with rfl | h
      ·exact⟨fun h=>by have:=(r.w.f1 _ h).1; omega,.inr r.w.ext.size⟩
      ·exact r.w.hp.own _ _ c hlm h
     ·obtain⟨_,z',h1,_,h3⟩:=oth k z hz;exact r.w.hp.own k z' c h1 (h3 c hc)
    ·have key:∀ k z,(k,z)∈del ob st1.hp->aZ g' w' k z c->aZ g' w' ob (.mp (some ⟨d,kTs (jN v),none⟩) (eM enc v) none) c->False:=by
      intro k z hz hc hc';obtain⟨h0,z',h1,_,h3⟩:=oth k z hz;have hck:=h3 c hc;rcases hfoot c hc' with rfl | h
      ·have:=hck.block (r.w.hp.obj k z' h1); omega
      ·exact r.w.hp.sep k z' ob _ c h1 hlm h0 hck h
     rcases bB.1 hz with e | hz
     ·cases e;rcases bB.1 hz' with e' | hz'
      ·cases e'; exact hne rfl
      ·exact key k' z' hz' hc' hc
     ·rcases bB.1 hz' with e' | hz'
      ·cases e'; exact key k z hz hc hc'
      ·obtain⟨_,u,h1,_,h3⟩:=oth k z hz;obtain⟨_,u',h1',_,h3'⟩:=oth k' z' hz';exact r.w.hp.sep k u k' u' c h1 h1' hne (h3 c hc) (h3' c hc')
    ·rw[hgo k (fun e:k=d=>eH hn (by rw[<-e,<-hG.N]; exact hk))];exact r.w.names k hk
   refine⟨_,.pointer (some ⟨w.heap.size,0,none⟩),w',_,?_,.inl rfl,by rw[hd]; exact⟨F,g',hrel.put hd' (.ptr hgd)⟩,h1⟩;unfold execOp;simp[hop,hu,Instr.range,run_underlying hT,Go.run_getObj_map w b es clock e2,w']
  ·cases hs
end
section
variable {P:Program} {E:Env} {I:Inf} {F:Nat->Prop} {g:Nat->Value} {st st2:St} {a:Act} {w:World} {K V:Type} [MKey K]
theorem VR.tup3{F:Nat->Prop}{g:Nat->Value}{w:World}{q r:PV}{x y:Value}(h1:VR F g w p x)(h2:VR F g w q y)(h3:VR F g w r z):VR F g w (.tup [p,q,r]) (.tuple #[x,y,z]):=by
 refine .tup (by simp) fun j u v hu hv=>?_;have hj:j=0\/j=1\/j=2:=by have:=(dE.1 hu).1; simp at this; omega
 rcases hj with rfl | rfl | rfl <;> (simp at hu hv; subst hu; subst hv)
 ·exact h1
 ·exact h2
 ·exact h3
theorem VR.tup1{F:Nat->Prop}{g:Nat->Value}{w:World}{x:Value}(h1:VR F g w p x):VR F g w (.tup [p]) (.tuple #[x]):=by
 refine .tup (by simp) fun j u v hu hv=>?_;have hj:j=0:=by have:=(dE.1 hu).1; simp at this; omega
 subst hj;simp at hu hv; subst hu; subst hv;exact h1
theorem Wd(r:bV E F g st a w){ob di:Nat}{enc:V->Mem}{cur:Option T}(v:List (K×V))(rem:List K)(ty:TypeId)
  (hob:look st.hp ob=some (.mp (some ⟨di,kTs rem,cur⟩) (eM enc v) none))(hu:VR F g w (.ptr di 0) u):
  (rem=[]/\(Instr.next u false ty).run P w = .ok (.tuple #[.bool false]) w)\/∃ k w2 b es clock e,k∈rem/\(Instr.next u false ty).run P w = .ok (.tuple #[.bool true,e.key,e.val]) w2 /\
   bV E F g { st with hp:=(ob,.mp (some ⟨di,kTs (rem.erase k),some (MKey.kT k)⟩) (eM enc v) none)::del ob st.hp } a w2/\g ob = .map (some b)/\w2.heap[b]? = some (.map es clock)/\e∈es.toList/\KeyR (MKey.kT k) e.key:=by
 have hlm:=aS hob;obtain⟨b,es,clock,e1,e2,l1,r1,hM⟩:=r.w.hp.obj _ _ hlm;obtain⟨rb,since,seen,c0,i1,i2,i3,⟨i4,i4'⟩,i5,i6,i7,i8⟩:=hM.it;cases hu with
 | ptr hg=>
  rw[i1]at hg; injection hg with hg; injection hg with hg; injection hg with hg; subst hg;have hne:rb≠b:=by intro e; subst e; rw[e2]at i2; cases i2
  rcases run_next_at (P:=P) w ty rb b since c0 seen es clock i2 e2 i3 i4 with⟨hz,hrun⟩ | ⟨e,he,w1,hw1,hrun⟩
  ·refine .inl ⟨?_,hrun⟩;cases rem with
   | nil=>rfl
   | cons k rem=>
    exfalso;obtain⟨e,he,hk⟩:=i6 (MKey.kT k) (by simp[kTs]);have hs:=(i5 e he).1 ⟨MKey.kT k,by simp[kTs],hk⟩;have:e∈(leftOf es seen).toList:=by simp only[leftOf,Array.toList_filter,qL];exact⟨he,by show (!seen.contains e.born)=true; rw[hs]; rfl⟩
    have:=List.length_pos_of_mem this;simp only[gV]at this;omega
  ·simp only[leftOf,Array.toList_filter,qL,iW]at he;obtain⟨he,hns⟩:=he;obtain⟨k',hk',hke⟩:=(i5 e he).2 hns;obtain⟨k,hk,rfl⟩:=eE.1 hk';have r1':bV E F g st a w1:=by
    rcases hw1 with rfl | rfl
    ·exact r
    ·exact r.same rfl rfl rfl rfl
   have e1':w1.heap=w.heap:=by rcases hw1 with rfl | rfl <;> rfl
   obtain⟨w2,hw2⟩:∃ w2,w2=ChangeMaps.setBlock w1 rb (.mapIter (some b) since (seen.push e.born) clock):=⟨_,rfl⟩;rw[<-hw2]at hrun;have hheap:w2.heap=w1.heap.setIfInBounds rb (.mapIter (some b) since (seen.push e.born) clock):=by rw[hw2]; rfl
   have i2':w1.heap[rb]? = some (.mapIter (some b) since seen c0):=by rw[e1']; exact i2
   have hset:w2.heap[rb]? = some (.mapIter (some b) since (seen.push e.born) clock)/\∀ r',r'≠rb->w2.heap[r']? = w1.heap[r']?:=by rw[hheap]; exact mN (w:=w1) i2'
   have hFb:¬ F rb:=(r.w.hp.own _ _ rb hlm (.iter (by rw[i1]; rfl))).1;have hF:∀ c,F c->F c/\w2.heap[c]? = w1.heap[c]?:=fun c hc=>⟨hc,hset.2 c (fun e=>hFb (e▸hc))⟩;have hF':∀ c,F c->F c/\w2.heap[c]? = w.heap[c]?:=fun c hc=>by rw[<-e1']; exact hF c hc
   have hnd:(rem.map (MKey.kT (K:=K))).Nodup:=i7;have hnd':=Bq (l:=rem) hnd;have hb2:w2.heap[b]? = some (.map es clock):=by rw[hset.2 b (fun e=>hne e.symm),e1']; exact e2
   have hob2:cI F g w2 ob (.mp (some ⟨di,kTs (rem.erase k),some (MKey.kT k)⟩) (eM enc v) none):=by
    refine⟨b,es,clock,e1,hb2,l1,r1,hM.perm,?_,hM.hole,hM.keys,hM.born,hM.old,hM.sep,?_⟩
    ·refine hM.ent.mono fun y e' _ _ hR=>⟨hR.1,hR.2.mono hF' fun c ho hc=>?_⟩;obtain⟨vs,ty,hcell⟩:=hR.2.block ho hc;rw[hset.2 c (fun e'=>by subst e'; rw[i2]at hcell; cases hcell),e1']
    ·refine⟨rb,since,seen.push e.born,clock,i1,hset.1,i3,⟨i4',i4'⟩,fun e' he'=>?_,fun k' hk'=>?_,?_,fun k' hk'=>?_⟩
     ·have hbn:e'.born=e.born->e'=e:=by
       intro hbb;obtain⟨p,hp,hpe⟩:=Ip.1 he';obtain⟨q,hq,hqe⟩:=Ip.1 he;have e3:(es.toList.map (·.born))[p]? = some e'.born:=by simp only[eR,eS hp,hpe,kZ]
       have e4:(es.toList.map (·.born))[q]? = some e'.born:=by simp only[eR,eS hq,hqe,kZ,hbb]
       have:=(List.getElem?_inj (by simpa using hp) hM.born).1 (e3.trans e4.symm);subst this;rw[<-hpe,<-hqe]
      constructor
      ·rintro⟨k2,hk2,hke2⟩;obtain⟨k3,hk3,rfl⟩:=eE.1 hk2;have hk4:=(hnd'.mem_erase_iff).1 hk3;have hs:=(i5 e' he').1 ⟨_,pK hk4.2,hke2⟩;have hneb:e'.born≠e.born:=fun hbb=>by have:=hbn hbb;subst this;exact hk4.1 (MKey.inj _ _ (hke2.inj hke))
       rw[Array.contains_push,hs];simpa using hneb
      ·intro hs;rw[Array.contains_push]at hs;simp only[Bool.or_eq_false_iff]at hs;obtain⟨k2,hk2,hke2⟩:=(i5 e' he').2 hs.1;obtain⟨k3,hk3,rfl⟩:=eE.1 hk2;refine⟨_,pK ((hnd'.mem_erase_iff).2 ⟨?_,hk3⟩),hke2⟩;intro e3;subst e3;have hx':(MKey.kT k3,e.key)=(MKey.kT k3,e.key):=rfl;have:e'.key=e.key:=hke2.inj' hke;obtain⟨j,y,hy,hj,hR⟩:=hM.ent.memr (r:=l1) (b:=e) (by have h3:=hM.hole; simp only[lC]at h3;have:=hM.perm.mem_iff.2 he; rw[h3,gY]at this; exact this);have:=hM.uniq (gW hy) he he' hR.1 (by rw[this]; exact hR.1);subst this;simp at hs
     ·obtain⟨k3,hk3,rfl⟩:=eE.1 hk';exact i6 _ (pK ((hnd'.mem_erase_iff).1 hk3).2)
     ·have:(kTs (rem.erase k)).Sublist (kTs rem):=(List.erase_sublist ..).map _;exact this.nodup i7
     ·injection hk' with hk';subst hk';refine⟨rfl,⟨e,he,hke,seen,rfl⟩,?_⟩;rw[Ch];exact fun h=>((hnd'.mem_erase_iff).1 h).1 rfl
   have hft:∀ c,aZ g w2 ob (.mp (some ⟨di,kTs (rem.erase k),some (MKey.kT k)⟩) (eM enc v) none) c->aZ g w1 ob (.mp (some ⟨di,kTs rem,cur⟩) (eM enc v) none) c:=by
    intro c hc;cases hc with
    | self h=>exact .self h
    | iter h=>exact .iter h
    | mem h1 h2 h3 h4 h5 h6 h7=>rw[e1]at h1; injection h1 with h1; injection h1 with h1; subst h1;rw[hset.2 b (fun e=>hne e.symm)]at h2;exact .mem e1 h2 h3 h4 h5 h6 h7
   have hrel:=r1'.writeF (y:=.mp (some ⟨di,kTs (rem.erase k),some (MKey.kT k)⟩) (eM enc v) none) (w':=w2) hlm (.iter (by rw[i1]; rfl)) hset.2 (by rw[hheap]; simp) (by rw[hw2]; rfl) (by rw[hw2]; rfl) (by rw[hw2]; rfl) hob2 hft;exact .inr ⟨k,w2,b,es,clock,e,hk,hrun,hrel,e1,hb2,he,hke⟩
end
section
variable {P:Program} {E:Env} {I:Inf} {F:Nat->Prop} {g:Nat->Value} {st st2:St} {a:Act} {w:World} {K V:Type} [MKey K]
theorem MpR.hasKey{b clock:Nat}{es:Array MapEntry}{it:Option fW}{enc:V->Mem}{v:List (K×V)}{l:List MapEntry}(h:MpR F g w b es clock it (eM enc v) none l r){k:K}{e:MapEntry}(he:e∈es.toList)(hk:KeyR (MKey.kT k) e.key):
  ∃ c,eC v k=some c/\wP F w (enc c) e.val:=by
 have hf:=h.found k;cases hl:eC v k with
 | none=>exact absurd hk (hf.1 hl e he)
 | some c=>obtain⟨hp,_⟩:=hf.2 c hl;obtain⟨l2,h2⟩:=h.permM hp;exact⟨c,rfl,(h2.entry (x:=(MKey.kT k,enc c)) (by simp) he hk).1.2⟩
theorem qX{o:Oper}(hop:o.op = .next x false){v':Value}(hu:a.eval x=u)(h:(Instr.next u false o.type).run P w = .ok v' w'):(execOp a.eval o).run P w = .ok (.value v') w':=by unfold execOp;simp[hop,hu,h]
def wQ(st:St)(ob di:Nat)(rem:List K)(k:K)(m:List (T×Mem)):St:={ st with hp:=(ob,.mp (some ⟨di,kTs rem,some (MKey.kT k)⟩) m none)::del ob st.hp }
theorem Jn(hG:fO P E I){ops l:List Oper}{o:Oper}{rest:List Oper}{Q:gC}{d ob di:Nat}{cur:Option T}{eD:V->T}(v:List (K×V))(rem:List K)
  (hl:l=o::rest)(hop:o.op = .next x false)(hd:o.dst=some d)(hw:bO ops o st=some true)(hnt:Nat.blt d I.nt=true)(hx:ev st x=some (.ptr di 0))
  (hob:look st.hp ob=some (.mp (some ⟨di,kTs rem,cur⟩) (eM (fun c=>.d (eD c)) v) none))
  (h0:rem=[]->dU P E ops Q rest (st.put d (.tup [.t (.bool false)])))
  (h1:∀ k c,k∈rem->eC v k=some c->dU P E ops Q rest ((wQ st ob di (rem.erase k) k (eM (fun c=>.d (eD c)) v)).put d (.tup [.t (.bool true),.t (MKey.kT k),.t (eD c)]))):dU P E ops Q l st:=by
 refine dP hl hw fun F g a w r=>?_;have hd':d<E.nt:=by rw[hG.nt]; simpa[dR] using hnt
 obtain⟨u,hu⟩:∃ u,a.eval x=u:=⟨_,rfl⟩;have hxv:=bK r hx;rw[hu]at hxv;rcases Wd (P:=P) r v rem o.type hob hxv with⟨hrem,hrun⟩ | ⟨k,w2,b,es,clock,e',hk,hrun,r2,e1,e2,he,hke⟩
 ·exact⟨_,_,w,_,qX hop hu hrun,.inl rfl,by rw[hd]; exact⟨F,g,r.put hd' (.tup1 (.t (.bool _)))⟩,h0 hrem⟩
 ·have hob2:look (wQ st ob di (rem.erase k) k (eM (fun c=>.d (eD c)) v)).hp ob=some (.mp (some ⟨di,kTs (rem.erase k),some (MKey.kT k)⟩) (eM (fun c=>.d (eD c)) v) none):=by simp[look,wQ]
  obtain⟨b',es',clock',f1,f2,l1,r1,hM⟩:=r2.w.hp.obj _ _ (aS hob2);rw[e1]at f1; injection f1 with f1; injection f1 with f1; subst f1;rw[e2]at f2; injection f2 with f2; injection f2 with f2 f2'; subst f2; subst f2';obtain⟨c,hlk,hmem⟩:=hM.hasKey he hke;exact⟨_,_,w2,_,qX hop hu hrun,.inl rfl,by rw[hd]; exact⟨F,g,bV.put r2 hd' (.tup3 (.t (.bool _)) (.t hke.toRd) (.t hmem))⟩,h1 k c hk hlk⟩
theorem Kp(hG:fO P E I){ops l:List Oper}{o:Oper}{rest:List Oper}{Q:gC}{d ob:Nat}{it:Option fW}{eD:V->T}{zv:Value}{zp:PV}(v:List (K×V))(k:K)
  (hl:l=o::rest)(hop:o.op = .lookup t x kx false)(hd:o.dst=some d)(hw:bO ops o st=some true)(hnt:Nat.blt d I.nt=true)(hx:ev st x=some (.map ob))(hk:ev st kx=some (.t (MKey.kT k)))
  (hob:look st.hp ob=some (.mp it (eM (fun c=>.d (eD c)) v) none))(hm:kY I.ti t (MKey.kT k)=some et)(hz:wG P et zv)(hzp:oB zv=some zp)
  (h0:eC v k=none->dU P E ops Q rest (st.put d zp))(h1:∀ c,eC v k=some c->dU P E ops Q rest (st.put d (.t (eD c)))):dU P E ops Q l st:=by
 refine dP hl hw fun F g a w r=>?_;have hd':d<E.nt:=by rw[hG.nt]; simpa[dR] using hnt
 obtain⟨kt,kd,hT⟩:=mT hG.ti hm;obtain⟨info,hi,hz⟩:=hz;obtain⟨b,es,clock,e1,e2,l1,r1,hM⟩:=r.w.hp.obj _ _ (aS hob);have hxv:=bK r hx;have hkv:=(bK r hk).key hT.d;obtain⟨u,hu⟩:∃ u,a.eval x=u:=⟨_,rfl⟩;obtain⟨kv,hkv'⟩:∃ u,a.eval kx=u:=⟨_,rfl⟩;rw[hu]at hxv; rw[hkv']at hkv;cases hxv with
 | map hg=>
  rw[e1]at hg; injection hg with hg; injection hg with hg; subst hg;have hrun:=nV (P:=P) hT hkv e2 (hM.kinds (by simp) k) hi hz;have hf:=hM.found k;have hex:∀ v',(Instr.lookup t (.map (some b)) kv false).run P w = .ok v' w->(execOp a.eval o).run P w = .ok (.value v') w:=by intro v' hv';unfold execOp;simp[hop,hu,hkv',hv']
  rcases hrun with⟨h2,hnk⟩ | ⟨e,he,hke,h2⟩
  ·cases hlk:eC v k with
   | none=>exact⟨_,_,w,_,hex _ h2,.inl rfl,by rw[hd]; exact⟨F,g,r.put hd' (nJ hzp F g w)⟩,h0 hlk⟩
   | some c=>obtain⟨_,e0,he0,hk0⟩:=hf.2 c hlk; exact absurd hk0 (hnk e0 he0)
  ·obtain⟨c,hlk,hmem⟩:=hM.hasKey he hke;exact⟨_,_,w,_,hex _ h2,.inl rfl,by rw[hd]; exact⟨F,g,r.put hd' (.t hmem)⟩,h1 c hlk⟩
theorem aSE{F:Nat->Prop}{g:Nat->Value}{w:World}(h:Rd F w (.fv c) v):VR F g w (.fn (.func c) 0 []) v:=by
 cases h with
 | fv=>exact .fn rfl rfl (by simp)
 | nil h=>simp[T.view]at h
 | sl a cap size vs h=>simp[T.view]at h
theorem aDC(hI:lE P I.ti){ob:Nat}(v:List (K×Nat))(k:K)(hm:kY I.ti t (MKey.kT k)=some et)(hz:wG P et .nilFunc)(hc:eC v k=some c):
  Jh P t [.map ob,.t (MKey.kT k)] (.fn (.func c) 0 []) [(ob,.mp none (eM (fun c=>.d (.fv c)) v) none)]:=by
 intro F g w u kv x y hxy hxv hkv0 hH;cases hxy;obtain⟨kt,kd,hT⟩:=mT hI hm;obtain⟨info,hi,hz⟩:=hz;obtain⟨b,es,clock,e1,e2,l1,r1,hM⟩:=hH _ (fQ.2 rfl);have hkv:=hkv0.key hT.d;cases hxv with
 | map hg=>
  rw[e1]at hg; injection hg with hg; injection hg with hg; subst hg;have hrun:=nV (P:=P) hT hkv e2 (hM.kinds (by simp) k) hi hz;have hf:=hM.found k;rcases hrun with⟨h2,hnk⟩ | ⟨e,he,hke,h2⟩
  ·obtain⟨_,e0,he0,hk0⟩:=hf.2 c hc;exact absurd hk0 (hnk e0 he0)
  ·obtain⟨c',hlk,hmem⟩:=hM.hasKey he hke;rw[hc]at hlk;cases hlk;exact⟨_,h2,aSE hmem⟩
theorem Le.filld{it:Option fW}{eD:V->T}(v:List (K×V))(k:K)(c:V)(hp:∀ F g w v,VR F g w p v->VR F g w (.t (eD c)) v)(hl:look st.hp o=some (.mp it (eM (fun c=>.d (eD c)) (iI v k)) (some (MKey.kT k,some p)))):
  Le E st { st with hp:=(o,.mp it (eM (fun c=>.d (eD c)) (Fx v k c)) none)::del o st.hp }:=by
 refine Le.objF _ hl (fun F g w h=>?_) (fun g w x h=>?_)
 ·obtain⟨b,es,clock,e1,e2,l1,r1,hM⟩:=h;obtain⟨e,hr,hk,hv⟩:=hM.hole;have hv:=hp _ _ _ _ hv;subst hr;have hM':MpR F g w b es clock it ((MKey.kT k,Mem.d (eD c))::eM (fun c=>.d (eD c)) (iI v k)) none (e::l1) []:=by
   refine⟨?_,.cons ⟨hk,hv.cells_t rfl⟩ hM.ent,rfl,?_,hM.born,hM.old,?_,hM.it⟩
   ·rw[gY];exact(sO (l₁:=[e]) (l₂:=l1)).trans hM.perm
   ·have:=hM.keys;simp only[hoK,kO,gY]at this ⊢;exact(Dk (sO (l₁:=[MKey.kT k]) (l₂:=(eM (fun c=>Mem.d (eD c)) (iI v k)).map (·.1)))).2 this
   ·intro i j x y e1 e2 c' hx hy h1 h2 hne ho;have:x.2.owned=false:=by
     cases i with
     | zero=>simp at hx; subst hx; rfl
     | succ i=>have:=gW (show (eM (fun c=>Mem.d (eD c)) (iI v k))[i]? = some x by simpa using hx);simp only[eM,eE]at this;obtain⟨p,_,rfl⟩:=this;rfl
    rw[this]at ho; cases ho
  obtain⟨l2,hM2⟩:=hM'.permM (Lg (enc:=fun c=>Mem.d (eD c)) v k c);exact⟨b,es,clock,e1,e2,l2,[],hM2⟩
 ·cases h with
  | self h=>exact .self h
  | iter h=>exact .iter h
  | mem h1 h2 h3 h4 h5 h6 h7=>simp only[eM,eE]at h4;obtain⟨p,_,rfl⟩:=h4;cases h6
end
section
variable {P:Program} {E:Env} {I:Inf} {st:St} {a:Act} {w:World} {K V:Type} [MKey K]
theorem mD.remap{α β γ:Type}{R:β->γ->Prop}{R':β->γ->Prop}{f f':α->β}:∀ {v:List α} {l:List γ},mD R (v.map f) l->(∀ p e,p∈v->e∈l->R (f p) e->R' (f' p) e)->mD R' (v.map f') l
 | [],_,h,_=>by cases h; exact .nil
 | p::v,_,h,hr=>by
  cases h with
  | cons h t=>exact .cons (hr p _ (by simp) (by simp) h) (mD.remap t fun q e hq he=>hr q e (cM _ hq) (cM _ he))
theorem Le.gapd{it:Option fW}{eD:V->T}(v:List (K×V))(k:K)(c:V)(hlk:eC v k=some c)(hl:look st.hp o=some (.mp it (eM (fun c=>.d (eD c)) v) none)):
  Le E st { st with hp:=(o,.mp it (eM (fun c=>.d (eD c)) (iI v k)) (some (MKey.kT k,some (.t (eD c)))))::del o st.hp }:=by
 refine Le.objF _ hl (fun F g w h=>?_) (fun g w c' h=>?_)
 ·obtain⟨b,es,clock,e1,e2,l1,r1,hM⟩:=h;refine⟨b,es,clock,e1,e2,?_⟩;obtain⟨hp,_⟩:=(hM.found k).2 c hlk;obtain⟨l2,hM2⟩:=hM.permM hp;obtain⟨e,l',_,_,_,_,h⟩:=hM2.focus (g':=g) (p:=some (.t (eD c))) (fun q hq u hu _=>by cases hq; exact .t hu) hM.it;exact⟨_,_,h⟩
 ·cases h with
  | self h=>exact .self h
  | iter h=>exact .iter h
  | mem h1 h2 h3 h4 h5 h6 h7=>refine .mem h1 h2 h3 ?_ h5 h6 h7;simp only[eM,iI,eE,qL]at h4 ⊢;obtain⟨p,⟨hp,_⟩,rfl⟩:=h4;exact⟨p,hp,rfl⟩
theorem bV.fzmap{F:Nat->Prop}{g:Nat->Value}(r:bV E F g st a w){it:Option fW}{e:TypeId}{nn:V->Nat}{ff:V->Nat->List T}{eD:V->T}(v:List (K×V))(hv:∀ c,(eD c).view=some (nn c,ff c))
  (hl:look st.hp o=some (.mp it (eM (fun c=>.row e s (nn c) (ff c)) v) none)):Rel E { st with hp:=(o,.mp it (eM (fun c=>.d (eD c)) v) none)::del o st.hp } a w:=by
 have hlm:=aS hl;obtain⟨b0,es,clock,e1,e2,l1,r1,hM⟩:=r.w.hp.obj _ _ hlm;let M:Nat->Prop:=fun b=>∃ en x,en∈es.toList/\x∈eM (fun c=>.row e s (nn c) (ff c)) v/\KeyR x.1 en.key/\blk en.val=some b;have hfoot:∀ b,M b->aZ g w o (.mp it (eM (fun c=>.row e s (nn c) (ff c)) v) none) b:=by rintro b ⟨en,x,h1,h2,h3,h4⟩;refine .mem e1 e2 h1 h2 h3 ?_ h4;simp only[eM,eE]at h2;obtain⟨p,_,rfl⟩:=h2;rfl
 have hcell:∀ b,M b->∃ vs ty,w.heap[b]? = some (.cells vs ty (0,0)):=by
  rintro b ⟨en,x,h1,h2,h3,h4⟩;obtain⟨⟨_,hR⟩,_⟩:=hM.entry h2 h1 h3;simp only[eM,eE]at h2;obtain⟨p,_,rfl⟩:=h2;rcases hR with⟨h5,_⟩ | ⟨b',cap,cur,h5,h6,_⟩
  ·rw[h5]at h4; simp[blk]at h4
  ·rw[h5]at h4; simp[blk]at h4; subst h4; exact⟨_,_,h6⟩
 have hnew:∀ b,aZ g w o (.mp it (eM (fun c=>.d (eD c)) v) none) b->aZ g w o (.mp it (eM (fun c=>.row e s (nn c) (ff c)) v) none) b/\¬ M b:=by
  intro b h;cases h with
  | self h=>refine⟨.self h,fun hm=>?_⟩;obtain⟨vs,ty,hc⟩:=hcell b hm;rw[e1]at h; simp[blk]at h; subst h;rw[e2]at hc; cases hc
  | @iter i _ _ _ h=>refine⟨.iter h,fun hm=>?_⟩;obtain⟨vs,ty,hc⟩:=hcell b hm;obtain⟨rr,since,seen,c0,g1,g2,_⟩:=hM.it;rw[g1]at h; simp[blk]at h; subst h;rw[g2]at hc; cases hc
  | mem h1 h2 h3 h4 h5 h6 h7=>simp only[eM,eE]at h4;obtain⟨p,_,rfl⟩:=h4;cases h6
 refine⟨fun b=>F b\/M b,g,r.nt,r.df,fun t x hx=>(r.fr t x hx).mono (fun b hb=>⟨.inl hb,rfl⟩) (fun _ _=>rfl),⟨⟨fun k y hy=>?_,fun k y b hy hb=>?_,fun k y k' y' b hy hy' hne hb hb'=>?_⟩,fun b hb=>.inl (r.w.f0 b hb),fun b hb=>?_,r.w.ext,r.w.names,r.w.b0⟩⟩
 ·rcases bB.1 hy with he | hy
  ·cases he;have hr1:=hM.hole;refine⟨b0,es,clock,e1,e2,l1,r1,hM.perm,?_,hr1,?_,hM.born,hM.old,fun i j x y' e1 e2 c hx hy h1 h2 hne ho=>?_,hM.it⟩
   ·refine mD.remap hM.ent fun p en hp hen hR=>⟨hR.1,?_⟩;refine rC (g:=fun _=>en.val) (o:=0) (F:=F) (e:=e) (s:=s) hR.2 (fun b hb=>.inl hb) (fun b hb=>.inr ⟨en,_,hM.perm.mem_iff.1 (kL _ hen),pK hp,hR.1,hb⟩) (hv p.2)
   ·have:=hM.keys;rw[nH]at this ⊢;exact this
   ·have:=gW hx;simp only[eM,eE]at this;obtain⟨p,_,rfl⟩:=this;cases ho
  ·exact(r.w.hp.obj k y (bA.1 hy).1).mono (fun b hb=>⟨.inl hb,rfl⟩) rfl (fun _ _=>rfl) (fun _ _=>rfl)
 ·rcases bB.1 hy with he | hy
  ·cases he;obtain⟨h1,h2⟩:=hnew b hb;obtain⟨h3,h4⟩:=r.w.hp.own _ _ b hlm h1;exact⟨fun h=>h.elim h3 h2,h4⟩
  ·obtain⟨hy1,hy2⟩:=bA.1 hy;obtain⟨h3,h4⟩:=r.w.hp.own _ _ b hy1 hb;exact⟨fun h=>h.elim h3 fun hm=>r.w.hp.sep k y o _ b hy1 hlm hy2 hb (hfoot b hm),h4⟩
 ·rcases bB.1 hy with he | hy
  ·rcases bB.1 hy' with he' | hy'
   ·cases he; cases he'; exact hne rfl
   ·cases he;obtain⟨h1,h2⟩:=bA.1 hy';exact r.w.hp.sep _ _ k' y' b hlm h1 hne (hnew b hb).1 hb'
  ·obtain⟨h1,h2⟩:=bA.1 hy;rcases bB.1 hy' with he' | hy'
   ·cases he';exact r.w.hp.sep k y _ _ b h1 hlm hne hb (hnew b hb').1
   ·exact r.w.hp.sep k y k' y' b h1 (bA.1 hy').1 hne hb hb'
 ·rcases hb with hb | hb
  ·exact r.w.f1 b hb
  ·obtain⟨vs,ty,hc⟩:=hcell b hb;have:=(r.w.hp.own _ _ b hlm (hfoot b hb)).2;exact⟨(Ke.1 hc).1,this.elim (fun h=>.inr (.inl h)) (fun h=>.inr (.inr h))⟩
theorem Le.fzmap{o:Nat}{it:Option fW}{e:TypeId}{s:Nat}{nn:V->Nat}{ff:V->Nat->List T}{eD:V->T}(v:List (K×V))(hv:∀ c,(eD c).view=some (nn c,ff c))
  (hl:look st.hp o=some (.mp it (eM (fun c=>.row e s (nn c) (ff c)) v) none)):Le E st { st with hp:=(o,.mp it (eM (fun c=>.d (eD c)) v) none)::del o st.hp }:=fun _ _ r=>by
 obtain⟨F,g,r⟩:=r;exact r.fzmap v hv hl
end
inductive Kf where
 | s (y:Code)
 | b (id:Nat)
inductive Cfg where
 | c (x:Code) (ks:List Kf)
 | o (all l:List Oper) (ks:List Kf)
 | x (e:Exit) (ks:List Kf)
def kQ(P:Program)(E:Env):List Kf->gC->gC
 | [],Q=>Q
 | .s y::ks,Q=>wY P E y (kQ P E ks Q)
 | .b id::ks,Q=>kS id (kQ P E ks Q)
def cwp(P:Program)(E:Env)(g:Cfg)(Q:gC)(st:St):Prop:=
 match g with
 | .c x ks=>pwp P E x (kQ P E ks Q) st
 | .o all l ks=>dU P E all (kQ P E ks Q) l st
 | .x e ks=>∃ t,Le E st t/\kQ P E ks Q e t
def aNJ:Cfg->Option Cfg
 | .c (.seq a b) ks=>some (.c a (.s b::ks))
 | .c (.block id a) ks=>some (.c a (.b id::ks))
 | .c (.region _ ops false) ks=>some (.o ops.toList ops.toList ks)
 | .c .skip ks=>some (.x .normal ks)
 | .c .ret ks=>some (.x .ret ks)
 | .c (.exit id) ks=>some (.x (.exit id) ks)
 | .o _ [] ks=>some (.x .normal ks)
 | .x .normal (.s y::ks)=>some (.c y ks)
 | .x .normal (.b _::ks)=>some (.x .normal ks)
 | .x .ret (_::ks)=>some (.x .ret ks)
 | .x (.exit i) (.s _::ks)=>some (.x (.exit i) ks)
 | .x (.exit i) (.b j::ks)=>match Nat.beq i j with | true=>some (.x .normal ks) | false=>some (.x (.exit i) ks)
 | _=>none
def nrm:Nat->Cfg->Cfg
 | 0,g=>g
 | n+1,g=>match aNJ g with | some g'=>nrm n g' | none=>g
def aLG:Op->Bool
 | .call { callee:=.builtin .append,.. }=>true
 | _=>false
def apA(st:St)(j:dA)(p:PV)(o2:Nat):Option (Prop×(Nat->Bool)):=
 match p with
 | .nil=>match look st.hp o2 with
  | some (.arm _ _ m f none)=>some ((0+m)*j.bytes<=140737488355328,fun i=>aCX j.size (f i))
  | _=>none
 | .own o1=>match look st.hp o1,st.erase o1 with
  | some (.arm _ _ n _ none),some st0=>match look st0.hp o2 with
   | some (.arm _ _ m f none)=>some ((n+m)*j.bytes<=140737488355328,fun i=>aCX j.size (f i))
   | _=>none
  | _,_=>none
 | _=>none
theorem aLY{I:Inf}{st st':St}{d o2:Nat}{j:dA}{C0 q:Prop}{f:Nat->Bool}(h:xI I st d e j p o2=some (st',C0))(hx:apA st j p o2=some (q,f))(hq:q)(hf:∀ i,f i=true):C0:=by
 unfold xI at h;unfold apA at hx;split at h
 ·cases p with
  | nil=>
   simp only at h hx;split at h
   ·rename_i e' s' m f' st1 hl he;rw[hl]at hx;cases hx;split at h
    ·cases h; exact⟨hq,fun i _=>hf i⟩
    ·cases h
   ·cases h
  | own o1=>
   simp only at h hx;split at h
   ·rename_i e1 s1 n f1 st0 hl1 he1;rw[hl1,he1]at hx;simp only at hx;split at h
    ·rename_i e' s' m f' st1 hl2 he2 hne;rw[hl2]at hx;cases hx;split at h
     ·cases h; exact⟨hq,fun i _=>hf i⟩
     ·cases h
    ·cases h
   ·cases h
  | _=>simp at h
 ·cases h
def apX(I:Inf)(st:St)(o:Oper):Option (Prop×(Nat->Bool)):=
 match o.op with
 | .call c=>match c.args.toList,c.argTypes.toList with
  | [s,x],[t,_]=>match I.ti t,ev st s,ev st x with
   | some i,some p,some q=>match i.und,rK st q with
    | .sl e,some (m,f2,_)=>match I.ti e with
     | some j=>match p with
      | .nil=>some ((0+m)*j.bytes<=140737488355328,fun i=>iP j.size (f2 i))
      | .own o=>match look st.hp o with
       | some (.arr _ _ n _)=>some ((n+m)*j.bytes<=140737488355328,fun i=>iP j.size (f2 i))
       | _=>none
      | _=>none
     | _=>none
    | .sl e,none=>match I.ti e,q with
     | some j,.own o2=>apA st j p o2
     | _,_=>none
    | _,_=>none
   | _,_,_=>none
  | _,_=>none
 | _=>none
def Xk(I:Inf)(all:List Oper)(o:Oper)(st:St):Option (St×List Prop×List (Nat->Bool)):=
 match Aa I all o st with
 | none=>none
 | some (st',C)=>match aLG o.op,bO all o st with
  | true,some true=>match apX I st o with | some (p,f)=>some (st',[p],[f]) | none=>none
  | _,_=>some (st',C,[])
def run(I:Inf):Nat->Cfg->St->Option (Cfg×St×List Prop×List (Nat->Bool))
 | 0,g,st=>some (nrm 300 g,st,[],[])
 | n+1,g,st=>match nrm 300 g with
  | .o all (op::l) ks=>match Xk I all op st with
   | some (st',C,f)=>match run I n (.o all l ks) st' with
    | some (g',st'',C',f')=>some (g',st'',C++C',f++f')
    | none=>none
   | none=>none
  | .c (.cond c x y) ks=>match ev st c with
   | some (.t (.bool true))=>run I n (.c x ks) st
   | some (.t (.bool false))=>run I n (.c y ks) st
   | _=>none
  | _=>none
section
variable {P:Program} {E:Env} {I:Inf} {Q:gC} {st st':St}
theorem mR{g:Cfg}(h:Le E st st')(hk:cwp P E g Q st'):cwp P E g Q st:=by
 cases g with
 | c x ks=>exact rY h hk
 | o all l ks=>exact fA h hk
 | x e ks=>obtain⟨t,h1,h2⟩:=hk; exact⟨t,h.trans h1,h2⟩
theorem aGK{g g':Cfg}(h:aNJ g=some g')(hk:cwp P E g' Q st):cwp P E g Q st:=by
 unfold aNJ at h;split at h
 ·cases h; exact aKU hk
 ·cases h; exact Ur hk
 ·rename_i id ops ks;cases h;have:ops=ops.toList.toArray:=by simp
  show pwp P E (.region id ops false) _ _;rw[this];exact Lb hk
 ·cases h; obtain⟨t,h1,h2⟩:=hk; exact rY h1 (Zt h2)
 ·cases h; obtain⟨t,h1,h2⟩:=hk; exact rY h1 (aKJ h2)
 ·cases h; obtain⟨t,h1,h2⟩:=hk; exact rY h1 (aBQ h2)
 ·cases h; obtain⟨t,h1,h2⟩:=hk; exact fA h1 (Wl h2)
 ·cases h; exact⟨st,Le.refl,aMF hk⟩
 ·cases h; obtain⟨t,h1,h2⟩:=hk; exact⟨t,h1,aSN h2⟩
 ·rename_i k ks;cases h; obtain⟨t,h1,h2⟩:=hk;cases k with
  | s y=>exact⟨t,h1,aBC h2⟩
  | b id=>exact⟨t,h1,aGP h2⟩
 ·cases h; obtain⟨t,h1,h2⟩:=hk; exact⟨t,h1,Vu h2⟩
 ·rename_i i j ks;split at h
  ·rename_i hij;cases h; obtain⟨t,h1,h2⟩:=hk;have:=bU hij;subst this;exact⟨t,h1,aLA h2⟩
  ·rename_i hij;cases h; obtain⟨t,h1,h2⟩:=hk;exact⟨t,h1,aAD (kA hij) h2⟩
 ·cases h
theorem wR:∀ {n:Nat} {g:Cfg},cwp P E (nrm n g) Q st->cwp P E g Q st
 | 0,_,h=>h
 | n+1,g,h=>by
  simp only[nrm]at h;split at h
  ·rename_i g' hg; exact aGK hg (wR h)
  ·exact h
theorem aPA{all:List Oper}{o:Oper}{C:List Prop}{p:Prop}{f:Nat->Bool}(ha:aLG o.op=true)(h:Aa I all o st=some (st',C))(hw:bO all o st=some true)(hx:apX I st o=some (p,f))(hp:p)(hf:∀ i,f i=true):All C:=by
 obtain⟨dst,op,ty,pos,aft,gd⟩:=o;cases op with
 | call c=>
  obtain⟨callee,args,argTypes⟩:=c;cases callee with
  | builtin b=>
   cases b with
   | append=>
    unfold Aa at h;simp only[hw]at h;have hs:∃ C0,iS I st { dst:=dst,op:=.call { callee:=.builtin .append,args:=args,argTypes:=argTypes },type:=ty,pos:=pos,after:=aft,guard:=gd }=some (st',C0)/\C=[C0]:=by
     split at h
     ·rename_i st1 C0 hs;cases h;exact⟨C0,hs,rfl⟩
     ·cases h
    obtain⟨C0,hs,rfl⟩:=hs;show C0;unfold iS at hs;unfold apX at hx;cases dst with
    | none=>simp at hs
    | some d=>
     simp only at hs hx;split at hs
     case h_2=>cases hs
     rename_i s x t t' h1 h2;rw[h1,h2]at hx;simp only at hx;split at hs
     case h_2=>cases hs
     rename_i i p0 q0 _ h3 h4 h5;rw[h3,h4,h5]at hx;simp only at hx;split at hs
     case h_3=>cases hs
     case h_2=>
      rename_i e h6 h7;rw[h6,h7]at hx;simp only at hx;split at hs
      ·rename_i j o2 h8;rw[h8]at hx;simp only at hx;exact aLY hs hx hp hf
      ·cases hs
     rename_i e m f2 s2 h6 h7;rw[h6,h7]at hx;simp only at hx;split at hs
     case h_2=>cases hs
     rename_i j h8;rw[h8]at hx;simp only at hx;split at hs
     case h_2=>cases hs
     cases p0 with
     | nil=>
      simp only at hs hx;cases hx;split at hs
      ·cases hs; exact⟨hp,fun i _=>hf i⟩
      ·cases hs
     | own oo=>
      simp only at hs hx;split at hs
      case h_2=>cases hs
      rename_i e' s' n f1 st1 h9 h10;rw[h9]at hx;simp only at hx;cases hx;split at hs
      ·cases hs; exact⟨hp,fun i _=>hf i⟩
      ·cases hs
     | _=>simp at hs
   | _=>cases ha
  | _=>cases ha
 | _=>cases ha
theorem Zi(hG:fO P E I){all l:List Oper}{o:Oper}{C:List Prop}(h:Xk I all o st=some (st',C,fs))(hC:All C)(hf:∀ f,f∈fs->∀ i,f i=true)
  (hk:dU P E all Q l st'):dU P E all Q (o::l) st:=by
 unfold Xk at h;split at h
 ·cases h
 ·rename_i st1 C1 hs;have:st1=st'/\All C1:=by
   split at h
   ·rename_i hw;rename_i ha;split at h
    ·rename_i p f hx;cases h;exact⟨rfl,aPA ha hs hw hx hC (hf f (by simp))⟩
    ·cases h
   ·cases h; exact⟨rfl,hC⟩
  obtain⟨rfl,hC1⟩:=this;intro a w r;exact aAU hG (ops:=all.toArray) (by simpa using hs) hC1 r hk
theorem cP(hG:fO P E I):∀ {n:Nat} {g g':Cfg} {st st':St} {C:List Prop} {fs:List (Nat->Bool)},run I n g st=some (g',st',C,fs)->All C->(∀ f,f∈fs->∀ i,f i=true)->cwp P E g' Q st'->cwp P E g Q st
 | 0,g,g',st,st',C,fs,h,_,_,hk=>by simp only[run,fG,gD]at h;obtain⟨rfl,rfl,_⟩:=h;exact wR hk
 | n+1,g,g',st,st',C,fs,h,hC,hf,hk=>by
  simp only[run]at h;split at h
  ·rename_i all op l ks hg;split at h
   ·rename_i st1 C1 f1 hs;split at h
    ·rename_i g2 st2 C2 f2 hr;cases h;rw[All.append]at hC;refine wR (n:=300) ?_;rw[hg];exact Zi hG hs hC.1 (fun f hm=>hf f (kL _ hm)) (cP hG hr hC.2 (fun f hm=>hf f (lA _ hm)) hk)
    ·cases h
   ·cases h
  ·rename_i c x y ks hg;refine wR (n:=300) ?_;rw[hg];split at h
   ·rename_i hc;exact yK (b:=true) hc (fun _=>cP hG h hC hf hk) (fun e=>by cases e)
   ·rename_i hc;exact yK (b:=false) hc (fun e=>by cases e) (fun _=>cP hG h hC hf hk)
   ·cases h
  ·cases h
end
structure Conv {α:Type}(f:Nat->Option α)(g:Option α):Prop where
 mono:∀ n y,f n=some y->f (n+1)=some y
 lim:∀ y,g=some y↔∃ n,f n=some y
theorem Conv.of_run{f:Nat->Option α}{g:Option α}(h:Conv f g)(n:Nat){y:α}(hy:f n=some y):g=some y:=(h.lim y).2 ⟨n,hy⟩
theorem Conv.run{f:Nat->Option α}{g:Option α}(h:Conv f g){y:α}(hy:g=some y):∃ n,f n=some y:=(h.lim y).1 hy
open Classical in
noncomputable def Lim {α:Type}(f:Nat->Option α):Option α:=if h:∃ y n,f n=some y then some h.choose else none
theorem Lim.conv{f:Nat->Option α}(hm:∀ n y,f n=some y->f (n+1)=some y):Conv f (Lim f):=by
 have hle:∀ {n m:Nat},n<=m->∀ {y:α},f n=some y->f m=some y:=by
  intro n m h
  induction h with
  | refl=>exact fun h=>h
  | step _ ih=>exact fun h=>hm _ _ (ih h)
 refine⟨hm,fun y=>?_⟩;unfold Lim;split
 ·rename_i h;have hc:=h.choose_spec;constructor
  ·intro e; cases e; exact hc
  ·rintro⟨n,hn⟩;obtain⟨m,hm'⟩:=hc;have h1:=hle (Nat.le_max_left n m) hn;have h2:=hle (Nat.le_max_right n m) hm';rw[h1]at h2; cases h2; rfl
 ·rename_i h;constructor
  ·intro e; cases e
  ·rintro⟨n,hn⟩; exact absurd ⟨y,n,hn⟩ h
theorem Mu{b:S->Option (S⊕R)}{s:S}{r:R}(h:lD b n s=some r):lD b (n+1) s=some r:=by
 induction n generalizing s with
 | zero=>simp[lD]at h
 | succ n ih=>
  rw[lD]at h ⊢;cases hb:b s with
  | none=>simp[hb]at h
  | some x=>
   cases x with
   | inl s'=>simp only[hb]at h ⊢; exact ih h
   | inr r'=>simp only[hb]at h ⊢; exact h
noncomputable def cE (b:S->Option (S⊕R))(s:S):Option R:=Lim fun n=>lD b n s
theorem lV(b:S->Option (S⊕R))(s:S):Conv (fun n=>lD b n s) (cE b s):=Lim.conv fun _ _ h=>Mu h
theorem qH(b:S->Option (S⊕R))(s:S):cE b s=match b s with | none=>none | some (.inl s')=>cE b s' | some (.inr r)=>some r:=by
 have hc:=lV b s;cases hb:b s with
 | none=>
  simp only;cases hw:cE b s with
  | none=>rfl
  | some y=>obtain⟨n,hn⟩:=hc.run hw; cases n <;> simp[lD,hb]at hn
 | some x=>
  cases x with
  | inr r=>exact hc.of_run 1 (by simp[lD,hb])
  | inl s'=>
   simp only;have hc':=lV b s';cases hw:cE b s' with
   | some y=>obtain⟨n,hn⟩:=hc'.run hw; exact hc.of_run (n+1) (by simp[lD,hb,hn])
   | none=>
    cases hv:cE b s with
    | none=>rfl
    | some y=>
     obtain⟨n,hn⟩:=hc.run hv;cases n with
     | zero=>simp[lD]at hn
     | succ n=>simp only[lD,hb]at hn; rw[hc'.of_run n hn]at hw; cases hw
theorem bH{b:S->Option (S⊕R)}{s s':S}(h:b s=some (.inl s')):cE b s=cE b s':=by rw[qH,h]
theorem cF{b:S->Option (S⊕R)}{s:S}{r:R}(h:b s=some (.inr r)):cE b s=some r:=by rw[qH,h]
theorem bL{b:S->Option (S⊕R)}{s:S}{r:R}(h:lD b n s=some r):cE b s=some r:=(lV b s).of_run n h
end Go.PL
