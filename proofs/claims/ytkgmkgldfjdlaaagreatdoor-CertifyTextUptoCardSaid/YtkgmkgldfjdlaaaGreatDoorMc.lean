/-
  Parts: Regions whose order is open: each operation is looked at once, over what its forerunners give. Own work. Short forms of the rules, for printed proofs. Own work. Maps with numbers or strings as keys: what the model's operations do, and typed maps. Own work. Rules for maps whose values are boxes and rows of the map's own. Own work. Rules for maps: looking up, and what is found there under a name of its own. Own work. Rules for maps: writing and deleting entries. Own work. Rules for maps: writing, deleting, filling a gap. Own work. Rules for maps: making one, its length, loops over one. Own work. Rules for maps: the rounds of a loop over one. Own work. Rules for maps: rounds of a loop, by what the entries are; maps of data. Own work. Maps of rows become maps of data; an entry of a map of data, beside the map. Own work. A walker over code: runs of operations and control, by computation over abstract states. Own work. From functions of fuel to functions without fuel. Own work.
-/
import Derived.Test.YtkgmkgldfjdlaaaGreatDoorMb
import Derived.KernelRfl
import Derived.Maps.RangeRun
set_option maxHeartbeats 4000000
namespace Go.PL
open Go
variable {Q':Exit->Act->World->Prop} {R S α:Type} {c e et k n o s t:Nat} {fr:Fr} {fs:List (Nat->Bool)} {hp:Hp} {kd:TypeDesc} {kt:TypeId} {kv u v z:Value} {kx x:Operand} {p:PV} {r:List MapEntry} {w':World} {x':aN} {y:Mem}
def bU{α:Type}:List (Nat×α)->List Nat
 | []=>[]
 | e::l=>e.1::bU l
theorem gF{l:List (Nat×α)}:o∈bU l↔∃ x,(o,x)∈l:=by
 induction l with
 | nil=>simp[bU]
 | cons e l ih=>
  obtain⟨k,y⟩:=e;simp only[bU,aL,ih,dS];constructor
  ·rintro (rfl | ⟨x,h⟩)
   ·exact⟨y,.inl ⟨rfl,rfl⟩⟩
   ·exact⟨x,.inr h⟩
  ·rintro⟨x,⟨rfl,_⟩ | h⟩
   ·exact .inl rfl
   ·exact .inr ⟨x,h⟩
def Nc(Hs:Hp):Option (Nat×aN)->Hp
 | none=>Hs
 | some c=>Hs.map fun e=>match Nat.beq e.1 c.1 with | true=>(e.1,c.2) | false=>e
def mdC:Option (Nat×aN)->Option (Nat×aN×Option Nat)
 | none=>none
 | some (o,x)=>some (o,x,none)
structure Ni (P:Program)(k:Nat)(args:List PV)(r:PV)(Hs:Hp)(ch:Option (Nat×aN)):Prop where
 c:eG P k
 h:(Hs=[]/\ch=none/\∃ bps,(∀ st,fV st [] args bps)/\dK P k bps [] [] (Ret r))\/∃ bps N,(∀ st,fV st [] args bps)/\dK P k bps Hs N (mB r (Nc Hs ch))/\jX r (Nc Hs ch) N=true/\∀ c,ch=some c->c.1∈bU Hs
 p:r.pure=true
def lkN:Nat:=1000000007
def cN:Nat:=1000000000
def xP(P:Program)(t:TypeId)(args:List PV)(r:PV)(Hs:Hp):Prop:=
 ∀ (F:Nat->Prop) (g:Nat->Value) (w:World) (u kv:Value) (x y:PV),args=[x,y]->VR F g w x u->VR F g w y kv->(∀ e,e∈Hs->bL F g w e.1 e.2)->∃ z,(Instr.lookup t u kv false).run P w = .ok z w/\VR F g w r z
def xH:PV->Option Nat
 | .own d=>some d
 | .map d=>some d
 | _=>none
inductive pR (P:Program)(k:Nat)(args:List PV)(r:PV)(Hs:Hp)(ch:Option (Nat×aN)):Prop where
 | call (hk:Nat.blt k cN=true) (hr:xH r=none) (h:Ni P k args r Hs ch)
 | look (hk:Nat.blt k lkN=false) (h:xP P (k-lkN) args r Hs)
 | new (hk:Nat.blt k cN=true) {d e s n:Nat} {f:Nat->List T} (hr:r = .own d) (hH:Hs=[]) (hc:ch=some (d,.arr e s n f)) (c:eG P k) {bps:List PV} (ha:∀ st,fV st [] args bps)
   (h:dK P k bps [] [] (mB (.own d) [(d,.arr e s n f)]))
 | newH (hk:Nat.blt k cN=true) {d:Nat} {y:aN} (hr:r = .map d) (hc:ch=some (d,y)) (c:eG P k) {bps:List PV} {N:List Nat} (ha:∀ st,fV st [] args bps)
   (h:dK P k bps Hs N (mB (.map d) ((d,y)::Hs))) (hb:jX (.map d) ((d,y)::Hs) (N++[d])=true)
theorem Aa(h:Nat.blt k cN=true)(h':Nat.blt k lkN=false):False:=by
 rw[cB]at h;have:Nat.blt k lkN=true:=by rw[cB]; unfold lkN; unfold cN at h; omega
 rw[h']at this; cases this
theorem pR.l{P:Program}{args:List PV}{r:PV}{Hs:Hp}{ch:Option (Nat×aN)}(h:pR P k args r Hs ch)(hk:Nat.blt k lkN=false):xP P (k-lkN) args r Hs:=by
 cases h with
 | look _ h=>exact h
 | call hk' _ h=>exact(Aa hk' hk).elim
 | new hk'=>exact(Aa hk' hk).elim
 | newH hk'=>exact(Aa hk' hk).elim
theorem dK.renNew{P:Program}{bps:List PV}{f:Nat->List T}(d:Nat)(h:dK P k bps [] [] (mB (.own o) [(o,.arr e s n f)])):dK P k bps [] [] (mB (.own d) [(d,.arr e s n f)]):=by
 intro F g w vs hs hv hH hF hgl;refine(h F g w vs hs hv hH hF hgl).mono ?_;rintro ex w' ⟨v,r,H',F',g',he,⟨rfl,rfl⟩,hvr,hw⟩;refine⟨v,_,_,F',fun q=>if q=d then g' o else g' q,he,⟨rfl,rfl⟩,?_,⟨⟨?_,?_,?_⟩,hw.f0,hw.f1,hw.ext,(fun q hq=>by cases hq),hw.b0⟩⟩
 ·cases hvr with
  | own h=>exact .own (by simp[h])
 ·intro q x hx;obtain⟨rfl,rfl⟩:=Prod.mk.inj (bX.1 hx);have:=hw.hp.obj o _ (bX.2 rfl);have this:mP F' w' (g' o) e s n f:=this;show mP F' w' _ e s n f;simpa using this
 ·intro q x b hx hb;obtain⟨rfl,rfl⟩:=Prod.mk.inj (bX.1 hx);cases hb with
  | self hb=>exact hw.hp.own o _ b (bX.2 rfl) (.self (by simpa using hb))
 ·intro q x q' y b hx hy hne;obtain⟨rfl,rfl⟩:=Prod.mk.inj (bX.1 hx);obtain⟨rfl,rfl⟩:=Prod.mk.inj (bX.1 hy);exact absurd rfl hne
theorem dK.renMap{P:Program}{bps:List PV}{Hs:Hp}{N:List Nat}{m:List (T×Mem)}(d:Nat)(hd:d∉bU Hs)(ho:o∉bU Hs)(hn:∀ e,e∈Hs->∀ q,q∈e.2.names->q≠d)(hN:d∉N)
  (h:dK P k bps Hs N (mB (.map o) (Hs++[(o,.mp none m none)]))):dK P k bps Hs N (mB (.map d) ((d,.mp none m none)::Hs)):=by
 intro F g w vs hs hv hH hF hgl;refine(h F g w vs hs hv hH hF hgl).mono ?_;rintro ex w' ⟨v,r,H',F',g',he,⟨rfl,rfl⟩,hvr,hw⟩;have hk:∀ {q:Nat} {x:aN},(q,x)∈Hs->q≠d:=fun hx e=>hd (gF.2 ⟨_,e▸hx⟩);have hko:∀ {q:Nat} {x:aN},(q,x)∈Hs->q≠o:=fun hx e=>ho (gF.2 ⟨_,e▸hx⟩);have old:∀ {q:Nat} {x:aN} {b:Nat},(q,x)∈Hs->aK (fun q=>if q=d then g' o else g' q) w' q x b->aK g' w' q x b:=fun hx hf=>
  hf.mono (by simp[hk hx]) (fun z hz=>by simp[hn _ hx z hz]) (fun _ _=>rfl)
 have new:∀ {b:Nat},aK (fun q=>if q=d then g' o else g' q) w' d (.mp none m none) b->aK g' w' o (.mp none m none) b:=fun hf=>by
  cases hf with
  | self h=>exact .self (by simpa using h)
  | mem h1 h2 h3 h4 h5 h6 h7=>exact .mem (by simpa using h1) h2 h3 h4 h5 h6 h7
 refine⟨v,_,_,F',fun q=>if q=d then g' o else g' q,he,⟨rfl,rfl⟩,?_,⟨⟨?_,?_,?_⟩,hw.f0,hw.f1,hw.ext,fun q hq=>?_,hw.b0⟩⟩
 ·cases hvr with
  | map h=>exact .map (by simp[h])
 ·intro q x hx;rcases aL.1 hx with e | hx
  ·cases e;obtain⟨b,es,cl,h1,h2,l,r,hM⟩:=hw.hp.obj o _ (gV _ (bX.2 rfl));exact⟨b,es,cl,by simp[h1],h2,l,r,hM.perm,hM.ent,hM.hole,hM.keys,hM.born,hM.old,hM.sep,True.intro⟩
  ·exact(hw.hp.obj q x (gI _ hx)).monoF (fun b hb=>⟨hb,rfl⟩) (by simp[hk hx]) (fun z hz=>by simp[hn _ hx z hz]) (fun _ _=>rfl)
 ·intro q x b hx hb;rcases aL.1 hx with e | hx
  ·cases e;exact hw.hp.own o _ b (gV _ (bX.2 rfl)) (new hb)
  ·exact hw.hp.own q x b (gI _ hx) (old hx hb)
 ·intro q x q' y b hx hy hne h1 h2;rcases aL.1 hx with e | hx
  ·cases e;rcases aL.1 hy with e | hy
   ·cases e; exact hne rfl
   ·exact hw.hp.sep o _ q' y b (gV _ (bX.2 rfl)) (gI _ hy) (fun e=>hko hy e.symm) (new h1) (old hy h2)
  ·rcases aL.1 hy with e | hy
   ·cases e;exact hw.hp.sep q x o _ b (gI _ hx) (gV _ (bX.2 rfl)) (hko hx) (old hx h1) (new h2)
   ·exact hw.hp.sep q x q' y b (gI _ hx) (gI _ hy) hne (old hx h1) (old hy h2)
 ·have:q≠d:=fun e=>hN (e▸hq);simp only[this,fK];exact hw.names q hq
def fzN:Nat:=1000000001
def uZ(P:Program)(k:Nat)(args:List PV)(r:PV)(Hs:Hp)(ch:Option (Nat×aN)):Prop:=
 (Nat.beq k fzN=true/\∃ n f x,args=[.t (.sl n f)]/\r = .t x/\∀ F g w v,VR F g w (.t (.sl n f)) v->VR F g w (.t x) v)\/pR P k args r Hs ch
inductive xE (P:Program):List (Nat×(Nat×List PV×PV×Hp×Option (Nat×aN)))->Prop
 | nil:xE P []
 | cons {i k:Nat} {args:List PV} {r:PV} {Hs:Hp} {ch:Option (Nat×aN)} {l:List (Nat×(Nat×List PV×PV×Hp×Option (Nat×aN)))} (h:uZ P k args r Hs ch) (t:xE P l):xE P ((i,k,args,r,Hs,ch)::l)
theorem xE.mem{P:Program}{l:List (Nat×(Nat×List PV×PV×Hp×Option (Nat×aN)))}(h:xE P l):∀ e,e∈l->uZ P e.2.1 e.2.2.1 e.2.2.2.1 e.2.2.2.2.1 e.2.2.2.2.2:=by
 induction h with
 | nil=>simp
 | cons h _ ih=>
  intro e he;rcases aL.1 he with rfl | he
  ·exact h
  ·exact ih e he
theorem tJ{l:List (Nat×α)}(h:look l o=none)(x:α):(o,x)∉l:=by
 induction l with
 | nil=>simp
 | cons e l ih=>
  obtain⟨k,y⟩:=e;unfold look at h;split at h
  ·cases h
  ·rename_i hb;intro hm;rcases aL.1 hm with he | hm
   ·cases he; rw[iD]at hb; cases hb
   ·exact ih h hm
theorem oD{hp hp':Hp}{Hs:Hp}:∀ {Ks:Hp},gM hp (bU Ks)=some Ks->(∀ e,e∈Ks->e∈Hs)->(∀ e,e∈Hs->look hp e.1=some e.2)->gM (Hs++hp') (bU Ks)=some Ks
 | [],_,_,_=>rfl
 | (o,x)::Ks,h,hs,hh=>by
  simp only[bU,gM]at h ⊢;split at h
  ·rename_i y r hy hr;injection h with h;injection h with h1 h2;injection h1 with h3 h4;subst h4; subst h2;rw[oD hr (fun e he=>hs e (bI _ he)) hh];have hl:∀ {l:Hp},(∀ e,e∈l->look hp e.1=some e.2)->(o,y)∈l->look (l++hp') o=some y:=by
    intro l
    induction l with
    | nil=>intro _ h; cases h
    | cons e l ih=>
     intro hl hm;obtain⟨k,z⟩:=e;simp only[wR,look];split
     ·rename_i hb;have hb:=aZ hb;subst hb;have:=hl _ (bT ..);simp only at this;rw[hy]at this;exact this.symm
     ·rename_i hb;rcases aL.1 hm with he | hm
      ·cases he; rw[iD]at hb; cases hb
      ·exact ih (fun e he=>hl e (bI _ he)) hm
   rw[hl hh (hs _ (bT ..))]
  ·cases h
structure LOp where
 val:Option PV
 md:Option (Nat×aN×Option Nat)
 fs:List (Nat->Bool)
instance:Inhabited LOp:=⟨⟨none,none,[]⟩⟩
theorem wZ{l r:List (Nat×α)}{x:α}(h:look l t=some x):look (l++r) t=some x:=by
 induction l with
 | nil=>simp[look]at h
 | cons e l ih=>
  obtain⟨k,u⟩:=e;simp only[wR];unfold look at h ⊢;split
  ·rename_i hk; rw[hk]at h; exact h
  ·rename_i hk; rw[hk]at h; exact ih h
theorem nY{st:St}(h:ev st x=some p):ev ⟨st.fr++fr,hp⟩ x=some p:=by
 cases x with
 | tmp t=>exact wZ h
 | const v=>exact h
 | func f=>exact h
 | global _=>simp[ev]at h
theorem gW{st:St}{fr:Fr}{hp:Hp}:∀ {l:List Operand} {ps:List PV},eP st l=some ps->eP ⟨st.fr++fr,hp⟩ l=some ps
 | [],ps,h=>h
 | x::l,ps,h=>by
  simp only[eP]at h ⊢;split at h
  ·rename_i p q hp' hq;cases h;rw[nY hp',gW hq]
  ·cases h
theorem pB{st:St}{fr:Fr}{hp:Hp}:∀ {l:List (Nat×Operand)} {ps:List (Nat×PV)},dR st l=some ps->dR ⟨st.fr++fr,hp⟩ l=some ps
 | [],ps,h=>h
 | (i,x)::l,ps,h=>by
  simp only[dR]at h ⊢;split at h
  ·rename_i p q hp' hq;cases h;rw[nY hp',pB hq]
  ·cases h
theorem iA{st:St}{ops:List Oper}{o:Oper}{b:Bool}(h:aU ops o st=some b):aU ops o ⟨st.fr++fr,hp⟩=some b:=by
 unfold aU at h ⊢;cases hg:o.guard with
 | none=>rw[hg]at h; exact h
 | some g=>
  obtain⟨j,want⟩:=g;rw[hg]at h;simp only at h ⊢;cases hj:ops[j]? with
  | none=>rw[hj]at h; cases h
  | some oj=>
   rw[hj]at h;simp only at h ⊢;cases hd:oj.dst with
   | none=>rw[hd]at h; cases h
   | some d=>
    rw[hd]at h;simp only at h ⊢;cases hl:look st.fr d with
    | none=>rw[hl]at h; simp at h
    | some p=>rw[wZ hl]; rw[hl]at h; exact h
abbrev Eff:=Option PV×Option (Nat×aN×Option Nat)×List Prop×(List PV×Option Hp)×List (Nat->Bool)
def noA:List PV×Option Hp:=([],some [])
def Gf(ops:List Oper):Operand->Option Nat
 | .tmp t=>match ops.find? (fun o=>match o.dst with | some d=>Nat.beq d t | none=>false) with
  | some o=>match o.op with | .buildSlice _ len _=>some len | _=>none
  | none=>none
 | _=>none
def qD(ops:List Oper)(x:Operand)(m s:Nat)(f:Nat->List T):Bool×List (Nat->Bool):=match Gf ops x with
 | some n=>(Nat.beq n m&&(List.range n).all fun i=>fA s (f i),[])
 | none=>(true,[fun i=>fA s (f i)])
def Gr(I:Inf)(ops:List Oper)(st:St)(args:List Operand)(ats:List Nat)(d:Nat):Option Eff:=
 match args,ats with
 | [s,x],[t,t']=>match Nat.beq t t',I.ti t,ev st s,ev st x with
  | true,some i,some p,some q=>match i.und,mT st q with
   | .sl e,some (m,f2,none)=>match I.ti e with
    | some j=>match Nat.ble 1 j.size&&(Nat.ble 1 j.bytes&&(Nat.beq j.zero.length j.size&&(qD ops x m j.size f2).1)),Nat.blt d I.nt,jN d I.N with
     | true,true,true=>match p with
      | .nil=>some (some (.own d),some (d,.arr e j.size m f2,none),[(0+m)*j.bytes<=140737488355328],noA,(qD ops x m j.size f2).2)
      | .own o=>match look st.hp o with
       | some (.arr e' s' n f1)=>match Nat.beq e e'&&Nat.beq s' j.size with
        | true=>match Gf ops s with
         | some 0=>match Nat.beq n 0 with
          | true=>some (some (.own d),some (d,.arr e j.size m f2,some o),[(0+m)*j.bytes<=140737488355328],noA,(qD ops x m j.size f2).2)
          | false=>none
         | _=>some (some (.own d),some (d,.arr e j.size (n+m) (kX n f1 f2),some o),[(n+m)*j.bytes<=140737488355328],noA,(qD ops x m j.size f2).2)
        | false=>none
       | _=>none
      | _=>none
     | _,_,_=>none
    | none=>none
   | _,_=>none
  | _,_,_,_=>none
 | _,_=>none
def wK(I:Inf)(ops:List Oper)(ca:Option (Nat×List PV×PV×Hp×Option (Nat×aN)))(o:Oper)(st:St):Option Eff:=
 match aU ops o st with
 | none=>none
 | some false=>match o.dst with
  | some d=>match Nat.blt d I.nt with | true=>some (some (.tup []),none,[],noA,[]) | false=>none
  | none=>some (none,none,[],noA,[])
 | some true=>match ca with
  | some (k,_,r,Hs,ch)=>match o.op,o.dst with
   | .call c,some d=>match c.callee with
    | .value f=>match ev st f,eP st c.args.toList,Nat.blt d I.nt with
     | some (.fn (.func k') nf caps),some as,true=>match Nat.beq k' k,Nat.blt k cN,(match xH r with | some q=>Nat.beq q d&&jN d I.N | none=>true) with
      | true,true,true=>some (some r,mdC ch,[],(caps.take nf++as++caps.drop nf,gM st.hp (bU Hs)),[])
      | _,_,_=>none
     | _,_,_=>none
    | _=>none
   | .lookup t x kx false,some d=>match ev st x,ev st kx,Nat.blt d I.nt,Nat.beq k (lkN+t) with
    | some (.map ob),some (.t kp),true,true=>some (some r,none,[],([.map ob,.t kp],gM st.hp (bU Hs)),[])
    | _,_,_,_=>none
   | _,_=>none
  | none=>match o.op,o.dst with
   | .alloc e,some d=>match I.ti e,Nat.blt d I.nt,jN d I.N with
    | some i,true,true=>some (some (.ptr d 0),some (d,.box i.zero,none),[],noA,[])
    | _,_,_=>none
   | .store t a x,none=>match I.ti t,ev st a,ev st x with
    | some i,some (.ptr b off),some q=>match look st.hp b with
     | some (.box l)=>match Nat.beq q.cells.length i.size,Nat.ble (off+i.size) l.length,q.cells.all PV.one with
      | true,true,true=>some (none,some (b,.box (l.take off++q.cells++l.drop (off+i.size)),none),[],noA,[])
      | _,_,_=>none
     | _=>none
    | some i,some (.aptr b s k off),some q=>match look st.hp b,pL q.cells with
     | some (.arr e s' n f),some c=>match Nat.beq s' s,Nat.beq c.length i.size,Nat.ble (off+i.size) s,q.cells.all PV.one with
      | true,true,true,true=>some (none,some (b,.arr e s' n (kI f k (Lu s' (f k) off c)),none),[k<n],noA,[])
      | _,_,_,_=>none
     | some (.arm e s' n f ov),_=>match Nat.beq s' s,Nat.beq i.size 1,Nat.ble (off+1) s,q.one,uX ov f k off q with
      | true,true,true,true,some (f',ov')=>some (none,some (b,.arm e s' n f' ov',none),[k<n],noA,[])
      | _,_,_,_,_=>none
     | _,_=>none
    | _,_,_=>none
   | .buildSlice t 0 ⟨[]⟩,some d=>match I.ti t with
    | some i=>match i.und with
     | .sl e=>match I.ti e with
      | some j=>match Nat.ble 1 j.size,Nat.beq j.zero.length j.size,Nat.blt d I.nt,jN d I.N with
       | true,true,true,true=>some (some (.own d),some (d,.arr e j.size 0 (eT [] j.size),none),[],noA,[])
       | _,_,_,_=>none
      | none=>none
     | _=>none
    | none=>none
   | .buildSlice t len parts,some d=>match I.ti t,dR st parts.toList with
    | some i,some ps=>match i.und with
     | .sl e=>match I.ti e with
      | some j=>match Nat.ble (len*j.size) 16777216,Nat.ble 1 j.size,Nat.beq j.zero.length j.size,iL (fun i=>some (i*j.size,j.size)) (cQ j (len*j.size)) ps with
       | true,true,true,some c=>match pL c,Nat.beq c.length (len*j.size),Nat.blt d I.nt with
        | some ts,true,true=>some (some (.t (.sl len (eT ts j.size))),none,[],noA,[])
        | _,_,_=>none
       | _,_,_,_=>none
      | none=>none
     | _=>none
    | _,_=>none
   | .box ..,_=>none
   | .buildSlice ..,_=>none
   | .makeMap ..,_=>none
   | .mapUpdate ..,_=>none
   | .store ..,_=>none
   | .call { callee:=.builtin .append,args:=args,argTypes:=ats },some d=>Gr I ops st args.toList ats.toList d
   | op,some d=>match pev I st op,Nat.blt d I.nt with
    | some (x,C),true=>some (some x,none,iV (isC st op) C,noA,[])
    | _,_=>none
   | _,none=>none
def fE(o:Oper):Option Nat:=match o.op,o.dst with
 | .alloc _,some d=>some d
 | .buildSlice _ 0 ⟨[]⟩,some d=>some d
 | .call { callee:=.builtin .append,.. },some d=>some d
 | .call { callee:=.value _,.. },some d=>some d
 | _,_=>none
def Pk(I:Inf)(ops:List Oper)(o:Oper)(st:St)(r:PV)(x:Option Eff):Option Eff:=match fE o,o.dst,x,aU ops o st with
 | some d,some d1,some (some (.own d2),some (d3,.arr e s n f,k),C,_,fs),some true=>match Nat.beq d1 d,Nat.beq d2 d,Nat.beq d3 d,jN d I.N with
  | true,true,true,true=>some (some r,some (d,.arr e s 0 f,k),C,([.t (.sl n f)],some []),fs)
  | _,_,_,_=>none
 | _,_,_,_=>none
def Jp(I:Inf)(ops:List Oper)(ca:Option (Nat×List PV×PV×Hp×Option (Nat×aN)))(o:Oper)(st:St):Option Eff:=
 match ca with
 | some (k,a,r,Hs,ch)=>match Nat.beq k fzN with
  | true=>Pk I ops o st r (wK I ops none o st)
  | false=>wK I ops (some (k,a,r,Hs,ch)) o st
 | none=>wK I ops none o st
def wH:Option Nat->Hp->Hp
 | some k,l=>del k l
 | none,l=>l
def iX(S:St)(d:Option Nat)(v:Option PV)(md:Option (Nat×aN×Option Nat)):St:=
 ⟨match d,v with | some d,some x=>(d,x)::del d S.fr | _,_=>S.fr,match md with | some (o,c,k)=>(o,c)::del o (wH k S.hp) | none=>S.hp⟩
section
variable {P:Program} {E:Env} {I:Inf} {Q:dQ}
theorem rU{d:Nat}:∀ {l:Hp},(∀ e,e∈l->Nat.beq e.1 d=false/\e.2.mentions d=false)->wD d l=some l
 | [],_=>rfl
 | (k,x)::l,h=>by
  have h1:=h _ (bT ..);have hx:x.er d=some x:=by
   cases x with
   | box c=>
    have hc:∀ (c:List PV),(∀ k,k∈PV.names.go c->k≠d)->jT d c=some c:=by
     intro c
     induction c with
     | nil=>intro _; rfl
     | cons y c ih=>
      intro hh;have hy:y.mentions d=false:=by unfold PV.mentions;rw[wB];intro k hk hb;exact hh k (by simp[PV.names.go,hk]) (aZ hb)
      have:=ih fun k hk=>hh k (by simp[PV.names.go,hk]);simp only[jT,PV.er,hy,this]
    simp only[aN.er];rw[hc c (fun k hk=>aN.not_mentions h1.2 k (by simpa[aN.names] using hk))]
   | arr=>rfl
   | mpb=>rfl
   | bld=>rfl
   | arm e s n f ov=>
    have hn:=aN.not_mentions h1.2;have e1:wC d ov=ov:=by
     rcases ov with _ | ⟨i,j,p⟩
     ·rfl
     ·have hp:p.mentions d=false:=by unfold PV.mentions;rw[wB];intro k hk hb;exact hn k (by simp[aN.names,ovN,hk]) (aZ hb)
      simp only[wC,hp]
    simp only[aN.er,e1]
   | mp it m ho=>
    have hn:=aN.not_mentions h1.2;have e1:xK d it=it:=by
     cases it with
     | none=>rfl
     | some i=>
      have:=hn i.o (by simp[aN.names,itN]);simp only[xK];split
      ·rename_i hb; exact absurd (aZ hb) this
      ·rfl
    have e2:uK d ho=ho:=by
     rcases ho with _ | ⟨k',_ | p⟩
     ·rfl
     ·rfl
     ·have hp:p.mentions d=false:=by unfold PV.mentions;rw[wB];intro k hk hb;exact hn k (by simp[aN.names,hoN,hk]) (aZ hb)
      simp only[uK,hp]
    simp only[aN.er,e1,e2]
  simp only[wD,h1.1,hx,rU fun e he=>h e (bI _ he)]
theorem hU{d:Nat}{S:St}(h1:∀ e,e∈S.fr->e.2.mentions d=false)(h2:∀ e,e∈S.hp->Nat.beq e.1 d=false/\e.2.mentions d=false):S.erase d=some S:=by
 unfold St.erase;rw[rU h2];have:S.fr.filter (fun e=>!(e.2.mentions d))=S.fr:=List.filter_eq_self.2 fun e he=>by simp[h1 e he]
 simp[this]
theorem bA.sub{F:Nat->Prop}{g:Nat->Value}{st st':St}{a:Act}{w:World}(r:bA E F g st a w)(hf:∀ e,e∈st'.fr->e∈st.fr)(hh:∀ e,e∈st'.hp->e∈st.hp):bA E F g st' a w:=
 ⟨r.nt,r.df,fun t x hx=>r.fr t x (hf _ hx),⟨r.w.hp.sub hh,r.w.f0,r.w.f1,r.w.ext,r.w.names,r.w.b0⟩⟩
theorem tU{l:List Nat}{d:Nat}(h:∀ k,k∈l->k≠d):kO l [d]=true:=by
 unfold kO;rw[cU];intro k hk;cases hb:inN k [d] with
 | false=>rfl
 | true=>exact absurd (bX.1 (bS.1 hb)) (h k hk)
theorem oW(h:p.pure=true):xH p=none:=by cases p <;> first | rfl | (simp[PV.pure,PV.names]at h)
theorem sC{l:List (Nat×α)}{x:Nat×α}(h:x∈del o l):x∈l:=by obtain⟨k,y⟩:=x;exact(aJ.1 h).1
theorem Hm{k:Option Nat}{l:Hp}{x:Nat×aN}(h:x∈del o (wH k l)):x∈l:=by
 have h1:=sC h;cases k with
 | none=>exact h1
 | some k=>exact sC h1
theorem Rel.fzRow{d:Nat}{f:Nat->List T}(hN:I.N=E.N)(hd:jN d I.N=true)(h1:∀ x,x∈fr->x.2.mentions d=false)(h2:∀ x,x∈hp->Nat.beq x.1 d=false/\x.2.mentions d=false){a:Act}{w:World}
  (r:Rel E ⟨(d,.own d)::fr,(d,.arr e s n f)::hp⟩ a w):Rel E ⟨(d,.t (.sl n f))::fr,(d,.arr e s 0 f)::hp⟩ a w:=by
 obtain⟨F,g,r⟩:=r;have hob:=r.w.hp.obj d (.arr e s n f) bT;have hrd:Rd (fun b=>F b\/blk (g d)=some b) w (.sl n f) (g d):=rX hob (fun b hb=>.inl hb) (fun b hb=>.inr hb) rfl;have hne:∀ x,x∈hp->x.1≠d:=fun x hx e=>by have:=(h2 x hx).1; rw[e,iD]at this; cases this
 have hfoot:∀ k y b,(k,y)∈hp->aK (upd g d (.slice none 0 0)) w k y b->aK g w k y b:=fun k y b hy hb=>
  hb.mono (aQ g _ (hne _ hy)) (fun q hq=>aQ g _ (aN.not_mentions (h2 _ hy).2 q hq)) (fun _ _=>rfl)
 have hno:∀ b,¬ aK (upd g d (.slice none 0 0)) w d (.arr e s 0 f) b:=fun b hb=>by have hb:=hb.toBlk rfl; rw[aP]at hb; simp[blk]at hb
 refine⟨fun b=>F b\/blk (g d)=some b,upd g d (.slice none 0 0),r.nt,r.df,fun t x hx=>?_,⟨⟨fun k y hy=>?_,fun k y b hy hb=>?_,fun k y k' y' b hy hy' hkk hb hb'=>?_⟩,fun b hb=>.inl (r.w.f0 b hb),fun b hb=>?_,r.w.ext,fun k hk=>?_,r.w.b0⟩⟩
 ·rcases aL.1 hx with hx | hx
  ·cases hx;have:=r.fr d (.own d) bT;generalize a.tmps.getD d undef=u at this;have he:u=g d:=by cases this with | own hg=>exact hg.symm
   rw[he];exact .t hrd
  ·exact(r.fr t x (bI _ hx)).mono (fun b hb=>⟨.inl hb,rfl⟩) (fun q hq=>aQ g _ (PV.not_mentions (h1 _ hx) q hq))
 ·rcases aL.1 hy with hy | hy
  ·cases hy; exact .inl ⟨aP ..,rfl⟩
  ·exact(r.w.hp.obj k y (bI _ hy)).mono (fun b hb=>⟨.inl hb,rfl⟩) (aQ g _ (hne _ hy)) (fun q hq=>aQ g _ (aN.not_mentions (h2 _ hy).2 q hq)) (fun _ _=>rfl)
 ·rcases aL.1 hy with hy | hy
  ·cases hy; exact absurd hb (hno b)
  ·have hb:=hfoot k y b hy hb;have:=r.w.hp.own k y b (bI _ hy) hb;refine⟨?_,this.2⟩;rintro (h | h)
   ·exact this.1 h
   ·exact r.w.hp.sep k y d _ b (bI _ hy) bT (hne _ hy) hb (.self h)
 ·rcases aL.1 hy with hy | hy
  ·cases hy; exact absurd hb (hno b)
  ·rcases aL.1 hy' with hy' | hy'
   ·cases hy'; exact absurd hb' (hno b)
   ·exact r.w.hp.sep k y k' y' b (bI _ hy) (bI _ hy') hkk (hfoot k y b hy hb) (hfoot k' y' b hy' hb')
 ·rcases hb with hb | hb
  ·exact r.w.f1 b hb
  ·have:=(r.w.hp.own d _ b bT (.self hb)).2;exact⟨hob.block hb,this.elim (fun h=>.inr (.inl h)) (fun h=>.inr (.inr h))⟩
 ·rw[aQ g _ (fun e:k=d=>cI hd (hN▸e▸hk))];exact r.w.names k hk
theorem uO(hG:cZ P E I){ops:List Oper}{o:Oper}{S st:St}{ca:Option (Nat×List PV×PV×Hp×Option (Nat×aN))}(hca:∀ k args r Hs ch,ca=some (k,args,r,Hs,ch)->pR P k args r Hs ch)(hfr:∀ e,e∈st.fr->e∈S.fr)
  (hhp:∀ e,e∈st.hp->e∈S.hp){v:Option PV}{md:Option (Nat×aN×Option Nat)}{Cs:List Prop}{as:List PV×Option Hp}(huq:∀ k x y,(k,x)∈S.hp->(k,y)∈S.hp->x=y)(h:wK I ops ca o st=some (v,md,Cs,as,fs))(hC:All Cs)(hfs:∀ f,f∈fs->∀ i,f i=true)
  (has:∀ k args r Hs ch,ca=some (k,args,r,Hs,ch)->aU ops o st=some true->as=(args,some Hs))(hclean:∀ d,fE o=some d->(∀ e,e∈S.fr->e.2.mentions d=false)/\∀ e,e∈S.hp->Nat.beq e.1 d=false/\e.2.mentions d=false){a:Act}{w:World}(r:Rel E S a w)
  {K:Act->World->Prop}(hk:∀ a' w',Rel E (iX S o.dst v md) a' w'->K a' w'):
  if Region.wanted o (yielded ops.toArray a.tmps) then o.wp P a w K Q' else K (a.put o.dst undef) w:=by
 obtain⟨F,g,r⟩:=r;have ri:=r.sub hfr hhp;unfold wK at h;split at h
 ·cases h
 ·
  rename_i hw;rw[aT (by rw[dM (ops:=ops.toArray) ri (by simpa using hw)]; simp)];split at h
  ·rename_i d hd;split at h
   ·rename_i hlt;cases h;refine hk _ _ ?_;rw[hd];exact⟨F,g,r.put (by rw[hG.nt]; simpa[cB] using hlt) (.tup rfl (fun j x v hx=>by simp at hx))⟩
   ·cases h
  ·rename_i hd;cases h;refine hk _ _ ?_;rw[hd];exact⟨F,g,r⟩
 ·rename_i hw;have hwt:=dM (ops:=ops.toArray) ri (by simpa using hw);split at h
  ·
   rename_i k args res Hs ch;have hok:=hca _ _ _ _ _ rfl;have has':=has _ _ _ _ _ rfl hw;split at h
   ·rename_i c d hop hd;split at h
    ·rename_i f hcal;split at h
     ·rename_i k' nf caps as' hf hargs hnt;split at h
      ·rename_i hkk hkl hno;have hkk:=aZ hkk;subst hkk;cases h;injection has' with has1 has2;subst has1;cases hok with
       | look hk' _=>exact(Aa hkl hk').elim
       | @new _ d' e s n f hr hH hch hcc bps hb1 hb2=>
        subst hr hH hch;simp only[xH,bJ]at hno;obtain⟨hno1,hno2⟩:=hno;have hno1:=aZ hno1;subst hno1;obtain⟨hcl1,hcl2⟩:=hclean _ (by unfold fE; rw[hop,hd]; obtain⟨cc,ca,ct⟩:=c; simp only at hcal; subst hcal; rfl);have r2:Rel E ⟨st.fr++S.fr,S.hp⟩ a w:=⟨F,g,r.sub (fun e he=>by
         rcases dT.1 he with he | he
         ·exact hfr e he
         ·exact he) (fun e he=>he)⟩
        refine nD hG [] [] [d'] (bps:=bps) hop hcal hd (iA hw) hnt (nY hf) (gW hargs) hcc (hb1 _) rfl ?_ hb2 r2 (fun r' H' hr=>?_)
        ·simp only[jU,kD,bJ,cU];refine⟨⟨fun e he=>?_,fun e he=>?_⟩,?_⟩
         ·have:=hcl1 e (by rcases dT.1 he with he | he
                           ·exact hfr e he
                           ·exact he)
          exact tU (PV.not_mentions this)
         ·obtain⟨h1,h2⟩:=hcl2 e (mC.1 he).1;refine⟨?_,tU (aN.not_mentions h2)⟩;rw[gC];cases hb:inN e.1 [d'] with
          | false=>rfl
          | true=>rw[bX.1 (bS.1 hb),iD]at h1; cases h1
         ·exact tU fun k hk e=>cI hno2 (e▸hk)
        ·unfold mB at hr;obtain⟨rfl,rfl⟩:=hr;refine⟨by simp[jX,Au,PV.names,aN.names,inN],fun a' w' r'=>hk a' w' ?_⟩;refine r'.sub (fun e he=>?_) (fun e he=>?_)
         ·simp only[iX,hd]at he;simp only[St.put];rcases aL.1 he with rfl | he
          ·exact bT ..
          ·refine bI _ ?_;obtain⟨k,y⟩:=e;obtain⟨h1,h2⟩:=aJ.1 he;exact aJ.2 ⟨gV _ h1,h2⟩
         ·simp only[iX,mdC,wH]at he;simp only[St.put,dT];rcases aL.1 he with rfl | he
          ·exact .inl (bX.2 rfl)
          ·obtain⟨k,y⟩:=e;obtain⟨h1,h2⟩:=aJ.1 he;exact .inr (mC.2 ⟨h1,by simp[inN]⟩)
       | @newH _ d' y hr hch hcc bps N hb1 hb2 hb3=>
        subst hr hch;simp only[xH,bJ]at hno;obtain⟨hno1,hno2⟩:=hno;have hno1:=aZ hno1;subst hno1;obtain⟨hcl1,hcl2⟩:=hclean _ (by unfold fE; rw[hop,hd]; obtain⟨cc,ca,ct⟩:=c; simp only at hcal; subst hcal; rfl);have hin:∀ e,e∈Hs->e∈st.hp:=fun e he=>(jB has2 e he).1;have r2:Rel E ⟨st.fr++S.fr,Hs++S.hp⟩ a w:=⟨F,g,r.sub (fun e he=>by
         rcases dT.1 he with he | he
         ·exact hfr e he
         ·exact he) (fun e he=>by
         rcases dT.1 he with he | he
         ·exact hhp e (hin e he)
         ·exact he)⟩
        have hlk:∀ e,e∈Hs->look st.hp e.1=some e.2:=by
         intro e he;have hm:=hin e he;obtain⟨x,hx⟩:∃ x,look st.hp e.1=some x:=by
          cases hl:look st.hp e.1 with
          | some x=>exact⟨x,rfl⟩
          | none=>exact absurd hm (tJ hl e.2)
         rw[hx,huq e.1 x e.2 (hhp _ (aE hx)) (hhp _ hm)]
        refine nD hG (bU Hs) N [d'] (bps:=bps) hop hcal hd (iA hw) hnt (nY hf) (gW hargs) hcc (hb1 _) (oD has2 (fun e he=>he) hlk) ?_ hb2 r2 (fun r' H' hr=>?_)
        ·simp only[jU,bJ,cU];refine⟨⟨fun e he=>?_,fun e he=>?_⟩,?_⟩
         ·have:=hcl1 e (by rcases dT.1 he with he | he
                           ·exact hfr e he
                           ·exact he)
          exact tU (PV.not_mentions this)
         ·have he2:e∈S.hp:=by
           rcases dT.1 (dV he).1 with h | h
           ·exact hhp _ (hin _ h)
           ·exact h
          obtain⟨h1,h2⟩:=hcl2 e he2;refine⟨?_,tU (aN.not_mentions h2)⟩;rw[gC];cases hb:inN e.1 [d'] with
          | false=>rfl
          | true=>rw[bX.1 (bS.1 hb),iD]at h1; cases h1
         ·exact tU fun k hk e=>cI hno2 (e▸hk)
        ·unfold mB at hr;obtain⟨rfl,rfl⟩:=hr;refine⟨hb3,fun a' w' r'=>hk a' w' ?_⟩;refine r'.sub (fun e he=>?_) (fun e he=>?_)
         ·simp only[iX,hd]at he;simp only[St.put];rcases aL.1 he with rfl | he
          ·exact bT ..
          ·refine bI _ ?_;obtain⟨k,y⟩:=e;obtain⟨h1,h2⟩:=aJ.1 he;exact aJ.2 ⟨gV _ h1,h2⟩
         ·simp only[iX,mdC,wH]at he;simp only[St.put,dT];rcases aL.1 he with rfl | he
          ·exact .inl (bT ..)
          ·obtain⟨k,y⟩:=e;obtain⟨h1,h2⟩:=aJ.1 he;by_cases hke:k∈bU Hs
           ·obtain⟨z,hz⟩:=gF.1 hke;have:=huq k z y (hhp _ (hin _ hz)) h1;subst this;exact .inl (bI _ hz)
           ·refine .inr (mC.2 ⟨gV _ h1,?_⟩);cases hb:inN k (bU Hs) with
            | false=>rfl
            | true=>exact absurd (bS.1 hb) hke
       | call _ _ hok=>
       rcases hok.h with⟨-,hch,bps,hb1,hb2⟩ | ⟨bps,N,hb1,hb2,hb3,hb4⟩
       ·have r2:Rel E ⟨st.fr++S.fr,S.hp⟩ a w:=⟨F,g,r.sub (fun e he=>by
         rcases dT.1 he with he | he
         ·exact hfr e he
         ·exact he) (fun e he=>he)⟩
        refine Bj hG [] (bps:=bps) hop hcal hd (iA hw) hnt (nY hf) (gW hargs) hok.c (hb1 _) hb2 r2 (fun r' H' hr=>?_);unfold Ret at hr;subst hr;refine⟨hok.p,fun a' w' r'=>hk a' w' ?_⟩;subst hch;refine r'.sub (fun e he=>?_) (fun e he=>he);simp only[iX,hd]at he;simp only[St.put];rcases aL.1 he with rfl | he
        ·exact bT ..
        ·refine bI _ ?_;obtain⟨k,y⟩:=e;obtain⟨h1,h2⟩:=aJ.1 he;exact aJ.2 ⟨gV _ h1,h2⟩
       ·have hin:∀ e,e∈Hs->e∈st.hp:=fun e he=>(jB has2 e he).1;have r2:Rel E ⟨st.fr++S.fr,Hs++S.hp⟩ a w:=⟨F,g,r.sub (fun e he=>by
         rcases dT.1 he with he | he
         ·exact hfr e he
         ·exact he) (fun e he=>by
         rcases dT.1 he with he | he
         ·exact hhp e (hin e he)
         ·exact he)⟩
        have hlk:∀ e,e∈Hs->look st.hp e.1=some e.2:=by
         intro e he;have hm:=hin e he;obtain⟨x,hx⟩:∃ x,look st.hp e.1=some x:=by
          cases hl:look st.hp e.1 with
          | some x=>exact⟨x,rfl⟩
          | none=>exact absurd hm (tJ hl e.2)
         rw[hx,huq e.1 x e.2 (hhp _ (aE hx)) (hhp _ hm)]
        refine nD hG (bU Hs) N [] (bps:=bps) hop hcal hd (iA hw) hnt (nY hf) (gW hargs) hok.c (hb1 _) (oD has2 (fun e he=>he) hlk) (by simp[jU,kO,inN]) hb2 r2 (fun r' H' hr=>?_);unfold mB at hr;obtain⟨rfl,rfl⟩:=hr;refine⟨by simpa using hb3,fun a' w' r'=>hk a' w' ?_⟩;refine r'.sub (fun e he=>?_) (fun e he=>?_)
        ·simp only[iX,hd]at he;simp only[St.put];rcases aL.1 he with rfl | he
         ·exact bT ..
         ·refine bI _ ?_;obtain⟨k,y⟩:=e;obtain⟨h1,h2⟩:=aJ.1 he;exact aJ.2 ⟨gV _ h1,h2⟩
        ·simp only[St.put,dT];cases hch:ch with
         | none=>
          rw[hch]at he;simp only[iX,mdC]at he;by_cases hke:e.1∈bU Hs
          ·obtain⟨x,hx⟩:=gF.1 hke;have:=huq e.1 x e.2 (hhp _ (hin _ hx)) he;subst this;exact .inl hx
          ·refine .inr (mC.2 ⟨gV _ he,?_⟩);cases hb:inN e.1 (bU Hs) with
           | false=>rfl
           | true=>exact absurd (bS.1 hb) hke
         | some c=>
          have hk1:=hb4 c hch;rw[hch]at he;obtain⟨o',x'⟩:=c;simp only[iX,mdC,wH]at he;rcases aL.1 he with rfl | he
          ·obtain⟨z,hz⟩:=gF.1 hk1;refine .inl (cE.2 ⟨_,hz,?_⟩);simp only[iD]
          ·obtain⟨k,y⟩:=e;obtain⟨h1,h2⟩:=aJ.1 he;by_cases hke:k∈bU Hs
           ·obtain⟨z,hz⟩:=gF.1 hke;have:=huq k z y (hhp _ (hin _ hz)) h1;subst this;refine .inl (cE.2 ⟨_,hz,?_⟩);have hb:Nat.beq k o'=false:=by
             cases hb:Nat.beq k o' with
             | false=>rfl
             | true=>exact absurd (aZ hb) h2
            simp only[hb]
           ·refine .inr (mC.2 ⟨gV _ h1,?_⟩);cases hb:inN k (bU Hs) with
            | false=>rfl
            | true=>exact absurd (bS.1 hb) hke
      ·cases h
     ·cases h
    ·cases h
   ·
    rename_i t x kx d hop hd;split at h
    ·rename_i ob kp hx hkx hnt hkt;have hkt:=aZ hkt;subst hkt;have hl:=hok.l (by cases hb:Nat.blt (lkN+t) lkN with | false=>rfl | true=>rw[cB]at hb; omega)
     rw[Nat.add_sub_cancel_left]at hl;cases h;injection has' with has1 has2;obtain⟨z,h1,h2⟩:=hl F g w _ _ _ _ has1.symm (aR ri hx) (aR ri hkx) (fun e he=>r.w.hp.obj _ _ (hhp _ (jB has2 e he).1));rw[aH hwt];unfold Oper.wp;have hex:(execOp a.eval o).run P w = .ok (.value z) w:=by unfold execOp; simp[hop,h1]
     rw[hex];refine hk _ _ ?_;rw[hd];exact⟨F,g,r.put (by rw[hG.nt]; simpa[cB] using hnt) h2⟩
    ·cases h
   ·cases h
  ·split at h
   ·
    rename_i e d hop hd;split at h
    ·rename_i i hi hnt hN;cases h;have he:S.erase d=some S:=hU (hclean d (by unfold fE; rw[hop,hd])).1 (hclean d (by unfold fE; rw[hop,hd])).2;obtain⟨v,w',h1,h2⟩:=wA hG.ti hG.N hG.nt r hi (st':=_) (by unfold cX; rw[hnt,hN,he]);rw[aH hwt];unfold Oper.wp;have hex:(execOp a.eval o).run P w = .ok (.value v) w':=by unfold execOp; simp[hop,h1]
     rw[hex];simp only[Oper.upon];refine hk _ _ ?_;rw[hd];refine h2.sub (fun e he=>he) (fun e he=>?_);simp only[iX]at he;rcases aL.1 he with rfl | he
     ·exact bT ..
     ·exact bI _ (aJ.1 he).1
    ·cases h
   ·
    rename_i t x y hop hd;split at h
    ·rename_i i b off q hi hx hy;split at h
     ·rename_i l hl;split at h
      ·rename_i c1 c2 c3;cases h;have hmem:(b,aN.box l)∈S.hp:=hhp _ (aE hl);have r1:bA E F g ⟨S.fr,(b,.box l)::S.hp⟩ a w:=r.sub (fun e he=>he) (fun e he=>by
        rcases aL.1 he with rfl | he
        ·exact hmem
        ·exact he)
       obtain⟨-,w',h1,h2⟩:=lY (P:=P) r1 (hG.ti _ _ hi) (d:=none) (p:=.ptr b off) (x:=q) (C:=True)
        (by unfold mM; simp only[look,iD,c1,c2,c3]; rfl) trivial (aR ri hx) (aR ri hy)
       rw[aH hwt];unfold Oper.wp;have hex:(execOp a.eval o).run P w = .ok .skip w':=by unfold execOp; simp[hop,h1]
       rw[hex];simp only[Oper.upon];refine hk _ _ ?_;rw[hd];refine⟨F,g,h2.sub (fun e he=>he) (fun e he=>?_)⟩;simp only[iX]at he;rcases aL.1 he with rfl | he
       ·exact bT ..
       ·refine bI _ ?_;obtain⟨k,y⟩:=e;obtain⟨h3,h4⟩:=aJ.1 he;exact aJ.2 ⟨bI _ h3,h4⟩
      ·cases h
     ·cases h
    ·rename_i i b ss kk off q hi hx hy;split at h
     ·rename_i e s' n f c hl hc;split at h
      ·rename_i c1 c2 c3 c4;cases h;have hmem:(b,aN.arr e s' n f)∈S.hp:=hhp _ (aE hl);have r1:bA E F g ⟨S.fr,(b,.arr e s' n f)::S.hp⟩ a w:=r.sub (fun e he=>he) (fun e he=>by
        rcases aL.1 he with rfl | he
        ·exact hmem
        ·exact he)
       obtain⟨-,w',h1,h2⟩:=lY (P:=P) r1 (hG.ti _ _ hi) (d:=none) (p:=.aptr b ss kk off) (x:=q) (C:=kk<n)
        (by unfold mM; simp only[look,iD,hc,c1,c2,c3,c4]; rfl) hC (aR ri hx) (aR ri hy)
       rw[aH hwt];unfold Oper.wp;have hex:(execOp a.eval o).run P w = .ok .skip w':=by unfold execOp; simp[hop,h1]
       rw[hex];simp only[Oper.upon];refine hk _ _ ?_;rw[hd];refine⟨F,g,h2.sub (fun e he=>he) (fun e he=>?_)⟩;simp only[iX]at he;rcases aL.1 he with rfl | he
       ·exact bT ..
       ·refine bI _ ?_;obtain⟨k,y⟩:=e;obtain⟨h3,h4⟩:=aJ.1 he;exact aJ.2 ⟨bI _ h3,h4⟩
      ·cases h
     ·rename_i e s' n f ov hl;split at h
      ·rename_i f' ov' c1 c2 c3 c4 c5;cases h;have hmem:(b,aN.arm e s' n f ov)∈S.hp:=hhp _ (aE hl);have r1:bA E F g ⟨S.fr,(b,.arm e s' n f ov)::S.hp⟩ a w:=r.sub (fun e he=>he) (fun e he=>by
        rcases aL.1 he with rfl | he
        ·exact hmem
        ·exact he)
       obtain⟨-,w',h1,h2⟩:=lY (P:=P) r1 (hG.ti _ _ hi) (d:=none) (p:=.aptr b ss kk off) (x:=q) (C:=kk<n)
        (by unfold mM; simp only[look,iD,c1,c2,c3,c4,c5]; rfl) hC (aR ri hx) (aR ri hy)
       rw[aH hwt];unfold Oper.wp;have hex:(execOp a.eval o).run P w = .ok .skip w':=by unfold execOp; simp[hop,h1]
       rw[hex];simp only[Oper.upon];refine hk _ _ ?_;rw[hd];refine⟨F,g,h2.sub (fun e he=>he) (fun e he=>?_)⟩;simp only[iX]at he;rcases aL.1 he with rfl | he
       ·exact bT ..
       ·refine bI _ ?_;obtain⟨k,y⟩:=e;obtain⟨h3,h4⟩:=aJ.1 he;exact aJ.2 ⟨bI _ h3,h4⟩
      ·cases h
     ·cases h
    ·cases h
   ·
    rename_i t d hop hd;split at h
    case h_2=>cases h
    rename_i i hi;split at h
    case h_2=>cases h
    rename_i e hu;split at h
    case h_2=>cases h
    rename_i j hj;split at h
    case h_2=>cases h
    rename_i c1 c2 c3 c4;cases h;have hte:=(hG.ti _ _ hi).und;rw[hu]at hte;obtain⟨k1,k2⟩:=hclean d (by unfold fE; rw[hop,hd]; rfl);have he:S.erase d=some S:=hU k1 k2;obtain⟨u,w',h1,h2⟩:=iW (P:=P) (d:=d) (len:=0) (parts:=#[]) (ps:=[]) (c:=[]) (ts:=[]) (st':=_) hG.N hG.nt r hte (hG.ti _ _ hj) rfl (by omega) (cP c1) (aZ c2)
     (by simp[iL,cQ]) ⟨rfl,fun j p x hp=>by simp at hp⟩ (by simp) (by unfold cX; rw[c3,c4,he])
    rw[aH hwt];unfold Oper.wp;have hex:(execOp a.eval o).run P w = .ok (.value u) w':=by simp at h1; unfold execOp; simp[hop,h1]
    rw[hex];simp only[Oper.upon];refine hk _ _ ?_;rw[hd];refine h2.sub (fun e he=>he) (fun e he=>?_);simp only[iX,wH]at he;rcases aL.1 he with rfl | he
    ·exact bT ..
    ·exact bI _ (aJ.1 he).1
   ·
    rename_i t len parts d _ hop hd;split at h
    case h_2=>cases h
    rename_i i ps hi hps;split at h
    case h_2=>cases h
    rename_i e hu;split at h
    case h_2=>cases h
    rename_i j hj;split at h
    case h_2=>cases h
    rename_i c c1 c2 c3 hc;split at h
    case h_2=>cases h
    rename_i ts hts c4 c5;cases h;have hte:=(hG.ti _ _ hi).und;rw[hu]at hte;have r2:bA E F g ⟨st.fr++S.fr,S.hp⟩ a w:=r.sub (fun e he=>by
     rcases dT.1 he with he | he
     ·exact hfr e he
     ·exact he) (fun e he=>he)
    obtain⟨u,w',F',h1,h2⟩:=kH (P:=P) (d:=d) hG.nt r2 hte (hG.ti _ _ hj) (pB hps) (cP c1) (cP c2) (aZ c3) hc (.of hts) (aZ c4) (by simpa[cB] using c5);rw[aH hwt];unfold Oper.wp;have hex:(execOp a.eval o).run P w = .ok (.value u) w':=by unfold execOp; simp[hop,h1]
    rw[hex];simp only[Oper.upon];refine hk _ _ ?_;rw[hd];refine⟨F',g,h2.sub (fun e he=>?_) (fun e he=>he)⟩;simp only[iX]at he;simp only[St.put];rcases aL.1 he with rfl | he
    ·exact bT ..
    ·refine bI _ ?_;obtain⟨k,y⟩:=e;obtain⟨h3,h4⟩:=aJ.1 he;exact aJ.2 ⟨gV _ h3,h4⟩
   all_goals try (cases h; done)
   ·
    rename_i args ats d hop hd;obtain⟨k1,k2⟩:=hclean d (by unfold fE; rw[hop,hd]);unfold Gr at h;split at h
    case h_2=>cases h
    rename_i s x t t' ha ht;have ha':args=#[s,x]:=by rw[<-iC (xs:=args),ha]
    have ht':ats=#[t,t']:=by rw[<-iC (xs:=ats),ht]
    subst ha'; subst ht';split at h
    case h_2=>cases h
    rename_i i p q c1 hi hp hq;have c1:=aZ c1;subst c1;split at h
    case h_2=>cases h
    rename_i e m f2 hu hq';have hte:=(hG.ti _ _ hi).und;rw[hu]at hte;split at h
    case h_2=>cases h
    rename_i j hj;split at h
    case h_2=>cases h
    rename_i c2 c3 c4;simp only[bJ]at c2;obtain⟨c2,c5,c6,c7⟩:=c2;have c2:=cP c2;have c5:=cP c5;have c6:=aZ c6;have src:(∀ f,f∈(qD ops x m j.size f2).2->∀ i,f i=true)->∃ news,Src F w j.size m f2 (a.eval x) news:=by
     intro hfs;refine oG ri (aR ri hq) hq' c2 rfl fun i hi=>?_;unfold qD at c7 hfs;split at c7
     ·rename_i n hn;simp only[bJ,cU,pG]at c7;exact c7.2 i (by rw[aZ c7.1]; exact hi)
     ·rename_i hn;rw[hn]at hfs;exact hfs (fun i=>fA j.size (f2 i)) (by simp) i
    have fin:∀ (pv:aN) (ko:Option Nat) (u:Value) (w':World) (S':St),(Builtin.append_ #[t,t] o.type #[a.eval s,a.eval x]).run P w = .ok u w'->Rel E S' (a.put (some d) u) w' ->
      (∀ e,e∈(d,PV.own d)::del d S.fr->e∈S'.fr)->(∀ e,e∈(d,pv)::del d (wH ko S.hp)->e∈S'.hp)->v=some (.own d)->md=some (d,pv,ko) ->
      if Region.wanted o (yielded ops.toArray a.tmps) then o.wp P a w K Q' else K (a.put o.dst undef) w:=by
     intro pv ko u w' S' h1 h2 h3 h4 hv hm;subst hv hm;rw[aH hwt];unfold Oper.wp;have hex:(execOp a.eval o).run P w = .ok (.value u) w':=by unfold execOp; simp[hop,resolve,invoke,builtin,h1]
     rw[hex];simp only[Oper.upon];refine hk _ _ ?_;rw[hd];exact h2.sub (fun e he=>h3 e he) (fun e he=>h4 e he)
    have hpv:=aR ri hp;split at h
    case h_3=>cases h
    ·
     cases h;obtain⟨news,hs⟩:=src hfs;have he:S.erase d=some S:=hU k1 k2;obtain⟨v0,hv0⟩:∃ u,a.eval s=u:=⟨_,rfl⟩;rw[hv0]at hpv;cases hpv with
     | nil=>
      obtain⟨u,w',h1,h2⟩:=iY (P:=P) hG.N hG.nt r hte (hG.ti _ _ hj) o.type c5 c6 hs (by have h:(0+m)*j.bytes<=140737488355328:=hC; simpa using h) (st':=_) (by unfold cX; rw[c3,c4,he]);refine fin _ none u w' _ (by rw[hv0]; exact h1) h2 (fun e he=>he) (fun e he=>?_) rfl rfl;rcases aL.1 he with rfl | he
      ·exact bT ..
      ·exact bI _ (aJ.1 he).1
    ·rename_i o';split at h
     case h_2=>cases h
     rename_i e' s' n f1 hl;split at h
     case h_2=>cases h
     rename_i c8;simp only[bJ]at c8;have c9:=aZ c8.1;have c10:=aZ c8.2;subst c9; subst c10;have r0:bA E F g ⟨S.fr,(o',.arr e j.size n f1)::del o' S.hp⟩ a w:=r.sub (fun e he=>he) (fun e he=>by
      rcases aL.1 he with rfl | he
      ·exact hhp _ (aE hl)
      ·exact(aJ.1 he).1)
     have less:vN o' ⟨S.fr,(o',.arr e j.size n f1)::del o' S.hp⟩ ⟨S.fr,del o' S.hp⟩:=⟨fun t y h=>h,fun t y h=>⟨y,bI _ h,(aJ.1 h).2,fun _ _ _ h=>h,fun _ _ _ h=>h⟩⟩;have he:(⟨S.fr,del o' S.hp⟩:St).erase d=some ⟨S.fr,del o' S.hp⟩:=hU k1 fun e he=>k2 e (by obtain⟨k,y⟩:=e; exact(aJ.1 he).1);have run:∀ {f},f=kX n f1 f2->(∀ f,f∈(qD ops x m j.size f2).2->∀ i,f i=true)->(n+m)*j.bytes<=140737488355328->∃ u w',(Builtin.append_ #[t,t] o.type #[a.eval s,a.eval x]).run P w = .ok u w'/\Rel E (({ fr:=S.fr,hp:=(d,.arr e j.size (n+m) f)::del o' S.hp }:St).put d (.own d)) (a.put (some d) u) w':=by rintro f rfl hfs hc;obtain⟨news,hs⟩:=src hfs;exact mH (P:=P) (n:=n) (f1:=f1) (f:=f2) hG.N hG.nt r0 hte (hG.ti _ _ hj) o.type c5 c6 hpv hs hc (by simp[look]) less (by unfold cX; rw[c3,c4,he])
     have sb:∀ (pv:aN) e,e∈(d,pv)::del d (wH (some o') S.hp)->e∈(d,pv)::del o' S.hp:=by
      intro pv e he;rcases aL.1 he with rfl | he
      ·exact bT ..
      ·exact bI _ (aJ.1 he).1
     split at h
     ·split at h
      case h_2=>cases h
      rename_i c11;have c11:=aZ c11;subst c11;cases h;obtain⟨u,w',h1,h2⟩:=run (f:=f2) (by funext i; simp[kX]) hfs (by have h:(0+m)*j.bytes<=140737488355328:=hC; exact h);rw[cH]at h2;exact fin _ (some o') u w' _ h1 h2 (fun e he=>he) (sb _) rfl rfl
     ·cases h;obtain⟨u,w',h1,h2⟩:=run rfl hfs (by have h:(n+m)*j.bytes<=140737488355328:=hC; exact h);exact fin _ (some o') u w' _ h1 h2 (fun e he=>he) (sb _) rfl rfl
   rename_i hd _ _ _ _ _ _ _ _;split at h
   ·rename_i x C hp hlt;cases h;have hcc:C:=by
     cases hc:isC st o.op with
     | false=>exact Ew hp hc
     | true=>rw[hc]at hC; exact hC
    obtain⟨v,h1,h2⟩:=Ho hG.ti ri o hp hcc;rw[aH hwt];unfold Oper.wp;rw[h1];refine hk _ _ ?_;rw[hd];exact⟨F,g,r.put (by rw[hG.nt]; simpa[cB] using hlt) h2⟩
   ·cases h
theorem Sk(hG:cZ P E I){ops:List Oper}{o:Oper}{S st:St}{ca:Option (Nat×List PV×PV×Hp×Option (Nat×aN))}(hca:∀ k args r Hs ch,ca=some (k,args,r,Hs,ch)->uZ P k args r Hs ch)(hfr:∀ e,e∈st.fr->e∈S.fr)
  (hhp:∀ e,e∈st.hp->e∈S.hp){v:Option PV}{md:Option (Nat×aN×Option Nat)}{Cs:List Prop}{as:List PV×Option Hp}(huq:∀ k x y,(k,x)∈S.hp->(k,y)∈S.hp->x=y)(h:Jp I ops ca o st=some (v,md,Cs,as,fs))(hC:All Cs)(hfs:∀ f,f∈fs->∀ i,f i=true)
  (has:∀ k args r Hs ch,ca=some (k,args,r,Hs,ch)->aU ops o st=some true->as=(args,some Hs))(hclean:∀ d,fE o=some d->(∀ e,e∈S.fr->e.2.mentions d=false)/\∀ e,e∈S.hp->Nat.beq e.1 d=false/\e.2.mentions d=false){a:Act}{w:World}(r:Rel E S a w)
  {K:Act->World->Prop}(hk:∀ a' w',Rel E (iX S o.dst v md) a' w'->K a' w'):
  if Region.wanted o (yielded ops.toArray a.tmps) then o.wp P a w K Q' else K (a.put o.dst undef) w:=by
 unfold Jp at h;split at h
 ·rename_i k args res Hs ch;split at h
  ·rename_i hfz;unfold Pk at h;split at h
   ·rename_i d d1 d2 d3 e s n f k' C as0 fs0 hal hd he hwt;split at h
    ·rename_i b1 b2 b3 b4;have b1:=aZ b1;have b2:=aZ b2;have b3:=aZ b3;subst b1 b2 b3;cases h;obtain⟨c1,c2⟩:=hclean _ hal;rcases hca _ _ _ _ _ rfl with⟨_,n',f',x,ha,hr,himp⟩ | hx
     ·have:=has _ _ _ _ _ rfl hwt;injection this with h1 h2;subst hr;rw[ha]at h1;cases h1;refine uO hG (ca:=none) (fun _ _ _ _ _ h=>by cases h) hfr hhp huq he hC hfs (fun _ _ _ _ _ h=>by cases h) hclean r (fun a' w' r'=>hk a' w' ?_);rw[hd]at r' ⊢;simp only[iX]at r' ⊢;obtain⟨F,g,q⟩:=Rel.fzRow hG.N.symm b4 (fun x hx=>c1 x (sC hx)) (fun x hx=>c2 x (Hm hx)) r';exact⟨F,g,q.nt,q.df,fun t z hz=>by
       rcases aL.1 hz with hz | hz
       ·cases hz; exact himp _ _ _ _ (q.fr _ _ bT)
       ·exact q.fr _ _ (bI _ hz),q.w⟩
     ·have hfz':=aZ hfz;subst hfz';cases hx with
      | call hk'=>exact absurd hk' (by decide)
      | new hk'=>exact absurd hk' (by decide)
      | newH hk'=>exact absurd hk' (by decide)
      | look hk'=>exact absurd hk' (by decide)
    ·cases h
   ·cases h
  ·rename_i hfz;refine uO hG (fun k' a' r' H' c' hc=>?_) hfr hhp huq h hC hfs has hclean r hk;rcases hca k' a' r' H' c' hc with⟨h1,_⟩ | h1
   ·cases hc; rw[hfz]at h1; cases h1
   ·exact h1
 ·exact uO hG (ca:=none) (fun _ _ _ _ _ h=>by cases h) hfr hhp huq h hC hfs has hclean r hk
def yZ(ops:List Oper):List (List Nat):=ops.map eU
def Qa(l r:List Nat):List Nat:=match l with | []=>r | x::l=>match inN x r with | true=>Qa l r | false=>Qa l (x::r)
def vV:List (List Nat)->List (List Nat)->List (List Nat)
 | [],acc=>acc
 | d::l,acc=>vV l (acc++[Qa (d.flatMap fun j=>acc.getD j []) d])
def kW(p:Nat->Bool):Nat->List Oper->List LOp->Fr
 | _,[],_=>[]
 | i,_::os,[]=>kW p (i+1) os []
 | i,o::os,l::ls=>match p i,o.dst,l.val with
  | true,some d,some x=>(d,x)::kW p (i+1) os ls
  | _,_,_=>kW p (i+1) os ls
def Di(lo:List LOp)(o j:Nat):Option aN:=match lo.getD j default with | ⟨_,some (o',c,_),_⟩=>(match Nat.beq o' o with | true=>some c | false=>none) | _=>none
def gA(lo:List LOp)(p:Nat->Bool)(o:Nat)(c:Option aN):List Nat->Option aN
 | []=>c
 | j::js=>match p j with
  | true=>gA lo p o (Di lo o j) js
  | false=>gA lo p o c js
abbrev OL:=List (Nat×Bool×List Nat)
def ini(hp:Hp)(o:Nat)(new:Bool):Option aN:=match new with | true=>none | false=>look hp o
def sH(hp:Hp)(lo:List LOp)(p:Nat->Bool):OL->Hp
 | []=>[]
 | (o,new,js)::l=>match gA lo p o (ini hp o new) js with
  | some x=>(o,x)::sH hp lo p l
  | none=>sH hp lo p l
def wrB(p:Nat->Bool)(t:Nat):Nat->List Oper->Bool
 | _,[]=>false
 | i,o::os=>match (match o.dst with | some d=>Nat.beq d t&&p i | none=>false) with | true=>true | false=>wrB p t (i+1) os
theorem pQ{p:Nat->Bool}{t:Nat}:∀ {i:Nat} {os:List Oper},wrB p t i os=true↔∃ k o,os[k]? = some o/\o.dst=some t/\p (i+k)=true
 | i,[]=>by simp[wrB]
 | i,o::os=>by
  simp only[wrB];constructor
  ·intro h;split at h
   ·rename_i h1;split at h1
    ·rename_i d hd;simp only[bJ]at h1;exact⟨0,o,rfl,by rw[hd,aZ h1.1],by simpa using h1.2⟩
    ·cases h1
   ·obtain⟨k,o',h1,h2,h3⟩:=pQ.1 h;exact⟨k+1,o',by simpa using h1,h2,by rw[<-kF,Nat.add_right_comm]; exact h3⟩
  ·rintro⟨k,o',h1,h2,h3⟩;split
   ·rfl
   ·rename_i hn;cases k with
    | zero=>simp at h1; subst h1;rw[h2]at hn;simp only[iD,Bool.true_and]at hn;rw[nL]at h3;rw[h3]at hn; cases hn
    | succ k=>exact pQ.2 ⟨k,o',by simpa using h1,h2,by rw[kF,Nat.add_comm 1 k]; exact h3⟩
def frP(p:Nat->Bool)(ops:List Oper)(fr0:Fr):Fr:=fr0.filter fun e=>!(wrB p e.1 0 ops)
theorem lT{p:Nat->Bool}{ops:List Oper}{fr0:Fr}{e:Nat×PV}:e∈frP p ops fr0↔e∈fr0/\∀ k o,ops[k]? = some o->o.dst=some e.1->p k=false:=by
 simp only[frP,mC,gC];refine and_congr_right fun _=>?_;constructor
 ·intro h k o h1 h2;cases hp:p k with
  | false=>rfl
  | true=>rw[pQ.2 ⟨k,o,h1,h2,by rw[cH]; exact hp⟩]at h; cases h
 ·intro h;cases hw:wrB p e.1 0 ops with
  | false=>rfl
  | true=>obtain⟨k,o,h1,h2,h3⟩:=pQ.1 hw;rw[cH]at h3;rw[h k o h1 h2]at h3; cases h3
def stP(st:St)(fr0:Fr)(ops:List Oper)(lo:List LOp)(ol:OL)(p:Nat->Bool):St:=⟨frP p ops fr0++kW p 0 ops lo,sH st.hp lo p ol⟩
def knw(pre:List (List Nat))(i:Nat)(ol:OL):OL:=ol.filter fun e=>e.2.2.all fun j=>Nat.beq j i || inN j (pre.getD i []) || inN i (pre.getD j [])
def stI(st:St)(fr0:Fr)(ops:List Oper)(lo:List LOp)(ol:OL)(pre:List (List Nat))(i:Nat):St:=
 ⟨frP (fun j=>!((Nat.beq j i || inN i (pre.getD j [])) || Nat.ble pre.length j)) ops fr0++kW (fun j=>inN j (pre.getD i [])) 0 ops lo,sH st.hp lo (fun j=>inN j (pre.getD i [])) (knw pre i ol)⟩
def Vh(I:Inf)(ops:List Oper)(calls:List (Nat×(Nat×List PV×PV×Hp×Option (Nat×aN))))(lits:List (Nat×(Bool×Bool)))(st:St)(fr0:Fr)(ol:OL)(pre:List (List Nat)):Nat->List Oper->List LOp->List LOp
 | _,[],lo=>lo
 | i,o::os,lo=>Vh I ops calls lits st fr0 ol pre (i+1) os (lo++[match Jp I ops (look calls i) o (stI st fr0 ops lo ol pre i) with
  | some (v,md,_,_,fs)=>⟨match look lits i with | some (_,b)=>some (.t (.bool b)) | none=>v,md,fs⟩
  | none=>⟨none,none,[]⟩])
def Dz(I:Inf)(ops:List Oper)(calls:List (Nat×(Nat×List PV×PV×Hp×Option (Nat×aN))))(st:St)(fr0:Fr)(lo:List LOp)(ol:OL)(pre:List (List Nat)):Nat->List Oper->List (Option Eff)
 | _,[]=>[]
 | i,o::os=>Jp I ops (look calls i) o (stI st fr0 ops lo ol pre i)::Dz I ops calls st fr0 lo ol pre (i+1) os
def Sd(ops:List Oper)(calls:List (Nat×(Nat×List PV×PV×Hp×Option (Nat×aN))))(lits:List (Nat×(Bool×Bool)))(conds:List (Nat×List Prop))(st:St)(lo:List LOp)(i:Nat)(o:Oper):Option Eff:=
 some (match look lits i with | some (b,_)=>some (.t (.bool b)) | none=>(lo.getD i default).val,(lo.getD i default).md,match look conds i with | some l=>l | none=>[],
  match look calls i,aU ops o st with | some (_,as,_,Hs,_),some true=>(as,some Hs) | _,_=>noA,(lo.getD i default).fs.map fun _ _=>true)
def Cu(ops:List Oper)(calls:List (Nat×(Nat×List PV×PV×Hp×Option (Nat×aN))))(lits:List (Nat×(Bool×Bool)))(conds:List (Nat×List Prop))(st:St)(fr0:Fr)(lo:List LOp)(ol:OL)(pre:List (List Nat)):Nat->List Oper->List (Option Eff)
 | _,[]=>[]
 | i,o::os=>Sd ops calls lits conds (stI st fr0 ops lo ol pre i) lo i o::Cu ops calls lits conds st fr0 lo ol pre (i+1) os
def Ao(d:Nat):List Nat->Bool
 | []=>true
 | k::l=>!(Nat.beq k d)&&Ao d l
def kY:List Nat->Bool
 | []=>true
 | k::l=>Ao k l&&kY l
def Dd(ops:List Oper):List Nat:=ops.filterMap (·.dst)
def pW(pre:List (List Nat))(i d:Nat):Nat->List LOp->Bool
 | _,[]=>true
 | j,l::ls=>(match l.val with | some x=>!(x.mentions d) || inN i (pre.getD j []) || Nat.beq j i | none=>true) &&
   (match l.md with | some (_,c,_)=>!(c.mentions d) || inN i (pre.getD j []) || Nat.beq j i | none=>true)&&pW pre i d (j+1) ls
def rP(hp:Hp)(d:Nat):OL->Bool
 | []=>true
 | (o,new,_)::l=>(match Nat.beq o d with | true=>new | false=>true)&&(match ini hp o new with | some c=>!(c.mentions d) | none=>true)&&rP hp d l
def pV(pre:List (List Nat))(st:St)(fr0:Fr)(lo:List LOp)(ol:OL):Nat->List Oper->Bool
 | _,[]=>true
 | i,o::os=>(match fE o with
   | some d=>pW pre i d 0 lo&&rP st.hp d ol&&fr0.all (fun e=>!(e.2.mentions d))&&ol.all (fun e=>!(Nat.beq e.1 d) || e.2.2.all fun j=>Nat.beq j i || inN i (pre.getD j []))
   | none=>true)&&pV pre st fr0 lo ol (i+1) os
def zO(ol:OL):Nat->List LOp->Bool
 | _,[]=>true
 | i,l::ls=>(match l.md with
   | some (o,_,k)=>ol.any (fun e=>Nat.beq e.1 o&&inN i e.2.2)&&(match k with
    | none=>ol.all (fun e=>Nat.beq e.1 o || !(inN i e.2.2))
    | some k=>ol.all fun e=>Nat.beq e.1 o || (match Nat.beq e.1 k with | true=>inN i e.2.2 | false=>!(inN i e.2.2)))
   | none=>ol.all fun e=>!(inN i e.2.2))&&zO ol (i+1) ls
def vI(pre:List (List Nat)):List Nat->Bool
 | []=>true
 | j::js=>js.all (fun k=>inN j (pre.getD k []))&&vI pre js
def Oe(ops:List Oper)(pre:List (List Nat)):Nat->List Oper->Bool
 | _,[]=>true
 | i,o::os=>(eU o).all (fun j=>Nat.blt j i)&&(pre.getD i []).all (fun k=>Nat.blt k i&&(inN k (eU o) || (eU o).any fun j=>inN k (pre.getD j [])))&&Oe ops pre (i+1) os
def Jl(o:Oper):Bool:=match o.guard,o.op with
 | none,.move _=>true
 | none,.assign _=>true
 | none,.extract _ _=>true
 | _,_=>false
def Jg(L:List Oper)(j:Nat):Bool:=(List.range L.length).all fun i=>Nat.ble i j || (match L[i]? with | some o=>(eU o).any fun k=>Nat.ble j k | none=>true)
def wY(L:List Oper)(j:Nat):List Bool:=(List.range L.length).map fun k=>Nat.blt k j
def Kg(L:List Oper):List Oper->Nat->Bool
 | [],_=>true
 | o::t,j=>Jl o&&Region.free .any L.toArray (wY L j).toArray j&&Kg L t (j+1)
def chT(L:List Oper):Nat->List Oper->Bool
 | _,[]=>true
 | j,o::t=>(Region.noSelect L.toArray&&Kg L (o::t) j) || (Jg L j&&chT L (j+1) t)
def tlB(L:List Oper)(pre:List (List Nat))(n:Nat):List Oper->Bool
 | []=>true
 | o::l=>((List.range n).all fun k=>inN k (eU o) || (eU o).any fun j=>inN k (pre.getD j []))&&(Jg L n&&chT L (n+1) l)
theorem xN{L:List Oper}{j i:Nat}{o:Oper}(h:Jg L j=true)(hi:L[i]? = some o)(hji:j<i):∃ k,k∈eU o/\j<=k:=by
 have hL:i<L.length:=(bZ.1 hi).1;have:=cU.1 h i (pG.2 hL);rw[hi]at this;simp only[jG,List.any_eq_true]at this;rcases this with h | ⟨k,h1,h2⟩
 ·have:=cP h; omega
 ·exact⟨k,h1,cP h2⟩
theorem Oper.wp_monoQ{P:Program}{o:Oper}{a:Act}{w:World}{K K':Act->World->Prop}{Q:Exit->Act->World->Prop}(h:∀ a w,K a w->K' a w)(hQ:∀ e a w,Q e a w->Q' e a w)
  (hh:o.wp P a w K Q):o.wp P a w K' Q':=by
 have hl:LetsOut Q->LetsOut Q':=fun⟨a,w,h⟩=>⟨a,w,hQ _ _ _ h⟩;unfold Oper.wp at *
 generalize (execOp a.eval o).run P w=r at *
 cases r with
 | ok n w'=>
  cases n <;> simp only[Oper.upon]at hh ⊢ <;>
   first
    | exact h _ _ hh
    | exact Calls.mono hh (fun e w'' he=>by cases e <;> first | exact h _ _ he | exact hQ _ _ _ he | exact hl he)
    | exact Rows.mono hh (fun _ _ he=>h _ _ he)
 | halt x w'=>cases x <;> simp only[Oper.upon]at hh ⊢ <;> first | exact hQ _ _ _ hh | exact hh
theorem iM{P:Program}{md:Region.Mode}{ops:Array Oper}{Q Q':Exit->Act->World->Prop}(hQ:∀ e a w,Q e a w->Q' e a w):∀ (fuel:Nat) (m:Array Bool) (a:Act) (w:World),wpAny P md ops Q fuel m a w->wpAny P md ops Q' fuel m a w
 | 0,_,_,_,h=>⟨h.1,hQ _ _ _ h.2⟩
 | fuel+1,m,a,w,h=>⟨fun h0=>hQ _ _ _ (h.1 h0),fun i hi=>by
   have h1:=h.2 i hi;unfold wpOp at h1 ⊢;split
   ·rename_i hn;rw[hn]at h1;exact iM hQ fuel _ _ _ h1
   ·rename_i o ho;rw[ho]at h1;simp only at h1;split
    ·rename_i hw;rw[aH hw]at h1;rcases h1 with h1 | ⟨h1,a',w',h2⟩
     ·exact .inl (Oper.wp_monoQ (fun a w h=>iM hQ fuel _ _ _ h) hQ h1)
     ·exact .inr ⟨h1,a',w',hQ _ _ _ h2⟩
    ·rename_i hw;rw[aT hw]at h1;exact iM hQ fuel _ _ _ h1⟩
theorem Ms{P:Program}{o:Oper}(hs:Jl o=true){a:Act}{w:World}{K:Act->World->Prop}{Q:Exit->Act->World->Prop}(hq:o.wp P a w K Q\/(o.asks P a w/\LetsOut Q)):
  ∃ v,(∀ w',(execOp a.eval o).run P w' = .ok (.value v) w')/\K (a.put o.dst v) w:=by
 have fin:∀ v,execOp a.eval o=pure (.value v)->∃ v,(∀ w',(execOp a.eval o).run P w' = .ok (.value v) w')/\K (a.put o.dst v) w:=fun v he=>by
  refine⟨v,fun w'=>by rw[he]; rfl,?_⟩;rcases hq with hq | ⟨hq,_⟩
  ·unfold Oper.wp at hq;rw[he]at hq; exact hq
  ·have h1:=hq.1;rw[he]at h1;exact absurd h1 (Array.not_mem_empty _)
 have bad:∀ msg,execOp a.eval o=stuck msg->False:=fun msg he=>by
  rcases hq with hq | ⟨hq,_⟩
  ·unfold Oper.wp at hq;rw[he]at hq; exact hq
  ·have h1:=hq.1;rw[he]at h1;exact absurd h1 (Array.not_mem_empty _)
 unfold Jl at hs;split at hs
 ·rename_i hop; exact fin _ (by unfold execOp; rw[hop])
 ·rename_i hop; exact fin _ (by unfold execOp; rw[hop])
 ·rename_i x i _ hop;have he:execOp a.eval o=(do pure (.value (<-Instr.extract (a.eval x) i))):=by unfold execOp; rw[hop]
  unfold Instr.extract at he;split at he
  ·split at he
   ·exact fin _ he
   ·exact(bad _ he).elim
  ·exact(bad _ he).elim
 ·cases hs
theorem Ec{o:Oper}(hs:Jl o=true):o.guard=none:=by unfold Jl at hs;split at hs <;> first | assumption | cases hs
def noP(Q:Exit->Act->World->Prop):Exit->Act->World->Prop:=fun e a w=>Q e a w/\∀ c,e ≠ .panic c
def wfL(L l tl:List Oper)(pre:List (List Nat))(st:St)(_ts:List Nat)(fr0:Fr)(lo:List LOp)(ol:OL):Bool:=
 Oe L pre 0 L&&kY (Dd L)&&kY (ol.map (·.1))&&zO ol 0 lo&&ol.all (fun e=>vI pre e.2.2)&&pV pre st fr0 lo ol 0 l &&
  (Nat.beq lo.length l.length&&Nat.beq pre.length l.length)&&tlB L pre l.length tl
theorem tN{P:Program}{L:Array Oper}{Q:Exit->Act->World->Prop}{m:Array Bool}{a:Act}{w:World}(h:Region.ready .any L m=[])(hq:Q .normal a w):∀ fuel,wpAny P .any L Q fuel m a w
 | 0=>⟨h,hq⟩
 | _+1=>⟨fun _=>hq,fun i hi=>by rw[h]at hi; cases hi⟩
def Je(lits:List (Nat×(Bool×Bool)))(lo:List LOp):Bool:=lits.all fun e=>match (lo.getD e.1 default).val,e.2.2 with
 | some (.t (.bool true)),true=>true
 | some (.t (.bool false)),false=>true
 | _,_=>false
theorem jM{p:Nat->Bool}:∀ {i:Nat} {os:List Oper} {ls:List LOp} {e:Nat×PV},e∈kW p i os ls->∃ k o l,os[k]? = some o/\ls[k]? = some l/\p (i+k)=true/\o.dst=some e.1/\l.val=some e.2
 | _,[],_,e,h=>by simp[kW]at h
 | i,_::os,[],e,h=>by simp only[kW]at h;obtain⟨k,o,l,h1,h2,_⟩:=jM h;simp at h2
 | i,o::os,l::ls,e,h=>by
  have tail:e∈kW p (i+1) os ls->∃ k o' l',(o::os)[k]? = some o'/\(l::ls)[k]? = some l'/\p (i+k)=true/\o'.dst=some e.1/\l'.val=some e.2:=by intro h;obtain⟨k,o',l',h1,h2,h3,h4⟩:=jM h;exact⟨k+1,o',l',by simpa using h1,by simpa using h2,by rw[<-kF,Nat.add_right_comm]; exact h3,h4⟩
  simp only[kW]at h;split at h
  ·rename_i d x hp hd hv;rcases aL.1 h with rfl | h
   ·exact⟨0,o,l,by simp,by simp,by simpa using hp,hd,hv⟩
   ·exact tail h
  ·exact tail h
theorem rN{p:Nat->Bool}{d:Nat}{x:PV}:∀ {i k:Nat} {os:List Oper} {ls:List LOp} {o:Oper} {l:LOp},os[k]? = some o->ls[k]? = some l->p (i+k)=true->o.dst=some d->l.val=some x->(d,x)∈kW p i os ls
 | _,_,[],_,_,_,h,_,_,_,_=>by simp at h
 | _,_,_::_,[],_,_,_,h,_,_,_=>by simp at h
 | i,0,o::os,l::ls,o',l',h1,h2,h3,h4,h5=>by simp at h1 h2; subst h1 h2;simp only[nL]at h3;simp[kW,h3,h4,h5]
 | i,k+1,o::os,l::ls,o',l',h1,h2,h3,h4,h5=>by
  have:=rN (i:=i+1) (k:=k) (os:=os) (ls:=ls) (by simpa using h1) (by simpa using h2) (by rw[kF,Nat.add_comm 1 k]; exact h3) h4 h5;simp only[kW];split
  ·exact bI _ this
  ·exact this
theorem iP{lo:List LOp}{p q:Nat->Bool}{o:Nat}:∀ {js:List Nat} {c:Option aN},(∀ j,j∈js->p j=q j)->gA lo p o c js=gA lo q o c js
 | [],_,_=>rfl
 | j::js,c,h=>by
  simp only[gA,h j (by simp)];split
  ·exact iP fun k hk=>h k (bI _ hk)
  ·exact iP fun k hk=>h k (bI _ hk)
theorem nW{lo:List LOp}{q:Nat->Bool}{o:Nat}:∀ {js:List Nat} {c:Option aN},(∀ j,j∈js->q j=false)->gA lo q o c js=c
 | [],_,_=>rfl
 | j::js,c,h=>by simp only[gA,h j (by simp)]; exact nW fun k hk=>h k (bI _ hk)
theorem lU{lo:List LOp}{pre:List (List Nat)}{q:Nat->Bool}{i o:Nat}(hi:q i=true):∀ {js:List Nat} {c:Option aN},vI pre js=true->i∈js->(∀ j,j∈js->i∈pre.getD j []->q j=false) ->
  gA lo q o c js=Di lo o i
 | [],_,_,h,_=>by simp at h
 | j::js,c,hc,h,hq=>by
  simp only[vI,bJ,cU]at hc;by_cases hj:j=i
  ·subst hj;simp only[gA,hi];exact nW fun k hk=>hq k (bI _ hk) (bS.1 (hc.1 k hk))
  ·have hm:i∈js:=by
    rcases aL.1 h with rfl | h
    ·exact absurd rfl hj
    ·exact h
   simp only[gA];split
   ·exact lU hi hc.2 hm fun k hk=>hq k (bI _ hk)
   ·exact lU hi hc.2 hm fun k hk=>hq k (bI _ hk)
theorem lN{lo:List LOp}{p:Nat->Bool}{o:Nat}{x:aN}:∀ {js:List Nat} {c:Option aN},gA lo p o c js=some x->c=some x\/∃ j,j∈js/\p j=true/\Di lo o j=some x
 | [],_,h=>.inl h
 | j::js,c,h=>by
  simp only[gA]at h;split at h
  ·rename_i hp;rcases lN h with h | ⟨k,h1,h2,h3⟩
   ·exact .inr ⟨j,by simp,hp,h⟩
   ·exact .inr ⟨k,bI _ h1,h2,h3⟩
  ·rcases lN h with h | ⟨k,h1,h2,h3⟩
   ·exact .inl h
   ·exact .inr ⟨k,bI _ h1,h2,h3⟩
theorem gQ{hp:Hp}{lo:List LOp}{p:Nat->Bool}:∀ {ol:OL} {e:Nat×aN},e∈sH hp lo p ol->∃ new js,(e.1,new,js)∈ol/\gA lo p e.1 (ini hp e.1 new) js=some e.2
 | [],e,h=>by simp[sH]at h
 | (o,new,js)::l,e,h=>by
  have tail:e∈sH hp lo p l->∃ new' js',(e.1,new',js')∈(o,new,js)::l/\gA lo p e.1 (ini hp e.1 new') js'=some e.2:=by intro h;obtain⟨n',j',h1,h2⟩:=gQ h;exact⟨n',j',bI _ h1,h2⟩
  simp only[sH]at h;split at h
  ·rename_i x hx;rcases aL.1 h with rfl | h
   ·exact⟨new,js,by simp,hx⟩
   ·exact tail h
  ·exact tail h
theorem nG{hp:Hp}{lo:List LOp}{p:Nat->Bool}{o:Nat}{new:Bool}{js:List Nat}{x:aN}:∀ {ol:OL},(o,new,js)∈ol->gA lo p o (ini hp o new) js=some x->(o,x)∈sH hp lo p ol
 | [],h,_=>by simp at h
 | (o',n',j')::l,h,hx=>by
  simp only[sH];rcases aL.1 h with e | h
  ·cases e; rw[hx]; simp
  ·split
   ·exact bI _ (nG h hx)
   ·exact nG h hx
theorem qV{d:Nat}:∀ {l:List Nat},Ao d l=true->d∉l
 | [],_=>by simp
 | k::l,h=>by simp only[Ao,bJ,gC]at h;simp only[aL,not_or];exact⟨fun e=>gD h.1 e.symm,qV h.2⟩
theorem Ou{ops:List Oper}:kY (Dd ops)=true->∀ {i k:Nat} {o o':Oper} {d:Nat},ops[i]? = some o->ops[k]? = some o'->o.dst=some d->o'.dst=some d->i=k:=by
 induction ops with
 | nil=>intro _ i k o o' d h; simp at h
 | cons x ops ih=>
  intro hn i k o o' d h1 h2 h3 h4;have hin:∀ {k:Nat} {o':Oper},ops[k]? = some o'->o'.dst=some d->d∈Dd ops:=by intro k o' hk hd;exact List.mem_filterMap.2 ⟨o',eE hk,hd⟩
  have hn':kY (Dd ops)=true/\∀ d',x.dst=some d'->d'∉Dd ops:=by
   unfold Dd at hn ⊢;simp only[List.filterMap_cons]at hn;split at hn
   ·rename_i hx; exact⟨hn,fun d' hd=>by rw[hx]at hd; cases hd⟩
   ·rename_i d0 hx;simp only[kY,bJ]at hn;exact⟨hn.2,fun d' hd=>by rw[hx]at hd; cases hd; exact qV hn.1⟩
  cases i with
  | zero=>
   cases k with
   | zero=>rfl
   | succ k=>simp at h1 h2; subst h1;exact absurd (hin h2 h4) (hn'.2 d h3)
  | succ i=>
   cases k with
   | zero=>simp at h1 h2; subst h2;exact absurd (hin h1 h3) (hn'.2 d h4)
   | succ k=>simp at h1 h2;rw[ih hn'.1 h1 h2 h3 h4]
theorem uS{ops:List Oper}{pre:List (List Nat)}:∀ {os:List Oper} {i0:Nat},Oe ops pre i0 os=true->∀ {k:Nat} {o:Oper},os[k]? = some o ->
  (∀ j,j∈eU o->j<i0+k)/\∀ x,x∈pre.getD (i0+k) []->x<i0+k/\(x∈eU o\/∃ j,j∈eU o/\x∈pre.getD j [])
 | [],_,_,k,o,h=>by simp at h
 | y::os,i0,hp,k,o,h=>by
  simp only[Oe,bJ,cU]at hp;obtain⟨⟨h1,h2⟩,h3⟩:=hp;cases k with
  | zero=>
   simp at h; subst h;refine⟨fun j hj=>by simpa[cB] using h1 j hj,fun x hx=>?_⟩;have:=h2 x hx;simp only[jG,List.any_eq_true]at this;refine⟨by simpa[cB] using this.1,?_⟩;rcases this.2 with h | ⟨j,hj,h⟩
   ·exact .inl (bS.1 h)
   ·exact .inr ⟨j,hj,bS.1 h⟩
  | succ k=>have:=uS (i0:=i0+1) h3 (k:=k) (o:=o) (by simpa using h);rw[show i0+(k+1)=i0+1+k by omega];exact this
theorem rL{pre:List (List Nat)}{st:St}{fr0:Fr}{lo:List LOp}{ol:OL}:∀ {os:List Oper} {i0:Nat},pV pre st fr0 lo ol i0 os=true->∀ {k:Nat} {o:Oper} {d:Nat},os[k]? = some o->fE o=some d ->
  pW pre (i0+k) d 0 lo=true/\rP st.hp d ol=true/\(∀ e,e∈fr0->e.2.mentions d=false)/\∀ e,e∈ol->e.1=d->∀ j,j∈e.2.2->j=i0+k\/(i0+k)∈pre.getD j []
 | [],_,_,k,o,d,h,_=>by simp at h
 | y::os,i0,hp,k,o,d,h,ha=>by
  simp only[pV,bJ]at hp;cases k with
  | zero=>
   simp at h; subst h;rw[ha]at hp;simp only[bJ,cU,gC,jG]at hp;obtain⟨⟨⟨⟨h1,h2⟩,h3⟩,h4⟩,_⟩:=hp;refine⟨h1,h2,h3,fun e he hed j hj=>?_⟩;rcases h4 e he with h | h
   ·exact absurd hed (gD h)
   ·rcases h j hj with h | h
    ·exact .inl (aZ h)
    ·exact .inr (bS.1 h)
  | succ k=>have:=rL (i0:=i0+1) hp.2 (k:=k) (o:=o) (by simpa using h) ha;rw[show i0+(k+1)=i0+1+k by omega];exact this
theorem oA{pre:List (List Nat)}{i d:Nat}:∀ {ls:List LOp} {j0:Nat},pW pre i d j0 ls=true->∀ {k:Nat} {l:LOp},ls[k]? = some l ->
  (∀ x,l.val=some x->x.mentions d=false\/i∈pre.getD (j0+k) []\/j0+k=i)/\∀ o c kk,l.md=some (o,c,kk)->c.mentions d=false\/i∈pre.getD (j0+k) []\/j0+k=i
 | [],_,_,k,l,h=>by simp at h
 | y::ls,j0,hp,k,l,h=>by
  simp only[pW,bJ]at hp;obtain⟨⟨h1,h2⟩,h3⟩:=hp;cases k with
  | zero=>
   simp at h; subst h;refine⟨fun x hx=>?_,fun o c kk hm=>?_⟩
   ·rw[hx]at h1;simp only[jG,gC]at h1;rcases h1 with (h | h) | h
    ·exact .inl h
    ·exact .inr (.inl (bS.1 h))
    ·exact .inr (.inr (aZ h))
   ·rw[hm]at h2;simp only[jG,gC]at h2;rcases h2 with (h | h) | h
    ·exact .inl h
    ·exact .inr (.inl (bS.1 h))
    ·exact .inr (.inr (aZ h))
  | succ k=>have:=oA (j0:=j0+1) h3 (k:=k) (l:=l) (by simpa using h);rw[show j0+(k+1)=j0+1+k by omega];exact this
theorem tC{hp:Hp}{d:Nat}:∀ {ol:OL},rP hp d ol=true->∀ {o:Nat} {new:Bool} {js:List Nat},(o,new,js)∈ol->(o=d->new=true)/\∀ c,ini hp o new=some c->c.mentions d=false
 | [],_,o,new,js,h=>by simp at h
 | (o',n',j')::l,hc,o,new,js,h=>by
  simp only[rP,bJ]at hc;rcases aL.1 h with e | h
  ·cases e;refine⟨fun hd=>?_,fun c hi=>?_⟩
   ·subst hd;have:=hc.1.1;rw[iD]at this;exact this
   ·have:=hc.1.2;rw[hi]at this;simpa using this
  ·exact tC hc.2 h
theorem wF{ol:OL}:∀ {ls:List LOp} {i0:Nat},zO ol i0 ls=true->∀ {k:Nat} {l:LOp},ls[k]? = some l ->
  (∀ o c q,l.md=some (o,c,q)->(∃ e,e∈ol/\e.1=o/\i0+k∈e.2.2)/\∀ e,e∈ol->e.1=o\/(q=some e.1/\i0+k∈e.2.2)\/(q≠some e.1/\i0+k∉e.2.2))/\(l.md=none->∀ e,e∈ol->i0+k∉e.2.2)
 | [],_,_,k,l,h=>by simp at h
 | y::ls,i0,hp,k,l,h=>by
  simp only[zO,bJ]at hp;have nin:∀ {x:Nat} {l:List Nat},inN x l=false->x∉l:=fun h hm=>by rw[bS.2 hm]at h; cases h
  cases k with
  | zero=>
   simp at h; subst h;refine⟨fun o c q hm=>?_,fun hm=>?_⟩
   ·have:=hp.1;rw[hm]at this;simp only[bJ,List.any_eq_true]at this;obtain⟨⟨e,h1,h2,h3⟩,h4⟩:=this;refine⟨⟨e,h1,aZ h2,bS.1 h3⟩,fun e he=>?_⟩;cases q with
    | none=>
     simp only[cU,jG,gC]at h4;rcases h4 e he with h | h
     ·exact .inl (aZ h)
     ·exact .inr (.inr ⟨by simp,nin h⟩)
    | some q=>
     simp only[cU,jG]at h4;rcases h4 e he with h | h
     ·exact .inl (aZ h)
     ·split at h
      ·rename_i hb;exact .inr (.inl ⟨by rw[aZ hb],bS.1 h⟩)
      ·rename_i hb;exact .inr (.inr ⟨by simp only[ne_eq,cV]; exact fun h'=>gD hb h'.symm,nin (by simpa using h)⟩)
   ·have:=hp.1;rw[hm]at this;simp only[cU,gC]at this;exact fun e he=>nin (this e he)
  | succ k=>have:=wF (i0:=i0+1) hp.2 (k:=k) (l:=l) (by simpa using h);rw[show i0+(k+1)=i0+1+k by omega];exact this
theorem qE:∀ {ol:OL},kY (ol.map (·.1))=true->∀ {e e':Nat×Bool×List Nat},e∈ol->e'∈ol->e.1=e'.1->e=e'
 | [],_,e,e',h,_,_=>by simp at h
 | x::ol,hn,e,e',h,h',he=>by
  simp only[fX,kY,bJ]at hn;have hx:=qV hn.1;rcases aL.1 h with q | h
  ·rcases aL.1 h' with q' | h'
   ·rw[q,q']
   ·exact absurd (by rw[<-q,he]; exact kN h') hx
  ·rcases aL.1 h' with q' | h'
   ·exact absurd (by rw[<-q',<-he]; exact kN h) hx
   ·exact qE hn.2 h h' he
theorem At{ops:List Oper}{calls:List (Nat×(Nat×List PV×PV×Hp×Option (Nat×aN)))}{st:St}{fr0:Fr}{lo:List LOp}{ol:OL}{pre:List (List Nat)}{lits:List (Nat×(Bool×Bool))}{conds:List (Nat×List Prop)}:
  ∀ {os:List Oper} {i0:Nat},Dz I ops calls st fr0 lo ol pre i0 os=Cu ops calls lits conds st fr0 lo ol pre i0 os->∀ {k:Nat} {o:Oper},os[k]? = some o ->
  Jp I ops (look calls (i0+k)) o (stI st fr0 ops lo ol pre (i0+k))=Sd ops calls lits conds (stI st fr0 ops lo ol pre (i0+k)) lo (i0+k) o
 | [],_,_,k,o,h=>by simp at h
 | y::os,i0,he,k,o,h=>by
  simp only[Dz,Cu,List.cons.injEq]at he;cases k with
  | zero=>simp at h; subst h; exact he.1
  | succ k=>have:=At (i0:=i0+1) he.2 (k:=k) (o:=o) (by simpa using h);rw[show i0+(k+1)=i0+1+k by omega];exact this
theorem Py{z:PV}{b:Bool}(h:(match (some z:Option PV),b with | some (.t (.bool true)),true=>true | some (.t (.bool false)),false=>true | _,_=>false)=true):z = .t (.bool b):=by
 split at h
 ·rename_i h1; cases h1; rfl
 ·rename_i h1; cases h1; rfl
 ·cases h
theorem Jc(hG:cZ P E I)(hm:P.follows .mixedOrders=true){id:Nat}{L l tl:List Oper}(hL:L=l++tl){st stF:St}{calls:List (Nat×(Nat×List PV×PV×Hp×Option (Nat×aN)))}{lits:List (Nat×(Bool×Bool))}{conds:List (Nat×List Prop)}{ol:OL}
  {ts:List Nat}{fr0:Fr}{pre:List (List Nat)}{lo:List LOp}(hf0:∀ e,e∈fr0->e∈st.fr/\e.1∈ts)(hc:xE P calls)(hl:pC lits)(hA:kU conds)(ts' os':List Nat)
  (hw:wfL L l tl pre st ts fr0 lo ol=true)(hlit:Je lits lo=true)(he:Dz I L calls st fr0 lo ol pre 0 l=Cu L calls lits conds st fr0 lo ol pre 0 l)
  (hF:(stP st fr0 L lo ol (fun j=>Nat.blt j l.length)).keep ts' os'=some stF)(hk:bY P E L Q tl stF):pwp P E (.region id L.toArray true) Q st:=by
 intro a w r;simp only[wfL,bJ]at hw;obtain⟨⟨⟨⟨⟨⟨⟨hpre,hnd⟩,hol⟩,hmods⟩,hchain⟩,hall⟩,hlen,hplen⟩,htl⟩:=hw;have hchain:=cU.1 hchain;have hlen:=aZ hlen;have hplen:=aZ hplen;have hLl:L.length=l.length+tl.length:=by rw[hL]; simp
 have hat:∀ {i:Nat},i<l.length->L[i]? = l[i]?:=fun hi=>by rw[hL,dB hi]
 let SS:(Nat->Bool)->St:=stP st fr0 L lo ol;have lo_at:∀ {k:Nat} {o:Oper},l[k]? = some o->∃ x,lo[k]? = some x/\lo.getD k default=x:=by
  intro k o hk;have:k<lo.length:=by rw[hlen]; exact(bZ.1 hk).1
  exact⟨lo[k],dE this,by simp[this]⟩
 have md_at:∀ {k:Nat} {x:LOp} {o o':Nat} {c:aN} {q:Option Nat},lo[k]? = some x->x.md=some (o,c,q)->Di lo o' k=(match Nat.beq o o' with | true=>some c | false=>none):=by
  intro k x o o' c q hx hmd;have:lo.getD k default=x:=by rw[bO,hx]; rfl
  unfold Di;rw[this];cases x with
  | mk v md fs=>simp only at hmd; subst hmd; rfl
 have hdlt:∀ {i:Nat} {o:Oper},L[i]? = some o->∀ j,j∈eU o->j<i:=by intro i o hi j hj;have:=(uS hpre hi).1 j hj;omega
 have rdy:∀ m:List Bool,m.length=L.length->∀ i o,L[i]? = some o->cF m i false=false->(∀ j,j∈eU o->cF m j false=true)->i∈Region.ready .any L.toArray m.toArray:=by
  intro m hml i o ho hb hd;have hi':i<m.length:=by rw[hml]; exact(bZ.1 ho).1
  rw[mem_ready];refine⟨?_,o,by simpa using ho,fun e hee hbd=>?_⟩
  ·rw[cJ]at hb;have:m[i]=false:=by simpa[bO,hi'] using hb
   simp[hi',this]
  ·have hdep:e.on∈eU o:=by simp only[eU,cE,mC];exact⟨e,⟨by simpa using hee,hbd⟩,rfl⟩
   have:=hd e.on hdep;rw[cJ]at this;simpa[Ap,bO] using this
 have done:∀ m:List Bool,m.length=L.length->(∀ i,i<l.length->i∉Region.ready .any L.toArray m.toArray)->∀ i,i<l.length->cF m i false=true:=by
  intro m hml hr i
  induction i using Nat.strongRecOn with
  | _ i ih=>
   intro hi;cases hb:cF m i false with
   | true=>rfl
   | false=>
    exfalso;have ho:L[i]? = some l[i]:=by rw[hat hi]; simp[hi]
    exact hr i hi (rdy m hml i _ ho hb fun j hj=>ih j (hdlt ho j hj) (Nat.lt_trans (hdlt ho j hj) hi))
 have toF:∀ m:List Bool,(∀ i,i<l.length->cF m i false=true)->(∀ i,l.length<=i->cF m i false=false)->∀ {a w},Rel E (SS fun j=>cF m j false) a w->Rel E stF a w:=by
  intro m h1 h2 a w r;have hp:(fun j=>cF m j false)=fun j=>Nat.blt j l.length:=by
   funext j;by_cases hj:j<l.length
   ·rw[h1 j hj]; exact(by simpa[cB] using hj:Nat.blt j l.length=true).symm
   ·rw[h2 j (by omega)];cases hb:Nat.blt j l.length with
    | false=>rfl
    | true=>exact absurd (by simpa[cB] using hb) hj
  rw[hp]at r;exact r.keep hF
 have late:∀ i o,l.length<i->L[i]? = some o->∃ k,k∈eU o/\l.length<=k:=by
  intro i o hi ho;have ho':=ho;rw[hL,dF (by omega)]at ho'
  match tl,htl with
  | [],_=>simp at ho'
  | x::t,h=>simp only[tlB,bJ]at h;exact xN h.2.1 ho hi
 have htl2:chT L l.length tl=true:=by
  match tl,htl with
  | [],_=>rfl
  | x::t,h=>simp only[tlB,bJ]at h;simp only[chT,jG,bJ];exact .inr h.2
 have notyet:∀ (m:List Bool) (i:Nat),yS L m i=true->i<m.length->cF m i false=false/\∀ o,L[i]? = some o->∀ j,j∈eU o->cF m j false=true:=by
  intro m i hri him;constructor
  ·unfold yS at hri;split at hri
   ·cases hri
   ·rename_i hb;rw[cJ]at hb ⊢;simpa[bO,him] using hb
  ·intro o ho;unfold yS at hri;split at hri
   ·cases hri
   ·rw[ho]at hri;exact fun j hj=>cU.1 hri j hj
 have sil:Region.noSelect L.toArray=true->∀ (t:List Oper) (j:Nat),L.drop j=t->Kg L t j=true->∀ (fuel:Nat) (m:List Bool),m.length=L.length->(∀ i,i<j->i<L.length->cF m i false=true)->(∀ i,j<=i->cF m i false=false)->t.length<=fuel ->
   ∀ a w,wpList P L.toArray (kK E Q) t a w->wpAny P .any L.toArray (noP (kK E Q)) fuel m.toArray a w:=by
  intro hns t
  induction t with
  | nil=>intro j hd _ fuel m hml hT hFs _ a w hq;refine tN (List.eq_nil_iff_forall_not_mem.2 fun i hi=>?_) ⟨by simpa only[wpList] using hq,fun c h=>by cases h⟩ fuel;obtain⟨hri,hiL⟩:=pP hi;have hlen:=List.drop_eq_nil_iff.1 hd;have:=(notyet m i hri (by omega)).1;rw[hT i (by omega) hiL]at this;cases this
  | cons o t ih=>
   intro j hd hsb fuel m hml hT hFs hfu a w hq;have ho:L[j]? = some o:=by rw[<-List.head?_drop,hd]; rfl
   have hjL:j<L.length:=(bZ.1 ho).1;have hd':L.drop (j+1)=t:=by rw[<-List.tail_drop,hd]; rfl
   obtain⟨f,rfl⟩:∃ f,fuel=f+1:=⟨fuel-1,by simp only[lE]at hfu; omega⟩;simp only[Kg,bJ]at hsb;obtain⟨⟨hs1,hs2⟩,hs3⟩:=hsb;have hw:Region.wanted o (yielded L.toArray a.tmps)=true:=by unfold Region.wanted; rw[Ec hs1]
   simp only[wpList]at hq;rw[aH hw]at hq;obtain⟨v,hv,hK⟩:=Ms hs1 hq;have hm:m=wY L j:=by
    refine List.ext_getElem (by unfold wY; simp[hml]) fun k h1 h2=>?_;have e1:cF m k false=m[k]:=by rw[cJ]; simp[h1]
    have e2:(wY L j)[k]=Nat.blt k j:=by simp[wY]
    rw[e2,<-e1];by_cases hkj:k<j
    ·rw[hT k hkj (by omega)]; exact(by simpa[cB] using hkj:Nat.blt k j=true).symm
    ·rw[hFs k (by omega)];cases hb:Nat.blt k j with
     | false=>rfl
     | true=>exact absurd (by simpa[cB] using hb) hkj
   have hset:(m.toArray).setIfInBounds j true=(kZ m j).toArray:=by rw[fU]; simp
   have hjm:j<m.length:=by omega
   have hgs:∀ k,cF (kZ m j) k false=(if k=j then true else cF m k false):=by
    intro k;rw[fU,cJ,cJ];simp only[bO,lK];by_cases hki:k=j
    ·subst hki; simp[hjm]
    ·simp[hki,show j≠k from fun h=>hki h.symm]
   refine wpAny_take (i:=j) (oi:=o) (v:=v) (by simpa using ho) hns (by rw[hm]; exact hs2) (by simpa using rdy m hml j o ho (hFs j (cY _)) fun k hk=>hT k (hdlt ho k hk) (Nat.lt_trans (hdlt ho k hk) hjL)) (fun c a w h=>absurd rfl (h.2 c)) (.inl ⟨hw,hv⟩) ?_;rw[hset];refine ih (j+1) hd' hs3 f (kZ m j) (by rw[fU]; simpa using hml) (fun k hk hkL=>?_) (fun k hk=>?_) (by simp only[lE]at hfu; omega) _ w hK
   ·rw[hgs];split
    ·rfl
    ·exact hT k (by omega) hkL
   ·rw[hgs,aT (by omega)]; exact hFs k (by omega)
 have tail:∀ (t:List Oper) (j:Nat),l.length<=j->L.drop j=t->chT L j t=true->∀ (fuel:Nat) (m:List Bool),m.length=L.length->(∀ i,i<j->i<L.length->cF m i false=true)->(∀ i,j<=i->cF m i false=false)->t.length<=fuel ->
   ∀ a w,wpList P L.toArray (kK E Q) t a w->wpAny P .any L.toArray (kK E Q) fuel m.toArray a w:=by
  intro t
  induction t with
  | nil=>intro j _ hd _ fuel m hml hT hFs _ a w hq;refine tN (List.eq_nil_iff_forall_not_mem.2 fun i hi=>?_) (by simpa only[wpList] using hq) fuel;obtain⟨hri,hiL⟩:=pP hi;have hlen:=List.drop_eq_nil_iff.1 hd;have:=(notyet m i hri (by omega)).1;rw[hT i (by omega) hiL]at this;cases this
  | cons o t ih=>
   intro j hj hd hch fuel m hml hT hFs hfu a w hq;simp only[chT,jG,bJ]at hch;rcases hch with⟨hns,hsb⟩ | ⟨honly,hch⟩
   ·exact iM (fun e a w h=>h.1) fuel _ a w (sil hns (o::t) j hd hsb fuel m hml hT hFs hfu a w hq)
   have ho:L[j]? = some o:=by rw[<-List.head?_drop,hd]; rfl
   have hjL:j<L.length:=(bZ.1 ho).1;have hd':L.drop (j+1)=t:=by rw[<-List.tail_drop,hd]; rfl
   obtain⟨f,rfl⟩:∃ f,fuel=f+1:=⟨fuel-1,by simp only[lE]at hfu; omega⟩;refine⟨fun hr=>?_,fun i hi=>?_⟩
   ·have:=rdy m hml j o ho (hFs j (cY _)) fun k hk=>hT k (hdlt ho k hk) (Nat.lt_trans (hdlt ho k hk) hjL);rw[hr]at this;cases this
   ·obtain⟨hri,hiL⟩:=pP hi;have him:i<m.length:=by omega
    obtain⟨n1,n2⟩:=notyet m i hri him;have hij:i=j:=by
     refine Ga fun hne=>?_;have hlt:j<i:=by refine Ga fun h=>?_;rw[hT i (by omega) hiL]at n1;cases n1
     obtain⟨k,hk1,hk2⟩:=xN honly (dE hiL) hlt;have h1:=n2 _ (dE hiL) _ hk1;rw[hFs k hk2]at h1;cases h1
    subst hij;have hset:(m.toArray).setIfInBounds i true=(kZ m i).toArray:=by rw[fU]; simp
    have hgs:∀ k,cF (kZ m i) k false=(if k=i then true else cF m k false):=by
     intro k;rw[fU,cJ,cJ];simp only[bO,lK];by_cases hki:k=i
     ·subst hki; simp[him]
     ·simp[hki,show i≠k from fun h=>hki h.symm]
    have go:∀ a w,wpList P L.toArray (kK E Q) t a w->wpAny P .any L.toArray (kK E Q) f (m.toArray.setIfInBounds i true) a w:=by
     intro a w h;rw[hset];refine ih (i+1) (by omega) hd' hch f (kZ m i) (by rw[fU]; simpa using hml) (fun k hk hkL=>?_) (fun k hk=>?_) (by simp only[lE]at hfu; omega) a w h
     ·rw[hgs];split
      ·rfl
      ·exact hT k (by omega) hkL
     ·rw[hgs,aT (by omega)]; exact hFs k (by omega)
    simp only[wpList]at hq;unfold wpOp;rw[show (L.toArray)[i]? = some o by simpa using ho];simp only;split
    ·rename_i hw;rw[aH hw]at hq;rcases hq with hq | hq
     ·exact .inl (Oper.wp_mono go hq)
     ·exact .inr hq
    ·rename_i hw;rw[aT hw]at hq;exact go _ _ hq
 have key:∀ (fuel:Nat) (m:List Bool),m.length=L.length->(∀ i k,cF m i false=true->k∈pre.getD i []->cF m k false=true)->(∀ i,l.length<=i->cF m i false=false)->m.count false<=fuel->∀ a w,Rel E (SS fun j=>cF m j false) a w ->
   wpAny P .any L.toArray (kK E Q) fuel m.toArray a w:=by
  have fin:∀ (fuel:Nat) (m:List Bool),m.length=L.length->(∀ i,l.length<=i->cF m i false=false)->m.count false<=fuel->(∀ i,i<l.length->cF m i false=true)->∀ a w,Rel E (SS fun j=>cF m j false) a w->wpAny P .any L.toArray (kK E Q) fuel m.toArray a w:=by
   intro fuel m hml hts hcnt hall a w r;refine tail tl l.length (cY _) (by rw[hL]; simp) htl2 fuel m hml (fun i hi _=>hall i hi) hts ?_ a w (hk a w (toF m hall hts r));have h1:(m.drop l.length).count false=(m.drop l.length).length:=by
    refine List.count_eq_length.2 fun b hb=>?_;obtain⟨q,hq,rfl⟩:=wX.1 hb;have h2:=hts (l.length+q) (by omega);rw[cJ]at h2;have h3:l.length+q<m.length:=by rw[fC]at hq; omega
    rw[List.getElem_drop];have:m[l.length+q]=false:=by simpa[bO,h3] using h2
    exact this.symm
   have h4:m.count false=(m.take l.length).count false+(m.drop l.length).count false:=by rw[<-List.count_append,sT]
   rw[fC]at h1;omega
  intro fuel
  induction fuel with
  | zero=>
   intro m hml hcl hts hcnt a w r;refine fin 0 m hml hts hcnt (fun i hi=>?_) a w r;have him:i<m.length:=by omega
   cases hb:cF m i false with
   | true=>rfl
   | false=>
    exfalso;rw[cJ]at hb;have:m[i]=false:=by simpa[bO,him] using hb
    have:=List.count_pos_iff.2 (this▸lC him);omega
  | succ fuel ih=>
   intro m hml hcl hts hcnt a w r;by_cases hall0:∀ i,i<l.length->cF m i false=true
   ·exact fin (fuel+1) m hml hts hcnt hall0 a w r
   refine⟨fun hr=>absurd (done m hml fun i _ h=>by rw[hr]at h; cases h) hall0,fun i hi=>?_⟩;obtain⟨hri,hiL⟩:=pP hi;have him:i<m.length:=by omega
   obtain⟨hmi0,hdeps0⟩:=notyet m i hri him;have hil:i<l.length:=by
    refine Ga fun hn=>?_;have ho:=dE hiL;by_cases hin:i=l.length
    ·subst hin;have hd:=hdeps0 _ ho;refine hall0 fun k hk'=>?_;have e0:L[l.length]? = tl[0]?:=by rw[hL,dF (cY _),Nat.sub_self]
     have hoT:tl[0]? = some L[l.length]:=e0.symm.trans ho
     match tl,htl,hoT with
     | x::t,h,hoT=>
      simp only[tlB,bJ]at h;have hx:x=L[l.length]:=by simpa using hoT
      have:=cU.1 h.1 k (pG.2 hk');rw[hx]at this;simp only[jG,List.any_eq_true]at this;rcases this with h | ⟨j,hj,h⟩
      ·exact hd k (bS.1 h)
      ·exact hcl j k (hd j hj) (bS.1 h)
    ·obtain⟨k,hk1,hk2⟩:=late i _ (by omega) ho;have:=hdeps0 _ ho _ hk1;rw[hts k hk2]at this;cases this
   have hol0:l[i]? = some l[i]:=dE hil;have ho:L[i]? = some l[i]:=by rw[hat hil]; exact hol0
   have hmi:cF m i false=false:=by
    unfold yS at hri;split at hri
    ·cases hri
    ·rename_i hb;rw[cJ]at hb ⊢;simpa[bO,him] using hb
   have hdeps:∀ j,j∈eU l[i]->cF m j false=true:=by
    unfold yS at hri;split at hri
    ·cases hri
    ·rw[ho]at hri;exact fun j hj=>cU.1 hri j hj
   have hpi:=uS hpre ho;simp only[cH]at hpi;have hprem:∀ k,k∈pre.getD i []->cF m k false=true:=by
    intro k hk;rcases (hpi.2 k hk).2 with h | ⟨j,hj,h⟩
    ·exact hdeps k h
    ·exact hcl j k (hdeps j hj) h
   have hinot:i∉pre.getD i []:=fun h=>Nat.lt_irrefl _ (hpi.2 i h).1;have hsucc:∀ j,i∈pre.getD j []->cF m j false=false:=by
    intro j hj;cases hb:cF m j false with
    | false=>rfl
    | true=>rw[hcl j i hb hj]at hmi; cases hmi
   have hsub1:∀ e,e∈(stI st fr0 L lo ol pre i).fr->e∈(SS fun j=>cF m j false).fr:=by
    intro e he;simp only[stI,dT]at he;show e∈frP _ L fr0++kW _ 0 L lo;rw[dT];rcases he with he | he
    ·obtain⟨h1,h2⟩:=lT.1 he;refine .inl (lT.2 ⟨h1,fun k o h3 h4=>?_⟩);have:=h2 k o h3 h4;simp only[Bool.not_eq_false',jG]at this;rcases this with (h | h) | h
     ·rw[aZ h]; exact hmi
     ·exact hsucc k (bS.1 h)
     ·exact hts k (by have:=cP h; omega)
    ·obtain⟨k,o,x,h1,h2,h3,h4,h5⟩:=jM he;exact .inr (rN h1 h2 (by rw[cH]at h3 ⊢; exact hprem k (bS.1 h3)) h4 h5)
   have hsub2:∀ e,e∈(stI st fr0 L lo ol pre i).hp->e∈(SS fun j=>cF m j false).hp:=by
    intro e he;obtain⟨new,js,h1,h2⟩:=gQ he;obtain⟨h1,h3⟩:=mC.1 h1;refine nG h1 ?_;rw[<-h2];refine iP fun j hj=>?_;have:=cU.1 h3 j hj;simp only[jG]at this;cases hin:inN j (pre.getD i []) with
    | true=>exact hprem j (bS.1 hin)
    | false=>
     rcases this with (h | h) | h
     ·rw[aZ h]; exact hmi
     ·rw[hin]at h; cases h
     ·exact hsucc j (bS.1 h)
   have huq:∀ k x y,(k,x)∈(SS fun j=>cF m j false).hp->(k,y)∈(SS fun j=>cF m j false).hp->x=y:=by intro k x y h1 h2;obtain⟨n1,j1,h3,h4⟩:=gQ h1;obtain⟨n2,j2,h5,h6⟩:=gQ h2;have:=qE hol h3 h5 rfl;cases this;rw[h4]at h6;exact pF h6
   obtain⟨x,hx,hxd⟩:=lo_at hol0;have heff:=At he hol0;rw[cH]at heff;unfold Sd at heff;rw[hxd]at heff;have hCs:All (match look conds i with | some l=>l | none=>[]):=by
    split
    ·rename_i h; exact hA.mem _ (aE h)
    ·exact trivial
   unfold wpOp;rw[show (L.toArray)[i]? = some l[i] by simpa using ho];simp only;have fin2:(if Region.wanted l[i] (yielded L.toArray a.tmps) then l[i].wp P a w (wpAny P .any L.toArray (kK E Q) fuel (m.toArray.setIfInBounds i true)) (kK E Q) else wpAny P .any L.toArray (kK E Q) fuel (m.toArray.setIfInBounds i true) (a.put l[i].dst undef) w) ->
     (if Region.wanted l[i] (yielded L.toArray a.tmps) then l[i].wp P a w (wpAny P .any L.toArray (kK E Q) fuel (m.toArray.setIfInBounds i true)) (kK E Q)\/l[i].asks P a w/\LetsOut (kK E Q) else wpAny P .any L.toArray (kK E Q) fuel (m.toArray.setIfInBounds i true) (a.put l[i].dst undef) w):=by
    intro hh;split
    ·rename_i hw; rw[aH hw]at hh; exact .inl hh
    ·rename_i hw; rw[aT hw]at hh; exact hh
   refine fin2 (Sk hG (fun k args r Hs ch hca=>hc.mem _ (aE hca)) hsub1 hsub2 huq heff hCs (fun f hf i=>by obtain⟨_,_,rfl⟩:=cE.1 hf; rfl) (fun k args r Hs ch hca hwt=>by rw[hca,hwt]) (fun d hia=>?_) r fun a' w' r'=>?_)
   ·
    obtain⟨c1,c2,c3,c4⟩:=rL hall hol0 hia;simp only[cH]at c1 c4;refine⟨fun e he=>?_,fun e he=>?_⟩
    ·change e∈frP _ L fr0++kW _ 0 L lo at he;rcases dT.1 he with he | he
     ·exact c3 e (lT.1 he).1
     ·obtain⟨k,o,y,h1,h2,h3,h4,h5⟩:=jM he;rw[cH]at h3;rcases (oA c1 h2).1 _ h5 with h | h | h
      ·exact h
      ·rw[cH]at h; rw[hsucc k h]at h3; cases h3
      ·rw[cH]at h; subst h; rw[hmi]at h3; cases h3
    ·obtain⟨new,js,h1,h2⟩:=gQ he;obtain⟨d1,d2⟩:=tC c2 h1;constructor
     ·cases hb:Nat.beq e.1 d with
      | false=>rfl
      | true=>
       exfalso;have hed:=aZ hb;have hnew:=d1 hed;rcases lN h2 with h | ⟨j,hj,hpj,_⟩
       ·rw[hnew]at h; simp[ini]at h
       ·rcases c4 _ h1 hed j hj with h | h
        ·subst h; rw[hmi]at hpj; cases hpj
        ·rw[hsucc j h]at hpj; cases hpj
     ·rcases lN h2 with h | ⟨j,hj,hpj,hmd⟩
      ·exact d2 _ h
      ·have hjl:j<lo.length:=by
        by_cases hjl:j<lo.length
        ·exact hjl
        ·exfalso;have:cF m j false=false:=hts j (by omega);rw[this]at hpj; cases hpj
       have hlj:lo[j]? = some lo[j]:=dE hjl;have hgd:lo.getD j default=lo[j]:=by simp[hjl]
       unfold Di at hmd;rw[hgd]at hmd;split at hmd
       ·rename_i v0 o0 c0 q0 f0 hv0;split at hmd
        case h_2=>cases hmd
        cases hmd;rcases (oA c1 hlj).2 o0 e.2 q0 (by rw[hv0]) with h | h | h
        ·exact h
        ·rw[cH]at h; rw[hsucc j h]at hpj; cases hpj
        ·rw[cH]at h; subst h; rw[hmi]at hpj; cases hpj
       ·cases hmd
   ·
    have hset:(m.toArray).setIfInBounds i true=(kZ m i).toArray:=by rw[fU]; simp
    rw[hset];have hgs:∀ j,cF (kZ m i) j false=(if j=i then true else cF m j false):=by
     intro j;rw[fU,cJ,cJ];simp only[bO,lK];by_cases hji:j=i
     ·subst hji; simp[him]
     ·simp[hji,show i≠j from fun h=>hji h.symm]
    refine ih (kZ m i) (by rw[fU]; simpa using hml) (fun j k hj hk=>?_) (fun j hj=>by rw[hgs,aT (by omega)]; exact hts j hj) ?_ a' w' ?_
    ·rw[hgs]at hj ⊢;by_cases hki:k=i
     ·simp[hki]
     ·rw[aT hki];by_cases hji:j=i
      ·subst hji; exact hprem k hk
      ·rw[aT hji]at hj; exact hcl j k hj hk
    ·have hmi2:m[i]=false:=by rw[cJ]at hmi; simpa[bO,him] using hmi
     rw[fU,List.count_set him,hmi2];have:0<m.count false:=List.count_pos_iff.2 (by rw[<-hmi2]; exact lC him);simp;omega
    ·refine r'.sub (fun e he=>?_) (fun e he=>?_)
     ·change e∈frP _ L fr0++kW _ 0 L lo at he;have old:e∈(SS fun j=>cF m j false).fr->(∀ d,l[i].dst=some d->e.1≠d)->e∈(iX (SS fun j=>cF m j false) l[i].dst (match look lits i with | some (b,_)=>some (PV.t (T.bool b)) | none=>x.val) x.md).fr:=by
       intro h1 h2;unfold iX;simp only;split
       ·rename_i d y hd _;obtain⟨k,z⟩:=e;exact bI _ (aJ.2 ⟨h1,h2 d hd⟩)
       ·exact h1
      rcases dT.1 he with he | he
      ·obtain⟨h1,h2⟩:=lT.1 he;refine old (gI _ (lT.2 ⟨h1,fun k o h3 h4=>?_⟩)) fun d hd hed=>?_
       ·have:=h2 k o h3 h4;rw[hgs]at this;split at this
        ·cases this
        ·exact this
       ·have:=h2 i l[i] ho (by rw[hd,hed]);rw[hgs,aH rfl]at this;cases this
      ·obtain⟨k,o,y,h1,h2,h3,h4,h5⟩:=jM he;rw[cH,hgs]at h3;by_cases hki:k=i
       ·subst hki;have h1:l[k]=o:=by rw[ho]at h1; exact pF h1
        have h2:x=y:=by rw[hx]at h2; exact pF h2
        subst h2;rw[h1];unfold iX;simp only;cases hlk:look lits k with
        | none=>simp only[h4,h5]; exact bT ..
        | some bv=>obtain⟨b,v⟩:=bv;have hbv:b=v:=hl.mem _ (aE hlk);subst hbv;have:=cU.1 hlit _ (aE hlk);simp only[hxd,h5]at this;simp only[h4];have hee:e=(e.1,PV.t (T.bool b)):=Prod.ext rfl (Py this);rw[<-hee];exact bT ..
       ·rw[aT hki]at h3;refine old (gV _ (rN h1 h2 (by rw[cH]; exact h3) h4 h5)) fun d hd hed=>?_;exact hki (Ou hnd h1 ho h4 (by rw[hd,hed]))
     ·obtain⟨new,js,h1,h2⟩:=gQ he;have hmo:=wF hmods hx;simp only[cH]at hmo;have old:i∉js->e∈(SS fun j=>cF m j false).hp:=by intro hnj;refine nG h1 ?_;rw[<-h2];refine iP fun j hj=>?_;have hji:j≠i:=fun h=>hnj (h▸hj);rw[hgs,aT hji]
      unfold iX;simp only;split
      ·rename_i o c q hmd;obtain⟨⟨e0,q1,q2,q3⟩,q4⟩:=hmo.1 o c q hmd;by_cases heo:e.1=o
       ·have:e0=(e.1,new,js):=qE hol q1 h1 (by rw[q2,heo]);subst this;have:=lU (o:=e.1) (q:=fun j=>cF (kZ m i) j false) (by simp[hgs]) (hchain _ h1) q3 (c:=ini st.hp e.1 new) (lo:=lo) (fun j _ hj=>by have hji:j≠i:=fun h=>hinot (h▸hj);show cF (kZ m i) j false=false;rw[hgs,aT hji]; exact hsucc j hj);rw[this,md_at hx hmd,<-heo,iD]at h2;cases h2;rw[<-heo];exact bT ..
       ·refine bI _ ?_;obtain⟨k,z⟩:=e;rcases q4 _ h1 with h | ⟨h,h'⟩ | ⟨h,h'⟩
        ·exact absurd h heo
        ·exfalso;have:=lU (o:=k) (q:=fun j=>cF (kZ m i) j false) (by simp[hgs]) (hchain _ h1) h' (c:=ini st.hp k new) (lo:=lo) (fun j _ hj=>by have hji:j≠i:=fun h=>hinot (h▸hj);show cF (kZ m i) j false=false;rw[hgs,aT hji]; exact hsucc j hj);rw[this,md_at hx hmd]at h2;have hb:Nat.beq o k=false:=by
          cases hb:Nat.beq o k with
          | false=>rfl
          | true=>exact absurd (aZ hb).symm heo
         rw[hb]at h2;cases h2
        ·refine aJ.2 ⟨?_,heo⟩;cases q with
         | none=>exact old h'
         | some q=>exact aJ.2 ⟨old h',fun hh=>h (by rw[hh])⟩
      ·rename_i hmd;exact old (hmo.2 hmd _ h1)
 refine wp_region_any hm ?_;have h0:=key L.length (List.replicate L.length false) (by simp) (fun i k h=>by rw[cJ]at h; simp[qY]at h; split at h <;> simp at h) (fun i _=>by rw[cJ]; simp[qY]; split <;> rfl) (by simp) a _ (r.drew.sub (fun e he=>?_) (fun e he=>?_))
 ·simpa using h0
 ·change e∈frP _ L fr0++kW _ 0 L lo at he;rcases dT.1 he with he | he
  ·exact(hf0 e (lT.1 he).1).1
  ·obtain⟨k,o,y,h1,h2,h3,h4,h5⟩:=jM he;rw[cJ]at h3;simp[qY]at h3;split at h3 <;> simp at h3
 ·obtain⟨new,js,h1,h2⟩:=gQ he;rw[nW (fun j _=>by rw[cJ]; simp[qY]; split <;> rfl)]at h2;unfold ini at h2;split at h2
  ·cases h2
  ·exact aE h2
def yT(I:Inf)(L l:List Oper)(calls:List (Nat×(Nat×List PV×PV×Hp×Option (Nat×aN))))(lits:List (Nat×(Bool×Bool)))(st:St)(ts:List Nat)(ol:OL):List LOp:=
 Vh I L calls lits st (eB st.fr ts) ol (vV (yZ l) []) 0 l []
theorem mQ{α:Type}{l:List (Nat×α)}:∀ {ts:List Nat} e,e∈eB l ts->e.1∈ts
 | [],e,h=>by simp[eB]at h
 | t::ts,e,h=>by
  simp only[eB]at h;split at h
  ·rcases aL.1 h with rfl | h
   ·simp
   ·exact bI _ (mQ e h)
  ·exact bI _ (mQ e h)
theorem Lf(hG:cZ P E I)(hm:P.follows .mixedOrders=true){id:Nat}{L l tl:List Oper}(hL:L=l++tl){st stF:St}(calls:List (Nat×(Nat×List PV×PV×Hp×Option (Nat×aN))))(lits:List (Nat×(Bool×Bool)))(conds:List (Nat×List Prop))(ol:OL)
  (ts:List Nat)(hc:xE P calls)(hl:pC lits)(hA:kU conds)(ts' os':List Nat)
  (hw:(wfL L l tl (vV (yZ l) []) st ts (eB st.fr ts) (yT I L l calls lits st ts ol) ol&&Je lits (yT I L l calls lits st ts ol))=true)
  (he:Dz I L calls st (eB st.fr ts) (yT I L l calls lits st ts ol) ol (vV (yZ l) []) 0 l=Cu L calls lits conds st (eB st.fr ts) (yT I L l calls lits st ts ol) ol (vV (yZ l) []) 0 l)
  (hF:(stP st (eB st.fr ts) L (yT I L l calls lits st ts ol) ol (fun j=>Nat.blt j l.length)).keep ts' os'=some stF)(hk:bY P E L Q tl stF):pwp P E (.region id L.toArray true) Q st:=by
 simp only[bJ]at hw;exact Jc hG hm hL (fun e he=>⟨mL e he,mQ e he⟩) hc hl hA ts' os' hw.1 hw.2 he hF hk
end
def rQ(L:List Nat)(x:PV):Bool:=match L with | []=>x.pure | _=>x.scalar
section
variable {P:Program} {E:Env} {I:Inf} {Q:dQ} {st:St}
end
def oV:T->T->Bool
 | .int k _,.int k' _=>decide (k=k')
 | .str _,.str _=>true
 | _,_=>false
class MKey (K:Type) where
 kT:K->T
 lt:K->K->Bool
 eq:DecidableEq K
 inj:∀ a b,kT a=kT b->a=b
 same:∀ a b,oV (kT a) (kT b)=true
instance (K:Type)[MKey K]:DecidableEq K:=MKey.eq
instance:MKey ByteArray where
 kT:=.str
 lt a b:=Op.bytesLess a.toList b.toList
 eq:=inferInstance
 inj a b h:=by injection h
 same _ _:=by rfl
instance:MKey Int where
 kT n:=.int .i64 n
 lt a b:=decide (a<b)
 eq:=inferInstance
 inj a b h:=by injection h
 same _ _:=by rfl
section
variable {K V:Type} [MKey K]
def eZ(v:List (K×V))(k:K):List (K×V):=v.filter fun p=>decide (p.1≠k)
def Ls(k:K)(c:V):List (K×V)->List (K×V)
 | []=>[(k,c)]
 | p::l=>match MKey.lt k p.1 with | true=>(k,c)::p::l | false=>p::Ls k c l
def wO(v:List (K×V))(k:K)(c:V):List (K×V):=Ls k c (eZ v k)
def cC:List (K×V)->K->Option V
 | [],_=>none
 | p::l,k=>if p.1=k then some p.2 else cC l k
def eM(enc:V->Mem)(v:List (K×V)):List (T×Mem):=v.map fun p=>(MKey.kT p.1,enc p.2)
def fY(v:List (K×V)):List K:=v.map (·.1)
def kTs(l:List K):List T:=l.map MKey.kT
theorem tM(k:K)(c:V):∀ l:List (K×V),(Ls k c l).Perm ((k,c)::l)
 | []=>.refl _
 | p::l=>by
  simp only[Ls];split
  ·exact .refl _
  ·exact((tM k c l).cons p).trans (.swap ..)
theorem Ct(v:List (K×V))(k:K)(c:V):(wO v k c).Perm ((k,c)::eZ v k):=tM k c _
theorem gR{v:List (K×V)}{k:K}(h:cC v k=none):k∉fY v:=by
 induction v with
 | nil=>simp[fY]
 | cons p l ih=>
  simp only[cC]at h;split at h
  ·cases h
  ·rename_i hp;have:=ih h;simp only[fY,fX,aL,not_or]at this ⊢;exact⟨fun e=>hp e.symm,this⟩
theorem kL{v:List (K×V)}{k:K}(h:k∉fY v):eZ v k=v:=by refine List.filter_eq_self.2 fun p hp=>?_;simp only[tA];intro e;exact h (e▸kN hp)
theorem zE{v:List (K×V)}{k:K}{c:V}(hn:(fY v).Nodup)(h:cC v k=some c):v.Perm ((k,c)::eZ v k):=by
 induction v with
 | nil=>simp[cC]at h
 | cons p l ih=>
  simp only[fY,fX,xB]at hn;simp only[cC]at h;split at h
  ·rename_i hp;injection h with h;have:eZ (p::l) k=l:=by have hl:eZ l k=l:=kL (hp▸hn.1);unfold eZ at hl ⊢;rw[List.filter_cons_of_neg (by simp[hp])];exact hl
   rw[this,<-h,<-hp]
  ·rename_i hp;have:=ih hn.2 h;have e:eZ (p::l) k=p::eZ l k:=by unfold eZ;rw[List.filter_cons_of_pos (by simpa using hp)]
   rw[e];exact(this.cons p).trans (.swap ..)
theorem Az{enc:V->Mem}{v v':List (K×V)}(h:v.Perm v'):(eM enc v).Perm (eM enc v'):=h.map _
theorem jZ{enc:V->Mem}{v:List (K×V)}:(eM enc v).map (·.1)=kTs (fY v):=by simp[eM,kTs,fY,List.map_map,Function.comp_def]
theorem uC{l:List K}{k:K}:MKey.kT k∈kTs l↔k∈l:=by simp only[kTs,cE];exact⟨fun⟨a,h1,h2⟩=>MKey.inj _ _ h2▸h1,fun h=>⟨k,h,rfl⟩⟩
theorem tH{l:List K}(h:(kTs l).Nodup):l.Nodup:=by
 induction l with
 | nil=>simp
 | cons a l ih=>simp only[kTs,fX,xB]at h;exact xB.2 ⟨fun hm=>h.1 (kN hm),ih h.2⟩
theorem Ig{enc:V->Mem}{v:List (K×V)}(h:((eM enc v).map (·.1)).Nodup):(fY v).Nodup:=tH (by rw[<-jZ (enc:=enc)]; exact h)
end
section
variable {F:Nat->Prop} {g:Nat->Value} {w:World} {b clock:Nat} {es:Array MapEntry} {it:Option dO}
theorem iT.perm{β:Type}{R:α->β->Prop}{l l':List α}(hp:l.Perm l'):∀ {r:List β},iT R l r->∃ r':List β,iT R l' r'/\(l.zip r).Perm (l'.zip r')/\r.Perm r':=by
 induction hp with
 | nil=>intro r h; cases h; exact⟨[],.nil,.refl _,.refl _⟩
 | cons x _ ih=>
  intro r h;cases h with
  | cons h t=>obtain⟨r',h1,h2,h3⟩:=ih t;exact⟨_::r',.cons h h1,by simpa using h2,h3.cons _⟩
 | swap x y l=>
  intro r h;cases h with
  | cons h t=>cases t with
   | cons h' t=>exact⟨_::_::_,.cons h' (.cons h t),by simpa using .swap ..,.swap ..⟩
 | trans _ _ ih1 ih2=>intro r h;obtain⟨r1,h1,h2,h3⟩:=ih1 h;obtain⟨r2,h4,h5,h6⟩:=ih2 h1;exact⟨r2,h4,h2.trans h5,h3.trans h6⟩
def wS(z:List ((T×Mem)×MapEntry)):Prop:=z.Pairwise fun a c=>a.1.2.owned=true->c.1.2.owned=true->∀ x,blk a.2.val=some x->blk c.2.val=some x->False
theorem Kp{m:List (T×Mem)}{l:List MapEntry}(h:∀ (i j:Nat) x y e e' c,m[i]? = some x->m[j]? = some y->l[i]? = some e->l[j]? = some e'->i≠j->x.2.owned=true->y.2.owned=true->blk e.val=some c->blk e'.val=some c->False):
  wS (m.zip l):=by
 unfold wS;rw[List.pairwise_iff_getElem];intro i j hi hj hlt ho ho' x hx hx';simp only[List.length_zip]at hi hj;rw[List.getElem_zip]at ho ho' hx hx';exact h i j m[i] m[j] l[i] l[j] x (dE (by omega)) (dE (by omega)) (dE (by omega)) (dE (by omega)) (by omega) ho ho' hx hx'
theorem Mw{m:List (T×Mem)}{l:List MapEntry}(h:wS (m.zip l)):∀ (i j:Nat) x y e e' c,m[i]? = some x->m[j]? = some y->l[i]? = some e->l[j]? = some e'->i≠j->x.2.owned=true->y.2.owned=true->blk e.val=some c->blk e'.val=some c->False:=by
 unfold wS at h;rw[List.pairwise_iff_getElem]at h;have key:∀ (i j:Nat) x y e e' c,m[i]? = some x->m[j]? = some y->l[i]? = some e->l[j]? = some e'->i<j->x.2.owned=true->y.2.owned=true->blk e.val=some c->blk e'.val=some c->False:=by intro i j x y e e' c hx hy he he' hlt ho ho' hb hb';obtain⟨h1,rfl⟩:=bZ.1 hx;obtain⟨h2,rfl⟩:=bZ.1 hy;obtain⟨h3,rfl⟩:=bZ.1 he;obtain⟨h4,rfl⟩:=bZ.1 he';exact h i j (by simp; omega) (by simp; omega) hlt (by simpa using ho) (by simpa using ho') c (by simpa using hb) (by simpa using hb')
 intro i j x y e e' c hx hy he he' hne ho ho' hb hb';rcases Nat.lt_or_gt_of_ne hne with h' | h'
 ·exact key i j x y e e' c hx hy he he' h' ho ho' hb hb'
 ·exact key j i y x e' e c hy hx he' he h' ho' ho hb' hb
theorem wS.perm{z z':List ((T×Mem)×MapEntry)}(h:wS z)(hp:z.Perm z'):wS z':=by unfold wS at h ⊢;exact(hp.pairwise_iff (fun {a c} h ho ho' x hx hx'=>h ho' ho x hx' hx)).1 h
theorem MpR.permM{m m':List (T×Mem)}{ho:Option (T×Option PV)}{l:List MapEntry}(h:MpR F g w b es clock it m ho l r)(hp:m.Perm m'):∃ l',MpR F g w b es clock it m' ho l' r:=by obtain⟨l',h1,h2,h3⟩:=h.ent.perm hp;refine⟨l',((h3.append_right r).symm).trans h.perm,h1,h.hole,?_,h.born,h.old,Mw ((Kp h.sep).perm h2),h.it⟩;exact(((hp.map _).append_right _).nodup_iff).1 h.keys
theorem MpR.focus{m:List (T×Mem)}{k:T}{l:List MapEntry}(h:MpR F g w b es clock it ((k,y)::m) none l r){g':Nat->Value}{p:Option PV}(hp:∀ q,p=some q->∀ v,sA F w y v->(∃ e,e∈es.toList/\e.val=v/\KeyR k e.key)->VR F g' w q v)
  (hit:ItR g' w b es clock it):∃ e l',l=e::l'/\KeyR k e.key/\sA F w y e.val/\e∈es.toList/\MpR F g' w b es clock it m (some (k,p)) l' [e]:=by
 have hr:=h.hole;simp only[gY]at hr;subst hr;have hperm:=h.perm;cases hent:h.ent with
 | @cons _ e _ l' hR t=>
  have he:e∈es.toList:=hperm.mem_iff.1 (by simp);refine⟨e,l',rfl,hR.1,hR.2,he,⟨?_,t,?_,?_,h.born,h.old,fun i j x y' e1 e2 c hx hy h1 h2 hne=>h.sep (i+1) (j+1) x y' e1 e2 c (by simpa using hx) (by simpa using hy) (by simpa using h1) (by simpa using h2) (by omega),hit⟩⟩
  ·rw[eK]at hperm;refine List.Perm.trans ?_ hperm;exact mV (l₁:=l') (l₂:=[e])
  ·cases p with
   | none=>exact .inr ⟨e,rfl,hR.1⟩
   | some q=>exact⟨e,rfl,hR.1,hp q rfl _ hR.2 ⟨e,he,rfl,hR.1⟩⟩
  ·have hk:=h.keys;simp only[fX,hoK,eK]at hk ⊢;refine(Ah ?_).1 hk;exact mV (l₁:=[k]) (l₂:=m.map (·.1))
end
def yE:T->Option TypeDesc
 | .int k _=>some (.int k)
 | .str _=>some .string
 | _=>none
section
variable {P:Program} {w:World}
theorem rF{k:T}{kv:Value}(hk:KeyR k kv){kd:TypeDesc}(hd:yE k=some kd):∀ (es:List MapEntry) (i:Nat),(∀ e,e∈es->∃ k',KeyR k' e.key/\oV k k'=true) ->
  (Instr.findNow kd kv es i=some none/\∀ e,e∈es->¬ KeyR k e.key)\/∃ j e,es[j]? = some e/\KeyR k e.key/\Instr.findNow kd kv es i=some (some (i+j,e.val))
 | [],i,_=>.inl ⟨rfl,by simp⟩
 | e::es,i,h=>by
  obtain⟨k',h1,h2⟩:=h e (by simp);have ih:=rF hk hd es (i+1) fun e' he=>h e' (bI _ he);have hs:∃ q,Instr.sameNow kd kv e.key=some q/\(q=true↔k=k'):=by
   generalize e.key=u at h1;cases hk with
   | int q n=>
    cases h1 with
    | int q' n'=>simp only[oV,tA]at h2;subst h2;simp only[yE,cV]at hd;subst hd;exact⟨n==n',by simp[Instr.sameNow],by simp⟩
    | str s=>cases h2
   | str s=>
    cases h1 with
    | int q' n'=>cases h2
    | str s'=>simp only[yE,cV]at hd;subst hd;exact⟨s==s',by simp[Instr.sameNow],by rw[MapKept.bytes_beq]; exact⟨fun h=>by rw[h],fun h=>by injection h⟩⟩
  obtain⟨q,hs,hq⟩:=hs;simp only[Instr.findNow,hs];cases q with
  | true=>have hkk:=hq.1 rfl;subst hkk;exact .inr ⟨0,e,by simp,h1,rfl⟩
  | false=>
   have hkk:k≠k':=fun e=>by have:=hq.2 e; cases this
   rcases ih with⟨h3,h4⟩ | ⟨j,e',h3,h4,h5⟩
   ·refine .inl ⟨h3,fun x hx=>?_⟩;rcases aL.1 hx with rfl | hx
    ·exact fun hk'=>hkk (hk'.inj h1)
    ·exact h4 x hx
   ·exact .inr ⟨j+1,e',by simpa using h3,h4,by rw[h5,kF,Nat.add_comm 1 j]⟩
structure Ch (P:Program)(t:TypeId)(k:T)(kt et:TypeId)(kd:TypeDesc):Prop where
 und:P.underlying t=some (.map kt et)
 key:P.underlying kt=some kd
 d:yE k=some kd
theorem fI{t et:TypeId}{k:T}(hT:Ch P t k kt et kd)(em:Bool)(v:Value)(n:Nat):(Instr.checkKey em (n+1) kt v).run P w = .ok () w:=by
 have hd:=hT.d;unfold Instr.checkKey;simp only[Sem.run_bind,run_underlying hT.key,Result.andThen_ok];cases k with
 | int q m=>simp only[yE,cV]at hd; subst hd; cases v <;> rfl
 | str s=>simp only[yE,cV]at hd; subst hd; cases v <;> rfl
 | _=>cases hd
theorem lF{t et:TypeId}{k:T}(hT:Ch P t k kt et kd)(hk:KeyR k kv)(es:List MapEntry)(h:∀ e,e∈es->∃ k',KeyR k' e.key/\oV k k'=true):
  ((Instr.findKey kt kv es).run P w = .ok none w/\∀ e,e∈es->¬ KeyR k e.key)\/∃ j e,es[j]? = some e/\KeyR k e.key/\(Instr.findKey kt kv es).run P w = .ok (some (j,e.val)) w:=by
 have hf:=rF hk hT.d es 0 h;unfold Instr.findKey;simp only[Sem.run_bind,run_underlying hT.key,Result.andThen_ok];rcases hf with⟨h1,h2⟩ | ⟨j,e,h1,h2,h3⟩
 ·exact .inl ⟨by rw[h1]; rfl,h2⟩
 ·exact .inr ⟨j,e,h1,h2,by rw[h3,cH]; rfl⟩
theorem jO{t et:TypeId}{k:T}(hT:Ch P t k kt et kd)(hk:KeyR k kv){b clock:Nat}{es:Array MapEntry}(hb:w.heap[b]? = some (.map es clock))(h:∀ e,e∈es.toList->∃ k',KeyR k' e.key/\oV k k'=true)
  {info:TypeInfo}(hi:P.info? et=some info)(hz:info.zero=some z):
  ((Instr.lookup t (.map (some b)) kv false).run P w = .ok z w/\∀ e,e∈es.toList->¬ KeyR k e.key)\/∃ e,e∈es.toList/\KeyR k e.key/\(Instr.lookup t (.map (some b)) kv false).run P w = .ok e.val w:=by
 have hf:=lF (w:=w) hT hk es.toList h;unfold Instr.lookup;simp only[Sem.run_bind,run_underlying hT.und,Result.andThen_ok,Go.run_getObj_map w b es clock hb,Sem.run_pure,fI hT];rcases hf with⟨h1,h2⟩ | ⟨j,e,h1,h2,h3⟩
 ·exact .inl ⟨by rw[h1]; simp[zeroValue,typeInfo,hi,hz],h2⟩
 ·exact .inr ⟨e,eE h1,h2,by rw[h3]; simp⟩
end
def gU(N:List Nat)(o d:Nat)(x' y:aN)(st:St):Option St:=
 match jN d N,Nat.beq d o,st.erase d with
 | true,false,some st1=>some { fr:=st1.fr,hp:=(d,y)::(o,x')::del o st1.hp }
 | _,_,_=>none
section
variable {P:Program} {E:Env} {I:Inf} {F:Nat->Prop} {g:Nat->Value} {st st2:St} {a:Act} {w:World}
theorem bA.focus(hN:E.N=I.N)(r:bA E F g st a w){d:Nat}{x y:aN}(u:Value)(hl:look st.hp o=some x)(hs:gU I.N o d x' y st=some st2)
  (hx':∀ g',(∀ k,k≠d->g' k=g k)->g' d=u->bL F g' w o x')(hy:∀ g',(∀ k,k≠d->g' k=g k)->g' d=u->bL F g' w d y)
  (fx:∀ g' b,(∀ k,k≠d->g' k=g k)->g' d=u->aK g' w o x' b->aK g w o x b)(fy:∀ g' b,(∀ k,k≠d->g' k=g k)->g' d=u->aK g' w d y b->aK g w o x b)
  (dis:∀ g' b,(∀ k,k≠d->g' k=g k)->g' d=u->aK g' w o x' b->aK g' w d y b->False):
  d≠o/\∃ g',g' d=u/\(∀ k,k≠d->g' k=g k)/\bA E F g' st2 a w:=by
 unfold gU at hs;split at hs
 ·rename_i st1 hn hdo he;cases hs;have hdo:=gD hdo;have ho:=fun k (hk:k≠d)=>aQ g u hk;have hlm:=aE hl;refine⟨hdo,upd g d u,aP ..,ho,r.nt,r.df,fun t z hz=>?_,⟨?_,r.w.f0,r.w.f1,r.w.ext,fun k hk=>?_,r.w.b0⟩⟩
  ·obtain⟨h1,h2⟩:=St.erase_fr he t z hz;exact(r.fr t z h1).mono (fun b hb=>⟨hb,rfl⟩) (fun k hk=>ho k (h2 k hk))
  ·have old:∀ k z,(k,z)∈del o st1.hp->k≠o/\∃ z',(k,z')∈st.hp/\bL F (upd g d u) w k z/\∀ b,aK (upd g d u) w k z b->aK g w k z' b:=by
    intro k z hz;obtain⟨h1,h2⟩:=aJ.1 hz;obtain⟨z',h3,h4,h5,h6,h7⟩:=St.erase_hp he k z h1;exact⟨h2,z',h3,(h6 _ _ _ (r.w.hp.obj k z' h3)).mono (fun b hb=>⟨hb,rfl⟩) (ho k h4) (fun k' hk'=>ho k' (h5 k' hk')) (fun _ _=>rfl),
     fun b hb=>h7 _ _ _ (hb.mono (ho k h4) (fun k' hk'=>ho k' (h5 k' hk')) (fun _ _=>rfl))⟩
   have foot:∀ k z b,(k,z)∈(d,y)::(o,x')::del o st1.hp->aK (upd g d u) w k z b->∃ k' z',(k',z')∈st.hp/\aK g w k' z' b/\(k=k'\/k=d/\k'=o):=by
    intro k z b hz hb;rcases aL.1 hz with e | hz
    ·cases e; exact⟨o,x,hlm,fy _ b ho (aP ..) hb,.inr ⟨rfl,rfl⟩⟩
    ·rcases aL.1 hz with e | hz
     ·cases e; exact⟨o,x,hlm,fx _ b ho (aP ..) hb,.inl rfl⟩
     ·obtain⟨_,z',h1,_,h3⟩:=old k z hz;exact⟨k,z',h1,h3 b hb,.inl rfl⟩
   refine⟨fun k z hz=>?_,fun k z b hz hb=>?_,fun k z k' z' b hz hz' hne hb hb'=>?_⟩
   ·rcases aL.1 hz with e | hz
    ·cases e; exact hy _ ho (aP ..)
    ·rcases aL.1 hz with e | hz
     ·cases e; exact hx' _ ho (aP ..)
     ·exact(old k z hz).2.choose_spec.2.1
   ·obtain⟨k',z',h1,h2,_⟩:=foot k z b hz hb;exact r.w.hp.own k' z' b h1 h2
   ·have hmem:∀ k z,(k,z)∈(d,y)::(o,x')::del o st1.hp->k=d/\z=y\/k=o/\z=x'\/k≠o/\(k,z)∈del o st1.hp:=by
     intro k z hz;rcases aL.1 hz with e | hz
     ·cases e; exact .inl ⟨rfl,rfl⟩
     ·rcases aL.1 hz with e | hz
      ·cases e; exact .inr (.inl ⟨rfl,rfl⟩)
      ·exact .inr (.inr ⟨(aJ.1 hz).2,hz⟩)
    obtain⟨q,z1,h1,h2,h3⟩:=foot k z b hz hb;obtain⟨q',z1',h1',h2',h3'⟩:=foot k' z' b hz' hb';by_cases hq:q=q'
    ·subst hq;rcases h3 with h3 | ⟨h3,h4⟩
     ·rcases h3' with h3' | ⟨h3',h4'⟩
      ·exact hne (h3.trans h3'.symm)
      ·subst h3'; subst h4'; subst h3;rcases hmem _ _ hz with⟨e1,e2⟩ | ⟨e1,e2⟩ | ⟨e1,e2⟩
       ·exact hne e1
       ·subst e2;rcases hmem _ _ hz' with⟨_,e4⟩ | ⟨e3,e4⟩ | ⟨e3,e4⟩
        ·subst e4; exact dis _ b ho (aP ..) hb hb'
        ·exact hdo e3
        ·obtain⟨z',h3,h4,_⟩:=St.erase_hp he _ _ (aJ.1 e4).1;exact h4 rfl
       ·exact e1 rfl
     ·subst h3; subst h4;rcases h3' with h3' | ⟨h3',h4'⟩
      ·subst h3';rcases hmem _ _ hz' with⟨e1,e2⟩ | ⟨e1,e2⟩ | ⟨e1,e2⟩
       ·exact hdo e1.symm
       ·subst e2;rcases hmem _ _ hz with⟨_,e4⟩ | ⟨e3,e4⟩ | ⟨e3,e4⟩
        ·subst e4; exact dis _ b ho (aP ..) hb' hb
        ·exact hdo e3
        ·obtain⟨z',h3,h4,_⟩:=St.erase_hp he _ _ (aJ.1 e4).1;exact h4 rfl
       ·exact e1 rfl
      ·exact hne h3'.symm
    ·exact r.w.hp.sep q z1 q' z1' b h1 h1' hq h2 h2'
  ·rw[ho k (fun e:k=d=>cI hn (by rw[<-e,<-hN]; exact hk))];exact r.w.names k hk
 ·cases hs
theorem bW{ops l:List Oper}{o:Oper}{rest:List Oper}{Q:dQ}(hl:l=o::rest)(hw:aU ops o st=some true)
  (h:∀ F g a w,bA E F g st a w->∃ n v w' st',(execOp a.eval o).run P w = .ok n w'/\(n = .value v\/(n = .skip/\v=undef))/\Rel E st' (a.put o.dst v) w'/\bY P E ops Q rest st'):bY P E ops Q l st:=by
 subst hl;intro a w r;refine wpList_step fun K hK=>?_;obtain⟨F,g,r⟩:=r;have hwt:=dM (ops:=ops.toArray) r (by simpa using hw);obtain⟨n,v,w',st',h1,h2,h3,h4⟩:=h F g a w r;rw[aH hwt];unfold Oper.wp;rw[h1];rcases h2 with rfl | ⟨rfl,rfl⟩
 ·exact hK _ _ (h4 _ _ h3)
 ·exact hK _ _ (h4 _ _ h3)
def gZ(ti:Nat->Option bV)(t:Nat)(k:T):Option Nat:=
 match ti t with
 | some i=>match i.und with
  | .mp kt et=>match ti kt with
   | some j=>match j.und,k with
    | .int .i64,.int .i64 _=>some et
    | .str,.str _=>some et
    | _,_=>none
   | none=>none
  | _=>none
 | none=>none
theorem jJ(hI:gE P I.ti){k:T}(h:gZ I.ti t k=some et):∃ kt kd,Ch P t k kt et kd:=by
 unfold gZ at h;split at h
 ·rename_i i hi;split at h
  ·rename_i kt et' hu;split at h
   ·rename_i j hj;have hm:=(hI _ _ hi).und; rw[hu]at hm;have hk:=(hI _ _ hj).und;split at h
    ·rename_i hu' ; rw[hu']at hk; cases h; exact⟨kt,_,hm,hk,rfl⟩
    ·rename_i hu' ; rw[hu']at hk; cases h; exact⟨kt,_,hm,hk,rfl⟩
    ·cases h
   ·cases h
  ·cases h
 ·cases h
def rE(P:Program)(t:TypeId)(z:Value):Prop:=∃ info,P.info? t=some info/\info.zero=some z
theorem lQ{t:TypeId}(h:(P.info? t).bind (·.zero)=some z):rE P t z:=by
 cases hi:P.info? t with
 | none=>rw[hi]at h; cases h
 | some i=>rw[hi]at h; exact⟨i,hi,h⟩
end
section
variable {F:Nat->Prop} {g:Nat->Value} {w:World} {b clock:Nat} {es:Array MapEntry} {it:Option dO} {K V:Type} [MKey K] {enc:V->Mem}
theorem MpR.kinds{v:List (K×V)}{ho:Option (T×Option PV)}{l:List MapEntry}(h:MpR F g w b es clock it (eM enc v) ho l r)(hh:∀ k p,ho=some (k,p)->∃ k':K,k=MKey.kT k')(k:K):
  ∀ e,e∈es.toList->∃ k',KeyR k' e.key/\oV (MKey.kT k) k'=true:=by
 intro e he;rcases dT.1 (h.perm.mem_iff.2 he) with hl | hr
 ·obtain⟨j,y,hy,_,hR⟩:=h.ent.memr hl;have:=eE hy;simp only[eM,cE]at this;obtain⟨p,_,rfl⟩:=this;exact⟨_,hR.1,MKey.same _ _⟩
 ·have hho:=h.hole;rcases ho with _ | ⟨q,p⟩
  ·simp only[gY]at hho; subst hho; simp at hr
  ·obtain⟨k',rfl⟩:=hh q p rfl;have:KeyR (MKey.kT k') e.key:=by
    cases p with
    | none=>
     rcases hho with rfl | ⟨e',rfl,h2⟩
     ·simp at hr
     ·simp at hr; subst hr; exact h2
    | some p=>obtain⟨e',rfl,h2,_⟩:=hho;simp at hr; subst hr; exact h2
   exact⟨_,this,MKey.same _ _⟩
end
def yD(d:Nat):Option dO->Bool
 | none=>true
 | some i=>match Nat.beq i.o d with | true=>false | false=>true
theorem uE{d:Nat}{it:Option dO}(h:yD d it=true):∀ k,k∈itN it->k≠d:=by
 cases it with
 | none=>simp[itN]
 | some i=>
  simp only[yD]at h;split at h
  ·cases h
  ·rename_i hk;intro k hk';simp only[itN,bX]at hk';subst hk';exact gD hk
section
variable {F:Nat->Prop} {g g':Nat->Value} {w:World} {b clock ob d:Nat} {es:Array MapEntry} {it:Option dO}
theorem ItR.agree{it:Option dO}(h:ItR g w b es clock it)(hg:∀ k,k∈itN it->g' k=g k):ItR g' w b es clock it:=by
 cases it with
 | none=>exact True.intro
 | some i=>obtain⟨r,since,seen,c0,e1,e⟩:=h;exact⟨r,since,seen,c0,by rw[hg i.o (by simp[itN])]; exact e1,e⟩
theorem MpR.uniq{m:List (T×Mem)}{ho:Option (T×Option PV)}{l:List MapEntry}(h:MpR F g w b es clock it m ho l r){x:T×Mem}(hx:x∈m){e e':MapEntry}(he:e∈es.toList)(he':e'∈es.toList)
  (hk:KeyR x.1 e.key)(hk':KeyR x.1 e'.key):e=e':=by
 obtain⟨_,i,h1,h2⟩:=h.entry hx he hk;obtain⟨_,j,h3,h4⟩:=h.entry hx he' hk';have hn:=(pN.1 h.keys).1;have:i=j:=by
  have e1:(m.map (·.1))[i]? = some x.1:=by simp[h1]
  have e2:(m.map (·.1))[j]? = some x.1:=by simp[h3]
  exact(List.getElem?_inj (by simpa using (bZ.1 h1).1) hn).1 (e1.trans e2.symm)
 subst this;rw[h2]at h4;injection h4
theorem aK.perm{m m':List (T×Mem)}{ho:Option (T×Option PV)}(hp:m.Perm m'){x:Nat}(h:aK g w ob (.mp it m ho) x):aK g w ob (.mp it m' ho) x:=by
 cases h with
 | self h=>exact .self h
 | iter h=>exact .iter h
 | mem h1 h2 h3 h4 h5 h6 h7=>exact .mem h1 h2 h3 (hp.mem_iff.1 h4) h5 h6 h7
theorem aK.cons{m:List (T×Mem)}{ho ho':Option (T×Option PV)}{y:T×Mem}{x:Nat}(h:aK g w ob (.mp it m ho) x):aK g w ob (.mp it (y::m) ho') x:=by
 cases h with
 | self h=>exact .self h
 | iter h=>exact .iter h
 | mem h1 h2 h3 h4 h5 h6 h7=>exact .mem h1 h2 h3 (bI _ h4) h5 h6 h7
theorem aK.agree{x:aN}(ho:g' ob=g ob)(hg:∀ k,k∈itN it->g' k=g k){m:List (T×Mem)}{hl:Option (T×Option PV)}(hx:x = .mp it m hl)(h:aK g' w ob x c):aK g w ob x c:=by
 subst hx;cases h with
 | self h=>exact .self (ho▸h)
 | iter h=>exact .iter (by rw[<-hg _ (by simp[itN])]; exact h)
 | mem h1 h2 h3 h4 h5 h6 h7=>exact .mem (by rw[<-ho]; exact h1) h2 h3 h4 h5 h6 h7
theorem MpR.give{m:List (T×Mem)}{kk:T}{l:List MapEntry}(h:MpR F g w b es clock it ((kk,y)::m) none l r)(hob:g ob = .map (some b))(hb:w.heap[b]? = some (.map es clock))(hy:y.owned=true)
  (hdo:d≠ob)(hit:yD d it=true){e:MapEntry}(he:e∈es.toList)(hk:KeyR kk e.key){p:Option PV}(hp:∀ g',g' d=e.val->∀ q,p=some q->VR F g' w q e.val):
  sA F w y e.val/\∀ g',(∀ k,k≠d->g' k=g k)->g' d=e.val->bL F g' w ob (.mp it m (some (kk,p)))/\(∀ c,aK g' w ob (.mp it m (some (kk,p))) c->aK g w ob (.mp it ((kk,y)::m) none) c) /\
   (∀ Y c,aN.plain Y=true->aK g' w d Y c->aK g w ob (.mp it ((kk,y)::m) none) c)/\∀ Y c,aN.plain Y=true->aK g' w ob (.mp it m (some (kk,p))) c->aK g' w d Y c->False:=by
 have hent:=h.entry (x:=(kk,y)) (by simp) he hk;refine⟨hent.1.2,fun g' hg hd=>?_⟩;have hno:=uE hit;have hga:∀ k,k∈itN it->g' k=g k:=fun k hk=>hg k (hno k hk);have hob':g' ob=g ob:=hg ob (fun e=>hdo e.symm);obtain⟨e1,l',hl,hk1,hm1,he1,hM⟩:=h.focus (g':=g') (p:=p) (fun q hq v hv ⟨e2,h1,h2,h3⟩=>by have:e2=e:=h.uniq (x:=(kk,y)) (by simp) h1 he h3 hk;subst this;rw[<-h2];exact hp g' hd q hq) (h.it.agree hga);have foot:∀ c,aK g' w ob (.mp it m (some (kk,p))) c->aK g w ob (.mp it ((kk,y)::m) none) c:=fun c hc=>(aK.agree hob' hga rfl hc).cons;refine⟨⟨b,es,clock,by rw[hob']; exact hob,hb,l',[e1],hM⟩,foot,fun Y c hY hc=>?_,fun Y c hY hc hc'=>?_⟩
 ·have:=hc.toBlk hY;rw[hd]at this;exact .mem hob hb he (x:=(kk,y)) (by simp) hk hy this
 ·have hv:=hc'.toBlk hY;rw[hd]at hv;obtain⟨vs,ty,hcell⟩:=hent.1.2.block hy hv;cases aK.agree hob' hga rfl hc with
  | self h'=>rw[hob]at h'; simp[blk]at h'; subst h';rw[hb]at hcell; cases hcell
  | iter h'=>obtain⟨r',since,seen,c0,e3,e4,_⟩:=h.it;rw[e3]at h'; simp[blk]at h'; subst h';rw[e4]at hcell; cases hcell
  | @mem _ _ _ _ bm cl es' e2 x h1 h2 h3 h4 h5 h6 h7=>
   rw[hob]at h1; injection h1 with h1; injection h1 with h1; subst h1;rw[hb]at h2; injection h2 with h2; injection h2 with h2 h2'; subst h2;obtain⟨_,j,hj1,hj2⟩:=h.entry (x:=x) (bI _ h4) h3 h5;obtain⟨_,i,hi1,hi2⟩:=hent;have hij:i≠j:=by intro e'; subst e';rw[hi1]at hj1;injection hj1 with hj1;have hn:=(pN.1 h.keys).1;simp only[fX,xB]at hn;exact hn.1 (by rw[show kk=x.1 by rw[<-hj1]]; exact kN h4)
   exact h.sep i j _ _ _ _ c hi1 hj1 hi2 hj2 hij hy h6 hv h7
theorem sE.ts{l:List T}(h:sE F g w u (l.map .t))(g':Nat->Value):sE F g' w u (l.map .t):=
 h.mono (fun b hb=>⟨hb,rfl⟩) (fun o ho=>by rw[yM]at ho; simp at ho) (fun _ _=>rfl)
end
section
variable {P:Program} {E:Env} {I:Inf} {F:Nat->Prop} {g:Nat->Value} {st:St} {a:Act} {w:World} {K V:Type} [MKey K]
theorem VR.key{k:T}(h:VR F g w (.t k) v)(hd:yE k=some kd):KeyR k v:=by
 have h:=h.cells_t rfl;cases k with
 | int q n=>rw[h.inv_int]; exact .int ..
 | str s=>rw[h.inv_str]; exact .str ..
 | _=>cases hd
theorem tV{N:List Nat}{d:Nat}{y:aN}{st2:St}(h:gU N o d x' y st=some st2):d≠o:=by
 unfold gU at h;split at h
 ·rename_i h1 h2 h3; exact gD h2
 ·cases h
theorem MpR.found{b clock:Nat}{es:Array MapEntry}{it:Option dO}{enc:V->Mem}{v:List (K×V)}{l:List MapEntry}(h:MpR F g w b es clock it (eM enc v) none l r)(k:K):
  (cC v k=none->∀ e,e∈es.toList->¬ KeyR (MKey.kT k) e.key)/\(∀ c,cC v k=some c->(eM enc v).Perm ((MKey.kT k,enc c)::eM enc (eZ v k))/\∃ e,e∈es.toList/\KeyR (MKey.kT k) e.key):=by
 have hnd:(fY v).Nodup:=Ig (enc:=enc) (pN.1 h.keys).1;have hr:=h.hole;simp only[gY]at hr;subst hr;refine⟨fun hn e he hk=>?_,fun c hc=>?_⟩
 ·have:=h.perm.mem_iff.2 he;rw[eK]at this;obtain⟨j,y,hy,_,hR⟩:=h.ent.memr this;have hy:=eE hy;simp only[eM,cE]at hy;obtain⟨p,hp,rfl⟩:=hy;have:p.1=k:=MKey.inj _ _ (hR.1.inj hk);exact gR hn (this▸kN hp)
 ·have hp:=Az (enc:=enc) (zE hnd hc);refine⟨hp,?_⟩;obtain⟨j,e,h1,h2,h3⟩:=h.ent.mem (hp.mem_iff.2 (bT ..));exact⟨e,h.perm.mem_iff.1 (gI _ (eE h2)),h3.1⟩
theorem uL(hG:cZ P E I){ops l:List Oper}{o:Oper}{rest:List Oper}{Q:dQ}{d ob:Nat}{it:Option dO}{nn:V->Nat}{ff:V->Nat->List T}(v:List (K×V))(k:K)(dflt:V)
  (hl:l=o::rest)(hop:o.op = .lookup t x kx false)(hd:o.dst=some d)(hw:aU ops o st=some true)(hnt:Nat.blt d I.nt=true)(hx:ev st x=some (.map ob))(hk:ev st kx=some (.t (MKey.kT k)))
  (hob:look st.hp ob=some (.mp it (eM (fun c=>.row e s (nn c) (ff c)) v) none))(hm:gZ I.ti t (MKey.kT k)=some et)(hz:rE P et (.slice none 0 0))(hit:yD d it=true)(hdf:nn dflt=0){st2:St}
  (hs:gU I.N ob d (.mp it (eM (fun c=>.row e s (nn c) (ff c)) (eZ v k)) (some (MKey.kT k,none))) (.arr e s (nn ((cC v k).getD dflt)) (ff ((cC v k).getD dflt))) st=some st2)
  (h1:bY P E ops Q rest (st2.put d (.own d))):bY P E ops Q l st:=by
 refine bW hl hw fun F g a w r=>?_;have hd':d<E.nt:=by rw[hG.nt]; simpa[cB] using hnt
 obtain⟨kt,kd,hT⟩:=jJ hG.ti hm;obtain⟨info,hi,hz⟩:=hz;obtain⟨b,es,clock,e1,e2,l1,r1,hM⟩:=r.w.hp.obj _ _ (aE hob);have hxv:=aR r hx;have hkv:=(aR r hk).key hT.d;obtain⟨u,hu⟩:∃ u,a.eval x=u:=⟨_,rfl⟩;obtain⟨kv,hkv'⟩:∃ u,a.eval kx=u:=⟨_,rfl⟩;rw[hu]at hxv; rw[hkv']at hkv;have hdo:=tV hs;have hno:=uE hit;cases hxv with
 | map hg=>
  rw[e1]at hg; injection hg with hg; injection hg with hg; subst hg;have hrun:=jO (P:=P) hT hkv e2 (hM.kinds (by simp) k) hi hz;have hf:=hM.found k;have hex:∀ v',(Instr.lookup t (.map (some b)) kv false).run P w = .ok v' w->(execOp a.eval o).run P w = .ok (.value v') w:=by intro v' hv';unfold execOp;simp[hop,hu,hkv',hv']
  cases hlk:cC v k with
  | none=>
   rw[hlk]at hs;simp only[Option.getD_none]at hs;rcases hrun with⟨h2,hnk⟩ | ⟨e,he,hke,_⟩
   ·have hmd:eZ v k=v:=kL (gR hlk);have hag:∀ g':Nat->Value,(∀ q,q≠d->g' q=g q)->∀ q,q∈itN it->g' q=g q:=fun g' hg q hq=>hg q (hno q hq);have hfx:∀ (g':Nat->Value) c',(∀ q,q≠d->g' q=g q)->aK g' w ob (.mp it (eM (fun c=>.row e s (nn c) (ff c)) (eZ v k)) (some (MKey.kT k,none))) c'->aK g w ob (.mp it (eM (fun c=>.row e s (nn c) (ff c)) v) none) c':=by
     intro g' c' hg hc;rw[hmd]at hc;cases aK.agree (hg ob (fun e=>hdo e.symm)) (hag g' hg) rfl hc with
     | self h=>exact .self h
     | iter h=>exact .iter h
     | mem a1 a2 a3 a4 a5 a6 a7=>exact .mem a1 a2 a3 a4 a5 a6 a7
    have hobj:∀ g':Nat->Value,(∀ q,q≠d->g' q=g q)->bL F g' w ob (.mp it (eM (fun c=>.row e s (nn c) (ff c)) (eZ v k)) (some (MKey.kT k,none))):=by intro g' hg;refine⟨b,es,clock,by rw[hg ob (fun e=>hdo e.symm)]; exact e1,e2,l1,r1,?_⟩;rw[hmd];have hr1:=hM.hole;simp only[gY]at hr1;subst hr1;refine⟨hM.perm,hM.ent,.inl rfl,?_,hM.born,hM.old,hM.sep,hM.it.agree (hag g' hg)⟩;have hkk:=hM.keys;simp only[hoK,eK]at hkk ⊢;rw[pN];refine⟨hkk,by simp,fun q hq q' hq'=>?_⟩;simp only[bX]at hq';subst hq';intro e';rw[jZ,e',uC]at hq;exact gR hlk hq
    obtain⟨_,g',hgd,hga,r'⟩:=r.focus hG.N (.slice none 0 0) hob hs (fun g' hg hgd=>hobj g' hg)
     (fun g' hg hgd=>by simp only[bL]; rw[hgd]; exact .inl ⟨rfl,hdf⟩)
     (fun g' c' hg hgd hc=>hfx g' c' hg hc)
     (fun g' c' hg hgd hc=>by have:=hc.toBlk rfl; rw[hgd]at this; simp[blk]at this)
     (fun g' c' hg hgd hc hc'=>by have:=hc'.toBlk rfl; rw[hgd]at this; simp[blk]at this)
    exact⟨_,_,w,_,hex _ h2,.inl rfl,by rw[hd]; exact⟨F,g',r'.put hd' (.own hgd)⟩,h1⟩
   ·exact absurd hke (hf.1 hlk e he)
  | some c=>
   rw[hlk]at hs;simp only[oQ]at hs;obtain⟨hp,e0,he0,hk0⟩:=hf.2 c hlk;rcases hrun with⟨_,h2⟩ | ⟨e',he,hke,h2⟩
   ·exact absurd hk0 (h2 e0 he0)
   ·obtain⟨l2,hM2⟩:=hM.permM hp;have hmem:=(hM2.entry (x:=(MKey.kT k,Mem.row e s (nn c) (ff c))) (by simp) he hke).1.2;have hsl:∃ ad m c',e'.val = .slice ad m c':=by
     rcases hmem with⟨h1,_⟩ | ⟨bb,cap,cur,h1,_⟩
     ·exact⟨_,_,_,h1⟩
     ·exact⟨_,_,_,h1⟩
    have hgive:=hM2.give (d:=d) (ob:=ob) (p:=none) e1 e2 rfl hdo hit he hke (fun g' hg' q hq=>by cases hq);obtain⟨_,g',hgd,hga,r'⟩:=r.focus hG.N e'.val hob hs (fun g' hg hgd=>(hgive.2 g' hg hgd).1)
     (fun g' hg hgd=>by simp only[bL]; rw[hgd]; exact hmem)
     (fun g' c' hg hgd hc=>((hgive.2 g' hg hgd).2.1 c' hc).perm hp.symm)
     (fun g' c' hg hgd hc=>((hgive.2 g' hg hgd).2.2.1 _ c' rfl hc).perm hp.symm)
     (fun g' c' hg hgd hc hc'=>(hgive.2 g' hg hgd).2.2.2 _ c' rfl hc hc')
    obtain⟨ad,mm,cc,hsl⟩:=hsl;exact⟨_,_,w,_,hex _ h2,.inl rfl,by rw[hd]; exact⟨F,g',r'.put hd' (by rw[hsl]; exact .own (by rw[hgd,hsl]))⟩,h1⟩
end
theorem xD{l:List α}{i:Nat}{e e':α}(h:l[i]? = some e):l.Perm (e::l.eraseIdx i)/\(l.set i e').Perm (e'::l.eraseIdx i):=by
 induction l generalizing i with
 | nil=>simp at h
 | cons x l ih=>
  cases i with
  | zero=>simp only[Ba,cV]at h;subst h;exact⟨.refl _,.refl _⟩
  | succ i=>obtain⟨h1,h2⟩:=ih (by simpa using h);exact⟨(h1.cons x).trans (.swap ..),by simpa using (h2.cons x).trans (.swap ..)⟩
section
variable {P:Program} {w:World}
theorem vJ{k:T}(h:KeyR k v)(n:Nat):Instr.sameBits (n+1) v v=true:=by
 cases h with
 | int q m=>simp[Instr.sameBits]
 | str s=>simp only[Instr.sameBits]; rw[MapKept.bytes_beq]
theorem sO{t et:TypeId}{k:T}(hT:Ch P t k kt et kd)(hk:KeyR k kv){b clock:Nat}{es:Array MapEntry}(hb:w.heap[b]? = some (.map es clock))
  (h:∀ e,e∈es.toList->∃ k',KeyR k' e.key/\oV k k'=true)(old:∀ e,e∈es.toList->e.born<clock)(hn:(es.toList.map (·.born)).Nodup)(u:Value):
  ∃ es' clock' e',(Instr.mapUpdate t (.map (some b)) kv u).run P w = .ok () { w with heap:=w.heap.setIfInBounds b (.map es' clock') }/\e'.key=kv/\e'.val=u/\(es'.toList.map (·.born)).Nodup /\
   (∀ e,e∈es'.toList->e.born<clock')/\(((∀ e,e∈es.toList->¬ KeyR k e.key)/\es'.toList.Perm (e'::es.toList))\/∃ e0 q,e0∈es.toList/\KeyR k e0.key/\es.toList.Perm (e0::q)/\es'.toList.Perm (e'::q)/\e'.born=e0.born/\clock'=clock):=by
 have hf:=lF (w:=w) hT hk es.toList h;rcases hf with⟨h1,h2⟩ | ⟨j,e0,h1,h2,h3⟩
 ·refine⟨es.push { key:=kv,val:=u,born:=clock },clock+1,{ key:=kv,val:=u,born:=clock },?_,rfl,rfl,?_,?_,.inl ⟨h2,?_⟩⟩
  ·unfold Instr.mapUpdate;simp only[Sem.run_bind,run_underlying hT.und,Result.andThen_ok,Go.run_getObj_map w b es clock hb,fI hT,h1,MapKept.run_setObj_map _ hb]
  ·simp only[Array.toList_push,List.map_append,fX,List.map_nil];rw[pN];refine⟨hn,by simp,fun x hx y hy=>?_⟩;simp only[bX]at hy;obtain⟨e,he,rfl⟩:=cE.1 hx;have:=old e he;omega
  ·intro e he;simp only[Array.toList_push,dT,bX]at he;rcases he with he | rfl
   ·have:=old e he; omega
   ·exact Nat.lt_succ_self _
  ·rw[Array.toList_push];exact mV (l₁:=es.toList) (l₂:=[_])
 ·have hj:j<es.size:=by have:=(bZ.1 h1).1; simpa using this
  have hj':es[j]? = some e0:=by simpa using h1
  have hkey:e0.key=kv:=h2.inj' hk;have hmod:(es.modify j fun e=>{ e with key:=kv,val:=u }).toList=es.toList.set j { e0 with key:=kv,val:=u }:=by
   refine List.ext_getElem? fun i=>?_;rw[lK];simp only[rK,wL];split
   ·rename_i hij;subst hij;rw[hj'];simp[hj]
   ·rfl
  have hp:=xD (e':={ e0 with key:=kv,val:=u }) h1;refine⟨es.modify j fun e=>{ e with key:=kv,val:=u },clock,{ e0 with key:=kv,val:=u },?_,rfl,rfl,?_,?_,.inr ⟨e0,_,eE h1,h2,hp.1,by rw[hmod]; exact hp.2,rfl,rfl⟩⟩
  ·have hstay:(Instr.keyThatStays ((es[j]?.map (·.key)).getD kv) kv).run P w = .ok kv w:=by rw[hj',iK,oQ,hkey];unfold Instr.keyThatStays;rw[show (10000:Nat)=9999+1 from rfl,aH (vJ hk 9999)];simp
   unfold Instr.mapUpdate;simp only[Sem.run_bind,run_underlying hT.und,Result.andThen_ok,Go.run_getObj_map w b es clock hb,fI hT,h3,hstay,MapKept.run_setObj_map _ hb]
  ·rw[hmod];have:(es.toList.set j { e0 with key:=kv,val:=u }).map (·.born)=es.toList.map (·.born):=by
    refine List.ext_getElem? fun i=>?_;rw[cR,lK,cR];split
    ·rename_i hij; subst hij; rw[h1]; simp[hj]
    ·rfl
   rw[this]; exact hn
  ·intro e he;rw[hmod]at he;rcases List.mem_or_eq_of_mem_set he with he | rfl
   ·exact old e he
   ·exact old e0 (eE h1)
theorem sJ{t et:TypeId}{k:T}(hT:Ch P t k kt et kd)(hk:KeyR k kv){b clock:Nat}{es:Array MapEntry}(hb:w.heap[b]? = some (.map es clock))
  (h:∀ e,e∈es.toList->∃ k',KeyR k' e.key/\oV k k'=true)(ats:Array TypeId)(ha:ats[0]? = some t)(ty:TypeId):
  ∃ es',(Builtin.delete_ ats ty #[.map (some b),kv]).run P w = .ok (.tuple #[]) { w with heap:=w.heap.setIfInBounds b (.map es' clock) } /\
   (((∀ e,e∈es.toList->¬ KeyR k e.key)/\es'=es)\/∃ e0,e0∈es.toList/\KeyR k e0.key/\es.toList.Perm (e0::es'.toList)):=by
 have hf:=lF (w:=w) hT hk es.toList h;rcases hf with⟨h1,h2⟩ | ⟨j,e0,h1,h2,h3⟩
 ·refine⟨es,?_,.inl ⟨h2,rfl⟩⟩;unfold Builtin.delete_;simp[ha,run_underlying hT.und,Go.run_getObj_map w b es clock hb,fI hT,h1,MapKept.run_setObj_map _ hb]
 ·have hj:j<es.size:=by have:=(bZ.1 h1).1; simpa using this
  refine⟨es.eraseIdxIfInBounds j,?_,.inr ⟨e0,eE h1,h2,?_⟩⟩
  ·unfold Builtin.delete_;simp[ha,run_underlying hT.und,Go.run_getObj_map w b es clock hb,fI hT,h3,MapKept.run_setObj_map _ hb]
  ·have:=(xD (e':=e0) h1).1;simp only[Array.eraseIdxIfInBounds,hj,dif_pos,Array.toList_eraseIdx];exact this
end
section
variable {F:Nat->Prop} {g:Nat->Value} {w:World} {b clock:Nat} {es es':Array MapEntry}
theorem MpR.rest{it:Option dO}{m:List (T×Mem)}{k:T}{p:Option PV}{l:List MapEntry}(h:MpR F g w b es clock it m (some (k,p)) l r):
  ((∀ e,e∈es.toList->¬ KeyR k e.key)->r=[])/\(∀ e0 q,e0∈es.toList->KeyR k e0.key->es.toList.Perm (e0::q)->r=[e0]/\l.Perm q):=by
 have hk:=h.keys;rw[pN]at hk;have hnot:∀ e,e∈l->¬ KeyR k e.key:=by intro e he hke;obtain⟨j,y,hy,_,hR⟩:=h.ent.memr he;exact hk.2.2 _ (kN (eE hy)) k (by simp[hoK]) (hR.1.inj hke)
 have hr:r=[]\/∃ e,r=[e]/\KeyR k e.key:=by
  have hh:=h.hole;cases p with
  | none=>exact hh
  | some p=>obtain⟨e,h1,h2,_⟩:=hh; exact .inr ⟨e,h1,h2⟩
 refine⟨fun hn=>?_,fun e0 q he0 hk0 hq=>?_⟩
 ·rcases hr with rfl | ⟨e,rfl,he⟩
  ·rfl
  ·exact absurd he (hn e (h.perm.mem_iff.1 (by simp)))
 ·have he0':=h.perm.mem_iff.2 he0;rcases hr with rfl | ⟨e,rfl,he⟩
  ·rw[eK]at he0'; exact absurd hk0 (hnot e0 he0')
  ·rcases dT.1 he0' with h1 | h1
   ·exact absurd hk0 (hnot e0 h1)
   ·simp only[bX]at h1;subst h1;refine⟨rfl,?_⟩;have h2:=h.perm.trans hq;have h3:(l++[e0]).Perm (e0::l):=mV (l₁:=l) (l₂:=[e0]);exact List.Perm.cons_inv (h3.symm.trans h2)
end
def qF:Option dO->Option dO
 | none=>none
 | some i=>some ⟨i.o,i.rem,none⟩
def wI(it:Option dO)(k:T):Prop:=∀ i,it=some i->i.cur=some k
def oL(o q:Nat)(x':aN)(st:St):Option St:=
 match Nat.beq q o,st.erase q with
 | false,some st1=>some { fr:=st1.fr,hp:=(o,x')::del o st1.hp }
 | _,_=>none
section
variable {P:Program} {E:Env} {I:Inf} {F:Nat->Prop} {g:Nat->Value} {st st2:St} {a:Act} {w:World}
theorem bA.merge(r:bA E F g st a w){q:Nat}{x y:aN}(hl:look st.hp o=some x)(hq:look st.hp q=some y)(hs:oL o q x' st=some st2)
  (hx':bL F g w o x')(hf:∀ b,aK g w o x' b->aK g w o x b\/aK g w q y b):bA E F g st2 a w:=by
 unfold oL at hs;split at hs
 ·rename_i st1 hqo he;cases hs;have hqo:=gD hqo;have hlm:=aE hl;have hqm:=aE hq;have old:∀ k z,(k,z)∈del o st1.hp->k≠o/\k≠q/\∃ z',(k,z')∈st.hp/\bL F g w k z/\∀ b,aK g w k z b->aK g w k z' b:=by intro k z hz;obtain⟨h1,h2⟩:=aJ.1 hz;obtain⟨z',h3,h4,h5,h6,h7⟩:=St.erase_hp he k z h1;exact⟨h2,h4,z',h3,h6 _ _ _ (r.w.hp.obj k z' h3),h7 _ _⟩
  refine⟨r.nt,r.df,fun t z hz=>r.fr t z (St.erase_fr he t z hz).1,⟨⟨fun k z hz=>?_,fun k z b hz hb=>?_,fun k z k' z' b hz hz' hne hb hb'=>?_⟩,r.w.f0,r.w.f1,r.w.ext,r.w.names,r.w.b0⟩⟩
  ·rcases aL.1 hz with e | hz
   ·cases e; exact hx'
   ·exact(old k z hz).2.2.choose_spec.2.1
  ·rcases aL.1 hz with e | hz
   ·cases e;rcases hf b hb with h | h
    ·exact r.w.hp.own _ _ b hlm h
    ·exact r.w.hp.own _ _ b hqm h
   ·obtain⟨_,_,z',h1,_,h3⟩:=old k z hz;exact r.w.hp.own k z' b h1 (h3 b hb)
  ·have key:∀ k z,(k,z)∈del o st1.hp->aK g w k z b->aK g w o x' b->False:=by
    intro k z hz hb hb';obtain⟨h1,h2,z',h3,_,h4⟩:=old k z hz;rcases hf b hb' with h | h
    ·exact r.w.hp.sep k z' o x b h3 hlm h1 (h4 b hb) h
    ·exact r.w.hp.sep k z' q y b h3 hqm h2 (h4 b hb) h
   rcases aL.1 hz with e | hz
   ·cases e;rcases aL.1 hz' with e' | hz'
    ·cases e'; exact hne rfl
    ·exact key k' z' hz' hb' hb
   ·rcases aL.1 hz' with e' | hz'
    ·cases e'; exact key k z hz hb hb'
    ·obtain⟨_,_,u,h1,_,h3⟩:=old k z hz;obtain⟨_,_,u',h1',_,h3'⟩:=old k' z' hz';exact r.w.hp.sep k u k' u' b h1 h1' hne (h3 b hb) (h3' b hb')
 ·cases hs
end
section
variable {F:Nat->Prop} {g:Nat->Value} {w:World} {b clock ob:Nat} {es:Array MapEntry} {it:Option dO} {K V:Type} [MKey K]
theorem MpR.fill{m:List (T×Mem)}{kk:T}{l:List MapEntry}(h:MpR F g w b es clock it m (some (kk,some p)) l r)(hb:w.heap[b]? = some (.map es clock))(hy:∀ e,e∈es.toList->VR F g w p e.val->sA F w y e.val)
  (hsep:∀ e c,e∈es.toList->VR F g w p e.val->blk e.val=some c->¬ aK g w ob (.mp it m (some (kk,some p))) c)(hob:g ob = .map (some b)):∃ l',MpR F g w b es clock it ((kk,y)::m) none l' []:=by
 obtain⟨e,hr,hk,hv⟩:=h.hole;subst hr;have he:e∈es.toList:=h.perm.mem_iff.1 (by simp);refine⟨e::l,?_,.cons ⟨hk,hy e he hv⟩ h.ent,rfl,?_,h.born,h.old,?_,h.it⟩
 ·rw[eK];exact(mV (l₁:=[e]) (l₂:=l)).trans h.perm
 ·have:=h.keys;simp only[hoK,fX,eK]at this ⊢;exact(Ah (mV (l₁:=[kk]) (l₂:=m.map (·.1)))).2 this
 ·have hnew:∀ (j:Nat) x e' c,m[j]? = some x->l[j]? = some e'->x.2.owned=true->blk e.val=some c->blk e'.val=some c->False:=by intro j x e' c hx he' ho h1 h2;have hR:=h.ent.get.2 j x e' hx he';exact hsep e c he hv h1 (.mem hob hb (h.perm.mem_iff.1 (gI _ (eE he'))) (eE hx) hR.1 ho h2)
  intro i j x y' e1 e2 c hx hy' h1 h2 hne ho ho' hc hc';cases i with
  | zero=>
   simp at hx h1;subst hx; subst h1;cases j with
   | zero=>exact hne rfl
   | succ j=>exact hnew j y' e2 c (by simpa using hy') (by simpa using h2) ho' hc hc'
  | succ i=>
   cases j with
   | zero=>simp at hy' h2;subst hy'; subst h2;exact hnew i x e1 c (by simpa using hx) (by simpa using h1) ho hc' hc
   | succ j=>exact h.sep i j x y' e1 e2 c (by simpa using hx) (by simpa using hy') (by simpa using h1) (by simpa using h2) (by omega) ho ho' hc hc'
theorem MpR.fill_foot{m:List (T×Mem)}{kk:T}{l:List MapEntry}(h:MpR F g w b es clock it m (some (kk,some p)) l r)(hob:g ob = .map (some b))(hb:w.heap[b]? = some (.map es clock)) 
  (hc:aK g w ob (.mp it ((kk,y)::m) none) c):aK g w ob (.mp it m (some (kk,some p))) c\/∃ e,e∈es.toList/\VR F g w p e.val/\blk e.val=some c:=by
 cases hc with
 | self h=>exact .inl (.self h)
 | iter h=>exact .inl (.iter h)
 | @mem _ _ _ _ bm cl es' e x h1 h2 h3 h4 h5 h6 h7=>
  rcases aL.1 h4 with rfl | h4
  ·right;rw[hob]at h1; injection h1 with h1; injection h1 with h1; subst h1;rw[hb]at h2; injection h2 with h2; injection h2 with h2 h2'; subst h2;obtain⟨e1,hr,hk,hv⟩:=h.hole;have:=h.perm.mem_iff.2 h3;rcases dT.1 this with hl | hl
   ·exfalso;obtain⟨j,y',hy',_,hR⟩:=h.ent.memr hl;have hk':=h.keys;rw[pN]at hk';exact hk'.2.2 _ (kN (eE hy')) kk (by simp[hoK]) (hR.1.inj h5)
   ·rw[hr]at hl;simp only[bX]at hl;subst hl;exact⟨e,h3,hv,h7⟩
  ·exact .inl (.mem h1 h2 h3 h4 h5 h6 h7)
end
section
variable {P:Program} {E:Env} {I:Inf} {F:Nat->Prop} {g:Nat->Value} {st st2:St} {a:Act} {w:World} {K V:Type} [MKey K]
theorem yC{enc:V->Mem}(v:List (K×V))(k:K)(c:V):((MKey.kT k,enc c)::eM enc (eZ v k)).Perm (eM enc (wO v k c)):=(Az (enc:=enc) (Ct v k c)).symm
theorem Le.fillrow{q:Nat}{it:Option dO}{nn:V->Nat}{ff:V->Nat->List T}(v:List (K×V))(k:K)(c:V)
  (hl:look st.hp o=some (.mp it (eM (fun c=>.row e s (nn c) (ff c)) (eZ v k)) (some (MKey.kT k,some (.own q)))))(hq:look st.hp q=some (.arr e s (nn c) (ff c)))
  (hs:oL o q (.mp it (eM (fun c=>.row e s (nn c) (ff c)) (wO v k c)) none) st=some st2):Le E st st2:=by
 rintro a w ⟨F,g,r⟩;obtain⟨b,es,clock,e1,e2,l1,r1,hM⟩:=r.w.hp.obj _ _ (aE hl);have harr:mP F w (g q) e s (nn c) (ff c):=r.w.hp.obj _ _ (aE hq);have hqo:q≠o:=by
  unfold oL at hs;split at hs
  ·rename_i h1 h2; exact gD h1
  ·cases hs
 have hval:∀ e:MapEntry,VR F g w (.own q) e.val->e.val=g q:=by
  intro e hv;generalize e.val=u at hv;cases hv with
  | own h=>exact h.symm
 obtain⟨l',hM'⟩:=hM.fill (ob:=o) e2 (y:=.row e s (nn c) (ff c)) (fun e he hv=>by rw[hval e hv]; exact harr) (fun e c' he hv hc hf=>by rw[hval e hv]at hc;exact r.w.hp.sep q _ o _ c' (aE hq) (aE hl) hqo (.self hc) hf) e1;have hp:=yC (enc:=fun c=>Mem.row e s (nn c) (ff c)) v k c;obtain⟨l'',hM''⟩:=hM'.permM hp;exact⟨F,g,r.merge hl hq hs ⟨b,es,clock,e1,e2,l'',[],hM''⟩ (fun c' hc=>by
  rcases hM.fill_foot e1 e2 (hc.perm hp.symm) with h | ⟨e,_,hv,hc⟩
  ·exact .inl h
  ·exact .inr (.self (by rw[<-hval e hv]; exact hc)))⟩
theorem Le.gap{it:Option dO}{enc:V->Mem}(v:List (K×V))(k:K)(hl:look st.hp o=some (.mp it (eM enc v) none)):
  Le E st { st with hp:=(o,.mp it (eM enc (eZ v k)) (some (MKey.kT k,none)))::del o st.hp }:=by
 refine Le.objF _ hl (fun F g w h=>?_) (fun g w c h=>?_)
 ·obtain⟨b,es,clock,e1,e2,l1,r1,hM⟩:=h;refine⟨b,es,clock,e1,e2,?_⟩;cases hlk:cC v k with
  | none=>rw[kL (gR hlk)];have hr1:=hM.hole;simp only[gY]at hr1;subst hr1;refine⟨l1,[],hM.perm,hM.ent,.inl rfl,?_,hM.born,hM.old,hM.sep,hM.it⟩;have hkk:=hM.keys;simp only[hoK,eK]at hkk ⊢;rw[pN];refine⟨hkk,by simp,fun q hq q' hq'=>?_⟩;simp only[bX]at hq';subst hq';intro e';rw[jZ,e',uC]at hq;exact gR hlk hq
  | some c=>obtain⟨hp,_⟩:=(hM.found k).2 c hlk;obtain⟨l2,hM2⟩:=hM.permM hp;obtain⟨e,l',_,_,_,_,h⟩:=hM2.focus (g':=g) (p:=none) (fun q hq=>by cases hq) hM.it;exact⟨_,_,h⟩
 ·cases h with
  | self h=>exact .self h
  | iter h=>exact .iter h
  | mem h1 h2 h3 h4 h5 h6 h7=>refine .mem h1 h2 h3 ?_ h5 h6 h7;simp only[eM,eZ,cE,mC]at h4 ⊢;obtain⟨p,⟨hp,_⟩,rfl⟩:=h4;exact⟨p,hp,rfl⟩
theorem Sn{w:World}{F:Nat->Prop}{g:Nat->Value}{b clock clock':Nat}{es es':Array MapEntry}{it:Option dO}{m:List (T×Mem)}{k:T}{p:Option PV}{l r':List MapEntry}{e':MapEntry} 
  (hM:MpR F g w b es clock it m (some (k,p)) l r')(hset:w'.heap[b]? = some (.map es' clock')/\∀ c,c≠b->w'.heap[c]? = w.heap[c]?)(hcur:wI it k)(hkv:KeyR k kv)(hk':e'.key=kv)
  (h7:((∀ e,e∈es.toList->¬ KeyR k e.key)/\es'.toList.Perm (e'::es.toList))\/∃ e0 q,e0∈es.toList/\KeyR k e0.key/\es.toList.Perm (e0::q)/\es'.toList.Perm (e'::q)/\e'.born=e0.born/\clock'=clock)
  (e2:w.heap[b]? = some (.map es clock)):ItR g w' b es' clock' it:=by
 cases it with
 | none=>exact True.intro
 | some i=>
  obtain⟨rr,since,seen,c0,i1,i2,i3,i4,i5,i6,i7,i8⟩:=hM.it;have hne:rr≠b:=by intro e; subst e; rw[e2]at i2; cases i2
  obtain⟨j1,⟨e,he,hke,q',hq'⟩,hnk⟩:=i8 _ (hcur i rfl);rcases h7 with⟨a1,_⟩ | ⟨e0,q,a1,a2,a3,a4,a5,a6⟩
  ·exact absurd hke (a1 e he)
  ·subst a6;have hk0:e0.key=kv:=a2.inj' hkv;have hke0:∀ k2,KeyR k2 e'.key↔KeyR k2 e0.key:=fun k2=>by rw[hk',hk0]
   have hmem:∀ x,x∈es'.toList->x=e'\/x∈es.toList:=fun x hx=>by
    rcases aL.1 (a4.mem_iff.1 hx) with h | h
    ·exact .inl h
    ·exact .inr (a3.mem_iff.2 (bI _ h))
   have hmem':∀ x,x∈es.toList->x=e0\/x∈es'.toList:=fun x hx=>by
    rcases aL.1 (a3.mem_iff.1 hx) with h | h
    ·exact .inl h
    ·exact .inr (a4.mem_iff.2 (bI _ h))
   have hin:e'∈es'.toList:=a4.mem_iff.2 bT;have hee:e=e0:=by
    rcases aL.1 (a3.mem_iff.1 he) with h | h
    ·exact h
    ·have hr1:=(hM.rest.2 e0 q a1 a2 a3).1;obtain⟨q2,hq2⟩:=List.append_of_mem he;obtain⟨s2,hq2⟩:=hq2;have hp2:es.toList.Perm (e::(q2++s2)):=by rw[hq2]; exact List.perm_middle
     have hr2:=(hM.rest.2 e _ he hke hp2).1;rw[hr1]at hr2;exact((List.cons.inj hr2).1).symm
   subst hee;refine⟨rr,since,seen,c0,i1,by rw[hset.2 rr hne]; exact i2,fun x hx=>?_,i4,fun x hx=>?_,fun k2 hk2=>?_,i7,fun k2 hc2=>?_⟩
   ·rcases hmem x hx with rfl | h
    ·rw[a5]; exact i3 _ a1
    ·exact i3 x h
   ·rcases hmem x hx with rfl | h
    ·rw[a5,<-i5 _ a1];exact⟨fun⟨k2,h1,h2⟩=>⟨k2,h1,(hke0 k2).1 h2⟩,fun⟨k2,h1,h2⟩=>⟨k2,h1,(hke0 k2).2 h2⟩⟩
    ·exact i5 x h
   ·obtain⟨x,hx,hkx⟩:=i6 k2 hk2;rcases hmem' x hx with rfl | h
    ·exact⟨e',hin,(hke0 k2).2 hkx⟩
    ·exact⟨x,h,hkx⟩
   ·obtain⟨l1,⟨x,hx,hkx,q2,hs2⟩,l3⟩:=i8 k2 hc2;refine⟨l1,⟨e',hin,?_,q2,?_⟩,l3⟩
    ·have:k2=k:=by have h1:=hcur i rfl;rw[hc2]at h1;exact pF h1
     subst this;rw[hk']; exact hkv
    ·have:x.born=e.born:=by
      have h1:seen.back? = some x.born:=by rw[hs2]; simp
      have h2:seen.back? = some e.born:=by rw[hq']; simp
      rw[h1]at h2;exact pF h2
     rw[a5,<-this]; exact hs2
theorem Iy(hG:cZ P E I){ops l:List Oper}{o:Oper}{rest:List Oper}{Q:dQ}{ob:Nat}{vx:Operand}{it:Option dO}{enc:V->Mem}(v:List (K×V))(k:K)(p:PV)
  (hl:l=o::rest)(hop:o.op = .mapUpdate t x kx vx\/o.op = .insert t x kx vx)(hd:o.dst=none)(hw:aU ops o st=some true)(hx:ev st x=some (.map ob))(hk:ev st kx=some (.t (MKey.kT k)))(hv:ev st vx=some p)
  (hob:look st.hp ob=some (.mp it (eM enc v) (some (MKey.kT k,none))))(hm:gZ I.ti t (MKey.kT k)=some et)(hcur:wI it (MKey.kT k))
  (h1:bY P E ops Q rest { st with hp:=(ob,.mp it (eM enc v) (some (MKey.kT k,some p)))::del ob st.hp }):bY P E ops Q l st:=by
 refine bW hl hw fun F g a w r=>?_;obtain⟨kt,kd,hT⟩:=jJ hG.ti hm;obtain⟨b,es,clock,e1,e2,l1,r1,hM⟩:=r.w.hp.obj _ _ (aE hob);have hxv:=aR r hx;have hkv:=(aR r hk).key hT.d;have hpv:=aR r hv;obtain⟨u,hu⟩:∃ u,a.eval x=u:=⟨_,rfl⟩;obtain⟨kv,hkv'⟩:∃ u,a.eval kx=u:=⟨_,rfl⟩;obtain⟨z,hz⟩:∃ u,a.eval vx=u:=⟨_,rfl⟩;rw[hu]at hxv; rw[hkv']at hkv; rw[hz]at hpv;cases hxv with
 | map hg=>
  rw[e1]at hg; injection hg with hg; injection hg with hg; subst hg;obtain⟨es',clock',e',h2,h3,h4,h5,h6,h7⟩:=sO (P:=P) (w:=w) hT hkv e2 (hM.kinds (fun k' p' he=>by cases he; exact⟨k,rfl⟩) k) hM.old hM.born z;have hset:=jE (o':=.map es' clock') e2;have hFb:¬ F b:=(r.w.hp.own _ _ b (aE hob) (.self (by rw[e1]; rfl))).1;have hF:∀ c,F c->F c/\({ w with heap:=w.heap.setIfInBounds b (.map es' clock') }:World).heap[c]? = w.heap[c]?:=fun c hc=>⟨hc,hset.2 c (fun e=>hFb (e▸hc))⟩;have hperm:(l1++[e']).Perm es'.toList:=by
   have hc:(l1++[e']).Perm (e'::l1):=mV (l₁:=l1) (l₂:=[e']);rcases h7 with⟨a1,a2⟩ | ⟨e0,q,a1,a2,a3,a4,a5,a6⟩
   ·have:=hM.rest.1 a1;subst this;have hp1:=hM.perm;rw[eK]at hp1;exact hc.trans ((hp1.cons e').trans a2.symm)
   ·obtain⟨b1,b2⟩:=hM.rest.2 e0 q a1 a2 a3;exact hc.trans ((b2.cons e').trans a4.symm)
  have hold:∀ e,e∈l1->e∈es.toList:=fun e he=>hM.perm.mem_iff.1 (gI _ he);have hexec:(execOp a.eval o).run P w = .ok .skip ({ w with heap:=w.heap.setIfInBounds b (.map es' clock') }):=by unfold execOp;rcases hop with hop | hop <;> simp[hop,hu,hkv',hz,h2]
  have hobj:bL F g ({ w with heap:=w.heap.setIfInBounds b (.map es' clock') }) ob (.mp it (eM enc v) (some (MKey.kT k,some p))):=by
   refine⟨b,es',clock',e1,hset.1,l1,[e'],hperm,?_,⟨e',rfl,by rw[h3]; exact hkv,by rw[h4]; exact hpv.mono hF (fun _ _=>rfl)⟩,hM.keys,h5,h6,hM.sep,?_⟩
   rotate_left
   ·exact Sn hM hset hcur (r':=r1) hkv h3 h7 e2
   refine hM.ent.mono fun y e hy he hR=>⟨hR.1,hR.2.mono hF fun c ho hc=>hset.2 c (fun e'=>?_)⟩;subst e';obtain⟨vs,ty,hcell⟩:=hR.2.block ho hc;rw[e2]at hcell; cases hcell
  have hft:∀ c,aK g ({ w with heap:=w.heap.setIfInBounds b (.map es' clock') }) ob (.mp it (eM enc v) (some (MKey.kT k,some p))) c->aK g w ob (.mp it (eM enc v) (some (MKey.kT k,none))) c:=by
   intro c hc;cases hc with
   | self h=>exact .self h
   | iter h=>exact .iter h
   | @mem _ _ _ _ bm cl es2 e x h1 h2 h3' h4' h5' h6' h7'=>
    rw[e1]at h1; injection h1 with h1; injection h1 with h1; subst h1;rw[hset.1]at h2; injection h2 with h2; injection h2 with h2 h2'; subst h2;rcases dT.1 (hperm.mem_iff.2 h3') with hh | hh
    ·exact .mem e1 e2 (hold e hh) h4' h5' h6' h7'
    ·simp only[bX]at hh;subst hh;exfalso;rw[h3]at h5';have hk':=hM.keys;rw[pN]at hk';exact hk'.2.2 _ (kN h4') (MKey.kT k) (by simp[hoK]) (h5'.inj hkv)
  exact⟨_,undef,{ w with heap:=w.heap.setIfInBounds b (.map es' clock') },_,hexec,.inr ⟨rfl,rfl⟩,by rw[hd]; exact⟨F,g,r.writeF (y:=.mp it (eM enc v) (some (MKey.kT k,some p))) (aE hob) (.self (by rw[e1]; rfl)) hset.2 (by simp) rfl rfl rfl hobj hft⟩,h1⟩
theorem vU(hG:cZ P E I){ops l:List Oper}{o:Oper}{rest:List Oper}{Q:dQ}{ob:Nat}{t:TypeId}{c:Call}{it:Option dO}{enc:V->Mem}{hp:Option PV}(v:List (K×V))(k:K)
  (hl:l=o::rest)(hop:o.op = .call c)(hcal:c.callee = .builtin .delete)(hargs:c.args=#[x,kx])(hat:c.argTypes[0]? = some t)(hd:o.dst=none)(hw:aU ops o st=some true)
  (hx:ev st x=some (.map ob))(hk:ev st kx=some (.t (MKey.kT k)))(hob:look st.hp ob=some (.mp it (eM enc v) (some (MKey.kT k,hp))))(hm:gZ I.ti t (MKey.kT k)=some et)(hcur:wI it (MKey.kT k))
  (h1:bY P E ops Q rest { st with hp:=(ob,.mp (qF it) (eM enc v) none)::del ob st.hp }):bY P E ops Q l st:=by
 refine bW hl hw fun F g a w r=>?_;obtain⟨kt,kd,hT⟩:=jJ hG.ti hm;obtain⟨b,es,clock,e1,e2,l1,r1,hM⟩:=r.w.hp.obj _ _ (aE hob);have hxv:=aR r hx;have hkv:=(aR r hk).key hT.d;obtain⟨u,hu⟩:∃ u,a.eval x=u:=⟨_,rfl⟩;obtain⟨kv,hkv'⟩:∃ u,a.eval kx=u:=⟨_,rfl⟩;rw[hu]at hxv; rw[hkv']at hkv;cases hxv with
 | map hg=>
  rw[e1]at hg; injection hg with hg; injection hg with hg; subst hg;obtain⟨es',h2,h7⟩:=sJ (P:=P) (w:=w) hT hkv e2 (hM.kinds (fun k' p' he=>by cases he; exact⟨k,rfl⟩) k) c.argTypes hat o.type;have hset:=jE (o':=.map es' clock) e2;have hFb:¬ F b:=(r.w.hp.own _ _ b (aE hob) (.self (by rw[e1]; rfl))).1;have hF:∀ c,F c->F c/\({ w with heap:=w.heap.setIfInBounds b (.map es' clock) }:World).heap[c]? = w.heap[c]?:=fun c hc=>⟨hc,hset.2 c (fun e=>hFb (e▸hc))⟩;have hperm:l1.Perm es'.toList:=by
   rcases h7 with⟨a1,rfl⟩ | ⟨e0,a1,a2,a3⟩
   ·have:=hM.rest.1 a1;subst this;have hp1:=hM.perm;rw[eK]at hp1;exact hp1
   ·exact(hM.rest.2 e0 _ a1 a2 a3).2
  have hold:∀ e,e∈es'.toList->e∈es.toList:=fun e he=>hM.perm.mem_iff.1 (gI _ (hperm.mem_iff.2 he));have hkeep:∀ e,e∈es.toList->¬ KeyR (MKey.kT k) e.key->e∈es'.toList:=by
   intro e he hk';rcases h7 with⟨_,rfl⟩ | ⟨e0,a1,a2,a3⟩
   ·exact he
   ·rcases aL.1 (a3.mem_iff.1 he) with rfl | h
    ·exact absurd a2 hk'
    ·exact h
  have hsub:(es'.toList.map (·.born)).Nodup:=by
   rcases h7 with⟨_,rfl⟩ | ⟨e0,a1,a2,a3⟩
   ·exact hM.born
   ·have:=(Ah (a3.map (·.born))).1 hM.born;simp only[fX,xB]at this;exact this.2
  have hkeys:=hM.keys;rw[pN]at hkeys;have hexec:(execOp a.eval o).run P w = .ok (.value (.tuple #[])) ({ w with heap:=w.heap.setIfInBounds b (.map es' clock) }):=by unfold execOp;simp[hop,resolve,hcal,invoke,hargs,hu,hkv',builtin,h2]
  have hobj:bL F g ({ w with heap:=w.heap.setIfInBounds b (.map es' clock) }) ob (.mp (qF it) (eM enc v) none):=by
   refine⟨b,es',clock,e1,hset.1,l1,[],by rw[eK]; exact hperm,?_,rfl,by simp only[hoK,eK]; exact hkeys.1,hsub,fun e he=>hM.old e (hold e he),hM.sep,?_⟩
   ·refine hM.ent.mono fun y e hy he hR=>⟨hR.1,hR.2.mono hF fun c ho hc=>hset.2 c (fun e'=>?_)⟩;subst e';obtain⟨vs,ty,hcell⟩:=hR.2.block ho hc;rw[e2]at hcell; cases hcell
   ·cases it with
    | none=>exact True.intro
    | some i=>
     obtain⟨r',since,seen,c0,i1,i2,i3,i4,i5,i6,i7,i8⟩:=hM.it;have hne:r'≠b:=by intro e; subst e; rw[e2]at i2; cases i2
     obtain⟨_,_,hnk⟩:=i8 _ (hcur i rfl);refine⟨r',since,seen,c0,i1,by rw[hset.2 r' hne]; exact i2,fun e he=>i3 e (hold e he),i4,fun e he=>i5 e (hold e he),fun k' hk'=>?_,i7,fun k' hk'=>by cases hk'⟩;obtain⟨e,he,hke⟩:=i6 k' hk';exact⟨e,hkeep e he (fun h=>hnk (h.inj hke▸hk')),hke⟩
  have hft:∀ c,aK g ({ w with heap:=w.heap.setIfInBounds b (.map es' clock) }) ob (.mp (qF it) (eM enc v) none) c->aK g w ob (.mp it (eM enc v) (some (MKey.kT k,hp))) c:=by
   intro c hc;generalize hit:qF it=it' at hc;cases hc with
   | self h=>exact .self h
   | iter h=>
    cases it with
    | none=>cases hit
    | some i=>simp only[qF,cV]at hit; subst hit; exact .iter h
   | @mem _ _ _ _ bm cl es2 e x h1 h2 h3' h4' h5' h6' h7'=>rw[e1]at h1; injection h1 with h1; injection h1 with h1; subst h1;rw[hset.1]at h2; injection h2 with h2; injection h2 with h2 h2'; subst h2;exact .mem e1 e2 (hold e h3') h4' h5' h6' h7'
  exact⟨_,.tuple #[],{ w with heap:=w.heap.setIfInBounds b (.map es' clock) },_,hexec,.inl rfl,by rw[hd]; exact⟨F,g,r.writeF (y:=.mp (qF it) (eM enc v) none) (aE hob) (.self (by rw[e1]; rfl)) hset.2 (by simp) rfl rfl rfl hobj hft⟩,h1⟩
end
def sW(ti:Nat->Option bV)(t:Nat):Bool:=match ti t with | some i=>(match i.und with | .mp _ _=>true | _=>false) | none=>false
theorem vZ{P:Program}{ti:Nat->Option bV}(hI:gE P ti)(h:sW ti t=true):∃ kt et,P.underlying t=some (.map kt et):=by
 unfold sW at h;split at h
 ·rename_i i hi;split at h
  ·rename_i kt et hu;have:=(hI _ _ hi).und; rw[hu]at this; exact⟨kt,et,this⟩
  ·cases h
 ·cases h
section
variable {P:Program} {E:Env} {I:Inf} {F:Nat->Prop} {g:Nat->Value} {st st2:St} {a:Act} {w:World} {K V:Type} [MKey K]
theorem bA.same(r:bA E F g st a w)(hh:w'.heap=w.heap)(ho:w'.os=w.os)(ht:w'.tape=w.tape)(hu:w'.output=w.output):bA E F g st a w':=by
 have hb:∀ b:Nat,w'.heap[b]? = w.heap[b]?:=fun b=>by rw[hh]
 have hf:∀ {o x b},aK g w' o x b->aK g w o x b:=fun h=>h.mono rfl (fun _ _=>rfl) (fun c _=>hb c);refine⟨r.nt,r.df,fun t x hx=>(r.fr t x hx).mono (fun b h=>⟨h,hb b⟩) (fun _ _=>rfl),⟨⟨fun o x hx=>?_,fun o x b hx h=>r.w.hp.own o x b hx (hf h),fun o x o' y b hx hy hne h h'=>r.w.hp.sep o x o' y b hx hy hne (hf h) (hf h')⟩,r.w.f0,fun b h=>?_,?_,r.w.names,r.w.b0⟩⟩
 ·exact(r.w.hp.obj o x hx).mono (fun b h=>⟨h,hb b⟩) rfl (fun _ _=>rfl) (fun b _=>hb b)
 ·rw[hh]; exact r.w.f1 b h
 ·exact r.w.ext.trans ho ht hu (by rw[hh]; exact cY _) (fun b _ _=>hb b)
theorem xW(hG:cZ P E I){ops l:List Oper}{o:Oper}{rest:List Oper}{Q:dQ}{d:Nat}(enc:V->Mem)(hl:l=o::rest)(hop:o.op = .makeMap t none)(hd:o.dst=some d)(hw:aU ops o st=some true)
  (hnt:Nat.blt d I.nt=true)(hn:jN d I.N=true){st1:St}(he:st.erase d=some st1)(h1:bY P E ops Q rest ({ st1 with hp:=(d,.mp none (eM enc ([]:List (K×V))) none)::st1.hp }.put d (.map d))):bY P E ops Q l st:=by
 refine bW hl hw fun F g a w r=>?_;have hd':d<E.nt:=by rw[hG.nt]; simpa[cB] using hnt
 have hnew:(w.alloc (.map #[] 0)).heap[w.heap.size]? = some (.map #[] 0):=heap_alloc_new w _;obtain⟨g',hg'⟩:=r.allocF (x:=.mp none (eM enc ([]:List (K×V))) none) (v:=.map (some w.heap.size)) (w':=w.alloc (.map #[] 0)) (ob:=.map #[] 0) hd' (by rw[hG.N]; exact cI hn) he rfl rfl rfl rfl rfl
  (fun g' b hg hb=>by
   cases hb with
   | self h=>rw[hg]at h; exact h
   | mem _ _ _ h4=>simp[eM]at h4)
  (fun g' _ hg=>⟨w.heap.size,#[],0,hg,hnew,[],[],by simp,by simp only[eM,List.map_nil]; exact .nil,rfl,by simp[eM,hoK],by simp,by simp,by simp,True.intro⟩)
  (.map d) (fun g' hg=>.map hg)
 exact⟨_,.map (some w.heap.size),w.alloc (.map #[] 0),_,by unfold execOp; simp[hop,Instr.makeMap],.inl rfl,by rw[hd]; exact⟨F,g',hg'⟩,h1⟩
theorem Db(hG:cZ P E I){ops l:List Oper}{o:Oper}{rest:List Oper}{Q:dQ}{t:TypeId}{d ob:Nat}{c:Call}{it:Option dO}{enc:V->Mem}(v:List (K×V))(hl:l=o::rest)(hop:o.op = .call c)
  (hcal:c.callee = .builtin .len)(hargs:c.args=#[x])(hat:c.argTypes[0]? = some t)(hd:o.dst=some d)(hw:aU ops o st=some true)(hnt:Nat.blt d I.nt=true)(hx:ev st x=some (.map ob))(hm:sW I.ti t=true)
  (hob:look st.hp ob=some (.mp it (eM enc v) none))(h1:bY P E ops Q rest (st.put d (.t (.int .i64 (v.length:Int))))):bY P E ops Q l st:=by
 refine bW hl hw fun F g a w r=>?_;have hd':d<E.nt:=by rw[hG.nt]; simpa[cB] using hnt
 obtain⟨kt,et,hT⟩:=vZ hG.ti hm;obtain⟨b,es,clock,e1,e2,l1,r1,hM⟩:=r.w.hp.obj _ _ (aE hob);have hxv:=aR r hx;obtain⟨u,hu⟩:∃ u,a.eval x=u:=⟨_,rfl⟩;rw[hu]at hxv;cases hxv with
 | map hg=>
  rw[e1]at hg; injection hg with hg; injection hg with hg; subst hg;have hsz:es.size=v.length:=by have h1:=hM.perm.length_eq;have h2:=hM.ent.get.1;have h3:=hM.hole;simp only[gY]at h3;subst h3;simp only[eM,List.length_map,eK,dY]at h1 h2;omega
  refine⟨_,.int .i64 (v.length:Int),w,_,?_,.inl rfl,by rw[hd]; exact⟨F,g,r.put hd' (.t (.int _ _))⟩,h1⟩;unfold execOp;simp[hop,resolve,hcal,invoke,hargs,hu,builtin,Builtin.len_,hat,run_underlying hT,Go.run_getObj_map w b es clock e2,hsz,goInt]
def yU(N:List Nat)(o d:Nat)(x':aN)(st:St):Option St:=
 match jN d N,Nat.beq d o,st.erase d with
 | true,false,some st1=>some { fr:=st1.fr,hp:=(o,x')::del o st1.hp }
 | _,_,_=>none
theorem yN(hG:cZ P E I){ops l:List Oper}{o:Oper}{rest:List Oper}{Q:dQ}{d ob:Nat}{enc:V->Mem}(v:List (K×V))(hl:l=o::rest)(hop:o.op = .range t x)(hd:o.dst=some d)
  (hw:aU ops o st=some true)(hnt:Nat.blt d I.nt=true)(hx:ev st x=some (.map ob))(hm:sW I.ti t=true)(hob:look st.hp ob=some (.mp none (eM enc v) none))
  (hs:yU I.N ob d (.mp (some ⟨d,kTs (fY v),none⟩) (eM enc v) none) st=some st2)(h1:bY P E ops Q rest (st2.put d (.ptr d 0))):bY P E ops Q l st:=by
 refine bW hl hw fun F g a w r=>?_;have hd':d<E.nt:=by rw[hG.nt]; simpa[cB] using hnt
 obtain⟨kt,et,hT⟩:=vZ hG.ti hm;have hlm:=aE hob;obtain⟨b,es,clock,e1,e2,l1,r1,hM⟩:=r.w.hp.obj _ _ hlm;have hxv:=aR r hx;obtain⟨u,hu⟩:∃ u,a.eval x=u:=⟨_,rfl⟩;rw[hu]at hxv;cases hxv with
 | map hg=>
  rw[e1]at hg; injection hg with hg; injection hg with hg; subst hg;unfold yU at hs;split at hs
  ·rename_i st1 hn hdo he;cases hs;have hdo:=gD hdo;let w':=w.alloc (.mapIter (some b) clock #[] clock);have hnew:w'.heap[w.heap.size]? = some (.mapIter (some b) clock #[] clock):=heap_alloc_new w _;have hold:∀ c,c<w.heap.size->w'.heap[c]? = w.heap[c]?:=fun c hc=>heap_alloc_old w _ hc;have hsz:w'.heap.size=w.heap.size+1:=by show (w.heap.push _).size=_; simp
   let g':=upd g d (.pointer (some ⟨w.heap.size,0,none⟩));have hgd:g' d = .pointer (some ⟨w.heap.size,0,none⟩):=aP ..;have hgo:∀ k,k≠d->g' k=g k:=fun k hk=>aQ g _ hk;have hblt:=(sL.1 e2).1;have hF:∀ c,F c->F c/\w'.heap[c]? = w.heap[c]?:=fun c hc=>⟨hc,hold c (r.w.f1 c hc).1⟩;have hr1:=hM.hole;simp only[gY]at hr1;subst hr1;have hperm:=hM.perm;rw[eK]at hperm;have hkeys:=hM.keys;simp only[hoK,eK,jZ]at hkeys;have hit:ItR g' w' b es clock (some ⟨d,kTs (fY v),none⟩):=by
    refine⟨w.heap.size,clock,#[],clock,hgd,hnew,hM.old,⟨cY _,cY _⟩,fun e he'=>?_,fun k hk=>?_,hkeys,fun k hk=>by cases hk⟩
    ·obtain⟨j,y,hy,_,hR⟩:=hM.ent.memr (hperm.mem_iff.2 he');refine⟨fun _=>by simp,fun _=>⟨y.1,?_,hR.1⟩⟩;rw[<-jZ (enc:=enc)];exact kN (eE hy)
    ·rw[<-jZ (enc:=enc)]at hk;obtain⟨y,hy,rfl⟩:=cE.1 hk;obtain⟨j,e,_,h2,h3⟩:=hM.ent.mem hy;exact⟨e,hperm.mem_iff.1 (eE h2),h3.1⟩
   have hobj:bL F g' w' ob (.mp (some ⟨d,kTs (fY v),none⟩) (eM enc v) none):=by refine⟨b,es,clock,by rw[hgo ob (fun e=>hdo e.symm)]; exact e1,by rw[hold b hblt]; exact e2,l1,[],by rw[eK]; exact hperm,?_,rfl,hM.keys,hM.born,hM.old,hM.sep,hit⟩;refine hM.ent.mono fun y e _ _ hR=>⟨hR.1,hR.2.mono hF fun c ho hc=>hold c ?_⟩;obtain⟨vs,ty,hcell⟩:=hR.2.block ho hc;exact(sL.1 hcell).1
   have hfoot:∀ c,aK g' w' ob (.mp (some ⟨d,kTs (fY v),none⟩) (eM enc v) none) c->c=w.heap.size\/aK g w ob (.mp none (eM enc v) none) c:=by
    intro c hc;cases hc with
    | self h=>rw[hgo ob (fun e=>hdo e.symm)]at h; exact .inr (.self h)
    | iter h=>rw[hgd]at h; simp[blk]at h; exact .inl h.symm
    | mem h1 h2 h3 h4 h5 h6 h7=>rw[hgo ob (fun e=>hdo e.symm),e1]at h1; injection h1 with h1; injection h1 with h1; subst h1;rw[hold b hblt,e2]at h2; injection h2 with h2; injection h2 with h2 h2'; subst h2;exact .inr (.mem e1 e2 h3 h4 h5 h6 h7)
   have oth:∀ k z,(k,z)∈del ob st1.hp->k≠ob/\∃ z',(k,z')∈st.hp/\bL F g' w' k z/\∀ c,aK g' w' k z c->aK g w k z' c:=by
    intro k z hz;obtain⟨h1,h2⟩:=aJ.1 hz;obtain⟨z',h3,h4,h5,h6,h7⟩:=St.erase_hp he k z h1;have hz':=r.w.hp.obj k z' h3;exact⟨h2,z',h3,(h6 _ _ _ hz').mono hF (hgo k h4) (fun k' hk'=>hgo k' (h5 k' hk')) (fun c hc=>hold c ((h7 _ _ _ hc).block hz')),
     fun c hc=>h7 _ _ _ (hc.mono (hgo k h4) (fun k' hk'=>hgo k' (h5 k' hk')) (fun c' hc'=>hold c' (hz'.block hc')))⟩
   have hrel:bA E F g' ⟨st1.fr,(ob,.mp (some ⟨d,kTs (fY v),none⟩) (eM enc v) none)::del ob st1.hp⟩ a w':=by
    refine⟨r.nt,r.df,fun t z hz=>?_,⟨⟨fun k z hz=>?_,fun k z c hz hc=>?_,fun k z k' z' c hz hz' hne hc hc'=>?_⟩,r.w.f0,fun c hc=>⟨by have:=(r.w.f1 c hc).1; omega,(r.w.f1 c hc).2⟩,
     r.w.ext.trans rfl rfl rfl (by omega) (fun c hc _=>hold c (by have:=r.w.ext.size; omega)),fun k hk=>?_,r.w.b0⟩⟩
    ·obtain⟨h1,h2⟩:=St.erase_fr he t z hz;exact(r.fr t z h1).mono hF (fun k hk=>hgo k (h2 k hk))
    ·rcases aL.1 hz with e | hz
     ·cases e; exact hobj
     ·exact(oth k z hz).2.choose_spec.2.1
    ·rcases aL.1 hz with e | hz
     ·cases e;rcases hfoot c hc with rfl | h
      ·exact⟨fun h=>by have:=(r.w.f1 _ h).1; omega,.inr r.w.ext.size⟩
      ·exact r.w.hp.own _ _ c hlm h
     ·obtain⟨_,z',h1,_,h3⟩:=oth k z hz;exact r.w.hp.own k z' c h1 (h3 c hc)
    ·have key:∀ k z,(k,z)∈del ob st1.hp->aK g' w' k z c->aK g' w' ob (.mp (some ⟨d,kTs (fY v),none⟩) (eM enc v) none) c->False:=by
      intro k z hz hc hc';obtain⟨h0,z',h1,_,h3⟩:=oth k z hz;have hck:=h3 c hc;rcases hfoot c hc' with rfl | h
      ·have:=hck.block (r.w.hp.obj k z' h1); omega
      ·exact r.w.hp.sep k z' ob _ c h1 hlm h0 hck h
     rcases aL.1 hz with e | hz
     ·cases e;rcases aL.1 hz' with e' | hz'
      ·cases e'; exact hne rfl
      ·exact key k' z' hz' hc' hc
     ·rcases aL.1 hz' with e' | hz'
      ·cases e'; exact key k z hz hc hc'
      ·obtain⟨_,u,h1,_,h3⟩:=oth k z hz;obtain⟨_,u',h1',_,h3'⟩:=oth k' z' hz';exact r.w.hp.sep k u k' u' c h1 h1' hne (h3 c hc) (h3' c hc')
    ·rw[hgo k (fun e:k=d=>cI hn (by rw[<-e,<-hG.N]; exact hk))];exact r.w.names k hk
   refine⟨_,.pointer (some ⟨w.heap.size,0,none⟩),w',_,?_,.inl rfl,by rw[hd]; exact⟨F,g',hrel.put hd' (.ptr hgd)⟩,h1⟩;unfold execOp;simp[hop,hu,Instr.range,run_underlying hT,Go.run_getObj_map w b es clock e2,w']
  ·cases hs
end
section
variable {P:Program} {E:Env} {I:Inf} {F:Nat->Prop} {g:Nat->Value} {st st2:St} {a:Act} {w:World} {K V:Type} [MKey K]
theorem VR.tup3{F:Nat->Prop}{g:Nat->Value}{w:World}{q r:PV}{x y:Value}(h1:VR F g w p x)(h2:VR F g w q y)(h3:VR F g w r z):VR F g w (.tup [p,q,r]) (.tuple #[x,y,z]):=by
 refine .tup (by simp) fun j u v hu hv=>?_;have hj:j=0\/j=1\/j=2:=by have:=(bZ.1 hu).1; simp at this; omega
 rcases hj with rfl | rfl | rfl <;> (simp at hu hv; subst hu; subst hv)
 ·exact h1
 ·exact h2
 ·exact h3
theorem VR.tup1{F:Nat->Prop}{g:Nat->Value}{w:World}{x:Value}(h1:VR F g w p x):VR F g w (.tup [p]) (.tuple #[x]):=by
 refine .tup (by simp) fun j u v hu hv=>?_;have hj:j=0:=by have:=(bZ.1 hu).1; simp at this; omega
 subst hj;simp at hu hv; subst hu; subst hv;exact h1
theorem By(r:bA E F g st a w){ob di:Nat}{enc:V->Mem}{cur:Option T}(v:List (K×V))(rem:List K)(ty:TypeId)
  (hob:look st.hp ob=some (.mp (some ⟨di,kTs rem,cur⟩) (eM enc v) none))(hu:VR F g w (.ptr di 0) u):
  (rem=[]/\(Instr.next u false ty).run P w = .ok (.tuple #[.bool false]) w)\/∃ k w2 b es clock e,k∈rem/\(Instr.next u false ty).run P w = .ok (.tuple #[.bool true,e.key,e.val]) w2 /\
   bA E F g { st with hp:=(ob,.mp (some ⟨di,kTs (rem.erase k),some (MKey.kT k)⟩) (eM enc v) none)::del ob st.hp } a w2/\g ob = .map (some b)/\w2.heap[b]? = some (.map es clock)/\e∈es.toList/\KeyR (MKey.kT k) e.key:=by
 have hlm:=aE hob;obtain⟨b,es,clock,e1,e2,l1,r1,hM⟩:=r.w.hp.obj _ _ hlm;obtain⟨rb,since,seen,c0,i1,i2,i3,⟨i4,i4'⟩,i5,i6,i7,i8⟩:=hM.it;cases hu with
 | ptr hg=>
  rw[i1]at hg; injection hg with hg; injection hg with hg; injection hg with hg; subst hg;have hne:rb≠b:=by intro e; subst e; rw[e2]at i2; cases i2
  rcases run_next_at (P:=P) w ty rb b since c0 seen es clock i2 e2 i3 i4 with⟨hz,hrun⟩ | ⟨e,he,w1,hw1,hrun⟩
  ·refine .inl ⟨?_,hrun⟩;cases rem with
   | nil=>rfl
   | cons k rem=>
    exfalso;obtain⟨e,he,hk⟩:=i6 (MKey.kT k) (by simp[kTs]);have hs:=(i5 e he).1 ⟨MKey.kT k,by simp[kTs],hk⟩;have:e∈(leftOf es seen).toList:=by simp only[leftOf,Array.toList_filter,mC];exact⟨he,by show (!seen.contains e.born)=true; rw[hs]; rfl⟩
    have:=List.length_pos_of_mem this;simp only[dY]at this;omega
  ·simp only[leftOf,Array.toList_filter,mC,gC]at he;obtain⟨he,hns⟩:=he;obtain⟨k',hk',hke⟩:=(i5 e he).2 hns;obtain⟨k,hk,rfl⟩:=cE.1 hk';have r1':bA E F g st a w1:=by
    rcases hw1 with rfl | rfl
    ·exact r
    ·exact r.same rfl rfl rfl rfl
   have e1':w1.heap=w.heap:=by rcases hw1 with rfl | rfl <;> rfl
   obtain⟨w2,hw2⟩:∃ w2,w2=ChangeMaps.setBlock w1 rb (.mapIter (some b) since (seen.push e.born) clock):=⟨_,rfl⟩;rw[<-hw2]at hrun;have hheap:w2.heap=w1.heap.setIfInBounds rb (.mapIter (some b) since (seen.push e.born) clock):=by rw[hw2]; rfl
   have i2':w1.heap[rb]? = some (.mapIter (some b) since seen c0):=by rw[e1']; exact i2
   have hset:w2.heap[rb]? = some (.mapIter (some b) since (seen.push e.born) clock)/\∀ r',r'≠rb->w2.heap[r']? = w1.heap[r']?:=by rw[hheap]; exact jE (w:=w1) i2'
   have hFb:¬ F rb:=(r.w.hp.own _ _ rb hlm (.iter (by rw[i1]; rfl))).1;have hF:∀ c,F c->F c/\w2.heap[c]? = w1.heap[c]?:=fun c hc=>⟨hc,hset.2 c (fun e=>hFb (e▸hc))⟩;have hF':∀ c,F c->F c/\w2.heap[c]? = w.heap[c]?:=fun c hc=>by rw[<-e1']; exact hF c hc
   have hnd:(rem.map (MKey.kT (K:=K))).Nodup:=i7;have hnd':=tH (l:=rem) hnd;have hb2:w2.heap[b]? = some (.map es clock):=by rw[hset.2 b (fun e=>hne e.symm),e1']; exact e2
   have hob2:bL F g w2 ob (.mp (some ⟨di,kTs (rem.erase k),some (MKey.kT k)⟩) (eM enc v) none):=by
    refine⟨b,es,clock,e1,hb2,l1,r1,hM.perm,?_,hM.hole,hM.keys,hM.born,hM.old,hM.sep,?_⟩
    ·refine hM.ent.mono fun y e' _ _ hR=>⟨hR.1,hR.2.mono hF' fun c ho hc=>?_⟩;obtain⟨vs,ty,hcell⟩:=hR.2.block ho hc;rw[hset.2 c (fun e'=>by subst e'; rw[i2]at hcell; cases hcell),e1']
    ·refine⟨rb,since,seen.push e.born,clock,i1,hset.1,i3,⟨i4',i4'⟩,fun e' he'=>?_,fun k' hk'=>?_,?_,fun k' hk'=>?_⟩
     ·have hbn:e'.born=e.born->e'=e:=by
       intro hbb;obtain⟨p,hp,hpe⟩:=wX.1 he';obtain⟨q,hq,hqe⟩:=wX.1 he;have e3:(es.toList.map (·.born))[p]? = some e'.born:=by simp only[cR,dE hp,hpe,iK]
       have e4:(es.toList.map (·.born))[q]? = some e'.born:=by simp only[cR,dE hq,hqe,iK,hbb]
       have:=(List.getElem?_inj (by simpa using hp) hM.born).1 (e3.trans e4.symm);subst this;rw[<-hpe,<-hqe]
      constructor
      ·rintro⟨k2,hk2,hke2⟩;obtain⟨k3,hk3,rfl⟩:=cE.1 hk2;have hk4:=(hnd'.mem_erase_iff).1 hk3;have hs:=(i5 e' he').1 ⟨_,kN hk4.2,hke2⟩;have hneb:e'.born≠e.born:=fun hbb=>by have:=hbn hbb;subst this;exact hk4.1 (MKey.inj _ _ (hke2.inj hke))
       rw[Array.contains_push,hs];simpa using hneb
      ·intro hs;rw[Array.contains_push]at hs;simp only[Bool.or_eq_false_iff]at hs;obtain⟨k2,hk2,hke2⟩:=(i5 e' he').2 hs.1;obtain⟨k3,hk3,rfl⟩:=cE.1 hk2;refine⟨_,kN ((hnd'.mem_erase_iff).2 ⟨?_,hk3⟩),hke2⟩;intro e3;subst e3;have hx':(MKey.kT k3,e.key)=(MKey.kT k3,e.key):=rfl;have:e'.key=e.key:=hke2.inj' hke;obtain⟨j,y,hy,hj,hR⟩:=hM.ent.memr (r:=l1) (b:=e) (by have h3:=hM.hole; simp only[gY]at h3;have:=hM.perm.mem_iff.2 he; rw[h3,eK]at this; exact this);have:=hM.uniq (eE hy) he he' hR.1 (by rw[this]; exact hR.1);subst this;simp at hs
     ·obtain⟨k3,hk3,rfl⟩:=cE.1 hk';exact i6 _ (kN ((hnd'.mem_erase_iff).1 hk3).2)
     ·have:(kTs (rem.erase k)).Sublist (kTs rem):=(List.erase_sublist ..).map _;exact this.nodup i7
     ·injection hk' with hk';subst hk';refine⟨rfl,⟨e,he,hke,seen,rfl⟩,?_⟩;rw[uC];exact fun h=>((hnd'.mem_erase_iff).1 h).1 rfl
   have hft:∀ c,aK g w2 ob (.mp (some ⟨di,kTs (rem.erase k),some (MKey.kT k)⟩) (eM enc v) none) c->aK g w1 ob (.mp (some ⟨di,kTs rem,cur⟩) (eM enc v) none) c:=by
    intro c hc;cases hc with
    | self h=>exact .self h
    | iter h=>exact .iter h
    | mem h1 h2 h3 h4 h5 h6 h7=>rw[e1]at h1; injection h1 with h1; injection h1 with h1; subst h1;rw[hset.2 b (fun e=>hne e.symm)]at h2;exact .mem e1 h2 h3 h4 h5 h6 h7
   have hrel:=r1'.writeF (y:=.mp (some ⟨di,kTs (rem.erase k),some (MKey.kT k)⟩) (eM enc v) none) (w':=w2) hlm (.iter (by rw[i1]; rfl)) hset.2 (by rw[hheap]; simp) (by rw[hw2]; rfl) (by rw[hw2]; rfl) (by rw[hw2]; rfl) hob2 hft;exact .inr ⟨k,w2,b,es,clock,e,hk,hrun,hrel,e1,hb2,he,hke⟩
end
section
variable {P:Program} {E:Env} {I:Inf} {F:Nat->Prop} {g:Nat->Value} {st st2:St} {a:Act} {w:World} {K V:Type} [MKey K]
theorem MpR.hasKey{b clock:Nat}{es:Array MapEntry}{it:Option dO}{enc:V->Mem}{v:List (K×V)}{l:List MapEntry}(h:MpR F g w b es clock it (eM enc v) none l r){k:K}{e:MapEntry}(he:e∈es.toList)(hk:KeyR (MKey.kT k) e.key):
  ∃ c,cC v k=some c/\sA F w (enc c) e.val:=by
 have hf:=h.found k;cases hl:cC v k with
 | none=>exact absurd hk (hf.1 hl e he)
 | some c=>obtain⟨hp,_⟩:=hf.2 c hl;obtain⟨l2,h2⟩:=h.permM hp;exact⟨c,rfl,(h2.entry (x:=(MKey.kT k,enc c)) (by simp) he hk).1.2⟩
theorem mI{o:Oper}(hop:o.op = .next x false){v':Value}(hu:a.eval x=u)(h:(Instr.next u false o.type).run P w = .ok v' w'):(execOp a.eval o).run P w = .ok (.value v') w':=by unfold execOp;simp[hop,hu,h]
def qK(st:St)(ob di:Nat)(rem:List K)(k:K)(m:List (T×Mem)):St:={ st with hp:=(ob,.mp (some ⟨di,kTs rem,some (MKey.kT k)⟩) m none)::del ob st.hp }
theorem yR(hG:cZ P E I){ops l:List Oper}{o:Oper}{rest:List Oper}{Q:dQ}{d ob di:Nat}{cur:Option T}{eD:V->T}(v:List (K×V))(rem:List K)
  (hl:l=o::rest)(hop:o.op = .next x false)(hd:o.dst=some d)(hw:aU ops o st=some true)(hnt:Nat.blt d I.nt=true)(hx:ev st x=some (.ptr di 0))
  (hob:look st.hp ob=some (.mp (some ⟨di,kTs rem,cur⟩) (eM (fun c=>.d (eD c)) v) none))
  (h0:rem=[]->bY P E ops Q rest (st.put d (.tup [.t (.bool false)])))
  (h1:∀ k c,k∈rem->cC v k=some c->bY P E ops Q rest ((qK st ob di (rem.erase k) k (eM (fun c=>.d (eD c)) v)).put d (.tup [.t (.bool true),.t (MKey.kT k),.t (eD c)]))):bY P E ops Q l st:=by
 refine bW hl hw fun F g a w r=>?_;have hd':d<E.nt:=by rw[hG.nt]; simpa[cB] using hnt
 obtain⟨u,hu⟩:∃ u,a.eval x=u:=⟨_,rfl⟩;have hxv:=aR r hx;rw[hu]at hxv;rcases By (P:=P) r v rem o.type hob hxv with⟨hrem,hrun⟩ | ⟨k,w2,b,es,clock,e',hk,hrun,r2,e1,e2,he,hke⟩
 ·exact⟨_,_,w,_,mI hop hu hrun,.inl rfl,by rw[hd]; exact⟨F,g,r.put hd' (.tup1 (.t (.bool _)))⟩,h0 hrem⟩
 ·have hob2:look (qK st ob di (rem.erase k) k (eM (fun c=>.d (eD c)) v)).hp ob=some (.mp (some ⟨di,kTs (rem.erase k),some (MKey.kT k)⟩) (eM (fun c=>.d (eD c)) v) none):=by simp[look,qK]
  obtain⟨b',es',clock',f1,f2,l1,r1,hM⟩:=r2.w.hp.obj _ _ (aE hob2);rw[e1]at f1; injection f1 with f1; injection f1 with f1; subst f1;rw[e2]at f2; injection f2 with f2; injection f2 with f2 f2'; subst f2; subst f2';obtain⟨c,hlk,hmem⟩:=hM.hasKey he hke;exact⟨_,_,w2,_,mI hop hu hrun,.inl rfl,by rw[hd]; exact⟨F,g,bA.put r2 hd' (.tup3 (.t (.bool _)) (.t hke.toRd) (.t hmem))⟩,h1 k c hk hlk⟩
theorem yO(hG:cZ P E I){ops l:List Oper}{o:Oper}{rest:List Oper}{Q:dQ}{d ob:Nat}{it:Option dO}{eD:V->T}{zv:Value}{zp:PV}(v:List (K×V))(k:K)
  (hl:l=o::rest)(hop:o.op = .lookup t x kx false)(hd:o.dst=some d)(hw:aU ops o st=some true)(hnt:Nat.blt d I.nt=true)(hx:ev st x=some (.map ob))(hk:ev st kx=some (.t (MKey.kT k)))
  (hob:look st.hp ob=some (.mp it (eM (fun c=>.d (eD c)) v) none))(hm:gZ I.ti t (MKey.kT k)=some et)(hz:rE P et zv)(hzp:jW zv=some zp)
  (h0:cC v k=none->bY P E ops Q rest (st.put d zp))(h1:∀ c,cC v k=some c->bY P E ops Q rest (st.put d (.t (eD c)))):bY P E ops Q l st:=by
 refine bW hl hw fun F g a w r=>?_;have hd':d<E.nt:=by rw[hG.nt]; simpa[cB] using hnt
 obtain⟨kt,kd,hT⟩:=jJ hG.ti hm;obtain⟨info,hi,hz⟩:=hz;obtain⟨b,es,clock,e1,e2,l1,r1,hM⟩:=r.w.hp.obj _ _ (aE hob);have hxv:=aR r hx;have hkv:=(aR r hk).key hT.d;obtain⟨u,hu⟩:∃ u,a.eval x=u:=⟨_,rfl⟩;obtain⟨kv,hkv'⟩:∃ u,a.eval kx=u:=⟨_,rfl⟩;rw[hu]at hxv; rw[hkv']at hkv;cases hxv with
 | map hg=>
  rw[e1]at hg; injection hg with hg; injection hg with hg; subst hg;have hrun:=jO (P:=P) hT hkv e2 (hM.kinds (by simp) k) hi hz;have hf:=hM.found k;have hex:∀ v',(Instr.lookup t (.map (some b)) kv false).run P w = .ok v' w->(execOp a.eval o).run P w = .ok (.value v') w:=by intro v' hv';unfold execOp;simp[hop,hu,hkv',hv']
  rcases hrun with⟨h2,hnk⟩ | ⟨e,he,hke,h2⟩
  ·cases hlk:cC v k with
   | none=>exact⟨_,_,w,_,hex _ h2,.inl rfl,by rw[hd]; exact⟨F,g,r.put hd' (jY hzp F g w)⟩,h0 hlk⟩
   | some c=>obtain⟨_,e0,he0,hk0⟩:=hf.2 c hlk; exact absurd hk0 (hnk e0 he0)
  ·obtain⟨c,hlk,hmem⟩:=hM.hasKey he hke;exact⟨_,_,w,_,hex _ h2,.inl rfl,by rw[hd]; exact⟨F,g,r.put hd' (.t hmem)⟩,h1 c hlk⟩
theorem Un{F:Nat->Prop}{g:Nat->Value}{w:World}(h:Rd F w (.fv c) v):VR F g w (.fn (.func c) 0 []) v:=by
 cases h with
 | fv=>exact .fn rfl rfl (by simp)
 | nil h=>simp[T.view]at h
 | sl a cap size vs h=>simp[T.view]at h
theorem Hz(hI:gE P I.ti){ob:Nat}(v:List (K×Nat))(k:K)(hm:gZ I.ti t (MKey.kT k)=some et)(hz:rE P et .nilFunc)(hc:cC v k=some c):
  xP P t [.map ob,.t (MKey.kT k)] (.fn (.func c) 0 []) [(ob,.mp none (eM (fun c=>.d (.fv c)) v) none)]:=by
 intro F g w u kv x y hxy hxv hkv0 hH;cases hxy;obtain⟨kt,kd,hT⟩:=jJ hI hm;obtain⟨info,hi,hz⟩:=hz;obtain⟨b,es,clock,e1,e2,l1,r1,hM⟩:=hH _ (bX.2 rfl);have hkv:=hkv0.key hT.d;cases hxv with
 | map hg=>
  rw[e1]at hg; injection hg with hg; injection hg with hg; subst hg;have hrun:=jO (P:=P) hT hkv e2 (hM.kinds (by simp) k) hi hz;have hf:=hM.found k;rcases hrun with⟨h2,hnk⟩ | ⟨e,he,hke,h2⟩
  ·obtain⟨_,e0,he0,hk0⟩:=hf.2 c hc;exact absurd hk0 (hnk e0 he0)
  ·obtain⟨c',hlk,hmem⟩:=hM.hasKey he hke;rw[hc]at hlk;cases hlk;exact⟨_,h2,Un hmem⟩
theorem Le.filld{it:Option dO}{eD:V->T}(v:List (K×V))(k:K)(c:V)(hp:∀ F g w v,VR F g w p v->VR F g w (.t (eD c)) v)(hl:look st.hp o=some (.mp it (eM (fun c=>.d (eD c)) (eZ v k)) (some (MKey.kT k,some p)))):
  Le E st { st with hp:=(o,.mp it (eM (fun c=>.d (eD c)) (wO v k c)) none)::del o st.hp }:=by
 refine Le.objF _ hl (fun F g w h=>?_) (fun g w x h=>?_)
 ·obtain⟨b,es,clock,e1,e2,l1,r1,hM⟩:=h;obtain⟨e,hr,hk,hv⟩:=hM.hole;have hv:=hp _ _ _ _ hv;subst hr;have hM':MpR F g w b es clock it ((MKey.kT k,Mem.d (eD c))::eM (fun c=>.d (eD c)) (eZ v k)) none (e::l1) []:=by
   refine⟨?_,.cons ⟨hk,hv.cells_t rfl⟩ hM.ent,rfl,?_,hM.born,hM.old,?_,hM.it⟩
   ·rw[eK];exact(mV (l₁:=[e]) (l₂:=l1)).trans hM.perm
   ·have:=hM.keys;simp only[hoK,fX,eK]at this ⊢;exact(Ah (mV (l₁:=[MKey.kT k]) (l₂:=(eM (fun c=>Mem.d (eD c)) (eZ v k)).map (·.1)))).2 this
   ·intro i j x y e1 e2 c' hx hy h1 h2 hne ho;have:x.2.owned=false:=by
     cases i with
     | zero=>simp at hx; subst hx; rfl
     | succ i=>have:=eE (show (eM (fun c=>Mem.d (eD c)) (eZ v k))[i]? = some x by simpa using hx);simp only[eM,cE]at this;obtain⟨p,_,rfl⟩:=this;rfl
    rw[this]at ho; cases ho
  obtain⟨l2,hM2⟩:=hM'.permM (yC (enc:=fun c=>Mem.d (eD c)) v k c);exact⟨b,es,clock,e1,e2,l2,[],hM2⟩
 ·cases h with
  | self h=>exact .self h
  | iter h=>exact .iter h
  | mem h1 h2 h3 h4 h5 h6 h7=>simp only[eM,cE]at h4;obtain⟨p,_,rfl⟩:=h4;cases h6
end
section
variable {P:Program} {E:Env} {I:Inf} {st:St} {a:Act} {w:World} {K V:Type} [MKey K]
theorem iT.remap{α β γ:Type}{R:β->γ->Prop}{R':β->γ->Prop}{f f':α->β}:∀ {v:List α} {l:List γ},iT R (v.map f) l->(∀ p e,p∈v->e∈l->R (f p) e->R' (f' p) e)->iT R' (v.map f') l
 | [],_,h,_=>by cases h; exact .nil
 | p::v,_,h,hr=>by
  cases h with
  | cons h t=>exact .cons (hr p _ (by simp) (by simp) h) (iT.remap t fun q e hq he=>hr q e (bI _ hq) (bI _ he))
theorem Le.gapd{it:Option dO}{eD:V->T}(v:List (K×V))(k:K)(c:V)(hlk:cC v k=some c)(hl:look st.hp o=some (.mp it (eM (fun c=>.d (eD c)) v) none)):
  Le E st { st with hp:=(o,.mp it (eM (fun c=>.d (eD c)) (eZ v k)) (some (MKey.kT k,some (.t (eD c)))))::del o st.hp }:=by
 refine Le.objF _ hl (fun F g w h=>?_) (fun g w c' h=>?_)
 ·obtain⟨b,es,clock,e1,e2,l1,r1,hM⟩:=h;refine⟨b,es,clock,e1,e2,?_⟩;obtain⟨hp,_⟩:=(hM.found k).2 c hlk;obtain⟨l2,hM2⟩:=hM.permM hp;obtain⟨e,l',_,_,_,_,h⟩:=hM2.focus (g':=g) (p:=some (.t (eD c))) (fun q hq u hu _=>by cases hq; exact .t hu) hM.it;exact⟨_,_,h⟩
 ·cases h with
  | self h=>exact .self h
  | iter h=>exact .iter h
  | mem h1 h2 h3 h4 h5 h6 h7=>refine .mem h1 h2 h3 ?_ h5 h6 h7;simp only[eM,eZ,cE,mC]at h4 ⊢;obtain⟨p,⟨hp,_⟩,rfl⟩:=h4;exact⟨p,hp,rfl⟩
theorem bA.fzmap{F:Nat->Prop}{g:Nat->Value}(r:bA E F g st a w){it:Option dO}{e:TypeId}{nn:V->Nat}{ff:V->Nat->List T}{eD:V->T}(v:List (K×V))(hv:∀ c,(eD c).view=some (nn c,ff c))
  (hl:look st.hp o=some (.mp it (eM (fun c=>.row e s (nn c) (ff c)) v) none)):Rel E { st with hp:=(o,.mp it (eM (fun c=>.d (eD c)) v) none)::del o st.hp } a w:=by
 have hlm:=aE hl;obtain⟨b0,es,clock,e1,e2,l1,r1,hM⟩:=r.w.hp.obj _ _ hlm;let M:Nat->Prop:=fun b=>∃ en x,en∈es.toList/\x∈eM (fun c=>.row e s (nn c) (ff c)) v/\KeyR x.1 en.key/\blk en.val=some b;have hfoot:∀ b,M b->aK g w o (.mp it (eM (fun c=>.row e s (nn c) (ff c)) v) none) b:=by rintro b ⟨en,x,h1,h2,h3,h4⟩;refine .mem e1 e2 h1 h2 h3 ?_ h4;simp only[eM,cE]at h2;obtain⟨p,_,rfl⟩:=h2;rfl
 have hcell:∀ b,M b->∃ vs ty,w.heap[b]? = some (.cells vs ty (0,0)):=by
  rintro b ⟨en,x,h1,h2,h3,h4⟩;obtain⟨⟨_,hR⟩,_⟩:=hM.entry h2 h1 h3;simp only[eM,cE]at h2;obtain⟨p,_,rfl⟩:=h2;rcases hR with⟨h5,_⟩ | ⟨b',cap,cur,h5,h6,_⟩
  ·rw[h5]at h4; simp[blk]at h4
  ·rw[h5]at h4; simp[blk]at h4; subst h4; exact⟨_,_,h6⟩
 have hnew:∀ b,aK g w o (.mp it (eM (fun c=>.d (eD c)) v) none) b->aK g w o (.mp it (eM (fun c=>.row e s (nn c) (ff c)) v) none) b/\¬ M b:=by
  intro b h;cases h with
  | self h=>refine⟨.self h,fun hm=>?_⟩;obtain⟨vs,ty,hc⟩:=hcell b hm;rw[e1]at h; simp[blk]at h; subst h;rw[e2]at hc; cases hc
  | @iter i _ _ _ h=>refine⟨.iter h,fun hm=>?_⟩;obtain⟨vs,ty,hc⟩:=hcell b hm;obtain⟨rr,since,seen,c0,g1,g2,_⟩:=hM.it;rw[g1]at h; simp[blk]at h; subst h;rw[g2]at hc; cases hc
  | mem h1 h2 h3 h4 h5 h6 h7=>simp only[eM,cE]at h4;obtain⟨p,_,rfl⟩:=h4;cases h6
 refine⟨fun b=>F b\/M b,g,r.nt,r.df,fun t x hx=>(r.fr t x hx).mono (fun b hb=>⟨.inl hb,rfl⟩) (fun _ _=>rfl),⟨⟨fun k y hy=>?_,fun k y b hy hb=>?_,fun k y k' y' b hy hy' hne hb hb'=>?_⟩,fun b hb=>.inl (r.w.f0 b hb),fun b hb=>?_,r.w.ext,r.w.names,r.w.b0⟩⟩
 ·rcases aL.1 hy with he | hy
  ·cases he;have hr1:=hM.hole;refine⟨b0,es,clock,e1,e2,l1,r1,hM.perm,?_,hr1,?_,hM.born,hM.old,fun i j x y' e1 e2 c hx hy h1 h2 hne ho=>?_,hM.it⟩
   ·refine iT.remap hM.ent fun p en hp hen hR=>⟨hR.1,?_⟩;refine rX (g:=fun _=>en.val) (o:=0) (F:=F) (e:=e) (s:=s) hR.2 (fun b hb=>.inl hb) (fun b hb=>.inr ⟨en,_,hM.perm.mem_iff.1 (gI _ hen),kN hp,hR.1,hb⟩) (hv p.2)
   ·have:=hM.keys;rw[jZ]at this ⊢;exact this
   ·have:=eE hx;simp only[eM,cE]at this;obtain⟨p,_,rfl⟩:=this;cases ho
  ·exact(r.w.hp.obj k y (aJ.1 hy).1).mono (fun b hb=>⟨.inl hb,rfl⟩) rfl (fun _ _=>rfl) (fun _ _=>rfl)
 ·rcases aL.1 hy with he | hy
  ·cases he;obtain⟨h1,h2⟩:=hnew b hb;obtain⟨h3,h4⟩:=r.w.hp.own _ _ b hlm h1;exact⟨fun h=>h.elim h3 h2,h4⟩
  ·obtain⟨hy1,hy2⟩:=aJ.1 hy;obtain⟨h3,h4⟩:=r.w.hp.own _ _ b hy1 hb;exact⟨fun h=>h.elim h3 fun hm=>r.w.hp.sep k y o _ b hy1 hlm hy2 hb (hfoot b hm),h4⟩
 ·rcases aL.1 hy with he | hy
  ·rcases aL.1 hy' with he' | hy'
   ·cases he; cases he'; exact hne rfl
   ·cases he;obtain⟨h1,h2⟩:=aJ.1 hy';exact r.w.hp.sep _ _ k' y' b hlm h1 hne (hnew b hb).1 hb'
  ·obtain⟨h1,h2⟩:=aJ.1 hy;rcases aL.1 hy' with he' | hy'
   ·cases he';exact r.w.hp.sep k y _ _ b h1 hlm hne hb (hnew b hb').1
   ·exact r.w.hp.sep k y k' y' b h1 (aJ.1 hy').1 hne hb hb'
 ·rcases hb with hb | hb
  ·exact r.w.f1 b hb
  ·obtain⟨vs,ty,hc⟩:=hcell b hb;have:=(r.w.hp.own _ _ b hlm (hfoot b hb)).2;exact⟨(sL.1 hc).1,this.elim (fun h=>.inr (.inl h)) (fun h=>.inr (.inr h))⟩
theorem Le.fzmap{o:Nat}{it:Option dO}{e:TypeId}{s:Nat}{nn:V->Nat}{ff:V->Nat->List T}{eD:V->T}(v:List (K×V))(hv:∀ c,(eD c).view=some (nn c,ff c))
  (hl:look st.hp o=some (.mp it (eM (fun c=>.row e s (nn c) (ff c)) v) none)):Le E st { st with hp:=(o,.mp it (eM (fun c=>.d (eD c)) v) none)::del o st.hp }:=fun _ _ r=>by
 obtain⟨F,g,r⟩:=r;exact r.fzmap v hv hl
end
inductive Kf where
 | s (y:Code)
 | b (id:Nat)
inductive Cfg where
 | c (x:Code) (ks:List Kf)
 | o (all l:List Oper) (ks:List Kf)
 | x (e:Exit) (ks:List Kf)
def kQ(P:Program)(E:Env):List Kf->dQ->dQ
 | [],Q=>Q
 | .s y::ks,Q=>qA P E y (kQ P E ks Q)
 | .b id::ks,Q=>gO id (kQ P E ks Q)
def cwp(P:Program)(E:Env)(g:Cfg)(Q:dQ)(st:St):Prop:=
 match g with
 | .c x ks=>pwp P E x (kQ P E ks Q) st
 | .o all l ks=>bY P E all (kQ P E ks Q) l st
 | .x e ks=>∃ t,Le E st t/\kQ P E ks Q e t
def Qk:Cfg->Option Cfg
 | .c (.seq a b) ks=>some (.c a (.s b::ks))
 | .c (.block id a) ks=>some (.c a (.b id::ks))
 | .c (.region _ ops false) ks=>some (.o ops.toList ops.toList ks)
 | .c .skip ks=>some (.x .normal ks)
 | .c .ret ks=>some (.x .ret ks)
 | .c (.exit id) ks=>some (.x (.exit id) ks)
 | .o _ [] ks=>some (.x .normal ks)
 | .x .normal (.s y::ks)=>some (.c y ks)
 | .x .normal (.b _::ks)=>some (.x .normal ks)
 | .x .ret (_::ks)=>some (.x .ret ks)
 | .x (.exit i) (.s _::ks)=>some (.x (.exit i) ks)
 | .x (.exit i) (.b j::ks)=>match Nat.beq i j with | true=>some (.x .normal ks) | false=>some (.x (.exit i) ks)
 | _=>none
def nrm:Nat->Cfg->Cfg
 | 0,g=>g
 | n+1,g=>match Qk g with | some g'=>nrm n g' | none=>g
def Pj:Op->Bool
 | .call { callee:=.builtin .append,.. }=>true
 | _=>false
def apA(st:St)(j:bV)(p:PV)(o2:Nat):Option (Prop×(Nat->Bool)):=
 match p with
 | .nil=>match look st.hp o2 with
  | some (.arm _ _ m f none)=>some ((0+m)*j.bytes<=140737488355328,fun i=>Iq j.size (f i))
  | _=>none
 | .own o1=>match look st.hp o1,st.erase o1 with
  | some (.arm _ _ n _ none),some st0=>match look st0.hp o2 with
   | some (.arm _ _ m f none)=>some ((n+m)*j.bytes<=140737488355328,fun i=>Iq j.size (f i))
   | _=>none
  | _,_=>none
 | _=>none
theorem Sy{I:Inf}{st st':St}{d o2:Nat}{j:bV}{C0 q:Prop}{f:Nat->Bool}(h:rM I st d e j p o2=some (st',C0))(hx:apA st j p o2=some (q,f))(hq:q)(hf:∀ i,f i=true):C0:=by
 unfold rM at h;unfold apA at hx;split at h
 ·cases p with
  | nil=>
   simp only at h hx;split at h
   ·rename_i e' s' m f' st1 hl he;rw[hl]at hx;cases hx;split at h
    ·cases h; exact⟨hq,fun i _=>hf i⟩
    ·cases h
   ·cases h
  | own o1=>
   simp only at h hx;split at h
   ·rename_i e1 s1 n f1 st0 hl1 he1;rw[hl1,he1]at hx;simp only at hx;split at h
    ·rename_i e' s' m f' st1 hl2 he2 hne;rw[hl2]at hx;cases hx;split at h
     ·cases h; exact⟨hq,fun i _=>hf i⟩
     ·cases h
    ·cases h
   ·cases h
  | _=>simp at h
 ·cases h
def apX(I:Inf)(st:St)(o:Oper):Option (Prop×(Nat->Bool)):=
 match o.op with
 | .call c=>match c.args.toList,c.argTypes.toList with
  | [s,x],[t,_]=>match I.ti t,ev st s,ev st x with
   | some i,some p,some q=>match i.und,mT st q with
    | .sl e,some (m,f2,_)=>match I.ti e with
     | some j=>match p with
      | .nil=>some ((0+m)*j.bytes<=140737488355328,fun i=>fA j.size (f2 i))
      | .own o=>match look st.hp o with
       | some (.arr _ _ n _)=>some ((n+m)*j.bytes<=140737488355328,fun i=>fA j.size (f2 i))
       | _=>none
      | _=>none
     | _=>none
    | .sl e,none=>match I.ti e,q with
     | some j,.own o2=>apA st j p o2
     | _,_=>none
    | _,_=>none
   | _,_,_=>none
  | _,_=>none
 | _=>none
def Hf(I:Inf)(all:List Oper)(o:Oper)(st:St):Option (St×List Prop×List (Nat->Bool)):=
 match tL I all o st with
 | none=>none
 | some (st',C)=>match Pj o.op,aU all o st with
  | true,some true=>match apX I st o with | some (p,f)=>some (st',[p],[f]) | none=>none
  | _,_=>some (st',C,[])
def run(I:Inf):Nat->Cfg->St->Option (Cfg×St×List Prop×List (Nat->Bool))
 | 0,g,st=>some (nrm 300 g,st,[],[])
 | n+1,g,st=>match nrm 300 g with
  | .o all (op::l) ks=>match Hf I all op st with
   | some (st',C,f)=>match run I n (.o all l ks) st' with
    | some (g',st'',C',f')=>some (g',st'',C++C',f++f')
    | none=>none
   | none=>none
  | .c (.cond c x y) ks=>match ev st c with
   | some (.t (.bool true))=>run I n (.c x ks) st
   | some (.t (.bool false))=>run I n (.c y ks) st
   | _=>none
  | _=>none
section
variable {P:Program} {E:Env} {I:Inf} {Q:dQ} {st st':St}
theorem gN{g:Cfg}(h:Le E st st')(hk:cwp P E g Q st'):cwp P E g Q st:=by
 cases g with
 | c x ks=>exact nP h hk
 | o all l ks=>exact cT h hk
 | x e ks=>obtain⟨t,h1,h2⟩:=hk; exact⟨t,h.trans h1,h2⟩
theorem Od{g g':Cfg}(h:Qk g=some g')(hk:cwp P E g' Q st):cwp P E g Q st:=by
 unfold Qk at h;split at h
 ·cases h; exact Mo hk
 ·cases h; exact Bw hk
 ·rename_i id ops ks;cases h;have:ops=ops.toList.toArray:=by simp
  show pwp P E (.region id ops false) _ _;rw[this];exact xQ hk
 ·cases h; obtain⟨t,h1,h2⟩:=hk; exact nP h1 (Gt h2)
 ·cases h; obtain⟨t,h1,h2⟩:=hk; exact nP h1 (Ol h2)
 ·cases h; obtain⟨t,h1,h2⟩:=hk; exact nP h1 (Jo h2)
 ·cases h; obtain⟨t,h1,h2⟩:=hk; exact cT h1 (Iw h2)
 ·cases h; exact⟨st,Le.refl,Rc hk⟩
 ·cases h; obtain⟨t,h1,h2⟩:=hk; exact⟨t,h1,Wb h2⟩
 ·rename_i k ks;cases h; obtain⟨t,h1,h2⟩:=hk;cases k with
  | s y=>exact⟨t,h1,Ff h2⟩
  | b id=>exact⟨t,h1,Mt h2⟩
 ·cases h; obtain⟨t,h1,h2⟩:=hk; exact⟨t,h1,Cw h2⟩
 ·rename_i i j ks;split at h
  ·rename_i hij;cases h; obtain⟨t,h1,h2⟩:=hk;have:=aZ hij;subst this;exact⟨t,h1,Nj h2⟩
  ·rename_i hij;cases h; obtain⟨t,h1,h2⟩:=hk;exact⟨t,h1,Fm (gD hij) h2⟩
 ·cases h
theorem pY:∀ {n:Nat} {g:Cfg},cwp P E (nrm n g) Q st->cwp P E g Q st
 | 0,_,h=>h
 | n+1,g,h=>by
  simp only[nrm]at h;split at h
  ·rename_i g' hg; exact Od hg (pY h)
  ·exact h
theorem Qg{all:List Oper}{o:Oper}{C:List Prop}{p:Prop}{f:Nat->Bool}(ha:Pj o.op=true)(h:tL I all o st=some (st',C))(hw:aU all o st=some true)(hx:apX I st o=some (p,f))(hp:p)(hf:∀ i,f i=true):All C:=by
 obtain⟨dst,op,ty,pos,aft,gd⟩:=o;cases op with
 | call c=>
  obtain⟨callee,args,argTypes⟩:=c;cases callee with
  | builtin b=>
   cases b with
   | append=>
    unfold tL at h;simp only[hw]at h;have hs:∃ C0,fF I st { dst:=dst,op:=.call { callee:=.builtin .append,args:=args,argTypes:=argTypes },type:=ty,pos:=pos,after:=aft,guard:=gd }=some (st',C0)/\C=[C0]:=by
     split at h
     ·rename_i st1 C0 hs;cases h;exact⟨C0,hs,rfl⟩
     ·cases h
    obtain⟨C0,hs,rfl⟩:=hs;show C0;unfold fF at hs;unfold apX at hx;cases dst with
    | none=>simp at hs
    | some d=>
     simp only at hs hx;split at hs
     case h_2=>cases hs
     rename_i s x t t' h1 h2;rw[h1,h2]at hx;simp only at hx;split at hs
     case h_2=>cases hs
     rename_i i p0 q0 _ h3 h4 h5;rw[h3,h4,h5]at hx;simp only at hx;split at hs
     case h_3=>cases hs
     case h_2=>
      rename_i e h6 h7;rw[h6,h7]at hx;simp only at hx;split at hs
      ·rename_i j o2 h8;rw[h8]at hx;simp only at hx;exact Sy hs hx hp hf
      ·cases hs
     rename_i e m f2 s2 h6 h7;rw[h6,h7]at hx;simp only at hx;split at hs
     case h_2=>cases hs
     rename_i j h8;rw[h8]at hx;simp only at hx;split at hs
     case h_2=>cases hs
     cases p0 with
     | nil=>
      simp only at hs hx;cases hx;split at hs
      ·cases hs; exact⟨hp,fun i _=>hf i⟩
      ·cases hs
     | own oo=>
      simp only at hs hx;split at hs
      case h_2=>cases hs
      rename_i e' s' n f1 st1 h9 h10;rw[h9]at hx;simp only at hx;cases hx;split at hs
      ·cases hs; exact⟨hp,fun i _=>hf i⟩
      ·cases hs
     | _=>simp at hs
   | _=>cases ha
  | _=>cases ha
 | _=>cases ha
theorem Gk(hG:cZ P E I){all l:List Oper}{o:Oper}{C:List Prop}(h:Hf I all o st=some (st',C,fs))(hC:All C)(hf:∀ f,f∈fs->∀ i,f i=true)
  (hk:bY P E all Q l st'):bY P E all Q (o::l) st:=by
 unfold Hf at h;split at h
 ·cases h
 ·rename_i st1 C1 hs;have:st1=st'/\All C1:=by
   split at h
   ·rename_i hw;rename_i ha;split at h
    ·rename_i p f hx;cases h;exact⟨rfl,Qg ha hs hw hx hC (hf f (by simp))⟩
    ·cases h
   ·cases h; exact⟨rfl,hC⟩
  obtain⟨rfl,hC1⟩:=this;intro a w r;exact Jm hG (ops:=all.toArray) (by simpa using hs) hC1 r hk
theorem bM(hG:cZ P E I):∀ {n:Nat} {g g':Cfg} {st st':St} {C:List Prop} {fs:List (Nat->Bool)},run I n g st=some (g',st',C,fs)->All C->(∀ f,f∈fs->∀ i,f i=true)->cwp P E g' Q st'->cwp P E g Q st
 | 0,g,g',st,st',C,fs,h,_,_,hk=>by simp only[run,cV,dS]at h;obtain⟨rfl,rfl,_⟩:=h;exact pY hk
 | n+1,g,g',st,st',C,fs,h,hC,hf,hk=>by
  simp only[run]at h;split at h
  ·rename_i all op l ks hg;split at h
   ·rename_i st1 C1 f1 hs;split at h
    ·rename_i g2 st2 C2 f2 hr;cases h;rw[All.append]at hC;refine pY (n:=300) ?_;rw[hg];exact Gk hG hs hC.1 (fun f hm=>hf f (gI _ hm)) (bM hG hr hC.2 (fun f hm=>hf f (gV _ hm)) hk)
    ·cases h
   ·cases h
  ·rename_i c x y ks hg;refine pY (n:=300) ?_;rw[hg];split at h
   ·rename_i hc;exact rI (b:=true) hc (fun _=>bM hG h hC hf hk) (fun e=>by cases e)
   ·rename_i hc;exact rI (b:=false) hc (fun e=>by cases e) (fun _=>bM hG h hC hf hk)
   ·cases h
  ·cases h
end
structure Conv {α:Type}(f:Nat->Option α)(g:Option α):Prop where
 mono:∀ n y,f n=some y->f (n+1)=some y
 lim:∀ y,g=some y↔∃ n,f n=some y
theorem Conv.of_run{f:Nat->Option α}{g:Option α}(h:Conv f g)(n:Nat){y:α}(hy:f n=some y):g=some y:=(h.lim y).2 ⟨n,hy⟩
theorem Conv.run{f:Nat->Option α}{g:Option α}(h:Conv f g){y:α}(hy:g=some y):∃ n,f n=some y:=(h.lim y).1 hy
open Classical in
noncomputable def Lim {α:Type}(f:Nat->Option α):Option α:=match f 1000000000 with
 | some y=>some y
 | none=>if h:∃ y n,f n=some y then some h.choose else none
theorem Lim.or(f:Nat->Option α):(∃ y n,f n=some y/\Lim f=some y)\/(Lim f=none/\∀ y n,f n≠some y):=by
 unfold Lim;cases h:f 1000000000 with
 | some y=>exact .inl ⟨y,_,h,rfl⟩
 | none=>
  simp only;by_cases hx:∃ y n,f n=some y
  ·rw[dif_pos hx];obtain⟨n,hn⟩:=hx.choose_spec;exact .inl ⟨_,n,hn,rfl⟩
  ·rw[dif_neg hx];exact .inr ⟨rfl,fun y n hy=>hx ⟨y,n,hy⟩⟩
attribute [irreducible] Lim
theorem Lim.conv{f:Nat->Option α}(hm:∀ n y,f n=some y->f (n+1)=some y):Conv f (Lim f):=by
 have hle:∀ {n m:Nat},n<=m->∀ {y:α},f n=some y->f m=some y:=by
  intro n m h
  induction h with
  | refl=>exact fun h=>h
  | step _ ih=>exact fun h=>hm _ _ (ih h)
 refine⟨hm,fun y=>?_⟩;rcases Lim.or f with⟨z,m,hz,hl⟩ | ⟨hl,hn⟩
 ·rw[hl];constructor
  ·intro e; cases e; exact⟨m,hz⟩
  ·rintro⟨n,hn⟩;have h1:=hle (Nat.le_max_left n m) hn;have h2:=hle (Nat.le_max_right n m) hz;rw[h1]at h2; cases h2; rfl
 ·rw[hl];constructor
  ·intro e; cases e
  ·rintro⟨n,h⟩; exact absurd h (hn y n)
theorem xX{b:S->Option (S⊕R)}{s:S}{r:R}(h:gJ b n s=some r):gJ b (n+1) s=some r:=by
 induction n generalizing s with
 | zero=>simp[gJ]at h
 | succ n ih=>
  rw[gJ]at h ⊢;cases hb:b s with
  | none=>simp[hb]at h
  | some x=>
   cases x with
   | inl s'=>simp only[hb]at h ⊢; exact ih h
   | inr r'=>simp only[hb]at h ⊢; exact h
noncomputable def dN (b:S->Option (S⊕R))(s:S):Option R:=Lim fun n=>gJ b n s
theorem iB(b:S->Option (S⊕R))(s:S):Conv (fun n=>gJ b n s) (dN b s):=Lim.conv fun _ _ h=>xX h
theorem lR(b:S->Option (S⊕R))(s:S):dN b s=match b s with | none=>none | some (.inl s')=>dN b s' | some (.inr r)=>some r:=by
 have hc:=iB b s;cases hb:b s with
 | none=>
  simp only;cases hw:dN b s with
  | none=>rfl
  | some y=>obtain⟨n,hn⟩:=hc.run hw; cases n <;> simp[gJ,hb]at hn
 | some x=>
  cases x with
  | inr r=>exact hc.of_run 1 (by simp[gJ,hb])
  | inl s'=>
   simp only;have hc':=iB b s';cases hw:dN b s' with
   | some y=>obtain⟨n,hn⟩:=hc'.run hw; exact hc.of_run (n+1) (by simp[gJ,hb,hn])
   | none=>
    cases hv:dN b s with
    | none=>rfl
    | some y=>
     obtain⟨n,hn⟩:=hc.run hv;cases n with
     | zero=>simp[gJ]at hn
     | succ n=>simp only[gJ,hb]at hn; rw[hc'.of_run n hn]at hw; cases hw
theorem oZ{b:S->Option (S⊕R)}{s s':S}(h:b s=some (.inl s')):dN b s=dN b s':=by rw[lR,h]
theorem iH{b:S->Option (S⊕R)}{s:S}{r:R}(h:b s=some (.inr r)):dN b s=some r:=by rw[lR,h]
theorem uQ{b:S->Option (S⊕R)}{s:S}{r:R}(h:gJ b n s=some r):dN b s=some r:=(iB b s).of_run n h
end Go.PL
