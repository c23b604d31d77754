/-
  Parts: buildSlice, store; all operations that make or write memory. Own work. append of a string's bytes to a row of ours. Own work (the proofs of Pj, for strings). Runs of operations, and the rules for code, on abstract states. Own work. What a change leaves true that leaves the cells of the frozen blocks as they were (a mark of a loop is taken). Printed out of the older rules. Own work. Runs of operations in a round of a loop over a function, from those of a plain body. Own work. The rules: regions, code, calls, functions. Own work. Calls and functions; steps that change the state's form alone. Own work. Calls of functions; freezing, renaming, retyping. Own work. Small lemmas for the printed proofs. Own work. Regions whose order is open: every order, looked at by a computation over abstract states. Own work. Calls that hand memory over. Own work.
-/
import Derived.Test.YtabcengbnoidlaaGreatDoorMa
import Derived.Lib.AppendStr
import Derived.OrdersIn
import Derived.TacticsIn
import Derived.LoopNIn
import Derived.Orders
import Derived.Tactics
import Derived.LoopN
import Derived.RangeFuncLeaves
import Derived.RangeFuncRecord
import Derived.Defers
import Derived.Lib.LaidTab
import Derived.Lib.ItoaNum
import Derived.Lib.Space
set_option maxHeartbeats 4000000
namespace Go.PL
open Go
variable {C:Prop} {I:Inf} {b d i k len n o off s:Nat} {c:Cel} {cur:Array Value} {e t:TypeId} {f:Nat->List Cel} {j:eG} {ob:Obj} {p:PV} {parts:Array (Nat×Operand)} {ps:List (Nat×PV)} {st':St} {v:Value} {w':World} {x y:bA}
section
variable {P:Program} {E:Env} {F:Nat->Prop} {g:Nat->Value} {st:St} {a:Act} {w:World}
theorem rV(hj:TOk P e j)(n:Nat)(hz:j.zero.length=j.size)(h1:1<=j.size):∃ info z,P.info? e=some info/\info.zero=some z/\info.size=j.size/\z.cells.size=j.size /\
  ∀ (F:Nat->Prop) (g:Nat->Value) (w:World) (k:Nat) x v,(iA j n)[k]? = some x->((Array.range n).map (z.cells[· % z.cells.size]!))[k]? = some v->VR F g w x v:=by
 obtain⟨info,h1,h2,h3,z,h4,h5⟩:=hj.info;have h6:z.cells.size=j.zero.length:=by simpa using congrArg List.length h5
 refine⟨info,z,h1,h4,h2,by omega,fun F g w k x v hx hv=>?_⟩;simp only[iA,fD,gB]at hx;obtain⟨k',hk',hx⟩:=hx;have hkn:k<n:=by have:=(eK.1 hk').1; simpa using this
 have hk'':k'=k:=by simp[hkn]at hk'; exact hk'.symm
 subst hk'';simp[hkn]at hv;rw[h6]at hv;have hpos:0<j.zero.length:=by omega
 have hlt:k' % j.zero.length<j.zero.length:=Nat.mod_lt _ hpos;have:=congrArg (·[k' % j.zero.length]?) h5;have hlt':k' % j.zero.length<z.cells.size:=by omega
 simp only[fD,zN]at this;rw[uN hlt',gJ hlt]at this;simp only[qJ,gO]at this;rw[cI,gJ hlt,Db]at hx;rw[getElem!_pos z.cells _ hlt']at hv;subst hx; subst hv;exact sO this F g w
theorem Dm{ts:List T}{j:Nat}(hj:j<s):(dT ts s i)[j]? = ts[i*s+j]?:=by simp only[dT,iR,aA hj,iD]
theorem rS{ts:List T}(hl:ts.length=n*s)(hi:i<n):(dT ts s i).length=s:=by simp only[dT,dM,fI,hl];have:(i+1)*s<=n*s:=iN _ hi;rw[gW,mW]at this;omega
def wJ(c:List PV)(ts:List T):Prop:=ts.length=c.length/\∀ (j:Nat) p x,c[j]? = some p->ts[j]? = some x->∀ F g w v,VR F g w p v->VR F g w (.t x) v
def Cp:List PV->Option (List T)
 | []=>some []
 | .t x::l=>match Cp l with | some r=>some (x::r) | none=>none
 | .nil::l=>match Cp l with | some r=>some (.lz (.exprs [])::r) | none=>none
 | _::_=>none
theorem wJ.ofZ:∀ {c:List PV} {ts:List T},Cp c=some ts->wJ c ts
 | [],ts,h=>by cases h; exact⟨rfl,fun j p x hp=>by simp at hp⟩
 | q::l,ts,h=>by
  have key:∀ (y:T) (r:List T),ts=y::r->Cp l=some r->(∀ F g w v,VR F g w q v->VR F g w (.t y) v)->wJ (q::l) ts:=by
   intro y r e hr hy;subst e;obtain⟨h1,h2⟩:=wJ.ofZ hr;refine⟨by simp[h1],fun j p x hp hx=>?_⟩;cases j with
   | zero=>simp at hp hx; subst hp hx; exact hy
   | succ j=>exact h2 j p x (by simpa using hp) (by simpa using hx)
  unfold Cp at h;split at h
  ·cases ‹q::l=[]›
  ·rename_i x l' e;cases e;split at h
   ·rename_i r hr; cases h; exact key _ _ rfl hr fun _ _ _ _ hv=>hv
   ·cases h
  ·rename_i l' e;cases e;split at h
   ·rename_i r hr; cases h; exact key _ _ rfl hr fun _ _ _ _ hv=>by cases hv; exact .t (.nil rfl)
   ·cases h
  ·cases h
theorem wJ.of{c:List PV}{ts:List T}(h:zR c=some ts):wJ c ts:=by have hc:=Gp h;subst hc;refine⟨by simp,fun j p x hp hx F g w v hv=>?_⟩;simp only[fD]at hp;rw[hx]at hp;simp only[qJ,gO]at hp;subst hp;exact hv
theorem nJ(hn:E.N=I.N)(hnt:E.nt=I.nt)(r:cL E F g st a w)(hd:P.underlying t=some (.slice e))(hj:TOk P e j) 
  (hps:gM st parts.toList=some ps)(h1:len*j.size<=16777216)(h2:1<=j.size)(hz:j.zero.length=j.size){c:List PV}
  (hc:mJ (fun i=>some (i*j.size,j.size)) (iA j (len*j.size)) ps=some c){ts:List T}(hts:wJ c ts)(hcl:c.length=len*j.size) 
  (h:fW I st d (.arr e j.size len (dT ts j.size)) (.own d)=some st'):
  ∃ u w',(Instr.buildSlice t len (parts.map fun (i,x)=>(i,a.eval x))).run P w = .ok u w'/\Rel E st' (a.put (some d) u) w':=by
 obtain⟨info,z,hi1,hi2,hi3,hi4,hi5⟩:=rV hj (len*j.size) hz h2;obtain⟨hl,hp⟩:=lJ r _ _ hps;obtain⟨oc,ho1,ho2,ho3⟩:=rR (F:=F) (g:=g) (w:=w) ps (parts.toList.map fun (i,x)=>(i,a.eval x)) (iA j (len*j.size)) ((Array.range (len*j.size)).map (z.cells[· % z.cells.size]!)) c
  (by simp[hl]) hp (by simp[iA]) (hi5 F g w) hc
 have htl:ts.length=len*j.size:=by rw[<-hcl]; exact hts.1
 have hsz:(sizeOf e).run P w = .ok j.size w:=run_sizeOf hj;refine⟨.slice (some ⟨w.heap.size,0,none⟩) len len,w.alloc (.cells oc e),?_,pE hn hnt r h rfl rfl rfl rfl rfl (fun g' _ hv=>?_) (fun g' hv=>.own hv)⟩
 ·have:(parts.map fun (i,x)=>(i,a.eval x)).toList=parts.toList.map fun (i,x)=>(i,a.eval x):=by simp
  rw[<-this]at ho1;unfold Instr.buildSlice;rw[Sem.run_bind,run_underlying hd];simp only[Result.andThen_ok];rw[Sem.run_bind,hsz];simp only[Result.andThen_ok];rw[aF (by omega)];by_cases h0:len*j.size=0
  ·rw[aA h0];have hr0:∀ f:Nat->Value,(Array.range 0).map f=#[]:=fun f=>xU (by simp);rw[h0,hr0]at ho1;rw[h0];simp only[Sem.run_bind,Sem.run_pure,Result.andThen_ok,hr0];rw[ho1];simp[newRow]
  ·rw[aF h0];simp only[Sem.run_bind,Sem.run_pure,Result.andThen_ok,iZ hi1 hi2];rw[ho1];simp[newRow]
 ·refine RowR.obj (cur:=oc) ⟨fun i hi=>rS htl hi,fun i k x hi hx=>?_⟩ hv (heap_alloc_new w _) (fK _) ?_ (by rw[ho2,hcl])
  ·have hk:k<j.size:=by rw[<-rS htl hi]; exact(eK.1 hx).1
   rw[Dm hk]at hx;have hlt:i*j.size+k<oc.size:=by rw[ho2,<-hts.1]; exact(eK.1 hx).1
   have hlc:i*j.size+k<c.length:=by rw[<-ho2]; exact hlt
   refine⟨oc[i*j.size+k],by simp[hlt],?_⟩;have:=hts.2 _ _ _ (by simp[hlc]) hx _ _ _ _ (ho3 (i*j.size+k) c[i*j.size+k] oc[i*j.size+k] (by simp[hlc]) (by simp[hlt]));exact(this.cells_t rfl).mono fun b hb=>⟨hb,heap_alloc_old w _ (r.w.f1 b hb).1⟩
  ·have:len<=len*j.size:=Cd _ h2;simp only[maxLen]; omega
theorem zL{o:Option PV}(h:Tm p=some (c,o)):(∃ y,p = .t y/\c = .d y/\o=none)\/(p = .nil/\c = .nl/\o=none)\/(∃ q,p = .own q/\c = .any/\o=some p):=by
 unfold Tm at h;split at h <;> cases h
 ·exact .inl ⟨_,rfl,rfl,rfl⟩
 ·exact .inr (.inl ⟨rfl,rfl,rfl⟩)
 ·exact .inr (.inr ⟨_,rfl,rfl,rfl⟩)
theorem wD:∀ {l:List PV} {j0:Nat} {cs:List Cel} {o:Option (Nat×PV)},tK j0 l=some (cs,o) ->
  cs.length=l.length/\(∀ (q:Nat) x,cs[q]? = some x->∃ p o,l[q]? = some p/\Tm p=some (x,o))/\∀ j p,o=some (j,p)->∃ q,j=j0+q/\l[q]? = some p/\cs[q]? = some .any
 | [],j0,cs,o,h=>by simp only[tK,gO,gQ]at h;obtain⟨rfl,rfl⟩:=h;exact⟨rfl,by simp,by simp⟩
 | p::l,j0,cs,o,h=>by
  simp only[tK]at h;split at h
  ·rename_i c r o' hc hr;cases h;obtain⟨h1,h2,h3⟩:=wD hr;refine⟨by simp[h1],fun q x hx=>?_,fun j p' e=>?_⟩
   ·cases q with
    | zero=>simp at hx; subst hx; exact⟨p,_,rfl,hc⟩
    | succ q=>simpa using h2 q x (by simpa using hx)
   ·obtain⟨q,e1,e2,e3⟩:=h3 j p' e;exact⟨q+1,by omega,by simpa using e2,by simpa using e3⟩
  ·rename_i c p' r hc hr;cases h;obtain⟨h1,h2,h3⟩:=wD hr;refine⟨by simp[h1],fun q x hx=>?_,fun j p'' e=>?_⟩
   ·cases q with
    | zero=>simp at hx; subst hx; exact⟨p,_,rfl,hc⟩
    | succ q=>simpa using h2 q x (by simpa using hx)
   ·cases e;rcases zL hc with⟨_,_,_,h⟩ | ⟨_,_,h⟩ | ⟨q,e1,e2,e3⟩
    ·cases h
    ·cases h
    ·cases e3;exact⟨0,rfl,rfl,by rw[e2]; rfl⟩
  ·cases h
theorem aHR(hn:E.N=I.N)(hnt:E.nt=I.nt)(r:cL E F g st a w)(h:fW I st d x p=some st') 
  (hv:blk v=some w.heap.size)(hw:w'.heap=w.heap.push ob)(hos:w'.os=w.os)(htp:w'.tape=w.tape)(hout:w'.output=w.output)
  (hx:∀ g',(∀ o,o≠d->g' o=g o)->g' d=v->dD F g' w' d x)(hp:∀ g',g' d=v->VR F g' w' p v)(hft:∀ g' b,g' d=v->bG g' w' d x b->blk v=some b):
  Rel E st' (a.put (some d) v) w':=by
 unfold fW at h;split at h
 ·rename_i st1 h1 h2 h3;cases h;have hd:d<E.nt:=by rw[hnt]; simpa[fE] using h1
  obtain⟨g',hg'⟩:=r.allocF hd (by rw[hn]; exact fJ h2) h3 hv hw hos htp hout hft hx p hp;exact⟨F,g',hg'⟩
 ·cases h
theorem qC(hn:E.N=I.N)(hnt:E.nt=I.nt)(r:cL E F g st a w)(hd:P.underlying t=some (.slice e))(hj:TOk P e j)(hlen:len=1)
  (hps:gM st parts.toList=some ps)(h1:len*j.size<=16777216)(h2:1<=j.size)(hz:j.zero.length=j.size){c:List PV}
  (hc:mJ (fun i=>some (i*j.size,j.size)) (iA j (len*j.size)) ps=some c)(hm:jK d c=true){cs:List Cel}{ov:Option (Nat×PV)}(hcs:tK 0 c=some (cs,ov))(hcl:c.length=len*j.size) 
  (h:fW I st d (.arm e j.size 1 (fun _=>cs) (aMH ov)) (.own d)=some st'):
  ∃ u w',(Instr.buildSlice t len (parts.map fun (i,x)=>(i,a.eval x))).run P w = .ok u w'/\Rel E st' (a.put (some d) u) w':=by
 obtain⟨info,z,hi1,hi2,hi3,hi4,hi5⟩:=rV hj (len*j.size) hz h2;obtain⟨hl,hp⟩:=lJ r _ _ hps;obtain⟨oc,ho1,ho2,ho3⟩:=rR (F:=F) (g:=g) (w:=w) ps (parts.toList.map fun (i,x)=>(i,a.eval x)) (iA j (len*j.size)) ((Array.range (len*j.size)).map (z.cells[· % z.cells.size]!)) c
  (by simp[hl]) hp (by simp[iA]) (hi5 F g w) hc
 obtain⟨k1,k2,k3⟩:=wD hcs;have hsz:(sizeOf e).run P w = .ok j.size w:=run_sizeOf hj;have hosz:oc.size=len*j.size:=by rw[ho2,hcl]
 have hget:∀ (q:Nat) p v,c[q]? = some p->oc[0*j.size+q]? = some v->VR F g w p v:=fun q p v hp hv=>by rw[Nat.zero_mul,eW]at hv;exact ho3 q p v hp hv
 have hnoown:∀ (i q:Nat) (x:Cel),i<1->((fun _:Nat=>cs) i)[q]? = some x->x.owned=true->False:=fun i q x _ hx ho=>by obtain⟨p,o',e1,e2⟩:=k2 q x hx;rcases zL e2 with⟨_,_,h,_⟩ | ⟨_,h,_⟩ | ⟨_,_,h,_⟩ <;> (subst h; cases ho)
 refine⟨.slice (some ⟨w.heap.size,0,none⟩) len len,w.alloc (.cells oc e),?_,aHR hn hnt r h rfl rfl rfl rfl rfl (fun g' hg' hv=>?_) (fun g' hv=>.own hv) (fun g' b hv hf=>?_)⟩
 ·have:(parts.map fun (i,x)=>(i,a.eval x)).toList=parts.toList.map fun (i,x)=>(i,a.eval x):=by simp
  rw[<-this]at ho1;unfold Instr.buildSlice;rw[Sem.run_bind,run_underlying hd];simp only[Result.andThen_ok];rw[Sem.run_bind,hsz];simp only[Result.andThen_ok];rw[aF (by omega),aF (by rw[hlen]; omega)];simp only[Sem.run_bind,Sem.run_pure,Result.andThen_ok,iZ hi1 hi2];rw[ho1];simp[newRow]
 ·subst hlen;refine .inr ⟨w.heap.size,1,oc,hv,heap_alloc_new w _,fK _,by simp only[maxLen]; omega,hosz,⟨fun i _=>by rw[k1,hcl,mW],fun i q x hi hx=>?_,fun i q i' q' x x' v v' c' hi hi' hx hx' ho=>(hnoown i q x hi hx ho).elim,
   fun i q x v hi hx ho=>(hnoown i q x hi hx ho).elim,fun i q p e'=>?_⟩⟩
  ·obtain rfl:i=0:=by omega
   obtain⟨p,o',e1,e2⟩:=k2 q x hx;have hq:q<oc.size:=by rw[ho2]; exact(eK.1 e1).1
   refine⟨oc[q],by rw[Nat.zero_mul,eW]; simp[hq],?_⟩;have hr:=hget q p oc[q] e1 (by rw[Nat.zero_mul,eW]; simp[hq]);rcases zL e2 with⟨y,rfl,rfl,_⟩ | ⟨rfl,rfl,_⟩ | ⟨_,_,rfl,_⟩
   ·exact(hr.cells_t rfl).mono fun b hb=>⟨hb,heap_alloc_old w _ (r.w.f1 b hb).1⟩
   ·generalize oc[q]=u at hr ⊢;cases hr; rfl
   ·exact True.intro
  ·unfold aMH at e';split at e'
   ·cases e'
   ·rename_i j' p';cases e';obtain⟨q',e1,e2,e3⟩:=k3 _ _ rfl;rw[eW]at e1; subst e1;exact⟨by omega,e3,fun v hv'=>(hget _ p v e2 hv').mono (fun b hb=>⟨hb,heap_alloc_old w _ (r.w.f1 b hb).1⟩) (fun o ho=>hg' o (pG hm p (kW e2) o ho))⟩
 ·cases hf with
  | self h=>rw[hv]at h; exact h
  | arm q1 q2 q3 q4 q5 q6 q7=>exact(hnoown _ _ _ q3 q4 q5).elim
theorem aBP(hn:E.N=I.N)(hnt:E.nt=I.nt)(r:cL E F g st a w)(hd:P.underlying t=some (.slice e))(hj:TOk P e j)(ty:TypeId){o2:Nat}{s:Value}(hs:VR F g w p s)(hv:VR F g w (.own o2) v)
  (h:Be I st d e j p o2=some (st',C))(hC:C):∃ u w',(Builtin.append_ #[t,t] ty #[s,v]).run P w = .ok u w'/\Rel E st' (a.put (some d) u) w':=by
 unfold Be at h;split at h
 ·rename_i h1 h2 h3;have h1:=fH h1;have h2:=fH h2;have h3:=cJ h3;split at h
  ·split at h
   ·rename_i e' s' m f st1 hl he;split at h
    ·rename_i st2 h4 h5 hst;have h4:=cJ h4;have h5:=cJ h5;subst h4; subst h5;cases h;cases hs;exact qB hn hnt r hd hj ty h2 h3 h1 hv hC hl (.of he) hst
    ·cases h
   ·cases h
  ·split at h
   ·rename_i o1 e1 s1 n f1 st0 hl1 he1;split at h
    ·rename_i e' s' m f st1 hl2 he2 hne;split at h
     ·rename_i st2 h4 h5 hst;simp only[cP]at h4 h5;obtain⟨h4,h4'⟩:=h4;obtain⟨h5,h5'⟩:=h5;have h4:=cJ h4;have h4':=cJ h4';have h5:=cJ h5;have h5':=cJ h5';subst h4; subst h4'; subst h5; subst h5';cases h;exact Al hn hnt r hd hj ty h2 h3 h1 hs hv hC hl1 (.of he1) hl2 (.of he2) (nP hne) hst
     ·cases h
    ·cases h
   ·cases h
  ·cases h
 ·cases h
theorem cL.fresh(r:cL E F g st a w)(hw:w'.heap=w.heap.push ob)(hos:w'.os=w.os)(htp:w'.tape=w.tape)(hout:w'.output=w.output)(hd:d<E.nt) 
  (hv:VR (fun b=>F b\/b=w.heap.size) g w' p v):cL E (fun b=>F b\/b=w.heap.size) g (st.put d p) (a.put (some d) v) w':=by
 have hold:∀ b,b<w.heap.size->w'.heap[b]? = w.heap[b]?:=fun b hb=>by rw[hw]; simp[Dp,Nat.ne_of_lt hb]
 have hsz:w'.heap.size=w.heap.size+1:=by rw[hw]; simp
 have hF:∀ b,F b->(F b\/b=w.heap.size)/\w'.heap[b]? = w.heap[b]?:=fun b hb=>⟨.inl hb,hold b (r.w.f1 b hb).1⟩;have hft:∀ o x b,(o,x)∈st.hp->bG g w' o x b->bG g w o x b:=fun o x b hx hb=>hb.mono rfl (fun _ _=>rfl) (fun c hc=>hold c ((bG.self hc).block (r.w.hp.obj o x hx)));refine r.putW hd hF (fun t y hy=>⟨hy,fun _ _=>rfl⟩) ⟨⟨fun o x hx=>?_,fun o x b hx hb=>?_,fun o x o' y b hx hy hne hb hb'=>?_⟩,fun b hb=>.inl (r.w.f0 b hb),fun b hb=>?_,?_,r.w.names,r.w.b0⟩ hv
 ·exact(r.w.hp.obj o x hx).mono hF rfl (fun _ _=>rfl) (fun c hc=>hold c (hc.block (r.w.hp.obj o x hx)))
 ·have hb':=hft o x b hx hb;refine⟨?_,(r.w.hp.own o x b hx hb').2⟩;rintro (h | h)
  ·exact(r.w.hp.own o x b hx hb').1 h
  ·have:=hb'.block (r.w.hp.obj o x hx); omega
 ·exact r.w.hp.sep o x o' y b hx hy hne (hft o x b hx hb) (hft o' y b hy hb')
 ·rcases hb with hb | rfl
  ·exact⟨by have:=(r.w.f1 b hb).1; omega,(r.w.f1 b hb).2⟩
  ·exact⟨by omega,.inr (.inr r.w.ext.size)⟩
 ·refine r.w.ext.trans hos htp hout (by omega) (fun b hb _=>hold b ?_);have:=r.w.ext.size;omega
theorem pO{nt:Nat}(hnt:E.nt=nt)(r:cL E F g st a w)(hd:P.underlying t=some (.slice e))(hj:TOk P e j) 
  (hps:gM st parts.toList=some ps)(h1:len*j.size<=16777216)(h2:1<=j.size)(hz:j.zero.length=j.size){c:List PV}
  (hc:mJ (fun i=>some (i*j.size,j.size)) (iA j (len*j.size)) ps=some c){ts:List T}(hts:wJ c ts)(hcl:c.length=len*j.size)(hdn:d<nt):
  ∃ u w' F',(Instr.buildSlice t len (parts.map fun (i,x)=>(i,a.eval x))).run P w = .ok u w'/\cL E F' g (st.put d (.t (.sl len (dT ts j.size)))) (a.put (some d) u) w':=by
 obtain⟨info,z,hi1,hi2,hi3,hi4,hi5⟩:=rV hj (len*j.size) hz h2;obtain⟨hl,hp⟩:=lJ r _ _ hps;obtain⟨oc,ho1,ho2,ho3⟩:=rR (F:=F) (g:=g) (w:=w) ps (parts.toList.map fun (i,x)=>(i,a.eval x)) (iA j (len*j.size)) ((Array.range (len*j.size)).map (z.cells[· % z.cells.size]!)) c
  (by simp[hl]) hp (by simp[iA]) (hi5 F g w) hc
 have htl:ts.length=len*j.size:=by rw[<-hcl]; exact hts.1
 have hsz:(sizeOf e).run P w = .ok j.size w:=run_sizeOf hj;refine⟨.slice (some ⟨w.heap.size,0,none⟩) len len,w.alloc (.cells oc e),fun b=>F b\/b=w.heap.size,?_,r.fresh (ob:=.cells oc e) (w':=w.alloc (.cells oc e)) rfl rfl rfl rfl (hnt▸hdn) (.t (.sl ⟨w.heap.size,0,none⟩ len j.size (fun i k=>oc.getD (i*j.size+k) undef) rfl (fK _) (fun _=>.inr rfl) (fun i hi=>rS htl hi) (fun i k hi hk=>?_) (fun i k x hi hx=>?_)))⟩
 ·have:(parts.map fun (i,x)=>(i,a.eval x)).toList=parts.toList.map fun (i,x)=>(i,a.eval x):=by simp
  rw[<-this]at ho1;unfold Instr.buildSlice;rw[Sem.run_bind,run_underlying hd];simp only[Result.andThen_ok];rw[Sem.run_bind,hsz];simp only[Result.andThen_ok];rw[aF (by omega)];by_cases h0:len*j.size=0
  ·rw[aA h0];have hr0:∀ f:Nat->Value,(Array.range 0).map f=#[]:=fun f=>xU (by simp);rw[h0,hr0]at ho1;rw[h0];simp only[Sem.run_bind,Sem.run_pure,Result.andThen_ok,hr0];rw[ho1];simp[newRow]
  ·rw[aF h0];simp only[Sem.run_bind,Sem.run_pure,Result.andThen_ok,iZ hi1 hi2];rw[ho1];simp[newRow]
 ·have hlt:i*j.size+k<oc.size:=by
   rw[ho2,hcl]
   calc i*j.size+k<i*j.size+j.size:=by omega
    _=(i+1)*j.size:=by rw[Nat.succ_mul]
    _<=len*j.size:=iN _ hi
  rw[Addr.add_none];simp only[eW];have hnew:=heap_alloc_new w (.cells oc e);simp only[World.cell?,hnew];simp[Array.getD,hlt]
 ·have hk:k<j.size:=by rw[<-rS htl hi]; exact(eK.1 hx).1
  rw[Dm hk]at hx;have hlt:i*j.size+k<oc.size:=by rw[ho2,<-hts.1]; exact(eK.1 hx).1
  have hlc:i*j.size+k<c.length:=by rw[<-ho2]; exact hlt
  have hg:oc.getD (i*j.size+k) undef=oc[i*j.size+k]:=by simp[Array.getD,hlt]
  rw[hg];have:=hts.2 _ _ _ (by simp[hlc]) hx _ _ _ _ (ho3 (i*j.size+k) c[i*j.size+k] oc[i*j.size+k] (by simp[hlc]) (by simp[hlt]));exact(this.cells_t rfl).mono fun b hb=>⟨.inl hb,heap_alloc_old w _ (r.w.f1 b hb).1⟩
theorem zK{cs:Array Value}(hb:¬ F b):∀ k,F k->F k/\(w.setRow b cs).heap[k]? = w.heap[k]?:=
 fun k hk=>⟨hk,setRow_other w b k _ (fun e=>hb (e▸hk))⟩
theorem cL.writeF(r:cL E F g st a w)(hl:(o,x)∈st.hp)(hb:bG g w o x b)(hoth:∀ k,k≠b->w'.heap[k]? = w.heap[k]?)(hsz:w'.heap.size=w.heap.size)(hos:w'.os=w.os)(htp:w'.tape=w.tape)(hout:w'.output=w.output)
  (hy:dD F g w' o y)(hft:∀ k,bG g w' o y k->bG g w o x k):cL E F g { st with hp:=(o,y)::del o st.hp } a w':=by
 have hFb:=(r.w.hp.own o x b hl hb).1;have hBb:=(r.w.hp.own o x b hl hb).2;have hF:∀ k,F k->F k/\w'.heap[k]? = w.heap[k]?:=fun k hk=>⟨hk,hoth k (fun e=>hFb (e▸hk))⟩;have other:∀ o' z b',(o',z)∈del o st.hp->bG g w o' z b'->b'≠b:=by intro o' z b' hz hb' e;subst e;exact r.w.hp.sep o' z o x b' (bD.1 hz).1 hl (bD.1 hz).2 hb' hb
 have foot:∀ o' z b',(o',z)∈(o,y)::del o st.hp->bG g w' o' z b'->∃ u,(o',u)∈st.hp/\bG g w o' u b':=by
  intro o' z b' hz hb';rcases aX.1 hz with e | hz
  ·cases e; exact⟨x,hl,hft _ hb'⟩
  ·exact⟨z,(bD.1 hz).1,hb'.mono rfl (fun _ _=>rfl) (fun c hc=>hoth c (other o' z c hz (.self hc)))⟩
 refine⟨r.nt,r.df.mono hF,fun t z hz=>(r.fr t z hz).mono hF (fun _ _=>rfl),⟨⟨?_,?_,?_⟩,r.w.f0,fun k hk=>⟨by rw[hsz]; exact(r.w.f1 k hk).1,(r.w.f1 k hk).2⟩,
  r.w.ext.trans hos htp hout (Nat.le_of_eq hsz.symm) (fun k hk hB=>hoth k (fun e=>?_)),r.w.names,r.w.b0⟩⟩
 ·intro o' z hz;rcases aX.1 hz with e | hz
  ·cases e; exact hy
  ·exact(r.w.hp.obj o' z (bD.1 hz).1).mono hF rfl (fun _ _=>rfl) (fun b' hb'=>hoth b' (other o' z b' hz hb'))
 ·intro o' z b' hz hb';obtain⟨u,h1,h2⟩:=foot o' z b' hz hb';exact r.w.hp.own o' u b' h1 h2
 ·intro o' z o'' z' b' hz hz' hne hb1 hb2;obtain⟨u,h1,h2⟩:=foot o' z b' hz hb1;obtain⟨u',h1',h2'⟩:=foot o'' z' b' hz' hb2;exact r.w.hp.sep o' u o'' u' b' h1 h1' hne h2 h2'
 ·subst e;rcases hBb with h | h
  ·exact hB h
  ·omega
theorem cL.write(r:cL E F g st a w)(hl:(o,x)∈st.hp)(hb:blk (g o)=some b){cs:Array Value}(_hob:w.heap[b]? = some ob)
  (hy:dD F g (w.setRow b cs) o y)(hyp:y.plain=true:=by rfl):cL E F g { st with hp:=(o,y)::del o st.hp } a (w.setRow b cs):=
 r.writeF hl (.self hb) (fun k hk=>setRow_other w b k _ hk) (by simp) rfl rfl rfl hy (fun _ hk=>.self (hk.toBlk hyp))
theorem cL.writeO(r:cL E F g st a w)(hl:(o,x)∈st.hp)(hb:blk (g o)=some b)(_hob:w.heap[b]? = some ob)(hoth:∀ k,k≠b->w'.heap[k]? = w.heap[k]?)(hsz:w'.heap.size=w.heap.size)(hos:w'.os=w.os)(htp:w'.tape=w.tape)(hout:w'.output=w.output)
  (hy:dD F g w' o y)(hyp:y.plain=true:=by rfl):cL E F g { st with hp:=(o,y)::del o st.hp } a w':=
 r.writeF hl (.self hb) hoth hsz hos htp hout hy (fun _ hk=>.self (hk.toBlk hyp))
theorem Bi{ks:List Int}:∀ {m:List (List Int×Bool)} {i j:Nat} {b:Bool},nQ m ks i=some (j,b)->∃ t,j=i+t/\∃ x,m[t]? = some x/\x.1=ks
 | [],i,j,b,h=>by simp[nQ]at h
 | e::m,i,j,b,h=>by
  simp only[nQ]at h;split at h
  ·rename_i he; cases h; exact⟨0,by simp,e,by simp,(eq_of_beq he).symm⟩
  ·obtain⟨t,h1,x,h2,h3⟩:=Bi h;exact⟨t+1,by omega,x,by simpa using h2,h3⟩
theorem Bt(n:Nat)(ks:List Int):Instr.sameBits (n+1) (sI ks) (sI ks)=true:=by
 have:∀ l:List Int,((l.map (Value.int .i64)).zip (l.map (Value.int .i64))).all (fun x=>Instr.sameBits n x.1 x.2)=true:=by
  intro l
  induction l with
  | nil=>rfl
  | cons x l ih=>simp only[kY,List.zip_cons_cons,List.all_cons,ih,Bool.and_true]; cases n <;> simp[Instr.sameBits]
 simp only[sI,Instr.sameBits,cP,beq_self_eq_true,true_and];exact this ks
theorem wV{w:World}{r:Nat}{o o':Obj}(hb:w.heap[r]? = some o):(w.heap.setIfInBounds r o')[r]? = some o'/\∀ r',r'≠r->(w.heap.setIfInBounds r o')[r']? = w.heap[r']?:=by have hlt:r<w.heap.size:=(oU.1 hb).1;exact⟨by simp[hlt],fun r' hne=>by simp[Ne.symm hne]⟩
theorem Hq(hI:kL P I.ti)(r:cL E F g st a w){t:Nat}{q:PV}{m:List (List Int×Bool)}{ks:List Int}{bb:Bool}(h:aHP I st t p q=some (n,m,o,ks)){u:Value}
  (hu:VR F g w p u)(hv:VR F g w q v):∃ w',(Instr.mapUpdate t u v (.bool bb)).run P w = .ok () w'/\cL E F g { st with hp:=(o,.mpb n (Jn m ks bb))::del o st.hp } a w':=by
 obtain⟨kt,et,b,es,clock,info,h1,h2,h3,h4,h5,h6,h7,h8,h9,h10,h11,h12⟩:=Tf hI r h hu hv;have hset:=wV (o':=.map (es.push { key:=v,val:=.bool bb,born:=clock }) (clock+1)) h6;cases hf:nQ m ks 0 with
 | none=>
  refine⟨{ w with heap:=w.heap.setIfInBounds b (.map (es.push { key:=v,val:=.bool bb,born:=clock }) (clock+1)) },?_,r.writeO h5 (by rw[h4]; rfl) h6 hset.2 (by simp) rfl rfl rfl ?_⟩
  ·unfold Instr.mapUpdate;simp only[h2,Sem.run_bind,run_underlying h1,Result.andThen_ok,Go.run_getObj_map w b es clock h6,h11,h12,hf,Option.map_none,MapKept.run_setObj_map _ h6]
  ·refine⟨b,_,_,h4,hset.1,?_,?_,?_⟩
   ·have:=h7.1; simp only[Array.size_push,Jn,hf,cZ,nO]; simp at this; omega
   ·intro x hx;simp only[Jn,hf,dZ,cG]at hx;rcases hx with hx | rfl
    ·exact h7.2.1 x hx
    ·exact h8
   ·intro j e x he hx;simp only[Jn,hf]at hx;have hl:=h7.1;simp at hl;by_cases hj:j<m.length
    ·rw[eT hj]at hx;rw[Dp,aF (by omega)]at he;exact h7.2.2 j e x (by simpa using he) hx
    ·rw[eH (by omega)]at hx;have hj':j=m.length:=by have:=(eK.1 hx).1; simp at this; omega
     subst hj';simp at hx; subst hx;rw[Dp,aA (by omega)]at he;cases he;exact⟨h3,rfl⟩
 | some jx=>
  obtain⟨j,vb⟩:=jx;obtain⟨t',e1,x0,e2,e3⟩:=Bi hf;simp only[eW]at e1; subst e1;have hl:=h7.1;simp only[jH]at hl;have hj:j<es.size:=by rw[hl]; exact(eK.1 e2).1
  have hkey:=(h7.2.2 j es[j] x0 (by simp[hj]) e2).1;have hset:=wV (o':=.map (es.modify j fun e=>{ e with key:=v,val:=.bool bb }) clock) h6;refine⟨{ w with heap:=w.heap.setIfInBounds b (.map (es.modify j fun e=>{ e with key:=v,val:=.bool bb }) clock) },?_,r.writeO h5 (by rw[h4]; rfl) h6 hset.2 (by simp) rfl rfl rfl ?_⟩
  ·have hstay:(Instr.keyThatStays ((es[j]?.map (·.key)).getD v) v).run P w = .ok v w:=by rw[uN hj,qJ,Db,hkey,h3,e3];unfold Instr.keyThatStays;rw[show (10000:Nat)=9999+1 from rfl,aA (Bt 9999 ks)];simp
   unfold Instr.mapUpdate;simp only[h2,Sem.run_bind,run_underlying h1,Result.andThen_ok,Go.run_getObj_map w b es clock h6,h11,h12,hf,qJ,hstay,MapKept.run_setObj_map _ h6]
  ·refine⟨b,_,_,h4,hset.1,?_,?_,?_⟩
   ·simp only[Jn,hf]; simpa using hl
   ·intro x hx;simp only[Jn,hf]at hx;rcases List.mem_or_eq_of_mem_set hx with hx | rfl
    ·exact h7.2.1 x hx
    ·exact h8
   ·intro i e x he hx;simp only[Jn,hf]at hx;rw[Jd]at he;rw[pV]at hx;by_cases hij:j=i
    ·subst hij;rw[aA rfl]at he hx;rw[uN hj]at he;have hjm:j<m.length:=by omega
     rw[aA hjm]at hx;cases he; cases hx;exact⟨h3,rfl⟩
    ·rw[aF hij]at he hx;exact h7.2.2 i e x (by simpa using he) hx
theorem oT{i:eG}(hi:TOk P t i)(hb:w.heap[b]? = some (.cells cur e (0,0)))(hv:v.cells.size=i.size)
  (hfit:off+i.size<=cur.size)(h1:∀ u,u∈v.cells->u.oneCell'=true):
  (Instr.storeAt t (.pointer (some ⟨b,off,none⟩)) v).run P w = .ok () (w.setRow b (cur.toList.take off++v.cells.toList++cur.toList.drop (off+i.size)).toArray):=by
 have hs:=run_storeCells_at P b off e v.cells.toList 0 cur w hb (by simp; omega) (fun u hu=>h1 u (by simpa using hu));simp only[tV,jH]at hs;simp[Instr.storeAt,Instr.sureAddr,storeVar,run_sizeOf hi,hv];rw[hs,hv];simp
theorem Ep{x:PV}(h:VR F g w x v)(h1:x.cells.all PV.one=true):∀ u,u∈v.cells->u.oneCell'=true:=by
 intro u hu;obtain⟨k,hk,rfl⟩:=Array.mem_iff_getElem.1 hu;obtain⟨h2,h3⟩:=h.cells;have hk':k<x.cells.length:=by omega
 exact(h3 k x.cells[k] v.cells[k] (by simp[hk']) (by simp[hk])).one (dQ.1 h1 _ (xD hk'))
theorem Et{j:Nat}(hj:j<s)(ho:off<s)(h:i*s+j=k*s+off):i=k/\j=off:=by
 rcases Nat.lt_trichotomy i k with h1 | h1 | h1
 ·have:(i+1)*s<=k*s:=iN _ h1;rw[gW,mW]at this; omega
 ·subst h1; exact⟨rfl,by omega⟩
 ·have:(k+1)*s<=i*s:=iN _ h1;rw[gW,mW]at this; omega
theorem eN{j:Nat}{x:Cel}(h:(lD f k off c i)[j]? = some x):(i=k/\j=off/\x=c)\/(¬ (i=k/\j=off)/\(f i)[j]? = some x):=by
 rw[rP]at h;split at h
 ·rename_i hik;rw[pV]at h;split at h
  ·rename_i hj;split at h
   ·cases h; exact .inl ⟨hik,hj.symm,rfl⟩
   ·cases h
  ·rename_i hj;exact .inr ⟨fun e=>hj e.2.symm,h⟩
 ·rename_i hik;exact .inr ⟨fun e=>hik e.1,h⟩
theorem Qu{j:Nat}(h:¬ (i=k/\j=off)):(lD f k off c i)[j]? = (f i)[j]?:=by
 rw[rP];split
 ·rename_i hik;rw[pV,aF (fun e=>h ⟨hik,e.symm⟩)]
 ·rfl
theorem Dd(h:off<(f k).length):(lD f k off c k)[off]? = some c:=by rw[rP];rw[aA rfl,pV,aA rfl,aA h]
theorem uE(i:Nat):(lD f k off c i).length=(f i).length:=by
 rw[rP];split
 ·rw[List.length_set]
 ·rfl
theorem sT.set{w:World}{ov ov':Option (Nat×Nat×PV)}{cur':Array Value}(h:sT F g w b s n f ov cur)(hk:k<n)(hoff:off<s)(hc:c.owned=false)(hcv:uM F w' c v)
  (hcur:∀ q,q≠k*s+off->cur'[q]? = cur[q]?)(hq:cur'[k*s+off]? = some v)(hF:∀ q,F q->F q/\w'.heap[q]? = w.heap[q]?)(hoth:∀ q,q≠b->w'.heap[q]? = w.heap[q]?)
  (hov:∀ i j p,ov'=some (i,j,p)->i<n/\(lD f k off c i)[j]? = some .any/\∀ u,cur'[i*s+j]? = some u->VR F g w' p u):sT F g w' b s n (lD f k off c) ov' cur':=by
 have js:∀ {i j:Nat} {x:Cel},i<n->(f i)[j]? = some x->j<s:=fun hi hx=>by rw[<-h.len _ hi]; exact(eK.1 hx).1
 have oth:∀ {i j:Nat} {x:Cel},i<n->¬ (i=k/\j=off)->(f i)[j]? = some x->cur'[i*s+j]? = cur[i*s+j]?:=fun hi hne hx=>hcur _ fun e=>hne (Et (js hi hx) hoff e);refine⟨fun i hi=>by rw[uE]; exact h.len i hi,fun i j x hi hx=>?_,fun i j i' j' x x' z z' d hi hi' hx hx' ho ho' hz hz' hd hd'=>?_,fun i j x z hi hx ho hz=>?_,hov⟩
 ·rcases eN hx with⟨rfl,rfl,rfl⟩ | ⟨hne,hx⟩
  ·exact⟨v,hq,hcv⟩
  ·obtain⟨z,hz,hR⟩:=h.cell i j x hi hx;exact⟨z,by rw[oth hi hne hx]; exact hz,hR.mono hF fun d hy hd=>hoth d fun e=>h.own i j x z hi hx hy hz (e▸hd)⟩
 ·rcases eN hx with⟨rfl,rfl,rfl⟩ | ⟨hne,hx⟩
  ·rw[hc]at ho; cases ho
  ·rcases eN hx' with⟨rfl,rfl,rfl⟩ | ⟨hne',hx'⟩
   ·rw[hc]at ho'; cases ho'
   ·rw[oth hi hne hx]at hz;rw[oth hi' hne' hx']at hz';exact h.sep i j i' j' x x' z z' d hi hi' hx hx' ho ho' hz hz' hd hd'
 ·rcases eN hx with⟨rfl,rfl,rfl⟩ | ⟨hne,hx⟩
  ·rw[hc]at ho; cases ho
  ·rw[oth hi hne hx]at hz;exact h.own i j x z hi hx ho hz
theorem aBR{w:World}{f':Nat->List Cel}{ov ov':Option (Nat×Nat×PV)}{cur':Array Value}{x:PV}(he:Ey ov f k off x=some (f',ov'))(h:sT F g w b s n f ov cur)(hk:k<n)(hoff:off<s)(hv:VR F g w x v)
  (hcur:∀ q,q≠k*s+off->cur'[q]? = cur[q]?)(hq:cur'[k*s+off]? = some v)(hF:∀ q,F q->F q/\w'.heap[q]? = w.heap[q]?)(hoth:∀ q,q≠b->w'.heap[q]? = w.heap[q]?):
  sT F g w' b s n f' ov' cur'/\∀ (i j:Nat) c,i<n->(f' i)[j]? = some c->c.owned=true->¬ (i=k/\j=off)/\(f i)[j]? = some c:=by
 have js:∀ {i j:Nat} {x:Cel},i<n->(f i)[j]? = some x->j<s:=fun hi hx=>by rw[<-h.len _ hi]; exact(eK.1 hx).1
 have back:∀ {c':Cel},c'.owned=false->∀ (i j:Nat) c,i<n->(lD f k off c' i)[j]? = some c->c.owned=true->¬ (i=k/\j=off)/\(f i)[j]? = some c:=fun hc i j c hi hx ho=>by
  rcases eN hx with⟨_,_,rfl⟩ | hx
  ·rw[hc]at ho; cases ho
  ·exact hx
 unfold Ey at he;split at he
 ·rename_i y;cases he;exact⟨h.set hk hoff rfl (hv.cells_t rfl |>.mono hF) hcur hq hF hoth (fun i j p e=>by cases e),back rfl⟩
 ·rename_i y i j p;split at he
  ·cases he
  ·rename_i hj;have hj:=nP hj;cases he;refine⟨h.set hk hoff rfl (hv.cells_t rfl |>.mono hF) hcur hq hF hoth (fun i' j' p' e=>?_),back rfl⟩;cases e;obtain⟨q1,q2,q3⟩:=h.ov _ _ _ rfl;refine⟨q1,by rw[Qu (fun e=>hj e.2)]; exact q2,fun u hu=>?_⟩;rw[hcur _ (fun e=>hj (Et (js q1 q2) hoff e).2)]at hu;exact(q3 u hu).mono hF (fun _ _=>rfl)
 ·rename_i q;cases he;refine⟨h.set hk hoff rfl True.intro hcur hq hF hoth (fun i' j' p' e=>?_),back rfl⟩;cases e;refine⟨hk,Dd (by rw[h.len k hk]; exact hoff),fun u hu=>?_⟩;rw[hq]at hu;cases hu;exact hv.mono hF (fun _ _=>rfl)
 ·cases he
theorem rC(r:cL E F g st a w){i:eG}(hi:TOk P t i){d:Option Nat}{x:PV}(h:sZ st i d p x=some (st',C))(hC:C){u:Value}
  (hu:VR F g w p u)(hv:VR F g w x v):d=none/\∃ w',(Instr.storeAt t u v).run P w = .ok () w'/\cL E F g st' a w':=by
 unfold sZ at h;split at h
 ·cases h
 ·refine⟨rfl,?_⟩;obtain⟨hvs,hvc⟩:=hv.cells;cases p with
  | ptr o off=>
   simp only at h;split at h
   ·rename_i l hl;split at h
    ·rename_i h1 h2 h3;have h1:=cJ h1;have h2:=fH h2;cases h;have hlm:=aU hl;obtain⟨b,vs,ty,e1,e2,e3,e4⟩:=r.w.hp.obj _ _ hlm;cases hu with
     | @ptr _ _ b' hg=>
      rw[e1]at hg; injection hg with hg; injection hg with hg; injection hg with hg; subst hg;refine⟨_,oT hi e2 (by omega) (by omega) (Ep hv h3),r.write hlm (by rw[e1]; rfl) e2 ⟨b,_,ty,e1,setRow_heap w b vs _ ty _ e2,?_,fun k y z hy hz=>?_⟩⟩
      ·simp only[lX,cZ,dM,fI,jH]; omega
      ·have hFb:=(r.w.hp.own o _ b hlm (.self (by rw[e1]; rfl))).1;refine VR.mono (zK hFb) ?_ (fun _ _=>rfl);simp only[sD,gX]at hz;rw[gX]at hy;by_cases hk:k<off
       ·rw[eT (by simp; omega),iR,aA hk]at hy;rw[eT (by simp; omega),iR,aA hk]at hz;exact e4 k y z hy (by simpa using hz)
       ·rw[eH (by simp; omega)]at hy;rw[eH (by simp; omega)]at hz;simp only[dM,jH]at hy hz;rw[show min off l.length=off by omega]at hy;rw[show min off vs.size=off by omega]at hz;by_cases hk2:k<off+i.size
        ·rw[eT (by omega)]at hy;rw[eT (by simp; omega)]at hz;exact hvc _ y z hy (by simpa using hz)
        ·rw[eH (by omega),iD]at hy;rw[eH (by simp; omega),iD]at hz;simp only[jH]at hz;rw[show off+i.size+(k-off-x.cells.length)=k by omega]at hy;rw[show off+i.size+(k-off-v.cells.size)=k by omega]at hz;exact e4 k y z hy (by simpa using hz)
    ·cases h
   ·cases h
  | aptr o s k off=>
   simp only at h;split at h
   ·rename_i e s' n f c hl hc;split at h
    ·rename_i h1 h2 h3 h4;have h1:=cJ h1;have h2:=cJ h2;have h3:=fH h3;cases h;subst h1;have hlm:=aU hl;have hce:=Gp hc;have hcl:x.cells.length=c.length:=by rw[hce]; simp
     rcases r.w.hp.obj _ _ hlm with⟨e1,e2⟩ | ⟨b,cap,cur,e1,e2,e3,e4,e5,e6,e7⟩
     ·omega
     ·cases hu with
      | @aptr _ _ _ _ b' n' cap' hg=>
       rw[e1]at hg; injection hg with hg g2 g3; injection hg with hg; injection hg with hg; subst hg;have hrow:(k+1)*s'<=cur.size:=by rw[e5]; exact iN _ (by omega)
       rw[gW,mW]at hrow;have hfk:(f k).length=s':=e6 k hC;rw[aLH hfk];refine⟨_,oT hi e2 (by omega) (by omega) (Ep hv h4),r.write hlm (by rw[e1]; rfl) e2 ?_⟩;have hFb:=(r.w.hp.own o _ b hlm (.self (by rw[e1]; rfl))).1;have hF:=zK (F:=F) (w:=w) (cs:=(cur.toList.take (k*s'+off)++v.cells.toList++cur.toList.drop (k*s'+off+i.size)).toArray) hFb;refine RowR.obj ⟨fun i' hi'=>?_,fun i' j x' hi' hx'=>?_⟩ e1 (setRow_heap w b cur _ e _ e2) e3 e4 ?_
       ·unfold rY Jl;split
        ·simp only[cZ,dM,fI]; omega
        ·exact e6 i' hi'
       ·have hget:∀ q,q<k*s'+off\/k*s'+off+i.size<=q->((cur.toList.take (k*s'+off)++v.cells.toList++cur.toList.drop (k*s'+off+i.size)).toArray)[q]? = cur[q]?:=by
         intro q hq;simp only[sD,gX];rcases hq with hq | hq
         ·rw[eT (by simp; omega),iR,aA hq]; simp
         ·rw[eH (by simp; omega),eH (by simp; omega),iD];simp only[dM,jH,zN]
          congr 1; omega
        have hmid:∀ q,q<i.size->((cur.toList.take (k*s'+off)++v.cells.toList++cur.toList.drop (k*s'+off+i.size)).toArray)[k*s'+off+q]? = v.cells[q]?:=by
         intro q hq;simp only[sD,gX];rw[eH (by simp; omega),eT (by simp; omega)];simp only[dM,jH,zN]
         congr 1; omega
        unfold rY at hx';split at hx'
        ·rename_i hik;subst hik;unfold Jl at hx';have hjs:j<s':=by have:=(eK.1 hx').1;simp only[cZ,dM,fI]at this;omega
         by_cases hj:j<off
         ·rw[gX,eT (by simp; omega),iR,aA hj]at hx';obtain⟨z,hz,hr⟩:=e7 i' j x' hi' hx';exact⟨z,by rw[hget _ (by omega)]; exact hz,hr.mono hF⟩
         ·by_cases hj2:j<off+i.size
          ·rw[gX,eH (by simp; omega),eT (by simp; omega)]at hx';simp only[dM]at hx';rw[show min off (f i').length=off by omega]at hx';have hq:j-off<v.cells.size:=by omega
           refine⟨v.cells[j-off],?_,?_⟩
           ·have:=hmid (j-off) (by omega);rw[show i'*s'+off+(j-off)=i'*s'+j by omega]at this;rw[this]; simp[hq]
           ·have:=hvc (j-off) (.t x') v.cells[j-off] (by rw[hce]; simp[hx']) (by simp[hq]);exact(this.cells_t rfl).mono hF
          ·rw[eH (by simp; omega),iD]at hx';simp only[cZ,dM]at hx';rw[show off+c.length+(j-(min off (f i').length+c.length))=j by omega]at hx';obtain⟨z,hz,hr⟩:=e7 i' j x' hi' hx';exact⟨z,by rw[hget _ (by omega)]; exact hz,hr.mono hF⟩
        ·rename_i hik;obtain⟨z,hz,hr⟩:=e7 i' j x' hi' hx';have hjs:j<s':=by rw[<-e6 i' hi']; exact(eK.1 hx').1
         refine⟨z,?_,hr.mono hF⟩;rw[hget]
         ·exact hz
         ·rcases Nat.lt_or_gt_of_ne hik with hlt | hgt
          ·left;have:(i'+1)*s'<=k*s':=iN _ hlt;rw[gW,mW]at this; omega
          ·right;have:(k+1)*s'<=i'*s':=iN _ hgt;rw[gW,mW]at this; omega
       ·simp only[lX,cZ,dM,fI,jH]; omega
    ·cases h
   ·rename_i e s' n f ov hl;split at h
    ·rename_i f' ov' h1 h2 h3 h4 h5;have h1:=cJ h1;have h2:=cJ h2;have h3:=fH h3;cases h;subst h1;have hlm:=aU hl;have hxc:x.cells=[x]:=by
      cases x with
      | agg l=>cases h4
      | tup l=>cases h4
      | t y=>cases y <;> first | rfl | cases h4
      | _=>rfl
     have hvs1:v.cells.size=1:=by rw[hvs,hxc]; rfl
     obtain⟨z,hz⟩:∃ z,v.cells=#[z]:=by obtain⟨z,hz⟩:=Array.size_eq_one_iff.1 hvs1;exact⟨z,hz⟩
     have hvz:VR F g w x z:=hvc 0 x z (by rw[hxc]; rfl) (by rw[hz]; rfl);rcases r.w.hp.obj _ _ hlm with⟨e1,e2,_⟩ | ⟨b,cap,cur,e1,e2,e3,e4,e5,hA⟩
     ·omega
     ·cases hu with
      | @aptr _ _ _ _ b' n' cap' hg=>
       rw[e1]at hg; injection hg with hg g2 g3; injection hg with hg; injection hg with hg; subst hg;have hrow:(k+1)*s'<=cur.size:=by rw[e5]; exact iN _ (by omega)
       rw[gW,mW]at hrow;have hFb:=(r.w.hp.own o _ b hlm (.self (by rw[e1]; rfl))).1;have hcs:∀ q,((cur.toList.take (k*s'+off)++v.cells.toList++cur.toList.drop (k*s'+off+i.size)).toArray)[q]? = if q=k*s'+off then some z else cur[q]?:=by
        intro q;rw[hz,h2];simp only[sD,gX];by_cases hq:q<k*s'+off
        ·rw[eT (by simp; omega),iR,aA hq,aF (by omega)]; simp
        ·rw[eH (by simp; omega)];simp only[dM,jH];rw[show min (k*s'+off) cur.size=k*s'+off by omega];by_cases hq2:q=k*s'+off
         ·subst hq2; simp
         ·rw[aF hq2,eH (by simp; omega),iD];simp only[nO,zN]
          congr 1; omega
       obtain⟨hN,hB⟩:=aBR (w':=w.setRow b (cur.toList.take (k*s'+off)++v.cells.toList++cur.toList.drop (k*s'+off+i.size)).toArray) h5 hA hC (by omega) hvz (fun q hq=>by rw[hcs,aF hq]) (by rw[hcs,aA rfl]) (zK hFb) (fun q hq=>setRow_other w b q _ hq);refine⟨_,oT hi e2 (by omega) (by omega) (Ep hv (by rw[hxc]; simp[h4])),r.writeF hlm (.self (by rw[e1]; rfl)) (fun q hq=>setRow_other w b q _ hq) (by simp) rfl rfl rfl ?_ fun q hq=>?_⟩
       ·exact .inr ⟨b,cap,_,e1,setRow_heap w b cur _ e _ e2,e3,e4,by simp only[lX,cZ,dM,fI,jH]; omega,hN⟩
       ·cases hq with
        | self hq=>exact .self hq
        | @arm _ _ _ _ _ _ bm capm i' j' curm xm vm hg hbm hi' hx hy hvm hbl=>
         rw[e1]at hg; injection hg with hg g2 g3; injection hg with hg; injection hg with hg; subst hg;rw[setRow_heap w b cur _ e _ e2]at hbm;injection hbm with hbm; injection hbm with hbm;subst hbm;obtain⟨hne,hx'⟩:=hB i' j' xm hi' hx hy;have hjs:j' < s':=by rw[<-hA.len i' hi']; exact(eK.1 hx').1
         rw[hcs,aF (fun e=>hne (Et hjs (by omega) e))]at hvm;exact .arm e1 e2 hi' hx' hy hvm hbl
    ·cases h
   ·cases h
  | _=>simp at h
theorem aFS(hI:kL P I.ti)(hn:E.N=I.N)(hnt:E.nt=I.nt)(r:cL E F g st a w)(o:Oper)(h:jL I st o=some (st',C))(hC:C):
  ∃ n v w',(execOp a.eval o).run P w = .ok n w'/\(n = .value v\/(n = .skip/\v=undef))/\Rel E st' (a.put o.dst v) w':=by
 unfold jL at h;split at h
 ·rename_i e d hop hd;split at h
  ·rename_i i hi;split at h
   ·rename_i st1 hst;cases h;obtain⟨v,w',h1,h2⟩:=Im hI hn hnt r hi hst;exact⟨_,v,w',by unfold execOp; simp[hop,h1],.inl rfl,by rw[hd]; exact h2⟩
   ·cases h
  ·cases h
 ·rename_i e x d hop hd;split at h
  ·rename_i p hp;split at h
   ·rename_i hm;split at h
    ·rename_i st1 hst;cases h;obtain⟨v,w',h1,h2⟩:=aXU (P:=P) hn hnt r (e:=e) (bW r hp) hm hst;exact⟨_,v,w',by unfold execOp; simp[hop,h1],.inl rfl,by rw[hd]; exact h2⟩
    ·cases h
   ·cases h
  ·cases h
 ·rename_i t len parts d hop hd;split at h
  ·rename_i i ps hi hps;split at h
   ·rename_i e hu;split at h
    ·rename_i j hj;split at h
     ·rename_i c h1 h2 h3 h4;split at h
      ·rename_i ts h5 h6;split at h
       ·rename_i st1 hst;cases h;have hd':=(hI _ _ hi).und;rw[hu]at hd';obtain⟨v,w',h7,h8⟩:=nJ hn hnt r hd' (hI _ _ hj) hps (fH h1) (fH h2) (cJ h3) h4 (.of h5) (cJ h6) hst;exact⟨_,v,w',by unfold execOp; simp[hop,h7],.inl rfl,by rw[hd]; exact h8⟩
       ·cases h
      ·rename_i h5 h6;split at h
       ·rename_i cs ov h7 h8 h9;split at h
        ·rename_i st1 hst;cases h;have hd':=(hI _ _ hi).und;rw[hu]at hd';obtain⟨v,w',h10,h11⟩:=qC hn hnt r hd' (hI _ _ hj) (cJ h7) hps (fH h1) (fH h2) (cJ h3) h4 h8 h9 (cJ h6) hst;exact⟨_,v,w',by unfold execOp; simp[hop,h10],.inl rfl,by rw[hd]; exact h11⟩
        ·cases h
       ·cases h
      ·cases h
     ·cases h
    ·cases h
   ·cases h
  ·cases h
 ·rename_i t y x d hop;split at h
  ·rename_i i p q hi hp hq;obtain⟨hd,w',h1,h2⟩:=rC (P:=P) r (hI _ _ hi) h hC (bW r hp) (aWT (bW r hq));refine⟨.skip,undef,w',by unfold execOp; simp[hop,h1],.inr ⟨rfl,rfl⟩,?_⟩;rw[hd];exact⟨F,g,h2⟩
  ·cases h
 ·rename_i t d hop hd;split at h
  ·rename_i i hi;split at h
   ·rename_i kt et hu;split at h
    ·rename_i ik hik;split at h
     ·rename_i st1 hst;cases h;have hrun:(Instr.makeMap t none).run P w = .ok (.map (some w.heap.size)) (w.alloc (.map #[] 0)):=rfl;refine⟨_,.map (some w.heap.size),w.alloc (.map #[] 0),by unfold execOp; simp[hop,hrun],.inl rfl,by rw[hd];exact pE hn hnt r hst (ob:=.map #[] 0) rfl rfl rfl rfl rfl (fun g' hg1 hg2=>⟨w.heap.size,#[],0,hg2,heap_alloc_new w _,rfl,by simp,by simp⟩) (fun g' hg=>.map hg)⟩
     ·cases h
    ·cases h
   ·cases h
  ·cases h
 ·rename_i t x k v hop hd;split at h
  ·rename_i p q b hp hq hb;split at h
   ·rename_i n m o' ks hm;cases h;obtain⟨w',h1,h2⟩:=Hq (bb:=b) hI r hm (bW r hp) (bW r hq);have hv:=(bW r hb).inv_bool;rw[<-hv]at h1;refine⟨.skip,undef,w',by unfold execOp; simp[hop,h1],.inr ⟨rfl,rfl⟩,?_⟩;rw[hd];exact⟨F,g,h2⟩
   ·cases h
  ·cases h
 ·rename_i c d hop hd;obtain⟨cal,args,ats⟩:=c;simp only at h;split at h
  ·rename_i s x t t' ha ht;have ha':args=#[s,x]:=by rw[<-mS (xs:=args),ha]
   have ht':ats=#[t,t']:=by rw[<-mS (xs:=ats),ht]
   subst ha'; subst ht';split at h
   ·rename_i i p q h1 hi hp hq;have h1:=cJ h1;subst h1;split at h
    ·rename_i e m f2 s2 hu hq';have hd':=(hI _ _ hi).und;rw[hu]at hd';split at h
     ·rename_i j hj;split at h
      ·rename_i h2 h3 h4 h5;have h2:=fH h2;have h3:=fH h3;have h5:=cJ h5;split at h
       ·split at h
        ·rename_i st1 hst;cases h;obtain⟨hC1,hC2⟩:=hC;obtain⟨news,hs⟩:=wM r (bW r hq) hq' h2 h4 hC2;have hv:=bW r hp;obtain⟨u,hu'⟩:∃ u,a.eval s=u:=⟨_,rfl⟩;rw[hu']at hv;cases hv with
         | nil=>obtain⟨v,w',h7,h8⟩:=nG (P:=P) hn hnt r hd' (hI _ _ hj) o.type h3 h5 hs (by simpa using hC1) hst;exact⟨_,v,w',by unfold execOp; simp[hop,resolve,invoke,builtin,hu',h7],.inl rfl,by rw[hd]; exact h8⟩
        ·cases h
       ·rename_i o';split at h
        ·rename_i e' s' n f1 st1 hl he;split at h
         ·rename_i st2 h6 h7 hst;have h6:=cJ h6;have h7:=cJ h7;subst h6; subst h7;cases h;obtain⟨hC1,hC2⟩:=hC;obtain⟨news,hs⟩:=wM r (bW r hq) hq' h2 h4 hC2;obtain⟨v,w',h8,h9⟩:=sJ (P:=P) hn hnt r hd' (hI _ _ hj) o.type h3 h5 (bW r hp) hs hC1 hl (.of he) hst;exact⟨_,v,w',by unfold execOp; simp[hop,resolve,invoke,builtin,h8],.inl rfl,by rw[hd]; exact h9⟩
         ·cases h
        ·cases h
       ·cases h
      ·cases h
     ·cases h
    ·rename_i e hu hq';have hd':=(hI _ _ hi).und;rw[hu]at hd';split at h
     ·rename_i j o2 hj;obtain⟨v,w',h8,h9⟩:=aBP (P:=P) hn hnt r hd' (hI _ _ hj) o.type (bW r hp) (bW r hq) h hC;exact⟨_,v,w',by unfold execOp; simp[hop,resolve,invoke,builtin,h8],.inl rfl,by rw[hd]; exact h9⟩
     ·cases h
    ·cases h
   ·cases h
  ·cases h
 ·cases h
end
end Go.PL
namespace Go.PL
open Go Go.Lib
section
variable {P:Program} {E:Env} {F:Nat->Prop} {g:Nat->Value} {st:St} {a:Act} {w:World}
theorem oG(w:World)(t u ty e:TypeId)(i:TypeInfo)(z:Value)(ht:P.underlying t=some (.slice e))(hu:P.underlying u=some .string)(hi:P.info? e=some i)(hz:i.zero=some z)
  (s:ByteArray)(h0:0<s.size)(h63:(s.size:Int)<=9223372036854775807)(h48:s.size*i.bytes<=281474976710656):
  (Builtin.append_ #[t,u] ty #[.slice none 0 0,.string s]).run P w =
   .ok (.slice (some ⟨w.heap.size,0,none⟩) s.size (grownCap w s.size 0 e)) (w.drew.alloc (.cells ((strCells s).toArray++Builtin.zeroCells z.cells (grownCap w s.size 0 e-s.size)) e)):=by
 rw[run_append_nil_string w t u ty e i z ht hu hi hz s h0 h63 h48];have:s.data.map (fun b=>Value.int .u8 b.toNat)=(strCells s).toArray:=by apply Array.ext'; simp[strCells]
 rw[this]
end
end Go.PL
namespace Go.PL
open Go
variable {Cs:List Prop} {H:Hp} {K:Act->World->Prop} {Q':Exit->Act->World->Prop} {a:Act} {b:Bool} {c x y:Code} {d id n nf o s t:Nat} {e:TypeId} {f:Operand} {fn:Func} {i:eG} {k:FuncId} {l rest:List Oper} {v:Value} {w':World} {α:Type}
def All:List Prop->Prop
 | []=>True
 | [p]=>p
 | p::l=>p/\All l
theorem All.cons{p:Prop}{l:List Prop}:All (p::l)↔p/\All l:=by
 cases l with
 | nil=>simp[All]
 | cons q l=>simp[All]
theorem All.append{l r:List Prop}:All (l++r)↔All l/\All r:=by
 induction l with
 | nil=>simp[All]
 | cons p l ih=>simp only[List.cons_append,All.cons,ih,and_assoc]
def isC(st:St):Op->Bool
 | .load _ a=>match ev st a with | some (.aptr ..)=>true | _=>false
 | .store _ a _=>match ev st a with | some (.aptr ..)=>true | _=>false
 | .binOp .quo _ _ _ _=>true
 | .binOp .rem _ _ _ _=>true
 | .binOp .shl _ _ _ _=>true
 | .binOp .shr _ _ _ _=>true
 | .binOp .add _ x _ _=>match ev st x with | some (.t (.str _))=>true | _=>false
 | .indexAddr ..=>true
 | .index ..=>true
 | .slice ..=>true
 | .convert _ _ x=>match ev st x with | some (.t (.int ..))=>false | _=>true
 | .call c=>match c.callee with | .builtin .append=>true | _=>false
 | .entry _=>true
 | _=>false
def nA(b:Bool)(C:Prop):List Prop:=match b with | true=>[C] | false=>[]
def cQ(ops:List Oper)(o:Oper)(st:St):Option Bool:=
 match o.guard with
 | none=>some true
 | some (j,b)=>match ops[j]? with
  | some oj=>match oj.dst with
   | some d=>match bK st.fr d,b with
    | some (.t (.bool true)),true=>some true
    | some (.t (.bool false)),false=>some true
    | some (.t (.bool true)),false=>some false
    | some (.t (.bool false)),true=>some false
    | some (.tup []),_=>some false
    | _,_=>none
   | none=>none
  | none=>none
def Bn(I:Inf)(ops:List Oper)(o:Oper)(st:St):Option (St×List Prop):=
 match cQ ops o st with
 | some true=>match o.op with
  | .store ..=>match jL I st o with | some (st',C)=>some (st',nA (isC st o.op) C) | none=>none
  | .alloc ..=>match jL I st o with | some (st',C)=>some (st',nA (isC st o.op) C) | none=>none
  | .box ..=>match jL I st o with | some (st',C)=>some (st',nA (isC st o.op) C) | none=>none
  | .buildSlice ..=>match jL I st o with | some (st',C)=>some (st',nA (isC st o.op) C) | none=>none
  | .makeMap ..=>match jL I st o with | some (st',C)=>some (st',nA (isC st o.op) C) | none=>none
  | .mapUpdate ..=>match jL I st o with | some (st',C)=>some (st',nA (isC st o.op) C) | none=>none
  | .call { callee:=.builtin .append,.. }=>match jL I st o with | some (st',C)=>some (st',nA (isC st o.op) C) | none=>none
  | op=>match pev I st op,o.dst with
   | some (x,C),some d=>match Nat.blt d I.nt with | true=>some (st.put d x,nA (isC st op) C) | false=>none
   | _,_=>none
 | some false=>match o.dst with
  | some d=>match Nat.blt d I.nt with | true=>some (st.put d (.tup []),[]) | false=>none
  | none=>some (st,[])
 | none=>none
def Yj(I:Inf)(ops:List Oper):List Oper->St->Option (St×List Prop)
 | [],st=>some (st,[])
 | o::l,st=>match Bn I ops o st with
  | some (st1,C)=>match Yj I ops l st1 with
   | some (st2,C2)=>some (st2,C++C2)
   | none=>none
  | none=>none
def Du{α:Type}(l:List (Nat×α)):List Nat->Option (List (Nat×α))
 | []=>some []
 | t::ts=>match bK l t,Du l ts with
  | some x,some r=>some ((t,x)::r)
  | _,_=>none
theorem vC{α:Type}{l:List (Nat×α)}:∀ {ts:List Nat} {r:List (Nat×α)},Du l ts=some r->∀ e,e∈r->e∈l
 | [],r,h=>by simp[Du]at h; subst h; simp
 | t::ts,r,h=>by
  simp only[Du]at h;split at h
  ·rename_i x r' hx hr;cases h;intro e he;rcases aX.1 he with rfl | he
   ·exact aU hx
   ·exact vC hr e he
  ·cases h
def St.keep(ts os:List Nat)(st:St):Option St:=
 match Du st.fr ts,Du st.hp os with
 | some f,some h=>some ⟨f,h⟩
 | _,_=>none
section
variable {P:Program} {E:Env}
theorem HpR.sub{F:Nat->Prop}{g:Nat->Value}{w:World}{B:Nat->Prop}{H':Hp}(h:HpR F g w B H)(hs:∀ e,e∈H'->e∈H):HpR F g w B H':=
 ⟨fun o x hx=>h.obj o x (hs _ hx),fun o x b hx=>h.own o x b (hs _ hx),fun o x o' y b hx hy=>h.sep o x o' y b (hs _ hx) (hs _ hy)⟩
theorem Rel.sub{st st':St}{a:Act}{w:World}(r:Rel E st a w)(hf:∀ e,e∈st'.fr->e∈st.fr)(hh:∀ e,e∈st'.hp->e∈st.hp):Rel E st' a w:=by obtain⟨F,g,r⟩:=r;exact⟨F,g,r.nt,r.df,fun t x hx=>r.fr t x (hf _ hx),⟨r.w.hp.sub hh,r.w.f0,r.w.f1,r.w.ext,r.w.names,r.w.b0⟩⟩
theorem Rel.keep{st st':St}{ts os:List Nat}(h:st.keep ts os=some st'){a:Act}{w:World}(r:Rel E st a w):Rel E st' a w:=by
 unfold St.keep at h;split at h
 ·rename_i f hp h1 h2;cases h;exact r.sub (vC h1) (vC h2)
 ·cases h
theorem Iz{F:Nat->Prop}{g:Nat->Value}{st:St}{w:World}(r:cL E F g st a w){x:PV}(h:bK st.fr d=some x):VR F g w x (a.tmps.getD d undef):=r.fr d x (aU h)
theorem fU{st:St}{w:World}{F:Nat->Prop}{g:Nat->Value}(r:cL E F g st a w){ops:Array Oper}{o:Oper}(h:cQ ops.toList o st=some b):
  Region.wanted o (yielded ops a.tmps)=b:=by
 unfold cQ at h;unfold Region.wanted;split at h
 ·rename_i hg; rw[hg]; cases h; rfl
 ·rename_i j want hg;rw[hg];split at h
  ·rename_i oj hj;split at h
   ·rename_i d hd;have hy:∀ v,a.tmps.getD d undef=v->(∀ x,v ≠ .bool x->yielded ops a.tmps j≠some x)/\(∀ x,v = .bool x->yielded ops a.tmps j=some x):=by
     intro v hv;have hj':ops[j]? = some oj:=by simpa using hj
     unfold yielded;rw[hj'];simp only[aK,hd];by_cases hlt:d<a.tmps.size
     ·simp[hlt]at hv;simp only[uN hlt,hv];refine⟨fun x hx=>?_,fun x hx=>by rw[hx]⟩;split
      ·rename_i y hy; cases hy; exact fun e=>hx (by injection e with e; rw[e])
      ·simp
     ·simp[hlt]at hv;rw[Array.getElem?_eq_none (Nat.le_of_not_lt hlt)];subst hv;exact⟨fun x _=>by simp,fun x hx=>by simp[undef]at hx⟩
    split at h
    all_goals first
     | (rename_i hl
        cases h
        first
         | (have hv:=(Iz r hl).inv_bool
            have:=(hy _ hv).2 _ rfl;simp[this])
         | (have hv:=Iz r hl
            generalize hu:a.tmps.getD d undef=u at hv;cases hv with
            | tup hs hr=>have h1:=fun y=>(hy _ hu).1 y (by simp);simp[h1]))
     | cases h
   ·cases h
  ·cases h
theorem aHF{I:Inf}{st:St}{op:Op}{x:PV}{C:Prop}(h:pev I st op=some (x,C))(hc:isC st op=false):C:=by
 have htr:∀ {y:Option PV},tr y=some (x,C)->C:=by intro y hy; unfold tr at hy; split at hy <;> cases hy; trivial
 cases op <;> simp only[pev]at h
 all_goals try (exact htr h)
 all_goals try (cases h; done)
 case pick=>split at h <;> first | exact htr h | cases h
 case load t a=>
  split at h
  ·rename_i i p hi hp;simp only[isC,hp]at hc;cases p <;> simp only[xW]at h
   case aptr=>simp at hc
   all_goals first
    | (split at h
       ·split at h
        ·cases h; trivial
        ·cases h
       ·cases h)
    | (split at h
       ·cases h; trivial
       ·cases h)
    | cases h
  ·cases h
 case nilCheck=>split at h <;> first | (cases h; trivial) | cases h
 case binOp op t y z u=>
  split at h
  ·unfold aWY at h; split at h <;> cases h <;> trivial
  ·unfold aVZ at h; split at h <;> cases h <;> trivial
  ·unfold aPT at h;split at h
   ·split at h
    ·split at h
     ·split at h <;> cases h <;> trivial
     ·split at h
      ·split at h <;> cases h <;> trivial
      ·cases h
     ·cases h
    ·cases h
   ·cases h
  ·rename_i i p q _ _ hi hp hq;unfold aPB at h;split at h
   ·split at h
    ·rename_i hsh; cases op <;> simp[bBS,isC]at hsh hc
    split at h
    ·cases op <;> simp[Tz,isC]at h hc
     all_goals (obtain⟨_,h⟩:=h; exact h)
    ·cases h
   ·unfold Cj at h; split at h <;> cases h <;> trivial
   ·unfold Cj at h; split at h <;> cases h <;> trivial
   ·cases op <;> simp[Vs,isC,hp]at h hc
    all_goals (obtain⟨_,h⟩:=h; exact h)
   ·unfold aDQ at h;split at h
    ·split at h
     ·split at h
      ·cases h; trivial
      ·cases h; trivial
      ·cases h
     ·cases h
    split at h
    ·split at h
     ·split at h
      ·cases h; trivial
      ·cases h; trivial
      ·cases h
     ·cases h
    ·cases h
   ·split at h
    ·cases op <;> simp[Fv]at h
     all_goals (obtain⟨_,h⟩:=h; exact h)
    ·cases h
   ·cases h
  ·cases h
 case unOp=>split at h <;> first | (unfold unP at h; split at h <;> first | (cases h; trivial) | cases h) | cases h
 case convert s d y=>
  split at h
  ·rename_i hp;split at h
   ·cases h; trivial
   ·cases h
  ·rename_i i j p hne hi hj hp;exfalso;have key:∀ q,ev st y=q->isC st (.convert s d y)=false->∃ k n,q=some (.t (.int k n)):=by
    intro q hq hc;simp only[isC,hq]at hc;split at hc
    ·exact⟨_,_,rfl⟩
    ·cases hc
   obtain⟨k,n,hk⟩:=key _ hp hc;cases hk;exact hne _ _ rfl
  ·cases h
 case makeFunc=>split at h <;> first | (cases h; trivial) | cases h
 case fieldAddr=>split at h <;> first | (split at h <;> first | (split at h <;> first | (cases h; trivial) | cases h) | cases h) | cases h
 case field=>split at h <;> first | (split at h <;> first | (split at h <;> first | (split at h <;> first | (split at h <;> first | exact htr h | cases h) | cases h) | cases h) | cases h) | cases h
 case extract=>split at h <;> first | exact htr h | cases h
 case indexAddr=>simp[isC]at hc
 case index=>simp[isC]at hc
 case lookup t x k ok=>
  cases ok
  ·simp at h
  ·simp only at h;split at h
   ·split at h
    ·cases h; trivial
    ·cases h
   ·cases h
 case slice=>simp[isC]at hc
 case entry=>simp[isC]at hc
 case call c=>unfold aFU at h;split at h <;> first | (split at h <;> first | exact htr h | (split at h <;> first | (cases h; trivial) | cases h) | cases h) | cases h
end
def pU(w w':World)(b:Nat):Prop:=∀ p:Addr,p.block=b->w'.cell? p=w.cell? p
theorem Rd.monoC{F F':Nat->Prop}{w:World}(h:∀ b,F b->F' b/\pU w w' b){t:T}(r:Rd F w t v):Rd F' w' t v:=by
 induction r with
 | int k n=>exact .int k n
 | bool b=>exact .bool b
 | str s=>exact .str s
 | fv f=>exact .fv f
 | nil h=>exact .nil h
 | sl a cap size vs hw hc hF hs hv hr ih=>
  refine .sl a cap size vs hw hc (fun hn=>(h _ (hF hn)).1) hs (fun i j hi hj=>?_) ih;have hb:(a.add (i*size+j)).block=a.block:=by unfold Addr.add; split <;> rfl
  rw[(h _ (hF (by omega))).2 _ hb];exact hv i j hi hj
 | agg hs hr ih=>exact .agg hs ih
theorem VR.monoC{F F':Nat->Prop}{g g':Nat->Value}{w w':World}(h:∀ b,F b->F' b/\pU w w' b){p:PV}{v:Value}(r:VR F g w p v)
  (hg:∀ o,o∈p.names->g' o=g o):VR F' g' w' p v:=by
 induction r with
 | t r=>exact .t (r.monoC h)
 | ptr e=>exact .ptr (by rw[hg _ (by simp[PV.names])]; exact e)
 | eptr a hF e=>
  refine .eptr a (fun hl=>(h _ (hF hl)).1) (fun j x hx=>?_);obtain⟨u,hu,hr⟩:=e j x hx;refine⟨u,?_,hr.monoC h⟩;have hb:(a.add j).block=a.block:=by unfold Addr.add; split <;> rfl
  have hl:F a.block:=hF (by intro hn; subst hn; simp at hx);rw[(h _ hl).2 _ hb];exact hu
 | own e=>exact .own (by rw[hg _ (by simp[PV.names])]; exact e)
 | aptr e=>exact .aptr (by rw[hg _ (by simp[PV.names])]; exact e)
 | map e=>exact .map (by rw[hg _ (by simp[PV.names])]; exact e)
 | nil=>exact .nil
 | np=>exact .np
 | any h=>exact .any h
 | lit h=>exact .lit h
 | ifx=>exact .ifx
 | osl e=>exact .osl (e.imp id fun⟨b,h1,h2⟩=>⟨b,h1,by rw[hg _ (by simp[PV.names])]; exact h2⟩)
 | fn hn hs hr ih=>exact .fn hn hs fun j x v hx hv=>ih j x v hx hv fun o ho=>hg o (by simp only[PV.names]; exact PV.names_go_mem hx ho)
 | tup hs hr ih=>exact .tup hs fun j x v hx hv=>ih j x v hx hv fun o ho=>hg o (by simp only[PV.names]; exact PV.names_go_mem hx ho)
 | agg hs hr ih=>exact .agg hs fun j x v hx hv=>ih j x v hx hv fun o ho=>hg o (by simp only[PV.names]; exact PV.names_go_mem hx ho)
theorem pR.monoC{F F':Nat->Prop}{g g':Nat->Value}{w w':World}(h:∀ b,F b->F' b/\pU w w' b){u:Value}{l:List PV}(r:pR F g w u l)(hg:∀ o,o∈PV.names.go l->g' o=g o)
  (hb:∀ b,blk u=some b->w'.heap[b]? = w.heap[b]?):pR F' g' w' u l:=by
 obtain⟨b,vs,ty,h1,h2,h3,h4⟩:=r;exact⟨b,vs,ty,h1,by rw[hb b (by rw[h1]; rfl)]; exact h2,h3,fun j x v hx hv=>(h4 j x v hx hv).monoC h fun o' ho'=>hg o' (PV.names_go_mem hx ho')⟩
theorem kZ.monoC{F F':Nat->Prop}{w w':World}(h:∀ b,F b->F' b/\pU w w' b){u:Value}{e:TypeId}{s n:Nat}{f:Nat->List T}(r:kZ F w u e s n f)
  (hb:∀ b,blk u=some b->w'.heap[b]? = w.heap[b]?):kZ F' w' u e s n f:=by
 rcases r with h1 | ⟨b,cap,cur,h1,h2,h3,h4,h5,h6,h7⟩
 ·exact .inl h1
 ·refine .inr ⟨b,cap,cur,h1,by rw[hb b (by rw[h1]; rfl)]; exact h2,h3,h4,h5,h6,fun i j x hi hx=>?_⟩;obtain⟨v,hv,hr⟩:=h7 i j x hi hx;exact⟨v,hv,hr.monoC h⟩
theorem yA.monoC{F F':Nat->Prop}{w w':World}(h:∀ b,F b->F' b/\pU w w' b){y:Mem}{v:Value}(r:yA F w y v)
  (hb:∀ b,y.owned=true->blk v=some b->w'.heap[b]? = w.heap[b]?):yA F' w' y v:=by
 cases y with
 | d x=>exact Rd.monoC h r
 | box l=>exact pR.monoC h r (fun _ _=>rfl) (fun b hb'=>hb b rfl hb')
 | row e s n f=>exact kZ.monoC h r (fun b hb'=>hb b rfl hb')
 | any=>trivial
theorem mB.monoC{F F':Nat->Prop}{g g':Nat->Value}{w w':World}(h:∀ b,F b->F' b/\pU w w' b){ho:Option (T×Option PV)}{l:List MapEntry}(r:mB F g w ho l)
  (hg:∀ o,o∈hoN ho->g' o=g o):mB F' g' w' ho l:=by
 cases ho with
 | none=>exact r
 | some kp=>
  obtain⟨k,p⟩:=kp;cases p with
  | none=>exact r
  | some p=>obtain⟨e,h1,h2,h3⟩:=r;exact⟨e,h1,h2,h3.monoC h hg⟩
theorem uM.monoC{F F':Nat->Prop}{w w':World}(h:∀ b,F b->F' b/\pU w w' b){y:Cel}{v:Value}(r:uM F w y v)
  (hb:∀ b,y.owned=true->blk v=some b->w'.heap[b]? = w.heap[b]?):uM F' w' y v:=by
 cases y with
 | d x=>exact Rd.monoC h r
 | any=>exact True.intro
 | nl=>exact r
 | row e s n f=>exact kZ.monoC h r (fun b hb'=>hb b rfl hb')
theorem sT.monoC{F F':Nat->Prop}{g g':Nat->Value}{w w':World}(h:∀ b,F b->F' b/\pU w w' b){b s n:Nat}{f:Nat->List Cel}{ov:Option (Nat×Nat×PV)}{cur:Array Value}(r:sT F g w b s n f ov cur)
  (hg:∀ o,o∈ovN ov->g' o=g o)(hb:∀ (i j:Nat) x v c,i<n->(f i)[j]? = some x->x.owned=true->cur[i*s+j]? = some v->blk v=some c->w'.heap[c]? = w.heap[c]?):sT F' g' w' b s n f ov cur where
 len:=r.len
 cell:=fun i j x hi hx=>by obtain⟨v,hv,hR⟩:=r.cell i j x hi hx;exact⟨v,hv,hR.monoC h fun c hy hc=>hb i j x v c hi hx hy hv hc⟩
 sep:=r.sep
 own:=r.own
 ov:=fun i j p e=>by obtain⟨h1,h2,h3⟩:=r.ov i j p e;subst e;exact⟨h1,h2,fun v hv=>(h3 v hv).monoC h hg⟩
theorem dD.monoC{F F':Nat->Prop}{g g':Nat->Value}{w w':World}(h:∀ b,F b->F' b/\pU w w' b){o:Nat}{x:bA}(r:dD F g w o x)
  (ho:g' o=g o)(hg:∀ o,o∈x.names->g' o=g o)(hb:∀ b,bG g w o x b->w'.heap[b]? = w.heap[b]?):dD F' g' w' o x:=by
 cases x with
 | box l=>simp only[dD]; rw[ho]; exact pR.monoC h r hg (fun b hb'=>hb b (.self hb'))
 | arr e s n f=>simp only[dD]; rw[ho]; exact kZ.monoC h r (fun b hb'=>hb b (.self hb'))
 | mpb n m=>obtain⟨b,es,cl,h1,h2,h3⟩:=r;exact⟨b,es,cl,by rw[ho]; exact h1,by rw[hb b (.self (by rw[h1]; rfl))]; exact h2,h3⟩
 | bld ty e s=>
  obtain⟨b,p,v,h1,h2,h3,h4⟩:=r;refine⟨b,p,v,by rw[ho]; exact h1,by rw[hb b (.self (by rw[h1]; rfl))]; exact h2,h3,?_⟩;rcases h4 with h4 | ⟨r,cap,cur,h4,h5,h6⟩
  ·exact .inl h4
  ·exact .inr ⟨r,cap,cur,h4,by rw[hb r (.bld h1 h2 (by rw[h4]; rfl))]; exact h5,h6⟩
 | arm e s n f ov=>
  simp only[dD];rcases r with⟨h1,h2⟩ | ⟨b,cap,cur,h1,h2,h3,h4,h5,hC⟩
  ·exact .inl ⟨by rw[ho]; exact h1,h2⟩
  ·exact .inr ⟨b,cap,cur,by rw[ho]; exact h1,by rw[hb b (.self (by rw[h1]; rfl))]; exact h2,h3,h4,h5,hC.monoC h hg fun i j x v c hi hx hy hv hc=>hb c (.arm h1 h2 hi hx hy hv hc)⟩
 | mp it m hl=>
  obtain⟨b,es,cl,h1,h2,l,q,hM⟩:=r;refine⟨b,es,cl,by rw[ho]; exact h1,by rw[hb b (.self (by rw[h1]; rfl))]; exact h2,l,q,hM.perm,?_,hM.hole.monoC h (fun k hk=>hg k (by simp[bA.names,hk])),hM.keys,hM.born,hM.old,hM.sep,?_⟩
  ·refine hM.ent.mono fun x e hx he hR=>⟨hR.1,hR.2.monoC h fun b' ho' hb'=>hb b' ?_⟩;exact .mem h1 h2 (hM.perm.mem_iff.1 (uB _ he)) hx hR.1 ho' hb'
  ·cases it with
   | none=>exact True.intro
   | some i=>obtain⟨r',since,seen,c0,e1,e2,e3⟩:=hM.it;exact⟨r',since,seen,c0,by rw[hg i.o (by simp[bA.names,itN])]; exact e1,by rw[hb r' (.iter (by rw[e1]; rfl))]; exact e2,e3⟩
def Fz(r:Option Nat):Fence:={ Fence.wide with round:=r }
def ndO(o:Oper):Bool:=match o.op with
 | .defer _=>false
 | _=>true
def ndC:Code->Bool
 | .region _ ops _=>ops.all ndO
 | .seq x y=>ndC x&&ndC y
 | .cond _ x y=>ndC x&&ndC y
 | .block _ c=>ndC c
 | .loop c=>ndC c
 | .rangeFunc _ _ _ _=>false
 | .scope c=>ndC c
 | _=>true
def NdC(r:Option Nat)(c:Code):Prop:=r=none\/ndC c=true
theorem NdC.seq{r:Option Nat}(h:NdC r (.seq x y)):NdC r x/\NdC r y:=by
 rcases h with h | h
 ·exact⟨.inl h,.inl h⟩
 ·simp only[ndC,cP]at h; exact⟨.inr h.1,.inr h.2⟩
theorem NdC.cond{r:Option Nat}{c:Operand}(h:NdC r (.cond c x y)):NdC r x/\NdC r y:=by
 rcases h with h | h
 ·exact⟨.inl h,.inl h⟩
 ·simp only[ndC,cP]at h; exact⟨.inr h.1,.inr h.2⟩
theorem NdC.block{r:Option Nat}(h:NdC r (.block id c)):NdC r c:=by
 rcases h with h | h
 ·exact .inl h
 ·exact .inr h
theorem NdC.loop{r:Option Nat}(h:NdC r (.loop c)):NdC r c:=by
 rcases h with h | h
 ·exact .inl h
 ·exact .inr h
theorem NdC.ops{r:Option Nat}{id:Nat}{ops:Array Oper}{d:Bool}(h:NdC r (.region id ops d)):r=none\/∀ (i:Nat) o,ops[i]? = some o->ndO o=true:=by
 rcases h with h | h
 ·exact .inl h
 ·simp only[ndC,Array.all_eq_true]at h;refine .inr fun i o ho=>?_;obtain⟨hi,rfl⟩:=oU.1 ho;exact h i hi
section
variable {P:Program} {r:Option Nat} {Q:Exit->Act->World->Prop}
theorem aQL{f:FuncId}{args:Array Value}{w:World}{R:Ending->World->Prop}(h:Calls P f args w R):CallsIn (Fz r) n P f args w R:=callsIn_wide.2 h
theorem aSX{row:String}{args:Array Value}{w:World}{R:Value->World->Prop}(h:Rows P row args w R):RowsIn (Fz r) n P row args w R:=
 fun c cs _=>let ⟨v,w',q,s⟩:=h c cs; ⟨v,w',q,stepsIn_wide.2 s⟩
theorem aLD{o:Oper}{next:Act->World->Prop}{res:Result Next}(h:o.upon P a next Q res):o.uponIn (Fz r) 0 P a next Q res:=by
 cases res with
 | ok n w'=>
  cases n with
  | value v=>exact h
  | skip=>exact h
  | defer d=>exact h
  | enter f args=>refine⟨fun hd=>(by cases hd),CallsIn.mono (aQL h) fun e w'' he=>?_⟩;cases e <;> exact he
  | row row args=>exact⟨fun hd=>(by cases hd),aSX h⟩
  | _=>exact h.elim
 | halt x w'=>cases x <;> exact h
theorem aRH{o:Oper}{w:World}{next:Act->World->Prop}(hn:r=none\/ndO o=true)(h:o.wp P a w next Q):o.wpIn (Fz r) 0 P a w next Q:=by
 refine⟨fun _ _=>trivial,?_⟩;have he:o.semAt (Fz r).round a.eval=execOp a.eval o:=by
  rcases hn with rfl | hn
  ·rfl
  ·refine Oper.semAt_eq _ _ _ fun c hc=>?_;unfold ndO at hn;rw[hc]at hn;cases hn
 rw[he];exact aLD h
theorem uG(hno:¬ LetsOut Q){ops:Array Oper}:∀ (l:List Oper) (a:Act) (w:World),(r=none\/∀ o,o∈l->ndO o=true)->wpList P ops Q l a w->wpListIn (Fz r) 0 P ops Q l a w
 | [],_,_,_,h=>h
 | o::l,a,w,hn,h=>by
  have hl:r=none\/∀ o,o∈l->ndO o=true:=hn.imp id fun h x hx=>h x (cV _ hx);unfold wpList at h;unfold wpListIn;by_cases hw:Region.wanted o (yielded ops a.tmps)=true
  ·rw[aA hw]at h ⊢;rcases h with h | h
   ·exact Oper.wpIn_mono (fun a w=>uG hno l a w hl) (aRH (hn.imp id fun h=>h o dJ) h)
   ·exact absurd h.2 hno
  ·rw[aF hw]at h ⊢;exact⟨fun _ _=>trivial,uG hno l _ _ hl h⟩
theorem Gr(hno:¬ LetsOut Q){md:Region.Mode}{ops:Array Oper}(hn:r=none\/∀ (i:Nat) o,ops[i]? = some o->ndO o=true):∀ (fuel:Nat) (ls:Array Bool) (a:Act) (w:World),wpAny P md ops Q fuel ls a w->wpAnyIn (Fz r) 0 P md ops Q fuel ls a w
 | 0,_,_,_,h=>h
 | n+1,ls,a,w,h=>by
  obtain⟨h0,h1⟩:=h;refine⟨h0,fun i hi=>?_⟩;have h2:=h1 i hi;unfold wpOp at h2;unfold wpOpIn;cases ho:ops[i]? with
  | none=>rw[ho]at h2; exact Gr hno hn n _ _ _ h2
  | some o=>
   rw[ho]at h2;simp only at h2 ⊢;by_cases hw:Region.wanted o (yielded ops a.tmps)=true
   ·rw[aA hw]at h2 ⊢;rcases h2 with h | h
    ·exact Oper.wpIn_mono (fun a w=>Gr hno hn n _ a w) (aRH (hn.imp id fun h=>h i o ho) h)
    ·exact absurd h.2 hno
   ·rw[aF hw]at h2 ⊢;exact⟨fun _ _=>trivial,Gr hno hn n _ _ _ h2⟩
end
abbrev gL:=Exit->St->Prop
def nH(E:Env)(Q:gL):Exit->Act->World->Prop:=fun e a w=>∃ st,Q e st/\e ≠ .outgrown/\Rel E st a w
theorem Ts{E:Env}{Q:gL}:¬ LetsOut (nH E Q):=fun⟨_,_,_,_,h,_⟩=>h rfl
def pwp(P:Program)(E:Env)(c:Code)(Q:gL)(st:St):Prop:=NdC E.rd c->∀ a w,Rel E st a w->c.wpIn (Fz E.rd) 0 P (nH E Q) a w
def fR(P:Program)(E:Env)(ops:List Oper)(Q:gL)(l:List Oper)(st:St):Prop:=∀ a w,Rel E st a w->wpList P ops.toArray (nH E Q) l a w
def Pq:String := "internal/strconv.uint64pow10"
def bBF:Bool:=true
def GLE(P:Program)(F:Nat->Prop)(w:World)(name:String):Prop:=∀ b,P.globalNamed name=some b->(∃ ev,w.cell? ⟨b,0,none⟩=some ev/\(ev = .nilIface\/∃ te pe,ev = .iface te pe))/\F b
theorem GLE.mono{P:Program}{F F':Nat->Prop}{w:World}{name:String}(h:GLE P F w name)(hF:∀ b,F b->F' b/\w'.heap[b]? = w.heap[b]?):GLE P F' w' name:=by intro b hb;obtain⟨⟨ev,h1,h2⟩,h3⟩:=h b hb;refine⟨⟨ev,?_,h2⟩,(hF b h3).1⟩;rw[World.cell?_of_block (w:=w) (w':=w') (hF b h3).2];exact h1
def GLT(P:Program)(F:Nat->Prop)(w:World):Prop:=∀ b,P.globalNamed Pq=some b->Lib.TabIs P w Pq .u64 Lib.pow10Tab/\F b
theorem GLT.mono{P:Program}{F F':Nat->Prop}{w:World}(h:GLT P F w)(hF:∀ b,F b->F' b/\w'.heap[b]? = w.heap[b]?):GLT P F' w':=by intro b hb;obtain⟨h1,h2⟩:=h b hb;refine⟨?_,(hF b h2).1⟩;unfold Lib.TabIs World.var? at h1 ⊢;rw[hb]at h1 ⊢;simp only[aK]at h1 ⊢;rw[(hF b h2).2];exact h1
def bCH:Bool:=true
def GLS(P:Program)(F:Nat->Prop)(w:World):Prop:=∀ b,P.globalNamed "strings.asciiSpace" = some b->Lib.TabIs P w "strings.asciiSpace" .u8 Lib.asciiSpaceTab/\F b
theorem GLS.mono{P:Program}{F F':Nat->Prop}{w:World}(h:GLS P F w)(hF:∀ b,F b->F' b/\w'.heap[b]? = w.heap[b]?):GLS P F' w':=by intro b hb;obtain⟨h1,h2⟩:=h b hb;refine⟨?_,(hF b h2).1⟩;unfold Lib.TabIs World.var? at h1 ⊢;rw[hb]at h1 ⊢;simp only[aK]at h1 ⊢;rw[(hF b h2).2];exact h1
def GLM(P:Program)(F:Nat->Prop)(w:World):Prop:=∀ b,P.globalNamed "internal/bytealg.MaxLen" = some b->(∃ m,w.cell? ⟨b,0,none⟩=some (.int .i64 m))/\F b
theorem GLM.mono{P:Program}{F F':Nat->Prop}{w:World}(h:GLM P F w)(hF:∀ b,F b->F' b/\w'.heap[b]? = w.heap[b]?):GLM P F' w':=by intro b hb;obtain⟨⟨m,h1⟩,h3⟩:=h b hb;refine⟨⟨m,?_⟩,(hF b h3).1⟩;rw[World.cell?_of_block (w:=w) (w':=w') (hF b h3).2];exact h1
structure GLP (P:Program)(F:Nat->Prop)(w:World):Prop where
 tab:GLT P F w
 err:bBF=true->GLE P F w "strconv.ErrSyntax" /\ GLE P F w "strconv.ErrRange"
 sp:bCH=true->GLS P F w/\GLM P F w
theorem GLP.mono{P:Program}{F F':Nat->Prop}{w w':World}(h:GLP P F w)(hF:∀ b,F b->F' b/\w'.heap[b]? = w.heap[b]?):GLP P F' w':=
 ⟨h.tab.mono hF,fun he=>⟨(h.err he).1.mono hF,(h.err he).2.mono hF⟩,fun he=>⟨(h.sp he).1.mono hF,(h.sp he).2.mono hF⟩⟩
def lS(P:Program)(d:Deferred):Prop:=∃ fv cap f args,d.target = .fn fv cap/\(∀ w,(invoke d.target d.args).run P w = .ok (.enter f args) w) /\
 ∀ w,CallsDIn Fence.wide 0 P f args .returning w fun e u' w'=>(∃ v,e = .returned v)/\u' = .returning/\w'=w
structure Tk (F:Nat->Prop)(N:Nat)(w w':World):Prop where
 os:w'.os=w.os
 tape:w'.tape=w.tape
 output:w'.output=w.output
 size:w'.heap.size=w.heap.size
 block:∀ b,w'.heap[b]? = w.heap[b]? \/ F b/\N<=b/\(∃ x,w.heap[b]? = some (.deferred x))/\∃ y,w'.heap[b]? = some (.deferred y)
theorem Tk.refl{F:Nat->Prop}{N:Nat}{w:World}:Tk F N w w:=⟨rfl,rfl,rfl,rfl,fun _=>.inl rfl⟩
theorem Tk.put{F:Nat->Prop}{N D:Nat}{w:World}{x:Option (List Deferred)}(h:Tk F N w w')(hF:F D)(hN:N<=D)(hD:w'.heap[D]? = some (.deferred x)):Tk F N w (w'.putObj D (.deferred none)):=by
 refine⟨h.os,h.tape,h.output,by rw[<-h.size]; simp[World.putObj],fun b=>?_⟩;by_cases hb:b=D
 ·subst hb;refine .inr ⟨hF,hN,?_,none,World.putObj_heap_same (oU.1 hD).1⟩;rcases h.block b with h1 | ⟨_,_,h1,_⟩
  ·exact⟨x,h1.symm.trans hD⟩
  ·exact h1
 ·rw[World.putObj_heap_other hb]; exact h.block b
theorem Tk.cell{F:Nat->Prop}{N:Nat}{w w':World}(h:Tk F N w w')(b:Nat):pU w w' b:=by
 intro p hp;rcases h.block b with h1 | ⟨_,_,⟨x,h1⟩,y,h2⟩
 ·exact World.cell?_of_block (by rw[hp]; exact h1)
 ·subst hp; simp[World.cell?,h1,h2]
theorem pF{P:Program}{fn:Func}{tmps:Array Value}{R:Ending->World->Prop}{F:Nat->Prop}{N:Nat}{w0:World}(hR:∀ w',Tk F N w0 w'->∃ v,(results fn tmps).run P w' = .ok v w'/\R (.returned v) w'):
  ∀ (ds:List Deferred) (w:World),Tk F N w0 w->(∀ d,d∈ds->lS P d\/∃ D,d=yY D/\N<=D/\F D/\w.heap[D]? = some (.deferred (some [])))->(ds.Pairwise fun d d'=>∀ D,d=yY D->d'≠yY D) ->
   LeavesInM Fence.wide 0 P fn tmps R ds .returning w
 | [],w,hw,_,_=>hR w hw
 | d::ds,w,hw,h,hp=>by
  obtain⟨hp1,hp2⟩:=List.pairwise_cons.1 hp;refine⟨by simp,?_⟩;rcases h d dJ with⟨fv,cap,f,args,h1,h2,h3⟩ | ⟨D,rfl,hN,hF,hD⟩
  ·refine .inr ⟨fun hd=>(by cases hd),fv,cap,f,args,h1,h2 w,fun _ _=>trivial,(h3 w).mono ?_⟩;rintro e u' w' ⟨⟨v',rfl⟩,rfl,rfl⟩;exact pF hR ds _ hw (fun d hd=>h d (cV _ hd)) hp2
  ·refine .inl ⟨D,_,rfl,run_takeDeferred hD,?_⟩;refine pF hR ds _ (hw.put hF hN hD) (fun d hd=>?_) hp2;rcases h d (cV _ hd) with h1 | ⟨D',rfl,hN',hF',hD'⟩
   ·exact .inl h1
   ·refine .inr ⟨D',rfl,hN',hF',?_⟩;rw[World.putObj_heap_other (fun e=>hp1 _ hd D rfl (by rw[e]))];exact hD'
theorem cL.taken{E:Env}{F:Nat->Prop}{g:Nat->Value}{st:St}{w:World}(r:cL E F g st a w)(hu:∀ d,¬ E.dms d)(h:Tk F E.w0.heap.size w w'):cL E F g st { a with defers:=[] } w':=by
 have hC:∀ b,F b->F b/\pU w w' b:=fun b hb=>⟨hb,h.cell b⟩;have hB:∀ b,¬ F b->w'.heap[b]? = w.heap[b]?:=fun b hb=>(h.block b).elim id fun x=>absurd x.1 hb;have hM:∀ o x,(o,x)∈st.hp->∀ b,bG g w' o x b->bG g w o x b:=fun o x hx b hb=>
  hb.mono rfl (fun _ _=>rfl) fun c hc=>hB c (r.w.hp.own o x c hx (.self hc)).1
 refine⟨r.nt,⟨fun d hd=>(by cases hd),.nil,fun d hd=>(hu d hd).elim⟩,fun t x hx=>(r.fr t x hx).monoC hC (fun _ _=>rfl),⟨⟨fun o x hx=>(r.w.hp.obj o x hx).monoC hC rfl (fun _ _=>rfl) fun b hb=>hB b (r.w.hp.own o x b hx hb).1,
  fun o x b hx hb=>r.w.hp.own o x b hx (hM o x hx b hb),fun o x o' y b hx hy hne hb hb'=>r.w.hp.sep o x o' y b hx hy hne (hM o x hx b hb) (hM o' y hy b hb')⟩,r.w.f0,fun b hb=>⟨by rw[h.size]; exact(r.w.f1 b hb).1,(r.w.f1 b hb).2⟩,
  ⟨h.os.trans r.w.ext.os,h.tape.trans r.w.ext.tape,h.output.trans r.w.ext.output,by rw[h.size]; exact r.w.ext.size,fun b hb hb'=>?_⟩,r.w.names,r.w.b0⟩⟩
 rcases h.block b with h1 | ⟨_,h1,_⟩
 ·exact h1.trans (r.w.ext.block b hb hb')
 ·omega
structure fF (P:Program)(E:Env)(I:Inf):Prop where
 dk:I.top=true->∀ d,lS P d->E.dok d
 ti:kL P I.ti
 N:E.N=I.N
 nt:E.nt=I.nt
 gl:GLP P E.F0 E.w0
 sep:∀ b,E.F0 b->¬ E.B0 b/\b<E.w0.heap.size
 fx:I.fx E.F0 E.g0 E.w0 E.B0
 rd:I.top=true->E.rd=none/\E.mkA=true
 dm:E.rd=none->∀ D,¬ E.dok (yY D)
theorem fF.glw{P:Program}{E:Env}{I:Inf}(hG:fF P E I){F:Nat->Prop}{g:Nat->Value}{w:World}(r:nC E F g H w):GLP P F w:=
 hG.gl.mono fun b hb=>⟨r.f0 b hb,r.ext.block b (hG.sep b hb).2 (hG.sep b hb).1⟩
section
variable {P:Program} {E:Env} {I:Inf} {Q:gL} {st st':St}
theorem aCM(hG:fF P E I){ops:Array Oper}{o:Oper}(h:Bn I ops.toList o st=some (st',Cs))(hC:All Cs){w:World}(r:Rel E st a w) 
  (hk:∀ a' w',Rel E st' a' w'->K a' w'):if Region.wanted o (yielded ops a.tmps) then o.wp P a w K Q' else K (a.put o.dst undef) w:=by
 obtain⟨F,g,r⟩:=r;have mem:∀ {C:Prop},jL I st o=some (st',C)->C->Region.wanted o (yielded ops a.tmps)=true->(if Region.wanted o (yielded ops a.tmps) then o.wp P a w K Q' else K (a.put o.dst undef) w):=by
  intro C hs hC hw;obtain⟨n,v,w',h1,h2,h3⟩:=aFS hG.ti hG.N hG.nt r o hs hC;rw[aA hw];unfold Oper.wp;rw[h1];rcases h2 with rfl | ⟨rfl,rfl⟩
  ·exact hk _ _ h3
  ·exact hk _ _ h3
 have memC:∀ {C:Prop},jL I st o=some (st',C)->Cs=nA (isC st o.op) C->(isC st o.op=false->C)->Region.wanted o (yielded ops a.tmps)=true->(if Region.wanted o (yielded ops a.tmps) then o.wp P a w K Q' else K (a.put o.dst undef) w):=by
  intro C hs he hf hw;refine mem hs ?_ hw;cases hc:isC st o.op with
  | false=>exact hf hc
  | true=>rw[he,hc]at hC; exact hC
 unfold Bn at h;split at h
 ·rename_i hw;have hw:=fU r hw;split at h
  ·rename_i t x y hop;split at h
   ·rename_i st1 C hs;cases h;refine memC hs rfl (fun hc=>?_) hw;unfold jL at hs;rw[hop]at hs hc;simp only at hs;split at hs
    ·rename_i i p q hi hp hq;simp only[isC,hp]at hc;unfold sZ at hs;split at hs
     ·cases hs
     ·cases p with
      | ptr o off=>
       simp only at hs;split at hs
       ·split at hs
        ·cases hs; trivial
        ·cases hs
       ·cases hs
      | aptr=>simp at hc
      | _=>simp at hs
    ·cases hs
   ·cases h
  ·rename_i e hop;split at h
   ·rename_i st1 C hs;cases h;refine memC hs rfl (fun hc=>?_) hw;obtain⟨dst,op,ty,pos,aft,gd⟩:=o;subst hop;unfold jL at hs;simp only at hs;split at hs
    all_goals try (simp_all; done)
    repeat' (first | (cases hs; trivial) | (cases hs; done) | split at hs)
   ·cases h
  ·rename_i e x hop;split at h
   ·rename_i st1 C hs;cases h;refine memC hs rfl (fun hc=>?_) hw;obtain⟨dst,op,ty,pos,aft,gd⟩:=o;subst hop;unfold jL at hs;simp only at hs;split at hs
    all_goals try (simp_all; done)
    repeat' (first | (cases hs; trivial) | (cases hs; done) | split at hs)
   ·cases h
  ·rename_i t len parts hop;split at h
   ·rename_i st1 C hs;cases h;refine memC hs rfl (fun hc=>?_) hw;obtain⟨dst,op,ty,pos,aft,gd⟩:=o;subst hop;unfold jL at hs;simp only at hs;split at hs
    all_goals try (simp_all; done)
    repeat' (first | (cases hs; trivial) | (cases hs; done) | split at hs)
   ·cases h
  ·rename_i t rs hop;split at h
   ·rename_i st1 C hs;cases h;refine memC hs rfl (fun hc=>?_) hw;obtain⟨dst,op,ty,pos,aft,gd⟩:=o;subst hop;unfold jL at hs;simp only at hs;split at hs
    all_goals try (simp_all; done)
    repeat' (first | (cases hs; trivial) | (cases hs; done) | split at hs)
   ·cases h
  ·rename_i t x k v hop;split at h
   ·rename_i st1 C hs;cases h;refine memC hs rfl (fun hc=>?_) hw;obtain⟨dst,op,ty,pos,aft,gd⟩:=o;subst hop;unfold jL at hs;simp only at hs;split at hs
    all_goals try (simp_all; done)
    repeat' (first | (cases hs; trivial) | (cases hs; done) | split at hs)
   ·cases h
  ·rename_i args ats hop;split at h
   ·rename_i st1 C hs;cases h;exact memC hs rfl (fun hc=>by rw[hop]at hc; simp[isC]at hc) hw
   ·cases h
  ·split at h
   ·rename_i x C d hp hd;split at h
    ·rename_i hlt;cases h;have hc:C:=by
      cases hc:isC st o.op with
      | false=>exact aHF hp hc
      | true=>rw[hc]at hC; exact hC
     obtain⟨v,h1,h2⟩:=aEE hG.ti r o hp hc;rw[aA hw];unfold Oper.wp;rw[h1];refine hk _ _ ?_;rw[hd];exact⟨F,g,r.put (by rw[hG.nt]; simpa[fE] using hlt) h2⟩
    ·cases h
   ·cases h
 ·rename_i hw;have hw:=fU r hw;rw[aF (by rw[hw]; simp)];split at h
  ·rename_i d hd;split at h
   ·rename_i hlt;cases h;refine hk _ _ ?_;rw[hd];exact⟨F,g,r.put (by rw[hG.nt]; simpa[fE] using hlt) (.tup rfl (fun j x v hx=>by simp at hx))⟩
   ·cases h
  ·rename_i hd;cases h;refine hk _ _ ?_;rw[hd];exact⟨F,g,r⟩
 ·cases h
theorem Iv(hG:fF P E I){ops:Array Oper}{o:Oper}(h:Bn I ops.toList o st=some (st',Cs))(hC:All Cs){w:World}(r:Rel E st a w) 
  (hk:∀ a' w',Rel E st' a' w'->wpList P ops Q' rest a' w'):wpList P ops Q' (o::rest) a w:=
 wpList_step fun _ hK=>aCM hG h hC r fun a' w' r'=>hK _ _ (hk a' w' r')
theorem El(hG:fF P E I){ops:Array Oper}{Q':Exit->Act->World->Prop}{rest:List Oper}:∀ (l:List Oper) (st st':St) (Cs:List Prop),Yj I ops.toList l st=some (st',Cs)->All Cs ->
  ∀ a w,Rel E st a w->(∀ a' w',Rel E st' a' w'->wpList P ops Q' rest a' w')->wpList P ops Q' (l++rest) a w
 | [],st,st',Cs,h,_,a,w,r,hk=>by simp[Yj]at h; obtain⟨rfl,rfl⟩:=h; exact hk a w r
 | o::l,st,st',Cs,h,hC,a,w,r,hk=>by
  simp only[Yj]at h;split at h
  ·rename_i st1 C1 h1;split at h
   ·rename_i st2 C2 h2;cases h;rw[All.append]at hC;exact Iv hG h1 hC.1 r fun a' w' r'=>El hG l st1 st' C2 h2 hC.2 a' w' r' hk
   ·cases h
  ·cases h
def aEN(I:Inf)(ops l:List Oper)(n:Nat)(ts os:List Nat)(st:St):Option (St×List Prop):=
 match Yj I ops (l.take n) st with
 | some (st1,C)=>match st1.keep ts os with | some st2=>some (st2,C) | none=>none
 | none=>none
theorem aJE(hG:fF P E I){ops:List Oper}(n:Nat)(ts os:List Nat)(h:aEN I ops l n ts os st=some (st',Cs))(hC:All Cs)
  (hk:fR P E ops Q (l.drop n) st'):fR P E ops Q l st:=by
 intro a w r;unfold aEN at h;split at h
 ·rename_i st1 C h1;split at h
  ·rename_i st2 h2;cases h;have:=El hG (ops:=ops.toArray) (Q':=nH E Q) (rest:=l.drop n) (l.take n) st st1 Cs (by simpa using h1) hC a w r fun a' w' r'=>hk a' w' (r'.keep h2)
   rwa [Ah]at this
  ·cases h
 ·cases h
def Le(E:Env)(s t:St):Prop:=∀ a w,Rel E s a w->Rel E t a w
theorem Le.refl{s:St}:Le E s s:=fun _ _ h=>h
theorem Le.trans{s t u:St}(h:Le E s t)(h':Le E t u):Le E s u:=fun a w r=>h' a w (h a w r)
theorem Le.keep{s t:St}{ts os:List Nat}(h:s.keep ts os=some t):Le E s t:=fun _ _ r=>r.keep h
theorem aIQ{ops:List Oper}(h:Q .normal st):fR P E ops Q [] st:=fun _ _ r=>⟨st,h,nofun,r⟩
theorem iK{ops:List Oper}(h:Le E st st')(hk:fR P E ops Q l st'):fR P E ops Q l st:=fun a w r=>hk a w (h a w r)
theorem uF(h:Le E st st')(hk:pwp P E c Q st'):pwp P E c Q st:=fun hn a w r=>hk hn a w (h a w r)
theorem zQ(h:fR P E l Q l st):pwp P E (.region id l.toArray false) Q st:=fun hn a w r=>
 wpIn_region_lit (uG Ts l a w (hn.ops.imp (fun x=>x) fun h o ho=>by obtain⟨i,hi⟩:=List.getElem?_of_mem ho;exact h i o (by simpa using hi)) (h a w r))
theorem rL(hG:fF P E I)(ts os:List Nat)(h:aEN I l l l.length ts os st=some (st',Cs))(hC:All Cs)(hk:Q .normal st'):
  pwp P E (.region id l.toArray false) Q st:=
 zQ (aJE hG l.length ts os h hC (by rw[List.drop_length]; exact fun _ _ r=>⟨st',hk,nofun,r⟩))
def xT(P:Program)(E:Env)(y:Code)(Q:gL):gL:=fun e s=>match e with | .normal=>pwp P E y Q s | e=>Q e s
theorem aLT(h:pwp P E x (xT P E y Q) st):pwp P E (.seq x y) Q st:=by
 intro hn a w r;refine wpIn_seq (wpIn_mono (h hn.seq.1 a w r) fun e a' w' ⟨s,hs,hr⟩=>?_);cases e with
 | normal=>exact hs hn.seq.2 a' w' hr.2
 | _=>exact⟨s,hs,hr⟩
theorem aHV(h:Q .normal st):pwp P E .skip Q st:=fun _ _ _ r=>wpIn_skip ⟨st,h,nofun,r⟩
theorem aGZ(h:Q (.exit id) st):pwp P E (.exit id) Q st:=fun _ _ _ r=>wpIn_exit ⟨st,h,nofun,r⟩
theorem aPC(h:Q .ret st):pwp P E .ret Q st:=fun _ _ _ r=>wpIn_ret ⟨st,h,nofun,r⟩
theorem zH{c:Operand}(hc:ev st c=some (.t (.bool b)))(h1:b=true->pwp P E x Q st)(h2:b=false->pwp P E y Q st):pwp P E (.cond c x y) Q st:=by intro hn a w r;obtain⟨F,g,r'⟩:=id r;have hv:=(bW r' hc).inv_bool;exact wpIn_cond_split hv (fun e=>h1 e hn.cond.1 a w r) (fun e=>h2 e hn.cond.2 a w r)
def kU(id:Nat)(Q:gL):gL:=fun e s=>match e with | .exit id'=>if id'=id then Q .normal s else Q (.exit id') s | e=>Q e s
theorem Xy(h:pwp P E c (kU id Q) st):pwp P E (.block id c) Q st:=by
 intro hn a w r;refine wpIn_block (wpIn_mono (h hn.block a w r) fun e a' w' ⟨s,hs,hr⟩=>?_);cases e with
 | exit id'=>
  simp only[kU]at hs;simp only[Exit.inBlock];split
  ·rename_i e; rw[aA e]at hs; exact⟨s,hs,nofun,hr.2⟩
  ·rename_i e; rw[aF e]at hs; exact⟨s,hs,hr⟩
 | _=>exact⟨s,hs,hr⟩
theorem aWZ{s:St}(h:pwp P E y Q s):xT P E y Q .normal s:=h
theorem aGE{s:St}(h:Q .ret s):xT P E y Q .ret s:=h
theorem Xv{s:St}{i:Nat}(h:Q (.exit i) s):xT P E y Q (.exit i) s:=h
theorem aZO{s:St}(h:Q .normal s):kU id Q .normal s:=h
theorem aNI{s:St}(h:Q .ret s):kU id Q .ret s:=h
theorem aFB{s:St}{ch:List PanicEntry}(h:Q (.panic ch) s):xT P E y Q (.panic ch) s:=h
theorem aLZ{s:St}{ch:List PanicEntry}(h:Q (.panic ch) s):kU id Q (.panic ch) s:=h
theorem aPF{s:St}(h:Q .normal s):kU id Q (.exit id) s:=by simpa[kU] using h
theorem aJO{id':Nat}{s:St}(hn:id'≠id)(h:Q (.exit id') s):kU id Q (.exit id') s:=by simpa[kU,hn] using h
attribute [irreducible] xT kU
def lH{S R:Type}(body:S->Option (S⊕R)):Nat->S->Option R
 | 0,_=>none
 | n+1,s=>match body s with
  | none=>none
  | some (.inl s')=>lH body n s'
  | some (.inr r)=>some r
end
def Own(g:Nat->Value)(w:World)(H:Hp)(b:Nat):Prop:=∃ o x,(o,x)∈H/\bG g w o x b
def fV(P:Program)(k:FuncId)(args:List PV)(H:Hp)(N:List Nat)(Q:PV->Hp->Prop):Prop:=
 ∀ (F:Nat->Prop) (g:Nat->Value) (w:World) (vs:Array Value),vs.size=args.length->(∀ (j:Nat) x v,args[j]? = some x->vs[j]? = some v->VR F g w x v) ->
  HpR F g w (fun _=>True) H->(∀ b,F b->b<w.heap.size)->GLP P F w ->
  Calls P k vs w fun e w'=>∃ v r H' F' g',e = .returned v/\Q r H'/\VR F' g' w' r v/\nC { w0:=w,F0:=F,B0:=Own g w H,g0:=g,N:=N,nt:=0 } F' g' H' w'
def fL:List PV->Nat->Fr
 | [],_=>[]
 | x::l,k=>(k,x)::fL l (k+1)
theorem oX:∀ {l:List PV} {k t:Nat} {x:PV},(t,x)∈fL l k->∃ j,t=k+j/\l[j]? = some x
 | [],k,t,x,h=>by simp[fL]at h
 | y::l,k,t,x,h=>by
  simp only[fL,aX,gQ]at h;rcases h with⟨rfl,rfl⟩ | h
  ·exact⟨0,rfl,by simp⟩
  ·obtain⟨j,h1,h2⟩:=oX h;exact⟨j+1,by omega,by simpa using h2⟩
def Kx(I:Inf)(st:St):ResultVar->Option PV
 | .tmp t=>bK st.fr t
 | .cell a t=>match bK st.fr a,I.ti t with
  | some (.ptr o off),some i=>match bK st.hp o with
   | some (.box l)=>jF i (l.drop off)
   | _=>none
  | _,_=>none
def vP(I:Inf)(st:St):List ResultVar->Option (List PV)
 | []=>some []
 | x::l=>match Kx I st x,vP I st l with
  | some p,some r=>some (p::r)
  | _,_=>none
def yC(I:Inf)(rs:List ResultVar)(st:St):Option PV:=
 match vP I st rs with
 | some [p]=>some p
 | some l=>some (.tup l)
 | none=>none
def iO(hp:Hp):List Nat->Option Hp
 | []=>some []
 | o::l=>match bK hp o,iO hp l with | some x,some r=>some ((o,x)::r) | _,_=>none
theorem jS{hp:Hp}:∀ {l:List Nat} {r:Hp},iO hp l=some r->(∀ e,e∈r->e∈hp/\e.1∈l)
 | [],r,h=>by simp[iO]at h; subst h; simp
 | o::l,r,h=>by
  simp only[iO]at h;split at h
  ·rename_i x r' hx hr;cases h;intro e he;rcases aX.1 he with rfl | he
   ·exact⟨aU hx,by simp⟩
   ·obtain⟨h1,h2⟩:=jS hr e he;exact⟨h1,cV _ h2⟩
  ·cases h
def aVX(I:Inf)(rs:List ResultVar)(Q:PV->Hp->Prop):gL:=fun e st=>(e = .normal\/e = .ret)/\∃ r L H,yC I rs st=some r/\iO st.hp L=some H/\Q r H
def Ih(tmps:Array Value):ResultVar->Sem Value
 | .tmp t=>pure (tmps.getD t undef)
 | .cell a t=>do loadVar t (<-asAddr (tmps.getD a undef))
theorem Qd(fn:Func)(tmps:Array Value):results fn tmps=(do let vs <-fn.results.mapM (Ih tmps); pure (if h:vs.size=1 then vs[0] else .tuple vs):Sem Value):=by
 unfold results;have:(fun | .tmp t=>pure (tmps.getD t undef) | .cell a t=>do loadVar t (<-asAddr (tmps.getD a undef)):ResultVar->Sem Value)=Ih tmps:=by funext x; cases x <;> rfl
 rw[<-this];rfl
section
variable {P:Program} {I:Inf}
theorem Wk(hI:kL P I.ti){E:Env}{F:Nat->Prop}{g:Nat->Value}{st:St}{w:World}(r:cL E F g st a w){x:ResultVar}{p:PV}(h:Kx I st x=some p):
  ∃ v,(Ih a.tmps x).run P w = .ok v w/\VR F g w p v:=by
 cases x with
 | tmp t=>exact⟨_,by simp[Ih],r.fr _ _ (aU h)⟩
 | cell b t=>
  simp only[Kx]at h;split at h
  ·rename_i o off i hb hi;split at h
   ·rename_i l hl;have hv:=r.fr _ _ (aU hb);obtain⟨u,hu⟩:∃ u,a.tmps.getD b undef=u:=⟨_,rfl⟩;rw[hu]at hv;obtain⟨z,hz,hr⟩:=Jo (P:=P) r (hI _ _ hi) (p:=.ptr o off) (x:=p) (C:=True) (by simp[xW,hl,h]) trivial hv;cases hv with
    | ptr e=>refine⟨z,?_,hr⟩;simp only[Instr.loadAt,Instr.sureAddr,Sem.run_bind,Sem.run_pure,Result.andThen_ok]at hz;simp only[Ih,hu];simpa[asAddr] using hz
   ·cases h
  ·cases h
theorem Cf(hI:kL P I.ti){E:Env}{F:Nat->Prop}{g:Nat->Value}{st:St}{a:Act}{w:World}(r:cL E F g st a w):∀ (rs:List ResultVar) (ps:List PV),vP I st rs=some ps ->
  ∃ vs:List Value,(rs.mapM (Ih a.tmps)).run P w = .ok vs w/\vs.length=ps.length /\
   ∀ (j:Nat) x v,ps[j]? = some x->vs[j]? = some v->VR F g w x v
 | [],ps,h=>by simp[vP]at h; subst h; exact⟨[],by simp,rfl,by simp⟩
 | x::rs,ps,h=>by
  simp only[vP]at h;split at h
  ·rename_i p q hp hq;cases h;obtain⟨v,h1,h2⟩:=Wk hI r hp;obtain⟨vs,h3,h4,h5⟩:=Cf hI r rs q hq;refine⟨v::vs,?_,by simp[h4],fun j y u hy hu=>?_⟩
   ·rw[sK];simp only[Sem.run_bind,h1,Result.andThen_ok,h3,Sem.run_pure]
   ·cases j with
    | zero=>simp at hy hu; subst hy; subst hu; exact h2
    | succ j=>exact h5 j y u (by simpa using hy) (by simpa using hu)
  ·cases h
theorem Em(hI:kL P I.ti){E:Env}{F:Nat->Prop}{g:Nat->Value}{st:St}{w:World}(r:cL E F g st a w){p:PV}(h:yC I fn.results.toList st=some p):
  ∃ v,(results fn a.tmps).run P w = .ok v w/\VR F g w p v:=by
 unfold yC at h;cases hr:vP I st fn.results.toList with
 | none=>rw[hr]at h; cases h
 | some ps=>
  obtain⟨vs,h1,h2,h3⟩:=Cf hI r _ _ hr;have hm:(fn.results.mapM (Ih a.tmps)).run P w = .ok vs.toArray w:=by rw[Array.mapM_eq_mapM_toList];show ((fn.results.toList.mapM (Ih a.tmps)) >>= fun l=>pure l.toArray:Sem (Array Value)).run P w=_;simp[h1]
  rw[Qd,Sem.run_bind,hm];simp only[Result.andThen_ok,Sem.run_pure];rw[hr]at h;split at h
  ·rename_i q hq;cases hq;cases h;have hl:vs.length=1:=by simpa using h2
   obtain⟨v,rfl⟩:=List.length_eq_one_iff.1 hl;exact⟨v,by simp,h3 0 p v (by simp) (by simp)⟩
  ·rename_i l hne hl;cases hl;cases h;have:vs.length≠1:=by intro h1';rw[h2]at h1';obtain⟨q,hq⟩:=List.length_eq_one_iff.1 h1';exact hne q (by rw[hq])
   refine⟨.tuple vs.toArray,?_,.tup (by simpa using h2) fun j x v hx hv=>h3 j x v hx (by simpa using hv)⟩;rw[dif_neg (by simpa using this)]
  ·cases h
def aSW(P:Program)(k:FuncId)(args:List PV)(H:Hp)(N:List Nat)(Q:PV->Hp->Prop)(X:Fx):Prop:=
 ∀ (F:Nat->Prop) (g:Nat->Value) (w:World) (vs:Array Value),vs.size=args.length->(∀ (j:Nat) x v,args[j]? = some x->vs[j]? = some v->VR F g w x v) ->
  HpR F g w (fun _=>True) H->(∀ b,F b->b<w.heap.size)->GLP P F w->X F g w (Own g w H) ->
  Calls P k vs w fun e w'=>∃ v r H' F' g',e = .returned v/\Q r H'/\VR F' g' w' r v/\nC { w0:=w,F0:=F,B0:=Own g w H,g0:=g,N:=N,nt:=0 } F' g' H' w'
theorem aBU{args:List PV}{Q:PV->Hp->Prop}(hf:P.funcs[k]? = some fn)(hb:fn.body=some c)(hI:kL P I.ti)(hnt:fn.ntmps=I.nt)
  (hl:args.length<=I.nt)(h:∀ E,fF P E I->E.rd=none->pwp P E c (aVX I fn.results.toList Q) ⟨fL args 0,H⟩):aSW P k args H I.N Q I.fx:=by
 intro F g w vs hs hvs hH hF hgl hX;refine(callsIn_wide (n:=0)).1 (callsIn_of_wp_marks (F:=Fence.wide) hf hb trivial ?_);have hG:fF P { w0:=w,F0:=F,B0:=Own g w H,g0:=g,N:=I.N,nt:=I.nt,dok:=lS P } I:=⟨fun _ _ h=>h,hI,rfl,rfl,hgl,fun b hb=>⟨fun⟨o,x,h1,h2⟩=>(hH.own o x b h1 h2).1 hb,hF b hb⟩,hX,fun _=>⟨rfl,rfl⟩,fun _ D ⟨fv,cap,f,args,h,_⟩=>(by cases h)⟩;refine wpIn_mono (h _ hG rfl (.inl rfl) _ _ ⟨F,g,?_,⟨fun d hd=>by simp at hd,.nil,fun _ h=>h.elim⟩,?_,⟨⟨hH.obj,fun o x b hx hb=>⟨(hH.own o x b hx hb).1,.inl ⟨o,x,hx,hb⟩⟩,hH.sep⟩,fun _ h=>h,fun b hb=>⟨hF b hb,.inl hb⟩,
  ⟨rfl,rfl,rfl,fK _,fun _ _ _=>rfl⟩,fun _ _=>rfl,fun b ⟨o,x,hx,hb⟩=>hb.block (hH.obj o x hx)⟩⟩) ?_
 ·simp only[jO,Kj]; omega
 ·intro t x hx;obtain⟨j,rfl,hj⟩:=oX hx;have hlt:j<vs.size:=by rw[hs]; exact(eK.1 hj).1
  have:(vs++Array.replicate (fn.ntmps-vs.size) undef).getD (0+j) undef=vs[j]:=by simp[Array.getD,hlt];omega
  rw[this];exact hvs j x vs[j] hj (by simp[hlt])
 ·rintro e a' w' ⟨st,⟨he,r,L,H1,hr,hL,hq⟩,_,F',g',hrel⟩;have:=pF (P:=P) (fn:=fn) (tmps:=a'.tmps) (R:=fun (e:Ending) w'=>∃ v r H' F' g',e = .returned v/\Q r H'/\VR F' g' w' r v/\nC { w0:=w,F0:=F,B0:=Own g w H,g0:=g,N:=I.N,nt:=0 } F' g' H' w')
   (F:=F') (N:=w.heap.size) (w0:=w') (fun w2 hw2=>by have hrel2:=hrel.taken (fun _ h=>h.elim) hw2;obtain⟨v,hv1,hv2⟩:=Em hI hrel2 hr;exact⟨v,hv1,v,r,H1,F',g',rfl,hq,hv2,⟨hrel2.w.hp.sub fun e he=>(jS hL e he).1,hrel2.w.f0,hrel2.w.f1,hrel2.w.ext,hrel2.w.names,hrel2.w.b0⟩⟩)
   a'.defers w' .refl (fun d hd=>(hrel.df.ok d hd).imp id And.right) hrel.df.one
  rcases he with rfl | rfl
  ·exact this
  ·exact this
theorem aDJ{args:List PV}{Q:PV->Hp->Prop}(hf:P.funcs[k]? = some fn)(hb:fn.body=some c)(hI:kL P I.ti)(hnt:fn.ntmps=I.nt)(hx:∀ F g w B,I.fx F g w B)
  (hl:args.length<=I.nt)(h:∀ E,fF P E I->E.rd=none->pwp P E c (aVX I fn.results.toList Q) ⟨fL args 0,H⟩):fV P k args H I.N Q:=
 fun F g w vs hs hvs hH hF hgl=>aBU hf hb hI hnt hl h F g w vs hs hvs hH hF hgl (hx _ _ _ _)
theorem fV.mono{k:FuncId}{args:List PV}{H:Hp}{N:List Nat}{Q Q':PV->Hp->Prop}(h:fV P k args H N Q)(hq:∀ r H',Q r H'->Q' r H'):fV P k args H N Q':=by intro F g w vs h1 h2 h3 h4 h5;exact(h F g w vs h1 h2 h3 h4 h5).mono fun e w' ⟨v,r,H',F',g',a,b,c,d⟩=>⟨v,r,H',F',g',a,hq _ _ b,c,d⟩
end
def Qa:Cel->Option T
 | .d x=>some x
 | .row _ _ n f=>some (.sl n f)
 | .nl=>some (.sl 0 fun _=>[])
 | .any=>none
inductive Iu (st:St)(L:List Nat):PV->PV->Prop
 | same (p:PV):Iu st L p p
 | nil {x:T} {f:Nat->List T} (h:x.view=some (0,f)):Iu st L .nil (.t x)
 | imp {p q:PV} (h:∀ F g w v,VR F g w p v->VR F g w q v):Iu st L p q
 | lend {o:Nat} {e:TypeId} {s n:Nat} {f:Nat->List T} {x:T} (ho:o∈L) (h:bK st.hp o=some (.arr e s n f)) (hx:x.view=some (n,f)):Iu st L (.own o) (.t x)
 | lendA {o:Nat} {e:TypeId} {s n:Nat} {f:Nat->List Cel} {gf:Nat->List T} {x:T} (ho:o∈L) (h:bK st.hp o=some (.arm e s n f none)) (hc:∀ i,i<n->(f i).map Qa=(gf i).map some) (hx:x.view=some (n,gf)):Iu st L (.own o) (.t x)
inductive jT (st:St)(L:List Nat):List PV->List PV->Prop
 | nil:jT st L [] []
 | cons {p q:PV} {l r:List PV} (h:Iu st L p q) (t:jT st L l r):jT st L (p::l) (q::r)
theorem jT.get{st:St}{L:List Nat}{l r:List PV}(h:jT st L l r):r.length=l.length/\∀ (j:Nat) q,r[j]? = some q->∃ p,l[j]? = some p/\Iu st L p q:=by
 induction h with
 | nil=>simp
 | cons h _ ih=>
  refine⟨by simp[ih.1],fun j q hj=>?_⟩;cases j with
  | zero=>simp at hj; subst hj; exact⟨_,by simp,h⟩
  | succ j=>simpa using ih.2 j q (by simpa using hj)
def T.scalar:T->Bool
 | .int ..=>true | .bool _=>true | .str _=>true | _=>false
def PV.scalar:PV->Bool
 | .t x=>x.scalar
 | .tup l=>go l
 | _=>false
where go:List PV->Bool
 | []=>true
 | .t x::l=>x.scalar&&go l
 | _::_=>false
def PV.pure(p:PV):Bool:=match p.names with | []=>true | _=>false
theorem aAL{l:List PV}(h:PV.scalar.go l=true):∀ x,x∈l->∃ y,x = .t y/\y.scalar=true:=by
 induction l with
 | nil=>simp
 | cons x l ih=>
  cases x <;> simp[PV.scalar.go]at h
  intro z hz;rcases aX.1 hz with rfl | hz
  ·exact⟨_,rfl,h.1⟩
  ·exact ih h.2 z hz
section
variable {F F':Nat->Prop} {g g':Nat->Value} {w:World}
theorem VR.pure_g{p:PV}(h:VR F g w p v)(hp:p.pure=true)(g':Nat->Value):VR F g' w p v:=by
 refine h.mono (fun b hb=>⟨hb,rfl⟩) fun o ho=>?_;unfold PV.pure at hp;split at hp
 ·rename_i hn; rw[hn]at ho; simp at ho
 ·cases hp
theorem Rd.scalar_F{x:T}(h:Rd F w x v)(hx:x.scalar=true)(F':Nat->Prop)(w':World):Rd F' w' x v:=by
 cases x <;> simp[T.scalar]at hx
 ·rw[h.inv_int]; exact .int _ _
 ·rw[h.inv_bool]; exact .bool _
 ·rw[h.inv_str]; exact .str _
theorem VR.scalar_F{p:PV}{v:Value}(h:VR F g w p v)(hp:p.scalar=true)(F':Nat->Prop)(g':Nat->Value):VR F' g' w p v:=by
 cases p <;> simp[PV.scalar]at hp
 case t=>exact .t ((h.cells_t rfl).scalar_F hp _ _)
 case tup l=>
  cases h with
  | tup hs hr=>refine .tup hs fun j x v hx hv=>?_;obtain⟨y,rfl,hy⟩:=aAL hp x (kW hx);exact .t (((hr j _ v hx hv).cells_t rfl).scalar_F hy _ _)
theorem Bl{f:Nat->List T}(ho:dD F g w o (.arr e s n f))(hF:∀ b,F b->F' b)(hb:∀ b,blk (g o)=some b->F' b){x:T}(hx:x.view=some (n,f)):
  Rd F' w x (g o):=by
 rcases ho with⟨h1,h2⟩ | ⟨b,cap,cur,h1,h2,h3,h4,h5,h6,h7⟩
 ·rw[h1]; subst h2; exact .nil hx
 ·rw[h1];refine .sl ⟨b,0,none⟩ cap s (fun i j=>(cur[i*s+j]?).getD undef) hx h3 (fun _=>hb b (by rw[h1]; rfl)) h6 (fun i j hi hj=>?_) (fun i j x hi hx=>?_)
  ·have hj':j<(f i).length:=by rw[h6 i hi]; exact hj
   obtain⟨v,hv,_⟩:=h7 i j _ hi (gJ hj');rw[Addr.add_none];simp[World.cell?,h2,hv]
  ·obtain⟨v,hv,hr⟩:=h7 i j x hi hx;simp only[hv,Db];exact hr.mono fun b hb=>⟨hF b hb,rfl⟩
theorem aNO{F':Nat->Prop}{x:Cel}{y:T}(h:uM F w x v)(hx:Qa x=some y)(hF:∀ b,F b->F' b)(hb:∀ b,x.owned=true->blk v=some b->F' b):Rd F' w y v:=by
 cases x with
 | d z=>cases hx; exact Rd.mono (fun b hb=>⟨hF b hb,rfl⟩) h
 | row e s n f=>cases hx; exact Bl (g:=fun _=>v) (o:=0) (show dD F (fun _=>v) w 0 (.arr e s n f) from h) hF (fun b hb'=>hb b rfl hb') rfl
 | nl=>cases hx; rw[show v = .slice none 0 0 from h]; exact .nil rfl
 | any=>cases hx
theorem aIF{e:Nat}{f:Nat->List Cel}{gf:Nat->List T}(h:dD F g w o (.arm e s n f none))(hc:∀ i,i<n->(f i).map Qa=(gf i).map some){x:T}(hx:x.view=some (n,gf)):
  Rd (fun b=>F b\/bG g w o (.arm e s n f none) b) w x (g o):=by
 rcases h with⟨h1,h2,_⟩ | ⟨b,cap,cur,h1,h2,h3,h4,h5,hC⟩
 ·rw[h1]; subst h2; exact .nil hx
 ·have hlen:∀ i,i<n->(gf i).length=s:=fun i hi=>by have:=congrArg List.length (hc i hi);rw[iG,iG]at this;rw[<-this]; exact hC.len i hi
  have hcell:∀ (i j:Nat) y,i<n->(gf i)[j]? = some y->∃ c,(f i)[j]? = some c/\Qa c=some y:=fun i j y hi hy=>by
   have:=congrArg (·[j]?) (hc i hi);simp only[fD,hy,qJ]at this;cases hf:(f i)[j]? with
   | none=>rw[hf]at this; cases this
   | some c=>rw[hf]at this; exact⟨c,rfl,by simpa using this⟩
  have self:bG g w o (.arm e s n f none) b:=.self (by rw[h1]; rfl);have h1':=h1;rw[h1];refine .sl ⟨b,0,none⟩ cap s (fun i j=>(cur[i*s+j]?).getD undef) hx h3 (fun _=>.inr self) hlen (fun i j hi hj=>?_) (fun i j y hi hy=>?_)
  ·have hj':j<(f i).length:=by rw[hC.len i hi]; exact hj
   obtain⟨v,hv,_⟩:=hC.cell i j _ hi (gJ hj');rw[Addr.add_none];simp[World.cell?,h2,hv]
  ·obtain⟨c,hc1,hc2⟩:=hcell i j y hi hy;obtain⟨v,hv,hR⟩:=hC.cell i j c hi hc1;simp only[hv,Db];exact aNO hR hc2 (fun b hb=>.inl hb) fun b' ho hb'=>.inr (.arm h1' h2 hi hc1 ho hv hb')
end
def Nb(st:St)(g:Nat->Value)(w:World)(L:List Nat)(b:Nat):Prop:=∃ o x,o∈L/\bK st.hp o=some x/\bG g w o x b
def Gc(N:List Nat)(b j o:Nat)(e:TypeId)(s:Nat)(f:Nat->List T)(st:St):Option St:=
 match oR o N,Nat.beq b o,st.erase o with
 | true,false,some st1=>match bK st1.hp b with
  | some (.box l)=>match l[j]? with
   | some .nil=>some { fr:=st1.fr,hp:=(o,.arr e s 0 f)::(b,.box (l.set j (.own o)))::del b st1.hp }
   | _=>none
  | _=>none
 | _,_,_=>none
structure fQ (P:Program)(k:FuncId):Prop where
 h:∃ fn,P.funcs[k]? = some fn/\fn.body.isNone=false/\(fn.name == "runtime.NumGoroutine")=false
theorem oQ{P:Program}(h:fQ P k)(args:Array Value)(w:World):(callFunc k args).run P w = .ok (.enter k args) w:=by
 obtain⟨fn,h1,h2,h3⟩:=h.h;have h2':¬ fn.body=none:=by intro e; rw[e]at h2; cases h2
 have h3':¬ fn.name = "runtime.NumGoroutine" := by intro e; rw[e]at h3; simp at h3
 simp[callFunc,program,Sem.run,h1,h2',h3']
section
variable {P:Program} {E:Env} {I:Inf} {Q:gL} {st:St}
theorem Vd(hG:fF P E I){ops:List Oper}{o:Oper}{c:Call}{k:Nat}{caps aps bps:List PV}{Qc:PV->Hp->Prop}(L:List Nat)
  (hop:o.op = .call c)(hcal:c.callee = .value f)(hd:o.dst=some d)(hw:cQ ops o st=some true)(hnt:Nat.blt d I.nt=true)
  (hf:ev st f=some (.fn (.func k) nf caps))(hargs:hU st c.args.toList=some aps)(hk:fQ P k)(has:jT st L (caps.take nf++aps++caps.drop nf) bps)(hcall:fV P k bps [] [] Qc)
  {w:World}(r:Rel E st a w)
  (hres:∀ r H',Qc r H'->(match L with | []=>r.pure | _=>r.scalar)=true/\∀ a' w',Rel E (st.put d r) a' w'->K a' w'):
  if Region.wanted o (yielded ops.toArray a.tmps) then o.wp P a w K Q' else K (a.put o.dst undef) w:=by
 obtain⟨F,g,r⟩:=r;have hwt:=fU (ops:=ops.toArray) r (by simpa using hw);obtain⟨hl1,hr1⟩:=oC r _ _ hargs;have hfv:=bW r hf;obtain⟨fv,hfe⟩:∃ u,a.eval f=u:=⟨_,rfl⟩;rw[hfe]at hfv;cases hfv with
 | @fn _ _ _ us vs hn hs hr=>
  subst hn;rw[aA hwt];unfold Oper.wp;have hrun:(execOp a.eval o).run P w = .ok (.enter k (us++(c.args.map a.eval)++vs)) w:=by unfold execOp;simp[hop,resolve,hcal,hfe,Deferred.ofValue,invoke,oQ hk]
  rw[hrun];have hF':∀ b,(F b\/Nb st g w L b)->b<w.heap.size:=by
   rintro b (h | ⟨o,x,ho,hx,hb⟩)
   ·exact(r.w.f1 b h).1
   ·exact hb.block (r.w.hp.obj o x (aU hx))
  have hcallW:=hcall (fun b=>F b\/Nb st g w L b) g w (us++c.args.map a.eval++vs) (by
    have:=has.get.1;simp only[cZ,dM,fI]at this;have h2:c.args.size=aps.length:=by simpa using hl1.symm
    simp only[jO]at hs;simp only[jO,Array.size_map]; omega) (fun j q v hq hv=>by
    obtain⟨p,hp,hpq⟩:=has.get.2 j q hq;have hpv:VR F g w p v:=by
     have h2:c.args.size=aps.length:=by simpa using hl1.symm
     have hus:us.size<=caps.length:=by simp at hs; omega
     have htk:(caps.take us.size).length=us.size:=by simp; omega
     by_cases hi:j<us.size
     ·rw[gX,eT (by omega),Cc hi]at hp;rw[sH,kO hi]at hv;exact hr j p v hp (by rw[kO hi]; exact hv)
     rw[gX,eH (by omega),htk]at hp;rw[sH,qS (by omega)]at hv;by_cases hj:j-us.size<aps.length
     ·rw[eT hj]at hp;rw[kO (by simp; omega)]at hv;exact hr1 _ p v hp (by simpa using hv)
     ·rw[eH (by omega),iD]at hp;rw[qS (by simp; omega)]at hv;refine hr (us.size+(j-us.size-aps.length)) p v hp ?_;rw[qS (by omega)];simpa[h2] using hv
    cases hpq with
    | same=>exact hpv.mono (fun b hb=>⟨.inl hb,rfl⟩) (fun _ _=>rfl)
    | nil hx=>cases hpv; exact .t (.nil hx)
    | imp h=>exact(h _ _ _ _ hpv).mono (fun b hb=>⟨.inl hb,rfl⟩) (fun _ _=>rfl)
    | @lend o e s n f x ho hl hx=>
     refine .t ?_;have hob:=r.w.hp.obj _ _ (aU hl);have:=Bl (F':=fun b=>F b\/Nb st g w L b) hob (fun b hb=>.inl hb) (fun b hb=>.inr ⟨o,_,ho,hl,.self hb⟩) hx;cases hpv with
     | own hg=>rw[hg]at this; exact this
    | @lendA o e s n f gf x ho hl hc hx=>
     refine .t ?_;have hob:=r.w.hp.obj _ _ (aU hl);have:=(aIF hob hc hx).mono (F':=fun b=>F b\/Nb st g w L b) (fun b hb=>⟨hb.elim .inl (fun hb=>.inr ⟨o,_,ho,hl,hb⟩),rfl⟩);cases hpv with
     | own hg=>rw[hg]at this; exact this) ⟨by simp,by simp,by simp⟩ hF' ((hG.glw r.w).mono fun b hb=>⟨.inl hb,rfl⟩)
  simp only[Oper.upon];refine hcallW.mono ?_;rintro e w' ⟨v,res,H',F',g',rfl,hQ,hv,hW⟩;obtain⟨hpure,hgo⟩:=hres res H' hQ;refine hgo _ _ ?_;rw[hd];have hext:=hW.ext;have hblk:∀ b,b<w.heap.size->w'.heap[b]? = w.heap[b]?:=fun b hb=>hext.block b hb (by rintro⟨o,x,hx,_⟩; simp at hx);have hFF:∀ b,F b->(F' b/\¬ Nb st g w L b)/\w'.heap[b]? = w.heap[b]?:=fun b hb=>⟨⟨hW.f0 b (.inl hb),by rintro⟨o,x,ho,hx,hb'⟩;exact(r.w.hp.own o x b (aU hx) hb').1 hb⟩,hblk b (r.w.f1 b hb).1⟩;have hd':d<E.nt:=by rw[hG.nt]; simpa[fE] using hnt
  have hvF:VR (fun b=>F' b/\¬ Nb st g w L b) g w' res v:=by
   cases L with
   | nil=>exact(hv.pure_g hpure g).mono (fun b hb=>⟨⟨hb,by rintro⟨o,x,ho,_⟩; simp at ho⟩,rfl⟩) (fun _ _=>rfl)
   | cons o L=>exact hv.scalar_F hpure _ _
  have hft:∀ o x b,(o,x)∈st.hp->bG g w' o x b->bG g w o x b:=fun o x b hx hb=>hb.mono rfl (fun _ _=>rfl) (fun c hc=>hblk c ((r.w.hp.obj o x hx).block hc));refine⟨fun b=>F' b/\¬ Nb st g w L b,g,(r.putW (st':=st) hd' hFF (fun t y hy=>⟨hy,fun _ _=>rfl⟩) ?_ hvF)⟩;refine⟨⟨fun o x hx=>?_,fun o x b hx hb=>⟨?_,(r.w.hp.own o x b hx (hft o x b hx hb)).2⟩,fun o x o' y b hx hy hne hb hb'=>r.w.hp.sep o x o' y b hx hy hne (hft o x b hx hb) (hft o' y b hy hb')⟩,fun b hb=>(hFF b (r.w.f0 b hb)).1,fun b hb=>⟨(hW.f1 b hb.1).1,?_⟩,
   r.w.ext.trans hext.os hext.tape hext.output hext.size (fun b hb _=>hblk b (by have:=r.w.ext.size; omega)),r.w.names,r.w.b0⟩
  ·exact(r.w.hp.obj o x hx).mono hFF rfl (fun _ _=>rfl) (fun b hb=>hblk b (hb.block (r.w.hp.obj o x hx)))
  ·rintro⟨h1,h2⟩;rcases (hW.f1 b h1).2 with h | h | h
   ·rcases h with h | h
    ·exact(r.w.hp.own o x b hx (hft o x b hx hb)).1 h
    ·exact h2 h
   ·obtain⟨o',x',hx',_⟩:=h; simp at hx'
   ·have:b<w.heap.size:=(hft o x b hx hb).block (r.w.hp.obj o x hx);have h:w.heap.size<=b:=h;omega
  ·rcases (hW.f1 b hb.1).2 with h | h | h
   ·rcases h with h | h
    ·exact(r.w.f1 b h).2
    ·exact absurd h hb.2
   ·obtain⟨o',x',hx',_⟩:=h; simp at hx'
   ·have h:w.heap.size<=b:=h;exact .inr (.inr (gV r.w.ext.size h))
theorem Yg(hG:fF P E I){ops:List Oper}{o:Oper}{c:Call}{k:Nat}{caps aps bps:List PV}{Qc:PV->Hp->Prop}(L:List Nat)
  (hl:l=o::rest)(hop:o.op = .call c)(hcal:c.callee = .value f)(hd:o.dst=some d)(hw:cQ ops o st=some true)(hnt:Nat.blt d I.nt=true)
  (hf:ev st f=some (.fn (.func k) nf caps))(hargs:hU st c.args.toList=some aps)(hk:fQ P k)(has:jT st L (caps.take nf++aps++caps.drop nf) bps)(hcall:fV P k bps [] [] Qc)
  (hres:∀ r H',Qc r H'->(match L with | []=>r.pure | _=>r.scalar)=true/\fR P E ops Q rest (st.put d r)):fR P E ops Q l st:=by
 subst hl;intro a w r;refine wpList_step fun K hK=>Vd hG L hop hcal hd hw hnt hf hargs hk has hcall r fun r H' hq=>⟨(hres r H' hq).1,fun a' w' r'=>hK _ _ ((hres r H' hq).2 a' w' r')⟩
def PV.fz(p:PV)(o:Nat)(q:PV):PV:=match p with | .own k=>(match Nat.beq k o with | true=>q | false=>.own k) | p=>p
def aZS(o:Nat)(q:PV):Option (Nat×Nat×PV)->Option (Nat×Nat×PV)
 | some (i,j,p)=>some (i,j,p.fz o q)
 | none=>none
def aGJ(o:Nat)(q:PV)(x:bA):bA:=match x with | .box l=>.box (l.map fun p=>p.fz o q) | .arm e s n f ov=>.arm e s n f (aZS o q ov) | x=>x
theorem PV.fz_ok{F F':Nat->Prop}{g:Nat->Value}{w:World}{q:PV}(hF:∀ b,F b->F' b)(hq:VR F' g w q (g o)){p:PV}(h:VR F g w p v):VR F' g w (p.fz o q) v:=by
 have h':VR F' g w p v:=h.mono (fun b hb=>⟨hF b hb,rfl⟩) (fun _ _=>rfl);unfold PV.fz;split
 ·rename_i k;split
  ·rename_i hk;have hk:=cJ hk;subst hk;cases h' with
   | own e=>rw[e]at hq; exact hq
  ·exact h'
 ·exact h'
theorem Hy{F F':Nat->Prop}{g:Nat->Value}{w:World}{q:PV}(hF:∀ b,F b->F' b)(hq:VR F' g w q (g o)){x:bA}(h:dD F g w t x):dD F' g w t (aGJ o q x):=by
 cases x with
 | box l=>obtain⟨b,vs,ty,h1,h2,h3,h4⟩:=h;refine⟨b,vs,ty,h1,h2,by simp[h3],fun j y v hy hv=>?_⟩;simp only[fD,gB]at hy;obtain⟨z,hz,rfl⟩:=hy;exact PV.fz_ok hF hq (h4 j z v hz hv)
 | arr e s n f=>exact h.mono (fun b hb=>⟨hF b hb,rfl⟩) rfl (fun _ _=>rfl) (fun _ _=>rfl)
 | mpb n m=>exact h.mono (fun b hb=>⟨hF b hb,rfl⟩) rfl (fun _ _=>rfl) (fun _ _=>rfl)
 | mp it m ho=>exact h.mono (fun b hb=>⟨hF b hb,rfl⟩) rfl (fun _ _=>rfl) (fun _ _=>rfl)
 | bld ty e s=>exact h.mono (fun b hb=>⟨hF b hb,rfl⟩) rfl (fun _ _=>rfl) (fun _ _=>rfl)
 | arm e s n f ov=>
  rcases h with⟨h1,h2,h3⟩ | ⟨b,cap,cur,h1,h2,h3,h4,h5,hC⟩
  ·subst h3; exact .inl ⟨h1,h2,rfl⟩
  ·refine .inr ⟨b,cap,cur,h1,h2,h3,h4,h5,hC.len,fun i j x hi hx=>?_,hC.sep,hC.own,fun i j p e=>?_⟩
   ·obtain⟨v,hv,hR⟩:=hC.cell i j x hi hx;exact⟨v,hv,hR.mono (fun b hb=>⟨hF b hb,rfl⟩) (fun _ _ _=>rfl)⟩
   ·rcases ov with _ | ⟨i',j',p'⟩
    ·cases e
    ·simp only[aZS,gO,gQ]at e;obtain⟨rfl,rfl,rfl⟩:=e;obtain⟨q1,q2,q3⟩:=hC.ov _ _ _ rfl;exact⟨q1,q2,fun v hv=>PV.fz_ok hF hq (q3 v hv)⟩
theorem kC{g:Nat->Value}{w:World}{q:PV}{x:bA}{b:Nat}(h:bG g w t (aGJ o q x) b):bG g w t x b:=by
 cases x with
 | box l=>exact .self (h.toBlk rfl)
 | arm e s n f ov=>
  cases h with
  | self h=>exact .self h
  | arm h1 h2 h3 h4 h5 h6 h7=>exact .arm h1 h2 h3 h4 h5 h6 h7
 | _=>exact h
def oS(o:Nat)(x:T)(st:St):Option St:=
 ({ fr:=st.fr.map fun e=>(e.1,e.2.fz o (.t x)),hp:=(del o st.hp).map fun e=>(e.1,aGJ o (.t x) e.2) }:St).erase o
theorem Rel.freeze{x:T}{f:Nat->List T}{st':St}(hl:bK st.hp o=some (.arr e s n f))(hx:x.view=some (n,f))(h:oS o x st=some st'){w:World}(r:Rel E st a w):Rel E st' a w:=by
 obtain⟨F,g,r⟩:=r;unfold oS at h
 ·have hlm:=aU hl;have hob:=r.w.hp.obj _ _ hlm;have hq:VR (fun b=>F b\/blk (g o)=some b) g w (.t x) (g o):=.t (Bl hob (fun b hb=>.inl hb) (fun b hb=>.inr hb) hx);have hF:∀ b,F b->(F b\/blk (g o)=some b):=fun b hb=>.inl hb;have hfr:=St.erase_fr h;have hhp:=St.erase_hp h;refine⟨fun b=>F b\/blk (g o)=some b,g,r.nt,r.df.mono (fun _ h=>⟨.inl h,rfl⟩),fun t x' hx'=>?_,⟨⟨fun k y hy=>?_,fun k y b hy hb=>?_,fun k y k' y' b hy hy' hne hb hb'=>?_⟩,fun b hb=>.inl (r.w.f0 b hb),fun b hb=>?_,r.w.ext,r.w.names,r.w.b0⟩⟩
  ·obtain⟨h1,_⟩:=hfr t x' hx';simp only[dW,gQ]at h1;obtain⟨⟨t',y⟩,hy,rfl,rfl⟩:=h1;exact PV.fz_ok hF hq (r.fr t' y hy)
  ·obtain⟨x,h1,_,_,h4,_⟩:=hhp k y hy;simp only[dW,gQ]at h1;obtain⟨⟨k',z⟩,hz,rfl,rfl⟩:=h1;exact h4 _ _ _ (Hy hF hq (r.w.hp.obj k' z (bD.1 hz).1))
  ·obtain⟨x,h1,h2,_,_,h5⟩:=hhp k y hy;simp only[dW,gQ]at h1;obtain⟨⟨k',z⟩,hz,rfl,rfl⟩:=h1;obtain⟨hz1,hz2⟩:=bD.1 hz;have hb:=kC (h5 _ _ _ hb);refine⟨?_,(r.w.hp.own k' z b hz1 hb).2⟩;rintro (h | h)
   ·exact(r.w.hp.own k' z b hz1 hb).1 h
   ·exact r.w.hp.sep k' z o _ b hz1 hlm hz2 hb (.self h)
  ·obtain⟨x,h1,_,_,_,h5⟩:=hhp k y hy;obtain⟨x',h1',_,_,_,h5'⟩:=hhp k' y' hy';simp only[dW,gQ]at h1 h1';obtain⟨⟨k2,z⟩,hz,rfl,rfl⟩:=h1;obtain⟨⟨k2',z'⟩,hz',rfl,rfl⟩:=h1';exact r.w.hp.sep k2 z k2' z' b (bD.1 hz).1 (bD.1 hz').1 hne (kC (h5 _ _ _ hb)) (kC (h5' _ _ _ hb'))
  ·rcases hb with hb | hb
   ·exact r.w.f1 b hb
   ·have:=(r.w.hp.own o _ b hlm (.self hb)).2;exact⟨hob.block hb,this.elim (fun h=>.inr (.inl h)) (fun h=>.inr (.inr h))⟩
def Uh(N:List Nat)(t o:Nat)(e:TypeId)(s:Nat)(f:Nat->List T)(st:St):Option St:=
 match bK st.fr t,oR o N,st.erase o with
 | some .nil,true,some st1=>some { fr:=(t,.own o)::del t st1.fr,hp:=(o,.arr e s 0 f)::st1.hp }
 | _,_,_=>none
theorem Rel.thaw(hG:fF P E I){f:Nat->List T}{st':St}(h:Uh I.N t o e s f st=some st'){w:World}(r:Rel E st a w):Rel E st' a w:=by
 obtain⟨F,g,r⟩:=r;unfold Uh at h;split at h
 ·rename_i st1 hl hn he;cases h;have hnil:a.tmps.getD t undef = .slice none 0 0:=by have:=r.fr _ _ (aU hl);generalize a.tmps.getD t undef=u at this;cases this; rfl
  refine⟨F,upd g o (.slice none 0 0),r.nt,r.df,fun t' x hx=>?_,⟨HpR.change r.w.hp he (fun k hk=>bR g _ hk) (fun b hb=>⟨hb,rfl⟩) (fun _ h=>h) (fun _ _ _ _ _ _=>rfl) (.inl ⟨bM ..,rfl⟩)
   (fun b hb=>by have hb:=hb.toBlk rfl; rw[bM]at hb; simp[blk]at hb) (fun k y b _ _ _ hb=>by have hb:=hb.toBlk rfl; rw[bM]at hb; simp[blk]at hb),r.w.f0,r.w.f1,r.w.ext,fun k hk=>?_,r.w.b0⟩⟩
  ·rcases aX.1 hx with e | hx
   ·cases e; rw[hnil]; exact .own (bM ..)
   ·obtain⟨h1,h2⟩:=St.erase_fr he t' x (bD.1 hx).1;exact(r.fr t' x h1).mono (fun b hb=>⟨hb,rfl⟩) (fun k hk=>bR g _ (h2 k hk))
  ·rw[bR g _ (fun e:k=o=>fJ hn (hG.N▸e▸hk))];exact r.w.names k hk
 ·cases h
theorem Rel.thawC(hG:fF P E I){b j:Nat}{f:Nat->List T}{st':St}(h:Gc I.N b j o e s f st=some st'){w:World}(r:Rel E st a w):Rel E st' a w:=by
 obtain⟨F,g,r⟩:=r;unfold Gc at h;split at h
 ·rename_i st1 hn hbo he;split at h
  ·rename_i l hl;split at h
   ·rename_i hj;cases h;have hbo:=nP hbo;have hp:=HpR.change (x:=.arr e s 0 f) (g':=upd g o (.slice none 0 0)) r.w.hp he (fun k hk=>bR g _ hk) (fun b hb=>⟨hb,rfl⟩) (fun _ h=>h) (fun _ _ _ _ _ _=>rfl) (.inl ⟨bM ..,rfl⟩)
     (fun b hb=>by have hb:=hb.toBlk rfl; rw[bM]at hb; simp[blk]at hb) (fun k y b _ _ _ hb=>by have hb:=hb.toBlk rfl; rw[bM]at hb; simp[blk]at hb)
    have hbm:(b,bA.box l)∈(o,bA.arr e s 0 f)::st1.hp:=cV _ (aU hl);have key:∀ k u,(k,u)∈(o,bA.arr e s 0 f)::(b,bA.box (l.set j (.own o)))::del b st1.hp->∃ u',(k,u')∈(o,bA.arr e s 0 f)::st1.hp/\∀ g w c,bG g w k u c->bG g w k u' c:=by
     intro k u hk;rcases aX.1 hk with e1 | hk
     ·cases e1; exact⟨_,dJ ..,fun _ _ _ h=>h⟩
     ·rcases aX.1 hk with e1 | hk
      ·cases e1; exact⟨_,hbm,fun _ _ _ h=>.self (h.toBlk rfl)⟩
      ·exact⟨u,cV _ (bD.1 hk).1,fun _ _ _ h=>h⟩
    refine⟨F,upd g o (.slice none 0 0),r.nt,r.df,fun t' x hx=>?_,⟨⟨fun k u hk=>?_,fun k u b' hk hb=>?_,fun k u k' u' b' hk hk' hne hb hb'=>?_⟩,r.w.f0,r.w.f1,r.w.ext,fun k hk=>?_,r.w.b0⟩⟩
    ·obtain⟨h1,h2⟩:=St.erase_fr he t' x hx;exact(r.fr t' x h1).mono (fun b hb=>⟨hb,rfl⟩) (fun k hk=>bR g _ (h2 k hk))
    ·rcases aX.1 hk with e1 | hk
     ·cases e1; exact hp.obj _ _ (dJ ..)
     ·rcases aX.1 hk with e1 | hk
      ·cases e1;obtain⟨bb,vs,ty,e1,e2,e3,e4⟩:=hp.obj _ _ hbm;refine⟨bb,vs,ty,e1,e2,by simp[e3],fun q y v hy hv=>?_⟩;rw[pV]at hy;split at hy
       ·rename_i hq;subst hq;split at hy
        ·cases hy;have:=e4 j .nil v hj hv;cases this;exact .own (bM ..)
        ·cases hy
       ·exact e4 q y v hy hv
      ·exact hp.obj _ _ (cV _ (bD.1 hk).1)
    ·obtain⟨u',hu,hf⟩:=key k u hk; exact hp.own k u' b' hu (hf _ _ _ hb)
    ·obtain⟨v,hv,hf⟩:=key k u hk; obtain⟨v',hv',hf'⟩:=key k' u' hk'; exact hp.sep k v k' v' b' hv hv' hne (hf _ _ _ hb) (hf' _ _ _ hb')
    ·rw[bR g _ (fun e:k=o=>fJ hn (hG.N▸e▸hk))];exact r.w.names k hk
   ·cases h
  ·cases h
 ·cases h
theorem Le.thawC(hG:fF P E I){b j o:Nat}{e:TypeId}{s:Nat}{f:Nat->List T}{st':St}(h:Gc I.N b j o e s f st=some st'):Le E st st':=fun _ _ r=>r.thawC hG h
theorem Rel.slot{p q:PV}(hl:bK st.fr t=some p)(hpq:∀ F g w v,VR F g w p v->VR F g w q v){w:World}(r:Rel E st a w):Rel E { st with fr:=(t,q)::del t st.fr } a w:=by
 obtain⟨F,g,r⟩:=r;refine⟨F,g,r.nt,r.df,fun t' x hx=>?_,r.w⟩;rcases aX.1 hx with e | hx
 ·cases e; exact hpq _ _ _ _ (r.fr _ _ (aU hl))
 ·exact r.fr t' x (bD.1 hx).1
theorem Rel.obj{o:Nat}{x y:bA}(hl:bK st.hp o=some x)(hxy:∀ F g w,dD F g w o x->dD F g w o y)(hft:∀ g w c,bG g w o y c->bG g w o x c){a:Act}{w:World}(r:Rel E st a w):Rel E { st with hp:=(o,y)::del o st.hp } a w:=by
 obtain⟨F,g,r⟩:=r;have hlm:=aU hl;have key:∀ k u,(k,u)∈(o,y)::del o st.hp->∃ u',(k,u')∈st.hp/\∀ c,bG g w k u c->bG g w k u' c:=by
  intro k u hk;rcases aX.1 hk with e | hk
  ·cases e; exact⟨x,hlm,hft g w⟩
  ·exact⟨u,(bD.1 hk).1,fun _ h=>h⟩
 refine⟨F,g,r.nt,r.df,r.fr,⟨⟨fun k u hk=>?_,fun k u b hk hb=>?_,fun k u k' u' b hk hk' hne hb hb'=>?_⟩,r.w.f0,r.w.f1,r.w.ext,r.w.names,r.w.b0⟩⟩
 ·rcases aX.1 hk with e | hk
  ·cases e; exact hxy _ _ _ (r.w.hp.obj _ _ hlm)
  ·exact r.w.hp.obj _ _ (bD.1 hk).1
 ·obtain⟨u',h,hf⟩:=key k u hk; exact r.w.hp.own k u' b h (hf _ hb)
 ·obtain⟨v,h,hf⟩:=key k u hk; obtain⟨v',h',hf'⟩:=key k' u' hk'; exact r.w.hp.sep k v k' v' b h h' hne (hf _ hb) (hf' _ hb')
theorem dD.row{F:Nat->Prop}{g:Nat->Value}{w:World}{n':Nat}{f f':Nat->List T}(hn:n=n')(hf:∀ i,i<n->f i=f' i)(h:dD F g w o (.arr e s n f)):dD F g w o (.arr e s n' f'):=by
 subst hn;rcases h with h | ⟨b,cap,cur,h1,h2,h3,h4,h5,h6,h7⟩
 ·exact .inl h
 ·exact .inr ⟨b,cap,cur,h1,h2,h3,h4,h5,fun i hi=>by rw[<-hf i hi]; exact h6 i hi,fun i j x hi hx=>h7 i j x hi (by rw[hf i hi]; exact hx)⟩
theorem Le.freeze{o:Nat}{e:TypeId}{s n:Nat}{f:Nat->List T}{st':St}(x:T)(hl:bK st.hp o=some (.arr e s n f))(hx:x.view=some (n,f))(h:oS o x st=some st'):Le E st st':=fun _ _ r=>r.freeze hl hx h
theorem Le.thaw(hG:fF P E I){t o:Nat}{e:TypeId}{s:Nat}{f:Nat->List T}{st':St}(h:Uh I.N t o e s f st=some st'):Le E st st':=fun _ _ r=>r.thaw hG h
theorem Le.slot{t:Nat}{p:PV}(q:PV)(hl:bK st.fr t=some p)(hpq:∀ F g w v,VR F g w p v->VR F g w q v):Le E st { st with fr:=(t,q)::del t st.fr }:=fun _ _ r=>r.slot hl hpq
theorem Le.obj{o:Nat}{x:bA}(y:bA)(hl:bK st.hp o=some x)(hxy:∀ F g w,dD F g w o x->dD F g w o y)(hy:y.plain=true:=by rfl):Le E st { st with hp:=(o,y)::del o st.hp }:=fun _ _ r=>r.obj hl hxy (fun _ _ _ h=>.self (h.toBlk hy))
theorem Le.objF{x:bA}(y:bA)(hl:bK st.hp o=some x)(hxy:∀ F g w,dD F g w o x->dD F g w o y)(hft:∀ g w c,bG g w o y c->bG g w o x c):Le E st { st with hp:=(o,y)::del o st.hp }:=fun _ _ r=>r.obj hl hxy hft
end
def eL{α:Type}[Inhabited α](c:α->List T)(xs:List α):T:=.sl xs.length fun i=>c (xs.getD i default)
def eF{α:Type}[Inhabited α](c:α->List T)(xs:List α):Nat->List T:=fun i=>c (xs.getD i default)
def aG(x:Int):List T:=[.int .i64 x]
def cU8(x:Int):List T:=[.int .u8 x]
def iE(x:Bool):List T:=[.bool x]
def Iw(x:ByteArray):List T:=[.str x]
instance:Inhabited ByteArray:=⟨ByteArray.empty⟩
theorem bnd{β:Type}{x:Option α}{f:α->Option β}{y:β}(h:x.bind f=some y):∃ z,x=some z/\f z=some y:=by
 cases x with
 | none=>cases h
 | some z=>exact⟨z,rfl,h⟩
def aZZ:TypeDesc->U
 | .int k=>.int k
 | .bool=>.bool
 | .string=>.str
 | .slice e=>.sl e
 | .struct fs=>.st (fs.toList.map fun f=>(f.offset,f.type))
 | .array n e=>.arr n e
 | .map k e=>.mp k e
 | .pointer e=>.ptr e
 | .interface _=>.ifc
 | _=>.other
def zOf(z:Option Value):Option (List (Option PV)):=match z with | some z=>some (z.cells.toList.map tM) | none=>none
def Rj(P:Program)(n:Nat):Nat->List Field->Bool
 | k,[]=>Nat.beq k n
 | k,f::fs=>f.name != "_" && Nat.beq f.offset k&&(match P.underlying f.type with | some (.int _)=>true | _=>false)&&Rj P n (k+1) fs
def Ig(P:Program):Nat->List Field->Option Nat
 | _,[]=>some 0
 | k,f::fs=>match f.name != "_" && Nat.beq f.offset k,P.underlying f.type,Ig P (k+1) fs with
  | true,some (.int _),some c=>some (1+4*c)
  | true,some .string,some c=>some (2+4*c)
  | true,some .bool,some c=>some (3+4*c)
  | _,_,_=>none
def Je(P:Program)(t:TypeId)(n:Nat):Bool:=
 match n with
 | 0=>true
 | n=>match P.underlying t with
  | some (.struct fs)=>!P.stoodInHeld t && !P.eqGuardType P.depth t&&Rj P n 0 fs.toList
  | some (.array m e)=>Nat.beq m n && !P.eqGuardType P.depth t&&(match P.underlying e with | some (.int _)=>true | _=>false)&&Nat.beq (P.cellsOf e) 1
  | _=>false
def Lr(P:Program)(t:TypeId)(n:Nat):Bool:=
 match n with
 | 0=>true
 | n=>match P.underlying t with
  | some (.struct fs)=>!P.stoodInHeld t && !P.eqGuardType P.depth t&&(match Ig P 0 fs.toList with | some c=>Nat.beq c n | none=>false)
  | _=>false
theorem Ut{P:Program}{n d:Nat}:∀ {fs:List Field} {k:Nat},Rj P n k fs=true->∀ (xs ys:List Int) (w:World),xs.length=n->ys.length=n ->
  (Op.eqFields (d+1) (xs.map (Value.int .i64)).toArray (ys.map (Value.int .i64)).toArray fs).run P w = .ok (xs.drop k==ys.drop k) w
 | [],k,h,xs,ys,w,hx,hy=>by simp only[Rj]at h;have:=cJ h;simp[Op.eqFields,List.drop_of_length_le (show xs.length<=k by omega),List.drop_of_length_le (show ys.length<=k by omega)]
 | f::fs,k,h,xs,ys,w,hx,hy=>by
  simp only[Rj,cP,bne_iff_ne]at h;obtain⟨⟨⟨h1,h2⟩,h3⟩,h4⟩:=h;have h2:=cJ h2;split at h3
  ·rename_i kk hu;have hk:k<n:=by
    rcases Nat.lt_or_ge k n with hlt | hge
    ·exact hlt
    ·exfalso;have:∀ (fs:List Field) (j:Nat),Rj P n j fs=true->j<=n:=by
      intro fs
      induction fs with
      | nil=>intro j hj; exact Nat.le_of_eq (cJ hj)
      | cons f fs ih=>intro j hj; simp only[Rj,cP]at hj; have:=ih _ hj.2; omega
     have:=this _ _ h4; omega
   have hpart:∀ zs:List Int,zs.length=n->(part f.type (zs.map (Value.int .i64)).toArray f.offset).run P w = .ok (.int .i64 (zs.getD k 0)) w:=by intro zs hz;simp[part,isAgg,run_underlying hu,h2,show zs[k]? = some zs[k] from gJ (by omega)]
   simp only[Op.eqFields,aA h1,Sem.run_bind,hpart xs hx,hpart ys hy,Result.andThen_ok,run_equalIn_int w d f.type _ kk _ _ hu];have ex:xs.drop k=xs.getD k 0::xs.drop (k+1):=by rw[tY (by omega)]; simp[show k<xs.length by omega]
   have ey:ys.drop k=ys.getD k 0::ys.drop (k+1):=by rw[tY (by omega)]; simp[show k<ys.length by omega]
   rw[ex,ey,List.cons_beq_cons];cases hb:xs.getD k 0==ys.getD k 0
   ·simp
   ·simp[Ut h4 xs ys w hx hy]
  ·cases h3
theorem tT{P:Program}{d:Nat}:∀ {fs:List Field} {k c:Nat},Ig P k fs=some c->∀ (l r:List T) (b:Bool) (w:World),k<=l.length->k<=r.length->gC (l.drop k) (r.drop k)=some b->mF (l.drop k)=c ->
  (Op.eqFields (d+1) (l.map uX).toArray (r.map uX).toArray fs).run P w = .ok b w
 | [],k,c,h,l,r,b,w,hl0,hr0,hb,hc=>by
  simp only[Ig,gO]at h;subst h;have hl:l.drop k=[]:=by
   cases hd:l.drop k with
   | nil=>rfl
   | cons x q=>rw[hd]at hb hc;cases x <;> simp only[mF]at hc <;> first | omega | (cases hr:r.drop k <;> rw[hr]at hb <;> simp[gC]at hb)
  rw[hl]at hb;cases hr:r.drop k with
  | nil=>rw[hr]at hb; simp only[gC,gO]at hb; subst hb; simp[Op.eqFields]
  | cons y q=>rw[hr]at hb; simp[gC]at hb
 | f::fs,k,c,h,l,r,b,w,hl0,hr0,hb,hc=>by
  simp only[Ig]at h;have part1:∀ (z:List T) (x:T) (q:List T),z.drop k=x::q->f.offset=k->(isAgg f.type).run P w = .ok false w->(part f.type (z.map uX).toArray f.offset).run P w = .ok (uX x) w:=by
   intro z x q hz ho hu;have hk:z[k]? = some x:=by have:=congrArg (·[0]?) hz;simpa using this
   simp[part,hu,ho,hk]
  have next:∀ (z:List T) (x:T) (q:List T),z.drop k=x::q->q=z.drop (k+1)/\k+1<=z.length:=by intro z x q hz;have h1:=congrArg List.tail hz;simp only[List.tail_drop,List.tail_cons]at h1;have h2:=congrArg List.length hz;simp only[fI,qZ]at h2;exact⟨h1.symm,by omega⟩
  split at h
  ·rename_i kk c' h1 hu h2;simp only[cP,bne_iff_ne]at h1;have ho:=cJ h1.2;cases h;cases hdl:l.drop k with
   | nil=>rw[hdl]at hc; simp only[mF]at hc; omega
   | cons x q=>
    cases hdr:r.drop k with
    | nil=>rw[hdl,hdr]at hb; cases x <;> simp[gC]at hb
    | cons y s=>
     rw[hdl,hdr]at hb;rw[hdl]at hc;obtain⟨eq,el⟩:=next l x q hdl;obtain⟨er,el'⟩:=next r y s hdr;cases x <;> cases y <;> simp only[gC,mF]at hb hc <;> first | omega | cases hb | skip
     rename_i k1 a1 k2 a2;split at hb
     ·rename_i hkk;subst hkk;split at hb
      ·rename_i c2 hc2;cases hb;have hrec:=tT (d:=d) h2 l r c2 w el el' (by rw[<-eq,<-er]; exact hc2) (by rw[<-eq]; omega);have p1:=part1 l _ q hdl ho (by simp[isAgg,run_underlying hu]);have p2:=part1 r _ s hdr ho (by simp[isAgg,run_underlying hu]);simp only[Op.eqFields,aA h1.1,Sem.run_bind,p1,p2,Result.andThen_ok,uX,run_equalIn_int w d f.type _ _ _ _ hu];cases hb2:a1==a2
       ·simp
       ·simp[hrec]
      ·cases hb
     ·cases hb
  ·rename_i c' h1 hu h2;simp only[cP,bne_iff_ne]at h1;have ho:=cJ h1.2;cases h;cases hdl:l.drop k with
   | nil=>rw[hdl]at hc; simp only[mF]at hc; omega
   | cons x q=>
    cases hdr:r.drop k with
    | nil=>rw[hdl,hdr]at hb; cases x <;> simp[gC]at hb
    | cons y s=>
     rw[hdl,hdr]at hb;rw[hdl]at hc;obtain⟨eq,el⟩:=next l x q hdl;obtain⟨er,el'⟩:=next r y s hdr;cases x <;> cases y <;> simp only[gC,mF]at hb hc <;> first | omega | cases hb | skip
     rename_i a1 a2;split at hb
     ·rename_i c2 hc2;cases hb;have hrec:=tT (d:=d) h2 l r c2 w el el' (by rw[<-eq,<-er]; exact hc2) (by rw[<-eq]; omega);have p1:=part1 l _ q hdl ho (by simp[isAgg,run_underlying hu]);have p2:=part1 r _ s hdr ho (by simp[isAgg,run_underlying hu]);simp only[Op.eqFields,aA h1.1,Sem.run_bind,p1,p2,Result.andThen_ok,uX,run_equalIn_string w d f.type _ _ hu];cases hb2:a1.toList==a2.toList
      ·simp
      ·simp[hrec]
     ·cases hb
  ·rename_i c' h1 hu h2;simp only[cP,bne_iff_ne]at h1;have ho:=cJ h1.2;cases h;cases hdl:l.drop k with
   | nil=>rw[hdl]at hc; simp only[mF]at hc; omega
   | cons x q=>
    cases hdr:r.drop k with
    | nil=>rw[hdl,hdr]at hb; cases x <;> simp[gC]at hb
    | cons y s=>
     rw[hdl,hdr]at hb;rw[hdl]at hc;obtain⟨eq,el⟩:=next l x q hdl;obtain⟨er,el'⟩:=next r y s hdr;cases x <;> cases y <;> simp only[gC,mF]at hb hc <;> first | omega | cases hb | skip
     rename_i a1 a2;split at hb
     ·rename_i c2 hc2;cases hb;have hrec:=tT (d:=d) h2 l r c2 w el el' (by rw[<-eq,<-er]; exact hc2) (by rw[<-eq]; omega);have p1:=part1 l _ q hdl ho (by simp[isAgg,run_underlying hu]);have p2:=part1 r _ s hdr ho (by simp[isAgg,run_underlying hu]);simp only[Op.eqFields,aA h1.1,Sem.run_bind,p1,p2,Result.andThen_ok,uX,run_equalIn_bool' w d f.type _ _ hu];cases hb2:a1==a2
      ·simp
      ·simp[hrec]
     ·cases hb
  ·cases h
theorem nD{P:Program}{t:TypeId}{k:IntKind}(hu:P.underlying t=some (.int k))(zs:List Int)(j:Nat)(hj:j<zs.length)(w:World):
  (part t (zs.map (Value.int .i64)).toArray j).run P w = .ok (.int .i64 (zs.getD j 0)) w:=by
 simp[part,isAgg,run_underlying hu,show zs[j]? = some zs[j] from gJ hj]
theorem zV{P:Program}{e:TypeId}{k:IntKind}(hu:P.underlying e=some (.int k)){d n:Nat}(xs ys:List Int)(w:World)(hx:xs.length=n)(hy:ys.length=n):∀ is:List Nat,(∀ i,i∈is->i<n) ->
  (Op.eqItems (d+1) e 1 (xs.map (Value.int .i64)).toArray (ys.map (Value.int .i64)).toArray is).run P w = .ok (is.all fun i=>xs.getD i 0==ys.getD i 0) w
 | [],_=>by simp[Op.eqItems]
 | i::is,h=>by
  have hi:=h i (by simp);simp only[Op.eqItems,Nat.mul_one,Sem.run_bind,nD hu xs i (by omega),nD hu ys i (by omega),Result.andThen_ok,run_equalIn_int w d e _ k _ _ hu];cases hb:xs.getD i 0==ys.getD i 0
  ·simp only[lP,bU,Sem.run_pure,List.all_cons,hb,Bool.false_and]
  ·simp only[iP,cK,bY,List.all_cons,hb,Ec];exact zV hu xs ys w hx hy is (fun j hj=>h j (cV _ hj))
theorem aWJ(xs ys:List Int)(hx:xs.length=n)(hy:ys.length=n):((List.range n).all fun i=>xs.getD i 0==ys.getD i 0)=(xs==ys):=by
 rw[kV];simp only[dQ,sF,qM];constructor
 ·intro h;apply List.ext_getElem (by omega);intro i h1 h2;have:=h i (by omega);simpa[cI,h1,h2] using this
 ·rintro rfl i _; rfl
theorem qP{P:Program}{w:World}{α:Type}(f:α->PUnit->Sem (ForInStep PUnit)):∀ l:List α,(∀ x,x∈l->∀ u,(f x u).run P w = .ok (.yield ⟨⟩) w)->(forIn l (⟨⟩:PUnit) f).run P w = .ok ⟨⟩ w
 | [],_=>by simp
 | x::l,h=>by rw[List.forIn_cons,Sem.run_bind,h x (by simp)];simp only[Result.andThen_ok];exact qP f l (fun y hy=>h y (cV _ hy))
def aDV(P:Program)(t:TypeId)(u:U):Bool:=
 match u with
 | .bool=>match P.info? t with
  | some info=>match info.zero with
   | some (.bool false)=>true
   | _=>false
  | none=>false
 | _=>true
theorem bAK{P:Program}{t:TypeId}{u:U}(h:aDV P t u=true):u = .bool->∃ info,P.info? t=some info/\info.zero=some (.bool false):=by
 rintro rfl;unfold aDV at h;simp only at h;split at h
 ·rename_i info hi;split at h
  ·rename_i hz; exact⟨info,hi,hz⟩
  ·cases h
 ·cases h
theorem aGI{P:Program}{t:TypeId}(h:Je P t i.eqn=true)(hu:UR P t i.und):aRD P t i:=by
 intro m e hm hn em xs w hx;rw[hm]at hu;simp only[UR]at hu;unfold Je at h;split at h
 ·rename_i h0; exact absurd h0 hn
 ·rw[hu]at h;simp only[cP]at h;obtain⟨⟨⟨h1,_⟩,h3⟩,h4⟩:=h;have h1:=cJ h1;have h4:=cJ h4;split at h3
  ·rename_i k hk;obtain⟨info,hi⟩:=info_of_underlying hk;rw[show (10000:Nat)=9998+1+1 from rfl];generalize 9998=dd;rw[sI,Instr.checkKey];simp only[Sem.run_bind,run_underlying hu,Result.andThen_ok];simp only[Std.Legacy.Range.forIn_eq_forIn_range',Std.Legacy.Range.size,Nat.sub_zero,Nat.add_one_sub_one,Nat.div_one];rw[qP _ (List.range' 0 m)]
   ·simp
   intro j hj u;have hj':j<xs.length:=by simp[List.mem_range']at hj; omega
   simp only[Sem.run_bind,Go.run_sizeOf w hi,Result.andThen_ok,h4,Nat.mul_one,nD hk xs j hj'];simp[Instr.checkKey,run_underlying hk]
  ·cases h3
theorem aPK{P:Program}{t:TypeId}(h:Je P t n=true):aZA P t n:=by
 intro hn;unfold Je at h;split at h
 ·exact absurd rfl hn
 ·split at h
  ·rename_i fs hu;simp only[cP,lU]at h;refine⟨h.1.2,fun xs ys w hx hy=>?_⟩;have hf:P.fieldsOf t=fs:=by simp[Program.fieldsOf,hu]
   rw[show (10000:Nat)=9999+1 from rfl,run_equalIn_agg w 9999 t _ _ (by rw[hf]; exact hu) h.1.1,hf];rw[show (9999:Nat)=9998+1 from rfl,Ut h.2 xs ys w hx hy];simp
  ·rename_i m e hu;simp only[cP,lU]at h;obtain⟨⟨⟨h1,h2⟩,h3⟩,h4⟩:=h;have h1:=cJ h1;have h4:=cJ h4;refine⟨h2,fun xs ys w hx hy=>?_⟩;split at h3
   ·rename_i k hk;obtain⟨info,hi⟩:=info_of_underlying hk;rw[show (10000:Nat)=9999+1 from rfl,run_equalIn_array w 9999 _ _ hu hi,h4,show (9999:Nat)=9998+1 from rfl,h1,zV hk xs ys w hx hy _ (fun i hi=>sF.1 hi),aWJ xs ys hx hy]
   ·cases h3
  ·cases h
theorem aGH{P:Program}{t:TypeId}(h:Lr P t n=true):aRG P t n:=by
 intro hn;unfold Lr at h;split at h
 ·exact absurd rfl hn
 ·split at h
  ·rename_i fs hu;simp only[cP,lU]at h;obtain⟨⟨h1,h2⟩,h3⟩:=h;split at h3
   ·rename_i c hc;have h3:=cJ h3;refine⟨h2,fun l r b w hl hlen=>?_⟩;have hf:P.fieldsOf t=fs:=by simp[Program.fieldsOf,hu]
    rw[show (10000:Nat)=9999+1 from rfl,run_equalIn_agg w 9999 t _ _ (by rw[hf]; exact hu) h1,hf];rw[show (9999:Nat)=9998+1 from rfl,tT hc l r b w (Ar _) (Ar _) hl (by rw[h3]; exact hlen)]
   ·cases h3
  ·cases h
theorem bB{P:Program}{t:TypeId}(h1:(P.info? t).map (fun x=>(x.size,x.bytes,zOf x.zero))=some (i.size,i.bytes,some (i.zero.map some)))
  (h2:(P.underlying t).map aZZ=some i.und)(h34:(Je P t i.eqn&&Lr P t i.eqf&&aDV P t i.und)=true):TOk P t i where
 zb:=bAK (by simp only[cP]at h34; exact h34.2)
 eqv:=aPK (by simp only[cP]at h34; exact h34.1.1)
 eqf:=aGH (by simp only[cP]at h34; exact h34.1.2)
 keyv:=aGI (by simp only[cP]at h34; exact h34.1.1) (by
  cases hu:P.underlying t with
  | none=>rw[hu]at h2; cases h2
  | some d=>rw[hu]at h2;simp only[qJ,gO]at h2;rw[<-h2];cases d <;> first | exact hu | exact⟨_,hu,rfl⟩ | exact⟨_,hu⟩)
 info:=by
  cases hi:P.info? t with
  | none=>rw[hi]at h1; cases h1
  | some info=>
   rw[hi]at h1;simp only[qJ,gO,gQ]at h1;obtain⟨a,b,c⟩:=h1;unfold zOf at c;split at c
   ·rename_i z hz; exact⟨info,rfl,a,b,z,hz,by injection c⟩
   ·cases c
 und:=by
  cases hu:P.underlying t with
  | none=>rw[hu]at h2; cases h2
  | some d=>rw[hu]at h2;simp only[qJ,gO]at h2;rw[<-h2];cases d <;> first | exact hu | exact⟨_,hu,rfl⟩ | exact⟨_,hu⟩
theorem aID{P:Program}:∀ e,e∈([]:List (Nat×eG))->TOk P e.1 e.2:=by simp
theorem aM{P:Program}{l:List (Nat×eG)}(h:TOk P t i)(hl:∀ e,e∈l->TOk P e.1 e.2):∀ e,e∈(t,i)::l->TOk P e.1 e.2:=by
 intro e he;rcases aX.1 he with rfl | he
 ·exact h
 ·exact hl e he
theorem aQX{P:Program}{l:List (Nat×eG)}(h:∀ e,e∈l->TOk P e.1 e.2):kL P (bK l):=fun t i hi=>h (t,i) (aU hi)
theorem bL{P:Program}(h:P.funcs[k]? = some fn)(h2:(fn.body.isNone,fn.name == "runtime.NumGoroutine")=(false,false)):fQ P k:=
 ⟨fn,h,congrArg Prod.fst h2,congrArg Prod.snd h2⟩
def Ret(x:PV):PV->Hp->Prop:=fun r _=>r=x
section
variable {P:Program} {E:Env} {I:Inf} {Q:gL} {st:St}
end
theorem aEJ{x:T}{f:Nat->List T}(h:x.view=some (0,f)):∀ F g w v,VR F g w .nil v->VR F g w (.t x) v:=by intro F g w v hv; cases hv; exact .t (.nil h)
theorem sE{n':Nat}{f f':Nat->List T}{x:T}(hx:x.view=some (n',f'))(hn:n'=n)(hf:∀ i,i<n->f i=f' i):
  ∀ F g w v,VR F g w (.t (.sl n f)) v->VR F g w (.t x) v:=by
 intro F g w v hv;subst hn;cases hv with
 | t r=>
  cases r with
  | nil h=>
   have:n'=0:=by simp[T.view]at h; exact h.1
   subst this;exact .t (.nil hx)
  | sl a cap size vs h hc hF hs hc' hr=>simp only[T.view,gO,gQ]at h;obtain⟨rfl,rfl⟩:=h;exact .t (.sl a cap size vs hx hc hF (fun i hi=>by rw[<-hf i hi]; exact hs i hi) hc' fun i j y hi hy=>hr i j y hi (by rw[hf i hi]; exact hy))
theorem Am[Inhabited α]{c:α->List T}{xs:List α}{l h:Int}{x:T}(hc:0<=l/\l<=h/\h<=(xs.length:Int))
  (hx:x.view=some (((xs.drop l.toNat).take (h-l).toNat).length,eF c ((xs.drop l.toNat).take (h-l).toNat))):
  ∀ F g w v,VR F g w (.t (.sl (h-l).toNat fun k=>eF c xs (l.toNat+k))) v->VR F g w (.t x) v:=by
 refine sE hx (by simp; omega) fun i hi=>?_;simp only[eF,cI,iR,iD,aA hi]
inductive jE:List PV->List T->Prop
 | nil:jE [] []
 | same {x:T} {l:List PV} {r:List T} (h:jE l r):jE (.t x::l) (x::r)
 | empty {x:T} {f:Nat->List T} {l:List PV} {r:List T} (hx:x.view=some (0,f)) (h:jE l r):jE (.nil::l) (x::r)
 | imp {p:PV} {x:T} {l:List PV} {r:List T} (hp:∀ F g w v,VR F g w p v->VR F g w (.t x) v) (h:jE l r):jE (p::l) (x::r)
theorem jE.get{l:List PV}{r:List T}(h:jE l r):r.length=l.length/\∀ (j:Nat) p x,l[j]? = some p->r[j]? = some x->∀ F g w v,VR F g w p v->VR F g w (.t x) v:=by
 induction h with
 | nil=>simp
 | same _ ih=>
  refine⟨by simp[ih.1],fun j p x hp hx=>?_⟩;cases j with
  | zero=>simp at hp hx; subst hp; subst hx; exact fun _ _ _ _ h=>h
  | succ j=>exact ih.2 j p x (by simpa using hp) (by simpa using hx)
 | empty hv _ ih=>
  refine⟨by simp[ih.1],fun j p x hp hx=>?_⟩;cases j with
  | zero=>simp at hp hx; subst hp; subst hx; exact aEJ hv
  | succ j=>exact ih.2 j p x (by simpa using hp) (by simpa using hx)
 | imp hv _ ih=>
  refine⟨by simp[ih.1],fun j p x hp hx=>?_⟩;cases j with
  | zero=>simp at hp hx; subst hp; subst hx; exact hv
  | succ j=>exact ih.2 j p x (by simpa using hp) (by simpa using hx)
theorem Ae{l:List PV}{r:List T}(h:jE l r):∀ F g w v,VR F g w (.agg l) v->VR F g w (.t (.agg r)) v:=by
 intro F g w v hv;cases hv with
 | @agg _ vs hs hr=>
  refine .t (.agg (by rw[hs,h.get.1]) fun j x u hx hu=>?_);have hj:j<l.length:=by rw[<-h.get.1]; exact(eK.1 hx).1
  exact(h.get.2 j l[j] x (by simp[hj]) hx _ _ _ _ (hr j l[j] u (by simp[hj]) hu)).cells_t rfl
theorem aTO{F:Nat->Prop}{g:Nat->Value}{w:World}{l:List PV}{r:List T}(h:jE l r)(hb:dD F g w o (.box l)):dD F g w o (.box (r.map PV.t)):=by
 obtain⟨b,vs,ty,h1,h2,h3,h4⟩:=hb;refine⟨b,vs,ty,h1,h2,by simp[h3,h.get.1],fun j x v hx hv=>?_⟩;simp only[fD,gB]at hx;obtain⟨y,hy,rfl⟩:=hx;have hj:j<l.length:=by rw[<-h.get.1]; exact(eK.1 hy).1
 exact h.get.2 j l[j] y (by simp[hj]) hy _ _ _ _ (h4 j l[j] v (by simp[hj]) hv)
theorem Uz[Inhabited α](c:α->List T)(xs ys:List α):∀ i,i<xs.length+ys.length->pD xs.length (eF c xs) (eF c ys) i=eF c (xs++ys) i:=by
 intro i hi;unfold pD eF;split
 ·rename_i h; simp[eT h]
 ·rename_i h; simp[eH (Nat.le_of_not_lt h)]
section
variable {P:Program} {E:Env} {I:Inf} {Q:gL} {st:St}
theorem Xp{ops:List Oper}(hl:bK st.fr t=some (.t (.bool b)))(h1:b=true->fR P E ops Q l { st with fr:=(t,.t (.bool true))::del t st.fr })
  (h0:b=false->fR P E ops Q l { st with fr:=(t,.t (.bool false))::del t st.fr }):fR P E ops Q l st:=by
 cases hb:b with
 | true=>subst hb; exact iK (fun _ _=>Rel.slot hl (fun _ _ _ _ h=>h)) (h1 rfl)
 | false=>subst hb; exact iK (fun _ _=>Rel.slot hl (fun _ _ _ _ h=>h)) (h0 rfl)
end
def iC{α:Type}(l:List (Nat×α)):List Nat->List (Nat×α)
 | []=>[]
 | t::ts=>match bK l t with | some x=>(t,x)::iC l ts | none=>iC l ts
theorem sY{α:Type}{l:List (Nat×α)}:∀ {ts:List Nat} e,e∈iC l ts->e∈l
 | [],e,h=>by simp[iC]at h
 | t::ts,e,h=>by
  simp only[iC]at h;split at h
  ·rename_i x hx;rcases aX.1 h with rfl | h
   ·exact aU hx
   ·exact sY e h
  ·exact sY e h
def jG(o:Oper):List Nat:=(o.after.toList.filter (Region.binds .any)).map (·.on)
def eR:List Bool->Nat->Bool->Bool
 | [],_,d=>d
 | b::_,0,_=>b
 | _::l,i+1,d=>eR l i d
theorem eV(l:List Bool)(i:Nat)(d:Bool):eR l i d=l.getD i d:=by
 induction l generalizing i with
 | nil=>simp[eR]
 | cons b l ih=>cases i <;> simp[eR,ih]
def pW:List Bool->Nat->List Bool
 | [],_=>[]
 | _::l,0=>true::l
 | b::l,i+1=>b::pW l i
theorem kI(l:List Bool)(i:Nat):pW l i=l.set i true:=by
 induction l generalizing i with
 | nil=>simp[pW]
 | cons b l ih=>cases i <;> simp[pW,ih]
def My(ops:List Oper)(m:List Bool)(i:Nat):Bool:=
 match eR m i true with
 | true=>false
 | false=>match ops[i]? with
  | none=>false
  | some o=>(jG o).all fun j=>eR m j false
inductive xM:List (Nat×(Bool×Bool))->Prop
 | nil:xM []
 | cons {i:Nat} {b v:Bool} {l:List (Nat×(Bool×Bool))} (h:b=v) (t:xM l):xM ((i,b,v)::l)
theorem xM.mem{l:List (Nat×(Bool×Bool))}(h:xM l):∀ e,e∈l->e.2.1=e.2.2:=by
 induction h with
 | nil=>simp
 | cons h _ ih=>
  intro e he;rcases aX.1 he with rfl | he
  ·exact h
  ·exact ih e he
inductive qO:List (Nat×List Prop)->Prop
 | nil:qO []
 | cons {i:Nat} {C:List Prop} {l:List (Nat×List Prop)} (h:All C) (t:qO l):qO ((i,C)::l)
theorem qO.mem{l:List (Nat×List Prop)}(h:qO l):∀ e,e∈l->All e.2:=by
 induction h with
 | nil=>simp
 | cons h _ ih=>
  intro e he;rcases aX.1 he with rfl | he
  ·exact h
  ·exact ih e he
section
variable {P:Program} {E:Env} {I:Inf} {Q:gL} {st st':St}
theorem yL{ops:List Oper}{m:List Bool}{i:Nat}(h:i∈Region.ready .any ops.toArray m.toArray):My ops m i=true/\i<ops.length:=by
 obtain⟨h1,o,ho,h2⟩:=mem_ready.1 h;have ho':ops[i]? = some o:=by simpa using ho
 refine⟨?_,(eK.1 ho').1⟩;unfold My;have h1':eR m i true=false:=by rw[eV]; simpa[Dh,cI] using h1
 rw[h1',ho'];simp only[jG,List.all_map,dQ,uD,Function.comp];rintro e ⟨he1,he2⟩;have:=h2 e (by simpa using he1) he2;rw[eV];simpa[Dh,cI] using this
theorem Rel.same{w:World}(r:Rel E st a w)(hh:w'.heap=w.heap)(ho:w'.os=w.os)(ht:w'.tape=w.tape)(hu:w'.output=w.output):Rel E st a w':=by
 obtain⟨F,g,r⟩:=r;have hb:∀ b:Nat,w'.heap[b]? = w.heap[b]?:=fun b=>by rw[hh]
 have hf:∀ {o x b},bG g w' o x b->bG g w o x b:=fun h=>h.mono rfl (fun _ _=>rfl) (fun c _=>hb c);refine⟨F,g,r.nt,r.df.mono (fun b h=>⟨h,hb b⟩),fun t x hx=>(r.fr t x hx).mono (fun b h=>⟨h,hb b⟩) (fun _ _=>rfl),⟨⟨fun o x hx=>?_,fun o x b hx h=>r.w.hp.own o x b hx (hf h),fun o x o' y b hx hy hne h h'=>r.w.hp.sep o x o' y b hx hy hne (hf h) (hf h')⟩,r.w.f0,fun b h=>?_,?_,r.w.names,r.w.b0⟩⟩
 ·exact(r.w.hp.obj o x hx).mono (fun b h=>⟨h,hb b⟩) rfl (fun _ _=>rfl) (fun b _=>hb b)
 ·rw[hh]; exact r.w.f1 b h
 ·exact r.w.ext.trans ho ht hu (by rw[hh]; exact fK _) (fun b _ _=>hb b)
theorem Rel.drew{w:World}(r:Rel E st a w):Rel E st a { w with drawn:=w.drawn+1 }:=r.same rfl rfl rfl rfl
end
def inN:Nat->List Nat->Bool
 | _,[]=>false
 | o,k::l=>match Nat.beq o k with | true=>true | false=>inN o l
theorem dE{o:Nat}:∀ {l:List Nat},inN o l=true↔o∈l
 | []=>by simp[inN]
 | k::l=>by
  simp only[inN];split
  ·rename_i h; simp[cJ h]
  ·rename_i h; rw[dE (l:=l)]; simp[nP h]
def gP(hp:Hp)(L:List Nat):Hp:=hp.filter fun e=>!(inN e.1 L)
theorem dF{hp:Hp}{L:List Nat}{e:Nat×bA}(h:e∈gP hp L):e∈hp/\e.1∉L:=by simp only[gP,uD,lU]at h;exact⟨h.1,fun hm=>by rw[dE.2 hm]at h; cases h.2⟩
def sV(ns l:List Nat):Bool:=ns.all fun o=>!(inN o l)
theorem jI{ns l:List Nat}(h:sV ns l=true):∀ o,o∈ns->o∉l:=by intro o ho hm;have:=dQ.1 h o ho;rw[dE.2 hm]at this; cases this
def Wj(ns l:List Nat):Bool:=ns.all fun o=>inN o l
theorem nU{ns l:List Nat}(h:Wj ns l=true):∀ o,o∈ns->o∈l:=fun o ho=>dE.1 (dQ.1 h o ho)
def jC(st:St)(L N nw:List Nat):Bool:=(st.fr.all fun e=>sV e.2.names nw)&&((gP st.hp L).all fun e=>(!(inN e.1 nw))&&sV e.2.names nw)&&sV N nw
def jP(r:PV)(H:Hp)(l:List Nat):Bool:=Wj r.names l&&H.all fun e=>inN e.1 l&&Wj e.2.names l
section
variable {P:Program} {E:Env} {I:Inf} {Q:gL} {st:St}
theorem tN(hG:fF P E I){ops:List Oper}{o:Oper}{c:Call}{k:Nat}{caps aps bps:List PV}{Qc:PV->Hp->Prop}{Hs:Hp}(L N nw:List Nat)
  (hop:o.op = .call c)(hcal:c.callee = .value f)(hd:o.dst=some d)(hw:cQ ops o st=some true)(hnt:Nat.blt d I.nt=true)
  (hf:ev st f=some (.fn (.func k) nf caps))(hargs:hU st c.args.toList=some aps)(hk:fQ P k)(has:jT st [] (caps.take nf++aps++caps.drop nf) bps)
  (hpick:iO st.hp L=some Hs)(hfresh:jC st L I.N nw=true)(hcall:fV P k bps Hs N Qc)
  {w:World}(r:Rel E st a w)
  (hres:∀ r H',Qc r H'->jP r H' (N++nw)=true/\∀ a' w',Rel E (({ fr:=st.fr,hp:=H'++gP st.hp L }:St).put d r) a' w'->K a' w'):
  if Region.wanted o (yielded ops.toArray a.tmps) then o.wp P a w K Q' else K (a.put o.dst undef) w:=by
 obtain⟨F,g,r⟩:=r;have hwt:=fU (ops:=ops.toArray) r (by simpa using hw);obtain⟨hl1,hr1⟩:=oC r _ _ hargs;have hfv:=bW r hf;obtain⟨fv,hfe⟩:∃ u,a.eval f=u:=⟨_,rfl⟩;rw[hfe]at hfv;have hHs:=jS hpick;cases hfv with
 | @fn _ _ _ us vs hn hs hr=>
  subst hn;rw[aA hwt];unfold Oper.wp;have hrun:(execOp a.eval o).run P w = .ok (.enter k (us++(c.args.map a.eval)++vs)) w:=by unfold execOp;simp[hop,resolve,hcal,hfe,Deferred.ofValue,invoke,oQ hk]
  rw[hrun];have hcallW:=hcall F g w (us++c.args.map a.eval++vs) (by
    have:=has.get.1;simp only[cZ,dM,fI]at this;have h2:c.args.size=aps.length:=by simpa using hl1.symm
    simp only[jO]at hs;simp only[jO,Array.size_map]; omega) (fun j q v hq hv=>by
    obtain⟨p,hp,hpq⟩:=has.get.2 j q hq;have hpv:VR F g w p v:=by
     have h2:c.args.size=aps.length:=by simpa using hl1.symm
     have hus:us.size<=caps.length:=by simp at hs; omega
     have htk:(caps.take us.size).length=us.size:=by simp; omega
     by_cases hi:j<us.size
     ·rw[gX,eT (by omega),Cc hi]at hp;rw[sH,kO hi]at hv;exact hr j p v hp (by rw[kO hi]; exact hv)
     rw[gX,eH (by omega),htk]at hp;rw[sH,qS (by omega)]at hv;by_cases hj:j-us.size<aps.length
     ·rw[eT hj]at hp;rw[kO (by simp; omega)]at hv;exact hr1 _ p v hp (by simpa using hv)
     ·rw[eH (by omega),iD]at hp;rw[qS (by simp; omega)]at hv;refine hr (us.size+(j-us.size-aps.length)) p v hp ?_;rw[qS (by omega)];simpa[h2] using hv
    cases hpq with
    | same=>exact hpv
    | nil hx=>cases hpv; exact .t (.nil hx)
    | imp h=>exact h _ _ _ _ hpv
    | lend ho=>simp at ho
    | lendA ho=>simp at ho)
   ⟨fun o x hx=>r.w.hp.obj o x (hHs _ hx).1,fun o x b hx hb=>⟨(r.w.hp.own o x b (hHs _ hx).1 hb).1,trivial⟩,
    fun o x o' y b hx hy=>r.w.hp.sep o x o' y b (hHs _ hx).1 (hHs _ hy).1⟩ (fun b hb=>(r.w.f1 b hb).1) (hG.glw r.w)
  simp only[Oper.upon];refine hcallW.mono ?_;rintro e w' ⟨v,res,H',F',g',rfl,hQ,hv,hW⟩;obtain⟨hback,hgo⟩:=hres res H' hQ;refine hgo _ _ ?_;rw[hd];have hext:=hW.ext;simp only[jC,cP,dQ,lU]at hfresh;obtain⟨⟨hfr,hrest⟩,hN⟩:=hfresh;simp only[jP,cP,dQ]at hback;obtain⟨hbr,hbH⟩:=hback;let g2:Nat->Value:=fun o=>if inN o nw=true then g' o else g o
  have hold:∀ o,o∉nw->g2 o=g o:=fun o ho=>aF (fun h=>ho (dE.1 h));have hnew:∀ o,o∈N++nw->g2 o=g' o:=by
   intro o ho;show (if inN o nw=true then g' o else g o)=g' o;split
   ·rfl
   ·rename_i h;rcases dZ.1 ho with ho | ho
    ·exact(hW.names o ho).symm
    ·exact absurd (dE.2 ho) h
  have hown:∀ b,Own g w Hs b->b<w.heap.size/\¬ F b:=by rintro b ⟨o,x,hx,hb⟩;exact⟨hb.block (r.w.hp.obj o x (hHs _ hx).1),(r.w.hp.own o x b (hHs _ hx).1 hb).1⟩
  have hblk:∀ b,b<w.heap.size->¬ Own g w Hs b->w'.heap[b]? = w.heap[b]?:=fun b hb hB=>hext.block b hb hB;have hFF:∀ b,F b->F' b/\w'.heap[b]? = w.heap[b]?:=fun b hb=>⟨hW.f0 b hb,hblk b (r.w.f1 b hb).1 (fun h=>(hown b h).2 hb)⟩;have hnotown:∀ o x b,(o,x)∈gP st.hp L->bG g w o x b->¬ Own g w Hs b:=by rintro o x b hx hb ⟨o',x',hx',hb'⟩;obtain⟨h1,h2⟩:=dF hx;exact r.w.hp.sep o x o' x' b h1 (hHs _ hx').1 (fun e=>h2 (e▸(hHs _ hx').2)) hb hb'
  have hrn:∀ o x,(o,x)∈gP st.hp L->o∉nw:=fun o x hx hm=>by have:=(hrest _ hx).1;rw[dE.2 hm]at this; cases this
  have hd':d<E.nt:=by rw[hG.nt]; simpa[fE] using hnt
  have ftH:∀ o x b,(o,x)∈H'->bG g2 w' o x b->bG g' w' o x b:=fun o x b hx hb=>by have hh:=hbH _ hx;exact hb.mono (hnew o (dE.1 hh.1)) (fun o' ho'=>hnew o' (nU hh.2 o' ho')) (fun _ _=>rfl)
  have ftR:∀ o x b,(o,x)∈gP st.hp L->bG g2 w' o x b->bG g w o x b:=fun o x b hx hb=>
   hb.mono (hold o (hrn o x hx)) (fun o' ho'=>hold o' (jI (hrest _ hx).2 o' ho'))
    (fun c hc=>hblk c ((r.w.hp.obj o x (dF hx).1).block hc) (hnotown o x c hx (.self hc)))
  refine⟨F',g2,r.putW (st':={ fr:=st.fr,hp:=H'++gP st.hp L }) hd' hFF (fun t y hy=>⟨hy,fun o ho=>hold o (jI (hfr _ hy) o ho)⟩) ?_
   (hv.mono (fun b hb=>⟨hb,rfl⟩) (fun o ho=>hnew o (nU hbr o ho)))⟩
  refine⟨⟨fun o x hx=>?_,fun o x b hx hb=>?_,fun o x o' y b hx hy hne hb hb'=>?_⟩,fun b hb=>(hFF b (r.w.f0 b hb)).1,fun b hb=>⟨(hW.f1 b hb).1,?_⟩,?_,fun o ho=>?_,r.w.b0⟩
  ·rcases dZ.1 hx with hx | hx
   ·have hh:=hbH _ hx;exact(hW.hp.obj o x hx).mono (fun b hb=>⟨hb,rfl⟩) (hnew o (dE.1 hh.1)) (fun o' ho'=>hnew o' (nU hh.2 o' ho')) (fun _ _=>rfl)
   ·exact(r.w.hp.obj o x (dF hx).1).mono hFF (hold o (hrn o x hx)) (fun o' ho'=>hold o' (jI (hrest _ hx).2 o' ho'))
     (fun b hb=>hblk b (hb.block (r.w.hp.obj o x (dF hx).1)) (hnotown o x b hx hb))
  ·rcases dZ.1 hx with hx | hx
   ·have hb:=ftH o x b hx hb;refine⟨(hW.hp.own o x b hx hb).1,?_⟩;rcases (hW.hp.own o x b hx hb).2 with⟨o',x',hx',hb'⟩ | h
    ·exact(r.w.hp.own o' x' b (hHs _ hx').1 hb').2
    ·exact .inr (gV r.w.ext.size h)
   ·have hb:=ftR o x b hx hb;have hlt:=hb.block (r.w.hp.obj o x (dF hx).1);have hh:=r.w.hp.own o x b (dF hx).1 hb;refine⟨fun hF'=>?_,hh.2⟩;rcases (hW.f1 b hF').2 with h | h | h
    ·exact hh.1 h
    ·exact hnotown o x b hx hb h
    ·exact absurd hlt (Nat.not_lt.2 h)
  ·have key:∀ o x o' y b,(o,x)∈H'->(o',y)∈gP st.hp L->bG g2 w' o x b->bG g2 w' o' y b->False:=by
    intro o x o' y b hx hy hb hb';have hb:=ftH o x b hx hb;have hb':=ftR o' y b hy hb';rcases (hW.hp.own o x b hx hb).2 with h | h
    ·exact hnotown o' y b hy hb' h
    ·exact absurd (hb'.block (r.w.hp.obj o' y (dF hy).1)) (Nat.not_lt.2 h)
   rcases dZ.1 hx with hx | hx
   ·rcases dZ.1 hy with hy | hy
    ·exact hW.hp.sep o x o' y b hx hy hne (ftH o x b hx hb) (ftH o' y b hy hb')
    ·exact key o x o' y b hx hy hb hb'
   ·rcases dZ.1 hy with hy | hy
    ·exact key o' y o x b hy hx hb' hb
    ·exact r.w.hp.sep o x o' y b (dF hx).1 (dF hy).1 hne (ftR o x b hx hb) (ftR o' y b hy hb')
  ·rcases (hW.f1 b hb).2 with h | h | h
   ·exact(r.w.f1 b h).2
   ·obtain⟨o',x',hx',hb'⟩:=h;rcases (r.w.hp.own o' x' b (hHs _ hx').1 hb').2 with h | h
    ·exact .inr (.inl h)
    ·exact .inr (.inr h)
   ·exact .inr (.inr (gV r.w.ext.size h))
  ·refine r.w.ext.trans hext.os hext.tape hext.output hext.size (fun b hb hB=>hblk b (by have:=r.w.ext.size; omega) ?_);rintro⟨o',x',hx',hb'⟩;rcases (r.w.hp.own o' x' b (hHs _ hx').1 hb').2 with h | h
   ·exact hB h
   ·exact absurd hb (Nat.not_lt.2 h)
  ·rw[hold o (fun hm=>jI hN o (by rw[<-hG.N]; exact ho) hm)];exact r.w.names o ho
theorem Oz(hG:fF P E I){ops:List Oper}{o:Oper}{c:Call}{k:Nat}{caps aps bps:List PV}{Qc:PV->Hp->Prop}{Hs:Hp}(L N nw:List Nat)
  (hl:l=o::rest)(hop:o.op = .call c)(hcal:c.callee = .value f)(hd:o.dst=some d)(hw:cQ ops o st=some true)(hnt:Nat.blt d I.nt=true)
  (hf:ev st f=some (.fn (.func k) nf caps))(hargs:hU st c.args.toList=some aps)(hk:fQ P k)(has:jT st [] (caps.take nf++aps++caps.drop nf) bps)
  (hpick:iO st.hp L=some Hs)(hfresh:jC st L I.N nw=true)(hcall:fV P k bps Hs N Qc)
  (hres:∀ r H',Qc r H'->jP r H' (N++nw)=true/\fR P E ops Q rest (({ fr:=st.fr,hp:=H'++gP st.hp L }:St).put d r)):fR P E ops Q l st:=by
 subst hl;intro a w r;refine wpList_step fun K hK=>tN hG L N nw hop hcal hd hw hnt hf hargs hk has hpick hfresh hcall r fun r H' hq=>⟨(hres r H' hq).1,fun a' w' r'=>hK _ _ ((hres r H' hq).2 a' w' r')⟩
end
def pY(p:PV)(H:Hp):PV->Hp->Prop:=fun r H'=>r=p/\H'=H
def rn1(o o' k:Nat):Nat:=match Nat.beq k o with | true=>o' | false=>k
def PV.rn(o o':Nat):PV->PV
 | .ptr k off=>.ptr (rn1 o o' k) off
 | .own k=>.own (rn1 o o' k)
 | .aptr k s i off=>.aptr (rn1 o o' k) s i off
 | .osl k s i off=>.osl (rn1 o o' k) s i off
 | .map k=>.map (rn1 o o' k)
 | .fn f n cs=>.fn f n (go cs)
 | .tup l=>.tup (go l)
 | .agg l=>.agg (go l)
 | p=>p
where go:List PV->List PV
 | []=>[]
 | x::l=>x.rn o o'::go l
theorem xF{o':Nat}{l:List PV}:PV.rn.go o o' l=l.map (PV.rn o o'):=by
 induction l with
 | nil=>rfl
 | cons x l ih=>simp[PV.rn.go,ih]
def aSS(o o':Nat):Option Iter->Option Iter
 | none=>none
 | some i=>some ⟨rn1 o o' i.o,i.rem,i.cur⟩
def bAC(o o':Nat):Option (T×Option PV)->Option (T×Option PV)
 | some (k,some p)=>some (k,some (p.rn o o'))
 | x=>x
def aZW(o o':Nat):Option (Nat×Nat×PV)->Option (Nat×Nat×PV)
 | some (i,j,p)=>some (i,j,p.rn o o')
 | none=>none
def bA.rn(o o':Nat):bA->bA
 | .box l=>.box (PV.rn.go o o' l)
 | .arm e s n f ov=>.arm e s n f (aZW o o' ov)
 | .mp it m ho=>.mp (aSS o o' it) m (bAC o o' ho)
 | x=>x
def aGA(o o':Nat)(st:St):St:=⟨st.fr.map fun e=>(e.1,e.2.rn o o'),st.hp.map fun e=>(rn1 o o' e.1,e.2.rn o o')⟩
def grn(N:List Nat)(o o':Nat)(st:St):Option St:=
 match oR o' N,st.erase o' with
 | true,some st1=>some (aGA o o' st1)
 | _,_=>none
theorem fY(g:Nat->Value)(o o' k:Nat)(h:k≠o'):upd g o' (g o) (rn1 o o' k)=g k:=by
 unfold rn1;split
 ·rename_i hk; rw[bM,cJ hk]
 ·exact bR g _ h
theorem VR.rn{F:Nat->Prop}{g:Nat->Value}{w:World}{o o':Nat}{p:PV}{v:Value}(h:VR F g w p v)(hn:∀ k,k∈p.names->k≠o'):VR F (upd g o' (g o)) w (p.rn o o') v:=by
 induction h with
 | t r=>exact .t r
 | ptr e=>exact .ptr (by rw[fY _ _ _ _ (hn _ (by simp[PV.names]))]; exact e)
 | eptr a hF e=>exact .eptr a hF e
 | own e=>exact .own (by rw[fY _ _ _ _ (hn _ (by simp[PV.names]))]; exact e)
 | aptr e=>exact .aptr (by rw[fY _ _ _ _ (hn _ (by simp[PV.names]))]; exact e)
 | map e=>exact .map (by rw[fY _ _ _ _ (hn _ (by simp[PV.names]))]; exact e)
 | nil=>exact .nil
 | np=>exact .np
 | any h=>exact .any h
 | lit h=>exact .lit h
 | ifx=>exact .ifx
 | osl e=>exact .osl (e.imp id fun⟨b,h1,h2⟩=>⟨b,h1,by rw[fY _ _ _ _ (hn _ (by simp[PV.names]))]; exact h2⟩)
 | fn hfn hs hr ih=>refine .fn hfn (by rw[xF]; simpa using hs) fun j x v hx hv=>?_;rw[xF,fD]at hx;simp only[gB]at hx;obtain⟨y,hy,rfl⟩:=hx;exact ih j y v hy hv fun k hk=>hn k (by simp only[PV.names]; exact PV.names_go_mem hy hk)
 | tup hs hr ih=>refine .tup (by rw[xF]; simpa using hs) fun j x v hx hv=>?_;rw[xF,fD]at hx;simp only[gB]at hx;obtain⟨y,hy,rfl⟩:=hx;exact ih j y v hy hv fun k hk=>hn k (by simp only[PV.names]; exact PV.names_go_mem hy hk)
 | agg hs hr ih=>refine .agg (by rw[xF]; simpa using hs) fun j x v hx hv=>?_;rw[xF,fD]at hx;simp only[gB]at hx;obtain⟨y,hy,rfl⟩:=hx;exact ih j y v hy hv fun k hk=>hn k (by simp only[PV.names]; exact PV.names_go_mem hy hk)
theorem dD.rn{F:Nat->Prop}{g:Nat->Value}{w:World}{o o' k:Nat}{x:bA}(h:dD F g w k x)(hk:k≠o')(hn:∀ k,k∈x.names->k≠o'):dD F (upd g o' (g o)) w (rn1 o o' k) (x.rn o o'):=by
 cases x with
 | box l=>obtain⟨b,vs,ty,h1,h2,h3,h4⟩:=h;refine⟨b,vs,ty,by rw[fY _ _ _ _ hk]; exact h1,h2,by rw[xF]; simpa using h3,fun j x v hx hv=>?_⟩;rw[xF,fD]at hx;simp only[gB]at hx;obtain⟨y,hy,rfl⟩:=hx;exact(h4 j y v hy hv).rn fun k hk=>hn k (by simp only[bA.names]; exact PV.names_go_mem hy hk)
 | arr e s n f=>
  simp only[bA.rn];rcases h with⟨h1,h2⟩ | ⟨b,cap,cur,h1,h⟩
  ·exact .inl ⟨by rw[fY _ _ _ _ hk]; exact h1,h2⟩
  ·exact .inr ⟨b,cap,cur,by rw[fY _ _ _ _ hk]; exact h1,h⟩
 | mpb n m=>obtain⟨b,es,cl,h1,h⟩:=h;exact⟨b,es,cl,by rw[fY _ _ _ _ hk]; exact h1,h⟩
 | bld ty e s=>obtain⟨b,p,v,h1,h⟩:=h;exact⟨b,p,v,by rw[fY _ _ _ _ hk]; exact h1,h⟩
 | arm e s n f ov=>
  simp only[bA.rn];rcases h with⟨h1,h2,h3⟩ | ⟨b,cap,cur,h1,h2,h3,h4,h5,hC⟩
  ·subst h3; exact .inl ⟨by rw[fY _ _ _ _ hk]; exact h1,h2,rfl⟩
  ·refine .inr ⟨b,cap,cur,by rw[fY _ _ _ _ hk]; exact h1,h2,h3,h4,h5,hC.len,hC.cell,hC.sep,hC.own,fun i j p e=>?_⟩;rcases ov with _ | ⟨i',j',p'⟩
   ·cases e
   ·simp only[aZW,gO,gQ]at e;obtain⟨rfl,rfl,rfl⟩:=e;obtain⟨q1,q2,q3⟩:=hC.ov _ _ _ rfl;exact⟨q1,q2,fun v hv=>(q3 v hv).rn fun q hq=>hn q (by simp[bA.names,ovN,hq])⟩
 | mp it m ho=>
  obtain⟨b,es,cl,h1,h2,l,r,hM⟩:=h;refine⟨b,es,cl,by rw[fY _ _ _ _ hk]; exact h1,h2,l,r,hM.perm,hM.ent,?_,?_,hM.born,hM.old,hM.sep,?_⟩
  ·rcases ho with _ | ⟨k',_ | p⟩
   ·exact hM.hole
   ·exact hM.hole
   ·obtain⟨e,e1,e2,e3⟩:=hM.hole;exact⟨e,e1,e2,e3.rn fun q hq=>hn q (by simp[bA.names,hoN,hq])⟩
  ·have:hoK (bAC o o' ho)=hoK ho:=by rcases ho with _ | ⟨k',_ | p⟩ <;> rfl
   rw[this]; exact hM.keys
  ·cases it with
   | none=>exact True.intro
   | some i=>obtain⟨r',since,seen,c0,e1,e⟩:=hM.it;exact⟨r',since,seen,c0,by simp only; rw[fY _ _ _ _ (hn i.o (by simp[bA.names,itN]))]; exact e1,e⟩
theorem bG.rn{g:Nat->Value}{w:World}{o o' k:Nat}{x:bA}{b:Nat}(h:bG (upd g o' (g o)) w (rn1 o o' k) (x.rn o o') b)(hk:k≠o')(hn:∀ k,k∈x.names->k≠o'):bG g w k x b:=by
 have hs:=fY g o o' k hk;cases x with
 | box l=>exact .self (by have:=h.toBlk rfl; rwa [hs]at this)
 | arr e s n f=>exact .self (by have:=h.toBlk rfl; rwa [hs]at this)
 | mpb n m=>exact .self (by have:=h.toBlk rfl; rwa [hs]at this)
 | bld ty e s=>
  simp only[bA.rn]at h;cases h with
  | self h=>rw[hs]at h; exact .self h
  | bld h1 h2 h3=>rw[hs]at h1; exact .bld h1 h2 h3
 | arm e s n f ov=>
  simp only[bA.rn]at h;cases h with
  | self h=>rw[hs]at h; exact .self h
  | arm h1 h2 h3 h4 h5 h6 h7=>rw[hs]at h1; exact .arm h1 h2 h3 h4 h5 h6 h7
 | mp it m ho=>
  simp only[bA.rn]at h;generalize hit:aSS o o' it=it' at h;cases h with
  | self h=>rw[hs]at h; exact .self h
  | iter h=>
   cases it with
   | none=>cases hit
   | some i=>simp only[aSS,gO]at hit;subst hit;rw[fY _ _ _ _ (hn i.o (by simp[bA.names,itN]))]at h;exact .iter h
  | mem h1 h2 h3 h4 h5 h6 h7=>rw[hs]at h1; exact .mem h1 h2 h3 h4 h5 h6 h7
theorem Le.rn{P:Program}{E:Env}{I:Inf}{st st':St}(hG:fF P E I){o o':Nat}(h:grn I.N o o' st=some st'):Le E st st':=by
 rintro a w ⟨F,g,r⟩;unfold grn at h;split at h
 ·rename_i st1 hn he;cases h;have hfr:=St.erase_fr he;have hhp:=St.erase_hp he;refine⟨F,upd g o' (g o),r.nt,r.df,fun t x hx=>?_,⟨⟨fun k x hx=>?_,fun k x b hx hb=>?_,fun k x k' y b hx hy hne hb hb'=>?_⟩,r.w.f0,r.w.f1,r.w.ext,fun k hk=>?_,r.w.b0⟩⟩
  ·simp only[aGA,dW,gQ]at hx;obtain⟨⟨t',y⟩,hy,rfl,rfl⟩:=hx;obtain⟨h1,h2⟩:=hfr _ _ hy;exact(r.fr _ _ h1).rn h2
  ·simp only[aGA,dW,gQ]at hx;obtain⟨⟨k',y⟩,hy,rfl,rfl⟩:=hx;obtain⟨z,h1,h2,h3,h4,_⟩:=hhp _ _ hy;exact(h4 _ _ _ (r.w.hp.obj _ _ h1)).rn h2 h3
  ·simp only[aGA,dW,gQ]at hx;obtain⟨⟨k',y⟩,hy,rfl,rfl⟩:=hx;obtain⟨z,h1,h2,h3,h4,h5⟩:=hhp _ _ hy;exact r.w.hp.own _ _ b h1 (h5 _ _ _ (hb.rn h2 h3))
  ·simp only[aGA,dW,gQ]at hx hy;obtain⟨⟨k1,y1⟩,hy1,rfl,rfl⟩:=hx;obtain⟨⟨k2,y2⟩,hy2,rfl,rfl⟩:=hy;obtain⟨z1,h1,h2,h3,h4,h5⟩:=hhp _ _ hy1;obtain⟨z2,h1',h2',h3',h4',h5'⟩:=hhp _ _ hy2;exact r.w.hp.sep _ _ _ _ b h1 h1' (fun e=>hne (by rw[e])) (h5 _ _ _ (hb.rn h2 h3)) (h5' _ _ _ (hb'.rn h2' h3'))
  ·rw[bR g _ (fun e:k=o'=>fJ hn (by rw[<-e,<-hG.N]; exact hk))];exact r.w.names k hk
 ·cases h
end Go.PL
