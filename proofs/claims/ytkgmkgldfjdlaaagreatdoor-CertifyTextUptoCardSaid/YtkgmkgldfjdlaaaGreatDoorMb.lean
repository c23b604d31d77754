/-
  Parts: buildSlice, store; all operations that make or write memory. Own work. append of a string's bytes to a row of ours. Own work (the proofs of Pj, for strings). Runs of operations, and the rules for code, on abstract states. Own work. The rules: regions, code, calls, functions. Own work. Calls and functions; steps that change the state's form alone. Own work. Calls of functions; freezing, renaming, retyping. Own work. Small lemmas for the printed proofs. Own work. Regions whose order is open: every order, looked at by a computation over abstract states. Own work. Calls that hand memory over. Own work.
-/
import Derived.Test.YtkgmkgldfjdlaaaGreatDoorMa
import Derived.Lib.AppendStr
import Derived.LoopN
import Derived.Defers
import Derived.Lib.LaidTab
import Derived.Lib.ItoaNum
import Derived.Lib.Space
import Derived.Orders
set_option maxHeartbeats 4000000
namespace Go.PL
open Go
variable {C:Prop} {I:Inf} {b d i k len n o off s:Nat} {c:Cel} {cur:Array Value} {e t:TypeId} {f:Nat->List Cel} {j:bV} {ob:Obj} {p:PV} {parts:Array (Nat×Operand)} {ps:List (Nat×PV)} {st':St} {v:Value} {w':World} {x y:aN}
section
variable {P:Program} {E:Env} {F:Nat->Prop} {g:Nat->Value} {st:St} {a:Act} {w:World}
theorem gH(hj:TOk P e j)(n:Nat)(hz:j.zero.length=j.size)(h1:1<=j.size):∃ info z,P.info? e=some info/\info.zero=some z/\info.size=j.size/\z.cells.size=j.size /\
  ∀ (F:Nat->Prop) (g:Nat->Value) (w:World) (k:Nat) x v,(cQ j n)[k]? = some x->((Array.range n).map (z.cells[· % z.cells.size]!))[k]? = some v->VR F g w x v:=by
 obtain⟨info,h1,h2,h3,z,h4,h5⟩:=hj.info;have h6:z.cells.size=j.zero.length:=by simpa using congrArg List.length h5
 refine⟨info,z,h1,h4,h2,by omega,fun F g w k x v hx hv=>?_⟩;simp only[cQ,cR,fJ]at hx;obtain⟨k',hk',hx⟩:=hx;have hkn:k<n:=by have:=(bZ.1 hk').1; simpa using this
 have hk'':k'=k:=by simp[hkn]at hk'; exact hk'.symm
 subst hk'';simp[hkn]at hv;rw[h6]at hv;have hpos:0<j.zero.length:=by omega
 have hlt:k' % j.zero.length<j.zero.length:=Nat.mod_lt _ hpos;have:=congrArg (·[k' % j.zero.length]?) h5;have hlt':k' % j.zero.length<z.cells.size:=by omega
 simp only[cR,rK]at this;rw[vW hlt',dE hlt]at this;simp only[iK,cV]at this;rw[bO,dE hlt,oQ]at hx;rw[getElem!_pos z.cells _ hlt']at hv;subst hx; subst hv;exact jY this F g w
theorem tS{ts:List T}{j:Nat}(hj:j<s):(eT ts s i)[j]? = ts[i*s+j]?:=by simp only[eT,dZ,aH hj,fL]
theorem lV{ts:List T}(hl:ts.length=n*s)(hi:i<n):(eT ts s i).length=s:=by simp only[eT,cL,fC,hl];have:(i+1)*s<=n*s:=dH _ hi;rw[dU,gL]at this;omega
def nX(c:List PV)(ts:List T):Prop:=ts.length=c.length/\∀ (j:Nat) p x,c[j]? = some p->ts[j]? = some x->∀ F g w v,VR F g w p v->VR F g w (.t x) v
theorem nX.of{c:List PV}{ts:List T}(h:pL c=some ts):nX c ts:=by have hc:=uR h;subst hc;refine⟨by simp,fun j p x hp hx F g w v hv=>?_⟩;simp only[cR]at hp;rw[hx]at hp;simp only[iK,cV]at hp;subst hp;exact hv
theorem iW(hn:E.N=I.N)(hnt:E.nt=I.nt)(r:bA E F g st a w)(hd:P.underlying t=some (.slice e))(hj:TOk P e j) 
  (hps:dR st parts.toList=some ps)(h1:len*j.size<=16777216)(h2:1<=j.size)(hz:j.zero.length=j.size){c:List PV}
  (hc:iL (fun i=>some (i*j.size,j.size)) (cQ j (len*j.size)) ps=some c){ts:List T}(hts:nX c ts)(hcl:c.length=len*j.size) 
  (h:cX I st d (.arr e j.size len (eT ts j.size)) (.own d)=some st'):
  ∃ u w',(Instr.buildSlice t len (parts.map fun (i,x)=>(i,a.eval x))).run P w = .ok u w'/\Rel E st' (a.put (some d) u) w':=by
 obtain⟨info,z,hi1,hi2,hi3,hi4,hi5⟩:=gH hj (len*j.size) hz h2;obtain⟨hl,hp⟩:=gK r _ _ hps;obtain⟨oc,ho1,ho2,ho3⟩:=lL (F:=F) (g:=g) (w:=w) ps (parts.toList.map fun (i,x)=>(i,a.eval x)) (cQ j (len*j.size)) ((Array.range (len*j.size)).map (z.cells[· % z.cells.size]!)) c
  (by simp[hl]) hp (by simp[cQ]) (hi5 F g w) hc
 have htl:ts.length=len*j.size:=by rw[<-hcl]; exact hts.1
 have hsz:(sizeOf e).run P w = .ok j.size w:=run_sizeOf hj;refine⟨.slice (some ⟨w.heap.size,0,none⟩) len len,w.alloc (.cells oc e),?_,iI hn hnt r h rfl rfl rfl rfl rfl (fun g' _ hv=>?_) (fun g' hv=>.own hv)⟩
 ·have:(parts.map fun (i,x)=>(i,a.eval x)).toList=parts.toList.map fun (i,x)=>(i,a.eval x):=by simp
  rw[<-this]at ho1;unfold Instr.buildSlice;rw[Sem.run_bind,run_underlying hd];simp only[Result.andThen_ok];rw[Sem.run_bind,hsz];simp only[Result.andThen_ok];rw[aT (by omega)];by_cases h0:len*j.size=0
  ·rw[aH h0];have hr0:∀ f:Nat->Value,(Array.range 0).map f=#[]:=fun f=>rO (by simp);rw[h0,hr0]at ho1;rw[h0];simp only[Sem.run_bind,Sem.run_pure,Result.andThen_ok,hr0];rw[ho1];simp[newRow]
  ·rw[aT h0];simp only[Sem.run_bind,Sem.run_pure,Result.andThen_ok,dW hi1 hi2];rw[ho1];simp[newRow]
 ·refine RowR.obj (cur:=oc) ⟨fun i hi=>lV htl hi,fun i k x hi hx=>?_⟩ hv (heap_alloc_new w _) (cY _) ?_ (by rw[ho2,hcl])
  ·have hk:k<j.size:=by rw[<-lV htl hi]; exact(bZ.1 hx).1
   rw[tS hk]at hx;have hlt:i*j.size+k<oc.size:=by rw[ho2,<-hts.1]; exact(bZ.1 hx).1
   have hlc:i*j.size+k<c.length:=by rw[<-ho2]; exact hlt
   refine⟨oc[i*j.size+k],by simp[hlt],?_⟩;have:=hts.2 _ _ _ (by simp[hlc]) hx _ _ _ _ (ho3 (i*j.size+k) c[i*j.size+k] oc[i*j.size+k] (by simp[hlc]) (by simp[hlt]));exact(this.cells_t rfl).mono fun b hb=>⟨hb,heap_alloc_old w _ (r.w.f1 b hb).1⟩
  ·have:len<=len*j.size:=qB _ h2;simp only[maxLen]; omega
theorem pZ{o:Option PV}(h:Ae p=some (c,o)):(∃ y,p = .t y/\c = .d y/\o=none)\/(p = .nil/\c = .nl/\o=none)\/(∃ q,p = .own q/\c = .any/\o=some p):=by
 unfold Ae at h;split at h <;> cases h
 ·exact .inl ⟨_,rfl,rfl,rfl⟩
 ·exact .inr (.inl ⟨rfl,rfl,rfl⟩)
 ·exact .inr (.inr ⟨_,rfl,rfl,rfl⟩)
theorem oH:∀ {l:List PV} {j0:Nat} {cs:List Cel} {o:Option (Nat×PV)},oI j0 l=some (cs,o) ->
  cs.length=l.length/\(∀ (q:Nat) x,cs[q]? = some x->∃ p o,l[q]? = some p/\Ae p=some (x,o))/\∀ j p,o=some (j,p)->∃ q,j=j0+q/\l[q]? = some p/\cs[q]? = some .any
 | [],j0,cs,o,h=>by simp only[oI,cV,dS]at h;obtain⟨rfl,rfl⟩:=h;exact⟨rfl,by simp,by simp⟩
 | p::l,j0,cs,o,h=>by
  simp only[oI]at h;split at h
  ·rename_i c r o' hc hr;cases h;obtain⟨h1,h2,h3⟩:=oH hr;refine⟨by simp[h1],fun q x hx=>?_,fun j p' e=>?_⟩
   ·cases q with
    | zero=>simp at hx; subst hx; exact⟨p,_,rfl,hc⟩
    | succ q=>simpa using h2 q x (by simpa using hx)
   ·obtain⟨q,e1,e2,e3⟩:=h3 j p' e;exact⟨q+1,by omega,by simpa using e2,by simpa using e3⟩
  ·rename_i c p' r hc hr;cases h;obtain⟨h1,h2,h3⟩:=oH hr;refine⟨by simp[h1],fun q x hx=>?_,fun j p'' e=>?_⟩
   ·cases q with
    | zero=>simp at hx; subst hx; exact⟨p,_,rfl,hc⟩
    | succ q=>simpa using h2 q x (by simpa using hx)
   ·cases e;rcases pZ hc with⟨_,_,_,h⟩ | ⟨_,_,h⟩ | ⟨q,e1,e2,e3⟩
    ·cases h
    ·cases h
    ·cases e3;exact⟨0,rfl,rfl,by rw[e2]; rfl⟩
  ·cases h
theorem Fd(hn:E.N=I.N)(hnt:E.nt=I.nt)(r:bA E F g st a w)(h:cX I st d x p=some st') 
  (hv:blk v=some w.heap.size)(hw:w'.heap=w.heap.push ob)(hos:w'.os=w.os)(htp:w'.tape=w.tape)(hout:w'.output=w.output)
  (hx:∀ g',(∀ o,o≠d->g' o=g o)->g' d=v->bL F g' w' d x)(hp:∀ g',g' d=v->VR F g' w' p v)(hft:∀ g' b,g' d=v->aK g' w' d x b->blk v=some b):
  Rel E st' (a.put (some d) v) w':=by
 unfold cX at h;split at h
 ·rename_i st1 h1 h2 h3;cases h;have hd:d<E.nt:=by rw[hnt]; simpa[cB] using h1
  obtain⟨g',hg'⟩:=r.allocF hd (by rw[hn]; exact cI h2) h3 hv hw hos htp hout hft hx p hp;exact⟨F,g',hg'⟩
 ·cases h
theorem qU(hn:E.N=I.N)(hnt:E.nt=I.nt)(r:bA E F g st a w)(hd:P.underlying t=some (.slice e))(hj:TOk P e j)(hlen:len=1)
  (hps:dR st parts.toList=some ps)(h1:len*j.size<=16777216)(h2:1<=j.size)(hz:j.zero.length=j.size){c:List PV}
  (hc:iL (fun i=>some (i*j.size,j.size)) (cQ j (len*j.size)) ps=some c)(hm:fP d c=true){cs:List Cel}{ov:Option (Nat×PV)}(hcs:oI 0 c=some (cs,ov))(hcl:c.length=len*j.size) 
  (h:cX I st d (.arm e j.size 1 (fun _=>cs) (Tm ov)) (.own d)=some st'):
  ∃ u w',(Instr.buildSlice t len (parts.map fun (i,x)=>(i,a.eval x))).run P w = .ok u w'/\Rel E st' (a.put (some d) u) w':=by
 obtain⟨info,z,hi1,hi2,hi3,hi4,hi5⟩:=gH hj (len*j.size) hz h2;obtain⟨hl,hp⟩:=gK r _ _ hps;obtain⟨oc,ho1,ho2,ho3⟩:=lL (F:=F) (g:=g) (w:=w) ps (parts.toList.map fun (i,x)=>(i,a.eval x)) (cQ j (len*j.size)) ((Array.range (len*j.size)).map (z.cells[· % z.cells.size]!)) c
  (by simp[hl]) hp (by simp[cQ]) (hi5 F g w) hc
 obtain⟨k1,k2,k3⟩:=oH hcs;have hsz:(sizeOf e).run P w = .ok j.size w:=run_sizeOf hj;have hosz:oc.size=len*j.size:=by rw[ho2,hcl]
 have hget:∀ (q:Nat) p v,c[q]? = some p->oc[0*j.size+q]? = some v->VR F g w p v:=fun q p v hp hv=>by rw[Nat.zero_mul,cH]at hv;exact ho3 q p v hp hv
 have hnoown:∀ (i q:Nat) (x:Cel),i<1->((fun _:Nat=>cs) i)[q]? = some x->x.owned=true->False:=fun i q x _ hx ho=>by obtain⟨p,o',e1,e2⟩:=k2 q x hx;rcases pZ e2 with⟨_,_,h,_⟩ | ⟨_,h,_⟩ | ⟨_,_,h,_⟩ <;> (subst h; cases ho)
 refine⟨.slice (some ⟨w.heap.size,0,none⟩) len len,w.alloc (.cells oc e),?_,Fd hn hnt r h rfl rfl rfl rfl rfl (fun g' hg' hv=>?_) (fun g' hv=>.own hv) (fun g' b hv hf=>?_)⟩
 ·have:(parts.map fun (i,x)=>(i,a.eval x)).toList=parts.toList.map fun (i,x)=>(i,a.eval x):=by simp
  rw[<-this]at ho1;unfold Instr.buildSlice;rw[Sem.run_bind,run_underlying hd];simp only[Result.andThen_ok];rw[Sem.run_bind,hsz];simp only[Result.andThen_ok];rw[aT (by omega),aT (by rw[hlen]; omega)];simp only[Sem.run_bind,Sem.run_pure,Result.andThen_ok,dW hi1 hi2];rw[ho1];simp[newRow]
 ·subst hlen;refine .inr ⟨w.heap.size,1,oc,hv,heap_alloc_new w _,cY _,by simp only[maxLen]; omega,hosz,⟨fun i _=>by rw[k1,hcl,gL],fun i q x hi hx=>?_,fun i q i' q' x x' v v' c' hi hi' hx hx' ho=>(hnoown i q x hi hx ho).elim,
   fun i q x v hi hx ho=>(hnoown i q x hi hx ho).elim,fun i q p e'=>?_⟩⟩
  ·obtain rfl:i=0:=by omega
   obtain⟨p,o',e1,e2⟩:=k2 q x hx;have hq:q<oc.size:=by rw[ho2]; exact(bZ.1 e1).1
   refine⟨oc[q],by rw[Nat.zero_mul,cH]; simp[hq],?_⟩;have hr:=hget q p oc[q] e1 (by rw[Nat.zero_mul,cH]; simp[hq]);rcases pZ e2 with⟨y,rfl,rfl,_⟩ | ⟨rfl,rfl,_⟩ | ⟨_,_,rfl,_⟩
   ·exact(hr.cells_t rfl).mono fun b hb=>⟨hb,heap_alloc_old w _ (r.w.f1 b hb).1⟩
   ·generalize oc[q]=u at hr ⊢;cases hr; rfl
   ·exact True.intro
  ·unfold Tm at e';split at e'
   ·cases e'
   ·rename_i j' p';cases e';obtain⟨q',e1,e2,e3⟩:=k3 _ _ rfl;rw[cH]at e1; subst e1;exact⟨by omega,e3,fun v hv'=>(hget _ p v e2 hv').mono (fun b hb=>⟨hb,heap_alloc_old w _ (r.w.f1 b hb).1⟩) (fun o ho=>hg' o (jS hm p (eE e2) o ho))⟩
 ·cases hf with
  | self h=>rw[hv]at h; exact h
  | arm q1 q2 q3 q4 q5 q6 q7=>exact(hnoown _ _ _ q3 q4 q5).elim
theorem Ce(hn:E.N=I.N)(hnt:E.nt=I.nt)(r:bA E F g st a w)(hd:P.underlying t=some (.slice e))(hj:TOk P e j)(ty:TypeId){o2:Nat}{s:Value}(hs:VR F g w p s)(hv:VR F g w (.own o2) v)
  (h:rM I st d e j p o2=some (st',C))(hC:C):∃ u w',(Builtin.append_ #[t,t] ty #[s,v]).run P w = .ok u w'/\Rel E st' (a.put (some d) u) w':=by
 unfold rM at h;split at h
 ·rename_i h1 h2 h3;have h1:=cP h1;have h2:=cP h2;have h3:=aZ h3;split at h
  ·split at h
   ·rename_i e' s' m f st1 hl he;split at h
    ·rename_i st2 h4 h5 hst;have h4:=aZ h4;have h5:=aZ h5;subst h4; subst h5;cases h;cases hs;exact kS hn hnt r hd hj ty h2 h3 h1 hv hC hl (.of he) hst
    ·cases h
   ·cases h
  ·split at h
   ·rename_i o1 e1 s1 n f1 st0 hl1 he1;split at h
    ·rename_i e' s' m f st1 hl2 he2 hne;split at h
     ·rename_i st2 h4 h5 hst;simp only[bJ]at h4 h5;obtain⟨h4,h4'⟩:=h4;obtain⟨h5,h5'⟩:=h5;have h4:=aZ h4;have h4':=aZ h4';have h5:=aZ h5;have h5':=aZ h5';subst h4; subst h4'; subst h5; subst h5';cases h;exact rV hn hnt r hd hj ty h2 h3 h1 hs hv hC hl1 (.of he1) hl2 (.of he2) (gD hne) hst
     ·cases h
    ·cases h
   ·cases h
  ·cases h
 ·cases h
theorem bA.fresh(r:bA E F g st a w)(hw:w'.heap=w.heap.push ob)(hos:w'.os=w.os)(htp:w'.tape=w.tape)(hout:w'.output=w.output)(hd:d<E.nt) 
  (hv:VR (fun b=>F b\/b=w.heap.size) g w' p v):bA E (fun b=>F b\/b=w.heap.size) g (st.put d p) (a.put (some d) v) w':=by
 have hold:∀ b,b<w.heap.size->w'.heap[b]? = w.heap[b]?:=fun b hb=>by rw[hw]; simp[tE,Nat.ne_of_lt hb]
 have hsz:w'.heap.size=w.heap.size+1:=by rw[hw]; simp
 have hF:∀ b,F b->(F b\/b=w.heap.size)/\w'.heap[b]? = w.heap[b]?:=fun b hb=>⟨.inl hb,hold b (r.w.f1 b hb).1⟩;have hft:∀ o x b,(o,x)∈st.hp->aK g w' o x b->aK g w o x b:=fun o x b hx hb=>hb.mono rfl (fun _ _=>rfl) (fun c hc=>hold c ((aK.self hc).block (r.w.hp.obj o x hx)));refine r.putW hd hF (fun t y hy=>⟨hy,fun _ _=>rfl⟩) ⟨⟨fun o x hx=>?_,fun o x b hx hb=>?_,fun o x o' y b hx hy hne hb hb'=>?_⟩,fun b hb=>.inl (r.w.f0 b hb),fun b hb=>?_,?_,r.w.names,r.w.b0⟩ hv
 ·exact(r.w.hp.obj o x hx).mono hF rfl (fun _ _=>rfl) (fun c hc=>hold c (hc.block (r.w.hp.obj o x hx)))
 ·have hb':=hft o x b hx hb;refine⟨?_,(r.w.hp.own o x b hx hb').2⟩;rintro (h | h)
  ·exact(r.w.hp.own o x b hx hb').1 h
  ·have:=hb'.block (r.w.hp.obj o x hx); omega
 ·exact r.w.hp.sep o x o' y b hx hy hne (hft o x b hx hb) (hft o' y b hy hb')
 ·rcases hb with hb | rfl
  ·exact⟨by have:=(r.w.f1 b hb).1; omega,(r.w.f1 b hb).2⟩
  ·exact⟨by omega,.inr (.inr r.w.ext.size)⟩
 ·refine r.w.ext.trans hos htp hout (by omega) (fun b hb _=>hold b ?_);have:=r.w.ext.size;omega
theorem kH{nt:Nat}(hnt:E.nt=nt)(r:bA E F g st a w)(hd:P.underlying t=some (.slice e))(hj:TOk P e j) 
  (hps:dR st parts.toList=some ps)(h1:len*j.size<=16777216)(h2:1<=j.size)(hz:j.zero.length=j.size){c:List PV}
  (hc:iL (fun i=>some (i*j.size,j.size)) (cQ j (len*j.size)) ps=some c){ts:List T}(hts:nX c ts)(hcl:c.length=len*j.size)(hdn:d<nt):
  ∃ u w' F',(Instr.buildSlice t len (parts.map fun (i,x)=>(i,a.eval x))).run P w = .ok u w'/\bA E F' g (st.put d (.t (.sl len (eT ts j.size)))) (a.put (some d) u) w':=by
 obtain⟨info,z,hi1,hi2,hi3,hi4,hi5⟩:=gH hj (len*j.size) hz h2;obtain⟨hl,hp⟩:=gK r _ _ hps;obtain⟨oc,ho1,ho2,ho3⟩:=lL (F:=F) (g:=g) (w:=w) ps (parts.toList.map fun (i,x)=>(i,a.eval x)) (cQ j (len*j.size)) ((Array.range (len*j.size)).map (z.cells[· % z.cells.size]!)) c
  (by simp[hl]) hp (by simp[cQ]) (hi5 F g w) hc
 have htl:ts.length=len*j.size:=by rw[<-hcl]; exact hts.1
 have hsz:(sizeOf e).run P w = .ok j.size w:=run_sizeOf hj;refine⟨.slice (some ⟨w.heap.size,0,none⟩) len len,w.alloc (.cells oc e),fun b=>F b\/b=w.heap.size,?_,r.fresh (ob:=.cells oc e) (w':=w.alloc (.cells oc e)) rfl rfl rfl rfl (hnt▸hdn) (.t (.sl ⟨w.heap.size,0,none⟩ len j.size (fun i k=>oc.getD (i*j.size+k) undef) rfl (cY _) (fun _=>.inr rfl) (fun i hi=>lV htl hi) (fun i k hi hk=>?_) (fun i k x hi hx=>?_)))⟩
 ·have:(parts.map fun (i,x)=>(i,a.eval x)).toList=parts.toList.map fun (i,x)=>(i,a.eval x):=by simp
  rw[<-this]at ho1;unfold Instr.buildSlice;rw[Sem.run_bind,run_underlying hd];simp only[Result.andThen_ok];rw[Sem.run_bind,hsz];simp only[Result.andThen_ok];rw[aT (by omega)];by_cases h0:len*j.size=0
  ·rw[aH h0];have hr0:∀ f:Nat->Value,(Array.range 0).map f=#[]:=fun f=>rO (by simp);rw[h0,hr0]at ho1;rw[h0];simp only[Sem.run_bind,Sem.run_pure,Result.andThen_ok,hr0];rw[ho1];simp[newRow]
  ·rw[aT h0];simp only[Sem.run_bind,Sem.run_pure,Result.andThen_ok,dW hi1 hi2];rw[ho1];simp[newRow]
 ·have hlt:i*j.size+k<oc.size:=by
   rw[ho2,hcl]
   calc i*j.size+k<i*j.size+j.size:=by omega
    _=(i+1)*j.size:=by rw[Nat.succ_mul]
    _<=len*j.size:=dH _ hi
  rw[Addr.add_none];simp only[cH];have hnew:=heap_alloc_new w (.cells oc e);simp only[World.cell?,hnew];simp[Array.getD,hlt]
 ·have hk:k<j.size:=by rw[<-lV htl hi]; exact(bZ.1 hx).1
  rw[tS hk]at hx;have hlt:i*j.size+k<oc.size:=by rw[ho2,<-hts.1]; exact(bZ.1 hx).1
  have hlc:i*j.size+k<c.length:=by rw[<-ho2]; exact hlt
  have hg:oc.getD (i*j.size+k) undef=oc[i*j.size+k]:=by simp[Array.getD,hlt]
  rw[hg];have:=hts.2 _ _ _ (by simp[hlc]) hx _ _ _ _ (ho3 (i*j.size+k) c[i*j.size+k] oc[i*j.size+k] (by simp[hlc]) (by simp[hlt]));exact(this.cells_t rfl).mono fun b hb=>⟨.inl hb,heap_alloc_old w _ (r.w.f1 b hb).1⟩
theorem nR{cs:Array Value}(hb:¬ F b):∀ k,F k->F k/\(w.setRow b cs).heap[k]? = w.heap[k]?:=
 fun k hk=>⟨hk,setRow_other w b k _ (fun e=>hb (e▸hk))⟩
theorem bA.writeF(r:bA E F g st a w)(hl:(o,x)∈st.hp)(hb:aK g w o x b)(hoth:∀ k,k≠b->w'.heap[k]? = w.heap[k]?)(hsz:w'.heap.size=w.heap.size)(hos:w'.os=w.os)(htp:w'.tape=w.tape)(hout:w'.output=w.output)
  (hy:bL F g w' o y)(hft:∀ k,aK g w' o y k->aK g w o x k):bA E F g { st with hp:=(o,y)::del o st.hp } a w':=by
 have hFb:=(r.w.hp.own o x b hl hb).1;have hBb:=(r.w.hp.own o x b hl hb).2;have hF:∀ k,F k->F k/\w'.heap[k]? = w.heap[k]?:=fun k hk=>⟨hk,hoth k (fun e=>hFb (e▸hk))⟩;have other:∀ o' z b',(o',z)∈del o st.hp->aK g w o' z b'->b'≠b:=by intro o' z b' hz hb' e;subst e;exact r.w.hp.sep o' z o x b' (aJ.1 hz).1 hl (aJ.1 hz).2 hb' hb
 have foot:∀ o' z b',(o',z)∈(o,y)::del o st.hp->aK g w' o' z b'->∃ u,(o',u)∈st.hp/\aK g w o' u b':=by
  intro o' z b' hz hb';rcases aL.1 hz with e | hz
  ·cases e; exact⟨x,hl,hft _ hb'⟩
  ·exact⟨z,(aJ.1 hz).1,hb'.mono rfl (fun _ _=>rfl) (fun c hc=>hoth c (other o' z c hz (.self hc)))⟩
 refine⟨r.nt,r.df,fun t z hz=>(r.fr t z hz).mono hF (fun _ _=>rfl),⟨⟨?_,?_,?_⟩,r.w.f0,fun k hk=>⟨by rw[hsz]; exact(r.w.f1 k hk).1,(r.w.f1 k hk).2⟩,
  r.w.ext.trans hos htp hout (Nat.le_of_eq hsz.symm) (fun k hk hB=>hoth k (fun e=>?_)),r.w.names,r.w.b0⟩⟩
 ·intro o' z hz;rcases aL.1 hz with e | hz
  ·cases e; exact hy
  ·exact(r.w.hp.obj o' z (aJ.1 hz).1).mono hF rfl (fun _ _=>rfl) (fun b' hb'=>hoth b' (other o' z b' hz hb'))
 ·intro o' z b' hz hb';obtain⟨u,h1,h2⟩:=foot o' z b' hz hb';exact r.w.hp.own o' u b' h1 h2
 ·intro o' z o'' z' b' hz hz' hne hb1 hb2;obtain⟨u,h1,h2⟩:=foot o' z b' hz hb1;obtain⟨u',h1',h2'⟩:=foot o'' z' b' hz' hb2;exact r.w.hp.sep o' u o'' u' b' h1 h1' hne h2 h2'
 ·subst e;rcases hBb with h | h
  ·exact hB h
  ·omega
theorem bA.write(r:bA E F g st a w)(hl:(o,x)∈st.hp)(hb:blk (g o)=some b){cs:Array Value}(_hob:w.heap[b]? = some ob)
  (hy:bL F g (w.setRow b cs) o y)(hyp:y.plain=true:=by rfl):bA E F g { st with hp:=(o,y)::del o st.hp } a (w.setRow b cs):=
 r.writeF hl (.self hb) (fun k hk=>setRow_other w b k _ hk) (by simp) rfl rfl rfl hy (fun _ hk=>.self (hk.toBlk hyp))
theorem bA.writeO(r:bA E F g st a w)(hl:(o,x)∈st.hp)(hb:blk (g o)=some b)(_hob:w.heap[b]? = some ob)(hoth:∀ k,k≠b->w'.heap[k]? = w.heap[k]?)(hsz:w'.heap.size=w.heap.size)(hos:w'.os=w.os)(htp:w'.tape=w.tape)(hout:w'.output=w.output)
  (hy:bL F g w' o y)(hyp:y.plain=true:=by rfl):bA E F g { st with hp:=(o,y)::del o st.hp } a w':=
 r.writeF hl (.self hb) hoth hsz hos htp hout hy (fun _ hk=>.self (hk.toBlk hyp))
theorem rW{ks:List Int}:∀ {m:List (List Int×Bool)} {i j:Nat} {b:Bool},jA m ks i=some (j,b)->∃ t,j=i+t/\∃ x,m[t]? = some x/\x.1=ks
 | [],i,j,b,h=>by simp[jA]at h
 | e::m,i,j,b,h=>by
  simp only[jA]at h;split at h
  ·rename_i he; cases h; exact⟨0,by simp,e,by simp,(eq_of_beq he).symm⟩
  ·obtain⟨t,h1,x,h2,h3⟩:=rW h;exact⟨t+1,by omega,x,by simpa using h2,h3⟩
theorem sI(n:Nat)(ks:List Int):Instr.sameBits (n+1) (mG ks) (mG ks)=true:=by
 have:∀ l:List Int,((l.map (Value.int .i64)).zip (l.map (Value.int .i64))).all (fun x=>Instr.sameBits n x.1 x.2)=true:=by
  intro l
  induction l with
  | nil=>rfl
  | cons x l ih=>simp only[fX,List.zip_cons_cons,rR,ih,Bool.and_true]; cases n <;> simp[Instr.sameBits]
 simp only[mG,Instr.sameBits,bJ,beq_self_eq_true,true_and];exact this ks
theorem jE{w:World}{r:Nat}{o o':Obj}(hb:w.heap[r]? = some o):(w.heap.setIfInBounds r o')[r]? = some o'/\∀ r',r'≠r->(w.heap.setIfInBounds r o')[r']? = w.heap[r']?:=by have hlt:r<w.heap.size:=(sL.1 hb).1;exact⟨by simp[hlt],fun r' hne=>by simp[Ne.symm hne]⟩
theorem uP(hI:gE P I.ti)(r:bA E F g st a w){t:Nat}{q:PV}{m:List (List Int×Bool)}{ks:List Int}{bb:Bool}(h:Jb I st t p q=some (n,m,o,ks)){u:Value}
  (hu:VR F g w p u)(hv:VR F g w q v):∃ w',(Instr.mapUpdate t u v (.bool bb)).run P w = .ok () w'/\bA E F g { st with hp:=(o,.mpb n (xJ m ks bb))::del o st.hp } a w':=by
 obtain⟨kt,et,b,es,clock,info,h1,h2,h3,h4,h5,h6,h7,h8,h9,h10,h11,h12⟩:=Ak hI r h hu hv;have hset:=jE (o':=.map (es.push { key:=v,val:=.bool bb,born:=clock }) (clock+1)) h6;cases hf:jA m ks 0 with
 | none=>
  refine⟨{ w with heap:=w.heap.setIfInBounds b (.map (es.push { key:=v,val:=.bool bb,born:=clock }) (clock+1)) },?_,r.writeO h5 (by rw[h4]; rfl) h6 hset.2 (by simp) rfl rfl rfl ?_⟩
  ·unfold Instr.mapUpdate;simp only[h2,Sem.run_bind,run_underlying h1,Result.andThen_ok,Go.run_getObj_map w b es clock h6,h11,h12,hf,Option.map_none,MapKept.run_setObj_map _ h6]
  ·refine⟨b,_,_,h4,hset.1,?_,?_,?_⟩
   ·have:=h7.1; simp only[Array.size_push,xJ,hf,gB,List.length_singleton]; simp at this; omega
   ·intro x hx;simp only[xJ,hf,dT,bX]at hx;rcases hx with hx | rfl
    ·exact h7.2.1 x hx
    ·exact h8
   ·intro j e x he hx;simp only[xJ,hf]at hx;have hl:=h7.1;simp at hl;by_cases hj:j<m.length
    ·rw[dB hj]at hx;rw[tE,aT (by omega)]at he;exact h7.2.2 j e x (by simpa using he) hx
    ·rw[dF (by omega)]at hx;have hj':j=m.length:=by have:=(bZ.1 hx).1; simp at this; omega
     subst hj';simp at hx; subst hx;rw[tE,aH (by omega)]at he;cases he;exact⟨h3,rfl⟩
 | some jx=>
  obtain⟨j,vb⟩:=jx;obtain⟨t',e1,x0,e2,e3⟩:=rW hf;simp only[cH]at e1; subst e1;have hl:=h7.1;simp only[dY]at hl;have hj:j<es.size:=by rw[hl]; exact(bZ.1 e2).1
  have hkey:=(h7.2.2 j es[j] x0 (by simp[hj]) e2).1;have hset:=jE (o':=.map (es.modify j fun e=>{ e with key:=v,val:=.bool bb }) clock) h6;refine⟨{ w with heap:=w.heap.setIfInBounds b (.map (es.modify j fun e=>{ e with key:=v,val:=.bool bb }) clock) },?_,r.writeO h5 (by rw[h4]; rfl) h6 hset.2 (by simp) rfl rfl rfl ?_⟩
  ·have hstay:(Instr.keyThatStays ((es[j]?.map (·.key)).getD v) v).run P w = .ok v w:=by rw[vW hj,iK,oQ,hkey,h3,e3];unfold Instr.keyThatStays;rw[show (10000:Nat)=9999+1 from rfl,aH (sI 9999 ks)];simp
   unfold Instr.mapUpdate;simp only[h2,Sem.run_bind,run_underlying h1,Result.andThen_ok,Go.run_getObj_map w b es clock h6,h11,h12,hf,iK,hstay,MapKept.run_setObj_map _ h6]
  ·refine⟨b,_,_,h4,hset.1,?_,?_,?_⟩
   ·simp only[xJ,hf]; simpa using hl
   ·intro x hx;simp only[xJ,hf]at hx;rcases List.mem_or_eq_of_mem_set hx with hx | rfl
    ·exact h7.2.1 x hx
    ·exact h8
   ·intro i e x he hx;simp only[xJ,hf]at hx;rw[wL]at he;rw[lK]at hx;by_cases hij:j=i
    ·subst hij;rw[aH rfl]at he hx;rw[vW hj]at he;have hjm:j<m.length:=by omega
     rw[aH hjm]at hx;cases he; cases hx;exact⟨h3,rfl⟩
    ·rw[aT hij]at he hx;exact h7.2.2 i e x (by simpa using he) hx
theorem jR{i:bV}(hi:TOk P t i)(hb:w.heap[b]? = some (.cells cur e (0,0)))(hv:v.cells.size=i.size)
  (hfit:off+i.size<=cur.size)(h1:∀ u,u∈v.cells->u.oneCell'=true):
  (Instr.storeAt t (.pointer (some ⟨b,off,none⟩)) v).run P w = .ok () (w.setRow b (cur.toList.take off++v.cells.toList++cur.toList.drop (off+i.size)).toArray):=by
 have hs:=run_storeCells_at P b off e v.cells.toList 0 cur w hb (by simp; omega) (fun u hu=>h1 u (by simpa using hu));simp only[nL,dY]at hs;simp[Instr.storeAt,Instr.sureAddr,storeVar,run_sizeOf hi,hv];rw[hs,hv];simp
theorem vF{x:PV}(h:VR F g w x v)(h1:x.cells.all PV.one=true):∀ u,u∈v.cells->u.oneCell'=true:=by
 intro u hu;obtain⟨k,hk,rfl⟩:=Array.mem_iff_getElem.1 hu;obtain⟨h2,h3⟩:=h.cells;have hk':k<x.cells.length:=by omega
 exact(h3 k x.cells[k] v.cells[k] (by simp[hk']) (by simp[hk])).one (cU.1 h1 _ (lC hk'))
theorem tZ{j:Nat}(hj:j<s)(ho:off<s)(h:i*s+j=k*s+off):i=k/\j=off:=by
 rcases Nat.lt_trichotomy i k with h1 | h1 | h1
 ·have:(i+1)*s<=k*s:=dH _ h1;rw[dU,gL]at this; omega
 ·subst h1; exact⟨rfl,by omega⟩
 ·have:(k+1)*s<=i*s:=dH _ h1;rw[dU,gL]at this; omega
theorem dI{j:Nat}{x:Cel}(h:(kJ f k off c i)[j]? = some x):(i=k/\j=off/\x=c)\/(¬ (i=k/\j=off)/\(f i)[j]? = some x):=by
 rw[lO]at h;split at h
 ·rename_i hik;rw[lK]at h;split at h
  ·rename_i hj;split at h
   ·cases h; exact .inl ⟨hik,hj.symm,rfl⟩
   ·cases h
  ·rename_i hj;exact .inr ⟨fun e=>hj e.2.symm,h⟩
 ·rename_i hik;exact .inr ⟨fun e=>hik e.1,h⟩
theorem zC{j:Nat}(h:¬ (i=k/\j=off)):(kJ f k off c i)[j]? = (f i)[j]?:=by
 rw[lO];split
 ·rename_i hik;rw[lK,aT (fun e=>h ⟨hik,e.symm⟩)]
 ·rfl
theorem tO(h:off<(f k).length):(kJ f k off c k)[off]? = some c:=by rw[lO];rw[aH rfl,lK,aH rfl,aH h]
theorem rB(i:Nat):(kJ f k off c i).length=(f i).length:=by
 rw[lO];split
 ·rw[List.length_set]
 ·rfl
theorem pJ.set{w:World}{ov ov':Option (Nat×Nat×PV)}{cur':Array Value}(h:pJ F g w b s n f ov cur)(hk:k<n)(hoff:off<s)(hc:c.owned=false)(hcv:qO F w' c v)
  (hcur:∀ q,q≠k*s+off->cur'[q]? = cur[q]?)(hq:cur'[k*s+off]? = some v)(hF:∀ q,F q->F q/\w'.heap[q]? = w.heap[q]?)(hoth:∀ q,q≠b->w'.heap[q]? = w.heap[q]?)
  (hov:∀ i j p,ov'=some (i,j,p)->i<n/\(kJ f k off c i)[j]? = some .any/\∀ u,cur'[i*s+j]? = some u->VR F g w' p u):pJ F g w' b s n (kJ f k off c) ov' cur':=by
 have js:∀ {i j:Nat} {x:Cel},i<n->(f i)[j]? = some x->j<s:=fun hi hx=>by rw[<-h.len _ hi]; exact(bZ.1 hx).1
 have oth:∀ {i j:Nat} {x:Cel},i<n->¬ (i=k/\j=off)->(f i)[j]? = some x->cur'[i*s+j]? = cur[i*s+j]?:=fun hi hne hx=>hcur _ fun e=>hne (tZ (js hi hx) hoff e);refine⟨fun i hi=>by rw[rB]; exact h.len i hi,fun i j x hi hx=>?_,fun i j i' j' x x' z z' d hi hi' hx hx' ho ho' hz hz' hd hd'=>?_,fun i j x z hi hx ho hz=>?_,hov⟩
 ·rcases dI hx with⟨rfl,rfl,rfl⟩ | ⟨hne,hx⟩
  ·exact⟨v,hq,hcv⟩
  ·obtain⟨z,hz,hR⟩:=h.cell i j x hi hx;exact⟨z,by rw[oth hi hne hx]; exact hz,hR.mono hF fun d hy hd=>hoth d fun e=>h.own i j x z hi hx hy hz (e▸hd)⟩
 ·rcases dI hx with⟨rfl,rfl,rfl⟩ | ⟨hne,hx⟩
  ·rw[hc]at ho; cases ho
  ·rcases dI hx' with⟨rfl,rfl,rfl⟩ | ⟨hne',hx'⟩
   ·rw[hc]at ho'; cases ho'
   ·rw[oth hi hne hx]at hz;rw[oth hi' hne' hx']at hz';exact h.sep i j i' j' x x' z z' d hi hi' hx hx' ho ho' hz hz' hd hd'
 ·rcases dI hx with⟨rfl,rfl,rfl⟩ | ⟨hne,hx⟩
  ·rw[hc]at ho; cases ho
  ·rw[oth hi hne hx]at hz;exact h.own i j x z hi hx ho hz
theorem Dt{w:World}{f':Nat->List Cel}{ov ov':Option (Nat×Nat×PV)}{cur':Array Value}{x:PV}(he:uX ov f k off x=some (f',ov'))(h:pJ F g w b s n f ov cur)(hk:k<n)(hoff:off<s)(hv:VR F g w x v)
  (hcur:∀ q,q≠k*s+off->cur'[q]? = cur[q]?)(hq:cur'[k*s+off]? = some v)(hF:∀ q,F q->F q/\w'.heap[q]? = w.heap[q]?)(hoth:∀ q,q≠b->w'.heap[q]? = w.heap[q]?):
  pJ F g w' b s n f' ov' cur'/\∀ (i j:Nat) c,i<n->(f' i)[j]? = some c->c.owned=true->¬ (i=k/\j=off)/\(f i)[j]? = some c:=by
 have js:∀ {i j:Nat} {x:Cel},i<n->(f i)[j]? = some x->j<s:=fun hi hx=>by rw[<-h.len _ hi]; exact(bZ.1 hx).1
 have back:∀ {c':Cel},c'.owned=false->∀ (i j:Nat) c,i<n->(kJ f k off c' i)[j]? = some c->c.owned=true->¬ (i=k/\j=off)/\(f i)[j]? = some c:=fun hc i j c hi hx ho=>by
  rcases dI hx with⟨_,_,rfl⟩ | hx
  ·rw[hc]at ho; cases ho
  ·exact hx
 unfold uX at he;split at he
 ·rename_i y;cases he;exact⟨h.set hk hoff rfl (hv.cells_t rfl |>.mono hF) hcur hq hF hoth (fun i j p e=>by cases e),back rfl⟩
 ·rename_i y i j p;split at he
  ·cases he
  ·rename_i hj;have hj:=gD hj;cases he;refine⟨h.set hk hoff rfl (hv.cells_t rfl |>.mono hF) hcur hq hF hoth (fun i' j' p' e=>?_),back rfl⟩;cases e;obtain⟨q1,q2,q3⟩:=h.ov _ _ _ rfl;refine⟨q1,by rw[zC (fun e=>hj e.2)]; exact q2,fun u hu=>?_⟩;rw[hcur _ (fun e=>hj (tZ (js q1 q2) hoff e).2)]at hu;exact(q3 u hu).mono hF (fun _ _=>rfl)
 ·rename_i q;cases he;refine⟨h.set hk hoff rfl True.intro hcur hq hF hoth (fun i' j' p' e=>?_),back rfl⟩;cases e;refine⟨hk,tO (by rw[h.len k hk]; exact hoff),fun u hu=>?_⟩;rw[hq]at hu;cases hu;exact hv.mono hF (fun _ _=>rfl)
 ·cases he
theorem lY(r:bA E F g st a w){i:bV}(hi:TOk P t i){d:Option Nat}{x:PV}(h:mM st i d p x=some (st',C))(hC:C){u:Value}
  (hu:VR F g w p u)(hv:VR F g w x v):d=none/\∃ w',(Instr.storeAt t u v).run P w = .ok () w'/\bA E F g st' a w':=by
 unfold mM at h;split at h
 ·cases h
 ·refine⟨rfl,?_⟩;obtain⟨hvs,hvc⟩:=hv.cells;cases p with
  | ptr o off=>
   simp only at h;split at h
   ·rename_i l hl;split at h
    ·rename_i h1 h2 h3;have h1:=aZ h1;have h2:=cP h2;cases h;have hlm:=aE hl;obtain⟨b,vs,ty,e1,e2,e3,e4⟩:=r.w.hp.obj _ _ hlm;cases hu with
     | @ptr _ _ b' hg=>
      rw[e1]at hg; injection hg with hg; injection hg with hg; injection hg with hg; subst hg;refine⟨_,jR hi e2 (by omega) (by omega) (vF hv h3),r.write hlm (by rw[e1]; rfl) e2 ⟨b,_,ty,e1,setRow_heap w b vs _ ty _ e2,?_,fun k y z hy hz=>?_⟩⟩
      ·simp only[hJ,gB,cL,fC,dY]; omega
      ·have hFb:=(r.w.hp.own o _ b hlm (.self (by rw[e1]; rfl))).1;refine VR.mono (nR hFb) ?_ (fun _ _=>rfl);simp only[lG,eC]at hz;rw[eC]at hy;by_cases hk:k<off
       ·rw[dB (by simp; omega),dZ,aH hk]at hy;rw[dB (by simp; omega),dZ,aH hk]at hz;exact e4 k y z hy (by simpa using hz)
       ·rw[dF (by simp; omega)]at hy;rw[dF (by simp; omega)]at hz;simp only[cL,dY]at hy hz;rw[show min off l.length=off by omega]at hy;rw[show min off vs.size=off by omega]at hz;by_cases hk2:k<off+i.size
        ·rw[dB (by omega)]at hy;rw[dB (by simp; omega)]at hz;exact hvc _ y z hy (by simpa using hz)
        ·rw[dF (by omega),fL]at hy;rw[dF (by simp; omega),fL]at hz;simp only[dY]at hz;rw[show off+i.size+(k-off-x.cells.length)=k by omega]at hy;rw[show off+i.size+(k-off-v.cells.size)=k by omega]at hz;exact e4 k y z hy (by simpa using hz)
    ·cases h
   ·cases h
  | aptr o s k off=>
   simp only at h;split at h
   ·rename_i e s' n f c hl hc;split at h
    ·rename_i h1 h2 h3 h4;have h1:=aZ h1;have h2:=aZ h2;have h3:=cP h3;cases h;subst h1;have hlm:=aE hl;have hce:=uR hc;have hcl:x.cells.length=c.length:=by rw[hce]; simp
     rcases r.w.hp.obj _ _ hlm with⟨e1,e2⟩ | ⟨b,cap,cur,e1,e2,e3,e4,e5,e6,e7⟩
     ·omega
     ·cases hu with
      | @aptr _ _ _ _ b' n' cap' hg=>
       rw[e1]at hg; injection hg with hg g2 g3; injection hg with hg; injection hg with hg; subst hg;have hrow:(k+1)*s'<=cur.size:=by rw[e5]; exact dH _ (by omega)
       rw[dU,gL]at hrow;have hfk:(f k).length=s':=e6 k hC;rw[Jz hfk];refine⟨_,jR hi e2 (by omega) (by omega) (vF hv h4),r.write hlm (by rw[e1]; rfl) e2 ?_⟩;have hFb:=(r.w.hp.own o _ b hlm (.self (by rw[e1]; rfl))).1;have hF:=nR (F:=F) (w:=w) (cs:=(cur.toList.take (k*s'+off)++v.cells.toList++cur.toList.drop (k*s'+off+i.size)).toArray) hFb;refine RowR.obj ⟨fun i' hi'=>?_,fun i' j x' hi' hx'=>?_⟩ e1 (setRow_heap w b cur _ e _ e2) e3 e4 ?_
       ·unfold kI wN;split
        ·simp only[gB,cL,fC]; omega
        ·exact e6 i' hi'
       ·have hget:∀ q,q<k*s'+off\/k*s'+off+i.size<=q->((cur.toList.take (k*s'+off)++v.cells.toList++cur.toList.drop (k*s'+off+i.size)).toArray)[q]? = cur[q]?:=by
         intro q hq;simp only[lG,eC];rcases hq with hq | hq
         ·rw[dB (by simp; omega),dZ,aH hq]; simp
         ·rw[dF (by simp; omega),dF (by simp; omega),fL];simp only[cL,dY,rK]
          congr 1; omega
        have hmid:∀ q,q<i.size->((cur.toList.take (k*s'+off)++v.cells.toList++cur.toList.drop (k*s'+off+i.size)).toArray)[k*s'+off+q]? = v.cells[q]?:=by
         intro q hq;simp only[lG,eC];rw[dF (by simp; omega),dB (by simp; omega)];simp only[cL,dY,rK]
         congr 1; omega
        unfold kI at hx';split at hx'
        ·rename_i hik;subst hik;unfold wN at hx';have hjs:j<s':=by have:=(bZ.1 hx').1;simp only[gB,cL,fC]at this;omega
         by_cases hj:j<off
         ·rw[eC,dB (by simp; omega),dZ,aH hj]at hx';obtain⟨z,hz,hr⟩:=e7 i' j x' hi' hx';exact⟨z,by rw[hget _ (by omega)]; exact hz,hr.mono hF⟩
         ·by_cases hj2:j<off+i.size
          ·rw[eC,dF (by simp; omega),dB (by simp; omega)]at hx';simp only[cL]at hx';rw[show min off (f i').length=off by omega]at hx';have hq:j-off<v.cells.size:=by omega
           refine⟨v.cells[j-off],?_,?_⟩
           ·have:=hmid (j-off) (by omega);rw[show i'*s'+off+(j-off)=i'*s'+j by omega]at this;rw[this]; simp[hq]
           ·have:=hvc (j-off) (.t x') v.cells[j-off] (by rw[hce]; simp[hx']) (by simp[hq]);exact(this.cells_t rfl).mono hF
          ·rw[dF (by simp; omega),fL]at hx';simp only[gB,cL]at hx';rw[show off+c.length+(j-(min off (f i').length+c.length))=j by omega]at hx';obtain⟨z,hz,hr⟩:=e7 i' j x' hi' hx';exact⟨z,by rw[hget _ (by omega)]; exact hz,hr.mono hF⟩
        ·rename_i hik;obtain⟨z,hz,hr⟩:=e7 i' j x' hi' hx';have hjs:j<s':=by rw[<-e6 i' hi']; exact(bZ.1 hx').1
         refine⟨z,?_,hr.mono hF⟩;rw[hget]
         ·exact hz
         ·rcases Nat.lt_or_gt_of_ne hik with hlt | hgt
          ·left;have:(i'+1)*s'<=k*s':=dH _ hlt;rw[dU,gL]at this; omega
          ·right;have:(k+1)*s'<=i'*s':=dH _ hgt;rw[dU,gL]at this; omega
       ·simp only[hJ,gB,cL,fC,dY]; omega
    ·cases h
   ·rename_i e s' n f ov hl;split at h
    ·rename_i f' ov' h1 h2 h3 h4 h5;have h1:=aZ h1;have h2:=aZ h2;have h3:=cP h3;cases h;subst h1;have hlm:=aE hl;have hxc:x.cells=[x]:=by
      cases x with
      | agg l=>cases h4
      | tup l=>cases h4
      | t y=>cases y <;> first | rfl | cases h4
      | _=>rfl
     have hvs1:v.cells.size=1:=by rw[hvs,hxc]; rfl
     obtain⟨z,hz⟩:∃ z,v.cells=#[z]:=by obtain⟨z,hz⟩:=Array.size_eq_one_iff.1 hvs1;exact⟨z,hz⟩
     have hvz:VR F g w x z:=hvc 0 x z (by rw[hxc]; rfl) (by rw[hz]; rfl);rcases r.w.hp.obj _ _ hlm with⟨e1,e2,_⟩ | ⟨b,cap,cur,e1,e2,e3,e4,e5,hA⟩
     ·omega
     ·cases hu with
      | @aptr _ _ _ _ b' n' cap' hg=>
       rw[e1]at hg; injection hg with hg g2 g3; injection hg with hg; injection hg with hg; subst hg;have hrow:(k+1)*s'<=cur.size:=by rw[e5]; exact dH _ (by omega)
       rw[dU,gL]at hrow;have hFb:=(r.w.hp.own o _ b hlm (.self (by rw[e1]; rfl))).1;have hcs:∀ q,((cur.toList.take (k*s'+off)++v.cells.toList++cur.toList.drop (k*s'+off+i.size)).toArray)[q]? = if q=k*s'+off then some z else cur[q]?:=by
        intro q;rw[hz,h2];simp only[lG,eC];by_cases hq:q<k*s'+off
        ·rw[dB (by simp; omega),dZ,aH hq,aT (by omega)]; simp
        ·rw[dF (by simp; omega)];simp only[cL,dY];rw[show min (k*s'+off) cur.size=k*s'+off by omega];by_cases hq2:q=k*s'+off
         ·subst hq2; simp
         ·rw[aT hq2,dF (by simp; omega),fL];simp only[List.length_singleton,rK]
          congr 1; omega
       obtain⟨hN,hB⟩:=Dt (w':=w.setRow b (cur.toList.take (k*s'+off)++v.cells.toList++cur.toList.drop (k*s'+off+i.size)).toArray) h5 hA hC (by omega) hvz (fun q hq=>by rw[hcs,aT hq]) (by rw[hcs,aH rfl]) (nR hFb) (fun q hq=>setRow_other w b q _ hq);refine⟨_,jR hi e2 (by omega) (by omega) (vF hv (by rw[hxc]; simp[h4])),r.writeF hlm (.self (by rw[e1]; rfl)) (fun q hq=>setRow_other w b q _ hq) (by simp) rfl rfl rfl ?_ fun q hq=>?_⟩
       ·exact .inr ⟨b,cap,_,e1,setRow_heap w b cur _ e _ e2,e3,e4,by simp only[hJ,gB,cL,fC,dY]; omega,hN⟩
       ·cases hq with
        | self hq=>exact .self hq
        | @arm _ _ _ _ _ _ bm capm i' j' curm xm vm hg hbm hi' hx hy hvm hbl=>
         rw[e1]at hg; injection hg with hg g2 g3; injection hg with hg; injection hg with hg; subst hg;rw[setRow_heap w b cur _ e _ e2]at hbm;injection hbm with hbm; injection hbm with hbm;subst hbm;obtain⟨hne,hx'⟩:=hB i' j' xm hi' hx hy;have hjs:j' < s':=by rw[<-hA.len i' hi']; exact(bZ.1 hx').1
         rw[hcs,aT (fun e=>hne (tZ hjs (by omega) e))]at hvm;exact .arm e1 e2 hi' hx' hy hvm hbl
    ·cases h
   ·cases h
  | _=>simp at h
theorem Ji(hI:gE P I.ti)(hn:E.N=I.N)(hnt:E.nt=I.nt)(r:bA E F g st a w)(o:Oper)(h:fF I st o=some (st',C))(hC:C):
  ∃ n v w',(execOp a.eval o).run P w = .ok n w'/\(n = .value v\/(n = .skip/\v=undef))/\Rel E st' (a.put o.dst v) w':=by
 unfold fF at h;split at h
 ·rename_i e d hop hd;split at h
  ·rename_i i hi;split at h
   ·rename_i st1 hst;cases h;obtain⟨v,w',h1,h2⟩:=wA hI hn hnt r hi hst;exact⟨_,v,w',by unfold execOp; simp[hop,h1],.inl rfl,by rw[hd]; exact h2⟩
   ·cases h
  ·cases h
 ·rename_i e x d hop hd;split at h
  ·rename_i p hp;split at h
   ·rename_i hm;split at h
    ·rename_i st1 hst;cases h;obtain⟨v,w',h1,h2⟩:=Pp (P:=P) hn hnt r (e:=e) (aR r hp) hm hst;exact⟨_,v,w',by unfold execOp; simp[hop,h1],.inl rfl,by rw[hd]; exact h2⟩
    ·cases h
   ·cases h
  ·cases h
 ·rename_i t len parts d hop hd;split at h
  ·rename_i i ps hi hps;split at h
   ·rename_i e hu;split at h
    ·rename_i j hj;split at h
     ·rename_i c h1 h2 h3 h4;split at h
      ·rename_i ts h5 h6;split at h
       ·rename_i st1 hst;cases h;have hd':=(hI _ _ hi).und;rw[hu]at hd';obtain⟨v,w',h7,h8⟩:=iW hn hnt r hd' (hI _ _ hj) hps (cP h1) (cP h2) (aZ h3) h4 (.of h5) (aZ h6) hst;exact⟨_,v,w',by unfold execOp; simp[hop,h7],.inl rfl,by rw[hd]; exact h8⟩
       ·cases h
      ·rename_i h5 h6;split at h
       ·rename_i cs ov h7 h8 h9;split at h
        ·rename_i st1 hst;cases h;have hd':=(hI _ _ hi).und;rw[hu]at hd';obtain⟨v,w',h10,h11⟩:=qU hn hnt r hd' (hI _ _ hj) (aZ h7) hps (cP h1) (cP h2) (aZ h3) h4 h8 h9 (aZ h6) hst;exact⟨_,v,w',by unfold execOp; simp[hop,h10],.inl rfl,by rw[hd]; exact h11⟩
        ·cases h
       ·cases h
      ·cases h
     ·cases h
    ·cases h
   ·cases h
  ·cases h
 ·rename_i t y x d hop;split at h
  ·rename_i i p q hi hp hq;obtain⟨hd,w',h1,h2⟩:=lY (P:=P) r (hI _ _ hi) h hC (aR r hp) (Tc (aR r hq));refine⟨.skip,undef,w',by unfold execOp; simp[hop,h1],.inr ⟨rfl,rfl⟩,?_⟩;rw[hd];exact⟨F,g,h2⟩
  ·cases h
 ·rename_i t d hop hd;split at h
  ·rename_i i hi;split at h
   ·rename_i kt et hu;split at h
    ·rename_i ik hik;split at h
     ·rename_i st1 hst;cases h;have hrun:(Instr.makeMap t none).run P w = .ok (.map (some w.heap.size)) (w.alloc (.map #[] 0)):=rfl;refine⟨_,.map (some w.heap.size),w.alloc (.map #[] 0),by unfold execOp; simp[hop,hrun],.inl rfl,by rw[hd];exact iI hn hnt r hst (ob:=.map #[] 0) rfl rfl rfl rfl rfl (fun g' hg1 hg2=>⟨w.heap.size,#[],0,hg2,heap_alloc_new w _,rfl,by simp,by simp⟩) (fun g' hg=>.map hg)⟩
     ·cases h
    ·cases h
   ·cases h
  ·cases h
 ·rename_i t x k v hop hd;split at h
  ·rename_i p q b hp hq hb;split at h
   ·rename_i n m o' ks hm;cases h;obtain⟨w',h1,h2⟩:=uP (bb:=b) hI r hm (aR r hp) (aR r hq);have hv:=(aR r hb).inv_bool;rw[<-hv]at h1;refine⟨.skip,undef,w',by unfold execOp; simp[hop,h1],.inr ⟨rfl,rfl⟩,?_⟩;rw[hd];exact⟨F,g,h2⟩
   ·cases h
  ·cases h
 ·rename_i c d hop hd;obtain⟨cal,args,ats⟩:=c;simp only at h;split at h
  ·rename_i s x t t' ha ht;have ha':args=#[s,x]:=by rw[<-iC (xs:=args),ha]
   have ht':ats=#[t,t']:=by rw[<-iC (xs:=ats),ht]
   subst ha'; subst ht';split at h
   ·rename_i i p q h1 hi hp hq;have h1:=aZ h1;subst h1;split at h
    ·rename_i e m f2 s2 hu hq';have hd':=(hI _ _ hi).und;rw[hu]at hd';split at h
     ·rename_i j hj;split at h
      ·rename_i h2 h3 h4 h5;have h2:=cP h2;have h3:=cP h3;have h5:=aZ h5;split at h
       ·split at h
        ·rename_i st1 hst;cases h;obtain⟨hC1,hC2⟩:=hC;obtain⟨news,hs⟩:=oG r (aR r hq) hq' h2 h4 hC2;have hv:=aR r hp;obtain⟨u,hu'⟩:∃ u,a.eval s=u:=⟨_,rfl⟩;rw[hu']at hv;cases hv with
         | nil=>obtain⟨v,w',h7,h8⟩:=iY (P:=P) hn hnt r hd' (hI _ _ hj) o.type h3 h5 hs (by simpa using hC1) hst;exact⟨_,v,w',by unfold execOp; simp[hop,resolve,invoke,builtin,hu',h7],.inl rfl,by rw[hd]; exact h8⟩
        ·cases h
       ·rename_i o';split at h
        ·rename_i e' s' n f1 st1 hl he;split at h
         ·rename_i st2 h6 h7 hst;have h6:=aZ h6;have h7:=aZ h7;subst h6; subst h7;cases h;obtain⟨hC1,hC2⟩:=hC;obtain⟨news,hs⟩:=oG r (aR r hq) hq' h2 h4 hC2;obtain⟨v,w',h8,h9⟩:=mH (P:=P) hn hnt r hd' (hI _ _ hj) o.type h3 h5 (aR r hp) hs hC1 hl (.of he) hst;exact⟨_,v,w',by unfold execOp; simp[hop,resolve,invoke,builtin,h8],.inl rfl,by rw[hd]; exact h9⟩
         ·cases h
        ·cases h
       ·cases h
      ·cases h
     ·cases h
    ·rename_i e hu hq';have hd':=(hI _ _ hi).und;rw[hu]at hd';split at h
     ·rename_i j o2 hj;obtain⟨v,w',h8,h9⟩:=Ce (P:=P) hn hnt r hd' (hI _ _ hj) o.type (aR r hp) (aR r hq) h hC;exact⟨_,v,w',by unfold execOp; simp[hop,resolve,invoke,builtin,h8],.inl rfl,by rw[hd]; exact h9⟩
     ·cases h
    ·cases h
   ·cases h
  ·cases h
 ·cases h
end
end Go.PL
namespace Go.PL
open Go Go.Lib
section
variable {P:Program} {E:Env} {F:Nat->Prop} {g:Nat->Value} {st:St} {a:Act} {w:World}
theorem jC(w:World)(t u ty e:TypeId)(i:TypeInfo)(z:Value)(ht:P.underlying t=some (.slice e))(hu:P.underlying u=some .string)(hi:P.info? e=some i)(hz:i.zero=some z)
  (s:ByteArray)(h0:0<s.size)(h63:(s.size:Int)<=9223372036854775807)(h48:s.size*i.bytes<=281474976710656):
  (Builtin.append_ #[t,u] ty #[.slice none 0 0,.string s]).run P w =
   .ok (.slice (some ⟨w.heap.size,0,none⟩) s.size (grownCap w s.size 0 e)) (w.drew.alloc (.cells ((strCells s).toArray++Builtin.zeroCells z.cells (grownCap w s.size 0 e-s.size)) e)):=by
 rw[run_append_nil_string w t u ty e i z ht hu hi hz s h0 h63 h48];have:s.data.map (fun b=>Value.int .u8 b.toNat)=(strCells s).toArray:=by apply Array.ext'; simp[strCells]
 rw[this]
end
end Go.PL
namespace Go.PL
open Go
variable {H:Hp} {K:Act->World->Prop} {Q':Exit->Act->World->Prop} {a:Act} {b:Bool} {c:Call} {d id k n nf o s t:Nat} {e:TypeId} {f:Operand} {fn:Func} {i:bV} {l ops rest:List Oper} {v:Value} {w':World} {y:Code} {α:Type}
def All:List Prop->Prop
 | []=>True
 | [p]=>p
 | p::l=>p/\All l
theorem All.cons{p:Prop}{l:List Prop}:All (p::l)↔p/\All l:=by
 cases l with
 | nil=>simp[All]
 | cons q l=>simp[All]
theorem All.append{l r:List Prop}:All (l++r)↔All l/\All r:=by
 induction l with
 | nil=>simp[All]
 | cons p l ih=>simp only[wR,All.cons,ih,and_assoc]
def isC(st:St):Op->Bool
 | .load _ a=>match ev st a with | some (.aptr ..)=>true | _=>false
 | .store _ a _=>match ev st a with | some (.aptr ..)=>true | _=>false
 | .binOp .quo _ _ _ _=>true
 | .binOp .rem _ _ _ _=>true
 | .binOp .shl _ _ _ _=>true
 | .binOp .shr _ _ _ _=>true
 | .binOp .add _ x _ _=>match ev st x with | some (.t (.str _))=>true | _=>false
 | .indexAddr ..=>true
 | .index ..=>true
 | .slice ..=>true
 | .convert _ _ x=>match ev st x with | some (.t (.int ..))=>false | _=>true
 | .call c=>match c.callee with | .builtin .append=>true | _=>false
 | .entry _=>true
 | _=>false
def iV(b:Bool)(C:Prop):List Prop:=match b with | true=>[C] | false=>[]
def aU(ops:List Oper)(o:Oper)(st:St):Option Bool:=
 match o.guard with
 | none=>some true
 | some (j,b)=>match ops[j]? with
  | some oj=>match oj.dst with
   | some d=>match look st.fr d,b with
    | some (.t (.bool true)),true=>some true
    | some (.t (.bool false)),false=>some true
    | some (.t (.bool true)),false=>some false
    | some (.t (.bool false)),true=>some false
    | some (.tup []),_=>some false
    | _,_=>none
   | none=>none
  | none=>none
def tL(I:Inf)(ops:List Oper)(o:Oper)(st:St):Option (St×List Prop):=
 match aU ops o st with
 | some true=>match o.op with
  | .store ..=>match fF I st o with | some (st',C)=>some (st',iV (isC st o.op) C) | none=>none
  | .alloc ..=>match fF I st o with | some (st',C)=>some (st',iV (isC st o.op) C) | none=>none
  | .box ..=>match fF I st o with | some (st',C)=>some (st',iV (isC st o.op) C) | none=>none
  | .buildSlice ..=>match fF I st o with | some (st',C)=>some (st',iV (isC st o.op) C) | none=>none
  | .makeMap ..=>match fF I st o with | some (st',C)=>some (st',iV (isC st o.op) C) | none=>none
  | .mapUpdate ..=>match fF I st o with | some (st',C)=>some (st',iV (isC st o.op) C) | none=>none
  | .call { callee:=.builtin .append,.. }=>match fF I st o with | some (st',C)=>some (st',iV (isC st o.op) C) | none=>none
  | op=>match pev I st op,o.dst with
   | some (x,C),some d=>match Nat.blt d I.nt with | true=>some (st.put d x,iV (isC st op) C) | false=>none
   | _,_=>none
 | some false=>match o.dst with
  | some d=>match Nat.blt d I.nt with | true=>some (st.put d (.tup []),[]) | false=>none
  | none=>some (st,[])
 | none=>none
def tQ{α:Type}(l:List (Nat×α)):List Nat->Option (List (Nat×α))
 | []=>some []
 | t::ts=>match look l t,tQ l ts with
  | some x,some r=>some ((t,x)::r)
  | _,_=>none
theorem oB{α:Type}{l:List (Nat×α)}:∀ {ts:List Nat} {r:List (Nat×α)},tQ l ts=some r->∀ e,e∈r->e∈l
 | [],r,h=>by simp[tQ]at h; subst h; simp
 | t::ts,r,h=>by
  simp only[tQ]at h;split at h
  ·rename_i x r' hx hr;cases h;intro e he;rcases aL.1 he with rfl | he
   ·exact aE hx
   ·exact oB hr e he
  ·cases h
def St.keep(ts os:List Nat)(st:St):Option St:=
 match tQ st.fr ts,tQ st.hp os with
 | some f,some h=>some ⟨f,h⟩
 | _,_=>none
section
variable {P:Program} {E:Env}
theorem HpR.sub{F:Nat->Prop}{g:Nat->Value}{w:World}{B:Nat->Prop}{H':Hp}(h:HpR F g w B H)(hs:∀ e,e∈H'->e∈H):HpR F g w B H':=
 ⟨fun o x hx=>h.obj o x (hs _ hx),fun o x b hx=>h.own o x b (hs _ hx),fun o x o' y b hx hy=>h.sep o x o' y b (hs _ hx) (hs _ hy)⟩
theorem Rel.sub{st st':St}{a:Act}{w:World}(r:Rel E st a w)(hf:∀ e,e∈st'.fr->e∈st.fr)(hh:∀ e,e∈st'.hp->e∈st.hp):Rel E st' a w:=by obtain⟨F,g,r⟩:=r;exact⟨F,g,r.nt,r.df,fun t x hx=>r.fr t x (hf _ hx),⟨r.w.hp.sub hh,r.w.f0,r.w.f1,r.w.ext,r.w.names,r.w.b0⟩⟩
theorem Rel.keep{st st':St}{ts os:List Nat}(h:st.keep ts os=some st'){a:Act}{w:World}(r:Rel E st a w):Rel E st' a w:=by
 unfold St.keep at h;split at h
 ·rename_i f hp h1 h2;cases h;exact r.sub (oB h1) (oB h2)
 ·cases h
theorem vR{F:Nat->Prop}{g:Nat->Value}{st:St}{w:World}(r:bA E F g st a w){x:PV}(h:look st.fr d=some x):VR F g w x (a.tmps.getD d undef):=r.fr d x (aE h)
theorem dM{st:St}{w:World}{F:Nat->Prop}{g:Nat->Value}(r:bA E F g st a w){ops:Array Oper}{o:Oper}(h:aU ops.toList o st=some b):
  Region.wanted o (yielded ops a.tmps)=b:=by
 unfold aU at h;unfold Region.wanted;split at h
 ·rename_i hg; rw[hg]; cases h; rfl
 ·rename_i j want hg;rw[hg];split at h
  ·rename_i oj hj;split at h
   ·rename_i d hd;have hy:∀ v,a.tmps.getD d undef=v->(∀ x,v ≠ .bool x->yielded ops a.tmps j≠some x)/\(∀ x,v = .bool x->yielded ops a.tmps j=some x):=by
     intro v hv;have hj':ops[j]? = some oj:=by simpa using hj
     unfold yielded;rw[hj'];simp only[eI,hd];by_cases hlt:d<a.tmps.size
     ·simp[hlt]at hv;simp only[vW hlt,hv];refine⟨fun x hx=>?_,fun x hx=>by rw[hx]⟩;split
      ·rename_i y hy; cases hy; exact fun e=>hx (by injection e with e; rw[e])
      ·simp
     ·simp[hlt]at hv;rw[Array.getElem?_eq_none (Nat.le_of_not_lt hlt)];subst hv;exact⟨fun x _=>by simp,fun x hx=>by simp[undef]at hx⟩
    split at h
    all_goals first
     | (rename_i hl
        cases h
        first
         | (have hv:=(vR r hl).inv_bool
            have:=(hy _ hv).2 _ rfl;simp[this])
         | (have hv:=vR r hl
            generalize hu:a.tmps.getD d undef=u at hv;cases hv with
            | tup hs hr=>have h1:=fun y=>(hy _ hu).1 y (by simp);simp[h1]))
     | cases h
   ·cases h
  ·cases h
theorem Ew{I:Inf}{st:St}{op:Op}{x:PV}{C:Prop}(h:pev I st op=some (x,C))(hc:isC st op=false):C:=by
 have htr:∀ {y:Option PV},tr y=some (x,C)->C:=by intro y hy; unfold tr at hy; split at hy <;> cases hy; trivial
 cases op <;> simp only[pev]at h
 all_goals try (exact htr h)
 all_goals try (cases h; done)
 case pick=>split at h <;> first | exact htr h | cases h
 case load t a=>
  split at h
  ·rename_i i p hi hp;simp only[isC,hp]at hc;cases p <;> simp only[pA]at h
   case aptr=>simp at hc
   all_goals first
    | (split at h
       ·split at h
        ·cases h; trivial
        ·cases h
       ·cases h)
    | (split at h
       ·cases h; trivial
       ·cases h)
    | cases h
  ·cases h
 case nilCheck=>split at h <;> first | (cases h; trivial) | cases h
 case binOp op t y z u=>
  split at h
  ·unfold Qi at h; split at h <;> cases h <;> trivial
  ·unfold Ri at h; split at h <;> cases h <;> trivial
  ·unfold Og at h;split at h
   ·split at h
    ·split at h
     ·split at h <;> cases h <;> trivial
     ·split at h
      ·split at h <;> cases h <;> trivial
      ·cases h
     ·cases h
    ·cases h
   ·cases h
  ·rename_i i p q _ _ hi hp hq;unfold Oo at h;split at h
   ·split at h
    ·rename_i hsh; cases op <;> simp[Ty,isC]at hsh hc
    split at h
    ·cases op <;> simp[Am,isC]at h hc
     all_goals (obtain⟨_,h⟩:=h; exact h)
    ·cases h
   ·unfold tF at h; split at h <;> cases h <;> trivial
   ·unfold tF at h; split at h <;> cases h <;> trivial
   ·cases op <;> simp[Ax,isC,hp]at h hc
    all_goals (obtain⟨_,h⟩:=h; exact h)
   ·unfold Gm at h;split at h
    ·split at h
     ·split at h
      ·cases h; trivial
      ·cases h; trivial
      ·cases h
     ·cases h
    split at h
    ·split at h
     ·split at h
      ·cases h; trivial
      ·cases h; trivial
      ·cases h
     ·cases h
    ·cases h
   ·split at h
    ·cases op <;> simp[uU]at h
     all_goals (obtain⟨_,h⟩:=h; exact h)
    ·cases h
   ·cases h
  ·cases h
 case unOp=>split at h <;> first | (unfold unP at h; split at h <;> first | (cases h; trivial) | cases h) | cases h
 case convert s d y=>
  split at h
  ·rename_i hp;split at h
   ·cases h; trivial
   ·cases h
  ·rename_i i j p hne hi hj hp;exfalso;have key:∀ q,ev st y=q->isC st (.convert s d y)=false->∃ k n,q=some (.t (.int k n)):=by
    intro q hq hc;simp only[isC,hq]at hc;split at hc
    ·exact⟨_,_,rfl⟩
    ·cases hc
   obtain⟨k,n,hk⟩:=key _ hp hc;cases hk;exact hne _ _ rfl
  ·cases h
 case makeFunc=>split at h <;> first | (cases h; trivial) | cases h
 case fieldAddr=>split at h <;> first | (split at h <;> first | (split at h <;> first | (cases h; trivial) | cases h) | cases h) | cases h
 case field=>split at h <;> first | (split at h <;> first | (split at h <;> first | (split at h <;> first | (split at h <;> first | exact htr h | cases h) | cases h) | cases h) | cases h) | cases h
 case extract=>split at h <;> first | exact htr h | cases h
 case indexAddr=>simp[isC]at hc
 case index=>simp[isC]at hc
 case lookup t x k ok=>
  cases ok
  ·simp at h
  ·simp only at h;split at h
   ·split at h
    ·cases h; trivial
    ·cases h
   ·cases h
 case slice=>simp[isC]at hc
 case entry=>simp[isC]at hc
 case call c=>unfold Hq at h;split at h <;> first | (split at h <;> first | exact htr h | (split at h <;> first | (cases h; trivial) | cases h) | cases h) | cases h
end
abbrev dQ:=Exit->St->Prop
def kK(E:Env)(Q:dQ):Exit->Act->World->Prop:=fun e a w=>∃ st,Q e st/\Rel E st a w
def pwp(P:Program)(E:Env)(c:Code)(Q:dQ)(st:St):Prop:=∀ a w,Rel E st a w->c.wp P (kK E Q) a w
def bY(P:Program)(E:Env)(ops:List Oper)(Q:dQ)(l:List Oper)(st:St):Prop:=∀ a w,Rel E st a w->wpList P ops.toArray (kK E Q) l a w
def uF:String := "internal/strconv.uint64pow10"
def Wc:Bool:=true
def GLE(P:Program)(F:Nat->Prop)(w:World)(name:String):Prop:=∀ b,P.globalNamed name=some b->(∃ ev,w.cell? ⟨b,0,none⟩=some ev/\(ev = .nilIface\/∃ te pe,ev = .iface te pe))/\F b
theorem GLE.mono{P:Program}{F F':Nat->Prop}{w:World}{name:String}(h:GLE P F w name)(hF:∀ b,F b->F' b/\w'.heap[b]? = w.heap[b]?):GLE P F' w' name:=by intro b hb;obtain⟨⟨ev,h1,h2⟩,h3⟩:=h b hb;refine⟨⟨ev,?_,h2⟩,(hF b h3).1⟩;rw[World.cell?_of_block (w:=w) (w':=w') (hF b h3).2];exact h1
def GLT(P:Program)(F:Nat->Prop)(w:World):Prop:=∀ b,P.globalNamed uF=some b->Lib.TabIs P w uF .u64 Lib.pow10Tab/\F b
theorem GLT.mono{P:Program}{F F':Nat->Prop}{w:World}(h:GLT P F w)(hF:∀ b,F b->F' b/\w'.heap[b]? = w.heap[b]?):GLT P F' w':=by intro b hb;obtain⟨h1,h2⟩:=h b hb;refine⟨?_,(hF b h2).1⟩;unfold Lib.TabIs World.var? at h1 ⊢;rw[hb]at h1 ⊢;simp only[eI]at h1 ⊢;rw[(hF b h2).2];exact h1
def Xt:Bool:=true
def GLS(P:Program)(F:Nat->Prop)(w:World):Prop:=∀ b,P.globalNamed "strings.asciiSpace" = some b->Lib.TabIs P w "strings.asciiSpace" .u8 Lib.asciiSpaceTab/\F b
theorem GLS.mono{P:Program}{F F':Nat->Prop}{w:World}(h:GLS P F w)(hF:∀ b,F b->F' b/\w'.heap[b]? = w.heap[b]?):GLS P F' w':=by intro b hb;obtain⟨h1,h2⟩:=h b hb;refine⟨?_,(hF b h2).1⟩;unfold Lib.TabIs World.var? at h1 ⊢;rw[hb]at h1 ⊢;simp only[eI]at h1 ⊢;rw[(hF b h2).2];exact h1
def GLM(P:Program)(F:Nat->Prop)(w:World):Prop:=∀ b,P.globalNamed "internal/bytealg.MaxLen" = some b->(∃ m,w.cell? ⟨b,0,none⟩=some (.int .i64 m))/\F b
theorem GLM.mono{P:Program}{F F':Nat->Prop}{w:World}(h:GLM P F w)(hF:∀ b,F b->F' b/\w'.heap[b]? = w.heap[b]?):GLM P F' w':=by intro b hb;obtain⟨⟨m,h1⟩,h3⟩:=h b hb;refine⟨⟨m,?_⟩,(hF b h3).1⟩;rw[World.cell?_of_block (w:=w) (w':=w') (hF b h3).2];exact h1
structure GLP (P:Program)(F:Nat->Prop)(w:World):Prop where
 tab:GLT P F w
 err:Wc=true->GLE P F w "strconv.ErrSyntax" /\ GLE P F w "strconv.ErrRange"
 sp:Xt=true->GLS P F w/\GLM P F w
theorem GLP.mono{P:Program}{F F':Nat->Prop}{w w':World}(h:GLP P F w)(hF:∀ b,F b->F' b/\w'.heap[b]? = w.heap[b]?):GLP P F' w':=
 ⟨h.tab.mono hF,fun he=>⟨(h.err he).1.mono hF,(h.err he).2.mono hF⟩,fun he=>⟨(h.sp he).1.mono hF,(h.sp he).2.mono hF⟩⟩
def jI(P:Program)(d:Deferred):Prop:=∃ fv cap f args,d.target = .fn fv cap/\(∀ w,(invoke d.target d.args).run P w = .ok (.enter f args) w) /\
 ∀ w,CallsD P f args .returning w fun e u' w'=>(∃ v,e = .returned v)/\u' = .returning/\w'=w
theorem kE{P:Program}{fn:Func}{tmps:Array Value}{R:Ending->World->Prop}{w:World}{v:Value}(hr:(results fn tmps).run P w = .ok v w)(hR:R (.returned v) w):
  ∀ ds:List Deferred,(∀ d,d∈ds->jI P d)->Leaves P fn tmps R ds .returning w
 | [],_=>⟨v,hr,hR⟩
 | d::ds,h=>by obtain⟨fv,cap,f,args,h1,h2,h3⟩:=h d (bT ..);refine⟨by simp,fv,cap,f,args,h1,h2 w,(h3 w).mono ?_⟩;rintro e u' w' ⟨⟨v',rfl⟩,rfl,rfl⟩;exact kE hr hR ds fun d hd=>h d (bI _ hd)
structure cZ (P:Program)(E:Env)(I:Inf):Prop where
 dk:E.dok=jI P
 ti:gE P I.ti
 N:E.N=I.N
 nt:E.nt=I.nt
 gl:GLP P E.F0 E.w0
 sep:∀ b,E.F0 b->¬ E.B0 b/\b<E.w0.heap.size
theorem cZ.glw{P:Program}{E:Env}{I:Inf}(hG:cZ P E I){F:Nat->Prop}{g:Nat->Value}{w:World}(r:wQ E F g H w):GLP P F w:=
 hG.gl.mono fun b hb=>⟨r.f0 b hb,r.ext.block b (hG.sep b hb).2 (hG.sep b hb).1⟩
section
variable {P:Program} {E:Env} {I:Inf} {Q:dQ} {st st':St}
theorem Gs(hG:cZ P E I){ops:Array Oper}{o:Oper}{Cs:List Prop}(h:tL I ops.toList o st=some (st',Cs))(hC:All Cs){w:World}(r:Rel E st a w) 
  (hk:∀ a' w',Rel E st' a' w'->K a' w'):if Region.wanted o (yielded ops a.tmps) then o.wp P a w K Q' else K (a.put o.dst undef) w:=by
 obtain⟨F,g,r⟩:=r;have mem:∀ {C:Prop},fF I st o=some (st',C)->C->Region.wanted o (yielded ops a.tmps)=true->(if Region.wanted o (yielded ops a.tmps) then o.wp P a w K Q' else K (a.put o.dst undef) w):=by
  intro C hs hC hw;obtain⟨n,v,w',h1,h2,h3⟩:=Ji hG.ti hG.N hG.nt r o hs hC;rw[aH hw];unfold Oper.wp;rw[h1];rcases h2 with rfl | ⟨rfl,rfl⟩
  ·exact hk _ _ h3
  ·exact hk _ _ h3
 have memC:∀ {C:Prop},fF I st o=some (st',C)->Cs=iV (isC st o.op) C->(isC st o.op=false->C)->Region.wanted o (yielded ops a.tmps)=true->(if Region.wanted o (yielded ops a.tmps) then o.wp P a w K Q' else K (a.put o.dst undef) w):=by
  intro C hs he hf hw;refine mem hs ?_ hw;cases hc:isC st o.op with
  | false=>exact hf hc
  | true=>rw[he,hc]at hC; exact hC
 unfold tL at h;split at h
 ·rename_i hw;have hw:=dM r hw;split at h
  ·rename_i t x y hop;split at h
   ·rename_i st1 C hs;cases h;refine memC hs rfl (fun hc=>?_) hw;unfold fF at hs;rw[hop]at hs hc;simp only at hs;split at hs
    ·rename_i i p q hi hp hq;simp only[isC,hp]at hc;unfold mM at hs;split at hs
     ·cases hs
     ·cases p with
      | ptr o off=>
       simp only at hs;split at hs
       ·split at hs
        ·cases hs; trivial
        ·cases hs
       ·cases hs
      | aptr=>simp at hc
      | _=>simp at hs
    ·cases hs
   ·cases h
  ·rename_i e hop;split at h
   ·rename_i st1 C hs;cases h;refine memC hs rfl (fun hc=>?_) hw;obtain⟨dst,op,ty,pos,aft,gd⟩:=o;subst hop;unfold fF at hs;simp only at hs;split at hs
    all_goals try (simp_all; done)
    repeat' (first | (cases hs; trivial) | (cases hs; done) | split at hs)
   ·cases h
  ·rename_i e x hop;split at h
   ·rename_i st1 C hs;cases h;refine memC hs rfl (fun hc=>?_) hw;obtain⟨dst,op,ty,pos,aft,gd⟩:=o;subst hop;unfold fF at hs;simp only at hs;split at hs
    all_goals try (simp_all; done)
    repeat' (first | (cases hs; trivial) | (cases hs; done) | split at hs)
   ·cases h
  ·rename_i t len parts hop;split at h
   ·rename_i st1 C hs;cases h;refine memC hs rfl (fun hc=>?_) hw;obtain⟨dst,op,ty,pos,aft,gd⟩:=o;subst hop;unfold fF at hs;simp only at hs;split at hs
    all_goals try (simp_all; done)
    repeat' (first | (cases hs; trivial) | (cases hs; done) | split at hs)
   ·cases h
  ·rename_i t rs hop;split at h
   ·rename_i st1 C hs;cases h;refine memC hs rfl (fun hc=>?_) hw;obtain⟨dst,op,ty,pos,aft,gd⟩:=o;subst hop;unfold fF at hs;simp only at hs;split at hs
    all_goals try (simp_all; done)
    repeat' (first | (cases hs; trivial) | (cases hs; done) | split at hs)
   ·cases h
  ·rename_i t x k v hop;split at h
   ·rename_i st1 C hs;cases h;refine memC hs rfl (fun hc=>?_) hw;obtain⟨dst,op,ty,pos,aft,gd⟩:=o;subst hop;unfold fF at hs;simp only at hs;split at hs
    all_goals try (simp_all; done)
    repeat' (first | (cases hs; trivial) | (cases hs; done) | split at hs)
   ·cases h
  ·rename_i args ats hop;split at h
   ·rename_i st1 C hs;cases h;exact memC hs rfl (fun hc=>by rw[hop]at hc; simp[isC]at hc) hw
   ·cases h
  ·split at h
   ·rename_i x C d hp hd;split at h
    ·rename_i hlt;cases h;have hc:C:=by
      cases hc:isC st o.op with
      | false=>exact Ew hp hc
      | true=>rw[hc]at hC; exact hC
     obtain⟨v,h1,h2⟩:=Ho hG.ti r o hp hc;rw[aH hw];unfold Oper.wp;rw[h1];refine hk _ _ ?_;rw[hd];exact⟨F,g,r.put (by rw[hG.nt]; simpa[cB] using hlt) h2⟩
    ·cases h
   ·cases h
 ·rename_i hw;have hw:=dM r hw;rw[aT (by rw[hw]; simp)];split at h
  ·rename_i d hd;split at h
   ·rename_i hlt;cases h;refine hk _ _ ?_;rw[hd];exact⟨F,g,r.put (by rw[hG.nt]; simpa[cB] using hlt) (.tup rfl (fun j x v hx=>by simp at hx))⟩
   ·cases h
  ·rename_i hd;cases h;refine hk _ _ ?_;rw[hd];exact⟨F,g,r⟩
 ·cases h
theorem Jm(hG:cZ P E I){ops:Array Oper}{o:Oper}{Cs:List Prop}(h:tL I ops.toList o st=some (st',Cs))(hC:All Cs){w:World}(r:Rel E st a w) 
  (hk:∀ a' w',Rel E st' a' w'->wpList P ops Q' rest a' w'):wpList P ops Q' (o::rest) a w:=
 wpList_step fun _ hK=>Gs hG h hC r fun a' w' r'=>hK _ _ (hk a' w' r')
def Le(E:Env)(s t:St):Prop:=∀ a w,Rel E s a w->Rel E t a w
theorem Le.refl{s:St}:Le E s s:=fun _ _ h=>h
theorem Le.trans{s t u:St}(h:Le E s t)(h':Le E t u):Le E s u:=fun a w r=>h' a w (h a w r)
theorem Le.keep{s t:St}{ts os:List Nat}(h:s.keep ts os=some t):Le E s t:=fun _ _ r=>r.keep h
theorem Iw(h:Q .normal st):bY P E ops Q [] st:=fun _ _ r=>⟨st,h,r⟩
theorem cT(h:Le E st st')(hk:bY P E ops Q l st'):bY P E ops Q l st:=fun a w r=>hk a w (h a w r)
theorem nP{c:Code}(h:Le E st st')(hk:pwp P E c Q st'):pwp P E c Q st:=fun a w r=>hk a w (h a w r)
theorem xQ(h:bY P E l Q l st):pwp P E (.region id l.toArray false) Q st:=fun a w r=>wp_region_lit (h a w r)
def qA(P:Program)(E:Env)(y:Code)(Q:dQ):dQ:=fun e s=>match e with | .normal=>pwp P E y Q s | e=>Q e s
theorem Mo{x:Code}(h:pwp P E x (qA P E y Q) st):pwp P E (.seq x y) Q st:=by
 intro a w r;refine wp_seq (wp_mono (h a w r) fun e a' w' ⟨s,hs,hr⟩=>?_);cases e with
 | normal=>exact hs a' w' hr
 | _=>exact⟨s,hs,hr⟩
theorem Gt(h:Q .normal st):pwp P E .skip Q st:=fun _ _ r=>wp_skip ⟨st,h,r⟩
theorem Jo(h:Q (.exit id) st):pwp P E (.exit id) Q st:=fun _ _ r=>wp_exit ⟨st,h,r⟩
theorem Ol(h:Q .ret st):pwp P E .ret Q st:=fun _ _ r=>wp_ret ⟨st,h,r⟩
theorem rI{c:Operand}{x:Code}(hc:ev st c=some (.t (.bool b)))(h1:b=true->pwp P E x Q st)(h2:b=false->pwp P E y Q st):pwp P E (.cond c x y) Q st:=by intro a w r;obtain⟨F,g,r'⟩:=id r;have hv:=(aR r' hc).inv_bool;exact wp_cond_split hv (fun e=>h1 e a w r) (fun e=>h2 e a w r)
def gO(id:Nat)(Q:dQ):dQ:=fun e s=>match e with | .exit id'=>if id'=id then Q .normal s else Q (.exit id') s | e=>Q e s
theorem Bw{c:Code}(h:pwp P E c (gO id Q) st):pwp P E (.block id c) Q st:=by
 intro a w r;refine wp_block (wp_mono (h a w r) fun e a' w' ⟨s,hs,hr⟩=>?_);cases e with
 | exit id'=>
  simp only[gO]at hs;simp only[Exit.inBlock];split
  ·rename_i e; rw[aH e]at hs; exact⟨s,hs,hr⟩
  ·rename_i e; rw[aT e]at hs; exact⟨s,hs,hr⟩
 | _=>exact⟨s,hs,hr⟩
theorem Rc{s:St}(h:pwp P E y Q s):qA P E y Q .normal s:=h
theorem Ff{s:St}(h:Q .ret s):qA P E y Q .ret s:=h
theorem Cw{s:St}{i:Nat}(h:Q (.exit i) s):qA P E y Q (.exit i) s:=h
theorem Wb{s:St}(h:Q .normal s):gO id Q .normal s:=h
theorem Mt{s:St}(h:Q .ret s):gO id Q .ret s:=h
theorem Nj{s:St}(h:Q .normal s):gO id Q (.exit id) s:=by simpa[gO] using h
theorem Fm{id':Nat}{s:St}(hn:id'≠id)(h:Q (.exit id') s):gO id Q (.exit id') s:=by simpa[gO,hn] using h
attribute [irreducible] qA gO
def gJ{S R:Type}(body:S->Option (S⊕R)):Nat->S->Option R
 | 0,_=>none
 | n+1,s=>match body s with
  | none=>none
  | some (.inl s')=>gJ body n s'
  | some (.inr r)=>some r
end
def Own(g:Nat->Value)(w:World)(H:Hp)(b:Nat):Prop:=∃ o x,(o,x)∈H/\aK g w o x b
def dK(P:Program)(k:FuncId)(args:List PV)(H:Hp)(N:List Nat)(Q:PV->Hp->Prop):Prop:=
 ∀ (F:Nat->Prop) (g:Nat->Value) (w:World) (vs:Array Value),vs.size=args.length->(∀ (j:Nat) x v,args[j]? = some x->vs[j]? = some v->VR F g w x v) ->
  HpR F g w (fun _=>True) H->(∀ b,F b->b<w.heap.size)->GLP P F w ->
  Calls P k vs w fun e w'=>∃ v r H' F' g',e = .returned v/\Q r H'/\VR F' g' w' r v/\wQ { w0:=w,F0:=F,B0:=Own g w H,g0:=g,N:=N,nt:=0 } F' g' H' w'
def eQ:List PV->Nat->Fr
 | [],_=>[]
 | x::l,k=>(k,x)::eQ l (k+1)
theorem qS:∀ {l:List PV} {k t:Nat} {x:PV},(t,x)∈eQ l k->∃ j,t=k+j/\l[j]? = some x
 | [],k,t,x,h=>by simp[eQ]at h
 | y::l,k,t,x,h=>by
  simp only[eQ,aL,dS]at h;rcases h with⟨rfl,rfl⟩ | h
  ·exact⟨0,rfl,by simp⟩
  ·obtain⟨j,h1,h2⟩:=qS h;exact⟨j+1,by omega,by simpa using h2⟩
def yV(I:Inf)(st:St):ResultVar->Option PV
 | .tmp t=>look st.fr t
 | .cell a t=>match look st.fr a,I.ti t with
  | some (.ptr o off),some i=>match look st.hp o with
   | some (.box l)=>eO i (l.drop off)
   | _=>none
  | _,_=>none
def oC(I:Inf)(st:St):List ResultVar->Option (List PV)
 | []=>some []
 | x::l=>match yV I st x,oC I st l with
  | some p,some r=>some (p::r)
  | _,_=>none
def If(I:Inf)(rs:List ResultVar)(st:St):Option PV:=
 match oC I st rs with
 | some [p]=>some p
 | some l=>some (.tup l)
 | none=>none
def gM(hp:Hp):List Nat->Option Hp
 | []=>some []
 | o::l=>match look hp o,gM hp l with | some x,some r=>some ((o,x)::r) | _,_=>none
theorem jB{hp:Hp}:∀ {l:List Nat} {r:Hp},gM hp l=some r->(∀ e,e∈r->e∈hp/\e.1∈l)
 | [],r,h=>by simp[gM]at h; subst h; simp
 | o::l,r,h=>by
  simp only[gM]at h;split at h
  ·rename_i x r' hx hr;cases h;intro e he;rcases aL.1 he with rfl | he
   ·exact⟨aE hx,by simp⟩
   ·obtain⟨h1,h2⟩:=jB hr e he;exact⟨h1,bI _ h2⟩
  ·cases h
def Uc(I:Inf)(rs:List ResultVar)(Q:PV->Hp->Prop):dQ:=fun e st=>(e = .normal\/e = .ret)/\∃ r L H,If I rs st=some r/\gM st.hp L=some H/\Q r H
def vO(tmps:Array Value):ResultVar->Sem Value
 | .tmp t=>pure (tmps.getD t undef)
 | .cell a t=>do loadVar t (<-asAddr (tmps.getD a undef))
theorem yF(fn:Func)(tmps:Array Value):results fn tmps=(do let vs <-fn.results.mapM (vO tmps); pure (if h:vs.size=1 then vs[0] else .tuple vs):Sem Value):=by
 unfold results;have:(fun | .tmp t=>pure (tmps.getD t undef) | .cell a t=>do loadVar t (<-asAddr (tmps.getD a undef)):ResultVar->Sem Value)=vO tmps:=by funext x; cases x <;> rfl
 rw[<-this];rfl
section
variable {P:Program} {I:Inf}
theorem Em(hI:gE P I.ti){E:Env}{F:Nat->Prop}{g:Nat->Value}{st:St}{w:World}(r:bA E F g st a w){x:ResultVar}{p:PV}(h:yV I st x=some p):
  ∃ v,(vO a.tmps x).run P w = .ok v w/\VR F g w p v:=by
 cases x with
 | tmp t=>exact⟨_,by simp[vO],r.fr _ _ (aE h)⟩
 | cell b t=>
  simp only[yV]at h;split at h
  ·rename_i o off i hb hi;split at h
   ·rename_i l hl;have hv:=r.fr _ _ (aE hb);obtain⟨u,hu⟩:∃ u,a.tmps.getD b undef=u:=⟨_,rfl⟩;rw[hu]at hv;obtain⟨z,hz,hr⟩:=wV (P:=P) r (hI _ _ hi) (p:=.ptr o off) (x:=p) (C:=True) (by simp[pA,hl,h]) trivial hv;cases hv with
    | ptr e=>refine⟨z,?_,hr⟩;simp only[Instr.loadAt,Instr.sureAddr,Sem.run_bind,Sem.run_pure,Result.andThen_ok]at hz;simp only[vO,hu];simpa[asAddr] using hz
   ·cases h
  ·cases h
theorem tD(hI:gE P I.ti){E:Env}{F:Nat->Prop}{g:Nat->Value}{st:St}{a:Act}{w:World}(r:bA E F g st a w):∀ (rs:List ResultVar) (ps:List PV),oC I st rs=some ps ->
  ∃ vs:List Value,(rs.mapM (vO a.tmps)).run P w = .ok vs w/\vs.length=ps.length /\
   ∀ (j:Nat) x v,ps[j]? = some x->vs[j]? = some v->VR F g w x v
 | [],ps,h=>by simp[oC]at h; subst h; exact⟨[],by simp,rfl,by simp⟩
 | x::rs,ps,h=>by
  simp only[oC]at h;split at h
  ·rename_i p q hp hq;cases h;obtain⟨v,h1,h2⟩:=Em hI r hp;obtain⟨vs,h3,h4,h5⟩:=tD hI r rs q hq;refine⟨v::vs,?_,by simp[h4],fun j y u hy hu=>?_⟩
   ·rw[nC];simp only[Sem.run_bind,h1,Result.andThen_ok,h3,Sem.run_pure]
   ·cases j with
    | zero=>simp at hy hu; subst hy; subst hu; exact h2
    | succ j=>exact h5 j y u (by simpa using hy) (by simpa using hu)
  ·cases h
theorem Jy(hI:gE P I.ti){E:Env}{F:Nat->Prop}{g:Nat->Value}{st:St}{w:World}(r:bA E F g st a w){p:PV}(h:If I fn.results.toList st=some p):
  ∃ v,(results fn a.tmps).run P w = .ok v w/\VR F g w p v:=by
 unfold If at h;cases hr:oC I st fn.results.toList with
 | none=>rw[hr]at h; cases h
 | some ps=>
  obtain⟨vs,h1,h2,h3⟩:=tD hI r _ _ hr;have hm:(fn.results.mapM (vO a.tmps)).run P w = .ok vs.toArray w:=by rw[Array.mapM_eq_mapM_toList];show ((fn.results.toList.mapM (vO a.tmps)) >>= fun l=>pure l.toArray:Sem (Array Value)).run P w=_;simp[h1]
  rw[yF,Sem.run_bind,hm];simp only[Result.andThen_ok,Sem.run_pure];rw[hr]at h;split at h
  ·rename_i q hq;cases hq;cases h;have hl:vs.length=1:=by simpa using h2
   obtain⟨v,rfl⟩:=List.length_eq_one_iff.1 hl;exact⟨v,by simp,h3 0 p v (by simp) (by simp)⟩
  ·rename_i l hne hl;cases hl;cases h;have:vs.length≠1:=by intro h1';rw[h2]at h1';obtain⟨q,hq⟩:=List.length_eq_one_iff.1 h1';exact hne q (by rw[hq])
   refine⟨.tuple vs.toArray,?_,.tup (by simpa using h2) fun j x v hx hv=>h3 j x v hx (by simpa using hv)⟩;rw[dif_neg (by simpa using this)]
  ·cases h
theorem Ij{k:FuncId}{c:Code}{args:List PV}{Q:PV->Hp->Prop}(hf:P.funcs[k]? = some fn)(hb:fn.body=some c)(hI:gE P I.ti)(hnt:fn.ntmps=I.nt)
  (hl:args.length<=I.nt)(h:∀ E,cZ P E I->pwp P E c (Uc I fn.results.toList Q) ⟨eQ args 0,H⟩):dK P k args H I.N Q:=by
 intro F g w vs hs hvs hH hF hgl;refine calls_of_wp_defers hf hb ?_;have hG:cZ P { w0:=w,F0:=F,B0:=Own g w H,g0:=g,N:=I.N,nt:=I.nt,dok:=jI P } I:=⟨rfl,hI,rfl,rfl,hgl,fun b hb=>⟨fun⟨o,x,h1,h2⟩=>(hH.own o x b h1 h2).1 hb,hF b hb⟩⟩;refine wp_mono (h _ hG _ _ ⟨F,g,?_,fun d hd=>by simp at hd,?_,⟨⟨hH.obj,fun o x b hx hb=>⟨(hH.own o x b hx hb).1,.inl ⟨o,x,hx,hb⟩⟩,hH.sep⟩,fun _ h=>h,fun b hb=>⟨hF b hb,.inl hb⟩,
  ⟨rfl,rfl,rfl,cY _,fun _ _ _=>rfl⟩,fun _ _=>rfl,fun b ⟨o,x,hx,hb⟩=>hb.block (hH.obj o x hx)⟩⟩) ?_
 ·simp only[gP,Array.size_replicate]; omega
 ·intro t x hx;obtain⟨j,rfl,hj⟩:=qS hx;have hlt:j<vs.size:=by rw[hs]; exact(bZ.1 hj).1
  have:(vs++Array.replicate (fn.ntmps-vs.size) undef).getD (0+j) undef=vs[j]:=by simp[Array.getD,hlt,Array.getElem_append_left];omega
  rw[this];exact hvs j x vs[j] hj (by simp[hlt])
 ·rintro e a' w' ⟨st,⟨he,r,L,H1,hr,hL,hq⟩,F',g',hrel⟩;obtain⟨v,hv1,hv2⟩:=Jy hI hrel hr;have:=kE (P:=P) (fn:=fn) (tmps:=a'.tmps) (R:=fun (e:Ending) w'=>∃ v r H' F' g',e = .returned v/\Q r H'/\VR F' g' w' r v/\wQ { w0:=w,F0:=F,B0:=Own g w H,g0:=g,N:=I.N,nt:=0 } F' g' H' w') hv1
   ⟨v,r,H1,F',g',rfl,hq,hv2,⟨hrel.w.hp.sub fun e he=>(jB hL e he).1,hrel.w.f0,hrel.w.f1,hrel.w.ext,hrel.w.names,hrel.w.b0⟩⟩ a'.defers hrel.df
  rcases he with rfl | rfl
  ·exact this
  ·exact this
theorem dK.mono{k:FuncId}{args:List PV}{H:Hp}{N:List Nat}{Q Q':PV->Hp->Prop}(h:dK P k args H N Q)(hq:∀ r H',Q r H'->Q' r H'):dK P k args H N Q':=by intro F g w vs h1 h2 h3 h4 h5;exact(h F g w vs h1 h2 h3 h4 h5).mono fun e w' ⟨v,r,H',F',g',a,b,c,d⟩=>⟨v,r,H',F',g',a,hq _ _ b,c,d⟩
end
def yW:Cel->Option T
 | .d x=>some x
 | .row _ _ n f=>some (.sl n f)
 | .nl=>some (.sl 0 fun _=>[])
 | .any=>none
inductive wW (st:St)(L:List Nat):PV->PV->Prop
 | same (p:PV):wW st L p p
 | nil {x:T} {f:Nat->List T} (h:x.view=some (0,f)):wW st L .nil (.t x)
 | imp {p q:PV} (h:∀ F g w v,VR F g w p v->VR F g w q v):wW st L p q
 | lend {o:Nat} {e:TypeId} {s n:Nat} {f:Nat->List T} {x:T} (ho:o∈L) (h:look st.hp o=some (.arr e s n f)) (hx:x.view=some (n,f)):wW st L (.own o) (.t x)
 | lendA {o:Nat} {e:TypeId} {s n:Nat} {f:Nat->List Cel} {gf:Nat->List T} {x:T} (ho:o∈L) (h:look st.hp o=some (.arm e s n f none)) (hc:∀ i,i<n->(f i).map yW=(gf i).map some) (hx:x.view=some (n,gf)):wW st L (.own o) (.t x)
inductive fV (st:St)(L:List Nat):List PV->List PV->Prop
 | nil:fV st L [] []
 | cons {p q:PV} {l r:List PV} (h:wW st L p q) (t:fV st L l r):fV st L (p::l) (q::r)
theorem fV.get{st:St}{L:List Nat}{l r:List PV}(h:fV st L l r):r.length=l.length/\∀ (j:Nat) q,r[j]? = some q->∃ p,l[j]? = some p/\wW st L p q:=by
 induction h with
 | nil=>simp
 | cons h _ ih=>
  refine⟨by simp[ih.1],fun j q hj=>?_⟩;cases j with
  | zero=>simp at hj; subst hj; exact⟨_,by simp,h⟩
  | succ j=>simpa using ih.2 j q (by simpa using hj)
def T.scalar:T->Bool
 | .int ..=>true | .bool _=>true | .str _=>true | _=>false
def PV.scalar:PV->Bool
 | .t x=>x.scalar
 | .tup l=>go l
 | _=>false
where go:List PV->Bool
 | []=>true
 | .t x::l=>x.scalar&&go l
 | _::_=>false
def PV.pure(p:PV):Bool:=match p.names with | []=>true | _=>false
theorem Dp{l:List PV}(h:PV.scalar.go l=true):∀ x,x∈l->∃ y,x = .t y/\y.scalar=true:=by
 induction l with
 | nil=>simp
 | cons x l ih=>
  cases x <;> simp[PV.scalar.go]at h
  intro z hz;rcases aL.1 hz with rfl | hz
  ·exact⟨_,rfl,h.1⟩
  ·exact ih h.2 z hz
section
variable {F F':Nat->Prop} {g g':Nat->Value} {w:World}
theorem VR.pure_g{p:PV}(h:VR F g w p v)(hp:p.pure=true)(g':Nat->Value):VR F g' w p v:=by
 refine h.mono (fun b hb=>⟨hb,rfl⟩) fun o ho=>?_;unfold PV.pure at hp;split at hp
 ·rename_i hn; rw[hn]at ho; simp at ho
 ·cases hp
theorem Rd.scalar_F{x:T}(h:Rd F w x v)(hx:x.scalar=true)(F':Nat->Prop)(w':World):Rd F' w' x v:=by
 cases x <;> simp[T.scalar]at hx
 ·rw[h.inv_int]; exact .int _ _
 ·rw[h.inv_bool]; exact .bool _
 ·rw[h.inv_str]; exact .str _
theorem VR.scalar_F{p:PV}{v:Value}(h:VR F g w p v)(hp:p.scalar=true)(F':Nat->Prop)(g':Nat->Value):VR F' g' w p v:=by
 cases p <;> simp[PV.scalar]at hp
 case t=>exact .t ((h.cells_t rfl).scalar_F hp _ _)
 case tup l=>
  cases h with
  | tup hs hr=>refine .tup hs fun j x v hx hv=>?_;obtain⟨y,rfl,hy⟩:=Dp hp x (eE hx);exact .t (((hr j _ v hx hv).cells_t rfl).scalar_F hy _ _)
theorem rX{f:Nat->List T}(ho:bL F g w o (.arr e s n f))(hF:∀ b,F b->F' b)(hb:∀ b,blk (g o)=some b->F' b){x:T}(hx:x.view=some (n,f)):
  Rd F' w x (g o):=by
 rcases ho with⟨h1,h2⟩ | ⟨b,cap,cur,h1,h2,h3,h4,h5,h6,h7⟩
 ·rw[h1]; subst h2; exact .nil hx
 ·rw[h1];refine .sl ⟨b,0,none⟩ cap s (fun i j=>(cur[i*s+j]?).getD undef) hx h3 (fun _=>hb b (by rw[h1]; rfl)) h6 (fun i j hi hj=>?_) (fun i j x hi hx=>?_)
  ·have hj':j<(f i).length:=by rw[h6 i hi]; exact hj
   obtain⟨v,hv,_⟩:=h7 i j _ hi (dE hj');rw[Addr.add_none];simp[World.cell?,h2,hv]
  ·obtain⟨v,hv,hr⟩:=h7 i j x hi hx;simp only[hv,oQ];exact hr.mono fun b hb=>⟨hF b hb,rfl⟩
theorem Mu{F':Nat->Prop}{x:Cel}{y:T}(h:qO F w x v)(hx:yW x=some y)(hF:∀ b,F b->F' b)(hb:∀ b,x.owned=true->blk v=some b->F' b):Rd F' w y v:=by
 cases x with
 | d z=>cases hx; exact Rd.mono (fun b hb=>⟨hF b hb,rfl⟩) h
 | row e s n f=>cases hx; exact rX (g:=fun _=>v) (o:=0) (show bL F (fun _=>v) w 0 (.arr e s n f) from h) hF (fun b hb'=>hb b rfl hb') rfl
 | nl=>cases hx; rw[show v = .slice none 0 0 from h]; exact .nil rfl
 | any=>cases hx
theorem Gg{e:Nat}{f:Nat->List Cel}{gf:Nat->List T}(h:bL F g w o (.arm e s n f none))(hc:∀ i,i<n->(f i).map yW=(gf i).map some){x:T}(hx:x.view=some (n,gf)):
  Rd (fun b=>F b\/aK g w o (.arm e s n f none) b) w x (g o):=by
 rcases h with⟨h1,h2,_⟩ | ⟨b,cap,cur,h1,h2,h3,h4,h5,hC⟩
 ·rw[h1]; subst h2; exact .nil hx
 ·have hlen:∀ i,i<n->(gf i).length=s:=fun i hi=>by have:=congrArg List.length (hc i hi);rw[List.length_map,List.length_map]at this;rw[<-this]; exact hC.len i hi
  have hcell:∀ (i j:Nat) y,i<n->(gf i)[j]? = some y->∃ c,(f i)[j]? = some c/\yW c=some y:=fun i j y hi hy=>by
   have:=congrArg (·[j]?) (hc i hi);simp only[cR,hy,iK]at this;cases hf:(f i)[j]? with
   | none=>rw[hf]at this; cases this
   | some c=>rw[hf]at this; exact⟨c,rfl,by simpa using this⟩
  have self:aK g w o (.arm e s n f none) b:=.self (by rw[h1]; rfl);have h1':=h1;rw[h1];refine .sl ⟨b,0,none⟩ cap s (fun i j=>(cur[i*s+j]?).getD undef) hx h3 (fun _=>.inr self) hlen (fun i j hi hj=>?_) (fun i j y hi hy=>?_)
  ·have hj':j<(f i).length:=by rw[hC.len i hi]; exact hj
   obtain⟨v,hv,_⟩:=hC.cell i j _ hi (dE hj');rw[Addr.add_none];simp[World.cell?,h2,hv]
  ·obtain⟨c,hc1,hc2⟩:=hcell i j y hi hy;obtain⟨v,hv,hR⟩:=hC.cell i j c hi hc1;simp only[hv,oQ];exact Mu hR hc2 (fun b hb=>.inl hb) fun b' ho hb'=>.inr (.arm h1' h2 hi hc1 ho hv hb')
end
def xR(st:St)(g:Nat->Value)(w:World)(L:List Nat)(b:Nat):Prop:=∃ o x,o∈L/\look st.hp o=some x/\aK g w o x b
def uY(N:List Nat)(b j o:Nat)(e:TypeId)(s:Nat)(f:Nat->List T)(st:St):Option St:=
 match jN o N,Nat.beq b o,st.erase o with
 | true,false,some st1=>match look st1.hp b with
  | some (.box l)=>match l[j]? with
   | some .nil=>some { fr:=st1.fr,hp:=(o,.arr e s 0 f)::(b,.box (l.set j (.own o)))::del b st1.hp }
   | _=>none
  | _=>none
 | _,_,_=>none
structure eG (P:Program)(k:FuncId):Prop where
 h:∃ fn,P.funcs[k]? = some fn/\fn.body.isNone=false/\(fn.name == "runtime.NumGoroutine")=false
theorem mX{P:Program}{k:FuncId}(h:eG P k)(args:Array Value)(w:World):(callFunc k args).run P w = .ok (.enter k args) w:=by
 obtain⟨fn,h1,h2,h3⟩:=h.h;have h2':¬ fn.body=none:=by intro e; rw[e]at h2; cases h2
 have h3':¬ fn.name = "runtime.NumGoroutine" := by intro e; rw[e]at h3; simp at h3
 simp[callFunc,program,Sem.run,h1,h2',h3']
section
variable {P:Program} {E:Env} {I:Inf} {Q:dQ} {st:St}
theorem Bj(hG:cZ P E I){o:Oper}{caps aps bps:List PV}{Qc:PV->Hp->Prop}(L:List Nat)
  (hop:o.op = .call c)(hcal:c.callee = .value f)(hd:o.dst=some d)(hw:aU ops o st=some true)(hnt:Nat.blt d I.nt=true)
  (hf:ev st f=some (.fn (.func k) nf caps))(hargs:eP st c.args.toList=some aps)(hk:eG P k)(has:fV st L (caps.take nf++aps++caps.drop nf) bps)(hcall:dK P k bps [] [] Qc)
  {w:World}(r:Rel E st a w)
  (hres:∀ r H',Qc r H'->(match L with | []=>r.pure | _=>r.scalar)=true/\∀ a' w',Rel E (st.put d r) a' w'->K a' w'):
  if Region.wanted o (yielded ops.toArray a.tmps) then o.wp P a w K Q' else K (a.put o.dst undef) w:=by
 obtain⟨F,g,r⟩:=r;have hwt:=dM (ops:=ops.toArray) r (by simpa using hw);obtain⟨hl1,hr1⟩:=lP r _ _ hargs;have hfv:=aR r hf;obtain⟨fv,hfe⟩:∃ u,a.eval f=u:=⟨_,rfl⟩;rw[hfe]at hfv;cases hfv with
 | @fn _ _ _ us vs hn hs hr=>
  subst hn;rw[aH hwt];unfold Oper.wp;have hrun:(execOp a.eval o).run P w = .ok (.enter k (us++(c.args.map a.eval)++vs)) w:=by unfold execOp;simp[hop,resolve,hcal,hfe,Deferred.ofValue,invoke,mX hk]
  rw[hrun];have hF':∀ b,(F b\/xR st g w L b)->b<w.heap.size:=by
   rintro b (h | ⟨o,x,ho,hx,hb⟩)
   ·exact(r.w.f1 b h).1
   ·exact hb.block (r.w.hp.obj o x (aE hx))
  have hcallW:=hcall (fun b=>F b\/xR st g w L b) g w (us++c.args.map a.eval++vs) (by
    have:=has.get.1;simp only[gB,cL,fC]at this;have h2:c.args.size=aps.length:=by simpa using hl1.symm
    simp only[gP]at hs;simp only[gP,Array.size_map]; omega) (fun j q v hq hv=>by
    obtain⟨p,hp,hpq⟩:=has.get.2 j q hq;have hpv:VR F g w p v:=by
     have h2:c.args.size=aps.length:=by simpa using hl1.symm
     have hus:us.size<=caps.length:=by simp at hs; omega
     have htk:(caps.take us.size).length=us.size:=by simp; omega
     by_cases hi:j<us.size
     ·rw[eC,dB (by omega),List.getElem?_take_of_lt hi]at hp;rw[oP,hS hi]at hv;exact hr j p v hp (by rw[hS hi]; exact hv)
     rw[eC,dF (by omega),htk]at hp;rw[oP,oR (by omega)]at hv;by_cases hj:j-us.size<aps.length
     ·rw[dB hj]at hp;rw[hS (by simp; omega)]at hv;exact hr1 _ p v hp (by simpa using hv)
     ·rw[dF (by omega),fL]at hp;rw[oR (by simp; omega)]at hv;refine hr (us.size+(j-us.size-aps.length)) p v hp ?_;rw[oR (by omega)];simpa[h2] using hv
    cases hpq with
    | same=>exact hpv.mono (fun b hb=>⟨.inl hb,rfl⟩) (fun _ _=>rfl)
    | nil hx=>cases hpv; exact .t (.nil hx)
    | imp h=>exact(h _ _ _ _ hpv).mono (fun b hb=>⟨.inl hb,rfl⟩) (fun _ _=>rfl)
    | @lend o e s n f x ho hl hx=>
     refine .t ?_;have hob:=r.w.hp.obj _ _ (aE hl);have:=rX (F':=fun b=>F b\/xR st g w L b) hob (fun b hb=>.inl hb) (fun b hb=>.inr ⟨o,_,ho,hl,.self hb⟩) hx;cases hpv with
     | own hg=>rw[hg]at this; exact this
    | @lendA o e s n f gf x ho hl hc hx=>
     refine .t ?_;have hob:=r.w.hp.obj _ _ (aE hl);have:=(Gg hob hc hx).mono (F':=fun b=>F b\/xR st g w L b) (fun b hb=>⟨hb.elim .inl (fun hb=>.inr ⟨o,_,ho,hl,hb⟩),rfl⟩);cases hpv with
     | own hg=>rw[hg]at this; exact this) ⟨by simp,by simp,by simp⟩ hF' ((hG.glw r.w).mono fun b hb=>⟨.inl hb,rfl⟩)
  simp only[Oper.upon];refine hcallW.mono ?_;rintro e w' ⟨v,res,H',F',g',rfl,hQ,hv,hW⟩;obtain⟨hpure,hgo⟩:=hres res H' hQ;refine hgo _ _ ?_;rw[hd];have hext:=hW.ext;have hblk:∀ b,b<w.heap.size->w'.heap[b]? = w.heap[b]?:=fun b hb=>hext.block b hb (by rintro⟨o,x,hx,_⟩; simp at hx);have hFF:∀ b,F b->(F' b/\¬ xR st g w L b)/\w'.heap[b]? = w.heap[b]?:=fun b hb=>⟨⟨hW.f0 b (.inl hb),by rintro⟨o,x,ho,hx,hb'⟩;exact(r.w.hp.own o x b (aE hx) hb').1 hb⟩,hblk b (r.w.f1 b hb).1⟩;have hd':d<E.nt:=by rw[hG.nt]; simpa[cB] using hnt
  have hvF:VR (fun b=>F' b/\¬ xR st g w L b) g w' res v:=by
   cases L with
   | nil=>exact(hv.pure_g hpure g).mono (fun b hb=>⟨⟨hb,by rintro⟨o,x,ho,_⟩; simp at ho⟩,rfl⟩) (fun _ _=>rfl)
   | cons o L=>exact hv.scalar_F hpure _ _
  have hft:∀ o x b,(o,x)∈st.hp->aK g w' o x b->aK g w o x b:=fun o x b hx hb=>hb.mono rfl (fun _ _=>rfl) (fun c hc=>hblk c ((r.w.hp.obj o x hx).block hc));refine⟨fun b=>F' b/\¬ xR st g w L b,g,(r.putW (st':=st) hd' hFF (fun t y hy=>⟨hy,fun _ _=>rfl⟩) ?_ hvF)⟩;refine⟨⟨fun o x hx=>?_,fun o x b hx hb=>⟨?_,(r.w.hp.own o x b hx (hft o x b hx hb)).2⟩,fun o x o' y b hx hy hne hb hb'=>r.w.hp.sep o x o' y b hx hy hne (hft o x b hx hb) (hft o' y b hy hb')⟩,fun b hb=>(hFF b (r.w.f0 b hb)).1,fun b hb=>⟨(hW.f1 b hb.1).1,?_⟩,
   r.w.ext.trans hext.os hext.tape hext.output hext.size (fun b hb _=>hblk b (by have:=r.w.ext.size; omega)),r.w.names,r.w.b0⟩
  ·exact(r.w.hp.obj o x hx).mono hFF rfl (fun _ _=>rfl) (fun b hb=>hblk b (hb.block (r.w.hp.obj o x hx)))
  ·rintro⟨h1,h2⟩;rcases (hW.f1 b h1).2 with h | h | h
   ·rcases h with h | h
    ·exact(r.w.hp.own o x b hx (hft o x b hx hb)).1 h
    ·exact h2 h
   ·obtain⟨o',x',hx',_⟩:=h; simp at hx'
   ·have:b<w.heap.size:=(hft o x b hx hb).block (r.w.hp.obj o x hx);have h:w.heap.size<=b:=h;omega
  ·rcases (hW.f1 b hb.1).2 with h | h | h
   ·rcases h with h | h
    ·exact(r.w.f1 b h).2
    ·exact absurd h hb.2
   ·obtain⟨o',x',hx',_⟩:=h; simp at hx'
   ·have h:w.heap.size<=b:=h;exact .inr (.inr (kG r.w.ext.size h))
theorem sY(hG:cZ P E I){o:Oper}{caps aps bps:List PV}{Qc:PV->Hp->Prop}(L:List Nat)
  (hl:l=o::rest)(hop:o.op = .call c)(hcal:c.callee = .value f)(hd:o.dst=some d)(hw:aU ops o st=some true)(hnt:Nat.blt d I.nt=true)
  (hf:ev st f=some (.fn (.func k) nf caps))(hargs:eP st c.args.toList=some aps)(hk:eG P k)(has:fV st L (caps.take nf++aps++caps.drop nf) bps)(hcall:dK P k bps [] [] Qc)
  (hres:∀ r H',Qc r H'->(match L with | []=>r.pure | _=>r.scalar)=true/\bY P E ops Q rest (st.put d r)):bY P E ops Q l st:=by
 subst hl;intro a w r;refine wpList_step fun K hK=>Bj hG L hop hcal hd hw hnt hf hargs hk has hcall r fun r H' hq=>⟨(hres r H' hq).1,fun a' w' r'=>hK _ _ ((hres r H' hq).2 a' w' r')⟩
def PV.fz(p:PV)(o:Nat)(q:PV):PV:=match p with | .own k=>(match Nat.beq k o with | true=>q | false=>.own k) | p=>p
def Ud(o:Nat)(q:PV):Option (Nat×Nat×PV)->Option (Nat×Nat×PV)
 | some (i,j,p)=>some (i,j,p.fz o q)
 | none=>none
def Fb(o:Nat)(q:PV)(x:aN):aN:=match x with | .box l=>.box (l.map fun p=>p.fz o q) | .arm e s n f ov=>.arm e s n f (Ud o q ov) | x=>x
theorem PV.fz_ok{F F':Nat->Prop}{g:Nat->Value}{w:World}{q:PV}(hF:∀ b,F b->F' b)(hq:VR F' g w q (g o)){p:PV}(h:VR F g w p v):VR F' g w (p.fz o q) v:=by
 have h':VR F' g w p v:=h.mono (fun b hb=>⟨hF b hb,rfl⟩) (fun _ _=>rfl);unfold PV.fz;split
 ·rename_i k;split
  ·rename_i hk;have hk:=aZ hk;subst hk;cases h' with
   | own e=>rw[e]at hq; exact hq
  ·exact h'
 ·exact h'
theorem vQ{F F':Nat->Prop}{g:Nat->Value}{w:World}{q:PV}(hF:∀ b,F b->F' b)(hq:VR F' g w q (g o)){x:aN}(h:bL F g w t x):bL F' g w t (Fb o q x):=by
 cases x with
 | box l=>obtain⟨b,vs,ty,h1,h2,h3,h4⟩:=h;refine⟨b,vs,ty,h1,h2,by simp[h3],fun j y v hy hv=>?_⟩;simp only[cR,fJ]at hy;obtain⟨z,hz,rfl⟩:=hy;exact PV.fz_ok hF hq (h4 j z v hz hv)
 | arr e s n f=>exact h.mono (fun b hb=>⟨hF b hb,rfl⟩) rfl (fun _ _=>rfl) (fun _ _=>rfl)
 | mpb n m=>exact h.mono (fun b hb=>⟨hF b hb,rfl⟩) rfl (fun _ _=>rfl) (fun _ _=>rfl)
 | mp it m ho=>exact h.mono (fun b hb=>⟨hF b hb,rfl⟩) rfl (fun _ _=>rfl) (fun _ _=>rfl)
 | bld ty e s=>exact h.mono (fun b hb=>⟨hF b hb,rfl⟩) rfl (fun _ _=>rfl) (fun _ _=>rfl)
 | arm e s n f ov=>
  rcases h with⟨h1,h2,h3⟩ | ⟨b,cap,cur,h1,h2,h3,h4,h5,hC⟩
  ·subst h3; exact .inl ⟨h1,h2,rfl⟩
  ·refine .inr ⟨b,cap,cur,h1,h2,h3,h4,h5,hC.len,fun i j x hi hx=>?_,hC.sep,hC.own,fun i j p e=>?_⟩
   ·obtain⟨v,hv,hR⟩:=hC.cell i j x hi hx;exact⟨v,hv,hR.mono (fun b hb=>⟨hF b hb,rfl⟩) (fun _ _ _=>rfl)⟩
   ·rcases ov with _ | ⟨i',j',p'⟩
    ·cases e
    ·simp only[Ud,cV,dS]at e;obtain⟨rfl,rfl,rfl⟩:=e;obtain⟨q1,q2,q3⟩:=hC.ov _ _ _ rfl;exact⟨q1,q2,fun v hv=>PV.fz_ok hF hq (q3 v hv)⟩
theorem fO{g:Nat->Value}{w:World}{q:PV}{x:aN}{b:Nat}(h:aK g w t (Fb o q x) b):aK g w t x b:=by
 cases x with
 | box l=>exact .self (h.toBlk rfl)
 | arm e s n f ov=>
  cases h with
  | self h=>exact .self h
  | arm h1 h2 h3 h4 h5 h6 h7=>exact .arm h1 h2 h3 h4 h5 h6 h7
 | _=>exact h
def jP(o:Nat)(x:T)(st:St):Option St:=
 ({ fr:=st.fr.map fun e=>(e.1,e.2.fz o (.t x)),hp:=(del o st.hp).map fun e=>(e.1,Fb o (.t x) e.2) }:St).erase o
theorem Rel.freeze{x:T}{f:Nat->List T}{st':St}(hl:look st.hp o=some (.arr e s n f))(hx:x.view=some (n,f))(h:jP o x st=some st'){w:World}(r:Rel E st a w):Rel E st' a w:=by
 obtain⟨F,g,r⟩:=r;unfold jP at h
 ·have hlm:=aE hl;have hob:=r.w.hp.obj _ _ hlm;have hq:VR (fun b=>F b\/blk (g o)=some b) g w (.t x) (g o):=.t (rX hob (fun b hb=>.inl hb) (fun b hb=>.inr hb) hx);have hF:∀ b,F b->(F b\/blk (g o)=some b):=fun b hb=>.inl hb;have hfr:=St.erase_fr h;have hhp:=St.erase_hp h;refine⟨fun b=>F b\/blk (g o)=some b,g,r.nt,r.df,fun t x' hx'=>?_,⟨⟨fun k y hy=>?_,fun k y b hy hb=>?_,fun k y k' y' b hy hy' hne hb hb'=>?_⟩,fun b hb=>.inl (r.w.f0 b hb),fun b hb=>?_,r.w.ext,r.w.names,r.w.b0⟩⟩
  ·obtain⟨h1,_⟩:=hfr t x' hx';simp only[cE,dS]at h1;obtain⟨⟨t',y⟩,hy,rfl,rfl⟩:=h1;exact PV.fz_ok hF hq (r.fr t' y hy)
  ·obtain⟨x,h1,_,_,h4,_⟩:=hhp k y hy;simp only[cE,dS]at h1;obtain⟨⟨k',z⟩,hz,rfl,rfl⟩:=h1;exact h4 _ _ _ (vQ hF hq (r.w.hp.obj k' z (aJ.1 hz).1))
  ·obtain⟨x,h1,h2,_,_,h5⟩:=hhp k y hy;simp only[cE,dS]at h1;obtain⟨⟨k',z⟩,hz,rfl,rfl⟩:=h1;obtain⟨hz1,hz2⟩:=aJ.1 hz;have hb:=fO (h5 _ _ _ hb);refine⟨?_,(r.w.hp.own k' z b hz1 hb).2⟩;rintro (h | h)
   ·exact(r.w.hp.own k' z b hz1 hb).1 h
   ·exact r.w.hp.sep k' z o _ b hz1 hlm hz2 hb (.self h)
  ·obtain⟨x,h1,_,_,_,h5⟩:=hhp k y hy;obtain⟨x',h1',_,_,_,h5'⟩:=hhp k' y' hy';simp only[cE,dS]at h1 h1';obtain⟨⟨k2,z⟩,hz,rfl,rfl⟩:=h1;obtain⟨⟨k2',z'⟩,hz',rfl,rfl⟩:=h1';exact r.w.hp.sep k2 z k2' z' b (aJ.1 hz).1 (aJ.1 hz').1 hne (fO (h5 _ _ _ hb)) (fO (h5' _ _ _ hb'))
  ·rcases hb with hb | hb
   ·exact r.w.f1 b hb
   ·have:=(r.w.hp.own o _ b hlm (.self hb)).2;exact⟨hob.block hb,this.elim (fun h=>.inr (.inl h)) (fun h=>.inr (.inr h))⟩
def Av(N:List Nat)(t o:Nat)(e:TypeId)(s:Nat)(f:Nat->List T)(st:St):Option St:=
 match look st.fr t,jN o N,st.erase o with
 | some .nil,true,some st1=>some { fr:=(t,.own o)::del t st1.fr,hp:=(o,.arr e s 0 f)::st1.hp }
 | _,_,_=>none
theorem Rel.thaw(hG:cZ P E I){f:Nat->List T}{st':St}(h:Av I.N t o e s f st=some st'){w:World}(r:Rel E st a w):Rel E st' a w:=by
 obtain⟨F,g,r⟩:=r;unfold Av at h;split at h
 ·rename_i st1 hl hn he;cases h;have hnil:a.tmps.getD t undef = .slice none 0 0:=by have:=r.fr _ _ (aE hl);generalize a.tmps.getD t undef=u at this;cases this; rfl
  refine⟨F,upd g o (.slice none 0 0),r.nt,r.df,fun t' x hx=>?_,⟨HpR.change r.w.hp he (fun k hk=>aQ g _ hk) (fun b hb=>⟨hb,rfl⟩) (fun _ h=>h) (fun _ _ _ _ _ _=>rfl) (.inl ⟨aP ..,rfl⟩)
   (fun b hb=>by have hb:=hb.toBlk rfl; rw[aP]at hb; simp[blk]at hb) (fun k y b _ _ _ hb=>by have hb:=hb.toBlk rfl; rw[aP]at hb; simp[blk]at hb),r.w.f0,r.w.f1,r.w.ext,fun k hk=>?_,r.w.b0⟩⟩
  ·rcases aL.1 hx with e | hx
   ·cases e; rw[hnil]; exact .own (aP ..)
   ·obtain⟨h1,h2⟩:=St.erase_fr he t' x (aJ.1 hx).1;exact(r.fr t' x h1).mono (fun b hb=>⟨hb,rfl⟩) (fun k hk=>aQ g _ (h2 k hk))
  ·rw[aQ g _ (fun e:k=o=>cI hn (hG.N▸e▸hk))];exact r.w.names k hk
 ·cases h
theorem Rel.thawC(hG:cZ P E I){b j:Nat}{f:Nat->List T}{st':St}(h:uY I.N b j o e s f st=some st'){w:World}(r:Rel E st a w):Rel E st' a w:=by
 obtain⟨F,g,r⟩:=r;unfold uY at h;split at h
 ·rename_i st1 hn hbo he;split at h
  ·rename_i l hl;split at h
   ·rename_i hj;cases h;have hbo:=gD hbo;have hp:=HpR.change (x:=.arr e s 0 f) (g':=upd g o (.slice none 0 0)) r.w.hp he (fun k hk=>aQ g _ hk) (fun b hb=>⟨hb,rfl⟩) (fun _ h=>h) (fun _ _ _ _ _ _=>rfl) (.inl ⟨aP ..,rfl⟩)
     (fun b hb=>by have hb:=hb.toBlk rfl; rw[aP]at hb; simp[blk]at hb) (fun k y b _ _ _ hb=>by have hb:=hb.toBlk rfl; rw[aP]at hb; simp[blk]at hb)
    have hbm:(b,aN.box l)∈(o,aN.arr e s 0 f)::st1.hp:=bI _ (aE hl);have key:∀ k u,(k,u)∈(o,aN.arr e s 0 f)::(b,aN.box (l.set j (.own o)))::del b st1.hp->∃ u',(k,u')∈(o,aN.arr e s 0 f)::st1.hp/\∀ g w c,aK g w k u c->aK g w k u' c:=by
     intro k u hk;rcases aL.1 hk with e1 | hk
     ·cases e1; exact⟨_,bT ..,fun _ _ _ h=>h⟩
     ·rcases aL.1 hk with e1 | hk
      ·cases e1; exact⟨_,hbm,fun _ _ _ h=>.self (h.toBlk rfl)⟩
      ·exact⟨u,bI _ (aJ.1 hk).1,fun _ _ _ h=>h⟩
    refine⟨F,upd g o (.slice none 0 0),r.nt,r.df,fun t' x hx=>?_,⟨⟨fun k u hk=>?_,fun k u b' hk hb=>?_,fun k u k' u' b' hk hk' hne hb hb'=>?_⟩,r.w.f0,r.w.f1,r.w.ext,fun k hk=>?_,r.w.b0⟩⟩
    ·obtain⟨h1,h2⟩:=St.erase_fr he t' x hx;exact(r.fr t' x h1).mono (fun b hb=>⟨hb,rfl⟩) (fun k hk=>aQ g _ (h2 k hk))
    ·rcases aL.1 hk with e1 | hk
     ·cases e1; exact hp.obj _ _ (bT ..)
     ·rcases aL.1 hk with e1 | hk
      ·cases e1;obtain⟨bb,vs,ty,e1,e2,e3,e4⟩:=hp.obj _ _ hbm;refine⟨bb,vs,ty,e1,e2,by simp[e3],fun q y v hy hv=>?_⟩;rw[lK]at hy;split at hy
       ·rename_i hq;subst hq;split at hy
        ·cases hy;have:=e4 j .nil v hj hv;cases this;exact .own (aP ..)
        ·cases hy
       ·exact e4 q y v hy hv
      ·exact hp.obj _ _ (bI _ (aJ.1 hk).1)
    ·obtain⟨u',hu,hf⟩:=key k u hk; exact hp.own k u' b' hu (hf _ _ _ hb)
    ·obtain⟨v,hv,hf⟩:=key k u hk; obtain⟨v',hv',hf'⟩:=key k' u' hk'; exact hp.sep k v k' v' b' hv hv' hne (hf _ _ _ hb) (hf' _ _ _ hb')
    ·rw[aQ g _ (fun e:k=o=>cI hn (hG.N▸e▸hk))];exact r.w.names k hk
   ·cases h
  ·cases h
 ·cases h
theorem Le.thawC(hG:cZ P E I){b j o:Nat}{e:TypeId}{s:Nat}{f:Nat->List T}{st':St}(h:uY I.N b j o e s f st=some st'):Le E st st':=fun _ _ r=>r.thawC hG h
theorem Rel.slot{p q:PV}(hl:look st.fr t=some p)(hpq:∀ F g w v,VR F g w p v->VR F g w q v){w:World}(r:Rel E st a w):Rel E { st with fr:=(t,q)::del t st.fr } a w:=by
 obtain⟨F,g,r⟩:=r;refine⟨F,g,r.nt,r.df,fun t' x hx=>?_,r.w⟩;rcases aL.1 hx with e | hx
 ·cases e; exact hpq _ _ _ _ (r.fr _ _ (aE hl))
 ·exact r.fr t' x (aJ.1 hx).1
theorem Rel.obj{o:Nat}{x y:aN}(hl:look st.hp o=some x)(hxy:∀ F g w,bL F g w o x->bL F g w o y)(hft:∀ g w c,aK g w o y c->aK g w o x c){a:Act}{w:World}(r:Rel E st a w):Rel E { st with hp:=(o,y)::del o st.hp } a w:=by
 obtain⟨F,g,r⟩:=r;have hlm:=aE hl;have key:∀ k u,(k,u)∈(o,y)::del o st.hp->∃ u',(k,u')∈st.hp/\∀ c,aK g w k u c->aK g w k u' c:=by
  intro k u hk;rcases aL.1 hk with e | hk
  ·cases e; exact⟨x,hlm,hft g w⟩
  ·exact⟨u,(aJ.1 hk).1,fun _ h=>h⟩
 refine⟨F,g,r.nt,r.df,r.fr,⟨⟨fun k u hk=>?_,fun k u b hk hb=>?_,fun k u k' u' b hk hk' hne hb hb'=>?_⟩,r.w.f0,r.w.f1,r.w.ext,r.w.names,r.w.b0⟩⟩
 ·rcases aL.1 hk with e | hk
  ·cases e; exact hxy _ _ _ (r.w.hp.obj _ _ hlm)
  ·exact r.w.hp.obj _ _ (aJ.1 hk).1
 ·obtain⟨u',h,hf⟩:=key k u hk; exact r.w.hp.own k u' b h (hf _ hb)
 ·obtain⟨v,h,hf⟩:=key k u hk; obtain⟨v',h',hf'⟩:=key k' u' hk'; exact r.w.hp.sep k v k' v' b h h' hne (hf _ hb) (hf' _ hb')
theorem bL.row{F:Nat->Prop}{g:Nat->Value}{w:World}{n':Nat}{f f':Nat->List T}(hn:n=n')(hf:∀ i,i<n->f i=f' i)(h:bL F g w o (.arr e s n f)):bL F g w o (.arr e s n' f'):=by
 subst hn;rcases h with h | ⟨b,cap,cur,h1,h2,h3,h4,h5,h6,h7⟩
 ·exact .inl h
 ·exact .inr ⟨b,cap,cur,h1,h2,h3,h4,h5,fun i hi=>by rw[<-hf i hi]; exact h6 i hi,fun i j x hi hx=>h7 i j x hi (by rw[hf i hi]; exact hx)⟩
theorem Le.freeze{o:Nat}{e:TypeId}{s n:Nat}{f:Nat->List T}{st':St}(x:T)(hl:look st.hp o=some (.arr e s n f))(hx:x.view=some (n,f))(h:jP o x st=some st'):Le E st st':=fun _ _ r=>r.freeze hl hx h
theorem Le.thaw(hG:cZ P E I){t o:Nat}{e:TypeId}{s:Nat}{f:Nat->List T}{st':St}(h:Av I.N t o e s f st=some st'):Le E st st':=fun _ _ r=>r.thaw hG h
theorem Le.slot{t:Nat}{p:PV}(q:PV)(hl:look st.fr t=some p)(hpq:∀ F g w v,VR F g w p v->VR F g w q v):Le E st { st with fr:=(t,q)::del t st.fr }:=fun _ _ r=>r.slot hl hpq
theorem Le.obj{o:Nat}{x:aN}(y:aN)(hl:look st.hp o=some x)(hxy:∀ F g w,bL F g w o x->bL F g w o y)(hy:y.plain=true:=by rfl):Le E st { st with hp:=(o,y)::del o st.hp }:=fun _ _ r=>r.obj hl hxy (fun _ _ _ h=>.self (h.toBlk hy))
theorem Le.objF{x:aN}(y:aN)(hl:look st.hp o=some x)(hxy:∀ F g w,bL F g w o x->bL F g w o y)(hft:∀ g w c,aK g w o y c->aK g w o x c):Le E st { st with hp:=(o,y)::del o st.hp }:=fun _ _ r=>r.obj hl hxy hft
end
def eL{α:Type}[Inhabited α](c:α->List T)(xs:List α):T:=.sl xs.length fun i=>c (xs.getD i default)
def eF{α:Type}[Inhabited α](c:α->List T)(xs:List α):Nat->List T:=fun i=>c (xs.getD i default)
def aD(x:Int):List T:=[.int .i64 x]
def cU8(x:Int):List T:=[.int .u8 x]
def nS(x:ByteArray):List T:=[.str x]
instance:Inhabited ByteArray:=⟨ByteArray.empty⟩
theorem bnd{β:Type}{x:Option α}{f:α->Option β}{y:β}(h:x.bind f=some y):∃ z,x=some z/\f z=some y:=by
 cases x with
 | none=>cases h
 | some z=>exact⟨z,rfl,h⟩
def Vi:TypeDesc->U
 | .int k=>.int k
 | .bool=>.bool
 | .string=>.str
 | .slice e=>.sl e
 | .struct fs=>.st (fs.toList.map fun f=>(f.offset,f.type))
 | .array n e=>.arr n e
 | .map k e=>.mp k e
 | .pointer e=>.ptr e
 | .interface _=>.ifc
 | _=>.other
def zOf(z:Option Value):Option (List (Option PV)):=match z with | some z=>some (z.cells.toList.map jW) | none=>none
def yQ(P:Program)(n:Nat):Nat->List Field->Bool
 | k,[]=>Nat.beq k n
 | k,f::fs=>f.name != "_" && Nat.beq f.offset k&&(match P.underlying f.type with | some (.int _)=>true | _=>false)&&yQ P n (k+1) fs
def wP(P:Program):Nat->List Field->Option Nat
 | _,[]=>some 0
 | k,f::fs=>match f.name != "_" && Nat.beq f.offset k,P.underlying f.type,wP P (k+1) fs with
  | true,some (.int _),some c=>some (1+4*c)
  | true,some .string,some c=>some (2+4*c)
  | true,some .bool,some c=>some (3+4*c)
  | _,_,_=>none
def xL(P:Program)(t:TypeId)(n:Nat):Bool:=
 match n with
 | 0=>true
 | n=>match P.underlying t with
  | some (.struct fs)=>!P.stoodInHeld t && !P.eqGuardType P.depth t&&yQ P n 0 fs.toList
  | some (.array m e)=>Nat.beq m n && !P.eqGuardType P.depth t&&(match P.underlying e with | some (.int _)=>true | _=>false)&&Nat.beq (P.cellsOf e) 1
  | _=>false
def yP(P:Program)(t:TypeId)(n:Nat):Bool:=
 match n with
 | 0=>true
 | n=>match P.underlying t with
  | some (.struct fs)=>!P.stoodInHeld t && !P.eqGuardType P.depth t&&(match wP P 0 fs.toList with | some c=>Nat.beq c n | none=>false)
  | _=>false
theorem zX{P:Program}{n d:Nat}:∀ {fs:List Field} {k:Nat},yQ P n k fs=true->∀ (xs ys:List Int) (w:World),xs.length=n->ys.length=n ->
  (Op.eqFields (d+1) (xs.map (Value.int .i64)).toArray (ys.map (Value.int .i64)).toArray fs).run P w = .ok (xs.drop k==ys.drop k) w
 | [],k,h,xs,ys,w,hx,hy=>by simp only[yQ]at h;have:=aZ h;simp[Op.eqFields,List.drop_of_length_le (show xs.length<=k by omega),List.drop_of_length_le (show ys.length<=k by omega)]
 | f::fs,k,h,xs,ys,w,hx,hy=>by
  simp only[yQ,bJ,bne_iff_ne]at h;obtain⟨⟨⟨h1,h2⟩,h3⟩,h4⟩:=h;have h2:=aZ h2;split at h3
  ·rename_i kk hu;have hk:k<n:=by
    rcases Nat.lt_or_ge k n with hlt | hge
    ·exact hlt
    ·exfalso;have:∀ (fs:List Field) (j:Nat),yQ P n j fs=true->j<=n:=by
      intro fs
      induction fs with
      | nil=>intro j hj; exact Nat.le_of_eq (aZ hj)
      | cons f fs ih=>intro j hj; simp only[yQ,bJ]at hj; have:=ih _ hj.2; omega
     have:=this _ _ h4; omega
   have hpart:∀ zs:List Int,zs.length=n->(part f.type (zs.map (Value.int .i64)).toArray f.offset).run P w = .ok (.int .i64 (zs.getD k 0)) w:=by intro zs hz;simp[part,isAgg,run_underlying hu,h2,show zs[k]? = some zs[k] from dE (by omega)]
   simp only[Op.eqFields,aH h1,Sem.run_bind,hpart xs hx,hpart ys hy,Result.andThen_ok,run_equalIn_int w d f.type _ kk _ _ hu];have ex:xs.drop k=xs.getD k 0::xs.drop (k+1):=by rw[zT (by omega)]; simp[show k<xs.length by omega]
   have ey:ys.drop k=ys.getD k 0::ys.drop (k+1):=by rw[zT (by omega)]; simp[show k<ys.length by omega]
   rw[ex,ey,List.cons_beq_cons];cases hb:xs.getD k 0==ys.getD k 0
   ·simp
   ·simp[zX h4 xs ys w hx hy]
  ·cases h3
theorem nA{P:Program}{d:Nat}:∀ {fs:List Field} {k c:Nat},wP P k fs=some c->∀ (l r:List T) (b:Bool) (w:World),k<=l.length->k<=r.length->dJ (l.drop k) (r.drop k)=some b->iF (l.drop k)=c ->
  (Op.eqFields (d+1) (l.map mZ).toArray (r.map mZ).toArray fs).run P w = .ok b w
 | [],k,c,h,l,r,b,w,hl0,hr0,hb,hc=>by
  simp only[wP,cV]at h;subst h;have hl:l.drop k=[]:=by
   cases hd:l.drop k with
   | nil=>rfl
   | cons x q=>rw[hd]at hb hc;cases x <;> simp only[iF]at hc <;> first | omega | (cases hr:r.drop k <;> rw[hr]at hb <;> simp[dJ]at hb)
  rw[hl]at hb;cases hr:r.drop k with
  | nil=>rw[hr]at hb; simp only[dJ,cV]at hb; subst hb; simp[Op.eqFields]
  | cons y q=>rw[hr]at hb; simp[dJ]at hb
 | f::fs,k,c,h,l,r,b,w,hl0,hr0,hb,hc=>by
  simp only[wP]at h;have part1:∀ (z:List T) (x:T) (q:List T),z.drop k=x::q->f.offset=k->(isAgg f.type).run P w = .ok false w->(part f.type (z.map mZ).toArray f.offset).run P w = .ok (mZ x) w:=by
   intro z x q hz ho hu;have hk:z[k]? = some x:=by have:=congrArg (·[0]?) hz;simpa using this
   simp[part,hu,ho,hk]
  have next:∀ (z:List T) (x:T) (q:List T),z.drop k=x::q->q=z.drop (k+1)/\k+1<=z.length:=by intro z x q hz;have h1:=congrArg List.tail hz;simp only[List.tail_drop,List.tail_cons]at h1;have h2:=congrArg List.length hz;simp only[fC,lE]at h2;exact⟨h1.symm,by omega⟩
  split at h
  ·rename_i kk c' h1 hu h2;simp only[bJ,bne_iff_ne]at h1;have ho:=aZ h1.2;cases h;cases hdl:l.drop k with
   | nil=>rw[hdl]at hc; simp only[iF]at hc; omega
   | cons x q=>
    cases hdr:r.drop k with
    | nil=>rw[hdl,hdr]at hb; cases x <;> simp[dJ]at hb
    | cons y s=>
     rw[hdl,hdr]at hb;rw[hdl]at hc;obtain⟨eq,el⟩:=next l x q hdl;obtain⟨er,el'⟩:=next r y s hdr;cases x <;> cases y <;> simp only[dJ,iF]at hb hc <;> first | omega | cases hb | skip
     rename_i k1 a1 k2 a2;split at hb
     ·rename_i hkk;subst hkk;split at hb
      ·rename_i c2 hc2;cases hb;have hrec:=nA (d:=d) h2 l r c2 w el el' (by rw[<-eq,<-er]; exact hc2) (by rw[<-eq]; omega);have p1:=part1 l _ q hdl ho (by simp[isAgg,run_underlying hu]);have p2:=part1 r _ s hdr ho (by simp[isAgg,run_underlying hu]);simp only[Op.eqFields,aH h1.1,Sem.run_bind,p1,p2,Result.andThen_ok,mZ,run_equalIn_int w d f.type _ _ _ _ hu];cases hb2:a1==a2
       ·simp
       ·simp[hrec]
      ·cases hb
     ·cases hb
  ·rename_i c' h1 hu h2;simp only[bJ,bne_iff_ne]at h1;have ho:=aZ h1.2;cases h;cases hdl:l.drop k with
   | nil=>rw[hdl]at hc; simp only[iF]at hc; omega
   | cons x q=>
    cases hdr:r.drop k with
    | nil=>rw[hdl,hdr]at hb; cases x <;> simp[dJ]at hb
    | cons y s=>
     rw[hdl,hdr]at hb;rw[hdl]at hc;obtain⟨eq,el⟩:=next l x q hdl;obtain⟨er,el'⟩:=next r y s hdr;cases x <;> cases y <;> simp only[dJ,iF]at hb hc <;> first | omega | cases hb | skip
     rename_i a1 a2;split at hb
     ·rename_i c2 hc2;cases hb;have hrec:=nA (d:=d) h2 l r c2 w el el' (by rw[<-eq,<-er]; exact hc2) (by rw[<-eq]; omega);have p1:=part1 l _ q hdl ho (by simp[isAgg,run_underlying hu]);have p2:=part1 r _ s hdr ho (by simp[isAgg,run_underlying hu]);simp only[Op.eqFields,aH h1.1,Sem.run_bind,p1,p2,Result.andThen_ok,mZ,run_equalIn_string w d f.type _ _ hu];cases hb2:a1.toList==a2.toList
      ·simp
      ·simp[hrec]
     ·cases hb
  ·rename_i c' h1 hu h2;simp only[bJ,bne_iff_ne]at h1;have ho:=aZ h1.2;cases h;cases hdl:l.drop k with
   | nil=>rw[hdl]at hc; simp only[iF]at hc; omega
   | cons x q=>
    cases hdr:r.drop k with
    | nil=>rw[hdl,hdr]at hb; cases x <;> simp[dJ]at hb
    | cons y s=>
     rw[hdl,hdr]at hb;rw[hdl]at hc;obtain⟨eq,el⟩:=next l x q hdl;obtain⟨er,el'⟩:=next r y s hdr;cases x <;> cases y <;> simp only[dJ,iF]at hb hc <;> first | omega | cases hb | skip
     rename_i a1 a2;split at hb
     ·rename_i c2 hc2;cases hb;have hrec:=nA (d:=d) h2 l r c2 w el el' (by rw[<-eq,<-er]; exact hc2) (by rw[<-eq]; omega);have p1:=part1 l _ q hdl ho (by simp[isAgg,run_underlying hu]);have p2:=part1 r _ s hdr ho (by simp[isAgg,run_underlying hu]);simp only[Op.eqFields,aH h1.1,Sem.run_bind,p1,p2,Result.andThen_ok,mZ,run_equalIn_bool' w d f.type _ _ hu];cases hb2:a1==a2
      ·simp
      ·simp[hrec]
     ·cases hb
  ·cases h
theorem iZ{P:Program}{t:TypeId}{k:IntKind}(hu:P.underlying t=some (.int k))(zs:List Int)(j:Nat)(hj:j<zs.length)(w:World):
  (part t (zs.map (Value.int .i64)).toArray j).run P w = .ok (.int .i64 (zs.getD j 0)) w:=by
 simp[part,isAgg,run_underlying hu,show zs[j]? = some zs[j] from dE hj]
theorem qG{P:Program}{e:TypeId}{k:IntKind}(hu:P.underlying e=some (.int k)){d n:Nat}(xs ys:List Int)(w:World)(hx:xs.length=n)(hy:ys.length=n):∀ is:List Nat,(∀ i,i∈is->i<n) ->
  (Op.eqItems (d+1) e 1 (xs.map (Value.int .i64)).toArray (ys.map (Value.int .i64)).toArray is).run P w = .ok (is.all fun i=>xs.getD i 0==ys.getD i 0) w
 | [],_=>by simp[Op.eqItems]
 | i::is,h=>by
  have hi:=h i (by simp);simp only[Op.eqItems,Nat.mul_one,Sem.run_bind,iZ hu xs i (by omega),iZ hu ys i (by omega),Result.andThen_ok,run_equalIn_int w d e _ k _ _ hu];cases hb:xs.getD i 0==ys.getD i 0
  ·simp only[Bool.not_false,if_true,Sem.run_pure,rR,hb,Bool.false_and]
  ·simp only[Bool.not_true,jF,fK,rR,hb,Bool.true_and];exact qG hu xs ys w hx hy is (fun j hj=>h j (bI _ hj))
theorem Pu(xs ys:List Int)(hx:xs.length=n)(hy:ys.length=n):((List.range n).all fun i=>xs.getD i 0==ys.getD i 0)=(xs==ys):=by
 rw[Bool.eq_iff_iff];simp only[cU,pG,beq_iff_eq];constructor
 ·intro h;apply List.ext_getElem (by omega);intro i h1 h2;have:=h i (by omega);simpa[bO,h1,h2] using this
 ·rintro rfl i _; rfl
theorem lI{P:Program}{w:World}{α:Type}(f:α->PUnit->Sem (ForInStep PUnit)):∀ l:List α,(∀ x,x∈l->∀ u,(f x u).run P w = .ok (.yield ⟨⟩) w)->(forIn l (⟨⟩:PUnit) f).run P w = .ok ⟨⟩ w
 | [],_=>by simp
 | x::l,h=>by rw[List.forIn_cons,Sem.run_bind,h x (by simp)];simp only[Result.andThen_ok];exact lI f l (fun y hy=>h y (bI _ hy))
def Ft(P:Program)(t:TypeId)(u:U):Bool:=
 match u with
 | .bool=>match P.info? t with
  | some info=>match info.zero with
   | some (.bool false)=>true
   | _=>false
  | none=>false
 | _=>true
theorem Wx{P:Program}{t:TypeId}{u:U}(h:Ft P t u=true):u = .bool->∃ info,P.info? t=some info/\info.zero=some (.bool false):=by
 rintro rfl;unfold Ft at h;simp only at h;split at h
 ·rename_i info hi;split at h
  ·rename_i hz; exact⟨info,hi,hz⟩
  ·cases h
 ·cases h
theorem Fq{P:Program}{t:TypeId}(h:xL P t i.eqn=true)(hu:UR P t i.und):Pg P t i:=by
 intro m e hm hn em xs w hx;rw[hm]at hu;simp only[UR]at hu;unfold xL at h;split at h
 ·rename_i h0; exact absurd h0 hn
 ·rw[hu]at h;simp only[bJ]at h;obtain⟨⟨⟨h1,_⟩,h3⟩,h4⟩:=h;have h1:=aZ h1;have h4:=aZ h4;split at h3
  ·rename_i k hk;obtain⟨info,hi⟩:=info_of_underlying hk;rw[show (10000:Nat)=9998+1+1 from rfl];generalize 9998=dd;rw[mG,Instr.checkKey];simp only[Sem.run_bind,run_underlying hu,Result.andThen_ok];simp only[Std.Legacy.Range.forIn_eq_forIn_range',Std.Legacy.Range.size,Nat.sub_zero,Nat.add_one_sub_one,Nat.div_one];rw[lI _ (List.range' 0 m)]
   ·simp
   intro j hj u;have hj':j<xs.length:=by simp[List.mem_range']at hj; omega
   simp only[Sem.run_bind,Go.run_sizeOf w hi,Result.andThen_ok,h4,Nat.mul_one,iZ hk xs j hj'];simp[Instr.checkKey,run_underlying hk]
  ·cases h3
theorem Ky{P:Program}{t:TypeId}(h:xL P t n=true):Qt P t n:=by
 intro hn;unfold xL at h;split at h
 ·exact absurd rfl hn
 ·split at h
  ·rename_i fs hu;simp only[bJ,gC]at h;refine⟨h.1.2,fun xs ys w hx hy=>?_⟩;have hf:P.fieldsOf t=fs:=by simp[Program.fieldsOf,hu]
   rw[show (10000:Nat)=9999+1 from rfl,run_equalIn_agg w 9999 t _ _ (by rw[hf]; exact hu) h.1.1,hf];rw[show (9999:Nat)=9998+1 from rfl,zX h.2 xs ys w hx hy];simp
  ·rename_i m e hu;simp only[bJ,gC]at h;obtain⟨⟨⟨h1,h2⟩,h3⟩,h4⟩:=h;have h1:=aZ h1;have h4:=aZ h4;refine⟨h2,fun xs ys w hx hy=>?_⟩;split at h3
   ·rename_i k hk;obtain⟨info,hi⟩:=info_of_underlying hk;rw[show (10000:Nat)=9999+1 from rfl,run_equalIn_array w 9999 _ _ hu hi,h4,show (9999:Nat)=9998+1 from rfl,h1,qG hk xs ys w hx hy _ (fun i hi=>pG.1 hi),Pu xs ys hx hy]
   ·cases h3
  ·cases h
theorem Ez{P:Program}{t:TypeId}(h:yP P t n=true):Pl P t n:=by
 intro hn;unfold yP at h;split at h
 ·exact absurd rfl hn
 ·split at h
  ·rename_i fs hu;simp only[bJ,gC]at h;obtain⟨⟨h1,h2⟩,h3⟩:=h;split at h3
   ·rename_i c hc;have h3:=aZ h3;refine⟨h2,fun l r b w hl hlen=>?_⟩;have hf:P.fieldsOf t=fs:=by simp[Program.fieldsOf,hu]
    rw[show (10000:Nat)=9999+1 from rfl,run_equalIn_agg w 9999 t _ _ (by rw[hf]; exact hu) h1,hf];rw[show (9999:Nat)=9998+1 from rfl,nA hc l r b w (Nat.zero_le _) (Nat.zero_le _) hl (by rw[h3]; exact hlen)]
   ·cases h3
  ·cases h
theorem aO{P:Program}{t:TypeId}(h1:(P.info? t).map (fun x=>(x.size,x.bytes,zOf x.zero))=some (i.size,i.bytes,some (i.zero.map some)))
  (h2:(P.underlying t).map Vi=some i.und)(h34:(xL P t i.eqn&&yP P t i.eqf&&Ft P t i.und)=true):TOk P t i where
 zb:=Wx (by simp only[bJ]at h34; exact h34.2)
 eqv:=Ky (by simp only[bJ]at h34; exact h34.1.1)
 eqf:=Ez (by simp only[bJ]at h34; exact h34.1.2)
 keyv:=Fq (by simp only[bJ]at h34; exact h34.1.1) (by
  cases hu:P.underlying t with
  | none=>rw[hu]at h2; cases h2
  | some d=>rw[hu]at h2;simp only[iK,cV]at h2;rw[<-h2];cases d <;> first | exact hu | exact⟨_,hu,rfl⟩ | exact⟨_,hu⟩)
 info:=by
  cases hi:P.info? t with
  | none=>rw[hi]at h1; cases h1
  | some info=>
   rw[hi]at h1;simp only[iK,cV,dS]at h1;obtain⟨a,b,c⟩:=h1;unfold zOf at c;split at c
   ·rename_i z hz; exact⟨info,rfl,a,b,z,hz,by injection c⟩
   ·cases c
 und:=by
  cases hu:P.underlying t with
  | none=>rw[hu]at h2; cases h2
  | some d=>rw[hu]at h2;simp only[iK,cV]at h2;rw[<-h2];cases d <;> first | exact hu | exact⟨_,hu,rfl⟩ | exact⟨_,hu⟩
theorem Is{P:Program}:∀ e,e∈([]:List (Nat×bV))->TOk P e.1 e.2:=by simp
theorem aC{P:Program}{l:List (Nat×bV)}(h:TOk P t i)(hl:∀ e,e∈l->TOk P e.1 e.2):∀ e,e∈(t,i)::l->TOk P e.1 e.2:=by
 intro e he;rcases aL.1 he with rfl | he
 ·exact h
 ·exact hl e he
theorem Ns{P:Program}{l:List (Nat×bV)}(h:∀ e,e∈l->TOk P e.1 e.2):gE P (look l):=fun t i hi=>h (t,i) (aE hi)
theorem bH{P:Program}{k:FuncId}(h:P.funcs[k]? = some fn)(h2:(fn.body.isNone,fn.name == "runtime.NumGoroutine")=(false,false)):eG P k:=
 ⟨fn,h,congrArg Prod.fst h2,congrArg Prod.snd h2⟩
def Ret(x:PV):PV->Hp->Prop:=fun r _=>r=x
section
variable {P:Program} {E:Env} {I:Inf} {Q:dQ} {st:St}
end
theorem Iu{x:T}{f:Nat->List T}(h:x.view=some (0,f)):∀ F g w v,VR F g w .nil v->VR F g w (.t x) v:=by intro F g w v hv; cases hv; exact .t (.nil h)
theorem qM{n':Nat}{f f':Nat->List T}{x:T}(hx:x.view=some (n',f'))(hn:n'=n)(hf:∀ i,i<n->f i=f' i):
  ∀ F g w v,VR F g w (.t (.sl n f)) v->VR F g w (.t x) v:=by
 intro F g w v hv;subst hn;cases hv with
 | t r=>
  cases r with
  | nil h=>
   have:n'=0:=by simp[T.view]at h; exact h.1
   subst this;exact .t (.nil hx)
  | sl a cap size vs h hc hF hs hc' hr=>simp only[T.view,cV,dS]at h;obtain⟨rfl,rfl⟩:=h;exact .t (.sl a cap size vs hx hc hF (fun i hi=>by rw[<-hf i hi]; exact hs i hi) hc' fun i j y hi hy=>hr i j y hi (by rw[hf i hi]; exact hy))
theorem rY[Inhabited α]{c:α->List T}{xs:List α}{l h:Int}{x:T}(hc:0<=l/\l<=h/\h<=(xs.length:Int))
  (hx:x.view=some (((xs.drop l.toNat).take (h-l).toNat).length,eF c ((xs.drop l.toNat).take (h-l).toNat))):
  ∀ F g w v,VR F g w (.t (.sl (h-l).toNat fun k=>eF c xs (l.toNat+k))) v->VR F g w (.t x) v:=by
 refine qM hx (by simp; omega) fun i hi=>?_;simp only[eF,bO,dZ,fL,aH hi]
inductive fG:List PV->List T->Prop
 | nil:fG [] []
 | same {x:T} {l:List PV} {r:List T} (h:fG l r):fG (.t x::l) (x::r)
 | empty {x:T} {f:Nat->List T} {l:List PV} {r:List T} (hx:x.view=some (0,f)) (h:fG l r):fG (.nil::l) (x::r)
 | imp {p:PV} {x:T} {l:List PV} {r:List T} (hp:∀ F g w v,VR F g w p v->VR F g w (.t x) v) (h:fG l r):fG (p::l) (x::r)
theorem fG.get{l:List PV}{r:List T}(h:fG l r):r.length=l.length/\∀ (j:Nat) p x,l[j]? = some p->r[j]? = some x->∀ F g w v,VR F g w p v->VR F g w (.t x) v:=by
 induction h with
 | nil=>simp
 | same _ ih=>
  refine⟨by simp[ih.1],fun j p x hp hx=>?_⟩;cases j with
  | zero=>simp at hp hx; subst hp; subst hx; exact fun _ _ _ _ h=>h
  | succ j=>exact ih.2 j p x (by simpa using hp) (by simpa using hx)
 | empty hv _ ih=>
  refine⟨by simp[ih.1],fun j p x hp hx=>?_⟩;cases j with
  | zero=>simp at hp hx; subst hp; subst hx; exact Iu hv
  | succ j=>exact ih.2 j p x (by simpa using hp) (by simpa using hx)
 | imp hv _ ih=>
  refine⟨by simp[ih.1],fun j p x hp hx=>?_⟩;cases j with
  | zero=>simp at hp hx; subst hp; subst hx; exact hv
  | succ j=>exact ih.2 j p x (by simpa using hp) (by simpa using hx)
theorem tX{l:List PV}{r:List T}(h:fG l r):∀ F g w v,VR F g w (.agg l) v->VR F g w (.t (.agg r)) v:=by
 intro F g w v hv;cases hv with
 | @agg _ vs hs hr=>
  refine .t (.agg (by rw[hs,h.get.1]) fun j x u hx hu=>?_);have hj:j<l.length:=by rw[<-h.get.1]; exact(bZ.1 hx).1
  exact(h.get.2 j l[j] x (by simp[hj]) hx _ _ _ _ (hr j l[j] u (by simp[hj]) hu)).cells_t rfl
theorem Qr{F:Nat->Prop}{g:Nat->Value}{w:World}{l:List PV}{r:List T}(h:fG l r)(hb:bL F g w o (.box l)):bL F g w o (.box (r.map PV.t)):=by
 obtain⟨b,vs,ty,h1,h2,h3,h4⟩:=hb;refine⟨b,vs,ty,h1,h2,by simp[h3,h.get.1],fun j x v hx hv=>?_⟩;simp only[cR,fJ]at hx;obtain⟨y,hy,rfl⟩:=hx;have hj:j<l.length:=by rw[<-h.get.1]; exact(bZ.1 hy).1
 exact h.get.2 j l[j] y (by simp[hj]) hy _ _ _ _ (h4 j l[j] v (by simp[hj]) hv)
theorem zV[Inhabited α](c:α->List T)(xs ys:List α):∀ i,i<xs.length+ys.length->kX xs.length (eF c xs) (eF c ys) i=eF c (xs++ys) i:=by
 intro i hi;unfold kX eF;split
 ·rename_i h; simp[dB h]
 ·rename_i h; simp[dF (Nat.le_of_not_lt h)]
section
variable {P:Program} {E:Env} {I:Inf} {Q:dQ} {st:St}
theorem Dc(hl:look st.fr t=some (.t (.bool b)))(h1:b=true->bY P E ops Q l { st with fr:=(t,.t (.bool true))::del t st.fr })
  (h0:b=false->bY P E ops Q l { st with fr:=(t,.t (.bool false))::del t st.fr }):bY P E ops Q l st:=by
 cases hb:b with
 | true=>subst hb; exact cT (fun _ _=>Rel.slot hl (fun _ _ _ _ h=>h)) (h1 rfl)
 | false=>subst hb; exact cT (fun _ _=>Rel.slot hl (fun _ _ _ _ h=>h)) (h0 rfl)
end
def eB{α:Type}(l:List (Nat×α)):List Nat->List (Nat×α)
 | []=>[]
 | t::ts=>match look l t with | some x=>(t,x)::eB l ts | none=>eB l ts
theorem mL{α:Type}{l:List (Nat×α)}:∀ {ts:List Nat} e,e∈eB l ts->e∈l
 | [],e,h=>by simp[eB]at h
 | t::ts,e,h=>by
  simp only[eB]at h;split at h
  ·rename_i x hx;rcases aL.1 h with rfl | h
   ·exact aE hx
   ·exact mL e h
  ·exact mL e h
def eU(o:Oper):List Nat:=(o.after.toList.filter (Region.binds .any)).map (·.on)
def cF:List Bool->Nat->Bool->Bool
 | [],_,d=>d
 | b::_,0,_=>b
 | _::l,i+1,d=>cF l i d
theorem cJ(l:List Bool)(i:Nat)(d:Bool):cF l i d=l.getD i d:=by
 induction l generalizing i with
 | nil=>simp[cF]
 | cons b l ih=>cases i <;> simp[cF,ih]
def kZ:List Bool->Nat->List Bool
 | [],_=>[]
 | _::l,0=>true::l
 | b::l,i+1=>b::kZ l i
theorem fU(l:List Bool)(i:Nat):kZ l i=l.set i true:=by
 induction l generalizing i with
 | nil=>simp[kZ]
 | cons b l ih=>cases i <;> simp[kZ,ih]
def yS(ops:List Oper)(m:List Bool)(i:Nat):Bool:=
 match cF m i true with
 | true=>false
 | false=>match ops[i]? with
  | none=>false
  | some o=>(eU o).all fun j=>cF m j false
inductive pC:List (Nat×(Bool×Bool))->Prop
 | nil:pC []
 | cons {i:Nat} {b v:Bool} {l:List (Nat×(Bool×Bool))} (h:b=v) (t:pC l):pC ((i,b,v)::l)
theorem pC.mem{l:List (Nat×(Bool×Bool))}(h:pC l):∀ e,e∈l->e.2.1=e.2.2:=by
 induction h with
 | nil=>simp
 | cons h _ ih=>
  intro e he;rcases aL.1 he with rfl | he
  ·exact h
  ·exact ih e he
inductive kU:List (Nat×List Prop)->Prop
 | nil:kU []
 | cons {i:Nat} {C:List Prop} {l:List (Nat×List Prop)} (h:All C) (t:kU l):kU ((i,C)::l)
theorem kU.mem{l:List (Nat×List Prop)}(h:kU l):∀ e,e∈l->All e.2:=by
 induction h with
 | nil=>simp
 | cons h _ ih=>
  intro e he;rcases aL.1 he with rfl | he
  ·exact h
  ·exact ih e he
section
variable {P:Program} {E:Env} {I:Inf} {Q:dQ} {st st':St}
theorem pP{m:List Bool}{i:Nat}(h:i∈Region.ready .any ops.toArray m.toArray):yS ops m i=true/\i<ops.length:=by
 obtain⟨h1,o,ho,h2⟩:=mem_ready.1 h;have ho':ops[i]? = some o:=by simpa using ho
 refine⟨?_,(bZ.1 ho').1⟩;unfold yS;have h1':cF m i true=false:=by rw[cJ]; simpa[Ap,bO] using h1
 rw[h1',ho'];simp only[eU,List.all_map,cU,mC,Function.comp];rintro e ⟨he1,he2⟩;have:=h2 e (by simpa using he1) he2;rw[cJ];simpa[Ap,bO] using this
theorem Rel.same{w:World}(r:Rel E st a w)(hh:w'.heap=w.heap)(ho:w'.os=w.os)(ht:w'.tape=w.tape)(hu:w'.output=w.output):Rel E st a w':=by
 obtain⟨F,g,r⟩:=r;have hb:∀ b:Nat,w'.heap[b]? = w.heap[b]?:=fun b=>by rw[hh]
 have hf:∀ {o x b},aK g w' o x b->aK g w o x b:=fun h=>h.mono rfl (fun _ _=>rfl) (fun c _=>hb c);refine⟨F,g,r.nt,r.df,fun t x hx=>(r.fr t x hx).mono (fun b h=>⟨h,hb b⟩) (fun _ _=>rfl),⟨⟨fun o x hx=>?_,fun o x b hx h=>r.w.hp.own o x b hx (hf h),fun o x o' y b hx hy hne h h'=>r.w.hp.sep o x o' y b hx hy hne (hf h) (hf h')⟩,r.w.f0,fun b h=>?_,?_,r.w.names,r.w.b0⟩⟩
 ·exact(r.w.hp.obj o x hx).mono (fun b h=>⟨h,hb b⟩) rfl (fun _ _=>rfl) (fun b _=>hb b)
 ·rw[hh]; exact r.w.f1 b h
 ·exact r.w.ext.trans ho ht hu (by rw[hh]; exact cY _) (fun b _ _=>hb b)
theorem Rel.drew{w:World}(r:Rel E st a w):Rel E st a { w with drawn:=w.drawn+1 }:=r.same rfl rfl rfl rfl
end
def inN:Nat->List Nat->Bool
 | _,[]=>false
 | o,k::l=>match Nat.beq o k with | true=>true | false=>inN o l
theorem bS{o:Nat}:∀ {l:List Nat},inN o l=true↔o∈l
 | []=>by simp[inN]
 | k::l=>by
  simp only[inN];split
  ·rename_i h; simp[aZ h]
  ·rename_i h; rw[bS (l:=l)]; simp[gD h]
def kD(hp:Hp)(L:List Nat):Hp:=hp.filter fun e=>!(inN e.1 L)
theorem dV{hp:Hp}{L:List Nat}{e:Nat×aN}(h:e∈kD hp L):e∈hp/\e.1∉L:=by simp only[kD,mC,gC]at h;exact⟨h.1,fun hm=>by rw[bS.2 hm]at h; cases h.2⟩
def kO(ns l:List Nat):Bool:=ns.all fun o=>!(inN o l)
theorem jL{ns l:List Nat}(h:kO ns l=true):∀ o,o∈ns->o∉l:=by intro o ho hm;have:=cU.1 h o ho;rw[bS.2 hm]at this; cases this
def Au(ns l:List Nat):Bool:=ns.all fun o=>inN o l
theorem qJ{ns l:List Nat}(h:Au ns l=true):∀ o,o∈ns->o∈l:=fun o ho=>bS.1 (cU.1 h o ho)
def jU(st:St)(L N nw:List Nat):Bool:=(st.fr.all fun e=>kO e.2.names nw)&&((kD st.hp L).all fun e=>(!(inN e.1 nw))&&kO e.2.names nw)&&kO N nw
def jX(r:PV)(H:Hp)(l:List Nat):Bool:=Au r.names l&&H.all fun e=>inN e.1 l&&Au e.2.names l
section
variable {P:Program} {E:Env} {I:Inf} {Q:dQ} {st:St}
theorem nD(hG:cZ P E I){o:Oper}{caps aps bps:List PV}{Qc:PV->Hp->Prop}{Hs:Hp}(L N nw:List Nat)
  (hop:o.op = .call c)(hcal:c.callee = .value f)(hd:o.dst=some d)(hw:aU ops o st=some true)(hnt:Nat.blt d I.nt=true)
  (hf:ev st f=some (.fn (.func k) nf caps))(hargs:eP st c.args.toList=some aps)(hk:eG P k)(has:fV st [] (caps.take nf++aps++caps.drop nf) bps)
  (hpick:gM st.hp L=some Hs)(hfresh:jU st L I.N nw=true)(hcall:dK P k bps Hs N Qc)
  {w:World}(r:Rel E st a w)
  (hres:∀ r H',Qc r H'->jX r H' (N++nw)=true/\∀ a' w',Rel E (({ fr:=st.fr,hp:=H'++kD st.hp L }:St).put d r) a' w'->K a' w'):
  if Region.wanted o (yielded ops.toArray a.tmps) then o.wp P a w K Q' else K (a.put o.dst undef) w:=by
 obtain⟨F,g,r⟩:=r;have hwt:=dM (ops:=ops.toArray) r (by simpa using hw);obtain⟨hl1,hr1⟩:=lP r _ _ hargs;have hfv:=aR r hf;obtain⟨fv,hfe⟩:∃ u,a.eval f=u:=⟨_,rfl⟩;rw[hfe]at hfv;have hHs:=jB hpick;cases hfv with
 | @fn _ _ _ us vs hn hs hr=>
  subst hn;rw[aH hwt];unfold Oper.wp;have hrun:(execOp a.eval o).run P w = .ok (.enter k (us++(c.args.map a.eval)++vs)) w:=by unfold execOp;simp[hop,resolve,hcal,hfe,Deferred.ofValue,invoke,mX hk]
  rw[hrun];have hcallW:=hcall F g w (us++c.args.map a.eval++vs) (by
    have:=has.get.1;simp only[gB,cL,fC]at this;have h2:c.args.size=aps.length:=by simpa using hl1.symm
    simp only[gP]at hs;simp only[gP,Array.size_map]; omega) (fun j q v hq hv=>by
    obtain⟨p,hp,hpq⟩:=has.get.2 j q hq;have hpv:VR F g w p v:=by
     have h2:c.args.size=aps.length:=by simpa using hl1.symm
     have hus:us.size<=caps.length:=by simp at hs; omega
     have htk:(caps.take us.size).length=us.size:=by simp; omega
     by_cases hi:j<us.size
     ·rw[eC,dB (by omega),List.getElem?_take_of_lt hi]at hp;rw[oP,hS hi]at hv;exact hr j p v hp (by rw[hS hi]; exact hv)
     rw[eC,dF (by omega),htk]at hp;rw[oP,oR (by omega)]at hv;by_cases hj:j-us.size<aps.length
     ·rw[dB hj]at hp;rw[hS (by simp; omega)]at hv;exact hr1 _ p v hp (by simpa using hv)
     ·rw[dF (by omega),fL]at hp;rw[oR (by simp; omega)]at hv;refine hr (us.size+(j-us.size-aps.length)) p v hp ?_;rw[oR (by omega)];simpa[h2] using hv
    cases hpq with
    | same=>exact hpv
    | nil hx=>cases hpv; exact .t (.nil hx)
    | imp h=>exact h _ _ _ _ hpv
    | lend ho=>simp at ho
    | lendA ho=>simp at ho)
   ⟨fun o x hx=>r.w.hp.obj o x (hHs _ hx).1,fun o x b hx hb=>⟨(r.w.hp.own o x b (hHs _ hx).1 hb).1,trivial⟩,
    fun o x o' y b hx hy=>r.w.hp.sep o x o' y b (hHs _ hx).1 (hHs _ hy).1⟩ (fun b hb=>(r.w.f1 b hb).1) (hG.glw r.w)
  simp only[Oper.upon];refine hcallW.mono ?_;rintro e w' ⟨v,res,H',F',g',rfl,hQ,hv,hW⟩;obtain⟨hback,hgo⟩:=hres res H' hQ;refine hgo _ _ ?_;rw[hd];have hext:=hW.ext;simp only[jU,bJ,cU,gC]at hfresh;obtain⟨⟨hfr,hrest⟩,hN⟩:=hfresh;simp only[jX,bJ,cU]at hback;obtain⟨hbr,hbH⟩:=hback;let g2:Nat->Value:=fun o=>if inN o nw=true then g' o else g o
  have hold:∀ o,o∉nw->g2 o=g o:=fun o ho=>aT (fun h=>ho (bS.1 h));have hnew:∀ o,o∈N++nw->g2 o=g' o:=by
   intro o ho;show (if inN o nw=true then g' o else g o)=g' o;split
   ·rfl
   ·rename_i h;rcases dT.1 ho with ho | ho
    ·exact(hW.names o ho).symm
    ·exact absurd (bS.2 ho) h
  have hown:∀ b,Own g w Hs b->b<w.heap.size/\¬ F b:=by rintro b ⟨o,x,hx,hb⟩;exact⟨hb.block (r.w.hp.obj o x (hHs _ hx).1),(r.w.hp.own o x b (hHs _ hx).1 hb).1⟩
  have hblk:∀ b,b<w.heap.size->¬ Own g w Hs b->w'.heap[b]? = w.heap[b]?:=fun b hb hB=>hext.block b hb hB;have hFF:∀ b,F b->F' b/\w'.heap[b]? = w.heap[b]?:=fun b hb=>⟨hW.f0 b hb,hblk b (r.w.f1 b hb).1 (fun h=>(hown b h).2 hb)⟩;have hnotown:∀ o x b,(o,x)∈kD st.hp L->aK g w o x b->¬ Own g w Hs b:=by rintro o x b hx hb ⟨o',x',hx',hb'⟩;obtain⟨h1,h2⟩:=dV hx;exact r.w.hp.sep o x o' x' b h1 (hHs _ hx').1 (fun e=>h2 (e▸(hHs _ hx').2)) hb hb'
  have hrn:∀ o x,(o,x)∈kD st.hp L->o∉nw:=fun o x hx hm=>by have:=(hrest _ hx).1;rw[bS.2 hm]at this; cases this
  have hd':d<E.nt:=by rw[hG.nt]; simpa[cB] using hnt
  have ftH:∀ o x b,(o,x)∈H'->aK g2 w' o x b->aK g' w' o x b:=fun o x b hx hb=>by have hh:=hbH _ hx;exact hb.mono (hnew o (bS.1 hh.1)) (fun o' ho'=>hnew o' (qJ hh.2 o' ho')) (fun _ _=>rfl)
  have ftR:∀ o x b,(o,x)∈kD st.hp L->aK g2 w' o x b->aK g w o x b:=fun o x b hx hb=>
   hb.mono (hold o (hrn o x hx)) (fun o' ho'=>hold o' (jL (hrest _ hx).2 o' ho'))
    (fun c hc=>hblk c ((r.w.hp.obj o x (dV hx).1).block hc) (hnotown o x c hx (.self hc)))
  refine⟨F',g2,r.putW (st':={ fr:=st.fr,hp:=H'++kD st.hp L }) hd' hFF (fun t y hy=>⟨hy,fun o ho=>hold o (jL (hfr _ hy) o ho)⟩) ?_
   (hv.mono (fun b hb=>⟨hb,rfl⟩) (fun o ho=>hnew o (qJ hbr o ho)))⟩
  refine⟨⟨fun o x hx=>?_,fun o x b hx hb=>?_,fun o x o' y b hx hy hne hb hb'=>?_⟩,fun b hb=>(hFF b (r.w.f0 b hb)).1,fun b hb=>⟨(hW.f1 b hb).1,?_⟩,?_,fun o ho=>?_,r.w.b0⟩
  ·rcases dT.1 hx with hx | hx
   ·have hh:=hbH _ hx;exact(hW.hp.obj o x hx).mono (fun b hb=>⟨hb,rfl⟩) (hnew o (bS.1 hh.1)) (fun o' ho'=>hnew o' (qJ hh.2 o' ho')) (fun _ _=>rfl)
   ·exact(r.w.hp.obj o x (dV hx).1).mono hFF (hold o (hrn o x hx)) (fun o' ho'=>hold o' (jL (hrest _ hx).2 o' ho'))
     (fun b hb=>hblk b (hb.block (r.w.hp.obj o x (dV hx).1)) (hnotown o x b hx hb))
  ·rcases dT.1 hx with hx | hx
   ·have hb:=ftH o x b hx hb;refine⟨(hW.hp.own o x b hx hb).1,?_⟩;rcases (hW.hp.own o x b hx hb).2 with⟨o',x',hx',hb'⟩ | h
    ·exact(r.w.hp.own o' x' b (hHs _ hx').1 hb').2
    ·exact .inr (kG r.w.ext.size h)
   ·have hb:=ftR o x b hx hb;have hlt:=hb.block (r.w.hp.obj o x (dV hx).1);have hh:=r.w.hp.own o x b (dV hx).1 hb;refine⟨fun hF'=>?_,hh.2⟩;rcases (hW.f1 b hF').2 with h | h | h
    ·exact hh.1 h
    ·exact hnotown o x b hx hb h
    ·exact absurd hlt (Nat.not_lt.2 h)
  ·have key:∀ o x o' y b,(o,x)∈H'->(o',y)∈kD st.hp L->aK g2 w' o x b->aK g2 w' o' y b->False:=by
    intro o x o' y b hx hy hb hb';have hb:=ftH o x b hx hb;have hb':=ftR o' y b hy hb';rcases (hW.hp.own o x b hx hb).2 with h | h
    ·exact hnotown o' y b hy hb' h
    ·exact absurd (hb'.block (r.w.hp.obj o' y (dV hy).1)) (Nat.not_lt.2 h)
   rcases dT.1 hx with hx | hx
   ·rcases dT.1 hy with hy | hy
    ·exact hW.hp.sep o x o' y b hx hy hne (ftH o x b hx hb) (ftH o' y b hy hb')
    ·exact key o x o' y b hx hy hb hb'
   ·rcases dT.1 hy with hy | hy
    ·exact key o' y o x b hy hx hb' hb
    ·exact r.w.hp.sep o x o' y b (dV hx).1 (dV hy).1 hne (ftR o x b hx hb) (ftR o' y b hy hb')
  ·rcases (hW.f1 b hb).2 with h | h | h
   ·exact(r.w.f1 b h).2
   ·obtain⟨o',x',hx',hb'⟩:=h;rcases (r.w.hp.own o' x' b (hHs _ hx').1 hb').2 with h | h
    ·exact .inr (.inl h)
    ·exact .inr (.inr h)
   ·exact .inr (.inr (kG r.w.ext.size h))
  ·refine r.w.ext.trans hext.os hext.tape hext.output hext.size (fun b hb hB=>hblk b (by have:=r.w.ext.size; omega) ?_);rintro⟨o',x',hx',hb'⟩;rcases (r.w.hp.own o' x' b (hHs _ hx').1 hb').2 with h | h
   ·exact hB h
   ·exact absurd hb (Nat.not_lt.2 h)
  ·rw[hold o (fun hm=>jL hN o (by rw[<-hG.N]; exact ho) hm)];exact r.w.names o ho
theorem xY(hG:cZ P E I){o:Oper}{caps aps bps:List PV}{Qc:PV->Hp->Prop}{Hs:Hp}(L N nw:List Nat)
  (hl:l=o::rest)(hop:o.op = .call c)(hcal:c.callee = .value f)(hd:o.dst=some d)(hw:aU ops o st=some true)(hnt:Nat.blt d I.nt=true)
  (hf:ev st f=some (.fn (.func k) nf caps))(hargs:eP st c.args.toList=some aps)(hk:eG P k)(has:fV st [] (caps.take nf++aps++caps.drop nf) bps)
  (hpick:gM st.hp L=some Hs)(hfresh:jU st L I.N nw=true)(hcall:dK P k bps Hs N Qc)
  (hres:∀ r H',Qc r H'->jX r H' (N++nw)=true/\bY P E ops Q rest (({ fr:=st.fr,hp:=H'++kD st.hp L }:St).put d r)):bY P E ops Q l st:=by
 subst hl;intro a w r;refine wpList_step fun K hK=>nD hG L N nw hop hcal hd hw hnt hf hargs hk has hpick hfresh hcall r fun r H' hq=>⟨(hres r H' hq).1,fun a' w' r'=>hK _ _ ((hres r H' hq).2 a' w' r')⟩
end
def mB(p:PV)(H:Hp):PV->Hp->Prop:=fun r H'=>r=p/\H'=H
def rn1(o o' k:Nat):Nat:=match Nat.beq k o with | true=>o' | false=>k
def PV.rn(o o':Nat):PV->PV
 | .ptr k off=>.ptr (rn1 o o' k) off
 | .own k=>.own (rn1 o o' k)
 | .aptr k s i off=>.aptr (rn1 o o' k) s i off
 | .map k=>.map (rn1 o o' k)
 | .fn f n cs=>.fn f n (go cs)
 | .tup l=>.tup (go l)
 | .agg l=>.agg (go l)
 | p=>p
where go:List PV->List PV
 | []=>[]
 | x::l=>x.rn o o'::go l
theorem oK{o':Nat}{l:List PV}:PV.rn.go o o' l=l.map (PV.rn o o'):=by
 induction l with
 | nil=>rfl
 | cons x l ih=>simp[PV.rn.go,ih]
def Qv(o o':Nat):Option dO->Option dO
 | none=>none
 | some i=>some ⟨rn1 o o' i.o,i.rem,i.cur⟩
def Tw(o o':Nat):Option (T×Option PV)->Option (T×Option PV)
 | some (k,some p)=>some (k,some (p.rn o o'))
 | x=>x
def Xe(o o':Nat):Option (Nat×Nat×PV)->Option (Nat×Nat×PV)
 | some (i,j,p)=>some (i,j,p.rn o o')
 | none=>none
def aN.rn(o o':Nat):aN->aN
 | .box l=>.box (PV.rn.go o o' l)
 | .arm e s n f ov=>.arm e s n f (Xe o o' ov)
 | .mp it m ho=>.mp (Qv o o' it) m (Tw o o' ho)
 | x=>x
def Jw(o o':Nat)(st:St):St:=⟨st.fr.map fun e=>(e.1,e.2.rn o o'),st.hp.map fun e=>(rn1 o o' e.1,e.2.rn o o')⟩
def grn(N:List Nat)(o o':Nat)(st:St):Option St:=
 match jN o' N,st.erase o' with
 | true,some st1=>some (Jw o o' st1)
 | _,_=>none
theorem dP(g:Nat->Value)(o o' k:Nat)(h:k≠o'):upd g o' (g o) (rn1 o o' k)=g k:=by
 unfold rn1;split
 ·rename_i hk; rw[aP,aZ hk]
 ·exact aQ g _ h
theorem VR.rn{F:Nat->Prop}{g:Nat->Value}{w:World}{o o':Nat}{p:PV}{v:Value}(h:VR F g w p v)(hn:∀ k,k∈p.names->k≠o'):VR F (upd g o' (g o)) w (p.rn o o') v:=by
 induction h with
 | t r=>exact .t r
 | ptr e=>exact .ptr (by rw[dP _ _ _ _ (hn _ (by simp[PV.names]))]; exact e)
 | eptr a hF e=>exact .eptr a hF e
 | own e=>exact .own (by rw[dP _ _ _ _ (hn _ (by simp[PV.names]))]; exact e)
 | aptr e=>exact .aptr (by rw[dP _ _ _ _ (hn _ (by simp[PV.names]))]; exact e)
 | map e=>exact .map (by rw[dP _ _ _ _ (hn _ (by simp[PV.names]))]; exact e)
 | nil=>exact .nil
 | np=>exact .np
 | any h=>exact .any h
 | lit h=>exact .lit h
 | ifx=>exact .ifx
 | fn hfn hs hr ih=>refine .fn hfn (by rw[oK]; simpa using hs) fun j x v hx hv=>?_;rw[oK,cR]at hx;simp only[fJ]at hx;obtain⟨y,hy,rfl⟩:=hx;exact ih j y v hy hv fun k hk=>hn k (by simp only[PV.names]; exact PV.names_go_mem hy hk)
 | tup hs hr ih=>refine .tup (by rw[oK]; simpa using hs) fun j x v hx hv=>?_;rw[oK,cR]at hx;simp only[fJ]at hx;obtain⟨y,hy,rfl⟩:=hx;exact ih j y v hy hv fun k hk=>hn k (by simp only[PV.names]; exact PV.names_go_mem hy hk)
 | agg hs hr ih=>refine .agg (by rw[oK]; simpa using hs) fun j x v hx hv=>?_;rw[oK,cR]at hx;simp only[fJ]at hx;obtain⟨y,hy,rfl⟩:=hx;exact ih j y v hy hv fun k hk=>hn k (by simp only[PV.names]; exact PV.names_go_mem hy hk)
theorem bL.rn{F:Nat->Prop}{g:Nat->Value}{w:World}{o o' k:Nat}{x:aN}(h:bL F g w k x)(hk:k≠o')(hn:∀ k,k∈x.names->k≠o'):bL F (upd g o' (g o)) w (rn1 o o' k) (x.rn o o'):=by
 cases x with
 | box l=>obtain⟨b,vs,ty,h1,h2,h3,h4⟩:=h;refine⟨b,vs,ty,by rw[dP _ _ _ _ hk]; exact h1,h2,by rw[oK]; simpa using h3,fun j x v hx hv=>?_⟩;rw[oK,cR]at hx;simp only[fJ]at hx;obtain⟨y,hy,rfl⟩:=hx;exact(h4 j y v hy hv).rn fun k hk=>hn k (by simp only[aN.names]; exact PV.names_go_mem hy hk)
 | arr e s n f=>
  simp only[aN.rn];rcases h with⟨h1,h2⟩ | ⟨b,cap,cur,h1,h⟩
  ·exact .inl ⟨by rw[dP _ _ _ _ hk]; exact h1,h2⟩
  ·exact .inr ⟨b,cap,cur,by rw[dP _ _ _ _ hk]; exact h1,h⟩
 | mpb n m=>obtain⟨b,es,cl,h1,h⟩:=h;exact⟨b,es,cl,by rw[dP _ _ _ _ hk]; exact h1,h⟩
 | bld ty e s=>obtain⟨b,p,v,h1,h⟩:=h;exact⟨b,p,v,by rw[dP _ _ _ _ hk]; exact h1,h⟩
 | arm e s n f ov=>
  simp only[aN.rn];rcases h with⟨h1,h2,h3⟩ | ⟨b,cap,cur,h1,h2,h3,h4,h5,hC⟩
  ·subst h3; exact .inl ⟨by rw[dP _ _ _ _ hk]; exact h1,h2,rfl⟩
  ·refine .inr ⟨b,cap,cur,by rw[dP _ _ _ _ hk]; exact h1,h2,h3,h4,h5,hC.len,hC.cell,hC.sep,hC.own,fun i j p e=>?_⟩;rcases ov with _ | ⟨i',j',p'⟩
   ·cases e
   ·simp only[Xe,cV,dS]at e;obtain⟨rfl,rfl,rfl⟩:=e;obtain⟨q1,q2,q3⟩:=hC.ov _ _ _ rfl;exact⟨q1,q2,fun v hv=>(q3 v hv).rn fun q hq=>hn q (by simp[aN.names,ovN,hq])⟩
 | mp it m ho=>
  obtain⟨b,es,cl,h1,h2,l,r,hM⟩:=h;refine⟨b,es,cl,by rw[dP _ _ _ _ hk]; exact h1,h2,l,r,hM.perm,hM.ent,?_,?_,hM.born,hM.old,hM.sep,?_⟩
  ·rcases ho with _ | ⟨k',_ | p⟩
   ·exact hM.hole
   ·exact hM.hole
   ·obtain⟨e,e1,e2,e3⟩:=hM.hole;exact⟨e,e1,e2,e3.rn fun q hq=>hn q (by simp[aN.names,hoN,hq])⟩
  ·have:hoK (Tw o o' ho)=hoK ho:=by rcases ho with _ | ⟨k',_ | p⟩ <;> rfl
   rw[this]; exact hM.keys
  ·cases it with
   | none=>exact True.intro
   | some i=>obtain⟨r',since,seen,c0,e1,e⟩:=hM.it;exact⟨r',since,seen,c0,by simp only; rw[dP _ _ _ _ (hn i.o (by simp[aN.names,itN]))]; exact e1,e⟩
theorem aK.rn{g:Nat->Value}{w:World}{o o' k:Nat}{x:aN}{b:Nat}(h:aK (upd g o' (g o)) w (rn1 o o' k) (x.rn o o') b)(hk:k≠o')(hn:∀ k,k∈x.names->k≠o'):aK g w k x b:=by
 have hs:=dP g o o' k hk;cases x with
 | box l=>exact .self (by have:=h.toBlk rfl; rwa [hs]at this)
 | arr e s n f=>exact .self (by have:=h.toBlk rfl; rwa [hs]at this)
 | mpb n m=>exact .self (by have:=h.toBlk rfl; rwa [hs]at this)
 | bld ty e s=>
  simp only[aN.rn]at h;cases h with
  | self h=>rw[hs]at h; exact .self h
  | bld h1 h2 h3=>rw[hs]at h1; exact .bld h1 h2 h3
 | arm e s n f ov=>
  simp only[aN.rn]at h;cases h with
  | self h=>rw[hs]at h; exact .self h
  | arm h1 h2 h3 h4 h5 h6 h7=>rw[hs]at h1; exact .arm h1 h2 h3 h4 h5 h6 h7
 | mp it m ho=>
  simp only[aN.rn]at h;generalize hit:Qv o o' it=it' at h;cases h with
  | self h=>rw[hs]at h; exact .self h
  | iter h=>
   cases it with
   | none=>cases hit
   | some i=>simp only[Qv,cV]at hit;subst hit;rw[dP _ _ _ _ (hn i.o (by simp[aN.names,itN]))]at h;exact .iter h
  | mem h1 h2 h3 h4 h5 h6 h7=>rw[hs]at h1; exact .mem h1 h2 h3 h4 h5 h6 h7
theorem Le.rn{P:Program}{E:Env}{I:Inf}{st st':St}(hG:cZ P E I){o o':Nat}(h:grn I.N o o' st=some st'):Le E st st':=by
 rintro a w ⟨F,g,r⟩;unfold grn at h;split at h
 ·rename_i st1 hn he;cases h;have hfr:=St.erase_fr he;have hhp:=St.erase_hp he;refine⟨F,upd g o' (g o),r.nt,r.df,fun t x hx=>?_,⟨⟨fun k x hx=>?_,fun k x b hx hb=>?_,fun k x k' y b hx hy hne hb hb'=>?_⟩,r.w.f0,r.w.f1,r.w.ext,fun k hk=>?_,r.w.b0⟩⟩
  ·simp only[Jw,cE,dS]at hx;obtain⟨⟨t',y⟩,hy,rfl,rfl⟩:=hx;obtain⟨h1,h2⟩:=hfr _ _ hy;exact(r.fr _ _ h1).rn h2
  ·simp only[Jw,cE,dS]at hx;obtain⟨⟨k',y⟩,hy,rfl,rfl⟩:=hx;obtain⟨z,h1,h2,h3,h4,_⟩:=hhp _ _ hy;exact(h4 _ _ _ (r.w.hp.obj _ _ h1)).rn h2 h3
  ·simp only[Jw,cE,dS]at hx;obtain⟨⟨k',y⟩,hy,rfl,rfl⟩:=hx;obtain⟨z,h1,h2,h3,h4,h5⟩:=hhp _ _ hy;exact r.w.hp.own _ _ b h1 (h5 _ _ _ (hb.rn h2 h3))
  ·simp only[Jw,cE,dS]at hx hy;obtain⟨⟨k1,y1⟩,hy1,rfl,rfl⟩:=hx;obtain⟨⟨k2,y2⟩,hy2,rfl,rfl⟩:=hy;obtain⟨z1,h1,h2,h3,h4,h5⟩:=hhp _ _ hy1;obtain⟨z2,h1',h2',h3',h4',h5'⟩:=hhp _ _ hy2;exact r.w.hp.sep _ _ _ _ b h1 h1' (fun e=>hne (by rw[e])) (h5 _ _ _ (hb.rn h2 h3)) (h5' _ _ _ (hb'.rn h2' h3'))
  ·rw[aQ g _ (fun e:k=o'=>cI hn (by rw[<-e,<-hG.N]; exact hk))];exact r.w.names k hk
 ·cases h
end Go.PL
