/-
  Parts: Rules for maps: looking up, and what is found there under a name of its own. Own work. Rules for maps: writing and deleting entries. Own work. Rules for maps: writing, deleting, filling a gap. Own work. Rules for maps: making one, its length, loops over one. Own work. Rules for maps: the rounds of a loop over one. Own work. Rules for maps: rounds of a loop, by what the entries are; maps of data. Own work. Maps of rows become maps of data; an entry of a map of data, beside the map. Own work. A walker over code: runs of operations and control, by computation over abstract states. Own work. From functions of fuel to functions without fuel. Own work. Arrays whose cells are rows of their own: changes of form. Own work. Functions as trees: what they compute, and the walk through code that shows it. Own work. Functions as trees: the trees, what they compute, and the check against code. Own work. Functions as trees: the check of a tree against code. Own work. Functions as trees: what the check shows. Own work. Rows of ours: cut short, cleared from a place on. Own work.
-/
import Derived.Test.YtjefblkdnolgaaaGreatDoorMb
import Derived.Laws.Cover3
set_option maxHeartbeats 4000000
namespace Go.PL
open Go
variable {A R S α:Type} {c e et i m o q s t:Nat} {kd:TypeDesc} {kv u v:Value} {kx x:Operand} {ops:List Oper} {p:PV} {r:List MapEntry} {w':World} {y:Mem}
def aKJ(d:Nat):Option iO->Bool
 | none=>true
 | some i=>match Nat.beq i.o d with | true=>false | false=>true
theorem aDS{d:Nat}{it:Option iO}(h:aKJ d it=true):∀ k,k∈itN it->k≠d:=by
 cases it with
 | none=>simp[itN]
 | some i=>
  simp only[aKJ]at h;split at h
  ·cases h
  ·rename_i hk;intro k hk';simp only[itN,cR]at hk';subst hk';exact oU hk
section
variable {F:Nat->Prop} {g g':Nat->Value} {w:World} {b clock ob d:Nat} {es:Array MapEntry} {it:Option iO}
theorem ItR.agree{it:Option iO}(h:ItR g w b es clock it)(hg:∀ k,k∈itN it->g' k=g k):ItR g' w b es clock it:=by
 cases it with
 | none=>exact True.intro
 | some i=>obtain⟨r,since,seen,c0,e1,e⟩:=h;exact⟨r,since,seen,c0,by rw[hg i.o (by simp[itN])]; exact e1,e⟩
theorem MpR.uniq{m:List (T×Mem)}{ho:Option (T×Option PV)}{l:List MapEntry}(h:MpR F g w b es clock it m ho l r){x:T×Mem}(hx:x∈m){e e':MapEntry}(he:e∈es.toList)(he':e'∈es.toList)
  (hk:KeyR x.1 e.key)(hk':KeyR x.1 e'.key):e=e':=by
 obtain⟨_,i,h1,h2⟩:=h.entry hx he hk;obtain⟨_,j,h3,h4⟩:=h.entry hx he' hk';have hn:=(Ar.1 h.keys).1;have:i=j:=by
  have e1:(m.map (·.1))[i]? = some x.1:=by simp[h1]
  have e2:(m.map (·.1))[j]? = some x.1:=by simp[h3]
  exact(List.getElem?_inj (by grind) hn).1 (e1.trans e2.symm)
 simp_all
theorem bD.perm{m m':List (T×Mem)}{ho:Option (T×Option PV)}(hp:m.Perm m'){x:Nat}(h:bD g w ob (.mp it m ho) x):bD g w ob (.mp it m' ho) x:=by
 cases h with
 | self h=>exact .self h
 | iter h=>exact .iter h
 | mem h1 h2 h3 h4 h5 h6 h7=>exact .mem h1 h2 h3 (hp.mem_iff.1 h4) h5 h6 h7
theorem bD.cons{m:List (T×Mem)}{ho ho':Option (T×Option PV)}{y:T×Mem}{x:Nat}(h:bD g w ob (.mp it m ho) x):bD g w ob (.mp it (y::m) ho') x:=by
 cases h with
 | self h=>exact .self h
 | iter h=>exact .iter h
 | mem h1 h2 h3 h4 h5 h6 h7=>exact .mem h1 h2 h3 (cZ _ h4) h5 h6 h7
theorem bD.agree{x:bF}(ho:g' ob=g ob)(hg:∀ k,k∈itN it->g' k=g k){m:List (T×Mem)}{hl:Option (T×Option PV)}(hx:x = .mp it m hl)(h:bD g' w ob x c):bD g w ob x c:=by
 subst hx;cases h with
 | self h=>exact .self (ho▸h)
 | iter h=>exact .iter (by rw[<-hg _ (by simp[itN])]; exact h)
 | mem h1 h2 h3 h4 h5 h6 h7=>exact .mem (by simp_all) h2 h3 h4 h5 h6 h7
theorem MpR.give{m:List (T×Mem)}{kk:T}{l:List MapEntry}(h:MpR F g w b es clock it ((kk,y)::m) none l r)(hob:g ob = .map (some b))(hb:w.heap[b]? = some (.map es clock))(hy:y.owned=true)
  (hdo:d≠ob)(hit:aKJ d it=true){e:MapEntry}(he:e∈es.toList)(hk:KeyR kk e.key){p:Option PV}(hp:∀ g',g' d=e.val->∀ q,p=some q->VR F g' w q e.val):
  Hc F w y e.val/\∀ g',(∀ k,k≠d->g' k=g k)->g' d=e.val->dN F g' w ob (.mp it m (some (kk,p)))/\(∀ c,bD g' w ob (.mp it m (some (kk,p))) c->bD g w ob (.mp it ((kk,y)::m) none) c) /\
   (∀ Y c,bF.plain Y=true->bD g' w d Y c->bD g w ob (.mp it ((kk,y)::m) none) c)/\∀ Y c,bF.plain Y=true->bD g' w ob (.mp it m (some (kk,p))) c->bD g' w d Y c->False:=by
 have hent:=h.entry (x:=(kk,y)) (by simp) he hk;refine⟨hent.1.2,fun g' hg hd=>?_⟩;have hno:=aDS hit;have hga:∀ k,k∈itN it->g' k=g k:=fun k hk=>hg k (hno k hk);have hob':g' ob=g ob:=hg ob (fun e=>hdo e.symm);obtain⟨e1,l',hl,hk1,hm1,he1,hM⟩:=h.focus (g':=g') (p:=p) (fun q hq v hv ⟨e2,h1,h2,h3⟩=>by have:e2=e:=h.uniq (x:=(kk,y)) (by simp) h1 he h3 hk;simp_all) (h.it.agree hga);have foot:∀ c,bD g' w ob (.mp it m (some (kk,p))) c->bD g w ob (.mp it ((kk,y)::m) none) c:=fun c hc=>(bD.agree hob' hga rfl hc).cons;refine⟨⟨b,es,clock,by simp_all,hb,l',[e1],hM⟩,foot,fun Y c hY hc=>?_,fun Y c hY hc hc'=>?_⟩
 ·have:=hc.toBlk hY;rw[hd]at this;exact .mem hob hb he (x:=(kk,y)) (by simp) hk hy this
 ·have hv:=hc'.toBlk hY;rw[hd]at hv;obtain⟨vs,ty,hcell⟩:=hent.1.2.block hy hv;cases bD.agree hob' hga rfl hc with
  | self h'=>rw[hob]at h'; simp[blk]at h'; simp_all
  | iter h'=>obtain⟨r',since,seen,c0,e3,e4,_⟩:=h.it;rw[e3]at h'; simp[blk]at h'; simp_all
  | @mem _ _ _ _ bm cl es' e2 x h1 h2 h3 h4 h5 h6 h7=>
   rw[hob]at h1; injection h1 with h1; injection h1 with h1; subst h1;rw[hb]at h2; injection h2 with h2; injection h2 with h2 h2'; subst h2;obtain⟨_,j,hj1,hj2⟩:=h.entry (x:=x) (cZ _ h4) h3 h5;obtain⟨_,i,hi1,hi2⟩:=hent;have hij:i≠j:=by intro e'; subst e';rw[hi1]at hj1;injection hj1 with hj1;have hn:=(Ar.1 h.keys).1;simp_all
   exact h.sep i j _ _ _ _ c hi1 hj1 hi2 hj2 hij hy h6 hv h7
theorem Jg.ts{l:List T}(h:Jg F g w u (l.map .t))(g':Nat->Value):Jg F g' w u (l.map .t):=
 h.mono (fun b hb=>⟨hb,rfl⟩) (fun o ho=>by rw[Xd]at ho; simp at ho) (fun _ _=>rfl)
end
section
variable {P:Program} {E:Env} {I:Inf} {F:Nat->Prop} {g:Nat->Value} {st:St} {a:Act} {w:World} {K V:Type} [MKey K]
theorem VR.key{k:T}(h:VR F g w (.t k) v)(hd:Xt k=some kd):KeyR k v:=by
 have h:=h.cells_t rfl;cases k with
 | int q n=>rw[h.inv_int]; exact .int ..
 | str s=>rw[h.inv_str]; exact .str ..
 | _=>cases hd
theorem aHZ{N:List Nat}{d:Nat}{x' y:bF}{st2:St}(h:qU N o d x' y st=some st2):d≠o:=by
 unfold qU at h;split at h
 ·rename_i h1 h2 h3; exact oU h2
 ·cases h
theorem MpR.found{b clock:Nat}{es:Array MapEntry}{it:Option iO}{enc:V->Mem}{v:List (K×V)}{l:List MapEntry}(h:MpR F g w b es clock it (eM enc v) none l r)(k:K):
  (cB v k=none->∀ e,e∈es.toList->¬ KeyR (MKey.kT k) e.key)/\(∀ c,cB v k=some c->(eM enc v).Perm ((MKey.kT k,enc c)::eM enc (mdel v k))/\∃ e,e∈es.toList/\KeyR (MKey.kT k) e.key):=by
 have hnd:(cU v).Nodup:=aLH (enc:=enc) (Ar.1 h.keys).1;have hr:=h.hole;simp only[nO]at hr;subst hr;refine⟨fun hn e he hk=>?_,fun c hc=>?_⟩
 ·have:=h.perm.mem_iff.2 he;rw[eN]at this;obtain⟨j,y,hy,_,hR⟩:=h.ent.memr this;have hy:=kA hy;simp only[eM,dZ]at hy;obtain⟨p,hp,rfl⟩:=hy;have:p.1=k:=MKey.inj _ _ (hR.1.inj hk);exact lL hn (this▸Bd hp)
 ·have hp:=aCF (enc:=enc) (Zy hnd hc);refine⟨hp,?_⟩;obtain⟨j,e,h1,h2,h3⟩:=h.ent.mem (hp.mem_iff.2 (dB ..));exact⟨e,h.perm.mem_iff.1 (wT _ (kA h2)),h3.1⟩
theorem Pd(hG:hJ P E I){l:List Oper}{o:Oper}{rest:List Oper}{Q:iI}{d ob:Nat}{it:Option iO}{nn:V->Nat}{ff:V->Nat->List T}(v:List (K×V))(k:K)(dflt:V)
  (hl:l=o::rest)(hop:o.op = .lookup t x kx false)(hd:o.dst=some d)(hw:cC ops o st=some true)(hnt:Nat.blt d I.nt=true)(hx:ev st x=some (.map ob))(hk:ev st kx=some (.t (MKey.kT k)))
  (hob:look st.hp ob=some (.mp it (eM (fun c=>.row e s (nn c) (ff c)) v) none))(hm:pS I.ti t (MKey.kT k)=some et)(hz:Ol P et (.slice none 0 0))(hit:aKJ d it=true)(hdf:nn dflt=0){st2:St}
  (hs:qU I.N ob d (.mp it (eM (fun c=>.row e s (nn c) (ff c)) (mdel v k)) (some (MKey.kT k,none))) (.arr e s (nn ((cB v k).getD dflt)) (ff ((cB v k).getD dflt))) st=some st2)
  (h1:eV P E ops Q rest (st2.put d (.own d))):eV P E ops Q l st:=by
 refine eQ hl hw fun F g a w r=>?_;have hd':d<E.nt:=by rw[hG.nt]; simp_all
 obtain⟨kt,kd,hT⟩:=tQ hG.ti hm;obtain⟨info,hi,hz⟩:=hz;obtain⟨b,es,clock,e1,e2,l1,r1,hM⟩:=r.w.hp.obj _ _ (aU hob);have hxv:=bV r hx;have hkv:=(bV r hk).key hT.d;obtain⟨u,hu⟩:∃ u,a.eval x=u:=⟨_,rfl⟩;obtain⟨kv,hkv'⟩:∃ u,a.eval kx=u:=⟨_,rfl⟩;rw[hu]at hxv; rw[hkv']at hkv;have hdo:=aHZ hs;have hno:=aDS hit;cases hxv with
 | map hg=>
  rw[e1]at hg; injection hg with hg; injection hg with hg; subst hg;have hrun:=xJ (P:=P) hT hkv e2 (hM.kinds (by simp) k) hi hz;have hf:=hM.found k;have hex:∀ v',(Instr.lookup t (.map (some b)) kv false).run P w = .ok v' w->(execOp a.eval o).run P w = .ok (.value v') w:=by intro v' hv';unfold execOp;simp_all
  cases hlk:cB v k with
  | none=>
   rw[hlk]at hs;simp only[Option.getD_none]at hs;rcases hrun with⟨h2,hnk⟩ | ⟨e,he,hke,_⟩
   ·have hmd:mdel v k=v:=tN (lL hlk);have hag:∀ g':Nat->Value,(∀ q,q≠d->g' q=g q)->∀ q,q∈itN it->g' q=g q:=fun g' hg q hq=>hg q (hno q hq);have hfx:∀ (g':Nat->Value) c',(∀ q,q≠d->g' q=g q)->bD g' w ob (.mp it (eM (fun c=>.row e s (nn c) (ff c)) (mdel v k)) (some (MKey.kT k,none))) c'->bD g w ob (.mp it (eM (fun c=>.row e s (nn c) (ff c)) v) none) c':=by
     intro g' c' hg hc;rw[hmd]at hc;cases bD.agree (hg ob (fun e=>hdo e.symm)) (hag g' hg) rfl hc with
     | self h=>exact .self h
     | iter h=>exact .iter h
     | mem a1 a2 a3 a4 a5 a6 a7=>exact .mem a1 a2 a3 a4 a5 a6 a7
    have hobj:∀ g':Nat->Value,(∀ q,q≠d->g' q=g q)->dN F g' w ob (.mp it (eM (fun c=>.row e s (nn c) (ff c)) (mdel v k)) (some (MKey.kT k,none))):=by intro g' hg;refine⟨b,es,clock,by grind,e2,l1,r1,?_⟩;rw[hmd];have hr1:=hM.hole;simp only[nO]at hr1;subst hr1;refine⟨hM.perm,hM.ent,.inl rfl,?_,hM.born,hM.old,hM.sep,hM.it.agree (hag g' hg)⟩;have hkk:=hM.keys;simp only[hoK,eN]at hkk ⊢;rw[Ar];refine⟨hkk,by simp,fun q hq q' hq'=>?_⟩;simp only[cR]at hq';subst hq';intro e';rw[rI,e',Qa]at hq;exact lL hlk hq
    obtain⟨_,g',hgd,hga,r'⟩:=r.focus hG.N (.slice none 0 0) hob hs (fun g' hg hgd=>hobj g' hg)
     (fun g' hg hgd=>by simp only[dN]; rw[hgd]; exact .inl ⟨rfl,hdf⟩)
     (fun g' c' hg hgd hc=>hfx g' c' hg hc)
     (fun g' c' hg hgd hc=>by have:=hc.toBlk rfl; rw[hgd]at this; simp[blk]at this)
     (fun g' c' hg hgd hc hc'=>by have:=hc'.toBlk rfl; rw[hgd]at this; simp[blk]at this)
    exact⟨_,_,w,_,hex _ h2,.inl rfl,by rw[hd]; exact⟨F,g',r'.put hd' (.own hgd)⟩,h1⟩
   simp_all
  | some c=>
   rw[hlk]at hs;simp only[zO]at hs;obtain⟨hp,e0,he0,hk0⟩:=hf.2 c hlk;rcases hrun with⟨_,h2⟩ | ⟨e',he,hke,h2⟩
   ·simp_all
   ·obtain⟨l2,hM2⟩:=hM.permM hp;have hmem:=(hM2.entry (x:=(MKey.kT k,Mem.row e s (nn c) (ff c))) (by simp) he hke).1.2;have hsl:∃ ad m c',e'.val = .slice ad m c':=by
     rcases hmem with⟨h1,_⟩ | ⟨bb,cap,cur,h1,_⟩
     all_goals simp_all
    have hgive:=hM2.give (d:=d) (ob:=ob) (p:=none) e1 e2 rfl hdo hit he hke (fun g' hg' q hq=>by cases hq);obtain⟨_,g',hgd,hga,r'⟩:=r.focus hG.N e'.val hob hs (fun g' hg hgd=>(hgive.2 g' hg hgd).1)
     (fun g' hg hgd=>by simp only[dN]; rw[hgd]; exact hmem)
     (fun g' c' hg hgd hc=>((hgive.2 g' hg hgd).2.1 c' hc).perm hp.symm)
     (fun g' c' hg hgd hc=>((hgive.2 g' hg hgd).2.2.1 _ c' rfl hc).perm hp.symm)
     (fun g' c' hg hgd hc hc'=>(hgive.2 g' hg hgd).2.2.2 _ c' rfl hc hc')
    obtain⟨ad,mm,cc,hsl⟩:=hsl;exact⟨_,_,w,_,hex _ h2,.inl rfl,by rw[hd]; exact⟨F,g',r'.put hd' (by rw[hsl]; exact .own (by rw[hgd,hsl]))⟩,h1⟩
end
theorem Wi{l:List α}{e e':α}(h:l[i]? = some e):l.Perm (e::l.eraseIdx i)/\(l.set i e').Perm (e'::l.eraseIdx i):=by
 induction l generalizing i with
 | nil=>simp at h
 | cons x l ih=>
  cases i with
  | zero=>simp_all
  | succ i=>obtain⟨h1,h2⟩:=ih (by simpa using h);exact⟨(h1.cons x).trans (.swap ..),by simpa using (h2.cons x).trans (.swap ..)⟩
section
variable {P:Program} {w:World}
theorem Na{k:T}(h:KeyR k v)(n:Nat):Instr.sameBits (n+1) v v=true:=by
 cases h with
 | int q m=>simp[Instr.sameBits]
 | str s=>simp only[Instr.sameBits]; rw[MapKept.bytes_beq]
theorem Jb{t kt et:TypeId}{k:T}(hT:aFX P t k kt et kd)(hk:KeyR k kv){b clock:Nat}{es:Array MapEntry}(hb:w.heap[b]? = some (.map es clock))
  (h:∀ e,e∈es.toList->∃ k',KeyR k' e.key/\Cn k k'=true)(old:∀ e,e∈es.toList->e.born<clock)(hn:(es.toList.map (·.born)).Nodup)(u:Value):
  ∃ es' clock' e',(Instr.mapUpdate t (.map (some b)) kv u).run P w = .ok () { w with heap:=w.heap.setIfInBounds b (.map es' clock') }/\e'.key=kv/\e'.val=u/\(es'.toList.map (·.born)).Nodup /\
   (∀ e,e∈es'.toList->e.born<clock')/\(((∀ e,e∈es.toList->¬ KeyR k e.key)/\es'.toList.Perm (e'::es.toList))\/∃ e0 q,e0∈es.toList/\KeyR k e0.key/\es.toList.Perm (e0::q)/\es'.toList.Perm (e'::q)/\e'.born=e0.born/\clock'=clock):=by
 have hf:=uB (w:=w) hT hk es.toList h;rcases hf with⟨h1,h2⟩ | ⟨j,e0,h1,h2,h3⟩
 ·refine⟨es.push { key:=kv,val:=u,born:=clock },clock+1,{ key:=kv,val:=u,born:=clock },?_,rfl,rfl,?_,?_,.inl ⟨h2,?_⟩⟩
  ·unfold Instr.mapUpdate;simp only[Sem.run_bind,run_underlying hT.und,Result.andThen_ok,Go.run_getObj_map w b es clock hb,kR hT,h1,MapKept.run_setObj_map _ hb]
  ·grind
  ·grind
  simp_all
 ·have hj:j<es.size:=by grind
  have hj':es[j]? = some e0:=by simp_all
  have hkey:e0.key=kv:=h2.inj' hk;have hmod:(es.modify j fun e=>{ e with key:=kv,val:=u }).toList=es.toList.set j { e0 with key:=kv,val:=u }:=by refine List.ext_getElem? fun i=>?_;grind
  have hp:=Wi (e':={ e0 with key:=kv,val:=u }) h1;refine⟨es.modify j fun e=>{ e with key:=kv,val:=u },clock,{ e0 with key:=kv,val:=u },?_,rfl,rfl,?_,?_,.inr ⟨e0,_,kA h1,h2,hp.1,by simp_all,rfl,rfl⟩⟩
  ·have hstay:(Instr.keyThatStays ((es[j]?.map (·.key)).getD kv) kv).run P w = .ok kv w:=by rw[hj',wG,zO,hkey];unfold Instr.keyThatStays;rw[show (10000:Nat)=9999+1 from rfl,aB (Na hk 9999)];simp
   unfold Instr.mapUpdate;simp only[Sem.run_bind,run_underlying hT.und,Result.andThen_ok,Go.run_getObj_map w b es clock hb,kR hT,h3,hstay,MapKept.run_setObj_map _ hb]
  all_goals grind
theorem Jc{t kt et:TypeId}{k:T}(hT:aFX P t k kt et kd)(hk:KeyR k kv){b clock:Nat}{es:Array MapEntry}(hb:w.heap[b]? = some (.map es clock))
  (h:∀ e,e∈es.toList->∃ k',KeyR k' e.key/\Cn k k'=true)(ats:Array TypeId)(ha:ats[0]? = some t)(ty:TypeId):
  ∃ es',(Builtin.delete_ ats ty #[.map (some b),kv]).run P w = .ok (.tuple #[]) { w with heap:=w.heap.setIfInBounds b (.map es' clock) } /\
   (((∀ e,e∈es.toList->¬ KeyR k e.key)/\es'=es)\/∃ e0,e0∈es.toList/\KeyR k e0.key/\es.toList.Perm (e0::es'.toList)):=by
 have hf:=uB (w:=w) hT hk es.toList h;rcases hf with⟨h1,h2⟩ | ⟨j,e0,h1,h2,h3⟩
 ·refine⟨es,?_,.inl ⟨h2,rfl⟩⟩;unfold Builtin.delete_;simp[ha,run_underlying hT.und,Go.run_getObj_map w b es clock hb,kR hT,h1,MapKept.run_setObj_map _ hb]
 ·have hj:j<es.size:=by grind
  refine⟨es.eraseIdxIfInBounds j,?_,.inr ⟨e0,kA h1,h2,?_⟩⟩
  ·unfold Builtin.delete_;simp[ha,run_underlying hT.und,Go.run_getObj_map w b es clock hb,kR hT,h3,MapKept.run_setObj_map _ hb]
  ·have:=(Wi (e':=e0) h1).1;simp_all
end
section
variable {F:Nat->Prop} {g:Nat->Value} {w:World} {b clock:Nat} {es es':Array MapEntry}
theorem MpR.rest{it:Option iO}{m:List (T×Mem)}{k:T}{p:Option PV}{l:List MapEntry}(h:MpR F g w b es clock it m (some (k,p)) l r):
  ((∀ e,e∈es.toList->¬ KeyR k e.key)->r=[])/\(∀ e0 q,e0∈es.toList->KeyR k e0.key->es.toList.Perm (e0::q)->r=[e0]/\l.Perm q):=by
 have hk:=h.keys;rw[Ar]at hk;have hnot:∀ e,e∈l->¬ KeyR k e.key:=by intro e he hke;obtain⟨j,y,hy,_,hR⟩:=h.ent.memr he;exact hk.2.2 _ (Bd (kA hy)) k (by simp[hoK]) (hR.1.inj hke)
 have hr:r=[]\/∃ e,r=[e]/\KeyR k e.key:=by
  have hh:=h.hole;cases p with
  | none=>exact hh
  | some p=>obtain⟨e,h1,h2,_⟩:=hh; simp_all
 refine⟨fun hn=>?_,fun e0 q he0 hk0 hq=>?_⟩
 ·rcases hr with rfl | ⟨e,rfl,he⟩
  ·rfl
  ·exact absurd he (hn e (h.perm.mem_iff.1 (by simp)))
 ·have he0':=h.perm.mem_iff.2 he0;rcases hr with rfl | ⟨e,rfl,he⟩
  ·simp_all
  ·rcases dC.1 he0' with h1 | h1
   ·simp_all
   ·simp only[cR]at h1;subst h1;refine⟨rfl,?_⟩;have h2:=h.perm.trans hq;have h3:(l++[e0]).Perm (e0::l):=Jq (l₁:=l) (l₂:=[e0]);exact List.Perm.cons_inv (h3.symm.trans h2)
end
def Eu:Option iO->Option iO
 | none=>none
 | some i=>some ⟨i.o,i.rem,none⟩
def Tw(it:Option iO)(k:T):Prop:=∀ i,it=some i->i.cur=some k
def Kb(o q:Nat)(x':bF)(st:St):Option St:=
 match Nat.beq q o,st.erase q with
 | false,some st1=>some { fr:=st1.fr,hp:=(o,x')::del o st1.hp }
 | _,_=>none
section
variable {P:Program} {E:Env} {I:Inf} {F:Nat->Prop} {g:Nat->Value} {st st2:St} {a:Act} {w:World}
theorem cJ.merge(r:cJ E F g st a w){x x' y:bF}(hl:look st.hp o=some x)(hq:look st.hp q=some y)(hs:Kb o q x' st=some st2)
  (hx':dN F g w o x')(hf:∀ b,bD g w o x' b->bD g w o x b\/bD g w q y b):cJ E F g st2 a w:=by
 unfold Kb at hs;split at hs
 ·rename_i st1 hqo he;cases hs;have hqo:=oU hqo;have hlm:=aU hl;have hqm:=aU hq;have old:∀ k z,(k,z)∈del o st1.hp->k≠o/\k≠q/\∃ z',(k,z')∈st.hp/\dN F g w k z/\∀ b,bD g w k z b->bD g w k z' b:=by intro k z hz;obtain⟨h1,h2⟩:=bC.1 hz;obtain⟨z',h3,h4,h5,h6,h7⟩:=St.erase_hp he k z h1;exact⟨h2,h4,z',h3,h6 _ _ _ (r.w.hp.obj k z' h3),h7 _ _⟩
  refine⟨r.nt,r.df,fun t z hz=>r.fr t z (St.erase_fr he t z hz).1,⟨⟨fun k z hz=>?_,fun k z b hz hb=>?_,fun k z k' z' b hz hz' hne hb hb'=>?_⟩,r.w.f0,r.w.f1,r.w.ext,r.w.names,r.w.b0⟩⟩
  ·grind
  ·rcases bH.1 hz with e | hz
   ·cases e;rcases hf b hb with h | h
    ·exact r.w.hp.own _ _ b hlm h
    ·exact r.w.hp.own _ _ b hqm h
   ·obtain⟨_,_,z',h1,_,h3⟩:=old k z hz;exact r.w.hp.own k z' b h1 (h3 b hb)
  ·have key:∀ k z,(k,z)∈del o st1.hp->bD g w k z b->bD g w o x' b->False:=by
    intro k z hz hb hb';obtain⟨h1,h2,z',h3,_,h4⟩:=old k z hz;rcases hf b hb' with h | h
    ·exact r.w.hp.sep k z' o x b h3 hlm h1 (h4 b hb) h
    ·exact r.w.hp.sep k z' q y b h3 hqm h2 (h4 b hb) h
   rcases bH.1 hz with e | hz
   ·grind
   ·rcases bH.1 hz' with e' | hz'
    ·simp_all
    ·obtain⟨_,_,u,h1,_,h3⟩:=old k z hz;obtain⟨_,_,u',h1',_,h3'⟩:=old k' z' hz';exact r.w.hp.sep k u k' u' b h1 h1' hne (h3 b hb) (h3' b hb')
 ·cases hs
end
section
variable {F:Nat->Prop} {g:Nat->Value} {w:World} {b clock ob:Nat} {es:Array MapEntry} {it:Option iO} {K V:Type} [MKey K]
theorem MpR.fill{m:List (T×Mem)}{kk:T}{l:List MapEntry}(h:MpR F g w b es clock it m (some (kk,some p)) l r)(hb:w.heap[b]? = some (.map es clock))(hy:∀ e,e∈es.toList->VR F g w p e.val->Hc F w y e.val)
  (hsep:∀ e c,e∈es.toList->VR F g w p e.val->blk e.val=some c->¬ bD g w ob (.mp it m (some (kk,some p))) c)(hob:g ob = .map (some b)):∃ l',MpR F g w b es clock it ((kk,y)::m) none l' []:=by
 obtain⟨e,hr,hk,hv⟩:=h.hole;subst hr;have he:e∈es.toList:=h.perm.mem_iff.1 (by simp);refine⟨e::l,?_,.cons ⟨hk,hy e he hv⟩ h.ent,rfl,?_,h.born,h.old,?_,h.it⟩
 ·rw[eN];exact(Jq (l₁:=[e]) (l₂:=l)).trans h.perm
 ·have:=h.keys;simp only[hoK,kL,eN]at this ⊢;grind
 ·have hnew:∀ (j:Nat) x e' c,m[j]? = some x->l[j]? = some e'->x.2.owned=true->blk e.val=some c->blk e'.val=some c->False:=by intro j x e' c hx he' ho h1 h2;have hR:=h.ent.get.2 j x e' hx he';exact hsep e c he hv h1 (.mem hob hb (h.perm.mem_iff.1 (wT _ (kA he'))) (kA hx) hR.1 ho h2)
  intro i j x y' e1 e2 c hx hy' h1 h2 hne ho ho' hc hc';cases i with
  | zero=>grind
  | succ i=>
   cases j with
   | zero=>grind
   | succ j=>exact h.sep i j x y' e1 e2 c (by simp_all) (by simp_all) (by simp_all) (by simp_all) (by omega) ho ho' hc hc'
theorem MpR.fill_foot{m:List (T×Mem)}{kk:T}{l:List MapEntry}(h:MpR F g w b es clock it m (some (kk,some p)) l r)(hob:g ob = .map (some b))(hb:w.heap[b]? = some (.map es clock)) 
  (hc:bD g w ob (.mp it ((kk,y)::m) none) c):bD g w ob (.mp it m (some (kk,some p))) c\/∃ e,e∈es.toList/\VR F g w p e.val/\blk e.val=some c:=by
 cases hc with
 | self h=>exact .inl (.self h)
 | iter h=>exact .inl (.iter h)
 | @mem _ _ _ _ bm cl es' e x h1 h2 h3 h4 h5 h6 h7=>
  rcases bH.1 h4 with rfl | h4
  ·right;rw[hob]at h1; injection h1 with h1; injection h1 with h1; subst h1;rw[hb]at h2; injection h2 with h2; injection h2 with h2 h2'; subst h2;obtain⟨e1,hr,hk,hv⟩:=h.hole;have:=h.perm.mem_iff.2 h3;rcases dC.1 this with hl | hl
   ·exfalso;obtain⟨j,y',hy',_,hR⟩:=h.ent.memr hl;have hk':=h.keys;rw[Ar]at hk';exact hk'.2.2 _ (Bd (kA hy')) kk (by simp[hoK]) (hR.1.inj h5)
   grind
  ·exact .inl (.mem h1 h2 h3 h4 h5 h6 h7)
end
section
variable {P:Program} {E:Env} {I:Inf} {F:Nat->Prop} {g:Nat->Value} {st st2:St} {a:Act} {w:World} {K V:Type} [MKey K]
theorem aQZ{enc:V->Mem}(v:List (K×V))(k:K)(c:V):((MKey.kT k,enc c)::eM enc (mdel v k)).Perm (eM enc (mput v k c)):=(aCF (enc:=enc) (Ji v k c)).symm
theorem Le.fillrow{it:Option iO}{nn:V->Nat}{ff:V->Nat->List T}(v:List (K×V))(k:K)(c:V)
  (hl:look st.hp o=some (.mp it (eM (fun c=>.row e s (nn c) (ff c)) (mdel v k)) (some (MKey.kT k,some (.own q)))))(hq:look st.hp q=some (.arr e s (nn c) (ff c)))
  (hs:Kb o q (.mp it (eM (fun c=>.row e s (nn c) (ff c)) (mput v k c)) none) st=some st2):Le E st st2:=by
 rintro a w ⟨F,g,r⟩;obtain⟨b,es,clock,e1,e2,l1,r1,hM⟩:=r.w.hp.obj _ _ (aU hl);have harr:wA F w (g q) e s (nn c) (ff c):=r.w.hp.obj _ _ (aU hq);have hqo:q≠o:=by grind
 have hval:∀ e:MapEntry,VR F g w (.own q) e.val->e.val=g q:=by
  intro e hv;generalize e.val=u at hv;cases hv with
  | own h=>exact h.symm
 obtain⟨l',hM'⟩:=hM.fill (ob:=o) e2 (y:=.row e s (nn c) (ff c)) (fun e he hv=>by rw[hval e hv]; exact harr) (fun e c' he hv hc hf=>by rw[hval e hv]at hc;exact r.w.hp.sep q _ o _ c' (aU hq) (aU hl) hqo (.self hc) hf) e1;have hp:=aQZ (enc:=fun c=>Mem.row e s (nn c) (ff c)) v k c;obtain⟨l'',hM''⟩:=hM'.permM hp;exact⟨F,g,r.merge hl hq hs ⟨b,es,clock,e1,e2,l'',[],hM''⟩ (fun c' hc=>by
  rcases hM.fill_foot e1 e2 (hc.perm hp.symm) with h | ⟨e,_,hv,hc⟩
  ·exact .inl h
  ·exact .inr (.self (by grind)))⟩
theorem Le.gap{it:Option iO}{enc:V->Mem}(v:List (K×V))(k:K)(hl:look st.hp o=some (.mp it (eM enc v) none)):
  Le E st { st with hp:=(o,.mp it (eM enc (mdel v k)) (some (MKey.kT k,none)))::del o st.hp }:=by
 refine Le.objF _ hl (fun F g w h=>?_) (fun g w c h=>?_)
 ·obtain⟨b,es,clock,e1,e2,l1,r1,hM⟩:=h;refine⟨b,es,clock,e1,e2,?_⟩;cases hlk:cB v k with
  | none=>rw[tN (lL hlk)];have hr1:=hM.hole;simp only[nO]at hr1;subst hr1;refine⟨l1,[],hM.perm,hM.ent,.inl rfl,?_,hM.born,hM.old,hM.sep,hM.it⟩;have hkk:=hM.keys;simp only[hoK,eN]at hkk ⊢;rw[Ar];refine⟨hkk,by simp,fun q hq q' hq'=>?_⟩;simp only[cR]at hq';subst hq';intro e';rw[rI,e',Qa]at hq;exact lL hlk hq
  | some c=>obtain⟨hp,_⟩:=(hM.found k).2 c hlk;obtain⟨l2,hM2⟩:=hM.permM hp;obtain⟨e,l',_,_,_,_,h⟩:=hM2.focus (g':=g) (p:=none) (fun q hq=>by cases hq) hM.it;grind
 ·cases h with
  | self h=>exact .self h
  | iter h=>exact .iter h
  | mem h1 h2 h3 h4 h5 h6 h7=>refine .mem h1 h2 h3 ?_ h5 h6 h7;simp only[eM,mdel,dZ,iB]at h4 ⊢;grind
theorem bIP{w:World}{F:Nat->Prop}{g:Nat->Value}{b clock clock':Nat}{es es':Array MapEntry}{it:Option iO}{m:List (T×Mem)}{k:T}{p:Option PV}{l r':List MapEntry}{e':MapEntry} 
  (hM:MpR F g w b es clock it m (some (k,p)) l r')(hset:w'.heap[b]? = some (.map es' clock')/\∀ c,c≠b->w'.heap[c]? = w.heap[c]?)(hcur:Tw it k)(hkv:KeyR k kv)(hk':e'.key=kv)
  (h7:((∀ e,e∈es.toList->¬ KeyR k e.key)/\es'.toList.Perm (e'::es.toList))\/∃ e0 q,e0∈es.toList/\KeyR k e0.key/\es.toList.Perm (e0::q)/\es'.toList.Perm (e'::q)/\e'.born=e0.born/\clock'=clock)
  (e2:w.heap[b]? = some (.map es clock)):ItR g w' b es' clock' it:=by
 cases it with
 | none=>exact True.intro
 | some i=>
  obtain⟨rr,since,seen,c0,i1,i2,i3,i4,i5,i6,i7,i8⟩:=hM.it;have hne:rr≠b:=by grind
  obtain⟨j1,⟨e,he,hke,q',hq'⟩,hnk⟩:=i8 _ (hcur i rfl);rcases h7 with⟨a1,_⟩ | ⟨e0,q,a1,a2,a3,a4,a5,a6⟩
  ·simp_all
  ·subst a6;have hk0:e0.key=kv:=a2.inj' hkv;have hke0:∀ k2,KeyR k2 e'.key↔KeyR k2 e0.key:=fun k2=>by rw[hk',hk0]
   have hmem:∀ x,x∈es'.toList->x=e'\/x∈es.toList:=fun x hx=>by grind
   have hmem':∀ x,x∈es.toList->x=e0\/x∈es'.toList:=fun x hx=>by grind
   have hin:e'∈es'.toList:=a4.mem_iff.2 dB;have hee:e=e0:=by
    rcases bH.1 (a3.mem_iff.1 he) with h | h
    ·exact h
    ·have hr1:=(hM.rest.2 e0 q a1 a2 a3).1;obtain⟨q2,hq2⟩:=List.append_of_mem he;obtain⟨s2,hq2⟩:=hq2;have hp2:es.toList.Perm (e::(q2++s2)):=by simp_all
     have hr2:=(hM.rest.2 e _ he hke hp2).1;simp_all
   subst hee;refine⟨rr,since,seen,c0,i1,by simp_all,fun x hx=>?_,i4,fun x hx=>?_,fun k2 hk2=>?_,i7,fun k2 hc2=>?_⟩
   all_goals grind
theorem aQJ(hG:hJ P E I){l:List Oper}{o:Oper}{rest:List Oper}{Q:iI}{ob:Nat}{vx:Operand}{it:Option iO}{enc:V->Mem}(v:List (K×V))(k:K)(p:PV)
  (hl:l=o::rest)(hop:o.op = .mapUpdate t x kx vx\/o.op = .insert t x kx vx)(hd:o.dst=none)(hw:cC ops o st=some true)(hx:ev st x=some (.map ob))(hk:ev st kx=some (.t (MKey.kT k)))(hv:ev st vx=some p)
  (hob:look st.hp ob=some (.mp it (eM enc v) (some (MKey.kT k,none))))(hm:pS I.ti t (MKey.kT k)=some et)(hcur:Tw it (MKey.kT k))
  (h1:eV P E ops Q rest { st with hp:=(ob,.mp it (eM enc v) (some (MKey.kT k,some p)))::del ob st.hp }):eV P E ops Q l st:=by
 refine eQ hl hw fun F g a w r=>?_;obtain⟨kt,kd,hT⟩:=tQ hG.ti hm;obtain⟨b,es,clock,e1,e2,l1,r1,hM⟩:=r.w.hp.obj _ _ (aU hob);have hxv:=bV r hx;have hkv:=(bV r hk).key hT.d;have hpv:=bV r hv;obtain⟨u,hu⟩:∃ u,a.eval x=u:=⟨_,rfl⟩;obtain⟨kv,hkv'⟩:∃ u,a.eval kx=u:=⟨_,rfl⟩;obtain⟨z,hz⟩:∃ u,a.eval vx=u:=⟨_,rfl⟩;rw[hu]at hxv; rw[hkv']at hkv; rw[hz]at hpv;cases hxv with
 | map hg=>
  rw[e1]at hg; injection hg with hg; injection hg with hg; subst hg;obtain⟨es',clock',e',h2,h3,h4,h5,h6,h7⟩:=Jb (P:=P) (w:=w) hT hkv e2 (hM.kinds (fun k' p' he=>by grind) k) hM.old hM.born z;have hset:=uQ (o':=.map es' clock') e2;have hFb:¬ F b:=(r.w.hp.own _ _ b (aU hob) (.self (by rw[e1]; rfl))).1;have hF:∀ c,F c->F c/\({ w with heap:=w.heap.setIfInBounds b (.map es' clock') }:World).heap[c]? = w.heap[c]?:=fun c hc=>⟨hc,hset.2 c (fun e=>hFb (e▸hc))⟩;have hperm:(l1++[e']).Perm es'.toList:=by
   have hc:(l1++[e']).Perm (e'::l1):=Jq (l₁:=l1) (l₂:=[e']);rcases h7 with⟨a1,a2⟩ | ⟨e0,q,a1,a2,a3,a4,a5,a6⟩
   ·have:=hM.rest.1 a1;subst this;have hp1:=hM.perm;rw[eN]at hp1;exact hc.trans ((hp1.cons e').trans a2.symm)
   ·obtain⟨b1,b2⟩:=hM.rest.2 e0 q a1 a2 a3;exact hc.trans ((b2.cons e').trans a4.symm)
  have hold:∀ e,e∈l1->e∈es.toList:=fun e he=>hM.perm.mem_iff.1 (wT _ he);have hexec:(execOp a.eval o).run P w = .ok .skip ({ w with heap:=w.heap.setIfInBounds b (.map es' clock') }):=by unfold execOp;rcases hop with hop | hop <;> simp[hop,hu,hkv',hz,h2]
  have hobj:dN F g ({ w with heap:=w.heap.setIfInBounds b (.map es' clock') }) ob (.mp it (eM enc v) (some (MKey.kT k,some p))):=by
   refine⟨b,es',clock',e1,hset.1,l1,[e'],hperm,?_,⟨e',rfl,by simp_all,by rw[h4]; exact hpv.mono hF (fun _ _=>rfl)⟩,hM.keys,h5,h6,hM.sep,?_⟩
   rotate_left
   ·exact bIP hM hset hcur (r':=r1) hkv h3 h7 e2
   refine hM.ent.mono fun y e hy he hR=>⟨hR.1,hR.2.mono hF fun c ho hc=>hset.2 c (fun e'=>?_)⟩;subst e';obtain⟨vs,ty,hcell⟩:=hR.2.block ho hc;simp_all
  have hft:∀ c,bD g ({ w with heap:=w.heap.setIfInBounds b (.map es' clock') }) ob (.mp it (eM enc v) (some (MKey.kT k,some p))) c->bD g w ob (.mp it (eM enc v) (some (MKey.kT k,none))) c:=by
   intro c hc;cases hc with
   | self h=>exact .self h
   | iter h=>exact .iter h
   | @mem _ _ _ _ bm cl es2 e x h1 h2 h3' h4' h5' h6' h7'=>
    rw[e1]at h1; injection h1 with h1; injection h1 with h1; subst h1;rw[hset.1]at h2; injection h2 with h2; injection h2 with h2 h2'; subst h2;rcases dC.1 (hperm.mem_iff.2 h3') with hh | hh
    ·exact .mem e1 e2 (hold e hh) h4' h5' h6' h7'
    ·simp only[cR]at hh;subst hh;exfalso;rw[h3]at h5';have hk':=hM.keys;rw[Ar]at hk';exact hk'.2.2 _ (Bd h4') (MKey.kT k) (by simp[hoK]) (h5'.inj hkv)
  exact⟨_,undef,{ w with heap:=w.heap.setIfInBounds b (.map es' clock') },_,hexec,.inr ⟨rfl,rfl⟩,by rw[hd]; exact⟨F,g,r.writeF (y:=.mp it (eM enc v) (some (MKey.kT k,some p))) (aU hob) (.self (by rw[e1]; rfl)) hset.2 (by simp) rfl rfl rfl hobj hft⟩,h1⟩
theorem Sr(hG:hJ P E I){l:List Oper}{o:Oper}{rest:List Oper}{Q:iI}{ob:Nat}{t:TypeId}{c:Call}{it:Option iO}{enc:V->Mem}{hp:Option PV}(v:List (K×V))(k:K)
  (hl:l=o::rest)(hop:o.op = .call c)(hcal:c.callee = .builtin .delete)(hargs:c.args=#[x,kx])(hat:c.argTypes[0]? = some t)(hd:o.dst=none)(hw:cC ops o st=some true)
  (hx:ev st x=some (.map ob))(hk:ev st kx=some (.t (MKey.kT k)))(hob:look st.hp ob=some (.mp it (eM enc v) (some (MKey.kT k,hp))))(hm:pS I.ti t (MKey.kT k)=some et)(hcur:Tw it (MKey.kT k))
  (h1:eV P E ops Q rest { st with hp:=(ob,.mp (Eu it) (eM enc v) none)::del ob st.hp }):eV P E ops Q l st:=by
 refine eQ hl hw fun F g a w r=>?_;obtain⟨kt,kd,hT⟩:=tQ hG.ti hm;obtain⟨b,es,clock,e1,e2,l1,r1,hM⟩:=r.w.hp.obj _ _ (aU hob);have hxv:=bV r hx;have hkv:=(bV r hk).key hT.d;obtain⟨u,hu⟩:∃ u,a.eval x=u:=⟨_,rfl⟩;obtain⟨kv,hkv'⟩:∃ u,a.eval kx=u:=⟨_,rfl⟩;rw[hu]at hxv; rw[hkv']at hkv;cases hxv with
 | map hg=>
  rw[e1]at hg; injection hg with hg; injection hg with hg; subst hg;obtain⟨es',h2,h7⟩:=Jc (P:=P) (w:=w) hT hkv e2 (hM.kinds (fun k' p' he=>by grind) k) c.argTypes hat o.type;have hset:=uQ (o':=.map es' clock) e2;have hFb:¬ F b:=(r.w.hp.own _ _ b (aU hob) (.self (by rw[e1]; rfl))).1;have hF:∀ c,F c->F c/\({ w with heap:=w.heap.setIfInBounds b (.map es' clock) }:World).heap[c]? = w.heap[c]?:=fun c hc=>⟨hc,hset.2 c (fun e=>hFb (e▸hc))⟩;have hperm:l1.Perm es'.toList:=by
   rcases h7 with⟨a1,rfl⟩ | ⟨e0,a1,a2,a3⟩
   ·have:=hM.rest.1 a1;subst this;have hp1:=hM.perm;simp_all
   ·exact(hM.rest.2 e0 _ a1 a2 a3).2
  have hold:∀ e,e∈es'.toList->e∈es.toList:=fun e he=>hM.perm.mem_iff.1 (wT _ (hperm.mem_iff.2 he));have hkeep:∀ e,e∈es.toList->¬ KeyR (MKey.kT k) e.key->e∈es'.toList:=by grind
  have hsub:(es'.toList.map (·.born)).Nodup:=by
   rcases h7 with⟨_,rfl⟩ | ⟨e0,a1,a2,a3⟩
   ·exact hM.born
   ·have:=(List.Perm.nodup_iff (a3.map (·.born))).1 hM.born;simp_all
  have hkeys:=hM.keys;rw[Ar]at hkeys;have hexec:(execOp a.eval o).run P w = .ok (.value (.tuple #[])) ({ w with heap:=w.heap.setIfInBounds b (.map es' clock) }):=by unfold execOp;simp[hop,resolve,hcal,invoke,hargs,hu,hkv',builtin,h2]
  have hobj:dN F g ({ w with heap:=w.heap.setIfInBounds b (.map es' clock) }) ob (.mp (Eu it) (eM enc v) none):=by
   refine⟨b,es',clock,e1,hset.1,l1,[],by simp_all,?_,rfl,by simp only[hoK,eN]; simp_all,hsub,fun e he=>hM.old e (hold e he),hM.sep,?_⟩
   ·refine hM.ent.mono fun y e hy he hR=>⟨hR.1,hR.2.mono hF fun c ho hc=>hset.2 c (fun e'=>?_)⟩;subst e';obtain⟨vs,ty,hcell⟩:=hR.2.block ho hc;simp_all
   ·cases it with
    | none=>exact True.intro
    | some i=>
     obtain⟨r',since,seen,c0,i1,i2,i3,i4,i5,i6,i7,i8⟩:=hM.it;have hne:r'≠b:=by grind
     obtain⟨_,_,hnk⟩:=i8 _ (hcur i rfl);refine⟨r',since,seen,c0,i1,by simp_all,fun e he=>i3 e (hold e he),i4,fun e he=>i5 e (hold e he),fun k' hk'=>?_,i7,fun k' hk'=>by cases hk'⟩;obtain⟨e,he,hke⟩:=i6 k' hk';exact⟨e,hkeep e he (fun h=>hnk (h.inj hke▸hk')),hke⟩
  have hft:∀ c,bD g ({ w with heap:=w.heap.setIfInBounds b (.map es' clock) }) ob (.mp (Eu it) (eM enc v) none) c->bD g w ob (.mp it (eM enc v) (some (MKey.kT k,hp))) c:=by
   intro c hc;generalize hit:Eu it=it' at hc;cases hc with
   | self h=>exact .self h
   | iter h=>
    cases it with
    | none=>cases hit
    | some i=>simp only[Eu,iC]at hit; subst hit; exact .iter h
   | @mem _ _ _ _ bm cl es2 e x h1 h2 h3' h4' h5' h6' h7'=>rw[e1]at h1; injection h1 with h1; injection h1 with h1; subst h1;rw[hset.1]at h2; injection h2 with h2; injection h2 with h2 h2'; subst h2;exact .mem e1 e2 (hold e h3') h4' h5' h6' h7'
  exact⟨_,.tuple #[],{ w with heap:=w.heap.setIfInBounds b (.map es' clock) },_,hexec,.inl rfl,by rw[hd]; exact⟨F,g,r.writeF (y:=.mp (Eu it) (eM enc v) none) (aU hob) (.self (by rw[e1]; rfl)) hset.2 (by simp) rfl rfl rfl hobj hft⟩,h1⟩
end
def Mj(ti:Nat->Option dT)(t:Nat):Bool:=match ti t with | some i=>(match i.und with | .mp _ _=>true | _=>false) | none=>false
theorem Vs{P:Program}{ti:Nat->Option dT}(hI:nT P ti)(h:Mj ti t=true):∃ kt et,P.underlying t=some (.map kt et):=by
 unfold Mj at h;split at h
 ·rename_i i hi;split at h
  ·rename_i kt et hu;have:=(hI _ _ hi).und; rw[hu]at this; exact⟨kt,et,this⟩
  ·cases h
 ·cases h
section
variable {P:Program} {E:Env} {I:Inf} {F:Nat->Prop} {g:Nat->Value} {st st2:St} {a:Act} {w:World} {K V:Type} [MKey K]
theorem cJ.same(r:cJ E F g st a w)(hh:w'.heap=w.heap)(ho:w'.os=w.os)(ht:w'.tape=w.tape)(hu:w'.output=w.output):cJ E F g st a w':=by
 have hb:∀ b:Nat,w'.heap[b]? = w.heap[b]?:=fun b=>by rw[hh]
 have hf:∀ {o x b},bD g w' o x b->bD g w o x b:=fun h=>h.mono rfl (fun _ _=>rfl) (fun c _=>hb c);refine⟨r.nt,r.df,fun t x hx=>(r.fr t x hx).mono (fun b h=>⟨h,hb b⟩) (fun _ _=>rfl),⟨⟨fun o x hx=>?_,fun o x b hx h=>r.w.hp.own o x b hx (hf h),fun o x o' y b hx hy hne h h'=>r.w.hp.sep o x o' y b hx hy hne (hf h) (hf h')⟩,r.w.f0,fun b h=>?_,?_,r.w.names,r.w.b0⟩⟩
 ·exact(r.w.hp.obj o x hx).mono (fun b h=>⟨h,hb b⟩) rfl (fun _ _=>rfl) (fun b _=>hb b)
 ·rw[hh]; exact r.w.f1 b h
 ·exact r.w.ext.trans ho ht hu (by simp_all) (fun b _ _=>hb b)
theorem Xu(hG:hJ P E I){l:List Oper}{o:Oper}{rest:List Oper}{Q:iI}{d:Nat}(enc:V->Mem)(hl:l=o::rest)(hop:o.op = .makeMap t none)(hd:o.dst=some d)(hw:cC ops o st=some true)
  (hnt:Nat.blt d I.nt=true)(hn:pV d I.N=true){st1:St}(he:st.erase d=some st1)(h1:eV P E ops Q rest ({ st1 with hp:=(d,.mp none (eM enc ([]:List (K×V))) none)::st1.hp }.put d (.map d))):eV P E ops Q l st:=by
 refine eQ hl hw fun F g a w r=>?_;have hd':d<E.nt:=by rw[hG.nt]; simp_all
 have hnew:(w.alloc (.map #[] 0)).heap[w.heap.size]? = some (.map #[] 0):=heap_alloc_new w _;obtain⟨g',hg'⟩:=r.allocF (x:=.mp none (eM enc ([]:List (K×V))) none) (v:=.map (some w.heap.size)) (w':=w.alloc (.map #[] 0)) (ob:=.map #[] 0) hd' (by rw[hG.N]; exact fA hn) he rfl rfl rfl rfl rfl
  (fun g' b hg hb=>by
   cases hb with
   | self h=>simp_all
   | mem _ _ _ h4=>simp_all)
  (fun g' _ hg=>⟨w.heap.size,#[],0,hg,hnew,[],[],by simp,by simp only[eM,List.map_nil]; exact .nil,rfl,by simp[eM,hoK],by simp,by simp,by simp,True.intro⟩)
  (.map d) (fun g' hg=>.map hg)
 exact⟨_,.map (some w.heap.size),w.alloc (.map #[] 0),_,by unfold execOp; simp[hop,Instr.makeMap],.inl rfl,by rw[hd]; exact⟨F,g',hg'⟩,h1⟩
theorem aGX(hG:hJ P E I){l:List Oper}{o:Oper}{rest:List Oper}{Q:iI}{t:TypeId}{d ob:Nat}{c:Call}{it:Option iO}{enc:V->Mem}(v:List (K×V))(hl:l=o::rest)(hop:o.op = .call c)
  (hcal:c.callee = .builtin .len)(hargs:c.args=#[x])(hat:c.argTypes[0]? = some t)(hd:o.dst=some d)(hw:cC ops o st=some true)(hnt:Nat.blt d I.nt=true)(hx:ev st x=some (.map ob))(hm:Mj I.ti t=true)
  (hob:look st.hp ob=some (.mp it (eM enc v) none))(h1:eV P E ops Q rest (st.put d (.t (.int .i64 (v.length:Int))))):eV P E ops Q l st:=by
 refine eQ hl hw fun F g a w r=>?_;have hd':d<E.nt:=by rw[hG.nt]; simp_all
 obtain⟨kt,et,hT⟩:=Vs hG.ti hm;obtain⟨b,es,clock,e1,e2,l1,r1,hM⟩:=r.w.hp.obj _ _ (aU hob);have hxv:=bV r hx;obtain⟨u,hu⟩:∃ u,a.eval x=u:=⟨_,rfl⟩;rw[hu]at hxv;cases hxv with
 | map hg=>
  rw[e1]at hg; injection hg with hg; injection hg with hg; subst hg;have hsz:es.size=v.length:=by have h1:=hM.perm.length_eq;have h2:=hM.ent.get.1;have h3:=hM.hole;simp only[nO]at h3;subst h3;simp only[eM,mS,eN,uE]at h1 h2;omega
  refine⟨_,.int .i64 (v.length:Int),w,_,?_,.inl rfl,by rw[hd]; exact⟨F,g,r.put hd' (.t (.int _ _))⟩,h1⟩;unfold execOp;simp[hop,resolve,hcal,invoke,hargs,hu,builtin,Builtin.len_,hat,run_underlying hT,Go.run_getObj_map w b es clock e2,hsz,goInt]
def Ze(N:List Nat)(o d:Nat)(x':bF)(st:St):Option St:=
 match pV d N,Nat.beq d o,st.erase d with
 | true,false,some st1=>some { fr:=st1.fr,hp:=(o,x')::del o st1.hp }
 | _,_,_=>none
theorem Yf(hG:hJ P E I){l:List Oper}{o:Oper}{rest:List Oper}{Q:iI}{d ob:Nat}{enc:V->Mem}(v:List (K×V))(hl:l=o::rest)(hop:o.op = .range t x)(hd:o.dst=some d)
  (hw:cC ops o st=some true)(hnt:Nat.blt d I.nt=true)(hx:ev st x=some (.map ob))(hm:Mj I.ti t=true)(hob:look st.hp ob=some (.mp none (eM enc v) none))
  (hs:Ze I.N ob d (.mp (some ⟨d,kTs (cU v),none⟩) (eM enc v) none) st=some st2)(h1:eV P E ops Q rest (st2.put d (.ptr d 0))):eV P E ops Q l st:=by
 refine eQ hl hw fun F g a w r=>?_;have hd':d<E.nt:=by rw[hG.nt]; simp_all
 obtain⟨kt,et,hT⟩:=Vs hG.ti hm;have hlm:=aU hob;obtain⟨b,es,clock,e1,e2,l1,r1,hM⟩:=r.w.hp.obj _ _ hlm;have hxv:=bV r hx;obtain⟨u,hu⟩:∃ u,a.eval x=u:=⟨_,rfl⟩;rw[hu]at hxv;cases hxv with
 | map hg=>
  rw[e1]at hg; injection hg with hg; injection hg with hg; subst hg;unfold Ze at hs;split at hs
  ·rename_i st1 hn hdo he;cases hs;have hdo:=oU hdo;let w':=w.alloc (.mapIter (some b) clock #[] clock);have hnew:w'.heap[w.heap.size]? = some (.mapIter (some b) clock #[] clock):=heap_alloc_new w _;have hold:∀ c,c<w.heap.size->w'.heap[c]? = w.heap[c]?:=fun c hc=>heap_alloc_old w _ hc;have hsz:w'.heap.size=w.heap.size+1:=by show (w.heap.push _).size=_; simp
   let g':=upd g d (.pointer (some ⟨w.heap.size,0,none⟩));have hgd:g' d = .pointer (some ⟨w.heap.size,0,none⟩):=bM ..;have hgo:∀ k,k≠d->g' k=g k:=fun k hk=>bR g _ hk;have hblt:=(Ok.1 e2).1;have hF:∀ c,F c->F c/\w'.heap[c]? = w.heap[c]?:=fun c hc=>⟨hc,hold c (r.w.f1 c hc).1⟩;have hr1:=hM.hole;simp only[nO]at hr1;subst hr1;have hperm:=hM.perm;rw[eN]at hperm;have hkeys:=hM.keys;simp only[hoK,eN,rI]at hkeys;have hit:ItR g' w' b es clock (some ⟨d,kTs (cU v),none⟩):=by
    refine⟨w.heap.size,clock,#[],clock,hgd,hnew,hM.old,⟨dL _,dL _⟩,fun e he'=>?_,fun k hk=>?_,hkeys,fun k hk=>by cases hk⟩
    ·obtain⟨j,y,hy,_,hR⟩:=hM.ent.memr (hperm.mem_iff.2 he');refine⟨fun _=>by simp,fun _=>⟨y.1,?_,hR.1⟩⟩;rw[<-rI (enc:=enc)];grind
    ·rw[<-rI (enc:=enc)]at hk;obtain⟨y,hy,rfl⟩:=dZ.1 hk;obtain⟨j,e,_,h2,h3⟩:=hM.ent.mem hy;exact⟨e,hperm.mem_iff.1 (kA h2),h3.1⟩
   have hobj:dN F g' w' ob (.mp (some ⟨d,kTs (cU v),none⟩) (eM enc v) none):=by refine⟨b,es,clock,by grind,by simp_all,l1,[],by simp_all,?_,rfl,hM.keys,hM.born,hM.old,hM.sep,hit⟩;refine hM.ent.mono fun y e _ _ hR=>⟨hR.1,hR.2.mono hF fun c ho hc=>hold c ?_⟩;obtain⟨vs,ty,hcell⟩:=hR.2.block ho hc;grind
   have hfoot:∀ c,bD g' w' ob (.mp (some ⟨d,kTs (cU v),none⟩) (eM enc v) none) c->c=w.heap.size\/bD g w ob (.mp none (eM enc v) none) c:=by
    intro c hc;cases hc with
    | self h=>rw[hgo ob (fun e=>hdo e.symm)]at h; exact .inr (.self h)
    | iter h=>rw[hgd]at h; simp[blk]at h; omega
    | mem h1 h2 h3 h4 h5 h6 h7=>rw[hgo ob (fun e=>hdo e.symm),e1]at h1; injection h1 with h1; injection h1 with h1; subst h1;rw[hold b hblt,e2]at h2; injection h2 with h2; injection h2 with h2 h2'; subst h2;exact .inr (.mem e1 e2 h3 h4 h5 h6 h7)
   have oth:∀ k z,(k,z)∈del ob st1.hp->k≠ob/\∃ z',(k,z')∈st.hp/\dN F g' w' k z/\∀ c,bD g' w' k z c->bD g w k z' c:=by
    intro k z hz;obtain⟨h1,h2⟩:=bC.1 hz;obtain⟨z',h3,h4,h5,h6,h7⟩:=St.erase_hp he k z h1;have hz':=r.w.hp.obj k z' h3;exact⟨h2,z',h3,(h6 _ _ _ hz').mono hF (hgo k h4) (fun k' hk'=>hgo k' (h5 k' hk')) (fun c hc=>hold c ((h7 _ _ _ hc).block hz')),
     fun c hc=>h7 _ _ _ (hc.mono (hgo k h4) (fun k' hk'=>hgo k' (h5 k' hk')) (fun c' hc'=>hold c' (hz'.block hc')))⟩
   have hrel:cJ E F g' ⟨st1.fr,(ob,.mp (some ⟨d,kTs (cU v),none⟩) (eM enc v) none)::del ob st1.hp⟩ a w':=by
    refine⟨r.nt,r.df,fun t z hz=>?_,⟨⟨fun k z hz=>?_,fun k z c hz hc=>?_,fun k z k' z' c hz hz' hne hc hc'=>?_⟩,r.w.f0,fun c hc=>⟨by have:=(r.w.f1 c hc).1; omega,(r.w.f1 c hc).2⟩,
     r.w.ext.trans rfl rfl rfl (by omega) (fun c hc _=>hold c (by have:=r.w.ext.size; omega)),fun k hk=>?_,r.w.b0⟩⟩
    ·obtain⟨h1,h2⟩:=St.erase_fr he t z hz;exact(r.fr t z h1).mono hF (fun k hk=>hgo k (h2 k hk))
    ·grind
    ·rcases bH.1 hz with e | hz
     ·cases e;rcases hfoot c hc with rfl | h
      ·exact⟨fun h=>by grind,.inr r.w.ext.size⟩
      ·exact r.w.hp.own _ _ c hlm h
     ·obtain⟨_,z',h1,_,h3⟩:=oth k z hz;exact r.w.hp.own k z' c h1 (h3 c hc)
    ·have key:∀ k z,(k,z)∈del ob st1.hp->bD g' w' k z c->bD g' w' ob (.mp (some ⟨d,kTs (cU v),none⟩) (eM enc v) none) c->False:=by
      intro k z hz hc hc';obtain⟨h0,z',h1,_,h3⟩:=oth k z hz;have hck:=h3 c hc;rcases hfoot c hc' with rfl | h
      ·have:=hck.block (r.w.hp.obj k z' h1); omega
      ·exact r.w.hp.sep k z' ob _ c h1 hlm h0 hck h
     rcases bH.1 hz with e | hz
     ·grind
     ·rcases bH.1 hz' with e' | hz'
      ·simp_all
      ·obtain⟨_,u,h1,_,h3⟩:=oth k z hz;obtain⟨_,u',h1',_,h3'⟩:=oth k' z' hz';exact r.w.hp.sep k u k' u' c h1 h1' hne (h3 c hc) (h3' c hc')
    ·rw[hgo k (fun e:k=d=>fA hn (by rw[<-e,<-hG.N]; exact hk))];exact r.w.names k hk
   refine⟨_,.pointer (some ⟨w.heap.size,0,none⟩),w',_,?_,.inl rfl,by rw[hd]; exact⟨F,g',hrel.put hd' (.ptr hgd)⟩,h1⟩;unfold execOp;simp[hop,hu,Instr.range,run_underlying hT,Go.run_getObj_map w b es clock e2,w']
  ·cases hs
end
section
variable {P:Program} {E:Env} {I:Inf} {F:Nat->Prop} {g:Nat->Value} {st st2:St} {a:Act} {w:World} {K V:Type} [MKey K]
theorem VR.tup3{F:Nat->Prop}{g:Nat->Value}{w:World}{q r:PV}{x y z:Value}(h1:VR F g w p x)(h2:VR F g w q y)(h3:VR F g w r z):VR F g w (.tup [p,q,r]) (.tuple #[x,y,z]):=by refine .tup (by simp) fun j u v hu hv=>?_;grind
theorem VR.tup1{F:Nat->Prop}{g:Nat->Value}{w:World}{x:Value}(h1:VR F g w p x):VR F g w (.tup [p]) (.tuple #[x]):=by refine .tup (by simp) fun j u v hu hv=>?_;grind
theorem aFY(r:cJ E F g st a w){ob di:Nat}{enc:V->Mem}{cur:Option T}(v:List (K×V))(rem:List K)(ty:TypeId)
  (hob:look st.hp ob=some (.mp (some ⟨di,kTs rem,cur⟩) (eM enc v) none))(hu:VR F g w (.ptr di 0) u):
  (rem=[]/\(Instr.next u false ty).run P w = .ok (.tuple #[.bool false]) w)\/∃ k w2 b es clock e,k∈rem/\(Instr.next u false ty).run P w = .ok (.tuple #[.bool true,e.key,e.val]) w2 /\
   cJ E F g { st with hp:=(ob,.mp (some ⟨di,kTs (rem.erase k),some (MKey.kT k)⟩) (eM enc v) none)::del ob st.hp } a w2/\g ob = .map (some b)/\w2.heap[b]? = some (.map es clock)/\e∈es.toList/\KeyR (MKey.kT k) e.key:=by
 have hlm:=aU hob;obtain⟨b,es,clock,e1,e2,l1,r1,hM⟩:=r.w.hp.obj _ _ hlm;obtain⟨rb,since,seen,c0,i1,i2,i3,⟨i4,i4'⟩,i5,i6,i7,i8⟩:=hM.it;cases hu with
 | ptr hg=>
  rw[i1]at hg; injection hg with hg; injection hg with hg; injection hg with hg; subst hg;have hne:rb≠b:=by grind
  rcases run_next_at (P:=P) w ty rb b since c0 seen es clock i2 e2 i3 i4 with⟨hz,hrun⟩ | ⟨e,he,w1,hw1,hrun⟩
  ·refine .inl ⟨?_,hrun⟩;cases rem with
   | nil=>rfl
   | cons k rem=>
    exfalso;obtain⟨e,he,hk⟩:=i6 (MKey.kT k) (by simp[kTs]);have hs:=(i5 e he).1 ⟨MKey.kT k,by simp[kTs],hk⟩;have:e∈(leftOf es seen).toList:=by simp only[leftOf,Array.toList_filter,iB];simp_all
    simp_all
  ·simp only[leftOf,Array.toList_filter,iB,mC]at he;obtain⟨he,hns⟩:=he;obtain⟨k',hk',hke⟩:=(i5 e he).2 hns;obtain⟨k,hk,rfl⟩:=dZ.1 hk';have r1':cJ E F g st a w1:=by
    rcases hw1 with rfl | rfl
    ·exact r
    ·exact r.same rfl rfl rfl rfl
   have e1':w1.heap=w.heap:=by rcases hw1 with rfl | rfl <;> rfl
   obtain⟨w2,hw2⟩:∃ w2,w2=ChangeMaps.setBlock w1 rb (.mapIter (some b) since (seen.push e.born) clock):=⟨_,rfl⟩;rw[<-hw2]at hrun;have hheap:w2.heap=w1.heap.setIfInBounds rb (.mapIter (some b) since (seen.push e.born) clock):=by rw[hw2]; rfl
   have i2':w1.heap[rb]? = some (.mapIter (some b) since seen c0):=by simp_all
   have hset:w2.heap[rb]? = some (.mapIter (some b) since (seen.push e.born) clock)/\∀ r',r'≠rb->w2.heap[r']? = w1.heap[r']?:=by grind
   have hFb:¬ F rb:=(r.w.hp.own _ _ rb hlm (.iter (by rw[i1]; rfl))).1;have hF:∀ c,F c->F c/\w2.heap[c]? = w1.heap[c]?:=fun c hc=>⟨hc,hset.2 c (fun e=>hFb (e▸hc))⟩;have hF':∀ c,F c->F c/\w2.heap[c]? = w.heap[c]?:=fun c hc=>by simp_all
   have hnd:(rem.map (MKey.kT (K:=K))).Nodup:=i7;have hnd':=Mk (l:=rem) hnd;have hb2:w2.heap[b]? = some (.map es clock):=by simp_all
   have hob2:dN F g w2 ob (.mp (some ⟨di,kTs (rem.erase k),some (MKey.kT k)⟩) (eM enc v) none):=by
    refine⟨b,es,clock,e1,hb2,l1,r1,hM.perm,?_,hM.hole,hM.keys,hM.born,hM.old,hM.sep,?_⟩
    ·refine hM.ent.mono fun y e' _ _ hR=>⟨hR.1,hR.2.mono hF' fun c ho hc=>?_⟩;obtain⟨vs,ty,hcell⟩:=hR.2.block ho hc;rw[hset.2 c (fun e'=>by simp_all),e1']
    ·refine⟨rb,since,seen.push e.born,clock,i1,hset.1,i3,⟨i4',i4'⟩,fun e' he'=>?_,fun k' hk'=>?_,?_,fun k' hk'=>?_⟩
     ·have hbn:e'.born=e.born->e'=e:=by
       intro hbb;obtain⟨p,hp,hpe⟩:=sS.1 he';obtain⟨q,hq,hqe⟩:=sS.1 he;have e3:(es.toList.map (·.born))[p]? = some e'.born:=by grind
       have e4:(es.toList.map (·.born))[q]? = some e'.born:=by grind
       have:=(List.getElem?_inj (by simpa using hp) hM.born).1 (e3.trans e4.symm);subst this;rw[<-hpe,<-hqe]
      constructor
      ·rintro⟨k2,hk2,hke2⟩;obtain⟨k3,hk3,rfl⟩:=dZ.1 hk2;have hk4:=(hnd'.mem_erase_iff).1 hk3;have hs:=(i5 e' he').1 ⟨_,Bd hk4.2,hke2⟩;have hneb:e'.born≠e.born:=fun hbb=>by have:=hbn hbb;subst this;exact hk4.1 (MKey.inj _ _ (hke2.inj hke))
       simp_all
      ·intro hs;rw[Array.contains_push]at hs;simp only[Bool.or_eq_false_iff]at hs;obtain⟨k2,hk2,hke2⟩:=(i5 e' he').2 hs.1;obtain⟨k3,hk3,rfl⟩:=dZ.1 hk2;refine⟨_,Bd ((hnd'.mem_erase_iff).2 ⟨?_,hk3⟩),hke2⟩;intro e3;subst e3;have hx':(MKey.kT k3,e.key)=(MKey.kT k3,e.key):=rfl;have:e'.key=e.key:=hke2.inj' hke;obtain⟨j,y,hy,hj,hR⟩:=hM.ent.memr (r:=l1) (b:=e) (by have h3:=hM.hole; simp only[nO]at h3;have:=hM.perm.mem_iff.2 he; simp_all);have:=hM.uniq (kA hy) he he' hR.1 (by rw[this]; exact hR.1);grind
     ·obtain⟨k3,hk3,rfl⟩:=dZ.1 hk';exact i6 _ (Bd ((hnd'.mem_erase_iff).1 hk3).2)
     ·have:(kTs (rem.erase k)).Sublist (kTs rem):=(List.erase_sublist ..).map _;grind
     ·injection hk' with hk';subst hk';refine⟨rfl,⟨e,he,hke,seen,rfl⟩,?_⟩;rw[Qa];grind
   have hft:∀ c,bD g w2 ob (.mp (some ⟨di,kTs (rem.erase k),some (MKey.kT k)⟩) (eM enc v) none) c->bD g w1 ob (.mp (some ⟨di,kTs rem,cur⟩) (eM enc v) none) c:=by
    intro c hc;cases hc with
    | self h=>exact .self h
    | iter h=>exact .iter h
    | mem h1 h2 h3 h4 h5 h6 h7=>rw[e1]at h1; injection h1 with h1; injection h1 with h1; subst h1;rw[hset.2 b (fun e=>hne e.symm)]at h2;exact .mem e1 h2 h3 h4 h5 h6 h7
   have hrel:=r1'.writeF (y:=.mp (some ⟨di,kTs (rem.erase k),some (MKey.kT k)⟩) (eM enc v) none) (w':=w2) hlm (.iter (by rw[i1]; rfl)) hset.2 (by simp_all) (by rw[hw2]; rfl) (by rw[hw2]; rfl) (by rw[hw2]; rfl) hob2 hft;grind
end
section
variable {P:Program} {E:Env} {I:Inf} {F:Nat->Prop} {g:Nat->Value} {st st2:St} {a:Act} {w:World} {K V:Type} [MKey K]
theorem MpR.hasKey{b clock:Nat}{es:Array MapEntry}{it:Option iO}{enc:V->Mem}{v:List (K×V)}{l:List MapEntry}(h:MpR F g w b es clock it (eM enc v) none l r){k:K}{e:MapEntry}(he:e∈es.toList)(hk:KeyR (MKey.kT k) e.key):
  ∃ c,cB v k=some c/\Hc F w (enc c) e.val:=by
 have hf:=h.found k;cases hl:cB v k with
 | none=>simp_all
 | some c=>obtain⟨hp,_⟩:=hf.2 c hl;obtain⟨l2,h2⟩:=h.permM hp;exact⟨c,rfl,(h2.entry (x:=(MKey.kT k,enc c)) (by simp) he hk).1.2⟩
theorem wE{o:Oper}(hop:o.op = .next x false){v':Value}(hu:a.eval x=u)(h:(Instr.next u false o.type).run P w = .ok v' w'):(execOp a.eval o).run P w = .ok (.value v') w':=by unfold execOp;simp_all
def Fg(st:St)(ob di:Nat)(rem:List K)(k:K)(m:List (T×Mem)):St:={ st with hp:=(ob,.mp (some ⟨di,kTs rem,some (MKey.kT k)⟩) m none)::del ob st.hp }
theorem Zq(hG:hJ P E I){l:List Oper}{o:Oper}{rest:List Oper}{Q:iI}{d ob di:Nat}{cur:Option T}{eD:V->T}(v:List (K×V))(rem:List K)
  (hl:l=o::rest)(hop:o.op = .next x false)(hd:o.dst=some d)(hw:cC ops o st=some true)(hnt:Nat.blt d I.nt=true)(hx:ev st x=some (.ptr di 0))
  (hob:look st.hp ob=some (.mp (some ⟨di,kTs rem,cur⟩) (eM (fun c=>.d (eD c)) v) none))
  (h0:rem=[]->eV P E ops Q rest (st.put d (.tup [.t (.bool false)])))
  (h1:∀ k c,k∈rem->cB v k=some c->eV P E ops Q rest ((Fg st ob di (rem.erase k) k (eM (fun c=>.d (eD c)) v)).put d (.tup [.t (.bool true),.t (MKey.kT k),.t (eD c)]))):eV P E ops Q l st:=by
 refine eQ hl hw fun F g a w r=>?_;have hd':d<E.nt:=by rw[hG.nt]; simp_all
 obtain⟨u,hu⟩:∃ u,a.eval x=u:=⟨_,rfl⟩;have hxv:=bV r hx;rw[hu]at hxv;rcases aFY (P:=P) r v rem o.type hob hxv with⟨hrem,hrun⟩ | ⟨k,w2,b,es,clock,e',hk,hrun,r2,e1,e2,he,hke⟩
 ·exact⟨_,_,w,_,wE hop hu hrun,.inl rfl,by rw[hd]; exact⟨F,g,r.put hd' (.tup1 (.t (.bool _)))⟩,h0 hrem⟩
 ·have hob2:look (Fg st ob di (rem.erase k) k (eM (fun c=>.d (eD c)) v)).hp ob=some (.mp (some ⟨di,kTs (rem.erase k),some (MKey.kT k)⟩) (eM (fun c=>.d (eD c)) v) none):=by simp[look,Fg]
  obtain⟨b',es',clock',f1,f2,l1,r1,hM⟩:=r2.w.hp.obj _ _ (aU hob2);rw[e1]at f1; injection f1 with f1; injection f1 with f1; subst f1;rw[e2]at f2; injection f2 with f2; injection f2 with f2 f2'; subst f2; subst f2';obtain⟨c,hlk,hmem⟩:=hM.hasKey he hke;exact⟨_,_,w2,_,wE hop hu hrun,.inl rfl,by rw[hd]; exact⟨F,g,cJ.put r2 hd' (.tup3 (.t (.bool _)) (.t hke.toRd) (.t hmem))⟩,h1 k c hk hlk⟩
theorem aAE(hG:hJ P E I){l:List Oper}{o:Oper}{rest:List Oper}{Q:iI}{d ob:Nat}{it:Option iO}{eD:V->T}{zv:Value}{zp:PV}(v:List (K×V))(k:K)
  (hl:l=o::rest)(hop:o.op = .lookup t x kx false)(hd:o.dst=some d)(hw:cC ops o st=some true)(hnt:Nat.blt d I.nt=true)(hx:ev st x=some (.map ob))(hk:ev st kx=some (.t (MKey.kT k)))
  (hob:look st.hp ob=some (.mp it (eM (fun c=>.d (eD c)) v) none))(hm:pS I.ti t (MKey.kT k)=some et)(hz:Ol P et zv)(hzp:rC zv=some zp)
  (h0:cB v k=none->eV P E ops Q rest (st.put d zp))(h1:∀ c,cB v k=some c->eV P E ops Q rest (st.put d (.t (eD c)))):eV P E ops Q l st:=by
 refine eQ hl hw fun F g a w r=>?_;have hd':d<E.nt:=by rw[hG.nt]; simp_all
 obtain⟨kt,kd,hT⟩:=tQ hG.ti hm;obtain⟨info,hi,hz⟩:=hz;obtain⟨b,es,clock,e1,e2,l1,r1,hM⟩:=r.w.hp.obj _ _ (aU hob);have hxv:=bV r hx;have hkv:=(bV r hk).key hT.d;obtain⟨u,hu⟩:∃ u,a.eval x=u:=⟨_,rfl⟩;obtain⟨kv,hkv'⟩:∃ u,a.eval kx=u:=⟨_,rfl⟩;rw[hu]at hxv; rw[hkv']at hkv;cases hxv with
 | map hg=>
  rw[e1]at hg; injection hg with hg; injection hg with hg; subst hg;have hrun:=xJ (P:=P) hT hkv e2 (hM.kinds (by simp) k) hi hz;have hf:=hM.found k;have hex:∀ v',(Instr.lookup t (.map (some b)) kv false).run P w = .ok v' w->(execOp a.eval o).run P w = .ok (.value v') w:=by intro v' hv';unfold execOp;simp_all
  rcases hrun with⟨h2,hnk⟩ | ⟨e,he,hke,h2⟩
  ·cases hlk:cB v k with
   | none=>exact⟨_,_,w,_,hex _ h2,.inl rfl,by rw[hd]; exact⟨F,g,r.put hd' (rF hzp F g w)⟩,h0 hlk⟩
   | some c=>grind
  ·obtain⟨c,hlk,hmem⟩:=hM.hasKey he hke;exact⟨_,_,w,_,hex _ h2,.inl rfl,by rw[hd]; exact⟨F,g,r.put hd' (.t hmem)⟩,h1 c hlk⟩
theorem bJS{F:Nat->Prop}{g:Nat->Value}{w:World}(h:Rd F w (.fv c) v):VR F g w (.fn (.func c) 0 []) v:=by
 cases h with
 | fv=>exact .fn rfl rfl (by simp)
 | nil h=>simp[T.view]at h
 | sl a cap size vs h=>simp[T.view]at h
theorem aPR(hI:nT P I.ti){ob:Nat}(v:List (K×Nat))(k:K)(hm:pS I.ti t (MKey.kT k)=some et)(hz:Ol P et .nilFunc)(hc:cB v k=some c):
  aAF P t [.map ob,.t (MKey.kT k)] (.fn (.func c) 0 []) [(ob,.mp none (eM (fun c=>.d (.fv c)) v) none)]:=by
 intro F g w u kv x y hxy hxv hkv0 hH;cases hxy;obtain⟨kt,kd,hT⟩:=tQ hI hm;obtain⟨info,hi,hz⟩:=hz;obtain⟨b,es,clock,e1,e2,l1,r1,hM⟩:=hH _ (cR.2 rfl);have hkv:=hkv0.key hT.d;cases hxv with
 | map hg=>
  rw[e1]at hg; injection hg with hg; injection hg with hg; subst hg;have hrun:=xJ (P:=P) hT hkv e2 (hM.kinds (by simp) k) hi hz;have hf:=hM.found k;rcases hrun with⟨h2,hnk⟩ | ⟨e,he,hke,h2⟩
  ·grind
  ·obtain⟨c',hlk,hmem⟩:=hM.hasKey he hke;rw[hc]at hlk;cases hlk;exact⟨_,h2,bJS hmem⟩
theorem Le.filld{it:Option iO}{eD:V->T}(v:List (K×V))(k:K)(c:V)(hp:∀ F g w v,VR F g w p v->VR F g w (.t (eD c)) v)(hl:look st.hp o=some (.mp it (eM (fun c=>.d (eD c)) (mdel v k)) (some (MKey.kT k,some p)))):
  Le E st { st with hp:=(o,.mp it (eM (fun c=>.d (eD c)) (mput v k c)) none)::del o st.hp }:=by
 refine Le.objF _ hl (fun F g w h=>?_) (fun g w x h=>?_)
 ·obtain⟨b,es,clock,e1,e2,l1,r1,hM⟩:=h;obtain⟨e,hr,hk,hv⟩:=hM.hole;have hv:=hp _ _ _ _ hv;subst hr;have hM':MpR F g w b es clock it ((MKey.kT k,Mem.d (eD c))::eM (fun c=>.d (eD c)) (mdel v k)) none (e::l1) []:=by
   refine⟨?_,.cons ⟨hk,hv.cells_t rfl⟩ hM.ent,rfl,?_,hM.born,hM.old,?_,hM.it⟩
   ·rw[eN];exact(Jq (l₁:=[e]) (l₂:=l1)).trans hM.perm
   ·have:=hM.keys;simp only[hoK,kL,eN]at this ⊢;grind
   ·intro i j x y e1 e2 c' hx hy h1 h2 hne ho;have:x.2.owned=false:=by
     cases i with
     | zero=>simp at hx; subst hx; rfl
     | succ i=>have:=kA (show (eM (fun c=>Mem.d (eD c)) (mdel v k))[i]? = some x by simp_all);simp only[eM,dZ]at this;obtain⟨p,_,rfl⟩:=this;rfl
    simp_all
  obtain⟨l2,hM2⟩:=hM'.permM (aQZ (enc:=fun c=>Mem.d (eD c)) v k c);exact⟨b,es,clock,e1,e2,l2,[],hM2⟩
 ·cases h with
  | self h=>exact .self h
  | iter h=>exact .iter h
  | mem h1 h2 h3 h4 h5 h6 h7=>simp only[eM,dZ]at h4;obtain⟨p,_,rfl⟩:=h4;cases h6
end
section
variable {P:Program} {E:Env} {I:Inf} {st:St} {a:Act} {w:World} {K V:Type} [MKey K]
theorem oW.remap{α β γ:Type}{R:β->γ->Prop}{R':β->γ->Prop}{f f':α->β}:∀ {v:List α} {l:List γ},oW R (v.map f) l->(∀ p e,p∈v->e∈l->R (f p) e->R' (f' p) e)->oW R' (v.map f') l
 | [],_,h,_=>by cases h; exact .nil
 | p::v,_,h,hr=>by
  cases h with
  | cons h t=>exact .cons (hr p _ (by simp) (by simp) h) (oW.remap t fun q e hq he=>hr q e (cZ _ hq) (cZ _ he))
theorem Le.gapd{it:Option iO}{eD:V->T}(v:List (K×V))(k:K)(c:V)(hlk:cB v k=some c)(hl:look st.hp o=some (.mp it (eM (fun c=>.d (eD c)) v) none)):
  Le E st { st with hp:=(o,.mp it (eM (fun c=>.d (eD c)) (mdel v k)) (some (MKey.kT k,some (.t (eD c)))))::del o st.hp }:=by
 refine Le.objF _ hl (fun F g w h=>?_) (fun g w c' h=>?_)
 ·obtain⟨b,es,clock,e1,e2,l1,r1,hM⟩:=h;refine⟨b,es,clock,e1,e2,?_⟩;obtain⟨hp,_⟩:=(hM.found k).2 c hlk;obtain⟨l2,hM2⟩:=hM.permM hp;obtain⟨e,l',_,_,_,_,h⟩:=hM2.focus (g':=g) (p:=some (.t (eD c))) (fun q hq u hu _=>by cases hq; exact .t hu) hM.it;exact⟨_,_,h⟩
 ·cases h with
  | self h=>exact .self h
  | iter h=>exact .iter h
  | mem h1 h2 h3 h4 h5 h6 h7=>refine .mem h1 h2 h3 ?_ h5 h6 h7;simp only[eM,mdel,dZ,iB]at h4 ⊢;obtain⟨p,⟨hp,_⟩,rfl⟩:=h4;exact⟨p,hp,rfl⟩
theorem cJ.fzmap{F:Nat->Prop}{g:Nat->Value}(r:cJ E F g st a w){it:Option iO}{e:TypeId}{nn:V->Nat}{ff:V->Nat->List T}{eD:V->T}(v:List (K×V))(hv:∀ c,(eD c).view=some (nn c,ff c))
  (hl:look st.hp o=some (.mp it (eM (fun c=>.row e s (nn c) (ff c)) v) none)):Rel E { st with hp:=(o,.mp it (eM (fun c=>.d (eD c)) v) none)::del o st.hp } a w:=by
 have hlm:=aU hl;obtain⟨b0,es,clock,e1,e2,l1,r1,hM⟩:=r.w.hp.obj _ _ hlm;let M:Nat->Prop:=fun b=>∃ en x,en∈es.toList/\x∈eM (fun c=>.row e s (nn c) (ff c)) v/\KeyR x.1 en.key/\blk en.val=some b;have hfoot:∀ b,M b->bD g w o (.mp it (eM (fun c=>.row e s (nn c) (ff c)) v) none) b:=by rintro b ⟨en,x,h1,h2,h3,h4⟩;refine .mem e1 e2 h1 h2 h3 ?_ h4;simp only[eM,dZ]at h2;obtain⟨p,_,rfl⟩:=h2;rfl
 have hcell:∀ b,M b->∃ vs ty,w.heap[b]? = some (.cells vs ty (0,0)):=by
  rintro b ⟨en,x,h1,h2,h3,h4⟩;obtain⟨⟨_,hR⟩,_⟩:=hM.entry h2 h1 h3;simp only[eM,dZ]at h2;obtain⟨p,_,rfl⟩:=h2;rcases hR with⟨h5,_⟩ | ⟨b',cap,cur,h5,h6,_⟩
  ·rw[h5]at h4; simp[blk]at h4
  ·rw[h5]at h4; simp[blk]at h4; subst h4; exact⟨_,_,h6⟩
 have hnew:∀ b,bD g w o (.mp it (eM (fun c=>.d (eD c)) v) none) b->bD g w o (.mp it (eM (fun c=>.row e s (nn c) (ff c)) v) none) b/\¬ M b:=by
  intro b h;cases h with
  | self h=>refine⟨.self h,fun hm=>?_⟩;obtain⟨vs,ty,hc⟩:=hcell b hm;rw[e1]at h; simp[blk]at h; subst h;rw[e2]at hc; cases hc
  | @iter i _ _ _ h=>refine⟨.iter h,fun hm=>?_⟩;obtain⟨vs,ty,hc⟩:=hcell b hm;obtain⟨rr,since,seen,c0,g1,g2,_⟩:=hM.it;rw[g1]at h; simp[blk]at h; subst h;rw[g2]at hc; cases hc
  | mem h1 h2 h3 h4 h5 h6 h7=>simp only[eM,dZ]at h4;obtain⟨p,_,rfl⟩:=h4;cases h6
 refine⟨fun b=>F b\/M b,g,r.nt,r.df,fun t x hx=>(r.fr t x hx).mono (fun b hb=>⟨.inl hb,rfl⟩) (fun _ _=>rfl),⟨⟨fun k y hy=>?_,fun k y b hy hb=>?_,fun k y k' y' b hy hy' hne hb hb'=>?_⟩,fun b hb=>.inl (r.w.f0 b hb),fun b hb=>?_,r.w.ext,r.w.names,r.w.b0⟩⟩
 ·rcases bH.1 hy with he | hy
  ·cases he;have hr1:=hM.hole;refine⟨b0,es,clock,e1,e2,l1,r1,hM.perm,?_,hr1,?_,hM.born,hM.old,fun i j x y' e1 e2 c hx hy h1 h2 hne ho=>?_,hM.it⟩
   ·refine oW.remap hM.ent fun p en hp hen hR=>⟨hR.1,?_⟩;refine Hz (g:=fun _=>en.val) (o:=0) (F:=F) (e:=e) (s:=s) hR.2 (fun b hb=>.inl hb) (fun b hb=>.inr ⟨en,_,hM.perm.mem_iff.1 (wT _ hen),Bd hp,hR.1,hb⟩) (hv p.2)
   ·have:=hM.keys;rw[rI]at this ⊢;exact this
   ·have:=kA hx;simp only[eM,dZ]at this;obtain⟨p,_,rfl⟩:=this;cases ho
  ·exact(r.w.hp.obj k y (bC.1 hy).1).mono (fun b hb=>⟨.inl hb,rfl⟩) rfl (fun _ _=>rfl) (fun _ _=>rfl)
 ·rcases bH.1 hy with he | hy
  ·cases he;obtain⟨h1,h2⟩:=hnew b hb;obtain⟨h3,h4⟩:=r.w.hp.own _ _ b hlm h1;exact⟨fun h=>h.elim h3 h2,h4⟩
  ·obtain⟨hy1,hy2⟩:=bC.1 hy;obtain⟨h3,h4⟩:=r.w.hp.own _ _ b hy1 hb;exact⟨fun h=>h.elim h3 fun hm=>r.w.hp.sep k y o _ b hy1 hlm hy2 hb (hfoot b hm),h4⟩
 ·rcases bH.1 hy with he | hy
  ·rcases bH.1 hy' with he' | hy'
   ·cases he; cases he'; exact hne rfl
   ·cases he;obtain⟨h1,h2⟩:=bC.1 hy';exact r.w.hp.sep _ _ k' y' b hlm h1 hne (hnew b hb).1 hb'
  ·obtain⟨h1,h2⟩:=bC.1 hy;rcases bH.1 hy' with he' | hy'
   ·cases he';exact r.w.hp.sep k y _ _ b h1 hlm hne hb (hnew b hb').1
   ·exact r.w.hp.sep k y k' y' b h1 (bC.1 hy').1 hne hb hb'
 ·rcases hb with hb | hb
  ·exact r.w.f1 b hb
  ·obtain⟨vs,ty,hc⟩:=hcell b hb;have:=(r.w.hp.own _ _ b hlm (hfoot b hb)).2;exact⟨(Ok.1 hc).1,this.elim (fun h=>.inr (.inl h)) (fun h=>.inr (.inr h))⟩
theorem Le.fzmap{o:Nat}{it:Option iO}{e:TypeId}{s:Nat}{nn:V->Nat}{ff:V->Nat->List T}{eD:V->T}(v:List (K×V))(hv:∀ c,(eD c).view=some (nn c,ff c))
  (hl:look st.hp o=some (.mp it (eM (fun c=>.row e s (nn c) (ff c)) v) none)):Le E st { st with hp:=(o,.mp it (eM (fun c=>.d (eD c)) v) none)::del o st.hp }:=fun _ _ r=>by
 obtain⟨F,g,r⟩:=r;exact r.fzmap v hv hl
end
inductive Kf where
 | s (y:Code)
 | b (id:Nat)
inductive Cfg where
 | c (x:Code) (ks:List Kf)
 | o (all l:List Oper) (ks:List Kf)
 | x (e:Exit) (ks:List Kf)
def kQ(P:Program)(E:Env):List Kf->iI->iI
 | [],Q=>Q
 | .s y::ks,Q=>He P E y (kQ P E ks Q)
 | .b id::ks,Q=>nS id (kQ P E ks Q)
def cwp(P:Program)(E:Env)(g:Cfg)(Q:iI)(st:St):Prop:=
 match g with
 | .c x ks=>pwp P E x (kQ P E ks Q) st
 | .o all l ks=>eV P E all (kQ P E ks Q) l st
 | .x e ks=>∃ t,Le E st t/\kQ P E ks Q e t
def bDJ:Cfg->Option Cfg
 | .c (.seq a b) ks=>some (.c a (.s b::ks))
 | .c (.block id a) ks=>some (.c a (.b id::ks))
 | .c (.region _ ops false) ks=>some (.o ops.toList ops.toList ks)
 | .c .skip ks=>some (.x .normal ks)
 | .c .ret ks=>some (.x .ret ks)
 | .c (.exit id) ks=>some (.x (.exit id) ks)
 | .o _ [] ks=>some (.x .normal ks)
 | .x .normal (.s y::ks)=>some (.c y ks)
 | .x .normal (.b _::ks)=>some (.x .normal ks)
 | .x .ret (_::ks)=>some (.x .ret ks)
 | .x (.exit i) (.s _::ks)=>some (.x (.exit i) ks)
 | .x (.exit i) (.b j::ks)=>match Nat.beq i j with | true=>some (.x .normal ks) | false=>some (.x (.exit i) ks)
 | _=>none
def nrm:Nat->Cfg->Cfg
 | 0,g=>g
 | n+1,g=>match bDJ g with | some g'=>nrm n g' | none=>g
def bBT:Op->Bool
 | .call { callee:=.builtin .append,.. }=>true
 | _=>false
def apA(st:St)(j:dT)(p:PV)(o2:Nat):Option (Prop×(Nat->Bool)):=
 match p with
 | .nil=>match look st.hp o2 with
  | some (.arm _ _ m f none)=>some ((0+m)*j.bytes<=140737488355328,fun i=>aNH j.size (f i))
  | _=>none
 | .own o1=>match look st.hp o1,st.erase o1 with
  | some (.arm _ _ n _ none),some st0=>match look st0.hp o2 with
   | some (.arm _ _ m f none)=>some ((n+m)*j.bytes<=140737488355328,fun i=>aNH j.size (f i))
   | _=>none
  | _,_=>none
 | _=>none
theorem bEP{I:Inf}{st st':St}{d o2:Nat}{j:dT}{C0 q:Prop}{f:Nat->Bool}(h:Gg I st d e j p o2=some (st',C0))(hx:apA st j p o2=some (q,f))(hq:q)(hf:∀ i,f i=true):C0:=by
 unfold Gg at h;unfold apA at hx;split at h
 ·cases p with
  | nil=>
   simp only at h hx;split at h
   ·rename_i e' s' m f' st1 hl he;rw[hl]at hx;cases hx;split at h
    ·cases h; exact⟨hq,fun i _=>hf i⟩
    ·cases h
   ·cases h
  | own o1=>
   simp only at h hx;split at h
   ·rename_i e1 s1 n f1 st0 hl1 he1;rw[hl1,he1]at hx;simp only at hx;split at h
    ·rename_i e' s' m f' st1 hl2 he2 hne;rw[hl2]at hx;cases hx;split at h
     ·cases h; exact⟨hq,fun i _=>hf i⟩
     ·cases h
    ·cases h
   ·cases h
  | _=>simp at h
 ·cases h
def apX(I:Inf)(st:St)(o:Oper):Option (Prop×(Nat->Bool)):=
 match o.op with
 | .call c=>match c.args.toList,c.argTypes.toList with
  | [s,x],[t,_]=>match I.ti t,ev st s,ev st x with
   | some i,some p,some q=>match i.und,wO st q with
    | .sl e,some (m,f2,_)=>match I.ti e with
     | some j=>match p with
      | .nil=>some ((0+m)*j.bytes<=140737488355328,fun i=>mA j.size (f2 i))
      | .own o=>match look st.hp o with
       | some (.arr _ _ n _)=>some ((n+m)*j.bytes<=140737488355328,fun i=>mA j.size (f2 i))
       | _=>none
      | _=>none
     | _=>none
    | .sl e,none=>match I.ti e,q with
     | some j,.own o2=>apA st j p o2
     | _,_=>none
    | _,_=>none
   | _,_,_=>none
  | _,_=>none
 | _=>none
def aKV(I:Inf)(all:List Oper)(o:Oper)(st:St):Option (St×List Prop×List (Nat->Bool)):=
 match Kq I all o st with
 | none=>none
 | some (st',C)=>match bBT o.op,cC all o st with
  | true,some true=>match apX I st o with | some (p,f)=>some (st',[p],[f]) | none=>none
  | _,_=>some (st',C,[])
def run(I:Inf):Nat->Cfg->St->Option (Cfg×St×List Prop×List (Nat->Bool))
 | 0,g,st=>some (nrm 300 g,st,[],[])
 | n+1,g,st=>match nrm 300 g with
  | .o all (op::l) ks=>match aKV I all op st with
   | some (st',C,f)=>match run I n (.o all l ks) st' with
    | some (g',st'',C',f')=>some (g',st'',C++C',f++f')
    | none=>none
   | none=>none
  | .c (.cond c x y) ks=>match ev st c with
   | some (.t (.bool true))=>run I n (.c x ks) st
   | some (.t (.bool false))=>run I n (.c y ks) st
   | _=>none
  | _=>none
section
variable {P:Program} {E:Env} {I:Inf} {Q:iI} {st st':St}
theorem qI{g:Cfg}(h:Le E st st')(hk:cwp P E g Q st'):cwp P E g Q st:=by
 cases g with
 | c x ks=>exact zN h hk
 | o all l ks=>exact gC h hk
 | x e ks=>obtain⟨t,h1,h2⟩:=hk; exact⟨t,h.trans h1,h2⟩
theorem bAM{g g':Cfg}(h:bDJ g=some g')(hk:cwp P E g' Q st):cwp P E g Q st:=by
 unfold bDJ at h;split at h
 ·cases h; exact aYK hk
 ·cases h; exact aHW hk
 ·rename_i id ops ks;cases h;have:ops=ops.toList.toArray:=by simp
  show pwp P E (.region id ops false) _ _;rw[this];exact Xw hk
 ·cases h; obtain⟨t,h1,h2⟩:=hk; exact zN h1 (aPG h2)
 ·cases h; obtain⟨t,h1,h2⟩:=hk; exact zN h1 (aUS h2)
 ·cases h; obtain⟨t,h1,h2⟩:=hk; exact zN h1 (aPL h2)
 ·cases h; obtain⟨t,h1,h2⟩:=hk; exact gC h1 (aJX h2)
 ·cases h; exact⟨st,Le.refl,bCO hk⟩
 ·cases h; obtain⟨t,h1,h2⟩:=hk; exact⟨t,h1,bKO h2⟩
 ·rename_i k ks;cases h; obtain⟨t,h1,h2⟩:=hk;cases k with
  | s y=>exact⟨t,h1,aNE h2⟩
  | b id=>exact⟨t,h1,aYD h2⟩
 ·cases h; obtain⟨t,h1,h2⟩:=hk; exact⟨t,h1,aFQ h2⟩
 ·rename_i i j ks;split at h
  ·rename_i hij;cases h; obtain⟨t,h1,h2⟩:=hk;have:=bX hij;subst this;exact⟨t,h1,aZC h2⟩
  ·rename_i hij;cases h; obtain⟨t,h1,h2⟩:=hk;exact⟨t,h1,aSA (oU hij) h2⟩
 ·cases h
theorem Hh:∀ {n:Nat} {g:Cfg},cwp P E (nrm n g) Q st->cwp P E g Q st
 | 0,_,h=>h
 | n+1,g,h=>by
  simp only[nrm]at h;split at h
  ·rename_i g' hg; exact bAM hg (Hh h)
  ·exact h
theorem bFH{all:List Oper}{o:Oper}{C:List Prop}{p:Prop}{f:Nat->Bool}(ha:bBT o.op=true)(h:Kq I all o st=some (st',C))(hw:cC all o st=some true)(hx:apX I st o=some (p,f))(hp:p)(hf:∀ i,f i=true):All C:=by
 obtain⟨dst,op,ty,pos,aft,gd⟩:=o;cases op with
 | call c=>
  obtain⟨callee,args,argTypes⟩:=c;cases callee with
  | builtin b=>
   cases b with
   | append=>
    unfold Kq at h;simp only[hw]at h;have hs:∃ C0,kK I st { dst:=dst,op:=.call { callee:=.builtin .append,args:=args,argTypes:=argTypes },type:=ty,pos:=pos,after:=aft,guard:=gd }=some (st',C0)/\C=[C0]:=by
     split at h
     ·rename_i st1 C0 hs;cases h;exact⟨C0,hs,rfl⟩
     ·cases h
    obtain⟨C0,hs,rfl⟩:=hs;show C0;unfold kK at hs;unfold apX at hx;cases dst with
    | none=>simp at hs
    | some d=>
     simp only at hs hx;split at hs
     case h_2=>cases hs
     rename_i s x t t' h1 h2;rw[h1,h2]at hx;simp only at hx;split at hs
     case h_2=>cases hs
     rename_i i p0 q0 _ h3 h4 h5;rw[h3,h4,h5]at hx;simp only at hx;split at hs
     case h_3=>cases hs
     case h_2=>
      rename_i e h6 h7;rw[h6,h7]at hx;simp only at hx;split at hs
      ·rename_i j o2 h8;rw[h8]at hx;simp only at hx;exact bEP hs hx hp hf
      ·cases hs
     rename_i e m f2 s2 h6 h7;rw[h6,h7]at hx;simp only at hx;split at hs
     case h_2=>cases hs
     rename_i j h8;rw[h8]at hx;simp only at hx;split at hs
     case h_2=>cases hs
     cases p0 with
     | nil=>
      simp only at hs hx;cases hx;split at hs
      ·cases hs; exact⟨hp,fun i _=>hf i⟩
      ·cases hs
     | own oo=>
      simp only at hs hx;split at hs
      case h_2=>cases hs
      rename_i e' s' n f1 st1 h9 h10;rw[h9]at hx;simp only at hx;cases hx;split at hs
      ·cases hs; exact⟨hp,fun i _=>hf i⟩
      ·cases hs
     | _=>simp at hs
   | _=>cases ha
  | _=>cases ha
 | _=>cases ha
theorem aQB(hG:hJ P E I){all l:List Oper}{o:Oper}{C:List Prop}{fs:List (Nat->Bool)}(h:aKV I all o st=some (st',C,fs))(hC:All C)(hf:∀ f,f∈fs->∀ i,f i=true)
  (hk:eV P E all Q l st'):eV P E all Q (o::l) st:=by
 unfold aKV at h;split at h
 ·cases h
 ·rename_i st1 C1 hs;have:st1=st'/\All C1:=by
   split at h
   ·rename_i hw;rename_i ha;split at h
    ·rename_i p f hx;cases h;exact⟨rfl,bFH ha hs hw hx hC (hf f (by simp))⟩
    ·cases h
   simp_all
  obtain⟨rfl,hC1⟩:=this;intro a w r;exact aSC hG (ops:=all.toArray) (by omega) hC1 r hk
theorem dR(hG:hJ P E I):∀ {n:Nat} {g g':Cfg} {st st':St} {C:List Prop} {fs:List (Nat->Bool)},run I n g st=some (g',st',C,fs)->All C->(∀ f,f∈fs->∀ i,f i=true)->cwp P E g' Q st'->cwp P E g Q st
 | 0,g,g',st,st',C,fs,h,_,_,hk=>by simp only[run,iC,gJ]at h;obtain⟨rfl,rfl,_⟩:=h;exact Hh hk
 | n+1,g,g',st,st',C,fs,h,hC,hf,hk=>by
  simp only[run]at h;split at h
  ·rename_i all op l ks hg;split at h
   ·rename_i st1 C1 f1 hs;split at h
    ·rename_i g2 st2 C2 f2 hr;cases h;rw[All.append]at hC;refine Hh (n:=300) ?_;rw[hg];exact aQB hG hs hC.1 (fun f hm=>hf f (wT _ hm)) (dR hG hr hC.2 (fun f hm=>hf f (mQ _ hm)) hk)
    ·cases h
   ·cases h
  ·rename_i c x y ks hg;refine Hh (n:=300) ?_;rw[hg];split at h
   ·rename_i hc;exact Fq (b:=true) hc (fun _=>dR hG h hC hf hk) (fun e=>by cases e)
   ·rename_i hc;exact Fq (b:=false) hc (fun e=>by cases e) (fun _=>dR hG h hC hf hk)
   ·cases h
  ·cases h
end
structure Conv {α:Type}(f:Nat->Option α)(g:Option α):Prop where
 mono:∀ n y,f n=some y->f (n+1)=some y
 lim:∀ y,g=some y↔∃ n,f n=some y
theorem Conv.of_run{f:Nat->Option α}{g:Option α}(h:Conv f g)(n:Nat){y:α}(hy:f n=some y):g=some y:=(h.lim y).2 ⟨n,hy⟩
theorem Conv.run{f:Nat->Option α}{g:Option α}(h:Conv f g){y:α}(hy:g=some y):∃ n,f n=some y:=(h.lim y).1 hy
open Classical in
noncomputable def Lim {α:Type}(f:Nat->Option α):Option α:=if h:∃ y n,f n=some y then some h.choose else none
theorem Lim.conv{f:Nat->Option α}(hm:∀ n y,f n=some y->f (n+1)=some y):Conv f (Lim f):=by
 have hle:∀ {n m:Nat},n<=m->∀ {y:α},f n=some y->f m=some y:=by
  intro n m h
  induction h with
  | refl=>simp_all
  | step _ ih=>simp_all
 refine⟨hm,fun y=>?_⟩;unfold Lim;split
 all_goals grind
theorem Xp{b:S->Option (S⊕R)}{n:Nat}{s:S}{r:R}(h:nK b n s=some r):nK b (n+1) s=some r:=by
 induction n generalizing s with
 | zero=>simp[nK]at h
 | succ n ih=>rw[nK]at h ⊢;grind
noncomputable def cK (b:S->Option (S⊕R))(s:S):Option R:=Lim fun n=>nK b n s
theorem oL(b:S->Option (S⊕R))(s:S):Conv (fun n=>nK b n s) (cK b s):=Lim.conv fun _ _ h=>Xp h
theorem vF(b:S->Option (S⊕R))(s:S):cK b s=match b s with | none=>none | some (.inl s')=>cK b s' | some (.inr r)=>some r:=by
 have hc:=oL b s;cases hb:b s with
 | none=>
  simp only;cases hw:cK b s with
  | none=>rfl
  | some y=>obtain⟨n,hn⟩:=hc.run hw; cases n <;> simp[nK,hb]at hn
 | some x=>
  cases x with
  | inr r=>exact hc.of_run 1 (by simp[nK,hb])
  | inl s'=>
   simp only;have hc':=oL b s';cases hw:cK b s' with
   | some y=>obtain⟨n,hn⟩:=hc'.run hw; exact hc.of_run (n+1) (by simp[nK,hb,hn])
   | none=>
    cases hv:cK b s with
    | none=>rfl
    | some y=>
     obtain⟨n,hn⟩:=hc.run hv;cases n with
     | zero=>simp[nK]at hn
     | succ n=>simp only[nK,hb]at hn; rw[hc'.of_run n hn]at hw; cases hw
theorem tT{b:S->Option (S⊕R)}{s s':S}(h:b s=some (.inl s')):cK b s=cK b s':=by rw[vF,h]
theorem jB{b:S->Option (S⊕R)}{s:S}{r:R}(h:b s=some (.inr r)):cK b s=some r:=by rw[vF,h]
theorem Sd{b:S->Option (S⊕R)}{n:Nat}{s:S}{r:R}(h:nK b n s=some r):cK b s=some r:=(oL b s).of_run n h
def mV{α:Type}[Inhabited α](c:α->List Cel)(xs:List α):Nat->List Cel:=fun i=>c (xs.getD i default)
def aAK(f:Nat->List Cel)(i:Nat):List (Nat×Cel)->Nat->List Cel
 | []=>f
 | p::l=>aAK (sE f i p.1 p.2) i l
def aQF(c:List Cel):List (Nat×Cel)->List Cel
 | []=>c
 | p::l=>aQF (c.set p.1 p.2) l
theorem aDC(i:Nat):∀ (l:List (Nat×Cel)) (f:Nat->List Cel),aAK f i l i=aQF (f i) l
 | [],_=>rfl
 | p::l,f=>by rw[aAK,aDC i l];rw[vW,aB rfl];rfl
theorem Hj{i k:Nat}(h:k≠i):∀ (l:List (Nat×Cel)) (f:Nat->List Cel),aAK f i l k=f k
 | [],_=>rfl
 | p::l,f=>by rw[aAK,Hj h l];rw[vW,aF h]
theorem aWW[Inhabited α]{c:α->List Cel}{xs:List α}{x:α}{l:List (Nat×Cel)}(h:aQF (c (xs.getD i default)) l=c x):∀ k,k<xs.length->aAK (mV c xs) i l k=mV c (xs.set i x) k:=by
 intro k hk;by_cases hki:k=i
 ·subst hki;rw[aDC];show aQF (c (xs.getD k default)) l=c ((xs.set k x).getD k default);simp_all
 ·rw[Hj hki];show c (xs.getD k default)=c ((xs.set i x).getD k default);rw[eU,eU,List.getElem?_set_ne (fun h=>hki h.symm)]
theorem aUL[Inhabited α](c:α->List Cel)(xs ys:List α):∀ i,i<xs.length+ys.length->wC xs.length (mV c xs) (mV c ys) i=mV c (xs++ys) i:=by intro i hi;unfold wC mV;grind
section
variable {P:Program} {E:Env} {I:Inf} {F:Nat->Prop} {g:Nat->Value} {st st2:St} {a:Act} {w:World}
theorem aPB.congr{n:Nat}{f f':Nat->List Cel}{ov:Option (Nat×Nat×PV)}(h:aPB F g w u e s n f ov)(hn:n=m)(hf:∀ i,i<n->f i=f' i):aPB F g w u e s m f' ov:=by
 subst hn;rcases h with h | ⟨b,cap,cur,h1,h2,h3,h4,h5,hC⟩
 ·exact .inl h
 ·refine .inr ⟨b,cap,cur,h1,h2,h3,h4,h5,fun i hi=>by rw[<-hf i hi]; exact hC.len i hi,fun i j x hi hx=>by rw[<-hf i hi]at hx; exact hC.cell i j x hi hx,fun i j i' j' x x' v v' c hi hi' hx hx'=>by rw[<-hf i hi]at hx; rw[<-hf i' hi']at hx';exact hC.sep i j i' j' x x' v v' c hi hi' hx hx',fun i j x v hi hx=>by rw[<-hf i hi]at hx; exact hC.own i j x v hi hx,fun i j p ho=>?_⟩;obtain⟨q1,q2,q3⟩:=hC.ov i j p ho;simp_all
theorem Le.armN{n:Nat}{f f':Nat->List Cel}{ov:Option (Nat×Nat×PV)}(hl:look st.hp o=some (.arm e s n f ov))(hn:n=m)(hf:∀ i,i<n->f i=f' i):Le E st { st with hp:=(o,.arm e s m f' ov)::del o st.hp }:=by
 refine Le.objF _ hl (fun F g w h=>aPB.congr h hn hf) (fun g w c h=>?_);subst hn;cases h with
 | self h=>exact .self h
 | arm h1 h2 h3 h4 h5 h6 h7=>exact .arm h1 h2 h3 (by simp_all) h5 h6 h7
theorem Rel.armFocus(hN:E.N=I.N){n j e' s':Nat}{f:Nat->List Cel}{f':Nat->List T}(hl:look st.hp o=some (.arm e s n f none))(hi:i<n)(hx:(f i)[j]? = some (.row e' s' m f'))
  (hs:qU I.N o q (.arm e s n (sE f i j .any) (some (i,j,.own q))) (.arr e' s' m f') st=some st2)(r:Rel E st a w):Rel E st2 a w:=by
 obtain⟨F,g,r⟩:=r;have hqo:q≠o:=by
  unfold qU at hs;split at hs
  ·rename_i h1 h2 h3; exact oU h2
  ·cases hs
 rcases r.w.hp.obj _ _ (aU hl) with⟨_,h2,_⟩ | ⟨b,cap,cur,h1,h2,h3,h4,h5,hC⟩
 ·omega
 obtain⟨v,hv,hR⟩:=hC.cell i j _ hi hx;have hR:wA F w v e' s' m f':=hR;have hj:j<(f i).length:=(Bq.1 hx).1;have old:∀ (k l:Nat) x,(sE f i j .any k)[l]? = some x->x.owned=true->¬ (k=i/\l=j)/\(f k)[l]? = some x:=fun k l x hx' ho=>by
  rcases gT hx' with⟨_,_,rfl⟩ | h
  ·cases ho
  ·exact h
 refine(r.focus hN v hl hs (fun g' hg hgq=>?_) (fun g' hg hgq=>?_) (fun g' b' hg hgq hf=>?_) (fun g' b' hg hgq hf=>?_) (fun g' b' hg hgq hf hf'=>?_)).2.elim fun g' h=>⟨F,g',h.2.2⟩
 ·refine .inr ⟨b,cap,cur,by grind,h2,h3,h4,h5,fun k hk=>by rw[Ha]; exact hC.len k hk,fun k l x hk hx'=>?_,fun k l k' l' x x' u u' c hk hk' hx1 hx2 ho ho'=>?_,fun k l x u hk hx' ho=>?_,fun k l p e0=>?_⟩
  ·rcases gT hx' with⟨rfl,rfl,rfl⟩ | ⟨_,hx'⟩
   ·exact⟨v,hv,True.intro⟩
   ·exact hC.cell k l x hk hx'
  ·exact hC.sep k l k' l' x x' u u' c hk hk' (old k l x hx1 ho).2 (old k' l' x' hx2 ho').2 ho ho'
  ·exact hC.own k l x u hk (old k l x hx' ho).2 ho
  ·cases e0;refine⟨hi,Lw hj,fun u hu=>?_⟩;rw[hv]at hu; cases hu;rcases hR with⟨e1,_⟩ | ⟨b2,cap2,_,e1,_⟩
   ·rw[e1]at hgq ⊢; exact .own hgq
   ·rw[e1]at hgq ⊢; exact .own hgq
 ·show wA F w (g' q) e' s' m f';simp_all
 ·cases hf with
  | self h=>rw[hg o (fun h=>hqo h.symm)]at h; exact .self h
  | arm q1 q2 q3 q4 q5 q6 q7=>rw[hg o (fun h=>hqo h.symm)]at q1; exact .arm q1 q2 q3 (old _ _ _ q4 q5).2 q5 q6 q7
 ·have:=hf.toBlk rfl;rw[hgq]at this;exact .arm h1 h2 hi hx rfl hv this
 ·have hb':=hf'.toBlk rfl;rw[hgq]at hb';cases hf with
  | self h=>rw[hg o (fun h=>hqo h.symm),h1]at h;simp[blk]at h; subst h;exact hC.own i j _ v hi hx rfl hv hb'
  | arm q1 q2 q3 q4 q5 q6 q7=>rw[hg o (fun h=>hqo h.symm),h1]at q1;injection q1 with q1; injection q1 with q1; injection q1 with q1;subst q1;rw[h2]at q2; injection q2 with q2; injection q2 with q2;subst q2;obtain⟨p1,p2⟩:=old _ _ _ q4 q5;exact p1 (hC.sep _ _ i j _ _ _ v b' q3 hi p2 hx q5 rfl q6 hv q7 hb')
theorem Le.armMerge{n j e' s':Nat}{f:Nat->List Cel}{f':Nat->List T}(hl:look st.hp o=some (.arm e s n f (some (i,j,.own q))))(hq:look st.hp q=some (.arr e' s' m f'))
  (hs:Kb o q (.arm e s n (sE f i j (.row e' s' m f')) none) st=some st2):Le E st st2:=by
 rintro a w ⟨F,g,r⟩;have hqo:q≠o:=by grind
 have hlm:=aU hl;have hqm:=aU hq;have harr:wA F w (g q) e' s' m f':=r.w.hp.obj _ _ hqm;rcases r.w.hp.obj _ _ hlm with⟨_,_,h⟩ | ⟨b,cap,cur,h1,h2,h3,h4,h5,hC⟩
 ·cases h
 obtain⟨hi,hx,hov⟩:=hC.ov _ _ _ rfl;obtain⟨v,hv,_⟩:=hC.cell i j _ hi hx;have hvq:v=g q:=by have:=hov v hv;cases this with | own h=>exact h.symm
 have selfq:∀ c,blk v=some c->bD g w q (.arr e' s' m f') c:=fun c hc=>.self (by simp_all);have selfo:bD g w o (.arm e s n f (some (i,j,.own q))) b:=.self (by rw[h1]; rfl);refine⟨F,g,r.merge hl hq hs ?_ fun b' hf=>?_⟩
 ·refine .inr ⟨b,cap,cur,h1,h2,h3,h4,h5,fun k hk=>by rw[Ha]; exact hC.len k hk,fun k l x hk hx'=>?_,fun k l k' l' x x' u u' c hk hk' hx1 hx2 ho ho' hu hu' hc hc'=>?_,fun k l x u hk hx' ho hu hc=>?_,fun k l p e0=>by cases e0⟩
  ·rcases gT hx' with⟨rfl,rfl,rfl⟩ | ⟨_,hx'⟩
   ·exact⟨v,hv,by rw[hvq]; exact harr⟩
   ·exact hC.cell k l x hk hx'
  ·rcases gT hx1 with⟨rfl,rfl,rfl⟩ | ⟨_,_⟩
   ·rw[hv]at hu; cases hu;rcases gT hx2 with⟨rfl,rfl,rfl⟩ | ⟨_,hx2⟩
    ·omega
    ·exact(r.w.hp.sep o _ q _ c hlm hqm (fun h=>hqo h.symm) (.arm h1 h2 hk' hx2 ho' hu' hc') (selfq c hc)).elim
   ·rename_i hx3;rcases gT hx2 with⟨rfl,rfl,rfl⟩ | ⟨_,hx2⟩
    ·rw[hv]at hu'; cases hu';exact(r.w.hp.sep o _ q _ c hlm hqm (fun h=>hqo h.symm) (.arm h1 h2 hk hx3 ho hu hc) (selfq c hc')).elim
    ·exact hC.sep k l k' l' x x' u u' c hk hk' hx3 hx2 ho ho' hu hu' hc hc'
  ·rcases gT hx' with⟨rfl,rfl,rfl⟩ | ⟨_,hx'⟩
   ·rw[hv]at hu; cases hu;exact r.w.hp.sep o _ q _ b hlm hqm (fun h=>hqo h.symm) selfo (selfq b hc)
   ·exact hC.own k l x u hk hx' ho hu hc
 ·cases hf with
  | self h=>exact .inl (.self h)
  | arm q1 q2 q3 q4 q5 q6 q7=>
   rcases gT q4 with⟨rfl,rfl,rfl⟩ | ⟨_,q4⟩
   ·simp_all
   ·exact .inl (.arm q1 q2 q3 q4 q5 q6 q7)
def aSB:Cel->Option T
 | .d x=>some x
 | .row _ _ n f=>some (.sl n f)
 | .nl=>some (.sl 0 fun _=>[])
 | .any=>none
theorem aXN{F':Nat->Prop}{x:Cel}{y:T}(h:Hu F w x v)(hx:aSB x=some y)(hF:∀ b,F b->F' b)(hb:∀ b,x.owned=true->blk v=some b->F' b):Rd F' w y v:=by
 cases x with
 | d z=>cases hx; exact Rd.mono (fun b hb=>⟨hF b hb,rfl⟩) h
 | row e s n f=>cases hx; exact Hz (g:=fun _=>v) (o:=0) (show dN F (fun _=>v) w 0 (.arr e s n f) from h) hF (fun b hb'=>hb b rfl hb') rfl
 | nl=>cases hx; rw[show v = .slice none 0 0 from h]; exact .nil rfl
 | any=>cases hx
theorem bFO{n:Nat}{f:Nat->List Cel}{gf:Nat->List T}(h:dN F g w o (.arm e s n f none))(hc:∀ i,i<n->(f i).map aSB=(gf i).map some){x:T}(hx:x.view=some (n,gf)):
  Rd (fun b=>F b\/bD g w o (.arm e s n f none) b) w x (g o):=by
 rcases h with⟨h1,h2,_⟩ | ⟨b,cap,cur,h1,h2,h3,h4,h5,hC⟩
 ·rw[h1]; subst h2; exact .nil hx
 ·have hlen:∀ i,i<n->(gf i).length=s:=fun i hi=>by have:=congrArg List.length (hc i hi);rw[mS,mS]at this;rw[<-this]; exact hC.len i hi
  have hcell:∀ (i j:Nat) y,i<n->(gf i)[j]? = some y->∃ c,(f i)[j]? = some c/\aSB c=some y:=fun i j y hi hy=>by have:=congrArg (·[j]?) (hc i hi);grind
  have self:bD g w o (.arm e s n f none) b:=.self (by rw[h1]; rfl);have h1':=h1;rw[h1];refine .sl ⟨b,0,none⟩ cap s (fun i j=>(cur[i*s+j]?).getD undef) hx h3 (fun _=>.inr self) hlen (fun i j hi hj=>?_) (fun i j y hi hy=>?_)
  ·have hj':j<(f i).length:=by rw[hC.len i hi]; exact hj
   obtain⟨v,hv,_⟩:=hC.cell i j _ hi (jK hj');rw[Addr.add_none];simp[World.cell?,h2,hv]
  ·obtain⟨c,hc1,hc2⟩:=hcell i j y hi hy;obtain⟨v,hv,hR⟩:=hC.cell i j c hi hc1;simp only[hv,zO];exact aXN hR hc2 (fun b hb=>.inl hb) fun b' ho hb'=>.inr (.arm h1' h2 hi hc1 ho hv hb')
theorem Rel.armFreeze{n:Nat}{f:Nat->List Cel}{gf:Nat->List T}{x:T}{st':St}(hl:look st.hp o=some (.arm e s n f none))(hx:x.view=some (n,gf))(hc:∀ i,i<n->(f i).map aSB=(gf i).map some)
  (h:rS o x st=some st')(r:Rel E st a w):Rel E st' a w:=by
 obtain⟨F,g,r⟩:=r;unfold rS at h;have hlm:=aU hl;have hob:=r.w.hp.obj _ _ hlm;have hq:VR (fun b=>F b\/bD g w o (.arm e s n f none) b) g w (.t x) (g o):=.t (bFO hob hc hx);have hF:∀ b,F b->(F b\/bD g w o (.arm e s n f none) b):=fun b hb=>.inl hb;have hfr:=St.erase_fr h;have hhp:=St.erase_hp h;refine⟨fun b=>F b\/bD g w o (.arm e s n f none) b,g,r.nt,r.df,fun t x' hx'=>?_,⟨⟨fun k y hy=>?_,fun k y b hy hb=>?_,fun k y k' y' b hy hy' hne hb hb'=>?_⟩,fun b hb=>.inl (r.w.f0 b hb),fun b hb=>?_,r.w.ext,r.w.names,r.w.b0⟩⟩
 ·obtain⟨h1,_⟩:=hfr t x' hx';simp only[dZ,gJ]at h1;obtain⟨⟨t',y⟩,hy,rfl,rfl⟩:=h1;exact PV.fz_ok hF hq (r.fr t' y hy)
 ·obtain⟨x,h1,_,_,h4,_⟩:=hhp k y hy;simp only[dZ,gJ]at h1;obtain⟨⟨k',z⟩,hz,rfl,rfl⟩:=h1;exact h4 _ _ _ (Vr hF hq (r.w.hp.obj k' z (bC.1 hz).1))
 ·obtain⟨x,h1,h2,_,_,h5⟩:=hhp k y hy;simp only[dZ,gJ]at h1;obtain⟨⟨k',z⟩,hz,rfl,rfl⟩:=h1;obtain⟨hz1,hz2⟩:=bC.1 hz;have hb:=lE (h5 _ _ _ hb);refine⟨?_,(r.w.hp.own k' z b hz1 hb).2⟩;rintro (h | h)
  ·exact(r.w.hp.own k' z b hz1 hb).1 h
  ·exact r.w.hp.sep k' z o _ b hz1 hlm hz2 hb h
 ·obtain⟨x,h1,_,_,_,h5⟩:=hhp k y hy;obtain⟨x',h1',_,_,_,h5'⟩:=hhp k' y' hy';simp only[dZ,gJ]at h1 h1';obtain⟨⟨k2,z⟩,hz,rfl,rfl⟩:=h1;obtain⟨⟨k2',z'⟩,hz',rfl,rfl⟩:=h1';exact r.w.hp.sep k2 z k2' z' b (bC.1 hz).1 (bC.1 hz').1 hne (lE (h5 _ _ _ hb)) (lE (h5' _ _ _ hb'))
 ·rcases hb with hb | hb
  ·exact r.w.f1 b hb
  ·have:=(r.w.hp.own o _ b hlm hb).2;exact⟨hb.block hob,this.elim (fun h=>.inr (.inl h)) (fun h=>.inr (.inr h))⟩
def Yw(N:List Nat)(t o e s:Nat)(f:Nat->List Cel)(st:St):Option St:=
 match look st.fr t,pV o N,st.erase o with
 | some .nil,true,some st1=>some { fr:=(t,.own o)::del t st1.fr,hp:=(o,.arm e s 0 f none)::st1.hp }
 | _,_,_=>none
theorem Rel.thawA(hG:hJ P E I){f:Nat->List Cel}{st':St}(h:Yw I.N t o e s f st=some st')(r:Rel E st a w):Rel E st' a w:=by
 obtain⟨F,g,r⟩:=r;unfold Yw at h;split at h
 ·rename_i st1 hl hn he;cases h;have hnil:a.tmps.getD t undef = .slice none 0 0:=by have:=r.fr _ _ (aU hl);generalize a.tmps.getD t undef=u at this;cases this; rfl
  have hft:∀ b,bD (upd g o (.slice none 0 0)) w o (.arm e s 0 f none) b->False:=fun b hb=>by
   cases hb with
   | self h=>rw[bM]at h; simp[blk]at h
   | arm h1=>omega
  refine⟨F,upd g o (.slice none 0 0),r.nt,r.df,fun t' x hx=>?_,⟨HpR.change r.w.hp he (fun k hk=>bR g _ hk) (fun b hb=>⟨hb,rfl⟩) (fun _ h=>h) (fun _ _ _ _ _ _=>rfl) (.inl ⟨bM ..,rfl,rfl⟩)
   (fun b hb=>(hft b hb).elim) (fun k y b _ _ _ hb=>hft b hb),r.w.f0,r.w.f1,r.w.ext,fun k hk=>?_,r.w.b0⟩⟩
  ·rcases bH.1 hx with e | hx
   ·cases e; rw[hnil]; exact .own (bM ..)
   ·obtain⟨h1,h2⟩:=St.erase_fr he t' x (bC.1 hx).1;exact(r.fr t' x h1).mono (fun b hb=>⟨hb,rfl⟩) (fun k hk=>bR g _ (h2 k hk))
  ·rw[bR g _ (fun e:k=o=>fA hn (hG.N▸e▸hk))];exact r.w.names k hk
 ·cases h
end
inductive VT:Type 1 where
 | ok
 | eq {A:Type} (x:A)
 | and (x y:VT)
 | all {A:Type} (f:A->VT)
def pk(b:Bool)(x y:A):A:=match b with | true=>x | false=>y
def vt(b:Bool)(x y:A):VT:=.eq (pk b x y)
def bad(b:Bool):VT:=.eq b
theorem bG{x y:A}(h:vt true x y=vt false x y):x=y:=by injection h
theorem aN(h:bad true=bad false):False:=by injection h with _ h; cases h
theorem aP{a b c d:VT}(h:VT.and a b=VT.and c d):a=c/\b=d:=by simp_all
theorem mK{f g:A->VT}(h:VT.all f=VT.all g)(s:A):f s=g s:=by simp_all
class Cur (S:Type) where
 all:(S->VT)->VT
 ok:∀ f g,all f=all g->∀ s,f s=g s
instance (S:Type):Cur S:=⟨fun f=>.all f,fun _ _ h=>mK h⟩
instance (A B:Type)[Cur B]:Cur (A×B):=⟨fun f=>.all fun a=>Cur.all fun b=>f (a,b),fun _ _ h s=>Cur.ok _ _ (mK h s.1) s.2⟩
instance (A B:Type)[Cur A][Cur B]:Cur (A⊕B):=⟨fun f=>.and (Cur.all fun a=>f (.inl a)) (Cur.all fun b=>f (.inr b)),fun _ _ h s=>by
 obtain⟨h1,h2⟩:=aP h;cases s with
 | inl a=>exact Cur.ok _ _ h1 a
 | inr b=>exact Cur.ok _ _ h2 b⟩
instance:Cur Unit:=⟨fun f=>f (),fun _ _ h _=>h⟩
def part[Inhabited α](xs:List α)(lo n:Nat):List α:=(List.range n).map fun j=>xs.getD (lo+j) default
inductive Sg (α:Type) where
 | al (xs:List α)
 | pt (xs:List α) (lo n:Nat)
def Sg.n{α:Type}:Sg α->Nat | .al xs=>xs.length | .pt _ _ n=>n
def Sg.f[Inhabited α](c:α->List T):Sg α->Nat->List T | .al xs=>eF c xs | .pt xs lo _=>fun k=>eF c xs (lo+k)
def Sg.l[Inhabited α]:Sg α->List α | .al xs=>xs | .pt xs lo n=>part xs lo n
theorem Sg.ok[Inhabited α](c:α->List T)(a:Sg α):a.n=a.l.length/\∀ i,i<a.n->a.f c i=eF c a.l i:=by
 cases a with
 | al xs=>exact⟨rfl,fun _ _=>rfl⟩
 | pt xs lo n=>refine⟨by simp[Sg.n,Sg.l,part],fun i hi=>?_⟩;simp only[Sg.n]at hi;simp[Sg.f,Sg.l,part,eF,eU,hi]
inductive Cv:Type 1 where
 | fr (o:Nat) (x:T)
 | rn (o o':Nat)
 | th (t o e s:Nat) (f:Nat->List T)
 | sl (t:Nat) (x:T)
 | bx (o:Nat) (l:List T)
 | ap {α:Type} [Inhabited α] (o:Nat) (c:α->List T) (xs ys:List α)
 | apl {α:Type} [Inhabited α] (o:Nat) (c:α->List T) (xs ys:List α)
 | ni (o:Nat)
 | nc (o:Nat)
 | fz {K V:Type} [MKey K] (o e s:Nat) (nn:V->Nat) (ff:V->Nat->List T) (eD:V->T) (v:List (K×V))
 | gp {K V:Type} [MKey K] (o:Nat) (enc:V->Mem) (v:List (K×V)) (k:K)
 | fw {K V:Type} [MKey K] (o q e s:Nat) (nn:V->Nat) (ff:V->Nat->List T) (v:List (K×V)) (k:K) (c:V)
 | fd {K V:Type} [MKey K] (o:Nat) (eD:V->T) (v:List (K×V)) (k:K) (c:V)
 | mg (o q:Nat)
 | la {α:Type} [Inhabited α] (o:Nat) (c:α->List Cel) (xs:List α)
 | apr {α:Type} [Inhabited α] (o:Nat) (c:α->List Cel) (xs ys:List α)
 | upr {α:Type} [Inhabited α] (o:Nat) (c:α->List Cel) (xs:List α) (i:Nat) (x:α) (l:List (Nat×Cel))
 | fza {α:Type} [Inhabited α] (o:Nat) (c:α->List Cel) (cW:α->List T) (xs:List α)
 | tha (t o e s:Nat) (f:Nat->List Cel)
def aAO(x:T):Option Nat:=match x.view with | some (n,_)=>some n | none=>none
def slE(b:Bool)(n:Nat)(f:Nat->List T)(m:Nat)(g:Nat->List T):VT:=.and (vt b m n) (vt b ((List.range n).map f) ((List.range n).map g))
def gN(b:Bool):List PV->List T->VT
 | [],[]=>.ok
 | .nil::l,x::r=>.and (vt b (aAO x) (some 0)) (gN b l r)
 | .t (.sl n f)::l,.sl m g::r=>.and (slE b n f m g) (gN b l r)
 | .t (.sl n f)::l,.lz x::r=>.and (slE b n f x.len x.cells) (gN b l r)
 | p::l,x::r=>.and (vt b p (.t x)) (gN b l r)
 | _,_=>bad b
def slV(b:Bool)(p:PV)(x:T):VT:=
 match p,x with
 | .nil,x=>vt b (aAO x) (some 0)
 | .agg l,.agg r=>gN b l r
 | .t (.sl n f),.sl m g=>slE b n f m g
 | .t (.sl n f),.lz x=>slE b n f x.len x.cells
 | .fn (.func k) 0 [],.fv f=>vt b k f
 | p,x=>vt b p (.t x)
def cvS(I:Inf)(c:Cv)(st:St):Option St:=
 match c with
 | .fr o x=>rS o x st
 | .rn o o'=>grn I.N o o' st
 | .th t o e s f=>aBG I.N t o e s f st
 | .sl t x=>some { st with fr:=(t,.t x)::del t st.fr }
 | .bx o l=>some { st with hp:=(o,.box (l.map .t))::del o st.hp }
 | @Cv.ap _ _ o c xs ys=>match look st.hp o with | some (.arr e s _ _)=>some { st with hp:=(o,.arr e s (xs++ys).length (eF c (xs++ys)))::del o st.hp } | _=>none
 | @Cv.apl _ _ o c xs ys=>match look st.hp o with | some (.arr e s _ _)=>some { st with hp:=(o,.arr e s (xs++ys).length (eF c (xs++ys)))::del o st.hp } | _=>none
 | @Cv.fz _ _ _ o _ _ _ _ eD v=>match look st.hp o with | some (.mp it _ _)=>some { st with hp:=(o,.mp it (eM (fun c=>.d (eD c)) v) none)::del o st.hp } | _=>none
 | .ni o=>match look st.hp o with | some (.mp _ m h)=>some { st with hp:=(o,.mp none m h)::del o st.hp } | _=>none
 | .nc o=>match look st.hp o with | some (.mp (some i) m h)=>some { st with hp:=(o,.mp (some ⟨i.o,i.rem,none⟩) m h)::del o st.hp } | _=>none
 | @Cv.gp _ _ _ o enc v k=>match look st.hp o with | some (.mp it _ _)=>some { st with hp:=(o,.mp it (eM enc (mdel v k)) (some (MKey.kT k,none)))::del o st.hp } | _=>none
 | @Cv.fw _ _ _ o q e s nn ff v k c=>match look st.hp o with | some (.mp it _ _)=>Kb o q (.mp it (eM (fun c=>.row e s (nn c) (ff c)) (mput v k c)) none) st | _=>none
 | @Cv.fd _ _ _ o eD v k c=>match look st.hp o with | some (.mp it _ _)=>some { st with hp:=(o,.mp it (eM (fun c=>.d (eD c)) (mput v k c)) none)::del o st.hp } | _=>none
 | .mg o q=>match look st.hp o,look st.hp q with
  | some (.arm e s n f (some (i,j,.own q'))),some (.arr e' s' m f')=>match Nat.beq q' q with | true=>Kb o q (.arm e s n (sE f i j (.row e' s' m f')) none) st | false=>none
  | _,_=>none
 | @Cv.la _ _ o c xs=>match look st.hp o with | some (.arm e s _ _ ov)=>some { st with hp:=(o,.arm e s xs.length (mV c xs) ov)::del o st.hp } | _=>none
 | @Cv.apr _ _ o c xs ys=>match look st.hp o with | some (.arm e s _ _ ov)=>some { st with hp:=(o,.arm e s (xs++ys).length (mV c (xs++ys)) ov)::del o st.hp } | _=>none
 | @Cv.upr _ _ o c xs i x _=>match look st.hp o with | some (.arm e s _ _ ov)=>some { st with hp:=(o,.arm e s (xs.set i x).length (mV c (xs.set i x)) ov)::del o st.hp } | _=>none
 | @Cv.fza _ _ o _ cW xs=>rS o (eL cW xs) st
 | .tha t o e s f=>Yw I.N t o e s f st
def cvV(b:Bool)(c:Cv)(st:St):VT:=
 match c with
 | @Cv.la _ _ o c xs=>match look st.hp o with | some (.arm _ _ n f _)=>.and (vt b n xs.length) (vt b ((List.range n).map f) ((List.range n).map (mV c xs))) | _=>bad b
 | @Cv.apr _ _ o c xs ys=>match look st.hp o with | some (.arm _ _ n f _)=>vt b (n,f) (xs.length+ys.length,wC xs.length (mV c xs) (mV c ys)) | _=>bad b
 | @Cv.upr _ _ o c xs i x l=>match look st.hp o with | some (.arm _ _ n f _)=>.and (vt b (n,f) (xs.length,aAK (mV c xs) i l)) (vt b (aQF (c (xs.getD i default)) l) (c x)) | _=>bad b
 | @Cv.fza _ _ o c cW xs=>match look st.hp o with | some (.arm _ _ n f none)=>.and (vt b (n,f) (xs.length,mV c xs)) (.all fun y=>vt b ((c y).map aSB) ((cW y).map some)) | _=>bad b
 | .fr o x=>match look st.hp o with | some (.arr _ _ n f)=>vt b (some (n,f)) x.view | _=>bad b
 | .sl t x=>match look st.fr t with | some p=>slV b p x | none=>bad b
 | .bx o l=>match look st.hp o with | some (.box r)=>gN b r l | _=>bad b
 | @Cv.ap _ _ o c xs ys=>match look st.hp o with | some (.arr _ _ n f)=>vt b (n,f) (xs.length+ys.length,sP xs.length (eF c xs) (eF c ys)) | _=>bad b
 | @Cv.apl _ _ o c xs ys=>match look st.hp o with
  | some (.arr _ s n f)=>.and (vt b (n,f) (xs.length+ys.length,sP xs.length (eF c xs) (jJ (ys.flatMap c) s))) (vt b ((List.range ys.length).map (jJ (ys.flatMap c) s)) ((List.range ys.length).map (eF c ys)))
  | _=>bad b
 | @Cv.gp _ _ _ o enc v _=>match look st.hp o with | some (.mp _ m h)=>vt b (m,h) (eM enc v,none) | _=>bad b
 | @Cv.fz _ _ _ o e s nn ff eD v=>match look st.hp o with | some (.mp _ m h)=>.and (vt b (m,h) (eM (fun c=>.row e s (nn c) (ff c)) v,none)) (.all fun c=>vt b (eD c).view (some (nn c,ff c))) | _=>bad b
 | @Cv.fw _ _ _ o q e s nn ff v k c=>match look st.hp o,look st.hp q with
  | some (.mp _ m h),some y=>.and (vt b (m,h) (eM (fun c=>.row e s (nn c) (ff c)) (mdel v k),some (MKey.kT k,some (.own q)))) (vt b y (.arr e s (nn c) (ff c)))
  | _,_=>bad b
 | @Cv.fd _ _ _ o eD v k c=>match look st.hp o with | some (.mp _ m (some (kk,some p)))=>.and (vt b (m,kk) (eM (fun c=>.d (eD c)) (mdel v k),MKey.kT k)) (slV b p (eD c)) | _=>bad b
 | _=>.ok
def cvL(I:Inf):List Cv->St->Option St
 | [],st=>some st
 | c::l,st=>match cvS I c st with | some st'=>cvL I l st' | none=>none
def aSG(I:Inf)(b:Bool):List Cv->St->VT
 | [],_=>.ok
 | c::l,st=>.and (cvV b c st) (match cvS I c st with | some st'=>aSG I b l st' | none=>bad b)
section
variable {P:Program} {E:Env} {I:Inf} {st st':St}
theorem jG{f g:Nat->α}{n:Nat}(h:(List.range n).map f=(List.range n).map g):∀ i,i<n->f i=g i:=by simp_all
theorem aRM{n:Nat}{f g:Nat->List T}(h:slE true n f m g=slE false n f m g):∀ F q w v,VR F q w (.t (.sl n f)) v->VR F q w (.t (.sl m g)) v:=by unfold slE at h;obtain⟨h1,h2⟩:=aP h;exact Cw rfl (bG h1) (jG (bG h2))
theorem gD:∀ {l:List PV} {r:List T},gN true l r=gN false l r->mJ l r
 | [],[],_=>.nil
 | [],_::_,h=>by simp only[gN]at h; exact(aN h).elim
 | p::l,[],h=>by cases p <;> (simp only[gN]at h; exact(aN h).elim)
 | p::l,x::r,h=>by
  cases p with
  | nil=>
   simp only[gN]at h;obtain⟨h1,h2⟩:=aP h;have h1:=bG h1;unfold aAO at h1;split at h1
   ·rename_i n f hv;cases h1;exact .empty hv (gD h2)
   ·cases h1
  | t y=>
   cases y with
   | sl n f=>
    cases x with
    | sl m g=>simp only[gN]at h;obtain⟨h1,h2⟩:=aP h;exact .imp (aRM h1) (gD h2)
    | lz z=>simp only[gN]at h;obtain⟨h1,h2⟩:=aP h;obtain⟨h3,h4⟩:=aP h1;exact .imp (Cw (x:=.lz z) rfl (bG h3) (jG (bG h4))) (gD h2)
    | _=>simp only[gN]at h;obtain⟨h1,h2⟩:=aP h;have h1:=bG h1;cases h1
   | _=>simp only[gN]at h;obtain⟨h1,h2⟩:=aP h;have h1:=bG h1;cases h1;exact .same (gD h2)
  | _=>simp only[gN]at h;obtain⟨h1,h2⟩:=aP h;have h1:=bG h1;simp_all
theorem bKY{F:Nat->Prop}{g:Nat->Value}{w:World}{k:Nat}(h:VR F g w (.fn (.func k) 0 []) v):VR F g w (.t (.fv k)) v:=by
 cases h with
 | @fn _ _ _ us vs hn hs _=>have h1:us=#[]:=Jj hn;have h2:vs=#[]:=Jj (by simp_all);subst h1 h2;exact .t (.fv k)
theorem aQO{x:T}(h:slV true p x=slV false p x):∀ F g w v,VR F g w p v->VR F g w (.t x) v:=by
 unfold slV at h;split at h
 ·have h:=bG h;unfold aAO at h;split at h
  ·rename_i n f hv;cases h;exact aPU hv
  ·cases h
 ·exact Yr (gD h)
 ·exact aRM h
 ·rename_i z;obtain⟨h3,h4⟩:=aP h;exact Cw (x:=.lz z) rfl (bG h3) (jG (bG h4))
 ·have h:=bG h;subst h;exact fun _ _ _ _ hv=>bKY hv
 ·have h:=bG h;simp_all
theorem bKM(hG:hJ P E I){c:Cv}(h:cvV true c st=cvV false c st)(hs:cvS I c st=some st'):Le E st st':=by
 cases c with
 | fr o x=>
  simp only[cvV]at h;split at h
  ·rename_i e s n f hl;exact Le.freeze x hl (bG h).symm hs
  ·exact(aN h).elim
 | rn o o'=>exact Le.rn hG hs
 | th t o e s f=>exact Le.thaw hG hs
 | sl t x=>
  simp only[cvV]at h;split at h
  ·rename_i p hp;cases hs;exact Le.slot (.t x) hp (aQO h)
  ·exact(aN h).elim
 | bx o l=>
  simp only[cvV]at h;split at h
  ·rename_i r hp;cases hs;exact Le.obj (.box (l.map .t)) hp (fun _ _ _=>bDN (gD h)) rfl
  ·exact(aN h).elim
 | ap o c xs ys=>
  simp only[cvV]at h;split at h
  ·rename_i e s n f hp;simp only[cvS,hp]at hs;cases hs;have h1:=bG h;cases h1;exact Le.obj _ hp (fun _ _ _=>dN.row (by simp) (aDD c xs ys)) rfl
  ·exact(aN h).elim
 | apl o c xs ys=>
  simp only[cvV]at h;split at h
  ·rename_i e s n f hp;simp only[cvS,hp]at hs;cases hs;obtain⟨h1,h2⟩:=aP h;have h1:=bG h1;have h2:=jG (bG h2);cases h1;refine Le.obj _ hp (fun _ _ _=>dN.row (by simp) fun i hi=>?_) rfl;rw[<-aDD c xs ys i hi];unfold sP;grind
  ·exact(aN h).elim
 | fz o e s nn ff eD v=>
  simp only[cvV]at h;split at h
  ·rename_i it m ho hl;simp only[cvS,hl]at hs;cases hs;obtain⟨h1,h2⟩:=aP h;have h1:=bG h1;cases h1;exact Le.fzmap v (fun c=>bG (mK h2 c)) hl
  ·exact(aN h).elim
 | ni o=>
  simp only[cvS]at hs;split at hs
  ·rename_i it m ho hl;cases hs;refine Le.objF _ hl (fun F g w h=>?_) (fun g w c h=>?_)
   ·obtain⟨b,es,clock,e1,e2,l1,r1,hM⟩:=h;exact⟨b,es,clock,e1,e2,l1,r1,{ hM with it:=trivial }⟩
   ·cases h with
    | self h=>exact .self h
    | mem h1 h2 h3 h4 h5 h6 h7=>exact .mem h1 h2 h3 h4 h5 h6 h7
  ·cases hs
 | nc o=>
  simp only[cvS]at hs;split at hs
  ·rename_i i m ho hl;cases hs;refine Le.objF _ hl (fun F g w h=>?_) (fun g w c h=>?_)
   ·obtain⟨b,es,clock,e1,e2,l1,r1,hM⟩:=h;obtain⟨r,since,seen,c0,g1,g2,g3,g4,g5,g6,g7,g8⟩:=hM.it;exact⟨b,es,clock,e1,e2,l1,r1,{ hM with it:=⟨r,since,seen,c0,g1,g2,g3,g4,g5,g6,g7,fun k h=>by cases h⟩ }⟩
   ·cases h with
    | self h=>exact .self h
    | iter h=>exact .iter h
    | mem h1 h2 h3 h4 h5 h6 h7=>exact .mem h1 h2 h3 h4 h5 h6 h7
  ·cases hs
 | gp o enc v k=>
  simp only[cvV]at h;split at h
  ·rename_i it m ho hp;simp only[cvS,hp]at hs;cases hs;have h1:=bG h;cases h1;exact Le.gap v k hp
  ·exact(aN h).elim
 | fw o q e s nn ff v k c=>
  simp only[cvV]at h;split at h
  ·rename_i it m ho l hp hq;simp only[cvS,hp]at hs;obtain⟨h1,h2⟩:=aP h;have h1:=bG h1;have h2:=bG h2;cases h1;subst h2;exact Le.fillrow v k c hp hq hs
  ·exact(aN h).elim
 | fd o eD v k c=>
  simp only[cvV]at h;split at h
  ·rename_i it m kk p hp;simp only[cvS,hp]at hs;cases hs;obtain⟨h1,h2⟩:=aP h;have h1:=bG h1;cases h1;exact Le.filld v k c (aQO h2) hp
  ·exact(aN h).elim
 | mg o q=>
  simp only[cvS]at hs;split at hs
  ·rename_i e s n f i j q' e' s' m f' hl hq;split at hs
   ·rename_i hqq;have hqq:=bX hqq;subst hqq;exact Le.armMerge hl hq hs
   ·cases hs
  ·cases hs
 | la o c xs=>
  simp only[cvV]at h;split at h
  ·rename_i e s n f ov hl;simp only[cvS,hl]at hs;cases hs;obtain⟨h1,h2⟩:=aP h;exact Le.armN hl (bG h1) (jG (bG h2))
  ·exact(aN h).elim
 | apr o c xs ys=>
  simp only[cvV]at h;split at h
  ·rename_i e s n f ov hl;simp only[cvS,hl]at hs;cases hs;have h1:=bG h;cases h1;exact Le.armN hl (by simp) (aUL c xs ys)
  ·exact(aN h).elim
 | upr o c xs i x l=>
  simp only[cvV]at h;split at h
  ·rename_i e s n f ov hl;simp only[cvS,hl]at hs;cases hs;obtain⟨h1,h2⟩:=aP h;have h1:=bG h1;cases h1;exact Le.armN hl (by simp) (aWW (bG h2))
  ·exact(aN h).elim
 | fza o c cW xs=>
  simp only[cvV]at h;split at h
  ·rename_i e s n f hl;obtain⟨h1,h2⟩:=aP h;have h1:=bG h1;cases h1;exact fun _ _ r=>Rel.armFreeze (gf:=eF cW xs) hl rfl (fun i _=>bG (mK h2 (xs.getD i default))) hs r
  ·exact(aN h).elim
 | tha t o e s f=>exact fun _ _ r=>Rel.thawA hG hs r
theorem aSQ(hG:hJ P E I):∀ {l:List Cv} {st st':St},aSG I true l st=aSG I false l st->cvL I l st=some st'->Le E st st'
 | [],st,st',_,hs=>by cases hs; exact .refl
 | c::l,st,st',h,hs=>by
  simp only[aSG]at h;simp only[cvL]at hs;obtain⟨h1,h2⟩:=aP h;split at hs
  ·rename_i st1 h3;rw[h3]at h2;exact(bKM hG h1 h3).trans (aSQ hG h2 hs)
  ·cases hs
end
structure Con (P:Program)(k:Nat)(args:List PV){R:Type}(x:Option R)(ret:R->PV):Prop where
 c:jA P k
 h:∀ y,x=some y->gW P k args [] [] (Ret (ret y))
structure dD (P:Program)(k:Nat)(args:List PV)(Hs:Hp)(N:List Nat){R:Type}(x:Option R)(ret:R->PV)(Ht:R->Hp):Prop where
 c:jA P k
 h:∀ y,x=some y->gW P k args Hs N (vZ (ret y) (Ht y))
inductive Tr (P:Program):Type->Type 1 where
 | ret {Y:Type} (n:Nat) (y:Y):Tr P Y
 | ite {Y:Type} (n:Nat) (c:Bool) (t e:Tr P Y):Tr P Y
 | grd {Y:Type} (n:Nat) (p:Prop) [Decidable p] (t:Tr P Y):Tr P Y
 | gd {Y:Type} (n:Nat) (p:Prop) (h:p) (t:Tr P Y):Tr P Y
 | cv {Y:Type} (n:Nat) (l:List Cv) (t:Tr P Y):Tr P Y
 | no {Y:Type}:Tr P Y
 | ca {Y R:Type} (n:Nat) {k:Nat} {bps:List PV} {x:Option R} {ret:R->PV} (h:Con P k bps x ret) (B:R->Tr P Y):Tr P Y
 | cas {Y:Type} (n:Nat) {k:Nat} {bps:List PV} {x:Option Nat} {ret:Nat->PV} (h:Con P k bps x ret) (m:Nat) (B:Nat->Tr P Y):Tr P Y
 | ch {Y R:Type} [Cur R] (n:Nat) {k:Nat} {bps:List PV} {Hs:Hp} {N:List Nat} {x:Option R} {ret:R->PV} {Ht:R->Hp} (nw:List Nat) (h:dD P k bps Hs N x ret Ht) (B:R->Tr P Y):Tr P Y
 | jn {Y S:Type} [Cur S] (n m:Nat) (tm:S->St) (A:Tr P S) (B:S->Tr P Y):Tr P Y
 | pc {Y S:Type} [Cur S] (n m:Nat) (tm:S->St) (A:Tr P (S⊕Y)) (B:S->Tr P Y):Tr P Y
 | lp {Y S R:Type} [Cur S] [Cur R] (n:Nat) (tm:S->St) (bt:R->St) (ex:Nat) (s0:S) (L:S->Tr P (S⊕(R⊕Y))) (B:R->Tr P Y):Tr P Y
 | sp {Y:Type} (n:Nat) (t:Nat) (r m:Int) (a e:Tr P Y):Tr P Y
 | slc {Y α:Type} [Inhabited α] (n:Nat) (t:Nat) (c:α->List T) (xs:List α) (lo hi:Int) (k:Tr P Y):Tr P Y
 | sto {Y α:Type} [Inhabited α] (n:Nat) (o:Nat) (c:α->List T) (xs:List α) (l:List (Nat×α)) (k:Tr P Y):Tr P Y
 | cut {Y α:Type} [Inhabited α] (n:Nat) (c:α->List T) (xs:List α) (hi:Int) (k:Tr P Y):Tr P Y
 | clr {Y α:Type} [Inhabited α] (n:Nat) (c:α->List T) (xs:List α) (lo:Int) (k:Tr P Y):Tr P Y
 | apz {Y α:Type} [Inhabited α] (n:Nat) (c:α->List T) (byt:Nat) (m:Int) (k:Tr P Y):Tr P Y
 | mks {Y α:Type} [Inhabited α] (n:Nat) (c:α->List T) (byt:Nat) (l m:Int) (k:Tr P Y):Tr P Y
 | abl {Y:Type} (n:Nat) (e:Nat) (k:Tr P Y):Tr P Y
 | bs {Y α:Type} [Inhabited α] (n:Nat) (own:Bool) (c:α->List T) (xs:List α) (t:Tr P Y):Tr P Y
 | ndb {Y:Type} (n m:Nat) (a e:Tr P Y):Tr P Y
 | dc {Y R:Type} (j:Nat) (as:List PV) {k:Nat} {bps:List PV} {x:Option R} {ret:R->PV} (h:Con P k bps x ret) (B:R->Tr P Y):Tr P Y
 | dch {Y R:Type} (j:Nat) (as:List PV) {k:Nat} {bps:List PV} {Hs:Hp} {N:List Nat} {x:Option R} {ret:R->PV} {Ht:R->Hp} (h:dD P k bps Hs N x ret Ht) (ch:R->Option (Nat×bF)) (B:R->Tr P Y):Tr P Y
 | dl {Y:Type} (j:Nat) (c:Bool) (t e:Tr P Y):Tr P Y
 | dg {Y:Type} (j:Nat) (p:Prop) [Decidable p] (t:Tr P Y):Tr P Y
 | dr {Y:Type} (n e:Nat) (ol:OL) (ts:List Nat) (t:Tr P Y):Tr P Y
 | mk {Y K V:Type} [MKey K] (n:Nat) (enc:V->Mem) (t:Tr P Y):Tr P Y
 | mlen {Y K V:Type} [MKey K] (n:Nat) (enc:V->Mem) (v:List (K×V)) (t:Tr P Y):Tr P Y
 | lkr {Y K V:Type} [MKey K] (n e s:Nat) (nn:V->Nat) (ff:V->Nat->List T) (dflt:V) (v:List (K×V)) (k:K) (t:Tr P Y):Tr P Y
 | lkd {Y K V:Type} [MKey K] (n:Nat) (zv:Value) (eD:V->T) (v:List (K×V)) (k:K) (t0:Tr P Y) (t1:V->Tr P Y):Tr P Y
 | foc {Y α:Type} [Inhabited α] (n o q i j:Nat) (c:α->List Cel) (xs:List α) (t:Tr P Y):Tr P Y
 | dcn {Y R:Type} (j d:Nat) (as:List PV) {k:Nat} {bps:List PV} {Hs:Hp} {N:List Nat} {x:Option R} {ret:R->PV} {Ht:R->Hp} (h:dD P k bps Hs N x ret Ht) (B:R->Tr P Y):Tr P Y
 | dcm {Y R:Type} (j d:Nat) (as:List PV) {k:Nat} {bps:List PV} {Hs:Hp} {N:List Nat} {x:Option R} {ret:R->PV} {Ht:R->Hp} (h:dD P k bps Hs N x ret Ht) (B:R->Tr P Y):Tr P Y
 | dap {Y:Type} (j:Nat) {n:Nat} {f:Nat->List T} {x:T} (h:∀ F g w v,VR F g w (.t (.sl n f)) v->VR F g w (.t x) v) (t:Tr P Y):Tr P Y
 | dlk {Y K:Type} [MKey K] (j ty ob:Nat) (v:List (K×Nat)) (k:K) (t1:Nat->Tr P Y):Tr P Y
 | upd {Y K V:Type} [MKey K] (n:Nat) (enc:V->Mem) (v:List (K×V)) (k:K) (t:Tr P Y):Tr P Y
 | dlt {Y K V:Type} [MKey K] (n:Nat) (enc:V->Mem) (v:List (K×V)) (k:K) (hp:Option PV) (t:Tr P Y):Tr P Y
 | rng {Y K V:Type} [MKey K] (n:Nat) (enc:V->Mem) (v:List (K×V)) (t:Tr P Y):Tr P Y
 | nxd {Y K V:Type} [MKey K] (n:Nat) (eD:V->T) (v:List (K×V)) (rem:List K) (t0:Tr P Y) (t1:K->V->Tr P Y):Tr P Y
def sel{S Y β:Type _}(f:S->β)(g:Y->β):S⊕Y->β
 | .inl v=>f v
 | .inr y=>g y
namespace Tr
variable {P:Program}
variable {R S Y:Type}
noncomputable def den:{Y:Type}->Tr P Y->Option Y
 | _,.ret _ y=>some y
 | _,.ite _ c t e=>if c=true then t.den else e.den
 | _,@grd _ _ _ p _ t=>if p then t.den else none
 | _,.gd _ _ _ t=>t.den
 | _,.cv _ _ t=>t.den
 | _,.no=>none
 | _,@ca _ _ _ _ _ _ x _ _ B=>x.bind fun r=>(B r).den
 | _,@cas _ _ _ _ _ x _ _ m B=>x.bind fun r=>if r<m then (B r).den else none
 | _,@ch _ _ _ _ _ _ _ _ _ x _ _ _ _ B=>x.bind fun r=>(B r).den
 | _,@jn _ _ _ _ _ _ _ A B=>A.den.bind fun v=>(B v).den
 | _,@pc _ _ _ _ _ _ _ A B=>A.den.bind (sel (fun v=>(B v).den) some)
 | _,@lp _ _ _ _ _ _ _ _ _ _ s0 L B=>(cK (fun s=>(L s).den) s0).bind (sel (fun r=>(B r).den) some)
 | _,.sp _ _ r m a e=>if r=m then a.den else e.den
 | _,@slc _ _ _ _ _ _ _ xs lo hi k=>if 0<=lo/\lo<=hi/\hi<=(xs.length:Int) then k.den else none
 | _,@sto _ _ _ _ _ _ _ xs l k=>if (l.all fun p=>decide (p.1<xs.length))=true then k.den else none
 | _,@cut _ _ _ _ _ _ xs hi k=>if 0<=hi/\hi<=(xs.length:Int) then k.den else none
 | _,@clr _ _ _ _ _ _ xs lo k=>if 0<=lo/\lo<=(xs.length:Int) then k.den else none
 | _,@apz _ _ _ _ _ _ byt m k=>if 0<=m/\m.toNat*byt<=140737488355328 then k.den else none
 | _,@mks _ _ _ _ _ _ byt l m k=>if (0<=l/\l<=m)/\m.toNat*byt<=140737488355328 then k.den else none
 | _,.abl _ _ k=>k.den
 | _,@bs _ _ _ _ _ _ _ _ t=>t.den
 | _,.ndb _ _ _ _=>none
 | _,@dc _ _ _ _ _ _ _ x _ _ B=>x.bind fun r=>(B r).den
 | _,@dch _ _ _ _ _ _ _ _ _ x _ _ _ _ B=>x.bind fun r=>(B r).den
 | _,.dl _ c t e=>if c=true then t.den else e.den
 | _,@dg _ _ _ p _ t=>if p then t.den else none
 | _,.dr _ _ _ _ t=>t.den
 | _,@mk _ _ _ _ _ _ _ t=>t.den
 | _,@mlen _ _ _ _ _ _ _ _ t=>t.den
 | _,@lkr _ _ _ _ _ _ _ _ _ _ _ _ _ t=>t.den
 | _,@lkd _ _ _ _ _ _ _ _ v k t0 t1=>match cB v k with | none=>t0.den | some c=>(t1 c).den
 | _,@foc _ _ _ _ _ _ _ i _ _ xs t=>if i<xs.length then t.den else none
 | _,@dcn _ _ _ _ _ _ _ _ _ _ x _ _ _ B=>x.bind fun r=>(B r).den
 | _,@dcm _ _ _ _ _ _ _ _ _ _ x _ _ _ B=>x.bind fun r=>(B r).den
 | _,.dap _ _ t=>t.den
 | _,@dlk _ _ _ _ _ _ _ v k t1=>(cB v k).bind fun c=>(t1 c).den
 | _,@upd _ _ _ _ _ _ _ _ _ t=>t.den
 | _,@dlt _ _ _ _ _ _ _ _ _ _ t=>t.den
 | _,@rng _ _ _ _ _ _ _ _ t=>t.den
 | _,@nxd _ _ _ _ _ _ _ _ _ _ _=>none
def LoopT(b:S->(S⊕R->Prop)->Prop)(Q:R->Prop)(s:S):Prop:=∀ X:S->Prop,(∀ s,b s (sel X Q)->X s)->X s
def wpT:{Y:Type}->Tr P Y->(Y->Prop)->Prop
 | _,.ret _ y,Q=>Q y
 | _,.ite _ c t e,Q=>if c=true then t.wpT Q else e.wpT Q
 | _,@grd _ _ _ p _ t,Q=>p/\t.wpT Q
 | _,.gd _ _ _ t,Q=>t.wpT Q
 | _,.cv _ _ t,Q=>t.wpT Q
 | _,.no,_=>False
 | _,@ca _ _ _ _ _ _ x _ _ B,Q=>∃ r,x=some r/\(B r).wpT Q
 | _,@cas _ _ _ _ _ x _ _ m B,Q=>∃ r,x=some r/\r<m/\(B r).wpT Q
 | _,@ch _ _ _ _ _ _ _ _ _ x _ _ _ _ B,Q=>∃ r,x=some r/\(B r).wpT Q
 | _,@jn _ _ _ _ _ _ _ A B,Q=>A.wpT fun v=>(B v).wpT Q
 | _,@pc _ _ _ _ _ _ _ A B,Q=>A.wpT (sel (fun v=>(B v).wpT Q) Q)
 | _,@lp _ _ _ _ _ _ _ _ _ _ s0 L B,Q=>LoopT (fun s Z=>(L s).wpT Z) (sel (fun r=>(B r).wpT Q) Q) s0
 | _,.sp _ _ r m a e,Q=>if r=m then a.wpT Q else e.wpT Q
 | _,@slc _ _ _ _ _ _ _ xs lo hi k,Q=>(0<=lo/\lo<=hi/\hi<=(xs.length:Int))/\k.wpT Q
 | _,@sto _ _ _ _ _ _ _ xs l k,Q=>(l.all fun p=>decide (p.1<xs.length))=true/\k.wpT Q
 | _,@cut _ _ _ _ _ _ xs hi k,Q=>(0<=hi/\hi<=(xs.length:Int))/\k.wpT Q
 | _,@clr _ _ _ _ _ _ xs lo k,Q=>(0<=lo/\lo<=(xs.length:Int))/\k.wpT Q
 | _,@apz _ _ _ _ _ _ byt m k,Q=>(0<=m/\m.toNat*byt<=140737488355328)/\k.wpT Q
 | _,@mks _ _ _ _ _ _ byt l m k,Q=>((0<=l/\l<=m)/\m.toNat*byt<=140737488355328)/\k.wpT Q
 | _,.abl _ _ k,Q=>k.wpT Q
 | _,@bs _ _ _ _ _ _ _ _ t,Q=>t.wpT Q
 | _,.ndb _ m a e,Q=>(m=0->a.wpT Q)/\e.wpT Q
 | _,@dc _ _ _ _ _ _ _ x _ _ B,Q=>∃ r,x=some r/\(B r).wpT Q
 | _,@dch _ _ _ _ _ _ _ _ _ x _ _ _ _ B,Q=>∃ r,x=some r/\(B r).wpT Q
 | _,.dl _ c t e,Q=>if c=true then t.wpT Q else e.wpT Q
 | _,@dg _ _ _ p _ t,Q=>p/\t.wpT Q
 | _,.dr _ _ _ _ t,Q=>t.wpT Q
 | _,@mk _ _ _ _ _ _ _ t,Q=>t.wpT Q
 | _,@mlen _ _ _ _ _ _ _ _ t,Q=>t.wpT Q
 | _,@lkr _ _ _ _ _ _ _ _ _ _ _ _ _ t,Q=>t.wpT Q
 | _,@lkd _ _ _ _ _ _ _ _ v k t0 t1,Q=>match cB v k with | none=>t0.wpT Q | some c=>(t1 c).wpT Q
 | _,@foc _ _ _ _ _ _ _ i _ _ xs t,Q=>i<xs.length/\t.wpT Q
 | _,@dcn _ _ _ _ _ _ _ _ _ _ x _ _ _ B,Q=>∃ r,x=some r/\(B r).wpT Q
 | _,@dcm _ _ _ _ _ _ _ _ _ _ x _ _ _ B,Q=>∃ r,x=some r/\(B r).wpT Q
 | _,.dap _ _ t,Q=>t.wpT Q
 | _,@dlk _ _ _ _ _ _ _ v k t1,Q=>∃ c,cB v k=some c/\(t1 c).wpT Q
 | _,@upd _ _ _ _ _ _ _ _ _ t,Q=>t.wpT Q
 | _,@dlt _ _ _ _ _ _ _ _ _ _ t,Q=>t.wpT Q
 | _,@rng _ _ _ _ _ _ _ _ t,Q=>t.wpT Q
 | _,@nxd _ _ _ _ _ _ _ v rem t0 t1,Q=>(rem=[]->t0.wpT Q)/\(∀ k c,k∈rem->cB v k=some c->(t1 k c).wpT Q)/\(rem≠[]->∃ k c,k∈rem/\cB v k=some c)
theorem LoopT.mono{b:S->(S⊕R->Prop)->Prop}(hb:∀ s {Q Q':S⊕R->Prop},(∀ z,Q z->Q' z)->b s Q->b s Q'){Q Q':R->Prop}(hq:∀ r,Q r->Q' r){s:S}(h:LoopT b Q s):LoopT b Q' s:=by intro X hX;exact h X fun s hs=>hX s (hb s (fun z hz=>by cases z with | inl s'=>exact hz | inr r=>exact hq _ hz) hs)
theorem LoopT.unfold{b:S->(S⊕R->Prop)->Prop}(hb:∀ s {Q Q':S⊕R->Prop},(∀ z,Q z->Q' z)->b s Q->b s Q'){Q:R->Prop}{s:S}:
  LoopT b Q s↔b s (sel (LoopT b Q) Q):=by
 have h1:∀ s,b s (sel (LoopT b Q) Q)->LoopT b Q s:=by intro s h X hX;exact hX s (hb s (fun z hz=>by cases z with | inl s'=>exact hz X hX | inr r=>exact hz) h)
 refine⟨fun h=>h (fun s=>b s (sel (LoopT b Q) Q)) fun s hs=>?_,h1 s⟩;exact hb s (fun z hz=>by cases z with | inl s'=>exact h1 _ hz | inr r=>exact hz) hs
theorem wpT_mono(t:Tr P Y):∀ {Q Q':Y->Prop},(∀ y,Q y->Q' y)->t.wpT Q->t.wpT Q':=by
 induction t with
 | ret n y=>exact fun hq h=>hq _ h
 | ite n c t e iht ihe=>intro Q Q' hq h; simp only[wpT]at h ⊢; split <;> simp_all <;> first | exact iht hq h | exact ihe hq h
 | grd n p t ih=>exact fun hq h=>⟨h.1,ih hq h.2⟩
 | gd n p h t ih=>exact fun hq h=>ih hq h
 | cv n l t ih=>exact fun hq h=>ih hq h
 | no=>exact fun _ h=>h
 | ca n h B ih=>rintro Q Q' hq ⟨r,h1,h2⟩; exact⟨r,h1,ih r hq h2⟩
 | cas n h m B ih=>rintro Q Q' hq ⟨r,h1,h2,h3⟩; exact⟨r,h1,h2,ih r hq h3⟩
 | ch n nw h B ih=>rintro Q Q' hq ⟨r,h1,h2⟩; exact⟨r,h1,ih r hq h2⟩
 | jn n m tm A B ihA ihB=>exact fun hq h=>ihA (fun v hv=>ihB v hq hv) h
 | pc n m tm A B ihA ihB=>exact fun hq h=>ihA (fun z hz=>by cases z with | inl v=>exact ihB v hq hz | inr y=>exact hq _ hz) h
 | lp n tm bt ex s0 L B ihL ihB=>exact fun hq h=>LoopT.mono (fun s _ _ hz=>ihL s hz) (fun z hz=>by cases z with | inl v=>exact ihB v hq hz | inr y=>exact hq _ hz) h
 | sp n t r m a e iha ihe=>intro Q Q' hq h; simp only[wpT]at h ⊢; split <;> simp_all <;> first | exact iha hq h | exact ihe hq h
 | slc n t c xs lo hi k ih=>exact fun hq h=>⟨h.1,ih hq h.2⟩
 | sto n o c xs l k ih=>exact fun hq h=>⟨h.1,ih hq h.2⟩
 | cut n c xs hi k ih=>exact fun hq h=>⟨h.1,ih hq h.2⟩
 | clr n c xs lo k ih=>exact fun hq h=>⟨h.1,ih hq h.2⟩
 | apz n c byt m k ih=>exact fun hq h=>⟨h.1,ih hq h.2⟩
 | mks n c byt l m k ih=>exact fun hq h=>⟨h.1,ih hq h.2⟩
 | abl n e k ih=>exact fun hq h=>ih hq h
 | bs n own c xs t ih=>exact fun hq h=>ih hq h
 | ndb n m a e iha ihe=>exact fun hq h=>⟨fun hm=>iha hq (h.1 hm),ihe hq h.2⟩
 | dc j as h B ih=>rintro Q Q' hq ⟨r,h1,h2⟩; exact⟨r,h1,ih r hq h2⟩
 | dch j as h ch B ih=>rintro Q Q' hq ⟨r,h1,h2⟩; exact⟨r,h1,ih r hq h2⟩
 | dl n c t e iht ihe=>intro Q Q' hq h; simp only[wpT]at h ⊢; split <;> simp_all <;> first | exact iht hq h | exact ihe hq h
 | dg n p t ih=>exact fun hq h=>⟨h.1,ih hq h.2⟩
 | dr n e ol ts t ih=>exact fun hq h=>ih hq h
 | mk n enc t ih=>exact fun hq h=>ih hq h
 | mlen n enc v t ih=>exact fun hq h=>ih hq h
 | lkr n e s nn ff d v k t ih=>exact fun hq h=>ih hq h
 | lkd n zv eD v k t0 t1 ih0 ih1=>intro Q Q' hq h; simp only[wpT]at h ⊢; split <;> simp_all <;> first | exact ih0 hq h | exact ih1 _ hq h
 | foc n o q i j c xs t ih=>exact fun hq h=>⟨h.1,ih hq h.2⟩
 | dcn j d as h B ih=>rintro Q Q' hq ⟨r,h1,h2⟩; exact⟨r,h1,ih r hq h2⟩
 | dcm j d as h B ih=>rintro Q Q' hq ⟨r,h1,h2⟩; exact⟨r,h1,ih r hq h2⟩
 | dap j h0 t ih=>exact fun hq h=>ih hq h
 | dlk j ty ob v k t1 ih=>rintro Q Q' hq ⟨c,h1,h2⟩; exact⟨c,h1,ih c hq h2⟩
 | upd n enc v k t ih=>exact fun hq h=>ih hq h
 | dlt n enc v k hp t ih=>exact fun hq h=>ih hq h
 | rng n enc v t ih=>exact fun hq h=>ih hq h
 | nxd n eD v rem t0 t1 ih0 ih1=>exact fun hq h=>⟨fun hr=>ih0 hq (h.1 hr),fun k c hk hc=>ih1 k c hq (h.2.1 k c hk hc),h.2.2⟩
theorem LoopT.of_while{b:S->(S⊕R->Prop)->Prop}{f:S->Option (S⊕R)}(hf:∀ s z,f s=some z->∀ Q:S⊕R->Prop,Q z->b s Q){s:S}{r:R}(h:cK f s=some r){Q:R->Prop}(hq:Q r):LoopT b Q s:=by
 obtain⟨n,hn⟩:=(oL f s).run h
 induction n generalizing s with
 | zero=>simp[nK]at hn
 | succ n ih=>
  simp only[nK]at hn;cases hs:f s with
  | none=>simp_all
  | some z=>
   simp only[hs]at hn;cases z with
   | inl s'=>exact fun X hX=>hX s (hf s _ hs _ (ih (Sd hn) hn X hX))
   | inr r'=>cases hn; exact fun X hX=>hX s (hf s _ hs _ hq)
theorem of_den(t:Tr P Y):∀ {y:Y} {Q:Y->Prop},t.den=some y->Q y->t.wpT Q:=by
 induction t with
 | ret n y=>intro y' Q h hq; cases h; exact hq
 | ite n c t e iht ihe=>intro y Q h hq; simp only[den,wpT]at h ⊢; split <;> simp_all <;> first | exact iht h hq | exact ihe h hq
 | grd n p t ih=>intro y Q h hq; simp only[den]at h; split at h <;> first | exact⟨by omega,ih h hq⟩ | cases h
 | gd n p h t ih=>exact fun h hq=>ih h hq
 | cv n l t ih=>exact fun h hq=>ih h hq
 | no=>intro y Q h; cases h
 | ca n h B ih=>intro y Q hd hq; obtain⟨r,h1,h2⟩:=bnd hd; exact⟨r,h1,ih r h2 hq⟩
 | cas n h m B ih=>intro y Q hd hq; obtain⟨r,h1,h2⟩:=bnd hd; split at h2 <;> first | exact⟨r,h1,by omega,ih r h2 hq⟩ | cases h2
 | ch n nw h B ih=>intro y Q hd hq; obtain⟨r,h1,h2⟩:=bnd hd; exact⟨r,h1,ih r h2 hq⟩
 | jn n m tm A B ihA ihB=>intro y Q hd hq; obtain⟨r,h1,h2⟩:=bnd hd; exact ihA h1 (ihB r h2 hq)
 | pc n m tm A B ihA ihB=>
  intro y Q hd hq; obtain⟨r,h1,h2⟩:=bnd hd;refine ihA h1 ?_;cases r with
  | inl v=>exact ihB v h2 hq
  | inr y'=>cases h2; exact hq
 | lp n tm bt ex s0 L B ihL ihB=>
  intro y Q hd hq; obtain⟨r,h1,h2⟩:=bnd hd;refine LoopT.of_while (f:=fun s=>(L s).den) (fun s z hz Q hQ=>ihL s hz hQ) h1 ?_;cases r with
  | inl v=>exact ihB v h2 hq
  | inr y'=>cases h2; exact hq
 | sp n t r m a e iha ihe=>intro y Q h hq; simp only[den,wpT]at h ⊢; split <;> simp_all <;> first | exact iha h hq | exact ihe h hq
 | slc n t c xs lo hi k ih=>intro y Q h hq; simp only[den]at h; split at h <;> first | exact⟨by omega,ih h hq⟩ | cases h
 | sto n o c xs l k ih=>intro y Q h hq; simp only[den]at h; split at h <;> first | exact⟨by omega,ih h hq⟩ | cases h
 | cut n c xs hi k ih=>intro y Q h hq; simp only[den]at h; split at h <;> first | exact⟨by omega,ih h hq⟩ | cases h
 | clr n c xs lo k ih=>intro y Q h hq; simp only[den]at h; split at h <;> first | exact⟨by omega,ih h hq⟩ | cases h
 | apz n c byt m k ih=>intro y Q h hq; simp only[den]at h; split at h <;> first | exact⟨by omega,ih h hq⟩ | cases h
 | mks n c byt l m k ih=>intro y Q h hq; simp only[den]at h; split at h <;> first | exact⟨by omega,ih h hq⟩ | cases h
 | abl n e k ih=>exact fun h hq=>ih h hq
 | bs n own c xs t ih=>exact fun h hq=>ih h hq
 | ndb=>intro y Q h; cases h
 | dc j as h B ih=>intro y Q hd hq; obtain⟨r,h1,h2⟩:=bnd hd; exact⟨r,h1,ih r h2 hq⟩
 | dch j as h ch B ih=>intro y Q hd hq; obtain⟨r,h1,h2⟩:=bnd hd; exact⟨r,h1,ih r h2 hq⟩
 | dl n c t e iht ihe=>intro y Q h hq; simp only[den,wpT]at h ⊢; split <;> simp_all <;> first | exact iht h hq | exact ihe h hq
 | dg n p t ih=>intro y Q h hq; simp only[den]at h; split at h <;> first | exact⟨by omega,ih h hq⟩ | cases h
 | dr n e ol ts t ih=>exact fun h hq=>ih h hq
 | mk n enc t ih=>exact fun h hq=>ih h hq
 | mlen n enc v t ih=>exact fun h hq=>ih h hq
 | lkr n e s nn ff d v k t ih=>exact fun h hq=>ih h hq
 | lkd n zv eD v k t0 t1 ih0 ih1=>intro y Q h hq; simp only[den,wpT]at h ⊢; split <;> simp_all <;> first | exact ih0 h hq | exact ih1 _ h hq
 | foc n o q i j c xs t ih=>intro y Q h hq; simp only[den]at h; split at h <;> first | exact⟨by omega,ih h hq⟩ | cases h
 | dcn j d as h B ih=>intro y Q hd hq; obtain⟨r,h1,h2⟩:=bnd hd; exact⟨r,h1,ih r h2 hq⟩
 | dcm j d as h B ih=>intro y Q hd hq; obtain⟨r,h1,h2⟩:=bnd hd; exact⟨r,h1,ih r h2 hq⟩
 | dap j h0 t ih=>exact fun h hq=>ih h hq
 | dlk j ty ob v k t1 ih=>intro y Q hd hq; obtain⟨c,h1,h2⟩:=bnd hd; exact⟨c,h1,ih c h2 hq⟩
 | upd n enc v k t ih=>exact fun h hq=>ih h hq
 | dlt n enc v k hp t ih=>exact fun h hq=>ih h hq
 | rng n enc v t ih=>exact fun h hq=>ih h hq
 | nxd=>intro y Q h; cases h
theorem LoopT.and{b:S->(S⊕R->Prop)->Prop}(hb:∀ s {Q Q':S⊕R->Prop},(∀ z,Q z->Q' z)->b s Q->b s Q')(ha:∀ s (Q Q':S⊕R->Prop),b s Q->b s Q'->b s (fun z=>Q z/\Q' z))
  {Q Q':R->Prop}{s:S}(h:LoopT b Q s)(h':LoopT b Q' s):LoopT b (fun z=>Q z/\Q' z) s:=by
 refine h (fun s=>LoopT b Q' s->LoopT b (fun z=>Q z/\Q' z) s) (fun s hs hs'=>?_) h';rw[LoopT.unfold hb]at hs' ⊢;refine hb s (fun z hz=>?_) (ha s _ _ hs hs');cases z with
 | inl s'=>exact hz.1 hz.2
 | inr r=>exact hz
theorem LoopT.ex{b:S->(S⊕R->Prop)->Prop}(he:∀ s (Q:S⊕R->Prop),b s Q->∃ z,Q z){Q:R->Prop}{s:S}(h:LoopT b Q s):∃ r,Q r:=by
 refine h (fun _=>∃ r,Q r) fun s hs=>?_;obtain⟨z,hz⟩:=he s _ hs;cases z with
 | inl s'=>exact hz
 | inr r=>exact⟨r,hz⟩
theorem wpT_and(t:Tr P Y):∀ {Q Q':Y->Prop},t.wpT Q->t.wpT Q'->t.wpT (fun y=>Q y/\Q' y):=by
 induction t with
 | ret n y=>exact fun h h'=>⟨h,h'⟩
 | ite n c t e iht ihe=>intro Q Q' h h'; simp only[wpT]at h h' ⊢; split <;> simp_all
 | grd n p t ih=>exact fun h h'=>⟨h.1,ih h.2 h'.2⟩
 | gd n p h t ih=>exact fun h h'=>ih h h'
 | cv n l t ih=>exact fun h h'=>ih h h'
 | no=>exact fun h _=>h
 | ca n h B ih=>rintro Q Q' ⟨r,h1,h2⟩ ⟨r',h1',h2'⟩; rw[h1]at h1'; cases h1'; exact⟨r,h1,ih r h2 h2'⟩
 | cas n h m B ih=>rintro Q Q' ⟨r,h1,h2,h3⟩ ⟨r',h1',h2',h3'⟩; rw[h1]at h1'; cases h1'; exact⟨r,h1,h2,ih r h3 h3'⟩
 | ch n nw h B ih=>rintro Q Q' ⟨r,h1,h2⟩ ⟨r',h1',h2'⟩; rw[h1]at h1'; cases h1'; exact⟨r,h1,ih r h2 h2'⟩
 | jn n m tm A B ihA ihB=>exact fun h h'=>wpT_mono A (fun v hv=>ihB v hv.1 hv.2) (ihA h h')
 | pc n m tm A B ihA ihB=>exact fun h h'=>wpT_mono A (fun z hz=>by cases z with | inl v=>exact ihB v hz.1 hz.2 | inr y=>exact hz) (ihA h h')
 | lp n tm bt ex s0 L B ihL ihB=>
  intro Q Q' h h';simp only[wpT]at h h' ⊢;have h3:=LoopT.and (b:=fun s Z=>(L s).wpT Z) (fun s _ _ hz=>wpT_mono (L s) hz) (fun s _ _ h1 h2=>ihL s h1 h2) h h';refine LoopT.mono (b:=fun s Z=>(L s).wpT Z) (fun s _ _ hz=>wpT_mono (L s) hz) (fun z hz=>?_) h3;cases z with
  | inl v=>exact ihB v hz.1 hz.2
  | inr y=>exact hz
 | sp n t r m a e iha ihe=>intro Q Q' h h'; simp only[wpT]at h h' ⊢; split <;> simp_all
 | slc n t c xs lo hi k ih=>exact fun h h'=>⟨h.1,ih h.2 h'.2⟩
 | sto n o c xs l k ih=>exact fun h h'=>⟨h.1,ih h.2 h'.2⟩
 | cut n c xs hi k ih=>exact fun h h'=>⟨h.1,ih h.2 h'.2⟩
 | clr n c xs lo k ih=>exact fun h h'=>⟨h.1,ih h.2 h'.2⟩
 | apz n c byt m k ih=>exact fun h h'=>⟨h.1,ih h.2 h'.2⟩
 | mks n c byt l m k ih=>exact fun h h'=>⟨h.1,ih h.2 h'.2⟩
 | abl n e k ih=>exact fun h h'=>ih h h'
 | bs n own c xs t ih=>exact fun h h'=>ih h h'
 | ndb n m a e iha ihe=>exact fun h h'=>⟨fun hm=>iha (h.1 hm) (h'.1 hm),ihe h.2 h'.2⟩
 | dc j as h B ih=>rintro Q Q' ⟨r,h1,h2⟩ ⟨r',h1',h2'⟩; rw[h1]at h1'; cases h1'; exact⟨r,h1,ih r h2 h2'⟩
 | dch j as h ch B ih=>rintro Q Q' ⟨r,h1,h2⟩ ⟨r',h1',h2'⟩; rw[h1]at h1'; cases h1'; exact⟨r,h1,ih r h2 h2'⟩
 | dl n c t e iht ihe=>intro Q Q' h h'; simp only[wpT]at h h' ⊢; split <;> simp_all
 | dg n p t ih=>exact fun h h'=>⟨h.1,ih h.2 h'.2⟩
 | dr n e ol ts t ih=>exact fun h h'=>ih h h'
 | mk n enc t ih=>exact fun h h'=>ih h h'
 | mlen n enc v t ih=>exact fun h h'=>ih h h'
 | lkr n e s nn ff d v k t ih=>exact fun h h'=>ih h h'
 | lkd n zv eD v k t0 t1 ih0 ih1=>intro Q Q' h h'; simp only[wpT]at h h' ⊢; split <;> simp_all
 | foc n o q i j c xs t ih=>exact fun h h'=>⟨h.1,ih h.2 h'.2⟩
 | dcn j d as h B ih=>rintro Q Q' ⟨r,h1,h2⟩ ⟨r',h1',h2'⟩; rw[h1]at h1'; cases h1'; exact⟨r,h1,ih r h2 h2'⟩
 | dcm j d as h B ih=>rintro Q Q' ⟨r,h1,h2⟩ ⟨r',h1',h2'⟩; rw[h1]at h1'; cases h1'; exact⟨r,h1,ih r h2 h2'⟩
 | dap j h0 t ih=>exact fun h h'=>ih h h'
 | dlk j ty ob v k t1 ih=>rintro Q Q' ⟨c,h1,h2⟩ ⟨c',h1',h2'⟩; rw[h1]at h1'; cases h1'; exact⟨c,h1,ih c h2 h2'⟩
 | upd n enc v k t ih=>exact fun h h'=>ih h h'
 | dlt n enc v k hp t ih=>exact fun h h'=>ih h h'
 | rng n enc v t ih=>exact fun h h'=>ih h h'
 | nxd n eD v rem t0 t1 ih0 ih1=>exact fun h h'=>⟨fun hr=>ih0 (h.1 hr) (h'.1 hr),fun k c hk hc=>ih1 k c (h.2.1 k c hk hc) (h'.2.1 k c hk hc),h.2.2⟩
theorem wpT_ex(t:Tr P Y):∀ {Q:Y->Prop},t.wpT Q->∃ y,Q y:=by
 induction t with
 | ret n y=>exact fun h=>⟨y,h⟩
 | ite n c t e iht ihe=>intro Q h; simp only[wpT]at h; split at h <;> first | exact iht h | exact ihe h
 | grd n p t ih=>exact fun h=>ih h.2
 | gd n p h t ih=>exact fun h=>ih h
 | cv n l t ih=>exact fun h=>ih h
 | no=>exact fun h=>h.elim
 | ca n h B ih=>rintro Q ⟨r,h1,h2⟩; exact ih r h2
 | cas n h m B ih=>rintro Q ⟨r,h1,h2,h3⟩; exact ih r h3
 | ch n nw h B ih=>rintro Q ⟨r,h1,h2⟩; exact ih r h2
 | jn n m tm A B ihA ihB=>intro Q h; obtain⟨v,hv⟩:=ihA h; exact ihB v hv
 | pc n m tm A B ihA ihB=>
  intro Q h;obtain⟨z,hz⟩:=ihA h;cases z with
  | inl v=>exact ihB v hz
  | inr y=>exact⟨y,hz⟩
 | lp n tm bt ex s0 L B ihL ihB=>
  intro Q h;obtain⟨z,hz⟩:=LoopT.ex (fun s _ hs=>ihL s hs) h;cases z with
  | inl v=>exact ihB v hz
  | inr y=>exact⟨y,hz⟩
 | sp n t r m a e iha ihe=>intro Q h; simp only[wpT]at h; split at h <;> first | exact iha h | exact ihe h
 | slc n t c xs lo hi k ih=>exact fun h=>ih h.2
 | sto n o c xs l k ih=>exact fun h=>ih h.2
 | cut n c xs hi k ih=>exact fun h=>ih h.2
 | clr n c xs lo k ih=>exact fun h=>ih h.2
 | apz n c byt m k ih=>exact fun h=>ih h.2
 | mks n c byt l m k ih=>exact fun h=>ih h.2
 | abl n e k ih=>exact fun h=>ih h
 | bs n own c xs t ih=>exact fun h=>ih h
 | ndb n m a e iha ihe=>exact fun h=>ihe h.2
 | dc j as h B ih=>rintro Q ⟨r,h1,h2⟩; exact ih r h2
 | dch j as h ch B ih=>rintro Q ⟨r,h1,h2⟩; exact ih r h2
 | dl n c t e iht ihe=>intro Q h; simp only[wpT]at h; split at h <;> first | exact iht h | exact ihe h
 | dg n p t ih=>exact fun h=>ih h.2
 | dr n e ol ts t ih=>exact fun h=>ih h
 | mk n enc t ih=>exact fun h=>ih h
 | mlen n enc v t ih=>exact fun h=>ih h
 | lkr n e s nn ff d v k t ih=>exact fun h=>ih h
 | lkd n zv eD v k t0 t1 ih0 ih1=>intro Q h; simp only[wpT]at h; split at h <;> first | exact ih0 h | exact ih1 _ h
 | foc n o q i j c xs t ih=>exact fun h=>ih h.2
 | dcn j d as h B ih=>rintro Q ⟨r,h1,h2⟩; exact ih r h2
 | dcm j d as h B ih=>rintro Q ⟨r,h1,h2⟩; exact ih r h2
 | dap j h0 t ih=>exact fun h=>ih h
 | dlk j ty ob v k t1 ih=>rintro Q ⟨c,h1,h2⟩; exact ih c h2
 | upd n enc v k t ih=>exact fun h=>ih h
 | dlt n enc v k hp t ih=>exact fun h=>ih h
 | rng n enc v t ih=>exact fun h=>ih h
 | nxd n eD v rem t0 t1 ih0 ih1=>
  intro Q h;by_cases hr:rem=[]
  ·exact ih0 (h.1 hr)
  ·obtain⟨k,c,hk,hc⟩:=h.2.2 hr; exact ih1 k c (h.2.1 k c hk hc)
end Tr
open Classical in
noncomputable def Det {P:Program}{Y:Type}(t:Tr P Y):Option Y:=if h:∃ y,t.wpT (·=y) then some h.choose else none
theorem Det.ok{P:Program}{Y:Type}{t:Tr P Y}{y:Y}(h:Det t=some y):t.wpT (·=y):=by
 unfold Det at h;split at h
 all_goals grind
theorem Det.eq{P:Program}{Y:Type}{t:Tr P Y}{y:Y}(h:t.wpT (·=y)):Det t=some y:=by have hh:∃ y,t.wpT (·=y):=⟨y,h⟩;unfold Det;rw[dif_pos hh];obtain⟨z,h1,h2⟩:=t.wpT_ex (t.wpT_and h hh.choose_spec);rw[<-h1,h2]
structure Acc where
 calls:List (Nat×(Nat×List PV×PV×Hp×Option (Nat×bF)))
 lits:List (Nat×(Bool×Bool))
 conds:List (Nat×List Prop)
def Df:Acc:=⟨[],[],[]⟩
structure bLD (P:Program)(a:Acc):Prop where
 c:Wk P a.calls
 l:Ci a.lits
 p:tK a.conds
def bGL(fs:List (Nat->Bool)):List (Nat->Bool):=fs.map fun _ _=>true
def asks(b:Bool)(C:List Prop)(fs:List (Nat->Bool))(p:Prop):VT:=.and (vt b (All C) p) (vt b fs (bGL fs))
def Md{S:Type}(b:Bool)(tm:S->St)(v:S)(e:Exit)(s:St):VT:=
 match e with | .normal=>vt b (s.keep (dY (tm v).fr) (dY (tm v).hp)) (some (tm v)) | _=>bad b
def xC{Y:Type}(b:Bool)(lf:Y->Exit->St->VT)(ks:List Kf)(y:Y)(e:Exit)(s:St):VT:=
 match e with
 | .normal=>bad b
 | e=>match nrm 300 (.x e ks) with | .x e' []=>lf y e' s | _=>bad b
def bFX{S Y:Type}(b:Bool)(tm:S->St)(lf:Y->Exit->St->VT)(ks:List Kf):S⊕Y->Exit->St->VT
 | .inl v=>Md b tm v
 | .inr y=>xC b lf ks y
def aTU{R:Type}(b:Bool)(bt:R->St)(ex:Nat)(r:R)(e:Exit)(s:St):VT:=
 match e with
 | .exit i=>match Nat.beq i ex with | true=>vt b (s.keep (dY (bt r).fr) (dY (bt r).hp)) (some (bt r)) | false=>bad b
 | _=>bad b
def bJE{S R Y:Type}(b:Bool)(tm:S->St)(bt:R->St)(ex:Nat)(lf:Y->Exit->St->VT)(ks:List Kf):S⊕(R⊕Y)->Exit->St->VT
 | .inl v=>Md b tm v
 | .inr (.inl r)=>aTU b bt ex r
 | .inr (.inr y)=>xC b lf ks y
def aOW(m:Nat):Cfg->Cfg
 | .c x ks=>.c x (ks.take m)
 | .o all l ks=>.o all l (ks.take m)
 | .x e ks=>.x e (ks.take m)
def Sj(m:Nat):Cfg->List Kf
 | .c _ ks=>ks.drop m
 | .o _ _ ks=>ks.drop m
 | .x _ ks=>ks.drop m
def By(I:Inf)(all:List Oper)(op:Oper)(st:St):Option (Nat×Nat×List PV):=
 match op.op,op.dst,cC all op st with
 | .call c,some d,some true=>match c.callee,Nat.blt d I.nt with
  | .value f,true=>match ev st f,jT st c.args.toList with
   | some (.fn (.func k) nf caps),some aps=>some (d,k,caps.take nf++aps++caps.drop nf)
   | _,_=>none
  | _,_=>none
 | _,_,_=>none
def aKO:Op->Option (TypeId×Operand×Operand×Operand)
 | .mapUpdate t m k x=>some (t,m,k,x)
 | .insert t m k x=>some (t,m,k,x)
 | _=>none
theorem aSD{o:Op}{t:TypeId}{m k x:Operand}(h:aKO o=some (t,m,k,x)):o = .mapUpdate t m k x\/o = .insert t m k x:=by unfold aKO at h;split at h <;> first | (cases h; exact .inl rfl) | simp_all | cases h
def bEA(b:Bool)(st:St)(p q:PV):VT:=
 match p,q with
 | .nil,.t x=>vt b (aAO x) (some 0)
 | .own o,.t x=>match look st.hp o with | some (.arr _ _ n f)=>vt b (some (n,f)) x.view | _=>bad b
 | .t (.sl n f),.t (.sl m g)=>.and (vt b n m) (vt b ((List.range n).map f) ((List.range m).map g))
 | .agg l,.t (.agg r)=>gN b l r
 | p,q=>vt b p q
def oE(b:Bool)(st:St):List PV->List PV->VT
 | [],[]=>.ok
 | p::l,q::r=>.and (bEA b st p q) (oE b st l r)
 | _,_=>bad b
def kV:List PV->List PV->List Nat
 | .own o::l,.t _::r=>o::kV l r
 | _::l,_::r=>kV l r
 | _,_=>[]
def ch1:Option (Nat×bF)->Hp->Bool
 | none,_=>true
 | some (o,_),Hs=>inN o (dY Hs)
def bsI(I:Inf)(all:List Oper)(op:Oper)(st:St):Option (Nat×Nat×dT×Nat×List PV):=
 match op.op,op.dst,cC all op st with
 | .buildSlice t len parts,some d,some true=>match I.ti t,iF st parts.toList,Nat.blt d I.nt with
  | some i,some ps,true=>match i.und with
   | .sl e=>match I.ti e with
    | some j=>match Nat.ble (len*j.size) 16777216,Nat.ble 1 j.size,Nat.beq j.zero.length j.size,nU (fun i=>some (i*j.size,j.size)) (fR j (len*j.size)) ps with
     | true,true,true,some c=>match Nat.beq c.length (len*j.size) with | true=>some (d,e,j,len,c) | false=>none
     | _,_,_,_=>none
    | none=>none
   | _=>none
  | _,_,_=>none
 | _,_,_=>none
def aRH(I:Inf)(all:List Oper)(op:Oper)(st:St):Option (Nat×Bool×Nat):=
 match op.op,op.dst,cC all op st with
 | .binOp o t x y _,some d,some true=>match o,I.ti t,ev st x,ev st y,Nat.blt d I.nt with
  | .eql,some i,some (.t (.sl m _)),some .nil,true=>match i.und with | .sl _=>some (d,true,m) | _=>none
  | .neq,some i,some (.t (.sl m _)),some .nil,true=>match i.und with | .sl _=>some (d,false,m) | _=>none
  | .eql,some i,some (.own _),some .nil,true=>match i.und with | .sl _=>some (d,true,0) | _=>none
  | .neq,some i,some (.own _),some .nil,true=>match i.und with | .sl _=>some (d,false,0) | _=>none
  | _,_,_,_,_=>none
 | _,_,_=>none
def Rl(I:Inf)(t:Nat):Option dT:=match I.ti t with | some i=>(match i.und with | .sl e=>I.ti e | _=>none) | none=>none
def aVY(I:Inf)(all:List Oper)(op:Oper)(st:St):Option (Nat×Nat×dT×Int):=
 match op.op,op.dst,cC all op st with
 | .call c,some d,some true=>match c.callee,c.args.toList,c.argTypes.toList with
  | .builtin .append,[s,x],[t,t']=>match I.ti t,I.ti t',ev st s,ev st x with
   | some i,some i',some .nil,some (.t (.int .i64 k))=>match i.und,i'.und with
    | .sl e,.int _=>match I.ti e with
     | some j=>match Nat.ble 1 j.size&&(Nat.ble 1 j.bytes&&Nat.beq j.zero.length j.size) with
      | true=>some (d,e,j,k)
      | false=>none
     | none=>none
    | _,_=>none
   | _,_,_,_=>none
  | _,_,_=>none
 | _,_,_=>none
def aUV(I:Inf)(all:List Oper)(op:Oper)(st:St):Option (Nat×Nat×dT×Int×Int):=
 match op.op,op.dst,cC all op st with
 | .makeSlice t l c,some d,some true=>match I.ti t,ev st l,ev st c with
  | some i,some (.t (.int .i64 lv)),some (.t (.int .i64 cv))=>match i.und with
   | .sl e=>match I.ti e with
    | some j=>match Nat.ble 1 j.size&&(Nat.ble 1 j.bytes&&Nat.beq j.zero.length j.size) with
     | true=>some (d,e,j,lv,cv)
     | false=>none
    | none=>none
   | _=>none
  | _,_,_=>none
 | _,_,_=>none
def aLL(all:List Oper)(op:Oper):Option Nat:=
 match op.guard with
 | some (j,_)=>match all[j]? with | some oj=>oj.dst | none=>none
 | none=>none
def bBO(st:St)(d:Nat)(v:Bool):St:={ st with fr:=(d,.t (.bool v))::del d st.fr }
def drS(I:Inf)(L l:List Oper)(acc:Acc)(st:St)(ts:List Nat)(ol:OL):St:=
 stP st (iV st.fr ts) L (Yl I L l acc.calls acc.lits st ts ol) ol (fun j=>Nat.blt j l.length)
def drV(P:Program)(I:Inf)(b:Bool)(L l tl:List Oper)(acc:Acc)(st:St)(ts:List Nat)(ol:OL):VT:=
 let lo:=Yl I L l acc.calls acc.lits st ts ol
 .and (vt b (wfL L l tl (Wd (Xi l) []) st ts (iV st.fr ts) lo ol&&aKB acc.lits lo) true) (.and (vt b (P.follows .mixedOrders) true)
  (vt b (aJK I L acc.calls st (iV st.fr ts) lo ol (Wd (Xi l) []) 0 l) (aGH L acc.calls acc.lits acc.conds st (iV st.fr ts) lo ol (Wd (Xi l) []) 0 l)))
def Lq(I:Inf)(all:List Oper)(op:Oper)(st:St):Option (Nat×Nat×Nat×PV):=
 match op.op,op.dst,cC all op st with
 | .lookup t x kx false,some d,some true=>match Nat.blt d I.nt,ev st x,ev st kx with
  | true,some (.map ob),some kp=>some (d,t,ob,kp)
  | _,_,_=>none
 | _,_,_=>none
def aBZ(I:Inf)(all:List Oper)(op:Oper)(st:St):Option (Nat×Nat):=
 match op.op,op.dst,cC all op st with
 | .next x false,some d,some true=>match Nat.blt d I.nt,ev st x with
  | true,some (.ptr di 0)=>some (d,di)
  | _,_=>none
 | _,_,_=>none
def aAP(di:Nat):Hp->Option Nat
 | []=>none
 | (o,.mp (some i) _ _)::l=>match Nat.beq i.o di with | true=>some o | false=>aAP di l
 | _::l=>aAP di l
def aYA{K:Type}:List (K×Nat)->(Nat->VT)->VT
 | [],_=>.ok
 | p::l,f=>.and (f p.2) (aYA l f)
theorem aDT{K:Type}{f g:Nat->VT}:∀ {l:List (K×Nat)},aYA l f=aYA l g->∀ p,p∈l->f p.2=g p.2
 | [],_,_,hp=>by cases hp
 | q::l,h,p,hp=>by
  obtain⟨h1,h2⟩:=aP h;rcases bH.1 hp with rfl | hp
  ·exact h1
  ·exact aDT h2 p hp
theorem aRK{K V:Type}[MKey K]{v:List (K×V)}{k:K}{c:V}(h:cB v k=some c):∃ k',(k',c)∈v:=by
 induction v with
 | nil=>cases h
 | cons p v ih=>simp only[cB]at h;grind
def bLN(r:PV)(H:Hp):Option (Nat×List (T×Mem)):=match r with
 | .map o=>match look H o with | some (.mp none m none)=>some (o,m) | _=>none
 | _=>none
def bKG(d o:Nat)(Hs:Hp)(N:List Nat):Bool:=!(inN d (dY Hs)) && !(inN o (dY Hs))&&(Hs.all fun e=>tW e.2.names [d]) && !(inN d N)&&rH (.map d) ((d,.mp none [] none)::Hs) (N++[d])
def chk(P:Program)(I:Inf)(b:Bool):{Y:Type}->Tr P Y->(Y->Exit->St->VT)->Acc->Cfg->St->VT
 | _,.ret n y,lf,_,g,st=>match run I n g st with
  | some (.x e [],st',C,fs)=>.and (asks b C fs True) (lf y e st')
  | _=>bad b
 | _,.ite n c t e,lf,acc,g,st=>match run I n g st with
  | some (.c (.cond x u v) ks,st',C,fs)=>.and (asks b C fs True) (.and (vt b (ev st' x) (some (.t (.bool c)))) (.and (chk P I b t lf acc (.c u ks) st') (chk P I b e lf acc (.c v ks) st')))
  | some (.o all (op::l) ks,st',C,fs)=>match aLL all op with
   | some d=>.and (asks b C fs True) (.and (vt b (look st'.fr d) (some (.t (.bool c)))) (.and (chk P I b t lf acc (.o all (op::l) ks) (bBO st' d true)) (chk P I b e lf acc (.o all (op::l) ks) (bBO st' d false))))
   | none=>bad b
  | _=>bad b
 | _,@Tr.grd _ _ n p _ t,lf,acc,g,st=>match run I n g st with
  | some (g',st',C,fs)=>.and (asks b C fs p) (chk P I b t lf acc g' st')
  | none=>bad b
 | _,.gd n p _ t,lf,acc,g,st=>match run I n g st with
  | some (g',st',C,fs)=>.and (asks b C fs p) (chk P I b t lf acc g' st')
  | none=>bad b
 | _,.cv n l t,lf,acc,g,st=>match run I n g st with
  | some (g',st',C,fs)=>.and (asks b C fs True) (.and (aSG I b l st') (match cvL I l st' with | some st''=>chk P I b t lf acc g' st'' | none=>bad b))
  | none=>bad b
 | _,@Tr.foc _ _ _ inh n o q i j c xs t,lf,acc,g,st=>match run I n g st with
  | some (g',st',C,fs)=>.and (asks b C fs True) (match look st'.hp o with
   | some (.arm e s n' f none)=>.and (vt b (n',f) (xs.length,@mV _ inh c xs)) (match (c (xs.getD i default))[j]? with
    | some (.row e' s' m f')=>match qU I.N o q (.arm e s xs.length (sE (@mV _ inh c xs) i j .any) (some (i,j,.own q))) (.arr e' s' m f') st' with
     | some s2=>chk P I b t lf acc g' s2
     | none=>bad b
    | _=>bad b)
   | _=>bad b)
  | none=>bad b
 | _,.no,_,_,_,_=>.ok
 | _,@Tr.ca _ _ _ n k bps _ ret _ B,lf,acc,g,st=>match run I n g st with
  | some (.o all (op::l) ks,st',C,fs)=>match By I all op st' with
   | some (d,k',as)=>.and (asks b C fs True) (.and (vt b k' k) (.and (oE b st' as bps) (.all fun r=>.and (vt b (Ip (kV as bps) (ret r)) true) (chk P I b (B r) lf acc (.o all l ks) (st'.put d (ret r))))))
   | none=>bad b
  | _=>bad b
 | _,@Tr.cas _ _ n k bps _ ret _ m B,lf,acc,g,st=>match run I n g st with
  | some (.o all (op::l) ks,st',C,fs)=>match By I all op st' with
   | some (d,k',as)=>.and (asks b C fs True) (.and (vt b k' k) (.and (oE b st' as bps)
     (Nat.rec (motive:=fun _=>VT) .ok (fun r acc'=>.and (.and (vt b (Ip (kV as bps) (ret r)) true) (chk P I b (B r) lf acc (.o all l ks) (st'.put d (ret r)))) acc') m)))
   | none=>bad b
  | _=>bad b
 | _,@Tr.ch _ _ _ cur n k bps Hs N _ ret Ht nw _ B,lf,acc,g,st=>match run I n g st with
  | some (.o all (op::l) ks,st',C,fs)=>match By I all op st' with
   | some (d,k',as)=>.and (asks b C fs True) (.and (vt b k' k) (.and (oE b ⟨st'.fr,[]⟩ as bps) (.and (vt b (nD st'.hp (dY Hs)) (some Hs)) (.and (vt b (qR st' (dY Hs) I.N nw) true)
     (cur.all fun r=>.and (vt b (rH (ret r) (Ht r) (N++nw)) true) (chk P I b (B r) lf acc (.o all l ks) (({ fr:=st'.fr,hp:=Ht r++rY st'.hp (dY Hs) }:St).put d (ret r))))))))
   | none=>bad b
  | _=>bad b
 | _,@Tr.jn _ _ _ cur n m tm A B,lf,acc,g,st=>match run I n g st with
  | some (g',st',C,fs)=>.and (asks b C fs True) (.and (chk P I b A (Md b tm) Df (aOW m g') st') (cur.all fun v=>chk P I b (B v) lf acc (.x .normal (Sj m g')) (tm v)))
  | none=>bad b
 | _,@Tr.pc _ _ _ cur n m tm A B,lf,acc,g,st=>match run I n g st with
  | some (g',st',C,fs)=>.and (asks b C fs True) (.and (chk P I b A (bFX b tm lf (Sj m g')) Df (aOW m g') st') (cur.all fun v=>chk P I b (B v) lf acc (.x .normal (Sj m g')) (tm v)))
  | none=>bad b
 | _,@Tr.lp _ _ _ _ curS curR n tm bt ex s0 L B,lf,acc,g,st=>match run I n g st with
  | some (.c (.loop c) ks,st',C,fs)=>.and (asks b C fs True) (.and (vt b (st'.keep (dY (tm s0).fr) (dY (tm s0).hp)) (some (tm s0)))
    (.and (curS.all fun s=>chk P I b (L s) (bJE b tm bt ex lf ks) Df (.c c []) (tm s)) (curR.all fun r=>chk P I b (B r) lf acc (.x (.exit ex) ks) (bt r))))
  | _=>bad b
 | _,.sp n t r m a e,lf,acc,g,st=>match run I n g st with
  | some (g',st',C,fs)=>.and (asks b C fs True) (.and (vt b (look st'.fr t) (some (.t (.int .i64 r)))) (.and (chk P I b a lf acc g' { st' with fr:=(t,.t (.int .i64 m))::del t st'.fr }) (chk P I b e lf acc g' st')))
  | none=>bad b
 | _,@Tr.slc _ _ _ i n t c xs lo hi k,lf,acc,g,st=>match run I n g st with
  | some (g',st',C,fs)=>.and (asks b C fs (0<=lo/\lo<=hi/\hi<=(xs.length:Int))) (.and (vt b (look st'.fr t) (some (.t (.sl (hi-lo).toNat (fun j=>@eF _ i c xs (lo.toNat+j))))))
    (chk P I b k lf acc g' { st' with fr:=(t,.t (@eL _ i c ((xs.drop lo.toNat).take (hi-lo).toNat)))::del t st'.fr }))
  | none=>bad b
 | _,@Tr.sto _ _ _ i n o c xs l k,lf,acc,g,st=>match run I n g st with
  | some (g',st',C,fs)=>match look st'.hp o with
   | some (.arr e s n' f)=>.and (asks b C fs True) (.and (vt b (n',f) (xs.length,l.foldl (fun f p=>Iz f p.1 (c p.2)) (@eF _ i c xs)))
    (chk P I b k lf acc g' { st' with hp:=(o,.arr e s (l.foldl (fun xs p=>xs.set p.1 p.2) xs).length (@eF _ i c (l.foldl (fun xs p=>xs.set p.1 p.2) xs)))::del o st'.hp }))
   | _=>bad b
  | none=>bad b
 | _,@Tr.cut _ _ _ i n c xs hi k,lf,acc,g,st=>match run I n g st with
  | some (.o all (op::l) ks,st',C,fs)=>match op.op,op.dst,cC all op st' with
   | .slice t x lo hx none,some d,some true=>match ev st' x with
    | some (.own q)=>match look st'.hp q,st'.erase q,Rl I t with
     | some (.arr e s n' f),some st1,some _=>match gL I st1 d (.arr e s hi.toNat f) (.own d) with
      | some s2=>.and (asks b C fs True) (.and (vt b (n',f) (xs.length,@eF _ i c xs)) (.and (vt b (fV st' 0 lo) (some 0)) (.and (vt b (fV st' n' hx) (some hi))
        (chk P I b k lf acc (.o all l ks) { s2 with hp:=(d,.arr e s (xs.take hi.toNat).length (@eF _ i c (xs.take hi.toNat)))::del d s2.hp }))))
      | none=>bad b
     | _,_,_=>bad b
    | _=>bad b
   | _,_,_=>bad b
  | _=>bad b
 | _,@Tr.clr _ _ _ i n c xs lo k,lf,acc,g,st=>match run I n g st with
  | some (.o all (o1::o2::l) ks,st',C,fs)=>match o1.op,o1.dst,cC all o1 st',o2.op,o2.guard,o2.dst with
   | .slice t x lx none none,some d,some true,.call cl,none,none=>match cl.callee,cl.args.toList,cl.argTypes[0]? with
    | .builtin .clear,[.tmp d'],some t2=>match ev st' x,Rl I t,Nat.blt d I.nt with
     | some (.own q),some j,true=>match look st'.hp q with
      | some (.arr e s n' f)=>.and (asks b C fs True) (.and (vt b (n',f) (xs.length,@eF _ i c xs)) (.and (vt b (fV st' 0 lx) (some lo)) (.and (vt b (d',t2) (d,t)) (.and (vt b (j.size,Nat.ble 1 s,Nat.beq j.zero.length j.size,j.zero.all PV.one) (s,true,true,true)) (.and (gN b j.zero (c i.default))
        (chk P I b k lf acc (.o all l ks) (({ st' with hp:=(q,.arr e s (xs.take lo.toNat++List.replicate (xs.length-lo.toNat) i.default).length (@eF _ i c (xs.take lo.toNat++List.replicate (xs.length-lo.toNat) i.default)))::del q st'.hp }:St).put d .any)))))))
      | _=>bad b
     | _,_,_=>bad b
    | _,_,_=>bad b
   | _,_,_,_,_,_=>bad b
  | _=>bad b
 | _,@Tr.apz _ _ _ i n c byt m k,lf,acc,g,st=>match run I n g st with
  | some (.o all (op::l) ks,st',C,fs)=>match aVY I all op st' with
   | some (d,e,j,k')=>match gL I st' d (.arr e j.size m.toNat (fun _=>c i.default)) (.own d) with
    | some s2=>.and (asks b C fs True) (.and (vt b (k',j.bytes) (m,byt)) (.and (gN b j.zero (c i.default))
      (chk P I b k lf acc (.o all l ks) { s2 with hp:=(d,.arr e j.size (List.replicate m.toNat i.default).length (@eF _ i c (List.replicate m.toNat i.default)))::del d s2.hp })))
    | none=>bad b
   | none=>bad b
  | _=>bad b
 | _,@Tr.mks _ _ _ i n c byt lv cv k,lf,acc,g,st=>match run I n g st with
  | some (.o all (op::l) ks,st',C,fs)=>match aUV I all op st' with
   | some (d,e,j,lv',cv')=>match gL I st' d (.arr e j.size lv.toNat (fun _=>c i.default)) (.own d) with
    | some s2=>.and (asks b C fs True) (.and (vt b (lv',cv',j.bytes) (lv,cv,byt)) (.and (gN b j.zero (c i.default))
      (chk P I b k lf acc (.o all l ks) { s2 with hp:=(d,.arr e j.size (List.replicate lv.toNat i.default).length (@eF _ i c (List.replicate lv.toNat i.default)))::del d s2.hp })))
    | none=>bad b
   | none=>bad b
  | _=>bad b
 | _,.abl n e k,lf,acc,g,st=>match run I n g st with
  | some (.o all (op::l) ks,st',C,fs)=>match op.op,op.dst,cC all op st' with
   | .alloc t,some d,some true=>match Nat.blt d I.nt,pV d I.N,st'.erase d,I.ti t with
    | true,true,some st1,some i=>.and (asks b C fs True) (.and (vt b i.zero [.np,.nil]) (chk P I b k lf acc (.o all l ks) (({ st1 with hp:=(d,.bld t e ⟨#[]⟩)::st1.hp }:St).put d (.ptr d 0))))
    | _,_,_,_=>bad b
   | _,_,_=>bad b
  | _=>bad b
 | _,@Tr.bs _ _ _ i n own c xs t,lf,acc,g,st=>match run I n g st with
  | some (.o all (op::l) ks,st',C,fs)=>match bsI I all op st' with
   | some (d,e,j,len,cs)=>.and (asks b C fs True) (.and (gN b cs (xs.flatMap c)) (.and (vt b len xs.length) (.and (vt b ((List.range len).map (jJ (xs.flatMap c) j.size)) ((List.range len).map (@eF _ i c xs)))
     (match own with
      | false=>chk P I b t lf acc (.o all l ks) (st'.put d (.t (@eL _ i c xs)))
      | true=>match gL I st' d (.arr e j.size len (jJ (xs.flatMap c) j.size)) (.own d) with
       | some s2=>chk P I b t lf acc (.o all l ks) { s2 with hp:=(d,.arr e j.size xs.length (@eF _ i c xs))::del d s2.hp }
       | none=>bad b))))
   | none=>bad b
  | _=>bad b
 | _,.ndb n m a e,lf,acc,g,st=>match run I n g st with
  | some (.o all (op::l) ks,st',C,fs)=>match aRH I all op st' with
   | some (d,o,m')=>.and (asks b C fs True) (.and (vt b m' m) (.and (chk P I b a lf acc (.o all l ks) (st'.put d (.t (.bool o)))) (chk P I b e lf acc (.o all l ks) (st'.put d (.t (.bool (!o)))))))
   | none=>bad b
  | _=>bad b
 | _,@Tr.dc _ _ _ j as k bps _ ret _ B,lf,acc,g,st=>.and (oE b ⟨[],[]⟩ as bps) (.and (vt b (Nat.blt k cN) true) (.all fun r=>.and (vt b (ret r).pure true) (chk P I b (B r) lf { acc with calls:=(j,k,as,ret r,[],none)::acc.calls } g st)))
 | _,@Tr.dch _ _ _ j as k bps Hs N _ ret Ht _ ch B,lf,acc,g,st=>.and (oE b ⟨[],[]⟩ as bps) (.and (vt b (Nat.blt k cN) true) (.all fun r=>.and (vt b (ret r).pure true) (.and (vt b (Ht r) (aVM Hs (ch r))) (.and (vt b (rH (ret r) (aVM Hs (ch r)) N) true)
   (.and (vt b (ch1 (ch r) Hs) true) (chk P I b (B r) lf { acc with calls:=(j,k,as,ret r,Hs,ch r)::acc.calls } g st))))))
 | _,@Tr.dcn _ _ _ j d as k bps Hs N _ ret Ht _ B,lf,acc,g,st=>.and (oE b ⟨[],[]⟩ as bps) (.and (vt b (Nat.blt k cN) true) (.and (vt b Hs []) (.and (vt b N []) (.all fun r=>match Ht r,ret r with
   | [(o,.arr e s n f)],.own o'=>.and (vt b o o') (chk P I b (B r) lf { acc with calls:=(j,k,as,.own d,[],some (d,.arr e s n f))::acc.calls } g st)
   | _,_=>bad b))))
 | _,@Tr.dcm _ _ _ j d as k bps Hs N _ ret Ht _ B,lf,acc,g,st=>.and (oE b ⟨[],[]⟩ as bps) (.and (vt b (Nat.blt k cN) true) (.all fun r=>match bLN (ret r) (Ht r) with
   | some (o,m)=>.and (vt b (Ht r) (Hs++[(o,.mp none m none)])) (.and (vt b (ret r) (.map o)) (.and (vt b (bKG d o Hs N) true) (chk P I b (B r) lf { acc with calls:=(j,k,as,.map d,Hs,some (d,.mp none m none))::acc.calls } g st)))
   | none=>bad b))
 | _,@Tr.dap _ _ j n f x _ t,lf,acc,g,st=>chk P I b t lf { acc with calls:=(j,fzN,[.t (.sl n f)],.t x,[],none)::acc.calls } g st
 | _,@Tr.dlk _ _ K mk j ty ob v k t1,lf,acc,g,st=>.and (vt b (((pS I.ti ty (MKey.kT k)).bind P.info?).bind (·.zero)) (some .nilFunc))
   (aYA v fun c=>chk P I b (t1 c) lf { acc with calls:=(j,lkN+ty,[.map ob,.t (MKey.kT k)],.fn (.func c) 0 [],[(ob,.mp none (@eM K Nat mk (fun c=>.d (.fv c)) v) none)],none)::acc.calls } g st)
 | _,.dl j c t e,lf,acc,g,st=>.and (chk P I b t lf { acc with lits:=(j,c,true)::acc.lits } g st) (chk P I b e lf { acc with lits:=(j,c,false)::acc.lits } g st)
 | _,@Tr.dg _ _ j p _ t,lf,acc,g,st=>chk P I b t lf { acc with conds:=(j,[p])::acc.conds } g st
 | _,.dr n e ol ts t,lf,acc,g,st=>match run I n g st with
  | some (.c (.region _ ops true) ks,st',C,fs)=>.and (asks b C fs True) (.and (drV P I b ops.toList (ops.toList.take (ops.toList.length-e)) (ops.toList.drop (ops.toList.length-e)) acc st' ts ol)
    (match (drS I ops.toList (ops.toList.take (ops.toList.length-e)) acc st' ts ol).keep (dY (drS I ops.toList (ops.toList.take (ops.toList.length-e)) acc st' ts ol).fr) (dY (drS I ops.toList (ops.toList.take (ops.toList.length-e)) acc st' ts ol).hp) with
     | some s=>chk P I b t lf Df (.o ops.toList (ops.toList.drop (ops.toList.length-e)) ks) s
     | none=>bad b))
  | _=>bad b
 | _,@Tr.mk _ _ K V mk n enc t,lf,acc,g,st=>match run I n g st with
  | some (.o all (op::l) ks,st',C,fs)=>match op.op,op.dst,cC all op st' with
   | .makeMap _ none,some d,some true=>match Nat.blt d I.nt,pV d I.N,st'.erase d with
    | true,true,some st1=>.and (asks b C fs True) (chk P I b t lf acc (.o all l ks) (({ st1 with hp:=(d,.mp none (@eM K V mk enc []) none)::st1.hp }:St).put d (.map d)))
    | _,_,_=>bad b
   | _,_,_=>bad b
  | _=>bad b
 | _,@Tr.mlen _ _ K V mk n enc v t,lf,acc,g,st=>match run I n g st with
  | some (.o all (op::l) ks,st',C,fs)=>match op.op,op.dst,cC all op st' with
   | .call c,some d,some true=>match c.callee,c.args.toList,c.argTypes[0]?,Nat.blt d I.nt with
    | .builtin .len,[x],some ty,true=>match ev st' x with
     | some (.map ob)=>match look st'.hp ob with
      | some (.mp _ m ho)=>.and (asks b C fs True) (.and (vt b (Mj I.ti ty) true) (.and (vt b (m,ho) (@eM K V mk enc v,none)) (chk P I b t lf acc (.o all l ks) (st'.put d (.t (.int .i64 (v.length:Int)))))))
      | _=>bad b
     | _=>bad b
    | _,_,_,_=>bad b
   | _,_,_=>bad b
  | _=>bad b
 | _,@Tr.lkr _ _ K V mk n e s nn ff dflt v k t,lf,acc,g,st=>match run I n g st with
  | some (.o all (op::l) ks,st',C,fs)=>match Lq I all op st' with
   | some (d,ty,ob,kp)=>match look st'.hp ob,pS I.ti ty (MKey.kT k) with
    | some (.mp it m ho),some et=>.and (asks b C fs True) (.and (vt b kp (.t (MKey.kT k))) (.and (vt b (m,ho) (@eM K V mk (fun c=>.row e s (nn c) (ff c)) v,none)) (.and (vt b ((P.info? et).bind (·.zero)) (some (.slice none 0 0))) (.and (vt b (aKJ d it) true)
      (.and (vt b (nn dflt) 0)
       (match qU I.N ob d (.mp it (@eM K V mk (fun c=>.row e s (nn c) (ff c)) (mdel v k)) (some (MKey.kT k,none))) (.arr e s (nn ((cB v k).getD dflt)) (ff ((cB v k).getD dflt))) st' with
        | some s2=>chk P I b t lf acc (.o all l ks) (s2.put d (.own d))
        | none=>bad b))))))
    | _,_=>bad b
   | none=>bad b
  | _=>bad b
 | _,@Tr.lkd _ _ K V mk n zv eD v k t0 t1,lf,acc,g,st=>match run I n g st with
  | some (.o all (op::l) ks,st',C,fs)=>match Lq I all op st' with
   | some (d,ty,ob,kp)=>match look st'.hp ob,pS I.ti ty (MKey.kT k),rC zv with
    | some (.mp _ m ho),some et,some zp=>.and (asks b C fs True) (.and (vt b kp (.t (MKey.kT k))) (.and (vt b (m,ho) (@eM K V mk (fun c=>.d (eD c)) v,none)) (.and (vt b ((P.info? et).bind (·.zero)) (some zv))
      (.and (chk P I b t0 lf acc (.o all l ks) (st'.put d zp)) (.all fun c=>chk P I b (t1 c) lf acc (.o all l ks) (st'.put d (.t (eD c))))))))
    | _,_,_=>bad b
   | none=>bad b
  | _=>bad b
 | _,@Tr.upd _ _ K V mk n enc v k t,lf,acc,g,st=>match run I n g st with
  | some (.o all (op::l) ks,st',C,fs)=>match aKO op.op,op.dst,cC all op st' with
   | some (ty,x,kx,vx),none,some true=>match ev st' x,ev st' kx,ev st' vx with
    | some (.map ob),some kp,some p=>match look st'.hp ob,pS I.ti ty (MKey.kT k) with
     | some (.mp it m ho),some _=>.and (asks b C fs True) (.and (vt b kp (.t (MKey.kT k))) (.and (vt b (m,ho) (@eM K V mk enc v,some (MKey.kT k,none))) (.and (match it with | none=>.ok | some i=>vt b i.cur (some (MKey.kT k)))
       (chk P I b t lf acc (.o all l ks) { st' with hp:=(ob,.mp it (@eM K V mk enc v) (some (MKey.kT k,some p)))::del ob st'.hp }))))
     | _,_=>bad b
    | _,_,_=>bad b
   | _,_,_=>bad b
  | _=>bad b
 | _,@Tr.dlt _ _ K V mk n enc v k hp t,lf,acc,g,st=>match run I n g st with
  | some (.o all (op::l) ks,st',C,fs)=>match op.op,op.dst,cC all op st' with
   | .call c,none,some true=>match c.callee,c.args.toList,c.argTypes[0]? with
    | .builtin .delete,[x,kx],some ty=>match ev st' x,ev st' kx,pS I.ti ty (MKey.kT k) with
     | some (.map ob),some kp,some _=>match look st'.hp ob with
      | some (.mp it m ho)=>.and (asks b C fs True) (.and (vt b kp (.t (MKey.kT k))) (.and (vt b (m,ho) (@eM K V mk enc v,some (MKey.kT k,hp))) (.and (match it with | none=>.ok | some i=>vt b i.cur (some (MKey.kT k)))
        (chk P I b t lf acc (.o all l ks) { st' with hp:=(ob,.mp (Eu it) (@eM K V mk enc v) none)::del ob st'.hp }))))
      | _=>bad b
     | _,_,_=>bad b
    | _,_,_=>bad b
   | _,_,_=>bad b
  | _=>bad b
 | _,@Tr.rng _ _ K V mk n enc v t,lf,acc,g,st=>match run I n g st with
  | some (.o all (op::l) ks,st',C,fs)=>match op.op,op.dst,cC all op st' with
   | .range ty x,some d,some true=>match ev st' x,Nat.blt d I.nt with
    | some (.map ob),true=>match look st'.hp ob,Ze I.N ob d (.mp (some ⟨d,kTs (cU v),none⟩) (@eM K V mk enc v) none) st' with
     | some (.mp none m ho),some s2=>.and (asks b C fs True) (.and (vt b (Mj I.ti ty) true) (.and (vt b (m,ho) (@eM K V mk enc v,none)) (chk P I b t lf acc (.o all l ks) (s2.put d (.ptr d 0)))))
     | _,_=>bad b
    | _,_=>bad b
   | _,_,_=>bad b
  | _=>bad b
 | _,@Tr.nxd _ _ K V mk n eD v rem t0 t1,lf,acc,g,st=>match run I n g st with
  | some (.o all (op::l) ks,st',C,fs)=>match aBZ I all op st' with
   | some (d,di)=>match aAP di st'.hp with
    | some ob=>match look st'.hp ob with
     | some (.mp (some it) m ho)=>.and (asks b C fs True) (.and (vt b (it.o,it.rem) (di,@kTs K mk rem)) (.and (vt b (m,ho) (@eM K V mk (fun c=>.d (eD c)) v,none))
       (.and (chk P I b t0 lf acc (.o all l ks) (st'.put d (.tup [.t (.bool false)])))
        (.all fun k=>.all fun c=>chk P I b (t1 k c) lf acc (.o all l ks) (({ st' with hp:=(ob,.mp (some ⟨di,kTs (rem.erase k),some (MKey.kT k)⟩) (@eM K V mk (fun c=>.d (eD c)) (mdel v k)) (some (MKey.kT k,some (.t (eD c)))))::del ob st'.hp }:St).put d (.tup [.t (.bool true),.t (MKey.kT k),.t (eD c)]))))))
     | _=>bad b
    | none=>bad b
   | none=>bad b
  | _=>bad b
section
variable {P:Program} {E:Env} {I:Inf} {Q:iI} {st st':St}
theorem dG{C:List Prop}{fs:List (Nat->Bool)}{p:Prop}(h:asks true C fs p=asks false C fs p)(hp:p):All C/\∀ f,f∈fs->∀ i,f i=true:=by obtain⟨h1,h2⟩:=aP h;have h1:=bG h1;have h2:=bG h2;refine⟨h1.symm▸hp,fun f hf i=>?_⟩;rw[h2]at hf;obtain⟨_,_,rfl⟩:=dZ.1 hf;rfl
theorem Qp{c:Code}{Q1 Q2:iI}(h:pwp P E c Q1 st)(hq:∀ e s,Q1 e s->∃ t,Le E s t/\Q2 e t):pwp P E c Q2 st:=
 fun a w r=>wp_mono (h a w r) fun e _ _ ⟨s,hs,hr⟩=>let ⟨t,h1,h2⟩:=hq e s hs; ⟨t,h2,h1 _ _ hr⟩
theorem aQI{o:Oper}{a:Act}{w:World}{K K':Act->World->Prop}{Q Q':Exit->Act->World->Prop}(hk:∀ a w,K a w->K' a w)(hq:∀ e a w,Q e a w->Q' e a w)
  (hh:o.wp P a w K Q):o.wp P a w K' Q':=by
 unfold Oper.wp at *
 generalize (execOp a.eval o).run P w=r at *
 have hl:LetsOut Q->LetsOut Q':=fun⟨a,w,h⟩=>⟨a,w,hq _ _ _ h⟩;cases r with
 | ok n w'=>
  cases n <;> simp only[Oper.upon]at hh ⊢ <;>
   first
    | exact hk _ _ hh
    | exact Calls.mono hh (fun e w'' he=>by cases e <;> first | exact hk _ _ he | exact hq _ _ _ he | exact hl he)
    | exact Rows.mono hh (fun _ _ he=>hk _ _ he)
 | halt x w'=>cases x <;> simp only[Oper.upon]at hh ⊢ <;> first | simp_all | exact hh
theorem sU{ops:Array Oper}{Q Q':Exit->Act->World->Prop}(hq:∀ e a w,Q e a w->Q' e a w):∀ {l:List Oper} {a:Act} {w:World},wpList P ops Q l a w->wpList P ops Q' l a w
 | [],a,w,h=>hq _ _ _ h
 | o::rest,a,w,h=>by
  simp only[wpList]at h ⊢;split
  ·rename_i hw;rw[aB hw]at h;rcases h with h | ⟨h1,⟨a',w',h2⟩⟩
   ·exact .inl (aQI (fun _ _ h=>sU hq h) hq h)
   ·exact .inr ⟨h1,⟨a',w',hq _ _ _ h2⟩⟩
  ·rename_i hw;rw[aF hw]at h;exact sU hq h
theorem Bx{Q1 Q2:iI}(hq:∀ e s,Q1 e s->∃ t,Le E s t/\Q2 e t):∀ {ks:List Kf} {e:Exit} {s:St},kQ P E ks Q1 e s->∃ t,Le E s t/\kQ P E ks Q2 e t
 | [],e,s,h=>hq e s h
 | .s y::ks,e,s,h=>by
  unfold kQ at h ⊢;unfold He at h ⊢;cases e with
  | normal=>exact⟨s,.refl,Qp h fun e s h=>Bx hq h⟩
  | _=>exact Bx hq (ks:=ks) h
 | .b id::ks,e,s,h=>by
  unfold kQ at h ⊢;unfold nS at h ⊢;cases e with
  | exit i=>
   simp only at h ⊢;split at h
   ·rename_i hi; simp only[aB hi]; exact Bx hq h
   ·rename_i hi; simp only[aF hi]; exact Bx hq h
  | _=>exact Bx hq (ks:=ks) h
theorem Ft:∀ (m:Nat) (ks:List Kf),kQ P E ks Q=kQ P E (ks.take m) (kQ P E (ks.drop m) Q)
 | 0,ks=>by rfl
 | m+1,[]=>by rfl
 | m+1,.s y::ks=>by simp only[Jm,aFE,kQ]; rw[Ft m ks]
 | m+1,.b id::ks=>by simp only[Jm,aFE,kQ]; rw[Ft m ks]
theorem aMC{m:Nat}{g:Cfg}{Q1:iI}(h:cwp P E (aOW m g) Q1 st)(hq:∀ e s,Q1 e s->∃ t,Le E s t/\kQ P E (Sj m g) Q e t):cwp P E g Q st:=by
 cases g with
 | c x ks=>show pwp P E x (kQ P E ks Q) st;rw[Ft m ks];exact Qp h fun e s h=>Bx hq h
 | o all l ks=>show eV P E all (kQ P E ks Q) l st;rw[Ft m ks];exact fun a w r=>sU (fun e a w ⟨s,hs,hr⟩=>let ⟨t,h1,h2⟩:=Bx hq hs; ⟨t,h2,h1 _ _ hr⟩) (h a w r)
 | x e ks=>obtain⟨t,h1,h2⟩:=h;show ∃ t,Le E st t/\kQ P E ks Q e t;rw[Ft m ks];obtain⟨u,h3,h4⟩:=Bx hq h2;exact⟨u,h1.trans h3,h4⟩
def Cb(P:Program)(c:Code)(Q:Exit->Act->World->Prop)(a:Act)(w:World):Prop:=
 ∀ b k cs,∃ e a' w',Q e a' w'/\Arrives P (lone (b.at a (.code c :: .inLoop c::k)) cs w) b k cs e a' w'
theorem Cb.of{c:Code}{Q:Exit->Act->World->Prop}{a:Act}{w:World}(h:c.wp P (Exit.then (Cb P c Q) Q) a w):Cb P c Q a w:=by
 intro b k cs;obtain⟨e,a₁,w₁,hq,harr⟩:=h b (.inLoop c::k) cs;cases e with
 | normal=>obtain⟨e₂,a₂,w₂,hq₂,harr₂⟩:=hq b k cs;exact⟨e₂,a₂,w₂,hq₂,.of_steps (Steps.trans harr (.one step_inLoop)) harr₂⟩
 | exit id=>exact⟨_,a₁,w₁,hq,.pass (x:=.inLoop c) rfl (fun _ _=>.inl (by simp)) harr⟩
 | goto l=>exact⟨_,a₁,w₁,hq,.pass (x:=.inLoop c) rfl (fun _ _=>.inl (by simp)) harr⟩
 | ret=>exact⟨_,a₁,w₁,hq,.pass (x:=.inLoop c) rfl (fun _ _=>.inl (by simp)) harr⟩
 | panic ch=>exact⟨_,a₁,w₁,hq,.pass (x:=.inLoop c) rfl (fun _ _=>.inl (by simp)) harr⟩
 | outgrown=>exact⟨_,a₁,w₁,hq,.pass (x:=.inLoop c) rfl (fun _ _=>.inl (by simp)) harr⟩
theorem Cb.loop{c:Code}{Q:Exit->Act->World->Prop}{a:Act}{w:World}(h:Cb P c Q a w):(Code.loop c).wp P Q a w:=by intro b k cs;obtain⟨e,a',w',hq,harr⟩:=h b k cs;exact⟨e,a',w',hq,.of_steps (.one step_loop) harr⟩
def aSP{S R:Type}(E:Env)(tm:S->St)(Out:R->iI):S⊕R->iI
 | .inl s',e,s=>e = .normal/\Le E s (tm s')
 | .inr r,e,s=>e ≠ .normal/\Out r e s
theorem aJF{c:Code}{S R:Type}{b:S->(S⊕R->Prop)->Prop}{tm:S->St}{Out:R->iI}{Q':R->Prop}(hb:∀ s (Z:S⊕R->Prop),b s Z->pwp P E c (fun e st=>∃ z,Z z/\aSP E tm Out z e st) (tm s))
  {s0:S}(h:Tr.LoopT b Q' s0)(hq:∀ r e st,Q' r->Out r e st->∃ t,Le E st t/\Q e t):pwp P E (.loop c) Q (tm s0):=by
 intro a w r;refine Cb.loop ?_;refine h (fun s=>∀ a w,Rel E (tm s) a w->Cb P c (sH E Q) a w) (fun s hs a w r=>Cb.of (wp_mono (hb s _ hs a w r) fun e a' w' ⟨st',⟨z,hz,hm⟩,hr⟩=>?_)) a w r;cases z with
 | inl s'=>obtain⟨rfl,hle⟩:=hm; exact hz a' w' (hle _ _ hr)
 | inr r'=>
  obtain⟨hne,hm⟩:=hm;obtain⟨t,h1,h2⟩:=hq r' e st' hz hm;cases e with
  | normal=>simp_all
  | _=>exact⟨t,h2,h1 _ _ hr⟩
theorem Oc{t s:St}(h:s.keep (dY t.fr) (dY t.hp)=some t):Le E s t:=Le.keep h
theorem pP{S:Type}{tm:S->St}{v:S}{e:Exit}{s:St}(h:Md true tm v e s=Md false tm v e s):e = .normal/\Le E s (tm v):=by
 unfold Md at h;split at h
 ·exact⟨rfl,Oc (bG h)⟩
 ·exact(aN h).elim
theorem Mm{Y:Type}{lt lf:Y->Exit->St->VT}{ks:List Kf}{y:Y}{e:Exit}{s:St}(h:xC true lt ks y e s=xC false lf ks y e s)(hl:∀ e s,lt y e s=lf y e s->∃ u,Le E s u/\Q e u):
  e ≠ .normal/\∃ t,Le E s t/\kQ P E ks Q e t:=by
 unfold xC at h;cases e with
 | normal=>exact(aN h).elim
 | _=>
  refine⟨by simp,?_⟩;simp only at h;split at h
  ·rename_i e' hn;obtain⟨u,h1,h2⟩:=hl _ _ h;show cwp P E (.x _ ks) Q s;refine Hh (n:=300) ?_;rw[hn];exact⟨u,h1,h2⟩
  ·exact(aN h).elim
theorem aZT{R:Type}{bt:R->St}{ex:Nat}{r:R}{e:Exit}{s:St}(h:aTU true bt ex r e s=aTU false bt ex r e s):e = .exit ex/\Le E s (bt r):=by
 unfold aTU at h;split at h
 ·split at h
  ·rename_i hi;have:=bX hi;subst this;exact⟨rfl,Oc (bG h)⟩
  ·exact(aN h).elim
 ·exact(aN h).elim
theorem En{all:List Oper}{op:Oper}{d k:Nat}{as:List PV}(h:By I all op st=some (d,k,as)):∃ c f nf caps aps,op.op = .call c/\c.callee = .value f/\op.dst=some d/\cC all op st=some true/\Nat.blt d I.nt=true /\
  ev st f=some (.fn (.func k) nf caps)/\jT st c.args.toList=some aps/\as=caps.take nf++aps++caps.drop nf:=by
 unfold By at h;grind
theorem Uj:∀ {as bps:List PV},oE true st as bps=oE false st as bps->mH st (kV as bps) as bps:=by
 have key:∀ {as bps:List PV},oE true st as bps=oE false st as bps->∀ L,(∀ o,o∈kV as bps->o∈L)->mH st L as bps:=by
  intro as
  induction as with
  | nil=>intro bps h L _; cases bps with | nil=>exact .nil | cons q r=>exact(aN h).elim
  | cons p l ih=>
   intro bps h L hL;cases bps with
   | nil=>exact(aN h).elim
   | cons q r=>
    obtain⟨h1,h2⟩:=aP h;have hsame:∀ {p q:PV},vt true p q=vt false p q->Xh st L p q:=fun h=>by have h:=bG h; subst h; exact .same _
    have h2':(∀ o,o∈kV l r->o∈L)->mH st L l r:=fun hh=>ih h2 L hh;unfold bEA at h1;split at h1
    ·rename_i x;refine .cons ?_ (h2' fun o ho=>hL o (by simpa[kV] using ho));have h1:=bG h1;unfold aAO at h1;split at h1
     ·rename_i n f hv; cases h1; exact .nil hv
     ·cases h1
    ·rename_i o x;refine .cons ?_ (h2' fun o ho=>hL o (by simp[kV,ho]));split at h1
     ·rename_i e s n f hl;exact .lend (hL _ (by simp[kV])) hl (bG h1).symm
     ·exact(aN h1).elim
    ·rename_i n f m g;obtain⟨h3,h4⟩:=aP h1;have h3:=bG h3;subst h3;refine .cons (.imp (Cw rfl rfl (jG (bG h4)))) (h2' fun o' ho'=>hL o' (by simp[kV,ho']))
    ·rename_i l' r';exact .cons (.imp (Yr (gD h1))) (h2' fun o' ho'=>hL o' (by simp[kV,ho']))
    ·rename_i hn ho hsl;refine .cons (hsame h1) (h2' fun o' ho'=>hL o' ?_);cases p <;> simp[kV,ho']
 simp_all
theorem qK{fr:Fr}:∀ {as bps:List PV},oE true ⟨fr,[]⟩ as bps=oE false ⟨fr,[]⟩ as bps->∀ st,mH st [] as bps:=by
 intro as
 induction as with
 | nil=>intro bps h st; cases bps with | nil=>exact .nil | cons q r=>exact(aN h).elim
 | cons p l ih=>
  intro bps h st;cases bps with
  | nil=>exact(aN h).elim
  | cons q r=>
   obtain⟨h1,h2⟩:=aP h;refine .cons ?_ (ih h2 st);unfold bEA at h1;split at h1
   ·rename_i x;have h1:=bG h1;unfold aAO at h1;split at h1
    ·rename_i n f hv; cases h1; exact .nil hv
    ·cases h1
   ·simp[look]at h1; exact(aN h1).elim
   ·rename_i n f m g;obtain⟨h3,h4⟩:=aP h1;have h3:=bG h3;subst h3;exact .imp (Cw rfl rfl (jG (bG h4)))
   ·exact .imp (Yr (gD h1))
   ·have h1:=bG h1; subst h1; exact .same _
theorem Vq{all:List Oper}{op:Oper}{d t ob:Nat}{kp:PV}(h:Lq I all op st=some (d,t,ob,kp)):∃ x kx,op.op = .lookup t x kx false/\op.dst=some d/\cC all op st=some true/\Nat.blt d I.nt=true/\ev st x=some (.map ob)/\ev st kx=some kp:=by unfold Lq at h;grind
theorem aKQ{all:List Oper}{op:Oper}{d di:Nat}(h:aBZ I all op st=some (d,di)):∃ x,op.op = .next x false/\op.dst=some d/\cC all op st=some true/\Nat.blt d I.nt=true/\ev st x=some (.ptr di 0):=by unfold aBZ at h;grind
theorem aPS{all:List Oper}{op:Oper}{d e len:Nat}{j:dT}{c:List PV}(h:bsI I all op st=some (d,e,j,len,c)):∃ t parts i ps,op.op = .buildSlice t len parts/\op.dst=some d/\cC all op st=some true/\Nat.blt d I.nt=true /\
  I.ti t=some i/\i.und = .sl e/\I.ti e=some j/\iF st parts.toList=some ps/\len*j.size<=16777216/\1<=j.size/\j.zero.length=j.size/\nU (fun i=>some (i*j.size,j.size)) (fR j (len*j.size)) ps=some c/\c.length=len*j.size:=by
 unfold bsI at h;split at h
 case h_2=>cases h
 rename_i t len' parts d' h1 h2 h3;split at h
 case h_2=>cases h
 rename_i i ps h4 h5 h6;split at h
 case h_2=>cases h
 rename_i e' h7;split at h
 case h_2=>cases h
 rename_i j' h8;split at h
 case h_2=>cases h
 rename_i c' h9 h10 h11 h12;split at h
 ·rename_i h13;cases h;exact⟨t,parts,i,ps,h1,h2,h3,h6,h4,h7,h8,h5,fY h9,fY h10,bX h11,h12,bX h13⟩
 ·cases h
theorem bII{c:Option (Nat×bF)}{Hs:Hp}(h:ch1 c Hs=true):∀ d,c=some d->d.1∈dY Hs:=by rintro⟨o,x⟩ rfl;exact dW.1 h
theorem aVU{all:List Oper}{op:Oper}{d m:Nat}{ng:Bool}(h:aRH I all op st=some (d,ng,m)):∃ o t x y z i p,op.op = .binOp o t x y z/\((o = .eql/\ng=true)\/(o = .neq/\ng=false))/\op.dst=some d/\cC all op st=some true/\Nat.blt d I.nt=true/\I.ti t=some i/\(∃ e,i.und = .sl e) /\
  ev st x=some p/\((∃ f,p = .t (.sl m f))\/(m=0/\∃ o,p = .own o))/\ev st y=some .nil:=by
 unfold aRH at h;grind
theorem aNL(hG:hJ P E I){all l:List Oper}{op:Oper}{d e len:Nat}{j:dT}{c:List PV}{ts:List T}(h:bsI I all op st=some (d,e,j,len,c))(hts:Av c ts)
  (hk:eV P E all Q l (st.put d (.t (.sl len (jJ ts j.size))))):eV P E all Q (op::l) st:=by
 obtain⟨t,parts,i,ps,h1,h2,h3,h4,h5,h6,h7,h8,h9,h10,h11,h12,h13⟩:=aPS h;refine eQ rfl h3 fun F g a w r=>?_;have hte:=(hG.ti _ _ h5).und;rw[h6]at hte;obtain⟨u,w',F',e1,e2⟩:=rX (P:=P) (d:=d) hG.nt r hte (hG.ti _ _ h7) h8 h9 h10 h11 h12 hts h13 (by simp_all);exact⟨_,u,w',_,by unfold execOp; simp[h1,e1],.inl rfl,by rw[h2]; exact⟨F',g,e2⟩,hk⟩
theorem aNM(hG:hJ P E I){all l:List Oper}{op:Oper}{d e len:Nat}{j:dT}{c:List PV}{ts:List T}(h:bsI I all op st=some (d,e,j,len,c))(hts:Av c ts)
  (hn:gL I st d (.arr e j.size len (jJ ts j.size)) (.own d)=some st')(hk:eV P E all Q l st'):eV P E all Q (op::l) st:=by
 obtain⟨t,parts,i,ps,h1,h2,h3,h4,h5,h6,h7,h8,h9,h10,h11,h12,h13⟩:=aPS h;refine eQ rfl h3 fun F g a w r=>?_;have hte:=(hG.ti _ _ h5).und;rw[h6]at hte;obtain⟨u,w',e1,e2⟩:=oY (P:=P) (d:=d) hG.N hG.nt r hte (hG.ti _ _ h7) h8 h9 h10 h11 h12 hts h13 hn;exact⟨_,u,w',_,by unfold execOp; simp[h1,e1],.inl rfl,by simp_all,hk⟩
theorem aIG(hG:hJ P E I){all l:List Oper}{op:Oper}{d m:Nat}{ng:Bool}(h:aRH I all op st=some (d,ng,m))(h1:m=0->eV P E all Q l (st.put d (.t (.bool ng))))(h0:eV P E all Q l (st.put d (.t (.bool (!ng))))):eV P E all Q (op::l) st:=by
 obtain⟨o,t,x,y,z,i,p,e1,e2,e3,e4,e5,e6,⟨e,e7⟩,e8,e9,e10⟩:=aVU h;refine eQ rfl e4 fun F g a w r=>?_;have hd':d<E.nt:=by rw[hG.nt]; simp_all
 have hte:=(hG.ti _ _ e6).und;rw[e7]at hte;have hx:=bV r e8;have hy:=bV r e10;obtain⟨u,hu⟩:∃ u,a.eval x=u:=⟨_,rfl⟩;obtain⟨v,hv⟩:∃ u,a.eval y=u:=⟨_,rfl⟩;rw[hu]at hx; rw[hv]at hy;have hs:∃ ad n c,u = .slice ad n c/\(ad.isNone=true->m=0):=by
  rcases e9 with⟨f,rfl⟩ | ⟨h00,o,rfl⟩
  ·cases hx with
   | t hx=>cases hx with
    | nil hv=>exact⟨_,_,_,rfl,fun _=>by injection hv with hv; injection hv⟩
    | sl=>simp_all
  ·cases hx with
   | own=>simp_all
 obtain⟨ad,n,c,rfl,hm⟩:=hs;cases hy;have hq:=run_equal_slice_nil (P:=P) w t e ad n c hte;have hres:(binOp o t (.slice ad n c) (.slice none 0 0)).run P w = .ok (.bool (if ad.isNone then ng else !ng)) w:=by
  rcases e2 with⟨rfl,rfl⟩ | ⟨rfl,rfl⟩
  ·cases ad <;> simp[binOp,hq]
  ·cases ad <;> simp[binOp,hq]
 have hg:(eqGuard o t x y (.slice ad n c) (.slice none 0 0)).run P w = .ok () w:=by unfold eqGuard; cases o <;> simp
 have hex:(execOp a.eval op).run P w = .ok (.value (.bool (if ad.isNone then ng else !ng))) w:=by unfold execOp;simp_all
 cases had:ad.isNone with
 | true=>rw[had]at hex;exact⟨_,_,w,_,hex,.inl rfl,by rw[e3]; exact⟨F,g,r.put hd' (.t (.bool _))⟩,h1 (hm had)⟩
 | false=>rw[had]at hex;exact⟨_,_,w,_,hex,.inl rfl,by rw[e3]; exact⟨F,g,r.put hd' (.t (.bool _))⟩,h0⟩
theorem Qn{xs:Array Operand}{l:List Operand}(h:xs.toList=l):xs=l.toArray:=by rw[<-h]
end
def Nx(f:Nat->List T)(l:Nat)(zs:List T):Nat->List T:=fun i=>if i<l then f i else zs
section
variable {P:Program} {E:Env} {I:Inf} {Q:iI} {st st':St} {F:Nat->Prop} {g:Nat->Value} {a:Act} {w:World}
theorem wI(r:cJ E F g st a w){t e:TypeId}{j:dT}(ht:P.underlying t=some (.slice e))(hj:TOk P e j){ad:Option Addr}{n cap:Nat}(hcap:n<=cap)
  {lo hi:Option Operand}{l h:Int}(hl:fV st 0 lo=some l)(hh:fV st n hi=some h)(hc:0<=l/\l<=h/\h<=(n:Int)):
  (Instr.sliceAt t (.slice ad n cap) (lo.map a.eval) (hi.map a.eval) none).run P w = .ok (.slice (if cap=l.toNat then ad else ad.map (·.add (l.toNat*j.size))) (h.toNat-l.toNat) (cap-l.toNat)) w:=by
 obtain⟨h1,h2,h3⟩:=hc;have e:(Instr.sliceAt t (.slice ad n cap) (lo.map a.eval) (hi.map a.eval) none).run P w=(Instr.slice t (.slice ad n cap) (lo.map a.eval) (hi.map a.eval) none).run P w:=by simp[Instr.sliceAt,run_underlying ht]
 have hb:(Instr.sliceBounds true n cap (lo.map a.eval) (hi.map a.eval) none).run P w = .ok (l.toNat,h.toNat,cap) w:=by
  unfold Instr.sliceBounds;rcases kB r hl with⟨rfl,rfl⟩ | ⟨y,k,rfl,hy⟩ <;> rcases kB r hh with⟨rfl,rfl⟩ | ⟨y',k',rfl,hy'⟩
  ·simp
  ·simp[hy',cL (P:=P) (w:=w) (k:=k') (n:=h) (y:=cap) ⟨by omega,by omega⟩]
  ·simp[hy,cL (P:=P) (w:=w) (k:=k) (n:=l) (y:=n) ⟨h1,by omega⟩]
  ·simp[hy,hy',cL (P:=P) (w:=w) (k:=k') (n:=h) (y:=cap) ⟨by omega,by omega⟩,cL (P:=P) (w:=w) (k:=k) (n:=l) (y:=h.toNat) ⟨h1,by omega⟩]
 rw[e];simp[Instr.slice,run_underlying ht,hb,run_sizeOf hj]
theorem cJ.erase(r:cJ E F g st a w){o:Nat}{st1:St}(he:st.erase o=some st1):cJ E F g st1 a w:=
 ⟨r.nt,r.df,fun t y hy=>r.fr t y (St.erase_fr he t y hy).1,⟨⟨fun k y hy=>by
   obtain⟨x,h1,_,_,h4,_⟩:=St.erase_hp he k y hy; exact h4 _ _ _ (r.w.hp.obj k x h1),fun k y b hy hb=>by
   obtain⟨x,h1,_,_,_,h5⟩:=St.erase_hp he k y hy; exact r.w.hp.own k x b h1 (h5 _ _ _ hb),fun k y k' y' b hy hy' hne hb hb'=>by
   obtain⟨x,h1,_,_,_,h5⟩:=St.erase_hp he k y hy; obtain⟨x',h1',_,_,_,h5'⟩:=St.erase_hp he k' y' hy'; exact r.w.hp.sep k x k' x' b h1 h1' hne (h5 _ _ _ hb) (h5' _ _ _ hb')⟩,
   r.w.f0,r.w.f1,r.w.ext,r.w.names,r.w.b0⟩⟩
theorem cJ.obj0(r:cJ E F g st a w){o:Nat}{x y:bF}(hl:look st.hp o=some x)(hxy:∀ F g w,dN F g w o x->dN F g w o y)(hy:y.plain=true:=by rfl):cJ E F g { st with hp:=(o,y)::del o st.hp } a w:=by
 have hlm:=aU hl;have old:∀ k z b,(k,z)∈(o,y)::del o st.hp->bD g w k z b->∃ z',(k,z')∈st.hp/\bD g w k z' b:=by
  intro k z b hz hb;rcases bH.1 hz with e | hz
  ·cases e; exact⟨x,hlm,.self (hb.toBlk hy)⟩
  ·exact⟨z,(bC.1 hz).1,hb⟩
 refine⟨r.nt,r.df,r.fr,⟨⟨fun k z hz=>?_,fun k z b hz hb=>?_,fun k z k' z' b hz hz' hne hb hb'=>?_⟩,r.w.f0,r.w.f1,r.w.ext,r.w.names,r.w.b0⟩⟩
 ·rcases bH.1 hz with e | hz
  ·cases e; exact hxy _ _ _ (r.w.hp.obj _ _ hlm)
  ·exact r.w.hp.obj k z (bC.1 hz).1
 ·obtain⟨z',h1,h2⟩:=old k z b hz hb; exact r.w.hp.own k z' b h1 h2
 ·obtain⟨u,h1,h2⟩:=old k z b hz hb;obtain⟨u',h1',h2'⟩:=old k' z' b hz' hb';exact r.w.hp.sep k u k' u' b h1 h1' hne h2 h2'
theorem aPJ(hG:hJ P E I){ops l:List Oper}{o:Oper}{rest:List Oper}{t:TypeId}{x:Operand}{lo hi:Option Operand}{d q e e' s n:Nat}{f:Nat->List T}{h:Int}{i j:dT}(hl:l=o::rest)(hop:o.op = .slice t x lo hi none)
  (hd:o.dst=some d)(hw:cC ops o st=some true)(hx:ev st x=some (.own q))(hq:look st.hp q=some (.arr e s n f))(hlo:fV st 0 lo=some 0)(hhi:fV st n hi=some h)(hi:I.ti t=some i)(hu:i.und = .sl e')(hj:I.ti e'=some j)
  (hc:0<=h/\h<=(n:Int)){st1:St}(he:st.erase q=some st1)(hn:gL I st1 d (.arr e s h.toNat f) (.own d)=some st')(hk:eV P E ops Q rest st'):eV P E ops Q l st:=by
 refine eQ hl hw fun F g a w r=>?_;have hte:=(hG.ti _ _ hi).und;rw[hu]at hte;have hxv:=bV r hx;obtain⟨u,hue⟩:∃ u,a.eval x=u:=⟨_,rfl⟩;rw[hue]at hxv;have hob:=r.w.hp.obj _ _ (aU hq);cases hxv with
 | @own _ n' cap ad hg=>
  have hcap:n'=n/\n<=cap:=by
   rcases hob with⟨h1,h2⟩ | ⟨b,cap',cur,h1,_,h3,_⟩
   all_goals grind
  obtain⟨rfl,hcap⟩:=hcap;have hrun:=wI (P:=P) r hte (hG.ti _ _ hj) (ad:=ad) hcap hlo hhi ⟨by omega,by omega,hc.2⟩;have had:(if cap=(0:Int).toNat then ad else ad.map (·.add ((0:Int).toNat*j.size)))=ad:=by
   split
   ·rfl
   ·cases ad with
    | none=>rfl
    | some ad=>simp[Addr.add]
  rw[had]at hrun;simp only[Jt,Nat.sub_zero]at hrun;have hex:(execOp a.eval o).run P w = .ok (.value (.slice ad h.toNat cap)) w:=by unfold execOp;simp_all
  refine⟨_,_,w,st',hex,.inl rfl,?_,hk⟩;rw[hd];have r1:=r.erase he;unfold gL at hn;split at hn
  ·rename_i st2 g1 g2 g3;cases hn;have hd':d<E.nt:=by rw[hG.nt]; simp_all
   have hlm:=aU hq;have hblk:∀ b,blk (.slice ad h.toNat cap)=some b->blk (g q)=some b:=by
    intro b hb;rw[hg];cases ad with
    | none=>cases hb
    | some ad=>exact hb
   refine⟨F,upd g d (.slice ad h.toNat cap),r1.putW hd' (fun b hb=>⟨hb,rfl⟩) (fun t y hy=>?_) ?_ (.own (bM ..))⟩
   ·obtain⟨e1,e2⟩:=St.erase_fr g3 t y hy;exact⟨e1,fun o ho=>bR g _ (e2 o ho)⟩
   ·have hdis:∀ k y b,(k,y)∈st1.hp->bD g w k y b->blk (.slice ad h.toNat cap)=some b->False:=by intro k y b hy hb hb';obtain⟨x,hx1,hx2,_,_,hx5⟩:=St.erase_hp he k y hy;exact r.w.hp.sep k x q _ b hx1 hlm hx2 (hx5 _ _ _ hb) (.self (hblk b hb'))
    have hself:∀ b,bD (upd g d (.slice ad h.toNat cap)) w d (.arr e s h.toNat f) b->blk (.slice ad h.toNat cap)=some b:=by
     intro b hb;have:=hb.toBlk rfl
     rwa [bM]at this
    refine⟨HpR.change r1.w.hp g3 (fun o ho=>bR g _ ho) (fun b hb=>⟨hb,rfl⟩) (fun _ h=>h) (fun _ _ _ _ _ _=>rfl) ?_ (fun b hb=>?_) (fun k y b hk hne hb hb'=>hdis k y b hk hb (hself b hb')),r.w.f0,r.w.f1,r.w.ext,fun k hk=>?_,r.w.b0⟩
    ·simp only[dN,bM];rcases hob with⟨h1,h2⟩ | ⟨b,cap',cur,h1,h2,h3,h4,h5,h6,h7⟩
     ·rw[hg]at h1;injection h1 with h1 h8 h9;subst h1;have:h.toNat=0:=by omega
      rw[this,h9];exact .inl ⟨rfl,rfl⟩
     ·rw[hg]at h1;injection h1 with h1 h8 h9;subst h1 h9;exact .inr ⟨b,cap,cur,rfl,h2,by omega,h4,h5,fun i hi=>h6 i (by omega),fun i k x hi hx=>h7 i k x (by omega) hx⟩
    ·exact r.w.hp.own q _ b hlm (.self (hblk b (hself b hb)))
    ·have hne:k≠d:=by intro e1;have:=fA g2;rw[<-hG.N]at this;simp_all
     rw[bR g _ hne];exact r.w.names k hk
  ·cases hn
theorem aSH(hG:hJ P E I){ops l:List Oper}{o1 o2:Oper}{rest:List Oper}{t t2:TypeId}{x:Operand}{lo:Option Operand}{c:Call}{d q e e' s n:Nat}{f:Nat->List T}{lv:Int}{i j:dT}{zs:List T}(hl:l=o1::o2::rest)
  (hop:o1.op = .slice t x lo none none)(hd:o1.dst=some d)(hw:cC ops o1 st=some true)(hop2:o2.op = .call c)(hcal:c.callee = .builtin .clear)(hargs:c.args=#[.tmp d])(hat:c.argTypes[0]? = some t2)(ht2:t2=t)(hg2:o2.guard=none)(hd2:o2.dst=none)
  (hnt:Nat.blt d I.nt=true)(hx:ev st x=some (.own q))(hq:look st.hp q=some (.arr e s n f))(hlo:fV st 0 lo=some lv)(hi:I.ti t=some i)(hu:i.und = .sl e')(hj:I.ti e'=some j)(hs:j.size=s)(hs1:1<=s)(hz:j.zero.length=j.size)
  (hz1:j.zero.all PV.one=true)(hzs:Av j.zero zs)(hc:0<=lv/\lv<=(n:Int))(hk:eV P E ops Q rest (({ st with hp:=(q,.arr e s n (Nx f lv.toNat zs))::del q st.hp }:St).put d .any)):eV P E ops Q l st:=by
 subst hl;rintro a w ⟨F,g,r⟩;have hd':d<E.nt:=by rw[hG.nt]; simp_all
 have hte:=(hG.ti _ _ hi).und;rw[hu]at hte;have hxv:=bV r hx;obtain⟨u,hue⟩:∃ u,a.eval x=u:=⟨_,rfl⟩;rw[hue]at hxv;have hlm:=aU hq;have hob:=r.w.hp.obj _ _ hlm;cases hxv with
 | @own _ n' cap ad hg=>
  have hcap:n'=n/\n<=cap:=by
   rcases hob with⟨h1,h2⟩ | ⟨b,cap',cur,h1,_,h3,_⟩
   all_goals grind
  obtain⟨rfl,hcap⟩:=hcap;have hrun:=wI (P:=P) (hi:=none) (h:=(n':Int)) r hte (hG.ti _ _ hj) (ad:=ad) hcap hlo rfl ⟨hc.1,hc.2,Int.le_refl _⟩;obtain⟨v1,hv1⟩:∃ v1,v1=Value.slice (if cap=lv.toNat then ad else ad.map (·.add (lv.toNat*j.size))) ((n':Int).toNat-lv.toNat) (cap-lv.toNat):=⟨_,rfl⟩;rw[<-hv1]at hrun;have hex:(execOp a.eval o1).run P w = .ok (.value v1) w:=by unfold execOp;simp_all
  refine wpList_step fun K hK=>?_;rw[aB (iY (ops:=ops.toArray) r (by omega))];unfold Oper.wp;rw[hex];simp only[Oper.upon];refine hK _ _ ?_;rw[hd];have hev:(a.put (some d) v1).eval (.tmp d)=v1:=by simp only[Act.eval];exact Act.put_same a d v1 (by rw[r.nt]; exact hd')
  have key:∃ w2,(Builtin.clear_ c.argTypes o2.type #[v1]).run P w = .ok (.tuple #[]) w2/\cJ E F g { st with hp:=(q,.arr e s n' (Nx f lv.toNat zs))::del q st.hp } a w2:=by
   by_cases h0:(n':Int).toNat-lv.toNat=0
   ·refine⟨w,?_,r.obj0 hq (fun F g w h=>?_)⟩
    ·rw[hv1,h0];generalize (if cap=lv.toNat then ad else ad.map (·.add (lv.toNat*j.size)))=A;unfold Builtin.clear_;cases A <;> simp[hat,ht2,run_underlying hte]
    ·refine dN.row rfl (fun k hk=>?_) h;simp only[Nx];rw[aB (by omega)]
   ·rcases hob with⟨h1,h2⟩ | ⟨b,cap',cur,h1,h2,h3,h4,h5,h6,h7⟩
    ·omega
    ·rw[hg]at h1;injection h1 with h1 h8 h9;subst h1 h9;obtain⟨info,z,hi1,hi2,hi3,hi4,hi5⟩:=mX (hG.ti _ _ hj) ((n' - lv.toNat)*j.size) hz (by omega);have hzc:(Builtin.zeroCells z.cells (n' - lv.toNat))=(Array.range ((n' - lv.toNat)*j.size)).map (z.cells[· % z.cells.size]!):=by unfold Builtin.zeroCells;rw[hi4]
     obtain⟨vs,hvs⟩:∃ vs,vs=(Builtin.zeroCells z.cells (n' - lv.toNat)).toList:=⟨_,rfl⟩;have hlen:vs.length=(n' - lv.toNat)*j.size:=by simp_all
     have hmul:lv.toNat*s+(n' - lv.toNat)*s=n'*s:=by rw[<-kO]; simp_all
     have hle:n'*s<=cap*s:=iU _ h3;have hfit:lv.toNat*j.size+0+vs.length<=cur.size:=by simp_all
     have hcell:∀ k,k<(n' - lv.toNat)*s->∃ v x,vs[k]? = some v/\(fR j ((n' - lv.toNat)*j.size))[k]? = some x/\VR F g w x v:=by
      intro k hk;have hk':k<vs.length:=by simp_all
      have hkz:k<(fR j ((n' - lv.toNat)*j.size)).length:=by simp[fR,hs,hk]
      grind
     have hzero:∀ k x,(fR j ((n' - lv.toNat)*j.size))[k]? = some x->j.zero[k % s]? = some x:=by
      intro k x hx;simp only[fR,iJ]at hx;have hk:k<(n' - lv.toNat)*j.size:=by grind
      rw[List.getElem?_range hk]at hx;simp only[wG,iC]at hx;have hkm:k % j.zero.length<j.zero.length:=Nat.mod_lt _ (by omega);rw[eU,jK hkm]at hx;simp only[zO]at hx;rw[<-hx,<-hs,<-hz,jK hkm]
     have hone:∀ v,v∈vs->v.oneCell'=true:=by intro v hv;obtain⟨k,hk,hkv⟩:=sS.1 hv;obtain⟨v',x,e1,e2,e3⟩:=hcell k (by grind);rw[jK hk,hkv]at e1;cases e1;exact e3.one (iL.1 hz1 x (kA (hzero k x e2)))
     have hst:=run_storeCells_at (P:=P) b (lv.toNat*j.size) e vs 0 cur w h2 hfit hone;simp only[Cg]at hst;have hne:¬ cap=lv.toNat:=by omega
     refine⟨_,?_,r.write (cs:=(cur.toList.take (lv.toNat*j.size)++vs++cur.toList.drop (lv.toNat*j.size+vs.length)).toArray) hlm (by rw[hg]; rfl) h2 ?_⟩
     ·rw[hv1,aF hne];unfold Builtin.clear_;obtain⟨m,hm⟩:∃ m,(n':Int).toNat-lv.toNat=m+1:=⟨(n':Int).toNat-lv.toNat-1,by omega⟩;have hm':n' - lv.toNat=m+1:=by omega
      rw[hm];rw[hm']at hvs;simp[hat,ht2,run_underlying hte,iM hi1 hi2,Addr.add_none,<-hvs,hst]
     ·have hFb:=(r.w.hp.own q _ b hlm (.self (by rw[hg]; rfl))).1;have hF:=zJ (F:=F) (w:=w) (cs:=(cur.toList.take (lv.toNat*j.size)++vs++cur.toList.drop (lv.toNat*j.size+vs.length)).toArray) hFb;refine mL.obj (b:=b) (cap:=cap) ⟨fun k hk=>?_,fun k m x hk hx=>?_⟩ hg (setRow_heap w b cur _ e _ h2) h3 h4 ?_
      ·simp only[Nx];split
       ·exact h6 k hk
       ·rw[hzs.1,hz,hs]
      ·have hms:m<s:=by
        have:=(Bq.1 hx).1;simp only[Nx]at this;split at this
        ·simp_all
        ·rw[hzs.1,hz,hs]at this; omega
       have hkm:k*s+m<n'*s:=by
        calc k*s+m<k*s+s:=by omega
         _=(k+1)*s:=by rw[Nat.succ_mul]
         _<=n'*s:=iU _ hk
       simp only[Em,cT];simp only[Nx]at hx;split at hx
       ·rename_i hkl;have hlt:k*s+m<lv.toNat*j.size:=by
         rw[hs]
         calc k*s+m<k*s+s:=by omega
          _=(k+1)*s:=by rw[Nat.succ_mul]
          _<=lv.toNat*s:=iU _ hkl
        obtain⟨v,hv,hr⟩:=h7 k m x hk hx;refine⟨v,?_,by have:=hr.mono hF; simp_all⟩;grind
       ·rename_i hkl;have hge:lv.toNat*s<=k*s:=iU _ (by omega);obtain⟨v,y,e1,e2,e3⟩:=hcell (k*s+m-lv.toNat*s) (by omega);have hmod:(k*s+m-lv.toNat*s) % s=m:=by
         have:k*s+m-lv.toNat*s=(k-lv.toNat)*s+m:=by rw[Nat.sub_mul]; omega
         rw[this,Nat.mul_comm,Nat.mul_add_mod,Cq hms]
        have hy:=hzero _ _ e2;rw[hmod]at hy;refine⟨v,?_,?_⟩
        ·rw[nJ (by grind),pZ (by grind)];simp only[gO,uE];grind
        ·have:=((hzs.2 m y x hy hx _ _ _ _ e3).cells_t rfl).mono hF;simp_all
      grind
  obtain⟨w2,hr2,hrel⟩:=key;refine wpList_step fun K2 hK2=>?_;rw[aB (by simp[Region.wanted,hg2])];have hex2:(execOp (a.put (some d) v1).eval o2).run P w = .ok (.value (.tuple #[])) w2:=by unfold execOp;simp[hop2,resolve,hcal,invoke,hargs,hev,builtin,hr2]
  unfold Oper.wp;rw[hex2];simp only[Oper.upon];refine hK2 _ _ (hk _ _ ⟨F,g,?_⟩);rw[hd2];exact hrel.put hd' (.any (by rw[hv1]; rfl))
theorem bBL{all:List Oper}{op:Oper}{d e:Nat}{j:dT}{k:Int}(h:aVY I all op st=some (d,e,j,k)):
  ∃ s x t t' i i' kk,op.op = .call ⟨.builtin .append,#[s,x],#[t,t']⟩/\op.dst=some d/\cC all op st=some true/\I.ti t=some i/\I.ti t'=some i'/\i.und = .sl e/\i'.und = .int kk/\I.ti e=some j /\
   ev st s=some .nil/\ev st x=some (.t (.int .i64 k))/\1<=j.size/\1<=j.bytes/\j.zero.length=j.size:=by
 unfold aVY at h;split at h
 case h_2=>cases h
 rename_i c d' e1 e2 e3;split at h
 case h_2=>cases h
 rename_i s x t t' e4 e5 e6;split at h
 case h_2=>cases h
 rename_i i i' k' e7 e8 e9 e10;split at h
 case h_2=>cases h
 rename_i e' kk e11 e12;split at h
 case h_2=>cases h
 rename_i j' e13;split at h
 case h_2=>cases h
 rename_i e14;cases h;obtain⟨cal,args,ats⟩:=c;simp only at e4 e5 e6;have ha':args=#[s,x]:=by rw[<-nQ (xs:=args),e5]
 have ht':ats=#[t,t']:=by rw[<-nQ (xs:=ats),e6]
 subst ha'; subst ht'; subst e4;simp only[dH]at e14;exact⟨s,x,t,t',i,i',kk,e1,e2,e3,e7,e8,e11,e12,e13,e9,e10,fY e14.1,fY e14.2.1,bX e14.2.2⟩
theorem aOU(hG:hJ P E I){all l:List Oper}{op:Oper}{d e:Nat}{j:dT}{k:Int}{ts:List T}(h:aVY I all op st=some (d,e,j,k))(hts:Av j.zero ts)(hk0:0<=k)(hb:k.toNat*j.bytes<=140737488355328)
  (hn:gL I st d (.arr e j.size k.toNat (fun _=>ts)) (.own d)=some st')(hk:eV P E all Q l st'):eV P E all Q (op::l) st:=by
 obtain⟨s,x,t,t',i,i',kk,h1,h2,h3,h4,h5,h6,h7,h8,h9,h10,h11,h12,h13⟩:=bBL h;refine eQ rfl h3 fun F g a w r=>?_;have hte:=(hG.ti _ _ h4).und;rw[h6]at hte;have hti:=(hG.ti _ _ h5).und;rw[h7]at hti;obtain⟨info,z,hi1,hi2,hi3,hi4,hi5⟩:=mX (hG.ti _ _ h8) (k.toNat*j.size) h13 h11;obtain⟨info',hi1',hi6,hi7,_⟩:=(hG.ti _ _ h8).info;rw[hi1]at hi1'; cases hi1';obtain⟨u,hu⟩:∃ u,a.eval s=u:=⟨_,rfl⟩;have hv:=bV r h9;rw[hu]at hv;cases hv;have hx:=(bV r h10).inv_int;have hm63:k.toNat<=140737488355328:=gQ (Ec k.toNat h12) hb;have hwr:IntKind.i64.wrap k=k:=by simp only[IntKind.wrap,IntKind.bits,IntKind.signed]; simp; omega
 have hzc:z.cells.size=j.size:=hi4
 suffices hmain:∃ u w',(Builtin.append_ #[t,t'] op.type #[a.eval s,a.eval x]).run P w = .ok u w'/\Rel E st' (a.put (some d) u) w' by obtain⟨u,w',e1,e2⟩:=hmain;exact⟨_,u,w',_,by unfold execOp; simp[h1,resolve,invoke,builtin,e1],.inl rfl,by simp_all,hk⟩
 by_cases h0:k.toNat=0
 ·have hk00:k=0:=by omega
  subst hk00;have hrun:(Builtin.append_ #[t,t'] op.type #[a.eval s,a.eval x]).run P w = .ok (.slice none 0 0) w:=by rw[hu,hx];have e0:IntKind.i64.wrap 0=0:=hwr;clear hwr hx hu;simp[Builtin.append_,run_underlying hte,run_underlying hti,sizeOf,typeInfo,hi1,asInt,asIntOf,e0]
  refine⟨.slice none 0 0,w,hrun,?_⟩;unfold gL at hn;split at hn
  ·rename_i st1 g1 g2 g3;cases hn;have hd':d<E.nt:=by rw[hG.nt]; simp_all
   refine⟨F,upd g d (.slice none 0 0),r.putW hd' (fun b hb=>⟨hb,rfl⟩) (fun t y hy=>?_) ?_ (.own (bM ..))⟩
   ·obtain⟨e1,e2⟩:=St.erase_fr g3 t y hy;exact⟨e1,fun o ho=>bR g _ (e2 o ho)⟩
   ·refine⟨HpR.change r.w.hp g3 (fun o ho=>bR g _ ho) (fun b hb=>⟨hb,rfl⟩) (fun _ h=>h) (fun _ _ _ _ _ _=>rfl) (.inl ⟨bM ..,rfl⟩)
     (fun b hb=>by have hb:=hb.toBlk rfl; rw[bM]at hb; simp[blk]at hb) (fun o y b _ _ _ hb=>by have hb:=hb.toBlk rfl; rw[bM]at hb; simp[blk]at hb),r.w.f0,r.w.f1,r.w.ext,fun o ho=>?_,r.w.b0⟩
    rw[bR g _ (fun e:o=d=>fA g2 (hG.N▸e▸ho))];exact r.w.names o ho
  ·cases hn
 ·have hb1:1<=k.toNat:=by omega
  have hneg:¬ k<0:=by omega
  have h48:¬ (281474976710656<k*(info.bytes:Int)):=by grind
  have hsz0:¬ (k.toNat*j.size=0):=by
   intro h;rcases Nat.mul_eq_zero.1 h with h | h
   ·exact h0 h
   ·omega
  have h63:¬ (9223372036854775807<(k.toNat:Int)):=by omega
  have h60:¬ k<=0:=by omega
  have h61:¬ (9223372036854775807<max k 0):=by omega
  have h48':¬ (281474976710656<Builtin.nextslicecap k.toNat 0*info.bytes):=by rw[nextslicecap_zero hb1,hi7]; omega
  have hrun:(Builtin.append_ #[t,t'] op.type #[a.eval s,a.eval x]).run P w = .ok (.slice (some ⟨w.heap.size,0,none⟩) k.toNat (grownCap w k.toNat 0 e))
    (w.drew.alloc (.cells (Builtin.zeroCells z.cells k.toNat++Builtin.zeroCells z.cells (grownCap w k.toNat 0 e-k.toNat)) e)):=by
   rw[hu,hx];simp[Builtin.append_,run_underlying hte,run_underlying hti,sizeOf,typeInfo,zeroValue,hi1,hi2,asInt,asIntOf,hwr,hneg,h48,hsz0,h60,h61,h48',Question.forced,newRow,grownCap,Builtin.firstCells,hi6]
  have hcap:=grownCap_ge w k.toNat 0 e;have hcapm:=grownCap_le_maxLen w k.toNat 0 e (by simp only[maxLen]; omega);have hrel:Rel E st' (a.put (some d) (.slice (some ⟨w.heap.size,0,none⟩) k.toNat (grownCap w k.toNat 0 e))) (w.drew.alloc (.cells (Builtin.zeroCells z.cells k.toNat++Builtin.zeroCells z.cells (grownCap w k.toNat 0 e-k.toNat)) e)):=by
   refine oH hG.N hG.nt r hn rfl rfl rfl rfl rfl (fun g' _ hv=>?_) (fun g' hv=>.own hv);refine mL.obj ⟨fun i hi=>by rw[hts.1,h13],fun i q y hi hy=>?_⟩ hv (heap_alloc_new w.drew _) hcap hcapm ?_
   ·have hq:q<j.size:=by rw[<-h13,<-hts.1]; grind
    have hlt:i*j.size+q<k.toNat*j.size:=by have:(i+1)*j.size<=k.toNat*j.size:=iU _ hi;grind
    have hmod:(i*j.size+q) % j.size=q:=by rw[Nat.mul_comm,Nat.mul_add_mod,Cq hq]
    have hlz:q<z.cells.size:=by omega
    refine⟨z.cells[q],?_,?_⟩
    ·rw[aCC (by simp only[size_zeroCells,hzc]; exact hlt)];simp only[Builtin.zeroCells,hzc,Array.getElem?_map];simp_all
    ·have h2:=hi5 F g w (i*j.size+q) (j.zero[q]'(by omega)) z.cells[q] (by
      simp only[fR,iJ,h13];simp_all) (by
      simp_all)
     have h3:=hts.2 q (j.zero[q]'(by omega)) y (by simp_all) hy _ _ _ _ h2;have hh:∀ b,F b->F b/\(w.drew.alloc (.cells (Builtin.zeroCells z.cells k.toNat++Builtin.zeroCells z.cells (grownCap w k.toNat 0 e-k.toNat)) e)).heap[b]? = w.heap[b]?:=fun b hb=>⟨hb,heap_alloc_old w.drew _ (r.w.f1 b hb).1⟩;exact(h3.cells_t rfl).mono hh
   ·simp only[Cr,size_zeroCells,hzc,<-kO];simp_all
  grind
theorem aWE{all:List Oper}{op:Oper}{d e:Nat}{j:dT}{lv cv:Int}(h:aUV I all op st=some (d,e,j,lv,cv)):
  ∃ t l c i,op.op = .makeSlice t l c/\op.dst=some d/\cC all op st=some true/\I.ti t=some i/\i.und = .sl e/\I.ti e=some j /\
   ev st l=some (.t (.int .i64 lv))/\ev st c=some (.t (.int .i64 cv))/\1<=j.size/\1<=j.bytes/\j.zero.length=j.size:=by
 unfold aUV at h;split at h
 case h_2=>cases h
 rename_i t l c d' e1 e2 e3;split at h
 case h_2=>cases h
 rename_i i lv' cv' e4 e5 e6;split at h
 case h_2=>cases h
 rename_i e' e7;split at h
 case h_2=>cases h
 rename_i j' e8;split at h
 case h_2=>cases h
 rename_i e9;cases h;simp only[dH]at e9;exact⟨t,l,c,i,e1,e2,e3,e4,e7,e8,e5,e6,fY e9.1,fY e9.2.1,bX e9.2.2⟩
theorem aMW(hG:hJ P E I){all l:List Oper}{op:Oper}{d e:Nat}{j:dT}{lv cv:Int}{ts:List T}(h:aUV I all op st=some (d,e,j,lv,cv))(hts:Av j.zero ts)(hk0:0<=lv/\lv<=cv)(hb:cv.toNat*j.bytes<=140737488355328)
  (hn:gL I st d (.arr e j.size lv.toNat (fun _=>ts)) (.own d)=some st')(hk:eV P E all Q l st'):eV P E all Q (op::l) st:=by
 obtain⟨t,lo,co,i,h1,h2,h3,h4,h6,h8,h9,h10,h11,h12,h13⟩:=aWE h;refine eQ rfl h3 fun F g a w r=>?_;have hte:=(hG.ti _ _ h4).und;rw[h6]at hte;obtain⟨info,z,hi1,hi2,hi3,hi4,hi5⟩:=mX (hG.ti _ _ h8) (lv.toNat*j.size) h13 h11;obtain⟨info',hi1',hi6,hi7,_⟩:=(hG.ti _ _ h8).info;rw[hi1]at hi1'; cases hi1';have hx:=(bV r h9).inv_int;have hy:=(bV r h10).inv_int;have hm63:cv.toNat<=140737488355328:=gQ (Ec cv.toNat h12) hb;have wl:IntKind.i64.wrap lv=lv:=by simp only[IntKind.wrap,IntKind.bits,IntKind.signed]; simp; omega
 have wc:IntKind.i64.wrap cv=cv:=by simp only[IntKind.wrap,IntKind.bits,IntKind.signed]; simp; omega
 have hzc:z.cells.size=j.size:=hi4;have n1:¬ cv<0:=by omega
 have n2:¬ (281474976710656<(info.bytes:Int)*cv):=by grind
 have n3:¬ lv<0:=by omega
 have n4:¬ cv<lv:=by omega
 have n5:¬ (140737488355328<cv.toNat*info.bytes):=by simp_all
 have hcap:lv.toNat<=cv.toNat:=by omega
 have hrun:(Instr.makeSlice t (.int .i64 lv) (.int .i64 cv)).run P w = .ok (.slice (some ⟨w.heap.size,0,none⟩) lv.toNat cv.toNat)
   (w.alloc (.cells ((Array.range (cv.toNat*j.size)).map fun q=>z.cells[q % j.size]!) e)):=by
  by_cases hz0:cv.toNat*j.size=0
  ·have hz1:cv.toNat*info.size=0:=by simp_all
   simp[Instr.makeSlice,run_underlying hte,asInt,asIntOf,typeInfo,hi1,sizeOf,wl,wc,n1,n2,n3,n4,hz1,hz0,newRow,askRoom,roomBytes];have e0:∀ f:Nat->Value,(Array.range 0).map f=#[]:=fun f=>Jj (by simp);rw[e0,e0]
  ·have hz1:¬ cv.toNat*info.size=0:=by simp_all
   simp[Instr.makeSlice,run_underlying hte,asInt,asIntOf,typeInfo,hi1,sizeOf,zeroValue,hi2,wl,wc,n1,n2,n3,n4,hz0,newRow,askRoom,roomBytes,hi6,hzc]
 suffices hrel:Rel E st' (a.put (some d) (.slice (some ⟨w.heap.size,0,none⟩) lv.toNat cv.toNat)) (w.alloc (.cells ((Array.range (cv.toNat*j.size)).map fun q=>z.cells[q % j.size]!) e)) by exact⟨_,.slice (some ⟨w.heap.size,0,none⟩) lv.toNat cv.toNat,w.alloc (.cells ((Array.range (cv.toNat*j.size)).map fun q=>z.cells[q % j.size]!) e),_,by unfold execOp; simp_all,.inl rfl,by simp_all,hk⟩
 refine oH hG.N hG.nt r hn rfl rfl rfl rfl rfl (fun g' _ hv=>?_) (fun g' hv=>.own hv);refine mL.obj ⟨fun i hi=>by rw[hts.1,h13],fun i q y hi hy'=>?_⟩ hv (heap_alloc_new w _) hcap (by simp only[maxLen]; omega) (by simp);have hq:q<j.size:=by rw[<-h13,<-hts.1]; grind
 have hlt:i*j.size+q<lv.toNat*j.size:=by have:(i+1)*j.size<=lv.toNat*j.size:=iU _ hi;grind
 have hlt':i*j.size+q<cv.toNat*j.size:=Ho hlt (iU _ hcap);have hmod:(i*j.size+q) % j.size=q:=by rw[Nat.mul_comm,Nat.mul_add_mod,Cq hq]
 have hlz:q<z.cells.size:=by omega
 refine⟨z.cells[q],?_,?_⟩
 ·simp_all
 ·have h2:=hi5 F g w (i*j.size+q) (j.zero[q]'(by omega)) z.cells[q] (by
   simp only[fR,iJ,h13];simp_all) (by
   simp_all)
  have h3:=hts.2 q (j.zero[q]'(by omega)) y (by simp_all) hy' _ _ _ _ h2;have hh:∀ b,F b->F b/\(w.alloc (.cells ((Array.range (cv.toNat*j.size)).map fun q=>z.cells[q % j.size]!) e)).heap[b]? = w.heap[b]?:=fun b hb=>⟨hb,heap_alloc_old w _ (r.w.f1 b hb).1⟩;exact(h3.cells_t rfl).mono hh
theorem aPH(hG:hJ P E I){all l:List Oper}{op:Oper}{t d e:Nat}{i:dT}{st1:St}(hop:op.op = .alloc t)(hd:op.dst=some d)(hw:cC all op st=some true)(hnt:Nat.blt d I.nt=true)(hn:pV d I.N=true)
  (hi:I.ti t=some i)(hz:i.zero=[.np,.nil])(he:st.erase d=some st1)(hk:eV P E all Q l ({ st1 with hp:=(d,.bld t e ⟨#[]⟩)::st1.hp }.put d (.ptr d 0))):eV P E all Q (op::l) st:=by
 refine eQ rfl hw fun F g a w r=>?_;have hd':d<E.nt:=by rw[hG.nt]; simp_all
 obtain⟨info,z,h1,h2,h3,h4⟩:=oG (F:=F) (g:=g) (w:=w) (hG.ti _ _ hi);rw[hz]at h3 h4;have h3:z.cells.size=2:=h3;have hc:z.cells=#[.pointer none,.slice none 0 0]:=by
  have e0:z.cells[0]'(by omega) = .pointer none:=by have:=h4 0 .np (z.cells[0]'(by omega)) rfl (by simp);generalize z.cells[0]'(by omega)=u at this;cases this; rfl
  have e1:z.cells[1]'(by omega) = .slice none 0 0:=by have:=h4 1 .nil (z.cells[1]'(by omega)) rfl (by simp);generalize z.cells[1]'(by omega)=u at this;cases this; rfl
  grind
 have hnew:(w.alloc (.cells z.cells t)).heap[w.heap.size]? = some (.cells z.cells t (0,0)):=heap_alloc_new w _;rw[hc]at hnew;obtain⟨g',hg'⟩:=r.allocF (x:=.bld t e ⟨#[]⟩) (v:=.pointer (some ⟨w.heap.size,0,none⟩)) (w':=w.alloc (.cells z.cells t)) (ob:=.cells z.cells t (0,0)) hd' (by rw[hG.N]; exact fA hn) he rfl rfl rfl rfl rfl
  (fun g' b hg hb=>by
   cases hb with
   | self h=>simp_all
   | bld k1 k2 k3=>rw[hg]at k1; injection k1 with k1; injection k1 with k1; injection k1 with k1; subst k1;rw[hc,hnew]at k2; injection k2 with k2; injection k2 with k2; injection k2 with k2; injection k2 with k2 k4; injection k4 with k4; subst k4;simp[blk]at k3)
  (fun g' _ hg=>⟨w.heap.size,.pointer none,.slice none 0 0,hg,by simp_all,.inl rfl,.inl ⟨rfl,rfl⟩⟩)
  (.ptr d 0) (fun g' hg=>.ptr hg)
 have hex:(Instr.alloc t true (.tuple #[])).run P w = .ok (.pointer (some ⟨w.heap.size,0,none⟩)) (w.alloc (.cells z.cells t)):=by simp[Instr.alloc,iM h1 h2,newVar,newRow]
 exact⟨_,.pointer (some ⟨w.heap.size,0,none⟩),w.alloc (.cells z.cells t),_,by unfold execOp; simp_all,.inl rfl,by rw[hd]; exact⟨F,g',hg'⟩,hk⟩
end
end Go.PL
